/- The walks through glob.parse, pieces and Check. Conditions: none. -/
import Derived.Test.YtcgimnokdicmcaaClassW
import Derived.Deep.LoopGhost
namespace Go.Proofs.Ytcgimnokdicmcaa
open Go.RowKit
/-- the cells of a list of pieces -/
def pcsL (l : List Pc) : List Value := l.flatMap fun p => pcL p.any p.set
theorem pcsL_snoc (l : List Pc) (p : Pc) : pcsL (l ++ [p]) = pcsL l ++ pcL p.any p.set := by unfold pcsL; simp
theorem own_any {w : World} {base e n size : Nat} {v : Value} {xs : List Value} (h : w.ownsRow base e size v n xs) : ∃ (g : Option Addr) (c : Nat), v = .slice g n c ∧ ∀ b, v.ownBlock = some b → base ≤ b ∧ b < w.heap.size := by
  rcases h.2 with ⟨rfl, rfl⟩ | ⟨g, cap, cur, rfl, hb, hh, _⟩
  · exact ⟨none, 0, rfl, fun b hb => by cases hb⟩
  · refine ⟨_, cap, rfl, fun b hb' => ?_⟩
    have : g = b := by simpa [Value.ownBlock] using hb'
    subst this
    exact ⟨hb, by
      rcases Nat.lt_or_ge g w.heap.size with h1 | h1
      · exact h1
      · rw [Array.getElem?_eq_none h1] at hh; cases hh⟩
theorem own_keep {w w' : World} {base e n size : Nat} {v : Value} {xs : List Value} (h : w.ownsRow base e size v n xs) (hb : Below w.heap.size w w') : w'.ownsRow base e size v n xs := by
  refine h.kept (row := none) ⟨hb.os, hb.tape, hb.output, hb.size, fun k hk _ => hb.block k hk⟩ ?_
  cases hv : v.ownBlock
  · exact .inl rfl
  · exact .inr (by simp)
theorem clsN_len {f : Nat} {S : List B} {b : Bool} {s : Txt} {x : List B × Txt} (hS : S.length = 4) (h : clsN f S b s = some x) : x.1.length = 4 := by
  induction f generalizing S b s with
  | zero => cases h
  | succ f ih =>
    cases s with
    | nil => cases h
    | cons c s =>
      unfold clsN at h
      split at h
      · split at h
        · injection h with h; subst h; exact hS
        · cases h
      · simp only at h
        split at h
        · cases h
        · exact ih (by rw [setN_len, hS]) h
theorem clsOf_len {s : Txt} {x : List B × Txt} (h : clsOf s = some x) : x.1.length = 4 := by
  unfold clsOf at h
  split at h
  · rw [Option.map_eq_some_iff] at h
    obtain ⟨y, h1, rfl⟩ := h
    have := clsN_len rfl h1
    show (setTurn y.1).length = 4
    unfold setTurn; rw [List.length_map]; exact this
  · exact clsN_len rfl h
theorem prs_step {s0 : Option (List Pc)} {c : UInt8} {l : Txt} {out : List Pc} {q : Pc} {z : Txt} (h : s0 = (prs (c :: l)).map (out ++ ·)) (h1 : onePc c l = some (q, z)) : s0 = (prs z).map ((out ++ [q]) ++ ·) := by
  rw [h, prs_cons, h1]
  show ((prs z).map (q :: ·)).map _ = _
  cases prs z <;> simp
theorem prs_bad {s0 : Option (List Pc)} {c : UInt8} {l : Txt} {out : List Pc} (h : s0 = (prs (c :: l)).map (out ++ ·)) (h1 : onePc c l = none) : s0 = none := by
  rw [h, prs_cons, h1]; rfl
theorem byte_sw (c : UInt8) (n : Nat) (hn : n < 256) : ((c.toNat : Int) == (n : Int)) = decide (c = UInt8.ofNat n) ∧ ((c.toNat : Int) != (n : Int)) = !decide (c = UInt8.ofNat n) := by
  have h1 := byte_eq (c := c) (n := n) hn
  have e1 : ((c.toNat : Int) == (n : Int)) = decide (c = UInt8.ofNat n) := by
    rw [Bool.eq_iff_iff]; simp only [beq_iff_eq, decide_eq_true_eq]
    rw [h1]; omega
  exact ⟨e1, by simp only [bne, e1]⟩
end Go.Proofs.Ytcgimnokdicmcaa
