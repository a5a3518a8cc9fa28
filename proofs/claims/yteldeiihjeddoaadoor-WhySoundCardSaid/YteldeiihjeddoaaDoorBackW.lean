/- The walks through reach.back, Back, Between: the rows the other way. Conditions: the table reads as listed. -/
import Derived.Test.YteldeiihjeddoaaDoorReachClosedW
import Derived.Test.YteldeiihjeddoaaDoorOf
import Derived.RegionTactic
import Derived.ChangeAlike
namespace Go.Proofs.YteldeiihjeddoaaDoor
open Go.RowKit
theorem info_u64 : (Tryd.prog.info? 24).map (fun i => (i.zero, i.size, i.bytes)) = some (some (.int .u64 0), 1, 8) := by kernel_rfl
theorem own_below {w w' : World} {base e n : Nat} {v : Value} {xs : List Value} (h : w.ownsRow base e 1 v n xs) (hb : Below w.heap.size w w') : w'.ownsRow base e 1 v n xs := by
  refine h.kept (row := none) ⟨hb.os, hb.tape, hb.output, hb.size, fun k hk _ => hb.block k hk⟩ ?_
  cases hv : v.ownBlock
  · exact .inl rfl
  · exact .inr (by simp)
/-- what the rows hold when the numbers below i are through, and of row i the first j -/
def BackInv (r cur : List B) (i j : Nat) : Prop :=
  cur.length = r.length ∧ ∀ k a, k < r.length → (has (row cur k) a = true ↔ (a < i ∧ has (row r a) k = true) ∨ (a = i ∧ k ∈ (lst (row r i)).take j))
theorem back_next {r cur : List B} {i j : Nat} (hi : i < r.length) (h64 : r.length ≤ 64) (h : BackInv r cur i j) (hj : j < (lst (row r i)).length) (hv : ∀ i k, has (row r i) k = true → k < r.length) :
    let k := (lst (row r i)).getD j 0
    k < r.length ∧ BackInv r (cur.set k (row cur k ||| 1#64 <<< i)) i (j + 1) := by
  intro k
  have hk : k = (lst (row r i))[j] := by show (lst (row r i)).getD j 0 = _; simp [hj]
  have hkr : k < r.length := hv i k (by rw [hk]; exact mem_lst.1 (List.getElem_mem hj))
  refine ⟨hkr, by rw [List.length_set]; exact h.1, fun m a hm => ?_⟩
  have hset : row (cur.set k (row cur k ||| 1#64 <<< i)) m = if k = m then row cur k ||| 1#64 <<< i else row cur m := by
    unfold row
    rw [List.getD_eq_getElem?_getD, List.getElem?_set]
    by_cases hkm : k = m
    · subst hkm
      have : k < cur.length := by rw [h.1]; exact hkr
      simp [this]
    · simp [hkm]
  have htk : (lst (row r i)).take (j + 1) = (lst (row r i)).take j ++ [k] := by rw [List.take_succ_eq_append_getElem hj, hk]
  rw [hset, htk]
  by_cases hkm : k = m
  · rw [if_pos hkm, has_or, Bool.or_eq_true, h.2 k a hkr, hkm, List.mem_append]
    rcases Nat.lt_or_ge a 64 with ha | ha
    · rw [has_one i a ha]
      simp only [decide_eq_true_eq, List.mem_singleton, ← hkm]
      constructor
      · rintro ((h1 | ⟨h1, h2⟩) | h1)
        · exact .inl h1
        · exact .inr ⟨h1, .inl h2⟩
        · exact .inr ⟨h1, .inr trivial⟩
      · rintro (h1 | ⟨h1, h2 | h2⟩)
        · exact .inl (.inl h1)
        · exact .inl (.inr ⟨h1, h2⟩)
        · exact .inr h1
    · rw [has_ge ha]
      simp only [Bool.false_eq_true, or_false]
      constructor
      · rintro (h1 | ⟨h1, _⟩)
        · exact .inl h1
        · omega
      · rintro (h1 | ⟨h1, _⟩)
        · exact .inl h1
        · omega
  · rw [if_neg hkm, h.2 m a hm, List.mem_append]
    simp only [List.mem_singleton]
    constructor
    · rintro (h1 | ⟨h1, h2⟩)
      · exact .inl h1
      · exact .inr ⟨h1, .inl h2⟩
    · rintro (h1 | ⟨h1, h2 | h2⟩)
      · exact .inl h1
      · exact .inr ⟨h1, h2⟩
      · exact absurd h2.symm hkm
theorem back_row {r cur : List B} {i : Nat} (h : BackInv r cur i (lst (row r i)).length) : BackInv r cur (i + 1) 0 := by
  refine ⟨h.1, fun k a hk => ?_⟩
  rw [h.2 k a hk, List.take_length]
  simp only [List.take_zero, List.not_mem_nil, and_false, or_false]
  rw [mem_lst]
  constructor
  · rintro (⟨h1, h2⟩ | ⟨rfl, h2⟩)
    · exact ⟨by omega, h2⟩
    · exact ⟨by omega, h2⟩
  · rintro ⟨h1, h2⟩
    rcases Nat.lt_or_ge a i with h3 | h3
    · exact .inl ⟨h3, h2⟩
    · have : a = i := by omega
      subst this; exact .inr ⟨rfl, h2⟩
/-- the rows the other way -/
def bk (r : List B) : List B := (List.range r.length).map fun k => ofL ((List.range r.length).filter fun a => has (row r a) k)
theorem bk_len (r : List B) : (bk r).length = r.length := by simp [bk]
theorem has_bk {r : List B} (h64 : r.length ≤ 64) {k a : Nat} : has (row (bk r) k) a = true ↔ k < r.length ∧ has (row r a) k = true := by
  constructor
  · intro h
    have hk : k < r.length := by have := row_lt h; rwa [bk_len] at this
    have e : row (bk r) k = ofL ((List.range r.length).filter fun a => has (row r a) k) := by show (bk r).getD k 0#64 = _; unfold bk; simp [hk]
    rw [e, has_ofL _ _ (has_lt h)] at h
    simp at h
    exact ⟨hk, h.2⟩
  · rintro ⟨hk, h⟩
    have ha := row_lt h
    have e : row (bk r) k = ofL ((List.range r.length).filter fun a => has (row r a) k) := by show (bk r).getD k 0#64 = _; unfold bk; simp [hk]
    rw [e, has_ofL _ _ (by omega)]
    simp [ha, h]
theorem list_ext_row {a b : List B} (hl : a.length = b.length) (h : ∀ k, k < a.length → row a k = row b k) : a = b := by
  apply List.ext_getElem hl
  intro k h1 h2
  have := h k h1
  unfold row at this
  simpa [h1, h2] using this
theorem back_done {r cur : List B} (h64 : r.length ≤ 64) (h : BackInv r cur r.length 0) : cur = bk r := by
  refine list_ext_row (by rw [h.1, bk_len]) fun k hk => eq_of_iff fun a => ?_
  rw [h.1] at hk
  rw [h.2 k a hk, has_bk h64]
  simp only [List.take_zero, List.not_mem_nil, and_false, or_false]
  exact ⟨fun ⟨_, h2⟩ => ⟨hk, h2⟩, fun ⟨_, h2⟩ => ⟨row_lt h2, h2⟩⟩
theorem back_start (r : List B) : BackInv r (List.replicate r.length 0#64) 0 0 := by
  refine ⟨by simp, fun k a hk => ?_⟩
  have : row (List.replicate r.length 0#64) k = 0#64 := by unfold row; simp [hk]
  rw [this, has_zero]; simp
theorem u64s_set (cur : List B) (k : Nat) (x : B) : (u64s cur).set k (.int .u64 (un x : Int)) = u64s (cur.set k x) := by
  unfold u64s; rw [List.map_set]
theorem made_zero (n : Nat) : (madeCells (Value.int .u64 0).cells (n * 1)).toList = u64s (List.replicate n 0#64) := by
  unfold madeCells u64s
  apply List.ext_getElem
  · simp
  · intro i h1 h2
    simp [Value.cells, Nat.mod_one]
    rfl
theorem rows_own {w : World} {base : Nat} {g : Option Addr} {n c : Nat} {r : List B} (h : w.ownsRow base 24 1 (.slice g n c) n (u64s r)) (hl : r.length = n) (hb : n ≤ maxLen) : RowsAt w g n r :=
  ⟨Reads.of_own h, hl, hb⟩
end Go.Proofs.YteldeiihjeddoaaDoor
