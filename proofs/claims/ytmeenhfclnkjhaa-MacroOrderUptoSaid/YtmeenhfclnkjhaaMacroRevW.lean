/- slices.Reverse at macros of the call's own. Conditions: none. -/
import Derived.Test.YtmeenhfclnkjhaaMacroCW
import Derived.RegionTactic
namespace Go.Proofs.Ytmeenhfclnkjhaa
open Go.RowKit Go.Shelf Go.Maps
theorem own_set {w : World} {base size n c g j : Nat} {e : TypeId} {xs : List Value} {u : Value} (h : w.ownsRow base e size (.slice (some ⟨g, 0, none⟩) n c) n xs) :
    (w.setCell ⟨g, j, none⟩ u).ownsRow base e size (.slice (some ⟨g, 0, none⟩) n c) n (xs.set j u) := by
  obtain ⟨h1, h2⟩ := h
  refine ⟨by rw [List.length_set]; exact h1, ?_⟩
  rcases h2 with ⟨h2, _⟩ | ⟨g', cap, cur, e1, hb, hg, hnc, hcm, hcs, htake⟩
  · cases h2
  · injection e1 with e2 e3 e4
    obtain rfl : g = g' := by simpa using e2
    subst e4
    refine .inr ⟨g, c, cur.setIfInBounds j u, rfl, hb, heap_setCell_same w g j cur e u hg, hnc, hcm, by simp [hcs], ?_⟩
    rw [Array.toList_setIfInBounds, List.take_set, htake]
theorem own_ice {w : World} {base size n c g j : Nat} {e : TypeId} {xs : List Value} (h : w.ownsRow base e size (.slice (some ⟨g, 0, none⟩) n c) n xs) : w.frozen? ⟨g, j, none⟩ = false := by
  rcases h.2 with ⟨h2, _⟩ | ⟨g', cap, cur, e1, hb, hg, _⟩
  · cases h2
  · injection e1 with e2 e3 e4
    obtain rfl : g = g' := by simpa using e2
    simp [World.frozen?, hg]
theorem cells2_set {l : List Mac} {k : Nat} (hk : k < l.length) (m : Mac) : ((cells2 mF mG l).set (k * 2) (mF m)).set (k * 2 + 1) (mG m) = cells2 mF mG (l.set k m) := by
  induction l generalizing k with
  | nil => cases hk
  | cons x l ih =>
    cases k with
    | zero => rfl
    | succ k =>
      have e := ih (k := k) (by simpa using hk)
      show ((mF x :: mG x :: cells2 mF mG l).set ((k + 1) * 2) (mF m)).set ((k + 1) * 2 + 1) (mG m) = mF x :: mG x :: cells2 mF mG (l.set k m)
      rw [← e, show (k + 1) * 2 = k * 2 + 1 + 1 from by omega]
      rfl
theorem own_drew {w : World} {base size n : Nat} {e : TypeId} {v : Value} {xs : List Value} (h : w.ownsRow base e size v n xs) : w.drew.ownsRow base e size v n xs := own_none h ⟨rfl, rfl, rfl, Nat.le_refl _, fun _ _ _ => rfl⟩
theorem grown_drew {w u : World} {row : Option Nat} (h : w.grownBy u row) : w.grownBy u.drew row := ⟨h.os, h.tape, h.output, h.size, h.block⟩
/-- after k exchanges -/
def RevK (l L : List Mac) (k : Nat) : Prop := L.length = l.length ∧ ∀ t, t < l.length → L[t]? = if t < k ∨ l.length - k ≤ t then l[l.length - 1 - t]? else l[t]?
theorem RevK.start (l : List Mac) : RevK l l 0 := ⟨rfl, fun t ht => by rw [if_neg (by omega)]⟩
theorem RevK.done {l L : List Mac} {k : Nat} (h : RevK l L k) (hk : l.length ≤ 2 * k + 1) : L = l.reverse := by
  refine List.ext_getElem? fun t => ?_
  by_cases ht : t < l.length
  · rw [h.2 t ht, List.getElem?_reverse ht]
    split
    · rfl
    · have : t = l.length - 1 - t := by omega
      rw [← this]
  · rw [List.getElem?_eq_none (by rw [h.1]; omega), List.getElem?_eq_none (by rw [List.length_reverse]; omega)]
theorem RevK.step {l L : List Mac} {k : Nat} (h : RevK l L k) (hk : 2 * k + 1 < l.length) {x y : Mac} (hx : L[k]? = some x) (hy : L[l.length - 1 - k]? = some y) : RevK l ((L.set k y).set (l.length - 1 - k) x) (k + 1) := by
  refine ⟨by rw [List.length_set, List.length_set]; exact h.1, fun t ht => ?_⟩
  have e1 := h.2 k (by omega)
  rw [if_neg (by omega), hx] at e1
  have e2 := h.2 (l.length - 1 - k) (by omega)
  rw [if_neg (by omega), hy] at e2
  rw [List.getElem?_set, List.getElem?_set]
  by_cases h1 : l.length - 1 - k = t
  · rw [if_pos h1, if_pos (by rw [List.length_set, h.1]; omega), if_pos (by omega), ← h1, show l.length - 1 - (l.length - 1 - k) = k from by omega, ← e1]
  · rw [if_neg h1]
    by_cases h2 : k = t
    · rw [if_pos h2, if_pos (by rw [h.1]; omega), if_pos (by omega), ← h2, ← e2]
    · rw [if_neg h2, h.2 t ht]
      by_cases h3 : t < k ∨ l.length - k ≤ t
      · rw [if_pos h3, if_pos (by omega)]
      · rw [if_neg h3, if_neg (by omega)]
set_option maxHeartbeats 8000000 in
set_option maxRecDepth 100000 in
theorem revM_ok (base : Nat) (g : Option Addr) (c : Nat) (l : List Mac) (w : World) (h : w.ownsRow base 24 2 (.slice g l.length c) l.length (cells2 mF mG l)) (hn : l.length ≤ 1048576) :
    Calls Try.prog 12 #[.slice g l.length c] w fun e w' => e = .returned (.tuple #[]) ∧ w'.ownsRow base 24 2 (.slice g l.length c) l.length (cells2 mF mG l.reverse) ∧ w.grownBy w' (Value.slice g l.length c).ownBlock := by
  have HO := Lib.hid h
  clear h
  go_enter Try.func12, Try.ntmps12
  go_wp2
  go_loopg [2, 3] l.length (fun gg s2 s3 wr => ∃ (k : Nat) (L : List Mac), s2 = .int .i64 k ∧ s3 = .int .i64 ((l.length : Int) - 1 - k) ∧ k ≤ l.length ∧ l.length - k ≤ gg ∧ Hid (RevK l L k) ∧ Hid (wr.ownsRow base 24 2 (.slice g l.length c) l.length (cells2 mF mG L)) ∧ Hid (w.grownBy wr (Value.slice g l.length c).ownBlock))
  case atStart => exact ⟨0, l, rfl, by simp, Nat.zero_le _, by omega, RevK.start l, HO, ⟨rfl, rfl, rfl, Nat.le_refl _, fun _ _ _ => rfl⟩⟩
  case round =>
    obtain ⟨k, L, rfl, rfl, hk, hkg, HR, HW, HG⟩ := hrel
    by_cases hlt : 2 * k + 1 < l.length
    · have hg : ∃ gb, g = some ⟨gb, 0, none⟩ := by
        rcases HW.out.2 with ⟨_, h⟩ | ⟨gb, cap, cur, e, _⟩
        · omega
        · injection e with e1 _ _
          exact ⟨gb, e1⟩
      obtain ⟨gb, rfl⟩ := hg
      have hLl := HR.out.1
      obtain ⟨x, hx⟩ : ∃ x, L[k]? = some x := ⟨_, List.getElem?_eq_getElem (show k < L.length by omega)⟩
      obtain ⟨y, hy⟩ : ∃ y, L[l.length - 1 - k]? = some y := ⟨_, List.getElem?_eq_getElem (show l.length - 1 - k < L.length by omega)⟩
      have HST := Lib.hid (HR.out.step hlt hx hy)
      obtain ⟨q1, q2⟩ := cells2_at mF mG hx
      obtain ⟨q3, q4⟩ := cells2_at mF mG hy
      have c1 := HW.out.cells (g := gb) rfl _ _ q1
      have c2 := HW.out.cells (g := gb) rfl _ _ q2
      have c3 := HW.out.cells (g := gb) rfl _ _ q3
      have c4 := HW.out.cells (g := gb) rfl _ _ q4
      rw [Addr.add_lit, Nat.zero_add] at c1 c2 c3 c4
      have f1 := own_ice (j := k * 2) HW.out
      have f2 := own_ice (j := k * 2 + 1) HW.out
      obtain ⟨jj, hjj⟩ : ∃ jj, jj = l.length - 1 - k := ⟨_, rfl⟩
      rw [← hjj] at c3 c4 HST
      have f3 := own_ice (j := jj * 2) HW.out
      have f4 := own_ice (j := jj * 2 + 1) HW.out
      have hji : (l.length : Int) - 1 - (k : Int) = (jj : Int) := by omega
      have hkj : (k : Int) < (jj : Int) := by omega
      have hjl : (jj : Int) < (l.length : Int) := by omega
      have hkl : (k : Int) < (l.length : Int) := by omega
      have w1 : IntKind.i64.wrap ((jj : Int) - 1) = (jj : Int) - 1 := IntWalk.i64_in _ (by omega)
      have HJJ := Lib.hid hjj
      have HLL := Lib.hid hLl
      rw [hji]
      clear hx hy q1 q2 q3 q4 hjj hLl hji
      simp only [mF, mG] at c1 c2 c3 c4
      go_upto_region 3 with fail
      go_region
      go_wp2
      go_roundg (l.length - (k + 1))
      case measure => omega
      case rel =>
        have hkL : k < L.length := by have := HLL.out; omega
        have hjL : jj < (L.set k y).length := by have := HLL.out; have := HJJ.out; rw [List.length_set]; omega
        have o1 := own_set (j := k * 2) (u := mF y) HW.out
        have o2 := own_set (j := k * 2 + 1) (u := mG y) o1
        rw [cells2_set hkL y] at o2
        have o3 := own_set (j := jj * 2) (u := mF x) o2
        have o4 := own_set (j := jj * 2 + 1) (u := mG x) o3
        rw [cells2_set hjL x] at o4
        have o5 := own_drew o4
        have g0 : w.grownBy wr (some gb) := HG.out
        have g1 := mgrown_then g0 (mgrown_set wr ⟨gb, k * 2, none⟩ (mF y)) (.inr rfl)
        have g2 := mgrown_then g1 (mgrown_set _ ⟨gb, k * 2 + 1, none⟩ (mG y)) (.inr rfl)
        have g3 := mgrown_then g2 (mgrown_set _ ⟨gb, jj * 2, none⟩ (mF x)) (.inr rfl)
        have g4 := mgrown_then g3 (mgrown_set _ ⟨gb, jj * 2 + 1, none⟩ (mG x)) (.inr rfl)
        have g5 := grown_drew g4
        have hz : (jj : Int) - 1 = (l.length : Int) - 1 - ((k + 1 : Nat) : Int) := by have := HJJ.out; omega
        refine ⟨k + 1, (L.set k y).set jj x, by go_num, congrArg (Value.int .i64) hz, by omega, by omega, HST, ?_, ?_⟩
        · exact o5
        · exact g5
    · have hE := HR.out.done (by omega)
      subst hE
      have hnl : ¬ ((k : Int) < (l.length : Int) - 1 - (k : Int)) := by omega
      go_wp2
      first | (refine bodyPost_ret (results_none rfl _ _ _) rfl ?_) | (refine bodyPost_end (results_none rfl _ _ _) rfl ?_)
      exact ⟨rfl, HW.out, HG.out⟩
end Go.Proofs.Ytmeenhfclnkjhaa
