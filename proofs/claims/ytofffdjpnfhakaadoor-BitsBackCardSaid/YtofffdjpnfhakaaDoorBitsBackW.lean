/- The walk through the law BitsBack. Conditions: the table reads as listed. -/
import Derived.Test.YtofffdjpnfhakaaDoorListW
import Derived.Test.YtofffdjpnfhakaaDoorSortedW
namespace Go.Proofs.YtofffdjpnfhakaaDoor
open Go.RowKit
theorem has_one (x n : Nat) (hn : n < 64) : has (1#64 <<< x) n = decide (n = x) := by
  unfold has
  rw [BitVec.getLsbD_shiftLeft]
  by_cases h : n = x
  · subst h; simp [hn]
  · by_cases h2 : n < x
    · simp [h, h2]
    · have h3 : n - x ≠ 0 := by omega
      simp [h, h2]
      intro _ h4
      have : n - x < 1 := by
        rcases Nat.lt_or_ge (n - x) 1 with h5 | h5
        · exact h5
        · exfalso; revert h4; simp; omega
      omega
theorem has_ofL (xs : List Nat) (n : Nat) (hn : n < 64) : has (ofL xs) n = decide (n ∈ xs) := by
  unfold ofL
  suffices h : ∀ (xs : List Nat) (s : B), has (xs.foldl (fun s x => s ||| 1#64 <<< x) s) n = (has s n || decide (n ∈ xs)) by
    rw [h, has_zero]; simp
  intro xs
  induction xs with
  | nil => intro s; simp
  | cons x xs ih =>
    intro s
    rw [List.foldl_cons, ih, has_or, has_one x n hn]
    by_cases h1 : n = x <;> by_cases h2 : n ∈ xs <;> simp [h1, h2]
theorem ofL_lst (s : B) : ofL (lst s) = s := set_ext fun n hn => by
  rw [has_ofL _ _ hn]
  by_cases h : has s n = true
  · rw [h]; simpa using mem_lst.2 h
  · have : n ∉ lst s := fun hc => h (mem_lst.1 hc)
    simp [this]
    simpa using h
set_option maxRecDepth 100000 in
set_option maxHeartbeats 2000000 in
theorem bitsBack_walk (s : B) (w : World) (hT : Tab w) :
    Calls Tryd.prog 4 #[.int .u64 (un s)] w fun e w' => e = .returned (.bool true) ∧ Below w.heap.size w w' := by
  have hof := Lib.hid (ofL_lst s)
  have hc := cnt_le s
  go_enter Tryd.func4, Tryd.ntmps4
  go_wp2_with fail
  refine (sets_below w).mono ?_
  rintro e w1 ⟨rfl, hb⟩
  go_wp2_with fail
  refine (List_ok s w1 (hT.below hb)).mono ?_
  rintro e w2 ⟨g, c, rfl, hown, hb2⟩
  have hR := Reads.of_own hown
  have hb3 : Below w.heap.size w w2 := hb.trans (hb2.mono hb.size)
  clear hown hb hb2
  go_wp2_with (first | (go_at_call 21; refine (of_ok (lst s) (fun x hx => lst_lt hx) g (cnt s) c _ w2 hR (by unfold maxLen; omega)).mono ?_; rw [hof.out]; rintro e w' ⟨rfl, rfl⟩) | (go_at_call 22; refine (isSorted_ok (lst s) (lst_sorted s) g (cnt s) c _ w2 hR (by unfold maxLen; omega)).mono ?_; rintro e w' ⟨rfl, k, rfl⟩) | (go_at_call 17; refine (count_ok _ _).mono ?_; rintro e w' ⟨rfl, rfl⟩))
  go_ret
  exact ⟨rfl, ⟨hb3.os, hb3.tape, hb3.output, hb3.size, hb3.block⟩⟩
end Go.Proofs.YtofffdjpnfhakaaDoor
