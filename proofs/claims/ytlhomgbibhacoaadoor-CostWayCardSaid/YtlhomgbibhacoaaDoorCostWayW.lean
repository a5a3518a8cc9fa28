/- The walks of cost.Way and its closure. Conditions: the rows and the durations read as listed. -/
import Derived.Test.YtlhomgbibhacoaaDoorCostLeastW
import Derived.Test.YtlhomgbibhacoaaDoorCostWayP
namespace Go.Proofs.YtlhomgbibhacoaaDoor
open Go.RowKit
theorem gt_yes {x y : Nat} (hx : x ≤ INF) (hy : y ≤ INF) (h : y < x) : (FloatKind.f64.format.order x y == some Ordering.gt) = true := by
  have h1 : FloatKind.f64.format.order x y = some (compare x y) := order_pos hx hy
  rw [h1, Nat.compare_eq_gt.2 h]; rfl
theorem gt_no {x y : Nat} (hx : x ≤ INF) (hy : y ≤ INF) (h : x ≤ y) : (FloatKind.f64.format.order x y == some Ordering.gt) = false := by
  have h1 : FloatKind.f64.format.order x y = some (compare x y) := order_pos hx hy
  rw [h1]
  rcases Nat.lt_or_ge x y with g | g
  · rw [Nat.compare_eq_lt.2 g]; rfl
  · rw [Nat.compare_eq_eq.2 (by omega)]; rfl
def Bst (T xs : List Nat) (j b : Nat) : Prop := b ∈ xs ∧ ∀ k ∈ xs.take j, T.getD k 0 ≤ T.getD b 0
theorem bst_keep {T xs : List Nat} {j b : Nat} (hj : j < xs.length) (h : Bst T xs j b) (hle : T.getD (xs.getD j 0) 0 ≤ T.getD b 0) : Bst T xs (j + 1) b := by
  refine ⟨h.1, fun k hk => ?_⟩
  rw [List.take_succ_eq_append_getElem hj] at hk
  rcases List.mem_append.1 hk with hk | hk
  · exact h.2 k hk
  · rw [List.mem_singleton.1 hk]; simpa [hj] using hle
theorem bst_turn {T xs : List Nat} {j b : Nat} (hj : j < xs.length) (h : Bst T xs j b) (hlt : T.getD b 0 < T.getD (xs.getD j 0) 0) : Bst T xs (j + 1) (xs.getD j 0) := by
  have he : xs.getD j 0 = xs[j] := by simp [hj]
  refine ⟨by rw [he]; exact List.getElem_mem hj, fun k hk => ?_⟩
  rw [List.take_succ_eq_append_getElem hj] at hk
  rcases List.mem_append.1 hk with hk | hk
  · exact Nat.le_of_lt (Nat.lt_of_le_of_lt (h.2 k hk) hlt)
  · rw [List.mem_singleton.1 hk, he]; exact Nat.le_refl _
set_option maxHeartbeats 2000000 in
theorem last_ok (T xs : List Nat) (hx : ∀ x ∈ xs, x < T.length) (hp0 : 0 < xs.length) (hI : ∀ n, T.getD n 0 ≤ INF) (p : Option Addr) (n c b bT cT pt : Nat) (ad : Addr) (w : World) (hr : Reads w b 1 p n (ints xs)) (hn : n ≤ maxLen)
    (hq : w.cell? ⟨pt, 0, none⟩ = some (.slice (some ad) T.length cT)) (hT : Reads w bT 1 (some ad) T.length (fv T)) :
    Calls Tryd.prog 37 #[.slice p n c, .pointer (some ⟨pt, 0, none⟩)] w fun e w' => (∃ k : Nat, e = .returned (.int .i64 (k : Int)) ∧ Bst T xs xs.length k) ∧ ∃ m, w' = w.drewN m := by
  unfold maxLen at hn
  have hl : xs.length = n := by have := hr.1; simpa [ints] using this
  subst hl
  obtain ⟨adx, rfl, _, hc0⟩ := hr.int_at hp0
  have e0 : adx.add 0 = adx := by unfold Addr.add; simp
  rw [e0] at hc0
  have hm0 : xs.getD 0 0 ∈ xs := by
    have h : xs.getD 0 0 = xs[0] := by simp [hp0]
    rw [h]; exact List.getElem_mem hp0
  have HB0 : Hid (Bst T xs 0 (xs.getD 0 0)) := Lib.hid ⟨hm0, fun k hk => by simp at hk⟩
  clear hm0
  have HXX := Lib.hid hx
  have HI := Lib.hid hI
  clear hx hI
  generalize xs.getD 0 0 = x0 at *
  go_enter Tryd.func37, Tryd.ntmps37
  go_wp2
  go_loopw [4, 12] (fun bv i wr => ∃ (j k : Nat), j ≤ xs.length ∧ i = .int .i64 j ∧ bv = .int .i64 (k : Int) ∧ Hid (Bst T xs j k) ∧ Hid (∃ m, wr = w.drewN m)) (fun _ i _ => xs.length - (intOf i).toNat)
  case atStart => exact ⟨0, x0, Nat.zero_le _, rfl, rfl, HB0.out, show ∃ m, w = w.drewN m from ⟨0, rfl⟩⟩
  case round =>
    obtain ⟨j, k, hj, rfl, rfl, HB, HW⟩ := hrel
    obtain ⟨wo, rfl⟩ : ∃ wo : World, wo = wr := ⟨_, rfl⟩
    by_cases hlt : j < xs.length
    · obtain ⟨ad', had, _, hc⟩ := hr.int_at hlt
      injection had with had
      subst had
      have hxk : xs.getD j 0 < T.length := HXX.out _ (by simp [hlt])
      have hkk : k < T.length := HXX.out _ HB.out.1
      obtain ⟨ad2, had2, _, hc2⟩ := f_at hT hxk
      injection had2 with had2
      subst had2
      obtain ⟨ad3, had3, _, hc3⟩ := f_at hT hkk
      injection had3 with had3
      subst had3
      have g1 : wo.cell? (adx.add j) = some (.int .i64 (xs.getD j 0 : Int)) := by obtain ⟨m, hm⟩ := HW.out; rw [hm]; exact hc
      have g2 : wo.cell? (ad.add (xs.getD j 0)) = some (.float .f64 (T.getD (xs.getD j 0) 0)) := by obtain ⟨m, hm⟩ := HW.out; rw [hm]; exact hc2
      have g3 : wo.cell? (ad.add k) = some (.float .f64 (T.getD k 0)) := by obtain ⟨m, hm⟩ := HW.out; rw [hm]; exact hc3
      have g4 : wo.cell? ⟨pt, 0, none⟩ = some (.slice (some ad) T.length cT) := by obtain ⟨m, hm⟩ := HW.out; rw [hm]; exact hq
      by_cases hcmp : T.getD k 0 < T.getD (xs.getD j 0) 0
      · have hg := gt_yes (HI.out _) (HI.out _) hcmp
        have HN := Lib.hid (bst_turn hlt HB.out hcmp)
        clear hcmp hc hc2 hc3 hc0 hr hT hq
        generalize T.getD (xs.getD j 0) 0 = t1 at *
        generalize T.getD k 0 = t2 at *
        generalize xs.getD j 0 = x at *
        go_wp2
        go_quiet (fail)
        go_wp2
        go_roundw
        case rel => exact ⟨j + 1, x, by omega, by go_num, rfl, HN.out, by
          obtain ⟨m, hm⟩ := HW.out
          exact ⟨_, by rw [hm, World.drewN_drewN]⟩⟩
        case measure => simp [intOf]; omega
      · have hg := gt_no (HI.out (xs.getD j 0)) (HI.out k) (by omega)
        have HN := Lib.hid (bst_keep hlt HB.out (by omega))
        clear hcmp hc hc2 hc3 hc0 hr hT hq
        generalize T.getD (xs.getD j 0) 0 = t1 at *
        generalize T.getD k 0 = t2 at *
        generalize xs.getD j 0 = x at *
        go_wp2
        go_quiet (fail)
        go_wp2
        go_roundw
        case rel => exact ⟨j + 1, k, by omega, by go_num, rfl, HN.out, by
          obtain ⟨m, hm⟩ := HW.out
          exact ⟨_, by rw [hm, World.drewN_drewN]⟩⟩
        case measure => simp [intOf]; omega
    · obtain rfl : j = xs.length := by omega
      clear hc0 hr hT hq
      go_wp2
      go_ret
      exact ⟨⟨k, rfl, HB.out⟩, HW.out⟩
end Go.Proofs.YtlhomgbibhacoaaDoor
