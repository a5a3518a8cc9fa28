/- The walk through slices.IsSorted at ints: a rising list is sorted. Conditions: the list rises. -/
import Derived.Test.YtofffdjpnfhakaaDoorBitsW
import Derived.Test.YtofffdjpnfhakaaDoorShelf
import Derived.Deep.QuietTactic
import Derived.BigQuiet
namespace Go.Proofs.YtofffdjpnfhakaaDoor
open Go.RowKit
set_option maxHeartbeats 1000000 in
theorem isSorted_ok (xs : List Nat) (hs : xs.Pairwise (· < ·)) (p : Option Addr) (n c b : Nat) (w : World) (hr : Reads w b 1 p n (ints xs)) (hn : n ≤ maxLen) :
    Calls Tryd.prog 22 #[.slice p n c] w fun e w' => e = .returned (.bool true) ∧ ∃ k, w' = w.drewN k := by
  unfold maxLen at hn
  have hl : xs.length = n := by have := hr.1; simpa [ints] using this
  subst hl
  go_enter Tryd.func22, Tryd.ntmps22
  go_wp2
  go_loopw [3] (fun i wr => ∃ j : Int, -1 ≤ j ∧ j < xs.length ∧ i = .int .i64 j ∧ Hid (∃ k, wr = w.drewN k)) (fun i _ => ((intOf i) + 1).toNat)
  case atStart => exact ⟨_, by omega, by omega, rfl, show ∃ k, w = w.drewN k from ⟨0, rfl⟩⟩
  case round =>
    obtain ⟨j, hj1, hj2, rfl, HW⟩ := hrel
    by_cases hlt : 0 < j
    · obtain ⟨k, rfl⟩ := Int.eq_ofNat_of_zero_le (show 0 ≤ j by omega)
      have hk : k < xs.length := by omega
      have hk0 : 0 < k := by omega
      have hk1 : k - 1 < xs.length := by omega
      obtain ⟨ad, u, rfl, _, hu, hc⟩ := hr.at_ hk
      obtain ⟨ad', u', he, _, hu', hc'⟩ := hr.at_ hk1
      obtain rfl : ad = ad' := by injection he
      obtain ⟨x, hx⟩ : ∃ x, x = xs[k] := ⟨_, rfl⟩
      obtain ⟨y, hy⟩ : ∃ y, y = xs[k - 1] := ⟨_, rfl⟩
      have hcx : wr.cell? (ad.add k) = some (.int .i64 (x : Int)) := by
        obtain ⟨q, hq⟩ := HW.out
        rw [hx, hq, World.cell?_drewN, hc, ← hu]; simp [ints, List.getElem?_eq_getElem hk]
      have hcy : wr.cell? (ad.add (k - 1)) = some (.int .i64 (y : Int)) := by
        obtain ⟨q, hq⟩ := HW.out
        rw [hy, hq, World.cell?_drewN, hc', ← hu']; simp [ints, List.getElem?_eq_getElem hk1]
      have hyx : y < x := by
        rw [hx, hy]; exact List.pairwise_iff_getElem.1 hs (k - 1) k hk1 hk (by omega)
      have hdec : decide ((x : Int) < (y : Int)) = false := by simp; omega
      clear hu hc hu' hc' he hx hy hs hr
      have s1 : IntKind.i64.wrap ((k : Int) - 1) = (k : Int) - 1 := IntWalk.i64_in _ (by omega)
      have s2 : ((k : Int) - 1).toNat = k - 1 := by omega
      have s3 : 0 ≤ (k : Int) - 1 := by omega
      go_wp2
      go_quiet ((go_at_call 44; exact Calls.quiet_of_same (Tryd.cmp_Less_int2 _ _ _)))
      go_wp2
      go_roundw
      case rel => exact ⟨(k : Int) - 1, by omega, by omega, rfl, by
        obtain ⟨q, hq⟩ := HW.out
        exact ⟨_, by rw [hq, World.drewN_drewN]⟩⟩
      case measure => simp [intOf]
    · go_wp2
      go_ret
      exact ⟨rfl, HW.out⟩
end Go.Proofs.YtofffdjpnfhakaaDoor
