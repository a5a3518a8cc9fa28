/- The fact graphs of the laws; the law GraphRows. Conditions: the graph reads as listed. -/
import Derived.Test.YtlhhcgiifgkngaaDoorGraphNumW
import Derived.Test.YtlhhcgiifgkngaaDoorMillW
import Derived.Deep.RegionWith
import Derived.Deep.RegionHeld3
namespace Go.Proofs.YtlhhcgiifgkngaaDoor
open Go.RowKit Go.Shelf
set_option maxHeartbeats 1000000 in
theorem graphs_below (w : World) : Calls Tryd.prog 13 #[] w fun e w' => e = .returned (.bool true) ∧ Below w.heap.size w w' := by
  go_enter Tryd.func13, Tryd.ntmps13
  go_wp2_with fail
  refine (mill_ok w).mono ?_
  rintro e w1 ⟨⟨v, rfl, hv⟩, hb1⟩
  have HV := Lib.hid hv
  have HB1 := Lib.hid hb1
  clear hv hb1
  go_wp2_with fail
  refine (Rows2_ok v G0 _ HV.out).mono ?_
  rintro e w2 ⟨hcase, hb2⟩
  have HB2 := Lib.hid (HB1.out.trans (hb2.mono HB1.out.size))
  rcases hcase with ⟨_, p, c, rfl, hown⟩ | ⟨hno, _⟩
  · rw [show G0.names.length = 2 from rfl, show G0.edges = [(0, 1)] from rfl, rows0] at hown
    rw [show G0.names.length = 2 from rfl]
    obtain ⟨b, cap, hv2, _, _⟩ := hown.form (by omega)
    injection hv2 with e1 e2 e3
    subst e1 e3
    have hc := ownG_at hown (k := 0) (by omega)
    have hc' : w2.cell? ⟨b, 0, none⟩ = some (.int .u64 2) := hc
    clear hown hc hb2
    go_wp2
    go_ret
    exact ⟨rfl, HB2.out⟩
  · exact absurd good0 hno
theorem shr_bitG (s : B) (a : Nat) : (un (s >>> a &&& 1#64) : Int) = if has s a = true then 1 else 0 := by
  have e : un (s >>> a &&& 1#64) = un (s >>> a) % 2 := by
    unfold un; rw [BitVec.toNat_and]; exact Nat.and_one_is_mod _
  have e2 : un (s >>> a) = un s / 2 ^ a := by unfold un; rw [BitVec.toNat_ushiftRight, Nat.shiftRight_eq_div_pow]
  rw [e, e2, has_un, Nat.testBit_eq_decide_div_mod_eq]
  rcases Nat.mod_two_eq_zero_or_one (un s / 2 ^ a) with h | h <;> simp [h]
theorem bit_eq (s : B) {a : Nat} : ((un ((s >>> a) &&& 1#64) : Int) == 1) = has s a := by
  rw [shr_bitG s a]
  cases has s a <;> rfl
end Go.Proofs.YtlhhcgiifgkngaaDoor
