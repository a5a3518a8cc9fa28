/- The walk through name.Stem. Conditions: texts shorter than 2^62 bytes. -/
import Derived.Test.YtoiolepengcagaaGreatDoorNameW
import Derived.Deep.QuietTactic
import Derived.BigQuiet
import Derived.Lib.LastIndexByte
namespace Go.Proofs.YtoiolepengcagaaGreatDoor
open Go.RowKit
/-- what Stem answers -/
def StemPost (s : ByteArray) (w : World) (e : Ending) (w' : World) : Prop :=
  Below w.heap.size w w' ∧ ((Lib.lastIndexByte s 46 ≤ Lib.lastIndexByte s 47 + 1 ∧ e = .returned (.tuple #[.string s, .string ⟨#[]⟩])) ∨
    (Lib.lastIndexByte s 47 + 1 < Lib.lastIndexByte s 46 ∧ ∃ k : Nat, Lib.lastIndexByte s 46 = k ∧ k < s.size ∧ e = .returned (.tuple #[.string (s.extract 0 k), .string (s.extract k s.size)])))
theorem below_drawsP {b : Nat} {w w1 : World} (h : Below b w w1) (k : Nat) : Below b w (w1.drewN k) := ⟨h.os, h.tape, h.output, h.size, h.block⟩
theorem last_in (s : ByteArray) (c : Int) : -1 ≤ Lib.lastIndexByte s c ∧ (Lib.lastIndexByte s c < s.size ∨ Lib.lastIndexByte s c = -1) := by
  rcases Lib.lastIndexByte_spec s c with ⟨h, _⟩ | ⟨i, h1, h2, _⟩
  · exact ⟨by omega, .inr h⟩
  · exact ⟨by omega, .inl (by omega)⟩
set_option maxHeartbeats 1000000 in
theorem Stem_ok (s : ByteArray) (hs : s.size < 4611686018427387904) (w : World) : Calls Tryz.prog 123 #[.string s] w (StemPost s w) := by
  obtain ⟨a1, a2⟩ := last_in s 46
  obtain ⟨b1, b2⟩ := last_in s 47
  obtain ⟨z1, hz1⟩ : ∃ z, Lib.lastIndexByte s 46 = z := ⟨_, rfl⟩
  obtain ⟨z2, hz2⟩ : ∃ z, Lib.lastIndexByte s 47 = z := ⟨_, rfl⟩
  rw [hz1] at a1 a2
  rw [hz2] at b1 b2
  have HZ1 := Lib.hid hz1
  have HZ2 := Lib.hid hz2
  clear hz1 hz2
  by_cases h : z1 ≤ z2 + 1
  · go_enter Tryz.func123, Tryz.ntmps123
    go_wp2_with (go_at_call 149; refine (Tryz.strings_LastIndexByte s _ hs _).mono ?_; (first | rw [HZ1.out] | rw [HZ2.out]); rintro e w' ⟨rfl, rfl⟩)
    go_ret2
    exact ⟨Below.refl _ _, .inl ⟨by rw [HZ1.out, HZ2.out]; exact h, rfl⟩⟩
  · obtain ⟨k, rfl⟩ := Int.eq_ofNat_of_zero_le (show 0 ≤ z1 by omega)
    have hk : k < s.size := by omega
    go_enter Tryz.func123, Tryz.ntmps123
    go_wp2_with (go_at_call 149; refine (Tryz.strings_LastIndexByte s _ hs _).mono ?_; (first | rw [HZ1.out] | rw [HZ2.out]); rintro e w' ⟨rfl, rfl⟩)
    go_quiet (fail)
    go_wp2
    go_ret2
    exact ⟨below_drawsP (Below.refl _ _) _, .inr ⟨by rw [HZ1.out, HZ2.out]; omega, k, HZ1.out, hk, rfl⟩⟩
end Go.Proofs.YtoiolepengcagaaGreatDoor
