/- The walk through name.Stem. Conditions: texts shorter than 2^62 bytes. -/
import Derived.Test.YtlhhcgiifgkngaaDoorNameW
import Derived.Deep.QuietTactic
import Derived.BigQuiet
import Derived.Lib.LastIndexByte
namespace Go.Proofs.YtlhhcgiifgkngaaDoor
open Go.RowKit
/-- what Stem answers -/
def StemPost (s : ByteArray) (w : World) (e : Ending) (w' : World) : Prop :=
  Below w.heap.size w w' ∧ ((Lib.lastIndexByte s 46 ≤ Lib.lastIndexByte s 47 + 1 ∧ e = .returned (.tuple #[.string s, .string ⟨#[]⟩])) ∨
    (Lib.lastIndexByte s 47 + 1 < Lib.lastIndexByte s 46 ∧ ∃ k : Nat, Lib.lastIndexByte s 46 = k ∧ k < s.size ∧ e = .returned (.tuple #[.string (s.extract 0 k), .string (s.extract k s.size)])))
theorem below_drawsP {b : Nat} {w w1 : World} (h : Below b w w1) (k : Nat) : Below b w (w1.drewN k) := ⟨h.os, h.tape, h.output, h.size, h.block⟩
theorem last_in (s : ByteArray) (c : Int) : -1 ≤ Lib.lastIndexByte s c ∧ (Lib.lastIndexByte s c < s.size ∨ Lib.lastIndexByte s c = -1) := by
  rcases Lib.lastIndexByte_spec s c with ⟨h, _⟩ | ⟨i, h1, h2, _⟩
  · exact ⟨by omega, .inr h⟩
  · exact ⟨by omega, .inl (by omega)⟩
end Go.Proofs.YtlhhcgiifgkngaaDoor
