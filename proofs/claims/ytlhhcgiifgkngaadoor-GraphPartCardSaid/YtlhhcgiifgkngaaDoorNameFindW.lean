/- The law NameFind. Conditions: the slice reads as listed; the string is shorter than 2^62 bytes. -/
import Derived.Test.YtlhhcgiifgkngaaDoorSearchW
import Derived.Test.YtlhhcgiifgkngaaDoorNLArg
namespace Go.Proofs.YtlhhcgiifgkngaaDoor
open Go.RowKit Go.Shelf
set_option maxHeartbeats 1000000 in
theorem find_ok {w : World} {p : Option Addr} {n c : Nat} {ls : List ByteArray} (h : NL w p n c ls) (hr : Rise ls) (x : ByteArray) :
    Calls Tryd.prog 102 #[.slice p n c, .string x] w fun e w' => ((∃ k : Nat, k < ls.length ∧ ls.getD k ByteArray.empty = x ∧ e = .returned (.tuple #[.int .i64 k, .bool true])) ∨ (Lib.containsS ls x = false ∧ e = .returned (.tuple #[.int .i64 0, .bool false]))) ∧ ∃ q, w' = w.drewN q := by
  have HS := Lib.hid (search_ok h hr x)
  clear h hr
  go_enter Tryd.func102, Tryd.ntmps102
  go_wp2_with fail
  refine HS.out.mono ?_
  rintro e w' ⟨⟨k, b, rfl, hF⟩, q, rfl⟩
  rcases hF with ⟨rfl, hk, hx⟩ | ⟨rfl, hx⟩
  · have HX := Lib.hid hx
    clear hx
    go_wp2
    go_ret2
    exact ⟨.inl ⟨k, hk, HX.out, rfl⟩, q, rfl⟩
  · have HX := Lib.hid hx
    clear hx
    go_wp2
    go_ret2
    exact ⟨.inr ⟨HX.out, rfl⟩, q, rfl⟩
end Go.Proofs.YtlhhcgiifgkngaaDoor
