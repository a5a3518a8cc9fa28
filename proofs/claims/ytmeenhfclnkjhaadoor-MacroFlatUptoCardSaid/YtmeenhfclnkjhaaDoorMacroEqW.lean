/- slices.Equal at macros that are the same. Conditions: both read as listed. -/
import Derived.Test.YtmeenhfclnkjhaaDoorMacroCW
import Derived.Deep.QuietTactic
import Derived.BigQuiet
namespace Go.Proofs.YtmeenhfclnkjhaaDoor
open Go.RowKit Go.Shelf Go.Maps
set_option maxHeartbeats 2000000 in
set_option maxRecDepth 100000 in
theorem equalM_ok (p q : Option Addr) (n c d : Nat) (l : List Mac) (w : World) (h1 : MacsIn w p n c l) (h2 : MacsIn w q n d l) :
    Calls Tryd.prog 12 #[.slice p n c, .slice q n d] w fun e w' => e = .returned (.bool true) ∧ Below w.heap.size w w' := by
  have hln := h1.at_.len
  have hbig := h1.at_.big
  subst hln
  have H1 := Lib.hid (fun u (hu : Below w.heap.size w u) => h1.at_.below hu)
  have H2 := Lib.hid (fun u (hu : Below w.heap.size w u) => h2.at_.below hu)
  have hnn : ((l.length : Int) != (l.length : Int)) = false := by simp
  clear h1 h2
  go_enter Tryd.func12, Tryd.ntmps12
  go_wp2
  go_loopw [13] (fun i wr => ∃ k : Nat, k ≤ l.length ∧ i = .int .i64 k ∧ Hid (Below w.heap.size w wr)) (fun i _ => l.length - (intOf i).toNat)
  case atStart => exact ⟨0, Nat.zero_le _, rfl, Below.refl _ _⟩
  case round =>
    obtain ⟨k, hk, rfl, HB⟩ := hrel
    by_cases hlt : k < l.length
    · have hel := List.getElem?_eq_getElem hlt
      obtain ⟨b1, o1, rfl, _, c1, c2⟩ := (H1.out _ HB.out).cell hel
      obtain ⟨b2, o2, rfl, _, d1, d2⟩ := (H2.out _ HB.out).cell hel
      rw [← Nat.add_assoc] at c2 d2
      clear hel
      generalize l[k] = m at *
      simp only [mF, mG] at c1 c2 d1 d2
      have hki : (k : Int) < (l.length : Int) := by omega
      go_upto_region 6 with fail
      go_quiet (fail)
      go_wp2
      go_roundw
      case rel => exact ⟨k + 1, by omega, by go_num, below_drawsP HB.out _⟩
      case measure => simp [intOf]; omega
    · obtain rfl : k = l.length := by omega
      go_wp2
      go_ret
      exact ⟨rfl, HB.out⟩
end Go.Proofs.YtmeenhfclnkjhaaDoor
