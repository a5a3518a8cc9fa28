/- slices.EqualFunc at stamps and the laws' sameStamps: equal stamps are told as equal. Conditions: both read as listed. -/
import Derived.Test.YtlhhcgiifgkngaaDoorLogCheckW
import Derived.Test.YtlhhcgiifgkngaaDoorHexW
namespace Go.Proofs.YtlhhcgiifgkngaaDoor
open Go.RowKit Go.Shelf
theorem below_drawS {B : Nat} {w w' : World} (h : Below B w w') : Below B w w'.drew := ⟨h.os, h.tape, h.output, h.size, h.block⟩
set_option maxHeartbeats 8000000 in
set_option maxRecDepth 100000 in
theorem sameSt1_ok (x : StP) (w : World) :
    Calls Tryd.prog 91 #[.agg #[.string x.1, .int .i64 x.2.1, .float .f64 x.2.2], .agg #[.string x.1, .int .i64 x.2.1, .float .f64 x.2.2]] w fun e w' => e = .returned (.bool true) ∧ Below w.heap.size w w' := by
  obtain ⟨s, a, t⟩ := x
  simp only
  obtain ⟨V, hV⟩ : ∃ V : World, V = w.alloc (.cells #[.string s, .int .i64 a, .float .f64 t] 73) := ⟨_, rfl⟩
  obtain ⟨X, hX⟩ : ∃ X : World, X = V.alloc (.cells #[.string s, .int .i64 a, .float .f64 t] 73) := ⟨_, rfl⟩
  have hVs : V.heap.size = w.heap.size + 1 := by rw [hV]; simp
  have hBV : Below w.heap.size w V := by rw [hV]; exact (Below.refl _ w).alloc (Nat.le_refl _) _
  have hBX : Below w.heap.size w X := by rw [hX]; exact hBV.alloc hBV.size _
  have v0 : V.cell? ⟨w.heap.size, 0, none⟩ = some (.string s) := by rw [hV, World.cell?_alloc_at _ _ _ _ rfl]; rfl
  have v1 : V.cell? ⟨w.heap.size, 1, none⟩ = some (.int .i64 a) := by rw [hV, World.cell?_alloc_at _ _ _ _ rfl]; rfl
  have v2 : V.cell? ⟨w.heap.size, 2, none⟩ = some (.float .f64 t) := by rw [hV, World.cell?_alloc_at _ _ _ _ rfl]; rfl
  have c0 : X.cell? ⟨w.heap.size, 0, none⟩ = some (.string s) := by rw [hX, World.cell?_alloc_lt _ _ _ (by show w.heap.size < _; omega)]; exact v0
  have c1 : X.cell? ⟨w.heap.size, 1, none⟩ = some (.int .i64 a) := by rw [hX, World.cell?_alloc_lt _ _ _ (by show w.heap.size < _; omega)]; exact v1
  have c2 : X.cell? ⟨w.heap.size, 2, none⟩ = some (.float .f64 t) := by rw [hX, World.cell?_alloc_lt _ _ _ (by show w.heap.size < _; omega)]; exact v2
  have d0 : X.cell? ⟨w.heap.size + 1, 0, none⟩ = some (.string s) := by rw [hX, World.cell?_alloc_at _ _ _ _ hVs.symm]; rfl
  have d1 : X.cell? ⟨w.heap.size + 1, 1, none⟩ = some (.int .i64 a) := by rw [hX, World.cell?_alloc_at _ _ _ _ hVs.symm]; rfl
  have d2 : X.cell? ⟨w.heap.size + 1, 2, none⟩ = some (.float .f64 t) := by rw [hX, World.cell?_alloc_at _ _ _ _ hVs.symm]; rfl
  have HB := Lib.hid hBX
  have mixed : Tryd.prog.follows .mixedOrders = true := by kernel_rfl
  clear hBV hBX v0 v1 v2
  go_enter Tryd.func91, Tryd.ntmps91
  go_upto_region 1 with fail
  rw [← hV, ← hX]
  clear hV hX hVs
  have ea : (a == a) = true := by simp
  have et : ((t : Int) == (t : Int)) = true := by simp
  go_region <;>
  · go_wp2
    go_ret
    exact ⟨rfl, below_drawS HB.out⟩
set_option maxHeartbeats 4000000 in
set_option maxRecDepth 100000 in
theorem sameStF_ok (p q : Option Addr) (n c d : Nat) (l : List StP) (w : World) (h1 : StAt w p n c l) (h2 : StAt w q n d l) :
    Calls Tryd.prog 90 #[.slice p n c, .slice q n d, .func (.func 91) #[] #[]] w fun e w' => e = .returned (.bool true) ∧ Below w.heap.size w w' := by
  have hl := h1.len
  subst hl
  have hbig := h1.big
  have H1 := Lib.hid h1
  have H2 := Lib.hid h2
  clear h1 h2
  have hnn : ((l.length : Int) != (l.length : Int)) = false := by simp
  go_enter Tryd.func90, Tryd.ntmps90
  go_wp2
  go_loopw [17] (fun i wr => ∃ j : Nat, j ≤ l.length ∧ i = .int .i64 j ∧ Hid (Below w.heap.size w wr)) (fun i _ => l.length - (intOf i).toNat)
  case atStart => exact ⟨0, Nat.zero_le _, rfl, Below.refl _ _⟩
  case round =>
    obtain ⟨j, hj, rfl, HB⟩ := hrel
    by_cases hlt : j < l.length
    · obtain ⟨b1, o1, rfl, hb1, c0, c1, c2⟩ := (H1.out.below HB.out).cell (get_D hlt)
      obtain ⟨b2, o2, rfl, hb2, d0, d1, d2⟩ := (H2.out.below HB.out).cell (get_D hlt)
      generalize l.getD j default = x at *
      have HCALL := Lib.hid (fun u => sameSt1_ok x u)
      obtain ⟨s, a, t⟩ := x
      simp only [sN, sA, sT] at c0 c1 c2 d0 d1 d2 HCALL
      have hd0 : ∀ o, (wr.alloc o).cell? ⟨b2, o2 + j * 3, none⟩ = some (.string s) := fun o => (World.cell?_alloc_lt _ _ _ hb2).trans d0
      have hd1 : ∀ o, (wr.alloc o).cell? ⟨b2, o2 + j * 3 + 1, none⟩ = some (.int .i64 a) := fun o => (World.cell?_alloc_lt _ _ _ hb2).trans d1
      have hd2 : ∀ o, (wr.alloc o).cell? ⟨b2, o2 + j * 3 + 2, none⟩ = some (.float .f64 t) := fun o => (World.cell?_alloc_lt _ _ _ hb2).trans d2
      have HAL : Hid (∀ o o2, Below w.heap.size w ((wr.alloc o).alloc o2)) := fun o o2 => (HB.out.alloc HB.out.size o).alloc (by have := HB.out.size; simp; omega) o2
      have hji : (j : Int) < (l.length : Int) := by omega
      clear d0 d1 d2
      go_wp2_with (go_at_call 91; refine (HCALL.out _).mono ?_; rintro e w5 ⟨rfl, hb5⟩; have HB5 := Lib.hid ((HAL.out _ _).trans (hb5.mono (HAL.out _ _).size)); clear hb5)
      go_roundw
      case rel => exact ⟨j + 1, by omega, by go_num, HB5.out⟩
      case measure => simp [intOf]; omega
    · obtain rfl : j = l.length := by omega
      go_wp2
      go_ret
      exact ⟨rfl, HB.out⟩
theorem sameStamps_ok (p q : Option Addr) (n c d : Nat) (l : List StP) (w : World) (h1 : StAt w p n c l) (h2 : StAt w q n d l) :
    Calls Tryd.prog 46 #[.slice p n c, .slice q n d] w fun e w' => e = .returned (.bool true) ∧ Below w.heap.size w w' := by
  have HF := Lib.hid (sameStF_ok p q n c d l w h1 h2)
  clear h1 h2
  go_enter Tryd.func46, Tryd.ntmps46
  go_wp2_with (go_at_call 90; refine HF.out.mono ?_; rintro e w5 ⟨rfl, hb5⟩; have HB5 := Lib.hid hb5; clear hb5)
  go_ret
  exact ⟨rfl, HB5.out⟩
end Go.Proofs.YtlhhcgiifgkngaaDoor
