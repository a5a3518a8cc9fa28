/- The walk of log.text. Conditions: the tables of math/bits and internal/strconv read as listed. -/
import Derived.Test.YtlhhcgiifgkngaaDoorStamps
import Derived.Test.YtlhhcgiifgkngaaDoorHexW
import Derived.Test.YtlhhcgiifgkngaaDoorLogLay
import Derived.Deep.RegionHeld3
import Derived.WalkSmall
import Derived.Lib.ItoaLen
namespace Go.Proofs.YtlhhcgiifgkngaaDoor
open Go.RowKit Go.Shelf Go.Sort
def PowT (w : World) : Prop := Lib.TabIs Tryd.prog w "internal/strconv.uint64pow10" .u64 Lib.pow10Tab
theorem powGL : Tryd.prog.globalNamed "internal/strconv.uint64pow10" = some 4 := by kernel_rfl
theorem PowT.below {w w' : World} (h : PowT w) (hb : Below w.heap.size w w') : PowT w' := by
  have hlt : 4 < w.heap.size := by
    rcases Nat.lt_or_ge 4 w.heap.size with h1 | h1
    · exact h1
    · unfold PowT Lib.TabIs World.var? at h
      simp [powGL, Array.getElem?_eq_none h1] at h
  exact var?_below hb powGL hlt h
theorem cat_runL {P : Program} (a b : ByteArray) (h : a.size + b.size ≤ 4611686018427387904) : ∃ A : ByteArray, A.data.toList = a.data.toList ++ b.data.toList ∧ A.size = a.size + b.size ∧ ∀ w : World, (Op.stringOp .add a b).run P w = .ok (.string A) w := by
  refine ⟨a ++ b, by simp, by simp, fun w => ?_⟩
  have hm : IntKind.i64.max = 9223372036854775807 := rfl
  have : ¬ (((a.size + b.size : Nat) : Int) > IntKind.i64.max) := by rw [hm]; omega
  simp only [Op.stringOp]
  rw [if_neg this]
  rfl
theorem below_growL (w : World) (k : Nat) (os : Array Obj) : Below w.heap.size w (Go.Sort.grow (w.drewN k) os) :=
  ⟨rfl, rfl, rfl, by show w.heap.size ≤ (w.heap ++ os).size; simp, fun j hj => by
    show (w.heap ++ os)[j]? = _
    rw [Array.getElem?_append_left hj]⟩
/-- the text of a stamp, as a string -/
def txB (x : StP) : ByteArray := ⟨(txS x).toArray⟩
theorem txB_list (x : StP) : (txB x).data.toList = txS x := by unfold txB; simp
theorem ba_ext {a b : ByteArray} (h : a.data.toList = b.data.toList) : a = b := ByteArray.ext (Array.toList_inj.1 h)
/-- a stamp whose text the call can make -/
def txWf (x : StP) : Prop := x.1.size ≤ 140737488355328 ∧ (-9223372036854775808 ≤ x.2.1 ∧ x.2.1 ≤ 9223372036854775807) ∧ x.2.2 < 2 ^ 64
set_option maxHeartbeats 4000000 in
set_option maxRecDepth 100000 in
theorem logText_ok (x : StP) (hx : txWf x) (w : World) (hT : Tab w) (hP : PowT w) :
    Calls Tryd.prog 95 #[.agg #[.string x.1, .int .i64 x.2.1, .float .f64 x.2.2]] w fun e w' => e = .returned (.string (txB x)) ∧ Below w.heap.size w w' := by
  obtain ⟨s, at_, t⟩ := x
  obtain ⟨hs, ⟨ha1, ha2⟩, ht⟩ := hx
  simp only at hs ha1 ha2 ht ⊢
  obtain ⟨W, hW⟩ : ∃ W, W = w.alloc (.cells #[.string s, .int .i64 at_, .float .f64 t] 73) := ⟨_, rfl⟩
  have hBW : Below w.heap.size w W := by rw [hW]; exact (Below.refl _ _).alloc (Nat.le_refl _) _
  have HBW := Lib.hid hBW
  have hlt : w.heap.size < W.heap.size := by rw [hW]; simp
  have HSS : Hid (∀ u : World, Below W.heap.size W u → u.cell? ⟨w.heap.size, 0, none⟩ = some (.string s) ∧ u.cell? ⟨w.heap.size, 1, none⟩ = some (.int .i64 at_) ∧ u.cell? ⟨w.heap.size, 2, none⟩ = some (.float .f64 t)) := by
    show ∀ u : World, _ → _
    intro u hu
    rw [hu.cell hlt, hu.cell hlt, hu.cell hlt, hW]
    refine ⟨?_, ?_, ?_⟩ <;> (rw [World.cell?_alloc_at _ _ _ _ rfl]; rfl)
  obtain ⟨F, hF⟩ : ∃ F : ByteArray, F = ⟨(Lib.itoa at_).toArray⟩ := ⟨_, rfl⟩
  obtain ⟨T, hTt⟩ : ∃ T : ByteArray, T = ⟨(txtH t).toArray⟩ := ⟨_, rfl⟩
  have hFs : F.size ≤ 21 := by rw [hF]; show (Lib.itoa at_).toArray.size ≤ 21; rw [List.size_toArray]; exact Lib.itoa_length_le at_ ha1 ha2
  have hTs : T.size = 16 := by rw [hTt]; show (txtH t).toArray.size = 16; simp [txtH_len ht]
  have HF : Hid (∀ u, Below W.heap.size W u → Calls Tryd.prog 138 #[.int .i64 at_, .int .i64 10] u fun e w' => e = .returned (.string F) ∧ Hid (Below W.heap.size W w')) := by
    show ∀ u, _
    intro u hu
    rw [hF]
    refine (Tryd.strconv_FormatInt_10 at_ ha1 ha2 u (hP.below (hBW.trans (hu.mono hBW.size)))).mono ?_
    rintro e w' ⟨he, k, os, rfl⟩
    exact ⟨he, hu.trans ((below_growL u k os).mono hu.size)⟩
  have HX : Hid (∀ u, Below W.heap.size W u → Calls Tryd.prog 38 #[.float .f64 t] u fun e w' => e = .returned (.string T) ∧ Hid (Below W.heap.size W w')) := by
    show ∀ u, _
    intro u hu
    rw [hTt]
    refine (spanText_ok t ht u (hT.below (hBW.trans (hu.mono hBW.size)))).mono ?_
    rintro e w' ⟨he, hb⟩
    exact ⟨he, hu.trans (hb.mono hu.size)⟩
  obtain ⟨A1, a1, z1, r1⟩ := cat_runL (P := Tryd.prog) s ⟨#[32]⟩ (by show _ + 1 ≤ _; omega)
  have z1' : A1.size = s.size + 1 := z1
  obtain ⟨A2, a2, z2, r2⟩ := cat_runL (P := Tryd.prog) A1 F (by omega)
  obtain ⟨A3, a3, z3, r3⟩ := cat_runL (P := Tryd.prog) A2 ⟨#[32]⟩ (by show _ + 1 ≤ _; omega)
  have z3' : A3.size = A2.size + 1 := z3
  obtain ⟨A4, a4, z4, r4⟩ := cat_runL (P := Tryd.prog) A3 T (by omega)
  obtain ⟨A5, a5, _, r5⟩ := cat_runL (P := Tryd.prog) A4 ⟨#[10]⟩ (by show _ + 1 ≤ _; omega)
  have HV : Hid (A5 = txB (s, at_, t)) := by
    show _ = _
    apply ba_ext
    rw [txB_list, a5, a4, a3, a2, a1, hF, hTt]
    simp [txS]
  have HBD : Hid (Below W.heap.size W W.drew) := by show Below _ _ _; exact (Below.refl _ _).drew
  have HFIN : Hid (∀ u, Below W.heap.size W u → Below w.heap.size w u) := by show ∀ u, _; exact fun u hu => HBW.out.trans (hu.mono HBW.out.size)
  clear a1 a2 a3 a4 a5 z1 z1' z2 z3 z3' z4 hF hTt hFs hTs hT hP hBW hs ha1 ha2 ht hlt
  go_enter Tryd.func95, Tryd.ntmps95
  go_wp2_with fail
  rw [← hW]
  clear hW
  go_region_held3 (fun u : World => u.cell? ⟨w.heap.size, 0, none⟩ = some (.string s) ∧ u.cell? ⟨w.heap.size, 1, none⟩ = some (.int .i64 at_) ∧ u.cell? ⟨w.heap.size, 2, none⟩ = some (.float .f64 t))
    (first | exact HSS.out _ HBD.out | exact HSS.out _ HBF.out | exact HSS.out _ HBT.out)
    (first
      | (go_at_call 138; refine (HF.out _ (by first | exact HBT.out | exact HBD.out)).mono ?_; rintro e wf ⟨rfl, HBF⟩)
      | (go_at_call 38; refine (HX.out _ (by first | exact HBF.out | exact HBD.out)).mono ?_; rintro e wt ⟨rfl, HBT⟩))
  all_goals
    go_wp2
    go_ret
    exact ⟨by rw [HV.out]; rfl, HFIN.out _ (by first | exact HBF.out | exact HBT.out)⟩
end Go.Proofs.YtlhhcgiifgkngaaDoor
