/- The walks of log.Print and of the laws' check of package log. Conditions: the stamps read as listed; the tables read as listed. -/
import Derived.Test.YtlhhcgiifgkngaaDoorLogTextW
import Derived.Test.YtlhhcgiifgkngaaDoorLogCheckW
import Derived.Test.YtlhhcgiifgkngaaDoorShelfS
namespace Go.Proofs.YtlhhcgiifgkngaaDoor
open Go.RowKit Go.Shelf Go.Sort
theorem bldL_below {T e : TypeId} {B b : Nat} {bs : List Value} {w w' : World} (h : Lib.IsBuilderF T e B b bs w) (hb : Below w.heap.size w w') : Lib.IsBuilderF T e B b bs w' := by
  have key : ∀ p, Lib.BuilderAtF T e B b p bs w → Lib.BuilderAtF T e B b p bs w' := by
    intro p h
    have hlt := h.lt
    obtain ⟨h1, v, h2, h3, h4⟩ := h
    refine ⟨h1, v, ?_, h3.kept (row := none) ⟨hb.os, hb.tape, hb.output, hb.size, fun k hk _ => hb.block k hk⟩ ?_, h4⟩
    · rw [hb.block b hlt]; exact h2
    · cases hq : v.ownBlock with
      | none => exact .inl rfl
      | some k => exact .inr (fun e => by cases e)
  rcases h with h | h
  · exact .inl (key _ h)
  · exact .inr (key _ h)
theorem lbL (w : World) (o : Obj) : Below w.heap.size w (w.alloc o) := (Below.refl _ _).alloc (Nat.le_refl _) _
/-- the text of stamps -/
def txA (l : List StP) : List UInt8 := (l.map txS).flatten
theorem txA_cons (x : StP) (l : List StP) : txA (x :: l) = txS x ++ txA l := by simp [txA]
theorem txA_snoc {l : List StP} {k : Nat} (h : k < l.length) : txA (l.take (k + 1)) = txA (l.take k) ++ txS (l.getD k default) := by
  unfold txA
  rw [List.take_add_one, get_D h, List.map_append, List.flatten_append]
  simp
/-- what passes has a short text -/
theorem txS_short {x : StP} (h : stOk x) (ht : x.2.2 < 2 ^ 64) : (txS x).length ≤ 100 := by
  obtain ⟨h1, ⟨h2, h3⟩, _⟩ := h
  have hn : x.1.size ≤ 40 := by
    unfold nameE at h1
    split at h1
    · cases h1
    · rename_i q
      rw [not_or] at q
      omega
  have hi := Lib.itoa_length_le x.2.1 (by omega) (by omega)
  have hh := txtH_len ht
  have hs := Lib.size_eq x.1
  unfold txS
  simp only [List.length_append, List.length_cons, List.length_nil]
  omega
theorem txA_short : ∀ (l : List StP), (∀ x ∈ l, (txS x).length ≤ 100) → (txA l).length ≤ 100 * l.length := by
  intro l
  induction l with
  | nil => intro _; simp [txA]
  | cons x l ih =>
    intro h
    rw [txA_cons, List.length_append, List.length_cons]
    have := ih fun y hy => h y (List.mem_cons_of_mem _ hy)
    have := h x List.mem_cons_self
    omega
/-- what Print answers -/
def PrintPost (w : World) (l : List StP) (e : Ending) (w' : World) : Prop :=
  ((∃ E : Int, E ≠ 0 ∧ ¬ ChkS l ∧ e = .returned (.tuple #[.string ⟨#[]⟩, .int .i64 E])) ∨ (ChkS l ∧ e = .returned (.tuple #[.string ⟨(txA l).toArray⟩, .int .i64 0]))) ∧ Below w.heap.size w w'
set_option maxHeartbeats 8000000 in
set_option maxRecDepth 100000 in
theorem LogPrint_ok (p : Option Addr) (n c : Nat) (l : List StP) (w : World) (h : StAt w p n c l) (hw : ∀ x ∈ l, stWf x) (hT : Tab w) (hP : PowT w) :
    Calls Tryd.prog 48 #[.slice p n c] w (PrintPost w l) := by
  have hC := LogCheck_ok p n c l w h hw
  have hl := h.len
  subst hl
  have hbig := h.big
  have H := Lib.hid h
  have HW := Lib.hid hw
  have HT := Lib.hid hT
  have HP := Lib.hid hP
  have HC := Lib.hid hC
  clear h hw hT hP hC
  go_enter Tryd.func48, Tryd.ntmps48
  go_wp2_with fail
  refine HC.out.mono ?_
  rintro e w1 ⟨⟨E, rfl, hcase⟩, hb1⟩
  have HB1 := Lib.hid hb1
  clear HC hb1
  rcases hcase with ⟨rfl, hok⟩ | ⟨hE, hno⟩
  · have HOK := Lib.hid hok
    have HBD0 : Hid (Lib.IsBuilderF 151 5 w1.heap.size w1.heap.size (Lib.byteCells []) (w1.alloc (.cells #[.pointer none, .slice none 0 0] 151))) :=
      .inl ⟨Nat.le_refl _, .slice none 0 0, heap_alloc_new _ _, World.ownsRowF_nil _ _ _ _, by simp [Value.ownBlock]⟩
    clear hok
    go_wp2
    go_loopw [15] (fun i wr => ∃ k : Nat, k ≤ l.length ∧ i = .int .i64 k ∧ Hid (Lib.IsBuilderF 151 5 w1.heap.size w1.heap.size (Lib.byteCells (txA (l.take k))) wr) ∧ Hid (Below w1.heap.size w1 wr)) (fun i _ => l.length - (intOf i).toNat)
    case atStart => exact ⟨0, Nat.zero_le _, rfl, HBD0.out, lbL w1 _⟩
    case round =>
      clear HBD0
      obtain ⟨k, hk, rfl, HBD, HWR⟩ := hrel
      by_cases hlt : k < l.length
      · have HBr : Hid (Below w.heap.size w wr) := by show Below _ _ _; exact HB1.out.trans (HWR.out.mono HB1.out.size)
        obtain ⟨b, o, rfl, hbb, hc0, hc1, hc2⟩ := (H.out.below HBr.out).cell (get_D hlt)
        have hm := List.mem_of_getElem? (get_D hlt)
        have hwx := HW.out _ hm
        have hox := HOK.out.2.1 _ hm
        have HSN := Lib.hid (txA_snoc hlt)
        generalize l.getD k default = x at *
        have HXL := Lib.hid (txS_short hox hwx.2)
        obtain ⟨s, at_, t⟩ := x
        simp only [sN, sA, sT] at hc0 hc1 hc2
        obtain ⟨X, hX⟩ : ∃ X : World, X = wr.alloc (.cells #[.string s, .int .i64 at_, .float .f64 t] 73) := ⟨_, rfl⟩
        have d0 : X.cell? ⟨wr.heap.size, 0, none⟩ = some (.string s) := by rw [hX, World.cell?_alloc_at _ _ _ _ rfl]; rfl
        have d1 : X.cell? ⟨wr.heap.size, 1, none⟩ = some (.int .i64 at_) := by rw [hX, World.cell?_alloc_at _ _ _ _ rfl]; rfl
        have d2 : X.cell? ⟨wr.heap.size, 2, none⟩ = some (.float .f64 t) := by rw [hX, World.cell?_alloc_at _ _ _ _ rfl]; rfl
        have hbx : Below wr.heap.size wr X := by rw [hX]; exact lbL wr _
        have HBX : Hid (Below w1.heap.size w1 X) := by show Below _ _ _; exact HWR.out.trans (hbx.mono HWR.out.size)
        have HBDX := Lib.hid (bldL_below HBD.out hbx)
        have hki : (k : Int) < (l.length : Int) := by omega
        have HTX : Hid (Calls Tryd.prog 95 #[.agg #[.string s, .int .i64 at_, .float .f64 t]] X fun e w' => e = .returned (.string (txB (s, at_, t))) ∧ Below X.heap.size X w') := by
          show Calls _ _ _ _ _
          have hsz : s.size ≤ 140737488355328 := by
            have h1 := hox.1
            unfold nameE at h1
            split at h1
            · cases h1
            · rename_i q
              rw [not_or] at q
              have q2 : ¬ 40 < s.size := q.2
              omega
          have h2 := hox.2.1
          exact logText_ok (s, at_, t) ⟨hsz, ⟨by have := h2.1; omega, by have := h2.2; omega⟩, hwx.2⟩ X (HT.out.below (HB1.out.trans (HBX.out.mono HB1.out.size))) (HP.out.below (HB1.out.trans (HBX.out.mono HB1.out.size)))
        have hsh : (txA (l.take k)).length ≤ 20000 := by
          have h1 := txA_short (l.take k) fun y hy => txS_short (HOK.out.2.1 y (List.mem_of_mem_take hy)) (HW.out y (List.mem_of_mem_take hy)).2
          have h2 := HOK.out.1
          rw [List.length_take] at h1
          omega
        obtain ⟨tx, htx⟩ : ∃ tx, tx = txB (s, at_, t) := ⟨_, rfl⟩
        have HTL : Hid (tx.data.toList = txS (s, at_, t)) := by show _ = _; rw [htx, txB_list]
        rw [← htx] at HTX
        have htxs : tx.size ≤ 100 := by rw [Lib.size_eq, HTL.out]; exact HXL.out
        have hbl : (Lib.byteCells (txA (l.take k))).length = (txA (l.take k)).length := Lib.byteCells_length _
        have HWS : Hid (∀ u, Below X.heap.size X u → Calls Tryd.prog 94 #[.pointer (some ⟨w1.heap.size, 0, none⟩), .string tx] u fun e w' => (∃ v, e = .returned v) ∧
            Lib.IsBuilderF 151 5 w1.heap.size w1.heap.size (Lib.byteCells (txA (l.take (k + 1)))) w' ∧ Below w1.heap.size w1 w') := by
          show ∀ u, _
          intro u hu
          refine (Tryd.Builder_WriteString_b w1.heap.size w1.heap.size (Lib.byteCells (txA (l.take k))) tx u (bldL_below HBDX.out hu) (by rw [hbl]; omega) (Nat.le_trans HBX.out.size hu.size)).mono ?_
          rintro e w' ⟨rfl, h2, h3, h4⟩
          refine ⟨⟨_, rfl⟩, .inr ?_, HBX.out.trans ((hu.mono HBX.out.size).trans (h3.mono (Nat.le_refl _)))⟩
          rw [HSN.out, ← HTL.out]
          unfold Lib.byteCells at h2 ⊢
          rw [List.map_append]
          exact h2
        clear hwx hox hm htx hsh htxs hbl hbx
        go_upto_region 8 with fail
        rw [← hX]
        clear hX hc0 hc1 hc2
        go_wp2_with (first
          | (go_at_call 95; refine HTX.out.mono ?_; rintro e w5 ⟨rfl, hb⟩; have HB5 := Lib.hid hb; clear hb)
          | (go_at_call 94; refine (HWS.out _ HB5.out).mono ?_; rintro e w6 ⟨⟨v6, rfl⟩, hI, hB⟩; have HI6 := Lib.hid hI; have HB6 := Lib.hid hB; clear hI hB))
        go_roundw
        case rel => exact ⟨k + 1, by omega, by go_num, HI6.out, HB6.out⟩
        case measure => simp [intOf]; omega
      · obtain rfl : k = l.length := by omega
        have HBD2 := HBD
        rw [List.take_length] at HBD2
        clear hlt hk
        go_wp2_with (go_at_call 96; refine (Tryd.Builder_String_any_f w1.heap.size w1.heap.size (txA l) _ HBD2.out HWR.out.size).mono ?_; rintro e w5 ⟨rfl, _, hb5⟩; have HB5 := Lib.hid hb5; clear hb5)
        go_ret2
        exact ⟨.inr ⟨HOK.out, rfl⟩, HB1.out.trans ((HWR.out.trans (HB5.out.mono (Nat.le_refl _))).mono HB1.out.size)⟩
  · obtain ⟨i1, i2⟩ := int_ne' hE
    have HNO := Lib.hid (And.intro hE hno)
    clear hE hno
    go_wp2
    go_ret2
    exact ⟨.inl ⟨E, HNO.out.1, HNO.out.2, rfl⟩, HB1.out⟩
end Go.Proofs.YtlhhcgiifgkngaaDoor
