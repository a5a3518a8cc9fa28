/- The walk of line.Print. Conditions: the texts are at most 2^20 bytes; the machine's MaxLen is laid. -/
import Derived.Test.YtchjogcdenkhcaaDoorLinePlainW
import Derived.Test.YtchjogcdenkhcaaDoorShelfS
namespace Go.Proofs.YtchjogcdenkhcaaDoor
open Go.RowKit Go.Shelf
/-- may the lines be printed? -/
def prOkB : List LnH → Int → Bool
  | [], _ => true
  | x :: l, a => decide (a < x.1) && plnB x.2.data.toList && prOkB l x.1
/-- the printed lines -/
def prI : List LnH → Int → Bl
  | [], _ => []
  | x :: l, a => List.replicate (x.1 - a - 1).toNat 10 ++ (shw x.2.data.toList ++ 10 :: prI l x.1)
def toN (x : LnH) : Ln := (x.1.toNat, x.2.data.toList)
theorem prOk_of : ∀ (l : List LnH) (a : Int), 0 ≤ a → prOkB l a = true → PrOk (l.map toN) a.toNat ∧ prI l a = prn (l.map toN) a.toNat ∧ (∀ x ∈ l, 0 < x.1 ∧ joinE (txt (shw x.2.data.toList)) = 0) := by
  intro l
  induction l with
  | nil => intro a _ _; exact ⟨trivial, rfl, fun x hx => by cases hx⟩
  | cons x l ih =>
    intro a ha h
    unfold prOkB at h
    simp only [Bool.and_eq_true, decide_eq_true_iff] at h
    obtain ⟨⟨h1, h2⟩, h3⟩ := h
    obtain ⟨k1, k2, k3⟩ := ih x.1 (by omega) h3
    obtain ⟨p1, p2⟩ := plnB_plain h2
    refine ⟨⟨by show a.toNat < x.1.toNat; omega, p1, k1⟩, ?_, fun y hy => ?_⟩
    · show List.replicate _ _ ++ _ = List.replicate (x.1.toNat - a.toNat - 1) _ ++ _
      rw [k2, show (x.1 - a - 1).toNat = x.1.toNat - a.toNat - 1 by omega]
    · rcases List.mem_cons.1 hy with rfl | hy
      · exact ⟨by omega, p2⟩
      · exact k3 y hy
theorem badB_app (a b : Bl) : badB (a ++ b) = (badB a || badB b) := by unfold badB; rw [List.any_append]
theorem prI_good : ∀ (l : List LnH) (a : Int), (∀ x ∈ l, joinE (txt (shw x.2.data.toList)) = 0) → badB (prI l a) = false := by
  intro l
  induction l with
  | nil => intro a _; rfl
  | cons x l ih =>
    intro a h
    have h1 := (joinE_len (h x List.mem_cons_self)).2
    rw [txt_list] at h1
    have h2 := ih x.1 (fun y hy => h y (List.mem_cons_of_mem _ hy))
    show badB (List.replicate _ 10 ++ (shw x.2.data.toList ++ 10 :: prI l x.1)) = false
    have h3 : badB (List.replicate (x.1 - a - 1).toNat 10) = false := by
      unfold badB
      rw [List.any_eq_false]
      intro c hc
      rw [List.eq_of_mem_replicate hc]
      decide
    have h4 : badB (10 :: prI l x.1) = badB (prI l x.1) := rfl
    rw [badB_app, badB_app, h3, h1, h4, h2]
    rfl
theorem toH_toN {x : LnH} (h : 0 < x.1) : toH (toN x) = x := by
  obtain ⟨a, b⟩ := x
  simp only at h
  unfold toH toN
  simp only [list_txt]
  rw [Int.toNat_of_nonneg (by omega)]
/-- what is printed is joined again -/
theorem print_back {l : List LnH} (h : prOkB l 0 = true) (hs : (prI l 0).length ≤ 20000) : joinE (txt (prI l 0)) = 0 ∧ (joinL (prI l 0)).map toH = l := by
  obtain ⟨k1, k2, k3⟩ := prOk_of l 0 (by omega) h
  constructor
  · unfold joinE
    rw [txt_size, txt_list, if_neg (by omega), prI_good l 0 (fun x hx => (k3 x hx).2), if_neg (by decide)]
  · have := join_prn (l.map toN) 0 k1
    rw [k2]
    show (jg (prn (l.map toN) 0) 0).map toH = l
    rw [this, List.map_map]
    exact (List.map_congr_left fun x hx => toH_toN (k3 x hx).1).trans (List.map_id l)
theorem bldF_below {T e : TypeId} {B b : Nat} {bs : List Value} {w w' : World} (h : Lib.IsBuilderF T e B b bs w) (hb : Below w.heap.size w w') : Lib.IsBuilderF T e B b bs w' := by
  have key : ∀ p, Lib.BuilderAtF T e B b p bs w → Lib.BuilderAtF T e B b p bs w' := by
    intro p h
    have hlt := h.lt
    obtain ⟨h1, v, h2, h3, h4⟩ := h
    refine ⟨h1, v, ?_, h3.kept (row := none) ⟨hb.os, hb.tape, hb.output, hb.size, fun k hk _ => hb.block k hk⟩ ?_, h4⟩
    · rw [hb.block b hlt]; exact h2
    · cases hq : v.ownBlock with
      | none => exact .inl rfl
      | some k => exact .inr (fun e => by cases e)
  rcases h with h | h
  · exact .inl (key _ h)
  · exact .inr (key _ h)
theorem lb1 (w : World) (o : Obj) : Below w.heap.size w (w.alloc o) := (Below.refl _ _).alloc (Nat.le_refl _) _
theorem repeat_rep (c : UInt8) (n : Nat) : Lib.repeatL [c] n = List.replicate n c := by
  induction n with
  | zero => rfl
  | succ n ih => show [c] ++ Lib.repeatL [c] n = _; rw [ih, List.replicate_succ]; rfl
theorem drop_cons {α : Type} {l : List α} {k : Nat} {x : α} (h : l[k]? = some x) : l.drop k = x :: l.drop (k + 1) := by
  have hk := (List.getElem?_eq_some_iff.1 h).1
  rw [List.drop_eq_getElem_cons hk, (List.getElem?_eq_some_iff.1 h).2]
set_option maxHeartbeats 8000000 in
set_option maxRecDepth 100000 in
theorem Print_ok (p : Option Addr) (n c : Nat) (l : List LnH) (w : World) (hM : ML w) (h : P2At hF hG w p n c l) (hr : ∀ x ∈ l, x.1 ≤ 9223372036854775807 ∧ x.2.size ≤ 1048576) :
    Calls Tryd.prog 16 #[.slice p n c] w fun e w' => (∃ t E, e = .returned (.tuple #[.string t, .int .i64 E]) ∧ ((E ≠ 0 ∧ t = ⟨#[]⟩) ∨ (E = 0 ∧ prOkB l 0 = true ∧ t = txt (prI l 0) ∧ (prI l 0).length ≤ 20000))) ∧ Below w.heap.size w w' := by
  have hl := h.len
  have hbg := h.big
  subst hl
  have HL := Lib.hid h
  have HR := Lib.hid hr
  have HM := Lib.hid (fun u (hu : Below w.heap.size w u) => hM.below hu)
  clear h hr hM
  go_enter Tryd.func16, Tryd.ntmps16
  go_wp2
  go_loopw [13, 4] (fun i a wr => ∃ (k : Nat) (z : Int), k ≤ l.length ∧ i = .int .i64 k ∧ a = .int .i64 z ∧ 0 ≤ z ∧ Hid (prOkB l 0 = prOkB (l.drop k) z) ∧ Hid (Below w.heap.size w wr)) (fun i _ _ => l.length - (intOf i).toNat)
  case atStart => exact ⟨0, 0, Nat.zero_le _, rfl, rfl, by omega, rfl, Below.refl _ _⟩
  case round =>
    obtain ⟨k, z, hk, rfl, rfl, hz, HP, HW⟩ := hrel
    by_cases hlt : k < l.length
    · have hel := List.getElem?_eq_getElem hlt
      obtain ⟨b, o, rfl, hb, c1, c2⟩ := (HL.out.below HW.out).cell hel
      have hmm : l[k] ∈ l := List.getElem_mem hlt
      obtain ⟨r1, r2⟩ := HR.out _ hmm
      have HD : Hid (prOkB (l.drop k) z = (decide (z < l[k].1) && plnB l[k].2.data.toList && prOkB (l.drop (k + 1)) l[k].1)) := by
        show _ = _
        rw [drop_cons hel]; rfl
      rw [← Nat.add_assoc] at c2
      clear hel hmm
      generalize l[k] = y at *
      obtain ⟨y1, y2⟩ := y
      simp only [hF, hG] at c1 c2 HD r1 r2
      have HPL := Lib.hid (fun u (hu : Below wr.heap.size wr u) => plain_ok y2 r2 u (HM.out u (HW.out.trans (hu.mono HW.out.size))))
      have hk1 : (k : Int) < (l.length : Int) := by omega
      by_cases hyz : y1 ≤ z
      · have HPF : Hid (prOkB l 0 = false) := by
          show _ = _
          rw [HP.out, HD.out, decide_eq_false (by omega)]; rfl
        have hyd : decide (y1 ≤ z) = true := decide_eq_true hyz
        go_wp2
        go_ret2
        exact ⟨⟨⟨#[]⟩, 3, rfl, .inl ⟨by decide, rfl⟩⟩, HW.out.trans ((lb1 wr _).mono HW.out.size)⟩
      · have hyd : decide (y1 ≤ z) = false := decide_eq_false hyz
        have HB0 : Hid (∀ o u, Below (wr.alloc o).heap.size (wr.alloc o) u → Below wr.heap.size wr u) := fun o u hu => (lb1 wr o).trans (hu.mono (lb1 wr o).size)
        have HCX : Hid (∀ u, Below (wr.alloc (.cells #[.int .i64 y1, .string y2] 30)).heap.size (wr.alloc (.cells #[.int .i64 y1, .string y2] 30)) u → u.cell? ⟨wr.heap.size, 0, none⟩ = some (.int .i64 y1)) := by
          show ∀ u, _
          intro u hu
          rw [hu.cell (by show wr.heap.size < _; simp)]; simp
        cases hpl : plnB y2.data.toList
        · have HPF : Hid (prOkB l 0 = false) := by
            show _ = _
            rw [HP.out, HD.out, hpl, Bool.and_false]; rfl
          go_wp2_with (go_at_call 37; refine (HPL.out _ (lb1 wr _)).mono ?_; rw [hpl]; rintro e w2 ⟨rfl, hb2⟩; have HB2 := Lib.hid hb2; clear hb2)
          go_ret2
          exact ⟨⟨⟨#[]⟩, 3, rfl, .inl ⟨by decide, rfl⟩⟩, HW.out.trans ((HB0.out _ _ HB2.out).mono HW.out.size)⟩
        · go_wp2_with (go_at_call 37; refine (HPL.out _ (lb1 wr _)).mono ?_; rw [hpl]; rintro e w2 ⟨rfl, hb2⟩; have HB2 := Lib.hid hb2; have hcx := HCX.out _ hb2; clear hb2)
          go_roundw
          case rel => exact ⟨k + 1, y1, by omega, by go_num, rfl, by omega, by show _ = _; rw [HP.out, HD.out, hpl, decide_eq_true (by omega)]; rfl, HW.out.trans ((HB0.out _ _ HB2.out).mono HW.out.size)⟩
          case measure => simp [intOf]; omega
    · obtain rfl : k = l.length := by omega
      rw [List.drop_length] at HP
      have HOK : Hid (prOkB l 0 = true) := HP.out.trans rfl
      clear HP hlt hk
      generalize wr = wa at *
      have HBD0 : Hid (Lib.IsBuilderF 53 5 wa.heap.size wa.heap.size (Lib.byteCells []) (wa.alloc (.cells #[.pointer none, .slice none 0 0] 53))) :=
        .inl ⟨Nat.le_refl _, .slice none 0 0, heap_alloc_new _ _, World.ownsRowF_nil _ _ _ _, by simp [Value.ownBlock]⟩
      go_wp2
      go_loopw [32, 8] (fun i a w3 => ∃ (k : Nat) (z : Int) (bs : Bl), k ≤ l.length ∧ i = .int .i64 k ∧ a = .int .i64 z ∧ 0 ≤ z ∧ bs.length ≤ 4000000 ∧ Hid (prOkB (l.drop k) z = true) ∧ Hid (prI l 0 = bs ++ prI (l.drop k) z) ∧
        Hid (Lib.IsBuilderF 53 5 wa.heap.size wa.heap.size (Lib.byteCells bs) w3) ∧ Hid (Below wa.heap.size wa w3)) (fun i _ _ => l.length - (intOf i).toNat)
      case atStart => exact ⟨0, 0, [], Nat.zero_le _, rfl, rfl, by omega, by simp, HOK.out, rfl, HBD0.out, lb1 wa _⟩
      case round =>
        clear HBD0
        obtain ⟨k, z, bs, hk, rfl, rfl, hz, hbs, HPO, HPI, HBD, HW3⟩ := hrel
        have hbl : (Lib.byteCells bs).length = bs.length := Lib.byteCells_length bs
        by_cases hlt : k < l.length
        · have hel := List.getElem?_eq_getElem hlt
          obtain ⟨b, o, rfl, hb, c1, c2⟩ := (HL.out.below (HW.out.trans (HW3.out.mono HW.out.size))).cell hel
          have hmm : l[k] ∈ l := List.getElem_mem hlt
          obtain ⟨r1, r2⟩ := HR.out _ hmm
          have HPO2 : Hid ((decide (z < l[k].1) && plnB l[k].2.data.toList && prOkB (l.drop (k + 1)) l[k].1) = true) := by
            have := HPO.out
            rw [drop_cons hel] at this
            exact this
          have HPI2 : Hid (prI l 0 = bs ++ (List.replicate (l[k].1 - z - 1).toNat 10 ++ (shw l[k].2.data.toList ++ 10 :: prI (l.drop (k + 1)) l[k].1))) := by
            have := HPI.out
            rw [drop_cons hel] at this
            exact this
          rw [← Nat.add_assoc] at c2
          clear hel hmm HPO HPI
          generalize l[k] = y at *
          obtain ⟨y1, y2⟩ := y
          simp only [hF, hG] at c1 c2 r1 r2 HPO2 HPI2
          have hk1 : (k : Int) < (l.length : Int) := by omega
          obtain ⟨⟨hz1, HPL⟩, HPO⟩ : (z < y1 ∧ Hid (plnB y2.data.toList = true)) ∧ Hid (prOkB (l.drop (k + 1)) y1 = true) := by
            have := HPO2.out
            simp only [Bool.and_eq_true, decide_eq_true_iff] at this
            exact this
          obtain ⟨W0, hW0⟩ : ∃ W0, W0 = wr.alloc (.cells #[.int .i64 y1, .string y2] 30) := ⟨_, rfl⟩
          have hb0 : Below wr.heap.size wr W0 := by rw [hW0]; exact lb1 wr _
          have cx1 : W0.cell? ⟨wr.heap.size, 0, none⟩ = some (.int .i64 y1) := by rw [hW0]; simp
          have cx2 : W0.cell? ⟨wr.heap.size, 1, none⟩ = some (.string y2) := by rw [hW0]; simp
          have hx : W0.heap[wr.heap.size]? = some (.cells #[.int .i64 y1, .string y2] 30 (0, 0)) := by rw [hW0]; exact heap_alloc_new _ _
          have HBD1 := Lib.hid (bldF_below HBD.out hb0)
          have HW0 : Hid (Below wa.heap.size wa W0) := HW3.out.trans (hb0.mono HW3.out.size)
          have hwx : wa.heap.size < wr.heap.size := by
            rcases HBD.out with h | h
            · exact h.lt
            · exact h.lt
          have HX := Lib.hid hx
          have f1 : IntKind.i64.wrap (y1 - z) = y1 - z := by rw [IntKind.wrap_i64]; omega
          have f2 : IntKind.i64.wrap (20000 - (bs.length : Int)) = 20000 - (bs.length : Int) := by rw [IntKind.wrap_i64]; omega
          have f3 : IntKind.i64.wrap (y1 - z - 1) = y1 - z - 1 := by rw [IntKind.wrap_i64]; omega
          clear hx hb0
          go_upto_region 14 with fail
          rw [← hW0]
          clear hW0 c1 c2 HPO2 hb
          have HLEN : Hid (∀ n, Calls Tryd.prog 38 #[.pointer (some ⟨wa.heap.size, 0, none⟩)] (W0.drewN n) fun e w' => e = .returned (.int .i64 bs.length) ∧ ∃ m, w' = W0.drewN m) := by
            show ∀ n, _
            intro n
            refine (Tryd.Builder_Len_f _ _ _ _ (bldF_below HBD1.out (below_drawsP (Below.refl _ _) n))).mono ?_
            rw [hbl]
            rintro e w' ⟨h1, h2⟩
            exact ⟨h1, n, h2⟩
          by_cases hgt : 20000 - (bs.length : Int) < y1 - z
          · have hgd : decide (20000 - (bs.length : Int) < y1 - z) = true := decide_eq_true hgt
            go_quiet ((go_at_call 38; exact HLEN.out _))
            go_wp2
            go_ret2
            exact ⟨⟨⟨#[]⟩, 2, rfl, .inl ⟨by decide, rfl⟩⟩, HW.out.trans ((below_drawsP HW0.out _).mono HW.out.size)⟩
          · have hgd : decide (20000 - (bs.length : Int) < y1 - z) = false := decide_eq_false hgt
            go_quiet ((go_at_call 38; exact HLEN.out _))
            have hb1 : Below W0.heap.size W0 (W0.drewN nq) := below_drawsP (Below.refl _ _) nq
            have hxl : wr.heap.size < W0.heap.size := (Array.getElem?_eq_some_iff.1 HX.out).1
            have hx1 : (W0.drewN nq).heap[wr.heap.size]? = some (.cells #[.int .i64 y1, .string y2] 30 (0, 0)) := by rw [hb1.block _ hxl]; exact HX.out
            have HBDr := Lib.hid (bldF_below HBD1.out hb1)
            have HWr : Hid (Below wa.heap.size wa (W0.drewN nq)) := HW0.out.trans (hb1.mono HW0.out.size)
            have cy1 : (W0.drewN nq).cell? ⟨wr.heap.size, 0, none⟩ = some (.int .i64 y1) := (hb1.cell hxl).trans cx1
            have cy2 : (W0.drewN nq).cell? ⟨wr.heap.size, 1, none⟩ = some (.string y2) := (hb1.cell hxl).trans cx2
            have hxl1 : wr.heap.size < (W0.drewN nq).heap.size := Nat.lt_of_lt_of_le hxl hb1.size
            have HX1 := Lib.hid hx1
            clear HBD HBD1 HLEN cx1 cx2 HX hb1 hxl hx1 HW0
            generalize W0.drewN nq = W1 at *
            clear W0
            go_upto_region 16 with fail
            obtain ⟨cn, hcn⟩ : ∃ cn, cn = (y1 - z - 1).toNat := ⟨_, rfl⟩
            have hcz : y1 - z - 1 = (cn : Int) := by omega
            have hcb : cn + bs.length ≤ 20000 := by omega
            have hsb := (joinE_len (plnB_plain HPL.out).2).1
            have hrl : (Lib.repeatL [10] cn).length = cn := by rw [Lib.repeatL_length]; simp
            obtain ⟨rp, hrp⟩ : ∃ rp : ByteArray, rp = ⟨(Lib.repeatL [10] cn).toArray⟩ := ⟨_, rfl⟩
            obtain ⟨sh, hsh⟩ : ∃ sh : ByteArray, sh = txt (shw y2.data.toList) := ⟨_, rfl⟩
            obtain ⟨u1, hu1⟩ : ∃ u1 : ByteArray, u1 = rp ++ sh := ⟨_, rfl⟩
            obtain ⟨u2, hu2⟩ : ∃ u2 : ByteArray, u2 = u1 ++ (⟨#[10]⟩ : ByteArray) := ⟨_, rfl⟩
            have rps : rp.size = cn := by rw [Lib.size_eq, hrp]; exact hrl
            have u1s : u1.size = rp.size + sh.size := by rw [hu1, ByteArray.size_append]
            have u2s : u2.size = u1.size + 1 := by rw [hu2, ByteArray.size_append]; rfl
            have u2l : u2.data.toList = List.replicate cn 10 ++ (shw y2.data.toList ++ [10]) := by
              rw [hu2, ByteArray.data_append, Array.toList_append, hu1, ByteArray.data_append, Array.toList_append, hrp, hsh, txt_list]
              simp [repeat_rep]
            rw [← hsh] at hsb
            have HRP : Hid (∀ u, Calls Tryd.prog 39 #[.string ⟨#[10]⟩, .int .i64 (cn : Int)] u fun e w' => e = .returned (.string rp) ∧ Below u.heap.size u w') := by
              show ∀ u, _
              intro u
              rw [hrp]
              exact Tryd.strings_Repeat ⟨#[10]⟩ cn u (by omega) (by show 1 * cn ≤ _; omega)
            have HSH : Hid (∀ u, Below W1.heap.size W1 u → Calls Tryd.prog 40 #[.string y2] u fun e w' => e = .returned (.string sh) ∧ Below u.heap.size u w') := by
              show ∀ u, _
              intro u hu
              rw [hsh]
              exact shown_ok y2 r2 u (HM.out u (HW.out.trans ((HWr.out.trans (hu.mono HWr.out.size)).mono HW.out.size)))
            have HWS : Hid (∀ u, Below W1.heap.size W1 u → Calls Tryd.prog 28 #[.pointer (some ⟨wa.heap.size, 0, none⟩), .string u2] u fun e w' => (∃ v, e = .returned v) ∧ w'.cell? ⟨wr.heap.size, 0, none⟩ = some (.int .i64 y1) ∧
                Lib.IsBuilderF 53 5 wa.heap.size wa.heap.size (Lib.byteCells (bs ++ u2.data.toList)) w' ∧ Below wa.heap.size wa w') := by
              show ∀ u, _
              intro u hu
              refine (Tryd.Builder_WriteString_b wa.heap.size wa.heap.size (Lib.byteCells bs) u2 u (bldF_below HBDr.out hu) (by rw [hbl]; omega) (Nat.le_trans HWr.out.size hu.size)).mono ?_
              rintro e w' ⟨rfl, h2, h3, h4⟩
              refine ⟨⟨_, rfl⟩, ?_, .inr ?_, HWr.out.trans ((hu.mono HWr.out.size).trans (h3.mono (Nat.le_refl _)))⟩
              · have := h4 wr.heap.size _ (by rw [hu.block _ hxl1]; exact HX1.out) (fun e => by injection e with e; omega) (fun c fz e => by cases e)
                simp [World.cell?, this]
              · unfold Lib.byteCells at h2 ⊢
                rw [List.map_append]
                exact h2
            have no1 : ¬ (9223372036854775807 < rp.size + sh.size) := by omega
            have no2 : ¬ (9223372036854775807 < u1.size + 1) := by omega
            have cat1 := hu1.symm
            have cat2 := hu2.symm
            have HCY : Hid (∀ u, Below W1.heap.size W1 u → u.cell? ⟨wr.heap.size, 0, none⟩ = some (.int .i64 y1) ∧ u.cell? ⟨wr.heap.size, 1, none⟩ = some (.string y2)) := by
              show ∀ u, _
              intro u hu
              exact ⟨(hu.cell hxl1).trans cy1, (hu.cell hxl1).trans cy2⟩
            have HPI3 : Hid (prI l 0 = (bs ++ u2.data.toList) ++ prI (l.drop (k + 1)) y1) := by
              show _ = _
              rw [HPI2.out, ← hcn, u2l]
              simp
            rw [hcz] at f3
            have f4 : IntKind.i64.wrap (y1 - z - 1) = (cn : Int) := by rw [hcz]; exact f3
            clear hrp hsh hu1 hu2 u2l HPI2 hcn hcz f3
            go_region_with (first
              | (go_at_call 39; refine (HRP.out _).mono ?_; rintro e w5 ⟨rfl, hb⟩; (first | (have HZ2 := Lib.hid (HZ1.out.trans (hb.mono HZ1.out.size)); obtain ⟨cz1, cz2⟩ := HCY.out _ HZ2.out) | (have HZ1 := Lib.hid (((Below.refl W1.heap.size W1).drew).trans hb); obtain ⟨cv1, cv2⟩ := HCY.out _ HZ1.out)); clear hb)
              | (go_at_call 28; refine (HWS.out _ HZ2.out).mono ?_; rintro e w6 ⟨⟨v6, rfl⟩, cw, hI, hB⟩; have HI6 := Lib.hid hI; have HB6 := Lib.hid hB; clear hI hB)
              | (go_at_call 40; first | (refine (HSH.out _ HZ1.out).mono ?_; rintro e w7 ⟨rfl, hb⟩; have HZ2 := Lib.hid (HZ1.out.trans (hb.mono HZ1.out.size)); obtain ⟨cz1, cz2⟩ := HCY.out _ HZ2.out; clear hb) | (refine (HSH.out _ ((Below.refl W1.heap.size W1).drew)).mono ?_; rintro e w7 ⟨rfl, hb⟩; have HZ1 := Lib.hid (((Below.refl W1.heap.size W1).drew).trans hb); obtain ⟨cv1, cv2⟩ := HCY.out _ HZ1.out; clear hb)))
            all_goals (go_wp2; go_roundw)
            all_goals first
              | exact ⟨k + 1, y1, bs ++ u2.data.toList, by omega, by go_num, rfl, by omega, by rw [List.length_append, ← Lib.size_eq]; omega, HPO.out, HPI3.out, HI6.out, HB6.out⟩
              | (simp [intOf]; omega)
        · obtain rfl : k = l.length := by omega
          have HPF : Hid (prI l 0 = bs) := by
            have := HPI.out
            rw [List.drop_length] at this
            show _ = _
            rw [this]
            exact List.append_nil _
          have HLN := Lib.hid (Tryd.Builder_Len_f _ _ _ _ HBD.out)
          rw [hbl] at HLN
          have HWe : Hid (Below w.heap.size w wr) := HW.out.trans (HW3.out.mono HW.out.size)
          have hsz3 := HW3.out.size
          clear hlt hk HPO HPI
          by_cases hgt : 20000 < (bs.length : Int)
          · go_wp2_with (go_at_call 38; refine HLN.out.mono ?_; rintro e w4 ⟨rfl, hw4⟩; subst hw4)
            go_ret2
            exact ⟨⟨⟨#[]⟩, 2, rfl, .inl ⟨by decide, rfl⟩⟩, HWe.out⟩
          · go_wp2_with (first
              | (go_at_call 38; refine HLN.out.mono ?_; rintro e w4 ⟨rfl, hw4⟩; subst hw4)
              | (go_at_call 29; refine (Tryd.Builder_String_any_f wa.heap.size wa.heap.size bs _ HBD.out HW3.out.size).mono ?_; rintro e w5 ⟨rfl, _, hb5⟩; have HB5 := Lib.hid hb5; clear hb5))
            go_ret2
            refine ⟨⟨⟨bs.toArray⟩, 0, rfl, .inr ⟨rfl, HOK.out, ?_, ?_⟩⟩, HW.out.trans ((HW3.out.trans (HB5.out.mono (Nat.le_refl _))).mono HW.out.size)⟩
            · rw [HPF.out]; rfl
            · rw [HPF.out]; omega
end Go.Proofs.YtchjogcdenkhcaaDoor
