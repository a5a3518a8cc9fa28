/- The walks of line.join and line.Join. Conditions: texts of at most 20000 bytes; the machine's MaxLen is laid. -/
import Derived.Test.YtchjogcdenkhcaaDoorLineW
import Derived.Test.YtchjogcdenkhcaaDoorPairs
import Derived.Test.YtchjogcdenkhcaaDoorBox2
import Derived.Test.YtchjogcdenkhcaaDoorConcatW
namespace Go.Proofs.YtchjogcdenkhcaaDoor
open Go.RowKit Go.Shelf
abbrev Ln := Nat × Bl
def lF (x : Ln) : Value := .int .i64 (x.1 : Int)
def lG (x : Ln) : Value := .string (txt x.2)
theorem info_line : (Tryd.prog.info? 30).map (fun i => (i.zero, i.size, i.bytes)) = some (some (.agg #[.int .i64 0, .string ⟨#[]⟩]), 2, 24) := by kernel_rfl
theorem app_line (w : World) {ops : Array Oper} {rest : List Oper} {o : Oper} {a : Act} {Q : Exit → Act → World → Prop} (hgd : o.guard = none) (s x : Operand)
    (ho : o.op = .call { callee := .builtin .append, args := #[s, x], argTypes := #[23, 23] })
    (base : Nat) (v : Value) (n : Nat) (xs : List Ln) (hs : a.eval s = v) (hown : w.ownsRow base 30 2 v n (cells2 lF lG xs))
    (g : Nat) (y : Ln) (hx : a.eval x = .slice (some ⟨g, 0, none⟩) 1 1) (hc0 : w.cell? ⟨g, 0, none⟩ = some (.int .i64 (y.1 : Int))) (hc1 : w.cell? ⟨g, 1, none⟩ = some (.string (txt y.2)))
    (hn : n ≤ 1000000) (hbase : base ≤ w.heap.size)
    (h : ∀ v' w', w'.ownsRow base 30 2 v' (n + 1) (cells2 lF lG (xs ++ [y])) → w.grownBy w' v.ownBlock → wpList Tryd.prog ops Q rest (a.put o.dst v') w') : wpList Tryd.prog ops Q (o :: rest) a w := by
  obtain ⟨i0, hi, hz0, hz1, hz2⟩ := info_parts info_line
  refine wpList_append_own w hgd s x 23 ho base 30 i0 _ 2 24 Tryd.underlying23 hi hz0 hz1 hz2 rfl (by decide) v n _ hs hown ⟨g, 0, none⟩ 1 1 [lF y, lG y] hx rfl ?_ ?_ (by unfold maxLen; omega) (by omega) hbase (fun v' w' h1 h2 _ => h v' w' ?_ h2)
  · intro j q hj
    match j, hj with
    | 0, hj => simp at hj; subst hj; simpa [Addr.add, lF] using hc0
    | 1, hj => simp at hj; subst hj; simpa [Addr.add, lG] using hc1
  · intro q hq; simp at hq; rcases hq with rfl | rfl <;> rfl
  · rw [cells2_append]; exact h1
theorem cutnl_ok (l : Bl) (hl : l.length ≤ 1048576) (w : World) (hM : ML w) : Calls Tryd.prog 41 #[.string (txt l), .string ⟨#[10]⟩] w fun e w' => (∃ b : Bool, e = .returned (.tuple #[.string (txt (nl l).1), .string (txt (nl l).2), .bool b])) ∧ ∃ n, w' = w.drewN n := by
  obtain ⟨m, hm⟩ := hM
  refine (Tryd.strings_Cut (txt l) ⟨#[10]⟩ m w (by rw [txt_size]; omega) hm).mono ?_
  rintro e w1 ⟨he, hw⟩
  rw [txt_list, show (⟨#[10]⟩ : ByteArray).data.toList = [10] from rfl, nl_cut] at he
  exact ⟨⟨_, he⟩, hw⟩
theorem trimL_ok (l : Bl) (w : World) : Calls Tryd.prog 42 #[.string (txt l), .string ⟨#[32, 9]⟩] w fun e w' => e = .returned (.string (txt (Lib.trimLeftS l [32, 9]))) ∧ Below w.heap.size w w' := by
  have := Any.strings_TrimLeft_laid Tryd.lays161 (by kernel_rfl) (txt l) ⟨#[32, 9]⟩ w (by decide) (ascii_of_all (by decide))
  rw [txt_list] at this
  exact this
theorem cutsuf_ok (l : Bl) (w : World) (hl : l.length ≤ 1048576) : Calls Tryd.prog 43 #[.string (txt l), .string ⟨#[92]⟩] w fun e w' => e = .returned (.tuple #[.string (txt (Lib.trimSuffix l [92])), .bool (Lib.hasSuffix l [92])]) ∧ w' = w := by
  have := Tryd.strings_CutSuffix (txt l) ⟨#[92]⟩ w (by rw [txt_size]; omega)
  rw [txt_list] at this
  exact this
theorem cutl_len (l : Bl) : (cutL l).length ≤ l.length := by
  have hh : ∀ (l : Bl) p, (hcut p l).length ≤ l.length := by
    intro l
    induction l with
    | nil => intro p; exact Nat.le_refl _
    | cons c l ih =>
      intro p
      rw [hcut]
      split
      · simp
      · have := ih c; simp only [List.length_cons]; omega
  unfold cutL
  have h1 := trimR_len (une (hcut 0 l)) [32, 9]
  have h2 := une_len _ (hcut 0 l) (Nat.le_refl _)
  have h3 := hh l 0
  omega
theorem onl_len (text one : Bl) : (onl text one).length ≤ one.length := by
  unfold onl
  split
  · exact Nat.le_refl _
  · unfold Lib.trimLeftS
    exact (List.dropWhile_sublist _).length_le
theorem trimSuf_len (l p : Bl) : (Lib.trimSuffix l p).length ≤ l.length := by
  unfold Lib.trimSuffix
  split
  · rw [List.length_take]; omega
  · exact Nat.le_refl _
theorem txt_eq (l m : Bl) : ((txt l).toList == (txt m).toList) = decide (l = m) := by
  rw [Lib.toList_data, Lib.toList_data, txt_list, txt_list, Bool.eq_iff_iff, beq_iff_eq, decide_eq_true_iff]
theorem txt_app (l m : Bl) : txt l ++ txt m = txt (l ++ m) := by
  refine (list_txt (txt l ++ txt m)).symm.trans ?_
  rw [ByteArray.data_append, Array.toList_append, txt_list, txt_list]
theorem txt_none (l : Bl) : ((txt l).toList == ([] : List UInt8)) = decide (l = []) := by
  rw [Lib.toList_data, txt_list, Bool.eq_iff_iff, beq_iff_eq, decide_eq_true_iff]
theorem txt_none2 (l : Bl) : ((txt l).toList == (⟨#[]⟩ : ByteArray).toList) = decide (l = []) := by
  rw [Lib.toList_data (⟨#[]⟩ : ByteArray)]; exact txt_none l
theorem bx_set1 {w : World} {b : Nat} {t : TypeId} {v0 v1 : Value} (h : w.heap[b]? = some (.cells #[v0, v1] t (0, 0))) (u : Value) :
    (w.setCell ⟨b, 1, none⟩ u).heap[b]? = some (.cells #[v0, u] t (0, 0)) := by
  rw [Go.Sort.setCell_eq]
  simp [Go.Sort.mapBlock, Go.Sort.onCells, Array.getElem?_modify, h]
/-- the line that is being read, in its block -/
structure JI (wo : World) (a1 : Int) (text : Bl) (wr : World) : Prop where
  grow : (wo.alloc (.cells #[.int .i64 a1, .string ⟨#[]⟩] 30)).grownBy wr (some wo.heap.size)
  box : wr.heap[wo.heap.size]? = some (.cells #[.int .i64 a1, .string (txt text)] 30 (0, 0))
theorem JI.start (wo : World) (a1 : Int) : JI wo a1 [] (wo.alloc (.cells #[.int .i64 a1, .string ⟨#[]⟩] 30)) :=
  ⟨World.grownBy.refl _ _, rb_new wo _⟩
theorem JI.below {wo : World} {a1 : Int} {text : Bl} {wr w' : World} (h : JI wo a1 text wr) (hb : Below wr.heap.size wr w') : JI wo a1 text w' := by
  have hlt : wo.heap.size < wr.heap.size := (Array.getElem?_eq_some_iff.1 h.box).1
  exact ⟨h.grow.trans ⟨hb.os, hb.tape, hb.output, hb.size, fun k hk _ => hb.block k hk⟩, (hb.block _ hlt).trans h.box⟩
theorem JI.set {wo : World} {a1 : Int} {text : Bl} {wr : World} (h : JI wo a1 text wr) (text' : Bl) : JI wo a1 text' (wr.setCell ⟨wo.heap.size, 1, none⟩ (.string (txt text'))) :=
  ⟨h.grow.trans ⟨rfl, rfl, rfl, by simp, fun k _ hk => heap_setCell_other wr _ k _ (fun e => hk (by rw [e]))⟩, bx_set1 h.box _⟩
theorem JI.far {wo : World} {a1 : Int} {text : Bl} {wr w : World} (h : JI wo a1 text wr) (hb : Below w.heap.size w wo) : Below w.heap.size w wr :=
  ((hb.alloc hb.size _)).grown h.grow (by have := hb.size; simp; omega) (fun k hk => by injection hk with hk; have := hb.size; omega)
theorem JI.lt {wo : World} {a1 : Int} {text : Bl} {wr : World} (h : JI wo a1 text wr) : wo.heap.size < wr.heap.size := (Array.getElem?_eq_some_iff.1 h.box).1
theorem own_sl {w : World} {base e n size : Nat} {v : Value} {xs : List Value} (h : w.ownsRow base e size v n xs) : ∃ (p : Option Addr) (c : Nat), v = .slice p n c := by
  rcases h.2 with ⟨rfl, rfl⟩ | ⟨g, cap, cur, rfl, _⟩
  · exact ⟨none, 0, rfl⟩
  · exact ⟨_, cap, rfl⟩
theorem JI.own {wo : World} {a1 : Int} {text : Bl} {wr : World} (h : JI wo a1 text wr) {base e n size : Nat} {v : Value} {xs : List Value} (ho : wo.ownsRow base e size v n xs) : wr.ownsRow base e size v n xs := by
  refine (ho.alloc _).kept h.grow ?_
  cases hq : v.ownBlock with
  | none => exact .inl rfl
  | some k => exact .inr (fun e => by injection e with e; have := (ho.lt k hq).2; omega)
theorem cutT_ok (l : Bl) (hl : l.length ≤ 1048576) (w : World) (hM : ML w) : Calls Tryd.prog 44 #[.string (txt l)] w fun e w' => e = .returned (.string (txt (cutL l))) ∧ Below w.heap.size w w' := by
  have := cut_ok (txt l) (by rw [txt_size]; exact hl) w hM
  rw [txt_list] at this
  exact this
set_option maxHeartbeats 16000000 in
set_option maxRecDepth 100000 in
theorem join_ok (s : ByteArray) (hs : s.size ≤ 20000) (w : World) (hM : ML w) :
    Calls Tryd.prog 18 #[.string s] w fun e w' => (∃ po co, e = .returned (.slice po (joinL s.data.toList).length co) ∧ w'.ownsRow w.heap.size 30 2 (.slice po (joinL s.data.toList).length co) (joinL s.data.toList).length (cells2 lF lG (joinL s.data.toList))) ∧ Below w.heap.size w w' := by
  have HM := Lib.hid hM
  obtain ⟨l, hl⟩ : ∃ l, l = s.data.toList := ⟨_, rfl⟩
  have hsl : s = txt l := by rw [hl, list_txt]
  have hln : l.length ≤ 20000 := by rw [hl, ← Lib.size_eq]; exact hs
  rw [← hl]
  subst hsl
  clear hl hs hM
  go_enter Tryd.func18, Tryd.ntmps18
  go_wp2
  go_loopg [0, 3, 4] l.length (fun g s0 o a wr => ∃ (rest : Bl) (at_ : Nat) (done : List Ln) (po : Option Addr) (co : Nat), rest.length ≤ g ∧ at_ + rest.length ≤ l.length ∧ done.length ≤ at_ ∧ s0 = .string (txt rest) ∧ a = .int .i64 at_ ∧ o = .slice po done.length co ∧ Below w.heap.size w wr ∧ Hid (joinL l = done ++ jg rest at_) ∧ Hid (wr.ownsRow w.heap.size 30 2 (.slice po done.length co) done.length (cells2 lF lG done)))
  case atStart => exact ⟨l, 0, [], none, 0, Nat.le_refl _, by omega, Nat.le_refl _, rfl, rfl, rfl, Below.refl _ _, rfl, World.ownsRow_nil _ _ _ _⟩
  case round =>
    obtain ⟨rest, at_, done, po, co, hg, hal, hda, rfl, rfl, rfl, hbr, HK, HO⟩ := hrel
    have HBR := Lib.hid hbr
    by_cases hr : rest = []
    · have z1 : ((txt rest).toList == ([] : List UInt8)) = true := by rw [txt_none]; exact decide_eq_true hr
      have z2 : ((txt rest).toList == (⟨#[]⟩ : ByteArray).toList) = true := by rw [txt_none2]; exact decide_eq_true hr
      have HV : Hid (joinL l = done) := by show _ = _; rw [HK.out, hr, jg_nil, List.append_nil]
      clear hbr hr
      go_wp2
      go_ret
      exact ⟨⟨po, co, by rw [HV.out]; rfl, by rw [HV.out]; exact HO.out⟩, HBR.out⟩
    · have z1 : ((txt rest).toList == ([] : List UInt8)) = false := by rw [txt_none]; exact decide_eq_false hr
      have z2 : ((txt rest).toList == (⟨#[]⟩ : ByteArray).toList) = false := by rw [txt_none2]; exact decide_eq_false hr
      have HRN := Lib.hid hr
      obtain ⟨wo, hwo⟩ : ∃ wo, wo = wr := ⟨_, rfl⟩
      rw [← hwo] at HBR HO ⊢
      clear hbr hr hwo
      have HML := Lib.hid (fun u (hu : Below w.heap.size w u) => HM.out.below hu)
      go_wp2
      go_loopg [0, 4, 6] (rest.length + 1) (fun g s0 a m wr => ∃ (text r2 : Bl) (a2 : Nat) (mo : Bool), s0 = .string (txt r2) ∧ a = .int .i64 a2 ∧ m = .bool mo ∧ Hid (JI wo (at_ + 1 : Nat) text wr) ∧ text.length + r2.length ≤ rest.length ∧ r2.length + (if mo = true then 1 else 0) ≤ g ∧
        Hid (mo = true → lg [] rest (at_ + 1) = lg text r2 a2) ∧ (mo = true → r2 ≠ [] ∧ a2 + r2.length ≤ at_ + 1 + rest.length) ∧ Hid (mo = false → lg [] rest (at_ + 1) = (text, r2, a2)) ∧ (mo = false → r2.length < rest.length ∧ a2 + r2.length ≤ at_ + rest.length ∧ at_ < a2) ∧ (mo = true → at_ < a2))
      case atStart => exact ⟨[], rest, at_ + 1, true, rfl, by go_num, rfl, JI.start wo _, by simp, by simp, fun _ => rfl, fun _ => ⟨HRN.out, Nat.le_refl _⟩, (fun h => by cases h), (fun h => by cases h), fun _ => Nat.lt_succ_self _⟩
      case round =>
        obtain ⟨text, r2, a2, mo, rfl, rfl, rfl, HJ, hlen, hg2, H1, h2, H3, h4, h5⟩ := hrel
        obtain ⟨k0, k1, k2⟩ := rb_cells HJ.out.box
        cases mo with
        | false =>
          obtain ⟨b1, b2, b3⟩ := h4 rfl
          have HL := Lib.hid (H3.out rfl)
          have HCT := Lib.hid (fun u (hu : Below w.heap.size w u) => cutT_ok text (by omega) u (HML.out u hu))
          have hcl := cutl_len text
          clear H1 h2 H3 h4 h5
          have HV : Hid (jg rest at_ = (if cutL text = [] then [] else [(at_ + 1, cutL text)]) ++ jg r2 a2) := by show _ = _; rw [jg_eq HRN.out, HL.out]
          obtain ⟨c, hc⟩ : ∃ c, c = cutL text := ⟨_, rfl⟩
          rw [← hc] at HCT HV hcl
          clear hc HL
          by_cases hce : c = []
          · have c1 : ((txt c).toList == ([] : List UInt8)) = true := by rw [txt_none]; exact decide_eq_true hce
            have c2 : ((txt c).toList == (⟨#[]⟩ : ByteArray).toList) = true := by rw [txt_none2]; exact decide_eq_true hce
            have HW : Hid (joinL l = done ++ jg r2 a2) := by show _ = _; rw [HK.out, HV.out, if_pos hce]; rfl
            clear hce HV
            go_wp2_with (go_at_call 44; refine (HCT.out _ (HJ.out.far HBR.out)).mono ?_; rintro e w1 ⟨rfl, hb⟩; have HJ1 := Lib.hid (HJ.out.below hb); clear hb k0 k1 k2; obtain ⟨k0, k1, k2⟩ := rb_cells HJ1.out.box)
            go_roundg r2.length
            case measure => omega
            case rel => exact ⟨r2, a2, done, po, co, Nat.le_refl _, by omega, by omega, rfl, rfl, rfl, (HJ1.out.set c).far HBR.out, HW.out, (HJ1.out.set c).own HO.out⟩
          · have c1 : ((txt c).toList == ([] : List UInt8)) = false := by rw [txt_none]; exact decide_eq_false hce
            have c2 : ((txt c).toList == (⟨#[]⟩ : ByteArray).toList) = false := by rw [txt_none2]; exact decide_eq_false hce
            have HW : Hid (joinL l = (done ++ [(at_ + 1, c)]) ++ jg r2 a2) := by show _ = _; rw [HK.out, HV.out, if_neg hce, List.append_assoc]
            clear hce HV
            go_wp2_with (first
              | (go_at_call 44; refine (HCT.out _ (HJ.out.far HBR.out)).mono ?_; rintro e w1 ⟨rfl, hb⟩; have HJ1 := Lib.hid (HJ.out.below hb); clear hb k0 k1 k2; obtain ⟨k0, k1, k2⟩ := rb_cells HJ1.out.box; have hwb := (HJ1.out.far HBR.out).size)
              | (at_builtin; refine app_line _ rfl _ _ rfl w.heap.size _ done.length done rfl (((HJ1.out.set c).own HO.out).alloc _) w1.heap.size (at_ + 1, c) rfl (by rw [World.cell?_alloc_at _ _ _ _ (by simp)]; rfl) (by rw [World.cell?_alloc_at _ _ _ _ (by simp)]; rfl) (by omega) (by simp; omega) ?_; intro v' w2 h1 h2; have HX := Lib.hid h1; have HG := Lib.hid h2; clear h1 h2))
            obtain ⟨po2, co2, rfl⟩ := own_sl HX.out
            go_roundg r2.length
            case measure => omega
            case rel =>
              refine ⟨r2, a2, done ++ [(at_ + 1, c)], po2, co2, Nat.le_refl _, by omega, by rw [List.length_append]; simp; omega, rfl, rfl, by rw [List.length_append]; rfl, ?_, HW.out, by rw [List.length_append]; exact HX.out⟩
              refine (((HJ1.out.set c).far HBR.out).alloc (by simp; omega) _).grown HG.out (by simp; omega) (fun k hk => ?_)
              exact (HO.out.lt k hk).1
        | true =>
          obtain ⟨hne, ha2⟩ := h2 rfl
          have ha3 := h5 rfl
          have hLG := H1.out rfl
          rw [lg_eq text r2] at hLG
          have hnl := nl_len r2
          have hnl2 := hnl.2 hne
          have hsf : Lib.hasSuffix (onl text (nl r2).1) [92] = true → (Lib.trimSuffix (onl text (nl r2).1) [92]).length + 1 = (onl text (nl r2).1).length := by
            intro h
            unfold Lib.trimSuffix
            rw [if_pos h, List.length_take]
            unfold Lib.hasSuffix at h
            rw [List.isSuffixOf_iff_suffix] at h
            have := h.length_le
            simp at this ⊢
            omega
          have hol := onl_len text (nl r2).1
          have hts := trimSuf_len (onl text (nl r2).1) [92]
          have HLG := Lib.hid hLG
          clear hLG H1 H3 h2 h4 h5
          obtain ⟨one, hone⟩ : ∃ one, one = (nl r2).1 := ⟨_, rfl⟩
          obtain ⟨r3, hr3⟩ : ∃ r3, r3 = (nl r2).2 := ⟨_, rfl⟩
          have HC := Lib.hid (fun u (hu : Below w.heap.size w u) => cutnl_ok r2 (by omega) u (HML.out u hu))
          rw [← hone] at HC HLG hnl hol hts hsf
          rw [← hr3] at HC HLG hnl hnl2
          clear hone hr3
          obtain ⟨x, hx⟩ : ∃ x, x = onl text one := ⟨_, rfl⟩
          obtain ⟨y, hy⟩ : ∃ y, y = Lib.trimSuffix x [92] := ⟨_, rfl⟩
          rw [← hx] at HLG hol hts hsf
          rw [← hy] at HLG hts hsf
          have HX := Lib.hid hx
          have HCS := Lib.hid (fun u => cutsuf_ok x u (by omega))
          rw [← hy] at HCS
          clear hx hy
          have ap1 : txt text ++ txt y = txt (text ++ y) := txt_app _ _
          have ap2 : txt (text ++ y) ++ (⟨#[32]⟩ : ByteArray) = txt (text ++ y ++ [32]) := txt_app _ [32]
          have no1 : ¬ (9223372036854775807 < (txt text).size + (txt y).size) := by rw [txt_size, txt_size]; omega
          have no2 : ¬ (9223372036854775807 < (txt (text ++ y)).size + 1) := by rw [txt_size, List.length_append]; omega
          have q1 : ((txt r3).toList == ([] : List UInt8)) = decide (r3 = []) := txt_none _
          have q2 : ((txt r3).toList == (⟨#[]⟩ : ByteArray).toList) = decide (r3 = []) := txt_none2 _
          by_cases ht : text = []
          · have t1 : ((txt text).toList == ([] : List UInt8)) = true := by rw [txt_none]; exact decide_eq_true ht
            have t2 : ((txt text).toList == (⟨#[]⟩ : ByteArray).toList) = true := by rw [txt_none2]; exact decide_eq_true ht
            have HX1 : Hid (x = one) := by show _ = _; rw [HX.out]; unfold onl; rw [if_pos ht]
            clear HX ht
            cases hsx : Lib.hasSuffix x [92]
            · rw [hsx] at HCS
              have HLG2 : Hid (lg [] rest (at_ + 1) = (text ++ y, r3, a2)) := by show _ = _; rw [HLG.out, if_neg (by rw [hsx]; simp)]
              have hx1 := HX1.out
              subst hx1
              clear HLG hsx hsf
              go_wp2_with (first
                              | (go_at_call 41; refine (HC.out _ (HJ.out.far HBR.out)).mono ?_; rintro e w1 ⟨⟨b, rfl⟩, n1, rfl⟩; have HJ1 := Lib.hid (HJ.out.below (below_drawsP (Below.refl _ _) n1)))
                              | (go_at_call 43; refine (HCS.out _).mono ?_; rintro e w3 ⟨rfl, rfl⟩))
              go_roundg r3.length
              case measure => simp at hg2; omega
              case rel => exact ⟨text ++ y, r3, a2, false, rfl, rfl, rfl, HJ1.out.set _, by rw [List.length_append]; omega, by simp, (fun h => by cases h), (fun h => by cases h), fun _ => HLG2.out, fun _ => ⟨by omega, by omega, ha3⟩, fun h => by cases h⟩
            · rw [hsx] at HCS
              have hsf2 := hsf hsx
              by_cases h3 : r3 = []
              · rw [decide_eq_true h3] at q1 q2
                have HLG2 : Hid (lg [] rest (at_ + 1) = (text ++ y, r3, a2)) := by show _ = _; rw [HLG.out, if_neg (fun h => h.2 h3)]
                have hx1 := HX1.out
                subst hx1
                clear HLG hsx hsf h3
                go_wp2_with (first
                                | (go_at_call 41; refine (HC.out _ (HJ.out.far HBR.out)).mono ?_; rintro e w1 ⟨⟨b, rfl⟩, n1, rfl⟩; have HJ1 := Lib.hid (HJ.out.below (below_drawsP (Below.refl _ _) n1)))
                                | (go_at_call 43; refine (HCS.out _).mono ?_; rintro e w3 ⟨rfl, rfl⟩))
                go_roundg r3.length
                case measure => simp at hg2; omega
                case rel => exact ⟨text ++ y, r3, a2, false, rfl, rfl, rfl, HJ1.out.set _, by rw [List.length_append]; omega, by simp, (fun h => by cases h), (fun h => by cases h), fun _ => HLG2.out, fun _ => ⟨by omega, by omega, ha3⟩, fun h => by cases h⟩
              · rw [decide_eq_false h3] at q1 q2
                have HR3 := Lib.hid h3
                have HLG2 : Hid (lg [] rest (at_ + 1) = lg (text ++ (y ++ [32])) r3 (a2 + 1)) := by show _ = _; rw [HLG.out, if_pos ⟨hsx, h3⟩, List.append_assoc]
                have hx1 := HX1.out
                subst hx1
                clear HLG hsx hsf h3
                go_wp2_with (first
                                | (go_at_call 41; refine (HC.out _ (HJ.out.far HBR.out)).mono ?_; rintro e w1 ⟨⟨b, rfl⟩, n1, rfl⟩; have HJ1 := Lib.hid (HJ.out.below (below_drawsP (Below.refl _ _) n1)))
                                | (go_at_call 43; refine (HCS.out _).mono ?_; rintro e w3 ⟨rfl, rfl⟩))
                go_roundg (r3.length + 1)
                case measure => simp at hg2; omega
                case rel => exact ⟨text ++ (y ++ [32]), r3, a2 + 1, true, rfl, by go_num, rfl, (HJ1.out.set _).set _, by rw [List.length_append, List.length_append, List.length_singleton]; omega, by simp, fun _ => HLG2.out, fun _ => ⟨HR3.out, by omega⟩, (fun h => by cases h), (fun h => by cases h), fun _ => by omega⟩
          · have t1 : ((txt text).toList == ([] : List UInt8)) = false := by rw [txt_none]; exact decide_eq_false ht
            have t2 : ((txt text).toList == (⟨#[]⟩ : ByteArray).toList) = false := by rw [txt_none2]; exact decide_eq_false ht
            have HX1 : Hid (x = Lib.trimLeftS one [32, 9]) := by show _ = _; rw [HX.out]; unfold onl; rw [if_neg ht]
            clear HX ht
            cases hsx : Lib.hasSuffix x [92]
            · rw [hsx] at HCS
              have HLG2 : Hid (lg [] rest (at_ + 1) = (text ++ y, r3, a2)) := by show _ = _; rw [HLG.out, if_neg (by rw [hsx]; simp)]
              have hx1 := HX1.out
              rw [hx1] at HCS
              clear HLG hsx hsf
              go_wp2_with (first
                              | (go_at_call 41; refine (HC.out _ (HJ.out.far HBR.out)).mono ?_; rintro e w1 ⟨⟨b, rfl⟩, n1, rfl⟩; have HJ0 := Lib.hid (HJ.out.below (below_drawsP (Below.refl _ _) n1)))
                              | (go_at_call 42; refine (trimL_ok one _).mono ?_; rintro e w2 ⟨rfl, hb⟩; have HJ1 := Lib.hid (HJ0.out.below hb); clear hb k0 k1 k2; obtain ⟨k0, k1, k2⟩ := rb_cells HJ1.out.box)
                              | (go_at_call 43; refine (HCS.out _).mono ?_; rintro e w3 ⟨rfl, rfl⟩))
              go_roundg r3.length
              case measure => simp at hg2; omega
              case rel => exact ⟨text ++ y, r3, a2, false, rfl, rfl, rfl, HJ1.out.set _, by rw [List.length_append]; omega, by simp, (fun h => by cases h), (fun h => by cases h), fun _ => HLG2.out, fun _ => ⟨by omega, by omega, ha3⟩, fun h => by cases h⟩
            · rw [hsx] at HCS
              have hsf2 := hsf hsx
              by_cases h3 : r3 = []
              · rw [decide_eq_true h3] at q1 q2
                have HLG2 : Hid (lg [] rest (at_ + 1) = (text ++ y, r3, a2)) := by show _ = _; rw [HLG.out, if_neg (fun h => h.2 h3)]
                have hx1 := HX1.out
                rw [hx1] at HCS
                clear HLG hsx hsf h3
                go_wp2_with (first
                                | (go_at_call 41; refine (HC.out _ (HJ.out.far HBR.out)).mono ?_; rintro e w1 ⟨⟨b, rfl⟩, n1, rfl⟩; have HJ0 := Lib.hid (HJ.out.below (below_drawsP (Below.refl _ _) n1)))
                                | (go_at_call 42; refine (trimL_ok one _).mono ?_; rintro e w2 ⟨rfl, hb⟩; have HJ1 := Lib.hid (HJ0.out.below hb); clear hb k0 k1 k2; obtain ⟨k0, k1, k2⟩ := rb_cells HJ1.out.box)
                                | (go_at_call 43; refine (HCS.out _).mono ?_; rintro e w3 ⟨rfl, rfl⟩))
                go_roundg r3.length
                case measure => simp at hg2; omega
                case rel => exact ⟨text ++ y, r3, a2, false, rfl, rfl, rfl, HJ1.out.set _, by rw [List.length_append]; omega, by simp, (fun h => by cases h), (fun h => by cases h), fun _ => HLG2.out, fun _ => ⟨by omega, by omega, ha3⟩, fun h => by cases h⟩
              · rw [decide_eq_false h3] at q1 q2
                have HR3 := Lib.hid h3
                have HLG2 : Hid (lg [] rest (at_ + 1) = lg (text ++ (y ++ [32])) r3 (a2 + 1)) := by show _ = _; rw [HLG.out, if_pos ⟨hsx, h3⟩, List.append_assoc]
                have hx1 := HX1.out
                rw [hx1] at HCS
                clear HLG hsx hsf h3
                go_wp2_with (first
                                | (go_at_call 41; refine (HC.out _ (HJ.out.far HBR.out)).mono ?_; rintro e w1 ⟨⟨b, rfl⟩, n1, rfl⟩; have HJ0 := Lib.hid (HJ.out.below (below_drawsP (Below.refl _ _) n1)))
                                | (go_at_call 42; refine (trimL_ok one _).mono ?_; rintro e w2 ⟨rfl, hb⟩; have HJ1 := Lib.hid (HJ0.out.below hb); clear hb k0 k1 k2; obtain ⟨k0, k1, k2⟩ := rb_cells HJ1.out.box)
                                | (go_at_call 43; refine (HCS.out _).mono ?_; rintro e w3 ⟨rfl, rfl⟩))
                go_roundg (r3.length + 1)
                case measure => simp at hg2; omega
                case rel => exact ⟨text ++ (y ++ [32]), r3, a2 + 1, true, rfl, by go_num, rfl, (HJ1.out.set _).set _, by rw [List.length_append, List.length_append, List.length_singleton]; omega, by simp, fun _ => HLG2.out, fun _ => ⟨HR3.out, by omega⟩, (fun h => by cases h), (fun h => by cases h), fun _ => by omega⟩
end Go.Proofs.YtchjogcdenkhcaaDoor
