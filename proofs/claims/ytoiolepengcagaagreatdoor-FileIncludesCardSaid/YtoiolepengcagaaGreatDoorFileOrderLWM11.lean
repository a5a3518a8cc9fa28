/- Texts joined: ReadW, LinesW, FilesW, FilePrW, FileLenW, FileCkW. Conditions: theirs. -/
import Derived.Test.YtoiolepengcagaaGreatDoorFileOrderLWM10
import Derived.Test.YtoiolepengcagaaGreatDoorFileOrderLWM8
import Derived.Deep.RegionLaw
import Derived.Deep.AppendLies
import Derived.Defers
import Derived.Deep.QuietTactic
import Derived.BigQuiet
import Derived.Test.YtoiolepengcagaaGreatDoorFileOrderLWM9
namespace Go.Proofs.YtoiolepengcagaaGreatDoor
open Go.RowKit Go.Shelf Go.Maps
theorem nl_sum (s : Bl) : (nl s).1.length + (nl s).2.length ≤ s.length := by
  induction s with
  | nil => exact Nat.le_refl _
  | cons c s ih =>
    unfold nl
    split
    · simp
    · simp only [List.length_cons]; omega
theorem trimSuf_lt {l : Bl} (h : Lib.hasSuffix l [92] = true) : (Lib.trimSuffix l [92]).length + 1 ≤ l.length := by
  have h1 : 1 ≤ l.length := by
    obtain ⟨a, rfl⟩ := (suf_iff l).1 h
    simp
  unfold Lib.trimSuffix
  rw [if_pos h, List.length_take]
  simp only [List.length_singleton]
  omega
theorem lg_size : ∀ n text s at_, s.length ≤ n → (lg text s at_).1.length + (lg text s at_).2.1.length ≤ text.length + s.length := by
  intro n
  induction n with
  | zero =>
    intro text s at_ h
    have : s = [] := List.length_eq_zero_iff.1 (by omega)
    subst this
    show text.length + 0 ≤ _
    omega
  | succ n ih =>
    intro text s at_ h
    have h1 := nl_sum s
    have h2 := onl_len text (nl s).1
    rw [lg_eq]
    split
    · rename_i hc
      have h3 := trimSuf_lt hc.1
      have hne : s ≠ [] := fun e => by subst e; exact hc.2 rfl
      have h4 : (nl s).2.length < s.length := by
        have : (nl s).2.length + 1 ≤ s.length := by
          have := (suf_iff _).1 hc.1
          obtain ⟨a, ha⟩ := this
          have : 1 ≤ (onl text (nl s).1).length := by rw [ha]; simp
          omega
        omega
      have := ih (text ++ Lib.trimSuffix (onl text (nl s).1) [92] ++ [32]) (nl s).2 (at_ + 1) (by omega)
      rw [List.length_append, List.length_append] at this
      simp only [List.length_singleton] at this
      omega
    · have h3 := trimSuf_len (onl text (nl s).1) [92]
      simp only [List.length_append]
      omega
theorem jg_size : ∀ n s at_, s.length ≤ n → ∀ x ∈ jg s at_, x.2.length ≤ s.length := by
  intro n
  induction n with
  | zero =>
    intro s at_ h x hx
    have : s = [] := List.length_eq_zero_iff.1 (by omega)
    subst this
    cases hx
  | succ n ih =>
    intro s at_ h x hx
    by_cases hs : s = []
    · subst hs; cases hx
    · have hl := lg_len _ [] s (at_ + 1) (Nat.le_refl _) hs
      have hz := lg_size _ [] s (at_ + 1) (Nat.le_refl _)
      rw [jg_eq hs] at hx
      rcases List.mem_append.1 hx with hx | hx
      · split at hx
        · cases hx
        · rw [List.mem_singleton.1 hx]
          have := cutl_len (lg [] s (at_ + 1)).1
          simp only at this ⊢
          simp only [List.length_nil] at hz
          omega
      · have := ih _ _ (by omega) x hx
        omega
theorem joinL_size {s : Bl} {x : Ln} (h : x ∈ joinL s) : x.2.length ≤ s.length := jg_size _ s 0 (Nat.le_refl _) x h
theorem joinEL_eq (s : ByteArray) : joinE s = joinEL s.data.toList := by
  unfold joinE joinEL
  rw [ba_len]
theorem txs_at {s : Bl} {j : Nat} {x : Ln} (h : (joinL s)[j]? = some x) : (txsL s).getD j [] = x.2 := by
  unfold txsL
  rw [List.getD_eq_getElem?_getD, List.getElem?_map, h]
  rfl
theorem RSt.cells {base B : Nat} {T : Bl → Option Bl} {op : List Bl} {many : Nat} {out : List Bl} {r : RR} {w : World} (h : RSt base B T op many out r w) :
    (w.cell? ⟨B, 0, none⟩ = some (.map (some r.bm)) ∧ w.cell? ⟨B, 1, none⟩ = some (.slice r.po op.length r.co) ∧ w.cell? ⟨B, 2, none⟩ = some (.int .i64 (many : Int)) ∧ w.cell? ⟨B, 3, none⟩ = some (.slice r.pq out.length r.cq)) ∧ ∀ o, w.frozen? ⟨B, o, none⟩ = false := boxF h.box
/-- append of one string, as one step of a region that draws -/
theorem step_strL {ops : Array Oper} {o : Oper} {a : Act} {w : World} {K : Act → World → Prop} {Q : Exit → Act → World → Prop} {E : Prop} (hg : o.guard = none) (s x : Operand)
    (ho : o.op = .call { callee := .builtin .append, args := #[s, x], argTypes := #[23, 23] })
    (base : Nat) (v : Value) (n : Nat) (xs : List ByteArray) (hs : a.eval s = v) (hown : w.ownsRow base 9 1 v n (strsV xs))
    (g : Nat) (u : ByteArray) (hx : a.eval x = .slice (some ⟨g, 0, none⟩) 1 1) (hcell : w.cell? ⟨g, 0, none⟩ = some (.string u))
    (hn : n < 8796093022208) (hbase : base ≤ w.heap.size)
    (h : ∀ v' w', w'.ownsRow base 9 1 v' (n + 1) (strsV (xs ++ [u])) → w.grownBy w' v.ownBlock → (v'.ownBlock = v.ownBlock ∨ v'.ownBlock = some w.heap.size) → K (a.put o.dst v') w') :
    if Region.wanted o (yielded ops a.tmps) = true then Oper.wp Tryz.prog o a w K Q else E := by
  have hw : Region.wanted o (yielded ops a.tmps) = true := by simp [Region.wanted, hg]
  rw [if_pos hw]
  obtain ⟨i0, hi, hz0, hz1, hz2⟩ := info_parts info_strF
  obtain ⟨v', w', hr, h2, h3, _, h6⟩ := run_append_own_at (P := Tryz.prog) w base 23 o.type 9 i0 (.string ⟨#[]⟩) 1 16 Tryz.underlying23 hi hz0 hz1 hz2 rfl (by decide) v n (strsV xs) hown ⟨g, 0, none⟩ 1 1 [.string u] rfl (by
    intro j q hj
    match j, hj with
    | 0, hj => simp at hj; subst hj; simpa [Addr.add] using hcell) (by intro q hq; simp at hq; subst hq; rfl) (by unfold maxLen; omega) (by omega) hbase
  unfold Oper.wp execOp
  simp only [ho, resolve, invoke, builtin, Sem.run_bind, Sem.run_pure, Result.andThen_ok, List.map_toArray, List.map_cons, List.map_nil, hs, hx, hr]
  exact h v' w' (by rw [strsV_snoc]; exact h2) h3 h6
/-- what include does at a line's words -/
def IncOk (base B : Nat) (T : Bl → Option Bl) (f : Nat) (op : List Bl) (x : Bl) : Prop :=
  ∀ (many : Nat) (out : List Bl) (r : RR) (p : Option Addr) (c : Nat) (u : World), RSt base B T op many out r u → many ≤ 200 → base ≤ u.heap.size → ML u → NL u p (wordsL x).length c (wb x) →
    Calls Tryz.prog 67 #[.pointer (some ⟨B, 0, none⟩), .slice p (wordsL x).length c] u (ReadPost base B T op out r (incR T f op many out (wordsL x)) u)
theorem wb_len2 (x : Bl) : (wb x).length = (wordsL x).length := List.length_map ..
theorem wb_at (x : Bl) (k : Nat) : (wb x).getD k ByteArray.empty = txt ((wordsL x).getD k []) := by
  unfold wb
  rw [List.getD_eq_getElem?_getD, List.getD_eq_getElem?_getD, List.getElem?_map]
  cases (wordsL x)[k]? <;> rfl
theorem ML.kp {w w' : World} {B : Nat} {a b : Option Nat} (h : ML w) (hK : Kp w w' B a b) (hg : 0 < B) (ha : ∀ k, a = some k → B ≤ k) (hb : ∀ k, b = some k → B ≤ k) : ML w' := by
  have hl := h.lt
  obtain ⟨m, h⟩ := h
  refine ⟨m, ?_⟩
  unfold World.cell? at h ⊢
  rw [hK.block 0 hl (by omega) (fun e => by have := ha _ e.symm; omega) (fun e => by have := hb _ e.symm; omega)]
  exact h
theorem inc_cmp (l : Bl) : ((txt l).toList == ([105, 110, 99, 108, 117, 100, 101] : List UInt8)) = decide (l = incW) := by
  rw [Lib.toList_data, txt_list, Bool.eq_iff_iff, beq_iff_eq, decide_eq_true_iff]
  rfl
theorem joinE_size {s : ByteArray} (h : joinE s = 0) : s.size ≤ 20000 := by
  unfold joinE at h
  split at h
  · cases h
  · omega
set_option maxHeartbeats 8000000 in
set_option maxRecDepth 100000 in
theorem read_ok (base B : Nat) (T : Bl → Option Bl) (f : Nat) (op : List Bl) (many : Nat) (out : List Bl) (r : RR) (s : ByteArray) (w : World) (h : RSt base B T op many out r w) (hbase : base ≤ w.heap.size) (hM : ML w) (hs : s.size ≤ 4611686018427387904) (hm0 : many ≤ 200) (hg : 0 < B)
    (HI : joinE s = 0 → ∀ x ∈ txsL s.data.toList, (wordsL x).getD 0 [] = incW → IncOk base B T f op x) :
    Calls Tryz.prog 29 #[.pointer (some ⟨B, 0, none⟩), .string s] w (ReadPost base B T op out r (readR T f op many out s.data.toList) w) := by
  have HR := Lib.hid h
  have HBS := Lib.hid hbase
  have HML := Lib.hid hM
  have HII := Lib.hid HI
  have hJ := JoinE_ok s (by omega) w hM
  have hBw := h.blt
  have hBb := h.lt
  clear h hM HI
  by_cases hE : joinE s = 0
  · have HE0 := Lib.hid hE
    have hs : s.size ≤ 1048576 := by
      have h0 := hE
      unfold joinE at h0
      split at h0
      · cases h0
      · omega
    have hRR : readR T f op many out s.data.toList = readG T f op (txsL s.data.toList) many out := by rw [readR_eq, ← joinEL_eq, hE]; rfl
    have HRR := Lib.hid hRR
    have hJ2 : Calls Tryz.prog 65 #[.string s] w fun e w' => (∃ po co, e = .returned (.tuple #[.slice po (joinL s.data.toList).length co, .int .i64 0]) ∧ w'.ownsRow w.heap.size 125 2 (.slice po (joinL s.data.toList).length co) (joinL s.data.toList).length (cells2 lF lG (joinL s.data.toList))) ∧ Below w.heap.size w w' := by
      refine hJ.mono ?_
      rintro e w' ⟨h1 | ⟨_, po, co, h2, h3⟩, hb⟩
      · exact absurd hE h1.1
      · exact ⟨⟨po, co, h2, h3⟩, hb⟩
    have HJ := Lib.hid hJ2
    have hln : (joinL s.data.toList).length ≤ 1048576 := by have := joinL_len s.data.toList; rw [ba_len] at this; omega
    have HTL := Lib.hid (txs_len s.data.toList)
    have HTA : Hid (∀ (j : Nat) (x : Ln), (joinL s.data.toList)[j]? = some x → (txsL s.data.toList).getD j [] = x.2 ∧ x.2.length ≤ 1048576 ∧ wordsL x.2 ≠ [] ∧ x.2 ∈ txsL s.data.toList) := by
      show ∀ (j : Nat) (x : Ln), _
      intro j x hx
      have hm := List.mem_of_getElem? hx
      have := joinL_size hm
      rw [ba_len] at this
      have hm2 : x.2 ∈ txsL s.data.toList := List.mem_map.2 ⟨x, hm, rfl⟩
      exact ⟨txs_at hx, by omega, txs_words hm2, hm2⟩
    clear hJ hJ2 hRR hE
    generalize txsL s.data.toList = tx at *
    generalize joinL s.data.toList = L at *
    go_enter Tryz.func29, Tryz.ntmps29
    go_upto_region 4 with (go_at_call 65; refine HJ.out.mono ?_; rintro e w1 ⟨⟨po, co, rfl, hown⟩, hb⟩; have HO := Lib.hid hown; have HB1 := Lib.hid hb; clear hown hb)
    go_wp2_with fail
    go_loopw [21] (fun i wr => ∃ (j m : Nat) (o : List Bl) (r' : RR), j ≤ L.length ∧ m ≤ 200 ∧ i = .int .i64 j ∧ Hid (RSt base B T op m o r' wr) ∧ Hid (readR T f op many out s.data.toList = readG T f op (tx.drop j) m o) ∧ Hid (Kp w wr B (r.o op).ownBlock (r.q out).ownBlock) ∧
      Hid ((r'.o op).ownBlock = (r.o op).ownBlock ∨ ∀ k, (r'.o op).ownBlock = some k → w.heap.size ≤ k) ∧ Hid ((r'.q o).ownBlock = (r.q out).ownBlock ∨ ∀ k, (r'.q o).ownBlock = some k → w.heap.size ≤ k) ∧ Hid (wr.ownsRow w.heap.size 125 2 (.slice po L.length co) L.length (cells2 lF lG L))) (fun i _ => L.length - (intOf i).toNat)
    case atStart => exact ⟨0, many, out, r, Nat.zero_le _, hm0, rfl, HR.out.below HB1.out, by rw [List.drop_zero]; exact HRR.out, Kp.of_below HB1.out, .inl rfl, .inl rfl, HO.out⟩
    case round =>
      obtain ⟨j, m, o, r', hj, hm200, rfl, HS, HG, HK, HFO, HFQ, HL⟩ := hrel
      by_cases hlt : j < L.length
      · obtain ⟨x, hx⟩ : ∃ x, L[j]? = some x := ⟨L[j], List.getElem?_eq_getElem hlt⟩
        obtain ⟨hxt, hxs, hxw, hxm⟩ := HTA.out j x hx
        have hP : P2At lF lG wr po L.length co L := P2At.own HL.out (by omega)
        obtain ⟨bb, ob, rfl, hbb, hca, hcb⟩ := hP.cell hx
        have hcb2 : wr.cell? ⟨bb, ob + j * 2 + 1, none⟩ = some (lG x) := hcb
        have HTD : Hid (tx.drop j = x.2 :: tx.drop (j + 1)) := by
          show _ = _
          have hjt : j < tx.length := by rw [HTL.out]; exact hlt
          rw [List.drop_eq_getElem_cons hjt]
          congr 1
          have : tx.getD j [] = tx[j] := by rw [List.getD_eq_getElem?_getD, List.getElem?_eq_getElem hjt]; rfl
          rw [← this, hxt]
        have HXM := Lib.hid hxm
        have HXW := Lib.hid hxw
        clear hP hcb hxt hxm hxw hx
        obtain ⟨a, x⟩ := x
        simp only [lF, lG] at hca hcb2
        simp only at hxs HTD HXM HXW
        have hBwr : B < wr.heap.size := HS.out.blt
        have hww : w.heap.size ≤ wr.heap.size := HK.out.size
        obtain ⟨X, hX⟩ : ∃ X, X = wr.alloc (.cells #[.int .i64 (a : Int), .string (txt x)] 125) := ⟨_, rfl⟩
        have hbX : Below wr.heap.size wr X := by rw [hX]; exact rb1w _ _
        have hx1 : X.heap[wr.heap.size]? = some (.cells #[.int .i64 (a : Int), .string (txt x)] 125 (0, 0)) := by rw [hX]; exact rb_new _ _
        have HSX := Lib.hid (HS.out.below hbX)
        obtain ⟨⟨c0, c1, c2, c3⟩, c4⟩ := HSX.out.cells
        obtain ⟨Y, hY⟩ : ∃ Y, Y = X.setCell ⟨B, 2, none⟩ (.int .i64 ((m : Int) + 1)) := ⟨_, rfl⟩
        have HSY : Hid (RSt base B T op (m + 1) o r' Y) := by show RSt _ _ _ _ _ _ _ _; rw [hY]; exact HSX.out.count (by omega)
        have hYs : Y.heap.size = X.heap.size := by rw [hY]; simp
        have hXs : X.heap.size = wr.heap.size + 1 := by rw [hX]; simp
        have hy1 : Y.heap[wr.heap.size]? = some (.cells #[.int .i64 (a : Int), .string (txt x)] 125 (0, 0)) := by
          rw [hY, heap_setCell_other X _ _ _ (show wr.heap.size ≠ B by omega)]
          exact hx1
        have HKY : Hid (Kp wr Y B (r'.o op).ownBlock (r'.q o).ownBlock) := by show Kp _ _ _ _ _; rw [hY]; exact (Kp.of_below hbX).set
        have HKW := Lib.hid (HK.out.trans HKY.out HFO.out HFQ.out)
        have HLY := Lib.hid (HKY.out.row HS.out HL.out (by have := HBS.out; omega) (by decide))
        go_upto_region 7 with fail
        rw [← hX]
        clear hX hca hcb2
        go_upto_region 8 with fail
        rw [← hY]
        clear hY c0 c1 c2 c3 c4 hx1 hbX
        obtain ⟨⟨c0, c1, c2, c3⟩, c4⟩ := HSY.out.cells
        have hc2 : Y.cell? ⟨B, 2, none⟩ = some (.int .i64 ((m : Int) + 1)) := c2
        clear c2
        obtain ⟨y0, y1, y2⟩ := rb_cells hy1
        by_cases hm : 200 < m + 1
        · have hd : decide ((200 : Int) < (m : Int) + 1) = true := decide_eq_true (by omega)
          have HE : Hid (readR T f op many out s.data.toList = (m + 1, o, 2)) := by
            show _ = _
            rw [HG.out, HTD.out, readG_cons, if_pos hm]
          go_wp2
          go_ret
          rw [HE.out]
          exact ⟨rfl, ⟨r', HSY.out, HFO.out, HFQ.out⟩, HKW.out, fun e => by cases e⟩
        · have hd : decide ((200 : Int) < (m : Int) + 1) = false := decide_eq_false (by omega)
          have HNM := Lib.hid hm
          have hWd := Words_ok (txt x) Y (by rw [txt_size]; omega)
          rw [txt_list] at hWd
          have HWD := Lib.hid hWd
          clear hWd hm
          have hw0 : 0 < (wordsL x).length := by
            rcases Nat.eq_zero_or_pos (wordsL x).length with e | e
            · exact absurd (List.length_eq_zero_iff.1 e) HXW.out
            · exact e
          go_upto_region 11 with (go_at_call 66; refine HWD.out.mono ?_; rintro e w5 ⟨A, rfl, _, hnl, hb⟩; rw [wb_len2] at hnl ⊢; have HN5 := Lib.hid hnl; have HB5 := Lib.hid hb; clear hnl hb)
          obtain ⟨⟨c0, c1, c2, c3⟩, c4⟩ := (HSY.out.below HB5.out).cells
          obtain ⟨y0, y1, y2⟩ := rb_cells (show w5.heap[wr.heap.size]? = some (.cells #[.int .i64 (a : Int), .string (txt x)] 125 (0, 0)) from by rw [HB5.out.block _ (by omega)]; exact hy1)
          have hwc : w5.cell? ⟨A, 0, none⟩ = some (.string (txt ((wordsL x).getD 0 []))) := by
            have := HN5.out.weak.cellAt 0 (by rw [wb_len2]; exact hw0)
            rw [wb_at] at this
            exact this
          have HS5 := Lib.hid (HSY.out.below HB5.out)
          have HL5 := Lib.hid (own_belowR HLY.out HB5.out)
          have HK5 := Lib.hid (HKW.out.trans (Kp.of_below (B := B) (a := (r.o op).ownBlock) (b := (r.q out).ownBlock) HB5.out) (.inl rfl) (.inl rfl))
          have hsz5 : Y.heap.size ≤ w5.heap.size := HB5.out.size
          clear hy1
          by_cases hinc : (wordsL x).getD 0 [] = incW
          · have HIC := Lib.hid hinc
            rw [hinc] at hwc
            have hcmp : ((txt incW).toList == ([105, 110, 99, 108, 117, 100, 101] : List UInt8)) = true := by rw [inc_cmp]; rfl
            have hml5 : ML w5 := HML.out.kp HK5.out hg (fun k hk => by have := (HR.out.rowO.lt k hk).1; omega) (fun k hk => by have := (HR.out.rowQ.lt k hk).1; omega)
            have hin := HII.out HE0.out x HXM.out hinc (m + 1) o r' (some ⟨A, 0, none⟩) (wordsL x).length w5 HS5.out (by have := HNM.out; omega) (by have := HBS.out; omega) hml5 HN5.out
            have HRI : Hid (readR T f op many out s.data.toList = if (incR T f op (m + 1) o (wordsL x)).2.2 ≠ 0 then incR T f op (m + 1) o (wordsL x) else readG T f op (tx.drop (j + 1)) (incR T f op (m + 1) o (wordsL x)).1 (incR T f op (m + 1) o (wordsL x)).2.1) := by
              show _ = _
              rw [HG.out, HTD.out, readG_cons, if_neg HNM.out, if_neg (fun e => e hinc)]
            unfold ReadPost at hin
            obtain ⟨R, hR⟩ : ∃ R, R = incR T f op (m + 1) o (wordsL x) := ⟨_, rfl⟩
            rw [← hR] at hin HRI
            obtain ⟨m6, o6, E⟩ := R
            simp only at hin HRI
            have HIN := Lib.hid hin
            clear hin hml5 hinc hR
            by_cases hE : E = 0
            · subst hE
              have HRN : Hid (readR T f op many out s.data.toList = readG T f op (tx.drop (j + 1)) m6 o6) := by show _ = _; rw [HRI.out, if_neg (by decide)]
              go_wp2_with (go_at_call 67; refine HIN.out.mono ?_; rintro e w6 ⟨rfl, ⟨r6, hs6, hfo6, hfq6⟩, hk6, hm6⟩; have HS6 := Lib.hid hs6; have HFO6 := Lib.hid hfo6; have HFQ6 := Lib.hid hfq6; have HK6 := Lib.hid hk6; have HM6 := Lib.hid hm6; clear hs6 hfo6 hfq6 hk6 hm6)
              go_roundw
              case rel =>
                have hww5 : w.heap.size ≤ w5.heap.size := by omega
                refine ⟨j + 1, m6, o6, r6, by omega, HM6.out trivial, by go_num, HS6.out, HRN.out, HK5.out.trans HK6.out HFO.out HFQ.out, ?_, ?_, HK6.out.row HS5.out HL5.out (by have := HBS.out; omega) (by decide)⟩
                · show _ ∨ _
                  rcases HFO6.out with e | e
                  · rw [e]; exact HFO.out
                  · exact .inr (fun k hk => Nat.le_trans hww5 (e k hk))
                · show _ ∨ _
                  rcases HFQ6.out with e | e
                  · rw [e]; exact HFQ.out
                  · exact .inr (fun k hk => Nat.le_trans hww5 (e k hk))
              case measure => simp [intOf]; omega
            · obtain ⟨i1, i2⟩ := int_ne' hE
              have HNE := Lib.hid hE
              have HRN : Hid (readR T f op many out s.data.toList = (m6, o6, E)) := by show _ = _; rw [HRI.out, if_pos hE]
              clear hE
              go_wp2_with (go_at_call 67; refine HIN.out.mono ?_; rintro e w6 ⟨rfl, ⟨r6, hs6, hfo6, hfq6⟩, hk6, hm6⟩; have HS6 := Lib.hid hs6; have HFO6 := Lib.hid hfo6; have HFQ6 := Lib.hid hfq6; have HK6 := Lib.hid hk6; clear hs6 hfo6 hfq6 hk6 hm6)
              go_ret
              rw [HRN.out]
              have hww5 : w.heap.size ≤ w5.heap.size := by omega
              refine ⟨rfl, ⟨r6, HS6.out, ?_, ?_⟩, HK5.out.trans HK6.out HFO.out HFQ.out, fun e => absurd e HNE.out⟩
              · rcases HFO6.out with e | e
                · rw [e]; exact HFO.out
                · exact .inr (fun k hk => Nat.le_trans hww5 (e k hk))
              · rcases HFQ6.out with e | e
                · rw [e]; exact HFQ.out
                · exact .inr (fun k hk => Nat.le_trans hww5 (e k hk))
          · have hcmp : ((txt ((wordsL x).getD 0 [])).toList == ([105, 110, 99, 108, 117, 100, 101] : List UInt8)) = false := by rw [inc_cmp]; exact decide_eq_false hinc
            have HRN : Hid (readR T f op many out s.data.toList = readG T f op (tx.drop (j + 1)) (m + 1) (o ++ [x])) := by
              show _ = _
              rw [HG.out, HTD.out, readG_cons, if_neg HNM.out, if_pos hinc]
            clear hinc
            generalize (wordsL x).getD 0 [] = w0 at *
            obtain ⟨XO, hXO⟩ : ∃ XO, XO = Obj.cells #[.string (txt x)] 9 := ⟨_, rfl⟩
            have HSA : Hid (RSt base B T op (m + 1) o r' (w5.alloc XO).drew) := (HS5.out.below (rb1w w5 XO)).drew
            have XC0 : Hid ((w5.alloc XO).drew.cell? ⟨w5.heap.size, 0, none⟩ = some (.string (txt x))) := by show (w5.alloc XO).cell? _ = _; rw [hXO, World.cell?_alloc_at _ _ _ _ rfl]; rfl
            have HBA : Hid (base ≤ (w5.alloc XO).drew.heap.size) := by show base ≤ (w5.alloc XO).heap.size; have := HBS.out; simp; omega
            have HBX : Hid (Below w5.heap.size w5 (w5.alloc XO).drew) := (rb1w w5 XO).drew
            rw [hXO] at HSA XC0 HBA HBX
            clear hXO
            have hB5 : B < w5.heap.size := by omega
            have hwr5 : wr.heap.size < w5.heap.size := by omega
            go_upto_region 12 with fail
            go_region_law (refine step_strL rfl _ _ rfl base _ o.length (o.map txt) rfl HSA.out.rowQ w5.heap.size (txt x) rfl XC0.out (by have := HS.out.lq; omega) HBA.out ?_; intro v' w6 hown6 hgrow6 hlies6; obtain ⟨p6, c6, rfl⟩ := slice_form hown6; have h6 := HSA.out.text hxs hgrow6 (by have := HS.out.lq; omega) hown6 hlies6; have H6 := Lib.hid h6.2; have HG6 := Lib.hid hgrow6; have HL6 := Lib.hid hlies6; obtain ⟨⟨b0, b1, b2, b3⟩, b4⟩ := boxF h6.1; have hblt := (Array.getElem?_eq_some_iff.1 h6.1).1; clear h6 hown6 hgrow6 hlies6)
            all_goals
              go_wp2
              go_roundw
              case rel =>
                have hww5 : w.heap.size ≤ w5.heap.size := by omega
                refine ⟨j + 1, m + 1, o ++ [x], _, by omega, by have := HNM.out; omega, by go_num, H6.out, HRN.out, ?_, HFO.out, ?_, ?_⟩
                · show Kp _ _ _ _ _
                  refine ((HK5.out.trans (Kp.of_below HBX.out) (.inl rfl) (.inl rfl)).grown HG6.out ?_).set
                  rcases HFQ.out with e | e
                  · exact .inr (.inl e)
                  · exact .inr (.inr e)
                · show _ ∨ _
                  have hln : (o ++ [x]).length = o.length + 1 := by simp
                  show (Value.slice p6 (o ++ [x]).length c6).ownBlock = _ ∨ ∀ k, (Value.slice p6 (o ++ [x]).length c6).ownBlock = some k → _
                  rw [hln]
                  rcases HL6.out with e | e
                  · rw [e]; exact HFQ.out
                  · rw [e]; exact .inr (fun k hk => by injection hk with hk; subst hk; show _ ≤ (w5.alloc _).heap.size; simp; omega)
                · show World.ownsRow _ _ _ _ _ _ _
                  have h1 := own_belowR HL5.out HBX.out
                  exact own_step h1 HG6.out (own_apart h1 HSA.out.rowQ (by decide)) (by have := HBS.out; omega)
              case measure => simp [intOf]; omega
      · obtain rfl : j = L.length := by omega
        have HE : Hid (readR T f op many out s.data.toList = (m, o, 0)) := by
          show _ = _
          rw [HG.out, List.drop_of_length_le (by rw [HTL.out]; exact Nat.le_refl _), readG_nil]
        go_wp2
        go_ret
        rw [HE.out]
        exact ⟨rfl, ⟨r', HS.out, HFO.out, HFQ.out⟩, HK.out, fun _ => hm200⟩
  · obtain ⟨i1, i2⟩ := int_ne' hE
    have HNE := Lib.hid hE
    have HE : Hid (readR T f op many out s.data.toList = (many, out, joinE s)) := by show _ = _; rw [readR_eq, ← joinEL_eq, if_pos hE]
    have hJ2 : Calls Tryz.prog 65 #[.string s] w fun e w' => e = .returned (.tuple #[.slice none 0 0, .int .i64 (joinE s)]) ∧ Below w.heap.size w w' := by
      refine hJ.mono ?_
      rintro e w' ⟨h1 | ⟨h0, _⟩, hb⟩
      · exact ⟨h1.2, hb⟩
      · exact absurd h0 hE
    have HJ := Lib.hid hJ2
    clear hJ hJ2 hE
    generalize joinE s = E at *
    go_enter Tryz.func29, Tryz.ntmps29
    go_wp2_with (go_at_call 65; refine HJ.out.mono ?_; rintro e w1 ⟨rfl, hb⟩; have HB1 := Lib.hid hb; clear hb)
    go_ret
    rw [HE.out]
    exact ⟨rfl, ⟨r, HR.out.below HB1.out, .inl rfl, .inl rfl⟩, Kp.of_below HB1.out, fun e => absurd e HNE.out⟩
end Go.Proofs.YtoiolepengcagaaGreatDoor
namespace Go.Proofs.YtoiolepengcagaaGreatDoor
open Go.RowKit Go.Shelf Go.Maps
set_option maxHeartbeats 4000000 in
set_option maxRecDepth 100000 in
/-- where there are no texts, a line that includes is an error -/
theorem inc_none (base B : Nat) (f : Nat) (op : List Bl) (x : Bl) (hx : x.length ≤ 1048576) : IncOk base B (fun _ => none) f op x := by
  intro many out r p c u hR hm hb hML hN
  obtain ⟨W, hW⟩ : ∃ W, W = u.alloc (.cells #[.pointer (some ⟨B, 0, none⟩)] 66) := ⟨_, rfl⟩
  have hBW : Below u.heap.size u W := by rw [hW]; exact rb1w _ _
  have hp : W.cell? ⟨u.heap.size, 0, none⟩ = some (.pointer (some ⟨B, 0, none⟩)) := by rw [hW, World.cell?_alloc_at _ _ _ _ rfl]; rfl
  have HRW := Lib.hid (hR.below hBW)
  have HNW := Lib.hid (hN.below hBW)
  have HKW : Hid (Kp u W B (r.o op).ownBlock (r.q out).ownBlock) := Kp.of_below hBW
  by_cases h2 : (wordsL x).length = 2
  · have hinc : incR (fun _ => none) f op many out (wordsL x) = (many, out, 5) := by unfold incR; rw [if_neg (by rw [h2]; decide)]
    obtain ⟨⟨c0, c1, c2, c3⟩, c4⟩ := HRW.out.cells
    have h12 : 1 < (wordsL x).length := by omega
    obtain ⟨ad, rfl, _, _⟩ := str_at HNW.out.at_.reads h12
    obtain ⟨b, o, rfl, _⟩ := HNW.out.plain ad rfl
    have hwc : W.cell? ⟨b, o + 1, none⟩ = some (.string (txt ((wordsL x).getD 1 []))) := by
      have := HNW.out.weak.cellAt 1 (by rw [wb_len2]; exact h12)
      rw [wb_at] at this
      exact this
    have hsz : (txt ((wordsL x).getD 1 [])).size ≤ maxLen := by
      have h1 := wb_size x (txt ((wordsL x).getD 1 [])) (by rw [← wb_at, List.getD_eq_getElem?_getD, List.getElem?_eq_getElem (by rw [wb_len2]; exact h12)]; exact List.getElem_mem _)
      unfold maxLen
      omega
    have hlk : ∀ q, Sem.run Tryz.prog (Instr.lookup 67 (.map (some r.bm)) (.string (txt ((wordsL x).getD 1 []))) true) (W.drewN q) = .ok (.tuple #[.string ⟨#[]⟩, .bool false]) (W.drewN q) := by
      intro q
      exact (HRW.out.map.below (below_drawsP (Below.refl _ _) q)).look _ hsz
    have hlk0 := hlk 0
    have hlk1 := hlk 1
    have h2i : ((2 : Nat) : Int) = 2 := rfl
    rw [hinc]
    rw [h2]
    clear h12 hsz
    generalize (wordsL x).getD 1 [] = w1 at *
    go_enter_defers Tryz.func67, Tryz.ntmps67
    go_upto_region 1 with fail
    rw [← hW]
    clear hW
    go_upto_region 3 with fail
    go_quiet (fail)
    go_wp2
    exact ⟨_, results_tmp rfl _ _ _, rfl, ⟨r, HRW.out.below (below_drawsP (Below.refl _ _) nq), .inl rfl, .inl rfl⟩, HKW.out.trans (Kp.of_below (below_drawsP (Below.refl _ _) nq)) (.inl rfl) (.inl rfl), fun e => by cases e⟩
  · have hinc : incR (fun _ => none) f op many out (wordsL x) = (many, out, 3) := by unfold incR; rw [if_pos h2]
    have hd : (((wordsL x).length : Int) == 2) = false ∧ (((wordsL x).length : Int) != 2) = true := by
      have : ¬ ((wordsL x).length : Int) = 2 := by omega
      exact ⟨by simpa using this, by simpa using this⟩
    obtain ⟨d1, d2⟩ := hd
    rw [hinc]
    go_enter_defers Tryz.func67, Tryz.ntmps67
    go_upto_region 1 with fail
    rw [← hW]
    clear hW
    go_wp2
    exact ⟨_, results_tmp rfl _ _ _, rfl, ⟨r, HRW.out, .inl rfl, .inl rfl⟩, HKW.out, fun e => by cases e⟩
/-- what Lines answers -/
def LinesPost (w : World) (R : Nat × List Bl × Int) (e : Ending) (w' : World) : Prop :=
  ((R.2.2 ≠ 0 ∧ e = .returned (.tuple #[.slice none 0 0, .int .i64 R.2.2])) ∨ (R.2.2 = 0 ∧ R.2.1.length ≤ 201 ∧ ∃ p c, e = .returned (.tuple #[.slice p R.2.1.length c, .int .i64 0]) ∧ NL w' p R.2.1.length c (R.2.1.map txt))) ∧ Below w.heap.size w w'
theorem MapT.made (w : World) : MapT (w.alloc (.map #[] 0)) w.heap.size 0 (fun _ => none) :=
  ⟨.map [], World.ownsMap_made _ _ _ _, fun _ => rfl, fun s => by simp [has]⟩
theorem Kp.belowOf {w w' : World} {B lo : Nat} {a b : Option Nat} (h : Kp w w' B a b) (hB : lo ≤ B) (hl : lo ≤ w.heap.size) (ha : ∀ k, a = some k → lo ≤ k) (hb : ∀ k, b = some k → lo ≤ k) : Below lo w w' :=
  ⟨h.os, h.tape, h.output, h.size, fun k hk => h.block k (by omega) (by omega) (fun e => by have := ha k e.symm; omega) (fun e => by have := hb k e.symm; omega)⟩
theorem RSt.start {w : World} {base B : Nat} {T : Bl → Option Bl} {bm nm : Nat} (hb : w.heap[B]? = some (.cells #[.map (some bm), .slice none 0 0, .int .i64 0, .slice none 0 0] 69 (0, 0))) (hl : B < base) (hm : MapT w bm nm T) (hml : bm < B) : RSt base B T [] 0 [] ⟨bm, nm, none, 0, none, 0⟩ w where
  box := hb
  lt := hl
  map := hm
  mlt := hml
  rowO := World.ownsRow_nil _ _ _ _
  rowQ := World.ownsRow_nil _ _ _ _
  apart := .inl rfl
  so := fun x hx => by cases hx
  sq := fun x hx => by cases hx
  lo := by show 0 ≤ _; omega
  lq := Nat.le_refl _
  lm := by omega
theorem RSt.outNL {base B : Nat} {T : Bl → Option Bl} {op : List Bl} {many : Nat} {out : List Bl} {r : RR} {w : World} (h : RSt base B T op many out r w) : NL w r.pq out.length r.cq (out.map txt) :=
  NL_own (by have := h.rowQ; exact this) (fun x hx => by
    obtain ⟨y, hy, rfl⟩ := List.mem_map.1 hx
    have := h.sq y hy
    rw [txt_size]
    omega) (by have := h.lq; have := h.lm; omega)
set_option maxHeartbeats 4000000 in
set_option maxRecDepth 100000 in
theorem LinesN_ok (s : ByteArray) (hs : s.size ≤ 4611686018427387904) (w : World) (hM : ML w) :
    Calls Tryz.prog 8 #[.string s, .slice none 0 0] w (LinesPost w (readR (fun _ => none) 0 [] 0 [] s.data.toList)) := by
  have hmm := @run_makeMap Tryz.prog
  obtain ⟨W1, hW1⟩ : ∃ W1, W1 = w.alloc (.map #[] 0) := ⟨_, rfl⟩
  have hB1 : Below w.heap.size w W1 := by rw [hW1]; exact rb1w _ _
  have hs1 : W1.heap.size = w.heap.size + 1 := by rw [hW1]; simp
  have hm1 : MapT W1 w.heap.size 0 (fun _ => none) := by rw [hW1]; exact MapT.made w
  obtain ⟨W, hW⟩ : ∃ W, W = W1.alloc (.cells #[.map (some w.heap.size), .slice none 0 0, .int .i64 0, .slice none 0 0] 69) := ⟨_, rfl⟩
  have hB2 : Below W1.heap.size W1 W := by rw [hW]; exact rb1w _ _
  have hs2 : W.heap.size = W1.heap.size + 1 := by rw [hW]; simp
  have hz : W.heap[W1.heap.size]? = some (.cells #[.map (some w.heap.size), .slice none 0 0, .int .i64 0, .slice none 0 0] 69 (0, 0)) := by rw [hW]; exact rb_new W1 _
  have HRS : Hid (RSt W.heap.size W1.heap.size (fun _ => none) [] 0 [] ⟨w.heap.size, 0, none, 0, none, 0⟩ W) := RSt.start hz (by omega) (hm1.below hB2) (by omega)
  have HBW : Hid (Below w.heap.size w W) := hB1.trans (hB2.mono hB1.size)
  have hrd := read_ok W.heap.size W1.heap.size (fun _ => none) 0 [] 0 [] _ s W HRS.out (Nat.le_refl _) (hM.below HBW.out) hs (by omega) (by have := hM.lt; omega) (fun h0 x hx _ => inc_none _ _ _ _ _ (by
    obtain ⟨y, hy, rfl⟩ := List.mem_map.1 hx
    have := joinL_size hy
    have := joinE_size h0
    rw [ba_len] at *
    omega))
  unfold ReadPost at hrd
  obtain ⟨R, hR⟩ : ∃ R, R = readR (fun _ => none) 0 [] 0 [] s.data.toList := ⟨_, rfl⟩
  rw [← hR] at hrd ⊢
  obtain ⟨m6, o6, E⟩ := R
  simp only at hrd
  rw [hs1] at hrd
  have HRD : Hid (Calls Tryz.prog 29 #[.pointer (some ⟨w.heap.size + 1, 0, none⟩), .string s] W fun e w' => e = .returned (.int .i64 E) ∧ (∃ r', RSt W.heap.size (w.heap.size + 1) (fun _ => none) [] m6 o6 r' w') ∧ Below w.heap.size w w') := by
    show Calls _ _ _ _ _
    refine hrd.mono ?_
    rintro e w' ⟨h1, ⟨r', h2, _, _⟩, h3, _⟩
    exact ⟨h1, ⟨r', h2⟩, HBW.out.trans (h3.belowOf (by omega) (by omega) (fun k hk => by cases hk) (fun k hk => by cases hk))⟩
  clear hrd hR hB1 hm1 hB2 hz hs1 hs2
  by_cases hE : E = 0
  · subst hE
    go_enter Tryz.func8, Tryz.ntmps8
    go_upto_region 4 with fail
    rw [← hW1, ← hW]
    clear hW hW1
    go_wp2_with fail
    go_loopw [20] (fun i wr => i = .int .i64 0 ∧ wr = W) (fun _ _ => 0)
    case atStart => exact ⟨rfl, rfl⟩
    case round =>
      obtain ⟨rfl, rfl⟩ := hrel
      go_upto_region 17 with (go_at_call 29; refine HRD.out.mono ?_; rintro e w6 ⟨rfl, ⟨r6, hr6⟩, hb6⟩; have HR6 := Lib.hid hr6; have HB6 := Lib.hid hb6; obtain ⟨⟨c0, c1, c2, c3⟩, c4⟩ := hr6.cells; clear hr6 hb6)
      go_wp2
      go_ret2
      exact ⟨.inr ⟨rfl, (by have := HR6.out.lq; have := HR6.out.lm; show o6.length ≤ _; omega), r6.pq, r6.cq, rfl, HR6.out.outNL⟩, HB6.out⟩
  · obtain ⟨i1, i2⟩ := int_ne' hE
    have HNE := Lib.hid hE
    clear hE
    go_enter Tryz.func8, Tryz.ntmps8
    go_upto_region 4 with fail
    rw [← hW1, ← hW]
    clear hW hW1
    go_wp2_with fail
    go_loopw [20] (fun i wr => i = .int .i64 0 ∧ wr = W) (fun _ _ => 0)
    case atStart => exact ⟨rfl, rfl⟩
    case round =>
      obtain ⟨rfl, rfl⟩ := hrel
      go_wp2_with (go_at_call 29; refine HRD.out.mono ?_; rintro e w6 ⟨rfl, _, hb6⟩; have HB6 := Lib.hid hb6; clear hb6)
      go_ret2
      exact ⟨.inl ⟨HNE.out, rfl⟩, HB6.out⟩
end Go.Proofs.YtoiolepengcagaaGreatDoor
namespace Go.Proofs.YtoiolepengcagaaGreatDoor
open Go.RowKit Go.Shelf Go.Maps
def abT : Bs := [97, 32, 58, 32, 98]
theorem ab_expand : expandE okM [] abT = (0, abT) := by
  have hT : TabOk okM [] := ⟨by simp, fun m hm => (by cases hm), List.nodup_nil, fun m hm => (by cases hm), fun m hm => (by cases hm)⟩
  have hL : ¬ Larges okM [] := by rintro ⟨m, hm, _⟩; cases hm
  have hp : prs okM abT = ([.t abT], true) := prs_last (by decide)
  have hz : (expandR okM (namesM []) (flatF okM []) abT).1 = 0 := by
    rw [expandR_zero, hp]
    refine ⟨rfl, fun u hu => ?_, ?_⟩
    · simp [callsOf] at hu
    · simp [lrg, noneT, evalT, pieceM, abT]
  rw [expandE_at ⟨hT, hL⟩]
  refine Prod.ext hz ?_
  rw [expandR_text, if_pos hz, hp]
  simp [evalT, pieceM]
theorem ab_flats : flatsE okM [] = 0 := flatsE_zero.2 ⟨⟨by simp, fun m hm => (by cases hm), List.nodup_nil, fun m hm => (by cases hm), fun m hm => (by cases hm)⟩, by rintro ⟨m, hm, _⟩; cases hm⟩
theorem ab_file : parseF [abT] = ({ file0 with rs := [([(⟨#[97]⟩ : ByteArray)], [(⟨#[98]⟩ : ByteArray)])] }, 0, 0) := by
  have hd : defB abT = false := by decide
  have hm : macsF [abT] = [] := by unfold macsF; rw [List.filter_cons_of_neg (by rw [hd]; decide)]; rfl
  rw [parseF_g (by decide) (by rw [hm]; exact ab_flats), hm]
  obtain ⟨p1, p2, p3⟩ := parse_print ab_ok
  rw [ab_text] at p1 p2 p3
  have hl : lineF [] abT { file0 with ms := [] } = ({ file0 with rs := [([(⟨#[97]⟩ : ByteArray)], [(⟨#[98]⟩ : ByteArray)])] }, 0) := by
    rw [lineF_a (by rw [ab_expand]) (by rw [ab_expand]; exact p1), ab_expand]
    show addF _ (parseT [97, 32, 58, 32, 98]) (parseN [97, 32, 58, 32, 98]) = _
    rw [p2, p3, addF_r (by decide) (fun h => by cases h.2.2)]
    rfl
  rw [parseGo, hd, if_neg (by decide), hl, if_neg (by decide), parseGo]
theorem x_read : readR (fun _ => none) 0 [] 0 [] [120] = (1, [[120]], 0) := by
  rw [readR_eq, if_neg (by decide), show txsL [120] = [[120]] by decide, readG_text _ _ _ _ _ _ (by decide), if_neg (by decide), readG_nil]
  rfl
set_option maxHeartbeats 4000000 in
set_option maxRecDepth 100000 in
theorem files_ok (w : World) (hM : ML w) : Calls Tryz.prog 7 #[] w fun e w' => e = .returned (.bool true) ∧ Below w.heap.size w w' := by
  obtain ⟨W, hW⟩ : ∃ W, W = w.alloc (.cells #[.string ⟨#[97, 32, 58, 32, 98]⟩] 9) := ⟨_, rfl⟩
  have hbW : Below w.heap.size w W := by rw [hW]; exact rb1w _ _
  have hn : NL W (some ⟨w.heap.size, 0, none⟩) 1 1 [⟨#[97, 32, 58, 32, 98]⟩] := by rw [hW]; exact NL_one w _ (by decide)
  have hp := ParseF_ok (some ⟨w.heap.size, 0, none⟩) 1 1 [⟨#[97, 32, 58, 32, 98]⟩] W hn.weak (hM.below hbW) (fun z hz => by rw [List.mem_singleton.1 hz]; decide)
  rw [show lst [(⟨#[97, 32, 58, 32, 98]⟩ : ByteArray)] = [abT] from rfl] at hp
  have HP : Hid (Calls Tryz.prog 18 #[.slice (some ⟨w.heap.size, 0, none⟩) 1 1] W fun e w' => (∃ pm nm cm pp np cp pi ni ci pr cr, e = .returned (.tuple #[.agg #[.slice pm nm cm, .slice pp np cp, .slice pi ni ci, .slice pr 1 cr], .int .i64 0, .int .i64 0])) ∧ Below W.heap.size W w') := by
    show Calls _ _ _ _ _
    refine hp.mono ?_
    rintro e w' ⟨⟨v, he, hv⟩, hb⟩
    rw [ab_file] at he hv
    rcases hv with ⟨hv, _⟩ | ⟨_, base, B, s, rl, _, _, rfl⟩
    · exact absurd rfl hv
    · exact ⟨⟨_, _, _, _, _, _, _, _, _, _, _, he⟩, hb⟩
  have HLN : Hid (∀ u : World, Below W.heap.size W u → Calls Tryz.prog 8 #[.string ⟨#[120]⟩, .slice none 0 0] u fun e w' => (∃ p c, e = .returned (.tuple #[.slice p 1 c, .int .i64 0])) ∧ Below u.heap.size u w') := by
    show ∀ u : World, _
    intro u hu
    have := LinesN_ok ⟨#[120]⟩ (by decide) u ((hM.below hbW).below hu)
    rw [show (⟨#[120]⟩ : ByteArray).data.toList = [120] from rfl, x_read] at this
    refine this.mono ?_
    rintro e w' ⟨⟨h1, _⟩ | ⟨_, _, p, c, h2, _⟩, hb⟩
    · exact absurd rfl h1
    · exact ⟨⟨p, c, h2⟩, hb⟩
  have HBW := Lib.hid hbW
  clear hp hn hbW
  go_enter Tryz.func7, Tryz.ntmps7
  go_upto_region 2 with (go_at_call 18; rw [← hW]; refine HP.out.mono ?_; rintro e w1 ⟨⟨pm, nm, cm, pp, np, cp, pi, ni, ci, pr, cr, rfl⟩, hb⟩; have HB1 := Lib.hid hb; clear hb)
  clear hW
  obtain ⟨V, hV⟩ : ∃ V, V = w1.alloc (.cells #[.slice pm nm cm, .slice pp np cp, .slice pi ni ci, .slice pr 1 cr] 43) := ⟨_, rfl⟩
  have HBV : Hid (Below W.heap.size W V) := by show Below _ _ _; rw [hV]; exact HB1.out.alloc HB1.out.size _
  have hz : V.heap[w1.heap.size]? = some (.cells #[.slice pm nm cm, .slice pp np cp, .slice pi ni ci, .slice pr 1 cr] 43 (0, 0)) := by rw [hV]; exact rb_new _ _
  have hlt : w1.heap.size < V.heap.size := by rw [hV]; simp
  rw [← hV]
  clear hV
  have HZ := Lib.hid hz
  clear hz
  go_upto_region 3 with (go_at_call 8; refine (HLN.out _ HBV.out).mono ?_; rintro e w3 ⟨⟨p3, c3, rfl⟩, hb⟩; have HB3 := Lib.hid (HBV.out.trans (hb.mono HBV.out.size)); obtain ⟨⟨b0, b1, b2, b3⟩, b4⟩ := boxF (show w3.heap[w1.heap.size]? = _ from by rw [hb.block _ hlt]; exact HZ.out); clear hb)
  go_wp2
  go_ret
  exact ⟨rfl, HBW.out.trans (HB3.out.mono HBW.out.size)⟩
end Go.Proofs.YtoiolepengcagaaGreatDoor
namespace Go.Proofs.YtoiolepengcagaaGreatDoor
open Go.RowKit Go.Shelf Go.Maps
theorem concat_threeW {w : World} {B : Nat} {p q g : Option Addr} {n c m d k e : Nat} {T M N : List ByteArray} (h1 : NLw w p n c T) (h3 : NLw w g k e M) (h2 : NLw w q m d N) (hsum : n + k + m ≤ 8796093022208)
    (c1 : w.cell? ⟨B, 0, none⟩ = some (.slice p n c)) (c2 : w.cell? ⟨B, 1, none⟩ = some (.slice g k e)) (c3 : w.cell? ⟨B, 2, none⟩ = some (.slice q m d)) (hB : B < w.heap.size) :
    Calls Tryz.prog 11 #[.slice (some ⟨B, 0, none⟩) 3 3] w (CatPost w (T ++ M ++ N)) := by
  have l1 := h1.at_.len
  have l2 := h2.at_.len
  have l3 := h3.at_.len
  subst l1 l2 l3
  have hP : CParts w B (threeP p q g T.length c N.length d M.length e T M N) := by
    refine ⟨fun k hk => ?_, fun k hk => ?_⟩
    · match k, hk with
      | 0, _ => exact h1
      | 1, _ => exact h3
      | 2, _ => exact h2
    · match k, hk with
      | 0, _ => exact c1
      | 1, _ => exact c2
      | 2, _ => exact c3
  have := concatN_ok B _ w (by unfold threeP; simp) hP (by rw [cat_three, List.length_append, List.length_append]; omega) hB
  rw [cat_three] at this
  exact this
theorem join_nlw {w : World} {p : Option Addr} {n c : Nat} {us : List ByteArray} (h : NLw w p n c us) (h0 : 0 < n) (hn : n ≤ c) (hlen : (Lib.join (lst us) [32]).length ≤ 140737488355328) :
    Calls Tryz.prog 81 #[.slice p n c, .string ⟨#[32]⟩] w fun e w' => e = .returned (.string (txt (Lib.join (lst us) [32]))) ∧ Below w.heap.size w w' := by
  have hl := h.at_.len
  have hb := h.at_.big
  subst hl
  obtain ⟨ad, rfl, _⟩ := h.at_.reads.2 h0
  obtain ⟨b, o, rfl, hlt⟩ := h.plain h0 _ rfl
  exact Tryz.strings_Join b o c us ⟨#[32]⟩ w (fun j x hx => by
    have hj := (List.getElem?_eq_some_iff.1 hx).1
    rw [h.cellAt j hj, List.getD_eq_getElem?_getD, hx]
    rfl) hlt (by omega) (by omega) hlen
/-- a list of texts of the call's own, while it is filled -/
def OutL (w : World) (base : Nat) (v : Value) (o : List Bs) : Prop := w.ownsRow base 9 1 v o.length (strsV (o.map txt))
theorem OutL.below {w w' : World} {base : Nat} {v : Value} {o : List Bs} (h : OutL w base v o) (hb : Below w.heap.size w w') : OutL w' base v o := own_belowR h hb
def ln1 (m : Mac) : Bs := m.1 ++ [32, 61, 32] ++ m.2
def ln2 (P : List ByteArray) : Bs := phonyS.data.toList ++ [32, 58, 32] ++ Lib.join (lst P) [32]
def ln3 (x : Inf) : Bs := x.1.data.toList ++ x.2.data.toList ++ [32, 58]
def ln4 (r : List ByteArray × List ByteArray) : Bs := ruleT r.1 r.2
theorem linesF_eq (F : FileV) : linesF F = F.ms.map ln1 ++ (if F.ph = [] then [] else [ln2 F.ph]) ++ F.inf.map ln3 ++ F.rs.map ln4 := rfl
theorem map_next {α β : Type} {f : α → β} {l : List α} {k : Nat} {x : α} (h : l[k]? = some x) : (l.take (k + 1)).map f = (l.take k).map f ++ [f x] := by rw [take_snoc h, List.map_append]; rfl
theorem OutL.step {w5 : World} {base : Nat} {v' : Value} {o : List Bs} {x : Bs} (ho : w5.ownsRow base 9 1 v' (o.length + 1) (strsV (o.map txt ++ [txt x]))) : OutL w5 base v' (o ++ [x]) := by
  unfold OutL
  rw [List.length_append, List.map_append]
  exact ho
set_option maxHeartbeats 16000000 in
set_option maxRecDepth 100000 in
theorem lines_ok (F : FileV) (w : World) (pm pp pi pr : Option Addr) (nm cm np cp ni ci nr cr : Nat) (hl : List (Hd × Hd)) (h : FileIn w F pm nm cm pp np cp pi ni ci pr nr cr hl) (hcp : np ≤ cp)
    (hz : ∀ x ∈ linesF F, x.length ≤ 1048600) (hn : nm ≤ 1048576 ∧ np ≤ 1048576 ∧ ni ≤ 1048576 ∧ nr ≤ 1048576) (hrz : ∀ x ∈ hl, x.1.zs.length ≤ 1048576 ∧ x.2.zs.length ≤ 1048576) :
    Calls Tryz.prog 48 #[.agg #[.slice pm nm cm, .slice pp np cp, .slice pi ni ci, .slice pr nr cr]] w fun e w' => (∃ p c, e = .returned (.slice p (linesF F).length c) ∧ NL w' p (linesF F).length c ((linesF F).map txt)) ∧ Below w.heap.size w w' := by
  obtain ⟨hn1, hn2, hn3, hn4⟩ := hn
  obtain ⟨W, hW⟩ : ∃ W, W = w.alloc (.cells #[.slice pm nm cm, .slice pp np cp, .slice pi ni ci, .slice pr nr cr] 43) := ⟨_, rfl⟩
  have hb0 : Below w.heap.size w W := by rw [hW]; exact rb1w _ _
  have hs0 : W.heap.size = w.heap.size + 1 := by rw [hW]; simp
  have hz0 : W.heap[w.heap.size]? = some (.cells #[.slice pm nm cm, .slice pp np cp, .slice pi ni ci, .slice pr nr cr] 43 (0, 0)) := by rw [hW]; exact rb_new w _
  have HC : Hid (∀ u : World, Below W.heap.size W u → (u.cell? ⟨w.heap.size, 0, none⟩ = some (.slice pm nm cm) ∧ u.cell? ⟨w.heap.size, 1, none⟩ = some (.slice pp np cp) ∧ u.cell? ⟨w.heap.size, 2, none⟩ = some (.slice pi ni ci) ∧ u.cell? ⟨w.heap.size, 3, none⟩ = some (.slice pr nr cr)) ∧ Below w.heap.size w u ∧ FileIn u F pm nm cm pp np cp pi ni ci pr nr cr hl) := by
    show ∀ u : World, _
    intro u hu
    have hbu : Below w.heap.size w u := hb0.trans (hu.mono (by omega))
    have g0 : u.heap[w.heap.size]? = some (.cells #[.slice pm nm cm, .slice pp np cp, .slice pi ni ci, .slice pr nr cr] 43 (0, 0)) := by rw [hu.block _ (by omega)]; exact hz0
    exact ⟨(boxF g0).1, hbu, h.below hbu⟩
  have HLZ := Lib.hid hz
  have HRZ := Lib.hid hrz
  have hlm := h.ms.len
  have hlp := h.ph.at_.len
  have hli := h.inf.len
  have hlr := h.rs.at_.len
  have HSM := Lib.hid h.same
  have HZ1 : Hid (∀ (k : Nat) (x : Mac), F.ms[k]? = some x → (ln1 x).length ≤ 1048600) := by
    show ∀ (k : Nat) (x : Mac), _
    exact fun k x hx => hz _ (by rw [linesF_eq]; simp only [List.mem_append, List.mem_map]; exact .inl (.inl (.inl ⟨x, List.mem_of_getElem? hx, rfl⟩)))
  have HZ2 : Hid (F.ph ≠ [] → (ln2 F.ph).length ≤ 1048600) := by
    show _ → _
    exact fun hp => hz _ (by rw [linesF_eq, if_neg hp]; simp)
  have HZ3 : Hid (∀ (k : Nat) (x : Inf), F.inf[k]? = some x → (ln3 x).length ≤ 1048600) := by
    show ∀ (k : Nat) (x : Inf), _
    exact fun k x hx => hz _ (by rw [linesF_eq]; simp only [List.mem_append, List.mem_map]; exact .inl (.inr ⟨x, List.mem_of_getElem? hx, rfl⟩))
  have HZ4 : Hid (∀ (k : Nat) (x : Hd × Hd), hl[k]? = some x → (ln4 (rl x)).length ≤ 1048600) := by
    show ∀ (k : Nat) (x : Hd × Hd), _
    exact fun k x hx => hz _ (by rw [linesF_eq]; simp only [List.mem_append, List.mem_map]; exact .inr ⟨rl x, by rw [← h.same]; exact List.mem_map.2 ⟨x, List.mem_of_getElem? hx, rfl⟩, rfl⟩)
  have HWS := Lib.hid hs0
  subst hlm hlp hli hlr
  clear h hb0 hs0 hz0 hz hrz
  obtain ⟨⟨c0, c1, c2, c3⟩, _⟩ := HC.out W (Below.refl _ _)
  have HB0 : Hid (Below W.heap.size W W) := Below.refl _ _
  go_enter Tryz.func48, Tryz.ntmps48
  go_upto_region 1 with fail
  rw [← hW]
  clear hW
  go_wp2_with fail
  go_loopw [13, 3] (fun i v wr => ∃ k : Nat, k ≤ F.ms.length ∧ i = .int .i64 k ∧ Hid (OutL wr W.heap.size v ((F.ms.take k).map ln1)) ∧ Hid (Below W.heap.size W wr)) (fun i _ _ => F.ms.length - (intOf i).toNat)
  case atStart => exact ⟨0, Nat.zero_le _, rfl, World.ownsRow_nil _ _ _ _, Below.refl _ _⟩
  case round =>
    obtain ⟨k, hk, rfl, HO, HB⟩ := hrel
    clear c0 c1 c2 c3
    obtain ⟨⟨c0, c1, c2, c3⟩, _, hfi⟩ := HC.out wr HB.out
    by_cases hlt : k < F.ms.length
    · obtain ⟨x, hx⟩ : ∃ x, F.ms[k]? = some x := ⟨_, List.getElem?_eq_getElem hlt⟩
      obtain ⟨bb, ob, rfl, hbb, hca, hcb⟩ := hfi.ms.cell hx
      rw [← Nat.add_assoc] at hcb
      have hlx := HZ1.out k x hx
      have HNX := Lib.hid (map_next (f := ln1) hx)
      clear hx hfi
      obtain ⟨m1, m2⟩ := x
      simp only [mF, mG] at hca hcb
      have hll : m1.length + 3 + m2.length ≤ 1048600 := by unfold ln1 at hlx; simp only [List.length_append, List.length_cons, List.length_nil] at hlx; omega
      obtain ⟨A1, a1, r1⟩ := cat_run2 (P := Tryz.prog) (txt m1) ⟨#[32, 61, 32]⟩ (by rw [txt_size]; show _ + 3 ≤ _; omega)
      obtain ⟨A2, a2, r2⟩ := cat_run2 (P := Tryz.prog) A1 (txt m2) (by rw [a1, ByteArray.size_append, txt_size, txt_size]; show _ + 3 + _ ≤ _; omega)
      have HA : Hid (A2 = txt (ln1 (m1, m2))) := by
        show _ = _
        rw [a2, a1, show (⟨#[32, 61, 32]⟩ : ByteArray) = txt [32, 61, 32] from rfl, txt_app, txt_app]
        rfl
      have hll2 : ((F.ms.take k).map ln1).length ≤ 1048576 := by rw [List.length_map, List.length_take]; omega
      clear a1 a2 hlx
      generalize (F.ms.take k).map ln1 = o at *
      obtain ⟨vo, hvo⟩ : ∃ vo, vo = u3 := ⟨_, rfl⟩
      subst hvo
      obtain ⟨X, hX⟩ : ∃ X, X = wr.alloc (.cells #[.string (txt m1), .string (txt m2)] 86) := ⟨_, rfl⟩
      have hbX : Below wr.heap.size wr X := by rw [hX]; exact rb1w _ _
      obtain ⟨x1, x2, x3⟩ := rb_cells (show X.heap[wr.heap.size]? = some (.cells #[.string (txt m1), .string (txt m2)] 86 (0, 0)) from by rw [hX]; exact rb_new _ _)
      have HOA : Hid (OutL (X.alloc (.cells #[.string A2] 9)) W.heap.size vo o) := (HO.out.below hbX).below (rb1w X _)
      have HBA : Hid (Below W.heap.size W (X.alloc (.cells #[.string A2] 9))) := (HB.out.trans (hbX.mono HB.out.size)).alloc (by have := HB.out.size; have := hbX.size; omega) _
      go_upto_region 5 with fail
      rw [← hX]
      clear hX hca hcb hbX
      go_wp2_with (at_builtin; refine app_strL _ rfl _ _ rfl W.heap.size _ o.length (o.map txt) rfl HOA.out X.heap.size A2 rfl ?c1 (by omega) HBA.out.size ?_; rotate_right; intro v' w5 hown5 hgrow5 _; have HO5 := Lib.hid hown5; have HB5 := Lib.hid (HBA.out.grown hgrow5 HBA.out.size (fun j hj => (HOA.out.lt j hj).1)); clear hown5 hgrow5)
      case c1 => rw [World.cell?_alloc_at _ _ _ _ rfl]; rfl
      go_roundw
      case rel => exact ⟨k + 1, by omega, by go_num, by rw [HNX.out]; have h := HO5.out; rw [HA.out] at h; exact OutL.step h, HB5.out⟩
      case measure => simp [intOf]; omega
    · obtain rfl : k = F.ms.length := by omega
      rw [List.take_length] at HO
      clear hfi
      obtain ⟨vo, hvo⟩ : ∃ vo, vo = u3 := ⟨_, rfl⟩
      subst hvo
      by_cases hp : F.ph = []
      · have hp0 : F.ph.length = 0 := by rw [hp]; rfl
        have HP := Lib.hid hp
        have HP0 := Lib.hid hp0
        have hd : decide (0 < F.ph.length) = false := decide_eq_false (by omega)
        have HL9 := Lib.hid (show (F.ms.map ln1).length ≤ 2097152 from by rw [List.length_map]; omega)
        have HO9 := HO
        have HB9 := HB
        clear HO HB hp hp0
        go_wp2_with fail
        go_loopw [41, 3] (fun i v wr => ∃ k : Nat, k ≤ F.inf.length ∧ i = .int .i64 k ∧ Hid (OutL wr W.heap.size v (F.ms.map ln1 ++ (F.inf.take k).map ln3)) ∧ Hid (Below W.heap.size W wr)) (fun i _ _ => F.inf.length - (intOf i).toNat)
        case atStart => exact ⟨0, Nat.zero_le _, rfl, by rw [List.take_zero, List.map_nil, List.append_nil]; exact HO9.out, HB9.out⟩
        case round =>
          obtain ⟨k, hk, rfl, HO, HB⟩ := hrel
          clear c0 c1 c2 c3
          obtain ⟨⟨c0, c1, c2, c3⟩, _, hfi⟩ := HC.out wr HB.out
          by_cases hlt : k < F.inf.length
          · obtain ⟨x, hx⟩ : ∃ x, F.inf[k]? = some x := ⟨_, List.getElem?_eq_getElem hlt⟩
            obtain ⟨bb, ob, rfl, hbb, hca, hcb⟩ := hfi.inf.cell hx
            rw [← Nat.add_assoc] at hcb
            have hlx := HZ3.out k x hx
            have HNX := Lib.hid (map_next (f := ln3) hx)
            clear hx hfi
            obtain ⟨m1, m2⟩ := x
            simp only [iF, iG] at hca hcb
            have hll : m1.size + m2.size + 2 ≤ 1048600 := by unfold ln3 at hlx; simp only [List.length_append, List.length_cons, List.length_nil, ba_len] at hlx; omega
            obtain ⟨A1, a1, r1⟩ := cat_run2 (P := Tryz.prog) m1 m2 (by omega)
            obtain ⟨A2, a2, r2⟩ := cat_run2 (P := Tryz.prog) A1 ⟨#[32, 58]⟩ (by rw [a1, ByteArray.size_append]; show _ + 2 ≤ _; omega)
            have HA : Hid (A2 = txt (ln3 (m1, m2))) := by
              show _ = _
              rw [a2, a1, show (⟨#[32, 58]⟩ : ByteArray) = txt [32, 58] from rfl, ← list_txt m1, ← list_txt m2, txt_app, txt_app]
              unfold ln3
              simp only [txt_list]
            obtain ⟨o, ho⟩ : ∃ o, o = F.ms.map ln1 ++ (F.inf.take k).map ln3 := ⟨_, rfl⟩
            have hll2 : o.length ≤ 4194304 := by rw [ho, List.length_append]; have := HL9.out; have e : ((F.inf.take k).map ln3).length ≤ F.inf.length := (by rw [List.length_map, List.length_take]; exact Nat.min_le_right _ _); omega
            have HON : Hid (F.ms.map ln1 ++ (F.inf.take (k + 1)).map ln3 = o ++ [ln3 (m1, m2)]) := by show _ = _; rw [HNX.out, ← List.append_assoc, ← ho]
            rw [← ho] at HO
            clear a1 a2 hlx HNX ho
            obtain ⟨vo, hvo⟩ : ∃ vo, vo = u3 := ⟨_, rfl⟩
            subst hvo
            obtain ⟨X, hX⟩ : ∃ X, X = wr.alloc (.cells #[.string m1, .string m2] 100) := ⟨_, rfl⟩
            have hbX : Below wr.heap.size wr X := by rw [hX]; exact rb1w _ _
            obtain ⟨x1, x2, x3⟩ := rb_cells (show X.heap[wr.heap.size]? = some (.cells #[.string m1, .string m2] 100 (0, 0)) from by rw [hX]; exact rb_new _ _)
            have HOA : Hid (OutL (X.alloc (.cells #[.string A2] 9)) W.heap.size vo o) := (HO.out.below hbX).below (rb1w X _)
            have HBA : Hid (Below W.heap.size W (X.alloc (.cells #[.string A2] 9))) := (HB.out.trans (hbX.mono HB.out.size)).alloc (by have := HB.out.size; have := hbX.size; omega) _
            go_upto_region 12 with fail
            rw [← hX]
            clear hX hca hcb hbX
            go_wp2_with (at_builtin; refine app_strL _ rfl _ _ rfl W.heap.size _ o.length (o.map txt) rfl HOA.out X.heap.size A2 rfl ?ca1 (by omega) HBA.out.size ?_; rotate_right; intro v' w5 hown5 hgrow5 _; have HO5 := Lib.hid hown5; have HB5 := Lib.hid (HBA.out.grown hgrow5 HBA.out.size (fun j hj => (HOA.out.lt j hj).1)); clear hown5 hgrow5)
            case ca1 => rw [World.cell?_alloc_at _ _ _ _ rfl]; rfl
            go_roundw
            case rel => exact ⟨k + 1, by omega, by go_num, by rw [HON.out]; have h := HO5.out; rw [HA.out] at h; exact OutL.step h, HB5.out⟩
            case measure => simp [intOf]; omega
          · obtain rfl : k = F.inf.length := by omega
            rw [List.take_length] at HO
            obtain ⟨o8, ho8⟩ : ∃ o8, o8 = F.ms.map ln1 ++ F.inf.map ln3 := ⟨_, rfl⟩
            have HL8 := Lib.hid (show o8.length ≤ 4194304 from by rw [ho8, List.length_append]; have := HL9.out; have e : (F.inf.map ln3).length = F.inf.length := List.length_map _; omega)
            have HE8 := Lib.hid ho8
            rw [← ho8] at HO
            clear ho8 hfi
            obtain ⟨vo, hvo⟩ : ∃ vo, vo = u3 := ⟨_, rfl⟩
            subst hvo
            have HO8 := HO
            have HB8 := HB
            clear HO HB
            go_wp2_with fail
            go_loopw [58, 3] (fun i v wr => ∃ k : Nat, k ≤ hl.length ∧ i = .int .i64 k ∧ Hid (OutL wr W.heap.size v (o8 ++ (hl.take k).map (fun x => ln4 (rl x)))) ∧ Hid (Below W.heap.size W wr)) (fun i _ _ => hl.length - (intOf i).toNat)
            case atStart => exact ⟨0, Nat.zero_le _, rfl, by rw [List.take_zero, List.map_nil, List.append_nil]; exact HO8.out, HB8.out⟩
            case round =>
              obtain ⟨k, hk, rfl, HO, HB⟩ := hrel
              clear c0 c1 c2 c3
              obtain ⟨⟨c0, c1, c2, c3⟩, hbw, hfi⟩ := HC.out wr HB.out
              by_cases hlt : k < hl.length
              · obtain ⟨x, hx⟩ : ∃ x, hl[k]? = some x := ⟨_, List.getElem?_eq_getElem hlt⟩
                obtain ⟨bb, ob, rfl, hbb, hca, hcb⟩ := hfi.rs.at_.cell hx
                rw [← Nat.add_assoc] at hcb
                have hlx := HZ4.out k x hx
                have HNX := Lib.hid (map_next (f := fun x => ln4 (rl x)) hx)
                obtain ⟨⟨k1, k2⟩, ⟨k3, k4⟩⟩ := hfi.rs.ok x (List.mem_of_getElem? hx)
                have hrx := HRZ.out x (List.mem_of_getElem? hx)
                clear hx hfi
                obtain ⟨⟨p1, n1, d1, T1⟩, ⟨p2, n2, d2, T2⟩⟩ := x
                simp only [rF, rG, Hd.v] at hca hcb
                simp only at k1 k2 k3 k4 hrx
                obtain ⟨o, ho⟩ : ∃ o, o = o8 ++ (hl.take k).map (fun x => ln4 (rl x)) := ⟨_, rfl⟩
                have hll2 : o.length ≤ 8388608 := by rw [ho, List.length_append]; have := HL8.out; have e : ((hl.take k).map (fun x => ln4 (rl x))).length ≤ hl.length := (by rw [List.length_map, List.length_take]; exact Nat.min_le_right _ _); omega
                have HON : Hid (o8 ++ (hl.take (k + 1)).map (fun x => ln4 (rl x)) = o ++ [ruleT T1 T2]) := by show _ = _; rw [HNX.out, ← List.append_assoc, ← ho]; rfl
                have hlr : (ruleT T1 T2).length ≤ 1048600 := hlx
                rw [← ho] at HO
                clear hlx HNX ho
                obtain ⟨vo, hvo⟩ : ∃ vo, vo = u3 := ⟨_, rfl⟩
                subst hvo
                have e1 := k1.at_.len
                have e2 := k3.at_.len
                obtain ⟨X, hX⟩ : ∃ X, X = wr.alloc (.cells #[.slice p1 n1 d1, .slice p2 n2 d2] 61) := ⟨_, rfl⟩
                have hbX : Below wr.heap.size wr X := by rw [hX]; exact rb1w _ _
                obtain ⟨x1, x2, x3⟩ := rb_cells (show X.heap[wr.heap.size]? = some (.cells #[.slice p1 n1 d1, .slice p2 n2 d2] 61 (0, 0)) from by rw [hX]; exact rb_new _ _)
                obtain ⟨Y, hY⟩ : ∃ Y, Y = (X.alloc (.cells #[.string ⟨#[58]⟩] 9)).alloc (.cells #[.slice p1 n1 d1, .slice (some ⟨X.heap.size, 0, none⟩) 1 1, .slice p2 n2 d2] 23) := ⟨_, rfl⟩
                have hb1 : Below X.heap.size X (X.alloc (.cells #[.string ⟨#[58]⟩] 9)) := rb1w _ _
                have hXs : (X.alloc (.cells #[.string ⟨#[58]⟩] 9)).heap.size = X.heap.size + 1 := by simp
                have hb2 : Below X.heap.size X Y := by rw [hY]; exact hb1.trans ((rb1w _ _).mono hb1.size)
                have hbY : Below wr.heap.size wr Y := hbX.trans (hb2.mono hbX.size)
                have hYc : Y.cell? ⟨X.heap.size + 1, 0, none⟩ = some (.slice p1 n1 d1) ∧ Y.cell? ⟨X.heap.size + 1, 1, none⟩ = some (.slice (some ⟨X.heap.size, 0, none⟩) 1 1) ∧ Y.cell? ⟨X.heap.size + 1, 2, none⟩ = some (.slice p2 n2 d2) := by
                  rw [hY]
                  refine ⟨?_, ?_, ?_⟩
                  all_goals (rw [World.cell?_alloc_at _ _ _ _ hXs.symm]; rfl)
                have hn1 : NLw Y (some ⟨X.heap.size, 0, none⟩) 1 1 [⟨#[58]⟩] := ((NL_one X ⟨#[58]⟩ (by decide)).below (by rw [hY]; exact rb1w _ _)).weak
                have HCAT := Lib.hid (concat_threeW (k1.below hbY) hn1 (k3.below hbY) (by omega) hYc.1 hYc.2.1 hYc.2.2 (by rw [hY]; simp))
                have hlt3 : (T1 ++ [(⟨#[58]⟩ : ByteArray)] ++ T2).length ≤ 4194304 := by rw [List.length_append, List.length_append, e1, e2]; simp; omega
                have hlt4 : 0 < (T1 ++ [(⟨#[58]⟩ : ByteArray)] ++ T2).length := by simp; omega
                have HRT : Hid (Lib.join ((T1 ++ [(⟨#[58]⟩ : ByteArray)] ++ T2).map (·.data.toList)) (⟨#[32]⟩ : ByteArray).data.toList = ruleT T1 T2) := rfl
                have HOY : Hid (OutL Y W.heap.size vo o) := HO.out.below hbY
                have HBY : Hid (Below W.heap.size W Y) := HB.out.trans (hbY.mono HB.out.size)
                have hx9 : (X.alloc (.cells #[.string ⟨#[58]⟩] 9)).heap[wr.heap.size]? = some (.cells #[.slice p1 n1 d1, .slice p2 n2 d2] 61 (0, 0)) := by rw [hb1.block _ (by rw [hX]; simp), hX]; exact rb_new _ _
                obtain ⟨y1, y2, y3⟩ := rb_cells hx9
                clear hx9 k1 k3 hn1 hYc hb1 hb2 hbY hbX e1 e2
                generalize hus : T1 ++ [(⟨#[58]⟩ : ByteArray)] ++ T2 = us at *
                clear hus
                go_upto_region 17 with fail
                rw [← hX]
                clear hX hca hcb
                go_wp2_with fail
                rw [← hY]
                clear hY
                refine HCAT.out.mono ?_
                rintro e w5 ⟨g5, c5, rfl, hown5, hb5⟩
                have HBW5 := Lib.hid (HBY.out.trans (hb5.mono HBY.out.size))
                have HOW5 := Lib.hid (HOY.out.below hb5)
                have hj := join_own hown5 hlt4 ⟨#[32]⟩ (by omega) (by rw [HRT.out]; omega)
                rw [HRT.out] at hj
                have HJ := Lib.hid hj
                clear hown5 hb5 hj
                go_wp2_with fail
                refine HJ.out.mono ?_
                rintro e w6 ⟨rfl, hb6⟩
                have HBW6 := Lib.hid (HBW5.out.trans (hb6.mono HBW5.out.size))
                have HOA : Hid (OutL (w6.alloc (.cells #[.string ⟨(ruleT T1 T2).toArray⟩] 9)) W.heap.size vo o) := (HOW5.out.below hb6).below (rb1w w6 _)
                have HBA : Hid (Below W.heap.size W (w6.alloc (.cells #[.string ⟨(ruleT T1 T2).toArray⟩] 9))) := HBW6.out.alloc HBW6.out.size _
                clear hb6
                go_wp2_with (at_builtin; refine app_strL _ rfl _ _ rfl W.heap.size _ o.length (o.map txt) rfl HOA.out w6.heap.size ⟨(ruleT T1 T2).toArray⟩ rfl ?ca2 (by omega) HBA.out.size ?_; rotate_right; intro v' w7 hown7 hgrow7 _; have HO7 := Lib.hid hown7; have HB7 := Lib.hid (HBA.out.grown hgrow7 HBA.out.size (fun j hj => (HOA.out.lt j hj).1)); clear hown7 hgrow7)
                case ca2 => rw [World.cell?_alloc_at _ _ _ _ rfl]; rfl
                go_roundw
                case rel => exact ⟨k + 1, by omega, by go_num, by rw [HON.out]; exact OutL.step HO7.out, HB7.out⟩
                case measure => simp [intOf]; omega
              · obtain rfl : k = hl.length := by omega
                rw [List.take_length] at HO
                have HEF : Hid (o8 ++ hl.map (fun x => ln4 (rl x)) = linesF F) := by
                  show _ = _
                  rw [linesF_eq, HE8.out, ← HSM.out, List.map_map]
                  rw [if_pos HP.out, List.append_nil]; rfl
                rw [HEF.out] at HO
                obtain ⟨vo, hvo⟩ : ∃ vo, vo = u3 := ⟨_, rfl⟩
                subst hvo
                obtain ⟨pf, cf, rfl⟩ := slice_form HO.out
                have HLZL : Hid ((linesF F).length ≤ 8388608) := by show _ ≤ _; rw [← HEF.out, List.length_append, List.length_map]; have := HL8.out; omega
                go_wp2
                go_ret
                refine ⟨⟨pf, cf, rfl, NL_own HO.out (fun x hx => ?_) (by have := HLZL.out; omega)⟩, hbw⟩
                obtain ⟨y, hy, rfl⟩ := List.mem_map.1 hx
                have := HLZ.out y hy
                rw [txt_size]
                omega
      · have hp0 : 0 < F.ph.length := by
          rcases Nat.eq_zero_or_pos F.ph.length with e | e
          · exact absurd (List.length_eq_zero_iff.1 e) hp
          · exact e
        have HP := Lib.hid hp
        have hd : decide (0 < F.ph.length) = true := decide_eq_true (by omega)
        have hlp := HZ2.out hp
        have hlj : (Lib.join (lst F.ph) [32]).length + 9 ≤ 1048600 := by unfold ln2 at hlp; simp only [List.length_append, List.length_cons, List.length_nil] at hlp; have e : phonyS.data.toList.length = 6 := rfl; omega
        have HJ : Hid (∀ u : World, Below W.heap.size W u → Calls Tryz.prog 81 #[.slice pp F.ph.length cp, .string ⟨#[32]⟩] u fun e w' => e = .returned (.string (txt (Lib.join (lst F.ph) [32]))) ∧ Below u.heap.size u w') := by
          show ∀ u : World, _
          intro u hu
          exact join_nlw (HC.out u hu).2.2.ph hp0 hcp (by omega)
        obtain ⟨A1, a1, r1⟩ := cat_run2 (P := Tryz.prog) ⟨#[46, 80, 72, 79, 78, 89, 32, 58, 32]⟩ (txt (Lib.join (lst F.ph) [32])) (by rw [txt_size]; show 9 + _ ≤ _; omega)
        have HA : Hid (A1 = txt (ln2 F.ph)) := by
          show _ = _
          rw [a1, show (⟨#[46, 80, 72, 79, 78, 89, 32, 58, 32]⟩ : ByteArray) = txt (phonyS.data.toList ++ [32, 58, 32]) from rfl, txt_app]
          rfl
        have HL9 := Lib.hid (show (F.ms.map ln1 ++ [ln2 F.ph]).length ≤ 2097152 from by rw [List.length_append, List.length_map]; simp; omega)
        have hll2 : (F.ms.map ln1).length ≤ 1048576 := by rw [List.length_map]; omega
        clear hp hlp a1
        obtain ⟨o, ho⟩ : ∃ o, o = F.ms.map ln1 := ⟨_, rfl⟩
        have HOM := Lib.hid ho
        rw [← ho] at HO hll2
        clear ho
        go_upto_region 8 with fail
        go_wp2_with (first
          | (go_at_call 81; refine (HJ.out _ HB.out).mono ?_; rintro e w2 ⟨rfl, hb2⟩; have HB2 := Lib.hid (HB.out.trans (hb2.mono HB.out.size)); have HOA : Hid (OutL (w2.alloc (.cells #[.string A1] 9)) W.heap.size vo o) := (HO.out.below hb2).below (rb1w w2 _); have HBA : Hid (Below W.heap.size W (w2.alloc (.cells #[.string A1] 9))) := HB2.out.alloc HB2.out.size _; clear hb2)
          | (at_builtin; refine app_strL _ rfl _ _ rfl W.heap.size _ o.length (o.map txt) rfl HOA.out w2.heap.size A1 rfl ?cp1 (by omega) HBA.out.size ?_; rotate_right; intro v' w5 hown5 hgrow5 _; have HO9 : Hid (OutL w5 W.heap.size v' (F.ms.map ln1 ++ [ln2 F.ph])) := (by show OutL _ _ _ _; have h := hown5; rw [HA.out, HOM.out] at h; exact OutL.step h); have HB9 := Lib.hid (HBA.out.grown hgrow5 HBA.out.size (fun j hj => (HOA.out.lt j hj).1)); obtain ⟨⟨x0, x1, x2, x3⟩, _⟩ := HC.out w5 HB9.out; clear hown5 hgrow5))
        case cp1 => rw [World.cell?_alloc_at _ _ _ _ rfl]; rfl
        go_loopw [41, 3] (fun i v wr => ∃ k : Nat, k ≤ F.inf.length ∧ i = .int .i64 k ∧ Hid (OutL wr W.heap.size v ((F.ms.map ln1 ++ [ln2 F.ph]) ++ (F.inf.take k).map ln3)) ∧ Hid (Below W.heap.size W wr)) (fun i _ _ => F.inf.length - (intOf i).toNat)
        case atStart => exact ⟨0, Nat.zero_le _, rfl, by rw [List.take_zero, List.map_nil, List.append_nil]; exact HO9.out, HB9.out⟩
        case round =>
          obtain ⟨k, hk, rfl, HO, HB⟩ := hrel
          clear c0 c1 c2 c3
          obtain ⟨⟨c0, c1, c2, c3⟩, _, hfi⟩ := HC.out wr HB.out
          by_cases hlt : k < F.inf.length
          · obtain ⟨x, hx⟩ : ∃ x, F.inf[k]? = some x := ⟨_, List.getElem?_eq_getElem hlt⟩
            obtain ⟨bb, ob, rfl, hbb, hca, hcb⟩ := hfi.inf.cell hx
            rw [← Nat.add_assoc] at hcb
            have hlx := HZ3.out k x hx
            have HNX := Lib.hid (map_next (f := ln3) hx)
            clear hx hfi
            obtain ⟨m1, m2⟩ := x
            simp only [iF, iG] at hca hcb
            have hll : m1.size + m2.size + 2 ≤ 1048600 := by unfold ln3 at hlx; simp only [List.length_append, List.length_cons, List.length_nil, ba_len] at hlx; omega
            obtain ⟨A1, a1, r1⟩ := cat_run2 (P := Tryz.prog) m1 m2 (by omega)
            obtain ⟨A2, a2, r2⟩ := cat_run2 (P := Tryz.prog) A1 ⟨#[32, 58]⟩ (by rw [a1, ByteArray.size_append]; show _ + 2 ≤ _; omega)
            have HA : Hid (A2 = txt (ln3 (m1, m2))) := by
              show _ = _
              rw [a2, a1, show (⟨#[32, 58]⟩ : ByteArray) = txt [32, 58] from rfl, ← list_txt m1, ← list_txt m2, txt_app, txt_app]
              unfold ln3
              simp only [txt_list]
            obtain ⟨o, ho⟩ : ∃ o, o = (F.ms.map ln1 ++ [ln2 F.ph]) ++ (F.inf.take k).map ln3 := ⟨_, rfl⟩
            have hll2 : o.length ≤ 4194304 := by rw [ho, List.length_append]; have := HL9.out; have e : ((F.inf.take k).map ln3).length ≤ F.inf.length := (by rw [List.length_map, List.length_take]; exact Nat.min_le_right _ _); omega
            have HON : Hid ((F.ms.map ln1 ++ [ln2 F.ph]) ++ (F.inf.take (k + 1)).map ln3 = o ++ [ln3 (m1, m2)]) := by show _ = _; rw [HNX.out, ← List.append_assoc, ← ho]
            rw [← ho] at HO
            clear a1 a2 hlx HNX ho
            obtain ⟨vo, hvo⟩ : ∃ vo, vo = u3 := ⟨_, rfl⟩
            subst hvo
            obtain ⟨X, hX⟩ : ∃ X, X = wr.alloc (.cells #[.string m1, .string m2] 100) := ⟨_, rfl⟩
            have hbX : Below wr.heap.size wr X := by rw [hX]; exact rb1w _ _
            obtain ⟨x1, x2, x3⟩ := rb_cells (show X.heap[wr.heap.size]? = some (.cells #[.string m1, .string m2] 100 (0, 0)) from by rw [hX]; exact rb_new _ _)
            have HOA : Hid (OutL (X.alloc (.cells #[.string A2] 9)) W.heap.size vo o) := (HO.out.below hbX).below (rb1w X _)
            have HBA : Hid (Below W.heap.size W (X.alloc (.cells #[.string A2] 9))) := (HB.out.trans (hbX.mono HB.out.size)).alloc (by have := HB.out.size; have := hbX.size; omega) _
            go_upto_region 12 with fail
            rw [← hX]
            clear hX hca hcb hbX
            go_wp2_with (at_builtin; refine app_strL _ rfl _ _ rfl W.heap.size _ o.length (o.map txt) rfl HOA.out X.heap.size A2 rfl ?cb1 (by omega) HBA.out.size ?_; rotate_right; intro v' w5 hown5 hgrow5 _; have HO5 := Lib.hid hown5; have HB5 := Lib.hid (HBA.out.grown hgrow5 HBA.out.size (fun j hj => (HOA.out.lt j hj).1)); clear hown5 hgrow5)
            case cb1 => rw [World.cell?_alloc_at _ _ _ _ rfl]; rfl
            go_roundw
            case rel => exact ⟨k + 1, by omega, by go_num, by rw [HON.out]; have h := HO5.out; rw [HA.out] at h; exact OutL.step h, HB5.out⟩
            case measure => simp [intOf]; omega
          · obtain rfl : k = F.inf.length := by omega
            rw [List.take_length] at HO
            obtain ⟨o8, ho8⟩ : ∃ o8, o8 = (F.ms.map ln1 ++ [ln2 F.ph]) ++ F.inf.map ln3 := ⟨_, rfl⟩
            have HL8 := Lib.hid (show o8.length ≤ 4194304 from by rw [ho8, List.length_append]; have := HL9.out; have e : (F.inf.map ln3).length = F.inf.length := List.length_map _; omega)
            have HE8 := Lib.hid ho8
            rw [← ho8] at HO
            clear ho8 hfi
            obtain ⟨vo, hvo⟩ : ∃ vo, vo = u3 := ⟨_, rfl⟩
            subst hvo
            have HO8 := HO
            have HB8 := HB
            clear HO HB
            go_wp2_with fail
            go_loopw [58, 3] (fun i v wr => ∃ k : Nat, k ≤ hl.length ∧ i = .int .i64 k ∧ Hid (OutL wr W.heap.size v (o8 ++ (hl.take k).map (fun x => ln4 (rl x)))) ∧ Hid (Below W.heap.size W wr)) (fun i _ _ => hl.length - (intOf i).toNat)
            case atStart => exact ⟨0, Nat.zero_le _, rfl, by rw [List.take_zero, List.map_nil, List.append_nil]; exact HO8.out, HB8.out⟩
            case round =>
              obtain ⟨k, hk, rfl, HO, HB⟩ := hrel
              clear c0 c1 c2 c3
              obtain ⟨⟨c0, c1, c2, c3⟩, hbw, hfi⟩ := HC.out wr HB.out
              by_cases hlt : k < hl.length
              · obtain ⟨x, hx⟩ : ∃ x, hl[k]? = some x := ⟨_, List.getElem?_eq_getElem hlt⟩
                obtain ⟨bb, ob, rfl, hbb, hca, hcb⟩ := hfi.rs.at_.cell hx
                rw [← Nat.add_assoc] at hcb
                have hlx := HZ4.out k x hx
                have HNX := Lib.hid (map_next (f := fun x => ln4 (rl x)) hx)
                obtain ⟨⟨k1, k2⟩, ⟨k3, k4⟩⟩ := hfi.rs.ok x (List.mem_of_getElem? hx)
                have hrx := HRZ.out x (List.mem_of_getElem? hx)
                clear hx hfi
                obtain ⟨⟨p1, n1, d1, T1⟩, ⟨p2, n2, d2, T2⟩⟩ := x
                simp only [rF, rG, Hd.v] at hca hcb
                simp only at k1 k2 k3 k4 hrx
                obtain ⟨o, ho⟩ : ∃ o, o = o8 ++ (hl.take k).map (fun x => ln4 (rl x)) := ⟨_, rfl⟩
                have hll2 : o.length ≤ 8388608 := by rw [ho, List.length_append]; have := HL8.out; have e : ((hl.take k).map (fun x => ln4 (rl x))).length ≤ hl.length := (by rw [List.length_map, List.length_take]; exact Nat.min_le_right _ _); omega
                have HON : Hid (o8 ++ (hl.take (k + 1)).map (fun x => ln4 (rl x)) = o ++ [ruleT T1 T2]) := by show _ = _; rw [HNX.out, ← List.append_assoc, ← ho]; rfl
                have hlr : (ruleT T1 T2).length ≤ 1048600 := hlx
                rw [← ho] at HO
                clear hlx HNX ho
                obtain ⟨vo, hvo⟩ : ∃ vo, vo = u3 := ⟨_, rfl⟩
                subst hvo
                have e1 := k1.at_.len
                have e2 := k3.at_.len
                obtain ⟨X, hX⟩ : ∃ X, X = wr.alloc (.cells #[.slice p1 n1 d1, .slice p2 n2 d2] 61) := ⟨_, rfl⟩
                have hbX : Below wr.heap.size wr X := by rw [hX]; exact rb1w _ _
                obtain ⟨x1, x2, x3⟩ := rb_cells (show X.heap[wr.heap.size]? = some (.cells #[.slice p1 n1 d1, .slice p2 n2 d2] 61 (0, 0)) from by rw [hX]; exact rb_new _ _)
                obtain ⟨Y, hY⟩ : ∃ Y, Y = (X.alloc (.cells #[.string ⟨#[58]⟩] 9)).alloc (.cells #[.slice p1 n1 d1, .slice (some ⟨X.heap.size, 0, none⟩) 1 1, .slice p2 n2 d2] 23) := ⟨_, rfl⟩
                have hb1 : Below X.heap.size X (X.alloc (.cells #[.string ⟨#[58]⟩] 9)) := rb1w _ _
                have hXs : (X.alloc (.cells #[.string ⟨#[58]⟩] 9)).heap.size = X.heap.size + 1 := by simp
                have hb2 : Below X.heap.size X Y := by rw [hY]; exact hb1.trans ((rb1w _ _).mono hb1.size)
                have hbY : Below wr.heap.size wr Y := hbX.trans (hb2.mono hbX.size)
                have hYc : Y.cell? ⟨X.heap.size + 1, 0, none⟩ = some (.slice p1 n1 d1) ∧ Y.cell? ⟨X.heap.size + 1, 1, none⟩ = some (.slice (some ⟨X.heap.size, 0, none⟩) 1 1) ∧ Y.cell? ⟨X.heap.size + 1, 2, none⟩ = some (.slice p2 n2 d2) := by
                  rw [hY]
                  refine ⟨?_, ?_, ?_⟩
                  all_goals (rw [World.cell?_alloc_at _ _ _ _ hXs.symm]; rfl)
                have hn1 : NLw Y (some ⟨X.heap.size, 0, none⟩) 1 1 [⟨#[58]⟩] := ((NL_one X ⟨#[58]⟩ (by decide)).below (by rw [hY]; exact rb1w _ _)).weak
                have HCAT := Lib.hid (concat_threeW (k1.below hbY) hn1 (k3.below hbY) (by omega) hYc.1 hYc.2.1 hYc.2.2 (by rw [hY]; simp))
                have hlt3 : (T1 ++ [(⟨#[58]⟩ : ByteArray)] ++ T2).length ≤ 4194304 := by rw [List.length_append, List.length_append, e1, e2]; simp; omega
                have hlt4 : 0 < (T1 ++ [(⟨#[58]⟩ : ByteArray)] ++ T2).length := by simp; omega
                have HRT : Hid (Lib.join ((T1 ++ [(⟨#[58]⟩ : ByteArray)] ++ T2).map (·.data.toList)) (⟨#[32]⟩ : ByteArray).data.toList = ruleT T1 T2) := rfl
                have HOY : Hid (OutL Y W.heap.size vo o) := HO.out.below hbY
                have HBY : Hid (Below W.heap.size W Y) := HB.out.trans (hbY.mono HB.out.size)
                have hx9 : (X.alloc (.cells #[.string ⟨#[58]⟩] 9)).heap[wr.heap.size]? = some (.cells #[.slice p1 n1 d1, .slice p2 n2 d2] 61 (0, 0)) := by rw [hb1.block _ (by rw [hX]; simp), hX]; exact rb_new _ _
                obtain ⟨y1, y2, y3⟩ := rb_cells hx9
                clear hx9 k1 k3 hn1 hYc hb1 hb2 hbY hbX e1 e2
                generalize hus : T1 ++ [(⟨#[58]⟩ : ByteArray)] ++ T2 = us at *
                clear hus
                go_upto_region 17 with fail
                rw [← hX]
                clear hX hca hcb
                go_wp2_with fail
                rw [← hY]
                clear hY
                refine HCAT.out.mono ?_
                rintro e w5 ⟨g5, c5, rfl, hown5, hb5⟩
                have HBW5 := Lib.hid (HBY.out.trans (hb5.mono HBY.out.size))
                have HOW5 := Lib.hid (HOY.out.below hb5)
                have hj := join_own hown5 hlt4 ⟨#[32]⟩ (by omega) (by rw [HRT.out]; omega)
                rw [HRT.out] at hj
                have HJ := Lib.hid hj
                clear hown5 hb5 hj
                go_wp2_with fail
                refine HJ.out.mono ?_
                rintro e w6 ⟨rfl, hb6⟩
                have HBW6 := Lib.hid (HBW5.out.trans (hb6.mono HBW5.out.size))
                have HOA : Hid (OutL (w6.alloc (.cells #[.string ⟨(ruleT T1 T2).toArray⟩] 9)) W.heap.size vo o) := (HOW5.out.below hb6).below (rb1w w6 _)
                have HBA : Hid (Below W.heap.size W (w6.alloc (.cells #[.string ⟨(ruleT T1 T2).toArray⟩] 9))) := HBW6.out.alloc HBW6.out.size _
                clear hb6
                go_wp2_with (at_builtin; refine app_strL _ rfl _ _ rfl W.heap.size _ o.length (o.map txt) rfl HOA.out w6.heap.size ⟨(ruleT T1 T2).toArray⟩ rfl ?cb2 (by omega) HBA.out.size ?_; rotate_right; intro v' w7 hown7 hgrow7 _; have HO7 := Lib.hid hown7; have HB7 := Lib.hid (HBA.out.grown hgrow7 HBA.out.size (fun j hj => (HOA.out.lt j hj).1)); clear hown7 hgrow7)
                case cb2 => rw [World.cell?_alloc_at _ _ _ _ rfl]; rfl
                go_roundw
                case rel => exact ⟨k + 1, by omega, by go_num, by rw [HON.out]; exact OutL.step HO7.out, HB7.out⟩
                case measure => simp [intOf]; omega
              · obtain rfl : k = hl.length := by omega
                rw [List.take_length] at HO
                have HEF : Hid (o8 ++ hl.map (fun x => ln4 (rl x)) = linesF F) := by
                  show _ = _
                  rw [linesF_eq, HE8.out, ← HSM.out, List.map_map]
                  rw [if_neg HP.out]; rfl
                rw [HEF.out] at HO
                obtain ⟨vo, hvo⟩ : ∃ vo, vo = u3 := ⟨_, rfl⟩
                subst hvo
                obtain ⟨pf, cf, rfl⟩ := slice_form HO.out
                have HLZL : Hid ((linesF F).length ≤ 8388608) := by show _ ≤ _; rw [← HEF.out, List.length_append, List.length_map]; have := HL8.out; omega
                go_wp2
                go_ret
                refine ⟨⟨pf, cf, rfl, NL_own HO.out (fun x hx => ?_) (by have := HLZL.out; omega)⟩, hbw⟩
                obtain ⟨y, hy, rfl⟩ := List.mem_map.1 hx
                have := HLZ.out y hy
                rw [txt_size]
                omega
end Go.Proofs.YtoiolepengcagaaGreatDoor
namespace Go.Proofs.YtoiolepengcagaaGreatDoor
open Go.RowKit Go.Shelf Go.Maps
theorem nameE_sz {s : ByteArray} (h : nameE s = 0) : s.size ≤ 40 := by
  unfold nameE at h
  split at h
  · cases h
  · omega
theorem pairI_sz {s : ByteArray} {n : Nat} (h : s.size ≤ n) : (pairI s).1.size ≤ n + 1 ∧ (pairI s).2.size ≤ n + 1 := by
  have key : ∀ k, ((partsB s).getD k ByteArray.empty).size ≤ s.size := fun k => by
    rcases Nat.lt_or_ge k (partsB s).length with hk | hk
    · rw [List.getD_eq_getElem?_getD, List.getElem?_eq_getElem hk]
      exact splitB_size ⟨#[46]⟩ _ s _ (List.getElem_mem hk)
    · rw [List.getD_eq_getElem?_getD, List.getElem?_eq_none hk]
      exact Nat.zero_le _
  have h1 := key 1
  have h2 := key 2
  unfold pairI
  constructor
  · show (ByteArray.size (_ ++ _)) ≤ _; rw [ByteArray.size_append]; show 1 + _ ≤ _; omega
  · show (ByteArray.size (_ ++ _)) ≤ _; rw [ByteArray.size_append]; show 1 + _ ≤ _; omega
structure Fits (i : Nat) (F : FileV) : Prop where
  ph : F.ph.length ≤ 20
  phs : ∀ x ∈ F.ph, x.size ≤ 40
  inf : F.inf.length ≤ i
  infs : ∀ x ∈ F.inf, x.1.size ≤ 41 ∧ x.2.size ≤ 41
  rs : F.rs.length ≤ i
  ok : ∀ r ∈ F.rs, RuleOk r.1 r.2
theorem Fits.up {i j : Nat} {F : FileV} (h : Fits i F) (hij : i ≤ j) : Fits j F := ⟨h.ph, h.phs, by have := h.inf; omega, h.infs, by have := h.rs; omega, h.ok⟩
theorem addP_mem {P N : List ByteArray} {x : ByteArray} (h : x ∈ addP P N) : x ∈ P ∨ x ∈ N := by
  induction N generalizing P with
  | nil => exact .inl h
  | cons n N ih =>
    have h' : x ∈ addP (if Lib.containsS P n = true then P else P ++ [n]) N := h
    rcases ih h' with h1 | h1
    · split at h1
      · exact .inl h1
      · rcases List.mem_append.1 h1 with h1 | h1
        · exact .inl h1
        · exact .inr (List.mem_singleton.1 h1 ▸ List.mem_cons_self)
    · exact .inr (List.mem_cons_of_mem _ h1)
theorem addF_fits {i : Nat} {F : FileV} {T N : List ByteArray} (h : Fits i F) (hok : RuleOk T N) (hE : (addF F T N).2 = 0) : Fits (i + 1) (addF F T N).1 ∧ (addF F T N).1.ms = F.ms := by
  have hnm : ∀ s ∈ T ++ N, s.size ≤ 40 := fun s hs => nameE_sz (hok.names s hs)
  by_cases h1 : Lib.containsS T phonyS = true
  · by_cases h2 : 1 < T.length
    · rw [addF_3 h1 h2] at hE; cases hE
    · rw [addF_p h1 h2] at hE ⊢
      have h3 : (addP F.ph N).length ≤ 20 := by
        have hE' : (if 20 < (addP F.ph N).length then (2 : Int) else 0) = 0 := hE
        split at hE'
        · cases hE'
        · omega
      refine ⟨⟨h3, fun x hx => ?_, by have := h.inf; show F.inf.length ≤ _; omega, h.infs, by have := h.rs; show F.rs.length ≤ _; omega, h.ok⟩, rfl⟩
      rcases addP_mem hx with hx | hx
      · exact h.phs x hx
      · exact hnm x (List.mem_append_right _ hx)
  · have h1' : Lib.containsS T phonyS = false := by simpa using h1
    by_cases h2 : pairB (T.getD 0 ByteArray.empty) = true ∧ T.length = 1 ∧ N.length = 0
    · rw [addF_i h1' h2.1 h2.2.1 h2.2.2]
      have hm : T.getD 0 ByteArray.empty ∈ T := by
        rw [List.getD_eq_getElem?_getD, List.getElem?_eq_getElem (by omega : 0 < T.length)]
        exact List.getElem_mem _
      have hp := pairI_sz (hnm _ (List.mem_append_left N hm))
      refine ⟨⟨h.ph, h.phs, ?_, ?_, by have := h.rs; show F.rs.length ≤ _; omega, h.ok⟩, rfl⟩
      · show (if _ then _ else _ : List Inf).length ≤ _
        have := h.inf
        split
        · omega
        · rw [List.length_append]; simp; omega
      · intro x hx
        have hx' : x ∈ (if hasI F.inf (pairI (T.getD 0 ByteArray.empty)) = true then F.inf else F.inf ++ [pairI (T.getD 0 ByteArray.empty)]) := hx
        split at hx'
        · exact h.infs x hx'
        · rcases List.mem_append.1 hx' with hx' | hx'
          · exact h.infs x hx'
          · rw [List.mem_singleton.1 hx']; exact hp
    · rw [addF_r h1' h2]
      refine ⟨⟨h.ph, h.phs, by have := h.inf; show F.inf.length ≤ _; omega, h.infs, ?_, fun r hr => ?_⟩, rfl⟩
      · show (F.rs ++ [(T, N)]).length ≤ _
        have := h.rs
        rw [List.length_append]; simp; omega
      · rcases List.mem_append.1 (show r ∈ F.rs ++ [(T, N)] from hr) with hr | hr
        · exact h.ok r hr
        · rw [List.mem_singleton.1 hr]; exact hok
theorem lineF_fits {i : Nat} {F : FileV} {ms : List Mac} {s : Bs} (h : Fits i F) (hE : (lineF ms s F).2 = 0) : Fits (i + 1) (lineF ms s F).1 ∧ (lineF ms s F).1.ms = F.ms := by
  unfold lineF at hE ⊢
  split at hE
  · rename_i h1; exact absurd hE h1
  · rename_i h1
    rw [if_neg h1]
    split at hE
    · rename_i h2; exact absurd hE h2
    · rename_i h2
      rw [if_neg h2]
      refine addF_fits h ?_ hE
      have h3 : parseE (expandE okM ms s).2 = 0 := by simpa using h2
      unfold parseE at h3
      split at h3
      · cases h3
      · exact ruleE_zero.1 h3
theorem parseGo_fits (ms : List Mac) : ∀ (l : List Bs) (i : Nat) (F : FileV), Fits i F → (parseGo ms l i F).2.2 = 0 → Fits (i + l.length) (parseGo ms l i F).1 ∧ (parseGo ms l i F).1.ms = F.ms := by
  intro l
  induction l with
  | nil => intro i F h _; exact ⟨h, rfl⟩
  | cons s l ih =>
    intro i F h hE
    have e : i + (s :: l).length = i + 1 + l.length := by simp; omega
    rw [e]
    unfold parseGo at hE ⊢
    split at hE
    · rename_i h1
      rw [if_pos h1]
      exact ih (i + 1) F (h.up (Nat.le_succ _)) hE
    · rename_i h1
      rw [if_neg h1]
      split at hE
      · rename_i h2; exact absurd hE h2
      · rename_i h2
        rw [if_neg h2]
        have h3 := lineF_fits h (show (lineF ms s F).2 = 0 by simpa using h2)
        obtain ⟨h4, h5⟩ := ih (i + 1) _ h3.1 hE
        exact ⟨h4, h5.trans h3.2⟩
theorem parseF_fits {l : List Bs} (h : (parseF l).2.2 = 0) : Fits 200 (parseF l).1 ∧ (parseF l).1.ms = macsF l ∧ l.length ≤ 200 := by
  unfold parseF at h ⊢
  split at h
  · cases h
  · rename_i h1
    rw [if_neg h1]
    split at h
    · rename_i h2; exact absurd h h2
    · rename_i h2
      rw [if_neg h2]
      have h0 : Fits 0 { file0 with ms := macsF l } := ⟨by show ([] : List ByteArray).length ≤ _; simp, fun x hx => (by cases hx), Nat.zero_le _, fun x hx => (by cases hx), Nat.zero_le _, fun x hx => (by cases hx)⟩
      obtain ⟨h4, h5⟩ := parseGo_fits (macsF l) l 0 _ h0 h
      exact ⟨h4.up (by omega), h5, by omega⟩
theorem defM_sum {s : Bs} (h : defB s = true) : (defM s).1.length + (defM s).2.length + 1 ≤ s.length := by
  have ht : ∀ l : Bs, (Lib.trimS l [32, 9]).length ≤ l.length := fun l => by
    have := trm_size (txt l)
    rw [txt_size] at this
    unfold trm at this
    rwa [txt_size, txt_list] at this
  obtain ⟨k, _, h1, h2⟩ := defB_at h
  have hk := (List.getElem?_eq_some_iff.1 h1).1
  have e : (Lib.indexByte s 61).toNat = k := by rw [h2]; rfl
  unfold defM
  rw [e]
  have a := ht (s.take k)
  have b := ht (s.drop (k + 1))
  rw [List.length_take] at a
  rw [List.length_drop] at b
  show (Lib.trimS (s.take k) [32, 9]).length + (Lib.trimS (s.drop (k + 1)) [32, 9]).length + 1 ≤ _
  omega
theorem join_sz (X : List ByteArray) (h : ∀ s ∈ X, s.size ≤ 40) : (Lib.join (lst X) [32]).length ≤ 41 * X.length := by
  induction X with
  | nil => simp [lst, Lib.join_nil]
  | cons a X ih =>
    have ha := h a List.mem_cons_self
    rw [Lib.size_eq] at ha
    have hi := ih (fun s hs => h s (List.mem_cons_of_mem _ hs))
    rw [List.length_cons]
    cases X with
    | nil => show (Lib.join [a.data.toList] [32]).length ≤ _; rw [Lib.join_one]; omega
    | cons b X =>
      show (Lib.join (a.data.toList :: b.data.toList :: lst X) [32]).length ≤ _
      rw [join_two]
      simp only [List.length_append, List.length_cons, List.length_nil]
      have hi' : (Lib.join (b.data.toList :: lst X) [32]).length ≤ 41 * (b :: X).length := hi
      rw [List.length_cons] at hi'
      omega
theorem lines_small {l : List Bs} {B : Nat} (h : (parseF l).2.2 = 0) (hl : ∀ s ∈ l, s.length ≤ B) : ∀ x ∈ linesF (parseF l).1, x.length ≤ B + 100000 ∧ (x.length ≤ B + 2 ∨ x.length ≤ 100000) := by
  obtain ⟨h1, h2, _⟩ := parseF_fits h
  have key : ∀ x ∈ linesF (parseF l).1, x.length ≤ B + 2 ∨ x.length ≤ 100000 := by
    intro x hx
    rw [linesF_eq] at hx
    simp only [List.mem_append, List.mem_map] at hx
    rcases hx with ((⟨m, hm, rfl⟩ | hx) | ⟨m, hm, rfl⟩) | ⟨r, hr, rfl⟩
    · rw [h2] at hm
      unfold macsF at hm
      obtain ⟨s, hs, rfl⟩ := List.mem_map.1 hm
      obtain ⟨hs1, hs2⟩ := List.mem_filter.1 hs
      have := hl s hs1
      have := defM_sum hs2
      left
      unfold ln1
      simp only [List.length_append, List.length_cons, List.length_nil]
      omega
    · split at hx
      · cases hx
      · rw [List.mem_singleton.1 hx]
        right
        have := join_sz _ h1.phs
        have := h1.ph
        unfold ln2
        have e : phonyS.data.toList.length = 6 := rfl
        simp only [List.length_append, List.length_cons, List.length_nil]
        omega
    · have := h1.infs m hm
      rw [Lib.size_eq, Lib.size_eq] at this
      right
      unfold ln3
      simp only [List.length_append, List.length_cons, List.length_nil]
      omega
    · right
      exact ruleT_len (h1.ok r hr)
  intro x hx
  rcases key x hx with h3 | h3
  · exact ⟨by omega, .inl h3⟩
  · exact ⟨by omega, .inr h3⟩
end Go.Proofs.YtoiolepengcagaaGreatDoor
namespace Go.Proofs.YtoiolepengcagaaGreatDoor
open Go.RowKit Go.Shelf Go.Maps
abbrev fv (a1 : Option Addr) (a2 a3 : Nat) (b1 : Option Addr) (b2 b3 : Nat) (c1 : Option Addr) (c2 c3 : Nat) (d1 : Option Addr) (d2 d3 : Nat) : Value := .agg #[.slice a1 a2 a3, .slice b1 b2 b3, .slice c1 c2 c3, .slice d1 d2 d3]
/-- a file as a value -/
def FIv (w : World) (F : FileV) (v : Value) : Prop := ∃ pm nm cm pp np cp pi ni ci pr nr cr hl, v = .agg #[.slice pm nm cm, .slice pp np cp, .slice pi ni ci, .slice pr nr cr] ∧ FileIn w F pm nm cm pp np cp pi ni ci pr nr cr hl ∧ np ≤ cp ∧ (nm ≤ 1048576 ∧ np ≤ 1048576 ∧ ni ≤ 1048576 ∧ nr ≤ 1048576) ∧ ∀ x ∈ hl, x.1.zs.length ≤ 1048576 ∧ x.2.zs.length ≤ 1048576
theorem FIv.below {w w' : World} {F : FileV} {v : Value} (h : FIv w F v) (hb : Below w.heap.size w w') : FIv w' F v := by
  obtain ⟨pm, nm, cm, pp, np, cp, pi, ni, ci, pr, nr, cr, hl, h1, h2, h3⟩ := h
  exact ⟨pm, nm, cm, pp, np, cp, pi, ni, ci, pr, nr, cr, hl, h1, h2.below hb, h3⟩
theorem own_cap {w : World} {b k n e : Nat} {p : Option Addr} {m c : Nat} {xs : List Value} (h : w.ownsRow b e k (.slice p m c) n xs) : m ≤ c := by
  rcases h.2 with ⟨hv, hn⟩ | ⟨g, cap, cur, hv, _, _, hc, _⟩
  · injection hv with _ e1 e2
    omega
  · injection hv with _ e1 e2
    omega
theorem FileAt.fiv {w : World} {lo : Nat} {v : Value} {l : List Bs} (h : FileAt w lo v (parseF l).1) (hE : (parseF l).2.2 = 0) : FIv w (parseF l).1 v := by
  obtain ⟨base, B, s, rl, hlo, hf, rfl⟩ := h
  obtain ⟨k1, k2, k3⟩ := parseF_fits hE
  have a1 := k1.ph
  have a2 := k1.inf
  have a3 := k1.rs
  have a4 : (parseF l).1.ms.length ≤ 200 := by rw [k2]; have := macsF_len l; omega
  refine ⟨_, _, _, _, _, _, _, _, _, _, _, _, _, rfl, hf.fin (by omega) (by omega) (by omega) (by omega), own_cap hf.ph, ⟨by omega, by omega, by omega, by omega⟩, fun x hx => ?_⟩
  obtain ⟨r, hr, rfl⟩ := List.mem_map.1 hx
  have h3 : (r.T, r.N) ∈ (parseF l).1.rs := by rw [← hf.same]; exact List.mem_map.2 ⟨r, hr, rfl⟩
  have h4 := (k1.ok _ h3).few
  simp only at h4
  exact ⟨by show r.T.length ≤ _; omega, by show r.N.length ≤ _; omega⟩
theorem FIv.lines {w : World} {F : FileV} {v : Value} (h : FIv w F v) (hz : ∀ x ∈ linesF F, x.length ≤ 1048600) :
    Calls Tryz.prog 48 #[v] w fun e w' => (∃ p c, e = .returned (.slice p (linesF F).length c) ∧ NL w' p (linesF F).length c ((linesF F).map txt)) ∧ Below w.heap.size w w' := by
  obtain ⟨pm, nm, cm, pp, np, cp, pi, ni, ci, pr, nr, cr, hl, rfl, h2, h3, h4, h5⟩ := h
  exact lines_ok F w pm pp pi pr nm cm np cp ni ci nr cr hl h2 h3 hz h4 h5
theorem FIv.fsame {w : World} {F G : FileV} {u v : Value} (h : FIv w F u) (k : FIv w G v) :
    Calls Tryz.prog 49 #[u, v] w fun e w' => (∃ r : Bool, e = .returned (.bool r) ∧ (r = true ↔ F = G)) ∧ Below w.heap.size w w' := by
  obtain ⟨pm, nm, cm, pp, np, cp, pi, ni, ci, pr, nr, cr, hl, rfl, h2, _⟩ := h
  obtain ⟨qm, am, bm, qp, ap, bp, qi, ai, bi, qr, ar, br, kl, rfl, k2, _⟩ := k
  exact fsame_ok F G w pm pp pi pr qm qp qi qr nm cm np cp ni ci nr cr am bm ap bp ai bi ar br hl kl h2 k2
theorem FIv.sameFile {w : World} {F G : FileV} {u v : Value} (h : FIv w F u) (k : FIv w G v) :
    Calls Tryz.prog 19 #[u, v] w fun e w' => (∃ r : Bool, e = .returned (.bool r) ∧ (r = true ↔ F = G)) ∧ Below w.heap.size w w' := by
  obtain ⟨pm, nm, cm, pp, np, cp, pi, ni, ci, pr, nr, cr, hl, rfl, h2, _⟩ := h
  obtain ⟨qm, am, bm, qp, ap, bp, qi, ai, bi, qr, ar, br, kl, rfl, k2, _⟩ := k
  exact sameFile_ok F G w pm pp pi pr qm qp qi qr nm cm np cp ni ci nr cr am bm ap bp ai bi ar br hl kl h2 k2
theorem lst_txt (l : List Bs) : lst (l.map txt) = l := by
  unfold lst
  rw [List.map_map]
  refine (List.map_congr_left fun x _ => ?_).trans (List.map_id _)
  show (txt x).data.toList = x
  exact txt_list x
theorem FIv.agg {w : World} {F : FileV} {v : Value} (h : FIv w F v) : ∃ a1 a2 a3 b1 b2 b3 c1 c2 c3 d1 d2 d3, v = fv a1 a2 a3 b1 b2 b3 c1 c2 c3 d1 d2 d3 := by
  obtain ⟨pm, nm, cm, pp, np, cp, pi, ni, ci, pr, nr, cr, hl, rfl, h2, _⟩ := h
  exact ⟨_, _, _, _, _, _, _, _, _, _, _, _, rfl⟩
theorem nil_fiv (w : World) : FIv w file0 nilFile := by
  refine ⟨none, 0, 0, none, 0, 0, none, 0, 0, none, 0, 0, [], rfl, ⟨⟨rfl, fun h => absurd h (Nat.lt_irrefl _), Nat.zero_le _⟩, ?_, ⟨rfl, fun h => absurd h (Nat.lt_irrefl _), Nat.zero_le _⟩, ⟨⟨rfl, fun h => absurd h (Nat.lt_irrefl _), Nat.zero_le _⟩, fun x hx => (by cases hx), Nat.le_refl _⟩, rfl⟩, Nat.le_refl _, by decide, fun x hx => (by cases hx)⟩
  exact (NL_own (zs := []) (n := 0) (c := 0) (g := none) (World.ownsRow_nil w w.heap.size _ _) (fun x hx => absurd hx (List.not_mem_nil)) (by decide)).weak
/-- file.Parse of the lines that a call of lines gave -/
theorem parse_nl {w : World} {p : Option Addr} {c : Nat} {l : List Bs} (h : NL w p l.length c (l.map txt)) (hM : MLm w) (hz : ∀ x ∈ l, x.length ≤ 1048600) :
    Calls Tryz.prog 18 #[.slice p l.length c] w fun e w' => (∃ a1 a2 a3 b1 b2 b3 c1 c2 c3 d1 d2 d3, e = .returned (.tuple #[.agg #[.slice a1 a2 a3, .slice b1 b2 b3, .slice c1 c2 c3, .slice d1 d2 d3], .int .i64 ((parseF l).2.1 : Int), .int .i64 (parseF l).2.2]) ∧ FIv w' (parseF l).1 (fv a1 a2 a3 b1 b2 b3 c1 c2 c3 d1 d2 d3)) ∧ Below w.heap.size w w' := by
  have hp := ParseF_ok p l.length c (l.map txt) w h.weak hM (fun z hz' => by
    obtain ⟨x, hx, rfl⟩ := List.mem_map.1 hz'
    rw [txt_size]
    exact hz x hx)
  rw [lst_txt] at hp
  refine hp.mono ?_
  rintro e w' ⟨⟨v, he, hv⟩, hb⟩
  have hf : FIv w' (parseF l).1 v := by
    rcases hv with ⟨h1, rfl⟩ | ⟨h1, hF⟩
    · rw [((parseF_err l).1 h1).1]
      exact nil_fiv w'
    · exact hF.fiv h1
  obtain ⟨a1, a2, a3, b1, b2, b3, c1, c2, c3, d1, d2, d3, rfl⟩ := hf.agg
  exact ⟨⟨a1, a2, a3, b1, b2, b3, c1, c2, c3, d1, d2, d3, he, hf⟩, hb⟩
set_option maxHeartbeats 8000000 in
set_option maxRecDepth 100000 in
theorem CheckF_ok (F : FileV) (a b c d : Value) (w : World) (h : FIv w F (.agg #[a, b, c, d])) (hM : MLm w) (hz : ∀ x ∈ linesF F, x.length ≤ 1048600) :
    Calls Tryz.prog 21 #[.agg #[a, b, c, d]] w fun e w' => e = .returned (.int .i64 (checkF F)) ∧ Below w.heap.size w w' := by
  obtain ⟨W, hW⟩ : ∃ W, W = w.alloc (.cells #[a, b, c, d] 43) := ⟨_, rfl⟩
  have hb0 : Below w.heap.size w W := by rw [hW]; exact rb1w _ _
  have hs0 : W.heap.size = w.heap.size + 1 := by rw [hW]; simp
  have hz0 : W.heap[w.heap.size]? = some (.cells #[a, b, c, d] 43 (0, 0)) := by rw [hW]; exact rb_new w _
  have HC : Hid (∀ u : World, Below W.heap.size W u → (u.cell? ⟨w.heap.size, 0, none⟩ = some a ∧ u.cell? ⟨w.heap.size, 1, none⟩ = some b ∧ u.cell? ⟨w.heap.size, 2, none⟩ = some c ∧ u.cell? ⟨w.heap.size, 3, none⟩ = some d) ∧ Below w.heap.size w u) := by
    show ∀ u : World, _
    intro u hu
    have hbu : Below w.heap.size w u := hb0.trans (hu.mono (by omega))
    have g0 : u.heap[w.heap.size]? = some (.cells #[a, b, c, d] 43 (0, 0)) := by rw [hu.block _ (by omega)]; exact hz0
    exact ⟨(boxF g0).1, hbu⟩
  have HF := Lib.hid h
  have HM := Lib.hid hM
  have HZ := Lib.hid hz
  have HL := Lib.hid ((h.below hb0).lines hz)
  have HWS := Lib.hid hs0
  obtain ⟨⟨c0, c1, c2, c3⟩, _⟩ := HC.out W (Below.refl _ _)
  obtain ⟨m, hm⟩ : ∃ m, m = (parseF (linesF F)).2.1 := ⟨_, rfl⟩
  obtain ⟨E, hE⟩ : ∃ E, E = (parseF (linesF F)).2.2 := ⟨_, rfl⟩
  have HE := Lib.hid hE
  have Hm := Lib.hid hm
  clear h hb0 hs0 hz0 hz hM hm hE
  go_enter Tryz.func21, Tryz.ntmps21
  go_upto_region 1 with fail
  rw [← hW]
  clear hW
  go_upto_region 2 with (first
    | (go_at_call 18; refine (parse_nl HN1.out (HM.out.below HBw1.out) HZ.out).mono ?_; rintro e w2 ⟨⟨g1, g2, g3, j1, j2, j3, k1, k2, k3, l1, l2, l3, rfl, hok2⟩, hb2⟩; rw [← HE.out, ← Hm.out]; have HOK := Lib.hid hok2; have HB2 := Lib.hid (HB1.out.trans (hb2.mono HB1.out.size)); clear hok2 hb2)
    | (go_at_call 48; refine HL.out.mono ?_; rintro e w1 ⟨⟨p1, d1, rfl, hn1⟩, hb1⟩; have HN1 := Lib.hid hn1; have HB1 := Lib.hid hb1; have HBw1 := Lib.hid (HC.out w1 hb1).2; clear hn1 hb1))
  obtain ⟨W2, hW2⟩ : ∃ W2, W2 = w2.alloc (.cells #[.slice g1 g2 g3, .slice j1 j2 j3, .slice k1 k2 k3, .slice l1 l2 l3] 43) := ⟨_, rfl⟩
  have hbW2 : Below w2.heap.size w2 W2 := by rw [hW2]; exact rb1w _ _
  have hz2 : W2.heap[w2.heap.size]? = some (.cells #[.slice g1 g2 g3, .slice j1 j2 j3, .slice k1 k2 k3, .slice l1 l2 l3] 43 (0, 0)) := by rw [hW2]; exact rb_new w2 _
  have HB3 := Lib.hid (HB2.out.trans (hbW2.mono HB2.out.size))
  have HOK2 := Lib.hid (HOK.out.below hbW2)
  rw [← hW2]
  clear hW2 c0 c1 c2 c3 hbW2
  obtain ⟨⟨c0, c1, c2, c3⟩, hbw⟩ := HC.out W2 HB3.out
  obtain ⟨⟨y0, y1, y2, y3⟩, _⟩ := boxF hz2
  have HSA := Lib.hid ((HF.out.below hbw).fsame HOK2.out)
  clear hz2
  by_cases hE : E = 0
  · subst hE
    go_wp2_with (go_at_call 49; refine HSA.out.mono ?_; rintro e w3 ⟨⟨r, rfl, hr⟩, hb3⟩; have HR := Lib.hid hr; have HB4 := Lib.hid (hbw.trans (hb3.mono hbw.size)); clear hr hb3)
    · rename_i h9
      have hr : r = false := by simpa using h9
      have hne : (parseF (linesF F)).1 ≠ F := fun e => by rw [HR.out.2 e.symm] at hr; cases hr
      have hck : checkF F = 3 := by unfold checkF; rw [if_pos HE.out.symm, if_neg hne]
      go_ret
      exact ⟨by rw [hck]; rfl, HB4.out⟩
    · rename_i h9
      have hr : r = true := by simpa using h9
      have hck : checkF F = 0 := by unfold checkF; rw [if_pos HE.out.symm, if_pos (HR.out.1 hr).symm]
      go_ret
      exact ⟨by rw [hck]; rfl, HB4.out⟩
  · go_wp2_with fail
    have hck : checkF F = E := by unfold checkF; rw [if_neg (by rw [← HE.out]; exact hE), HE.out]
    go_ret
    exact ⟨by rw [hck]; rfl, hbw⟩
set_option maxHeartbeats 8000000 in
set_option maxRecDepth 100000 in
theorem PrintF_ok (F : FileV) (a b c d : Value) (w : World) (h : FIv w F (.agg #[a, b, c, d])) (hM : MLm w) (hz : ∀ x ∈ linesF F, x.length ≤ 1048600) :
    Calls Tryz.prog 20 #[.agg #[a, b, c, d]] w fun e w' => ((checkF F ≠ 0 ∧ e = .returned (.tuple #[.slice none 0 0, .int .i64 (checkF F)])) ∨ (checkF F = 0 ∧ ∃ p c, e = .returned (.tuple #[.slice p (linesF F).length c, .int .i64 0]) ∧ NL w' p (linesF F).length c ((linesF F).map txt))) ∧ Below w.heap.size w w' := by
  obtain ⟨W, hW⟩ : ∃ W, W = w.alloc (.cells #[a, b, c, d] 43) := ⟨_, rfl⟩
  have hb0 : Below w.heap.size w W := by rw [hW]; exact rb1w _ _
  have hs0 : W.heap.size = w.heap.size + 1 := by rw [hW]; simp
  have hz0 : W.heap[w.heap.size]? = some (.cells #[a, b, c, d] 43 (0, 0)) := by rw [hW]; exact rb_new w _
  have HC : Hid (∀ u : World, Below W.heap.size W u → (u.cell? ⟨w.heap.size, 0, none⟩ = some a ∧ u.cell? ⟨w.heap.size, 1, none⟩ = some b ∧ u.cell? ⟨w.heap.size, 2, none⟩ = some c ∧ u.cell? ⟨w.heap.size, 3, none⟩ = some d) ∧ Below w.heap.size w u) := by
    show ∀ u : World, _
    intro u hu
    have hbu : Below w.heap.size w u := hb0.trans (hu.mono (by omega))
    have g0 : u.heap[w.heap.size]? = some (.cells #[a, b, c, d] 43 (0, 0)) := by rw [hu.block _ (by omega)]; exact hz0
    exact ⟨(boxF g0).1, hbu⟩
  have HF := Lib.hid h
  have HZ := Lib.hid hz
  have HK := Lib.hid (CheckF_ok F a b c d W (h.below hb0) (hM.below hb0) hz)
  have HWS := Lib.hid hs0
  obtain ⟨⟨c0, c1, c2, c3⟩, _⟩ := HC.out W (Below.refl _ _)
  clear h hb0 hs0 hz0 hz hM
  obtain ⟨E, hE⟩ : ∃ E, E = checkF F := ⟨_, rfl⟩
  rw [← hE] at HK ⊢
  clear hE
  go_enter Tryz.func20, Tryz.ntmps20
  go_upto_region 1 with fail
  rw [← hW]
  clear hW
  go_upto_region 2 with (go_at_call 21; refine HK.out.mono ?_; rintro e w1 ⟨rfl, hb1⟩; have HB1 := Lib.hid hb1; clear hb1)
  clear c0 c1 c2 c3
  obtain ⟨⟨c0, c1, c2, c3⟩, hbw⟩ := HC.out w1 HB1.out
  by_cases h0 : E = 0
  · subst h0
    have HL := Lib.hid ((HF.out.below hbw).lines HZ.out)
    go_wp2_with (go_at_call 48; refine HL.out.mono ?_; rintro e w2 ⟨⟨p1, d1, rfl, hn1⟩, hb2⟩; have HN1 := Lib.hid hn1; have HB2 := Lib.hid (hbw.trans (hb2.mono hbw.size)); clear hn1 hb2)
    go_ret2
    exact ⟨⟨p1, d1, rfl, HN1.out⟩, HB2.out⟩
  · go_wp2_with fail
    go_ret2
    exact ⟨.inl ⟨h0, rfl⟩, hbw⟩
end Go.Proofs.YtoiolepengcagaaGreatDoor
