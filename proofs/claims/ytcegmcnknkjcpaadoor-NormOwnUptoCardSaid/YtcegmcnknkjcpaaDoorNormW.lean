/- The walk of norm.norm. Conditions: the ask lies in memory and is well formed; the tables read as listed. -/
import Derived.Test.YtcegmcnknkjcpaaDoorNormRule3W
import Derived.Deep.LoopGhost
import Derived.Laws.Rows
namespace Go.Proofs.YtcegmcnknkjcpaaDoor
open Go.RowKit Go.Shelf
theorem ruleW_ok (t : QT) (w0 w : World) (hw0 : Below w0.heap.size w0 w) (m : Nat) (hq : QIn w0 t) (hT : TxtTabs w) (hE : qE qpat (qabs t) = 0) : Calls Tryd.prog 28 #[t.v] w (RulePost t m (qrule (qabs t)) w0 w) := by
  obtain ⟨k, s, n, p, c, xs⟩ := t
  by_cases h1 : k = 5 ∨ k = 6
  · exact ruleA_ok k h1 s n p c xs w0 w hw0 m hq hT hE
  by_cases h2 : k = 8 ∨ k = 10
  · exact ruleB_ok k h2 s n p c xs w0 w hw0 m hq hT hE
  by_cases h3 : k = 9 ∨ k = 11
  · exact ruleC_ok k h3 s n p c xs w0 w hw0 m hq hT hE
  by_cases h4 : k = 14 ∨ k = 15
  · exact ruleE_ok k h4 s n p c xs w0 w hw0 m hq hE
  by_cases h5 : k = 7
  · subst h5
    exact ruleF_ok s n p c xs w0 w hw0 m hq hT hE
  · exact ruleD_ok k ⟨h1, h2, h3, h4, h5⟩ s n p c xs w0 w hw0 m hq
theorem inner_cnt {pat : List UInt8 → Bool} {k : Int} {s : List UInt8} {n : Int} {xs : List QA} (h : qchk pat (.mk k s n xs) = 0) : qcnts (qnrms xs) ≤ qcnts xs := by
  obtain ⟨_, hxs⟩ := qchk_zero.1 h
  refine cnts_le (by rw [qnrms_map, List.length_map]) fun i a b ha hb => ?_
  rw [qnrms_map, List.getElem?_map, hb] at ha
  simp only [Option.map_some, Option.some.injEq] at ha
  subst ha
  exact (nrm_ok b (hxs b (List.mem_of_getElem? hb))).2.2
theorem inner_E {k : Int} {s : List UInt8} {n : Int} {xs : List QA} (h : qE qpat (.mk k s n xs) = 0) : qE qpat (.mk k s n (qnrms xs)) = 0 := by
  obtain ⟨h1, h2⟩ := qE_chk h
  have h3 := inner_cnt h2
  rw [cnt_mk] at h1
  unfold qE
  rw [cnt_mk, if_neg (by omega)]
  exact inner_ok h2 fun x hx => (nrm_ok x ((qchk_zero.1 h2).2 x hx)).1
theorem kid_E {k : Int} {s : List UInt8} {n : Int} {xs : List QA} (h : qE qpat (.mk k s n xs) = 0) {x : QA} (hx : x ∈ xs) : qE qpat x = 0 := by
  obtain ⟨h1, h2⟩ := qE_chk h
  have h3 := qcnt_mem hx
  rw [cnt_mk] at h1
  unfold qE
  rw [if_neg (by omega)]
  exact (qchk_zero.1 h2).2 x hx
theorem nrm_E {x : QA} (h : qE qpat x = 0) : qE qpat (qnrm x) = 0 := by
  obtain ⟨h1, h2⟩ := qE_chk h
  obtain ⟨h3, _, h4⟩ := nrm_ok x h2
  unfold qE
  rw [if_neg (by omega)]
  exact h3
theorem rule_still {pat : List UInt8 → Bool} {x : QA} (h : qchk pat x = 0) (hr : (qrule x).2 = false) : (qrule x).1 = x := by
  rcases rule_cases h with e | ⟨y, hy, e⟩ | ⟨_, _, _, a, b, hx, _, e⟩ | ⟨k, a, b, hx, h1, h2, e⟩ | ⟨w, n, k2, n2, z, h1, hx, _, e⟩ | ⟨w, n, n2, z, h1, hx, h2, h3, h4, e⟩ | ⟨a, b, c, hx, _, e⟩
  · rw [e]
  all_goals (rw [e] at hr; cases hr)
/-- the list that a call makes of an ask's parts, so far -/
structure NInv (W : World) (xs : List QT) (F : QA → QA) (j : Nat) (l : List QT) (v : Value) (u : World) : Prop where
  len : l.length = j
  abs : qabss l = (qabss (xs.take j)).map F
  own : u.ownsRow W.heap.size 24 4 v j (asksC l)
  below : Below W.heap.size W u
  kids : ∀ x ∈ l, QIn u x ∧ QOw u W.heap.size x ∧ ∀ g, v.ownBlock = some g → QAv g x
theorem NInv.start (W : World) (xs : List QT) (F : QA → QA) : NInv W xs F 0 [] (.slice none 0 0) W where
  len := rfl
  abs := rfl
  own := ⟨rfl, .inl ⟨rfl, rfl⟩⟩
  below := Below.refl _ _
  kids := fun _ h => by cases h
theorem own_below4 {w w' : World} {base e n : Nat} {v : Value} {xs : List Value} (h : w.ownsRow base e 4 v n xs) (hb : Below w.heap.size w w') : w'.ownsRow base e 4 v n xs := by
  refine h.kept (row := none) ⟨hb.os, hb.tape, hb.output, hb.size, fun k hk _ => hb.block k hk⟩ ?_
  cases hv : v.ownBlock
  · exact .inl rfl
  · exact .inr (by simp)
theorem NInv.later {W : World} {xs : List QT} {F : QA → QA} {j : Nat} {l : List QT} {v : Value} {u u' : World} (h : NInv W xs F j l v u) (hb : Below u.heap.size u u') : NInv W xs F j l v u' where
  len := h.len
  abs := h.abs
  own := own_below4 h.own hb
  below := h.below.trans (hb.mono h.below.size)
  kids := fun x hx => by
    obtain ⟨h1, h2, h3⟩ := h.kids x hx
    exact ⟨h1.below hb, h2.later hb, h3⟩
theorem NInv.step {W : World} {xs : List QT} {F : QA → QA} {j m : Nat} {l : List QT} {v v' : Value} {u u' : World} {t t' : QT} (h : NInv W xs F j l v u) (hx : xs[j]? = some t) (ht : qabs t' = F (qabs t)) (hi : QIn u t') (ho : QOw u m t')
    (hm : ∀ g, v.ownBlock = some g → g < m) (hWm : W.heap.size ≤ m) (hown : u'.ownsRow W.heap.size 24 4 v' (j + 1) (asksC (l ++ [t']))) (hg : u.grownBy u' v.ownBlock) (hv : v'.ownBlock = v.ownBlock ∨ v'.ownBlock = some u.heap.size) : NInv W xs F (j + 1) (l ++ [t']) v' u' where
  len := by rw [List.length_append, h.len]; rfl
  abs := by
    rw [qabss_map, List.map_append, ← qabss_map, h.abs, qabss_map, qabss_map]
    have hj : j < xs.length := by
      rcases Nat.lt_or_ge j xs.length with h1 | h1
      · exact h1
      · rw [List.getElem?_eq_none h1] at hx; cases hx
    rw [List.getElem?_eq_getElem hj] at hx
    injection hx with hx
    rw [List.take_succ_eq_append_getElem hj, List.map_append, List.map_append, hx]
    simp [ht]
  own := hown
  below := h.below.trans ⟨hg.os, hg.tape, hg.output, hg.size, fun k hk => hg.block k (Nat.lt_of_lt_of_le hk h.below.size) fun e => by
    have := (h.own.lt k e.symm).1
    omega⟩
  kids := fun x hx => by
    have hblk : ∀ k, k < u.heap.size → some k ≠ v.ownBlock → u'.heap[k]? = u.heap[k]? := fun k hk hne => hg.block k hk hne
    rcases List.mem_append.1 hx with hx | hx
    · obtain ⟨h1, h2, h3⟩ := h.kids x hx
      refine ⟨h1.grown h2 hg.size hblk h3, h2.grown hg.size hblk h3, fun g hg2 => ?_⟩
      rcases hv with e | e
      · exact h3 g (e ▸ hg2)
      · rw [e] at hg2
        injection hg2 with hg2
        exact h2.av_ge (Nat.le_of_eq hg2)
    · obtain rfl : x = t' := by simpa using hx
      have hav : ∀ g, v.ownBlock = some g → QAv g x := fun g hg2 => ho.av_lt (hm g hg2)
      refine ⟨hi.grown ho hg.size hblk hav, (ho.grown hg.size hblk hav).lower hWm, fun g hg2 => ?_⟩
      rcases hv with e | e
      · exact hav g (e ▸ hg2)
      · rw [e] at hg2
        injection hg2 with hg2
        exact ho.av_ge (Nat.le_of_eq hg2)
/-- the ask whose parts are the list -/
theorem NInv.ask {W : World} {xs : List QT} {F : QA → QA} {l : List QT} {v : Value} {u : World} (h : NInv W xs F xs.length l v u) (hlen : xs.length ≤ 1048576) {k : Int} {s : ByteArray} {n : Int} (hs : s.size ≤ 1048576) :
    ∃ (p : Option Addr) (c : Nat), v = .slice p l.length c ∧ QIn u (.mk k s n p c l) ∧ QOw u W.heap.size (.mk k s n p c l) ∧ qabs (.mk k s n p c l) = .mk k s.data.toList n ((qabss xs).map F) := by
  obtain ⟨p, c, hv, _⟩ := own_form1 h.own
  have hl := h.len
  subst hv
  have hown := h.own
  rw [← hl] at hown
  obtain ⟨h1, h2, h3⟩ := own_kids hown fun x hx => (h.kids x hx).1
  refine ⟨p, c, by rw [hl], QIn.of hs h2 (by show l.length ≤ _; omega) h1, QOw.of h3 fun x hx => (h.kids x hx).2.1, ?_⟩
  show QA.mk k s.data.toList n (qabss l) = _
  rw [h.abs, List.take_length]
/-- the state of the loop that takes the rules -/
structure AInv (t : QT) (w : World) (cur : QT) (b : Bool) (u : World) : Prop where
  box : u.heap[w.heap.size]? = some (.cells #[.int .i64 cur.kind, .string cur.name, .int .i64 cur.num, .slice cur.p cur.xs.length cur.cap] 24 (0, 0))
  res : u.heap[w.heap.size + 1]? = some (.cells #[.int .i64 0, .string ⟨#[]⟩, .int .i64 0, .slice none 0 0] 24 (0, 0))
  qin : QIn u cur
  qow : QOw u (w.heap.size + 2) cur
  chk : qE qpat (qabs cur) = 0
  tru : b = true → ∀ f, qmeas (qabs cur) ≤ f → qagain f (qabs cur) = qnrm (qabs t)
  fls : b = false → qabs cur = qnrm (qabs t)
  below : Below w.heap.size w u
  tabs : TxtTabs u
theorem AInv.step {t cur t' : QT} {w u w2 : World} (h : AInv t w cur true u) (h1 : qabs t' = (qrule (qabs cur)).1) (h3 : (QIn u t' ∧ (QOw u (w.heap.size + 2) cur → QOw u (w.heap.size + 2) t')) ∨ NewTwo t' (w.heap.size + 2) cur u u w2) (hb : Below u.heap.size u w2)
    (hT : TxtTabs ((((w2.setCell ⟨w.heap.size, 0, none⟩ (.int .i64 t'.kind)).setCell ⟨w.heap.size, 1, none⟩ (.string t'.name)).setCell ⟨w.heap.size, 2, none⟩ (.int .i64 t'.num)).setCell ⟨w.heap.size, 3, none⟩ (.slice t'.p t'.xs.length t'.cap))) :
    AInv t w t' (qrule (qabs cur)).2 ((((w2.setCell ⟨w.heap.size, 0, none⟩ (.int .i64 t'.kind)).setCell ⟨w.heap.size, 1, none⟩ (.string t'.name)).setCell ⟨w.heap.size, 2, none⟩ (.int .i64 t'.num)).setCell ⟨w.heap.size, 3, none⟩ (.slice t'.p t'.xs.length t'.cap)) ∧
      2 * qmeas (qabs t') + (qrule (qabs cur)).2.toNat < 2 * qmeas (qabs cur) + 1 := by
  obtain ⟨c1, c2⟩ := qE_chk h.chk
  have hbx := (Array.getElem?_eq_some_iff.1 h.res).1
  have hm2 : w.heap.size + 2 ≤ u.heap.size := by omega
  obtain ⟨g1, g2⟩ : QIn w2 t' ∧ QOw w2 (w.heap.size + 2) t' := by
    rcases h3 with ⟨a, b⟩ | h3
    · exact ⟨a.below hb, (b h.qow).later hb⟩
    · obtain ⟨a, b⟩ := h3.there hb (Nat.le_refl _) (fun _ _ _ => rfl)
      exact ⟨a, b hm2 h.qow⟩
  have hkeep : ∀ b, w.heap.size + 2 ≤ b → b < w2.heap.size → ((((w2.setCell ⟨w.heap.size, 0, none⟩ (.int .i64 t'.kind)).setCell ⟨w.heap.size, 1, none⟩ (.string t'.name)).setCell ⟨w.heap.size, 2, none⟩ (.int .i64 t'.num)).setCell ⟨w.heap.size, 3, none⟩ (.slice t'.p t'.xs.length t'.cap)).heap[b]? = w2.heap[b]? := fun b hb1 _ => set4Q_other _ _ _ _ _ _ _ (by omega)
  have hB2 := below_set4Q (h.below.trans (hb.mono h.below.size)) (Nat.le_refl _) (.int .i64 t'.kind) (.string t'.name) (.int .i64 t'.num) (.slice t'.p t'.xs.length t'.cap)
  have hsz : w2.heap.size ≤ ((((w2.setCell ⟨w.heap.size, 0, none⟩ (.int .i64 t'.kind)).setCell ⟨w.heap.size, 1, none⟩ (.string t'.name)).setCell ⟨w.heap.size, 2, none⟩ (.int .i64 t'.num)).setCell ⟨w.heap.size, 3, none⟩ (.slice t'.p t'.xs.length t'.cap)).heap.size := (below_set4Q (Below.refl 0 w2) (Nat.zero_le _) _ _ _ _).size
  refine ⟨⟨box4Q_all ((hb.block _ (by omega)).trans h.box) _ _ _ _, (set4Q_other _ _ _ _ _ _ _ (by omega)).trans ((hb.block _ hbx).trans h.res), g1.keep hsz g2 hkeep, g2.keep hsz hkeep, ?_, fun hr f hf => ?_, fun hr => ?_, hB2, hT⟩, ?_⟩
  · rw [h1]
    unfold qE
    by_cases hr : (qrule (qabs cur)).2 = true
    · have := (rule_less c2 hr).2
      rw [if_neg (by omega)]
      exact rule_ok c2
    · rw [rule_still c2 (by simpa using hr), if_neg (by omega)]
      exact c2
  · rw [h1] at hf ⊢
    have hl := (rule_less c2 hr).1
    rw [again_enough f (qmeas (qabs cur)) _ (rule_ok c2) hf (by omega), ← again_step hr]
    exact h.tru rfl _ (by omega)
  · rw [h1, rule_still c2 hr]
    have := h.tru rfl _ (Nat.le_refl _)
    rw [again_stop hr] at this
    exact this
  · rw [h1]
    cases hr : (qrule (qabs cur)).2
    · rw [rule_still c2 hr]
      show _ + 0 < _
      omega
    · have := (rule_less c2 hr).1
      show _ + 1 < _
      omega
open Go.Sort in
theorem box4Q_last {w : World} {b : Nat} {t : TypeId} {v0 v1 v2 v3 : Value} (h : w.heap[b]? = some (.cells #[v0, v1, v2, v3] t (0, 0))) (u3 : Value) :
    (w.setCell ⟨b, 3, none⟩ u3).heap[b]? = some (.cells #[v0, v1, v2, u3] t (0, 0)) := by
  simp only [setCell_eq]
  simp [mapBlock, onCells, Array.getElem?_modify, h]
theorem AInv.start {t : QT} {w W u : World} {k : Int} {s : ByteArray} {n : Int} {p pc : Option Addr} {c cc nc : Nat} {xs l : List QT} (ht : t = .mk k s n pc cc xs) (hS : W.heap.size = w.heap.size + 2) (hBW : Below w.heap.size w W) (hbu : Below W.heap.size W u)
    (hbox : W.heap[w.heap.size]? = some (.cells #[.int .i64 k, .string s, .int .i64 n, .slice pc nc cc] 24 (0, 0)))
    (hres : W.heap[w.heap.size + 1]? = some (.cells #[.int .i64 0, .string ⟨#[]⟩, .int .i64 0, .slice none 0 0] 24 (0, 0)))
    (hq : QIn u (.mk k s n p c l)) (ho : QOw u W.heap.size (.mk k s n p c l)) (ha : qabs (.mk k s n p c l) = .mk k s.data.toList n ((qabss xs).map qnrm)) (hE : qE qpat (qabs t) = 0) (hT : TxtTabs (u.setCell ⟨w.heap.size, 3, none⟩ (.slice p l.length c))) :
    AInv t w (.mk k s n p c l) true (u.setCell ⟨w.heap.size, 3, none⟩ (.slice p l.length c)) := by
  have hkeep : ∀ b, w.heap.size + 2 ≤ b → b < u.heap.size → (u.setCell ⟨w.heap.size, 3, none⟩ (.slice p l.length c)).heap[b]? = u.heap[b]? := fun b hb1 _ => heap_setCell_other _ _ b _ (by show b ≠ w.heap.size; omega)
  have hsz : u.heap.size ≤ (u.setCell ⟨w.heap.size, 3, none⟩ (.slice p l.length c)).heap.size := ((Below.refl 0 u).setCell (Nat.zero_le _) _).size
  rw [hS] at ho
  subst ht
  rw [← qnrms_map] at ha
  refine ⟨box4Q_last ((hbu.block _ (by omega)).trans hbox) _, (heap_setCell_other _ _ _ _ (by show w.heap.size + 1 ≠ w.heap.size; omega)).trans ((hbu.block _ (by omega)).trans hres), hq.keep hsz ho hkeep, ho.keep hsz hkeep, ?_, fun _ f hf => ?_, fun h => (by cases h), (hBW.trans (hbu.mono hBW.size)).setCell (Nat.le_refl _) _, hT⟩
  · rw [ha]
    exact inner_E hE
  · rw [ha] at hf ⊢
    have h2 := (qE_chk (inner_E (k := k) (s := s.data.toList) (n := n) (xs := qabss xs) hE)).2
    show _ = qagain (2 * (1 + qcnts (qnrms (qabss xs))) + 2) _
    have ht := turned_le (.mk k s.data.toList n (qnrms (qabss xs)))
    refine again_enough _ _ _ h2 hf ?_
    unfold qmeas
    rw [cnt_mk]
    omega
def NormPost (t : QT) (w : World) (e : Ending) (w' : World) : Prop := ∃ t' : QT, e = .returned t'.v ∧ qabs t' = qnrm (qabs t) ∧ QIn w' t' ∧ QOw w' w.heap.size t' ∧ Below w.heap.size w w'
set_option maxHeartbeats 8000000 in
set_option maxRecDepth 100000 in
theorem normW_ok : ∀ (t : QT) (w : World), QIn w t → TxtTabs w → qE qpat (qabs t) = 0 → Calls Tryd.prog 19 #[t.v] w (NormPost t w) := by
  intro t
  induction t using QT.ind with
  | h k s n p c xs ih =>
    intro w hq hT hE
    have IH := Lib.hid ih
    have HK : Hid (QsIn w p 0 xs) := hq.kids
    have hsm := hq.small
    have hxl : xs.length ≤ 1048576 := hsm.2.2
    have HSM := Lib.hid hsm.1
    have HEK : Hid (∀ x ∈ xs, qE qpat (qabs x) = 0) := by
      show ∀ x ∈ xs, _
      intro x hx
      exact kid_E (show qE qpat (.mk k s.data.toList n (qabss xs)) = 0 from hE) (by rw [qabss_map]; exact List.mem_map_of_mem hx)
    have HE := Lib.hid hE
    have HT := Lib.hid hT
    clear ih hq hsm
    obtain ⟨W, hW, hBW, hS, hC⟩ := arg2r w (.int .i64 k) (.string s) (.int .i64 n) (.slice p xs.length c)
    have HS := Lib.hid hS
    have HC := Lib.hid hC
    have HBW := Lib.hid hBW
    obtain ⟨B0, B1⟩ := HC.out W (Below.refl _ _)
    obtain ⟨k0, k1, k2, k3, _⟩ := box4Q B0
    show Calls Tryd.prog 19 #[.agg #[.int .i64 k, .string s, .int .i64 n, .slice p xs.length c]] w _
    clear hBW hS hC hE hT B0 B1
    go_enter Tryd.func19, Tryd.ntmps19
    go_upto_region 1 with fail
    rw [← hW]
    clear hW
    go_wp2_with fail
    clear k0 k1 k2 k3
    go_loopw [10, 3] (fun i v wr => ∃ (j : Nat) (l : List QT), j ≤ xs.length ∧ i = .int .i64 j ∧ Hid (NInv W xs qnrm j l v wr)) (fun i _ _ => xs.length - (intOf i).toNat)
    case atStart => exact ⟨0, [], Nat.zero_le _, rfl, NInv.start _ _ _⟩
    case round =>
      obtain ⟨j, l, hj, rfl, HI⟩ := hrel
      by_cases hlt : j < xs.length
      · obtain ⟨x, hx⟩ : ∃ x, xs[j]? = some x := ⟨_, List.getElem?_eq_getElem hlt⟩
        have HX := Lib.hid hx
        obtain ⟨⟨b, o, rfl, hb, hf⟩, hqx⟩ := HK.out.at hx
        have HBw := Lib.hid (HBW.out.trans (HI.out.below.mono HBW.out.size))
        obtain ⟨c0, c1, c2, c3⟩ := four_at (hf.below HBw.out hb)
        have HCALL := Lib.hid (fun (u : World) (hu : Below wr.heap.size wr u) => IH.out x (List.mem_of_getElem? hx) u (hqx.below (HBw.out.trans (hu.mono HBw.out.size))) (HT.out.below (HBw.out.trans (hu.mono HBw.out.size))) (HEK.out x (List.mem_of_getElem? hx)))
        clear hqx hf hx
        have HAL : Hid (∀ o, Below wr.heap.size wr (wr.alloc o)) := fun o => (Below.refl _ _).alloc (Nat.le_refl _) o
        have HLEN := Lib.hid HI.out.len
        obtain ⟨gv, cv, rfl, hgl⟩ := own_form1 HI.out.own
        have HGL := Lib.hid hgl
        clear hgl
        go_wp2_with (first
          | (go_at_call 19; refine (HCALL.out _ (HAL.out _)).mono ?_; rintro e w5 ⟨⟨k', s', n', p', c', xs'⟩, he, ht1, ht2, ht3, hb5⟩; obtain rfl : e = .returned (.agg #[.int .i64 k', .string s', .int .i64 n', .slice p' xs'.length c']) := he; have HB5 := Lib.hid ((HAL.out _).trans (hb5.mono (HAL.out _).size)); have HI5 := Lib.hid (HI.out.later HB5.out); have HT1 := Lib.hid ht1; have HT2 := Lib.hid ht2; have HT3 := Lib.hid ht3; clear hb5 ht1 ht2 ht3)
          | (at_builtin; refine app_ask _ rfl _ _ rfl W.heap.size _ j l rfl (own_below4 HI5.out.own ((Below.refl _ _).alloc (Nat.le_refl _) _)) w5.heap.size (.mk k' s' n' p' c' xs') rfl ?c1 ?c2 ?c3 ?c4 (by omega) ?c5 ?_; rotate_right; intro v' w6 hown6 hgrow6 hv6; have HI6 := Lib.hid ((HI5.out.later ((Below.refl _ _).alloc (Nat.le_refl _) _)).step HX.out HT1.out (HT2.out.below ((Below.refl _ _).alloc (Nat.le_refl _) _)) (HT3.out.later ((Below.refl _ _).alloc (Nat.le_refl _) _)) (fun g hg => Nat.lt_of_lt_of_le (HGL.out g hg).2 (HAL.out _).size) (Nat.le_trans HI.out.below.size (HAL.out _).size) hown6 hgrow6 hv6); clear hown6 hgrow6 hv6))
        case c1 => rw [World.cell?_alloc_at _ _ _ _ rfl]; rfl
        case c2 => rw [World.cell?_alloc_at _ _ _ _ rfl]; rfl
        case c3 => rw [World.cell?_alloc_at _ _ _ _ rfl]; rfl
        case c4 => rw [World.cell?_alloc_at _ _ _ _ rfl]; rfl
        case c5 => have := HI5.out.below.size; simp; omega
        go_roundw
        case rel => exact ⟨j + 1, _, by omega, by go_num, HI6.out⟩
        case measure => simp [intOf]; omega
      · obtain rfl : j = xs.length := by omega
        obtain ⟨pl, cl, rfl, hqi, hqo, hqa⟩ := HI.out.ask (k := k) (n := n) hxl HSM.out
        have HBw := Lib.hid (HBW.out.trans (HI.out.below.mono HBW.out.size))
        obtain ⟨B0, B1⟩ := HC.out wr HI.out.below
        have HBX := Lib.hid (HC.out W (Below.refl _ _))
        have HA := Lib.hid (AInv.start (t := .mk k s n p c xs) rfl HS.out HBW.out HI.out.below HBX.out.1 HBX.out.2 hqi hqo hqa HE.out (HT.out.below (HBw.out.setCell (Nat.le_refl _) _)))
        obtain ⟨k0, k1, k2, k3, k4⟩ := box4Q B0
        clear B0 B1 hqi hqo hqa HI
        go_wp2_with fail
        generalize wr.setCell ⟨w.heap.size, 3, none⟩ (.slice pl l.length cl) = W2 at HA ⊢
        clear k0 k1 k2 k3 k4 HBw
        go_loopg [6] (2 * qmeas (qabs (.mk k s n pl cl l)) + 1) (fun g b u => ∃ (cur : QT) (bb : Bool), b = .bool bb ∧ g = 2 * qmeas (qabs cur) + bb.toNat ∧ Hid (AInv (.mk k s n p c xs) w cur bb u))
        case atStart => exact ⟨_, true, rfl, rfl, HA.out⟩
        case round =>
          obtain ⟨cur, bb, rfl, hg, HU⟩ := hrel
          obtain ⟨k0, k1, k2, k3, k4⟩ := box4Q HU.out.box
          obtain ⟨r0, r1, r2, r3, r4⟩ := box4Q HU.out.res
          have HR := Lib.hid HU.out.res
          have HSZ := Lib.hid HU.out.below.size
          obtain ⟨kk, ks, kn, kp, kc, kx⟩ := cur
          cases bb
          · have HD : Hid (∀ u' : World, wr.heap.size ≤ u'.heap.size → (∀ b, w.heap.size + 2 ≤ b → b < wr.heap.size → u'.heap[b]? = wr.heap[b]?) → Below w.heap.size w u' → NormPost (.mk k s n p c xs) w (.returned (QT.mk kk ks kn kp kc kx).v) u') := by
              show ∀ u' : World, _
              intro u' h1 h2 h3
              exact ⟨_, rfl, HU.out.fls rfl, HU.out.qin.keep h1 HU.out.qow h2, (HU.out.qow.keep h1 h2).lower (Nat.le_add_right _ _), h3⟩
            go_wp2
            refine bodyPost_ret (v := (QT.mk kk ks kn kp kc kx).v) (results_cell_row Tryd.results19 _ _ (w.heap.size + 1) 24 _ (0, 0) _ rfl (box4Q_all HR.out _ _ _ _) Tryd.underlying24 rfl (by kernel_rfl)) rfl (HD.out _ ?_ ?_ ?_)
            · exact (below_set4Q (Below.refl 0 wr) (Nat.zero_le _) _ _ _ _).size
            · exact fun b h1 h2 => set4Q_other _ _ _ _ _ _ _ (by omega)
            · exact below_set4Q HU.out.below (Nat.le_succ _) _ _ _ _
          · have HRULE := Lib.hid (ruleW_ok (.mk kk ks kn kp kc kx) wr wr (Below.refl _ _) (w.heap.size + 2) HU.out.qin HU.out.tabs HU.out.chk)
            have HBX := Lib.hid HU.out.box
            clear k4 r0 r1 r2 r3 r4
            have HBL : Hid (w.heap.size < wr.heap.size) := (Array.getElem?_eq_some_iff.1 HU.out.box).1
            go_wp2_with (go_at_call 28; refine HRULE.out.mono ?_; rintro e w2 ⟨⟨⟨k', s', n', p', c', xs'⟩, he, ht1, ht2⟩, hb⟩; obtain rfl : e = .returned (.tuple #[.agg #[.int .i64 k', .string s', .int .i64 n', .slice p' xs'.length c'], .bool (qrule (qabs (QT.mk kk ks kn kp kc kx))).2]) := he; have HT1 := Lib.hid ht1; have HT2 := Lib.hid ht2; have HB := Lib.hid hb; obtain ⟨k0, k1, k2, k3, k4⟩ := box4Q ((hb.block _ HBL.out).trans HBX.out); clear ht1 ht2 hb)
            have HST := Lib.hid (HU.out.step HT1.out HT2.out HB.out (HT.out.below (below_set4Q (HU.out.below.trans (HB.out.mono HSZ.out)) (Nat.le_refl _) _ _ _ _)))
            go_roundg (2 * qmeas (qabs (.mk k' s' n' p' c' xs')) + (qrule (qabs (QT.mk kk ks kn kp kc kx))).2.toNat)
            case measure =>
              have := HST.out.2
              rw [hg]
              exact this
            case rel => exact ⟨_, _, rfl, rfl, HST.out.1⟩
end Go.Proofs.YtcegmcnknkjcpaaDoor
