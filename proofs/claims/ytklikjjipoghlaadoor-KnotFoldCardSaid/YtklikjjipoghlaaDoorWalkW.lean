/- The walk of knot's walker (TARJAN). Conditions: the walker lies as told. -/
import Derived.Test.YtklikjjipoghlaaDoorWalkM
import Derived.Test.YtklikjjipoghlaaDoorRingW
import Derived.Test.YtklikjjipoghlaaDoorListW
import Derived.BigRegion
import Derived.Deep.LoopGhost
import Derived.Deep.DeepCutAuto
import Derived.Deep.QuietTactic
import Derived.BigQuiet
namespace Go.Proofs.YtklikjjipoghlaaDoor
open Go.RowKit
theorem mid_ks {r : List B} {G : Nat → Prop} {t0 t : TS} {i : Nat} {ks ks' : Nat → Prop} (h : Mid r G t0 i ks t) (hk : ∀ y, ks' y → ks y) : Mid r G t0 i ks' t :=
  ⟨h.ww, h.old, h.mi, h.now, h.seg, h.lo1, h.lo2, fun x y h1 h2 h3 h4 h5 => h.lo3 x y h1 h2 h3 h4 (h5.imp id (hk y)), fun y h1 h2 => h.ch y (hk y h1) h2, h.oll⟩
theorem st_len {r : List B} {G : Nat → Prop} {t : TS} (h : WW r G t) : t.st.length ≤ r.length := by
  have := h.nodup.length_le_of_subset (l₂ := List.range r.length) fun x hx => List.mem_range.2 (h.lt (h.st_vis hx))
  rwa [List.length_range] at this
theorem out_len {r : List B} {G : Nat → Prop} {t : TS} (h : WW r G t) : t.out.length ≤ 64 := by
  have hn : ((List.range t.out.length).map fun i => low (row t.out i)).Nodup := by
    unfold List.Nodup
    rw [List.pairwise_map]
    refine List.Pairwise.imp_of_mem (fun {a b} ha hb hab he => ?_) List.nodup_range
    rw [List.mem_range] at ha hb
    have h1 := has_low (tied_ne (h.sc _ (row_mem ha)))
    have h2 := has_low (tied_ne (h.sc _ (row_mem hb)))
    rw [← he] at h2
    rw [row_at ha] at h1
    rw [row_at hb] at h2
    have hp := List.pairwise_iff_getElem.1 h.ds
    rcases Nat.lt_trichotomy a b with h3 | h3 | h3
    · rw [row_at ha] at h2; exact apart_no (hp a b ha hb h3) h1 h2
    · exact hab h3
    · rw [row_at ha] at h2; exact apart_no (hp b a hb ha h3) h2 h1
  have := hn.length_le_of_subset (l₂ := List.range 64) fun x hx => by
    obtain ⟨i, hi, rfl⟩ := List.mem_map.1 hx
    rw [List.mem_range] at hi
    exact List.mem_range.2 (has_lt (has_low (tied_ne (h.sc _ (row_mem hi)))))
  simpa using this
theorem WAt.second {w : World} {B0 B1 bw bm bl n c cs co : Nat} {pr ps po : Option Addr} {t : TS} (h : WAt w B0 B1 bw bm bl pr n c ps cs po co t) (i : Nat) {k : Nat} (hk : k < n) (x : Value) :
    (w.setCell ⟨bm, i, none⟩ x).drew.cell? ⟨bl, k, none⟩ = some (.int .i64 (t.lw k : Int)) ∧ (w.setCell ⟨bm, i, none⟩ x).drew.frozen? ⟨bl, k, none⟩ = false := by
  have h1 := h.om.stored i x
  have h1l := h.ol.kept h1.2 (.inr fun e => h.ml (Option.some.inj e).symm)
  exact ⟨own_int_at h1l hk, h1l.frozenAt k⟩
theorem add_off0 (g k : Nat) : (⟨g, 0, none⟩ : Addr).add k = ⟨g, k, none⟩ := by
  unfold Addr.add
  by_cases h : k = 0
  · subst h; rfl
  · rw [if_neg h]; simp
theorem u64s_snoc (l : List B) (s : B) : u64s (l ++ [s]) = u64s l ++ [.int .u64 (un s : Int)] := by unfold u64s; rw [List.map_append]; rfl
/-- what the walk answers -/
def WalkPost (r : List B) (G : Nat → Prop) (B0 B1 bw bm bl : Nat) (pr : Option Addr) (c : Nat) (t : TS) (ps po : Option Addr) (i : Nat) (w : World) (e : Ending) (w' : World) : Prop :=
  e = .returned (.tuple #[]) ∧ ∃ (t' : TS) (ps' : Option Addr) (cs' : Nat) (po' : Option Addr) (co' : Nat), WAt w' B0 B1 bw bm bl pr r.length c ps' cs' po' co' t' ∧ Aft r G t i t' ∧ Below B0 w w' ∧ Walked bw bm bl w ps po w' ps' po' ∧ t'.now + unv r t' ≤ r.length
set_option maxHeartbeats 8000000 in
set_option maxRecDepth 100000 in
theorem walk_ok (r : List B) (hv : Valid r) (B0 B1 bw bm bl : Nat) (hB0 : 0 < B0) (pr : Option Addr) (c : Nat) : ∀ (d : Nat) (G : Nat → Prop) (t : TS) (ps : Option Addr) (cs : Nat) (po : Option Addr) (co i : Nat) (w : World), B1 ≤ w.heap.size → unv r t ≤ d → i < r.length →
    WAt w B0 B1 bw bm bl pr r.length c ps cs po co t → WW r G t → t.mt i = 0 → (∀ g, G g → Rch r g i) → t.now + unv r t ≤ r.length → Reads w B0 1 pr r.length (u64s r) → Tab w →
    Calls Tryd.prog 76 #[.pointer (some ⟨bw, 0, none⟩), .int .i64 (i : Int)] w (WalkPost r G B0 B1 bw bm bl pr c t ps po i w) := by
  intro d
  induction d using Nat.strongRecOn with
  | _ d IH =>
  intro G t ps cs po co i w hB1 hd hi hP hW h0 hg hnu hR hT
  have h64 := hv.1
  have HM0 := Lib.hid (mid_enter hv hW hi h0 hg)
  have hlt0 := unv_lt HM0.out hi h0
  have hnow : t.now < 64 := by omega
  have HNU : Hid ((push t i).now + unv r (push t i) ≤ r.length) := by show t.now + 1 + _ ≤ _; omega
  have HV := Lib.hid hv
  have HIH := Lib.hid IH
  have HD : Hid (unv r t ≤ d) := hd
  have HG := Lib.hid hg
  have H0 := Lib.hid h0
  have HWW := Lib.hid hW
  have HR := Lib.hid hR
  have HT := Lib.hid hT
  have HP := Lib.hid hP
  have hsl : t.st.length ≤ 64 := by have := st_len hW; omega
  obtain ⟨adr, rfl, hbr, hcr⟩ := rows_cellB hR hi
  obtain ⟨x, hx⟩ : ∃ x, x = row r i := ⟨_, rfl⟩
  rw [← hx] at hcr
  have HX := Lib.hid hx
  have HC : Hid (∀ u : World, Below B0 w u → u.cell? (adr.add i) = some (.int .u64 (un x : Int))) := by
    show ∀ u : World, _
    intro u hu
    rw [hu.cell (p := adr.add i) (by rw [block_of_add]; exact hbr)]; exact hcr
  obtain ⟨z, hz⟩ : ∃ z, z = t.now + 1 := ⟨_, rfl⟩
  have hz1 : (t.now : Int) + 1 = (z : Int) := by omega
  have HZ := Lib.hid hz
  have HZ1 := Lib.hid hz1
  obtain ⟨k0, k1, k2, k3, k4, k5, k6, k7⟩ := b7 hP.box
  have k8 := k7 5
  clear hv hW IH hd hg h0 hnu hR hT hP hx hz hz1 hlt0 k7
  go_enter Tryd.func76, Tryd.ntmps76
  go_wp2_with fail
  rw [HZ1.out]
  obtain ⟨Y, hY⟩ : ∃ Y : World, Y = w.setCell ⟨bw, 5, none⟩ (.int .i64 (z : Int)) := ⟨_, rfl⟩
  have HPY : Hid (WAt Y B0 B1 bw bm bl (some adr) r.length c ps cs po co ⟨t.met, t.low, t.st, t.on, z, t.out⟩) := by show WAt _ _ _ _ _ _ _ _ _ _ _ _ _ _; rw [hY]; exact HP.out.set5 z
  have HBY : Hid (Below B0 w Y) := by show Below _ _ _; rw [hY]; exact (Below.refl _ _).setCell HP.out.gw.1 _
  have HWY : Hid (Walked bw bm bl w ps po Y ps po) := by show Walked _ _ _ _ _ _ _ _ _; rw [hY]; exact (Walked.refl _ _ _ _ _ _).set _ (.inl rfl)
  rw [← hY]
  clear hY k0 k1 k2 k3 k4 k5 k6 k8
  obtain ⟨k0, k1, k2, k3, k4, k5, k6, k7⟩ := b7 HPY.out.box
  have hcm := own_int_at HPY.out.om hi
  have hfm := HPY.out.om.frozenAt i
  have hcl := own_int_at HPY.out.ol hi
  have hfl := HPY.out.ol.frozenAt i
  obtain ⟨hs1, hs2⟩ := HPY.out.second i hi (.int .i64 (z : Int))
  generalize t.met.getD i 0 = zm at hcm
  generalize TS.lw _ i = zl at hs1
  generalize t.low.getD i 0 = zl2 at hcl
  clear k7
  go_region
  obtain ⟨Y1, hY1⟩ : ∃ Y1 : World, Y1 = ((Y.setCell ⟨bm, i, none⟩ (.int .i64 (z : Int))).setCell ⟨bl, i, none⟩ (.int .i64 (z : Int))).drew := ⟨_, rfl⟩
  have HPY1 : Hid (WAt Y1 B0 B1 bw bm bl (some adr) r.length c ps cs po co ⟨t.met.set i z, t.low.set i z, t.st, t.on, z, t.out⟩) := by show WAt _ _ _ _ _ _ _ _ _ _ _ _ _ _; rw [hY1]; exact (HPY.out.put i z z).drew
  have HBY1 : Hid (Below B0 w Y1) := by show Below _ _ _; rw [hY1]; exact ((HBY.out.setCell HP.out.gm.1 _).setCell HP.out.gl.1 _).drew
  have HWY1 : Hid (Walked bw bm bl w ps po Y1 ps po) := by show Walked _ _ _ _ _ _ _ _ _; rw [hY1]; exact ((HWY.out.set _ (.inr (.inl rfl))).set _ (.inr (.inr rfl))).drew
  rw [← hY1]
  clear hY1 k0 k1 k2 k3 k4 k5 k6 hcm hfm hcl hfl hs1 hs2
  obtain ⟨k0, k1, k2, k3, k4, k5, k6, k7⟩ := b7 HPY1.out.box
  have hB1Y : B1 ≤ Y1.heap.size := Nat.le_trans hB1 HWY1.out.size
  clear k7
  go_wp2_with (at_builtin; refine app_intB _ rfl _ _ rfl B1 ps t.st.length cs (ints t.st) rfl (HPY1.out.os.alloc _) Y1.heap.size (.int .i64 (i : Int)) rfl rfl ?c1 (by omega) ?c2 ?_; rotate_right; intro ps2 cs2 w5 hown5 hgrow5 hblk5; rw [← ints_snoc] at hown5; obtain ⟨hbx, hW6⟩ := WAt.push (HPY1.out.alloc (.cells #[.int .i64 (i : Int)] 3)) hgrow5 rfl hown5; obtain ⟨m0, m1, m2, m3, m4, m5, m6, m7⟩ := b7 (hbx.trans (HPY1.out.alloc (.cells #[.int .i64 (i : Int)] 3)).box); have m8 := m7 3; have HW6 := Lib.hid hW6; have HG5 := Lib.hid hgrow5; have HK5 := Lib.hid hblk5; clear m7 hW6 hbx hown5 hgrow5 hblk5)
  case c2 => first | omega | (simp; omega)
  obtain ⟨Y2, hY2⟩ : ∃ Y2 : World, Y2 = w5.setCell ⟨bw, 3, none⟩ (.slice ps2 (t.st.length + 1) cs2) := ⟨_, rfl⟩
  have HPY2 : Hid (WAt Y2 B0 B1 bw bm bl (some adr) r.length c ps2 cs2 po co ⟨t.met.set i z, t.low.set i z, t.st ++ [i], t.on, z, t.out⟩) := by show WAt _ _ _ _ _ _ _ _ _ _ _ _ _ _; rw [hY2]; exact HW6.out
  have HBY2 : Hid (Below B0 w Y2) := by
    show Below _ _ _
    rw [hY2]
    have h0 := HP.out.gw
    have h1 := HBY1.out.alloc (show B0 ≤ Y1.heap.size by omega) (.cells #[.int .i64 (i : Int)] 3)
    exact (h1.grown HG5.out (by simp; omega) (fun k hk => by have := (HPY1.out.sblk hk).1; omega)).setCell h0.1 _
  have HWY2 : Hid (Walked bw bm bl w ps po Y2 ps2 po) := by
    show Walked _ _ _ _ _ _ _ _ _
    rw [hY2]
    exact ((HWY1.out.alloc (.cells #[.int .i64 (i : Int)] 3)).stack HG5.out rfl HK5.out).set _ (.inl rfl)
  rw [← hY2]
  clear hY2 k0 k1 k2 k3 k4 k5 k6 m0 m1 m2 m3 m4 m5 m6 m8 HG5 HK5
  obtain ⟨k0, k1, k2, k3, k4, k5, k6, k7⟩ := b7 HPY2.out.box
  have k8 := k7 4
  have hi64 : i < 64 := by omega
  clear k7
  go_region
  obtain ⟨Y3, hY3⟩ : ∃ Y3 : World, Y3 = (Y2.setCell ⟨bw, 4, none⟩ (.int .u64 (un (t.on ||| 1#64 <<< i) : Int))).drew := ⟨_, rfl⟩
  have HPY3 : Hid (WAt Y3 B0 B1 bw bm bl (some adr) r.length c ps2 cs2 po co (push t i)) := by
    show WAt _ _ _ _ _ _ _ _ _ _ _ _ _ _
    rw [hY3]
    have := (HPY2.out.set4 (t.on ||| 1#64 <<< i)).drew
    rw [HZ.out] at this
    exact this
  have HBY3 : Hid (Below B0 w Y3) := by show Below _ _ _; rw [hY3]; exact (HBY2.out.setCell HP.out.gw.1 _).drew
  have HWY3 : Hid (Walked bw bm bl w ps po Y3 ps2 po) := by show Walked _ _ _ _ _ _ _ _ _; rw [hY3]; exact (HWY2.out.set _ (.inl rfl)).drew
  rw [← hY3]
  clear hY3 k0 k1 k2 k3 k4 k5 k6 k8
  obtain ⟨k0, k1, k2, k3, k4, k5, k6, k7⟩ := b7 HPY3.out.box
  have hcx := HC.out Y3 HBY3.out
  have hT3 := HT.out.belowB hB0 HBY3.out
  clear k7
  generalize hU : push t i = U at *
  go_wp2_with (go_at_call 16; refine (List_ok x _ hT3).mono ?_; rintro e w4 ⟨gl, cl, rfl, hownl, hb4⟩; have HOL := Lib.hid hownl; have HB4 := Lib.hid hb4; clear hownl hb4)
  have HPY4 := Lib.hid (HPY3.out.below HB4.out)
  have HBY4 : Hid (Below B0 w w4) := by
    show Below _ _ _
    have h0 := HP.out.gw
    have h1 := HBY3.out.size
    have h2 := HWY3.out.size
    exact HBY3.out.trans (HB4.out.mono (by omega))
  have HWY4 : Hid (Walked bw bm bl w ps po w4 ps2 po) := by show Walked _ _ _ _ _ _ _ _ _; exact HWY3.out.below HB4.out
  have HLW : Hid (∀ (u : World) (qs qo : Option Addr), Walked bw bm bl w4 ps2 po u qs qo → u.ownsRow Y3.heap.size 3 1 (.slice gl (cnt x) cl) (cnt x) (ints (lst x))) := by
    show ∀ (u : World) (qs qo : Option Addr), _
    intro u qs qo hu
    refine hu.own HOL.out fun b hb => ?_
    obtain ⟨_, _, _, hf⟩ := own_form HOL.out
    have h1 := (hf b hb).1
    have h2 := HP.out.gw
    have h3 := HP.out.gm
    have h4 := HP.out.gl
    have h5 := HWY3.out.size
    refine ⟨by omega, by omega, by omega, fun e => ?_, fun e => ?_⟩
    · have := (HPY3.out.sblk e).2; omega
    · have := (HPY3.out.oblk e).2; omega
  have HCX := Lib.hid (cnt_lst x)
  have hcx64 := cnt_le x
  have hUi : U.mt i ≠ 0 := by rw [← hU]; have := HM0.out.mi; rw [← hU] at this; rw [this]; omega
  have hUv : unv r U < unv r t := by rw [← hU]; have := HM0.out; rw [← hU] at this; exact unv_lt this hi H0.out
  clear k0 k1 k2 k3 k4 k5 k6 hcx hT3 hU HOL HB4
  go_loopg [64] (cnt x) (fun g v wi => ∃ (j : Nat) (u : TS) (qs : Option Addr) (ds : Nat) (qo : Option Addr) (d_o : Nat), g + j = cnt x ∧ v = .int .i64 j ∧ Hid (WAt wi B0 B1 bw bm bl (some adr) r.length c qs ds qo d_o u) ∧ Hid (Mid r G t i (fun y => y ∈ (lst x).take j) u) ∧ Hid (Below B0 w wi) ∧ Hid (Walked bw bm bl w4 ps2 po wi qs qo) ∧ Hid (u.now + unv r u ≤ r.length))
  case atStart => exact ⟨0, U, _, _, _, _, by omega, rfl, HPY4, mid_ks HM0.out (fun y hy => by cases hy), HBY4, Walked.refl _ _ _ _ _ _, HNU⟩
  case round =>
    obtain ⟨j, u, qs, ds, qo, d_o, hgj, rfl, HPu, HMu, HBu, HWu, HNu⟩ := hrel
    by_cases hlt : j < cnt x
    · have hjl : j < (lst x).length := by rw [← HCX.out]; exact hlt
      obtain ⟨al, rfl, _, hcl⟩ := (Reads.of_own (HLW.out wr qs qo HWu.out)).int_at hlt
      have hkx := mem_lst.1 (getD_mem hjl)
      have HTK : Hid (∀ y, y ∈ (lst x).take (j + 1) → y ∈ (lst x).take j ∨ y = (lst x).getD j 0) := by
        show ∀ y, _
        intro y hy
        rw [List.take_succ_eq_append_getElem hjl, ← getD_at hjl] at hy
        simpa using hy
      generalize (lst x).getD j 0 = k at *
      have hk64 := has_lt hkx
      have HKX : Hid (has (row r i) k = true) := by show _ = _; rw [← HX.out]; exact hkx
      have hkr : k < r.length := HV.out.2 _ _ HKX.out
      obtain ⟨k0, k1, k2, k3, k4, k5, k6, k7⟩ := b7 HPu.out.box
      have hcm := own_int_at HPu.out.om hkr
      clear hjl hkx k7
      by_cases hmk : u.mt k = 0
      · have hcm0 : wr.cell? ⟨bm, k, none⟩ = some (.int .i64 0) := by
          rw [hcm]
          show some (Value.int .i64 ((u.mt k : Nat) : Int)) = _
          rw [hmk]; rfl
        have HCall : Hid (Calls Tryd.prog 76 #[.pointer (some ⟨bw, 0, none⟩), .int .i64 (k : Int)] wr (WalkPost r (Gi G i) B0 B1 bw bm bl (some adr) c u qs qo k wr)) := by
          show Calls _ _ _ _ _
          have h1 := unv_lt HMu.out hi H0.out
          have h2 := HD.out
          exact HIH.out (unv r u) (by omega) (Gi G i) u qs ds qo d_o k wr (Nat.le_trans hB1 HBu.out.size) (Nat.le_refl _) hkr HPu.out HMu.out.ww hmk (mid_pre HG.out HKX.out) HNu.out (HR.out.below HBu.out) (HT.out.belowB hB0 HBu.out)
        have HMK := Lib.hid hmk
        clear hcm hmk
        go_wp2_with (go_at_call 76; refine HCall.out.mono ?_; rintro e w6 ⟨rfl, u2, qs2, ds2, qo2, do2, hP6, hA6, hB6, hW6, hN6⟩; have HP6 := Lib.hid hP6; have HA6 := Lib.hid hA6; have HB6 := Lib.hid (HBu.out.trans hB6); have HW6 := Lib.hid (HWu.out.trans hW6); have HN6 := Lib.hid hN6; clear hP6 hA6 hB6 hW6 hN6)
        obtain ⟨m0, m1, m2, m3, m4, m5, m6, m7⟩ := b7 HP6.out.box
        have hli := own_int_at HP6.out.ol hi
        have hlk := own_int_at HP6.out.ol hkr
        have hfl := HP6.out.ol.frozenAt i
        obtain ⟨mm, hmm⟩ : ∃ mm : Nat, mm = min (u2.lw i) (u2.lw k) := ⟨_, rfl⟩
        have HMN := Lib.hid (mid_new HMu.out H0.out HKX.out HMK.out HA6.out)
        have hmi : min ((u2.low.getD i 0 : Nat) : Int) ((u2.low.getD k 0 : Nat) : Int) = (mm : Int) := by
          have e1 : u2.low.getD i 0 = u2.lw i := rfl
          have e2 : u2.low.getD k 0 = u2.lw k := rfl
          rw [e1, e2]; omega
        have HMM := Lib.hid hmm
        generalize u2.low.getD i 0 = a at hli hmi
        generalize u2.low.getD k 0 = b at hlk hmi
        clear m7 hmm
        go_region
        have HPN : Hid (WAt ((w6.setCell ⟨bl, i, none⟩ (.int .i64 (mm : Int))).drew) B0 B1 bw bm bl (some adr) r.length c qs2 ds2 qo2 do2 (lows u2 i (min (u2.lw i) (u2.lw k)))) := by
          show WAt _ _ _ _ _ _ _ _ _ _ _ _ _ _
          rw [← HMM.out]
          exact (HP6.out.putl i mm).drew
        have HBN : Hid (Below B0 w ((w6.setCell ⟨bl, i, none⟩ (.int .i64 (mm : Int))).drew)) := by show Below _ _ _; exact (HB6.out.setCell HP.out.gl.1 _).drew
        have HWN : Hid (Walked bw bm bl w4 ps2 po ((w6.setCell ⟨bl, i, none⟩ (.int .i64 (mm : Int))).drew) qs2 qo2) := by show Walked _ _ _ _ _ _ _ _ _; exact (HW6.out.set _ (.inr (.inr rfl))).drew
        go_wp2
        go_roundg (cnt x - (j + 1))
        case measure => omega
        case rel => exact ⟨j + 1, _, qs2, ds2, qo2, do2, by omega, by go_num, HPN, mid_ks HMN.out HTK.out, HBN, HWN, HN6.out⟩
      · have HMK := Lib.hid hmk
        have hne : ((u.met.getD k 0 : Nat) : Int) ≠ 0 := by
          have : u.met.getD k 0 ≠ 0 := hmk
          omega
        have e0 : (((u.met.getD k 0 : Nat) : Int) == 0) = false := by simpa using hne
        have e1 : (((u.met.getD k 0 : Nat) : Int) != 0) = true := by simpa using hne
        have hsb := shr_bit u.on k
        have hli := own_int_at HPu.out.ol hi
        have hfl := HPu.out.ol.frozenAt i
        obtain ⟨mm, hmm⟩ : ∃ mm : Nat, mm = min (u.lw i) (u.mt k) := ⟨_, rfl⟩
        have hmi : min ((u.low.getD i 0 : Nat) : Int) ((u.met.getD k 0 : Nat) : Int) = (mm : Int) := by
          have e1 : u.low.getD i 0 = u.lw i := rfl
          have e2 : u.met.getD k 0 = u.mt k := rfl
          rw [e1, e2]; omega
        have HMM := Lib.hid hmm
        have HOn : Hid (∃ b, b = has u.on k) := ⟨_, rfl⟩
        clear hne hmk hmm
        generalize u.low.getD i 0 = a at hli hmi
        generalize u.met.getD k 0 = b at hcm hmi e0 e1
        obtain ⟨ob, hob⟩ := HOn.out
        rw [← hob] at hsb
        have HOB := Lib.hid hob
        clear HOn hob
        cases ob
        · simp only [Bool.false_eq_true, if_false] at hsb
          have HMN := Lib.hid (mid_out HMu.out HMK.out HOB.out.symm)
          go_wp2
          go_roundg (cnt x - (j + 1))
          case measure => omega
          case rel => exact ⟨j + 1, u, qs, ds, qo, d_o, by omega, by go_num, HPu, mid_ks HMN.out HTK.out, HBu, HWu, HNu⟩
        · simp only [if_true] at hsb
          have HMN := Lib.hid (mid_on HMu.out H0.out HKX.out HOB.out.symm)
          go_wp2
          go_region
          have HPN : Hid (WAt ((wr.setCell ⟨bl, i, none⟩ (.int .i64 (mm : Int))).drew) B0 B1 bw bm bl (some adr) r.length c qs ds qo d_o (lows u i (min (u.lw i) (u.mt k)))) := by
            show WAt _ _ _ _ _ _ _ _ _ _ _ _ _ _
            rw [← HMM.out]
            exact (HPu.out.putl i mm).drew
          have HBN : Hid (Below B0 w ((wr.setCell ⟨bl, i, none⟩ (.int .i64 (mm : Int))).drew)) := by show Below _ _ _; exact (HBu.out.setCell HP.out.gl.1 _).drew
          have HWN : Hid (Walked bw bm bl w4 ps2 po ((wr.setCell ⟨bl, i, none⟩ (.int .i64 (mm : Int))).drew) qs qo) := by show Walked _ _ _ _ _ _ _ _ _; exact (HWu.out.set _ (.inr (.inr rfl))).drew
          go_wp2
          go_roundg (cnt x - (j + 1))
          case measure => omega
          case rel => exact ⟨j + 1, _, qs, ds, qo, d_o, by omega, by go_num, HPN, mid_ks HMN.out HTK.out, HBN, HWN, HNu.out⟩
    · obtain rfl : j = cnt x := by omega
      have HKS : Hid (∀ y, has (row r i) y = true → y ∈ (lst x).take (cnt x)) := by
        show ∀ y, _
        intro y hy
        rw [HCX.out, List.take_length, HX.out]; exact mem_lst.2 hy
      obtain ⟨k0, k1, k2, k3, k4, k5, k6, k7⟩ := b7 HPu.out.box
      have hcm := own_int_at HPu.out.om hi
      have hcl := own_int_at HPu.out.ol hi
      have HW4u : Hid (Walked bw bm bl w ps po wr qs qo) := by show Walked _ _ _ _ _ _ _ _ _; exact HWY4.out.trans HWu.out
      clear k7
      by_cases he : u.lw i = u.mt i
      · obtain ⟨sg, hsg⟩ := HMu.out.seg
        have hul : u.st.length ≤ 64 := by have := st_len HMu.out.ww; omega
        have hat : t.st.length < u.st.length := by rw [hsg]; simp
        have hol : u.out.length ≤ 64 := out_len HMu.out.ww
        have htake : u.st.take t.st.length = t.st := by rw [hsg]; simp
        have hdrop : u.st.drop t.st.length = i :: sg := by rw [hsg]; simp
        have hfi : firstAt u.st i = (t.st.length : Int) := by
          refine firstAt_hit hat (by simp [hsg]) ?_
          rw [htake]
          intro hm
          have := HMu.out.ww.nodup
          rw [hsg, List.nodup_append] at this
          exact this.2.2 i hm i (by simp) rfl
        have hlt64 : ∀ y ∈ i :: sg, y < 64 := by
          intro y hy
          have : y ∈ u.st := by rw [hsg]; exact List.mem_append_right _ hy
          have := HMu.out.ww.lt (HMu.out.ww.st_vis this)
          omega
        have HFI := Lib.hid hfi
        have HLT := Lib.hid hlt64
        have HTAKE := Lib.hid htake
        have HAF := Lib.hid (aft_pop HV.out HWW.out HMu.out HKS.out he hsg ⟨sg, rfl⟩)
        obtain ⟨g1, hg1, hcg1, hcg2⟩ := own_full HPu.out.os (show 0 < u.st.length by omega)
        subst hg1
        have HRS := Lib.hid (Reads.of_own HPu.out.os)
        have HRD : Hid (Reads wr wr.heap.size 1 (some ⟨g1, t.st.length, none⟩) (u.st.length - t.st.length) (ints (i :: sg))) := by
          show Reads _ _ _ _ _ _
          have h1 := (Reads.of_own HPu.out.os).drop (k := t.st.length) (by omega)
          rw [add_off0] at h1
          unfold ints at h1 ⊢
          rw [← List.map_drop, hdrop] at h1
          exact h1
        have hne : ((u.low.getD i 0 : Nat) : Int) = ((u.met.getD i 0 : Nat) : Int) := by
          have : u.low.getD i 0 = u.met.getD i 0 := he
          omega
        rw [hne] at hcl
        generalize u.met.getD i 0 = b at *
        clear hne he hsg htake hdrop hfi hlt64
        go_wp2
        go_quiet (fail)
        go_upto_region 16 with (first | (go_at_call 82; refine (index_ok u.st i _ _ _ _ _ (HRS.out.drewN _) (by unfold maxLen; omega)).mono ?_; rw [HFI.out]; rintro e w' ⟨rfl, rfl⟩) | (go_at_call 83; refine (of_ok (i :: sg) HLT.out _ _ _ _ _ (HRD.out.drewN _) (by unfold maxLen; omega)).mono ?_; rintro e w' ⟨rfl, rfl⟩))
        obtain ⟨sv, hsv⟩ : ∃ sv, sv = ofL (i :: sg) := ⟨_, rfl⟩
        rw [← hsv]
        have HSV := Lib.hid hsv
        clear hsv
        obtain ⟨Z, hZ⟩ : ∃ Z : World, Z = wr.drewN nq := ⟨_, rfl⟩
        have HPZ : Hid (WAt Z B0 B1 bw bm bl (some adr) r.length c (some ⟨g1, 0, none⟩) ds qo d_o u) := by show WAt _ _ _ _ _ _ _ _ _ _ _ _ _ _; rw [hZ]; exact HPu.out.drewN _
        have HBZ : Hid (Below B0 w Z) := by show Below _ _ _; rw [hZ]; exact below_draws HBu.out _
        have HWZ : Hid (Walked bw bm bl w ps po Z (some ⟨g1, 0, none⟩) qo) := by show Walked _ _ _ _ _ _ _ _ _; rw [hZ]; exact HW4u.out.drewN _
        rw [← hZ]
        clear hZ k0 k1 k2 k3 k4 k5 k6 hcm hcl
        obtain ⟨k0, k1, k2, k3, k4, k5, k6, k7⟩ := b7 HPZ.out.box
        have k8 := k7 3
        have hat2 : (t.st.length : Int) ≤ (ds : Int) := by omega
        clear k7
        go_upto_region 17 with fail
        obtain ⟨Z1, hZ1⟩ : ∃ Z1 : World, Z1 = Z.setCell ⟨bw, 3, none⟩ (.slice (some ⟨g1, 0, none⟩) t.st.length ds) := ⟨_, rfl⟩
        have HPZ1 : Hid (WAt Z1 B0 B1 bw bm bl (some adr) r.length c (some ⟨g1, 0, none⟩) ds qo d_o ⟨u.met, u.low, t.st, u.on, u.now, u.out⟩) := by
          show WAt _ _ _ _ _ _ _ _ _ _ _ _ _ _
          rw [hZ1]
          have := HPZ.out.cut (k := t.st.length) (by omega)
          rwa [HTAKE.out] at this
        have HBZ1 : Hid (Below B0 w Z1) := by show Below _ _ _; rw [hZ1]; exact HBZ.out.setCell HP.out.gw.1 _
        have HWZ1 : Hid (Walked bw bm bl w ps po Z1 (some ⟨g1, 0, none⟩) qo) := by show Walked _ _ _ _ _ _ _ _ _; rw [hZ1]; exact HWZ.out.set _ (.inl rfl)
        rw [← hZ1]
        clear hZ1 k0 k1 k2 k3 k4 k5 k6 k8 hat2
        obtain ⟨k0, k1, k2, k3, k4, k5, k6, k7⟩ := b7 HPZ1.out.box
        have k8 := k7 4
        clear k7
        go_upto_region 18 with fail
        obtain ⟨Z2, hZ2⟩ : ∃ Z2 : World, Z2 = Z1.setCell ⟨bw, 4, none⟩ (.int .u64 (un (u.on &&& ~~~sv) : Int)) := ⟨_, rfl⟩
        have HPZ2 : Hid (WAt Z2 B0 B1 bw bm bl (some adr) r.length c (some ⟨g1, 0, none⟩) ds qo d_o ⟨u.met, u.low, t.st, u.on &&& ~~~sv, u.now, u.out⟩) := by
          show WAt _ _ _ _ _ _ _ _ _ _ _ _ _ _
          rw [hZ2]
          exact HPZ1.out.set4 (u.on &&& ~~~sv)
        have HBZ2 : Hid (Below B0 w Z2) := by show Below _ _ _; rw [hZ2]; exact HBZ1.out.setCell HP.out.gw.1 _
        have HWZ2 : Hid (Walked bw bm bl w ps po Z2 (some ⟨g1, 0, none⟩) qo) := by show Walked _ _ _ _ _ _ _ _ _; rw [hZ2]; exact HWZ1.out.set _ (.inl rfl)
        rw [← hZ2]
        clear hZ2 k0 k1 k2 k3 k4 k5 k6 k8
        obtain ⟨k0, k1, k2, k3, k4, k5, k6, k7⟩ := b7 HPZ2.out.box
        have hB1Z : B1 ≤ Z2.heap.size := Nat.le_trans hB1 HWZ2.out.size
        clear k7
        go_wp2_with (at_builtin; refine app_u64B _ rfl _ _ rfl B1 qo u.out.length d_o (u64s u.out) rfl (HPZ2.out.oo.alloc _) Z2.heap.size (.int .u64 (un sv : Int)) rfl rfl ?d1 (by omega) ?d2 ?_; rotate_right; intro qo2 do2 w7 hown7 hgrow7 hblk7; rw [← u64s_snoc] at hown7; obtain ⟨hbx, hW7⟩ := WAt.outp (HPZ2.out.alloc (.cells #[.int .u64 (un sv : Int)] 28)) hgrow7 rfl hown7; obtain ⟨m0, m1, m2, m3, m4, m5, m6, m7⟩ := b7 (hbx.trans (HPZ2.out.alloc (.cells #[.int .u64 (un sv : Int)] 28)).box); have m8 := m7 6; have HW7 := Lib.hid hW7; have HG7 := Lib.hid hgrow7; have HK7 := Lib.hid hblk7; clear m7 hW7 hbx hown7 hgrow7 hblk7)
        case d2 => first | omega | (simp; omega)
        (try simp only [Exit.inBlock, Exit.then])
        first | (refine bodyPost_ret (results_none rfl _ _ _) rfl ?_) | (refine bodyPost_end (results_none rfl _ _ _) rfl ?_)
        refine ⟨rfl, popP u t.st (i :: sg), some ⟨g1, 0, none⟩, ds, qo2, do2, ?_, HAF.out, ?_, ?_, HNu.out⟩
        · have := HW7.out
          rw [HSV.out] at this
          exact this
        · have h0 := HP.out.gw
          have h1 := HBZ2.out.alloc (show B0 ≤ Z2.heap.size by omega) (.cells #[.int .u64 (un sv : Int)] 28)
          exact (h1.grown HG7.out (by simp; omega) (fun k hk => by have := (HPZ2.out.oblk hk).1; omega)).setCell h0.1 _
        · exact ((HWZ2.out.alloc (.cells #[.int .u64 (un sv : Int)] 28)).outp HG7.out rfl HK7.out).set _ (.inl rfl)
      · have hne : ((u.low.getD i 0 : Nat) : Int) ≠ ((u.met.getD i 0 : Nat) : Int) := by
          have : u.low.getD i 0 ≠ u.met.getD i 0 := he
          omega
        have e0 : (((u.low.getD i 0 : Nat) : Int) == ((u.met.getD i 0 : Nat) : Int)) = false := by simpa using hne
        have e1 : (((u.low.getD i 0 : Nat) : Int) != ((u.met.getD i 0 : Nat) : Int)) = true := by simpa using hne
        have HAF := Lib.hid (aft_stay HWW.out HMu.out HKS.out he)
        generalize u.low.getD i 0 = a at *
        generalize u.met.getD i 0 = b at *
        clear hne he
        go_wp2
        go_quiet (fail)
        go_wp2
        (try simp only [Exit.inBlock, Exit.then])
        first | (refine bodyPost_ret (results_none rfl _ _ _) rfl ?_) | (refine bodyPost_end (results_none rfl _ _ _) rfl ?_)
        exact ⟨rfl, u, qs, ds, qo, d_o, HPu.out.drewN _, HAF.out, below_draws HBu.out _, HW4u.out.drewN _, HNu.out⟩
end Go.Proofs.YtklikjjipoghlaaDoor
