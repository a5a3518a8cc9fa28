/- The walk of chain's find: a number looks for one below, those that are paired making room. Conditions: the pairing lies as told. -/
import Derived.Test.YtklikjjipoghlaaDoorPairC
import Derived.Test.YtklikjjipoghlaaDoorLevelW
import Derived.Deep.LoopGhost
import Derived.Deep.QuietTactic
import Derived.BigQuiet
namespace Go.Proofs.YtklikjjipoghlaaDoor
open Go.RowKit
def ivs (l : List Int) : List Value := l.map (Value.int .i64)
theorem ivs_set (l : List Int) (k : Nat) (x : Int) : (ivs l).set k (.int .i64 x) = ivs (l.set k x) := by unfold ivs; rw [List.map_set]
theorem own_iv_at {w : World} {base b n c : Nat} {l : List Int} (h : w.ownsRow base 3 1 (.slice (some ⟨b, 0, none⟩) n c) n (ivs l)) {k : Nat} (hk : k < n) : w.cell? ⟨b, k, none⟩ = some (.int .i64 (vl l k)) := by
  rw [h.cellAt k (by omega)]
  have hl : l.length = n := by have := h.1; simpa [ivs] using this
  rw [vl_at (by omega)]
  simp [ivs, hl, hk]
theorem b4 {w : World} {b : Nat} {t : TypeId} {v0 v1 v2 v3 : Value} (h : w.heap[b]? = some (.cells #[v0, v1, v2, v3] t (0, 0))) :
    w.cell? ⟨b, 0, none⟩ = some v0 ∧ w.cell? ⟨b, 1, none⟩ = some v1 ∧ w.cell? ⟨b, 2, none⟩ = some v2 ∧ w.cell? ⟨b, 3, none⟩ = some v3 ∧ ∀ o, w.frozen? ⟨b, o, none⟩ = false := by
  refine ⟨?_, ?_, ?_, ?_, fun o => ?_⟩
  all_goals simp [World.cell?, World.frozen?, h]
theorem b4_set3 {w : World} {b : Nat} {t : TypeId} {v0 v1 v2 v3 : Value} (h : w.heap[b]? = some (.cells #[v0, v1, v2, v3] t (0, 0))) (u : Value) :
    (w.setCell ⟨b, 3, none⟩ u).heap[b]? = some (.cells #[v0, v1, v2, u] t (0, 0)) := by
  rw [heap_setCell_same w b 3 _ _ u h]; rfl
theorem grown_setP (w : World) (a : Addr) (u : Value) : w.grownBy (w.setCell a u) (some a.block) :=
  ⟨rfl, rfl, rfl, by simp, fun k _ hk => heap_setCell_other w a k u (fun e => hk (by rw [e]))⟩
/-- the pairing at bp: its ways behind and ahead lie at bn and ba -/
structure PAt (w : World) (B0 bp bn ba : Nat) (pr : Option Addr) (n c : Nat) (nx ah : List Int) (s : B) : Prop where
  box : w.heap[bp]? = some (.cells #[.slice pr n c, .slice (some ⟨bn, 0, none⟩) n n, .slice (some ⟨ba, 0, none⟩) n n, .int .u64 (un s : Int)] 70 (0, 0))
  on_ : w.ownsRow B0 3 1 (.slice (some ⟨bn, 0, none⟩) n n) n (ivs nx)
  oa : w.ownsRow B0 3 1 (.slice (some ⟨ba, 0, none⟩) n n) n (ivs ah)
  gp : B0 ≤ bp
  gn : B0 ≤ bn
  ga : B0 ≤ ba
  pn : bp ≠ bn
  pa : bp ≠ ba
  na : bn ≠ ba
section
variable {w w' : World} {B0 bp bn ba n c : Nat} {pr : Option Addr} {nx ah : List Int} {s : B}
theorem PAt.lt (h : PAt w B0 bp bn ba pr n c nx ah s) : bp < w.heap.size := (Array.getElem?_eq_some_iff.1 h.box).1
theorem PAt.kept {row : Option Nat} (h : PAt w B0 bp bn ba pr n c nx ah s) (hg : w.grownBy w' row) (h1 : row ≠ some bp) (h2 : row ≠ some bn) (h3 : row ≠ some ba) : PAt w' B0 bp bn ba pr n c nx ah s :=
  ⟨(hg.block bp h.lt (fun e => h1 e.symm)).trans h.box, h.on_.kept hg (.inr fun e => h2 e.symm), h.oa.kept hg (.inr fun e => h3 e.symm), h.gp, h.gn, h.ga, h.pn, h.pa, h.na⟩
theorem PAt.drewN (h : PAt w B0 bp bn ba pr n c nx ah s) (k : Nat) : PAt (w.drewN k) B0 bp bn ba pr n c nx ah s :=
  h.kept (row := none) ⟨rfl, rfl, rfl, Nat.le_refl _, fun _ _ _ => rfl⟩ (by simp) (by simp) (by simp)
theorem PAt.drew (h : PAt w B0 bp bn ba pr n c nx ah s) : PAt w.drew B0 bp bn ba pr n c nx ah s :=
  h.kept (row := none) ⟨rfl, rfl, rfl, Nat.le_refl _, fun _ _ _ => rfl⟩ (by simp) (by simp) (by simp)
theorem PAt.see (h : PAt w B0 bp bn ba pr n c nx ah s) (t : B) : PAt (w.setCell ⟨bp, 3, none⟩ (.int .u64 (un t : Int))) B0 bp bn ba pr n c nx ah t :=
  have hg := grown_setP w ⟨bp, 3, none⟩ (.int .u64 (un t : Int))
  ⟨b4_set3 h.box _, h.on_.kept hg (.inr fun e => h.pn (Option.some.inj e).symm), h.oa.kept hg (.inr fun e => h.pa (Option.some.inj e).symm), h.gp, h.gn, h.ga, h.pn, h.pa, h.na⟩
theorem PAt.put (h : PAt w B0 bp bn ba pr n c nx ah s) (i k : Nat) (x y : Int) : PAt ((w.setCell ⟨bn, i, none⟩ (.int .i64 x)).setCell ⟨ba, k, none⟩ (.int .i64 y)) B0 bp bn ba pr n c (nx.set i x) (ah.set k y) s := by
  have h1 := h.on_.stored i (.int .i64 x)
  have h1a := h.oa.kept h1.2 (.inr fun e => h.na (Option.some.inj e).symm)
  have h2 := h1a.stored k (.int .i64 y)
  have h2n := h1.1.kept h2.2 (.inr fun e => h.na (Option.some.inj e))
  have hp1 : (w.setCell ⟨bn, i, none⟩ (.int .i64 x)).heap[bp]? = _ := (h1.2.block bp h.lt (fun e => h.pn (Option.some.inj e))).trans h.box
  have hlt : bp < (w.setCell ⟨bn, i, none⟩ (.int .i64 x)).heap.size := (Array.getElem?_eq_some_iff.1 hp1).1
  refine ⟨(h2.2.block bp hlt (fun e => h.pa (Option.some.inj e))).trans hp1, ?_, ?_, h.gp, h.gn, h.ga, h.pn, h.pa, h.na⟩
  · rw [← ivs_set]; exact h2n
  · rw [← ivs_set]; exact h2.1
end
theorem cnt_le_sub {s t : B} (h : sub s t) : cnt s ≤ cnt t := by
  rw [cnt_lst, cnt_lst]
  exact List.Nodup.length_le_of_subset ((lst_sorted s).imp fun h => Nat.ne_of_lt h) fun k hk => mem_lst.2 (h k (mem_lst.1 hk))
theorem bare_of {nx : List Int} {s t : B} {i : Nat} (h : sub s t) (hb : Bare nx s i) : Bare nx t i := by
  rcases hb with h1 | ⟨k, h1, h2⟩
  · exact .inl h1
  · exact .inr ⟨k, h1, h k h2⟩
theorem PAt.second {w : World} {B0 bp bn ba n c : Nat} {pr : Option Addr} {nx ah : List Int} {s : B} (h : PAt w B0 bp bn ba pr n c nx ah s) (i : Nat) {k : Nat} (hk : k < n) (x : Value) :
    (w.setCell ⟨bn, i, none⟩ x).drew.cell? ⟨ba, k, none⟩ = some (.int .i64 (vl ah k)) ∧ (w.setCell ⟨bn, i, none⟩ x).drew.frozen? ⟨ba, k, none⟩ = false := by
  have h1 := h.on_.stored i x
  have h1a := h.oa.kept h1.2 (.inr fun e => h.na (Option.some.inj e).symm)
  exact ⟨own_iv_at h1a hk, h1a.frozenAt k⟩
/-- what find answers -/
def FindPost (R : List B) (B0 bp bn ba : Nat) (pr : Option Addr) (n c : Nat) (nx ah : List Int) (s : B) (i : Nat) (w : World) (e : Ending) (w' : World) : Prop :=
  ∃ (nx' ah' : List Int) (s' : B) (b : Bool), e = .returned (.bool b) ∧ PAt w' B0 bp bn ba pr n c nx' ah' s' ∧ Below B0 w w' ∧ (if b = true then Won R nx ah s i nx' ah' s' else nx' = nx ∧ ah' = ah ∧ Lost R ah s i s')
theorem FindPost.yes {R : List B} {B0 bp bn ba n c : Nat} {pr : Option Addr} {nx ah nx' ah' : List Int} {s s' : B} {i : Nat} {w w' : World} (hP : PAt w' B0 bp bn ba pr n c nx' ah' s') (hb : Below B0 w w') (hw : Won R nx ah s i nx' ah' s') :
    FindPost R B0 bp bn ba pr n c nx ah s i w (.returned (.bool true)) w' := ⟨nx', ah', s', true, rfl, hP, hb, hw⟩
theorem FindPost.no {R : List B} {B0 bp bn ba n c : Nat} {pr : Option Addr} {nx ah : List Int} {s s' : B} {i : Nat} {w w' : World} (hP : PAt w' B0 bp bn ba pr n c nx ah s') (hb : Below B0 w w') (hl : Lost R ah s i s') :
    FindPost R B0 bp bn ba pr n c nx ah s i w (.returned (.bool false)) w' := ⟨nx, ah, s', false, rfl, hP, hb, rfl, rfl, hl⟩
theorem rows_cellB {w : World} {B0 n : Nat} {pr : Option Addr} {R : List B} (h : Reads w B0 1 pr n (u64s R)) {k : Nat} (hk : k < n) : ∃ ad, pr = some ad ∧ ad.block < B0 ∧ w.cell? (ad.add k) = some (.int .u64 (un (row R k) : Int)) := by
  obtain ⟨ad, u, rfl, hb, hu, hc⟩ := h.at_ hk
  refine ⟨ad, rfl, hb, ?_⟩
  have hl : k < R.length := by have := h.1; simp [u64s] at this; omega
  rw [hc, ← hu]
  unfold u64s row
  simp [hl]
theorem next_zero {s : B} (h : s ≠ 0#64) : nextV s 0 = .tuple #[.int .i64 (low s : Int), .bool true] := by
  have : frm s 0 = s := by
    unfold frm
    refine set_ext fun m hm => ?_
    rw [has_and, has_not _ _ hm, has_below _ _ hm]; simp
  unfold nextV
  rw [this, if_neg h]
set_option maxHeartbeats 4000000 in
set_option maxRecDepth 100000 in
theorem find_ok (R : List B) (hv : Valid R) (B0 bp bn ba : Nat) (hB0 : 0 < B0) (pr : Option Addr) (c : Nat) : ∀ (d : Nat) (nx ah : List Int) (s : B) (i : Nat) (w : World), 64 - cnt s ≤ d → i < R.length →
    PAt w B0 bp bn ba pr R.length c nx ah s → Pr R nx ah (-1) → Bare nx s i → Reads w B0 1 pr R.length (u64s R) → Tab w →
    Calls Tryd.prog 70 #[.pointer (some ⟨bp, 0, none⟩), .int .i64 (i : Int)] w (FindPost R B0 bp bn ba pr R.length c nx ah s i w) := by
  intro d
  induction d using Nat.strongRecOn with
  | _ d IH =>
  intro nx ah s i w hd hi hP hPr hBare hR hT
  have h64 := hv.1
  have HV := Lib.hid hv
  have HPr := Lib.hid hPr
  have HBare := Lib.hid hBare
  have HIH := Lib.hid IH
  have HD : Hid (64 - cnt s ≤ d) := hd
  have HR := Lib.hid hR
  have HT := Lib.hid hT
  have HP := Lib.hid hP
  obtain ⟨adr, rfl, hbr, hcr⟩ := rows_cellB hR hi
  obtain ⟨x, hx⟩ : ∃ x, x = row R i := ⟨_, rfl⟩
  rw [← hx] at hcr
  have HX := Lib.hid hx
  have HC : Hid (∀ u : World, Below B0 w u → u.cell? (adr.add i) = some (.int .u64 (un x : Int))) := by
    show ∀ u : World, _
    intro u hu
    rw [hu.cell (p := adr.add i) (by rw [block_of_add]; exact hbr)]; exact hcr
  obtain ⟨k0, k1, k2, k3, k4⟩ := b4 hP.box
  have k5 := k4 3
  clear hv hPr hBare IH hd hR hT hP hx k4
  go_enter Tryd.func70, Tryd.ntmps70
  go_wp2
  go_quiet (fail)
  go_wp2_with fail
  go_loopg [5] (64 - cnt s) (fun g v wi => ∃ st : B, v = .int .u64 (un (x &&& ~~~st) : Int) ∧ g = 64 - cnt st ∧ Hid (PAt wi B0 bp bn ba (some adr) R.length c nx ah st) ∧ Hid (Seen1 R ah s st) ∧ Hid (Below B0 w wi))
  case atStart => exact ⟨s, rfl, rfl, HP.out.drewN _, seen1_refl _ _ _, below_draws (Below.refl _ _) _⟩
  case round =>
    obtain ⟨st, rfl, hgk, HPi, HS, HB⟩ := hrel
    clear k0 k1 k2 k3 k5
    by_cases hz : x &&& ~~~st = 0#64
    · have HL : Hid (Lost R ah s i st) := by
        refine ⟨HS.out, fun k hk => ?_⟩
        rw [← HX.out] at hk
        have h0 := eq_zero_iff.1 hz k
        rw [has_and, hk, has_not _ _ (has_lt hk)] at h0
        simpa using h0
      have e0 : (un (x &&& ~~~st) : Int) = 0 := un_zero_int hz
      clear hz
      go_wp2
      go_ret
      exact FindPost.no HPi.out HB.out HL.out
    · have e0 := un_ne0 hz
      have HNX := Lib.hid (next_zero hz)
      have hlow := has_low hz
      rw [has_and, Bool.and_eq_true] at hlow
      obtain ⟨hkx, hkst⟩ := hlow
      have hk64 := has_lt hkx
      rw [has_not _ _ hk64] at hkst
      have hkst' : has st (low (x &&& ~~~st)) = false := by simpa using hkst
      have HKX : Hid (has (row R i) (low (x &&& ~~~st)) = true) := by show _ = _; rw [← HX.out]; exact hkx
      have hkn : low (x &&& ~~~st) < R.length := HV.out.2 _ _ HKX.out
      clear hkst hkx hz
      have hTr := Lib.hid (HT.out.belowB hB0 HB.out)
      generalize low (x &&& ~~~st) = k at *
      have HKS := Lib.hid hkst'
      clear hkst'
      obtain ⟨k0, k1, k2, k3, k4⟩ := b4 HPi.out.box
      have k5 := k4 3
      clear k4
      go_wp2_with (go_at_call 40; refine (Next_ok (x &&& ~~~st) 0 _ hTr.out).mono ?_; rintro e w' ⟨rfl, rfl⟩; rw [show (0 : Int).toNat = 0 from rfl, HNX.out])
      go_region
      obtain ⟨Y, hY⟩ : ∃ Y : World, Y = (wr.setCell ⟨bp, 3, none⟩ (.int .u64 (un (st ||| 1#64 <<< k) : Int))).drew := ⟨_, rfl⟩
      have HPY : Hid (PAt Y B0 bp bn ba (some adr) R.length c nx ah (st ||| 1#64 <<< k)) := by show PAt _ _ _ _ _ _ _ _ _ _ _; rw [hY]; exact (HPi.out.see _).drew
      have HBY : Hid (Below B0 w Y) := by show Below _ _ _; rw [hY]; exact (HB.out.setCell HPi.out.gp _).drew
      rw [← hY]
      clear hY k0 k1 k2 k3 k5
      obtain ⟨k0, k1, k2, k3, k4⟩ := b4 HPY.out.box
      clear k4
      have hca := own_iv_at HPY.out.oa hkn
      have hfa := HPY.out.oa.frozenAt k
      have hfn := HPY.out.on_.frozenAt i
      have hcn := own_iv_at HPY.out.on_ hi
      generalize vl nx i = vi at hcn
      have hkn' : (k : Int) < (R.length : Int) := by omega
      have HJ : Hid (∃ z, z = vl ah k) := ⟨_, rfl⟩
      obtain ⟨z, hz⟩ := HJ.out
      rw [← hz] at hca
      clear HJ
      have hz1 : -1 ≤ z := by rw [hz]; exact HPr.out.ga k
      have HZ := Lib.hid hz
      clear hz
      rcases int_cases hz1 with rfl | ⟨j, rfl⟩
      · have HF : Hid (FindPost R B0 bp bn ba (some adr) R.length c nx ah s i w (.returned (.bool true)) ((Y.setCell ⟨bn, i, none⟩ (.int .i64 (k : Int))).setCell ⟨ba, k, none⟩ (.int .i64 (i : Int))).drew) := by
          show FindPost _ _ _ _ _ _ _ _ _ _ _ _ _ _ _
          exact FindPost.yes (HPY.out.put i k _ _).drew (((HBY.out.setCell HPi.out.gn _).setCell HPi.out.ga _).drew) ((won_free HPr.out HKX.out HKS.out hkn (by rw [← HZ.out]; decide)).of HS.out.1)
        obtain ⟨hs1, hs2⟩ := HPY.out.second i hkn (.int .i64 (k : Int))
        rw [← HZ.out] at hs1
        go_wp2
        go_region
        go_wp2
        go_ret
        exact HF.out
      · have HCall : Hid (Calls Tryd.prog 70 #[.pointer (some ⟨bp, 0, none⟩), .int .i64 (j : Int)] Y (FindPost R B0 bp bn ba (some adr) R.length c nx ah (st ||| 1#64 <<< k) j Y)) := by
          show Calls _ _ _ _ _
          have h1 := cnt_bit_or hk64 HKS.out
          have h2 := cnt_le_sub HS.out.1
          have h3 := cnt_le (st ||| 1#64 <<< k)
          have h4 := HD.out
          exact HIH.out (64 - cnt (st ||| 1#64 <<< k)) (by omega) nx ah _ j Y (Nat.le_refl _) (HPr.out.lt k j HZ.out.symm) HPY.out HPr.out (bare_next HPr.out hk64 HZ.out.symm) (HR.out.below HBY.out) (HT.out.belowB hB0 HBY.out)
        go_wp2_with (go_at_call 70; refine HCall.out.mono ?_; rintro e w2 ⟨nx1, ah1, s2, b, rfl, hP2, hB2, hcase⟩; have HP2 := Lib.hid hP2; have HB2 := Lib.hid (HBY.out.trans hB2); have HCase := Lib.hid hcase; obtain ⟨m0, m1, m2, m3, _⟩ := b4 hP2.box; have hr2 := HC.out w2 HB2.out; clear hP2 hB2 hcase; cases b)
        · obtain ⟨e1, e2, hl⟩ := (show nx1 = nx ∧ ah1 = ah ∧ Lost R ah (st ||| 1#64 <<< k) j s2 by have := HCase.out; simpa using this)
          subst e1 e2
          have HN1 : Hid (Seen1 R ah1 s s2) := seen1_next hk64 HZ.out.symm HS.out hl
          have hlt : 64 - cnt s2 < 64 - cnt st := by
            have h1 := cnt_bit_or hk64 HKS.out
            have h2 := cnt_le_sub hl.1.1
            have h3 := cnt_le s2
            omega
          clear hl HCase
          go_quiet (fail)
          go_wp2
          go_roundg (64 - cnt s2)
          case measure => omega
          case rel => exact ⟨s2, rfl, rfl, HP2.out.drewN _, HN1, below_draws HB2.out _⟩
        · have hca2 := own_iv_at HP2.out.oa hkn
          have hfa2 := HP2.out.oa.frozenAt k
          have hfn2 := HP2.out.on_.frozenAt i
          have hcn2 := own_iv_at HP2.out.on_ hi
          generalize vl nx1 i = vi2 at hcn2
          clear hca2
          have HF : Hid (FindPost R B0 bp bn ba (some adr) R.length c nx ah s i w (.returned (.bool true)) ((w2.setCell ⟨bn, i, none⟩ (.int .i64 (k : Int))).setCell ⟨ba, k, none⟩ (.int .i64 (i : Int))).drew) := by
            show FindPost _ _ _ _ _ _ _ _ _ _ _ _ _ _ _
            exact FindPost.yes (HP2.out.put i k _ _).drew (((HB2.out.setCell HPi.out.gn _).setCell HPi.out.ga _).drew) ((won_next HPr.out (bare_of HS.out.1 HBare.out) HKX.out HKS.out hkn HZ.out.symm (by have := HCase.out; simpa using this)).of HS.out.1)
          obtain ⟨hs1, hs2⟩ := HP2.out.second i hkn (.int .i64 (k : Int))
          generalize vl ah1 k = vi3 at hs1
          go_region
          go_wp2
          go_ret
          exact HF.out
end Go.Proofs.YtklikjjipoghlaaDoor
