/- The walk of knot.parts. Conditions: the rows read as listed. -/
import Derived.Test.YtklikjjipoghlaaDoorWalkW
import Derived.Test.YtklikjjipoghlaaDoorSortG
import Derived.Test.YtklikjjipoghlaaDoorShelf
import Derived.Shelf.SlSortCmp.NoneTotal
namespace Go.Proofs.YtklikjjipoghlaaDoor
open Go.RowKit Go.Shelf Go.Sort
/-- the first number of a set, 0 if there is none -/
def lowz (s : B) : Nat := if s = 0#64 then 0 else low s
theorem lowz_lt (s : B) : lowz s < 64 := by
  unfold lowz
  split
  · omega
  · rename_i h; exact has_lt (has_low h)
theorem nextV_lowz (s : B) : ∃ b, nextV s 0 = .tuple #[.int .i64 (lowz s : Int), .bool b] := by
  unfold lowz
  by_cases h : s = 0#64
  · subst h
    have : frm 0#64 0 = 0#64 := by decide
    exact ⟨false, by unfold nextV; rw [this, if_pos rfl, if_pos rfl]; rfl⟩
  · exact ⟨true, by rw [next_zero h, if_neg h]⟩
def encB (s : B) : Value := .int .u64 (un s : Int)
def cfB (a b : B) : Int := (lowz a : Int) - (lowz b : Int)
theorem ltB (a b : B) : ltOf cfB a b = decide (lowz a < lowz b) := by
  unfold ltOf cfB
  rw [Bool.eq_iff_iff]; simp only [decide_eq_true_eq]; omega
theorem swoB : SWO (ltOf cfB) where
  irrefl x := by rw [ltB]; simp
  trans x y z h1 h2 := by rw [ltB] at *; simp at *; omega
  ntrans x y z h1 h2 := by rw [ltB] at *; simp at *; omega
set_option maxHeartbeats 1000000 in
set_option maxRecDepth 100000 in
theorem cmpB (x y : B) (w : World) (hT : Tab w) : Calls Tryd.prog 78 #[encB x, encB y] w fun e w' => e = .returned (.int .i64 (cfB x y)) ∧ ∃ q, w' = w.drewN q := by
  obtain ⟨bx, hx⟩ := nextV_lowz x
  obtain ⟨b2, hy⟩ := nextV_lowz y
  have HX := Lib.hid hx
  have HY := Lib.hid hy
  have HV : Hid (cfB x y = (lowz x : Int) - (lowz y : Int)) := rfl
  have c1 := lowz_lt x
  have c2 := lowz_lt y
  show Calls Tryd.prog 78 #[.int .u64 (un x : Int), .int .u64 (un y : Int)] w _
  rw [HV.out]
  clear HV hx hy
  generalize lowz x = a at *
  generalize lowz y = b at *
  have hw : IntKind.i64.wrap ((a : Int) - (b : Int)) = (a : Int) - (b : Int) := IntWalk.i64_in _ (by omega)
  go_enter Tryd.func78, Tryd.ntmps78
  go_wp2_with (go_at_call 40; refine (Next_ok _ 0 _ hT).mono ?_; rw [show (0 : Int).toNat = 0 from rfl]; (first | rw [HX.out] | rw [HY.out]); rintro e w' ⟨rfl, rfl⟩)
  go_ret
  exact ⟨rfl, 0, rfl⟩
theorem encB_list (l : List B) : l.map encB = u64s l := rfl
theorem sorted_low {r : List B} {l : List B} (ht : ∀ s ∈ l, Tied r s) (h : SortedIn (ltOf cfB) 0 l.length l.toArray) : l.Pairwise fun a b => low a ≤ low b := by
  rw [List.pairwise_iff_getElem]
  intro i j hi hj hij
  have h1 := h i j (Nat.zero_le _) hij hj
  rw [ltB] at h1
  have e1 : lowz l[i] = low l[i] := by unfold lowz; rw [if_neg (tied_ne (ht _ (List.getElem_mem hi)))]
  have e2 : lowz l[j] = low l[j] := by unfold lowz; rw [if_neg (tied_ne (ht _ (List.getElem_mem hj)))]
  simp [hi, hj] at h1
  omega
/-- the walker is laid -/
theorem wat_new {w W : World} {bm bl n c : Nat} {pr : Option Addr} (hn : n ≤ maxLen) (hW : W = (((w.alloc (.cells (madeCells #[Value.int .i64 0] n) 3)).alloc (.cells (madeCells #[Value.int .i64 0] n) 3)).alloc (.cells #[.slice pr n c, .slice (some ⟨bm, 0, none⟩) n n, .slice (some ⟨bl, 0, none⟩) n n, .slice none 0 0, .int .u64 0, .int .i64 0, .slice none 0 0] 101)).drew)
    (h : (bm = w.heap.size ∧ bl = w.heap.size + 1) ∨ (bl = w.heap.size ∧ bm = w.heap.size + 1)) :
    WAt W w.heap.size (w.heap.size + 3) (w.heap.size + 2) bm bl pr n c none 0 none 0 (ts0 n) ∧ Below w.heap.size w W ∧ W.heap.size = w.heap.size + 3 := by
  have s1 : (w.alloc (.cells (madeCells #[Value.int .i64 0] n) 3)).heap.size = w.heap.size + 1 := by simp
  have s2 : ((w.alloc (.cells (madeCells #[Value.int .i64 0] n) 3)).alloc (.cells (madeCells #[Value.int .i64 0] n) 3)).heap.size = w.heap.size + 2 := by simp
  have h0 : W.heap[w.heap.size]? = some (.cells (madeCells #[Value.int .i64 0] n) 3 (0, 0)) := by
    rw [hW]
    show (World.alloc _ _).heap[w.heap.size]? = _
    rw [old_alloc _ _ _ (by omega), old_alloc _ _ _ (by omega), new_alloc]
  have h1 : W.heap[w.heap.size + 1]? = some (.cells (madeCells #[Value.int .i64 0] n) 3 (0, 0)) := by
    rw [hW]
    show (World.alloc _ _).heap[w.heap.size + 1]? = _
    rw [old_alloc _ _ _ (by omega)]
    have := new_alloc (w.alloc (.cells (madeCells #[Value.int .i64 0] n) 3)) (.cells (madeCells #[Value.int .i64 0] n) 3)
    rwa [s1] at this
  have h2 : W.heap[w.heap.size + 2]? = some (.cells #[.slice pr n c, .slice (some ⟨bm, 0, none⟩) n n, .slice (some ⟨bl, 0, none⟩) n n, .slice none 0 0, .int .u64 0, .int .i64 0, .slice none 0 0] 101 (0, 0)) := by
    rw [hW]
    show (World.alloc _ _).heap[w.heap.size + 2]? = _
    have := new_alloc ((w.alloc (.cells (madeCells #[Value.int .i64 0] n) 3)).alloc (.cells (madeCells #[Value.int .i64 0] n) 3)) (.cells #[.slice pr n c, .slice (some ⟨bm, 0, none⟩) n n, .slice (some ⟨bl, 0, none⟩) n n, .slice none 0 0, .int .u64 0, .int .i64 0, .slice none 0 0] 101)
    rwa [s2] at this
  have hz : ivs (fil n 0) = ints (List.replicate n 0) := by
    unfold ivs fil ints
    simp
  have o0 := own_made (B0 := w.heap.size) (Nat.le_refl _) hn h0
  have o1 := own_made (B0 := w.heap.size) (Nat.le_succ _) hn h1
  rw [hz] at o0 o1
  refine ⟨?_, ?_, ?_⟩
  · rcases h with ⟨rfl, rfl⟩ | ⟨rfl, rfl⟩
    · exact ⟨h2, o0, o1, World.ownsRow_nil _ _ _ _, World.ownsRow_nil _ _ _ _, by omega, by omega, by omega, by omega, by omega, by omega⟩
    · exact ⟨h2, o1, o0, World.ownsRow_nil _ _ _ _, World.ownsRow_nil _ _ _ _, by omega, by omega, by omega, by omega, by omega, by omega⟩
  · rw [hW]
    exact ((((Below.refl _ _).alloc (Nat.le_refl _) _).alloc (by omega) _).alloc (by omega) _).drew
  · rw [hW]
    show (World.alloc _ _).heap.size = _
    simp
/-- what parts answers -/
def PartsPost (r : List B) (w : World) (e : Ending) (w' : World) : Prop :=
  ∃ (P : List B) (po : Option Addr) (co : Nat), e = .returned (.slice po P.length co) ∧ PartsIn r P ∧ w'.ownsRow w.heap.size 28 1 (.slice po P.length co) P.length (u64s P) ∧ Below w.heap.size w w'
theorem own_le {w : World} {base e n : Nat} {v : Value} {xs : List Value} (h : w.ownsRow base e 1 v n xs) {b : Nat} (hb : ∀ k, v.ownBlock = some k → b ≤ k) : w.ownsRow b e 1 v n xs := by
  refine ⟨h.1, ?_⟩
  rcases h.2 with h1 | ⟨g, cap, cur, rfl, h2, h3⟩
  · exact .inl h1
  · exact .inr ⟨g, cap, cur, rfl, hb g rfl, h3⟩
set_option maxHeartbeats 8000000 in
set_option maxRecDepth 100000 in
theorem parts_ok (r : List B) (hv : Valid r) (pr : Option Addr) (c : Nat) (w : World) (hR : RowsAt w pr r.length r) (hT : Tab w) :
    Calls Tryd.prog 65 #[.slice pr r.length c] w (PartsPost r w) := by
  have h64 := hv.1
  have HV := Lib.hid hv
  have HR := Lib.hid hR.reads
  have HT := Lib.hid hT
  have HBIG := Lib.hid hR.big
  obtain ⟨i0, hi, hz0, hz1, hz2⟩ := info_parts info_int
  have hmk := fun W => run_make_ints (P := Tryd.prog) 24 3 i0 Tryd.underlying24 hi hz0 hz1 hz2 r.length (by omega) W
  clear hv hR hT hi hz0 hz1 hz2
  go_enter Tryd.func65, Tryd.ntmps65
  go_wp2
  go_region
  all_goals
    first
      | (obtain ⟨W, hW⟩ : ∃ W : World, W = (((w.alloc (.cells (madeCells #[Value.int .i64 0] r.length) 3)).alloc (.cells (madeCells #[Value.int .i64 0] r.length) 3)).alloc (.cells #[.slice pr r.length c, .slice (some ⟨w.heap.size, 0, none⟩) r.length r.length, .slice (some ⟨w.heap.size + 1, 0, none⟩) r.length r.length, .slice none 0 0, .int .u64 0, .int .i64 0, .slice none 0 0] 101)).drew := ⟨_, rfl⟩
         obtain ⟨hP, hB, hS⟩ := wat_new (bm := w.heap.size) (bl := w.heap.size + 1) HBIG.out hW (.inl ⟨rfl, rfl⟩)
         rw [← hW]
         clear hW
         obtain ⟨bm, hbm⟩ : ∃ b, b = w.heap.size := ⟨_, rfl⟩
         obtain ⟨bl, hbl⟩ : ∃ b, b = w.heap.size + 1 := ⟨_, rfl⟩)
      | (obtain ⟨W, hW⟩ : ∃ W : World, W = (((w.alloc (.cells (madeCells #[Value.int .i64 0] r.length) 3)).alloc (.cells (madeCells #[Value.int .i64 0] r.length) 3)).alloc (.cells #[.slice pr r.length c, .slice (some ⟨w.heap.size + 1, 0, none⟩) r.length r.length, .slice (some ⟨w.heap.size, 0, none⟩) r.length r.length, .slice none 0 0, .int .u64 0, .int .i64 0, .slice none 0 0] 101)).drew := ⟨_, rfl⟩
         obtain ⟨hP, hB, hS⟩ := wat_new (bm := w.heap.size + 1) (bl := w.heap.size) HBIG.out hW (.inr ⟨rfl, rfl⟩)
         rw [← hW]
         clear hW
         obtain ⟨bm, hbm⟩ : ∃ b, b = w.heap.size + 1 := ⟨_, rfl⟩
         obtain ⟨bl, hbl⟩ : ∃ b, b = w.heap.size := ⟨_, rfl⟩)
    obtain ⟨bw, hbw⟩ : ∃ b, b = w.heap.size + 1 + 1 := ⟨_, rfl⟩
    rw [show w.heap.size + 2 = bw by omega, show w.heap.size + 3 = W.heap.size by omega] at hP
    first | rw [← hbm, ← hbl] at hP | rw [← hbl, ← hbm] at hP
    rw [← hbw]
    first | rw [← hbm, ← hbl] | rw [← hbl, ← hbm]
    have HB0 : Hid (∃ B0, B0 = w.heap.size ∧ WAt W B0 W.heap.size bw bm bl pr r.length c none 0 none 0 (ts0 r.length) ∧ Below B0 w W) := by
      show ∃ B0, _
      refine ⟨_, rfl, ?_, hB⟩
      first | exact hP | (rw [← hbm]; exact hP) | (rw [← hbl]; exact hP)
    obtain ⟨B1, hB1⟩ : ∃ B1, B1 = W.heap.size := ⟨_, rfl⟩
    rw [← hB1] at HB0
    have hB1le : B1 ≤ W.heap.size := by omega
    clear hP hB hS hB1 hmk
    obtain ⟨B0, hB0, hP, hB⟩ := HB0.out
    have HP := Lib.hid hP
    have HB := Lib.hid hB
    have HBE := Lib.hid hB0
    have HRB : Hid (Reads w B0 1 pr r.length (u64s r)) := by show Reads _ _ _ _ _ _; rw [hB0]; exact HR.out
    have hTB : 0 < B0 := by rw [hB0]; exact Tab.lt HT.out
    clear hB0 hP hB HB0 hbm hbl hbw
    go_wp2
    go_loopg [16] r.length (fun g v wi => ∃ (j : Nat) (t : TS) (ps : Option Addr) (cs : Nat) (po : Option Addr) (co : Nat), g + j = r.length ∧ v = .int .i64 j ∧ Hid (WAt wi B0 B1 bw bm bl pr r.length c ps cs po co t) ∧ Hid (WW r (fun _ => False) t) ∧ Hid (∀ x, x < j → t.mt x ≠ 0) ∧ Hid (t.now + unv r t ≤ r.length) ∧ Hid (Below B0 w wi) ∧ B1 ≤ wi.heap.size)
    case atStart => exact ⟨0, ts0 r.length, _, _, _, _, by omega, rfl, HP, ww_start r, (fun x hx => by omega), (by show 0 + unv r _ ≤ _; have := List.length_filter_le (fun x => decide ((ts0 r.length).mt x = 0)) (List.range r.length); rw [List.length_range] at this; unfold unv; omega), HB, hB1le⟩
    case round =>
      obtain ⟨j, t, ps, cs, po, co, hgj, rfl, HPj, HW, HA, HN, HBj, hsz⟩ := hrel
      obtain ⟨k0, k1, k2, k3, k4, k5, k6, k7⟩ := b7 HPj.out.box
      clear k7
      by_cases hlt : j < r.length
      · have hcm := own_int_at HPj.out.om hlt
        by_cases hm : t.mt j = 0
        · have hcm0 : wr.cell? ⟨bm, j, none⟩ = some (.int .i64 0) := by
            rw [hcm]
            show some (Value.int .i64 ((t.mt j : Nat) : Int)) = _
            rw [hm]; rfl
          have HCall : Hid (Calls Tryd.prog 76 #[.pointer (some ⟨bw, 0, none⟩), .int .i64 (j : Int)] wr (WalkPost r (fun _ => False) B0 B1 bw bm bl pr c t ps po j wr)) := by
            show Calls _ _ _ _ _
            exact walk_ok r HV.out B0 B1 bw bm bl hTB pr c _ _ t ps cs po co j wr hsz (Nat.le_refl _) hlt HPj.out HW.out hm (fun g hg => False.elim hg) HN.out (HRB.out.below HBj.out) (HT.out.belowB hTB HBj.out)
          clear hcm hm
          go_wp2_with (go_at_call 76; refine HCall.out.mono ?_; rintro e w6 ⟨rfl, u, qs, ds, qo, d_o, hP6, hA6, hB6, hW6, hN6⟩; have HP6 := Lib.hid hP6; have HA6 := Lib.hid hA6; have HB6 := Lib.hid (HBj.out.trans hB6); have hs6 := hW6.size; have HN6 := Lib.hid hN6; clear hP6 hA6 hB6 hW6 hN6)
          go_roundg (r.length - (j + 1))
          case measure => omega
          case rel =>
            refine ⟨j + 1, u, qs, ds, qo, d_o, by omega, by go_num, HP6, HA6.out.ww, ?_, HN6, HB6, by omega⟩
            show ∀ x, _
            intro x hx
            rcases Nat.lt_or_ge x j with h1 | h1
            · rw [HA6.out.old x (HA.out x h1)]; exact HA.out x h1
            · have : x = j := by omega
              subst this
              rw [HA6.out.mi]; omega
        · have HM := Lib.hid hm
          have hne : ((t.met.getD j 0 : Nat) : Int) ≠ 0 := by
            have : t.met.getD j 0 ≠ 0 := hm
            omega
          have e0 : (((t.met.getD j 0 : Nat) : Int) == 0) = false := by simpa using hne
          have e1 : (((t.met.getD j 0 : Nat) : Int) != 0) = true := by simpa using hne
          generalize t.met.getD j 0 = b at *
          clear hne hm
          go_wp2
          go_roundg (r.length - (j + 1))
          case measure => omega
          case rel =>
            refine ⟨j + 1, t, ps, cs, po, co, by omega, by go_num, HPj, HW, ?_, HN, HBj, hsz⟩
            show ∀ x, _
            intro x hx
            rcases Nat.lt_or_ge x j with h1 | h1
            · exact HA.out x h1
            · have : x = j := by omega
              subst this
              exact HM.out
      · obtain rfl : j = r.length := by omega
        have HPT : Hid (Parts r t.out) := by show Parts _ _; exact parts_of HW.out HA.out
        have hol := out_len HW.out
        have HLI : Hid (B0 ≤ B1) := by show _ ≤ _; have := HPj.out.gw; omega
        rcases HPj.out.oo.2 with ⟨hnil, hl0⟩ | ⟨g', cap, cur, hv, hbase, hb, h1, h2, h3, h4⟩
        · injection hnil with e1 e2 e3
          have h0 : t.out = [] := List.length_eq_zero_iff.1 hl0
          subst e1 e3
          have HF : Hid (PartsPost r w (.returned (.slice none 0 0)) wr) := by
            show PartsPost _ _ _ _
            have hp := HPT.out
            have hb := HBj.out
            rw [h0] at hp
            rw [HBE.out] at hb
            exact ⟨[], none, 0, rfl, ⟨hp, List.Pairwise.nil⟩, World.ownsRow_nil _ _ _ _, hb⟩
          rw [hl0] at k6
          have hcon := AnyF.slices_SortFunc_none { Tryd.laysSlF6_f77 with } none 0 (.func (.func 78) #[] #[]) wr
          change Calls Tryd.prog 77 _ _ _ at hcon
          clear hl0 e2 h0 hol
          go_wp2_with (go_at_call 77; refine hcon.mono ?_; rintro e w' ⟨rfl, rfl⟩)
          go_ret
          exact HF.out
        · injection hv with e1 e2 e3
          subst e1 e3
          have h4' : cur.toList.take t.out.length = t.out.map encB := by rw [encB_list]; simpa using h4
          have hH : Holds encB wr g' 0 t.out.toArray := holds_own hb h4'
          have hgl : g' < wr.heap.size := (Array.getElem?_eq_some_iff.1 hb).1
          have hTs : ∀ m os (dk : Array B), Tab (sortWorld encB wr g' 0 m dk os) := fun m os dk => by
            have := HP.out.gw
            exact (HT.out.belowB hTB HBj.out).belowB (b := B0) hTB ((Below.refl _ wr).grown (grown_sorted dk) (by omega) (fun j hj => by cases hj; omega))
          have hcmp : CmpReads Tryd.prog 78 #[] encB cfB g' 0 t.out.toArray.size wr := fun m os dk _ a b => cmpB a b _ (hTs m os dk)
          have eg : ∀ args w, (callFunc 78 args).run Tryd.prog w = .ok (.enter 78 args) w := enters_of Tryd.func78 (by kernel_rfl) rfl
          have hsz2 : t.out.toArray.size = t.out.length := by simp
          have hcon := Tryd.slices_SortFunc_f77 encB (fun _ => rfl) cfB swoB 78 #[] g' 0 co t.out.toArray wr eg hcmp.lays hH hgl (by rw [hsz2]; omega)
          rw [hsz2] at hcon
          have HCN := Lib.hid hcon
          have HHB := Lib.hid hb
          have HH := Lib.hid (And.intro h1 (And.intro h2 h3))
          clear hcon hH hTs hcmp eg h4' h4 hb h1 h2 h3
          go_wp2_with (go_at_call 77; refine HCN.out.mono ?_; rintro e w3 ⟨rfl, d', nd, os, hp, hso, rfl⟩; have HPM := Lib.hid hp; have HSO := Lib.hid hso; have HGS := Lib.hid (grown_sorted (enc := encB) (w := wr) (g := g') (n := nd) (os := os) d'); have hbx := (HGS.out.block bw HPj.out.lt (by have := HP.out.gw; intro e; injection e with e; omega)).trans HPj.out.box; obtain ⟨m0, m1, m2, m3, m4, m5, m6, _⟩ := b7 hbx; clear hp hso hbx)
          go_ret
          have hp := HPM.out
          have hso := HSO.out
          have hds : d'.size = t.out.length := by rw [hp.1]; simp
          have hdl : d'.toList.length = t.out.length := by rw [Array.length_toList]; exact hds
          have hpm : d'.toList.Perm t.out := by
            have h := hp.2.2
            have e1 : d'.extract 0 t.out.length = d' := by rw [← hds]; simp
            have e2 : t.out.toArray.extract 0 t.out.length = t.out.toArray := by simp
            rw [e1, e2] at h
            simpa using h
          have hown3 := own_sorted (enc := encB) (n := nd) (os := os) (e := 28) (ts := d'.toList) hdl hbase HHB.out HH.out.1 HH.out.2.1 HH.out.2.2
          rw [Array.toArray_toList, encB_list] at hown3
          have hpi := parts_perm HPT.out hpm.symm (sorted_low (fun s hs => HPT.out.tied s (hpm.mem_iff.1 hs)) (by rw [hdl, Array.toArray_toList]; exact hso))
          have hle := HLI.out
          have hbb := HBj.out.grown HGS.out (by have := HP.out.gw; omega) (fun j hj => by cases hj; omega)
          rw [HBE.out] at hbb hle
          refine ⟨d'.toList, some ⟨g', 0, none⟩, co, by rw [hdl]; rfl, hpi, ?_, hbb⟩
          rw [hdl]; exact World.ownsRow.mono hown3 hle
end Go.Proofs.YtklikjjipoghlaaDoor
