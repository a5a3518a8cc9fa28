/- Texts joined: WhyTellW, WhyTell2W, UsersP0, UsersP, UsersG. Conditions: theirs. -/
import Derived.Test.YteldeiihjeddoaaDoorWhyLawAM4
import Derived.Test.YteldeiihjeddoaaDoorListW
import Derived.Test.YteldeiihjeddoaaDoorWhyLawAM3
import Derived.Test.YteldeiihjeddoaaDoorGraphCheckW
import Derived.Test.YteldeiihjeddoaaDoorWhyLawAM1
import Derived.Test.YteldeiihjeddoaaDoorNLSetW
namespace Go.Proofs.YteldeiihjeddoaaDoor
open Go.RowKit Go.Shelf
/-- what tell answers of the i-th number of the order -/
def TellPost (w : World) (g : GD) (x : SD) (o : List Nat) (i n : Nat) (e : Ending) (w' : World) : Prop :=
  (∃ (a : WE) (t : List WE), e = .returned a.v ∧ WLinks w' (a :: t) ∧ HoldsC g x (a :: t) ∧ a.num = (n : Int) ∧ (∀ b ∈ a :: t, 0 ≤ b.num ∧ b.num.toNat ∈ o.take (i + 1)) ∧ (nums (a :: t)).Nodup ∧ (∀ b ∈ a :: t, ∀ ad, b.p = some ad → w.heap.size ≤ ad.block)) ∧ Below w.heap.size w w'
theorem links_set {w w' : World} {rb : Nat} (hg : w.grownBy w' (some rb)) : ∀ {l : List WE}, WLinks w l → (∀ b ∈ l, ∀ ad, b.p = some ad → ad.block ≠ rb) → WLinks w' l
  | [], h, _ => h
  | [_], h, _ => h
  | a :: b :: t, ⟨h1, ⟨k, o, h2, h3, h4⟩, h5⟩, hne => by
    have hk : k ≠ rb := hne a List.mem_cons_self ⟨k, o, none⟩ h2
    have hc : ∀ q, w'.cell? ⟨k, q, none⟩ = w.cell? ⟨k, q, none⟩ := fun q => World.cell?_of_block (hg.block k h3 (by intro e; injection e with e; exact hk e))
    refine ⟨h1, ⟨k, o, h2, Nat.lt_of_lt_of_le h3 hg.size, ?_⟩, links_set hg h5 fun c hc' => hne c (List.mem_cons_of_mem _ hc')⟩
    unfold WCells at *
    rw [hc, hc, hc, hc]
    exact h4
/-- the end of a tell that finds a cause at once -/
theorem tell_one {w w' : World} {g : GD} {x : SD} {o : List Nat} {i n c k : Nat} (hi : o[i]? = some n) (h1 : 1 ≤ c) (h5 : c < 5) (h : Hold1 g x (we0 n c k) 0) (hb : Below w.heap.size w w') : TellPost w g x o i n (.returned (we0 n c k).v) w' := by
  have hm : n ∈ o.take (i + 1) := by
    obtain ⟨hl, e⟩ := List.getElem?_eq_some_iff.1 hi
    rw [List.take_succ_eq_append_getElem hl, e]
    simp
  refine ⟨⟨we0 n c k, [], rfl, rfl, ⟨we0_ok h1 h5, h, trivial⟩, rfl, ?_, by simp [nums], ?_⟩, hb⟩
  · intro b hb'
    have : b = we0 n c k := by simpa using hb'
    subst this
    exact ⟨by show (0 : Int) ≤ (n : Int); omega, hm⟩
  · intro b hb' ad had
    have : b = we0 n c k := by simpa using hb'
    subst this
    cases had
/-- the end of a tell that leans on another one -/
theorem tell_more {w w6 w' : World} {g : GD} {x : SD} {s : B} {o : List Nat} {i j n k rb : Nat} {a : WE} {t : List WE} (hR : Right g x) (hK : KOrd (rws g) o 0#64) (hS : Stale g x s)
    (hi : o[i]? = some n) (hji : j < i) (hn : has s n = true) (hk : has (row (rws g) n) k = true) (h0 : w.heap.size ≤ w6.heap.size)
    (hw : WLinks w6 (a :: t)) (hh : HoldsC g x (a :: t)) (han_ : a.num = (k : Int)) (hm : ∀ b ∈ a :: t, 0 ≤ b.num ∧ b.num.toNat ∈ o.take (j + 1)) (hnd : (nums (a :: t)).Nodup)
    (hp : ∀ b ∈ a :: t, ∀ ad, b.p = some ad → w.heap.size ≤ ad.block ∧ ad.block ≠ rb) (hg : (w6.alloc (.cells (wcells a).toArray 52)).grownBy w' (some rb)) (hrb : rb < w6.heap.size) (hb : Below w.heap.size w w') :
    TellPost w g x o i n (.returned (WE.v ⟨n, 5, k, some ⟨w6.heap.size, 0, none⟩, 1, 1⟩)) w' := by
  obtain ⟨hil, ei⟩ := List.getElem?_eq_some_iff.1 hi
  have hni : n ∈ o.take (i + 1) := by
    rw [List.take_succ_eq_append_getElem hil, ei]; simp
  have hnot : n ∉ o.take i := by
    intro hmm
    obtain ⟨q, hq, e⟩ := List.mem_iff_getElem.1 hmm
    rw [List.getElem_take] at e
    rw [List.length_take] at hq
    exact List.pairwise_iff_getElem.1 hK.nodup q i (by omega) hil (by omega) (by rw [e, ei])
  have hw7 : WLinks (w6.alloc (.cells (wcells a).toArray 52)) (a :: t) := hw.below ((Below.refl _ _).alloc (Nat.le_refl _) _)
  have hw' := links_set hg hw7 fun b hb' ad had => (hp b hb' ad had).2
  refine ⟨⟨_, a :: t, rfl, ⟨Nat.one_pos, ⟨w6.heap.size, 0, rfl, ?_, ?_⟩, hw'⟩, ⟨by simp [WE.ok], ?_, hh⟩, rfl, ?_, ?_, ?_⟩, hb⟩
  · exact Nat.lt_of_lt_of_le (by simp) hg.size
  · have hc : ∀ q, w'.cell? ⟨w6.heap.size, q, none⟩ = (w6.alloc (.cells (wcells a).toArray 52)).cell? ⟨w6.heap.size, q, none⟩ := fun q => World.cell?_of_block (hg.block w6.heap.size (by simp) (by intro e; injection e with e; omega))
    unfold WCells
    rw [hc, hc, hc, hc]
    refine ⟨?_, ?_, ?_, ?_⟩ <;> (rw [World.cell?_alloc_at _ _ _ _ rfl]; rfl)
  · have : nextN (a :: t) = (k : Int) := han_
    rw [this]
    exact hold_anew hR hS hn hk
  · intro b hb'
    rcases List.mem_cons.1 hb' with rfl | hb'
    · exact ⟨by show (0 : Int) ≤ (n : Int); omega, hni⟩
    · exact ⟨(hm b hb').1, take_mono (by omega) (hm b hb').2⟩
  · show (n :: nums (a :: t)).Nodup
    rw [List.nodup_cons]
    refine ⟨fun hc => ?_, hnd⟩
    obtain ⟨b, hb', e⟩ := List.mem_map.1 hc
    have := (hm b hb').2
    rw [e] at this
    exact hnot (take_mono (by omega) this)
  · intro b hb' ad had
    rcases List.mem_cons.1 hb' with rfl | hb'
    · injection had with had
      subst had
      exact h0
    · exact (hp b hb' ad had).1
end Go.Proofs.YteldeiihjeddoaaDoor
namespace Go.Proofs.YteldeiihjeddoaaDoor
open Go.RowKit Go.Shelf
/-- no cause so far -/
def NoC (g : GD) (x : SD) (n c : Nat) : Prop := ∀ c', 1 ≤ c' → c' < c → ∀ k ∈ needsOf (row (rws g) n) c', ¬ Hold1 g x (we0 n c' k) 0
/-- nor any of the first needs -/
def NoK (g : GD) (x : SD) (n c j : Nat) : Prop := ∀ k ∈ (needsOf (row (rws g) n) c).take j, ¬ Hold1 g x (we0 n c k) 0
theorem noC_next {g : GD} {x : SD} {n c : Nat} (h : NoC g x n c) (hk : NoK g x n c (needsOf (row (rws g) n) c).length) : NoC g x n (c + 1) := fun c' h1 h2 k hm => by
  rcases Nat.lt_or_ge c' c with h3 | h3
  · exact h c' h1 h3 k hm
  · obtain rfl : c' = c := by omega
    unfold NoK at hk
    rw [List.take_length] at hk
    exact hk k hm
theorem noK_next {g : GD} {x : SD} {n c j k : Nat} (h : NoK g x n c j) (hj : (needsOf (row (rws g) n) c)[j]? = some k) (hk : ¬ Hold1 g x (we0 n c k) 0) : NoK g x n c (j + 1) := fun q hq => by
  obtain ⟨hl, e⟩ := List.getElem?_eq_some_iff.1 hj
  rw [List.take_succ_eq_append_getElem hl] at hq
  rcases List.mem_append.1 hq with hq | hq
  · exact h q hq
  · rw [List.mem_singleton] at hq
    rw [hq, e]; exact hk
theorem one_reads (w : World) (a : Int) : Reads (w.alloc (.cells #[.int .i64 a] 3)) (w.heap.size + 1) 1 (some ⟨w.heap.size, 0, none⟩) 1 [.int .i64 a] := by
  refine ⟨rfl, fun _ => ⟨_, rfl, by simp, fun j u hj => ?_⟩⟩
  have hs : (w.alloc (.cells #[.int .i64 a] 3)).cell? ⟨w.heap.size, j, none⟩ = ([.int .i64 a] : List Value)[j]? := by simp
  rw [add_plain4, Nat.zero_add, hs, hj]
set_option maxHeartbeats 8000000 in
set_option maxRecDepth 100000 in
theorem tell_ok (g : GD) (x : SD) (hR : Right g x) (o : List Nat) (hK : KOrd (rws g) o 0#64) (s : B) (hS : Stale g x s) : ∀ (i : Nat) (n : Nat), o[i]? = some n → has s n = true →
    ∀ (gv xv : Value) (pr : Option Addr) (cr : Nat) (w : World), GrAt w gv g → SnAt w xv x → RowsAt w pr g.names.length (rws g) → Tab w →
    Calls Tryd.prog 54 #[gv, xv, .slice pr g.names.length cr, .int .u64 (un s : Int), .int .i64 (n : Int)] w (TellPost w g x o i n) := by
  have h64 : g.names.length ≤ 64 := hR.good.names
  have HRr := Lib.hid hR
  have HK := Lib.hid hK
  have HSt := Lib.hid hS
  clear hR hK hS
  intro i
  induction i using Nat.strongRecOn with
  | _ i ih =>
    intro n hi hn gv xv pr cr w h hx hRA hT
    have hnl : n < g.names.length := ((HSt.out n).1 hn).1
    have hGr := h
    have hSn := hx
    obtain ⟨p, nn, c, q, md, d, rfl, _, _⟩ := h.at_
    obtain ⟨p2, n2, c2, rfl, _, _, _⟩ := hx.at_
    obtain ⟨W, hW, hBW, hS, hC⟩ := args3 w (.slice p nn c) (.slice q md d) (.int .u64 (un g.phony : Int)) (.int .u64 (un g.made : Int)) (.slice p2 n2 c2) (.int .u64 (un x.dirty : Int)) (.int .i64 0) (.int .i64 0) (.int .i64 0) (.slice none 0 0)
    have HC := Lib.hid hC
    have HGr := Lib.hid (hGr.below hBW)
    have HSn := Lib.hid (hSn.below hBW)
    have HT := Lib.hid (hT.below hBW)
    have HRA := Lib.hid (hRA.below hBW)
    have HSZ : Hid (W.heap.size = w.heap.size + 3) := hS
    have HIH := Lib.hid ih
    have HI := Lib.hid hi
    have HN := Lib.hid hn
    have HFIN : Hid (∀ u, Below W.heap.size W u → Below w.heap.size w u) := by show ∀ u, _; exact fun u hu => hBW.trans (hu.mono (by omega))
    have HHP : Hid (∀ u : World, Below W.heap.size W u → u.heap[w.heap.size + 1 + 1]? = some (.cells #[.int .i64 0, .int .i64 0, .int .i64 0, .slice none 0 0] 52 (0, 0))) := by
      show ∀ u : World, _
      intro u hu
      rw [hu.block (w.heap.size + 1 + 1) (by omega), hW]
      have e : ((w.alloc (.cells #[.slice p nn c, .slice q md d, .int .u64 (un g.phony : Int), .int .u64 (un g.made : Int)] 26)).alloc (.cells #[.slice p2 n2 c2, .int .u64 (un x.dirty : Int)] 29)).heap.size = w.heap.size + 1 + 1 := by simp
      rw [← e]
      exact han _ _
    obtain ⟨k0, k1, k2, k3, k4, k5, a0, a1, a2, a3⟩ := HC.out W (Below.refl _ _)
    rw [hW] at k0 k1 k2 k3 k4 k5 a0 a1 a2 a3
    clear h hx hGr hSn hT hBW hS hC hRA ih hi hn
    go_enter Tryd.func54, Tryd.ntmps54
    go_wp2_with fail
    rw [← hW]
    clear hW k0 k1 k2 k3 k4 k5 a0 a1 a2 a3
    go_loopg [11] 4 (fun k cv wr => ∃ cc : Nat, k + cc = 5 ∧ 1 ≤ cc ∧ cv = .int .i64 (cc : Int) ∧ Hid (NoC g x n cc) ∧ Hid (Below W.heap.size W wr))
    case atStart => exact ⟨1, by omega, by omega, rfl, show NoC g x n 1 from fun c' h1 h2 => by omega, show Below _ _ _ from Below.refl _ _⟩
    case round =>
      obtain ⟨cc, hcc, hc1, rfl, HNC, HBr⟩ := hrel
      obtain ⟨adr, had, _, hrow⟩ := (HRA.out.below HBr.out).cell hnl
      have hnli : (n : Int) < (g.names.length : Int) := by omega
      obtain ⟨y, hy⟩ : ∃ y, y = row (rws g) n := ⟨_, rfl⟩
      rw [← hy] at hrow
      have HY := Lib.hid hy
      clear hy
      subst had
      by_cases hc5 : cc < 5
      · have HBa : Hid (Below W.heap.size W (wr.alloc (.cells #[.int .i64 0] 3))) := by show Below _ _ _; exact HBr.out.alloc HBr.out.size _
        have HTa : Hid (Tab (wr.alloc (.cells #[.int .i64 0] 3))) := by show Tab _; exact HT.out.belowB (Tab.lt HT.out) HBa.out
        obtain ⟨bd, hbd⟩ : ∃ b, b = decide (3 ≤ (cc : Int)) := ⟨_, rfl⟩
        have HBD := Lib.hid hbd.symm
        clear hbd
        have hrowA : (wr.alloc (.cells #[.int .i64 0] 3)).cell? (adr.add n) = some (.int .u64 (un y : Int)) := by
          obtain ⟨adr2, had2, _, hrow2⟩ := (HRA.out.below HBa.out).cell hnl
          injection had2 with had2
          subst had2
          rw [HY.out]; exact hrow2
        go_upto_if 24 with (go_at_call 76; refine (needed_ok _ _).mono ?_; rw [HBD.out]; rintro e w' ⟨rfl, rfl⟩)
        go_cut [12] (fun v wx => ∃ (pn : Option Addr) (m cn : Nat), v = .slice pn m cn ∧ m = (needsOf y cc).length ∧ Hid (Reads wx wx.heap.size 1 pn m (ints (needsOf y cc))) ∧ Hid (Below W.heap.size W wx))
        case first =>
          cases bd
          · have h3 : ¬ 3 ≤ cc := fun h => by have := HBD.out; rw [decide_eq_true (by omega)] at this; cases this
            have HNO : Hid (needsOf y cc = [0]) := by show _ = _; unfold needsOf; rw [if_neg h3]
            clear h3
            go_wp2_with fail
            go_meet
            refine ⟨_, 1, 1, rfl, by rw [HNO.out]; rfl, ?_, HBa⟩
            rw [HNO.out]
            show Reads _ _ _ _ _ _
            exact (one_reads wr 0).more (by simp)
          · have h3 : 3 ≤ cc := by have := of_decide_eq_true HBD.out; omega
            have HNO : Hid (needsOf y cc = lst y) := by show _ = _; unfold needsOf; rw [if_pos h3]
            clear h3
            go_wp2_with (go_at_call 37; refine (List_ok y _ HTa.out).mono ?_; rintro e w2 ⟨gl, cl, rfl, hown, hb2⟩; have HLr := Lib.hid (Reads.of_own hown); have HB2 := Lib.hid (HBa.out.trans (hb2.mono HBa.out.size)); clear hown hb2)
            go_meet
            exact ⟨gl, cnt y, cl, rfl, by rw [HNO.out, cnt_lst], by rw [HNO.out]; exact HLr, HB2⟩
        case rest =>
          obtain ⟨pn, m, cn, rfl, hm, HRd, HBc⟩ := hcut
          have HM := Lib.hid hm
          have hm64 : m ≤ 64 := by
            rw [hm]; unfold needsOf
            split
            · exact lst_len y
            · simp
          clear hm hrow hrowA HBa HTa HBD
          go_wp2_with fail
          go_loopg [32] m (fun k iv wi => ∃ j : Nat, k + j = m ∧ iv = .int .i64 (j : Int) ∧ Hid (NoK g x n cc j) ∧ Hid (Below wc.heap.size wc wi))
          case atStart => exact ⟨0, by omega, rfl, show NoK g x n cc 0 from fun k hk => by simp at hk, show Below _ _ _ from Below.refl _ _⟩
          case round =>
            obtain ⟨j, hj, rfl, HNK, HBi⟩ := hrel
            have HWi : Hid (Below W.heap.size W wr) := by show Below _ _ _; exact HBc.out.trans (HBi.out.mono HBc.out.size)
            by_cases hlt : j < m
            · have hjl : j < (needsOf y cc).length := by rw [← HM.out]; exact hlt
              obtain ⟨adl, hadl, _, hlc⟩ := ((HRd.out.below HBi.out).more HBi.out.size).int_at hlt
              have HGE : Hid ((needsOf (row (rws g) n) cc)[j]? = some ((needsOf y cc).getD j 0)) := by
                show _ = _
                rw [← HY.out, List.getD_eq_getElem?_getD, List.getElem?_eq_getElem hjl]; rfl
              subst hadl
              generalize (needsOf y cc).getD j 0 = kk at *
              obtain ⟨X, hX⟩ : ∃ X, X = wr.alloc (.cells #[.int .i64 (n : Int), .int .i64 (cc : Int), .int .i64 (kk : Int), .slice none 0 0] 52) := ⟨_, rfl⟩
              have HBX : Hid (Below wc.heap.size wc X) := by show Below _ _ _; rw [hX]; exact HBi.out.alloc HBi.out.size _
              have HWX : Hid (Below W.heap.size W X) := by show Below _ _ _; exact HBc.out.trans (HBX.out.mono HBc.out.size)
              obtain ⟨x0, x1, x2, x3, _⟩ := box4 (w := X) (b := wr.heap.size) (by rw [hX]; exact han _ _)
              clear hjl
              go_upto_region 11 with fail
              rw [← hX]
              clear hX hlc
              obtain ⟨k0, k1, k2, k3, k4, k5, a0, a1, a2, a3⟩ := HC.out X HWX.out
              have HHo := Lib.hid (holds_ok (.agg #[.slice p nn c, .slice q md d, .int .u64 (un g.phony : Int), .int .u64 (un g.made : Int)]) (.agg #[.slice p2 n2 c2, .int .u64 (un x.dirty : Int)]) g x HRr.out (we0 n cc kk) (by show (1 : Int) ≤ (cc : Int); omega) (by show (cc : Int) ≤ 5; omega) 0 (some adr) cr X (fun h5 => by have : (cc : Int) = 5 := h5; omega) (HGr.out.below HWX.out) (HSn.out.below HWX.out) (HRA.out.below HWX.out))
              go_wp2_with fail
              refine HHo.out.mono ?_
              rintro e w6 ⟨hcase, hb6⟩
              have HB6 := Lib.hid (HBX.out.trans (hb6.mono HBX.out.size))
              have hw6 : Below W.heap.size W w6 := HWX.out.trans (hb6.mono HWX.out.size)
              have HW6 := Lib.hid hw6
              have hx6 : Below X.heap.size X w6 := hb6
              have y0 := (hx6.cell (p := ⟨wr.heap.size, 0, none⟩) (World.block_lt_of_cell? X _ x0)).trans x0
              have y1 := (hx6.cell (p := ⟨wr.heap.size, 1, none⟩) (World.block_lt_of_cell? X _ x1)).trans x1
              have y2 := (hx6.cell (p := ⟨wr.heap.size, 2, none⟩) (World.block_lt_of_cell? X _ x2)).trans x2
              have y3 := (hx6.cell (p := ⟨wr.heap.size, 3, none⟩) (World.block_lt_of_cell? X _ x3)).trans x3
              have HZ6 := Lib.hid (HHP.out w6 hw6)
              clear hb6 hw6 hx6 k0 k1 k2 k3 k4 k5 a0 a1 a2 a3 x0 x1 x2 x3
              rcases hcase with ⟨rfl, hh⟩ | ⟨rfl, hh⟩
              · have HH := Lib.hid hh
                clear hh
                obtain ⟨z0, z1, z2, z3, z4⟩ := box4 HZ6.out
                have z5 := z4 0
                have z6 := z4 1
                have z7 := z4 2
                have z8 := z4 3
                clear z4
                go_wp2
                refine bodyPost_ret (v := .agg #[.int .i64 (n : Int), .int .i64 (cc : Int), .int .i64 (kk : Int), .slice none 0 0]) (results_cell_row Tryd.results54 _ _ (w.heap.size + 1 + 1) 52 _ (0, 0) _ rfl (box4_all HZ6.out _ _ _ _) Tryd.underlying52 rfl (by kernel_rfl)) rfl ?_
                exact tell_one HI.out hc1 hc5 HH.out (below_set4 (HFIN.out _ HW6.out) (by omega) _ _ _ _)
              · have HNK2 := Lib.hid (noK_next HNK.out HGE.out hh)
                clear hh y0 y1 y2 y3
                go_wp2
                go_roundg (m - (j + 1))
                case measure => omega
                case rel => exact ⟨j + 1, by omega, by go_num, HNK2.out, HB6⟩
            · obtain rfl : j = m := by omega
              have HNC2 : Hid (NoC g x n (cc + 1)) := by
                show NoC _ _ _ _
                refine noC_next HNC.out ?_
                rw [← HY.out, ← HM.out]
                exact HNK.out
              clear HM HNK
              go_wp2
              go_roundg (4 - cc)
              case measure => omega
              case rel => exact ⟨cc + 1, by omega, by omega, by go_num, HNC2.out, HWi⟩
      · obtain rfl : cc = 5 := by omega
        have hne : y &&& s ≠ 0#64 := by
          have := no_cause HRr.out HSt.out HN.out (fun c' h1 h2 => HNC.out c' h1 h2)
          rw [← HY.out] at this
          exact this
        have hf : frm (y &&& s) 0 ≠ 0#64 := by
          intro e
          obtain ⟨k, hk⟩ := exists_of_ne hne
          have := eq_zero_iff.1 e k
          rw [has_frm, hk] at this
          simp at this
        have hlow := (low_frm hf).1
        have HNV : Hid (nextV (y &&& s) 0 = .tuple #[.int .i64 (low (frm (y &&& s) 0) : Int), .bool true]) := by show _ = _; unfold nextV; rw [if_neg hf]
        generalize low (frm (y &&& s) 0) = kk at *
        rw [has_and, Bool.and_eq_true] at hlow
        have HKY : Hid (has (row (rws g) n) kk = true) := by show _ = _; rw [← HY.out]; exact hlow.1
        have HKS := Lib.hid hlow.2
        obtain ⟨hil, ei⟩ := List.getElem?_eq_some_iff.1 HI.out
        have hmem := HK.out.needs i hil kk (by rw [ei]; exact HKY.out)
        obtain ⟨jj, hjj, ej⟩ := List.mem_iff_getElem.1 hmem
        rw [List.getElem_take] at ej
        rw [List.length_take] at hjj
        have hjo : jj < o.length := by omega
        have HJ : Hid (o[jj]? = some kk) := by show _ = _; rw [List.getElem?_eq_getElem hjo, ej]
        have hji : jj < i := by omega
        have HTr : Hid (Tab wr) := by show Tab _; exact HT.out.belowB (Tab.lt HT.out) HBr.out
        obtain ⟨k0, k1, k2, k3, k4, k5, a0, a1, a2, a3⟩ := HC.out wr HBr.out
        have HTl := Lib.hid (HIH.out jj hji kk HJ.out HKS.out (.agg #[.slice p nn c, .slice q md d, .int .u64 (un g.phony : Int), .int .u64 (un g.made : Int)]) (.agg #[.slice p2 n2 c2, .int .u64 (un x.dirty : Int)]) (some adr) cr wr (HGr.out.below HBr.out) (HSn.out.below HBr.out) (HRA.out.below HBr.out) HTr.out)
        clear hne hf hlow hmem hjj ej hil ei
        go_wp2_with (go_at_call 77; refine (Next_ok _ _ _ HTr.out).mono ?_; (first | rw [show Int.toNat 0 = 0 from rfl] | skip); rw [HNV.out]; rintro e w' ⟨rfl, rfl⟩)
        refine HTl.out.mono ?_
        rintro e w6 ⟨⟨ra, rt, rfl, hrw, hrh, hra, hrm, hrnd, hrp⟩, hb6⟩
        have HRW := Lib.hid (And.intro hrw (And.intro hrh (And.intro hra (And.intro hrm (And.intro hrnd hrp)))))
        have hw6 : Below W.heap.size W w6 := HBr.out.trans (hb6.mono HBr.out.size)
        have HW6 := Lib.hid hw6
        have hsz : W.heap.size ≤ w6.heap.size := hw6.size
        have hsr : W.heap.size ≤ wr.heap.size := HBr.out.size
        have HZ6 : Hid ((w6.alloc (.cells (wcells ra).toArray 52)).heap[w.heap.size + 1 + 1]? = some (.cells #[.int .i64 0, .int .i64 0, .int .i64 0, .slice none 0 0] 52 (0, 0))) := by
          show _ = _
          rw [hao _ _ _ (by have := HSZ.out; omega)]
          exact HHP.out w6 hw6
        obtain ⟨z0, z1, z2, z3, z4⟩ := box4 HZ6.out
        have z5 := z4 0
        have z6 := z4 1
        have z7 := z4 2
        have z8 := z4 3
        have HW7 : Hid (Below W.heap.size W (w6.alloc (.cells (wcells ra).toArray 52))) := by show Below _ _ _; exact hw6.alloc hsz _
        clear hrw hrh hra hrm hrnd hrp hb6 hw6 z4 k0 k1 k2 k3 k4 k5 a0 a1 a2 a3
        unfold WE.v
        unfold wcells at z0 z1 z2 z3 z5 z6 z7 z8
        go_wp2
        refine bodyPost_ret (v := .agg #[.int .i64 (n : Int), .int .i64 5, .int .i64 (kk : Int), .slice (some ⟨w6.heap.size, 0, none⟩) 1 1]) (results_cell_row Tryd.results54 _ _ (w.heap.size + 1 + 1) 52 _ (0, 0) _ rfl (box4_all HZ6.out _ _ _ _) Tryd.underlying52 rfl (by kernel_rfl)) rfl ?_
        obtain ⟨hrw, hrh, hra, hrm, hrnd, hrp⟩ := HRW.out
        exact tell_more (k := kk) (a := ra) (t := rt) (rb := w.heap.size + 1 + 1) HRr.out HK.out HSt.out HI.out hji HN.out HKY.out (by have := HSZ.out; omega) hrw hrh hra hrm hrnd (fun b hb ad had => by have := hrp b hb ad had; have := HSZ.out; omega) (grown_set4 _ _ _ _ _ _) (by have := HSZ.out; omega) (below_set4 (HFIN.out _ HW7.out) (by omega) _ _ _ _)
end Go.Proofs.YteldeiihjeddoaaDoor
namespace Go.Proofs.YteldeiihjeddoaaDoor
theorem good_turn {g : GD} {ts : List E2} (hG : Good g) (ht : TurnOf g.edges ts) : Good ⟨g.names, ts, g.phony, g.made⟩ :=
  ⟨hG.names, hG.ok, hG.rise, fun x hx => by
    have h := hG.edges _ ((ht.mem x).1 hx)
    exact ⟨h.2.2.1, h.2.2.2, h.1, h.2.1⟩, ht.rise, hG.sets⟩
end Go.Proofs.YteldeiihjeddoaaDoor
namespace Go.Proofs.YteldeiihjeddoaaDoor
theorem row_map {l : List B} {m : B} {v u : Nat} (h : has (row (l.map fun y => y &&& m) v) u = true) : has (row l v) u = true ∧ has m u = true := by
  have hv := row_lt h
  rw [List.length_map] at hv
  unfold row at h
  rw [List.getD_eq_getElem?_getD, List.getElem?_map, List.getElem?_eq_getElem hv] at h
  simp only [Option.map_some, Option.getD_some] at h
  rw [has_and, Bool.and_eq_true] at h
  unfold row
  rw [List.getD_eq_getElem?_getD, List.getElem?_eq_getElem hv]
  exact h
/-- the rows of those that are made, the other way -/
def upR (g : GD) (ts : List E2) : List B := (rowsE g.names.length ts).map fun y => y &&& (g.made ||| g.phony)
theorem upR_len (g : GD) (ts : List E2) : (upR g ts).length = g.names.length := by unfold upR; rw [List.length_map, rowsE_len]
theorem upR_edge {g : GD} {ts : List E2} (hG : Good g) (ht : TurnOf g.edges ts) {v u : Nat} (h : has (row (upR g ts) v) u = true) :
    u < g.names.length ∧ has (g.made ||| g.phony) u = true ∧ has (row (rws g) u) v = true := by
  obtain ⟨h1, h2⟩ := row_map h
  have hT := good_turn hG ht
  have h3 : ((v : Int), (u : Int)) ∈ ts := (has_rws hT).1 h1
  have h4 : ((u : Int), (v : Int)) ∈ g.edges := (ht.mem _).1 h3
  have h5 := hG.edges _ h4
  have := h5.2.1
  simp only at this
  exact ⟨by omega, h2, (has_rws hG).2 h4⟩
theorem valid_upR {g : GD} {ts : List E2} (hG : Good g) (ht : TurnOf g.edges ts) : Valid (upR g ts) :=
  ⟨by rw [upR_len]; exact hG.names, fun i k h => by rw [upR_len]; exact (upR_edge hG ht h).1⟩
theorem users_stale {g : GD} {ts : List E2} {x : SD} {s : B} {n : Nat} (hG : Good g) (ht : TurnOf g.edges ts) (hs : Stale g x s) (hn : has x.dirty n = true) : cls (upR g ts) (row (upR g ts) n) &&& ~~~s = 0#64 := by
  have key : ∀ u, has (cls (upR g ts) (row (upR g ts) n)) u = true → has s u = true := by
    intro u hu
    obtain ⟨a, ha, hr⟩ := has_cls.1 hu
    induction hr with
    | refl =>
      obtain ⟨h1, h2, h3⟩ := upR_edge hG ht ha
      exact (hs _).2 ⟨h1, h2, .inr (.inr ⟨n, h3, .inl hn⟩)⟩
    | tail hab e ih =>
      obtain ⟨h1, h2, h3⟩ := upR_edge hG ht e
      exact (hs _).2 ⟨h1, h2, .inr (.inr ⟨_, h3, .inr (.inl (ih (has_cls.2 ⟨a, ha, hab⟩)))⟩)⟩
  refine eq_zero_iff.2 fun k => ?_
  rw [Bool.eq_false_iff]
  intro h
  rw [has_and, Bool.and_eq_true] at h
  rw [has_not _ _ (has_lt h.1), key k h.1] at h
  simp at h
end Go.Proofs.YteldeiihjeddoaaDoor
namespace Go.Proofs.YteldeiihjeddoaaDoor
open Go.RowKit Go.Shelf
/-- the empty graph -/
def G00 : GD := ⟨[], [], 0#64, 0#64⟩
theorem grat_zero (w : World) : GrAt w (.agg #[.slice none 0 0, .slice none 0 0, .int .u64 0, .int .u64 0]) G00 :=
  ⟨none, 0, 0, none, 0, 0, rfl, ⟨⟨rfl, Reads.none_, fun s hs => (by cases hs), by omega⟩, fun _ => rfl, fun ad h => (by cases h), by omega⟩, ⟨rfl, fun h => absurd h (by omega), by omega⟩⟩
theorem good_sizes {g : GD} (hG : Good g) : ∀ s ∈ g.names, s.size ≤ 4611686018427387904 := fun s hs => by
  have h1 := (okN_mem rfl).1 hG.ok s hs
  have h2 := nameE_size h1
  omega
/-- a graph of a call's own, as it can be read -/
theorem grat_own {w : World} {b1 b2 n m : Nat} {g : GD} {p q : Option Addr} {c d : Nat} (hG : Good g) (hb : m ≤ 8796093022208)
    (ho : w.ownsRow b1 9 1 (.slice p n c) n (strsV g.names)) (he : w.ownsRow b2 35 2 (.slice q m d) m (cells2 eF eG g.edges)) :
    GrAt w (.agg #[.slice p n c, .slice q m d, .int .u64 (un g.phony : Int), .int .u64 (un g.made : Int)]) g := by
  have hl : g.names.length = n := by have := ho.1; simpa [strsV] using this
  have h64 := hG.names
  exact ⟨p, _, c, q, _, d, rfl, NL_own ho (good_sizes hG) (by omega), P2At.own he hb⟩
end Go.Proofs.YteldeiihjeddoaaDoor
