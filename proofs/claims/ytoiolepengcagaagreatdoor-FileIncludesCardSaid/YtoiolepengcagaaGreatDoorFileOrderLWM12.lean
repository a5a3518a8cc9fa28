/- Texts joined: FileBackW, FileArg, DelAnyW, OrdFW, FileOrderW, IncW. Conditions: theirs. -/
import Derived.Test.YtoiolepengcagaaGreatDoorFileOrderLWM11
import Derived.Test.YtoiolepengcagaaGreatDoorFileOrderLWM10
import Derived.Test.YtoiolepengcagaaGreatDoorFileOrderLWM6
import Derived.Test.YtoiolepengcagaaGreatDoorNLSetW
import Derived.Test.YtoiolepengcagaaGreatDoorFileOrderLWM5
import Derived.Lib.SliceRun
import Derived.Sort.Walk0
import Derived.Deep.RegionHeld3
import Derived.StillTailTactics
import Derived.IntWalk
namespace Go.Proofs.YtoiolepengcagaaGreatDoor
open Go.RowKit Go.Shelf Go.Maps
theorem PrintU_ok (F : FileV) (a b c d : Value) (w : World) (h : FIv w F (.agg #[a, b, c, d])) (hM : MLm w) (hz : ∀ x ∈ linesF F, x.length ≤ 1048600) :
    Calls Tryz.prog 20 #[.agg #[a, b, c, d]] w fun e w' => (∃ p m g, e = .returned (.tuple #[.slice p m g, .int .i64 (checkF F)]) ∧ (checkF F ≠ 0 → m = 0) ∧ (checkF F = 0 → m = (linesF F).length ∧ NL w' p (linesF F).length g ((linesF F).map txt))) ∧ Below w.heap.size w w' := by
  refine (PrintF_ok F a b c d w h hM hz).mono ?_
  rintro e w' ⟨⟨h0, rfl⟩ | ⟨h0, p, g, rfl, hn⟩, hb⟩
  · exact ⟨⟨_, _, _, rfl, fun _ => rfl, fun e => absurd e h0⟩, hb⟩
  · rw [h0]
    exact ⟨⟨_, _, _, rfl, fun e => absurd rfl e, fun _ => ⟨rfl, hn⟩⟩, hb⟩
theorem parse_nlw {w : World} {p : Option Addr} {n c : Nat} {zs : List ByteArray} (h : NLw w p n c zs) (hM : MLm w) (hz : ∀ x ∈ zs, x.size ≤ 1048600) :
    Calls Tryz.prog 18 #[.slice p n c] w fun e w' => (∃ a1 a2 a3 b1 b2 b3 c1 c2 c3 d1 d2 d3, e = .returned (.tuple #[.agg #[.slice a1 a2 a3, .slice b1 b2 b3, .slice c1 c2 c3, .slice d1 d2 d3], .int .i64 ((parseF (lst zs)).2.1 : Int), .int .i64 (parseF (lst zs)).2.2]) ∧ FIv w' (parseF (lst zs)).1 (fv a1 a2 a3 b1 b2 b3 c1 c2 c3 d1 d2 d3)) ∧ Below w.heap.size w w' := by
  refine (ParseF_ok p n c zs w h hM hz).mono ?_
  rintro e w' ⟨⟨v, he, hv⟩, hb⟩
  have hf : FIv w' (parseF (lst zs)).1 v := by
    rcases hv with ⟨h1, rfl⟩ | ⟨h1, hF⟩
    · rw [((parseF_err (lst zs)).1 h1).1]
      exact nil_fiv w'
    · exact hF.fiv h1
  obtain ⟨a1, a2, a3, b1, b2, b3, c1, c2, c3, d1, d2, d3, rfl⟩ := hf.agg
  exact ⟨⟨a1, a2, a3, b1, b2, b3, c1, c2, c3, d1, d2, d3, he, hf⟩, hb⟩
/-- .. of lines that the file printed -/
theorem parse_back {F : FileV} {w : World} {p : Option Addr} {m c : Nat} (h0 : checkF F = 0) (h : m = (linesF F).length ∧ NL w p (linesF F).length c ((linesF F).map txt)) (hM : MLm w) (hz : ∀ x ∈ linesF F, x.length ≤ 1048600) :
    Calls Tryz.prog 18 #[.slice p m c] w fun e w' => (∃ a1 a2 a3 b1 b2 b3 c1 c2 c3 d1 d2 d3, e = .returned (.tuple #[.agg #[.slice a1 a2 a3, .slice b1 b2 b3, .slice c1 c2 c3, .slice d1 d2 d3], .int .i64 0, .int .i64 0]) ∧ FIv w' F (fv a1 a2 a3 b1 b2 b3 c1 c2 c3 d1 d2 d3)) ∧ Below w.heap.size w w' := by
  obtain ⟨rfl, hn⟩ := h
  refine (parse_nl hn hM hz).mono ?_
  rintro e w' ⟨⟨a1, a2, a3, b1, b2, b3, c1, c2, c3, d1, d2, d3, he, hf⟩, hb⟩
  obtain ⟨k1, k2, k3⟩ := checkF_zero h0
  rw [k2] at hf
  rw [k1, k3] at he
  exact ⟨⟨_, _, _, _, _, _, _, _, _, _, _, _, he, hf⟩, hb⟩
theorem same_yes {w : World} {F : FileV} {u v : Value} (h : FIv w F u) (k : FIv w F v) :
    Calls Tryz.prog 19 #[u, v] w fun e w' => e = .returned (.bool true) ∧ Below w.heap.size w w' := by
  refine (h.sameFile k).mono ?_
  rintro e w' ⟨⟨r, rfl, hr⟩, hb⟩
  rw [hr.2 rfl]
  exact ⟨rfl, hb⟩
set_option maxHeartbeats 16000000 in
set_option maxRecDepth 100000 in
theorem fileBack_ok (F : FileV) (a b c d : Value) (p : Option Addr) (n cc : Nat) (zs : List ByteArray) (w : World) (h : FIv w F (.agg #[a, b, c, d])) (hl : NLw w p n cc zs) (hM : MLm w) (hML : ML w) (hz : ∀ x ∈ linesF F, x.length ≤ 1048600) (hzs : ∀ x ∈ zs, x.size ≤ 1048576) :
    Calls Tryz.prog 5 #[.agg #[a, b, c, d], .slice p n cc] w fun e w' => e = .returned (.bool true) ∧ Below w.heap.size w w' := by
  obtain ⟨W, hW⟩ : ∃ W, W = w.alloc (.cells #[a, b, c, d] 43) := ⟨_, rfl⟩
  have hb0 : Below w.heap.size w W := by rw [hW]; exact rb1w _ _
  have hs0 : W.heap.size = w.heap.size + 1 := by rw [hW]; simp
  have hz0 : W.heap[w.heap.size]? = some (.cells #[a, b, c, d] 43 (0, 0)) := by rw [hW]; exact rb_new w _
  have HC : Hid (∀ u : World, Below W.heap.size W u → (u.cell? ⟨w.heap.size, 0, none⟩ = some a ∧ u.cell? ⟨w.heap.size, 1, none⟩ = some b ∧ u.cell? ⟨w.heap.size, 2, none⟩ = some c ∧ u.cell? ⟨w.heap.size, 3, none⟩ = some d) ∧ Below w.heap.size w u) := by
    show ∀ u : World, _
    intro u hu
    have hbu : Below w.heap.size w u := hb0.trans (hu.mono (by omega))
    have g0 : u.heap[w.heap.size]? = some (.cells #[a, b, c, d] 43 (0, 0)) := by rw [hu.block _ (by omega)]; exact hz0
    exact ⟨(boxF g0).1, hbu⟩
  have HF := Lib.hid h
  have HZ := Lib.hid hz
  have HM := Lib.hid hM
  have hlen := hl.at_.len
  have HFS := Lib.hid (files_ok W (hML.below hb0))
  have HPL : Hid (∀ u : World, Below W.heap.size W u → Calls Tryz.prog 18 #[.slice p n cc] u fun e w' => (∃ a1 a2 a3 b1 b2 b3 c1 c2 c3 d1 d2 d3, e = .returned (.tuple #[.agg #[.slice a1 a2 a3, .slice b1 b2 b3, .slice c1 c2 c3, .slice d1 d2 d3], .int .i64 ((parseF (lst zs)).2.1 : Int), .int .i64 (parseF (lst zs)).2.2]) ∧ FIv w' (parseF (lst zs)).1 (fv a1 a2 a3 b1 b2 b3 c1 c2 c3 d1 d2 d3)) ∧ Below u.heap.size u w') := by
    show ∀ u : World, _
    intro u hu
    exact parse_nlw (hl.below (HC.out u hu).2) (hM.below (HC.out u hu).2) (fun x hx => Nat.le_trans (hzs x hx) (by decide))
  obtain ⟨G, hG⟩ : ∃ G, G = (parseF (lst zs)).1 := ⟨_, rfl⟩
  obtain ⟨N2, hN2⟩ : ∃ N2, N2 = (parseF (lst zs)).2.1 := ⟨_, rfl⟩
  obtain ⟨E2, hE2⟩ : ∃ E2, E2 = (parseF (lst zs)).2.2 := ⟨_, rfl⟩
  have HLG : Hid (E2 = 0 → ∀ x ∈ linesF G, x.length ≤ 1048600) := by
    show _ → _
    rw [hE2, hG]
    intro h0 x hx
    rcases (lines_small h0 (B := 1048576) (fun s hs => by
      obtain ⟨z, hz', rfl⟩ := List.mem_map.1 hs
      rw [← Lib.size_eq]
      exact hzs z hz') x hx).2 with k | k <;> omega
  have HEG : Hid (E2 ≠ 0 → G = file0 ∧ N2 ≤ n) := by
    show _ → _
    rw [hE2, hG, hN2]
    intro h0
    have := (parseF_err (lst zs)).1 h0
    refine ⟨this.1, ?_⟩
    have h3 : (lst zs).length = zs.length := List.length_map _
    rw [← hlen, ← h3]
    exact this.2
  rw [← hG, ← hN2, ← hE2] at HPL
  have HWS := Lib.hid hs0
  have hck0 := CheckF_ok F a b c d
  have HPU : Hid (∀ u : World, Below W.heap.size W u → Calls Tryz.prog 20 #[.agg #[a, b, c, d]] u fun e w' => (∃ p m g, e = .returned (.tuple #[.slice p m g, .int .i64 (checkF F)]) ∧ (checkF F ≠ 0 → m = 0) ∧ (checkF F = 0 → m = (linesF F).length ∧ NL w' p (linesF F).length g ((linesF F).map txt))) ∧ Below u.heap.size u w') := by
    show ∀ u : World, _
    intro u hu
    exact PrintU_ok F a b c d u (h.below (HC.out u hu).2) (hM.below (HC.out u hu).2) hz
  have HCK : Hid (∀ u : World, Below W.heap.size W u → Calls Tryz.prog 21 #[.agg #[a, b, c, d]] u fun e w' => e = .returned (.int .i64 (checkF F)) ∧ Below u.heap.size u w') := by
    show ∀ u : World, _
    intro u hu
    exact CheckF_ok F a b c d u (h.below (HC.out u hu).2) (hM.below (HC.out u hu).2) hz
  have HPB : Hid (∀ (u : World) (p : Option Addr) (m g : Nat), Below W.heap.size W u → checkF F = 0 → (m = (linesF F).length ∧ NL u p (linesF F).length g ((linesF F).map txt)) → Calls Tryz.prog 18 #[.slice p m g] u fun e w' => (∃ a1 a2 a3 b1 b2 b3 c1 c2 c3 d1 d2 d3, e = .returned (.tuple #[.agg #[.slice a1 a2 a3, .slice b1 b2 b3, .slice c1 c2 c3, .slice d1 d2 d3], .int .i64 0, .int .i64 0]) ∧ FIv w' F (fv a1 a2 a3 b1 b2 b3 c1 c2 c3 d1 d2 d3)) ∧ Below u.heap.size u w') := by
    show ∀ (u : World) (p : Option Addr) (m g : Nat), _
    intro u p m g hu h0 hn
    exact parse_back h0 hn (hM.below (HC.out u hu).2) hz
  obtain ⟨E, hE⟩ : ∃ E, E = checkF F := ⟨_, rfl⟩
  rw [← hE] at HPU HCK HPB
  have HB0 : Hid (Below W.heap.size W W) := Below.refl _ _
  obtain ⟨⟨c0, c1, c2, c3⟩, _⟩ := HC.out W (Below.refl _ _)
  clear h hb0 hs0 hz0 hz hM hML hG hN2 hE2 hE hck0 hzs hl hlen
  go_enter Tryz.func5, Tryz.ntmps5
  go_upto_region 1 with fail
  rw [← hW]
  clear hW
  go_upto_region 3 with (go_at_call 7; refine HFS.out.mono ?_; rintro e w1 ⟨rfl, hb1⟩; have HB1 := Lib.hid hb1; clear hb1)
  clear c0 c1 c2 c3
  obtain ⟨⟨c0, c1, c2, c3⟩, _⟩ := HC.out w1 HB1.out
  go_upto_region 4 with (go_at_call 20; refine (HPU.out _ HB1.out).mono ?_; rintro e w2 ⟨⟨p2, m2, g2, rfl, hno, hyes⟩, hb2⟩; have HNO := Lib.hid hno; have HYES := Lib.hid hyes; have HB2 := Lib.hid (HB1.out.trans (hb2.mono HB1.out.size)); clear hno hyes hb2)
  clear c0 c1 c2 c3
  obtain ⟨⟨c0, c1, c2, c3⟩, _⟩ := HC.out w2 HB2.out
  by_cases hE : E = 0
  · subst hE
    have HY := Lib.hid (HYES.out rfl)
    go_upto_region 6 with (go_at_call 18; refine (HPB.out _ _ _ _ HB2.out rfl HY.out).mono ?_; rintro e w3 ⟨⟨g1, gn2, g3, j1, j2, j3, k1, k2, k3, l1, l2, l3, rfl, hok2⟩, hb3⟩; have HOK := Lib.hid hok2; have HB3 := Lib.hid (HB2.out.trans (hb3.mono HB2.out.size)); clear hok2 hb3)
    obtain ⟨Wb, hWb⟩ : ∃ Wb, Wb = w3.alloc (.cells #[.slice g1 gn2 g3, .slice j1 j2 j3, .slice k1 k2 k3, .slice l1 l2 l3] 43) := ⟨_, rfl⟩
    have hbWb : Below w3.heap.size w3 Wb := by rw [hWb]; exact rb1w _ _
    have hzb : Wb.heap[w3.heap.size]? = some (.cells #[.slice g1 gn2 g3, .slice j1 j2 j3, .slice k1 k2 k3, .slice l1 l2 l3] 43 (0, 0)) := by rw [hWb]; exact rb_new w3 _
    have HBb := Lib.hid (HB3.out.trans (hbWb.mono HB3.out.size))
    have HOKb := Lib.hid (HOK.out.below hbWb)
    rw [← hWb]
    clear hWb c0 c1 c2 c3 hbWb
    obtain ⟨⟨c0, c1, c2, c3⟩, hbw⟩ := HC.out Wb HBb.out
    obtain ⟨⟨y0, y1, y2, y3⟩, _⟩ := boxF hzb
    clear hzb
    have HSA := Lib.hid (same_yes (HF.out.below hbw) HOKb.out)
    go_upto_region 10 with (go_at_call 19; refine HSA.out.mono ?_; rintro e w4 ⟨rfl, hb4⟩; have HB4 := Lib.hid (HBb.out.trans (hb4.mono HBb.out.size)); clear hb4)
    clear c0 c1 c2 c3 y0 y1 y2 y3 hbw
    go_upto_region 11 with (go_at_call 18; refine (HPL.out _ HB4.out).mono ?_; rintro e w5 ⟨⟨q1, q2, q3, r1, r2, r3, s1, s2, s3, t1, t2, t3, rfl, hok5⟩, hb5⟩; have HOK5 := Lib.hid hok5; have HB5 := Lib.hid (HB4.out.trans (hb5.mono HB4.out.size)); clear hok5 hb5)
    obtain ⟨Wc, hWc⟩ : ∃ Wc, Wc = w5.alloc (.cells #[.slice q1 q2 q3, .slice r1 r2 r3, .slice s1 s2 s3, .slice t1 t2 t3] 43) := ⟨_, rfl⟩
    have hbWc : Below w5.heap.size w5 Wc := by rw [hWc]; exact rb1w _ _
    have hsc : Wc.heap.size = w5.heap.size + 1 := by rw [hWc]; simp
    have hzc : Wc.heap[w5.heap.size]? = some (.cells #[.slice q1 q2 q3, .slice r1 r2 r3, .slice s1 s2 s3, .slice t1 t2 t3] 43 (0, 0)) := by rw [hWc]; exact rb_new w5 _
    have HBc := Lib.hid (HB5.out.trans (hbWc.mono HB5.out.size))
    have HOKc := Lib.hid (HOK5.out.below hbWc)
    have HMc := Lib.hid (HM.out.below (HC.out Wc HBc.out).2)
    rw [← hWc]
    clear hWc hbWc
    obtain ⟨⟨z0, z1, z2, z3⟩, _⟩ := boxF hzc
    by_cases hE2 : E2 = 0
    · subst hE2
      have HLG2 := Lib.hid (HLG.out rfl)
      have HPG := Lib.hid (PrintU_ok G _ _ _ _ Wc HOKc.out HMc.out HLG2.out)
      have HPB2 : Hid (∀ (u : World) (p : Option Addr) (m g : Nat), Below W.heap.size W u → checkF G = 0 → (m = (linesF G).length ∧ NL u p (linesF G).length g ((linesF G).map txt)) → Calls Tryz.prog 18 #[.slice p m g] u fun e w' => (∃ a1 a2 a3 b1 b2 b3 c1 c2 c3 d1 d2 d3, e = .returned (.tuple #[.agg #[.slice a1 a2 a3, .slice b1 b2 b3, .slice c1 c2 c3, .slice d1 d2 d3], .int .i64 0, .int .i64 0]) ∧ FIv w' G (fv a1 a2 a3 b1 b2 b3 c1 c2 c3 d1 d2 d3)) ∧ Below u.heap.size u w') := by
        show ∀ (u : World) (p : Option Addr) (m g : Nat), _
        intro u p m g hu h0 hn
        exact parse_back h0 hn (HM.out.below (HC.out u hu).2) HLG2.out
      obtain ⟨E3, hE3⟩ : ∃ E3, E3 = checkF G := ⟨_, rfl⟩
      rw [← hE3] at HPG HPB2
      clear hE3
      go_upto_region 14 with (go_at_call 20; refine HPG.out.mono ?_; rintro e w6 ⟨⟨p6, m6, g6, rfl, hno, hyes⟩, hb6⟩; have HNO6 := Lib.hid hno; have HYES6 := Lib.hid hyes; have HB6 := Lib.hid (HBc.out.trans (hb6.mono HBc.out.size)); have HB6c := Lib.hid hb6; clear hno hyes hb6)
      by_cases h3 : E3 = 0
      · subst h3
        have HY6 := Lib.hid (HYES6.out rfl)
        go_upto_region 17 with (go_at_call 18; refine (HPB2.out _ _ _ _ HB6.out rfl HY6.out).mono ?_; rintro e w7 ⟨⟨x1, x2, x3, v1, v2, v3, o1, o2, o3, i1, i2, i3, rfl, hok7⟩, hb7⟩; have HOK7 := Lib.hid hok7; have HB7 := Lib.hid (HB6.out.trans (hb7.mono HB6.out.size)); have HB7c := Lib.hid (HB6c.out.trans (hb7.mono HB6c.out.size)); clear hok7 hb7)
        obtain ⟨Wd, hWd⟩ : ∃ Wd, Wd = w7.alloc (.cells #[.slice x1 x2 x3, .slice v1 v2 v3, .slice o1 o2 o3, .slice i1 i2 i3] 43) := ⟨_, rfl⟩
        have hbWd : Below w7.heap.size w7 Wd := by rw [hWd]; exact rb1w _ _
        have hzd : Wd.heap[w7.heap.size]? = some (.cells #[.slice x1 x2 x3, .slice v1 v2 v3, .slice o1 o2 o3, .slice i1 i2 i3] 43 (0, 0)) := by rw [hWd]; exact rb_new w7 _
        have HBd := Lib.hid (HB7.out.trans (hbWd.mono HB7.out.size))
        have HOKd := Lib.hid (HOK7.out.below hbWd)
        have hcd := HB7c.out.trans (hbWd.mono HB7c.out.size)
        have hzc2 : Wd.heap[w5.heap.size]? = some (.cells #[.slice q1 q2 q3, .slice r1 r2 r3, .slice s1 s2 s3, .slice t1 t2 t3] 43 (0, 0)) := by rw [hcd.block _ (by omega)]; exact hzc
        have HSD := Lib.hid (same_yes HOKd.out (HOKc.out.below hcd))
        rw [← hWd]
        clear hWd hbWd z0 z1 z2 z3
        obtain ⟨⟨z0, z1, z2, z3⟩, _⟩ := boxF hzc2
        obtain ⟨⟨y0, y1, y2, y3⟩, _⟩ := boxF hzd
        clear hzd hzc2 hcd hzc
        go_wp2_with (go_at_call 19; refine HSD.out.mono ?_; rintro e w8 ⟨rfl, hb8⟩; have HB8 := Lib.hid (HC.out w8 (HBd.out.trans (hb8.mono HBd.out.size))).2; clear hb8)
        go_ret
        exact ⟨rfl, HB8.out⟩
      · have hm6 := HNO6.out h3
        subst hm6
        have HB9 := Lib.hid (HC.out w6 HB6.out).2
        go_wp2_with fail
        go_ret
        exact ⟨rfl, HB9.out⟩
    · obtain ⟨hG0, hN0⟩ := HEG.out hE2
      have hd1 : decide (N2 ≤ n) = true := decide_eq_true hN0
      have hd2 : decide ((N2 : Int) ≤ (n : Int)) = true := decide_eq_true (by omega)
      have HS0 := Lib.hid (same_yes (F := G) HOKc.out (by rw [hG0]; exact nil_fiv Wc))
      go_wp2_with (go_at_call 19; refine HS0.out.mono ?_; rintro e w8 ⟨rfl, hb8⟩; have HB8 := Lib.hid (HC.out w8 (HBc.out.trans (hb8.mono HBc.out.size))).2; clear hb8)
      go_ret
      exact ⟨rfl, HB8.out⟩
  · have hm2 := HNO.out hE
    subst hm2
    go_upto_region 10 with (go_at_call 21; refine (HCK.out _ HB2.out).mono ?_; rintro e w4 ⟨rfl, hb4⟩; have HB4 := Lib.hid (HB2.out.trans (hb4.mono HB2.out.size)); clear hb4)
    clear c0 c1 c2 c3
    go_upto_region 11 with (go_at_call 18; refine (HPL.out _ HB4.out).mono ?_; rintro e w5 ⟨⟨q1, q2, q3, r1, r2, r3, s1, s2, s3, t1, t2, t3, rfl, hok5⟩, hb5⟩; have HOK5 := Lib.hid hok5; have HB5 := Lib.hid (HB4.out.trans (hb5.mono HB4.out.size)); clear hok5 hb5)
    obtain ⟨Wc, hWc⟩ : ∃ Wc, Wc = w5.alloc (.cells #[.slice q1 q2 q3, .slice r1 r2 r3, .slice s1 s2 s3, .slice t1 t2 t3] 43) := ⟨_, rfl⟩
    have hbWc : Below w5.heap.size w5 Wc := by rw [hWc]; exact rb1w _ _
    have hsc : Wc.heap.size = w5.heap.size + 1 := by rw [hWc]; simp
    have hzc : Wc.heap[w5.heap.size]? = some (.cells #[.slice q1 q2 q3, .slice r1 r2 r3, .slice s1 s2 s3, .slice t1 t2 t3] 43 (0, 0)) := by rw [hWc]; exact rb_new w5 _
    have HBc := Lib.hid (HB5.out.trans (hbWc.mono HB5.out.size))
    have HOKc := Lib.hid (HOK5.out.below hbWc)
    have HMc := Lib.hid (HM.out.below (HC.out Wc HBc.out).2)
    rw [← hWc]
    clear hWc hbWc
    obtain ⟨⟨z0, z1, z2, z3⟩, _⟩ := boxF hzc
    by_cases hE2 : E2 = 0
    · subst hE2
      have HLG2 := Lib.hid (HLG.out rfl)
      have HPG := Lib.hid (PrintU_ok G _ _ _ _ Wc HOKc.out HMc.out HLG2.out)
      have HPB2 : Hid (∀ (u : World) (p : Option Addr) (m g : Nat), Below W.heap.size W u → checkF G = 0 → (m = (linesF G).length ∧ NL u p (linesF G).length g ((linesF G).map txt)) → Calls Tryz.prog 18 #[.slice p m g] u fun e w' => (∃ a1 a2 a3 b1 b2 b3 c1 c2 c3 d1 d2 d3, e = .returned (.tuple #[.agg #[.slice a1 a2 a3, .slice b1 b2 b3, .slice c1 c2 c3, .slice d1 d2 d3], .int .i64 0, .int .i64 0]) ∧ FIv w' G (fv a1 a2 a3 b1 b2 b3 c1 c2 c3 d1 d2 d3)) ∧ Below u.heap.size u w') := by
        show ∀ (u : World) (p : Option Addr) (m g : Nat), _
        intro u p m g hu h0 hn
        exact parse_back h0 hn (HM.out.below (HC.out u hu).2) HLG2.out
      obtain ⟨E3, hE3⟩ : ∃ E3, E3 = checkF G := ⟨_, rfl⟩
      rw [← hE3] at HPG HPB2
      clear hE3
      go_upto_region 14 with (go_at_call 20; refine HPG.out.mono ?_; rintro e w6 ⟨⟨p6, m6, g6, rfl, hno, hyes⟩, hb6⟩; have HNO6 := Lib.hid hno; have HYES6 := Lib.hid hyes; have HB6 := Lib.hid (HBc.out.trans (hb6.mono HBc.out.size)); have HB6c := Lib.hid hb6; clear hno hyes hb6)
      by_cases h3 : E3 = 0
      · subst h3
        have HY6 := Lib.hid (HYES6.out rfl)
        go_upto_region 17 with (go_at_call 18; refine (HPB2.out _ _ _ _ HB6.out rfl HY6.out).mono ?_; rintro e w7 ⟨⟨x1, x2, x3, v1, v2, v3, o1, o2, o3, i1, i2, i3, rfl, hok7⟩, hb7⟩; have HOK7 := Lib.hid hok7; have HB7 := Lib.hid (HB6.out.trans (hb7.mono HB6.out.size)); have HB7c := Lib.hid (HB6c.out.trans (hb7.mono HB6c.out.size)); clear hok7 hb7)
        obtain ⟨Wd, hWd⟩ : ∃ Wd, Wd = w7.alloc (.cells #[.slice x1 x2 x3, .slice v1 v2 v3, .slice o1 o2 o3, .slice i1 i2 i3] 43) := ⟨_, rfl⟩
        have hbWd : Below w7.heap.size w7 Wd := by rw [hWd]; exact rb1w _ _
        have hzd : Wd.heap[w7.heap.size]? = some (.cells #[.slice x1 x2 x3, .slice v1 v2 v3, .slice o1 o2 o3, .slice i1 i2 i3] 43 (0, 0)) := by rw [hWd]; exact rb_new w7 _
        have HBd := Lib.hid (HB7.out.trans (hbWd.mono HB7.out.size))
        have HOKd := Lib.hid (HOK7.out.below hbWd)
        have hcd := HB7c.out.trans (hbWd.mono HB7c.out.size)
        have hzc2 : Wd.heap[w5.heap.size]? = some (.cells #[.slice q1 q2 q3, .slice r1 r2 r3, .slice s1 s2 s3, .slice t1 t2 t3] 43 (0, 0)) := by rw [hcd.block _ (by omega)]; exact hzc
        have HSD := Lib.hid (same_yes HOKd.out (HOKc.out.below hcd))
        rw [← hWd]
        clear hWd hbWd z0 z1 z2 z3
        obtain ⟨⟨z0, z1, z2, z3⟩, _⟩ := boxF hzc2
        obtain ⟨⟨y0, y1, y2, y3⟩, _⟩ := boxF hzd
        clear hzd hzc2 hcd hzc
        go_wp2_with (go_at_call 19; refine HSD.out.mono ?_; rintro e w8 ⟨rfl, hb8⟩; have HB8 := Lib.hid (HC.out w8 (HBd.out.trans (hb8.mono HBd.out.size))).2; clear hb8)
        go_ret
        exact ⟨rfl, HB8.out⟩
      · have hm6 := HNO6.out h3
        subst hm6
        have HB9 := Lib.hid (HC.out w6 HB6.out).2
        go_wp2_with fail
        go_ret
        exact ⟨rfl, HB9.out⟩
    · obtain ⟨hG0, hN0⟩ := HEG.out hE2
      have hd1 : decide (N2 ≤ n) = true := decide_eq_true hN0
      have hd2 : decide ((N2 : Int) ≤ (n : Int)) = true := decide_eq_true (by omega)
      have HS0 := Lib.hid (same_yes (F := G) HOKc.out (by rw [hG0]; exact nil_fiv Wc))
      go_wp2_with (go_at_call 19; refine HS0.out.mono ?_; rintro e w8 ⟨rfl, hb8⟩; have HB8 := Lib.hid (HC.out w8 (HBc.out.trans (hb8.mono HBc.out.size))).2; clear hb8)
      go_ret
      exact ⟨rfl, HB8.out⟩
end Go.Proofs.YtoiolepengcagaaGreatDoor
namespace Go.Proofs.YtoiolepengcagaaGreatDoor
open Go.RowKit Go.Shelf Go.ChangeShapes Go.WideShapes
def wk (l : List ByteArray) : Nat := (l.map fun z => z.size + 1).sum
theorem wk_strs {H : Type} (l : List ByteArray) : wk l = Rows.uptoBulkAll (strs (H := H) l) := by
  induction l with
  | nil => rfl
  | cons a l ih =>
    show a.size + 1 + wk l = _
    rw [ih]
    unfold strs
    simp only [List.map_cons, Rows.uptoBulkAll, Rows.uptoBulk]
    rw [Lib.size_eq]
set_option maxRecDepth 100000 in
theorem nlw_bulk {H : Type} {enc : TypeId × Value → H} {W : World} {fuel : Nat} {v : Value} {d : DataW H} {p : List MemPlace}
    (hf : DataW.trod enc Tryz.prog W 0 (fun _ => true) true fuel 23 [v] = some (d, p))
    (hsz : ∀ n, n ∈ d.weights Tryz.prog 23 → n ≤ reachBytes) : ∃ a len cap zs, v = .slice a len cap ∧ NLw W a len cap zs ∧ len ≤ cap ∧ wk zs + 1 ≤ Rows.uptoBulk d := by
  have ht := Tryz.underlying23
  have he := Tryz.underlying9
  have hc : Tryz.prog.cellsOf 9 = 1 := by kernel_rfl
  obtain ⟨a, len, cap, rfl, ⟨zs, hN⟩, hcap⟩ := nlw_any hf hsz
  refine ⟨a, len, cap, zs, rfl, hN, hcap, ?_⟩
  have hl := hN.at_.len
  rcases open_strings ht he hc hf with ⟨h1, h2⟩ | ⟨ad, ln, cp, ss, h1, h2, h3, h4, h5, h6, h7, h8⟩
  · injection h1 with h1 _
    injection h1 with e1 e2 e3
    subst e1 e2 e3
    injection h2 with h2 _
    subst h2
    have : zs = [] := List.length_eq_zero_iff.1 hl
    subst this
    exact Nat.le_refl _
  · injection h1 with h1 _
    injection h1 with e1 e2 e3
    subst e1 e2 e3
    injection h6 with h6 _
    simp only [if_true] at h5
    have hz : zs = ss.take len := by
      refine List.ext_getElem (by rw [List.length_take]; omega) fun i hi1 hi2 => ?_
      have h0 : 0 < len := by omega
      obtain ⟨b, o, e, _⟩ := hN.plain h0 _ rfl
      subst e
      have k1 := hN.cellAt i hi1
      have k2 := h7 i (by rw [List.length_take] at hi2; omega)
      rw [Addr.add_lit, k1] at k2
      injection k2 with k2
      injection k2 with k2
      rw [List.getD_eq_getElem?_getD, List.getD_eq_getElem?_getD, List.getElem?_eq_getElem hi1, List.getElem?_eq_getElem (by rw [List.length_take] at hi2; omega)] at k2
      rw [List.getElem_take]
      exact k2
    rw [h6, hz, wk_strs (H := H)]
    simp only [Rows.uptoBulk]
    omega
/-- the slice of pairs that a law is handed, and its bulk, each field of a weight that is told -/
theorem p2_bulkw {A B H : Type} {enc : TypeId × Value → H} {P : Program} {W : World} {fuel : Nat} {v : Value} {d : DataW H} {p : List MemPlace} {t e : TypeId} {f0 f1 : Field} (F : A → Value) (G : B → Value) (wf : A → Nat) (wg : B → Nat)
    (ht : P.underlying t = some (.slice e)) (he : P.underlying e = some (.struct #[f0, f1])) (ce : P.cellsOf e = 2) (o0 : f0.offset = 0) (o1 : f1.offset = 1) (c0 : P.cellsOf f0.type = 1) (c1 : P.cellsOf f1.type = 1)
    (hF : ∀ n v x, DataW.trod enc P W 0 (fun _ => true) true n f0.type [v] = some x → (∀ k, k ∈ x.1.weights P f0.type → k ≤ reachBytes) → ∃ a, v = F a ∧ wf a ≤ Rows.uptoBulk x.1)
    (hG : ∀ n v x, DataW.trod enc P W 0 (fun _ => true) true n f1.type [v] = some x → (∀ k, k ∈ x.1.weights P f1.type → k ≤ reachBytes) → ∃ b, v = G b ∧ wg b ≤ Rows.uptoBulk x.1)
    (hby : 16 ≤ P.bytesOf e) (hf : DataW.trod enc P W 0 (fun _ => true) true fuel t [v] = some (d, p)) (hsz : ∀ n, n ∈ d.weights P t → n ≤ reachBytes) :
    ∃ (a : Option Addr) (len cap : Nat) (l : List (A × B)), v = .slice a len cap ∧ len ≤ cap ∧ P2At (fun x => F x.1) (fun x => G x.2) W a len cap l ∧ (l.map fun x => wf x.1 + wg x.2 + 1).sum + 1 ≤ Rows.uptoBulk d := by
  rcases Go.Deep.open_slice_pairs ht he ce o0 o1 c0 c1 hf with ⟨h1, h2⟩ | ⟨ad, len, cap, m, n, V0, V1, D0, D1, P0, P1, h1, hx2, h3, hx4, h5, h6, h7⟩
  · injection h1 with h1 _
    subst h1
    injection h2 with h2 _
    subst h2
    exact ⟨none, 0, 0, [], rfl, Nat.le_refl _, ⟨rfl, fun h => by omega, by omega⟩, by simp [Rows.uptoBulk]⟩
  · injection h1 with h1 _
    subst h1
    simp only [if_true] at h5
    subst h5
    injection h6 with h6 _
    have hel : ∀ i, i < len → ∀ k, k ∈ (DataW.agg [D0 i, D1 i]).weights P e → k ≤ reachBytes := by
      intro i hi k hk
      refine hsz k ?_
      rw [h6, DataW.weights, ht]
      refine List.mem_cons_of_mem _ (List.mem_append_left _ (weightsAll_mem hk ?_))
      exact List.mem_map.2 ⟨i, List.mem_range.2 hi, rfl⟩
    have hex : ∀ i, i < len → ∃ q : A × B, (W.cell? (ad.add (i * 2)) = some (F q.1) ∧ W.cell? (ad.add (i * 2 + 1)) = some (G q.2)) ∧ wf q.1 ≤ Rows.uptoBulk (D0 i) ∧ wg q.2 ≤ Rows.uptoBulk (D1 i) := by
      intro i hi
      obtain ⟨k1, k2, k3, k4⟩ := h7 i (by omega)
      obtain ⟨x, hx, wx⟩ := hF _ _ _ k3 (fun k hk => hel i hi k (by simp only [DataW.weights, he, List.map_cons, List.map_nil, DataW.weightsEach, List.mem_append]; exact .inl hk))
      obtain ⟨y, hy, wy⟩ := hG _ _ _ k4 (fun k hk => hel i hi k (by simp only [DataW.weights, he, List.map_cons, List.map_nil, DataW.weightsEach, List.mem_append]; exact .inr (.inl hk)))
      exact ⟨(x, y), ⟨by rw [k1, hx], by rw [k2, hy]⟩, wx, wy⟩
    obtain ⟨l, hl, hq⟩ := list_of len _ hex
    have hb := hsz ((len + (m - len)) * P.bytesOf e) (by
      rw [h6, DataW.weights, ht]
      simp)
    have hrb : reachBytes < 2 ^ 47 := reachBytes_lt
    have hmul : (len + (m - len)) * 16 ≤ (len + (m - len)) * P.bytesOf e := Nat.mul_le_mul_left _ hby
    refine ⟨some ad, len, m, l, rfl, by omega, ⟨hl, fun hn => ?_, by omega⟩, ?_⟩
    · obtain ⟨b, o, s⟩ := ad
      have hs : s = none := by
        have h0 := (h7 0 (by omega)).1
        simpa [Addr.add] using World.cell?_spot h0
      subst hs
      refine ⟨b, o, rfl, ?_, fun k x hx => ?_⟩
      · have := World.block_lt_of_cell? W _ (h7 0 (by omega)).1
        rwa [block_of_add] at this
      · have := (hq k x hx).1
        rw [Addr.add_lit, Addr.add_lit] at this
        exact this
    · have hsum := bulk_sum (fun x : A × B => wf x.1 + wg x.2 + 1) l ((List.range len).map fun i => DataW.agg [D0 i, D1 i]) (by simp [hl]) (fun i q d' e1 e2 => by
        have hi : i < len := by have := (List.getElem?_eq_some_iff.1 e1).1; omega
        rw [List.getElem?_map, List.getElem?_range hi] at e2
        have e3 : DataW.agg [D0 i, D1 i] = d' := by simpa using e2
        subst e3
        obtain ⟨_, w1, w2⟩ := hq i q e1
        simp only [Rows.uptoBulk, Rows.uptoBulkAll]
        omega)
      rw [h6]
      simp only [Rows.uptoBulk]
      omega
theorem join_wk (X : List ByteArray) : (Lib.join (lst X) [32]).length ≤ wk X := by
  induction X with
  | nil => simp [lst, Lib.join_nil]
  | cons a X ih =>
    have ha : a.size = a.data.toList.length := Lib.size_eq a
    have e : wk (a :: X) = a.size + 1 + wk X := rfl
    rw [e]
    cases X with
    | nil => show (Lib.join [a.data.toList] [32]).length ≤ _; rw [Lib.join_one]; omega
    | cons b X =>
      show (Lib.join (a.data.toList :: b.data.toList :: lst X) [32]).length ≤ _
      have hi' : (Lib.join (b.data.toList :: lst X) [32]).length ≤ wk (b :: X) := ih
      rw [join_two]
      simp only [List.length_append, List.length_cons, List.length_nil]
      omega
theorem wk_app (X Y : List ByteArray) : wk (X ++ Y) = wk X + wk Y := by unfold wk; rw [List.map_append, List.sum_append]
theorem wk_len (X : List ByteArray) : X.length ≤ wk X := sum_len (fun z : ByteArray => z.size + 1) (fun _ => Nat.le_add_left _ _)
def FileA (w : World) (v : Value) (_ : Unit) : Prop := ∃ F, FIv w F v ∧ ∀ x ∈ linesF F, x.length ≤ 1048600
def NLAt (w : World) (v : Value) (_ : Unit) : Prop := ∃ p n c zs, v = .slice p n c ∧ NLw w p n c zs ∧ n ≤ c ∧ ∀ x ∈ zs, x.size ≤ 1048576
set_option maxRecDepth 100000 in
theorem nlat_arg_upto {H : Type} {enc : TypeId × Value → H} {W : World} {r : Reach} {b0 : Nat} {v : Value} {d : DataW H} {p : List MemPlace}
    (_hok : Value.okWide Tryz.prog W r b0 23 v) (hf : DataW.Trod enc Tryz.prog W 0 (fun _ => true) true 23 v d p)
    (hsz : ∀ n, n ∈ d.weights Tryz.prog 23 → n ≤ reachBytes) (hbk : Rows.uptoBulk d ≤ 1048576) : ∃ g, NLAt W v g := by
  obtain ⟨a0, n0, c0, rfl⟩ := Go.WideShapes.okWide_slice Tryz.underlying23 _hok
  obtain ⟨fuel, hf⟩ := hf
  obtain ⟨a, len, cap, zs, hv, hN, hc, hw⟩ := nlw_bulk hf hsz
  refine ⟨(), a, len, cap, zs, hv, hN, hc, fun x hx => ?_⟩
  have := sum_mem (fun z : ByteArray => z.size + 1) hx
  unfold wk at hw
  omega
theorem strb1 {H : Type} {enc : TypeId × Value → H} {W : World} : ∀ n v x, DataW.trod enc Tryz.prog W 0 (fun _ => true) true n 9 [v] = some x → (∀ k, k ∈ x.1.weights Tryz.prog 9 → k ≤ reachBytes) → ∃ a : ByteArray, v = Value.string a ∧ a.size ≤ Rows.uptoBulk x.1 :=
  fun n v x h _ => strb n v x h
set_option maxHeartbeats 4000000 in
set_option maxRecDepth 100000 in
theorem file_arg_upto {H : Type} {enc : TypeId × Value → H} {W : World} {r : Reach} {b0 : Nat} {v : Value} {d : DataW H} {p : List MemPlace}
    (hok : Value.okWide Tryz.prog W r b0 43 v) (hf : DataW.Trod enc Tryz.prog W 0 (fun _ => true) true 43 v d p)
    (hsz : ∀ n, n ∈ d.weights Tryz.prog 43 → n ≤ reachBytes) (hbk : Rows.uptoBulk d ≤ 1048576) : ∃ g, FileA W v g := by
  have ht := Tryz.underlying43
  have hok2 := hok
  simp only [Value.okWide, ht] at hok2
  obtain ⟨cs, rfl, hcs, ts, hts, _, hcell⟩ := hok2
  have hc4 : cs.size = 4 := by rw [hcs]; kernel_rfl
  obtain ⟨fuel, hf⟩ := hf
  obtain ⟨xs, k, _, hxy, hlen, hxl, hff⟩ := DataW.trod_struct ht hf
  obtain ⟨l, rfl⟩ : ∃ l : List Value, cs = l.toArray := ⟨cs.toList, by simp⟩
  have hl4 : l.length = 4 := by simpa using hc4
  match l, hl4, xs, hxl with
  | [v0, v1, v2, v3], _, [y0, y1, y2, y3], _ =>
    have s0 : Tryz.prog.cellsOf 39 = 1 := by kernel_rfl
    have s1 : Tryz.prog.cellsOf 23 = 1 := by kernel_rfl
    have s2 : Tryz.prog.cellsOf 40 = 1 := by kernel_rfl
    have s3 : Tryz.prog.cellsOf 41 = 1 := by kernel_rfl
    have g0 := hff 0 _ rfl
    have g1 := hff 1 _ rfl
    have g2 := hff 2 _ rfl
    have g3 := hff 3 _ rfl
    simp [s0, s1, s2, s3, Value.cells] at g0 g1 g2 g3
    injection hxy with hd _
    subst hd
    have hw : ∀ n, (n ∈ y0.1.weights Tryz.prog 39 ∨ n ∈ y1.1.weights Tryz.prog 23 ∨ n ∈ y2.1.weights Tryz.prog 40 ∨ n ∈ y3.1.weights Tryz.prog 41) → n ≤ reachBytes := by
      intro n hn
      refine hsz n ?_
      simp only [DataW.weights, ht, List.map_cons, List.map_nil, DataW.weightsEach, List.mem_append]
      rcases hn with h | h | h | h
      · exact .inl h
      · exact .inr (.inl h)
      · exact .inr (.inr (.inl h))
      · exact .inr (.inr (.inr (.inl h)))
    simp only [List.map_cons, List.map_nil, Rows.uptoBulk, Rows.uptoBulkAll] at hbk
    obtain ⟨a0, n0, c0, l0, rfl, _, h0, b0'⟩ := p2_bulkw (A := ByteArray) (B := ByteArray) (fun a => Value.string a) (fun a => Value.string a) (fun a => a.size) (fun a => a.size) Tryz.underlying39 Tryz.underlying86 (by kernel_rfl) rfl rfl (by kernel_rfl) (by kernel_rfl) strb1 strb1 (by decide +kernel) g0 (fun n hn => hw n (.inl hn))
    obtain ⟨a1, n1, c1, z1, rfl, h1, h1c, b1'⟩ := nlw_bulk g1 (fun n hn => hw n (.inr (.inl hn)))
    obtain ⟨a2, n2, c2, l2, rfl, _, h2, b2'⟩ := p2_bulkw (A := ByteArray) (B := ByteArray) (fun a => Value.string a) (fun a => Value.string a) (fun a => a.size) (fun a => a.size) Tryz.underlying40 Tryz.underlying100 (by kernel_rfl) rfl rfl (by kernel_rfl) (by kernel_rfl) strb1 strb1 (by decide +kernel) g2 (fun n hn => hw n (.inr (.inr (.inl hn))))
    have hS : ∀ n v x, DataW.trod enc Tryz.prog W 0 (fun _ => true) true n 23 [v] = some x → (∀ k, k ∈ x.1.weights Tryz.prog 23 → k ≤ reachBytes) → ∃ a : {x : Hd // x.ok W}, v = a.1.v ∧ wk a.1.zs ≤ Rows.uptoBulk x.1 := by
      rintro n v ⟨d, p⟩ h hw
      obtain ⟨a, len, cap, zs, rfl, hN, hc, hb⟩ := nlw_bulk h hw
      exact ⟨⟨⟨a, len, cap, zs⟩, hN, hc⟩, rfl, by show wk zs ≤ _; simp only at hb ⊢; omega⟩
    obtain ⟨a3, n3, c3, l3, rfl, h3c, h3, b3'⟩ := p2_bulkw (A := {x : Hd // x.ok W}) (B := {x : Hd // x.ok W}) (fun a => a.1.v) (fun a => a.1.v) (fun a => wk a.1.zs) (fun a => wk a.1.zs) Tryz.underlying41 Tryz.underlying61 (by kernel_rfl) rfl rfl (by kernel_rfl) (by kernel_rfl) hS hS (by decide +kernel) g3 (fun n hn => hw n (.inr (.inr (.inr hn))))
    have m0 : ∀ x ∈ l0, x.1.size + x.2.size + 1 ≤ 1048576 := fun x hx => by
      have := sum_mem (fun x : ByteArray × ByteArray => x.1.size + x.2.size + 1) hx
      omega
    have m2 : ∀ x ∈ l2, x.1.size + x.2.size + 1 ≤ 1048576 := fun x hx => by
      have := sum_mem (fun x : ByteArray × ByteArray => x.1.size + x.2.size + 1) hx
      omega
    have m3 : ∀ x ∈ l3, wk x.1.1.zs + wk x.2.1.zs + 1 ≤ 1048576 := fun x hx => by
      have := sum_mem (fun x : {x : Hd // x.ok W} × {x : Hd // x.ok W} => wk x.1.1.zs + wk x.2.1.zs + 1) hx
      omega
    have e0 := sum_len (fun x : ByteArray × ByteArray => x.1.size + x.2.size + 1) (l := l0) (fun x => by omega)
    have e2 := sum_len (fun x : ByteArray × ByteArray => x.1.size + x.2.size + 1) (l := l2) (fun x => by omega)
    have e3 := sum_len (fun x : {x : Hd // x.ok W} × {x : Hd // x.ok W} => wk x.1.1.zs + wk x.2.1.zs + 1) (l := l3) (fun x => by omega)
    have e1 := wk_len z1
    have q0 := h0.len
    have q1 := h1.at_.len
    have q2 := h2.len
    have q3 := h3.len
    refine ⟨(), ⟨l0.map fun x => (x.1.data.toList, x.2.data.toList), z1, l2, l3.map fun x => (x.1.1.zs, x.2.1.zs)⟩, ⟨a0, n0, c0, a1, n1, c1, a2, n2, c2, a3, n3, c3, l3.map fun x => (x.1.1, x.2.1), rfl, ⟨⟨by rw [List.length_map]; exact h0.len, fun hp => ?_, h0.big⟩, h1, h2, ⟨⟨by rw [List.length_map]; exact h3.len, fun hp => ?_, h3.big⟩, fun x hx => ?_, h3c⟩, ?_⟩, h1c, ⟨by omega, by omega, by omega, by omega⟩, fun x hx => ?_⟩, fun x hx => ?_⟩
    · obtain ⟨b, o, e, hb, hc⟩ := h0.at_ hp
      refine ⟨b, o, e, hb, fun k x hx => ?_⟩
      rw [List.getElem?_map, Option.map_eq_some_iff] at hx
      obtain ⟨y, hy, rfl⟩ := hx
      have := hc k y hy
      unfold mF mG
      simp only [list_txt]
      exact this
    · obtain ⟨b, o, e, hb, hc⟩ := h3.at_ hp
      refine ⟨b, o, e, hb, fun k x hx => ?_⟩
      rw [List.getElem?_map, Option.map_eq_some_iff] at hx
      obtain ⟨y, hy, rfl⟩ := hx
      exact hc k y hy
    · obtain ⟨y, _, rfl⟩ := List.mem_map.1 hx
      exact ⟨y.1.2, y.2.2⟩
    · rw [List.map_map]
      rfl
    · obtain ⟨y, hy, rfl⟩ := List.mem_map.1 hx
      have := m3 y hy
      have := wk_len y.1.1.zs
      have := wk_len y.2.1.zs
      exact ⟨by show y.1.1.zs.length ≤ _; omega, by show y.2.1.zs.length ≤ _; omega⟩
    · rw [linesF_eq] at hx
      simp only [List.mem_append, List.mem_map] at hx
      rcases hx with ((⟨m, ⟨y, hy, rfl⟩, rfl⟩ | hx) | ⟨m, hm, rfl⟩) | ⟨q, ⟨y, hy, rfl⟩, rfl⟩
      · have := m0 y hy
        rw [Lib.size_eq, Lib.size_eq] at this
        unfold ln1
        simp only [List.length_append, List.length_cons, List.length_nil]
        omega
      · split at hx
        · cases hx
        · rw [List.mem_singleton.1 hx]
          have := join_wk z1
          unfold ln2
          have e : phonyS.data.toList.length = 6 := rfl
          simp only [List.length_append, List.length_cons, List.length_nil]
          omega
      · have := m2 m hm
        rw [Lib.size_eq, Lib.size_eq] at this
        unfold ln3
        simp only [List.length_append, List.length_cons, List.length_nil]
        omega
      · have h5 := m3 y hy
        have h6 := join_wk (y.1.1.zs ++ [(⟨#[58]⟩ : ByteArray)] ++ y.2.1.zs)
        rw [wk_app, wk_app] at h6
        have h7 : wk [(⟨#[58]⟩ : ByteArray)] = 2 := rfl
        show (ruleT y.1.1.zs y.2.1.zs).length ≤ _
        have h8 : (ruleT y.1.1.zs y.2.1.zs).length ≤ wk y.1.1.zs + wk [(⟨#[58]⟩ : ByteArray)] + wk y.2.1.zs := h6
        omega
end Go.Proofs.YtoiolepengcagaaGreatDoor
namespace Go.Proofs.YtoiolepengcagaaGreatDoor
open Go.RowKit Go.Shelf Go.Maps Go.Lib
set_option maxHeartbeats 1000000 in
set_option maxRecDepth 100000 in
theorem run_isnil (x : Option Addr) (n c : Nat) (u : World) : (binOp .eql 23 (.slice x n c) (.slice none 0 0)).run Tryz.prog u = .ok (.bool x.isNone) u := by
  exact Lib.run_eql_slice_nil u _ _ x n c 0 0 Tryz.underlying23
set_option maxHeartbeats 1000000 in
set_option maxRecDepth 100000 in
theorem clone_nlw (p : Option Addr) (n c : Nat) (zs : List ByteArray) (w : World) (h : NLw w p n c zs) (hn : n ≤ 8796093022208) :
    Calls Tryz.prog 16 #[.slice p n c] w fun e w' => (∃ (g : Option Addr) (cg : Nat), e = .returned (.slice g n cg) ∧ w'.ownsRow w.heap.size 9 1 (.slice g n cg) n (strsV zs)) ∧ Below w.heap.size w w' := by
  have HL := Lib.hid hn
  clear hn
  cases p with
  | none =>
    have h0 : n = 0 := by
      rcases Nat.eq_zero_or_pos n with h0 | h0
      · exact h0
      · obtain ⟨ad, e, _⟩ := h.at_.reads.2 h0
        cases e
    clear HL
    subst h0
    obtain rfl : zs = [] := List.length_eq_zero_iff.1 h.at_.len
    clear h
    have hnil := run_isnil none 0 c w
    simp only [Option.isNone_none] at hnil
    go_enter Tryz.func16, Tryz.ntmps16
    go_wp2
    go_ret
    exact ⟨⟨none, 0, rfl, World.ownsRow_nil _ _ _ _⟩, Below.refl _ _⟩
  | some ad =>
    obtain ⟨W, hW⟩ : ∃ W, W = w.alloc (.cells #[] 9) := ⟨_, rfl⟩
    have hb : Below w.heap.size w W := by rw [hW]; exact (Below.refl _ _).alloc (Nat.le_refl _) _
    have HO : Hid (W.ownsRow w.heap.size 9 1 (.slice (some ⟨w.heap.size, 0, none⟩) 0 0) 0 []) := by
      show World.ownsRow _ _ _ _ _ _ _
      rw [hW]
      exact World.ownsRow_made w #[] 0 (Nat.le_refl _) (Nat.zero_le _) rfl
    have HN := Lib.hid (h.below hb)
    have HB := Lib.hid hb
    clear h hb
    have hnil := run_isnil (some ad) n c w
    simp only [Option.isNone_some] at hnil
    go_enter Tryz.func16, Tryz.ntmps16
    go_upto_region 3 with fail
    go_wp2_with (at_builtin; rw [← hW]; refine app_nl _ rfl _ _ rfl w.heap.size _ 0 [] rfl HO.out _ _ _ _ rfl HN.out (by have := HL.out; omega) HB.out.size ?_; intro v' w7 hown7 hgrow7; have HG7 := Lib.hid hgrow7; have HX7 := Lib.hid hown7; obtain ⟨g7, c7, hv7⟩ := str_own hown7; clear hown7 hgrow7)
    subst hv7
    have hx := HX7.out
    rw [Nat.zero_add, List.nil_append] at hx
    have hb7 : Below w.heap.size w w7 := HB.out.grown (row := (Value.slice (some ⟨w.heap.size, 0, none⟩) 0 0).ownBlock) HG7.out HB.out.size (fun k hk => by injection hk with hk; subst hk; exact Nat.le_refl _)
    go_ret
    exact ⟨⟨g7, c7, rfl, hx⟩, hb7⟩
/-- what is asked of a closure at some texts: it decides, and leaves what there is as it was -/
def Decides (F : Nat) (caps : Array Value) (p : ByteArray → Bool) (base : Nat) (w : World) (zs : List ByteArray) : Prop :=
  ∀ (W : World) (x : ByteArray), x ∈ zs → Below base w W → base ≤ W.heap.size → Calls Tryz.prog F (#[.string x] ++ caps) W fun e w' => e = .returned (.bool (p x)) ∧ Below W.heap.size W w'
def FirstOf (p : ByteArray → Bool) (zs : List ByteArray) (r : Int) : Prop :=
  (r = -1 ∧ ∀ x ∈ zs, p x = false) ∨ ∃ k : Nat, k < zs.length ∧ r = k ∧ p (zs.getD k ByteArray.empty) = true ∧ ∀ x ∈ zs.take k, p x = false
set_option maxHeartbeats 2000000 in
theorem indexAny_ok (F : Nat) (caps : Array Value) (p : ByteArray → Bool) (base : Nat) (q : Option Addr) (n c : Nat) (zs : List ByteArray) (w : World)
    (ent : ∀ (args : Array Value) (u : World), (callFunc F args).run Tryz.prog u = .ok (.enter F args) u) (h : NL w q n c zs) (hD : Decides F caps p base w zs) (hb : base ≤ w.heap.size) :
    Calls Tryz.prog 38 #[.slice q n c, .func (.func F) #[] caps] w fun e w' => (∃ r : Int, e = .returned (.int .i64 r) ∧ FirstOf p zs r) ∧ Below w.heap.size w w' := by
  have hl := h.at_.len
  subst hl
  have hbig := h.at_.big
  have HN := Lib.hid h
  have HF := Lib.hid hD
  have HBS := Lib.hid hb
  clear h hD hb
  go_enter Tryz.func38, Tryz.ntmps38
  go_wp2
  go_loopw [8] (fun i wr => ∃ k : Nat, k ≤ zs.length ∧ i = .int .i64 k ∧ Hid (Below w.heap.size w wr) ∧ Hid (∀ x ∈ zs.take k, p x = false)) (fun i _ => zs.length - (intOf i).toNat)
  case atStart => exact ⟨0, Nat.zero_le _, rfl, Below.refl _ _, show ∀ x ∈ zs.take 0, _ from fun x hx => by cases hx⟩
  case round =>
    obtain ⟨k, hk, rfl, HB, HL⟩ := hrel
    by_cases hlt : k < zs.length
    · obtain ⟨ad, rfl, _, hc⟩ := str_at (HN.out.below HB.out).at_.reads hlt
      obtain ⟨s, hs⟩ : ∃ s, s = zs.getD k ByteArray.empty := ⟨_, rfl⟩
      have HS := Lib.hid hs
      rw [← hs] at hc
      have hm : s ∈ zs := by rw [hs, List.getD_eq_getElem?_getD, List.getElem?_eq_getElem hlt]; exact List.getElem_mem _
      have hcall := HF.out wr s hm (HB.out.mono HBS.out) (Nat.le_trans HBS.out HB.out.size)
      have HTK : Hid (zs.take (k + 1) = zs.take k ++ [s]) := by
        show _ = _
        rw [List.take_succ_eq_append_getElem hlt, hs, List.getD_eq_getElem?_getD, List.getElem?_eq_getElem hlt]
        rfl
      clear hs hm
      cases hps : p s with
      | true =>
        have HX := Lib.hid hps
        rw [hps] at hcall
        clear hps
        go_wp2_with (go_at_fn F; refine hcall.mono ?_; rintro e w' ⟨rfl, hb⟩; have HB2 := Lib.hid hb; clear hb)
        go_ret
        exact ⟨⟨_, rfl, .inr ⟨k, hlt, rfl, by rw [← HS.out]; exact HX.out, HL.out⟩⟩, HB.out.trans (HB2.out.mono HB.out.size)⟩
      | false =>
        have HX := Lib.hid hps
        rw [hps] at hcall
        clear hps
        go_wp2_with (go_at_fn F; refine hcall.mono ?_; rintro e w' ⟨rfl, hb⟩; have HB2 := Lib.hid hb; clear hb)
        go_roundw
        case rel =>
          refine ⟨k + 1, by omega, by go_num, HB.out.trans (HB2.out.mono HB.out.size), ?_⟩
          show ∀ x ∈ _, _
          rw [HTK.out]
          intro x hx
          rcases List.mem_append.1 hx with hx | hx
          · exact HL.out x hx
          · rw [List.mem_singleton.1 hx]; exact HX.out
        case measure => simp [intOf]; omega
    · have hkl : k = zs.length := by omega
      have HK := Lib.hid hkl
      go_wp2
      go_ret
      exact ⟨⟨_, rfl, .inl ⟨rfl, fun x hx => HL.out x (by rw [HK.out, List.take_length]; exact hx)⟩⟩, HB.out⟩
theorem own_setCells {e g m cap : Nat} {base : Nat} {xs : List Value} : ∀ (vs : List Value) (o : Nat) (w : World), w.ownsRow base e 1 (.slice (some ⟨g, 0, none⟩) m cap) m xs → m ≤ o → (w.setCells g o vs).ownsRow base e 1 (.slice (some ⟨g, 0, none⟩) m cap) m xs ∧ Below base w (w.setCells g o vs) := by
  intro vs
  induction vs with
  | nil => intro o w h _; exact ⟨h, Below.refl _ _⟩
  | cons v vs ih =>
    intro o w h ho
    have hl : xs.length = m := by have := h.1; simpa using this
    have h1 := (h.stored o v).1
    rw [List.set_eq_of_length_le (by omega)] at h1
    obtain ⟨i1, i2⟩ := ih (o + 1) _ h1 (by omega)
    have hg : base ≤ g := (h.lt g rfl).1
    exact ⟨i1, ((Below.refl _ _).setCell hg _).trans i2⟩
/-- the rows on the way: those kept so far, those not yet looked at -/
structure KeptI (p : ByteArray → Bool) (zs cur : List ByteArray) (i j : Nat) : Prop where
  len : cur.length = zs.length
  lt : i < j
  low : cur.take i = (zs.take j).filter fun x => !p x
  high : cur.drop j = zs.drop j
theorem KeptI.at_ {p : ByteArray → Bool} {zs cur : List ByteArray} {i j : Nat} (h : KeptI p zs cur i j) : cur.getD j ByteArray.empty = zs.getD j ByteArray.empty := by
  have h1 : (cur.drop j)[0]? = (zs.drop j)[0]? := by rw [h.high]
  rw [List.getElem?_drop, List.getElem?_drop] at h1
  rw [List.getD_eq_getElem?_getD, List.getD_eq_getElem?_getD, show j = j + 0 from rfl, h1]
theorem take_snocB {zs : List ByteArray} {j : Nat} (hj : j < zs.length) : zs.take (j + 1) = zs.take j ++ [zs.getD j ByteArray.empty] := by
  rw [List.take_succ_eq_append_getElem hj, List.getD_eq_getElem?_getD, List.getElem?_eq_getElem hj]
  rfl
theorem KeptI.skip {p : ByteArray → Bool} {zs cur : List ByteArray} {i j : Nat} (h : KeptI p zs cur i j) (hj : j < zs.length) (hp : p (zs.getD j ByteArray.empty) = true) : KeptI p zs cur i (j + 1) := by
  refine ⟨h.len, by have := h.lt; omega, ?_, ?_⟩
  · rw [take_snocB hj, List.filter_append, ← h.low]
    simp only [List.filter_cons, List.filter_nil, hp]
    simp
  · have := congrArg (List.drop 1) h.high
    rwa [List.drop_drop, List.drop_drop] at this
theorem KeptI.keep {p : ByteArray → Bool} {zs cur : List ByteArray} {i j : Nat} (h : KeptI p zs cur i j) (hj : j < zs.length) (hp : p (zs.getD j ByteArray.empty) = false) : KeptI p zs (cur.set i (zs.getD j ByteArray.empty)) (i + 1) (j + 1) := by
  have hl := h.len
  have hlt := h.lt
  refine ⟨by rw [List.length_set]; exact hl, by omega, ?_, ?_⟩
  · have e : cur.set i (zs.getD j ByteArray.empty) = cur.take i ++ zs.getD j ByteArray.empty :: cur.drop (i + 1) := List.set_eq_take_append_cons_drop ▸ by rw [if_pos (by omega)]
    have hk : (cur.take i).length = i := by rw [List.length_take]; omega
    rw [e, List.take_append, hk, List.take_of_length_le (by omega), show i + 1 - i = 1 by omega, List.take_succ_cons, List.take_zero, take_snocB hj, List.filter_append, ← h.low]
    simp only [List.filter_cons, List.filter_nil, hp]
    simp
  · rw [List.drop_set_of_lt (by omega)]
    have := congrArg (List.drop 1) h.high
    rwa [List.drop_drop, List.drop_drop] at this
theorem KeptI.start {p : ByteArray → Bool} {zs : List ByteArray} {k : Nat} (hk : k < zs.length) (hp : p (zs.getD k ByteArray.empty) = true) (h : ∀ x ∈ zs.take k, p x = false) : KeptI p zs zs k (k + 1) := by
  refine ⟨rfl, Nat.lt_succ_self k, ?_, rfl⟩
  rw [take_snocB hk, List.filter_append]
  simp only [List.filter_cons, List.filter_nil, hp]
  rw [List.filter_eq_self.2 (fun x hx => by rw [h x hx]; rfl)]
  simp
set_option maxHeartbeats 4000000 in
set_option maxRecDepth 100000 in
theorem delAny_ok (F : Nat) (caps : Array Value) (p : ByteArray → Bool) (base : Nat) (g : Option Addr) (n c : Nat) (zs : List ByteArray) (w : World)
    (ent : ∀ (args : Array Value) (u : World), (callFunc F args).run Tryz.prog u = .ok (.enter F args) u) (h : w.ownsRow base 9 1 (.slice g n c) n (strsV zs)) (hD : Decides F caps p base w zs) (hb : base ≤ w.heap.size)
    (hs : ∀ x ∈ zs, x.size ≤ 4611686018427387904) (hn : n * 16 ≤ 140737488351232) :
    Calls Tryz.prog 15 #[.slice g n c, .func (.func F) #[] caps] w fun e w' => (∃ m, e = .returned (.slice g m c) ∧ m = (zs.filter fun x => !p x).length ∧ w'.ownsRow base 9 1 (.slice g m c) m (strsV (zs.filter fun x => !p x))) ∧ Below base w w' := by
  have hl : zs.length = n := by have := h.1; simpa [strsV] using this
  subst hl
  have hN : NL w g zs.length c zs := NL_own h hs (by omega)
  have hI := indexAny_ok F caps p base g zs.length c zs w ent hN hD hb
  rcases Nat.eq_zero_or_pos zs.length with h0 | h0
  · have hz : zs = [] := List.length_eq_zero_iff.1 h0
    have hI2 : Calls Tryz.prog 38 #[.slice g zs.length c, .func (.func F) #[] caps] w fun e w' => e = .returned (.int .i64 (-1)) ∧ Below w.heap.size w w' := by
      refine hI.mono ?_
      rintro e w' ⟨⟨r, rfl, hr⟩, hb⟩
      rcases hr with ⟨rfl, _⟩ | ⟨k, hk, _⟩
      · exact ⟨rfl, hb⟩
      · omega
    have HI := Lib.hid hI2
    have HO := Lib.hid h
    have HZ := Lib.hid hz
    have HB0 := Lib.hid hb
    clear hI hI2 h hD hN hs hz h0
    go_enter Tryz.func15, Tryz.ntmps15
    go_wp2_with (go_at_call 38; refine HI.out.mono ?_; rintro e w1 ⟨rfl, hb1⟩; have HB1 := Lib.hid hb1; clear hb1)
    go_ret
    have e : (zs.filter fun x => !p x) = zs := by rw [HZ.out]; rfl
    rw [e]
    exact ⟨⟨_, rfl, rfl, own_belowR HO.out HB1.out⟩, HB1.out.mono HB0.out⟩
  · obtain ⟨g', c', hv, hg1, hg2⟩ := h.form h0
    injection hv with e1 e2 e3
    clear e2
    subst e1 e3
    have hcap : zs.length ≤ c ∧ c ≤ maxLen := by
      rcases h.2 with ⟨hv, _⟩ | ⟨g2, cap2, cur2, hv, _, _, h3, h4, _⟩
      · cases hv
      · injection hv with _ _ e
        subst e
        exact ⟨h3, h4⟩
    have HO := Lib.hid h
    have HC := Lib.hid hcap
    have HB0 := Lib.hid hb
    have HD := Lib.hid hD
    have HSZ := Lib.hid hs
    have HG := Lib.hid hg1
    obtain ⟨N, hN'⟩ : ∃ N, N = zs.length := ⟨_, rfl⟩
    rcases Classical.em (∃ k : Nat, k < zs.length ∧ p (zs.getD k ByteArray.empty) = true ∧ ∀ x ∈ zs.take k, p x = false) with ⟨k, hk, hp1, hp2⟩ | hno
    · have hI2 : Calls Tryz.prog 38 #[.slice (some ⟨g', 0, none⟩) zs.length c, .func (.func F) #[] caps] w fun e w' => e = .returned (.int .i64 (k : Int)) ∧ Below w.heap.size w w' := by
        refine hI.mono ?_
        rintro e w' ⟨⟨r, rfl, hr⟩, hb⟩
        rcases hr with ⟨rfl, ha⟩ | ⟨k', hk', rfl, q1, q2⟩
        · have := ha (zs.getD k ByteArray.empty) (by rw [List.getD_eq_getElem?_getD, List.getElem?_eq_getElem hk]; exact List.getElem_mem _)
          rw [hp1] at this
          cases this
        · have mem : ∀ i j : Nat, i < j → i < zs.length → zs.getD i ByteArray.empty ∈ zs.take j := by
            intro i j h1 h2
            rw [List.getD_eq_getElem?_getD, List.getElem?_eq_getElem h2]
            exact List.mem_iff_getElem.2 ⟨i, by rw [List.length_take]; omega, by rw [List.getElem_take]; rfl⟩
          rcases Nat.lt_trichotomy k k' with h1 | h1 | h1
          · have := q2 _ (mem k k' h1 hk)
            rw [hp1] at this
            cases this
          · rw [h1]; exact ⟨rfl, hb⟩
          · have := hp2 _ (mem k' k h1 hk')
            rw [q1] at this
            cases this
      have HI := Lib.hid hI2
      have HK := Lib.hid (KeptI.start hk hp1 hp2)
      have hne : ((k : Int) == -1) = false := beq_eq_false_iff_ne.2 (by omega)
      clear hI hI2 h hD hb hN hs hp1 hp2 hg1 hg2 hcap h0 hn
      have hk' : k < N := by omega
      have hc1 : N ≤ c := by have := HC.out.1; omega
      have hc2 : c ≤ 9223372036854775807 := by have := HC.out.2; unfold maxLen at this; omega
      rw [← hN'] at HI ⊢
      have HNE := Lib.hid hN'
      clear hN' hk
      go_enter Tryz.func15, Tryz.ntmps15
      go_wp2_with (go_at_call 38; refine HI.out.mono ?_; rintro e w1 ⟨rfl, hb1⟩; have HB1 := Lib.hid hb1; clear hb1)
      go_loopw [5, 6] (fun si sj wr => ∃ (i j : Nat) (cur : List ByteArray), si = .int .i64 i ∧ sj = .int .i64 j ∧ i < j ∧ j ≤ N ∧ Hid (KeptI p zs cur i j) ∧ Hid (Below base w wr) ∧ Hid (wr.ownsRow base 9 1 (.slice (some ⟨g', 0, none⟩) N c) N (strsV cur))) (fun _ sj _ => N - (intOf sj).toNat)
      case atStart => exact ⟨k, k + 1, zs, rfl, by go_num, Nat.lt_succ_self k, by omega, HK.out, HB1.out.mono HB0.out, by show World.ownsRow _ _ _ _ _ _ _; rw [HNE.out]; exact own_belowR HO.out HB1.out⟩
      case round =>
        obtain ⟨i, j, cur, rfl, rfl, hij, hjn, HKI, HBW, HOW⟩ := hrel
        by_cases hlt : j < N
        · have hcl : cur.length = N := by rw [HNE.out]; exact HKI.out.len
          have hcj : cur[j]? = some (zs.getD j ByteArray.empty) := by
            rw [← HKI.out.at_, List.getD_eq_getElem?_getD, List.getElem?_eq_getElem (by omega)]; rfl
          have hnz := HNE.out
          have hxm : zs.getD j ByteArray.empty ∈ zs := by rw [List.getD_eq_getElem?_getD, List.getElem?_eq_getElem (by omega)]; exact List.getElem_mem _
          have hx := HOW.out.cells (g := g') rfl j (.string (zs.getD j ByteArray.empty)) (by unfold strsV; rw [List.getElem?_map, hcj]; rfl)
          rw [Addr.add_lit, Nat.zero_add] at hx
          have hcall := HD.out wr _ hxm HBW.out (Nat.le_trans HB0.out (by have := HBW.out.size; omega))
          have HKS := Lib.hid (fun h => HKI.out.skip (by have := HNE.out; omega) h)
          have HKK := Lib.hid (fun h => HKI.out.keep (by have := HNE.out; omega) h)
          clear hcj hxm hcl hnz
          generalize zs.getD j ByteArray.empty = x at *
          cases hp : p x with
          | true =>
            rw [hp] at hcall
            have HKS2 := Lib.hid (HKS.out hp)
            clear hp HKS HKK
            go_wp2_with (go_at_fn F; refine hcall.mono ?_; rintro e w2 ⟨rfl, hb⟩; have HB2 := Lib.hid hb; clear hb)
            go_roundw
            case rel => exact ⟨i, j + 1, cur, rfl, by go_num, by omega, by omega, HKS2.out, HBW.out.trans (HB2.out.mono (by have := HBW.out.size; have := HB0.out; omega)), own_belowR HOW.out HB2.out⟩
            case measure => simp [intOf]; omega
          | false =>
            rw [hp] at hcall
            have HKK2 := Lib.hid (HKK.out hp)
            clear hp HKS HKK
            go_upto_region 9 with (go_at_fn F; refine hcall.mono ?_; rintro e w2 ⟨rfl, hb⟩; have HB2 := Lib.hid hb; clear hb)
            have HO2 := Lib.hid (own_belowR HOW.out HB2.out)
            have hfz := HO2.out.frozenAt i
            have hci : ∃ y, w2.cell? ⟨g', i, none⟩ = some y := by
              have := HO2.out.cells (g := g') rfl i (.string (cur.getD i ByteArray.empty)) (by unfold strsV; rw [List.getElem?_map, List.getD_eq_getElem?_getD, List.getElem?_eq_getElem (by have := HKI.out.len; have := HNE.out; omega)]; rfl)
              rw [Addr.add_lit, Nat.zero_add] at this
              exact ⟨_, this⟩
            obtain ⟨y9, hy9⟩ := hci
            have hi0 : (i : Int) < (N : Int) := by omega
            go_wp2
            go_roundw
            case rel =>
              have hw2 : base ≤ wr.heap.size := Nat.le_trans HB0.out (by have := HBW.out.size; have := HB1.out.size; omega)
              refine ⟨i + 1, j + 1, cur.set i x, by go_num, by go_num, by omega, by omega, HKK2.out, ?_, ?_⟩
              · exact (HBW.out.trans (HB2.out.mono hw2)).setCell HG.out _
              · have := (HO2.out.stored i (.string x)).1
                unfold strsV at this ⊢
                rw [List.map_set]
                exact this
            case measure => simp [intOf]; omega
        · obtain rfl : j = N := by omega
          have hcl : ∀ ty, (Builtin.clear_ #[23] ty #[.slice (some ⟨g', i, none⟩) (j - i) (c - i)]).run Tryz.prog wr = .ok (.tuple #[]) (wr.setCells g' i (List.replicate (j - i) (.string ⟨#[]⟩))) :=
            fun ty => Lib.run_clear_slice wr _ _ ty _ Tryz.underlying23 Tryz.zeroValue9 rfl rfl g' i _ _ (by omega) (fun t ht => by
              have hlt : i + t < cur.length := by have := HKI.out.len; have := HNE.out; omega
              have := HOW.out.cells (g := g') rfl (i + t) (.string (cur.getD (i + t) ByteArray.empty)) (by unfold strsV; rw [List.getElem?_map, List.getD_eq_getElem?_getD, List.getElem?_eq_getElem hlt]; rfl)
              rw [Addr.add_lit, Nat.zero_add] at this
              rw [this]; rfl) (fun t _ => HOW.out.frozenAt (i + t))
          have hij2 : (i : Int) ≤ (j : Int) := by omega
          have hic : i ≠ c := by omega
          clear HI HD
          go_wp2
          go_ret
          have hlow := HKI.out.low
          rw [HNE.out, List.take_length] at hlow
          have hl := HKI.out.len
          have hil : (zs.filter fun x => !p x).length = i := by rw [← hlow, List.length_take]; have := HNE.out; omega
          have hpre := own_prefix (m := i) HOW.out (by omega)
          rw [show (strsV cur).take i = strsV (zs.filter fun x => !p x) by rw [← hlow]; unfold strsV; rw [List.map_take]] at hpre
          obtain ⟨q1, q2⟩ := own_setCells (List.replicate (j - i) (.string ⟨#[]⟩)) i wr hpre (Nat.le_refl i)
          exact ⟨⟨i, rfl, hil.symm, q1⟩, HBW.out.trans q2⟩
    · have hall : ∀ x ∈ zs, p x = false := by
        have key : ∀ k, k ≤ zs.length → ∀ x ∈ zs.take k, p x = false := by
          intro k
          induction k with
          | zero => intro _ x hx; cases hx
          | succ k ih =>
            intro hk x hx
            rw [take_snocB (by omega)] at hx
            rcases List.mem_append.1 hx with hx | hx
            · exact ih (by omega) x hx
            · rw [List.mem_singleton.1 hx]
              cases hp : p (zs.getD k ByteArray.empty) with
              | false => rfl
              | true => exact absurd ⟨k, by omega, hp, ih (by omega)⟩ hno
        intro x hx
        exact key zs.length (Nat.le_refl _) x (by rw [List.take_length]; exact hx)
      have hI2 : Calls Tryz.prog 38 #[.slice (some ⟨g', 0, none⟩) zs.length c, .func (.func F) #[] caps] w fun e w' => e = .returned (.int .i64 (-1)) ∧ Below w.heap.size w w' := by
        refine hI.mono ?_
        rintro e w' ⟨⟨r, rfl, hr⟩, hb⟩
        rcases hr with ⟨rfl, ha⟩ | ⟨k', hk', rfl, q1, q2⟩
        · exact ⟨rfl, hb⟩
        · have := hall _ (show zs.getD k' ByteArray.empty ∈ zs by rw [List.getD_eq_getElem?_getD, List.getElem?_eq_getElem hk']; exact List.getElem_mem _)
          rw [q1] at this
          cases this
      have HI := Lib.hid hI2
      have HFL : Hid ((zs.filter fun x => !p x) = zs) := List.filter_eq_self.2 (fun x hx => by rw [hall x hx]; rfl)
      clear hI hI2 h hD hb hN hs hg1 hg2 hcap h0 hn hno hall
      have HNE := Lib.hid hN'
      rw [← hN'] at HI ⊢
      clear hN'
      go_enter Tryz.func15, Tryz.ntmps15
      go_wp2_with (go_at_call 38; refine HI.out.mono ?_; rintro e w1 ⟨rfl, hb1⟩; have HB1 := Lib.hid hb1; clear hb1)
      go_ret
      rw [HFL.out]
      exact ⟨⟨N, rfl, HNE.out, by rw [HNE.out]; exact own_belowR HO.out HB1.out⟩, HB1.out.mono HB0.out⟩
end Go.Proofs.YtoiolepengcagaaGreatDoor
namespace Go.Proofs.YtoiolepengcagaaGreatDoor
open Go.RowKit Go.Shelf Go.Maps
set_option maxHeartbeats 2000000 in
theorem ord1_ok (s : ByteArray) (hs : s.size ≤ 1048600) (w : World) :
    Calls Tryz.prog 13 #[.string s] w fun e w' => e = .returned (.bool (defB s.data.toList)) ∧ Below w.heap.size w w' := by
  cases hf : fst2 61 58 s.data.toList with
  | none =>
    have HE : Hid (defB s.data.toList = false) := by show _ = _; unfold defB; rw [hf]
    have HI := Lib.hid (fun u => indexAny_none s 61 58 (by decide) (by decide) (by omega) (fst2_free hf) u)
    clear hf
    go_enter Tryz.func13, Tryz.ntmps13
    go_wp2_with (go_at_call 14; refine (HI.out _).mono ?_; rintro e w1 ⟨rfl, hb⟩; have HB := Lib.hid hb; clear hb)
    go_ret
    exact ⟨by rw [HE.out]; rfl, HB.out⟩
  | some k =>
    have h1 := fst2_first hf
    have hk := h1.1
    have HI := Lib.hid (fun u => indexAny_some s 61 58 (by decide) (by decide) (by omega) k h1 u)
    obtain ⟨c, hc⟩ : ∃ c, s[k] = c := ⟨_, rfl⟩
    have hck : s.data.toList[k]? = some c := by rw [ba_at hk, hc]
    have hk63 : (k : Int) ≤ 1048600 := by omega
    have hd : defB s.data.toList = decide (c = 61) := by
      unfold defB
      rw [hf]
      simp only [hck]
      by_cases h : c = 61 <;> simp [h]
    rw [hd]
    clear hf h1 hck hd
    go_enter Tryz.func13, Tryz.ntmps13
    by_cases h61 : c = 61
    · have HC := Lib.hid h61
      go_wp2_with (go_at_call 14; refine (HI.out _).mono ?_; rintro e w1 ⟨rfl, hb⟩; have HB := Lib.hid hb; clear hb)
      go_ret
      rw [decide_eq_true HC.out]
      exact ⟨rfl, HB.out⟩
    · have hne : ((c.toNat : Int) == 61) = false := by
        rw [beq_eq_false_iff_ne]
        intro e
        exact h61 (UInt8.toNat_inj.1 (by show c.toNat = 61; omega))
      have HC : Hid (decide (c = 61) = false) := decide_eq_false h61
      clear h61
      go_wp2_with (go_at_call 14; refine (HI.out _).mono ?_; rintro e w1 ⟨rfl, hb⟩; have HB := Lib.hid hb; clear hb)
      go_ret
      rw [HC.out]
      exact ⟨rfl, HB.out⟩
set_option maxHeartbeats 1000000 in
/-- the closure that asks the other way round -/
theorem ord2_ok (B : Nat) (s : ByteArray) (hs : s.size ≤ 1048600) (w : World) (hc : w.cell? ⟨B, 0, none⟩ = some (.func (.func 13) #[] #[])) :
    Calls Tryz.prog 17 #[.string s, .pointer (some ⟨B, 0, none⟩)] w fun e w' => e = .returned (.bool (!defB s.data.toList)) ∧ Below w.heap.size w w' := by
  have HO := Lib.hid (ord1_ok s hs w)
  cases hd : defB s.data.toList with
  | true =>
    rw [hd] at HO
    clear hd
    go_enter Tryz.func17, Tryz.ntmps17
    go_wp2_with (go_at_call 13; refine HO.out.mono ?_; rintro e w1 ⟨rfl, hb⟩; have HB := Lib.hid hb; clear hb)
    go_ret
    exact ⟨rfl, HB.out⟩
  | false =>
    rw [hd] at HO
    clear hd
    go_enter Tryz.func17, Tryz.ntmps17
    go_wp2_with (go_at_call 13; refine HO.out.mono ?_; rintro e w1 ⟨rfl, hb⟩; have HB := Lib.hid hb; clear hb)
    go_ret
    exact ⟨rfl, HB.out⟩
end Go.Proofs.YtoiolepengcagaaGreatDoor
namespace Go.Proofs.YtoiolepengcagaaGreatDoor
open Go.RowKit Go.Shelf Go.Maps
theorem lst_filter (zs : List ByteArray) (p : List UInt8 → Bool) : lst (zs.filter fun x => p x.data.toList) = (lst zs).filter p := by
  unfold lst
  rw [List.filter_map]
  rfl
theorem lst_appO (a b : List ByteArray) : lst (a ++ b) = lst a ++ lst b := by unfold lst; rw [List.map_append]
theorem nlw_ownO {w : World} {base n c : Nat} {g : Option Addr} {zs : List ByteArray} (h : w.ownsRow base 9 1 (.slice g n c) n (strsV zs)) (hs : ∀ s ∈ zs, s.size ≤ 4611686018427387904) (hn : n * 16 ≤ 140737488351232) : NLw w g n c zs := (NL_own h hs hn).weak
set_option maxHeartbeats 16000000 in
set_option maxRecDepth 100000 in
theorem fileOrder_ok (p : Option Addr) (n c : Nat) (zs : List ByteArray) (w : World) (hl : NLw w p n c zs) (hM : MLm w) (hML : ML w) (hzs : ∀ x ∈ zs, x.size ≤ 1048576) :
    Calls Tryz.prog 4 #[.slice p n c] w fun e w' => e = .returned (.bool true) ∧ Below w.heap.size w w' := by
  have hlen := hl.at_.len
  have hrc := hl.reach
  subst hlen
  obtain ⟨ent13, h13⟩ : ∃ x : ∀ (args : Array Value) (u : World), (callFunc 13 args).run Tryz.prog u = .ok (.enter 13 args) u, True := ⟨enters_of Tryz.func13 (by kernel_rfl) rfl, trivial⟩
  obtain ⟨ent17, h17⟩ : ∃ x : ∀ (args : Array Value) (u : World), (callFunc 17 args).run Tryz.prog u = .ok (.enter 17 args) u, True := ⟨enters_of Tryz.func17 (by kernel_rfl) rfl, trivial⟩
  obtain ⟨F1, hF1⟩ : ∃ F1, F1 = zs.filter fun x => defB x.data.toList := ⟨_, rfl⟩
  obtain ⟨F2, hF2⟩ : ∃ F2, F2 = zs.filter fun x => !defB x.data.toList := ⟨_, rfl⟩
  have hsz : ∀ x ∈ zs, x.size ≤ 4611686018427387904 := fun x hx => Nat.le_trans (hzs x hx) (by decide)
  have HD1 : Hid (∀ (u : World) (base B : Nat) (g : Option Addr) (cg : Nat), u.ownsRow base 9 1 (.slice g zs.length cg) zs.length (strsV zs) → base ≤ u.heap.size → B < base → u.cell? ⟨B, 0, none⟩ = some (.func (.func 13) #[] #[]) →
      Calls Tryz.prog 15 #[.slice g zs.length cg, .func (.func 17) #[] #[.pointer (some ⟨B, 0, none⟩)]] u fun e w' => (∃ m, e = .returned (.slice g m cg) ∧ m = F1.length ∧ w'.ownsRow base 9 1 (.slice g m cg) m (strsV F1)) ∧ Below base u w') := by
    show ∀ (u : World) (base B : Nat) (g : Option Addr) (cg : Nat), _
    intro u base B g cg ho hb hB hc
    have := delAny_ok 17 #[.pointer (some ⟨B, 0, none⟩)] (fun x => !defB x.data.toList) base g zs.length cg zs u ent17 ho (fun W x hx hW _ => by
      refine ord2_ok B x (Nat.le_trans (hzs x hx) (by decide)) W ?_
      unfold World.cell? at hc ⊢
      simp only at hc ⊢
      rw [hW.block B hB]
      exact hc) hb hsz hrc
    simp only [Bool.not_not] at this
    rw [← hF1] at this
    exact this
  have HD2 : Hid (∀ (u : World) (base : Nat) (g : Option Addr) (cg : Nat), u.ownsRow base 9 1 (.slice g zs.length cg) zs.length (strsV zs) → base ≤ u.heap.size →
      Calls Tryz.prog 15 #[.slice g zs.length cg, .func (.func 13) #[] #[]] u fun e w' => (∃ m, e = .returned (.slice g m cg) ∧ m = F2.length ∧ w'.ownsRow base 9 1 (.slice g m cg) m (strsV F2)) ∧ Below base u w') := by
    show ∀ (u : World) (base : Nat) (g : Option Addr) (cg : Nat), _
    intro u base g cg ho hb
    have := delAny_ok 13 #[] (fun x => defB x.data.toList) base g zs.length cg zs u ent13 ho (fun W x hx _ _ => ord1_ok x (Nat.le_trans (hzs x hx) (by decide)) W) hb hsz hrc
    rw [← hF2] at this
    exact this
  have HCL : Hid (∀ u : World, Below w.heap.size w u → Calls Tryz.prog 16 #[.slice p zs.length c] u fun e w' => (∃ (g : Option Addr) (cg : Nat), e = .returned (.slice g zs.length cg) ∧ w'.ownsRow u.heap.size 9 1 (.slice g zs.length cg) zs.length (strsV zs)) ∧ Below u.heap.size u w') := by
    show ∀ u : World, _
    exact fun u hu => clone_nlw p zs.length c zs u (hl.below hu) (by omega)
  obtain ⟨h1, h2⟩ := order_law (lst zs)
  have e12 : lst (F1 ++ F2) = (lst zs).filter defB ++ (lst zs).filter fun s => !defB s := by
    rw [lst_appO, hF1, hF2, lst_filter zs defB, lst_filter zs (fun s => !defB s)]
  have e21 : lst (F2 ++ F1) = ((lst zs).filter fun s => !defB s) ++ (lst zs).filter defB := by
    rw [lst_appO, hF1, hF2, lst_filter zs defB, lst_filter zs (fun s => !defB s)]
  rw [← e12, ← e21] at h1 h2
  have hf1 : ∀ x ∈ F1, x.size ≤ 1048576 := fun x hx => hzs x (by rw [hF1] at hx; exact (List.mem_filter.1 hx).1)
  have hf2 : ∀ x ∈ F2, x.size ≤ 1048576 := fun x hx => hzs x (by rw [hF2] at hx; exact (List.mem_filter.1 hx).1)
  have hl1 : F1.length ≤ zs.length := by rw [hF1]; exact List.length_filter_le _ _
  have hl2 : F2.length ≤ zs.length := by rw [hF2]; exact List.length_filter_le _ _
  have hl12 : F1.length + F2.length = zs.length := by
    rw [hF1, hF2]
    have : ∀ l : List ByteArray, (l.filter fun x => defB x.data.toList).length + (l.filter fun x => !defB x.data.toList).length = l.length := by
      intro l
      induction l with
      | nil => rfl
      | cons x l ih => cases hx : defB x.data.toList <;> simp [hx] <;> omega
    exact this zs
  obtain ⟨G, hG⟩ : ∃ G, G = (parseF (lst (F1 ++ F2))).1 := ⟨_, rfl⟩
  obtain ⟨E, hE⟩ : ∃ E, E = (parseF (lst (F1 ++ F2))).2.2 := ⟨_, rfl⟩
  have HP1 : Hid (∀ (u : World) (q : Option Addr) (m d : Nat), Below w.heap.size w u → NLw u q m d (F1 ++ F2) → Calls Tryz.prog 18 #[.slice q m d] u fun e w' => (∃ N a1 a2 a3 b1 b2 b3 c1 c2 c3 d1 d2 d3, e = .returned (.tuple #[.agg #[.slice a1 a2 a3, .slice b1 b2 b3, .slice c1 c2 c3, .slice d1 d2 d3], .int .i64 N, .int .i64 E]) ∧ FIv w' G (fv a1 a2 a3 b1 b2 b3 c1 c2 c3 d1 d2 d3)) ∧ Below u.heap.size u w') := by
    show ∀ (u : World) (q : Option Addr) (m d : Nat), _
    intro u q m d hu hn
    refine (parse_nlw hn (hM.below hu) (fun x hx => ?_)).mono ?_
    · rcases List.mem_append.1 hx with hx | hx
      · exact Nat.le_trans (hf1 x hx) (by decide)
      · exact Nat.le_trans (hf2 x hx) (by decide)
    · rintro e w' ⟨⟨a1, a2, a3, b1, b2, b3, c1, c2, c3, d1, d2, d3, he, hf⟩, hb⟩
      rw [← hE] at he
      rw [← hG] at hf
      exact ⟨⟨_, _, _, _, _, _, _, _, _, _, _, _, _, he, hf⟩, hb⟩
  have HP2 : Hid (∀ (u : World) (q : Option Addr) (m d : Nat), Below w.heap.size w u → NLw u q m d (F2 ++ F1) → Calls Tryz.prog 18 #[.slice q m d] u fun e w' => (∃ N a1 a2 a3 b1 b2 b3 c1 c2 c3 d1 d2 d3, e = .returned (.tuple #[.agg #[.slice a1 a2 a3, .slice b1 b2 b3, .slice c1 c2 c3, .slice d1 d2 d3], .int .i64 N, .int .i64 E]) ∧ FIv w' G (fv a1 a2 a3 b1 b2 b3 c1 c2 c3 d1 d2 d3)) ∧ Below u.heap.size u w') := by
    show ∀ (u : World) (q : Option Addr) (m d : Nat), _
    intro u q m d hu hn
    refine (parse_nlw hn (hM.below hu) (fun x hx => ?_)).mono ?_
    · rcases List.mem_append.1 hx with hx | hx
      · exact Nat.le_trans (hf2 x hx) (by decide)
      · exact Nat.le_trans (hf1 x hx) (by decide)
    · rintro e w' ⟨⟨a1, a2, a3, b1, b2, b3, c1, c2, c3, d1, d2, d3, he, hf⟩, hb⟩
      rw [← h2, ← hE] at he
      rw [← h1, ← hG] at hf
      exact ⟨⟨_, _, _, _, _, _, _, _, _, _, _, _, _, he, hf⟩, hb⟩
  have HSZ : Hid ((∀ x ∈ F1, x.size ≤ 4611686018427387904) ∧ (∀ x ∈ F2, x.size ≤ 4611686018427387904) ∧ F1.length * 16 ≤ 140737488351232 ∧ F2.length * 16 ≤ 140737488351232 ∧ F1.length + F2.length ≤ 8796093022208 ∧ (F1 ++ F2).length * 16 ≤ 140737488351232 ∧ (F2 ++ F1).length * 16 ≤ 140737488351232) :=
    ⟨fun x hx => Nat.le_trans (hf1 x hx) (by decide), fun x hx => Nat.le_trans (hf2 x hx) (by decide), by omega, by omega, by omega, by rw [List.length_append]; omega, by rw [List.length_append]; omega⟩
  have HFS := Lib.hid (fun u (hu : Below w.heap.size w u) => files_ok u (hML.below hu))
  clear h1 h2 e12 e21 hf1 hf2 hl1 hl2 hl12 hG hE hF1 hF2 hsz hl hrc hM hML hzs h13 h17 ent13 ent17
  obtain ⟨Z, hZ⟩ : ∃ Z, Z = zs.length := ⟨_, rfl⟩
  rw [← hZ] at HD1 HD2 HCL ⊢
  clear hZ
  go_enter Tryz.func4, Tryz.ntmps4
  go_upto_region 3 with (go_at_call 7; refine (HFS.out _ (Below.refl _ _)).mono ?_; rintro e w1 ⟨rfl, hb1⟩; have HB1 := Lib.hid hb1; clear hb1)
  go_upto_region 4 with fail
  obtain ⟨V, hV⟩ : ∃ V, V = w1.alloc (.cells #[.func (.func 13) #[] #[]] 36) := ⟨_, rfl⟩
  have hbV : Below w1.heap.size w1 V := by rw [hV]; exact rb1w _ _
  have hsV : V.heap.size = w1.heap.size + 1 := by rw [hV]; simp
  have hcV : V.heap[w1.heap.size]? = some (.cells #[.func (.func 13) #[] #[]] 36 (0, 0)) := by rw [hV]; exact rb_new _ _
  have HBV := Lib.hid (HB1.out.trans (hbV.mono HB1.out.size))
  have HCV : Hid (∀ u : World, Below V.heap.size V u → u.cell? ⟨w1.heap.size, 0, none⟩ = some (.func (.func 13) #[] #[])) := by
    show ∀ u : World, _
    intro u hu
    unfold World.cell?
    simp only
    rw [hu.block _ (by omega), hcV]
    rfl
  rw [← hV]
  clear hV hbV hcV
  have HSV := Lib.hid hsV
  clear hsV
  have hmf : ∀ (fn : Fn) (first cap : Array Value) (w : World), (Instr.makeFunc fn first cap).run Tryz.prog w = .ok (.func fn first cap) w := fun _ _ _ _ => rfl
  go_upto_region 5 with (first
    | (have h7 := HO4; clear h7; go_at_call 15; refine (HD1.out w4 V.heap.size w1.heap.size g4 c4 HO4.out HB4.out.size (by have := HSV.out; omega) (HCV.out w4 HB4.out)).mono ?_; rintro e w5 ⟨⟨m1, rfl, hm1, ho5⟩, hb5⟩; have HM1 := Lib.hid hm1; have HO5 := Lib.hid ho5; have HB5 := Lib.hid (HB4.out.trans hb5); clear hm1 ho5 hb5)
    | (go_at_call 16; refine (HCL.out V HBV.out).mono ?_; rintro e w4 ⟨⟨g4, c4, rfl, ho4⟩, hb4⟩; have HO4 := Lib.hid ho4; have HB4 := Lib.hid hb4; clear ho4 hb4))
  have HVV : Hid (∀ u : World, Below V.heap.size V u → Below w.heap.size w u) := fun u hu => HBV.out.trans (hu.mono HBV.out.size)
  have HD5 : Hid (Below V.heap.size V w5.drew) := HB5.out.drew
  have HC5 := Lib.hid (HCL.out w5.drew (HVV.out _ HD5.out))
  go_region_held3 (fun u : World => u.cell? ⟨w1.heap.size, 0, none⟩ = some (.func (.func 13) #[] #[]))
    (first | exact HCV.out _ HK7.out | exact HCV.out _ HB6.out | exact HCV.out _ HD5.out)
    (first
      | (have h7 := HO6; clear h7; go_at_call 15; refine (HD2.out w6 w5.drew.heap.size g6 c6 HO6.out HS6.out).mono ?_; rintro e w7 ⟨⟨m2, rfl, hm2, ho7⟩, hb7⟩; have HM2 := Lib.hid hm2; have HO7 := Lib.hid ho7; have HB7 := Lib.hid hb7; have HK7 := Lib.hid (HB6.out.trans (hb7.mono HD5.out.size)); clear hm2 ho7 hb7)
      | (go_at_call 16; refine HC5.out.mono ?_; rintro e w6 ⟨⟨g6, c6, rfl, ho6⟩, hb6⟩; have HO6 := Lib.hid ho6; have HS6 := Lib.hid hb6.size; have HB6 := Lib.hid (HD5.out.trans (hb6.mono HD5.out.size)); have HQ6 := Lib.hid hb6; clear ho6 hb6))
  have hb57 : Below w5.heap.size w5 w7 := ((Below.refl w5.heap.size w5).drew.trans HQ6.out).trans HB7.out
  have hn1 : NLw w7 g4 m1 c4 F1 := (nlw_ownO HO5.out (HSZ.out.1) (by rw [HM1.out]; exact HSZ.out.2.2.1)).below hb57
  have hn2 : NLw w7 g6 m2 c6 F2 := nlw_ownO HO7.out (HSZ.out.2.1) (by rw [HM2.out]; exact HSZ.out.2.2.2.1)
  have HBW7 := Lib.hid (HVV.out _ (HB5.out.trans (hb57.mono HB5.out.size)))
  have HN1 := Lib.hid (fun u (hu : Below w7.heap.size w7 u) => hn1.below hu)
  have HN2 := Lib.hid (fun u (hu : Below w7.heap.size w7 u) => hn2.below hu)
  have HMS : Hid (m1 + m2 ≤ 8796093022208 ∧ m2 + m1 ≤ 8796093022208) := by
    refine ⟨?_, ?_⟩
    · rw [HM1.out, HM2.out]; exact HSZ.out.2.2.2.2.1
    · rw [HM1.out, HM2.out]; have := HSZ.out.2.2.2.2.1; omega
  clear HK7 HO4 HB4 HO5 HB5 HO6 HS6 HB6 HQ6 HO7 HB7 HC5 HD5 hb57 hn1 hn2 hmf HD1 HD2 HCL HCV HSV HVV HBV HM1 HM2
  obtain ⟨X12, hX12⟩ : ∃ X, X = F1 ++ F2 := ⟨_, rfl⟩
  obtain ⟨X21, hX21⟩ : ∃ X, X = F2 ++ F1 := ⟨_, rfl⟩
  have HCA : Hid (∀ (u : World) (b : Nat), Below w7.heap.size w7 u → b < u.heap.size → u.cell? ⟨b, 0, none⟩ = some (.slice g4 m1 c4) → u.cell? ⟨b, 1, none⟩ = some (.slice g6 m2 c6) → Calls Tryz.prog 11 #[.slice (some ⟨b, 0, none⟩) 2 2] u fun e w' => (∃ g k c, e = .returned (.slice g k c) ∧ NLw w' g k c X12) ∧ Below u.heap.size u w') := by
    show ∀ (u : World) (b : Nat), _
    intro u b hu hb k0 k1
    refine (concat_two (HN1.out u hu) (HN2.out u hu) HMS.out.1 k0 k1 hb).mono ?_
    intro e w' hp
    obtain ⟨g, c, he, hn, _, hb⟩ := hp.elim (fun s hs => (List.mem_append.1 hs).elim (HSZ.out.1 s) (HSZ.out.2.1 s)) HSZ.out.2.2.2.2.2.1
    rw [← hX12] at hn
    exact ⟨⟨g, _, c, he, by rw [hX12] at hn ⊢; exact hn.weak⟩, hb⟩
  have HCB : Hid (∀ (u : World) (b : Nat), Below w7.heap.size w7 u → b < u.heap.size → u.cell? ⟨b, 0, none⟩ = some (.slice g6 m2 c6) → u.cell? ⟨b, 1, none⟩ = some (.slice g4 m1 c4) → Calls Tryz.prog 11 #[.slice (some ⟨b, 0, none⟩) 2 2] u fun e w' => (∃ g k c, e = .returned (.slice g k c) ∧ NLw w' g k c X21) ∧ Below u.heap.size u w') := by
    show ∀ (u : World) (b : Nat), _
    intro u b hu hb k0 k1
    refine (concat_two (HN2.out u hu) (HN1.out u hu) HMS.out.2 k0 k1 hb).mono ?_
    intro e w' hp
    obtain ⟨g, c, he, hn, _, hb⟩ := hp.elim (fun s hs => (List.mem_append.1 hs).elim (HSZ.out.2.1 s) (HSZ.out.1 s)) HSZ.out.2.2.2.2.2.2
    rw [← hX21] at hn
    exact ⟨⟨g, _, c, he, by rw [hX21] at hn ⊢; exact hn.weak⟩, hb⟩
  rw [← hX12] at HP1
  rw [← hX21] at HP2
  clear hX12 hX21 HN1 HN2 HMS HSZ
  obtain ⟨W8, hW8⟩ : ∃ W8, W8 = w7.alloc (.cells #[.slice g4 m1 c4, .slice g6 m2 c6] 23) := ⟨_, rfl⟩
  have hb8 : Below w7.heap.size w7 W8 := by rw [hW8]; exact rb1w _ _
  have HC8 := Lib.hid (HCA.out W8 w7.heap.size hb8 (by rw [hW8]; simp) (by rw [hW8]; simp) (by rw [hW8]; simp))
  have HB8 := Lib.hid (HBW7.out.trans (hb8.mono HBW7.out.size))
  have HB78 := Lib.hid hb8
  clear hb8 HCA
  go_upto_region 7 with (first
    | (go_at_call 11; rw [← hW8]; clear hW8; refine HC8.out.mono ?_; rintro e w9 ⟨⟨g9, k9, c9, rfl, hn9⟩, hb9⟩; have HN9 := Lib.hid hn9; have HB9 := Lib.hid (HB8.out.trans (hb9.mono HB8.out.size)); have HB79 := Lib.hid (HB78.out.trans (hb9.mono HB78.out.size)); clear hn9 hb9)
    | (go_at_call 18; refine (HP1.out w9 _ _ _ HB9.out HN9.out).mono ?_; rintro e w10 ⟨⟨N1, a1, a2, a3, b1, b2, b3, e1, e2, e3, d1, d2, d3, rfl, hf10⟩, hb10⟩; have HF10 := Lib.hid hf10; have HB10 := Lib.hid (HB9.out.trans (hb10.mono HB9.out.size)); have HB710 := Lib.hid (HB79.out.trans (hb10.mono HB79.out.size)); clear hf10 hb10))
  obtain ⟨Wb, hWb⟩ : ∃ Wb, Wb = w10.alloc (.cells #[.slice a1 a2 a3, .slice b1 b2 b3, .slice e1 e2 e3, .slice d1 d2 d3] 43) := ⟨_, rfl⟩
  have hbWb : Below w10.heap.size w10 Wb := by rw [hWb]; exact rb1w _ _
  have hsb : Wb.heap.size = w10.heap.size + 1 := by rw [hWb]; simp
  have hzb : Wb.heap[w10.heap.size]? = some (.cells #[.slice a1 a2 a3, .slice b1 b2 b3, .slice e1 e2 e3, .slice d1 d2 d3] 43 (0, 0)) := by rw [hWb]; exact rb_new _ _
  have HBb := Lib.hid (HB10.out.trans (hbWb.mono HB10.out.size))
  have HB7b := Lib.hid (HB710.out.trans (hbWb.mono HB710.out.size))
  have HZb := Lib.hid hzb
  have HFb := Lib.hid (HF10.out.below hbWb)
  rw [← hWb]
  have HSb := Lib.hid hsb
  clear hWb hbWb hzb hsb HF10 HB10 HB710 HB9 HB79 HN9 HC8 HB8 HB78 HP1
  obtain ⟨W12, hW12⟩ : ∃ W12, W12 = Wb.alloc (.cells #[.slice g6 m2 c6, .slice g4 m1 c4] 23) := ⟨_, rfl⟩
  have hb12 : Below Wb.heap.size Wb W12 := by rw [hW12]; exact rb1w _ _
  have HC12 := Lib.hid (HCB.out W12 Wb.heap.size (HB7b.out.trans (hb12.mono HB7b.out.size)) (by rw [hW12]; simp) (by rw [hW12]; simp) (by rw [hW12]; simp))
  have HB12 := Lib.hid (HBb.out.trans (hb12.mono HBb.out.size))
  have HBb12 := Lib.hid hb12
  clear hb12 HCB HB7b HBW7
  go_upto_region 8 with (first
    | (go_at_call 11; rw [← hW12]; clear hW12; refine HC12.out.mono ?_; rintro e w13 ⟨⟨g13, k13, c13, rfl, hn13⟩, hb13⟩; have HN13 := Lib.hid hn13; have HB13 := Lib.hid (HB12.out.trans (hb13.mono HB12.out.size)); have HBb13 := Lib.hid (HBb12.out.trans (hb13.mono HBb12.out.size)); clear hn13 hb13)
    | (go_at_call 18; refine (HP2.out w13 _ _ _ HB13.out HN13.out).mono ?_; rintro e w14 ⟨⟨N2, q1, q2, q3, r1, r2, r3, s1, s2, s3, t1, t2, t3, rfl, hf14⟩, hb14⟩; have HF14 := Lib.hid hf14; have HB14 := Lib.hid (HB13.out.trans (hb14.mono HB13.out.size)); have HBb14 := Lib.hid (HBb13.out.trans (hb14.mono HBb13.out.size)); clear hf14 hb14))
  obtain ⟨Wd, hWd⟩ : ∃ Wd, Wd = w14.alloc (.cells #[.slice q1 q2 q3, .slice r1 r2 r3, .slice s1 s2 s3, .slice t1 t2 t3] 43) := ⟨_, rfl⟩
  have hbWd : Below w14.heap.size w14 Wd := by rw [hWd]; exact rb1w _ _
  have hzd : Wd.heap[w14.heap.size]? = some (.cells #[.slice q1 q2 q3, .slice r1 r2 r3, .slice s1 s2 s3, .slice t1 t2 t3] 43 (0, 0)) := by rw [hWd]; exact rb_new _ _
  have HBd := Lib.hid (HB14.out.trans (hbWd.mono HB14.out.size))
  have hbbd : Below Wb.heap.size Wb Wd := HBb14.out.trans (hbWd.mono HBb14.out.size)
  have hzb2 : Wd.heap[w10.heap.size]? = some (.cells #[.slice a1 a2 a3, .slice b1 b2 b3, .slice e1 e2 e3, .slice d1 d2 d3] 43 (0, 0)) := by rw [hbbd.block _ (by have := HSb.out; omega)]; exact HZb.out
  have HSA := Lib.hid (same_yes (HFb.out.below hbbd) (HF14.out.below hbWd))
  rw [← hWd]
  clear hWd hbWd hbbd
  obtain ⟨⟨y0, y1, y2, y3⟩, _⟩ := boxF hzb2
  obtain ⟨⟨z0, z1, z2, z3⟩, _⟩ := boxF hzd
  clear hzb2 hzd
  go_wp2_with (go_at_call 19; refine HSA.out.mono ?_; rintro e w16 ⟨rfl, hb16⟩; have HB16 := Lib.hid (HBd.out.trans (hb16.mono HBd.out.size)); clear hb16)
  go_ret
  exact ⟨rfl, HB16.out⟩
end Go.Proofs.YtoiolepengcagaaGreatDoor
namespace Go.Proofs.YtoiolepengcagaaGreatDoor
open Go.RowKit Go.Shelf Go.Maps
section
variable {base B : Nat} {T : Bl → Option Bl} {op : List Bl} {many : Nat} {out : List Bl} {r : RR} {w w5 : World}
theorem RSt.push (h : RSt base B T op many out r w) {x : Bl} {p : Option Addr} {c : Nat} (hx : x.length ≤ 1048576) (hg : w.grownBy w5 (r.o op).ownBlock) (hl : op.length + 1 ≤ 1000)
    (ho : w5.ownsRow base 9 1 (.slice p (op.length + 1) c) (op.length + 1) (strsV (op.map txt ++ [txt x])))
    (hlies : (Value.slice p (op.length + 1) c).ownBlock = (r.o op).ownBlock ∨ (Value.slice p (op.length + 1) c).ownBlock = some w.heap.size) :
    w5.heap[B]? = some (.cells #[.map (some r.bm), r.o op, .int .i64 (many : Int), r.q out] 69 (0, 0)) ∧ RSt base B T (op ++ [x]) many out { r with po := p, co := c } (w5.setCell ⟨B, 1, none⟩ (.slice p (op.length + 1) c)) := by
  have hb := h.boxAt hg (fun k hk => (h.rowO.lt k hk).1)
  have hln : (op ++ [x]).length = op.length + 1 := by simp
  refine ⟨hb, ⟨?_, h.lt, ?_, h.mlt, ?_, ?_, ?_, ?_, h.sq, by rw [hln]; exact hl, h.lq, h.lm⟩⟩
  · have := (boxF_set hb (.slice p (op.length + 1) c)).2.1
    rw [this]
    unfold RR.o
    rw [hln]
    rfl
  · exact (h.map.kept hg (fun e => by have := (h.rowO.lt _ e.symm).1; have := h.mlt; have := h.lt; omega)).set (by have := h.mlt; show r.bm ≠ B; omega)
  · have := own_set (i := 1) (u := .slice p (op.length + 1) c) ho h.lt
    unfold RR.o
    rw [hln, List.map_append]
    exact this
  · refine own_step h.rowQ hg ?_ h.lt
    show (r.q out).ownBlock = none ∨ (r.q out).ownBlock ≠ (r.o op).ownBlock
    rcases h.apart with e | e
    · rcases hq : (r.q out).ownBlock with _ | k
      · exact .inl rfl
      · exact .inr (by rw [e]; simp)
    · exact .inr e.symm
  · show _ = none ∨ _ ≠ (r.q out).ownBlock
    unfold RR.o
    rw [hln]
    rcases hlies with e | e
    · rw [e]; exact h.apart
    · rw [e]
      right
      intro e2
      have := (h.rowQ.lt _ e2.symm).2
      omega
  · intro y hy
    rcases List.mem_append.1 hy with hy | hy
    · exact h.so y hy
    · rw [List.mem_singleton.1 hy]; exact hx
theorem RSt.pop {x : Bl} (h : RSt base B T (op ++ [x]) many out r w) : RSt base B T op many out r (w.setCell ⟨B, 1, none⟩ (.slice r.po op.length r.co)) ∧ (r.o op).ownBlock = (r.o (op ++ [x])).ownBlock := by
  have hln : (op ++ [x]).length = op.length + 1 := by simp
  have hO := h.rowO
  unfold RR.o at hO
  rw [hln] at hO
  obtain ⟨g, c, e, h1, h2⟩ := hO.form (by omega)
  injection e with e1 e2 e3
  have hrow : w.ownsRow base 9 1 (r.o op) op.length (strsV (op.map txt)) := by
    unfold RR.o
    rw [e1] at hO ⊢
    have := own_prefix (m := op.length) hO (by omega)
    rw [List.map_append] at this
    unfold strsV at this ⊢
    rw [List.map_append, List.take_append_of_le_length (by simp), List.take_of_length_le (by simp)] at this
    exact this
  have hb : (r.o op).ownBlock = (r.o (op ++ [x])).ownBlock := by
    unfold RR.o
    rw [e1]
    rfl
  refine ⟨⟨?_, h.lt, h.map.set (by have := h.mlt; omega), h.mlt, own_set hrow h.lt, own_set h.rowQ h.lt, by rw [hb]; exact h.apart, fun y hy => h.so y (List.mem_append_left _ hy), h.sq, by have := h.lo; omega, h.lq, h.lm⟩, hb⟩
  exact (boxF_set h.box (.slice r.po op.length r.co)).2.1
end
set_option maxHeartbeats 1000000 in
set_option maxRecDepth 100000 in
/-- the closure that leaves a text -/
theorem close_ok {base B b0 : Nat} {T : Bl → Option Bl} {op : List Bl} {many : Nat} {out : List Bl} {r : RR} {x : Bl} {w : World} (h : RSt base B T (op ++ [x]) many out r w) (hp : w.cell? ⟨b0, 0, none⟩ = some (.pointer (some ⟨B, 0, none⟩))) (u : FrameMode) :
    CallsD Tryz.prog 104 #[.pointer (some ⟨b0, 0, none⟩)] u w fun e u' w' => u' = u ∧ (e = .returned (.tuple #[]) ∧ ∃ n, w' = (w.drewN n).setCell ⟨B, 1, none⟩ (.slice r.po op.length r.co)) := by
  obtain ⟨⟨_, c1, _, _⟩, c4⟩ := h.cells
  have hln : (op ++ [x]).length = op.length + 1 := by simp
  rw [hln] at c1
  have hO := h.rowO
  unfold RR.o at hO
  rw [hln] at hO
  obtain ⟨g, c, e, h1, h2⟩ := hO.form (by omega)
  have hcap : op.length + 1 ≤ c ∧ c ≤ maxLen := by
    rcases hO.2 with ⟨hv, _⟩ | ⟨g', cap', cur', hv, _, _, h3, h4, _⟩
    · injection hv with _ hv _; omega
    · injection hv with _ _ hv
      injection e with _ _ e
      omega
  injection e with e1 e2 e3
  clear e2
  rw [e1, e3] at c1
  rw [e1, e3]
  clear e1 e3
  have hlo := h.lo
  rw [hln] at hlo
  obtain ⟨n, hn⟩ : ∃ n, n = op.length := ⟨_, rfl⟩
  rw [← hn] at c1 hcap hlo ⊢
  clear hn h hO hln
  obtain ⟨hc1, hc2⟩ := hcap
  unfold maxLen at hc2
  have hs1 : ((n + 1 : Nat) : Int) - 1 = (n : Int) := by omega
  have hs2 : IntKind.i64.wrap (n : Int) = (n : Int) := IntWalk.i64_in _ (by omega)
  go_enter_d Tryz.func104, Tryz.ntmps104
  have hn0 : (0 : Int) ≤ (n : Int) := by omega
  have hnc : (n : Int) ≤ (c : Int) := by omega
  have hnc2 : n ≤ c := by omega
  go_still_tail 14, (by kernel_rfl)
  change wpList _ _ _ _ _ w.drew
  go_wp2
  go_end0
  exact ⟨rfl, 1, rfl⟩
/-- a statement that only ends as it should -/
theorem wp_only {P : Program} {s : Code} {K : Act → World → Prop} {Q' : Exit → Act → World → Prop} {a : Act} {w : World} (h : s.wp P (Exit.then K (fun _ _ _ => False)) a w) : s.wp P (Exit.then K Q') a w := by
  refine wp_mono h ?_
  intro e a' w' hq
  cases e with
  | normal => exact hq
  | exit id => exact hq.elim
  | goto l => exact hq.elim
  | ret => exact hq.elim
  | panic ch => exact hq.elim
  | outgrown => exact hq.elim
def incT (T : Bl → Option Bl) (f : Nat) (op : List Bl) (many : Nat) (out : List Bl) (n : Bl) : Nat × List Bl × Int :=
  match T n with
  | none => (many, out, 5)
  | some t => if n ∈ op then (many, out, 8) else match f with
    | 0 => (many, out, 8)
    | f' + 1 => readR T f' (op ++ [n]) many out t
theorem incR_two (T : Bl → Option Bl) (f : Nat) (op : List Bl) (many : Nat) (out : List Bl) {ws : List Bl} (h : ws.length = 2) : incR T f op many out ws = incT T f op many out (ws.getD 1 []) := by
  unfold incR incT
  rw [if_neg (fun e => e h)]
  cases T (ws.getD 1 []) with
  | none => rfl
  | some t => cases f <;> rfl
theorem nodup_len {op Ns : List Bl} {x : Bl} (h : op.Nodup) (hs : ∀ y ∈ op, y ∈ Ns) (hx : x ∈ Ns) (hn : x ∉ op) : op.length + 1 ≤ Ns.length := by
  have h1 : (x :: op).Nodup := List.nodup_cons.2 ⟨hn, h⟩
  have h2 : (x :: op) ⊆ Ns := fun y hy => by
    rcases List.mem_cons.1 hy with rfl | hy
    · exact hx
    · exact hs y hy
  have := h1.length_le_of_subset h2
  simpa using this
set_option maxHeartbeats 8000000 in
set_option maxRecDepth 100000 in
/-- a line that includes, where the lines of the text that is included are served -/
theorem inc_step (base B : Nat) (T : Bl → Option Bl) (Ns : List Bl) (hTN : ∀ n, (T n).isSome = true → n ∈ Ns) (hTs : ∀ n t, T n = some t → t.length ≤ 4611686018427387904) (hNs : Ns.length ≤ 900) (hg : 0 < B) (f : Nat)
    (ih : ∀ f', f = f' + 1 → ∀ (op : List Bl) (x : Bl), op.Nodup → (∀ y ∈ op, y ∈ Ns) → Ns.length ≤ f' + op.length → x.length ≤ 1048576 → IncOk base B T f' op x)
    (op : List Bl) (x : Bl) (hnd : op.Nodup) (hsub : ∀ y ∈ op, y ∈ Ns) (hlen : Ns.length ≤ f + op.length) (hx : x.length ≤ 1048576) : IncOk base B T f op x := by
  intro many out r p c u hR hm hb hML hN
  obtain ⟨W, hW⟩ : ∃ W, W = u.alloc (.cells #[.pointer (some ⟨B, 0, none⟩)] 66) := ⟨_, rfl⟩
  have hBW : Below u.heap.size u W := by rw [hW]; exact rb1w _ _
  have hWs : W.heap.size = u.heap.size + 1 := by rw [hW]; simp
  have hpw : W.heap[u.heap.size]? = some (.cells #[.pointer (some ⟨B, 0, none⟩)] 66 (0, 0)) := by rw [hW]; exact rb_new u _
  have HP : Hid (∀ V : World, Below W.heap.size W V → V.cell? ⟨u.heap.size, 0, none⟩ = some (.pointer (some ⟨B, 0, none⟩))) := by
    show ∀ V : World, _
    intro V hV
    unfold World.cell?
    rw [hV.block _ (show u.heap.size < W.heap.size by omega), hpw]
    rfl
  have HRW := Lib.hid (hR.below hBW)
  have HNW := Lib.hid (hN.below hBW)
  have HRU := Lib.hid hR
  have HMU := Lib.hid hML
  have HBU := Lib.hid hb
  have HWS := Lib.hid hWs
  have HBW := Lib.hid hBW
  by_cases h2 : (wordsL x).length = 2
  · have h12 : 1 < (wordsL x).length := by omega
    obtain ⟨ad, rfl, _, _⟩ := str_at hN.at_.reads h12
    obtain ⟨b, o, rfl, hbw⟩ := hN.plain ad rfl
    have HWC : Hid (∀ V : World, Below W.heap.size W V → V.cell? ⟨b, o + 1, none⟩ = some (.string (txt ((wordsL x).getD 1 [])))) := by
      show ∀ V : World, _
      intro V hV
      have := (HNW.out.below hV).weak.cellAt 1 (by rw [wb_len2]; exact h12)
      rw [wb_at] at this
      exact this
    have hw1 : ((wordsL x).getD 1 []).length ≤ 1048576 := by
      have h1 := wb_size x (txt ((wordsL x).getD 1 [])) (by rw [← wb_at, List.getD_eq_getElem?_getD, List.getElem?_eq_getElem (by rw [wb_len2]; exact h12)]; exact List.getElem_mem _)
      rw [txt_size] at h1
      omega
    have hinc := incR_two T f op many out h2
    obtain ⟨R, hRR⟩ : ∃ R, R = incR T f op many out (wordsL x) := ⟨_, rfl⟩
    have HR2 := Lib.hid (hRR.trans hinc)
    rw [← hRR]
    rw [h2]
    have h2i : ((2 : Nat) : Int) = 2 := rfl
    clear hinc hRR h12 hpw hR hML hN
    generalize (wordsL x).getD 1 [] = w1 at *
    have hsz : (txt w1).size ≤ maxLen := by
      rw [txt_size]
      unfold maxLen
      omega
    have hlk : ∀ q, Sem.run Tryz.prog (Instr.lookup 67 (.map (some r.bm)) (.string (txt w1)) true) (W.drewN q) = .ok (.tuple #[.string (txt ((T w1).getD [])), .bool (T w1).isSome]) (W.drewN q) := by
      intro q
      have := (HRW.out.map.below (below_drawsP (Below.refl _ _) q)).look _ hsz
      rw [txt_list] at this
      exact this
    clear hsz
    obtain ⟨⟨c0, c1, c2, c3⟩, c4⟩ := HRW.out.cells
    have hp := HP.out W (Below.refl _ _)
    have hwc := HWC.out W (Below.refl _ _)
    cases hT : T w1 with
    | none =>
      have HT := Lib.hid hT
      rw [hT] at hlk
      simp only [Option.isSome_none, Option.getD_none] at hlk
      have hlk0 := hlk 0
      have hlk1 := hlk 1
      clear hT
      go_enter_defers Tryz.func67, Tryz.ntmps67
      go_upto_region 1 with fail
      rw [← hW]
      clear hW
      go_upto_region 3 with fail
      go_quiet (fail)
      go_wp2
      have hRE : R = (many, out, 5) := by rw [HR2.out]; unfold incT; rw [HT.out]
      rw [hRE]
      exact ⟨_, results_tmp rfl _ _ _, rfl, ⟨r, HRW.out.below (below_drawsP (Below.refl _ _) nq), .inl rfl, .inl rfl⟩, Kp.of_below (HBW.out.trans ((below_drawsP (Below.refl _ _) nq).mono HBW.out.size)), fun e => by cases e⟩
    | some t =>
      have HT := Lib.hid hT
      rw [hT] at hlk
      simp only [Option.isSome_some, Option.getD_some] at hlk
      have hlk0 := hlk 0
      have hlk1 := hlk 1
      have HTL := Lib.hid (hTs w1 t hT)
      have hmem : w1 ∈ Ns := hTN w1 (by rw [hT]; rfl)
      clear hT
      go_enter_defers Tryz.func67, Tryz.ntmps67
      go_upto_region 1 with fail
      rw [← hW]
      clear hW
      go_upto_region 3 with fail
      go_quiet (fail)
      obtain ⟨V, hV⟩ : ∃ V, V = W.drewN nq := ⟨_, rfl⟩
      have hBV : Below W.heap.size W V := by rw [hV]; exact below_drawsP (Below.refl _ _) nq
      rw [← hV]
      clear hV hlk hlk0 hlk1 c0 c1 c2 c3 c4 hp hwc
      have HBV := Lib.hid hBV
      have HRV := Lib.hid (HRW.out.below hBV)
      obtain ⟨⟨c0, c1, c2, c3⟩, c4⟩ := HRV.out.cells
      have hp := HP.out V hBV
      have hwc := HWC.out V hBV
      have hNO : NL V r.po op.length r.co (op.map txt) := NL_own (by have := HRV.out.rowO; exact this) (fun y hy => by
        obtain ⟨z, hz, rfl⟩ := List.mem_map.1 hy
        have := HRV.out.so z hz
        rw [txt_size]
        omega) (by have := HRV.out.lo; omega)
      have hmi : txt w1 ∈ op.map txt ↔ w1 ∈ op := by
        rw [List.mem_map]
        constructor
        · rintro ⟨y, hy, e⟩
          have := congrArg (fun z : ByteArray => z.data.toList) e
          simp only [txt_list] at this
          rw [← this]; exact hy
        · intro h; exact ⟨w1, h, rfl⟩
      by_cases hin : w1 ∈ op
      · have HCN : Hid (∀ n, Calls Tryz.prog 78 #[.slice r.po op.length r.co, .string (txt w1)] (V.drewN n) fun e w' => e = .returned (.bool true) ∧ w' = V.drewN n) := by
          show ∀ n, _
          intro n
          have := nl_contains (hNO.drew n) (txt w1)
          rw [has_iff.2 (hmi.2 hin)] at this
          exact this
        have hRE : Hid (R = (many, out, 8)) := by show _ = _; rw [HR2.out]; unfold incT; rw [HT.out]; simp only; rw [if_pos hin]
        clear hNO hmi hin hBV
        go_upto_region 6 with fail
        go_quiet ((go_at_call 78; exact Calls.quiet_of_same (HCN.out _)))
        go_wp2
        rw [hRE.out]
        exact ⟨_, results_tmp rfl _ _ _, rfl, ⟨r, HRV.out.below (below_drawsP (Below.refl _ _) nq), .inl rfl, .inl rfl⟩, Kp.of_below (HBW.out.trans ((HBV.out.trans ((below_drawsP (Below.refl _ _) nq).mono HBV.out.size)).mono HBW.out.size)), fun e => by cases e⟩
      · have hnc : Lib.containsS (op.map txt) (txt w1) = false := by
          rw [← Bool.not_eq_true, has_iff, hmi]; exact hin
        have HCN : Hid (∀ n, Calls Tryz.prog 78 #[.slice r.po op.length r.co, .string (txt w1)] (V.drewN n) fun e w' => e = .returned (.bool false) ∧ w' = V.drewN n) := by
          show ∀ n, _
          intro n
          have := nl_contains (hNO.drew n) (txt w1)
          rw [hnc] at this
          exact this
        have hol := nodup_len hnd hsub hmem hin
        obtain ⟨f', rfl⟩ : ∃ f', f = f' + 1 := ⟨f - 1, by omega⟩
        have HRE : Hid (R = readR T f' (op ++ [w1]) many out t) := by show _ = _; rw [HR2.out]; unfold incT; rw [HT.out]; simp only; rw [if_neg hin]
        have HIH : Hid (∀ y, y.length ≤ 1048576 → IncOk base B T f' (op ++ [w1]) y) := by
          show ∀ y, _
          intro y hy
          refine ih f' rfl (op ++ [w1]) y (List.nodup_append.2 ⟨hnd, by simp, fun a ha b hb => ?_⟩) (fun z hz => ?_) (by rw [List.length_append, List.length_singleton]; omega) hy
          · rw [List.mem_singleton.1 hb]; intro e; subst e; exact hin ha
          · rcases List.mem_append.1 hz with hz | hz
            · exact hsub z hz
            · rw [List.mem_singleton.1 hz]; exact hmem
        have HOL := Lib.hid hol
        clear hNO hmi hin hBV hnc hol hnd hsub hlen hx ih hmem HR2
        go_upto_region 6 with fail
        go_quiet ((go_at_call 78; exact Calls.quiet_of_same (HCN.out _)))
        obtain ⟨V2, hV2⟩ : ∃ V2, V2 = V.drewN nq := ⟨_, rfl⟩
        have hBV2 : Below V.heap.size V V2 := by rw [hV2]; exact below_drawsP (Below.refl _ _) nq
        rw [← hV2]
        clear hV2 c0 c1 c2 c3 c4 hp hwc HCN h2i h2
        have HB2 := Lib.hid (HBV.out.trans (hBV2.mono HBV.out.size))
        have HU2 := Lib.hid (HBW.out.trans (HB2.out.mono HBW.out.size))
        have HR2 := Lib.hid (HRV.out.below hBV2)
        obtain ⟨⟨c0, c1, c2, c3⟩, c4⟩ := HR2.out.cells
        have hp := HP.out V2 HB2.out
        have hwc := HWC.out V2 HB2.out
        have hsz2 : u.heap.size < V2.heap.size := by have := HB2.out.size; have := HWS.out; omega
        have hBlt : B < V2.heap.size := HR2.out.blt
        have hblt : b < V2.heap.size := by omega
        obtain ⟨XO, hXO⟩ : ∃ XO, XO = Obj.cells #[.string (txt w1)] 9 := ⟨_, rfl⟩
        have HSA : Hid (RSt base B T op many out r (V2.alloc XO).drew) := (HR2.out.below (rb1w V2 XO)).drew
        have XC0 : Hid ((V2.alloc XO).drew.cell? ⟨V2.heap.size, 0, none⟩ = some (.string (txt w1))) := by show (V2.alloc XO).cell? _ = _; rw [hXO, World.cell?_alloc_at _ _ _ _ rfl]; rfl
        have HBX : Hid (Below V2.heap.size V2 (V2.alloc XO).drew) := (rb1w V2 XO).drew
        have HBA : Hid (base ≤ (V2.alloc XO).drew.heap.size) := by show base ≤ _; have := HBX.out.size; have := HBU.out; omega
        have hro : ∀ k, (r.o op).ownBlock = some k → k < u.heap.size := fun k hk => (HRU.out.rowO.lt k hk).2
        have HPX : Hid (∀ w6, (V2.alloc XO).drew.grownBy w6 (r.o op).ownBlock → w6.cell? ⟨u.heap.size, 0, none⟩ = some (.pointer (some ⟨B, 0, none⟩)) ∧ w6.frozen? ⟨u.heap.size, 0, none⟩ = w6.frozen? ⟨u.heap.size, 0, none⟩) := by
          show ∀ w6, _
          intro w6 hg6
          refine ⟨?_, rfl⟩
          have h1 := hg6.block u.heap.size (Nat.lt_of_lt_of_le hsz2 HBX.out.size) (fun e => by have := hro _ e.symm; omega)
          have h2 := HBX.out.block u.heap.size hsz2
          unfold World.cell? at hp ⊢
          simp only at hp ⊢
          rw [h1, h2]
          exact hp
        rw [hXO] at HSA XC0 HBA HBX HPX
        have HNB : Hid (B < u.heap.size) := HRU.out.blt
        clear hXO hro hBV2
        have hmf : ∀ (fn : Fn) (first cap : Array Value) (w : World), (Instr.makeFunc fn first cap).run Tryz.prog w = .ok (.func fn first cap) w := fun _ _ _ _ => rfl
        go_upto_region 8 with fail
        go_cut [] from 33 (fun wx => ∃ (p6 : Option Addr) (c6 : Nat), Hid (RSt base B T (op ++ [w1]) many out { r with po := p6, co := c6 } wx) ∧ Hid (wx.cell? ⟨u.heap.size, 0, none⟩ = some (.pointer (some ⟨B, 0, none⟩))) ∧ Hid (Kp u wx B (r.o op).ownBlock (r.q out).ownBlock) ∧
          Hid ((Value.slice p6 (op.length + 1) c6).ownBlock = (r.o op).ownBlock ∨ ∀ k, (Value.slice p6 (op.length + 1) c6).ownBlock = some k → u.heap.size < k))
        case first =>
          refine wp_only ?_
          go_region_law (refine step_strL rfl _ _ rfl base _ op.length (op.map txt) rfl HSA.out.rowO V2.heap.size (txt w1) rfl XC0.out (by have := HSA.out.lo; omega) HBA.out ?_; intro v' w6 hown6 hgrow6 hlies6; obtain ⟨p6, c6, rfl⟩ := slice_form hown6; have h6 := HSA.out.push hw1 hgrow6 (by have := HOL.out; omega) hown6 hlies6; have H6 := Lib.hid h6.2; have HG6 := Lib.hid hgrow6; have HL6 := Lib.hid hlies6; have hp6 := (HPX.out w6 hgrow6).1; obtain ⟨⟨b0, b1, b2, b3⟩, b4⟩ := boxF h6.1; have hblt6 := (Array.getElem?_eq_some_iff.1 h6.1).1; clear h6 hown6 hgrow6 hlies6)
          all_goals
            go_wp2_with fail
            go_meet
            case rel =>
              refine ⟨p6, c6, H6.out, ?_, ?_, ?_⟩
              · show _ = _
                rw [World.cell?_setCell_other _ _ _ _ (fun e => by injection e with e; have := HNB.out; omega)]
                exact hp6
              · show Kp _ _ _ _ _
                exact ((Kp.of_below (HU2.out.trans (HBX.out.mono HU2.out.size))).grown HG6.out (.inl rfl)).set
              · show _ ∨ _
                rcases HL6.out with e | e
                · exact .inl e
                · rw [e]
                  right
                  intro k hk
                  injection hk with hk
                  subst hk
                  have := HU2.out.size
                  show u.heap.size < (World.alloc _ _).drew.heap.size
                  have := HBX.out.size
                  omega
        case rest =>
          obtain ⟨p6, c6, H6, HP6, HK6, HL6⟩ := hcut
          have HL7 : Hid ((({ r with po := p6, co := c6 } : RR).o (op ++ [w1])).ownBlock = (r.o op).ownBlock ∨ ∀ k, (({ r with po := p6, co := c6 } : RR).o (op ++ [w1])).ownBlock = some k → u.heap.size < k) := by
            show _ ∨ _
            have hrel : (({ r with po := p6, co := c6 } : RR).o (op ++ [w1])).ownBlock = (Value.slice p6 (op.length + 1) c6).ownBlock := by cases p6 <;> rfl
            rw [hrel]
            exact HL6.out
          clear HL6
          clear c0 c1 c2 c3 c4 hp hwc hsz2 hBlt hblt HSA XC0 HBX HBA HPX
          have hp6 := HP6.out
          have hsz6 := HK6.out.size
          have hb6 : base ≤ wc.heap.size := Nat.le_trans HBU.out hsz6
          have hml6 : ML wc := HMU.out.kp HK6.out hg (fun k hk => by have := (HRU.out.rowO.lt k hk).1; have := HRU.out.lt; omega) (fun k hk => by have := (HRU.out.rowQ.lt k hk).1; have := HRU.out.lt; omega)
          have hrd := read_ok base B T f' (op ++ [w1]) many out _ (txt t) wc H6.out hb6 hml6 (by rw [txt_size]; exact HTL.out) hm hg (fun h0 y hy _ => HIH.out y (by
            rw [txt_list] at hy
            obtain ⟨z, hz, rfl⟩ := List.mem_map.1 hy
            have h1 := joinL_size hz
            have h2 := joinE_size h0
            rw [txt_size] at h2
            omega))
          rw [txt_list] at hrd
          unfold ReadPost at hrd
          rw [← HRE.out] at hrd
          obtain ⟨m8, o8, E8⟩ := R
          simp only at hrd
          have HRD := Lib.hid hrd
          have HSZ6 : Hid (u.heap.size < wc.heap.size) := World.block_lt_of_cell? wc _ hp6
          clear hrd hml6 hb6 hsz6 HRE HIH HTL HWC HR2 HU2 HB2 HRV HBV HP
          go_wp2_with (go_at_call 29; refine HRD.out.mono ?_; rintro e w8 ⟨rfl, ⟨r8, hs8, hfo8, hfq8⟩, hk8, hm8⟩; have HS8 := Lib.hid hs8; have HFO8 := Lib.hid hfo8; have HFQ8 := Lib.hid hfq8; have HK8 := Lib.hid hk8; have HM8 := Lib.hid hm8; clear hs8 hfo8 hfq8 hk8 hm8)
          have hp8 : w8.cell? ⟨u.heap.size, 0, none⟩ = some (.pointer (some ⟨B, 0, none⟩)) := by
            unfold World.cell?
            simp only
            rw [HK8.out.block u.heap.size HSZ6.out (fun e => by have := HNB.out; omega) (fun e => by
              rcases HL7.out with e2 | e2
              · have := (HRU.out.rowO.lt u.heap.size (e2.symm.trans e.symm)).2
                omega
              · have := e2 u.heap.size e.symm
                omega) (fun e => by have := (HRU.out.rowQ.lt u.heap.size e.symm).2; omega)]
            exact hp6
          refine leaves_cons (f := 104) (args := #[.pointer (some ⟨u.heap.size, 0, none⟩)]) (by simp) (by simp [go_sem]) ?_
          refine (close_ok HS8.out hp8 .returning).mono ?_
          rintro e u' w9 ⟨rfl, rfl, n9, rfl⟩
          obtain ⟨hpop, hpb⟩ := (HS8.out.below (below_drawsP (Below.refl _ _) n9)).pop
          refine ⟨_, results_tmp rfl _ _ _, rfl, ⟨r8, hpop, ?_, ?_⟩, ?_, HM8.out⟩
          · rw [hpb]
            rcases HFO8.out with e | e
            · rw [e]
              rcases HL7.out with e2 | e2
              · exact .inl e2
              · exact .inr (fun k hk => Nat.le_of_lt (e2 k hk))
            · exact .inr (fun k hk => Nat.le_trans HK6.out.size (e k hk))
          · rcases HFQ8.out with e | e
            · exact .inl e
            · exact .inr (fun k hk => Nat.le_trans HK6.out.size (e k hk))
          · refine ((HK6.out.trans HK8.out ?_ (.inl rfl)).trans (Kp.of_below (below_drawsP (Below.refl _ _) n9)) (.inl rfl) (.inl rfl)).set
            rcases HL7.out with e2 | e2
            · exact .inl e2
            · exact .inr (fun k hk => Nat.le_of_lt (e2 k hk))
  · have hinc : incR T f op many out (wordsL x) = (many, out, 3) := by unfold incR; rw [if_pos h2]
    have hd : (((wordsL x).length : Int) == 2) = false ∧ (((wordsL x).length : Int) != 2) = true := by
      have : ¬ ((wordsL x).length : Int) = 2 := by omega
      exact ⟨by simpa using this, by simpa using this⟩
    obtain ⟨d1, d2⟩ := hd
    rw [hinc]
    have hp := HP.out W (Below.refl _ _)
    clear hpw hR hML hN hx hsub hnd hlen hinc
    go_enter_defers Tryz.func67, Tryz.ntmps67
    go_upto_region 1 with fail
    rw [← hW]
    clear hW
    go_wp2
    exact ⟨_, results_tmp rfl _ _ _, rfl, ⟨r, HRW.out, .inl rfl, .inl rfl⟩, Kp.of_below HBW.out, fun e => by cases e⟩
set_option maxHeartbeats 400000 in
theorem inc_ok (base B : Nat) (T : Bl → Option Bl) (Ns : List Bl) (hTN : ∀ n, (T n).isSome = true → n ∈ Ns) (hTs : ∀ n t, T n = some t → t.length ≤ 4611686018427387904) (hNs : Ns.length ≤ 900) (hg : 0 < B) :
    ∀ (f : Nat) (op : List Bl) (x : Bl), op.Nodup → (∀ y ∈ op, y ∈ Ns) → Ns.length ≤ f + op.length → x.length ≤ 1048576 → IncOk base B T f op x := by
  intro f
  induction f with
  | zero => exact fun op x h1 h2 h3 h4 => inc_step base B T Ns hTN hTs hNs hg 0 (fun f' h => by omega) op x h1 h2 h3 h4
  | succ f ih => exact fun op x h1 h2 h3 h4 => inc_step base B T Ns hTN hTs hNs hg (f + 1) (fun f' h => by obtain rfl : f' = f := (by omega); exact ih) op x h1 h2 h3 h4
end Go.Proofs.YtoiolepengcagaaGreatDoor
