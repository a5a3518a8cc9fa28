/- Texts joined: EvalSolve2W, EvalKindAW, EvalKindBW, EvalKindCW, MillW. Conditions: theirs. -/
import Derived.Test.YteefncohknclcaaGreatDoorEvalAllWM11
import Derived.Test.YteefncohknclcaaGreatDoorEvalAllWM3
namespace Go.Proofs.YteefncohknclcaaGreatDoor
open Go.RowKit Go.Shelf
set_option maxHeartbeats 8000000 in
set_option maxRecDepth 100000 in
theorem solve2_ok (g : GD) (hG : Good g) (b : Nat) (p : Option Addr) (c : Nat) (ev : Value) (pr : Option Addr) (cr : Nat) (pb : Option Addr) (cb : Nat) (k : Int) (s : ByteArray) (n : Int) (pt : Option Addr) (ct : Nat) (x y : QT) (hx : ∀ (w : World) (sc : Value) (en : List (Txt × B)), SolAt w g b p c ev pr cr pb cb → QIn w x → Tab w → EnAt w sc en → EnvR g en → Calls Tryz.prog 37 #[.pointer (some ⟨b, 0, none⟩), x.v, sc] w (SolvePost g (qabs x) en w)) (hy : ∀ (w : World) (sc : Value) (en : List (Txt × B)), SolAt w g b p c ev pr cr pb cb → QIn w y → Tab w → EnAt w sc en → EnvR g en → Calls Tryz.prog 37 #[.pointer (some ⟨b, 0, none⟩), y.v, sc] w (SolvePost g (qabs y) en w))
    (w : World) (sc : Value) (en : List (Txt × B)) (hS : SolAt w g b p c ev pr cr pb cb) (hQ : QIn w (.mk k s n pt ct [x, y])) (hT : Tab w) (hE : EnAt w sc en) (hR : EnvR g en) (hchk : qchk qpat (qabs (.mk k s n pt ct [x, y])) = 0) (hnm : Nmd g (qabs (.mk k s n pt ct [x, y]))) :
    Calls Tryz.prog 37 #[.pointer (some ⟨b, 0, none⟩), (QT.mk k s n pt ct [x, y]).v, sc] w (SolvePost g (qabs (.mk k s n pt ct [x, y])) en w) := by
  obtain ⟨hnd, hkc⟩ := qchk_zero.1 (show qchk qpat (.mk k s.data.toList n (qabss [x, y])) = 0 from hchk)
  obtain ⟨W, hW, hBW, hSz, hC⟩ := argSV w (.pointer (some ⟨b, 0, none⟩)) (.int .i64 k) (.string s) (.int .i64 n) (.slice pt 2 ct)
  have HC := Lib.hid hC
  have HBW := Lib.hid hBW
  have HG := Lib.hid hG
  have h64 := hG.names
  have HS : Hid (∀ u : World, Below W.heap.size W u → SolAt u g b p c ev pr cr pb cb ∧ Tab u ∧ EnAt u sc en) := by
    show ∀ u : World, _
    exact fun u hu => ⟨hS.below (hBW.trans (hu.mono hBW.size)), hT.below (hBW.trans (hu.mono hBW.size)), hE.kept (hBW.trans (hu.mono hBW.size))⟩
  have HRE := Lib.hid hR
  have HSN : Hid (s.size ≤ 1048576) := hQ.small.1
  have HNM : Hid (k = 1 → ghas g s.data.toList) := (show Nmd g (.mk k s.data.toList n (qabss [x, y])) from hnm).name
  have HHB : Hid (W.heap.size = w.heap.size + 2) := hSz
  obtain ⟨sp, hsp⟩ : ∃ sp, sc = .pointer sp := by
    cases hE
    · exact ⟨_, rfl⟩
    · exact ⟨_, rfl⟩
  subst hsp
  obtain ⟨⟨b1, o, rfl, hb1, hf1⟩, hqx⟩ := hQ.kids.at (j := 0) (x := x) rfl
  have HKX : Hid (∀ u : World, Below W.heap.size W u → Four u b1 o x ∧ QIn u x) := by
    show ∀ u : World, _
    exact fun u hu => ⟨(show Four w b1 o x from hf1).below (hBW.trans (hu.mono hBW.size)) hb1, hqx.below (hBW.trans (hu.mono hBW.size))⟩
  have hcx : qchk qpat (qabs x) = 0 := hkc _ (by show qabs x ∈ [qabs x, qabs y]; simp)
  have hnx : Nmd g (qabs x) := hnm.kids _ (by show qabs x ∈ [qabs x, qabs y]; simp)
  have iA : InR g (qval g (qabs x) en) := val_in hG _ hnx en hR
  have HCX : Hid (∀ u : World, Below W.heap.size W u → Calls Tryz.prog 37 #[.pointer (some ⟨b, 0, none⟩), x.v, .pointer sp] u (SolvePost g (qabs x) en u)) := by
    show ∀ u : World, _
    exact fun u hu => hx u (.pointer sp) en (HS.out u hu).1 (HKX.out u hu).2 (HS.out u hu).2.1 (HS.out u hu).2.2 hR
  unfold SolvePost at HCX
  obtain ⟨A, hA⟩ : ∃ A, qval g (qabs x) en = A := ⟨_, rfl⟩
  have HIA : Hid (InR g A) := by show InR g A; rw [← hA]; exact iA
  obtain ⟨⟨b1', o', hpe, _, hf2⟩, hqy⟩ := hQ.kids.at (j := 1) (x := y) rfl
  injection hpe with hpe
  injection hpe with hpe1 hpe2
  subst hpe1 hpe2
  have HKY : Hid (∀ u : World, Below W.heap.size W u → Four u b1 (o + 4) y ∧ QIn u y) := by
    show ∀ u : World, _
    exact fun u hu => ⟨(show Four w b1 (o + 4) y from hf2).below (hBW.trans (hu.mono hBW.size)) hb1, hqy.below (hBW.trans (hu.mono hBW.size))⟩
  have hcy : qchk qpat (qabs y) = 0 := hkc _ (by show qabs y ∈ [qabs x, qabs y]; simp)
  have hny : Nmd g (qabs y) := hnm.kids _ (by show qabs y ∈ [qabs x, qabs y]; simp)
  have HRQ : Hid (EnvR g (qin k s.data.toList A en)) := qin_in hR HIA.out
  have HNY := Lib.hid hny
  have HCY : Hid (∀ (u : World) (sc2 : Value) (en2 : List (Txt × B)), Below W.heap.size W u → EnAt u sc2 en2 → EnvR g en2 → Calls Tryz.prog 37 #[.pointer (some ⟨b, 0, none⟩), y.v, sc2] u (SolvePost g (qabs y) en2 u)) := by
    show ∀ (u : World) (sc2 : Value) (en2 : List (Txt × B)), _
    exact fun u sc2 en2 hu he hr => hy u sc2 en2 (HS.out u hu).1 (HKY.out u hu).2 (HS.out u hu).2.1 he hr
  unfold SolvePost at HCY
  have hks : k = 4 ∨ k = 5 ∨ k = 6 ∨ k = 7 ∨ k = 12 ∨ k = 13 := by
    have h0 : (qabss [x, y]).length = 2 := rfl
    rcases node_cases hnd with h | h | h | h | h | h | h | h | h | h <;> omega
  have HV0 : Hid (qval g (qabs (.mk k s n (some ⟨b1, o, none⟩) ct [x, y])) en = qop2 g k s.data.toList n en A (qval g (qabs y) (qin k s.data.toList A en))) := by show _ = _; rw [← hA]; exact val2 g k s.data.toList n (qabs x) (qabs y) en
  rw [hA] at HCX
  clear hS hQ hT hE hR hchk hnm hnd hkc hBW hSz hC hG hx hy hb1 hf1 hqx hcx hnx iA hA hf2 hqy hcy hny
  obtain ⟨v0, k0, k1, k2, k3⟩ := HC.out W (Below.refl _ _)
  show Calls Tryz.prog 37 #[.pointer (some ⟨b, 0, none⟩), .agg #[.int .i64 k, .string s, .int .i64 n, .slice (some ⟨b1, o, none⟩) 2 ct], .pointer sp] w _
  go_enter Tryz.func37, Tryz.ntmps37
  go_upto_region 1 with fail
  rw [← hW]
  clear hW
  have HSS : Hid (∀ u : World, Below W.heap.size W u → u.cell? ⟨w.heap.size, 0, none⟩ = some (.pointer (some ⟨b, 0, none⟩)) ∧ u.cell? ⟨w.heap.size + 1, 3, none⟩ = some (.slice (some ⟨b1, o, none⟩) 2 ct) ∧ u.cell? ⟨b1, o, none⟩ = some (.int .i64 x.kind) ∧ u.cell? ⟨b1, o + 1, none⟩ = some (.string x.name) ∧ u.cell? ⟨b1, o + 2, none⟩ = some (.int .i64 x.num) ∧ u.cell? ⟨b1, o + 3, none⟩ = some (.slice x.p x.xs.length x.cap)) := by
    show ∀ u : World, _
    intro u hu
    obtain ⟨q0, q1, q2, q3⟩ := (HKX.out u hu).1
    exact ⟨(HC.out u hu).1, (HC.out u hu).2.2.2.2, q0, q1, q2, q3⟩
  go_upto_region 3 with fail
  go_region_held3 (fun u : World => u.cell? ⟨w.heap.size, 0, none⟩ = some (.pointer (some ⟨b, 0, none⟩)) ∧ u.cell? ⟨w.heap.size + 1, 3, none⟩ = some (.slice (some ⟨b1, o, none⟩) 2 ct) ∧ u.cell? ⟨b1, o, none⟩ = some (.int .i64 x.kind) ∧ u.cell? ⟨b1, o + 1, none⟩ = some (.string x.name) ∧ u.cell? ⟨b1, o + 2, none⟩ = some (.int .i64 x.num) ∧ u.cell? ⟨b1, o + 3, none⟩ = some (.slice x.p x.xs.length x.cap))
    (first | exact HSS.out _ HB3.out | exact HSS.out _ ((Below.refl _ _).drew))
    ((go_at_call 37; refine (HCX.out _ ((Below.refl _ _).drew)).mono ?_; rintro e w3 ⟨rfl, hb⟩; have HB3 := Lib.hid (((Below.refl W.heap.size W).drew).trans (hb.mono (Nat.le_refl _))); clear hb))
  clear v0 k0 k1 k2 k3 HSS HCX
  obtain ⟨v0, k0, k1, k2, k3⟩ := HC.out w3 HB3.out
  have hsa := (HS.out w3 HB3.out).1
  have c2 := hsa.c2
  have c3 := hsa.c3
  have c4 := hsa.c4
  have c5 := hsa.c5
  have HRW := Lib.hid hsa.rows
  have HBK := Lib.hid hsa.back
  have HTB := Lib.hid (HS.out w3 HB3.out).2.1
  clear hsa
  by_cases h4 : k = 4
  · subst h4
    clear hks
    have HV : Hid (qval g (qabs (.mk 4 s n (some ⟨b1, o, none⟩) ct [x, y])) en = qval g (qabs y) ((s.data.toList, A) :: en)) := HV0
    obtain ⟨D, hD⟩ : ∃ D, D = w3.alloc (.cells #[.string s, .int .u64 (un A), .pointer sp] 98) := ⟨_, rfl⟩
    have HBD : Hid (Below W.heap.size W D) := by show Below _ _ _; rw [hD]; exact HB3.out.alloc HB3.out.size _
    have HED : Hid (EnAt D (.pointer (some ⟨w3.heap.size, 0, none⟩)) ((s.data.toList, A) :: en)) := by
      show EnAt _ _ _
      have h0 : Below w3.heap.size w3 D := by rw [hD]; exact (Below.refl _ _).alloc (Nat.le_refl _) _
      refine .cons (by rw [hD]; simp) ?_ ?_ ?_ ((HS.out w3 HB3.out).2.2.kept h0) <;> (rw [hD, World.cell?_alloc_at _ _ _ _ rfl]; rfl)
    obtain ⟨d0, d1, d2, d3, d4⟩ := HC.out D HBD.out
    have HSS : Hid (∀ u : World, Below D.heap.size D u → u.cell? ⟨w.heap.size, 0, none⟩ = some (.pointer (some ⟨b, 0, none⟩)) ∧ u.cell? ⟨w.heap.size + 1, 3, none⟩ = some (.slice (some ⟨b1, o, none⟩) 2 ct) ∧ u.cell? ⟨b1, o + 4, none⟩ = some (.int .i64 y.kind) ∧ u.cell? ⟨b1, o + 4 + 1, none⟩ = some (.string y.name) ∧ u.cell? ⟨b1, o + 4 + 2, none⟩ = some (.int .i64 y.num) ∧ u.cell? ⟨b1, o + 4 + 3, none⟩ = some (.slice y.p y.xs.length y.cap)) := by
      show ∀ u : World, _
      intro u hu
      have hu2 := HBD.out.trans (hu.mono HBD.out.size)
      obtain ⟨q0, q1, q2, q3⟩ := (HKY.out u hu2).1
      exact ⟨(HC.out u hu2).1, (HC.out u hu2).2.2.2.2, q0, q1, q2, q3⟩
    go_upto_region 7 with fail
    rw [← hD]
    clear hD
    go_region_held3 (fun u : World => u.cell? ⟨w.heap.size, 0, none⟩ = some (.pointer (some ⟨b, 0, none⟩)) ∧ u.cell? ⟨w.heap.size + 1, 3, none⟩ = some (.slice (some ⟨b1, o, none⟩) 2 ct) ∧ u.cell? ⟨b1, o + 4, none⟩ = some (.int .i64 y.kind) ∧ u.cell? ⟨b1, o + 4 + 1, none⟩ = some (.string y.name) ∧ u.cell? ⟨b1, o + 4 + 2, none⟩ = some (.int .i64 y.num) ∧ u.cell? ⟨b1, o + 4 + 3, none⟩ = some (.slice y.p y.xs.length y.cap))
      (first | exact HSS.out _ HB5.out | exact HSS.out _ ((Below.refl _ _).drew))
      ((go_at_call 37; refine (HCY.out _ (.pointer (some ⟨w3.heap.size, 0, none⟩)) ((s.data.toList, A) :: en) (HBD.out.trans (((Below.refl D.heap.size D).drew).mono HBD.out.size)) (HED.out.kept ((Below.refl _ _).drew)) HRQ.out).mono ?_; rintro e w5 ⟨rfl, hb⟩; have HB5 := Lib.hid (((Below.refl D.heap.size D).drew).trans (hb.mono (Nat.le_refl _))); clear hb))
    clear v0 k0 k1 k2 k3 c2 c3 c4 c5 HSS
    have HB6 := Lib.hid (HBD.out.trans (HB5.out.mono HBD.out.size))
    obtain ⟨v0, k0, k1, k2, k3⟩ := HC.out w5 HB6.out
    have HFB := Lib.hid (HBW.out.trans (HB6.out.mono HBW.out.size))
    go_wp2_with fail
    go_ret
    exact ⟨by rw [HV.out]; rfl, HFB.out⟩
  · have e4 : (k == 4) = false := by rw [beq_eq_false_iff_ne]; exact h4
    have hq : qin k s.data.toList A en = en := if_neg h4
    have hks : k = 5 ∨ k = 6 ∨ k = 7 ∨ k = 12 ∨ k = 13 := by omega
    rw [hq] at HV0 HRQ
    clear h4 hq
    obtain ⟨C, hCC⟩ : ∃ C, qval g (qabs y) en = C := ⟨_, rfl⟩
    have HIC : Hid (InR g C) := by show InR g C; rw [← hCC]; exact val_in HG.out _ HNY.out en HRE.out
    have HCY2 : Hid (∀ u : World, Below W.heap.size W u → EnAt u (.pointer sp) en → Calls Tryz.prog 37 #[.pointer (some ⟨b, 0, none⟩), y.v, .pointer sp] u fun e w' => e = .returned (.int .u64 (un C : Int)) ∧ Below u.heap.size u w') := by
      show ∀ u : World, _
      intro u hu he
      have := HCY.out u (.pointer sp) en hu he HRE.out
      rw [hCC] at this
      exact this
    rw [hCC] at HV0
    clear HCY hCC
    have HSS : Hid (∀ u : World, Below w3.heap.size w3 u → u.cell? ⟨w.heap.size, 0, none⟩ = some (.pointer (some ⟨b, 0, none⟩)) ∧ u.cell? ⟨w.heap.size + 1, 3, none⟩ = some (.slice (some ⟨b1, o, none⟩) 2 ct) ∧ u.cell? ⟨b1, o + 4, none⟩ = some (.int .i64 y.kind) ∧ u.cell? ⟨b1, o + 4 + 1, none⟩ = some (.string y.name) ∧ u.cell? ⟨b1, o + 4 + 2, none⟩ = some (.int .i64 y.num) ∧ u.cell? ⟨b1, o + 4 + 3, none⟩ = some (.slice y.p y.xs.length y.cap)) := by
      show ∀ u : World, _
      intro u hu
      have hu2 := HB3.out.trans (hu.mono HB3.out.size)
      obtain ⟨q0, q1, q2, q3⟩ := (HKY.out u hu2).1
      exact ⟨(HC.out u hu2).1, (HC.out u hu2).2.2.2.2, q0, q1, q2, q3⟩
    go_upto_region 7 with fail
    go_region_held3 (fun u : World => u.cell? ⟨w.heap.size, 0, none⟩ = some (.pointer (some ⟨b, 0, none⟩)) ∧ u.cell? ⟨w.heap.size + 1, 3, none⟩ = some (.slice (some ⟨b1, o, none⟩) 2 ct) ∧ u.cell? ⟨b1, o + 4, none⟩ = some (.int .i64 y.kind) ∧ u.cell? ⟨b1, o + 4 + 1, none⟩ = some (.string y.name) ∧ u.cell? ⟨b1, o + 4 + 2, none⟩ = some (.int .i64 y.num) ∧ u.cell? ⟨b1, o + 4 + 3, none⟩ = some (.slice y.p y.xs.length y.cap))
      (first | exact HSS.out _ HB5.out | exact HSS.out _ ((Below.refl _ _).drew))
      ((go_at_call 37; refine (HCY2.out _ (HB3.out.trans (((Below.refl w3.heap.size w3).drew).mono HB3.out.size)) ((HS.out w3 HB3.out).2.2.kept ((Below.refl _ _).drew))).mono ?_; rintro e w5 ⟨rfl, hb⟩; have HB5 := Lib.hid (((Below.refl w3.heap.size w3).drew).trans (hb.mono (Nat.le_refl _))); clear hb))
    clear v0 k0 k1 k2 k3 c2 c3 c4 c5 HSS
    have HB6 := Lib.hid (HB3.out.trans (HB5.out.mono HB3.out.size))
    obtain ⟨v0, k0, k1, k2, k3⟩ := HC.out w5 HB6.out
    have HFB := Lib.hid (HBW.out.trans (HB6.out.mono HBW.out.size))
    clear e4
    have hsa := (HS.out w5 HB6.out).1
    have c4 := hsa.c4
    have HRW5 := Lib.hid hsa.rows
    have HTB5 := Lib.hid (HS.out w5 HB6.out).2.1
    clear hsa
    rcases hks with rfl | rfl | rfl | rfl | rfl
    · have HV : Hid (qval g (qabs (.mk 5 s n (some ⟨b1, o, none⟩) ct [x, y])) en = A ||| C) := HV0
      go_wp2_with fail
      go_ret
      exact ⟨by rw [HV.out]; rfl, HFB.out⟩
    · have HV : Hid (qval g (qabs (.mk 6 s n (some ⟨b1, o, none⟩) ct [x, y])) en = A &&& C) := HV0
      go_wp2_with fail
      go_ret
      exact ⟨by rw [HV.out]; rfl, HFB.out⟩
    · have HV : Hid (qval g (qabs (.mk 7 s n (some ⟨b1, o, none⟩) ct [x, y])) en = A &&& ~~~C) := HV0
      go_wp2_with fail
      go_ret
      exact ⟨by rw [HV.out]; rfl, HFB.out⟩
    · have HV : Hid (qval g (qabs (.mk 12 s n (some ⟨b1, o, none⟩) ct [x, y])) en = betw (rws g) A C) := HV0
      go_wp2_with (go_at_call 64; refine (Between_yes pr _ cr (rws g) A C (two_inR HG.out HIA.out HIC.out) w5 HRW5.out HTB5.out).mono ?_; rintro e w6 ⟨rfl, hb⟩; have HF6 := Lib.hid (HFB.out.trans (hb.mono HFB.out.size)); clear hb)
      go_ret
      exact ⟨by rw [HV.out]; rfl, HF6.out⟩
    · have HV : Hid (qval g (qabs (.mk 13 s n (some ⟨b1, o, none⟩) ct [x, y])) en = someS (rws g) A C) := HV0
      have HSO := Lib.hid (Some_yes pr _ cr (rws g) A C (two_inR HG.out HIA.out HIC.out) w5 HRW5.out HTB5.out)
      by_cases hd : ∃ d, Dist (rws g) A C d
      · have HD := Lib.hid hd
        clear hd
        go_upto_region 36 with (go_at_call 65; refine HSO.out.mono ?_; intro e w6 hF; obtain ⟨d, gd, cd, rfl, hdist, hd64, hown, hb⟩ := hF.resolve_right (fun h => by obtain ⟨d, hd⟩ := HD.out; exact hd.at_ (h.2.1 d)); have HDI := Lib.hid hdist; have HRD := Lib.hid (Reads.of_own hown); have HF6 := Lib.hid (HFB.out.trans (hb.mono HFB.out.size)); clear hF hdist hown hb)
        have HLT := Lib.hid (someS_in HG.out HIA.out HIC.out HDI.out)
        have HV2 : Hid (qval g (qabs (.mk 13 s n (some ⟨b1, o, none⟩) ct [x, y])) en = ofL (wayL (rws g) C (d + 1) A)) := HV.out.trans (someS_yes HDI.out)
        generalize wayL (rws g) C (d + 1) A = L at HRD HLT HV2
        clear v0 k0 k1 k2 k3 c4
        go_wp2_with (go_at_call 66; refine (of_ok L HLT.out gd (d + 1) cd _ w6 HRD.out (by unfold maxLen; omega)).mono ?_; rintro e w' ⟨rfl, hw⟩; rw [← hw]; clear hw)
        go_ret
        exact ⟨by rw [HV2.out]; rfl, HF6.out⟩
      · have HD := Lib.hid hd
        clear hd
        go_upto_region 36 with (go_at_call 65; refine HSO.out.mono ?_; intro e w6 hF; obtain ⟨rfl, hno, hb⟩ := hF.resolve_left (fun h => by obtain ⟨d, _, _, _, hd, _⟩ := h; exact HD.out ⟨d, hd⟩); have HNO := Lib.hid hno; have HF6 := Lib.hid (HFB.out.trans (hb.mono HFB.out.size)); clear hF hno hb)
        have HV2 : Hid (qval g (qabs (.mk 13 s n (some ⟨b1, o, none⟩) ct [x, y])) en = ofL []) := HV.out.trans (someS_no HNO.out)
        clear v0 k0 k1 k2 k3 c4
        go_wp2_with (go_at_call 66; refine (of_ok [] (fun _ h => by cases h) none 0 0 0 w6 Reads.none_ (by unfold maxLen; omega)).mono ?_; rintro e w' ⟨rfl, hw⟩; rw [← hw]; clear hw)
        go_ret
        exact ⟨by rw [HV2.out]; rfl, HF6.out⟩
end Go.Proofs.YteefncohknclcaaGreatDoor
namespace Go.Proofs.YteefncohknclcaaGreatDoor
open Go.RowKit Go.Shelf
set_option maxHeartbeats 8000000 in
set_option maxRecDepth 100000 in
theorem solve15A_ok (g : GD) (hG : Good g) (b : Nat) (p : Option Addr) (c : Nat) (ev : Value) (pr : Option Addr) (cr : Nat) (pb : Option Addr) (cb : Nat) (k : Int) (s : ByteArray) (n : Int) (pt : Option Addr) (ct : Nat) (hk : k = 15) (hn : n = 1) (x : QT) (hx : ∀ (w : World) (sc : Value) (en : List (Txt × B)), SolAt w g b p c ev pr cr pb cb → QIn w x → Tab w → EnAt w sc en → EnvR g en → Calls Tryz.prog 37 #[.pointer (some ⟨b, 0, none⟩), x.v, sc] w (SolvePost g (qabs x) en w))
    (w : World) (sc : Value) (en : List (Txt × B)) (hS : SolAt w g b p c ev pr cr pb cb) (hQ : QIn w (.mk k s n pt ct [x])) (hT : Tab w) (hE : EnAt w sc en) (hR : EnvR g en) (hchk : qchk qpat (qabs (.mk k s n pt ct [x])) = 0) (hnm : Nmd g (qabs (.mk k s n pt ct [x]))) :
    Calls Tryz.prog 37 #[.pointer (some ⟨b, 0, none⟩), (QT.mk k s n pt ct [x]).v, sc] w (SolvePost g (qabs (.mk k s n pt ct [x])) en w) := by
  obtain ⟨hnd, hkc⟩ := qchk_zero.1 (show qchk qpat (.mk k s.data.toList n (qabss [x])) = 0 from hchk)
  obtain ⟨W, hW, hBW, hSz, hC⟩ := argSV w (.pointer (some ⟨b, 0, none⟩)) (.int .i64 k) (.string s) (.int .i64 n) (.slice pt 1 ct)
  have HC := Lib.hid hC
  have HBW := Lib.hid hBW
  have HG := Lib.hid hG
  have h64 := hG.names
  have HS : Hid (∀ u : World, Below W.heap.size W u → SolAt u g b p c ev pr cr pb cb ∧ Tab u ∧ EnAt u sc en) := by
    show ∀ u : World, _
    exact fun u hu => ⟨hS.below (hBW.trans (hu.mono hBW.size)), hT.below (hBW.trans (hu.mono hBW.size)), hE.kept (hBW.trans (hu.mono hBW.size))⟩
  have HRE := Lib.hid hR
  have HSN : Hid (s.size ≤ 1048576) := hQ.small.1
  have HNM : Hid (k = 1 → ghas g s.data.toList) := (show Nmd g (.mk k s.data.toList n (qabss [x])) from hnm).name
  have HHB : Hid (W.heap.size = w.heap.size + 2) := hSz
  obtain ⟨⟨b1, o, rfl, hb1, hf1⟩, hqx⟩ := hQ.kids.at (j := 0) (x := x) rfl
  have HKX : Hid (∀ u : World, Below W.heap.size W u → Four u b1 o x ∧ QIn u x) := by
    show ∀ u : World, _
    exact fun u hu => ⟨(show Four w b1 o x from hf1).below (hBW.trans (hu.mono hBW.size)) hb1, hqx.below (hBW.trans (hu.mono hBW.size))⟩
  have hcx : qchk qpat (qabs x) = 0 := hkc _ (by show qabs x ∈ [qabs x]; simp)
  have hnx : Nmd g (qabs x) := hnm.kids _ (by show qabs x ∈ [qabs x]; simp)
  have iA : InR g (qval g (qabs x) en) := val_in hG _ hnx en hR
  have HCX : Hid (∀ u : World, Below W.heap.size W u → Calls Tryz.prog 37 #[.pointer (some ⟨b, 0, none⟩), x.v, sc] u (SolvePost g (qabs x) en u)) := by
    show ∀ u : World, _
    exact fun u hu => hx u sc en (HS.out u hu).1 (HKX.out u hu).2 (HS.out u hu).2.1 (HS.out u hu).2.2 hR
  unfold SolvePost at HCX
  obtain ⟨A, hA⟩ : ∃ A, qval g (qabs x) en = A := ⟨_, rfl⟩
  have HIA : Hid (InR g A) := by show InR g A; rw [← hA]; exact iA
  have HV0 : Hid (qval g (qabs (.mk k s n (some ⟨b1, o, none⟩) ct [x])) en = qop2 g k s.data.toList n en A 0#64) := by show _ = _; rw [← hA]; exact val1 g k s.data.toList n (qabs x) en
  rw [hA] at HCX
  subst hk hn
  have HV : Hid (qval g (qabs (.mk 15 s 1 (some ⟨b1, o, none⟩) ct [x])) en = A &&& g.made) := HV0
  clear hS hQ hT hE hR hchk hnm hnd hkc hBW hSz hC hG hx hb1 hf1 hqx hcx hnx iA hA HV0
  obtain ⟨v0, k0, k1, k2, k3⟩ := HC.out W (Below.refl _ _)
  show Calls Tryz.prog 37 #[.pointer (some ⟨b, 0, none⟩), .agg #[.int .i64 15, .string s, .int .i64 1, .slice (some ⟨b1, o, none⟩) 1 ct], sc] w _
  go_enter Tryz.func37, Tryz.ntmps37
  go_upto_region 1 with fail
  rw [← hW]
  clear hW
  have HSS : Hid (∀ u : World, Below W.heap.size W u → u.cell? ⟨w.heap.size, 0, none⟩ = some (.pointer (some ⟨b, 0, none⟩)) ∧ u.cell? ⟨w.heap.size + 1, 3, none⟩ = some (.slice (some ⟨b1, o, none⟩) 1 ct) ∧ u.cell? ⟨b1, o, none⟩ = some (.int .i64 x.kind) ∧ u.cell? ⟨b1, o + 1, none⟩ = some (.string x.name) ∧ u.cell? ⟨b1, o + 2, none⟩ = some (.int .i64 x.num) ∧ u.cell? ⟨b1, o + 3, none⟩ = some (.slice x.p x.xs.length x.cap)) := by
    show ∀ u : World, _
    intro u hu
    obtain ⟨q0, q1, q2, q3⟩ := (HKX.out u hu).1
    exact ⟨(HC.out u hu).1, (HC.out u hu).2.2.2.2, q0, q1, q2, q3⟩
  go_upto_region 3 with fail
  go_region_held3 (fun u : World => u.cell? ⟨w.heap.size, 0, none⟩ = some (.pointer (some ⟨b, 0, none⟩)) ∧ u.cell? ⟨w.heap.size + 1, 3, none⟩ = some (.slice (some ⟨b1, o, none⟩) 1 ct) ∧ u.cell? ⟨b1, o, none⟩ = some (.int .i64 x.kind) ∧ u.cell? ⟨b1, o + 1, none⟩ = some (.string x.name) ∧ u.cell? ⟨b1, o + 2, none⟩ = some (.int .i64 x.num) ∧ u.cell? ⟨b1, o + 3, none⟩ = some (.slice x.p x.xs.length x.cap))
    (first | exact HSS.out _ HB3.out | exact HSS.out _ ((Below.refl _ _).drew))
    ((go_at_call 37; refine (HCX.out _ ((Below.refl _ _).drew)).mono ?_; rintro e w3 ⟨rfl, hb⟩; have HB3 := Lib.hid (((Below.refl W.heap.size W).drew).trans (hb.mono (Nat.le_refl _))); clear hb))
  clear v0 k0 k1 k2 k3 HSS HCX
  obtain ⟨v0, k0, k1, k2, k3⟩ := HC.out w3 HB3.out
  have hsa := (HS.out w3 HB3.out).1
  have c2 := hsa.c2
  have c3 := hsa.c3
  have c4 := hsa.c4
  have c5 := hsa.c5
  have HRW := Lib.hid hsa.rows
  have HBK := Lib.hid hsa.back
  have HTB := Lib.hid (HS.out w3 HB3.out).2.1
  clear hsa
  have HFB : Hid (∀ (q : Nat) o, Below w.heap.size w ((w3.drewN q).alloc o)) := by
    show ∀ (q : Nat) o, _
    exact fun q o => (below_drawsA (HBW.out.trans (HB3.out.mono HBW.out.size)) q).alloc (by have h1 := HB3.out.size; have h2 := HBW.out.size; show _ ≤ w3.heap.size; omega) o
  have kz : ∀ ob, (w3.alloc ob).cell? ⟨w.heap.size + 1, 2, none⟩ = some (.int .i64 1) := fun ob => (HC.out (w3.alloc ob) (HB3.out.alloc HB3.out.size ob)).2.2.2.1
  have HS40 : Hid (∀ u : World, Below w3.heap.size w3 u → u.cell? ⟨w.heap.size, 0, none⟩ = some (.pointer (some ⟨b, 0, none⟩)) ∧ u.cell? ⟨b, 2, none⟩ = some (.int .u64 (un g.phony : Int)) ∧ u.cell? ⟨b, 3, none⟩ = some (.int .u64 (un g.made : Int)) ∧ u.cell? ⟨w.heap.size + 1, 2, none⟩ = some (.int .i64 1)) := by
    show ∀ u : World, _
    intro u hu
    have hu2 := HB3.out.trans (hu.mono HB3.out.size)
    exact ⟨(HC.out u hu2).1, (HS.out u hu2).1.c2, (HS.out u hu2).1.c3, (HC.out u hu2).2.2.2.1⟩
  go_upto_region 40 with fail
  clear k0 k1 k3 c4 c5 HRW HBK HTB HS HC HNM HSN HRE HIA HKX HHB
  refine wp_region_held_drew (S := (fun u : World => u.cell? ⟨w.heap.size, 0, none⟩ = some (.pointer (some ⟨b, 0, none⟩)) ∧ u.cell? ⟨b, 2, none⟩ = some (.int .u64 (un g.phony : Int)) ∧ u.cell? ⟨b, 3, none⟩ = some (.int .u64 (un g.made : Int)) ∧ u.cell? ⟨w.heap.size + 1, 2, none⟩ = some (.int .i64 1))) (by kernel_rfl) ?_ (fun hHeld => ?_)
  · exact HS40.out _ ((Below.refl _ _).drew)
  refine wpAnyH_take (i := 0) (v := ?v0) rfl (by kernel_rfl) (by kernel_rfl) (by kernel_rfl) (fun _ _ _ h => h) (Or.inl ⟨by rfl, ?y0⟩) (by assumption) ?_
  case y0 => (intro u hSu; (try dsimp only at hSu); go_simp; try (with_reducible rfl))
  try simp only [Act.put, List.setIfInBounds_toArray]
  refine wpAnyH_take (i := 1) (v := ?v1) rfl (by kernel_rfl) (by kernel_rfl) (by kernel_rfl) (fun _ _ _ h => h) (Or.inl ⟨by rfl, ?y1⟩) (by assumption) ?_
  case y1 => (intro u hSu; (try dsimp only at hSu); go_simp; try (with_reducible rfl))
  try simp only [Act.put]
  refine wpAnyH_take (i := 2) (v := ?v2) rfl (by kernel_rfl) (by kernel_rfl) (by kernel_rfl) (fun _ _ _ h => h) (Or.inl ⟨by rfl, ?y2⟩) (by assumption) ?_
  case y2 => (intro u hSu; (try dsimp only at hSu); go_simp; try (with_reducible rfl))
  try simp only [Act.put]
  refine wpAnyH_take (i := 3) (v := ?v3) rfl (by kernel_rfl) (by kernel_rfl) (by kernel_rfl) (fun _ _ _ h => h) (Or.inl ⟨by rfl, ?y3⟩) (by assumption) ?_
  case y3 => (intro u hSu; (try dsimp only at hSu); go_simp; try (with_reducible rfl))
  try simp only [Act.put]
  refine wpAnyH_take (i := 4) (v := ?v4) rfl (by kernel_rfl) (by kernel_rfl) (by kernel_rfl) (fun _ _ _ h => h) (Or.inl ⟨by rfl, ?y4⟩) (by assumption) ?_
  case y4 => (intro u hSu; (try dsimp only at hSu); go_simp; try (with_reducible rfl))
  try simp only [Act.put]
  refine wpAnyH_take (i := 5) (v := ?v5) rfl (by kernel_rfl) (by kernel_rfl) (by kernel_rfl) (fun _ _ _ h => h) (Or.inl ⟨by rfl, ?y5⟩) (by assumption) ?_
  case y5 => (intro u hSu; (try dsimp only at hSu); go_simp; try (with_reducible rfl))
  try simp only [Act.put]
  refine wpAnyH_take (i := 6) (v := ?v6) rfl (by kernel_rfl) (by kernel_rfl) (by kernel_rfl) (fun _ _ _ h => h) (Or.inl ⟨by rfl, ?y6⟩) (by assumption) ?_
  case y6 => (intro u hSu; (try dsimp only at hSu); go_simp; try (with_reducible rfl))
  try simp only [Act.put]
  refine wpAnyH_take (i := 7) (v := ?v7) rfl (by kernel_rfl) (by kernel_rfl) (by kernel_rfl) (fun _ _ _ h => h) (Or.inl ⟨by rfl, ?y7⟩) (by assumption) ?_
  case y7 => (intro u hSu; (try dsimp only at hSu); go_simp; try (with_reducible rfl))
  try simp only [Act.put]
  refine wpAnyH_take (i := 8) (v := ?v8) rfl (by kernel_rfl) (by kernel_rfl) (by kernel_rfl) (fun _ _ _ h => h) (Or.inl ⟨by rfl, ?y8⟩) (by assumption) ?_
  case y8 => (intro u hSu; (try dsimp only at hSu); go_simp; try (with_reducible rfl))
  try simp only [Act.put]
  refine wpAnyH_take (i := 9) (v := ?v9) rfl (by kernel_rfl) (by kernel_rfl) (by kernel_rfl) (fun _ _ _ h => h) (Or.inl ⟨by rfl, ?y9⟩) (by assumption) ?_
  case y9 => (intro u hSu; (try dsimp only at hSu); go_simp; try (with_reducible rfl))
  try simp only [Act.put]
  refine wpAnyH_take (i := 10) (v := ?v10) rfl (by kernel_rfl) (by kernel_rfl) (by kernel_rfl) (fun _ _ _ h => h) (Or.inl ⟨by rfl, ?y10⟩) (by assumption) ?_
  case y10 => (intro u hSu; (try dsimp only at hSu); go_simp; try (with_reducible rfl))
  try simp only [Act.put]
  refine wpAnyH_take (i := 11) (v := ?v11) rfl (by kernel_rfl) (by kernel_rfl) (by kernel_rfl) (fun _ _ _ h => h) (Or.inl ⟨by rfl, ?y11⟩) (by assumption) ?_
  case y11 => (intro u hSu; (try dsimp only at hSu); go_simp; try (with_reducible rfl))
  try simp only [Act.put]
  refine wpAnyH_take (i := 12) (v := ?v12) rfl (by kernel_rfl) (by kernel_rfl) (by kernel_rfl) (fun _ _ _ h => h) (Or.inl ⟨by rfl, ?y12⟩) (by assumption) ?_
  case y12 => (intro u hSu; (try dsimp only at hSu); go_simp; try (with_reducible rfl))
  try simp only [Act.put]
  refine wpAnyH_take (i := 13) (v := ?v13) rfl (by kernel_rfl) (by kernel_rfl) (by kernel_rfl) (fun _ _ _ h => h) (Or.inl ⟨by rfl, ?y13⟩) (by assumption) ?_
  case y13 => (intro u hSu; (try dsimp only at hSu); go_simp; try (with_reducible rfl))
  try simp only [Act.put]
  refine wpAnyH_take (i := 14) (v := ?v14) rfl (by kernel_rfl) (by kernel_rfl) (by kernel_rfl) (fun _ _ _ h => h) (Or.inl ⟨by rfl, ?y14⟩) (by assumption) ?_
  case y14 => (intro u hSu; (try dsimp only at hSu); go_simp; try (with_reducible rfl))
  try simp only [Act.put]
  refine wpAnyH_take (i := 15) (v := ?v15) rfl (by kernel_rfl) (by kernel_rfl) (by kernel_rfl) (fun _ _ _ h => h) (Or.inl ⟨by rfl, ?y15⟩) (by assumption) ?_
  case y15 => (intro u hSu; (try dsimp only at hSu); go_simp; try (with_reducible rfl))
  try simp only [Act.put]
  refine wpAnyH_take (i := 16) (v := ?v16) rfl (by kernel_rfl) (by kernel_rfl) (by kernel_rfl) (fun _ _ _ h => h) (Or.inl ⟨by rfl, ?y16⟩) (by assumption) ?_
  case y16 => (intro u hSu; (try dsimp only at hSu); go_simp; try (with_reducible rfl))
  try simp only [Act.put]
  refine wpAnyH_take (i := 17) (v := ?v17) rfl (by kernel_rfl) (by kernel_rfl) (by kernel_rfl) (fun _ _ _ h => h) (Or.inl ⟨by rfl, ?y17⟩) (by assumption) ?_
  case y17 => (intro u hSu; (try dsimp only at hSu); go_simp; try (with_reducible rfl))
  try simp only [Act.put]
  refine wpAnyH_take (i := 18) (v := ?v18) rfl (by kernel_rfl) (by kernel_rfl) (by kernel_rfl) (fun _ _ _ h => h) (Or.inl ⟨by rfl, ?y18⟩) (by assumption) ?_
  case y18 => (intro u hSu; (try dsimp only at hSu); go_simp; try (with_reducible rfl))
  try simp only [Act.put]
  refine wpAnyH_take (i := 19) (v := ?v19) rfl (by kernel_rfl) (by kernel_rfl) (by kernel_rfl) (fun _ _ _ h => h) (Or.inl ⟨by rfl, ?y19⟩) (by assumption) ?_
  case y19 => (intro u hSu; (try dsimp only at hSu); go_simp; try (with_reducible rfl))
  try simp only [Act.put]
  refine wpAnyH_take (i := 20) (v := ?v20) rfl (by kernel_rfl) (by kernel_rfl) (by kernel_rfl) (fun _ _ _ h => h) (Or.inl ⟨by rfl, ?y20⟩) (by assumption) ?_
  case y20 => (intro u hSu; (try dsimp only at hSu); go_simp; try (with_reducible rfl))
  try simp only [Act.put]
  refine wpAnyH_take (i := 21) (v := ?v21) rfl (by kernel_rfl) (by kernel_rfl) (by kernel_rfl) (fun _ _ _ h => h) (Or.inl ⟨by rfl, ?y21⟩) (by assumption) ?_
  case y21 => (intro u hSu; (try dsimp only at hSu); go_simp; try (with_reducible rfl))
  try simp only [Act.put]
  refine wpAnyH_take (i := 22) (v := ?v22) rfl (by kernel_rfl) (by kernel_rfl) (by kernel_rfl) (fun _ _ _ h => h) (Or.inl ⟨by rfl, ?y22⟩) (by assumption) ?_
  case y22 => (intro u hSu; (try dsimp only at hSu); go_simp; try (with_reducible rfl))
  try simp only [Act.put]
  refine wpAnyH_take (i := 24) (v := ?v24) rfl (by kernel_rfl) (by kernel_rfl) (by kernel_rfl) (fun _ _ _ h => h) (Or.inl ⟨by rfl, ?y24⟩) (by assumption) ?_
  case y24 => (intro u hSu; (try dsimp only at hSu); go_simp; try (with_reducible rfl))
  try simp only [Act.put]
  refine wpAnyH_take (i := 25) (v := ?v25) rfl (by kernel_rfl) (by kernel_rfl) (by kernel_rfl) (fun _ _ _ h => h) (Or.inl ⟨by rfl, ?y25⟩) (by assumption) ?_
  case y25 => (intro u hSu; (try dsimp only at hSu); go_simp; try (with_reducible rfl))
  try simp only [Act.put]
  refine wpAnyH_ready (rs := [23]) (by kernel_rfl) (by simp) ?_
  refine AllReadyH.cons rfl (fun K hK => ?_) AllReadyH.nil
  go_simp
  refine hK.out _ _ ?_ (fun hHeld23 => ?_)
  · (refine HS40.out _ ?_; (repeat (first | exact Below.refl _ _ | refine Below.drew ?_ | refine Below.alloc ?_ (by simp <;> omega) _)))
  clear hK K
  try simp only [Act.put]
  refine wpAnyH_take (i := 26) (v := ?v26) rfl (by kernel_rfl) (by kernel_rfl) (by kernel_rfl) (fun _ _ _ h => h) (Or.inl ⟨by rfl, ?y26⟩) (by assumption) ?_
  case y26 => (intro u hSu; (try dsimp only at hSu); go_simp; try (with_reducible rfl))
  try simp only [Act.put]
  refine wpAnyH_ready (rs := [27]) (by kernel_rfl) (by simp) ?_
  refine AllReadyH.cons rfl (fun K hK => ?_) AllReadyH.nil
  go_simp
  refine hK.out _ _ ?_ (fun hHeld27 => ?_)
  · (refine HS40.out _ ?_; (repeat (first | exact Below.refl _ _ | refine Below.drew ?_ | refine Below.alloc ?_ (by simp <;> omega) _)))
  clear hK K
  try simp only [Act.put]
  refine wpAnyH_take (i := 28) (v := ?v28) rfl (by kernel_rfl) (by kernel_rfl) (by kernel_rfl) (fun _ _ _ h => h) (Or.inl ⟨by rfl, ?y28⟩) (by assumption) ?_
  case y28 => (intro u hSu; (try dsimp only at hSu); go_simp; try (with_reducible rfl))
  try simp only [Act.put]
  refine wpAnyH_take (i := 29) (v := ?v29) rfl (by kernel_rfl) (by kernel_rfl) (by kernel_rfl) (fun _ _ _ h => h) (Or.inl ⟨by rfl, ?y29⟩) (by assumption) ?_
  case y29 => (intro u hSu; (try dsimp only at hSu); go_simp; try (with_reducible rfl))
  try simp only [Act.put]
  refine wpAnyH_done (by kernel_rfl) ?_ _
  all_goals
    go_wp2_with fail
    go_ret
    exact ⟨by rw [HV.out]; rfl, HFB.out 1 _⟩
end Go.Proofs.YteefncohknclcaaGreatDoor
namespace Go.Proofs.YteefncohknclcaaGreatDoor
open Go.RowKit Go.Shelf
set_option maxHeartbeats 8000000 in
set_option maxRecDepth 100000 in
theorem solve15B_ok (g : GD) (hG : Good g) (b : Nat) (p : Option Addr) (c : Nat) (ev : Value) (pr : Option Addr) (cr : Nat) (pb : Option Addr) (cb : Nat) (k : Int) (s : ByteArray) (n : Int) (pt : Option Addr) (ct : Nat) (hk : k = 15) (hn : n = 2) (x : QT) (hx : ∀ (w : World) (sc : Value) (en : List (Txt × B)), SolAt w g b p c ev pr cr pb cb → QIn w x → Tab w → EnAt w sc en → EnvR g en → Calls Tryz.prog 37 #[.pointer (some ⟨b, 0, none⟩), x.v, sc] w (SolvePost g (qabs x) en w))
    (w : World) (sc : Value) (en : List (Txt × B)) (hS : SolAt w g b p c ev pr cr pb cb) (hQ : QIn w (.mk k s n pt ct [x])) (hT : Tab w) (hE : EnAt w sc en) (hR : EnvR g en) (hchk : qchk qpat (qabs (.mk k s n pt ct [x])) = 0) (hnm : Nmd g (qabs (.mk k s n pt ct [x]))) :
    Calls Tryz.prog 37 #[.pointer (some ⟨b, 0, none⟩), (QT.mk k s n pt ct [x]).v, sc] w (SolvePost g (qabs (.mk k s n pt ct [x])) en w) := by
  obtain ⟨hnd, hkc⟩ := qchk_zero.1 (show qchk qpat (.mk k s.data.toList n (qabss [x])) = 0 from hchk)
  obtain ⟨W, hW, hBW, hSz, hC⟩ := argSV w (.pointer (some ⟨b, 0, none⟩)) (.int .i64 k) (.string s) (.int .i64 n) (.slice pt 1 ct)
  have HC := Lib.hid hC
  have HBW := Lib.hid hBW
  have HG := Lib.hid hG
  have h64 := hG.names
  have HS : Hid (∀ u : World, Below W.heap.size W u → SolAt u g b p c ev pr cr pb cb ∧ Tab u ∧ EnAt u sc en) := by
    show ∀ u : World, _
    exact fun u hu => ⟨hS.below (hBW.trans (hu.mono hBW.size)), hT.below (hBW.trans (hu.mono hBW.size)), hE.kept (hBW.trans (hu.mono hBW.size))⟩
  have HRE := Lib.hid hR
  have HSN : Hid (s.size ≤ 1048576) := hQ.small.1
  have HNM : Hid (k = 1 → ghas g s.data.toList) := (show Nmd g (.mk k s.data.toList n (qabss [x])) from hnm).name
  have HHB : Hid (W.heap.size = w.heap.size + 2) := hSz
  obtain ⟨⟨b1, o, rfl, hb1, hf1⟩, hqx⟩ := hQ.kids.at (j := 0) (x := x) rfl
  have HKX : Hid (∀ u : World, Below W.heap.size W u → Four u b1 o x ∧ QIn u x) := by
    show ∀ u : World, _
    exact fun u hu => ⟨(show Four w b1 o x from hf1).below (hBW.trans (hu.mono hBW.size)) hb1, hqx.below (hBW.trans (hu.mono hBW.size))⟩
  have hcx : qchk qpat (qabs x) = 0 := hkc _ (by show qabs x ∈ [qabs x]; simp)
  have hnx : Nmd g (qabs x) := hnm.kids _ (by show qabs x ∈ [qabs x]; simp)
  have iA : InR g (qval g (qabs x) en) := val_in hG _ hnx en hR
  have HCX : Hid (∀ u : World, Below W.heap.size W u → Calls Tryz.prog 37 #[.pointer (some ⟨b, 0, none⟩), x.v, sc] u (SolvePost g (qabs x) en u)) := by
    show ∀ u : World, _
    exact fun u hu => hx u sc en (HS.out u hu).1 (HKX.out u hu).2 (HS.out u hu).2.1 (HS.out u hu).2.2 hR
  unfold SolvePost at HCX
  obtain ⟨A, hA⟩ : ∃ A, qval g (qabs x) en = A := ⟨_, rfl⟩
  have HIA : Hid (InR g A) := by show InR g A; rw [← hA]; exact iA
  have HV0 : Hid (qval g (qabs (.mk k s n (some ⟨b1, o, none⟩) ct [x])) en = qop2 g k s.data.toList n en A 0#64) := by show _ = _; rw [← hA]; exact val1 g k s.data.toList n (qabs x) en
  rw [hA] at HCX
  subst hk hn
  have HV : Hid (qval g (qabs (.mk 15 s 2 (some ⟨b1, o, none⟩) ct [x])) en = A &&& g.phony) := HV0
  clear hS hQ hT hE hR hchk hnm hnd hkc hBW hSz hC hG hx hb1 hf1 hqx hcx hnx iA hA HV0
  obtain ⟨v0, k0, k1, k2, k3⟩ := HC.out W (Below.refl _ _)
  show Calls Tryz.prog 37 #[.pointer (some ⟨b, 0, none⟩), .agg #[.int .i64 15, .string s, .int .i64 2, .slice (some ⟨b1, o, none⟩) 1 ct], sc] w _
  go_enter Tryz.func37, Tryz.ntmps37
  go_upto_region 1 with fail
  rw [← hW]
  clear hW
  have HSS : Hid (∀ u : World, Below W.heap.size W u → u.cell? ⟨w.heap.size, 0, none⟩ = some (.pointer (some ⟨b, 0, none⟩)) ∧ u.cell? ⟨w.heap.size + 1, 3, none⟩ = some (.slice (some ⟨b1, o, none⟩) 1 ct) ∧ u.cell? ⟨b1, o, none⟩ = some (.int .i64 x.kind) ∧ u.cell? ⟨b1, o + 1, none⟩ = some (.string x.name) ∧ u.cell? ⟨b1, o + 2, none⟩ = some (.int .i64 x.num) ∧ u.cell? ⟨b1, o + 3, none⟩ = some (.slice x.p x.xs.length x.cap)) := by
    show ∀ u : World, _
    intro u hu
    obtain ⟨q0, q1, q2, q3⟩ := (HKX.out u hu).1
    exact ⟨(HC.out u hu).1, (HC.out u hu).2.2.2.2, q0, q1, q2, q3⟩
  go_upto_region 3 with fail
  go_region_held3 (fun u : World => u.cell? ⟨w.heap.size, 0, none⟩ = some (.pointer (some ⟨b, 0, none⟩)) ∧ u.cell? ⟨w.heap.size + 1, 3, none⟩ = some (.slice (some ⟨b1, o, none⟩) 1 ct) ∧ u.cell? ⟨b1, o, none⟩ = some (.int .i64 x.kind) ∧ u.cell? ⟨b1, o + 1, none⟩ = some (.string x.name) ∧ u.cell? ⟨b1, o + 2, none⟩ = some (.int .i64 x.num) ∧ u.cell? ⟨b1, o + 3, none⟩ = some (.slice x.p x.xs.length x.cap))
    (first | exact HSS.out _ HB3.out | exact HSS.out _ ((Below.refl _ _).drew))
    ((go_at_call 37; refine (HCX.out _ ((Below.refl _ _).drew)).mono ?_; rintro e w3 ⟨rfl, hb⟩; have HB3 := Lib.hid (((Below.refl W.heap.size W).drew).trans (hb.mono (Nat.le_refl _))); clear hb))
  clear v0 k0 k1 k2 k3 HSS HCX
  obtain ⟨v0, k0, k1, k2, k3⟩ := HC.out w3 HB3.out
  have hsa := (HS.out w3 HB3.out).1
  have c2 := hsa.c2
  have c3 := hsa.c3
  have c4 := hsa.c4
  have c5 := hsa.c5
  have HRW := Lib.hid hsa.rows
  have HBK := Lib.hid hsa.back
  have HTB := Lib.hid (HS.out w3 HB3.out).2.1
  clear hsa
  have HFB : Hid (∀ (q : Nat) o, Below w.heap.size w ((w3.drewN q).alloc o)) := by
    show ∀ (q : Nat) o, _
    exact fun q o => (below_drawsA (HBW.out.trans (HB3.out.mono HBW.out.size)) q).alloc (by have h1 := HB3.out.size; have h2 := HBW.out.size; show _ ≤ w3.heap.size; omega) o
  have kz : ∀ ob, (w3.alloc ob).cell? ⟨w.heap.size + 1, 2, none⟩ = some (.int .i64 2) := fun ob => (HC.out (w3.alloc ob) (HB3.out.alloc HB3.out.size ob)).2.2.2.1
  have HS40 : Hid (∀ u : World, Below w3.heap.size w3 u → u.cell? ⟨w.heap.size, 0, none⟩ = some (.pointer (some ⟨b, 0, none⟩)) ∧ u.cell? ⟨b, 2, none⟩ = some (.int .u64 (un g.phony : Int)) ∧ u.cell? ⟨b, 3, none⟩ = some (.int .u64 (un g.made : Int)) ∧ u.cell? ⟨w.heap.size + 1, 2, none⟩ = some (.int .i64 2)) := by
    show ∀ u : World, _
    intro u hu
    have hu2 := HB3.out.trans (hu.mono HB3.out.size)
    exact ⟨(HC.out u hu2).1, (HS.out u hu2).1.c2, (HS.out u hu2).1.c3, (HC.out u hu2).2.2.2.1⟩
  go_upto_region 40 with fail
  clear k0 k1 k3 c4 c5 HRW HBK HTB HS HC HNM HSN HRE HIA HKX HHB
  refine wp_region_held_drew (S := (fun u : World => u.cell? ⟨w.heap.size, 0, none⟩ = some (.pointer (some ⟨b, 0, none⟩)) ∧ u.cell? ⟨b, 2, none⟩ = some (.int .u64 (un g.phony : Int)) ∧ u.cell? ⟨b, 3, none⟩ = some (.int .u64 (un g.made : Int)) ∧ u.cell? ⟨w.heap.size + 1, 2, none⟩ = some (.int .i64 2))) (by kernel_rfl) ?_ (fun hHeld => ?_)
  · exact HS40.out _ ((Below.refl _ _).drew)
  refine wpAnyH_take (i := 0) (v := ?v0) rfl (by kernel_rfl) (by kernel_rfl) (by kernel_rfl) (fun _ _ _ h => h) (Or.inl ⟨by rfl, ?y0⟩) (by assumption) ?_
  case y0 => (intro u hSu; (try dsimp only at hSu); go_simp; try (with_reducible rfl))
  try simp only [Act.put, List.setIfInBounds_toArray]
  refine wpAnyH_take (i := 1) (v := ?v1) rfl (by kernel_rfl) (by kernel_rfl) (by kernel_rfl) (fun _ _ _ h => h) (Or.inl ⟨by rfl, ?y1⟩) (by assumption) ?_
  case y1 => (intro u hSu; (try dsimp only at hSu); go_simp; try (with_reducible rfl))
  try simp only [Act.put]
  refine wpAnyH_take (i := 2) (v := ?v2) rfl (by kernel_rfl) (by kernel_rfl) (by kernel_rfl) (fun _ _ _ h => h) (Or.inl ⟨by rfl, ?y2⟩) (by assumption) ?_
  case y2 => (intro u hSu; (try dsimp only at hSu); go_simp; try (with_reducible rfl))
  try simp only [Act.put]
  refine wpAnyH_take (i := 3) (v := ?v3) rfl (by kernel_rfl) (by kernel_rfl) (by kernel_rfl) (fun _ _ _ h => h) (Or.inl ⟨by rfl, ?y3⟩) (by assumption) ?_
  case y3 => (intro u hSu; (try dsimp only at hSu); go_simp; try (with_reducible rfl))
  try simp only [Act.put]
  refine wpAnyH_take (i := 4) (v := ?v4) rfl (by kernel_rfl) (by kernel_rfl) (by kernel_rfl) (fun _ _ _ h => h) (Or.inl ⟨by rfl, ?y4⟩) (by assumption) ?_
  case y4 => (intro u hSu; (try dsimp only at hSu); go_simp; try (with_reducible rfl))
  try simp only [Act.put]
  refine wpAnyH_take (i := 5) (v := ?v5) rfl (by kernel_rfl) (by kernel_rfl) (by kernel_rfl) (fun _ _ _ h => h) (Or.inl ⟨by rfl, ?y5⟩) (by assumption) ?_
  case y5 => (intro u hSu; (try dsimp only at hSu); go_simp; try (with_reducible rfl))
  try simp only [Act.put]
  refine wpAnyH_take (i := 6) (v := ?v6) rfl (by kernel_rfl) (by kernel_rfl) (by kernel_rfl) (fun _ _ _ h => h) (Or.inl ⟨by rfl, ?y6⟩) (by assumption) ?_
  case y6 => (intro u hSu; (try dsimp only at hSu); go_simp; try (with_reducible rfl))
  try simp only [Act.put]
  refine wpAnyH_take (i := 7) (v := ?v7) rfl (by kernel_rfl) (by kernel_rfl) (by kernel_rfl) (fun _ _ _ h => h) (Or.inl ⟨by rfl, ?y7⟩) (by assumption) ?_
  case y7 => (intro u hSu; (try dsimp only at hSu); go_simp; try (with_reducible rfl))
  try simp only [Act.put]
  refine wpAnyH_take (i := 8) (v := ?v8) rfl (by kernel_rfl) (by kernel_rfl) (by kernel_rfl) (fun _ _ _ h => h) (Or.inl ⟨by rfl, ?y8⟩) (by assumption) ?_
  case y8 => (intro u hSu; (try dsimp only at hSu); go_simp; try (with_reducible rfl))
  try simp only [Act.put]
  refine wpAnyH_take (i := 9) (v := ?v9) rfl (by kernel_rfl) (by kernel_rfl) (by kernel_rfl) (fun _ _ _ h => h) (Or.inl ⟨by rfl, ?y9⟩) (by assumption) ?_
  case y9 => (intro u hSu; (try dsimp only at hSu); go_simp; try (with_reducible rfl))
  try simp only [Act.put]
  refine wpAnyH_take (i := 10) (v := ?v10) rfl (by kernel_rfl) (by kernel_rfl) (by kernel_rfl) (fun _ _ _ h => h) (Or.inl ⟨by rfl, ?y10⟩) (by assumption) ?_
  case y10 => (intro u hSu; (try dsimp only at hSu); go_simp; try (with_reducible rfl))
  try simp only [Act.put]
  refine wpAnyH_take (i := 11) (v := ?v11) rfl (by kernel_rfl) (by kernel_rfl) (by kernel_rfl) (fun _ _ _ h => h) (Or.inl ⟨by rfl, ?y11⟩) (by assumption) ?_
  case y11 => (intro u hSu; (try dsimp only at hSu); go_simp; try (with_reducible rfl))
  try simp only [Act.put]
  refine wpAnyH_take (i := 12) (v := ?v12) rfl (by kernel_rfl) (by kernel_rfl) (by kernel_rfl) (fun _ _ _ h => h) (Or.inl ⟨by rfl, ?y12⟩) (by assumption) ?_
  case y12 => (intro u hSu; (try dsimp only at hSu); go_simp; try (with_reducible rfl))
  try simp only [Act.put]
  refine wpAnyH_take (i := 13) (v := ?v13) rfl (by kernel_rfl) (by kernel_rfl) (by kernel_rfl) (fun _ _ _ h => h) (Or.inl ⟨by rfl, ?y13⟩) (by assumption) ?_
  case y13 => (intro u hSu; (try dsimp only at hSu); go_simp; try (with_reducible rfl))
  try simp only [Act.put]
  refine wpAnyH_take (i := 14) (v := ?v14) rfl (by kernel_rfl) (by kernel_rfl) (by kernel_rfl) (fun _ _ _ h => h) (Or.inl ⟨by rfl, ?y14⟩) (by assumption) ?_
  case y14 => (intro u hSu; (try dsimp only at hSu); go_simp; try (with_reducible rfl))
  try simp only [Act.put]
  refine wpAnyH_take (i := 15) (v := ?v15) rfl (by kernel_rfl) (by kernel_rfl) (by kernel_rfl) (fun _ _ _ h => h) (Or.inl ⟨by rfl, ?y15⟩) (by assumption) ?_
  case y15 => (intro u hSu; (try dsimp only at hSu); go_simp; try (with_reducible rfl))
  try simp only [Act.put]
  refine wpAnyH_take (i := 16) (v := ?v16) rfl (by kernel_rfl) (by kernel_rfl) (by kernel_rfl) (fun _ _ _ h => h) (Or.inl ⟨by rfl, ?y16⟩) (by assumption) ?_
  case y16 => (intro u hSu; (try dsimp only at hSu); go_simp; try (with_reducible rfl))
  try simp only [Act.put]
  refine wpAnyH_take (i := 17) (v := ?v17) rfl (by kernel_rfl) (by kernel_rfl) (by kernel_rfl) (fun _ _ _ h => h) (Or.inl ⟨by rfl, ?y17⟩) (by assumption) ?_
  case y17 => (intro u hSu; (try dsimp only at hSu); go_simp; try (with_reducible rfl))
  try simp only [Act.put]
  refine wpAnyH_take (i := 18) (v := ?v18) rfl (by kernel_rfl) (by kernel_rfl) (by kernel_rfl) (fun _ _ _ h => h) (Or.inl ⟨by rfl, ?y18⟩) (by assumption) ?_
  case y18 => (intro u hSu; (try dsimp only at hSu); go_simp; try (with_reducible rfl))
  try simp only [Act.put]
  refine wpAnyH_take (i := 19) (v := ?v19) rfl (by kernel_rfl) (by kernel_rfl) (by kernel_rfl) (fun _ _ _ h => h) (Or.inl ⟨by rfl, ?y19⟩) (by assumption) ?_
  case y19 => (intro u hSu; (try dsimp only at hSu); go_simp; try (with_reducible rfl))
  try simp only [Act.put]
  refine wpAnyH_take (i := 20) (v := ?v20) rfl (by kernel_rfl) (by kernel_rfl) (by kernel_rfl) (fun _ _ _ h => h) (Or.inl ⟨by rfl, ?y20⟩) (by assumption) ?_
  case y20 => (intro u hSu; (try dsimp only at hSu); go_simp; try (with_reducible rfl))
  try simp only [Act.put]
  refine wpAnyH_take (i := 21) (v := ?v21) rfl (by kernel_rfl) (by kernel_rfl) (by kernel_rfl) (fun _ _ _ h => h) (Or.inl ⟨by rfl, ?y21⟩) (by assumption) ?_
  case y21 => (intro u hSu; (try dsimp only at hSu); go_simp; try (with_reducible rfl))
  try simp only [Act.put]
  refine wpAnyH_take (i := 22) (v := ?v22) rfl (by kernel_rfl) (by kernel_rfl) (by kernel_rfl) (fun _ _ _ h => h) (Or.inl ⟨by rfl, ?y22⟩) (by assumption) ?_
  case y22 => (intro u hSu; (try dsimp only at hSu); go_simp; try (with_reducible rfl))
  try simp only [Act.put]
  refine wpAnyH_take (i := 24) (v := ?v24) rfl (by kernel_rfl) (by kernel_rfl) (by kernel_rfl) (fun _ _ _ h => h) (Or.inl ⟨by rfl, ?y24⟩) (by assumption) ?_
  case y24 => (intro u hSu; (try dsimp only at hSu); go_simp; try (with_reducible rfl))
  try simp only [Act.put]
  refine wpAnyH_take (i := 25) (v := ?v25) rfl (by kernel_rfl) (by kernel_rfl) (by kernel_rfl) (fun _ _ _ h => h) (Or.inl ⟨by rfl, ?y25⟩) (by assumption) ?_
  case y25 => (intro u hSu; (try dsimp only at hSu); go_simp; try (with_reducible rfl))
  try simp only [Act.put]
  refine wpAnyH_ready (rs := [23]) (by kernel_rfl) (by simp) ?_
  refine AllReadyH.cons rfl (fun K hK => ?_) AllReadyH.nil
  go_simp
  refine hK.out _ _ ?_ (fun hHeld23 => ?_)
  · (refine HS40.out _ ?_; (repeat (first | exact Below.refl _ _ | refine Below.drew ?_ | refine Below.alloc ?_ (by simp <;> omega) _)))
  clear hK K
  try simp only [Act.put]
  refine wpAnyH_take (i := 26) (v := ?v26) rfl (by kernel_rfl) (by kernel_rfl) (by kernel_rfl) (fun _ _ _ h => h) (Or.inl ⟨by rfl, ?y26⟩) (by assumption) ?_
  case y26 => (intro u hSu; (try dsimp only at hSu); go_simp; try (with_reducible rfl))
  try simp only [Act.put]
  refine wpAnyH_ready (rs := [27]) (by kernel_rfl) (by simp) ?_
  refine AllReadyH.cons rfl (fun K hK => ?_) AllReadyH.nil
  go_simp
  refine hK.out _ _ ?_ (fun hHeld27 => ?_)
  · (refine HS40.out _ ?_; (repeat (first | exact Below.refl _ _ | refine Below.drew ?_ | refine Below.alloc ?_ (by simp <;> omega) _)))
  clear hK K
  try simp only [Act.put]
  refine wpAnyH_take (i := 28) (v := ?v28) rfl (by kernel_rfl) (by kernel_rfl) (by kernel_rfl) (fun _ _ _ h => h) (Or.inl ⟨by rfl, ?y28⟩) (by assumption) ?_
  case y28 => (intro u hSu; (try dsimp only at hSu); go_simp; try (with_reducible rfl))
  try simp only [Act.put]
  refine wpAnyH_take (i := 29) (v := ?v29) rfl (by kernel_rfl) (by kernel_rfl) (by kernel_rfl) (fun _ _ _ h => h) (Or.inl ⟨by rfl, ?y29⟩) (by assumption) ?_
  case y29 => (intro u hSu; (try dsimp only at hSu); go_simp; try (with_reducible rfl))
  try simp only [Act.put]
  refine wpAnyH_done (by kernel_rfl) ?_ _
  all_goals
    go_wp2_with fail
    go_ret
    exact ⟨by rw [HV.out]; rfl, HFB.out 1 _⟩
end Go.Proofs.YteefncohknclcaaGreatDoor
namespace Go.Proofs.YteefncohknclcaaGreatDoor
open Go.RowKit Go.Shelf
set_option maxHeartbeats 8000000 in
set_option maxRecDepth 100000 in
theorem solve15C_ok (g : GD) (hG : Good g) (b : Nat) (p : Option Addr) (c : Nat) (ev : Value) (pr : Option Addr) (cr : Nat) (pb : Option Addr) (cb : Nat) (k : Int) (s : ByteArray) (n : Int) (pt : Option Addr) (ct : Nat) (hk : k = 15) (hn : n = 3) (x : QT) (hx : ∀ (w : World) (sc : Value) (en : List (Txt × B)), SolAt w g b p c ev pr cr pb cb → QIn w x → Tab w → EnAt w sc en → EnvR g en → Calls Tryz.prog 37 #[.pointer (some ⟨b, 0, none⟩), x.v, sc] w (SolvePost g (qabs x) en w))
    (w : World) (sc : Value) (en : List (Txt × B)) (hS : SolAt w g b p c ev pr cr pb cb) (hQ : QIn w (.mk k s n pt ct [x])) (hT : Tab w) (hE : EnAt w sc en) (hR : EnvR g en) (hchk : qchk qpat (qabs (.mk k s n pt ct [x])) = 0) (hnm : Nmd g (qabs (.mk k s n pt ct [x]))) :
    Calls Tryz.prog 37 #[.pointer (some ⟨b, 0, none⟩), (QT.mk k s n pt ct [x]).v, sc] w (SolvePost g (qabs (.mk k s n pt ct [x])) en w) := by
  obtain ⟨hnd, hkc⟩ := qchk_zero.1 (show qchk qpat (.mk k s.data.toList n (qabss [x])) = 0 from hchk)
  obtain ⟨W, hW, hBW, hSz, hC⟩ := argSV w (.pointer (some ⟨b, 0, none⟩)) (.int .i64 k) (.string s) (.int .i64 n) (.slice pt 1 ct)
  have HC := Lib.hid hC
  have HBW := Lib.hid hBW
  have HG := Lib.hid hG
  have h64 := hG.names
  have HS : Hid (∀ u : World, Below W.heap.size W u → SolAt u g b p c ev pr cr pb cb ∧ Tab u ∧ EnAt u sc en) := by
    show ∀ u : World, _
    exact fun u hu => ⟨hS.below (hBW.trans (hu.mono hBW.size)), hT.below (hBW.trans (hu.mono hBW.size)), hE.kept (hBW.trans (hu.mono hBW.size))⟩
  have HRE := Lib.hid hR
  have HSN : Hid (s.size ≤ 1048576) := hQ.small.1
  have HNM : Hid (k = 1 → ghas g s.data.toList) := (show Nmd g (.mk k s.data.toList n (qabss [x])) from hnm).name
  have HHB : Hid (W.heap.size = w.heap.size + 2) := hSz
  obtain ⟨⟨b1, o, rfl, hb1, hf1⟩, hqx⟩ := hQ.kids.at (j := 0) (x := x) rfl
  have HKX : Hid (∀ u : World, Below W.heap.size W u → Four u b1 o x ∧ QIn u x) := by
    show ∀ u : World, _
    exact fun u hu => ⟨(show Four w b1 o x from hf1).below (hBW.trans (hu.mono hBW.size)) hb1, hqx.below (hBW.trans (hu.mono hBW.size))⟩
  have hcx : qchk qpat (qabs x) = 0 := hkc _ (by show qabs x ∈ [qabs x]; simp)
  have hnx : Nmd g (qabs x) := hnm.kids _ (by show qabs x ∈ [qabs x]; simp)
  have iA : InR g (qval g (qabs x) en) := val_in hG _ hnx en hR
  have HCX : Hid (∀ u : World, Below W.heap.size W u → Calls Tryz.prog 37 #[.pointer (some ⟨b, 0, none⟩), x.v, sc] u (SolvePost g (qabs x) en u)) := by
    show ∀ u : World, _
    exact fun u hu => hx u sc en (HS.out u hu).1 (HKX.out u hu).2 (HS.out u hu).2.1 (HS.out u hu).2.2 hR
  unfold SolvePost at HCX
  obtain ⟨A, hA⟩ : ∃ A, qval g (qabs x) en = A := ⟨_, rfl⟩
  have HIA : Hid (InR g A) := by show InR g A; rw [← hA]; exact iA
  have HV0 : Hid (qval g (qabs (.mk k s n (some ⟨b1, o, none⟩) ct [x])) en = qop2 g k s.data.toList n en A 0#64) := by show _ = _; rw [← hA]; exact val1 g k s.data.toList n (qabs x) en
  rw [hA] at HCX
  subst hk hn
  have HV : Hid (qval g (qabs (.mk 15 s 3 (some ⟨b1, o, none⟩) ct [x])) en = A &&& ~~~(g.made ||| g.phony)) := HV0
  clear hS hQ hT hE hR hchk hnm hnd hkc hBW hSz hC hG hx hb1 hf1 hqx hcx hnx iA hA HV0
  obtain ⟨v0, k0, k1, k2, k3⟩ := HC.out W (Below.refl _ _)
  show Calls Tryz.prog 37 #[.pointer (some ⟨b, 0, none⟩), .agg #[.int .i64 15, .string s, .int .i64 3, .slice (some ⟨b1, o, none⟩) 1 ct], sc] w _
  go_enter Tryz.func37, Tryz.ntmps37
  go_upto_region 1 with fail
  rw [← hW]
  clear hW
  have HSS : Hid (∀ u : World, Below W.heap.size W u → u.cell? ⟨w.heap.size, 0, none⟩ = some (.pointer (some ⟨b, 0, none⟩)) ∧ u.cell? ⟨w.heap.size + 1, 3, none⟩ = some (.slice (some ⟨b1, o, none⟩) 1 ct) ∧ u.cell? ⟨b1, o, none⟩ = some (.int .i64 x.kind) ∧ u.cell? ⟨b1, o + 1, none⟩ = some (.string x.name) ∧ u.cell? ⟨b1, o + 2, none⟩ = some (.int .i64 x.num) ∧ u.cell? ⟨b1, o + 3, none⟩ = some (.slice x.p x.xs.length x.cap)) := by
    show ∀ u : World, _
    intro u hu
    obtain ⟨q0, q1, q2, q3⟩ := (HKX.out u hu).1
    exact ⟨(HC.out u hu).1, (HC.out u hu).2.2.2.2, q0, q1, q2, q3⟩
  go_upto_region 3 with fail
  go_region_held3 (fun u : World => u.cell? ⟨w.heap.size, 0, none⟩ = some (.pointer (some ⟨b, 0, none⟩)) ∧ u.cell? ⟨w.heap.size + 1, 3, none⟩ = some (.slice (some ⟨b1, o, none⟩) 1 ct) ∧ u.cell? ⟨b1, o, none⟩ = some (.int .i64 x.kind) ∧ u.cell? ⟨b1, o + 1, none⟩ = some (.string x.name) ∧ u.cell? ⟨b1, o + 2, none⟩ = some (.int .i64 x.num) ∧ u.cell? ⟨b1, o + 3, none⟩ = some (.slice x.p x.xs.length x.cap))
    (first | exact HSS.out _ HB3.out | exact HSS.out _ ((Below.refl _ _).drew))
    ((go_at_call 37; refine (HCX.out _ ((Below.refl _ _).drew)).mono ?_; rintro e w3 ⟨rfl, hb⟩; have HB3 := Lib.hid (((Below.refl W.heap.size W).drew).trans (hb.mono (Nat.le_refl _))); clear hb))
  clear v0 k0 k1 k2 k3 HSS HCX
  obtain ⟨v0, k0, k1, k2, k3⟩ := HC.out w3 HB3.out
  have hsa := (HS.out w3 HB3.out).1
  have c2 := hsa.c2
  have c3 := hsa.c3
  have c4 := hsa.c4
  have c5 := hsa.c5
  have HRW := Lib.hid hsa.rows
  have HBK := Lib.hid hsa.back
  have HTB := Lib.hid (HS.out w3 HB3.out).2.1
  clear hsa
  have HFB : Hid (∀ (q : Nat) o, Below w.heap.size w ((w3.drewN q).alloc o)) := by
    show ∀ (q : Nat) o, _
    exact fun q o => (below_drawsA (HBW.out.trans (HB3.out.mono HBW.out.size)) q).alloc (by have h1 := HB3.out.size; have h2 := HBW.out.size; show _ ≤ w3.heap.size; omega) o
  have kz : ∀ ob, (w3.alloc ob).cell? ⟨w.heap.size + 1, 2, none⟩ = some (.int .i64 3) := fun ob => (HC.out (w3.alloc ob) (HB3.out.alloc HB3.out.size ob)).2.2.2.1
  have HS40 : Hid (∀ u : World, Below w3.heap.size w3 u → u.cell? ⟨w.heap.size, 0, none⟩ = some (.pointer (some ⟨b, 0, none⟩)) ∧ u.cell? ⟨b, 2, none⟩ = some (.int .u64 (un g.phony : Int)) ∧ u.cell? ⟨b, 3, none⟩ = some (.int .u64 (un g.made : Int)) ∧ u.cell? ⟨w.heap.size + 1, 2, none⟩ = some (.int .i64 3)) := by
    show ∀ u : World, _
    intro u hu
    have hu2 := HB3.out.trans (hu.mono HB3.out.size)
    exact ⟨(HC.out u hu2).1, (HS.out u hu2).1.c2, (HS.out u hu2).1.c3, (HC.out u hu2).2.2.2.1⟩
  go_upto_region 40 with fail
  clear k0 k1 k3 c4 c5 HRW HBK HTB HS HC HNM HSN HRE HIA HKX HHB
  refine wp_region_held_drew (S := (fun u : World => u.cell? ⟨w.heap.size, 0, none⟩ = some (.pointer (some ⟨b, 0, none⟩)) ∧ u.cell? ⟨b, 2, none⟩ = some (.int .u64 (un g.phony : Int)) ∧ u.cell? ⟨b, 3, none⟩ = some (.int .u64 (un g.made : Int)) ∧ u.cell? ⟨w.heap.size + 1, 2, none⟩ = some (.int .i64 3))) (by kernel_rfl) ?_ (fun hHeld => ?_)
  · exact HS40.out _ ((Below.refl _ _).drew)
  refine wpAnyH_take (i := 0) (v := ?v0) rfl (by kernel_rfl) (by kernel_rfl) (by kernel_rfl) (fun _ _ _ h => h) (Or.inl ⟨by rfl, ?y0⟩) (by assumption) ?_
  case y0 => (intro u hSu; (try dsimp only at hSu); go_simp; try (with_reducible rfl))
  try simp only [Act.put, List.setIfInBounds_toArray]
  refine wpAnyH_take (i := 1) (v := ?v1) rfl (by kernel_rfl) (by kernel_rfl) (by kernel_rfl) (fun _ _ _ h => h) (Or.inl ⟨by rfl, ?y1⟩) (by assumption) ?_
  case y1 => (intro u hSu; (try dsimp only at hSu); go_simp; try (with_reducible rfl))
  try simp only [Act.put]
  refine wpAnyH_take (i := 2) (v := ?v2) rfl (by kernel_rfl) (by kernel_rfl) (by kernel_rfl) (fun _ _ _ h => h) (Or.inl ⟨by rfl, ?y2⟩) (by assumption) ?_
  case y2 => (intro u hSu; (try dsimp only at hSu); go_simp; try (with_reducible rfl))
  try simp only [Act.put]
  refine wpAnyH_take (i := 3) (v := ?v3) rfl (by kernel_rfl) (by kernel_rfl) (by kernel_rfl) (fun _ _ _ h => h) (Or.inl ⟨by rfl, ?y3⟩) (by assumption) ?_
  case y3 => (intro u hSu; (try dsimp only at hSu); go_simp; try (with_reducible rfl))
  try simp only [Act.put]
  refine wpAnyH_take (i := 4) (v := ?v4) rfl (by kernel_rfl) (by kernel_rfl) (by kernel_rfl) (fun _ _ _ h => h) (Or.inl ⟨by rfl, ?y4⟩) (by assumption) ?_
  case y4 => (intro u hSu; (try dsimp only at hSu); go_simp; try (with_reducible rfl))
  try simp only [Act.put]
  refine wpAnyH_take (i := 5) (v := ?v5) rfl (by kernel_rfl) (by kernel_rfl) (by kernel_rfl) (fun _ _ _ h => h) (Or.inl ⟨by rfl, ?y5⟩) (by assumption) ?_
  case y5 => (intro u hSu; (try dsimp only at hSu); go_simp; try (with_reducible rfl))
  try simp only [Act.put]
  refine wpAnyH_take (i := 6) (v := ?v6) rfl (by kernel_rfl) (by kernel_rfl) (by kernel_rfl) (fun _ _ _ h => h) (Or.inl ⟨by rfl, ?y6⟩) (by assumption) ?_
  case y6 => (intro u hSu; (try dsimp only at hSu); go_simp; try (with_reducible rfl))
  try simp only [Act.put]
  refine wpAnyH_take (i := 7) (v := ?v7) rfl (by kernel_rfl) (by kernel_rfl) (by kernel_rfl) (fun _ _ _ h => h) (Or.inl ⟨by rfl, ?y7⟩) (by assumption) ?_
  case y7 => (intro u hSu; (try dsimp only at hSu); go_simp; try (with_reducible rfl))
  try simp only [Act.put]
  refine wpAnyH_take (i := 8) (v := ?v8) rfl (by kernel_rfl) (by kernel_rfl) (by kernel_rfl) (fun _ _ _ h => h) (Or.inl ⟨by rfl, ?y8⟩) (by assumption) ?_
  case y8 => (intro u hSu; (try dsimp only at hSu); go_simp; try (with_reducible rfl))
  try simp only [Act.put]
  refine wpAnyH_take (i := 9) (v := ?v9) rfl (by kernel_rfl) (by kernel_rfl) (by kernel_rfl) (fun _ _ _ h => h) (Or.inl ⟨by rfl, ?y9⟩) (by assumption) ?_
  case y9 => (intro u hSu; (try dsimp only at hSu); go_simp; try (with_reducible rfl))
  try simp only [Act.put]
  refine wpAnyH_take (i := 10) (v := ?v10) rfl (by kernel_rfl) (by kernel_rfl) (by kernel_rfl) (fun _ _ _ h => h) (Or.inl ⟨by rfl, ?y10⟩) (by assumption) ?_
  case y10 => (intro u hSu; (try dsimp only at hSu); go_simp; try (with_reducible rfl))
  try simp only [Act.put]
  refine wpAnyH_take (i := 11) (v := ?v11) rfl (by kernel_rfl) (by kernel_rfl) (by kernel_rfl) (fun _ _ _ h => h) (Or.inl ⟨by rfl, ?y11⟩) (by assumption) ?_
  case y11 => (intro u hSu; (try dsimp only at hSu); go_simp; try (with_reducible rfl))
  try simp only [Act.put]
  refine wpAnyH_take (i := 12) (v := ?v12) rfl (by kernel_rfl) (by kernel_rfl) (by kernel_rfl) (fun _ _ _ h => h) (Or.inl ⟨by rfl, ?y12⟩) (by assumption) ?_
  case y12 => (intro u hSu; (try dsimp only at hSu); go_simp; try (with_reducible rfl))
  try simp only [Act.put]
  refine wpAnyH_take (i := 13) (v := ?v13) rfl (by kernel_rfl) (by kernel_rfl) (by kernel_rfl) (fun _ _ _ h => h) (Or.inl ⟨by rfl, ?y13⟩) (by assumption) ?_
  case y13 => (intro u hSu; (try dsimp only at hSu); go_simp; try (with_reducible rfl))
  try simp only [Act.put]
  refine wpAnyH_take (i := 14) (v := ?v14) rfl (by kernel_rfl) (by kernel_rfl) (by kernel_rfl) (fun _ _ _ h => h) (Or.inl ⟨by rfl, ?y14⟩) (by assumption) ?_
  case y14 => (intro u hSu; (try dsimp only at hSu); go_simp; try (with_reducible rfl))
  try simp only [Act.put]
  refine wpAnyH_take (i := 15) (v := ?v15) rfl (by kernel_rfl) (by kernel_rfl) (by kernel_rfl) (fun _ _ _ h => h) (Or.inl ⟨by rfl, ?y15⟩) (by assumption) ?_
  case y15 => (intro u hSu; (try dsimp only at hSu); go_simp; try (with_reducible rfl))
  try simp only [Act.put]
  refine wpAnyH_take (i := 16) (v := ?v16) rfl (by kernel_rfl) (by kernel_rfl) (by kernel_rfl) (fun _ _ _ h => h) (Or.inl ⟨by rfl, ?y16⟩) (by assumption) ?_
  case y16 => (intro u hSu; (try dsimp only at hSu); go_simp; try (with_reducible rfl))
  try simp only [Act.put]
  refine wpAnyH_take (i := 17) (v := ?v17) rfl (by kernel_rfl) (by kernel_rfl) (by kernel_rfl) (fun _ _ _ h => h) (Or.inl ⟨by rfl, ?y17⟩) (by assumption) ?_
  case y17 => (intro u hSu; (try dsimp only at hSu); go_simp; try (with_reducible rfl))
  try simp only [Act.put]
  refine wpAnyH_take (i := 18) (v := ?v18) rfl (by kernel_rfl) (by kernel_rfl) (by kernel_rfl) (fun _ _ _ h => h) (Or.inl ⟨by rfl, ?y18⟩) (by assumption) ?_
  case y18 => (intro u hSu; (try dsimp only at hSu); go_simp; try (with_reducible rfl))
  try simp only [Act.put]
  refine wpAnyH_take (i := 19) (v := ?v19) rfl (by kernel_rfl) (by kernel_rfl) (by kernel_rfl) (fun _ _ _ h => h) (Or.inl ⟨by rfl, ?y19⟩) (by assumption) ?_
  case y19 => (intro u hSu; (try dsimp only at hSu); go_simp; try (with_reducible rfl))
  try simp only [Act.put]
  refine wpAnyH_take (i := 20) (v := ?v20) rfl (by kernel_rfl) (by kernel_rfl) (by kernel_rfl) (fun _ _ _ h => h) (Or.inl ⟨by rfl, ?y20⟩) (by assumption) ?_
  case y20 => (intro u hSu; (try dsimp only at hSu); go_simp; try (with_reducible rfl))
  try simp only [Act.put]
  refine wpAnyH_take (i := 21) (v := ?v21) rfl (by kernel_rfl) (by kernel_rfl) (by kernel_rfl) (fun _ _ _ h => h) (Or.inl ⟨by rfl, ?y21⟩) (by assumption) ?_
  case y21 => (intro u hSu; (try dsimp only at hSu); go_simp; try (with_reducible rfl))
  try simp only [Act.put]
  refine wpAnyH_take (i := 22) (v := ?v22) rfl (by kernel_rfl) (by kernel_rfl) (by kernel_rfl) (fun _ _ _ h => h) (Or.inl ⟨by rfl, ?y22⟩) (by assumption) ?_
  case y22 => (intro u hSu; (try dsimp only at hSu); go_simp; try (with_reducible rfl))
  try simp only [Act.put]
  refine wpAnyH_take (i := 24) (v := ?v24) rfl (by kernel_rfl) (by kernel_rfl) (by kernel_rfl) (fun _ _ _ h => h) (Or.inl ⟨by rfl, ?y24⟩) (by assumption) ?_
  case y24 => (intro u hSu; (try dsimp only at hSu); go_simp; try (with_reducible rfl))
  try simp only [Act.put]
  refine wpAnyH_take (i := 25) (v := ?v25) rfl (by kernel_rfl) (by kernel_rfl) (by kernel_rfl) (fun _ _ _ h => h) (Or.inl ⟨by rfl, ?y25⟩) (by assumption) ?_
  case y25 => (intro u hSu; (try dsimp only at hSu); go_simp; try (with_reducible rfl))
  try simp only [Act.put]
  refine wpAnyH_ready (rs := [23]) (by kernel_rfl) (by simp) ?_
  refine AllReadyH.cons rfl (fun K hK => ?_) AllReadyH.nil
  go_simp
  refine hK.out _ _ ?_ (fun hHeld23 => ?_)
  · (refine HS40.out _ ?_; (repeat (first | exact Below.refl _ _ | refine Below.drew ?_ | refine Below.alloc ?_ (by simp <;> omega) _)))
  clear hK K
  try simp only [Act.put]
  refine wpAnyH_take (i := 26) (v := ?v26) rfl (by kernel_rfl) (by kernel_rfl) (by kernel_rfl) (fun _ _ _ h => h) (Or.inl ⟨by rfl, ?y26⟩) (by assumption) ?_
  case y26 => (intro u hSu; (try dsimp only at hSu); go_simp; try (with_reducible rfl))
  try simp only [Act.put]
  refine wpAnyH_ready (rs := [27]) (by kernel_rfl) (by simp) ?_
  refine AllReadyH.cons rfl (fun K hK => ?_) AllReadyH.nil
  go_simp
  refine hK.out _ _ ?_ (fun hHeld27 => ?_)
  · (refine HS40.out _ ?_; (repeat (first | exact Below.refl _ _ | refine Below.drew ?_ | refine Below.alloc ?_ (by simp <;> omega) _)))
  clear hK K
  try simp only [Act.put]
  refine wpAnyH_take (i := 28) (v := ?v28) rfl (by kernel_rfl) (by kernel_rfl) (by kernel_rfl) (fun _ _ _ h => h) (Or.inl ⟨by rfl, ?y28⟩) (by assumption) ?_
  case y28 => (intro u hSu; (try dsimp only at hSu); go_simp; try (with_reducible rfl))
  try simp only [Act.put]
  refine wpAnyH_take (i := 29) (v := ?v29) rfl (by kernel_rfl) (by kernel_rfl) (by kernel_rfl) (fun _ _ _ h => h) (Or.inl ⟨by rfl, ?y29⟩) (by assumption) ?_
  case y29 => (intro u hSu; (try dsimp only at hSu); go_simp; try (with_reducible rfl))
  try simp only [Act.put]
  refine wpAnyH_done (by kernel_rfl) ?_ _
  all_goals
    go_wp2_with fail
    go_ret
    exact ⟨by rw [HV.out]; rfl, HFB.out 1 _⟩
end Go.Proofs.YteefncohknclcaaGreatDoor
namespace Go.Proofs.YteefncohknclcaaGreatDoor
open Go.RowKit Go.Shelf
def G0 : GD := ⟨[⟨#[97]⟩, ⟨#[98]⟩], [(0, 1)], 0#64, 1#64⟩
theorem good0 : Good G0 := by
  refine ⟨by decide, ?_, ?_, ?_, ?_, by decide⟩
  · intro j hj
    match j, hj with
    | 0, _ => decide +kernel
    | 1, _ => decide +kernel
  · intro i j hij hj
    have hj2 : j < 2 := hj
    have : i = 0 ∧ j = 1 := by omega
    rw [this.1, this.2]
    decide
  · intro x hx
    have : x = (0, 1) := by simpa [G0] using hx
    subst this
    exact ⟨by decide, by decide, by decide, by decide⟩
  · intro i hi
    have : i + 1 < 1 := hi
    omega
theorem haoM (w : World) (o : Obj) (i : Nat) (h : i < w.heap.size) : (w.alloc o).heap[i]? = w.heap[i]? := by
  show (w.heap.push o)[i]? = w.heap[i]?
  rw [Array.getElem?_push, if_neg (Nat.ne_of_lt h)]
theorem hanM (w : World) (o : Obj) : (w.alloc o).heap[w.heap.size]? = some o := by
  show (w.heap.push o)[w.heap.size]? = some o
  simp
theorem rows0 : rowsE 2 [(0, 1)] = [2#64, 0#64] := by decide
set_option maxHeartbeats 600000 in
theorem mill_ok (w : World) : Calls Tryz.prog 46 #[] w fun e w' => (∃ v, e = .returned v ∧ GrAt w' v G0) ∧ Below w.heap.size w w' := by
  go_enter Tryz.func46, Tryz.ntmps46
  go_wp2
  obtain ⟨A, hA⟩ : ∃ A : Obj, A = .cells #[.slice (some ⟨w.heap.size + 1, 0, none⟩) 2 2, .slice (some ⟨w.heap.size + 1 + 1, 0, none⟩) 1 1, .int .u64 0, .int .u64 1] 26 := ⟨_, rfl⟩
  obtain ⟨D, hD⟩ : ∃ D : Obj, D = .cells #[.int .i64 0, .int .i64 1] 85 := ⟨_, rfl⟩
  rw [← hA, ← hD]
  have hs1 : (w.alloc A).heap.size = w.heap.size + 1 := by simp
  have hs2 : ((w.alloc A).alloc (.cells #[.string ⟨#[97]⟩, .string ⟨#[98]⟩] 9)).heap.size = w.heap.size + 1 + 1 := by simp
  have hN := NL_two (w.alloc A) ⟨#[97]⟩ ⟨#[98]⟩ (by decide) (by decide)
  rw [hs1] at hN
  have hN2 := hN.below ((Below.refl _ _).alloc (Nat.le_refl _) D)
  have hE : EsAt (((w.alloc A).alloc (.cells #[.string ⟨#[97]⟩, .string ⟨#[98]⟩] 9)).alloc D) (some ⟨w.heap.size + 1 + 1, 0, none⟩) 1 1 [(0, 1)] := by
    refine ⟨rfl, fun _ => ⟨w.heap.size + 1 + 1, 0, rfl, by simp, fun k x hx => ?_⟩, by omega⟩
    match k, hx with
    | 0, hx =>
      injection hx with hx
      subst hx
      rw [hD]
      exact ⟨(World.cell?_alloc_at _ _ _ _ hs2.symm).trans rfl, (World.cell?_alloc_at _ _ _ _ hs2.symm).trans rfl⟩
  refine bodyPost_ret (v := .agg #[.slice (some ⟨w.heap.size + 1, 0, none⟩) 2 2, .slice (some ⟨w.heap.size + 1 + 1, 0, none⟩) 1 1, .int .u64 0, .int .u64 1])
    (results_cell_row Tryz.results46 _ _ w.heap.size 26 _ (0, 0) _ rfl ?_ Tryz.underlying26 rfl (by kernel_rfl)) rfl
    ⟨⟨_, rfl, ⟨_, _, _, _, _, _, rfl, hN2, hE⟩⟩, (((Below.refl _ _).alloc (Nat.le_refl _) _).alloc (by rw [hs1]; omega) _).alloc (by rw [hs2]; omega) _⟩
  rw [haoM _ _ _ (by rw [hs2]; omega), haoM _ _ _ (by rw [hs1]; omega), hanM, hA]
theorem ownG_below {w w' : World} {base e n : Nat} {v : Value} {xs : List Value} (h : w.ownsRow base e 1 v n xs) (hb : Below w.heap.size w w') : w'.ownsRow base e 1 v n xs := by
  refine h.kept (row := none) ⟨hb.os, hb.tape, hb.output, hb.size, fun k hk _ => hb.block k hk⟩ ?_
  cases hv : v.ownBlock
  · exact .inl rfl
  · exact .inr (by simp)
end Go.Proofs.YteefncohknclcaaGreatDoor
