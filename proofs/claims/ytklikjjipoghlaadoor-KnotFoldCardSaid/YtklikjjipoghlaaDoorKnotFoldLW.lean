/- The walk of the law KnotFold. Conditions: the table reads as listed. -/
import Derived.Test.YtklikjjipoghlaaDoorKnotPartsLW
namespace Go.Proofs.YtklikjjipoghlaaDoor
open Go.RowKit
theorem rise_extK {l m : List Nat} (h : l.Pairwise (· < ·)) (h2 : m.Pairwise (· < ·)) (hm : ∀ x, x ∈ l ↔ x ∈ m) : l = m := by
  induction l generalizing m with
  | nil =>
    cases m with
    | nil => rfl
    | cons y m => have := (hm y).2 (by simp); cases this
  | cons x l ih =>
    cases m with
    | nil => have := (hm x).1 (by simp); cases this
    | cons y m =>
      rw [List.pairwise_cons] at h h2
      have e : x = y := by
        rcases List.mem_cons.1 ((hm x).1 (by simp)) with h3 | h3
        · exact h3
        · rcases List.mem_cons.1 ((hm y).2 (by simp)) with h4 | h4
          · exact h4.symm
          · have a1 := h.1 y h4; have a2 := h2.1 x h3; omega
      subst e
      congr 1
      refine ih h.2 h2.2 fun z => ⟨fun hz => ?_, fun hz => ?_⟩
      · rcases List.mem_cons.1 ((hm z).1 (by simp [hz])) with h3 | h3
        · subst h3; have := h.1 z hz; omega
        · exact h3
      · rcases List.mem_cons.1 ((hm z).2 (by simp [hz])) with h3 | h3
        · subst h3; have := h2.1 z hz; omega
        · exact h3
theorem parts_same {r P Q : List B} (h : PartsIn r P) (h2 : PartsIn r Q) : P = Q := by
  have key : ∀ {A C : List B}, PartsIn r A → PartsIn r C → ∀ s ∈ A, s ∈ C := by
    intro A C hA hC s hs
    obtain ⟨x, hx⟩ := (hA.1.tied s hs).1
    obtain ⟨t, ht, hxt⟩ := (hC.1.all x).1 ((hA.1.all x).2 ⟨s, hs, hx⟩)
    have : s = t := eq_of_iff fun y => by rw [(hA.1.tied s hs).2 x y hx, (hC.1.tied t ht).2 x y hxt]
    rw [this]; exact ht
  have s1 : (P.map low).Pairwise (· < ·) := by rw [List.pairwise_map]; exact h.2
  have s2 : (Q.map low).Pairwise (· < ·) := by rw [List.pairwise_map]; exact h2.2
  have hm : P.map low = Q.map low := by
    refine rise_extK s1 s2 fun x => ?_
    rw [List.mem_map, List.mem_map]
    exact ⟨fun ⟨s, hs, e⟩ => ⟨s, key h h2 s hs, e⟩, fun ⟨s, hs, e⟩ => ⟨s, key h2 h s hs, e⟩⟩
  have hl : P.length = Q.length := by have := congrArg List.length hm; simpa using this
  apply List.ext_getElem hl
  intro i h3 h4
  have e1 : low P[i] = low Q[i] := by
    have : (P.map low)[i]'(by simpa using h3) = (Q.map low)[i]'(by simpa using h4) := by simp only [hm]
    simpa using this
  have hx := has_low (tied_ne (h.1.tied _ (List.getElem_mem h3)))
  have hy := has_low (tied_ne (h2.1.tied _ (List.getElem_mem h4)))
  rw [← e1] at hy
  exact eq_of_iff fun y => by rw [(h.1.tied _ (List.getElem_mem h3)).2 _ y hx, (h2.1.tied _ (List.getElem_mem h4)).2 _ y hy]
/-- where a number's part stands -/
def IsOf (P : List B) (a : Int) (z : Int) : Prop := Found (fun s => hasI s a) P z
theorem isof_in {r P : List B} (h : Parts r P) {a z : Int} (hz : IsOf P a z) (h0 : 0 ≤ z) : ∃ (i n : Nat), z = i ∧ a = n ∧ i < P.length ∧ n < r.length ∧ has (row P i) n = true := by
  rcases hz with ⟨rfl, _⟩ | ⟨k, hk, rfl, hq⟩
  · omega
  · unfold hasI at hq
    rw [Bool.and_eq_true, decide_eq_true_iff] at hq
    exact ⟨k, a.toNat, rfl, by omega, hk, parts_lt h hk hq.2, hq.2⟩
theorem isof_ge {P : List B} {a z : Int} (hz : IsOf P a z) : -1 ≤ z := by
  rcases hz with ⟨rfl, _⟩ | ⟨k, _, rfl, _⟩ <;> omega
set_option maxHeartbeats 1000000 in
/-- which part a number is of -/
theorem of_part (P : List B) (hl : P.length ≤ 64) (po : Option Addr) (co bx : Nat) (a : Int) (w : World) (hP : RowsAt w po P.length P) (hbx : w.cell? ⟨bx, 0, none⟩ = some (.slice po P.length co)) :
    Calls Tryd.prog 45 #[.int .i64 a, .pointer (some ⟨bx, 0, none⟩)] w fun e w' => (∃ z : Int, e = .returned (.int .i64 z) ∧ IsOf P a z) ∧ Below w.heap.size w w' := by
  have hlt := World.block_lt_of_cell? w _ hbx
  have hb : Below w.heap.size w (w.alloc (.cells #[.int .i64 a] 3)) := (Below.refl _ _).alloc (Nat.le_refl _) _
  have hbx2 : (w.alloc (.cells #[.int .i64 a] 3)).cell? ⟨bx, 0, none⟩ = some (.slice po P.length co) := by rw [World.cell?_alloc_lt _ _ _ hlt]; exact hbx
  have hca : (w.alloc (.cells #[.int .i64 a] 3)).cell? ⟨w.heap.size, 0, none⟩ = some (.int .i64 a) := by rw [World.cell?_alloc_at _ _ _ _ rfl]; rfl
  have HI := Lib.hid (indexOne_ok (fun s => hasI s a) w.heap.size po co P _ hl (hP.below hb) (fun s => one_ok a _ s _ hca))
  have HB := Lib.hid hb
  clear hb hca hP hbx hlt
  go_enter Tryd.func45, Tryd.ntmps45
  go_wp2_with (go_at_call 46; refine HI.out.mono ?_; rintro e w' ⟨⟨z, rfl, hz⟩, rfl⟩; have HZ := Lib.hid hz; clear hz)
  go_ret
  exact ⟨⟨z, rfl, HZ.out⟩, HB.out⟩
theorem fold_has {r P : List B} (hv : Valid r) (h : Parts r P) {i k a b : Nat} (hi : i < P.length) (hk : k < P.length) (ha : has (row P i) a = true) (hb : has (row P k) b = true) :
    has (cls r (1#64 <<< a)) b = has (cls (fold r P) (1#64 <<< i)) k := by
  have h1 := parts_len h
  have h2 := parts_lt h hi ha
  have h3 := hv.1
  rw [Bool.eq_iff_iff, has_cls_one (by omega), has_cls_one (by omega)]
  exact (rch_fold hv h hi hk ha hb).symm
set_option maxHeartbeats 8000000 in
set_option maxRecDepth 100000 in
theorem knotFold_yes (p : Option Addr) (n c : Nat) (r : List B) (a b : Int) (h : chkR r = 0) (w : World) (hR : RowsAt w p n r) (hT : Tab w) :
    Calls Tryd.prog 13 #[.slice p n c, .int .i64 a, .int .i64 b] w fun e w' => e = .returned (.bool true) ∧ Below w.heap.size w w' := by
  have hl := hR.len
  subst hl
  have H := Lib.hid h
  have HV := Lib.hid (chkR_zero.1 h)
  have h64 := (chkR_zero.1 h).1
  have HR := Lib.hid hR
  have HT := Lib.hid hT
  clear h
  go_enter Tryd.func13, Tryd.ntmps13
  go_wp2_with fail
  refine (knots_below w hT).mono ?_
  rintro e w1 ⟨rfl, hb1⟩
  have HB1 := Lib.hid hb1
  clear hb1 hR hT
  go_wp2_with fail
  refine (Fold_yes p _ c r H.out w1 (HR.out.below HB1.out) (HT.out.below HB1.out)).mono ?_
  rintro e w2 ⟨P, g, cg, rfl, hP, hown, hb2⟩
  have HP := Lib.hid hP
  have HB2 := Lib.hid (below_next HB1.out hb2)
  have hpl : P.length ≤ 64 := by have := parts_len hP.1; omega
  have HF2 : Hid (RowsAt w2 g P.length (fold r P)) := by show RowsAt _ _ _ _; exact rows_own hown (fold_len r P) (by unfold maxLen; omega)
  clear hP hown hb2
  go_wp2_with fail
  refine (Parts_yes p _ c r H.out w2 (HR.out.below HB2.out) (HT.out.below HB2.out)).mono ?_
  rintro e w3 ⟨Q, po, co, rfl, hQ, hown, hb3⟩
  obtain rfl := parts_same HP.out hQ
  obtain ⟨W, hW⟩ : ∃ W : World, W = w3.alloc (.cells #[.slice po P.length co] 22) := ⟨_, rfl⟩
  have hBW : Below w3.heap.size w3 W := by rw [hW]; exact (Below.refl _ _).alloc (Nat.le_refl _) _
  have hWs : W.heap.size = w3.heap.size + 1 := by rw [hW]; simp
  have HC : Hid (∀ u : World, Below W.heap.size W u → u.cell? ⟨w3.heap.size, 0, none⟩ = some (.slice po P.length co)) := by
    show ∀ u : World, _
    intro u hu
    rw [hu.cell (p := ⟨w3.heap.size, 0, none⟩) (by show w3.heap.size < _; omega), hW, World.cell?_alloc_at _ _ _ _ rfl]; rfl
  have HPW : Hid (RowsAt W po P.length P) := by show RowsAt _ _ _ _; exact (rows_own hown rfl (by unfold maxLen; omega)).below hBW
  have HFW : Hid (RowsAt W g P.length (fold r P)) := by show RowsAt _ _ _ _; exact (HF2.out.below hb3).below hBW
  have HBW : Hid (Below w.heap.size w W) := by show Below _ _ _; exact below_next (below_next HB2.out hb3) hBW
  have HRW := Lib.hid (HR.out.below HBW.out)
  have HTW := Lib.hid (HT.out.below HBW.out)
  obtain ⟨ca⟩ : Nonempty (W.cell? ⟨w3.heap.size, 0, none⟩ = some (.slice po P.length co)) := ⟨HC.out W (Below.refl _ _)⟩
  rw [hW] at ca
  have hfe : chkR (fold r P) = 0 := chkR_zero.2 (valid_fold HV.out HP.out.1)
  have HFE := Lib.hid hfe
  clear hQ hown hb3 hBW hWs hfe
  go_wp2_with fail
  rw [← hW]
  clear hW ca
  refine (Order_yes g _ cg (fold r P) HFE.out W HFW.out HTW.out).mono ?_
  rintro e w4 (⟨o, go, co2, rfl, _, _, _, hb4⟩ | ⟨o, left, rfl, hne, _, hS, _⟩)
  · have HB4 := Lib.hid hb4
    have ca := HC.out w4 hb4
    clear hb4
    go_wp2_with fail
    refine (of_part P hpl po co _ a w4 (HPW.out.below HB4.out) ca).mono ?_
    rintro e w5 ⟨⟨za, rfl, hza⟩, hb5⟩
    have HB5 := Lib.hid (below_next HB4.out hb5)
    have HZA := Lib.hid hza
    clear hza hb5 ca
    have ca := HC.out w5 HB5.out
    go_wp2_with fail
    refine (of_part P hpl po co _ b w5 (HPW.out.below HB5.out) ca).mono ?_
    rintro e w6 ⟨⟨zb, rfl, hzb⟩, hb6⟩
    have HB6 := Lib.hid (below_next HB5.out hb6)
    have HZB := Lib.hid hzb
    clear hzb hb6 ca
    have ca := HC.out w6 HB6.out
    by_cases na : za < 0
    · go_wp2
      go_ret
      exact ⟨rfl, below_next HBW.out HB6.out⟩
    by_cases nb : zb < 0
    · go_wp2
      go_ret
      exact ⟨rfl, below_next HBW.out HB6.out⟩
    obtain ⟨i, a, rfl, rfl, hil, har, hia⟩ := isof_in HP.out.1 HZA.out (by omega)
    obtain ⟨k, b, rfl, rfl, hkl, hbr, hkb⟩ := isof_in HP.out.1 HZB.out (by omega)
    have HFH := Lib.hid (fold_has HV.out HP.out.1 hil hkl hia hkb)
    have hil2 : i < (fold r P).length := by rw [fold_len]; exact hil
    have HVF := Lib.hid (valid_fold HV.out HP.out.1)
    have i1 : (0 : Int) ≤ (i : Int) := by omega
    have i2 : (0 : Int) ≤ (k : Int) := by omega
    have ha64 : a < 64 := by omega
    have hb64 : b < 64 := by omega
    have hi64 : i < 64 := by omega
    have hk64 : k < 64 := by omega
    clear hia hkb na nb
    go_wp2_with fail
    refine (From_yes p _ c r (1#64 <<< a) (chks_bit HV.out har) w6 (HRW.out.below HB6.out) (HTW.out.below HB6.out)).mono ?_
    rintro e w7 ⟨rfl, hb7⟩
    have HB7 := Lib.hid (below_next HB6.out hb7)
    clear hb7 ca
    go_wp2_with fail
    refine (From_yes g _ cg (fold r P) (1#64 <<< i) (chks_bit HVF.out hil2) w7 (HFW.out.below HB7.out) (HTW.out.below HB7.out)).mono ?_
    rintro e w8 ⟨rfl, hb8⟩
    have HB8 := Lib.hid (below_next HB7.out hb8)
    clear hb8
    have hxb := shr_bit (cls r (1#64 <<< a)) b
    have hyk := shr_bit (cls (fold r P) (1#64 <<< i)) k
    have HOK : Hid (allOk [(0 : Int), 0] = true) := by show _ = _; rfl
    have HFI : Hid (Below w.heap.size w (w8.alloc (.cells #[.int .i64 0, .int .i64 0] 25))) := by
      show Below _ _ _
      have := below_next HBW.out HB8.out
      exact this.alloc this.size _
    rw [HFH.out] at hxb
    generalize cls r (1#64 <<< a) = X at *
    generalize hY : cls (fold r P) (1#64 <<< i) = Y at *
    clear hY
    cases hy : has Y k
    all_goals
      rw [hy] at hxb hyk
      simp only [Bool.false_eq_true, if_false, if_true] at hxb hyk
      clear hy
      go_wp2_with (go_at_call 21; refine (good2 _ _ _).mono ?_; rw [HOK.out]; rintro e w' ⟨rfl, rfl⟩)
      try go_wp2
      go_ret
      exact ⟨rfl, HFI.out⟩
  · exact absurd (fold_order HV.out HP.out.1 hS) hne
set_option maxHeartbeats 1000000 in
theorem knotFold_walk (p : Option Addr) (n c : Nat) (r : List B) (a b : Int) (w : World) (hR : RowsAt w p n r) (hT : Tab w) :
    Calls Tryd.prog 13 #[.slice p n c, .int .i64 a, .int .i64 b] w fun e w' => e = .returned (.bool true) ∧ Below w.heap.size w w' := by
  by_cases h : chkR r = 0
  · exact knotFold_yes p n c r a b h w hR hT
  · obtain ⟨h1, h2⟩ := int_ne h
    have H := Lib.hid h
    have he : (chkR r == chkR r) = true := by simp
    clear h
    go_enter Tryd.func13, Tryd.ntmps13
    go_wp2_with fail
    refine (knots_below w hT).mono ?_
    rintro e w1 ⟨rfl, hb1⟩
    have hR1 := hR.below hb1
    have HF : Hid (Below w.heap.size w (w1.alloc (.cells #[.slice none 0 0] 22))) := by show Below _ _ _; exact hb1.alloc hb1.size _
    clear hb1
    go_wp2_with (first | (go_at_call 43; refine (Fold_no p _ c r H.out w1 hR1).mono ?_; rintro e w' ⟨rfl, rfl⟩) | (go_at_call 39; refine (Parts_no p _ c r H.out w1 hR1).mono ?_; rintro e w' ⟨rfl, rfl⟩))
    go_ret
    exact ⟨rfl, HF.out⟩
end Go.Proofs.YtklikjjipoghlaaDoor
