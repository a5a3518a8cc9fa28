/- The walk of the law KnotParts. Conditions: the table reads as listed. -/
import Derived.Test.YtklikjjipoghlaaDoorKnotLawsW
namespace Go.Proofs.YtklikjjipoghlaaDoor
open Go.RowKit
theorem any_both {r P : List B} (h : Parts r P) {a b : Nat} (ha : a < r.length) (hb : b < r.length) : (P.any fun s => has s a && has s b) = (has (cls r (1#64 <<< a)) b && has (cls r (1#64 <<< b)) a) ∨ 64 < r.length := by
  rcases Nat.lt_or_ge 64 r.length with h1 | h1
  · exact .inr h1
  · refine .inl ?_
    rw [Bool.eq_iff_iff, Bool.and_eq_true, has_cls_one (by omega), has_cls_one (by omega), ← parts_both h ha, List.any_eq_true]
    constructor
    · rintro ⟨s, hs, h2⟩; rw [Bool.and_eq_true] at h2; exact ⟨s, hs, h2⟩
    · rintro ⟨s, hs, h2⟩; exact ⟨s, hs, by rw [Bool.and_eq_true]; exact h2⟩
set_option maxHeartbeats 8000000 in
set_option maxRecDepth 100000 in
theorem knotParts_yes (p : Option Addr) (n c : Nat) (r : List B) (a b : Int) (h : chkR r = 0) (w : World) (hR : RowsAt w p n r) (hT : Tab w) :
    Calls Tryd.prog 12 #[.slice p n c, .int .i64 a, .int .i64 b] w fun e w' => e = .returned (.bool true) ∧ Below w.heap.size w w' := by
  have hl := hR.len
  subst hl
  have H := Lib.hid h
  have HV := Lib.hid (chkR_zero.1 h)
  have h64 := (chkR_zero.1 h).1
  clear h
  obtain ⟨W, hW⟩ : ∃ W : World, W = (w.alloc (.cells #[.int .i64 a] 3)).alloc (.cells #[.int .i64 b] 3) := ⟨_, rfl⟩
  have hBW : Below w.heap.size w W := by rw [hW]; exact ((Below.refl _ _).alloc (Nat.le_refl _) _).alloc (by simp) _
  have hWs : W.heap.size = w.heap.size + 2 := by rw [hW]; simp
  have HC : Hid (∀ u : World, Below W.heap.size W u → u.cell? ⟨w.heap.size, 0, none⟩ = some (.int .i64 a) ∧ u.cell? ⟨w.heap.size + 1, 0, none⟩ = some (.int .i64 b)) := by
    show ∀ u : World, _
    intro u hu
    rw [hu.cell (p := ⟨w.heap.size, 0, none⟩) (by show w.heap.size < _; omega), hu.cell (p := ⟨w.heap.size + 1, 0, none⟩) (by show w.heap.size + 1 < _; omega), hW]
    refine ⟨?_, ?_⟩
    · rw [World.cell?_alloc_lt _ _ _ (by simp), World.cell?_alloc_at _ _ _ _ rfl]; rfl
    · rw [World.cell?_alloc_at _ _ _ _ (by simp)]; rfl
  have HFIN : Hid (∀ u, Below W.heap.size W u → Below w.heap.size w u) := by show ∀ u, _; exact fun u hu => hBW.trans (hu.mono (by omega))
  have HRW := Lib.hid (hR.below hBW)
  have HTW := Lib.hid (hT.below hBW)
  clear hBW hWs hR hT
  go_enter Tryd.func12, Tryd.ntmps12
  go_wp2_with fail
  rw [← hW]
  clear hW
  refine (knots_below W HTW.out).mono ?_
  rintro e w1 ⟨rfl, hb1⟩
  have HB1 := Lib.hid hb1
  clear hb1
  go_wp2_with fail
  refine (Parts_yes p _ c r H.out w1 (HRW.out.below HB1.out) (HTW.out.below HB1.out)).mono ?_
  rintro e w2 ⟨P, po, co, rfl, hP, hown, hb2⟩
  have HP := Lib.hid hP
  have HB2 := Lib.hid (below_next HB1.out hb2)
  have hpl : P.length ≤ 64 := by have := parts_len hP.1; omega
  have HP2 : Hid (RowsAt w2 po P.length P) := by show RowsAt _ _ _ _; exact rows_own hown rfl (by unfold maxLen; omega)
  clear hP hown hb2
  have HT2 := Lib.hid (HTW.out.below HB2.out)
  obtain ⟨ca, cb⟩ := HC.out w2 HB2.out
  go_wp2
  go_loopg [36, 9, 10] P.length (fun g v al la wi => ∃ (t : Nat) (z : Int), g + t = P.length ∧ v = .int .i64 t ∧ al = .int .u64 (un (uni (P.take t)) : Int) ∧ la = .int .i64 z ∧ Hid (t < P.length → z < (low (row P t) : Int)) ∧ wi = w2)
  case atStart => exact ⟨0, -1, by omega, rfl, rfl, rfl, (fun _ => by omega), rfl⟩
  case round =>
    obtain ⟨t, z, hgt, rfl, rfl, rfl, HZ, hw⟩ := hrel
    subst hw
    by_cases hlt : t < P.length
    · obtain ⟨ad, rfl, _, hcs⟩ := HP2.out.cell hlt
      have hne := parts_ne HP.out.1 hlt
      have HNX := Lib.hid (next_zero hne)
      have hz2 : ((low (row P t) : Int) ≤ z) = False := by have := HZ.out hlt; simp; omega
      have hz3 : decide ((low (row P t) : Int) ≤ z) = false := by have := HZ.out hlt; simp; omega
      have z0 : (un (uni (P.take t) &&& row P t) : Int) = 0 := un_zero_int (parts_apart HP.out.1 hlt)
      have HUT := Lib.hid (uni_take hlt)
      have HLN : Hid (t + 1 < P.length → (low (row P t) : Int) < (low (row P (t + 1)) : Int)) := by
        show _ → _
        intro h1
        have := parts_lows HP.out (show t < t + 1 by omega) h1
        omega
      clear hne
      generalize low (row P t) = m at *
      generalize row P t = s at *
      generalize uni (P.take t) = U at *
      go_wp2_with (go_at_call 40; refine (Next_ok s 0 _ HT2.out).mono ?_; rw [show (0 : Int).toNat = 0 from rfl, HNX.out]; rintro e w' ⟨rfl, rfl⟩)
      go_roundg (P.length - (t + 1))
      case measure => omega
      case rel => exact ⟨t + 1, m, by omega, by go_num, by rw [HUT.out], rfl, HLN, rfl⟩
    · obtain rfl : t = P.length := by omega
      have hua : uni (P.take P.length) = belowB r.length := by rw [List.take_length]; exact parts_uni HV.out HP.out.1
      rw [hua]
      clear hua
      obtain ⟨w2, hw2⟩ : ∃ w2 : World, w2 = wr := ⟨_, rfl⟩
      subst hw2
      by_cases hab : 0 ≤ a ∧ a < r.length ∧ 0 ≤ b ∧ b < r.length
      · obtain ⟨a, rfl⟩ := Int.eq_ofNat_of_zero_le hab.1
        obtain ⟨b, rfl⟩ := Int.eq_ofNat_of_zero_le hab.2.2.1
        have ha : a < r.length := by omega
        have hb : b < r.length := by omega
        have i1 : (0 : Int) ≤ (a : Int) := by omega
        have i2 : (a : Int) < (r.length : Int) := by omega
        have i3 : (0 : Int) ≤ (b : Int) := by omega
        have i4 : (b : Int) < (r.length : Int) := by omega
        have ha64 : a < 64 := by omega
        have hb64 : b < 64 := by omega
        have HAN : Hid ((P.any fun s => has s a && has s b) = (has (cls r (1#64 <<< a)) b && has (cls r (1#64 <<< b)) a)) := by
          show _ = _
          rcases any_both HP.out.1 ha hb with h1 | h1
          · exact h1
          · omega
        clear hab
        go_wp2_with (go_at_call 20; refine (Below_ok _ h64 _).mono ?_; rintro e w' ⟨rfl, rfl⟩)
        refine (From_yes p _ c r (1#64 <<< a) (chks_bit HV.out ha) w2 (HRW.out.below HB2.out) HT2.out).mono ?_
        rintro e w3 ⟨rfl, hb3⟩
        have HB3 := Lib.hid (below_next HB2.out hb3)
        have HP3 := Lib.hid (HP2.out.below hb3)
        clear hb3 ca cb
        obtain ⟨ca, cb⟩ := HC.out w3 HB3.out
        go_wp2_with fail
        refine (From_yes p _ c r (1#64 <<< b) (chks_bit HV.out hb) w3 (HRW.out.below HB3.out) (HTW.out.below HB3.out)).mono ?_
        rintro e w4 ⟨rfl, hb4⟩
        have HB4 := Lib.hid (below_next HB3.out hb4)
        have HP4 := Lib.hid (HP3.out.below hb4)
        clear hb4 ca cb
        obtain ⟨ca, cb⟩ := HC.out w4 HB4.out
        have HCF : Hid (Calls Tryd.prog 41 #[.slice po P.length co, .func (.func 42) #[] #[.pointer (some ⟨w.heap.size, 0, none⟩), .pointer (some ⟨w.heap.size + 1, 0, none⟩)]] w4 fun e w' => e = .returned (.bool (has (cls r (1#64 <<< a)) b && has (cls r (1#64 <<< b)) a)) ∧ w4 = w') := by
          show Calls _ _ _ _ _
          have := containsBoth_ok (fun s => has s a && has s b) w.heap.size (w.heap.size + 1) po co P w4 hpl HP4.out (fun s => both_ok a b _ _ s ha64 hb64 w4 ca cb)
          rwa [HAN.out] at this
        have hxb := shr_bit (cls r (1#64 <<< a)) b
        have hya := shr_bit (cls r (1#64 <<< b)) a
        have HOK : Hid (allOk [(0 : Int), 0] = true) := by show _ = _; rfl
        clear HAN
        obtain ⟨X, hX⟩ : ∃ X, X = cls r (1#64 <<< a) := ⟨_, rfl⟩
        obtain ⟨Y, hY⟩ : ∃ Y, Y = cls r (1#64 <<< b) := ⟨_, rfl⟩
        rw [← hX] at HCF hxb ⊢
        rw [← hY] at HCF hya ⊢
        clear hX hY
        have cfa : (w4.alloc (.cells #[.int .i64 0, .int .i64 0] 25)).cell? ⟨w.heap.size, 0, none⟩ = some (.int .i64 (a : Int)) := by
          rw [World.cell?_alloc_lt _ _ _ (World.block_lt_of_cell? w4 _ ca)]; exact ca
        have cfb : (w4.alloc (.cells #[.int .i64 0, .int .i64 0] 25)).cell? ⟨w.heap.size + 1, 0, none⟩ = some (.int .i64 (b : Int)) := by
          rw [World.cell?_alloc_lt _ _ _ (World.block_lt_of_cell? w4 _ cb)]; exact cb
        have HFI := Lib.hid (HFIN.out _ (HB4.out.alloc HB4.out.size (.cells #[.int .i64 0, .int .i64 0] 25)))
        cases hx : has X b <;> cases hy : has Y a
        all_goals
          rw [hx] at hxb HCF
          rw [hy] at hya HCF
          simp only [Bool.false_eq_true, if_false, if_true, Bool.and_false, Bool.and_true] at hxb hya HCF
          clear hx hy
          go_wp2_with (first | (go_at_call 41; refine HCF.out.mono ?_; rintro e w' ⟨rfl, rfl⟩) | (go_at_call 21; refine (good2 _ _ _).mono ?_; rw [HOK.out]; rintro e w' ⟨rfl, rfl⟩))
          try go_wp2
          go_ret
          exact ⟨rfl, HFI.out⟩
      · have hcs : a < 0 ∨ (0 ≤ a ∧ (r.length : Int) ≤ a) ∨ (0 ≤ a ∧ a < r.length ∧ b < 0) ∨ (0 ≤ a ∧ a < r.length ∧ 0 ≤ b ∧ (r.length : Int) ≤ b) := by omega
        clear hab
        have hfin := HFIN.out _ HB2.out
        rcases hcs with h1 | ⟨h1, h2⟩ | ⟨h1, h2, h3⟩ | ⟨h1, h2, h3, h4⟩
        all_goals
          go_wp2_with (go_at_call 20; refine (Below_ok _ h64 _).mono ?_; rintro e w' ⟨rfl, rfl⟩)
          go_ret
          exact ⟨rfl, hfin⟩
set_option maxHeartbeats 1000000 in
theorem knotParts_walk (p : Option Addr) (n c : Nat) (r : List B) (a b : Int) (w : World) (hR : RowsAt w p n r) (hT : Tab w) :
    Calls Tryd.prog 12 #[.slice p n c, .int .i64 a, .int .i64 b] w fun e w' => e = .returned (.bool true) ∧ Below w.heap.size w w' := by
  by_cases h : chkR r = 0
  · exact knotParts_yes p n c r a b h w hR hT
  · obtain ⟨h1, h2⟩ := int_ne h
    have H := Lib.hid h
    obtain ⟨W, hW⟩ : ∃ W : World, W = (w.alloc (.cells #[.int .i64 a] 3)).alloc (.cells #[.int .i64 b] 3) := ⟨_, rfl⟩
    have hBW : Below w.heap.size w W := by rw [hW]; exact ((Below.refl _ _).alloc (Nat.le_refl _) _).alloc (by simp) _
    have HFIN : Hid (∀ u, Below W.heap.size W u → Below w.heap.size w u) := by show ∀ u, _; exact fun u hu => hBW.trans (hu.mono hBW.size)
    have HRW := Lib.hid (hR.below hBW)
    have HTW := Lib.hid (hT.below hBW)
    clear h hBW hR hT
    go_enter Tryd.func12, Tryd.ntmps12
    go_wp2_with fail
    rw [← hW]
    clear hW
    refine (knots_below W HTW.out).mono ?_
    rintro e w1 ⟨rfl, hb1⟩
    have HF := Lib.hid (HFIN.out _ hb1)
    have hR1 := HRW.out.below hb1
    clear hb1
    go_wp2_with (go_at_call 39; refine (Parts_no p _ c r H.out w1 hR1).mono ?_; rintro e w' ⟨rfl, rfl⟩)
    go_ret
    exact ⟨rfl, HF.out⟩
end Go.Proofs.YtklikjjipoghlaaDoor
