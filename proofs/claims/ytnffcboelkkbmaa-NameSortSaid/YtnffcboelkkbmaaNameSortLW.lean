/- The law NameSort. Conditions: the slice reads as listed. -/
import Derived.Test.YtnffcboelkkbmaaNLSetW
import Derived.Test.YtnffcboelkkbmaaNLArg
import Derived.Sort.Walk0
namespace Go.Proofs.Ytnffcboelkkbmaa
open Go.RowKit Go.Shelf
theorem run_geq_str {x y : ByteArray} (h : Op.bytesLess x.toList y.toList = true) (w : World) : (binOp .geq 9 (.string x) (.string y)).run Try.prog w = .ok (.bool false) w := by
  simp [binOp, Op.stringOp, h]
set_option maxHeartbeats 400000 in
theorem notin_ok (B : Nat) (p : Option Addr) (n c : Nat) (zs : List ByteArray) (w : World) (h : NL w p n c zs) (hv : w.cell? ⟨B, 0, none⟩ = some (.slice p n c)) (x : ByteArray) :
    Calls Try.prog 16 #[.string x, .pointer (some ⟨B, 0, none⟩)] w fun e w' => e = .returned (.bool (!Lib.containsS zs x)) ∧ w' = w := by
  have HC := Lib.hid (nl_contains h x)
  clear h
  go_enter Try.func16, Try.ntmps16
  go_wp2_with (go_at_call 13; refine HC.out.mono ?_; rintro e w' ⟨rfl, rfl⟩)
  go_ret
  exact ⟨rfl, rfl⟩
set_option maxHeartbeats 1000000 in
theorem indexNot_ok (B : Nat) (p : Option Addr) (n c : Nat) (zs ys : List ByteArray) (q : Option Addr) (m d : Nat) (w : World) (h : NL w p n c zs) (h2 : NL w q m d ys) (hv : w.cell? ⟨B, 0, none⟩ = some (.slice q m d)) (hin : ∀ x ∈ zs, x ∈ ys) :
    Calls Try.prog 33 #[.slice p n c, .func (.func 16) #[] #[.pointer (some ⟨B, 0, none⟩)]] w fun e w' => e = .returned (.int .i64 (-1)) ∧ w' = w := by
  have hl := h.at_.len
  subst hl
  have hbig := h.at_.big
  have HN := Lib.hid h
  have HF := Lib.hid (notin_ok B q m d ys w h2 hv)
  have HI := Lib.hid hin
  clear h h2 hv hin
  go_enter Try.func33, Try.ntmps33
  go_wp2
  go_loop [8] (fun i => ∃ k : Nat, k ≤ zs.length ∧ i = .int .i64 k) (fun i => zs.length - (intOf i).toNat)
  case atStart => exact ⟨0, Nat.zero_le _, rfl⟩
  case round =>
    obtain ⟨k, hk, rfl⟩ := hrel
    by_cases hlt : k < zs.length
    · obtain ⟨ad, rfl, _, hc⟩ := str_at HN.out.at_.reads hlt
      have HX := Lib.hid (has_iff.2 (HI.out (zs.getD k ByteArray.empty) (by
        rw [List.getD_eq_getElem?_getD, List.getElem?_eq_getElem hlt]; exact List.getElem_mem hlt)))
      generalize zs.getD k ByteArray.empty = s at *
      go_wp2_with (go_at_call 16; refine (HF.out s).mono ?_; rw [HX.out]; rintro e w' ⟨rfl, rfl⟩)
      go_round
      case rel => exact ⟨k + 1, by omega, by go_num⟩
      case measure => simp [intOf]; omega
    · go_wp2
      go_ret
      exact ⟨rfl, rfl⟩
set_option maxHeartbeats 400000 in
theorem containsNot_ok (B : Nat) (p : Option Addr) (n c : Nat) (zs ys : List ByteArray) (q : Option Addr) (m d : Nat) (w : World) (h : NL w p n c zs) (h2 : NL w q m d ys) (hv : w.cell? ⟨B, 0, none⟩ = some (.slice q m d)) (hin : ∀ x ∈ zs, x ∈ ys) :
    Calls Try.prog 15 #[.slice p n c, .func (.func 16) #[] #[.pointer (some ⟨B, 0, none⟩)]] w fun e w' => e = .returned (.bool false) ∧ w' = w := by
  have HX := Lib.hid (indexNot_ok B p n c zs ys q m d w h h2 hv hin)
  clear h h2 hv hin
  go_enter Try.func15, Try.ntmps15
  go_wp2_with (go_at_call 33; refine HX.out.mono ?_; rintro e w' ⟨rfl, rfl⟩)
  go_ret
  exact ⟨rfl, rfl⟩
set_option maxHeartbeats 4000000 in
theorem nameSort_walk (p : Option Addr) (n c : Nat) (w : World) (h : NLArg w p n c) :
    Calls Try.prog 3 #[.slice p n c] w fun e w' => e = .returned (.bool true) ∧ Below w.heap.size w w' := by
  obtain ⟨zs, hN⟩ := h
  have hl := hN.at_.len
  subst hl
  have HN := Lib.hid hN
  clear hN
  by_cases hok : okN zs zs.length
  · go_enter Try.func3, Try.ntmps3
    go_wp2_with fail
    refine (names_below w).mono ?_
    rintro e w1 ⟨rfl, hb1⟩
    have HB1 := Lib.hid hb1
    clear hb1
    go_wp2_with fail
    refine (Sort_yes _ _ _ zs _ (HN.out.below HB1.out) hok).mono ?_
    rintro e w2 ⟨g, cg, rfl, hown, hb2⟩
    have hb12 : Below w.heap.size w w2 := HB1.out.trans (hb2.mono HB1.out.size)
    have HA := Lib.hid (NL_sorted rfl hok HN.out.reach hown)
    have HOA := Lib.hid (okN_again rfl hok)
    have hb3 : Below w.heap.size w (w2.alloc (.cells #[.slice g (sortN zs).length cg] 22)) := hb12.alloc hb12.size _
    have hA3 : NL (w2.alloc (.cells #[.slice g (sortN zs).length cg] 22)) g (sortN zs).length cg (bz (sortN zs)) := HA.out.below ((Below.refl _ _).alloc (Nat.le_refl _) _)
    have hc3 : (w2.alloc (.cells #[.slice g (sortN zs).length cg] 22)).cell? ⟨w2.heap.size, 0, none⟩ = some (.slice g (sortN zs).length cg) := by rw [World.cell?_alloc_at _ _ _ _ rfl]; rfl
    have hs3 : w2.heap.size < (w2.alloc (.cells #[.slice g (sortN zs).length cg] 22)).heap.size := by simp
    have HB3 := Lib.hid hb3
    have HA3 := Lib.hid hA3
    have HS3 := Lib.hid hs3
    clear hown hb2 hb12 hb3 hA3 hs3 HA HB1
    have HM := Lib.hid (fun x => (sortN_mem_bz (zs := zs) (x := x)))
    have HST := Lib.hid (sortN_strict zs)
    have HAG := Lib.hid (sort_again zs)
    go_wp2_with fail
    refine (Sort_yes _ _ _ _ _ HA3.out HOA.out).mono ?_
    rintro e w4 hpost
    unfold SortPost at hpost
    rw [HAG.out] at hpost
    obtain ⟨g2, cg2, rfl, hown4, hb4⟩ := hpost
    have hc4 : w4.cell? ⟨w2.heap.size, 0, none⟩ = some (.slice g (sortN zs).length cg) := by rw [hb4.cell HS3.out]; exact hc3
    have HA4 := Lib.hid (HA3.out.below hb4)
    have HB4 := Lib.hid (HB3.out.trans (hb4.mono HB3.out.size))
    have HL4 := Lib.hid (HN.out.below HB4.out)
    have HAB := Lib.hid (NL_sorted (zs := zs) rfl hok HN.out.reach hown4)
    clear hown4 hb4 hc3 HA3 HS3 HAG HOA hok
    obtain ⟨ls, has⟩ : ∃ ls, ls = bz (sortN zs) := ⟨_, rfl⟩
    have hal : ls.length = (sortN zs).length := by rw [has, bz_len]
    have HP : Hid (∀ i j, i < j → j < ls.length → (ls.getD i ByteArray.empty).data.toList < (ls.getD j ByteArray.empty).data.toList) := by
      show ∀ i j, _
      intro i j hij hj
      have h1 : (sortN zs) = byt ls := by rw [has, byt_bz]
      have h2 := HST.out
      rw [h1] at h2
      have h3 := List.pairwise_iff_getElem.1 h2 i j (by rw [byt_len]; omega) (by rw [byt_len]; omega) hij
      unfold byt at h3
      rw [List.getElem_map, List.getElem_map] at h3
      rw [List.getD_eq_getElem?_getD, List.getD_eq_getElem?_getD, List.getElem?_eq_getElem hj, List.getElem?_eq_getElem (by omega : i < ls.length)]
      exact h3
    rw [← has] at HA4 HAB
    have HM' : Hid (∀ x, x ∈ ls ↔ x ∈ zs) := by show ∀ x, _; intro x; rw [has]; exact HM.out x
    rw [← hal] at hc4 HA4 HAB ⊢
    have hbig := HA4.out.at_.big
    clear has HM HST
    clear hal
    go_wp2
    go_loop [28] (fun i => ∃ k : Nat, k ≤ ls.length ∧ i = .int .i64 k) (fun i => ls.length - (intOf i).toNat)
    case atStart => exact ⟨0, Nat.zero_le _, rfl⟩
    case round =>
      obtain ⟨k, hk, rfl⟩ := hrel
      by_cases hlt : k < ls.length
      · obtain ⟨ad, rfl, _, hc⟩ := str_at HA4.out.at_.reads hlt
        have HX := Lib.hid (has_iff.2 ((HM'.out (ls.getD k ByteArray.empty)).1 (by
          rw [List.getD_eq_getElem?_getD, List.getElem?_eq_getElem hlt]; exact List.getElem_mem hlt)))
        by_cases h0 : k = 0
        · subst h0
          obtain ⟨b, o, rfl, _⟩ := HA4.out.plain _ rfl
          have hc0 : w4.cell? ⟨b, o, none⟩ = some (.string (ls.getD 0 ByteArray.empty)) := HA4.out.cellAt 0 hlt
          clear hc
          generalize ls.getD 0 ByteArray.empty = s at *
          go_wp2_with (go_at_call 13; refine (nl_contains HL4.out s).mono ?_; rw [HX.out]; rintro e w' ⟨rfl, rfl⟩)
          go_round
          case rel => exact ⟨0 + 1, by omega, by go_num⟩
          case measure => simp [intOf]; omega
        · obtain ⟨j, rfl⟩ : ∃ j, k = j + 1 := ⟨k - 1, by omega⟩
          obtain ⟨b, o, rfl, _⟩ := HA4.out.plain _ rfl
          have hc1 := HA4.out.cellAt (j + 1) hlt
          have hc' := HA4.out.cellAt j (by omega)
          clear hc
          have HLT := Lib.hid (HP.out j (j + 1) (by omega) hlt)
          have hbl : Op.bytesLess (ls.getD j ByteArray.empty).toList (ls.getD (j + 1) ByteArray.empty).toList = true := by
            rw [Proofs.bytesLess_eq, Lib.toList_data, Lib.toList_data]; exact decide_eq_true HLT.out
          clear HLT
          have hge : ∀ w, (binOp .geq 9 (.string (ls.getD j ByteArray.empty)) (.string (ls.getD (j + 1) ByteArray.empty))).run Try.prog w = .ok (.bool false) w := run_geq_str hbl
          clear hbl
          generalize ls.getD j ByteArray.empty = s' at *
          generalize ls.getD (j + 1) ByteArray.empty = s at *
          go_wp2_with (go_at_call 13; refine (nl_contains HL4.out s).mono ?_; rw [HX.out]; rintro e w' ⟨rfl, rfl⟩)
          go_round
          case rel => exact ⟨j + 1 + 1, by omega, by go_num⟩
          case measure => simp [intOf]; omega
      · obtain rfl : k = ls.length := by omega
        have HEQ := Lib.hid (nl_equal HA4.out HAB.out)
        go_wp2_with fail
        refine HEQ.out.mono ?_
        rintro e w5 ⟨rfl, m, rfl⟩
        go_wp2_with fail
        refine (containsNot_ok w2.heap.size p _ c zs ls g ls.length cg _ (HL4.out.drew m) (HA4.out.drew m) hc4 (fun x hx => (HM'.out x).2 hx)).mono ?_
        rintro e w6 ⟨rfl, rfl⟩
        go_wp2
        go_ret
        exact ⟨rfl, below_drawsP HB4.out m⟩
  · go_enter Try.func3, Try.ntmps3
    go_wp2_with fail
    refine (names_below w).mono ?_
    rintro e w1 ⟨rfl, hb1⟩
    have HB1 := Lib.hid hb1
    clear hb1
    go_wp2_with fail
    refine (Sort_no _ _ _ zs _ (HN.out.at_.below HB1.out) hok).mono ?_
    rintro e w2 ⟨rfl, rfl⟩
    have HB2 := Lib.hid (HB1.out.alloc HB1.out.size (.cells #[.slice none 0 0] 22))
    go_wp2
    go_ret
    exact ⟨rfl, HB2.out⟩
end Go.Proofs.Ytnffcboelkkbmaa
