/- The walks of rule.twice and rule.Check. Conditions: the slices read as listed. -/
import Derived.Test.YtoiolepengcagaaGreatDoorConcatNW
import Derived.Test.YtoiolepengcagaaGreatDoorRuleP
namespace Go.Proofs.YtoiolepengcagaaGreatDoor
open Go.RowKit Go.Shelf
theorem NLw.take {w : World} {p : Option Addr} {n c : Nat} {zs : List ByteArray} (h : NLw w p n c zs) {k : Nat} (hk : k ≤ n) : NLw w p k c (zs.take k) := by
  have hl := h.at_.len
  have hr := h.reach
  have hb := h.at_.big
  refine ⟨⟨by rw [List.length_take]; omega, ⟨by unfold strsV; rw [List.length_map, List.length_take]; omega, fun h0 => ?_⟩, fun s hs => h.at_.size s (List.mem_of_mem_take hs), by omega⟩, fun h0 => h.plain (by omega), by omega⟩
  obtain ⟨ad, e, hlt, hc⟩ := h.at_.reads.2 (by omega)
  refine ⟨ad, e, hlt, fun j u hu => hc j u ?_⟩
  unfold strsV at hu ⊢
  rw [List.getElem?_map] at hu ⊢
  rw [← hu]
  have hj : j < k := by
    rw [Option.map_eq_some_iff] at hu
    obtain ⟨x, hx, _⟩ := hu
    have := (List.getElem?_eq_some_iff.1 hx).1
    rw [List.length_take] at this
    omega
  rw [List.getElem?_take_of_lt hj]
def dupB (zs : List ByteArray) : Bool := !decide zs.Nodup
theorem nodup_next {zs : List ByteArray} {k : Nat} (hk : k < zs.length) : (zs.take (k + 1)).Nodup ↔ (zs.take k).Nodup ∧ zs.getD k ByteArray.empty ∉ zs.take k := by
  rw [take_next hk, List.nodup_append]
  constructor
  · rintro ⟨h1, _, h3⟩
    exact ⟨h1, fun hm => h3 _ hm _ (List.mem_singleton.2 rfl) rfl⟩
  · rintro ⟨h1, h2⟩
    refine ⟨h1, by simp, fun a ha b hb => ?_⟩
    rw [List.mem_singleton] at hb
    rintro rfl
    exact h2 (hb ▸ ha)
theorem nodup_upto {zs : List ByteArray} (h : zs.Nodup) (k : Nat) : (zs.take k).Nodup := (List.take_sublist k zs).nodup h
set_option maxHeartbeats 1000000 in
theorem twice_ok (p : Option Addr) (n c : Nat) (zs : List ByteArray) (w : World) (h : NLw w p n c zs) (hcap : n ≤ c) :
    Calls Tryz.prog 116 #[.slice p n c] w fun e w' => e = .returned (.bool (dupB zs)) ∧ w' = w := by
  have hl := h.at_.len
  have hbig := h.at_.big
  subst hl
  have HN := Lib.hid h
  clear h
  go_enter Tryz.func116, Tryz.ntmps116
  go_wp2
  go_loop [7] (fun i => ∃ k : Nat, k ≤ zs.length ∧ i = .int .i64 k ∧ Hid ((zs.take k).Nodup)) (fun i => zs.length - (intOf i).toNat)
  case atStart => exact ⟨0, Nat.zero_le _, rfl, List.nodup_nil⟩
  case round =>
    obtain ⟨k, hk, rfl, HK⟩ := hrel
    by_cases hlt : k < zs.length
    · obtain ⟨ad, rfl, _, hc⟩ := str_at HN.out.at_.reads hlt
      have HT := Lib.hid (HN.out.take hk)
      have HX := Lib.hid (nodup_next hlt)
      cases hcn : Lib.containsS (zs.take k) (zs.getD k ByteArray.empty)
      · have HY : Hid ((zs.take (k + 1)).Nodup) := HX.out.2 ⟨HK.out, fun hm => by rw [has_iff.2 hm] at hcn; cases hcn⟩
        have HCN := Lib.hid hcn
        clear hcn
        generalize zs.getD k ByteArray.empty = s at *
        go_wp2_with (go_at_call 78; refine (nlw_contains HT.out s).mono ?_; rw [HCN.out]; rintro e w' ⟨rfl, rfl⟩)
        go_round
        case rel => exact ⟨k + 1, by omega, by go_num, HY.out⟩
        case measure => simp [intOf]; omega
      · have HY : Hid (dupB zs = true) := by
          show dupB zs = true
          unfold dupB
          rw [Bool.not_eq_true', decide_eq_false_iff_not]
          exact fun hd => (HX.out.1 (nodup_upto hd _)).2 (has_iff.1 hcn)
        have HCN := Lib.hid hcn
        clear hcn
        generalize zs.getD k ByteArray.empty = s at *
        go_wp2_with (go_at_call 78; refine (nlw_contains HT.out s).mono ?_; rw [HCN.out]; rintro e w' ⟨rfl, rfl⟩)
        go_ret
        exact ⟨by rw [HY.out]; rfl, rfl⟩
    · obtain rfl : k = zs.length := by omega
      have HY : Hid (dupB zs = false) := by
        show dupB zs = false
        unfold dupB
        have := HK.out
        rw [List.take_length] at this
        rw [decide_eq_true this]; rfl
      go_wp2
      go_ret
      exact ⟨by rw [HY.out]; rfl, rfl⟩
theorem all_okN (us : List ByteArray) : (us.all fun s => nameE s == 0) = true ↔ okN us us.length := by
  rw [okN_mem rfl, List.all_eq_true]
  simp
/-- two parts in a row at B -/
def twoP (p q : Option Addr) (n c m d : Nat) (T N : List ByteArray) : List CPart := [⟨p, n, c, T⟩, ⟨q, m, d, N⟩]
theorem cat_two (p q : Option Addr) (n c m d : Nat) (T N : List ByteArray) : catN (twoP p q n c m d T N) (twoP p q n c m d T N).length = T ++ N := by
  unfold catN twoP
  simp
theorem parts_two {w : World} {B : Nat} {p q : Option Addr} {n c m d : Nat} {T N : List ByteArray} (h1 : NLw w p n c T) (h2 : NLw w q m d N)
    (c1 : w.cell? ⟨B, 0, none⟩ = some (.slice p n c)) (c2 : w.cell? ⟨B, 1, none⟩ = some (.slice q m d)) : CParts w B (twoP p q n c m d T N) := by
  have l1 := h1.at_.len
  have l2 := h2.at_.len
  subst l1 l2
  refine ⟨fun k hk => ?_, fun k hk => ?_⟩
  · match k, hk with
    | 0, _ => exact h1
    | 1, _ => exact h2
  · match k, hk with
    | 0, _ => exact c1
    | 1, _ => exact c2
/-- Concat of two -/
theorem concat_two {w : World} {B : Nat} {p q : Option Addr} {n c m d : Nat} {T N : List ByteArray} (h1 : NLw w p n c T) (h2 : NLw w q m d N) (hsum : n + m ≤ 8796093022208)
    (c1 : w.cell? ⟨B, 0, none⟩ = some (.slice p n c)) (c2 : w.cell? ⟨B, 1, none⟩ = some (.slice q m d)) (hB : B < w.heap.size) :
    Calls Tryz.prog 11 #[.slice (some ⟨B, 0, none⟩) 2 2] w (CatPost w (T ++ N)) := by
  have := concatN_ok B (twoP p q n c m d T N) w (by unfold twoP; simp) (parts_two h1 h2 c1 c2) (by rw [cat_two, List.length_append]; have := h1.at_.len; have := h2.at_.len; omega) hB
  rw [cat_two] at this
  exact this
theorem CatPost.elim {w : World} {us : List ByteArray} {e : Ending} {w' : World} (h : CatPost w us e w') (hs : ∀ s ∈ us, s.size ≤ 4611686018427387904) (hn : us.length * 16 ≤ 140737488351232) :
    ∃ (g : Option Addr) (c : Nat), e = .returned (.slice g us.length c) ∧ NL w' g us.length c us ∧ w'.ownsRow w.heap.size 9 1 (.slice g us.length c) us.length (strsV us) ∧ Below w.heap.size w w' := by
  obtain ⟨g, c, h1, h2, h3⟩ := h
  exact ⟨g, c, h1, NL_own h2 hs hn, h2, h3⟩
set_option maxHeartbeats 4000000 in
theorem CheckR_ok (p q : Option Addr) (n c m d : Nat) (T N : List ByteArray) (w : World) (h1 : NLw w p n c T) (h2 : NLw w q m d N) (hc1 : n ≤ c) (hc2 : m ≤ d) :
    Calls Tryz.prog 77 #[.agg #[.slice p n c, .slice q m d]] w fun e w' => e = .returned (.int .i64 (ruleE T N)) ∧ Below w.heap.size w w' := by
  have l1 := h1.at_.len
  have l2 := h2.at_.len
  have b1 := h1.at_.big
  have b2 := h2.at_.big
  subst l1 l2
  have H1 := Lib.hid h1
  have H2 := Lib.hid h2
  clear h1 h2
  have HB0 : Hid (∀ o, Below w.heap.size w (w.alloc o)) := fun o => (Below.refl _ _).alloc (Nat.le_refl _) _
  by_cases g1 : 20 < T.length
  · have HE : Hid (ruleE T N = 2) := by show _ = _; unfold ruleE; rw [if_pos (.inl g1)]
    go_enter Tryz.func77, Tryz.ntmps77
    go_wp2
    go_ret
    exact ⟨by rw [HE.out]; rfl, HB0.out _⟩
  by_cases g2 : 20 < N.length
  · have HE : Hid (ruleE T N = 2) := by show _ = _; unfold ruleE; rw [if_pos (.inr g2)]
    go_enter Tryz.func77, Tryz.ntmps77
    go_wp2
    go_ret
    exact ⟨by rw [HE.out]; rfl, HB0.out _⟩
  by_cases g3 : T.length = 0
  · have HE : Hid (ruleE T N = 3) := by show _ = _; unfold ruleE; rw [if_neg (by omega), if_pos g3]
    have g3' : ((T.length : Int) == 0) = true := by rw [g3]; rfl
    go_enter Tryz.func77, Tryz.ntmps77
    go_wp2
    go_ret
    exact ⟨by rw [HE.out]; rfl, HB0.out _⟩
  have g3' : ((T.length : Int) == 0) = false := by rw [beq_eq_false_iff_ne]; omega
  have HF : Hid (ruleE T N = if ((T ++ N).all fun s => nameE s == 0) = false then 3 else if ¬ T.Nodup ∨ ¬ N.Nodup then 6 else 0) := by
    show _ = _; unfold ruleE; rw [if_neg (by omega), if_neg g3]
  obtain ⟨wa, hwa⟩ : ∃ wa, wa = w.alloc (.cells #[.slice p T.length c, .slice q N.length d] 61) := ⟨_, rfl⟩
  obtain ⟨wb, hwb⟩ : ∃ wb, wb = wa.alloc (.cells #[.slice p T.length c, .slice q N.length d] 23) := ⟨_, rfl⟩
  have hsa : wa.heap.size = w.heap.size + 1 := by rw [hwa]; simp
  have hsb : wb.heap.size = w.heap.size + 2 := by rw [hwb]; simp [hsa]
  have HBA : Hid (Below w.heap.size w wa) := by show Below _ _ _; rw [hwa]; exact HB0.out _
  have HBB : Hid (Below w.heap.size w wb) := by show Below _ _ _; rw [hwb]; exact HBA.out.alloc (by omega) _
  have ca1 : wa.cell? ⟨w.heap.size, 0, none⟩ = some (.slice p T.length c) := by rw [hwa, World.cell?_alloc_at _ _ _ _ rfl]; rfl
  have ca2 : wa.cell? ⟨w.heap.size, 1, none⟩ = some (.slice q N.length d) := by rw [hwa, World.cell?_alloc_at _ _ _ _ rfl]; rfl
  have HAB : Hid (Below wa.heap.size wa wb) := by show Below _ _ _; rw [hwb]; exact (Below.refl _ _).alloc (Nat.le_refl _) _
  have cb1 : wb.cell? ⟨w.heap.size, 0, none⟩ = some (.slice p T.length c) := by rw [HAB.out.cell (by rw [hsa]; simp)]; exact ca1
  have cb2 : wb.cell? ⟨w.heap.size, 1, none⟩ = some (.slice q N.length d) := by rw [HAB.out.cell (by rw [hsa]; simp)]; exact ca2
  have HCat := Lib.hid (concat_two (w := wb) (B := wa.heap.size) (H1.out.below HBB.out) (H2.out.below HBB.out) (by omega) (by rw [hwb, World.cell?_alloc_at _ _ _ _ rfl]; rfl) (by rw [hwb, World.cell?_alloc_at _ _ _ _ rfl]; rfl) (by omega))
  have HSZ : Hid (∀ s ∈ T ++ N, s.size ≤ 4611686018427387904) := by
    show ∀ s ∈ T ++ N, _
    intro s hs
    rcases List.mem_append.1 hs with h | h
    · exact H1.out.at_.size s h
    · exact H2.out.at_.size s h
  have hlen : (T ++ N).length ≤ 40 := by rw [List.length_append]; omega
  obtain ⟨us, hus⟩ : ∃ us, us = T ++ N := ⟨_, rfl⟩
  rw [← hus] at HCat HSZ hlen HF
  clear hus
  rw [hsa] at HCat
  subst hwb
  subst hwa
  have HC1 := Lib.hid cb1
  have HC2 := Lib.hid cb2
  clear ca1 ca2 hsa hsb HAB cb1 cb2 HBA
  go_enter Tryz.func77, Tryz.ntmps77
  go_wp2_with (go_at_call 11; refine HCat.out.mono ?_; intro e w1 hpost; obtain ⟨g, cg, rfl, hN, _, hb1⟩ := hpost.elim HSZ.out (by omega); have HN := Lib.hid hN; have HB1 := Lib.hid (HBB.out.trans (hb1.mono HBB.out.size)); have HBW := Lib.hid hb1; clear hN hpost hb1)
  have k1 : w1.cell? ⟨w.heap.size, 0, none⟩ = some (.slice p T.length c) := by rw [HBW.out.cell (by simp; omega)]; exact HC1.out
  have k2 : w1.cell? ⟨w.heap.size, 1, none⟩ = some (.slice q N.length d) := by rw [HBW.out.cell (by simp; omega)]; exact HC2.out
  have HP1 := Lib.hid (H1.out.below HB1.out)
  have HP2 := Lib.hid (H2.out.below HB1.out)
  clear HCat HBB HBW HB0 H1 H2 HC1 HC2
  by_cases hok : okN us us.length
  · have HOK := Lib.hid hok
    have HD : Hid (ruleE T N = if (dupB T || dupB N) = true then 6 else 0) := by
      show _ = _
      rw [HF.out, if_neg (by rw [Bool.not_eq_false]; exact (all_okN us).2 hok)]
      unfold dupB
      by_cases d1 : T.Nodup <;> by_cases d2 : N.Nodup <;> simp [d1, d2]
    clear HF hok
    go_loop [29] (fun i => ∃ k : Nat, k ≤ us.length ∧ i = .int .i64 k) (fun i => us.length - (intOf i).toNat)
    case atStart => exact ⟨0, Nat.zero_le _, rfl⟩
    case round =>
      obtain ⟨k, hk, rfl⟩ := hrel
      by_cases hlt : k < us.length
      · obtain ⟨ad, rfl, _, hc⟩ := str_at HN.out.at_.reads hlt
        have HE := Lib.hid (HOK.out k hlt)
        have HS := Lib.hid (HN.out.at_.size (us.getD k ByteArray.empty) (by
          rw [List.getD_eq_getElem?_getD, List.getElem?_eq_getElem hlt]; exact List.getElem_mem hlt))
        generalize us.getD k ByteArray.empty = s at *
        go_wp2_with (go_at_call 28; refine (CheckN_ok s HS.out _).mono ?_; rw [HE.out]; rintro e w' ⟨rfl, rfl⟩)
        go_round
        case rel => exact ⟨k + 1, by omega, by go_num⟩
        case measure => simp [intOf]; omega
      · obtain rfl : k = us.length := by omega
        cases hd1 : dupB T
        · rw [hd1] at HD
          have HD1 := Lib.hid hd1
          clear hd1
          cases hd2 : dupB N
          · rw [hd2] at HD
            have HD2 := Lib.hid hd2
            clear hd2
            go_wp2_with (go_at_call 116; (first | (have h1 := twice_ok p _ c T _ HP1.out hc1; rw [HD1.out] at h1; clear HD1; refine h1.mono ?_; clear h1) | (refine (twice_ok q _ d N _ HP2.out hc2).mono ?_; rw [HD2.out])); rintro e w' ⟨rfl, rfl⟩)
            go_ret
            exact ⟨by rw [HD.out]; rfl, HB1.out⟩
          · rw [hd2] at HD
            have HD2 := Lib.hid hd2
            clear hd2
            go_wp2_with (go_at_call 116; (first | (have h1 := twice_ok p _ c T _ HP1.out hc1; rw [HD1.out] at h1; clear HD1; refine h1.mono ?_; clear h1) | (refine (twice_ok q _ d N _ HP2.out hc2).mono ?_; rw [HD2.out])); rintro e w' ⟨rfl, rfl⟩)
            go_ret
            exact ⟨by rw [HD.out]; rfl, HB1.out⟩
        · rw [hd1] at HD
          have HD1 := Lib.hid hd1
          clear hd1
          go_wp2_with (go_at_call 116; refine (twice_ok p _ c T _ HP1.out hc1).mono ?_; rw [HD1.out]; rintro e w' ⟨rfl, rfl⟩)
          go_ret
          exact ⟨by rw [HD.out]; rfl, HB1.out⟩
  · have HD : Hid (ruleE T N = 3) := by
      show _ = _
      rw [HF.out, if_pos]
      rw [← Bool.not_eq_true]
      exact fun h => hok ((all_okN us).1 h)
    have HNO := Lib.hid hok
    clear HF hok
    go_loop [29] (fun i => ∃ k : Nat, k ≤ us.length ∧ i = .int .i64 k ∧ Hid (okN us k)) (fun i => us.length - (intOf i).toNat)
    case atStart => exact ⟨0, Nat.zero_le _, rfl, fun j hj => absurd hj (Nat.not_lt_zero j)⟩
    case round =>
      obtain ⟨k, hk, rfl, HK⟩ := hrel
      by_cases hlt : k < us.length
      · obtain ⟨ad, rfl, _, hc⟩ := str_at HN.out.at_.reads hlt
        have HS := Lib.hid (HN.out.at_.size (us.getD k ByteArray.empty) (by
          rw [List.getD_eq_getElem?_getD, List.getElem?_eq_getElem hlt]; exact List.getElem_mem hlt))
        rcases nameE_cases (us.getD k ByteArray.empty) with he | he
        · have HK2 := Lib.hid (okN_next HK.out he)
          have HE := Lib.hid he
          clear he
          generalize us.getD k ByteArray.empty = s at *
          go_wp2_with (go_at_call 28; refine (CheckN_ok s HS.out _).mono ?_; rw [HE.out]; rintro e w' ⟨rfl, rfl⟩)
          go_round
          case rel => exact ⟨k + 1, by omega, by go_num, HK2.out⟩
          case measure => simp [intOf]; omega
        · have HE := Lib.hid he
          clear he
          generalize us.getD k ByteArray.empty = s at *
          go_wp2_with (go_at_call 28; refine (CheckN_ok s HS.out _).mono ?_; rw [HE.out]; rintro e w' ⟨rfl, rfl⟩)
          go_ret
          exact ⟨by rw [HD.out]; rfl, HB1.out⟩
      · obtain rfl : k = us.length := by omega
        exact absurd HK.out HNO.out
end Go.Proofs.YtoiolepengcagaaGreatDoor
