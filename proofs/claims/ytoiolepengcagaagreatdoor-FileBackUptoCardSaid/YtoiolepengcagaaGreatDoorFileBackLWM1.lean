/- Texts joined: RuleW, NLArg, WordsW, RulePW, Box2, RuleLW. Conditions: theirs. -/
import Derived.Test.YtoiolepengcagaaGreatDoorConcatNW
import Derived.Test.YtoiolepengcagaaGreatDoorRuleP
import Derived.Test.YtoiolepengcagaaGreatDoorNamesW
import Derived.WideShapes
import Derived.Shelf.Strings.SlTrimAscii
import Derived.Deep.RegionWith
import Derived.Test.YtoiolepengcagaaGreatDoorMem
import Derived.WalkKit
import Derived.Laws.ResultCell
import Derived.Laws.Rows
import Derived.Sort.Walk0
import Derived.Deep.RegionHeld3
namespace Go.Proofs.YtoiolepengcagaaGreatDoor
open Go.RowKit Go.Shelf
theorem NLw.take {w : World} {p : Option Addr} {n c : Nat} {zs : List ByteArray} (h : NLw w p n c zs) {k : Nat} (hk : k ≤ n) : NLw w p k c (zs.take k) := by
  have hl := h.at_.len
  have hr := h.reach
  have hb := h.at_.big
  refine ⟨⟨by rw [List.length_take]; omega, ⟨by unfold strsV; rw [List.length_map, List.length_take]; omega, fun h0 => ?_⟩, fun s hs => h.at_.size s (List.mem_of_mem_take hs), by omega⟩, fun h0 => h.plain (by omega), by omega⟩
  obtain ⟨ad, e, hlt, hc⟩ := h.at_.reads.2 (by omega)
  refine ⟨ad, e, hlt, fun j u hu => hc j u ?_⟩
  unfold strsV at hu ⊢
  rw [List.getElem?_map] at hu ⊢
  rw [← hu]
  have hj : j < k := by
    rw [Option.map_eq_some_iff] at hu
    obtain ⟨x, hx, _⟩ := hu
    have := (List.getElem?_eq_some_iff.1 hx).1
    rw [List.length_take] at this
    omega
  rw [List.getElem?_take_of_lt hj]
def dupB (zs : List ByteArray) : Bool := !decide zs.Nodup
theorem nodup_next {zs : List ByteArray} {k : Nat} (hk : k < zs.length) : (zs.take (k + 1)).Nodup ↔ (zs.take k).Nodup ∧ zs.getD k ByteArray.empty ∉ zs.take k := by
  rw [take_next hk, List.nodup_append]
  constructor
  · rintro ⟨h1, _, h3⟩
    exact ⟨h1, fun hm => h3 _ hm _ (List.mem_singleton.2 rfl) rfl⟩
  · rintro ⟨h1, h2⟩
    refine ⟨h1, by simp, fun a ha b hb => ?_⟩
    rw [List.mem_singleton] at hb
    rintro rfl
    exact h2 (hb ▸ ha)
theorem nodup_upto {zs : List ByteArray} (h : zs.Nodup) (k : Nat) : (zs.take k).Nodup := (List.take_sublist k zs).nodup h
set_option maxHeartbeats 1000000 in
theorem twice_ok (p : Option Addr) (n c : Nat) (zs : List ByteArray) (w : World) (h : NLw w p n c zs) (hcap : n ≤ c) :
    Calls Tryz.prog 116 #[.slice p n c] w fun e w' => e = .returned (.bool (dupB zs)) ∧ w' = w := by
  have hl := h.at_.len
  have hbig := h.at_.big
  subst hl
  have HN := Lib.hid h
  clear h
  go_enter Tryz.func116, Tryz.ntmps116
  go_wp2
  go_loop [7] (fun i => ∃ k : Nat, k ≤ zs.length ∧ i = .int .i64 k ∧ Hid ((zs.take k).Nodup)) (fun i => zs.length - (intOf i).toNat)
  case atStart => exact ⟨0, Nat.zero_le _, rfl, List.nodup_nil⟩
  case round =>
    obtain ⟨k, hk, rfl, HK⟩ := hrel
    by_cases hlt : k < zs.length
    · obtain ⟨ad, rfl, _, hc⟩ := str_at HN.out.at_.reads hlt
      have HT := Lib.hid (HN.out.take hk)
      have HX := Lib.hid (nodup_next hlt)
      cases hcn : Lib.containsS (zs.take k) (zs.getD k ByteArray.empty)
      · have HY : Hid ((zs.take (k + 1)).Nodup) := HX.out.2 ⟨HK.out, fun hm => by rw [has_iff.2 hm] at hcn; cases hcn⟩
        have HCN := Lib.hid hcn
        clear hcn
        generalize zs.getD k ByteArray.empty = s at *
        go_wp2_with (go_at_call 78; refine (nlw_contains HT.out s).mono ?_; rw [HCN.out]; rintro e w' ⟨rfl, rfl⟩)
        go_round
        case rel => exact ⟨k + 1, by omega, by go_num, HY.out⟩
        case measure => simp [intOf]; omega
      · have HY : Hid (dupB zs = true) := by
          show dupB zs = true
          unfold dupB
          rw [Bool.not_eq_true', decide_eq_false_iff_not]
          exact fun hd => (HX.out.1 (nodup_upto hd _)).2 (has_iff.1 hcn)
        have HCN := Lib.hid hcn
        clear hcn
        generalize zs.getD k ByteArray.empty = s at *
        go_wp2_with (go_at_call 78; refine (nlw_contains HT.out s).mono ?_; rw [HCN.out]; rintro e w' ⟨rfl, rfl⟩)
        go_ret
        exact ⟨by rw [HY.out]; rfl, rfl⟩
    · obtain rfl : k = zs.length := by omega
      have HY : Hid (dupB zs = false) := by
        show dupB zs = false
        unfold dupB
        have := HK.out
        rw [List.take_length] at this
        rw [decide_eq_true this]; rfl
      go_wp2
      go_ret
      exact ⟨by rw [HY.out]; rfl, rfl⟩
theorem all_okN (us : List ByteArray) : (us.all fun s => nameE s == 0) = true ↔ okN us us.length := by
  rw [okN_mem rfl, List.all_eq_true]
  simp
/-- two parts in a row at B -/
def twoP (p q : Option Addr) (n c m d : Nat) (T N : List ByteArray) : List CPart := [⟨p, n, c, T⟩, ⟨q, m, d, N⟩]
theorem cat_two (p q : Option Addr) (n c m d : Nat) (T N : List ByteArray) : catN (twoP p q n c m d T N) (twoP p q n c m d T N).length = T ++ N := by
  unfold catN twoP
  simp
theorem parts_two {w : World} {B : Nat} {p q : Option Addr} {n c m d : Nat} {T N : List ByteArray} (h1 : NLw w p n c T) (h2 : NLw w q m d N)
    (c1 : w.cell? ⟨B, 0, none⟩ = some (.slice p n c)) (c2 : w.cell? ⟨B, 1, none⟩ = some (.slice q m d)) : CParts w B (twoP p q n c m d T N) := by
  have l1 := h1.at_.len
  have l2 := h2.at_.len
  subst l1 l2
  refine ⟨fun k hk => ?_, fun k hk => ?_⟩
  · match k, hk with
    | 0, _ => exact h1
    | 1, _ => exact h2
  · match k, hk with
    | 0, _ => exact c1
    | 1, _ => exact c2
/-- Concat of two -/
theorem concat_two {w : World} {B : Nat} {p q : Option Addr} {n c m d : Nat} {T N : List ByteArray} (h1 : NLw w p n c T) (h2 : NLw w q m d N) (hsum : n + m ≤ 8796093022208)
    (c1 : w.cell? ⟨B, 0, none⟩ = some (.slice p n c)) (c2 : w.cell? ⟨B, 1, none⟩ = some (.slice q m d)) (hB : B < w.heap.size) :
    Calls Tryz.prog 11 #[.slice (some ⟨B, 0, none⟩) 2 2] w (CatPost w (T ++ N)) := by
  have := concatN_ok B (twoP p q n c m d T N) w (by unfold twoP; simp) (parts_two h1 h2 c1 c2) (by rw [cat_two, List.length_append]; have := h1.at_.len; have := h2.at_.len; omega) hB
  rw [cat_two] at this
  exact this
theorem CatPost.elim {w : World} {us : List ByteArray} {e : Ending} {w' : World} (h : CatPost w us e w') (hs : ∀ s ∈ us, s.size ≤ 4611686018427387904) (hn : us.length * 16 ≤ 140737488351232) :
    ∃ (g : Option Addr) (c : Nat), e = .returned (.slice g us.length c) ∧ NL w' g us.length c us ∧ w'.ownsRow w.heap.size 9 1 (.slice g us.length c) us.length (strsV us) ∧ Below w.heap.size w w' := by
  obtain ⟨g, c, h1, h2, h3⟩ := h
  exact ⟨g, c, h1, NL_own h2 hs hn, h2, h3⟩
set_option maxHeartbeats 4000000 in
theorem CheckR_ok (p q : Option Addr) (n c m d : Nat) (T N : List ByteArray) (w : World) (h1 : NLw w p n c T) (h2 : NLw w q m d N) (hc1 : n ≤ c) (hc2 : m ≤ d) :
    Calls Tryz.prog 77 #[.agg #[.slice p n c, .slice q m d]] w fun e w' => e = .returned (.int .i64 (ruleE T N)) ∧ Below w.heap.size w w' := by
  have l1 := h1.at_.len
  have l2 := h2.at_.len
  have b1 := h1.at_.big
  have b2 := h2.at_.big
  subst l1 l2
  have H1 := Lib.hid h1
  have H2 := Lib.hid h2
  clear h1 h2
  have HB0 : Hid (∀ o, Below w.heap.size w (w.alloc o)) := fun o => (Below.refl _ _).alloc (Nat.le_refl _) _
  by_cases g1 : 20 < T.length
  · have HE : Hid (ruleE T N = 2) := by show _ = _; unfold ruleE; rw [if_pos (.inl g1)]
    go_enter Tryz.func77, Tryz.ntmps77
    go_wp2
    go_ret
    exact ⟨by rw [HE.out]; rfl, HB0.out _⟩
  by_cases g2 : 20 < N.length
  · have HE : Hid (ruleE T N = 2) := by show _ = _; unfold ruleE; rw [if_pos (.inr g2)]
    go_enter Tryz.func77, Tryz.ntmps77
    go_wp2
    go_ret
    exact ⟨by rw [HE.out]; rfl, HB0.out _⟩
  by_cases g3 : T.length = 0
  · have HE : Hid (ruleE T N = 3) := by show _ = _; unfold ruleE; rw [if_neg (by omega), if_pos g3]
    have g3' : ((T.length : Int) == 0) = true := by rw [g3]; rfl
    go_enter Tryz.func77, Tryz.ntmps77
    go_wp2
    go_ret
    exact ⟨by rw [HE.out]; rfl, HB0.out _⟩
  have g3' : ((T.length : Int) == 0) = false := by rw [beq_eq_false_iff_ne]; omega
  have HF : Hid (ruleE T N = if ((T ++ N).all fun s => nameE s == 0) = false then 3 else if ¬ T.Nodup ∨ ¬ N.Nodup then 6 else 0) := by
    show _ = _; unfold ruleE; rw [if_neg (by omega), if_neg g3]
  obtain ⟨wa, hwa⟩ : ∃ wa, wa = w.alloc (.cells #[.slice p T.length c, .slice q N.length d] 61) := ⟨_, rfl⟩
  obtain ⟨wb, hwb⟩ : ∃ wb, wb = wa.alloc (.cells #[.slice p T.length c, .slice q N.length d] 23) := ⟨_, rfl⟩
  have hsa : wa.heap.size = w.heap.size + 1 := by rw [hwa]; simp
  have hsb : wb.heap.size = w.heap.size + 2 := by rw [hwb]; simp [hsa]
  have HBA : Hid (Below w.heap.size w wa) := by show Below _ _ _; rw [hwa]; exact HB0.out _
  have HBB : Hid (Below w.heap.size w wb) := by show Below _ _ _; rw [hwb]; exact HBA.out.alloc (by omega) _
  have ca1 : wa.cell? ⟨w.heap.size, 0, none⟩ = some (.slice p T.length c) := by rw [hwa, World.cell?_alloc_at _ _ _ _ rfl]; rfl
  have ca2 : wa.cell? ⟨w.heap.size, 1, none⟩ = some (.slice q N.length d) := by rw [hwa, World.cell?_alloc_at _ _ _ _ rfl]; rfl
  have HAB : Hid (Below wa.heap.size wa wb) := by show Below _ _ _; rw [hwb]; exact (Below.refl _ _).alloc (Nat.le_refl _) _
  have cb1 : wb.cell? ⟨w.heap.size, 0, none⟩ = some (.slice p T.length c) := by rw [HAB.out.cell (by rw [hsa]; simp)]; exact ca1
  have cb2 : wb.cell? ⟨w.heap.size, 1, none⟩ = some (.slice q N.length d) := by rw [HAB.out.cell (by rw [hsa]; simp)]; exact ca2
  have HCat := Lib.hid (concat_two (w := wb) (B := wa.heap.size) (H1.out.below HBB.out) (H2.out.below HBB.out) (by omega) (by rw [hwb, World.cell?_alloc_at _ _ _ _ rfl]; rfl) (by rw [hwb, World.cell?_alloc_at _ _ _ _ rfl]; rfl) (by omega))
  have HSZ : Hid (∀ s ∈ T ++ N, s.size ≤ 4611686018427387904) := by
    show ∀ s ∈ T ++ N, _
    intro s hs
    rcases List.mem_append.1 hs with h | h
    · exact H1.out.at_.size s h
    · exact H2.out.at_.size s h
  have hlen : (T ++ N).length ≤ 40 := by rw [List.length_append]; omega
  obtain ⟨us, hus⟩ : ∃ us, us = T ++ N := ⟨_, rfl⟩
  rw [← hus] at HCat HSZ hlen HF
  clear hus
  rw [hsa] at HCat
  subst hwb
  subst hwa
  have HC1 := Lib.hid cb1
  have HC2 := Lib.hid cb2
  clear ca1 ca2 hsa hsb HAB cb1 cb2 HBA
  go_enter Tryz.func77, Tryz.ntmps77
  go_wp2_with (go_at_call 11; refine HCat.out.mono ?_; intro e w1 hpost; obtain ⟨g, cg, rfl, hN, _, hb1⟩ := hpost.elim HSZ.out (by omega); have HN := Lib.hid hN; have HB1 := Lib.hid (HBB.out.trans (hb1.mono HBB.out.size)); have HBW := Lib.hid hb1; clear hN hpost hb1)
  have k1 : w1.cell? ⟨w.heap.size, 0, none⟩ = some (.slice p T.length c) := by rw [HBW.out.cell (by simp; omega)]; exact HC1.out
  have k2 : w1.cell? ⟨w.heap.size, 1, none⟩ = some (.slice q N.length d) := by rw [HBW.out.cell (by simp; omega)]; exact HC2.out
  have HP1 := Lib.hid (H1.out.below HB1.out)
  have HP2 := Lib.hid (H2.out.below HB1.out)
  clear HCat HBB HBW HB0 H1 H2 HC1 HC2
  by_cases hok : okN us us.length
  · have HOK := Lib.hid hok
    have HD : Hid (ruleE T N = if (dupB T || dupB N) = true then 6 else 0) := by
      show _ = _
      rw [HF.out, if_neg (by rw [Bool.not_eq_false]; exact (all_okN us).2 hok)]
      unfold dupB
      by_cases d1 : T.Nodup <;> by_cases d2 : N.Nodup <;> simp [d1, d2]
    clear HF hok
    go_loop [29] (fun i => ∃ k : Nat, k ≤ us.length ∧ i = .int .i64 k) (fun i => us.length - (intOf i).toNat)
    case atStart => exact ⟨0, Nat.zero_le _, rfl⟩
    case round =>
      obtain ⟨k, hk, rfl⟩ := hrel
      by_cases hlt : k < us.length
      · obtain ⟨ad, rfl, _, hc⟩ := str_at HN.out.at_.reads hlt
        have HE := Lib.hid (HOK.out k hlt)
        have HS := Lib.hid (HN.out.at_.size (us.getD k ByteArray.empty) (by
          rw [List.getD_eq_getElem?_getD, List.getElem?_eq_getElem hlt]; exact List.getElem_mem hlt))
        generalize us.getD k ByteArray.empty = s at *
        go_wp2_with (go_at_call 28; refine (CheckN_ok s HS.out _).mono ?_; rw [HE.out]; rintro e w' ⟨rfl, rfl⟩)
        go_round
        case rel => exact ⟨k + 1, by omega, by go_num⟩
        case measure => simp [intOf]; omega
      · obtain rfl : k = us.length := by omega
        cases hd1 : dupB T
        · rw [hd1] at HD
          have HD1 := Lib.hid hd1
          clear hd1
          cases hd2 : dupB N
          · rw [hd2] at HD
            have HD2 := Lib.hid hd2
            clear hd2
            go_wp2_with (go_at_call 116; (first | (have h1 := twice_ok p _ c T _ HP1.out hc1; rw [HD1.out] at h1; clear HD1; refine h1.mono ?_; clear h1) | (refine (twice_ok q _ d N _ HP2.out hc2).mono ?_; rw [HD2.out])); rintro e w' ⟨rfl, rfl⟩)
            go_ret
            exact ⟨by rw [HD.out]; rfl, HB1.out⟩
          · rw [hd2] at HD
            have HD2 := Lib.hid hd2
            clear hd2
            go_wp2_with (go_at_call 116; (first | (have h1 := twice_ok p _ c T _ HP1.out hc1; rw [HD1.out] at h1; clear HD1; refine h1.mono ?_; clear h1) | (refine (twice_ok q _ d N _ HP2.out hc2).mono ?_; rw [HD2.out])); rintro e w' ⟨rfl, rfl⟩)
            go_ret
            exact ⟨by rw [HD.out]; rfl, HB1.out⟩
        · rw [hd1] at HD
          have HD1 := Lib.hid hd1
          clear hd1
          go_wp2_with (go_at_call 116; refine (twice_ok p _ c T _ HP1.out hc1).mono ?_; rw [HD1.out]; rintro e w' ⟨rfl, rfl⟩)
          go_ret
          exact ⟨by rw [HD.out]; rfl, HB1.out⟩
  · have HD : Hid (ruleE T N = 3) := by
      show _ = _
      rw [HF.out, if_pos]
      rw [← Bool.not_eq_true]
      exact fun h => hok ((all_okN us).1 h)
    have HNO := Lib.hid hok
    clear HF hok
    go_loop [29] (fun i => ∃ k : Nat, k ≤ us.length ∧ i = .int .i64 k ∧ Hid (okN us k)) (fun i => us.length - (intOf i).toNat)
    case atStart => exact ⟨0, Nat.zero_le _, rfl, fun j hj => absurd hj (Nat.not_lt_zero j)⟩
    case round =>
      obtain ⟨k, hk, rfl, HK⟩ := hrel
      by_cases hlt : k < us.length
      · obtain ⟨ad, rfl, _, hc⟩ := str_at HN.out.at_.reads hlt
        have HS := Lib.hid (HN.out.at_.size (us.getD k ByteArray.empty) (by
          rw [List.getD_eq_getElem?_getD, List.getElem?_eq_getElem hlt]; exact List.getElem_mem hlt))
        rcases nameE_cases (us.getD k ByteArray.empty) with he | he
        · have HK2 := Lib.hid (okN_next HK.out he)
          have HE := Lib.hid he
          clear he
          generalize us.getD k ByteArray.empty = s at *
          go_wp2_with (go_at_call 28; refine (CheckN_ok s HS.out _).mono ?_; rw [HE.out]; rintro e w' ⟨rfl, rfl⟩)
          go_round
          case rel => exact ⟨k + 1, by omega, by go_num, HK2.out⟩
          case measure => simp [intOf]; omega
        · have HE := Lib.hid he
          clear he
          generalize us.getD k ByteArray.empty = s at *
          go_wp2_with (go_at_call 28; refine (CheckN_ok s HS.out _).mono ?_; rw [HE.out]; rintro e w' ⟨rfl, rfl⟩)
          go_ret
          exact ⟨by rw [HD.out]; rfl, HB1.out⟩
      · obtain rfl : k = us.length := by omega
        exact absurd HK.out HNO.out
end Go.Proofs.YtoiolepengcagaaGreatDoor
namespace Go.Proofs.YtoiolepengcagaaGreatDoor
open Go.RowKit Go.ChangeShapes
theorem shape_lt {w : World} {b : Nat} {r : TypeId × Nat} (h : w.shape? b = some r) : b < w.heap.size := by
  unfold World.shape? at h
  rcases Nat.lt_or_ge b w.heap.size with hb | hb
  · exact hb
  · rw [Array.getElem?_eq_none hb] at h; cases h
theorem slice_plain {P : Program} {W : World} {b0 : Nat} {r : Reach} {a : Option Addr} {len cap : Nat} {t e : TypeId} (ht : P.underlying t = some (.slice e)) (h : Value.okWide P W r b0 t (.slice a len cap)) :
    (a = none → cap = 0) ∧ ∀ ad, a = some ad → ∃ b off, ad = ⟨b, off, none⟩ ∧ b < W.heap.size := by
  simp only [Value.okWide, ht, Cell.okWide] at h
  unfold Cell.ok at h
  rw [ht] at h
  cases a with
  | none =>
    refine ⟨fun _ => ?_, fun ad h => by cases h⟩
    revert h
    cases len <;> cases cap <;> simp
  | some ad =>
    refine ⟨fun h => (by cases h), fun ad' h' => ?_⟩
    injection h' with h'
    subst h'
    obtain ⟨_, _, _, hs, row, cells, hsh, _⟩ := h
    obtain ⟨b, o, s⟩ := ad
    simp only at hs
    subst hs
    exact ⟨b, o, rfl, shape_lt hsh⟩
def NLArg (w : World) (p : Option Addr) (n c : Nat) : Prop := ∃ zs, NL w p n c zs
set_option maxRecDepth 100000 in
theorem nl_arg {H : Type} {enc : TypeId × Value → H} {W : World} {r : Reach} {b0 fuel len cap : Nat} {a : Option Addr} {d : DataW H} {p : List MemPlace}
    (hok : Value.okWide Tryz.prog W r b0 23 (.slice a len cap))
    (ht : Tryz.prog.underlying 23 = some (.slice 9)) (he : Tryz.prog.underlying 9 = some .string) (hc : Tryz.prog.cellsOf 9 = 1)
    (hf : DataW.trod enc Tryz.prog W 0 (fun _ => true) true fuel 23 [.slice a len cap] = some (d, p))
    (hsz : ∀ n, n ∈ d.weights Tryz.prog 23 → n ≤ reachBytes) : NLArg W a len cap := by
  obtain ⟨ss, hS⟩ := str_arg ht he hc hf hsz
  obtain ⟨h1, h2⟩ := slice_plain ht hok
  refine ⟨ss, hS, h1, h2, ?_⟩
  rcases open_strings ht he hc hf with ⟨h1, h2⟩ | ⟨ad, ln, cp, zs, h1, h2, h3, h4, h5, h6, h7, h8⟩
  · injection h1 with h1 _
    injection h1 with e1 e2 e3
    subst e1 e2 e3
    omega
  · injection h1 with h1 _
    injection h1 with e1 e2 e3
    subst e1 e2 e3
    injection h6 with h6 h6'
    have hw : d.weights Tryz.prog 23 = ((strs (H := H) (zs.take len)).length + (strs (H := H) (zs.drop len)).length) * Tryz.prog.bytesOf 9 :: (DataW.weightsAll Tryz.prog 9 (strs (H := H) (zs.take len)) ++ DataW.weightsAll Tryz.prog 9 (strs (H := H) (zs.drop len))) := by
      rw [h6, DataW.weights, ht]
    have hb := hsz _ (by rw [hw]; exact List.mem_cons_self)
    have hby : Tryz.prog.bytesOf 9 = 16 := by kernel_rfl
    rw [hby] at hb
    unfold reachBytes at hb
    simp only [if_true] at h5
    have hl1 : (strs (H := H) (zs.take len)).length = len := by unfold strs; rw [List.length_map, List.length_take]; omega
    rw [hl1] at hb
    omega
end Go.Proofs.YtoiolepengcagaaGreatDoor
namespace Go.Proofs.YtoiolepengcagaaGreatDoor
open Go.RowKit Go.Shelf
/-- trimmed of blanks -/
def trm (s : ByteArray) : ByteArray := txt (Lib.trimS s.data.toList [32, 9])
theorem trim_ok (s : ByteArray) (w : World) (hs : s.size ≤ 9223372036854775807) :
    Calls Tryz.prog 106 #[.string s, .string ⟨#[32, 9]⟩] w fun e w' => e = .returned (.string (trm s)) ∧ Below w.heap.size w w' :=
  Any.strings_Trim_laid Tryz.lays160 (by kernel_rfl) s ⟨#[32, 9]⟩ w hs (by decide) (ascii_of_all (by decide))
theorem Split_no (s : ByteArray) (c : UInt8) (w : World) (h : Lib.indexByte s.data.toList c = -1) :
    Calls Tryz.prog 73 #[.string s, .int .u8 (c.toNat : Int)] w fun e w' => e = .returned (.tuple #[.string s, .string ⟨#[]⟩, .bool false]) ∧ w' = w := by
  have H := Lib.hid h
  clear h
  go_enter Tryz.func73, Tryz.ntmps73
  go_wp2_with (go_at_call 69; refine (Tryz.strings_IndexByte s _ _).mono ?_; rw [byte_back, H.out]; rintro e w' ⟨rfl, rfl⟩)
  go_ret3
  exact ⟨rfl, rfl⟩
set_option maxHeartbeats 1000000 in
theorem Split_yes (s : ByteArray) (c : UInt8) (w : World) (k : Nat) (h : Lib.indexByte s.data.toList c = k) (hk : k < s.size) (hs : s.size ≤ 140737488355328) :
    Calls Tryz.prog 73 #[.string s, .int .u8 (c.toNat : Int)] w fun e w' => e = .returned (.tuple #[.string (trm (s.extract 0 k)), .string (trm (s.extract (k + 1) s.size)), .bool true]) ∧ Below w.heap.size w w' := by
  have H := Lib.hid h
  clear h
  have s1 : (s.extract 0 k).size ≤ 9223372036854775807 := by rw [ByteArray.size_extract]; omega
  have s2 : (s.extract (k + 1) s.size).size ≤ 9223372036854775807 := by rw [ByteArray.size_extract]; omega
  go_enter Tryz.func73, Tryz.ntmps73
  go_wp2_with (go_at_call 69; refine (Tryz.strings_IndexByte s _ _).mono ?_; rw [byte_back, H.out]; rintro e w' ⟨rfl, rfl⟩)
  have f1 : (k : Int) + 1 ≤ (s.size : Int) := by omega
  have f2 : (0 : Int) ≤ (k : Int) + 1 := by omega
  have f3 : ((k : Int) + 1).toNat = k + 1 := by omega
  have f4 : k + 1 ≤ s.size := hk
  have f5 : IntKind.i64.wrap ((k : Int) + 1) = (k : Int) + 1 := by rw [IntKind.wrap_i64]; omega
  go_region_with (go_at_call 106; refine (trim_ok _ _ (by rw [ByteArray.size_extract]; omega)).mono ?_; rintro e w1 ⟨rfl, hb⟩; (first | (have HB2 := Lib.hid (HB1.out.trans (hb.mono HB1.out.size))) | (have HB1 := Lib.hid hb)); clear hb)
  all_goals (go_wp2; go_ret3; exact ⟨rfl, ((Below.refl _ _).drew).trans HB2.out⟩)
def isB (l : Bs) (x : List ByteArray) : Prop := lst x = wordsL l
/-- the words of a text -/
def wb (l : Bs) : List ByteArray := (wordsL l).map txt
theorem lst_wb (l : Bs) : lst (wb l) = wordsL l := by
  unfold lst wb
  rw [List.map_map]
  have : (fun x : ByteArray => x.data.toList) ∘ txt = id := by funext l; exact txt_list l
  rw [this, List.map_id]
theorem wb_lst (x : List ByteArray) : (lst x).map txt = x := by
  unfold lst
  rw [List.map_map]
  have : txt ∘ (fun x : ByteArray => x.data.toList) = id := by funext l; exact list_txt l
  rw [this, List.map_id]
theorem fields_wb (s : ByteArray) : Lib.goFieldsP pblk s = wb s.data.toList := by
  unfold wb
  rw [← fields_words, ← lst, wb_lst]
theorem enc_rune (x : Nat) : Value.int .i32 (x : Int) = Value.int .i32 (x : Int) := rfl
set_option maxHeartbeats 400000 in
theorem blank_pays (w : World) : PredAt Tryz.prog 103 #[] encR pblk w := by
  intro W x _
  unfold FnGives
  show Calls Tryz.prog 103 #[.int .i32 (x : Int)] W _
  by_cases h1 : x = 32
  · subst h1
    go_enter Tryz.func103, Tryz.ntmps103
    go_wp2
    go_ret
    exact ⟨rfl, 0, rfl⟩
  · by_cases h2 : x = 9
    · subst h2
      go_enter Tryz.func103, Tryz.ntmps103
      go_wp2
      go_ret
      exact ⟨rfl, 0, rfl⟩
    · have e1 : ((x : Int) == 32) = false := by rw [beq_eq_false_iff_ne]; omega
      have e2 : ((x : Int) == 9) = false := by rw [beq_eq_false_iff_ne]; omega
      have hp : Hid (pblk x = false) := by
        show _ = _
        unfold pblk
        rw [Bool.or_eq_false_iff, beq_eq_false_iff_ne, beq_eq_false_iff_ne]
        exact ⟨h1, h2⟩
      go_enter Tryz.func103, Tryz.ntmps103
      go_wp2
      go_ret
      exact ⟨by rw [hp.out]; rfl, 0, rfl⟩
theorem wb_size (l : Bs) : ∀ s ∈ wb l, s.size ≤ l.length := by
  have key : ∀ l cur, ∀ w ∈ wgo cur l, w.length ≤ cur.length + l.length := by
    intro l
    induction l with
    | nil =>
      intro cur w hw
      rw [wgo_nil] at hw
      split at hw
      · cases hw
      · have : w = cur := by simpa using hw
        subst this; simp
    | cons c l ih =>
      intro cur w hw
      rw [wgo_cons] at hw
      simp only [List.length_cons]
      split at hw
      · split at hw
        · have := ih [] w hw; simp at this; omega
        · rcases List.mem_cons.1 hw with rfl | hw
          · omega
          · have := ih [] w hw; simp at this; omega
      · have := ih _ w hw
        rw [List.length_append, List.length_singleton] at this
        omega
  intro s hs
  obtain ⟨w, hw, rfl⟩ := List.mem_map.1 hs
  rw [txt_size]
  have := key l [] w hw
  simpa using this
theorem wb_len (l : Bs) : (wb l).length ≤ l.length := by
  have key : ∀ l cur, (wgo cur l).length ≤ l.length + (if cur = [] then 0 else 1) := by
    intro l
    induction l with
    | nil =>
      intro cur
      rw [wgo_nil]
      split <;> simp
    | cons c l ih =>
      intro cur
      rw [wgo_cons]
      simp only [List.length_cons]
      split
      · have := ih []
        simp only [if_true] at this
        split
        · omega
        · simp only [List.length_cons]; omega
      · have := ih (cur ++ [c])
        rw [if_neg (by simp)] at this
        split <;> omega
  unfold wb
  rw [List.length_map]
  have := key l []
  simpa [wordsL] using this
/-- what Words answers -/
def WordsPost (w : World) (us : List ByteArray) (e : Ending) (w' : World) : Prop :=
  ∃ A : Nat, e = .returned (.slice (some ⟨A, 0, none⟩) us.length us.length) ∧ w'.ownsRow w.heap.size 9 1 (.slice (some ⟨A, 0, none⟩) us.length us.length) us.length (strsV us) ∧ NL w' (some ⟨A, 0, none⟩) us.length us.length us ∧ Below w.heap.size w w'
theorem Words_ok (s : ByteArray) (w : World) (hs : s.size ≤ 1048576) :
    Calls Tryz.prog 66 #[.string s] w (WordsPost w (wb s.data.toList)) := by
  have hF := Tryz.strings_FieldsFunc 103 #[] (enters_of Tryz.func103 (by kernel_rfl) rfl) pblk s w (by omega) (blank_pays w)
  rw [fields_wb] at hF
  have hsz : ∀ x ∈ wb s.data.toList, x.size ≤ 4611686018427387904 := fun x hx => by
    have := wb_size _ x hx
    rw [← Lib.size_eq] at this
    omega
  have hln := wb_len s.data.toList
  rw [← Lib.size_eq] at hln
  have HSZ := Lib.hid hsz
  have HF := Lib.hid hF
  clear hF hsz
  generalize wb s.data.toList = us at *
  go_enter Tryz.func66, Tryz.ntmps66
  go_wp2_with (go_at_call 102; refine HF.out.mono ?_; rintro e w1 ⟨g, rfl, _, hown, hb⟩; have HO := Lib.hid hown; have HB := Lib.hid hb; clear hown hb)
  go_ret
  exact ⟨g, rfl, HO.out, NL_own HO.out HSZ.out (by omega), HB.out⟩
end Go.Proofs.YtoiolepengcagaaGreatDoor
namespace Go.Proofs.YtoiolepengcagaaGreatDoor
open Go.RowKit Go.Shelf
/-- a rule in memory -/
def RuleIn (w : World) (v : Value) (T N : List ByteArray) : Prop :=
  ∃ p n c q m d, v = .agg #[.slice p n c, .slice q m d] ∧ NL w p n c T ∧ NL w q m d N ∧ n ≤ c ∧ m ≤ d
theorem RuleIn.below {w w' : World} {v : Value} {T N : List ByteArray} (h : RuleIn w v T N) (hb : Below w.heap.size w w') : RuleIn w' v T N := by
  obtain ⟨p, n, c, q, m, d, e, h1, h2, h3, h4⟩ := h
  exact ⟨p, n, c, q, m, d, e, h1.below hb, h2.below hb, h3, h4⟩
theorem NL_none (w : World) : NL w none 0 0 [] :=
  ⟨⟨rfl, Reads.none_, fun s hs => (by cases hs), by omega⟩, fun _ => rfl, fun ad h => (by cases h), by omega⟩
def nilRule : Value := .agg #[.slice none 0 0, .slice none 0 0]
theorem nil_rule (w : World) : RuleIn w nilRule [] [] := ⟨none, 0, 0, none, 0, 0, rfl, NL_none w, NL_none w, Nat.le_refl _, Nat.le_refl _⟩
def threeP (p q g : Option Addr) (n c m d k e : Nat) (T M N : List ByteArray) : List CPart := [⟨p, n, c, T⟩, ⟨g, k, e, M⟩, ⟨q, m, d, N⟩]
theorem cat_three (p q g : Option Addr) (n c m d k e : Nat) (T M N : List ByteArray) : catN (threeP p q g n c m d k e T M N) (threeP p q g n c m d k e T M N).length = T ++ M ++ N := by
  unfold catN threeP
  simp
theorem concat_three {w : World} {B : Nat} {p q g : Option Addr} {n c m d k e : Nat} {T M N : List ByteArray} (h1 : NL w p n c T) (h3 : NL w g k e M) (h2 : NL w q m d N) (hsum : n + k + m ≤ 8796093022208)
    (c1 : w.cell? ⟨B, 0, none⟩ = some (.slice p n c)) (c2 : w.cell? ⟨B, 1, none⟩ = some (.slice g k e)) (c3 : w.cell? ⟨B, 2, none⟩ = some (.slice q m d)) (hB : B < w.heap.size) :
    Calls Tryz.prog 11 #[.slice (some ⟨B, 0, none⟩) 3 3] w (CatPost w (T ++ M ++ N)) := by
  have l1 := h1.at_.len
  have l2 := h2.at_.len
  have l3 := h3.at_.len
  subst l1 l2 l3
  have hP : CParts w B (threeP p q g T.length c N.length d M.length e T M N) := by
    refine ⟨fun k hk => ?_, fun k hk => ?_⟩
    · match k, hk with
      | 0, _ => exact h1.weak
      | 1, _ => exact h3.weak
      | 2, _ => exact h2.weak
    · match k, hk with
      | 0, _ => exact c1
      | 1, _ => exact c2
      | 2, _ => exact c3
  have := concatN_ok B _ w (by unfold threeP; simp) hP (by rw [cat_three, List.length_append, List.length_append]; omega) hB
  rw [cat_three] at this
  exact this
theorem join_own {w : World} {base : Nat} {g : Option Addr} {c : Nat} {us : List ByteArray} (h : w.ownsRow base 9 1 (.slice g us.length c) us.length (strsV us)) (h0 : 0 < us.length) (sep : ByteArray)
    (hn : us.length ≤ 140737488355328) (hlen : (Lib.join (us.map (·.data.toList)) sep.data.toList).length ≤ 140737488355328) :
    Calls Tryz.prog 81 #[.slice g us.length c, .string sep] w fun e w' => e = .returned (.string ⟨(Lib.join (us.map (·.data.toList)) sep.data.toList).toArray⟩) ∧ Below w.heap.size w w' := by
  rcases h.2 with ⟨e1, e2⟩ | ⟨b, cap, cur, e1, hbg, hg, hnc, hcm, hcs, htake⟩
  · omega
  · injection e1 with e1 e3 e4
    subst e1 e4
    have hcell := h.cells (g := b) rfl
    refine Tryz.strings_Join b 0 c us sep w (fun j x hx => ?_) (World.block_lt_of_cell? w _ (hcell 0 _ (by unfold strsV; rw [List.getElem?_map, List.getElem?_eq_getElem h0]; rfl))) hn (by omega) hlen
    have := hcell j (.string x) (by unfold strsV; rw [List.getElem?_map, hx]; rfl)
    rw [Addr.add_lit] at this
    exact this
theorem NL_one (w : World) (x : ByteArray) (hx : x.size ≤ 4611686018427387904) : NL (w.alloc (.cells #[.string x] 9)) (some ⟨w.heap.size, 0, none⟩) 1 1 [x] := by
  refine ⟨⟨rfl, ⟨rfl, fun _ => ⟨⟨w.heap.size, 0, none⟩, rfl, by simp, fun j u hu => ?_⟩⟩, fun s hs => ?_, by omega⟩, fun h => (by cases h), fun ad h => ?_, by omega⟩
  · match j, hu with
    | 0, hu =>
      simp [strsV] at hu
      subst hu
      rw [Addr.add_lit, World.cell?_alloc_at _ _ _ _ rfl]; rfl
  · have : s = x := by simpa using hs
    subst this; exact hx
  · injection h with h
    subst h
    exact ⟨_, _, rfl, by simp⟩
def rus (T N : List ByteArray) : List ByteArray := T ++ [(⟨#[58]⟩ : ByteArray)] ++ N
theorem rus_len (T N : List ByteArray) : (rus T N).length = T.length + 1 + N.length := by unfold rus; simp; omega
theorem print_cat (p q : Option Addr) (c d : Nat) (T N : List ByteArray) (w : World) (h1 : NL w p T.length c T) (h2 : NL w q N.length d N) (hT : T.length ≤ 20) (hN : N.length ≤ 20) :
    Calls Tryz.prog 11 #[.slice (some ⟨w.heap.size + 1, 0, none⟩) 3 3] ((w.alloc (.cells #[.string ⟨#[58]⟩] 9)).alloc (.cells #[.slice p T.length c, .slice (some ⟨w.heap.size, 0, none⟩) 1 1, .slice q N.length d] 23))
      fun e w' => ∃ g cg b, e = .returned (.slice g (rus T N).length cg) ∧ w'.ownsRow b 9 1 (.slice g (rus T N).length cg) (rus T N).length (strsV (rus T N)) ∧ Below w.heap.size w w' := by
  have hb1 : Below w.heap.size w (w.alloc (.cells #[.string ⟨#[58]⟩] 9)) := (Below.refl _ _).alloc (Nat.le_refl _) _
  have hs1 : (w.alloc (.cells #[.string ⟨#[58]⟩] 9)).heap.size = w.heap.size + 1 := by simp
  obtain ⟨o, ho⟩ : ∃ o, o = Obj.cells #[.slice p T.length c, .slice (some ⟨w.heap.size, 0, none⟩) 1 1, .slice q N.length d] 23 := ⟨_, rfl⟩
  have hb2 : Below w.heap.size w ((w.alloc (.cells #[.string ⟨#[58]⟩] 9)).alloc o) := hb1.alloc (by omega) _
  have hb12 : Below (w.heap.size + 1) (w.alloc (.cells #[.string ⟨#[58]⟩] 9)) ((w.alloc (.cells #[.string ⟨#[58]⟩] 9)).alloc o) := (Below.refl _ _).alloc (by omega) _
  have hm := NL_one w ⟨#[58]⟩ (by decide)
  rw [← hs1] at hb12
  have hm2 := hm.below hb12
  rw [← ho]
  have key := concat_three (w := (w.alloc (.cells #[.string ⟨#[58]⟩] 9)).alloc o) (B := w.heap.size + 1) (h1.below hb2) hm2 (h2.below hb2) (by omega)
    (by rw [ho, World.cell?_alloc_at _ _ _ _ (by simp)]; rfl) (by rw [ho, World.cell?_alloc_at _ _ _ _ (by simp)]; rfl) (by rw [ho, World.cell?_alloc_at _ _ _ _ (by simp)]; rfl) (by simp)
  refine key.mono ?_
  rintro e w' ⟨g, cg, e1, h3, h4⟩
  exact ⟨g, cg, _, e1, h3, hb2.trans (h4.mono hb2.size)⟩
theorem print_join {w : World} {base : Nat} {g : Option Addr} {c : Nat} {T N : List ByteArray} (h : w.ownsRow base 9 1 (.slice g (rus T N).length c) (rus T N).length (strsV (rus T N))) (hok : RuleOk T N) :
    Calls Tryz.prog 81 #[.slice g (rus T N).length c, .string ⟨#[32]⟩] w fun e w' => e = .returned (.string (txt (ruleT T N))) ∧ Below w.heap.size w w' := by
  have hl := rus_len T N
  have hf := hok.few
  have ht := ruleT_len hok
  exact join_own h (by omega) ⟨#[32]⟩ (by omega) (by show (ruleT T N).length ≤ _; omega)
end Go.Proofs.YtoiolepengcagaaGreatDoor
namespace Go.Proofs.YtoiolepengcagaaGreatDoor
open Go.RowKit
theorem rb_new (w : World) (o : Obj) : (w.alloc o).heap[w.heap.size]? = some o := by
  show (w.heap.push o)[w.heap.size]? = some o
  simp
theorem rb_old (w : World) (o : Obj) (i : Nat) (h : i < w.heap.size) : (w.alloc o).heap[i]? = w.heap[i]? := by
  show (w.heap.push o)[i]? = w.heap[i]?
  rw [Array.getElem?_push, if_neg (Nat.ne_of_lt h)]
/-- a block that was laid ahead of calls, and of one block more -/
theorem rb_far {w w3 w4 : World} {o o3 : Obj} (h3 : Below (w.alloc o).heap.size (w.alloc o) w3) (h4 : Below (w3.alloc o3).heap.size (w3.alloc o3) w4) : w4.heap[w.heap.size]? = some o ∧ w4.heap[w3.heap.size]? = some o3 := by
  have e : (w.alloc o).heap.size = w.heap.size + 1 := by simp
  have e3 : (w3.alloc o3).heap.size = w3.heap.size + 1 := by simp
  have hlt := h3.size
  refine ⟨?_, ?_⟩
  · rw [h4.block _ (by omega), rb_old _ _ _ (by omega), h3.block _ (by omega), rb_new]
  · rw [h4.block _ (by omega), rb_new]
theorem rb_cells {w : World} {b : Nat} {t : TypeId} {v0 v1 : Value} (h : w.heap[b]? = some (.cells #[v0, v1] t (0, 0))) :
    w.cell? ⟨b, 0, none⟩ = some v0 ∧ w.cell? ⟨b, 1, none⟩ = some v1 ∧ ∀ o, w.frozen? ⟨b, o, none⟩ = false := by
  refine ⟨?_, ?_, fun o => ?_⟩
  all_goals simp [World.cell?, World.frozen?, h]
theorem rb_all {w : World} {b : Nat} {t : TypeId} {v0 v1 : Value} (h : w.heap[b]? = some (.cells #[v0, v1] t (0, 0))) (u0 u1 : Value) :
    ((w.setCell ⟨b, 0, none⟩ u0).setCell ⟨b, 1, none⟩ u1).heap[b]? = some (.cells #[u0, u1] t (0, 0)) := by
  simp only [Go.Sort.setCell_eq]
  simp [Go.Sort.mapBlock, Go.Sort.onCells, Array.getElem?_modify, h]
theorem rb_below {B b : Nat} {w w' : World} (h : Below B w w') (hb : B ≤ b) (u0 u1 : Value) : Below B w ((w'.setCell ⟨b, 0, none⟩ u0).setCell ⟨b, 1, none⟩ u1) := (h.setCell hb _).setCell hb _
theorem rb_ct {P : Program} {fn : Func} {p u : Tmp} {ty : TypeId} (h : fn.results = #[.cell p ty, .tmp u]) (tmps : Array Value) (w : World) (g : Nat) (t : TypeId) (cs : Array Value) (fr : Nat × Nat) (d : TypeDesc) (x : Value)
    (hp : tmps.getD p undef = .pointer (some ⟨g, 0, none⟩)) (hx : tmps.getD u undef = x) (hg : w.heap[g]? = some (.cells cs t fr))
    (hu : P.underlying ty = some d) (hd : (match d with | .struct _ | .array _ _ => true | _ => false) = true) (hi : (P.info? ty).map (·.size) = some cs.size) :
    (results fn tmps).run P w = .ok (.tuple #[.agg cs, x]) w := by
  have hp' : tmps[p]?.getD undef = .pointer (some ⟨g, 0, none⟩) := by simpa using hp
  have hx' : tmps[u]?.getD undef = x := by simpa using hx
  rw [results_cell_tmp h]
  simp [hp', hx', asAddr, run_loadVar_row w g t ty cs fr d hg hu hd hi, Result.andThen]
end Go.Proofs.YtoiolepengcagaaGreatDoor
namespace Go.Proofs.YtoiolepengcagaaGreatDoor
open Go.RowKit Go.Shelf
def parseT (s : Bs) : List ByteArray := wb (s.take (Lib.indexByte s 58).toNat)
def parseN (s : Bs) : List ByteArray := wb (s.drop ((Lib.indexByte s 58).toNat + 1))
def parseE (s : Bs) : Int := if Lib.indexByte s 58 < 0 then 3 else ruleE (parseT s) (parseN s)
theorem wb_trm (s : ByteArray) : wb (trm s).data.toList = wb s.data.toList := by
  unfold wb trm
  rw [txt_list, words_trim]
/-- what Parse answers -/
def ParsePost (w : World) (s : Bs) (e : Ending) (w' : World) : Prop :=
  (∃ v, e = .returned (.tuple #[v, .int .i64 (parseE s)]) ∧ ((parseE s ≠ 0 ∧ v = nilRule) ∨ (parseE s = 0 ∧ RuleIn w' v (parseT s) (parseN s)))) ∧ Below w.heap.size w w'
theorem trm_size (s : ByteArray) : (trm s).size ≤ s.size := by
  unfold trm
  rw [txt_size, Lib.size_eq]
  unfold Lib.trimS Lib.trimLeftS Lib.trimRightS
  have h : ∀ (p : UInt8 → Bool) (l : Bs), (l.dropWhile p).length ≤ l.length := fun p l => by
    obtain ⟨u, e, _⟩ := dropWhile_split p l
    have := congrArg List.length e
    rw [List.length_append] at this
    omega
  refine Nat.le_trans (h _ _) ?_
  rw [List.length_reverse]
  refine Nat.le_trans (h _ _) ?_
  rw [List.length_reverse]
  exact Nat.le_refl _
theorem cell_other (w : World) (b j : Nat) (u : Value) {k o : Nat} (h : k ≠ b) : (w.setCell ⟨b, j, none⟩ u).cell? ⟨k, o, none⟩ = w.cell? ⟨k, o, none⟩ := by
  have := heap_setCell_other w ⟨b, j, none⟩ k u h
  simp only [World.cell?, this]
theorem NL_move {w w' : World} {g n c : Nat} {zs : List ByteArray} (h : NL w (some ⟨g, 0, none⟩) n c zs) (hc : ∀ o, w'.cell? ⟨g, o, none⟩ = w.cell? ⟨g, o, none⟩) (hg : g < w'.heap.size) : NL w' (some ⟨g, 0, none⟩) n c zs := by
  refine ⟨⟨h.at_.len, ⟨h.at_.reads.1, fun h0 => ?_⟩, h.at_.size, h.at_.big⟩, h.nil, fun ad e => ?_, h.reach⟩
  · obtain ⟨ad, e, _, hcell⟩ := h.at_.reads.2 h0
    injection e with e
    subst e
    refine ⟨_, rfl, hg, fun j u hu => ?_⟩
    have := hcell j u hu
    rw [Addr.add_lit] at this ⊢
    rw [hc]; exact this
  · injection e with e
    subst e
    exact ⟨g, 0, rfl, hg⟩
theorem index_lt {l : Bs} {c : UInt8} {k : Nat} (h : Lib.indexByte l c = k) : k < l.length := by
  induction l generalizing k with
  | nil => simp [Lib.indexByte] at h
  | cons b l ih =>
    unfold Lib.indexByte at h
    rw [List.length_cons]
    split at h
    · omega
    · split at h
      · omega
      · cases k with
        | zero => omega
        | succ k => have := ih (k := k) (by omega); omega
set_option maxHeartbeats 4000000 in
theorem ParseR_ok (s : ByteArray) (w : World) (hs : s.size ≤ 1048576) : Calls Tryz.prog 42 #[.string s] w (ParsePost w s.data.toList) := by
  have HB0 : Hid (∀ o, Below w.heap.size w (w.alloc o)) := fun o => (Below.refl _ _).alloc (Nat.le_refl _) _
  have hz0 : (w.alloc (.cells #[.slice none 0 0, .slice none 0 0] 61)).heap[w.heap.size]? = some (.cells #[.slice none 0 0, .slice none 0 0] 61 (0, 0)) := rb_new w _
  have HZ0 := Lib.hid hz0
  clear hz0
  rcases Int.lt_or_le (Lib.indexByte s.data.toList 58) 0 with hi | hi
  · have hi1 : Lib.indexByte s.data.toList 58 = -1 := by have := (indexByte_ge s.data.toList 58).1; omega
    have HE : Hid (parseE s.data.toList = 3) := by show _ = _; unfold parseE; rw [if_pos hi]
    have HS := Lib.hid (fun u => Split_no s 58 u hi1)
    clear hi hi1
    go_enter Tryz.func42, Tryz.ntmps42
    go_wp2_with (go_at_call 73; refine (HS.out _).mono ?_; rintro e w1 ⟨rfl, rfl⟩)
    refine bodyPost_ret (v := .tuple #[.agg #[.slice none 0 0, .slice none 0 0], .int .i64 3]) (rb_ct Tryz.results42 _ _ w.heap.size 61 _ (0, 0) _ _ rfl rfl HZ0.out Tryz.underlying61 rfl (by kernel_rfl)) rfl ⟨⟨nilRule, by rw [HE.out]; rfl, .inl ⟨by rw [HE.out]; decide, rfl⟩⟩, HB0.out _⟩
  · obtain ⟨k, hk⟩ := Int.eq_ofNat_of_zero_le hi
    have hks : k < s.size := by have := index_lt hk; rwa [← Lib.size_eq] at this
    have hkn : (Lib.indexByte s.data.toList 58).toNat = k := by omega
    have HE : Hid (parseE s.data.toList = ruleE (parseT s.data.toList) (parseN s.data.toList)) := by show _ = _; unfold parseE; rw [if_neg (by omega)]
    have eT : wb (trm (s.extract 0 k)).data.toList = parseT s.data.toList := by rw [wb_trm]; unfold parseT; rw [hkn, Lib.extract_from_zero]
    have eN : wb (trm (s.extract (k + 1) s.size)).data.toList = parseN s.data.toList := by rw [wb_trm]; unfold parseN; rw [hkn, Lib.extract_to_end]
    have sT : (trm (s.extract 0 k)).size ≤ 1048576 := by have := trm_size (s.extract 0 k); rw [ByteArray.size_extract] at this; omega
    have sN : (trm (s.extract (k + 1) s.size)).size ≤ 1048576 := by have := trm_size (s.extract (k + 1) s.size); rw [ByteArray.size_extract] at this; omega
    have HS := Lib.hid (fun u => Split_yes s 58 u k hk hks (by omega))
    have HWT := Lib.hid (fun u => Words_ok _ u sT)
    have HWN := Lib.hid (fun u => Words_ok _ u sN)
    rw [eT] at HWT
    rw [eN] at HWN
    clear sT sN eT eN hk hkn hi
    generalize trm (s.extract 0 k) = a at *
    generalize trm (s.extract (k + 1) s.size) = b at *
    obtain ⟨T, hT⟩ : ∃ T, T = parseT s.data.toList := ⟨_, rfl⟩
    obtain ⟨N, hN⟩ : ∃ N, N = parseN s.data.toList := ⟨_, rfl⟩
    rw [← hT, ← hN] at HE
    rw [← hT] at HWT
    rw [← hN] at HWN
    have HQT := Lib.hid hT
    have HQN := Lib.hid hN
    clear hT hN
    generalize s.data.toList = sl at *
    clear hs hks
    by_cases he : ruleE T N = 0
    · have HE0 := Lib.hid he
      clear he
      go_enter Tryz.func42, Tryz.ntmps42
      go_wp2_with (first
        | (go_at_call 73; refine (HS.out _).mono ?_; rintro e w1 ⟨rfl, hb⟩; have HB1 := Lib.hid ((HB0.out _).trans (hb.mono (HB0.out _).size)); have HX1 := Lib.hid hb; clear hb)
        | (go_at_call 66; (first
            | (have hq := HWT.out; clear HWT; refine (hq _).mono ?_; clear hq; rintro e w2 ⟨g, rfl, hown, hnl, hb⟩; have hg := hown.lt g rfl; have HN2 := Lib.hid hnl; have HB2 := Lib.hid (HB1.out.trans (hb.mono HB1.out.size)); have HX2 := Lib.hid (HX1.out.trans (hb.mono HX1.out.size)); have HW12 := Lib.hid hb; clear hown hnl hb)
            | (refine (HWN.out _).mono ?_; rintro e w3 ⟨g3, rfl, hown, hnl, hb⟩; have hg3 := hown.lt g3 rfl; have HN3 := Lib.hid hnl; have HB3 := Lib.hid (HB2.out.trans (hb.mono HB2.out.size)); have HX3 := Lib.hid (HX2.out.trans (hb.mono HX2.out.size)); have HN23 := Lib.hid (HN2.out.below hb); clear hown hnl hb; have HC := Lib.hid (fun o => CheckR_ok (some ⟨g, 0, none⟩) (some ⟨g3, 0, none⟩) T.length T.length N.length N.length T N (w3.alloc o) (HN23.out.below ((Below.refl _ _).alloc (Nat.le_refl _) o)).weak (HN3.out.below ((Below.refl _ _).alloc (Nat.le_refl _) o)).weak (Nat.le_refl _) (Nat.le_refl _)))))
        | (go_at_call 77; refine (HC.out _).mono ?_; rw [HE0.out]; rintro e w4 ⟨rfl, hb⟩; have HB4 := Lib.hid hb; obtain ⟨hz, hy⟩ := rb_far HX3.out hb; obtain ⟨c1, c2, c3⟩ := rb_cells hz; obtain ⟨d1, d2, d3⟩ := rb_cells hy; have HZ4 := Lib.hid hz; have hlt := HB3.out.size; clear hb hz hy d3))
      go_wp2
      refine bodyPost_ret (v := .tuple #[.agg #[.slice (some ⟨g, 0, none⟩) T.length T.length, .slice (some ⟨g3, 0, none⟩) N.length N.length], .int .i64 0]) (rb_ct Tryz.results42 _ _ w.heap.size 61 _ (0, 0) _ _ rfl rfl (rb_all HZ4.out _ _) Tryz.underlying61 rfl (by kernel_rfl)) rfl ?_
      have hb4 : Below w3.heap.size w3 w4 := ((Below.refl _ _).alloc (Nat.le_refl _) _).trans (HB4.out.mono (by simp))
      have hb5 : Below w.heap.size w w4 := HB3.out.trans (hb4.mono HB3.out.size)
      have hz1 := HX1.out.size
      simp only [World.size_alloc] at hz1
      have hz2 := HW12.out.size
      have hz3 := HX3.out.size
      have hz4 := hb4.size
      have hq : ∀ k o, k ≠ w.heap.size → k < w3.heap.size → ((w4.setCell ⟨w.heap.size, 0, none⟩ (.slice (some ⟨g, 0, none⟩) T.length T.length)).setCell ⟨w.heap.size, 1, none⟩ (.slice (some ⟨g3, 0, none⟩) N.length N.length)).cell? ⟨k, o, none⟩ = w3.cell? ⟨k, o, none⟩ := fun k o hk hl => by
        rw [cell_other _ _ _ _ hk, cell_other _ _ _ _ hk]
        exact hb4.cell hl
      refine ⟨⟨_, by rw [HE.out, HE0.out], .inr ⟨by rw [HE.out]; exact HE0.out, _, _, _, _, _, _, rfl, by rw [← HQT.out]; exact NL_move HN23.out (fun o => hq g o (by omega) (by omega)) (by simp; omega), by rw [← HQN.out]; exact NL_move HN3.out (fun o => hq g3 o (by omega) (by omega)) (by simp; omega), Nat.le_refl _, Nat.le_refl _⟩⟩, rb_below hb5 (Nat.le_refl _) _ _⟩
    · obtain ⟨E, hE⟩ : ∃ E, E = ruleE T N := ⟨_, rfl⟩
      rw [← hE] at he HE
      obtain ⟨i1, i2⟩ := int_ne' he
      have HNE := Lib.hid he
      have HEE := Lib.hid hE
      clear he hE
      go_enter Tryz.func42, Tryz.ntmps42
      go_wp2_with (first
        | (go_at_call 73; refine (HS.out _).mono ?_; rintro e w1 ⟨rfl, hb⟩; have HB1 := Lib.hid ((HB0.out _).trans (hb.mono (HB0.out _).size)); have HX1 := Lib.hid hb; clear hb)
        | (go_at_call 66; (first
            | (have hq := HWT.out; clear HWT; refine (hq _).mono ?_; clear hq; rintro e w2 ⟨g, rfl, hown, hnl, hb⟩; have hg := hown.lt g rfl; have HN2 := Lib.hid hnl; have HB2 := Lib.hid (HB1.out.trans (hb.mono HB1.out.size)); have HX2 := Lib.hid (HX1.out.trans (hb.mono HX1.out.size)); have HW12 := Lib.hid hb; clear hown hnl hb)
            | (refine (HWN.out _).mono ?_; rintro e w3 ⟨g3, rfl, hown, hnl, hb⟩; have hg3 := hown.lt g3 rfl; have HN3 := Lib.hid hnl; have HB3 := Lib.hid (HB2.out.trans (hb.mono HB2.out.size)); have HX3 := Lib.hid (HX2.out.trans (hb.mono HX2.out.size)); have HN23 := Lib.hid (HN2.out.below hb); clear hown hnl hb; have HC := Lib.hid (fun o => CheckR_ok (some ⟨g, 0, none⟩) (some ⟨g3, 0, none⟩) T.length T.length N.length N.length T N (w3.alloc o) (HN23.out.below ((Below.refl _ _).alloc (Nat.le_refl _) o)).weak (HN3.out.below ((Below.refl _ _).alloc (Nat.le_refl _) o)).weak (Nat.le_refl _) (Nat.le_refl _)))))
        | (go_at_call 77; refine (HC.out _).mono ?_; rw [← HEE.out]; rintro e w4 ⟨rfl, hb⟩; have HB4 := Lib.hid hb; obtain ⟨hz, hy⟩ := rb_far HX3.out hb; obtain ⟨c1, c2, c3⟩ := rb_cells hz; obtain ⟨d1, d2, d3⟩ := rb_cells hy; have HZ4 := Lib.hid hz; have hlt := HB3.out.size; clear hb hz hy d3))
      go_wp2
      refine bodyPost_ret (v := .tuple #[.agg #[.slice none 0 0, .slice none 0 0], .int .i64 E]) (rb_ct Tryz.results42 _ _ w.heap.size 61 _ (0, 0) _ _ rfl rfl (rb_all HZ4.out _ _) Tryz.underlying61 rfl (by kernel_rfl)) rfl ⟨⟨nilRule, by rw [HE.out]; rfl, .inl ⟨by rw [HE.out]; exact HNE.out, rfl⟩⟩, ?_⟩
      have hb4 : Below w3.heap.size w3 w4 := ((Below.refl _ _).alloc (Nat.le_refl _) _).trans (HB4.out.mono (by simp))
      exact rb_below (HB3.out.trans (hb4.mono HB3.out.size)) (Nat.le_refl _) _ _
end Go.Proofs.YtoiolepengcagaaGreatDoor
