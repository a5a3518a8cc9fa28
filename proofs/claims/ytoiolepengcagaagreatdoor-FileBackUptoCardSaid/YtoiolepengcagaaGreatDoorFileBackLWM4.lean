/- Texts joined: MacroLW, MacroRW, MacroXW, InferP, FileP, RuneW. Conditions: theirs. -/
import Derived.Test.YtoiolepengcagaaGreatDoorFileBackLWM3
import Derived.Laws.IdiomRangeMap
import Derived.Maps.RangeWalk
import Derived.Sort.KeysCollected
import Derived.Test.YtoiolepengcagaaGreatDoorNameW
import Derived.Lib.SlicesS
import Derived.Lib.IndexAny
import Derived.Test.YtoiolepengcagaaGreatDoorFileBackLWM1
import Derived.Lib.Split
import Derived.Test.YtoiolepengcagaaGreatDoorShelf
import Derived.Laws.RangeAny
import Derived.Laws.Runes
import Derived.Deep.QuietTactic
import Derived.WalkMore
import Derived.BigQuiet
import Derived.Deep.LoopGhost
import Derived.Test.YtoiolepengcagaaGreatDoorStr
namespace Go.Proofs.YtoiolepengcagaaGreatDoor
open Go.RowKit Go.Shelf Go.Maps
theorem loop1_at {l : List Mac} {k : Nat} {m : Mac} (h : l[k]? = some m) (seen : List Bs) : loop1 okM seen (l.drop k) = if okM m.1 = false ∨ (prs okM m.2).2 = false then 3 else if m.1 ∈ seen then 6 else loop1 okM (m.1 :: seen) (l.drop (k + 1)) := by
  obtain ⟨hk, e⟩ := List.getElem?_eq_some_iff.1 h
  rw [List.drop_eq_getElem_cons hk, e, loop1]
theorem take_snoc {α : Type} {l : List α} {k : Nat} {m : α} (h : l[k]? = some m) : l.take (k + 1) = l.take k ++ [m] := by rw [List.take_add_one, h]; rfl
theorem tabE_1 {l : List Mac} (h : ¬ 40 < l.length) (h1 : loop1 okM [] l ≠ 0) : tabE okM l = loop1 okM [] l := by unfold tabE; rw [if_neg h, if_pos h1]
theorem tabE_5 {l : List Mac} (h : ¬ 40 < l.length) (h1 : loop1 okM [] l = 0) (h2 : Lacks okM l) : tabE okM l = 5 := by unfold tabE; rw [if_neg h, if_neg (by rw [h1]; decide), if_pos h2]
theorem tabE_8 {l : List Mac} (h : ¬ 40 < l.length) (h1 : loop1 okM [] l = 0) (h2 : ¬ Lacks okM l) (h3 : Rings okM l) : tabE okM l = 8 := by unfold tabE; rw [if_neg h, if_neg (by rw [h1]; decide), if_neg h2, if_pos h3]
theorem okM_bad {n : Bs} (h : okM n = false) : nameE (txt n) = 3 := by
  rcases nameE_cases (txt n) with h1 | h1
  · unfold okM at h; rw [h1] at h; cases h
  · exact h1
theorem okM_good {n : Bs} (h : okM n = true) : nameE (txt n) = 0 := by unfold okM at h; simpa using h
theorem prsF_call {f : Nat} : ∀ {s u : Bs}, Tok.c u ∈ (prsF okM f s).1 → okM u = true := by
  induction f with
  | zero => intro s u h; simp [prsF] at h
  | succ f ih =>
    intro s u h
    rw [prsF] at h
    split at h
    · simp at h
    · simp at h
    · split at h
      · simp only [List.mem_cons, reduceCtorEq, false_or] at h; exact ih h
      · split at h
        · split at h
          · simp at h
          · rename_i n r' _
            split at h
            · rename_i hok
              simp only [List.mem_cons, reduceCtorEq, false_or] at h
              rcases h with h | h
              · injection h with h; rw [h]; exact hok
              · exact ih h
            · simp at h
        · simp at h
theorem prs_ok_call {s u : Bs} (h : u ∈ callsOf (prs okM s).1) : okM u = true := prsF_call (callsOf_mem.1 h)
set_option maxHeartbeats 8000000 in
set_option maxRecDepth 100000 in
theorem newTable_ok (p : Option Addr) (n c : Nat) (l : List Mac) (w : World) (hR : MacsIn w p n c l) (hM : MLm w) : Calls Tryz.prog 107 #[.slice p n c] w (NewPost w l) := by
  have hl := hR.at_.len
  subst hl
  have hgl : 0 < w.heap.size := by obtain ⟨q, hq⟩ := hM; exact World.block_lt_of_cell? w _ hq
  have HN := Lib.hid (fun u (hu : Below w.heap.size w u) => hR.at_.below hu)
  have HMB := Lib.hid (fun u (hu : Below w.heap.size w u) => hM.below hu)
  have HSM := Lib.hid hR.small
  clear hR hM
  by_cases h40 : 40 < l.length
  · have HE : Hid (tabE okM l = 2) := by show _ = _; unfold tabE; rw [if_pos h40]
    have h40i : (40 : Int) < (l.length : Int) := by omega
    go_enter Tryz.func107, Tryz.ntmps107
    go_wp2
    go_ret2
    exact ⟨⟨.map none, by rw [HE.out]; rfl, .inl ⟨by rw [HE.out]; decide, rfl⟩⟩, Below.refl _ _⟩
  have h40i : ¬ (40 : Int) < (l.length : Int) := by omega
  have hmk := @run_makeMap Tryz.prog
  have HTM := Lib.hid (TabW.made w w.heap.size)
  have HW1 : Hid (Below w.heap.size w (w.alloc (.map #[] 0))) := mb1 w _
  go_enter Tryz.func107, Tryz.ntmps107
  go_wp2
  go_loopw [21] (fun i wr => ∃ (j : Nat) (eb : Bs → Nat) (uv : Bs → Value), j ≤ l.length ∧ i = .int .i64 j ∧ Hid (Below w.heap.size w wr) ∧ Hid (TabW wr w.heap.size w.heap.size (l.take j) eb uv (fun _ => 0)) ∧
    Hid (loop1 okM [] l = loop1 okM (namesM (l.take j)).reverse (l.drop j))) (fun i _ => l.length - (intOf i).toNat)
  case atStart => exact ⟨0, _, _, Nat.zero_le _, rfl, HW1, HTM, rfl⟩
  case round =>
    obtain ⟨j, eb, uv, hj, rfl, HB, HT, HL1⟩ := hrel
    by_cases hlt : j < l.length
    · have hel := List.getElem?_eq_getElem hlt
      obtain ⟨b, o, rfl, hb, c1, c2⟩ := (HN.out _ HB.out).cell hel
      have hsm := HSM.out _ (List.getElem_mem hlt)
      have HL2 := HL1.out
      rw [loop1_at hel] at HL2
      have HL3 := Lib.hid HL2
      have HTK := Lib.hid (take_snoc hel)
      rw [← Nat.add_assoc] at c2
      clear hel HL2
      generalize l[j] = m at *
      obtain ⟨m1, m2⟩ := m
      simp only [mF, mG] at c1 c2 hsm HL3 HTK
      have hji : (j : Int) < (l.length : Int) := by omega
      obtain ⟨W0, hW0⟩ : ∃ W0, W0 = wr.alloc (.cells #[.string (txt m1), .string (txt m2)] 86) := ⟨_, rfl⟩
      have hb0 : Below wr.heap.size wr W0 := by rw [hW0]; exact mb1 wr _
      have k1 : W0.cell? ⟨wr.heap.size, 0, none⟩ = some (.string (txt m1)) := by rw [hW0, World.cell?_alloc_at _ _ _ _ rfl]; rfl
      have k2 : W0.cell? ⟨wr.heap.size, 1, none⟩ = some (.string (txt m2)) := by rw [hW0, World.cell?_alloc_at _ _ _ _ rfl]; rfl
      have hs0 : wr.heap.size < W0.heap.size := by rw [hW0]; simp
      have HB0 : Hid (Below w.heap.size w W0) := HB.out.trans (hb0.mono HB.out.size)
      have HT0 := Lib.hid (HT.out.below hb0)
      have HU := Lib.hid (Uses_ok m2 hsm.2 W0 (HMB.out _ HB0.out))
      have HCK := Lib.hid (CheckN_ok (txt m1) (by rw [txt_size]; omega))
      have hwr0 := HB.out.size
      clear hb0 HT
      by_cases hok : okM m1 = true ∧ (prs okM m2).2 = true
      · obtain ⟨hok1, hok2⟩ := hok
        have HNE := Lib.hid (okM_good hok1)
        have HU2 : Hid (Calls Tryz.prog 75 #[.string (txt m2)] W0 fun e w' => (∃ v, e = .returned (.tuple #[v, .int .i64 0]) ∧ w'.ownsRow W0.heap.size 9 1 v (usesM (prs okM m2).1).length (strsV (usesM (prs okM m2).1))) ∧ Below W0.heap.size W0 w') := by
          show Calls _ _ _ _ _
          refine HU.out.mono ?_
          rintro e w' ⟨⟨v, rfl, hv⟩, hb⟩
          have hue : usesE m2 = 0 := by unfold usesE; rw [if_pos hok2]
          rw [hue] at hv ⊢
          exact ⟨⟨v, rfl, (hv.resolve_right (fun h => absurd rfl h.1)).2⟩, hb⟩
        clear HU
        have hxm : (txt m1).size ≤ maxLen := by have := okM_few hok1; rw [txt_size]; unfold maxLen; omega
        have HL4 : Hid (loop1 okM [] l = if m1 ∈ (namesM (l.take j)).reverse then 6 else loop1 okM (m1 :: (namesM (l.take j)).reverse) (l.drop (j + 1))) := by
          show _ = _
          rw [HL3.out, if_neg]
          rw [hok1, hok2]
          simp
        by_cases hin : m1 ∈ namesM (l.take j)
        · have HE : Hid (tabE okM l = 6) := by
            show _ = _
            have h6 : loop1 okM [] l = 6 := by rw [HL4.out, if_pos (List.mem_reverse.2 hin)]
            rw [tabE_1 h40 (by rw [h6]; decide), h6]
          have HIN := Lib.hid hin
          clear hok1 hok2 hin
          go_upto_region 7 with fail
          rw [← hW0]
          clear hW0
          go_wp2_with (first
            | (go_at_call 75; refine HU2.out.mono ?_; rintro e w1 ⟨⟨v, rfl, hv⟩, hb⟩; have k11 := (hb.cell (p := ⟨wr.heap.size, 0, none⟩) hs0).trans k1; obtain ⟨⟨Nn, hmp⟩, hht⟩ := (HT0.out.below hb).look HIN.out; have HMp := Lib.hid hmp; have HB1 := Lib.hid hb; clear hb hv hmp)
            | (go_at_call 28; refine (HCK.out _).mono ?_; rw [HNE.out]; rintro e w2 ⟨rfl, rfl⟩)
            | (at_lookup; refine look_p _ rfl _ _ rfl rfl HMp.out (txt m1) rfl hxm ?_; rw [hht]))
          go_ret2
          exact ⟨⟨.map none, by rw [HE.out]; rfl, .inl ⟨by rw [HE.out]; decide, rfl⟩⟩, HB0.out.trans (HB1.out.mono HB0.out.size)⟩
        · have HNI := Lib.hid hin
          have HL5 : Hid (loop1 okM [] l = loop1 okM (namesM (l.take (j + 1))).reverse (l.drop (j + 1))) := by
            show _ = _
            rw [HL4.out, if_neg (fun h => hin (List.mem_reverse.1 h)), HTK.out, namesM_snoc, List.reverse_append]
            rfl
          have hht : ptrAt (namesM (l.take j)) eb (txt m1).data.toList = nilP := by rw [txt_list]; unfold ptrAt; rw [if_neg hin]
          have hnil : nilP = .pointer none := rfl
          clear hok1 hok2 hin
          go_upto_region 7 with fail
          rw [← hW0]
          clear hW0
          go_upto_region 12 with (first
            | (go_at_call 75; refine HU2.out.mono ?_; rintro e w1 ⟨⟨v, rfl, hv⟩, hb⟩; have k11 := (hb.cell (p := ⟨wr.heap.size, 0, none⟩) hs0).trans k1; have k12 := (hb.cell (p := ⟨wr.heap.size, 1, none⟩) hs0).trans k2; have ht1 := HT0.out.below hb; obtain ⟨Nn, hmp, hnn⟩ := ht1.map; have HMp := Lib.hid hmp; have HT1 := Lib.hid ht1; have HB1 := Lib.hid hb; obtain ⟨gv, cv, rfl⟩ := mown_form hv; have HV := Lib.hid hv; clear hb hv hmp ht1)
            | (go_at_call 28; refine (HCK.out _).mono ?_; rw [HNE.out]; rintro e w2 ⟨rfl, rfl⟩)
            | (at_lookup; refine look_p _ rfl _ _ rfl rfl HMp.out (txt m1) rfl hxm ?_; rw [hht, hnil]))
          have HMA : Hid (∀ o, MapP (w1.alloc o) w.heap.size Nn (namesM (l.take j)) (ptrAt (namesM (l.take j)) eb)) := fun o => HMp.out.kept (World.grownBy_alloc _ _ none) (by simp)
          have hnl : Nn ≤ j := by rw [List.length_take] at hnn; omega
          have hnm : Nn < maxLen := by unfold maxLen; omega
          go_wp2_with (at_mapUpdate; refine store_p _ rfl _ _ _ rfl rfl (HMA.out _) hnm (txt m1) rfl hxm _ rfl ?_; intro w5 h1 h2; have HM5 := Lib.hid h1; have HG5 := Lib.hid h2; clear h1 h2)
          go_roundw
          case rel =>
            refine ⟨j + 1, updM eb m1 w1.heap.size, updM uv m1 (.slice gv (usesM (prs okM m2).1).length cv), by omega, by go_num, ?_, ?_, HL5⟩
            · have h1 := HB0.out.trans (HB1.out.mono HB0.out.size)
              exact (h1.alloc h1.size _).grown HG5.out (by have := (h1.alloc h1.size (.cells (entC m2 (.slice gv (usesM (prs okM m2).1).length cv) 0 none) 141)).size; exact this) (fun k hk => by cases hk; exact Nat.le_refl _)
            · show TabW _ _ _ _ _ _ _
              rw [HTK.out]
              have h1 := HB0.out.trans (HB1.out.mono HB0.out.size)
              refine HT1.out.more (m := (m1, m2)) HNI.out h1.size rfl (own_low HV.out HB0.out.size) HG5.out ⟨Nn + 1, ?_, by rw [List.length_take] at hnn ⊢; omega⟩
              have := HM5.out
              rw [txt_list] at this
              exact this
          case measure => simp [intOf]; omega
      · have HE : Hid (tabE okM l = 3) := by
          show _ = _
          have h3 : loop1 okM [] l = 3 := by
            rw [HL3.out, if_pos]
            by_cases h1 : okM m1 = true
            · exact .inr (by
                have : ¬ (prs okM m2).2 = true := fun h2 => hok ⟨h1, h2⟩
                simpa using this)
            · exact .inl (by simpa using h1)
          rw [tabE_1 h40 (by rw [h3]; decide), h3]
        by_cases h1 : okM m1 = true
        · have HNE := Lib.hid (okM_good h1)
          have HUE : Hid (usesE m2 = 3) := by show _ = _; unfold usesE; rw [if_neg (fun h2 => hok ⟨h1, h2⟩)]
          have HU2 : Hid (Calls Tryz.prog 75 #[.string (txt m2)] W0 fun e w' => (∃ v, e = .returned (.tuple #[v, .int .i64 3]) ∧ v = .slice none 0 0) ∧ Below W0.heap.size W0 w') := by
            show Calls _ _ _ _ _
            refine HU.out.mono ?_
            rintro e w' ⟨⟨v, rfl, hv⟩, hb⟩
            rw [HUE.out] at hv ⊢
            exact ⟨⟨v, rfl, (hv.resolve_left (fun h => absurd h.1 (by decide))).2⟩, hb⟩
          clear HU
          clear hok h1
          go_upto_region 7 with fail
          rw [← hW0]
          clear hW0
          go_wp2_with (first
            | (go_at_call 75; refine HU2.out.mono ?_; rintro e w1 ⟨⟨v, rfl, hv⟩, hb⟩; have k11 := (hb.cell (p := ⟨wr.heap.size, 0, none⟩) hs0).trans k1; have HB1 := Lib.hid hb; clear hb hv)
            | (go_at_call 28; refine (HCK.out _).mono ?_; rw [HNE.out]; rintro e w2 ⟨rfl, rfl⟩))
          go_ret2
          exact ⟨⟨.map none, by rw [HE.out]; rfl, .inl ⟨by rw [HE.out]; decide, rfl⟩⟩, HB0.out.trans (HB1.out.mono HB0.out.size)⟩
        · have HNE := Lib.hid (okM_bad (by simpa using h1))
          clear hok h1
          generalize usesE m2 = ue at *
          go_upto_region 7 with fail
          rw [← hW0]
          clear hW0
          go_wp2_with (first
            | (go_at_call 75; refine HU.out.mono ?_; rintro e w1 ⟨⟨v, rfl, hv⟩, hb⟩; have k11 := (hb.cell (p := ⟨wr.heap.size, 0, none⟩) hs0).trans k1; have HB1 := Lib.hid hb; clear hb hv)
            | (go_at_call 28; refine (HCK.out _).mono ?_; rw [HNE.out]; rintro e w2 ⟨rfl, rfl⟩))
          go_ret2
          exact ⟨⟨.map none, by rw [HE.out]; rfl, .inl ⟨by rw [HE.out]; decide, rfl⟩⟩, HB0.out.trans (HB1.out.mono HB0.out.size)⟩
    · obtain rfl : j = l.length := by omega
      have HZ : Hid (loop1 okM [] l = 0) := by show _ = _; rw [HL1.out, List.drop_length]; rfl
      rw [List.take_length] at HT
      have hz := (loop1_zero (ok := okM) l []).1 HZ.out
      have HR := Lib.hid hz.1
      have hnd := hz.2.1
      have HND := Lib.hid hnd
      clear hz HL1 hlt hj hmk HTM HW1 hnd
      have hba := HB.out.size
      generalize wr = wa at *
      go_wp2
      go_loopw [57] (fun i wr => ∃ (j : Nat), j ≤ l.length ∧ i = .int .i64 j ∧ Hid (Below wa.heap.size wa wr) ∧ Hid (∀ i m, i < j → l[i]? = some m → ∀ u ∈ callsOf (prs okM m.2).1, u ∈ namesM l)) (fun i _ => l.length - (intOf i).toNat)
      case atStart => exact ⟨0, Nat.zero_le _, rfl, Below.refl _ _, fun i m h => by omega⟩
      case round =>
        obtain ⟨j, hj, rfl, HBr, HS⟩ := hrel
        by_cases hlt : j < l.length
        · have hel := List.getElem?_eq_getElem hlt
          obtain ⟨b, o, rfl, hb, c1, c2⟩ := (HN.out _ (HB.out.trans (HBr.out.mono HB.out.size))).cell hel
          have hmem := List.getElem_mem hlt
          have HEL := Lib.hid hel
          rw [← Nat.add_assoc] at c2
          clear hel
          generalize l[j] = m at *
          obtain ⟨m1, m2⟩ := m
          have hmn : m1 ∈ namesM l := List.mem_map.2 ⟨(m1, m2), hmem, rfl⟩
          simp only [mF, mG] at c1 c2
          have hji : (j : Int) < (l.length : Int) := by omega
          have hok1 : okM m1 = true := (HR.out _ hmem).1
          have hxm : (txt m1).size ≤ maxLen := by have := okM_few hok1; rw [txt_size]; unfold maxLen; omega
          obtain ⟨W0, hW0⟩ : ∃ W0, W0 = wr.alloc (.cells #[.string (txt m1), .string (txt m2)] 86) := ⟨_, rfl⟩
          have hb0 : Below wr.heap.size wr W0 := by rw [hW0]; exact mb1 wr _
          have k1 : W0.cell? ⟨wr.heap.size, 0, none⟩ = some (.string (txt m1)) := by rw [hW0, World.cell?_alloc_at _ _ _ _ rfl]; rfl
          have HB0 : Hid (Below wa.heap.size wa W0) := HBr.out.trans (hb0.mono HBr.out.size)
          have hT0 := HT.out.below HB0.out
          obtain ⟨⟨Nn, hmp⟩, hht⟩ := hT0.look hmn
          have HMp := Lib.hid hmp
          have hent := hT0.ent _ hmem
          have hent2 : W0.heap[eb m1]? = some (.cells #[.string (txt m2), uv m1, .int .i64 0, .string (txt []), .bool false] 141 (0, 0)) := hent
          have hrow := hT0.uses _ hmem
          simp only at hrow
          obtain ⟨_, q1, _⟩ := mx5 hent2
          have HMEM := Lib.hid (fun z (hz : z ∈ usesM (prs okM m2).1) => usesM_txt hz)
          have HALL := Lib.hid (fun u (hu : u ∈ callsOf (prs okM m2).1) => usesM_mem.2 hu)
          have hul := usesM_len m2
          have hsm := (HSM.out _ hmem).2
          simp only at hsm
          have HSH : Hid (∀ u ∈ callsOf (prs okM m2).1, u ∈ namesM l ∨ u ∉ namesM l) := fun u _ => Classical.em _
          generalize hU : usesM (prs okM m2).1 = U at *
          obtain ⟨g, cv, hgc⟩ := mown_form hrow
          rw [hgc] at q1 hrow
          have HRow := Lib.hid hrow
          have HME := Lib.hid hmem
          clear hgc hrow hent hent2 hmp hT0 hb0 hmem hmn
          go_upto_region 17 with fail
          rw [← hW0]
          clear hW0
          go_wp2_with (at_lookup; refine look_p _ rfl _ _ rfl rfl HMp.out (txt m1) rfl hxm ?_; rw [hht])
          go_loopw [69] (fun i wq => ∃ (q : Nat), q ≤ U.length ∧ i = .int .i64 q ∧ wq = W0 ∧ Hid (∀ i z, i < q → U[i]? = some z → z.data.toList ∈ namesM l)) (fun i _ => U.length - (intOf i).toNat)
          case atStart => exact ⟨0, Nat.zero_le _, rfl, rfl, fun i z h => by omega⟩
          case round =>
            obtain ⟨q, hq, rfl, rfl, HQ⟩ := hrel
            by_cases hqt : q < U.length
            · have heq := List.getElem?_eq_getElem hqt
              have hrow := HRow.out
              have hg : ∃ gb, g = some ⟨gb, 0, none⟩ := by
                rcases hrow.2 with ⟨_, h⟩ | ⟨gb, cap, cur, e, _⟩
                · omega
                · injection e with e1 _ _
                  exact ⟨gb, e1⟩
              obtain ⟨gb, rfl⟩ := hg
              have hcell := hrow.cells (g := gb) rfl q (.string U[q]) (by unfold strsV; rw [List.getElem?_map, heq]; rfl)
              rw [Addr.add_lit, Nat.zero_add] at hcell
              obtain ⟨u, hzu, hu⟩ := HMEM.out U[q] (List.getElem_mem hqt)
              rw [hzu] at hcell heq
              have HEQ := Lib.hid heq
              have HUU := Lib.hid hu
              have hum : (txt u).size ≤ maxLen := by
                have h1 := HRow.out
                have := prs_ok_call hu
                have := okM_few this
                rw [txt_size]; unfold maxLen; omega
              have hqi : (q : Int) < (U.length : Int) := by omega
              clear hrow heq hzu hu
              by_cases hin : u ∈ namesM l
              · have HIN := Lib.hid hin
                have hh2 : ptrAt (namesM l) eb (txt u).data.toList = .pointer (some ⟨eb u, 0, none⟩) := by rw [txt_list]; unfold ptrAt; rw [if_pos hin]
                clear hin
                go_wp2_with (at_lookup; refine look_p _ rfl _ _ rfl rfl HMp.out (txt u) rfl hum ?_; rw [hh2])
                go_roundw
                case rel =>
                  refine ⟨q + 1, by omega, by go_num, by first | exact trivial | rfl, ?_⟩
                  show ∀ i z, _
                  intro i z hi hz
                  rcases Nat.lt_or_ge i q with g1 | g1
                  · exact HQ.out i z g1 hz
                  · have : i = q := by omega
                    subst this
                    rw [HEQ.out] at hz
                    injection hz with hz
                    rw [← hz, txt_list]; exact HIN.out
                case measure => simp [intOf]; omega
              · have HE : Hid (tabE okM l = 5) := tabE_5 h40 HZ.out ⟨(m1, m2), HME.out, u, HUU.out, hin⟩
                have hh2 : ptrAt (namesM l) eb (txt u).data.toList = .pointer none := by rw [txt_list]; unfold ptrAt; rw [if_neg hin]; rfl
                clear hin
                go_wp2_with (at_lookup; refine look_p _ rfl _ _ rfl rfl HMp.out (txt u) rfl hum ?_; rw [hh2])
                go_ret2
                exact ⟨⟨.map none, by rw [HE.out]; rfl, .inl ⟨by rw [HE.out]; decide, rfl⟩⟩, HB.out.trans (HB0.out.mono HB.out.size)⟩
            · obtain rfl : q = U.length := by omega
              go_wp2
              go_roundw
              case rel =>
                refine ⟨j + 1, by omega, by go_num, HB0, ?_⟩
                show ∀ i m, _
                intro i m hi hm u hu
                rcases Nat.lt_or_ge i j with g1 | g1
                · exact HS.out i m g1 hm u hu
                · have : i = j := by omega
                  subst this
                  rw [HEL.out] at hm
                  injection hm with hm
                  subst hm
                  obtain ⟨z, hz, hze⟩ := List.getElem_of_mem (HALL.out u hu)
                  have := HQ.out z (txt u) hz (by rw [List.getElem?_eq_getElem hz, hze])
                  rwa [txt_list] at this
              case measure => simp [intOf]; omega
        · obtain rfl : j = l.length := by omega
          have hth : ∀ m ∈ l, ∀ u ∈ callsOf (prs okM m.2).1, u ∈ namesM l := fun m hm u hu => by
            obtain ⟨i, hi, rfl⟩ := List.getElem_of_mem hm
            exact HS.out i _ hi (List.getElem?_eq_getElem hi) u hu
          have hnl : ¬ Lacks okM l := by
            rintro ⟨m, hm, u, hu, hn⟩
            exact hn (hth m hm u hu)
          have HTH := Lib.hid hth
          have HNL := Lib.hid hnl
          have HT2 := Lib.hid (HT.out.below HBr.out)
          have HB2 := Lib.hid (HB.out.trans (HBr.out.mono HB.out.size))
          have hwork := work_ok w.heap.size w.heap.size l eb uv HND.out hth (fun m hm => (HSM.out m hm).2) (fun x hx => by
            obtain ⟨m, hm, rfl⟩ := List.mem_map.1 hx
            exact okM_few (HR.out m hm).1) hgl
          have HWK := Lib.hid hwork
          clear hwork hth hnl HT HS HB HBr hlt hj
          generalize wr = wd at *
          go_wp2
          go_loopw [81] (fun i wr => ∃ (j : Nat) (st : Bs → Nat), j ≤ l.length ∧ i = .int .i64 j ∧ Hid (Below w.heap.size w wr) ∧ Hid (TabW wr w.heap.size w.heap.size l eb uv st) ∧ Hid (DoneM l st) ∧ Hid (∀ y, st y ≠ 1) ∧ Hid (∀ i m, i < j → l[i]? = some m → st m.1 = 2)) (fun i _ => l.length - (intOf i).toNat)
          case atStart => exact ⟨0, fun _ => 0, Nat.zero_le _, rfl, HB2, HT2, ⟨fun n _ h => (by cases h), fun _ => Nat.zero_le _⟩, fun y h => (by cases h), fun i m h => absurd h (Nat.not_lt_zero _)⟩
          case round =>
            obtain ⟨j, st, hj, rfl, HBj, HTj, HDj, HOj, HSj⟩ := hrel
            by_cases hlt : j < l.length
            · have hel := List.getElem?_eq_getElem hlt
              obtain ⟨b, o, rfl, hb, c1, c2⟩ := (HN.out _ HBj.out).cell hel
              have hmem := List.getElem_mem hlt
              have HEL := Lib.hid hel
              rw [← Nat.add_assoc] at c2
              clear hel
              generalize l[j] = m at *
              obtain ⟨m1, m2⟩ := m
              have hmn : m1 ∈ namesM l := List.mem_map.2 ⟨(m1, m2), hmem, rfl⟩
              simp only [mF, mG] at c1 c2
              have hji : (j : Int) < (l.length : Int) := by omega
              obtain ⟨W0, hW0⟩ : ∃ W0, W0 = wr.alloc (.cells #[.string (txt m1), .string (txt m2)] 86) := ⟨_, rfl⟩
              have hb0 : Below wr.heap.size wr W0 := by rw [hW0]; exact mb1 wr _
              have k1 : W0.cell? ⟨wr.heap.size, 0, none⟩ = some (.string (txt m1)) := by rw [hW0, World.cell?_alloc_at _ _ _ _ rfl]; rfl
              have HB0 : Hid (Below w.heap.size w W0) := HBj.out.trans (hb0.mono HBj.out.size)
              have HCall := Lib.hid (HWK.out (count0 l st) st m1 W0 (Nat.le_refl _) hmn (HTj.out.below hb0) HDj.out (fun y _ h => absurd h (HOj.out y)) (HMB.out _ HB0.out) HB0.out.size)
              clear hb0 hmem hmn
              go_upto_region 27 with fail
              rw [← hW0]
              clear hW0
              go_wp2_with fail
              refine HCall.out.mono ?_
              rintro e w2 ⟨hres, hbb⟩
              have HB2' := Lib.hid (HB0.out.trans (hbb.mono (Nat.le_refl _)))
              clear hbb
              rcases hres with ⟨st2, rfl, h1, h2, h3, h4, h5⟩ | ⟨rfl, y, hy, hyy⟩
              · have HT3 := Lib.hid h1
                have HD3 := Lib.hid h2
                have HO3 : Hid (∀ y, st2 y ≠ 1) := fun y h => HOj.out y ((h5 y).1 h)
                have HS3 : Hid (∀ i m, i < j + 1 → l[i]? = some m → st2 m.1 = 2) := by
                  show ∀ i m, _
                  intro i m hi hm
                  rcases Nat.lt_or_ge i j with g1 | g1
                  · exact h4 _ (HSj.out i m g1 hm)
                  · have : i = j := by omega
                    subst this
                    rw [HEL.out] at hm
                    injection hm with hm
                    subst hm
                    exact h3
                clear h1 h2 h3 h4 h5
                go_wp2
                go_roundw
                case rel => exact ⟨j + 1, st2, by omega, by go_num, HB2', HT3, HD3, HO3, HS3⟩
                case measure => simp [intOf]; omega
              · have HE : Hid (tabE okM l = 8) := by
                  refine tabE_8 h40 HZ.out HNL.out ?_
                  obtain ⟨m, hm, rfl⟩ := List.mem_map.1 hy
                  exact ⟨m, hm, fun ⟨a, ha⟩ => ha.no_ring hyy⟩
                clear hyy hy
                go_wp2
                go_ret2
                exact ⟨⟨.map none, by rw [HE.out]; rfl, .inl ⟨by rw [HE.out]; decide, rfl⟩⟩, HB2'.out⟩
            · obtain rfl : j = l.length := by omega
              have hall : ∀ x ∈ namesM l, st x = 2 := fun x hx => by
                obtain ⟨m, hm, rfl⟩ := List.mem_map.1 hx
                obtain ⟨i, hi, rfl⟩ := List.getElem_of_mem hm
                exact HSj.out i _ hi (List.getElem?_eq_getElem hi)
              have HE : Hid (tabE okM l = 0) := tabE_zero.2 ⟨by omega, HR.out, HND.out, HTH.out, fun m hm => ⟨_, HDj.out.1 m.1 (List.mem_map_of_mem hm) (hall _ (List.mem_map_of_mem hm))⟩⟩
              have HALL := Lib.hid hall
              clear hall
              go_wp2
              go_ret2
              exact ⟨⟨.map (some w.heap.size), by rw [HE.out]; rfl, .inr ⟨HE.out, w.heap.size, eb, uv, st, rfl, HTj.out, HALL.out⟩⟩, HBj.out⟩
end Go.Proofs.YtoiolepengcagaaGreatDoor
namespace Go.Proofs.YtoiolepengcagaaGreatDoor
open Go.RowKit Go.Shelf Go.Maps
/-- what flats answers -/
def FlatsPost (w : World) (l : List Mac) (e : Ending) (w' : World) : Prop :=
  (∃ v, e = .returned (.tuple #[v, .int .i64 (flatsE okM l)]) ∧ ((flatsE okM l ≠ 0 ∧ v = .map none) ∨ (flatsE okM l = 0 ∧ ∃ B eb uv st, v = .map (some B) ∧ TabW w' B w.heap.size l eb uv st ∧ ∀ n ∈ namesM l, st n = 2))) ∧ Below w.heap.size w w'
theorem sameKey_str {a b : Bs} (h : (Lit.string a).sameKey (.string b) = true) : a = b := by simpa [Lit.sameKey] using h
set_option maxHeartbeats 4000000 in
set_option maxRecDepth 100000 in
theorem flats_ok (p : Option Addr) (n c : Nat) (l : List Mac) (w : World) (hR : MacsIn w p n c l) (hM : MLm w) : Calls Tryz.prog 74 #[.slice p n c] w (FlatsPost w l) := by
  have HNew := Lib.hid (newTable_ok p n c l w hR hM)
  clear hR hM
  by_cases hE : tabE okM l = 0
  · have HN2 : Hid (Calls Tryz.prog 107 #[.slice p n c] w fun e w' => (∃ B eb uv st, e = .returned (.tuple #[.map (some B), .int .i64 0]) ∧ TabW w' B w.heap.size l eb uv st ∧ ∀ n ∈ namesM l, st n = 2) ∧ Below w.heap.size w w') := by
      show Calls _ _ _ _ _
      refine HNew.out.mono ?_
      rintro e w' ⟨⟨v, rfl, hv⟩, hb⟩
      rw [hE] at hv ⊢
      obtain ⟨_, B, eb, uv, st, rfl, h1, h2⟩ := hv.resolve_left (fun h => h.1 rfl)
      exact ⟨⟨B, eb, uv, st, rfl, h1, h2⟩, hb⟩
    have hTO := tabE_zero.1 hE
    have HTO := Lib.hid hTO
    clear HNew hE hTO
    go_enter Tryz.func74, Tryz.ntmps74
    go_upto_region 2 with (go_at_call 107; refine HN2.out.mono ?_; rintro e w1 ⟨⟨B, eb, uv, st, rfl, h1, h2⟩, hb⟩; have HT := Lib.hid h1; have HS := Lib.hid h2; have HB := Lib.hid hb; obtain ⟨Nn, ⟨D, hown, hat, hhas⟩, _⟩ := h1.map; have HO := Lib.hid hown; have HAT := Lib.hid hat; have HHS := Lib.hid hhas; clear h1 h2 hb hown hat hhas)
    go_wp2_with (at_range; refine wpList_range_own _ rfl _ 137 rfl 9 142 lawM Tryz.underlying137 rawP B Nn D rfl HO.out ?_; intro w0 hrg0 hg0 hs0; have HR0 := Lib.hid hrg0; have HG0 := Lib.hid hg0; clear hrg0 hg0)
    go_frame
    go_loopw [7] (fun _ wr => ∃ (left : Lit → Bool) (cnt : Nat), Hid (wr.ranges Tryz.prog 9 rawP B w1.heap.size Nn D left cnt) ∧ Hid (∀ kl, left kl = true → has D kl = true) ∧ Hid (∀ s ∈ namesM l, left (.string s) = false → flatF okM l s ≠ none) ∧ Hid (Below w1.heap.size w1 wr)) (fun _ wr => wr.rangeLeft B w1.heap.size)
    case atStart => exact ⟨has D, _, HR0, fun _ h => h, fun s hs h => (by rw [(HHS.out s).2 hs] at h; cases h), ⟨HG0.out.os, HG0.out.tape, HG0.out.output, HG0.out.size, fun k hk => HG0.out.block k hk (by simp)⟩⟩
    case round =>
      obtain ⟨left, cnt, HRG, HLF, HNO, HBr⟩ := hrel
      go_wp2_with (at_next; refine wpList_next_ranges _ rfl _ rfl 9 lawM rawP Value.string (fun v : Value => v) (fun key kl h => by obtain ⟨x, rfl, _⟩ := Maps.keyOf_str Tryz.underlying9 h; exact ⟨_, rfl⟩) (fun v y _ => ⟨v, rfl⟩) B w1.heap.size Nn D left cnt rfl HRG.out ?_ ?_)
      · intro _ hl0
        have HL0 := Lib.hid hl0
        clear hl0
        have hnl : ¬ Larges okM l := by
          rintro ⟨m, hm, e⟩
          exact HNO.out m.1 (List.mem_map_of_mem hm) (HL0.out _) e
        have HE0 : Hid (flatsE okM l = 0) := flatsE_zero.2 ⟨HTO.out, hnl⟩
        clear hnl
        go_wp2
        go_ret2
        refine ⟨⟨.map (some B), by rw [HE0.out]; rfl, .inr ⟨HE0.out, B, eb, uv, st, rfl, HT.out.below HBr.out, HS.out⟩⟩, HB.out.trans (HBr.out.mono HB.out.size)⟩
      · intro x cv kl y1 y2 w2 cnt2 hkey hlx hry hat hrg hlt hg hs hen
        obtain ⟨s, hxs, hkl, _⟩ := Maps.keyOf_str Tryz.underlying9 hkey
        subst hkl
        have hmem : s ∈ namesM l := (HHS.out s).1 (HLF.out _ hlx)
        have hcv : cv = .pointer (some ⟨eb s, 0, none⟩) := by
          have h1 := hat (.held nilP)
          rw [HAT.out] at h1
          have h2 : (cv : Value) = ptrAt (namesM l) eb s := by
            unfold rawP at hry
            injection hry with hry
            injection hry with h3 h4
            rw [← h3] at h1
            injection h1 with h1
            exact h1.symm
          rw [h2]
          unfold ptrAt
          rw [if_pos hmem]
        subst hcv
        have HRG2 := Lib.hid hrg
        have HB2 : Hid (Below w1.heap.size w1 w2) := HBr.out.grown hg (by have := HRG.out.lt; omega) (fun k hk => by cases hk; exact Nat.le_refl _)
        obtain ⟨m, hm, hmn⟩ := List.mem_map.1 hmem
        have hent := (HT.out.below HB2.out).ent m hm
        rw [hmn, HS.out s hmem] at hent
        have hent2 : w2.heap[eb s]? = some (.cells #[.string (txt m.2), uv s, .int .i64 2, .string (txt ((flatF okM l s).getD [])), .bool (flatF okM l s).isNone] 141 (0, 0)) := hent
        obtain ⟨_, _, _, _, q4, _⟩ := mx5 hent2
        have HM := Lib.hid hmem
        have HLT := Lib.hid hlt
        clear hkey hlx hry hat hrg hlt hg hs hent hent2 hmem hm hmn
        cases hfl : flatF okM l s with
        | none =>
          rw [hfl] at q4
          have HE2 : Hid (flatsE okM l = 2) := by
            show _ = _
            unfold flatsE
            rw [if_neg (by rw [tabE_zero.2 HTO.out]; decide), if_pos]
            obtain ⟨m, hm, hmn⟩ := List.mem_map.1 HM.out
            exact ⟨m, hm, by rw [hmn]; exact hfl⟩
          clear hfl
          go_wp2
          go_ret2
          exact ⟨⟨.map none, by rw [HE2.out]; rfl, .inl ⟨by rw [HE2.out]; decide, rfl⟩⟩, HB.out.trans (HB2.out.mono HB.out.size)⟩
        | some v =>
          rw [hfl] at q4
          have HV := Lib.hid hfl
          clear hfl
          go_wp2
          go_roundw
          case rel =>
            refine ⟨_, cnt2, HRG2, ?_, ?_, HB2⟩
            · show ∀ _, _ → _
              intro kl h
              rw [Bool.and_eq_true] at h
              exact HLF.out kl h.1
            · show ∀ s', _
              intro s' hs' h
              rw [Bool.and_eq_false_iff] at h
              rcases h with h | h
              · exact HNO.out s' hs' h
              · have e := sameKey_str (by simpa using h)
                rw [e, HV.out]
                simp
          case measure => rw [HRG2.out.left_eq, HRG.out.left_eq]; exact HLT.out
  · have HE : Hid (flatsE okM l = tabE okM l) := by show _ = _; unfold flatsE; rw [if_pos hE]
    have HN2 : Hid (Calls Tryz.prog 107 #[.slice p n c] w fun e w' => e = .returned (.tuple #[.map none, .int .i64 (tabE okM l)]) ∧ Below w.heap.size w w') := by
      show Calls _ _ _ _ _
      refine HNew.out.mono ?_
      rintro e w' ⟨⟨v, rfl, hv⟩, hb⟩
      obtain ⟨_, rfl⟩ := hv.resolve_right (fun h => hE h.1)
      exact ⟨rfl, hb⟩
    have HNE := Lib.hid hE
    clear HNew hE
    generalize tabE okM l = te at *
    have hrg : ∀ w1 : World, (Instr.range 137 (.map none)).run Tryz.prog w1 = _ := fun w1 => run_range_nilMap w1 137 9 142 Tryz.underlying137
    have hnx : ∀ (w1 : World) ty, (Instr.next (.pointer (some ⟨w1.heap.size, 0, none⟩)) false ty).run Tryz.prog (w1.alloc (.mapIter none 0 #[] 0)) = _ := fun w1 ty => run_next_nilMap w1 ty 0 0 #[]
    go_enter Tryz.func74, Tryz.ntmps74
    go_wp2_with (go_at_call 107; refine HN2.out.mono ?_; rintro e w1 ⟨rfl, hb⟩; have HB := Lib.hid hb; clear hb)
    refine wp_loop_rounds 1 ?_
    rw [rounds_succ]
    go_wp2
    go_ret2
    exact ⟨⟨.map none, by rw [HE.out]; rfl, .inl ⟨by rw [HE.out]; exact HNE.out, rfl⟩⟩, HB.out.alloc HB.out.size _⟩
end Go.Proofs.YtoiolepengcagaaGreatDoor
namespace Go.Proofs.YtoiolepengcagaaGreatDoor
open Go.RowKit Go.Shelf Go.Maps
theorem TabW.flatOn {w : World} {B lo : Nat} {l : List Mac} {eb : Bs → Nat} {uv : Bs → Value} {st : Bs → Nat} (h : TabW w B lo l eb uv st) (hs : ∀ n ∈ namesM l, st n = 2) {cs : List Bs} (hc : ∀ u ∈ cs, u ∈ namesM l) : FlatOn w B (flatF okM l) cs := by
  obtain ⟨N, h1, _⟩ := h.map
  refine ⟨N, namesM l, ptrAt (namesM l) eb, h1, fun u hu => ?_⟩
  obtain ⟨m, hm, hmn⟩ := List.mem_map.1 (hc u hu)
  have he := h.ent m hm
  rw [hmn, hs u (hc u hu)] at he
  have he2 : w.heap[eb u]? = some (.cells #[.string (txt m.2), uv u, .int .i64 2, .string (txt ((flatF okM l u).getD [])), .bool (flatF okM l u).isNone] 141 (0, 0)) := he
  obtain ⟨_, _, _, k3, k4, _⟩ := mx5 he2
  exact ⟨eb u, by unfold ptrAt; rw [if_pos (hc u hu)], k3, k4⟩
theorem expandE_bad {l : List Mac} {s : Bs} (h : flatsE okM l ≠ 0) : expandE okM l s = (flatsE okM l, []) := by unfold expandE; rw [if_pos h]
theorem expandE_3 {l : List Mac} {s : Bs} (h : flatsE okM l = 0) (h1 : (prs okM s).2 = false) : expandE okM l s = (3, []) := by unfold expandE; rw [if_neg (by rw [h]; decide)]; unfold expandR; rw [if_pos h1]
theorem expandE_5 {l : List Mac} {s : Bs} (h : flatsE okM l = 0) (h1 : (prs okM s).2 = true) (h2 : ∃ u ∈ callsOf (prs okM s).1, u ∉ namesM l) : expandE okM l s = (5, []) := by unfold expandE; rw [if_neg (by rw [h]; decide)]; unfold expandR; rw [if_neg (by rw [h1]; decide), if_pos h2]
theorem expandE_l {l : List Mac} {s : Bs} (h : flatsE okM l = 0) (h1 : (prs okM s).2 = true) (h2 : ¬ ∃ u ∈ callsOf (prs okM s).1, u ∉ namesM l) : expandE okM l s = if lrg (flatF okM l) (prs okM s).1 = true then (2, []) else (0, evalT (flatF okM l) (prs okM s).1) := by
  unfold expandE; rw [if_neg (by rw [h]; decide)]; unfold expandR; rw [if_neg (by rw [h1]; decide), if_neg h2]
set_option maxHeartbeats 4000000 in
set_option maxRecDepth 100000 in
theorem Expand_ok (p : Option Addr) (n c : Nat) (l : List Mac) (s : Bs) (w : World) (hR : MacsIn w p n c l) (hM : MLm w) (hs : s.length ≤ 1048600) :
    Calls Tryz.prog 41 #[.slice p n c, .string (txt s)] w fun e w' => e = .returned (.tuple #[.string (txt (expandE okM l s).2), .int .i64 (expandE okM l s).1]) ∧ Below w.heap.size w w' := by
  have HFl := Lib.hid (flats_ok p n c l w hR hM)
  have HMB := Lib.hid (fun u (hu : Below w.heap.size w u) => hM.below hu)
  clear hR hM
  by_cases hE : flatsE okM l = 0
  rotate_left
  · have HE := Lib.hid (expandE_bad (s := s) hE)
    have HF2 : Hid (Calls Tryz.prog 74 #[.slice p n c] w fun e w' => (∃ v, e = .returned (.tuple #[v, .int .i64 (flatsE okM l)])) ∧ Below w.heap.size w w') := by
      show Calls _ _ _ _ _
      refine HFl.out.mono ?_
      rintro e w' ⟨⟨v, rfl, _⟩, hb⟩
      exact ⟨⟨v, rfl⟩, hb⟩
    obtain ⟨e1, e2⟩ := int_ne' hE
    clear HFl hE
    generalize flatsE okM l = fe at *
    go_enter Tryz.func41, Tryz.ntmps41
    go_wp2_with (go_at_call 74; refine HF2.out.mono ?_; rintro e w1 ⟨⟨v, rfl⟩, hb⟩; have HB := Lib.hid hb; clear hb)
    go_ret2
    exact ⟨by rw [HE.out]; rfl, HB.out⟩
  have HF2 : Hid (Calls Tryz.prog 74 #[.slice p n c] w fun e w' => (∃ B eb uv st, e = .returned (.tuple #[.map (some B), .int .i64 0]) ∧ TabW w' B w.heap.size l eb uv st ∧ ∀ n ∈ namesM l, st n = 2) ∧ Below w.heap.size w w') := by
    show Calls _ _ _ _ _
    refine HFl.out.mono ?_
    rintro e w' ⟨⟨v, rfl, hv⟩, hb⟩
    rw [hE] at hv ⊢
    obtain ⟨_, B, eb, uv, st, rfl, h1, h2⟩ := hv.resolve_left (fun h => h.1 rfl)
    exact ⟨⟨B, eb, uv, st, rfl, h1, h2⟩, hb⟩
  have HFE := Lib.hid hE
  have hul := usesM_len s
  clear HFl hE
  cases hp : (prs okM s).2
  · have HE := Lib.hid (expandE_3 HFE.out hp)
    have hue : usesE s = 3 := by unfold usesE; rw [hp]; rfl
    have HU : Hid (∀ w1, MLm w1 → Calls Tryz.prog 75 #[.string (txt s)] w1 fun e w' => (∃ v, e = .returned (.tuple #[v, .int .i64 3])) ∧ Below w1.heap.size w1 w') := by
      show ∀ _, _ → _
      intro w1 hM
      refine (Uses_ok s hs w1 hM).mono ?_
      rintro e w' ⟨⟨v, rfl, _⟩, hb⟩
      rw [hue]
      exact ⟨⟨v, rfl⟩, hb⟩
    clear hp hue
    go_enter Tryz.func41, Tryz.ntmps41
    go_wp2_with (first
      | (go_at_call 74; refine HF2.out.mono ?_; rintro e w1 ⟨⟨B, eb, uv, st, rfl, _, _⟩, hb⟩; have HB := Lib.hid hb; clear hb)
      | (go_at_call 75; refine (HU.out _ (HMB.out _ HB.out)).mono ?_; rintro e w2 ⟨⟨v, rfl⟩, hb⟩; have HB2 := Lib.hid (HB.out.trans (hb.mono HB.out.size)); clear hb))
    go_ret2
    exact ⟨by rw [HE.out]; rfl, HB2.out⟩
  have hue : usesE s = 0 := by unfold usesE; rw [hp]; rfl
  have HU : Hid (∀ w1, MLm w1 → Calls Tryz.prog 75 #[.string (txt s)] w1 fun e w' => (∃ v, e = .returned (.tuple #[v, .int .i64 0]) ∧ w'.ownsRow w1.heap.size 9 1 v (usesM (prs okM s).1).length (strsV (usesM (prs okM s).1))) ∧ Below w1.heap.size w1 w') := by
    show ∀ _, _ → _
    intro w1 hM
    refine (Uses_ok s hs w1 hM).mono ?_
    rintro e w' ⟨⟨v, rfl, hv⟩, hb⟩
    rw [hue] at hv ⊢
    exact ⟨⟨v, rfl, (hv.resolve_right (fun h => h.1 rfl)).2⟩, hb⟩
  have HP := Lib.hid hp
  have HMEM := Lib.hid (fun z (hz : z ∈ usesM (prs okM s).1) => usesM_txt hz)
  have HALL := Lib.hid (fun u (hu : u ∈ callsOf (prs okM s).1) => usesM_mem.2 hu)
  clear hp hue
  generalize hU : usesM (prs okM s).1 = U at *
  go_enter Tryz.func41, Tryz.ntmps41
  go_wp2_with (first
    | (go_at_call 74; refine HF2.out.mono ?_; rintro e w1 ⟨⟨B, eb, uv, st, rfl, h1, h2⟩, hb⟩; have HT := Lib.hid h1; have HS := Lib.hid h2; have HB := Lib.hid hb; clear hb h1 h2)
    | (go_at_call 75; refine (HU.out _ (HMB.out _ HB.out)).mono ?_; rintro e w2 ⟨⟨v, rfl, hv⟩, hb⟩; obtain ⟨g, cv, rfl⟩ := mown_form hv; have HV := Lib.hid hv; have HT2 := Lib.hid (HT.out.below hb); have HB2 := Lib.hid (HB.out.trans (hb.mono HB.out.size)); clear hb hv))
  go_loopw [31] (fun i wq => ∃ (q : Nat), q ≤ U.length ∧ i = .int .i64 q ∧ wq = w2 ∧ Hid (∀ i z, i < q → U[i]? = some z → z.data.toList ∈ namesM l)) (fun i _ => U.length - (intOf i).toNat)
  case atStart => exact ⟨0, Nat.zero_le _, rfl, rfl, fun i z h => absurd h (Nat.not_lt_zero _)⟩
  case round =>
    obtain ⟨q, hq, rfl, rfl, HQ⟩ := hrel
    by_cases hqt : q < U.length
    · have heq := List.getElem?_eq_getElem hqt
      have hrow := HV.out
      have hg : ∃ gb, g = some ⟨gb, 0, none⟩ := by
        rcases hrow.2 with ⟨_, h⟩ | ⟨gb, cap, cur, e, _⟩
        · omega
        · injection e with e1 _ _
          exact ⟨gb, e1⟩
      obtain ⟨gb, rfl⟩ := hg
      have hcell := hrow.cells (g := gb) rfl q (.string U[q]) (by unfold strsV; rw [List.getElem?_map, heq]; rfl)
      rw [Addr.add_lit, Nat.zero_add] at hcell
      obtain ⟨u, hzu, hu⟩ := HMEM.out U[q] (List.getElem_mem hqt)
      rw [hzu] at hcell heq
      have HEQ := Lib.hid heq
      have HUU := Lib.hid hu
      have hum : (txt u).size ≤ maxLen := by
        have := okM_few (prs_ok_call hu)
        rw [txt_size]; unfold maxLen; omega
      have hqi : (q : Int) < (U.length : Int) := by omega
      obtain ⟨N, hmp, _⟩ := HT2.out.map
      have HMp := Lib.hid hmp
      clear hrow heq hzu hu hmp
      by_cases hin : u ∈ namesM l
      · have HIN := Lib.hid hin
        have hh2 : ptrAt (namesM l) eb (txt u).data.toList = .pointer (some ⟨eb u, 0, none⟩) := by rw [txt_list]; unfold ptrAt; rw [if_pos hin]
        clear hin
        go_wp2_with (at_lookup; refine look_p _ rfl _ _ rfl rfl HMp.out (txt u) rfl hum ?_; rw [hh2])
        go_roundw
        case rel =>
          refine ⟨q + 1, by omega, by go_num, by first | exact trivial | rfl, ?_⟩
          show ∀ i z, _
          intro i z hi hz
          rcases Nat.lt_or_ge i q with g1 | g1
          · exact HQ.out i z g1 hz
          · have : i = q := by omega
            subst this
            rw [HEQ.out] at hz
            injection hz with hz
            rw [← hz, txt_list]; exact HIN.out
        case measure => simp [intOf]; omega
      · have HE := Lib.hid (expandE_5 HFE.out HP.out ⟨u, HUU.out, hin⟩)
        have hh2 : ptrAt (namesM l) eb (txt u).data.toList = .pointer none := by rw [txt_list]; unfold ptrAt; rw [if_neg hin]; rfl
        clear hin
        go_wp2_with (at_lookup; refine look_p _ rfl _ _ rfl rfl HMp.out (txt u) rfl hum ?_; rw [hh2])
        go_ret2
        exact ⟨by rw [HE.out]; rfl, HB2.out⟩
    · obtain rfl : q = U.length := by omega
      have hall : ∀ u ∈ callsOf (prs okM s).1, u ∈ namesM l := fun u hu => by
        obtain ⟨z, hz, hze⟩ := List.getElem_of_mem (HALL.out u hu)
        have := HQ.out z (txt u) hz (by rw [List.getElem?_eq_getElem hz, hze])
        rwa [txt_list] at this
      have HEL := Lib.hid (expandE_l HFE.out HP.out (fun ⟨u, hu, hn⟩ => hn (hall u hu)))
      have HFt := Lib.hid (flat_ok B (flatF okM l) s _ hs (HMB.out _ HB2.out) (HT2.out.flatOn HS.out hall))
      clear hall
      cases hl : lrg (flatF okM l) (prs okM s).1
      · have hc : cmb (flatF okM l) (prs okM s).1 = some (evalT (flatF okM l) (prs okM s).1) := by unfold cmb; rw [hl]; rfl
        rw [hc] at HFt
        rw [hl] at HEL
        clear hl hc
        go_wp2_with (go_at_call 76; refine HFt.out.mono ?_; rintro e w3 ⟨rfl, hb⟩; have HB3 := Lib.hid hb; clear hb)
        go_ret2
        exact ⟨by rw [HEL.out]; rfl, HB2.out.trans (HB3.out.mono HB2.out.size)⟩
      · have hc : cmb (flatF okM l) (prs okM s).1 = none := by unfold cmb; rw [hl]; rfl
        rw [hc] at HFt
        rw [hl] at HEL
        clear hl hc
        go_wp2_with (go_at_call 76; refine HFt.out.mono ?_; rintro e w3 ⟨rfl, hb⟩; have HB3 := Lib.hid hb; clear hb)
        go_ret2
        exact ⟨by rw [HEL.out]; rfl, HB2.out.trans (HB3.out.mono HB2.out.size)⟩
end Go.Proofs.YtoiolepengcagaaGreatDoor
namespace Go.Proofs.YtoiolepengcagaaGreatDoor
abbrev Inf := ByteArray × ByteArray
def sufB (s : ByteArray) : Bool := decide (2 ≤ s.size) && decide (s.size ≤ 10) && (s.data.toList.head? == some 46) && (nameE s == 0) && !Lib.containsAny (s.data.toList.drop 1) [46, 47]
def inf0 : Inf := (ByteArray.empty, ByteArray.empty)
def hasI (l : List Inf) (x : Inf) : Bool := l.any fun y => decide (y = x)
theorem hasI_iff {l : List Inf} {x : Inf} : hasI l x = true ↔ x ∈ l := by
  unfold hasI
  rw [List.any_eq_true]
  constructor
  · rintro ⟨y, hy, e⟩
    have := of_decide_eq_true e
    subst this
    exact hy
  · intro h
    exact ⟨x, h, decide_eq_true rfl⟩
def infAt (l : List Inf) (k : Nat) : Int :=
  if (sufB (l.getD k inf0).1 && sufB (l.getD k inf0).2) = false then 3 else if (l.getD k inf0).1 = (l.getD k inf0).2 ∨ hasI (l.take k) (l.getD k inf0) = true then 6 else 0
def infGo (l : List Inf) : Nat → Nat → Int
  | _, 0 => 0
  | k, f + 1 => if infAt l k = 0 then infGo l (k + 1) f else infAt l k
def infE (l : List Inf) : Int := if 20 < l.length then 2 else infGo l 0 l.length
theorem infGo_zero (l : List Inf) : ∀ f k, infGo l k f = 0 ↔ ∀ j, k ≤ j → j < k + f → infAt l j = 0 := by
  intro f
  induction f with
  | zero => intro k; simp only [infGo, true_iff]; intro j h1 h2; omega
  | succ f ih =>
    intro k
    unfold infGo
    split
    · rename_i h
      rw [ih]
      constructor
      · intro g j h1 h2
        rcases Nat.eq_or_lt_of_le h1 with rfl | h1
        · exact h
        · exact g j h1 (by omega)
      · intro g j h1 h2
        exact g j (by omega) (by omega)
    · rename_i h
      constructor
      · intro g; exact absurd g h
      · intro g; exact absurd (g k (Nat.le_refl k) (by omega)) h
theorem infE_zero (l : List Inf) : infE l = 0 ↔ l.length ≤ 20 ∧ ∀ j, j < l.length → infAt l j = 0 := by
  unfold infE
  split
  · rename_i h
    constructor
    · intro g; cases g
    · rintro ⟨g, _⟩; omega
  · rename_i h
    rw [infGo_zero]
    constructor
    · intro g; exact ⟨by omega, fun j hj => g j (Nat.zero_le j) (by omega)⟩
    · rintro ⟨_, g⟩ j _ hj; exact g j (by omega)
theorem infAt_zero {l : List Inf} {k : Nat} : infAt l k = 0 ↔ sufB (l.getD k inf0).1 = true ∧ sufB (l.getD k inf0).2 = true ∧ (l.getD k inf0).1 ≠ (l.getD k inf0).2 ∧ l.getD k inf0 ∉ l.take k := by
  unfold infAt
  constructor
  · intro h
    split at h
    · cases h
    · rename_i h1
      split at h
      · cases h
      · rename_i h2
        rw [Bool.not_eq_false, Bool.and_eq_true] at h1
        rw [not_or, hasI_iff] at h2
        exact ⟨h1.1, h1.2, h2.1, h2.2⟩
  · rintro ⟨h1, h2, h3, h4⟩
    rw [h1, h2, if_neg (by decide), if_neg (by rw [not_or, hasI_iff]; exact ⟨h3, h4⟩)]
theorem infE_take {l : List Inf} (h : infE l = 0) {k : Nat} (hk : k ≤ l.length) : infE (l.take k) = 0 := by
  rw [infE_zero] at h ⊢
  have hl : (l.take k).length = k := by rw [List.length_take]; omega
  refine ⟨by omega, fun j hj => ?_⟩
  have := infAt_zero.1 (h.2 j (by omega))
  have e : (l.take k).getD j inf0 = l.getD j inf0 := by
    rw [List.getD_eq_getElem?_getD, List.getD_eq_getElem?_getD, List.getElem?_take_of_lt (by omega)]
  rw [infAt_zero, e]
  refine ⟨this.1, this.2.1, this.2.2.1, fun hm => this.2.2.2 ?_⟩
  rw [List.take_take] at hm
  rwa [show min j k = j by omega] at hm
theorem infE_drop {l : List Inf} (h : infE l = 0) {k : Nat} (hk : k ≤ l.length) : infE (l.drop k) = 0 := by
  rw [infE_zero] at h ⊢
  have hl : (l.drop k).length = l.length - k := List.length_drop ..
  refine ⟨by omega, fun j hj => ?_⟩
  have := infAt_zero.1 (h.2 (k + j) (by omega))
  have e : (l.drop k).getD j inf0 = l.getD (k + j) inf0 := by
    rw [List.getD_eq_getElem?_getD, List.getD_eq_getElem?_getD, List.getElem?_drop]
  rw [infAt_zero, e]
  refine ⟨this.1, this.2.1, this.2.2.1, fun hm => this.2.2.2 ?_⟩
  have : l.take (k + j) = l.take k ++ (l.drop k).take j := List.take_add ..
  rw [this]
  exact List.mem_append_right _ hm
/-- the first that applies -/
def infOf (l : List Inf) (there : List ByteArray) (stem en : ByteArray) : Option ByteArray :=
  l.findSome? fun x => if x.2 = en ∧ Lib.containsS there (stem ++ x.1) = true then some (stem ++ x.1) else none
theorem infOf_cut (l : List Inf) (k : Nat) (there : List ByteArray) (stem en : ByteArray) : infOf l there stem en = (infOf (l.take k) there stem en).or (infOf (l.drop k) there stem en) := by
  unfold infOf
  rw [← List.findSome?_append, List.take_append_drop]
theorem infOf_next {l : List Inf} {k : Nat} (hk : k < l.length) (there : List ByteArray) (stem en : ByteArray) :
    infOf (l.drop k) there stem en = if (l.getD k inf0).2 = en ∧ Lib.containsS there (stem ++ (l.getD k inf0).1) = true then some (stem ++ (l.getD k inf0).1) else infOf (l.drop (k + 1)) there stem en := by
  unfold infOf
  rw [List.drop_eq_getElem_cons hk, List.findSome?_cons]
  have e : l.getD k inf0 = l[k] := by rw [List.getD_eq_getElem?_getD, List.getElem?_eq_getElem hk]; rfl
  rw [e]
  split
  · rename_i h; split at h
    · rename_i h2; rw [if_pos h2]; exact h.symm
    · cases h
  · rename_i h; split at h
    · cases h
    · rename_i h2; rw [if_neg h2]
end Go.Proofs.YtoiolepengcagaaGreatDoor
namespace Go.Proofs.YtoiolepengcagaaGreatDoor
structure FileV where
  ms : List Mac
  ph : List ByteArray
  inf : List Inf
  rs : List (List ByteArray × List ByteArray)
def file0 : FileV := ⟨[], [], [], []⟩
/-- the first place of one of two bytes -/
def fst2 (x y : UInt8) : Bs → Option Nat
  | [] => none
  | c :: l => if c = x ∨ c = y then some 0 else (fst2 x y l).map (· + 1)
theorem fst2_none {x y : UInt8} {l : Bs} : fst2 x y l = none ↔ ∀ c ∈ l, c ≠ x ∧ c ≠ y := by
  induction l with
  | nil => simp [fst2]
  | cons c l ih =>
    unfold fst2
    split
    · rename_i h
      constructor
      · intro e; cases e
      · intro h2; have := h2 c List.mem_cons_self; rcases h with e | e
        · exact absurd e this.1
        · exact absurd e this.2
    · rename_i h
      rw [Option.map_eq_none_iff, ih]
      constructor
      · intro h2 d hd
        rcases List.mem_cons.1 hd with rfl | hd
        · exact ⟨fun e => h (.inl e), fun e => h (.inr e)⟩
        · exact h2 d hd
      · exact fun h2 d hd => h2 d (List.mem_cons_of_mem _ hd)
theorem fst2_some {x y : UInt8} {l : Bs} {k : Nat} (h : fst2 x y l = some k) : (∃ c, l[k]? = some c ∧ (c = x ∨ c = y)) ∧ ∀ j, j < k → ∀ c, l[j]? = some c → c ≠ x ∧ c ≠ y := by
  induction l generalizing k with
  | nil => cases h
  | cons c l ih =>
    unfold fst2 at h
    split at h
    · rename_i h2
      obtain rfl : 0 = k := by simpa using h
      exact ⟨⟨c, rfl, h2⟩, fun j hj => absurd hj (Nat.not_lt_zero _)⟩
    · rename_i h2
      rw [Option.map_eq_some_iff] at h
      obtain ⟨m, hm, rfl⟩ := h
      obtain ⟨h3, h4⟩ := ih hm
      refine ⟨by simpa using h3, fun j hj d hd => ?_⟩
      cases j with
      | zero =>
        obtain rfl : c = d := by simpa using hd
        exact ⟨fun e => h2 (.inl e), fun e => h2 (.inr e)⟩
      | succ j => exact h4 j (by omega) d (by simpa using hd)
/-- does a line define a macro? -/
def defB (s : Bs) : Bool := match fst2 61 58 s with
  | none => false
  | some k => s[k]? == some 61
theorem index_first {c : UInt8} {l : Bs} {k : Nat} (h1 : l[k]? = some c) (h2 : ∀ j, j < k → ∀ d, l[j]? = some d → d ≠ c) : Lib.indexByte l c = k := by
  induction l generalizing k with
  | nil => simp at h1
  | cons b l ih =>
    unfold Lib.indexByte
    cases k with
    | zero =>
      obtain rfl : b = c := by simpa using h1
      simp
    | succ k =>
      have hb : b ≠ c := h2 0 (by omega) b rfl
      have := ih (k := k) (by simpa using h1) (fun j hj d hd => h2 (j + 1) (by omega) d (by simpa using hd))
      rw [this]
      have e : (b == c) = false := by simpa using hb
      simp [hb]
      all_goals omega
/-- the macro that it defines -/
def defM (s : Bs) : Mac := (Lib.trimS (s.take (Lib.indexByte s 61).toNat) [32, 9], Lib.trimS (s.drop ((Lib.indexByte s 61).toNat + 1)) [32, 9])
theorem defB_at {s : Bs} (h : defB s = true) : ∃ k, fst2 61 58 s = some k ∧ s[k]? = some 61 ∧ Lib.indexByte s 61 = k := by
  unfold defB at h
  split at h
  · cases h
  · rename_i k hk
    have h1 : s[k]? = some 61 := by simpa using h
    exact ⟨k, hk, h1, index_first h1 fun j hj d hd => ((fst2_some hk).2 j hj d hd).1⟩
/-- a pair of suffixes -/
def partsB (s : ByteArray) : List ByteArray := Lib.splitB ⟨#[46]⟩ 0 (Lib.countB s ⟨#[46]⟩) s
def pairB (s : ByteArray) : Bool := decide ((partsB s).length = 3) && ((partsB s).getD 0 ByteArray.empty).toList.isEmpty && !((partsB s).getD 1 ByteArray.empty).toList.isEmpty && !((partsB s).getD 2 ByteArray.empty).toList.isEmpty && !Lib.contains s.data.toList [47]
def pairI (s : ByteArray) : Inf := ((⟨#[46]⟩ : ByteArray) ++ (partsB s).getD 1 ByteArray.empty, (⟨#[46]⟩ : ByteArray) ++ (partsB s).getD 2 ByteArray.empty)
def phonyS : ByteArray := ⟨#[46, 80, 72, 79, 78, 89]⟩
def addP (P : List ByteArray) (N : List ByteArray) : List ByteArray := N.foldl (fun P n => if Lib.containsS P n = true then P else P ++ [n]) P
theorem addP_snoc (P N : List ByteArray) (n : ByteArray) : addP P (N ++ [n]) = if Lib.containsS (addP P N) n = true then addP P N else addP P N ++ [n] := by
  unfold addP
  rw [List.foldl_append]
  rfl
/-- a rule put into a file -/
def addF (f : FileV) (T N : List ByteArray) : FileV × Int :=
  if Lib.containsS T phonyS = true then
    if 1 < T.length then (f, 3) else ({ f with ph := addP f.ph N }, if 20 < (addP f.ph N).length then 2 else 0)
  else if pairB (T.getD 0 ByteArray.empty) = true ∧ T.length = 1 ∧ N.length = 0 then
    ({ f with inf := if hasI f.inf (pairI (T.getD 0 ByteArray.empty)) = true then f.inf else f.inf ++ [pairI (T.getD 0 ByteArray.empty)] }, 0)
  else ({ f with rs := f.rs ++ [(T, N)] }, if 100 < (f.rs ++ [(T, N)]).length then 2 else 0)
noncomputable def lineF (ms : List Mac) (s : Bs) (f : FileV) : FileV × Int :=
  if (expandE okM ms s).1 ≠ 0 then (f, (expandE okM ms s).1)
  else if parseE (expandE okM ms s).2 ≠ 0 then (f, parseE (expandE okM ms s).2)
  else addF f (parseT (expandE okM ms s).2) (parseN (expandE okM ms s).2)
noncomputable def parseGo (ms : List Mac) : List Bs → Nat → FileV → FileV × Nat × Int
  | [], _, f => (f, 0, 0)
  | s :: l, i, f => if defB s = true then parseGo ms l (i + 1) f else if (lineF ms s f).2 ≠ 0 then (file0, i + 1, (lineF ms s f).2) else parseGo ms l (i + 1) (lineF ms s f).1
def macsF (l : List Bs) : List Mac := (l.filter defB).map defM
noncomputable def parseF (l : List Bs) : FileV × Nat × Int :=
  if 200 < l.length then (file0, 0, 2) else if flatsE okM (macsF l) ≠ 0 then (file0, 0, flatsE okM (macsF l)) else parseGo (macsF l) l 0 { file0 with ms := macsF l }
theorem parseGo_same (ms : List Mac) : ∀ (l l' : List Bs) (i j : Nat) (f : FileV), l.filter (fun s => !defB s) = l'.filter (fun s => !defB s) → (parseGo ms l i f).1 = (parseGo ms l' j f).1 ∧ (parseGo ms l i f).2.2 = (parseGo ms l' j f).2.2 := by
  have key : ∀ (l : List Bs) (i j : Nat) (f : FileV), (parseGo ms l i f).1 = (parseGo ms (l.filter fun s => !defB s) j f).1 ∧ (parseGo ms l i f).2.2 = (parseGo ms (l.filter fun s => !defB s) j f).2.2 := by
    intro l
    induction l with
    | nil => intro i j f; exact ⟨rfl, rfl⟩
    | cons s l ih =>
      intro i j f
      cases hs : defB s with
      | true =>
        rw [List.filter_cons_of_neg (by simp [hs])]
        unfold parseGo
        rw [if_pos hs]
        have := ih (i + 1) j f
        cases hl : l.filter (fun s => !defB s) with
        | nil => rw [hl] at this; exact this
        | cons t r => rw [hl] at this; exact this
      | false =>
        rw [List.filter_cons_of_pos (by simp [hs])]
        rw [parseGo, parseGo, hs]
        simp only [Bool.false_eq_true, if_false]
        split
        · exact ⟨rfl, rfl⟩
        · exact ih _ _ _
  intro l l' i j f h
  have h1 := key l i 0 f
  have h2 := key l' j 0 f
  rw [h] at h1
  exact ⟨h1.1.trans h2.1.symm, h1.2.trans h2.2.symm⟩
theorem parseF_same {l l' : List Bs} (hn : l.length = l'.length) (hm : l.filter defB = l'.filter defB) (hr : l.filter (fun s => !defB s) = l'.filter (fun s => !defB s)) : (parseF l).1 = (parseF l').1 ∧ (parseF l).2.2 = (parseF l').2.2 := by
  have e : macsF l = macsF l' := by unfold macsF; rw [hm]
  unfold parseF
  rw [hn, e]
  split
  · exact ⟨rfl, rfl⟩
  · split
    · exact ⟨rfl, rfl⟩
    · exact parseGo_same _ _ _ _ _ _ hr
/-- the law FileOrder, plainly -/
theorem order_law (l : List Bs) : (parseF (l.filter defB ++ l.filter fun s => !defB s)).1 = (parseF ((l.filter fun s => !defB s) ++ l.filter defB)).1 ∧ (parseF (l.filter defB ++ l.filter fun s => !defB s)).2.2 = (parseF ((l.filter fun s => !defB s) ++ l.filter defB)).2.2 := by
  have a : (l.filter fun s => !defB s).filter defB = [] := by rw [List.filter_filter, List.filter_eq_nil_iff]; intro s _; cases defB s <;> simp
  have b : (l.filter defB).filter (fun s => !defB s) = [] := by rw [List.filter_filter, List.filter_eq_nil_iff]; intro s _; cases defB s <;> simp
  refine parseF_same (by rw [List.length_append, List.length_append, Nat.add_comm]) ?_ ?_
  · rw [List.filter_append, List.filter_append, a, List.append_nil, List.nil_append]
  · rw [List.filter_append, List.filter_append, b, List.append_nil, List.nil_append]
theorem parseGo_err (ms : List Mac) : ∀ (l : List Bs) (i : Nat) (f : FileV), ((parseGo ms l i f).2.2 ≠ 0 → (parseGo ms l i f).1 = file0 ∧ (parseGo ms l i f).2.1 ≤ i + l.length) ∧ ((parseGo ms l i f).2.2 = 0 → (parseGo ms l i f).2.1 = 0) := by
  intro l
  induction l with
  | nil => intro i f; exact ⟨fun h => absurd rfl h, fun _ => rfl⟩
  | cons s l ih =>
    intro i f
    unfold parseGo
    rw [List.length_cons]
    split
    · have := ih (i + 1) f
      exact ⟨fun h => ⟨(this.1 h).1, by have := (this.1 h).2; omega⟩, this.2⟩
    · split
      · rename_i h
        exact ⟨fun _ => ⟨rfl, by show i + 1 ≤ _; omega⟩, fun e => absurd e h⟩
      · have := ih (i + 1) (lineF ms s f).1
        exact ⟨fun h => ⟨(this.1 h).1, by have := (this.1 h).2; omega⟩, this.2⟩
theorem parseF_err (l : List Bs) : ((parseF l).2.2 ≠ 0 → (parseF l).1 = file0 ∧ (parseF l).2.1 ≤ l.length) ∧ ((parseF l).2.2 = 0 → (parseF l).2.1 = 0) := by
  unfold parseF
  split
  · exact ⟨fun _ => ⟨rfl, Nat.zero_le _⟩, fun _ => rfl⟩
  · split
    · exact ⟨fun _ => ⟨rfl, Nat.zero_le _⟩, fun _ => rfl⟩
    · have := parseGo_err (macsF l) l 0 { file0 with ms := macsF l }
      rw [Nat.zero_add] at this
      exact this
/-- the lines of a file -/
def linesF (f : FileV) : List Bs :=
  (f.ms.map fun m => m.1 ++ [32, 61, 32] ++ m.2) ++ (if f.ph = [] then [] else [phonyS.data.toList ++ [32, 58, 32] ++ Lib.join (lst f.ph) [32]]) ++ (f.inf.map fun x => x.1.data.toList ++ x.2.data.toList ++ [32, 58]) ++ (f.rs.map fun r => ruleT r.1 r.2)
open Classical in
/-- the check of a file -/
noncomputable def checkF (f : FileV) : Int := if (parseF (linesF f)).2.2 = 0 then (if (parseF (linesF f)).1 = f then 0 else 3) else (parseF (linesF f)).2.2
theorem checkF_zero {f : FileV} (h : checkF f = 0) : (parseF (linesF f)).2.2 = 0 ∧ (parseF (linesF f)).1 = f ∧ (parseF (linesF f)).2.1 = 0 := by
  unfold checkF at h
  split at h
  · rename_i h1
    split at h
    · rename_i h2; exact ⟨h1, h2, (parseF_err _).2 h1⟩
    · cases h
  · rename_i h1; exact absurd h h1
end Go.Proofs.YtoiolepengcagaaGreatDoor
namespace Go.Proofs.YtoiolepengcagaaGreatDoor
open Go.RowKit
theorem enc_high (r : Nat) (h : 128 ≤ r) : (∃ a b : UInt8, Utf8.encode (r : Int) = ⟨#[a, b]⟩ ∧ 128 ≤ b.toNat) ∨ (∃ a b c : UInt8, Utf8.encode (r : Int) = ⟨#[a, b, c]⟩) ∨ (∃ a b c d : UInt8, Utf8.encode (r : Int) = ⟨#[a, b, c, d]⟩) := by
  unfold Utf8.encode
  simp only
  generalize hc : (if Utf8.valid (r : Int) then (r : Int).toNat else Utf8.runeError) = c
  have hc1 : 128 ≤ c := by
    rw [← hc]
    split
    · simpa using h
    · decide
  rw [if_neg (by omega)]
  split
  · refine .inl ⟨_, _, rfl, ?_⟩
    rw [UInt8.toNat_ofNat']
    omega
  · split
    · exact .inr (.inl ⟨_, _, _, rfl⟩)
    · exact .inr (.inr ⟨_, _, _, _, rfl⟩)
set_option maxHeartbeats 1000000 in
set_option maxRecDepth 1000000 in
theorem indexRune_other (x y : UInt8) (hy : y.toNat < 128) (r : Nat) (h1 : 128 ≤ r) (h2 : r ≤ 2147483647) (w : World) (hr : ¬ r = 65533) :
    Calls Tryz.prog 34 #[.string ⟨#[x, y]⟩, .int .i32 r] w fun e w' => e = .returned (.int .i64 (-1)) ∧ Below w.heap.size w w' := by
  have hn : ¬ ((r : Int) < 128) := by omega
  have hn2 : ((r : Int) == 65533) = false := beq_eq_false_iff_ne.2 (by omega)
  go_enter Tryz.func34, Tryz.ntmps34
  go_wp2_with fail
  refine (Tryz.utf8_ValidRune (r : Int) _).mono ?_
  cases hv : Lib.validRune (r : Int)
  all_goals rintro e w' ⟨rfl, rfl⟩
  · go_wp2
    go_ret
    exact ⟨rfl, Below.refl _ _⟩
  · rcases enc_high r h1 with ⟨a, b, he, hb⟩ | ⟨a, b, c, he⟩ | ⟨a, b, c, d, he⟩
    · have hcv : ∀ u : World, (convert 21 9 (.int .i32 (r : Int))).run Tryz.prog u = .ok (.string ⟨#[a, b]⟩) u := fun u => by
        rw [run_convert_int_string u _ _ _ _ (by rw [Tryz.underlying21]; rfl) Tryz.underlying9, he]
      have hbne : ((((⟨#[x, y]⟩ : ByteArray)[1]'(by show 1 < 2; decide)).toNat : Int) != (((⟨#[a, b]⟩ : ByteArray)[1]'(by show 1 < 2; decide)).toNat : Int)) = true := by
        show ((y.toNat : Int) != (b.toNat : Int)) = true
        rw [bne_iff_ne]; omega
      clear he
      have hw2 : IntKind.i64.wrap 2 = 2 := by decide
      have hie : ∀ c : UInt8, Lib.indexByte ByteArray.empty.data.toList c = -1 := fun c => rfl
      go_wp2
      go_step3
      go_wp2
      go_loop [9] (fun i => i = .int .i64 1) (fun _ => 0)
      case atStart => rfl
      case round =>
        subst hrel
        go_wp2
        go_step3
        go_wp2
        go_quiet (fail)
        go_wp2
        go_quiet ((go_at_call 69; refine (Tryz.strings_IndexByte _ _ _).mono ?_; rintro e w'' ⟨he, hw⟩; rw [hie] at he; exact ⟨he, _, hw⟩))
        go_wp2
        simp +zetaDelta only [Exit.noGoto_ret, Exit.inBlock, Exit.then]
        go_ret
        exact ⟨rfl, ⟨rfl, rfl, rfl, Nat.le_refl _, fun _ _ => rfl⟩⟩
    · have hcv : ∀ u : World, (convert 21 9 (.int .i32 (r : Int))).run Tryz.prog u = .ok (.string ⟨#[a, b, c]⟩) u := fun u => by
        rw [run_convert_int_string u _ _ _ _ (by rw [Tryz.underlying21]; rfl) Tryz.underlying9, he]
      clear he
      go_wp2
      go_step3
      go_wp2
      go_loop [9] (fun i => i = .int .i64 2) (fun _ => 0)
      case atStart => rfl
      case round =>
        subst hrel
        go_wp2
        go_ret
        exact ⟨rfl, Below.refl _ _⟩
    · have hcv : ∀ u : World, (convert 21 9 (.int .i32 (r : Int))).run Tryz.prog u = .ok (.string ⟨#[a, b, c, d]⟩) u := fun u => by
        rw [run_convert_int_string u _ _ _ _ (by rw [Tryz.underlying21]; rfl) Tryz.underlying9, he]
      clear he
      go_wp2
      go_step3
      go_wp2
      go_loop [9] (fun i => i = .int .i64 3) (fun _ => 0)
      case atStart => rfl
      case round =>
        subst hrel
        go_wp2
        go_ret
        exact ⟨rfl, Below.refl _ _⟩
theorem bytes2_at (x y : UInt8) {i : Nat} (hi : i < 2) : ∃ h : i < (⟨#[x, y]⟩ : ByteArray).size, ((⟨#[x, y]⟩ : ByteArray)[i] = x ∨ (⟨#[x, y]⟩ : ByteArray)[i] = y) := by
  match i, hi with
  | 0, _ => exact ⟨by show 0 < 2; decide, .inl rfl⟩
  | 1, _ => exact ⟨by show 1 < 2; decide, .inr rfl⟩
set_option maxHeartbeats 1000000 in
set_option maxRecDepth 1000000 in
theorem indexRune_err (x y : UInt8) (hx : x.toNat < 128) (hy : y.toNat < 128) (w : World) :
    Calls Tryz.prog 34 #[.string ⟨#[x, y]⟩, .int .i32 65533] w fun e w' => e = .returned (.int .i64 (-1)) ∧ Below w.heap.size w w' := by
  have hsz : (⟨#[x, y]⟩ : ByteArray).size = 2 := rfl
  obtain ⟨s, hs⟩ : ∃ s : ByteArray, s = ⟨#[x, y]⟩ := ⟨_, rfl⟩
  rw [← hs] at hsz ⊢
  have HA : Hid (∀ i (h : i < s.size), s[i].toNat < 128) := by
    show ∀ i (h : i < s.size), _
    intro i h
    subst hs
    obtain ⟨_, e | e⟩ := bytes2_at x y (i := i) (by omega)
    · rw [e]; exact hx
    · rw [e]; exact hy
  clear hs hx hy hsz
  go_enter Tryz.func34, Tryz.ntmps34
  go_wp2_with fail
  go_loopg [5, 6] s.size (fun g _ _ wx => ∃ i : Nat, i + g = s.size ∧ wx = w.iter s i)
  case atStart => exact ⟨0, by omega, rfl⟩
  case round =>
    obtain ⟨i, hig, rfl⟩ := hrel
    cases gk with
    | zero =>
      obtain rfl : i = s.size := by omega
      have hnx := run_next_end (P := Tryz.prog) w s s.size
      go_wp2
      go_ret
      exact ⟨rfl, (Below.refl _ _).alloc (Nat.le_refl _) _⟩
    | succ g =>
      have hi : i < s.size := by omega
      have hx128 := HA.out i hi
      have hnx := fun ty => run_next_ascii (P := Tryz.prog) w s i ty hi hx128
      have hne : (((s[i].toNat : Nat) : Int) == 65533) = false := beq_eq_false_iff_ne.2 (by omega)
      go_wp2
      go_roundg g
      case measure => omega
      case rel => exact ⟨i + 1, by omega, rfl⟩
theorem indexRune_none (x y : UInt8) (hx : x.toNat < 128) (hy : y.toNat < 128) (r : Nat) (h1 : 128 ≤ r) (h2 : r ≤ 2147483647) (w : World) :
    Calls Tryz.prog 34 #[.string ⟨#[x, y]⟩, .int .i32 r] w fun e w' => e = .returned (.int .i64 (-1)) ∧ Below w.heap.size w w' := by
  by_cases hr : r = 65533
  · subst hr; exact indexRune_err x y hx hy w
  · exact indexRune_other x y hy r h1 h2 w hr
end Go.Proofs.YtoiolepengcagaaGreatDoor
