/- The walk of macro.newTable. Conditions: the macros read as listed; names and values are at most 2^20 bytes; the machine's MaxLen is laid. -/
import Derived.Test.YtmeenhfclnkjhaaDoorMacroNW
namespace Go.Proofs.YtmeenhfclnkjhaaDoor
open Go.RowKit Go.Shelf Go.Maps
theorem loop1_at {l : List Mac} {k : Nat} {m : Mac} (h : l[k]? = some m) (seen : List Bs) : loop1 okM seen (l.drop k) = if okM m.1 = false ∨ (prs okM m.2).2 = false then 3 else if m.1 ∈ seen then 6 else loop1 okM (m.1 :: seen) (l.drop (k + 1)) := by
  obtain ⟨hk, e⟩ := List.getElem?_eq_some_iff.1 h
  rw [List.drop_eq_getElem_cons hk, e, loop1]
theorem take_snoc {α : Type} {l : List α} {k : Nat} {m : α} (h : l[k]? = some m) : l.take (k + 1) = l.take k ++ [m] := by rw [List.take_add_one, h]; rfl
theorem tabE_1 {l : List Mac} (h : ¬ 40 < l.length) (h1 : loop1 okM [] l ≠ 0) : tabE okM l = loop1 okM [] l := by unfold tabE; rw [if_neg h, if_pos h1]
theorem tabE_5 {l : List Mac} (h : ¬ 40 < l.length) (h1 : loop1 okM [] l = 0) (h2 : Lacks okM l) : tabE okM l = 5 := by unfold tabE; rw [if_neg h, if_neg (by rw [h1]; decide), if_pos h2]
theorem tabE_8 {l : List Mac} (h : ¬ 40 < l.length) (h1 : loop1 okM [] l = 0) (h2 : ¬ Lacks okM l) (h3 : Rings okM l) : tabE okM l = 8 := by unfold tabE; rw [if_neg h, if_neg (by rw [h1]; decide), if_neg h2, if_pos h3]
theorem okM_bad {n : Bs} (h : okM n = false) : nameE (txt n) = 3 := by
  rcases nameE_cases (txt n) with h1 | h1
  · unfold okM at h; rw [h1] at h; cases h
  · exact h1
theorem okM_good {n : Bs} (h : okM n = true) : nameE (txt n) = 0 := by unfold okM at h; simpa using h
theorem prsF_call {f : Nat} : ∀ {s u : Bs}, Tok.c u ∈ (prsF okM f s).1 → okM u = true := by
  induction f with
  | zero => intro s u h; simp [prsF] at h
  | succ f ih =>
    intro s u h
    rw [prsF] at h
    split at h
    · simp at h
    · simp at h
    · split at h
      · simp only [List.mem_cons, reduceCtorEq, false_or] at h; exact ih h
      · split at h
        · split at h
          · simp at h
          · rename_i n r' _
            split at h
            · rename_i hok
              simp only [List.mem_cons, reduceCtorEq, false_or] at h
              rcases h with h | h
              · injection h with h; rw [h]; exact hok
              · exact ih h
            · simp at h
        · simp at h
theorem prs_ok_call {s u : Bs} (h : u ∈ callsOf (prs okM s).1) : okM u = true := prsF_call (callsOf_mem.1 h)
set_option maxHeartbeats 8000000 in
set_option maxRecDepth 100000 in
theorem newTable_ok (p : Option Addr) (n c : Nat) (l : List Mac) (w : World) (hR : MacsIn w p n c l) (hM : MLm w) : Calls Tryd.prog 49 #[.slice p n c] w (NewPost w l) := by
  have hl := hR.at_.len
  subst hl
  have hgl : 0 < w.heap.size := by obtain ⟨q, hq⟩ := hM; exact World.block_lt_of_cell? w _ hq
  have HN := Lib.hid (fun u (hu : Below w.heap.size w u) => hR.at_.below hu)
  have HMB := Lib.hid (fun u (hu : Below w.heap.size w u) => hM.below hu)
  have HSM := Lib.hid hR.small
  clear hR hM
  by_cases h40 : 40 < l.length
  · have HE : Hid (tabE okM l = 2) := by show _ = _; unfold tabE; rw [if_pos h40]
    have h40i : (40 : Int) < (l.length : Int) := by omega
    go_enter Tryd.func49, Tryd.ntmps49
    go_wp2
    go_ret2
    exact ⟨⟨.map none, by rw [HE.out]; rfl, .inl ⟨by rw [HE.out]; decide, rfl⟩⟩, Below.refl _ _⟩
  have h40i : ¬ (40 : Int) < (l.length : Int) := by omega
  have hmk := @run_makeMap Tryd.prog
  have HTM := Lib.hid (TabW.made w w.heap.size)
  have HW1 : Hid (Below w.heap.size w (w.alloc (.map #[] 0))) := mb1 w _
  go_enter Tryd.func49, Tryd.ntmps49
  go_wp2
  go_loopw [21] (fun i wr => ∃ (j : Nat) (eb : Bs → Nat) (uv : Bs → Value), j ≤ l.length ∧ i = .int .i64 j ∧ Hid (Below w.heap.size w wr) ∧ Hid (TabW wr w.heap.size w.heap.size (l.take j) eb uv (fun _ => 0)) ∧
    Hid (loop1 okM [] l = loop1 okM (namesM (l.take j)).reverse (l.drop j))) (fun i _ => l.length - (intOf i).toNat)
  case atStart => exact ⟨0, _, _, Nat.zero_le _, rfl, HW1, HTM, rfl⟩
  case round =>
    obtain ⟨j, eb, uv, hj, rfl, HB, HT, HL1⟩ := hrel
    by_cases hlt : j < l.length
    · have hel := List.getElem?_eq_getElem hlt
      obtain ⟨b, o, rfl, hb, c1, c2⟩ := (HN.out _ HB.out).cell hel
      have hsm := HSM.out _ (List.getElem_mem hlt)
      have HL2 := HL1.out
      rw [loop1_at hel] at HL2
      have HL3 := Lib.hid HL2
      have HTK := Lib.hid (take_snoc hel)
      rw [← Nat.add_assoc] at c2
      clear hel HL2
      generalize l[j] = m at *
      obtain ⟨m1, m2⟩ := m
      simp only [mF, mG] at c1 c2 hsm HL3 HTK
      have hji : (j : Int) < (l.length : Int) := by omega
      obtain ⟨W0, hW0⟩ : ∃ W0, W0 = wr.alloc (.cells #[.string (txt m1), .string (txt m2)] 31) := ⟨_, rfl⟩
      have hb0 : Below wr.heap.size wr W0 := by rw [hW0]; exact mb1 wr _
      have k1 : W0.cell? ⟨wr.heap.size, 0, none⟩ = some (.string (txt m1)) := by rw [hW0, World.cell?_alloc_at _ _ _ _ rfl]; rfl
      have k2 : W0.cell? ⟨wr.heap.size, 1, none⟩ = some (.string (txt m2)) := by rw [hW0, World.cell?_alloc_at _ _ _ _ rfl]; rfl
      have hs0 : wr.heap.size < W0.heap.size := by rw [hW0]; simp
      have HB0 : Hid (Below w.heap.size w W0) := HB.out.trans (hb0.mono HB.out.size)
      have HT0 := Lib.hid (HT.out.below hb0)
      have HU := Lib.hid (Uses_ok m2 hsm.2 W0 (HMB.out _ HB0.out))
      have HCK := Lib.hid (CheckN_ok (txt m1) (by rw [txt_size]; omega))
      have hwr0 := HB.out.size
      clear hb0 HT
      by_cases hok : okM m1 = true ∧ (prs okM m2).2 = true
      · obtain ⟨hok1, hok2⟩ := hok
        have HNE := Lib.hid (okM_good hok1)
        have HU2 : Hid (Calls Tryd.prog 34 #[.string (txt m2)] W0 fun e w' => (∃ v, e = .returned (.tuple #[v, .int .i64 0]) ∧ w'.ownsRow W0.heap.size 9 1 v (usesM (prs okM m2).1).length (strsV (usesM (prs okM m2).1))) ∧ Below W0.heap.size W0 w') := by
          show Calls _ _ _ _ _
          refine HU.out.mono ?_
          rintro e w' ⟨⟨v, rfl, hv⟩, hb⟩
          have hue : usesE m2 = 0 := by unfold usesE; rw [if_pos hok2]
          rw [hue] at hv ⊢
          exact ⟨⟨v, rfl, (hv.resolve_right (fun h => absurd rfl h.1)).2⟩, hb⟩
        clear HU
        have hxm : (txt m1).size ≤ maxLen := by have := okM_few hok1; rw [txt_size]; unfold maxLen; omega
        have HL4 : Hid (loop1 okM [] l = if m1 ∈ (namesM (l.take j)).reverse then 6 else loop1 okM (m1 :: (namesM (l.take j)).reverse) (l.drop (j + 1))) := by
          show _ = _
          rw [HL3.out, if_neg]
          rw [hok1, hok2]
          simp
        by_cases hin : m1 ∈ namesM (l.take j)
        · have HE : Hid (tabE okM l = 6) := by
            show _ = _
            have h6 : loop1 okM [] l = 6 := by rw [HL4.out, if_pos (List.mem_reverse.2 hin)]
            rw [tabE_1 h40 (by rw [h6]; decide), h6]
          have HIN := Lib.hid hin
          clear hok1 hok2 hin
          go_upto_region 7 with fail
          rw [← hW0]
          clear hW0
          go_wp2_with (first
            | (go_at_call 34; refine HU2.out.mono ?_; rintro e w1 ⟨⟨v, rfl, hv⟩, hb⟩; have k11 := (hb.cell (p := ⟨wr.heap.size, 0, none⟩) hs0).trans k1; obtain ⟨⟨Nn, hmp⟩, hht⟩ := (HT0.out.below hb).look HIN.out; have HMp := Lib.hid hmp; have HB1 := Lib.hid hb; clear hb hv hmp)
            | (go_at_call 43; refine (HCK.out _).mono ?_; rw [HNE.out]; rintro e w2 ⟨rfl, rfl⟩)
            | (at_lookup; refine look_p _ rfl _ _ rfl rfl HMp.out (txt m1) rfl hxm ?_; rw [hht]))
          go_ret2
          exact ⟨⟨.map none, by rw [HE.out]; rfl, .inl ⟨by rw [HE.out]; decide, rfl⟩⟩, HB0.out.trans (HB1.out.mono HB0.out.size)⟩
        · have HNI := Lib.hid hin
          have HL5 : Hid (loop1 okM [] l = loop1 okM (namesM (l.take (j + 1))).reverse (l.drop (j + 1))) := by
            show _ = _
            rw [HL4.out, if_neg (fun h => hin (List.mem_reverse.1 h)), HTK.out, namesM_snoc, List.reverse_append]
            rfl
          have hht : ptrAt (namesM (l.take j)) eb (txt m1).data.toList = nilP := by rw [txt_list]; unfold ptrAt; rw [if_neg hin]
          have hnil : nilP = .pointer none := rfl
          clear hok1 hok2 hin
          go_upto_region 7 with fail
          rw [← hW0]
          clear hW0
          go_upto_region 12 with (first
            | (go_at_call 34; refine HU2.out.mono ?_; rintro e w1 ⟨⟨v, rfl, hv⟩, hb⟩; have k11 := (hb.cell (p := ⟨wr.heap.size, 0, none⟩) hs0).trans k1; have k12 := (hb.cell (p := ⟨wr.heap.size, 1, none⟩) hs0).trans k2; have ht1 := HT0.out.below hb; obtain ⟨Nn, hmp, hnn⟩ := ht1.map; have HMp := Lib.hid hmp; have HT1 := Lib.hid ht1; have HB1 := Lib.hid hb; obtain ⟨gv, cv, rfl⟩ := mown_form hv; have HV := Lib.hid hv; clear hb hv hmp ht1)
            | (go_at_call 43; refine (HCK.out _).mono ?_; rw [HNE.out]; rintro e w2 ⟨rfl, rfl⟩)
            | (at_lookup; refine look_p _ rfl _ _ rfl rfl HMp.out (txt m1) rfl hxm ?_; rw [hht, hnil]))
          have HMA : Hid (∀ o, MapP (w1.alloc o) w.heap.size Nn (namesM (l.take j)) (ptrAt (namesM (l.take j)) eb)) := fun o => HMp.out.kept (World.grownBy_alloc _ _ none) (by simp)
          have hnl : Nn ≤ j := by rw [List.length_take] at hnn; omega
          have hnm : Nn < maxLen := by unfold maxLen; omega
          go_wp2_with (at_mapUpdate; refine store_p _ rfl _ _ _ rfl rfl (HMA.out _) hnm (txt m1) rfl hxm _ rfl ?_; intro w5 h1 h2; have HM5 := Lib.hid h1; have HG5 := Lib.hid h2; clear h1 h2)
          go_roundw
          case rel =>
            refine ⟨j + 1, updM eb m1 w1.heap.size, updM uv m1 (.slice gv (usesM (prs okM m2).1).length cv), by omega, by go_num, ?_, ?_, HL5⟩
            · have h1 := HB0.out.trans (HB1.out.mono HB0.out.size)
              exact (h1.alloc h1.size _).grown HG5.out (by have := (h1.alloc h1.size (.cells (entC m2 (.slice gv (usesM (prs okM m2).1).length cv) 0 none) 64)).size; exact this) (fun k hk => by cases hk; exact Nat.le_refl _)
            · show TabW _ _ _ _ _ _ _
              rw [HTK.out]
              have h1 := HB0.out.trans (HB1.out.mono HB0.out.size)
              refine HT1.out.more (m := (m1, m2)) HNI.out h1.size rfl (own_low HV.out HB0.out.size) HG5.out ⟨Nn + 1, ?_, by rw [List.length_take] at hnn ⊢; omega⟩
              have := HM5.out
              rw [txt_list] at this
              exact this
          case measure => simp [intOf]; omega
      · have HE : Hid (tabE okM l = 3) := by
          show _ = _
          have h3 : loop1 okM [] l = 3 := by
            rw [HL3.out, if_pos]
            by_cases h1 : okM m1 = true
            · exact .inr (by
                have : ¬ (prs okM m2).2 = true := fun h2 => hok ⟨h1, h2⟩
                simpa using this)
            · exact .inl (by simpa using h1)
          rw [tabE_1 h40 (by rw [h3]; decide), h3]
        by_cases h1 : okM m1 = true
        · have HNE := Lib.hid (okM_good h1)
          have HUE : Hid (usesE m2 = 3) := by show _ = _; unfold usesE; rw [if_neg (fun h2 => hok ⟨h1, h2⟩)]
          have HU2 : Hid (Calls Tryd.prog 34 #[.string (txt m2)] W0 fun e w' => (∃ v, e = .returned (.tuple #[v, .int .i64 3]) ∧ v = .slice none 0 0) ∧ Below W0.heap.size W0 w') := by
            show Calls _ _ _ _ _
            refine HU.out.mono ?_
            rintro e w' ⟨⟨v, rfl, hv⟩, hb⟩
            rw [HUE.out] at hv ⊢
            exact ⟨⟨v, rfl, (hv.resolve_left (fun h => absurd h.1 (by decide))).2⟩, hb⟩
          clear HU
          clear hok h1
          go_upto_region 7 with fail
          rw [← hW0]
          clear hW0
          go_wp2_with (first
            | (go_at_call 34; refine HU2.out.mono ?_; rintro e w1 ⟨⟨v, rfl, hv⟩, hb⟩; have k11 := (hb.cell (p := ⟨wr.heap.size, 0, none⟩) hs0).trans k1; have HB1 := Lib.hid hb; clear hb hv)
            | (go_at_call 43; refine (HCK.out _).mono ?_; rw [HNE.out]; rintro e w2 ⟨rfl, rfl⟩))
          go_ret2
          exact ⟨⟨.map none, by rw [HE.out]; rfl, .inl ⟨by rw [HE.out]; decide, rfl⟩⟩, HB0.out.trans (HB1.out.mono HB0.out.size)⟩
        · have HNE := Lib.hid (okM_bad (by simpa using h1))
          clear hok h1
          generalize usesE m2 = ue at *
          go_upto_region 7 with fail
          rw [← hW0]
          clear hW0
          go_wp2_with (first
            | (go_at_call 34; refine HU.out.mono ?_; rintro e w1 ⟨⟨v, rfl, hv⟩, hb⟩; have k11 := (hb.cell (p := ⟨wr.heap.size, 0, none⟩) hs0).trans k1; have HB1 := Lib.hid hb; clear hb hv)
            | (go_at_call 43; refine (HCK.out _).mono ?_; rw [HNE.out]; rintro e w2 ⟨rfl, rfl⟩))
          go_ret2
          exact ⟨⟨.map none, by rw [HE.out]; rfl, .inl ⟨by rw [HE.out]; decide, rfl⟩⟩, HB0.out.trans (HB1.out.mono HB0.out.size)⟩
    · obtain rfl : j = l.length := by omega
      have HZ : Hid (loop1 okM [] l = 0) := by show _ = _; rw [HL1.out, List.drop_length]; rfl
      rw [List.take_length] at HT
      have hz := (loop1_zero (ok := okM) l []).1 HZ.out
      have HR := Lib.hid hz.1
      have hnd := hz.2.1
      have HND := Lib.hid hnd
      clear hz HL1 hlt hj hmk HTM HW1 hnd
      have hba := HB.out.size
      generalize wr = wa at *
      go_wp2
      go_loopw [57] (fun i wr => ∃ (j : Nat), j ≤ l.length ∧ i = .int .i64 j ∧ Hid (Below wa.heap.size wa wr) ∧ Hid (∀ i m, i < j → l[i]? = some m → ∀ u ∈ callsOf (prs okM m.2).1, u ∈ namesM l)) (fun i _ => l.length - (intOf i).toNat)
      case atStart => exact ⟨0, Nat.zero_le _, rfl, Below.refl _ _, fun i m h => by omega⟩
      case round =>
        obtain ⟨j, hj, rfl, HBr, HS⟩ := hrel
        by_cases hlt : j < l.length
        · have hel := List.getElem?_eq_getElem hlt
          obtain ⟨b, o, rfl, hb, c1, c2⟩ := (HN.out _ (HB.out.trans (HBr.out.mono HB.out.size))).cell hel
          have hmem := List.getElem_mem hlt
          have HEL := Lib.hid hel
          rw [← Nat.add_assoc] at c2
          clear hel
          generalize l[j] = m at *
          obtain ⟨m1, m2⟩ := m
          have hmn : m1 ∈ namesM l := List.mem_map.2 ⟨(m1, m2), hmem, rfl⟩
          simp only [mF, mG] at c1 c2
          have hji : (j : Int) < (l.length : Int) := by omega
          have hok1 : okM m1 = true := (HR.out _ hmem).1
          have hxm : (txt m1).size ≤ maxLen := by have := okM_few hok1; rw [txt_size]; unfold maxLen; omega
          obtain ⟨W0, hW0⟩ : ∃ W0, W0 = wr.alloc (.cells #[.string (txt m1), .string (txt m2)] 31) := ⟨_, rfl⟩
          have hb0 : Below wr.heap.size wr W0 := by rw [hW0]; exact mb1 wr _
          have k1 : W0.cell? ⟨wr.heap.size, 0, none⟩ = some (.string (txt m1)) := by rw [hW0, World.cell?_alloc_at _ _ _ _ rfl]; rfl
          have HB0 : Hid (Below wa.heap.size wa W0) := HBr.out.trans (hb0.mono HBr.out.size)
          have hT0 := HT.out.below HB0.out
          obtain ⟨⟨Nn, hmp⟩, hht⟩ := hT0.look hmn
          have HMp := Lib.hid hmp
          have hent := hT0.ent _ hmem
          have hent2 : W0.heap[eb m1]? = some (.cells #[.string (txt m2), uv m1, .int .i64 0, .string (txt []), .bool false] 64 (0, 0)) := hent
          have hrow := hT0.uses _ hmem
          simp only at hrow
          obtain ⟨_, q1, _⟩ := mx5 hent2
          have HMEM := Lib.hid (fun z (hz : z ∈ usesM (prs okM m2).1) => usesM_txt hz)
          have HALL := Lib.hid (fun u (hu : u ∈ callsOf (prs okM m2).1) => usesM_mem.2 hu)
          have hul := usesM_len m2
          have hsm := (HSM.out _ hmem).2
          simp only at hsm
          have HSH : Hid (∀ u ∈ callsOf (prs okM m2).1, u ∈ namesM l ∨ u ∉ namesM l) := fun u _ => Classical.em _
          generalize hU : usesM (prs okM m2).1 = U at *
          obtain ⟨g, cv, hgc⟩ := mown_form hrow
          rw [hgc] at q1 hrow
          have HRow := Lib.hid hrow
          have HME := Lib.hid hmem
          clear hgc hrow hent hent2 hmp hT0 hb0 hmem hmn
          go_upto_region 17 with fail
          rw [← hW0]
          clear hW0
          go_wp2_with (at_lookup; refine look_p _ rfl _ _ rfl rfl HMp.out (txt m1) rfl hxm ?_; rw [hht])
          go_loopw [69] (fun i wq => ∃ (q : Nat), q ≤ U.length ∧ i = .int .i64 q ∧ wq = W0 ∧ Hid (∀ i z, i < q → U[i]? = some z → z.data.toList ∈ namesM l)) (fun i _ => U.length - (intOf i).toNat)
          case atStart => exact ⟨0, Nat.zero_le _, rfl, rfl, fun i z h => by omega⟩
          case round =>
            obtain ⟨q, hq, rfl, rfl, HQ⟩ := hrel
            by_cases hqt : q < U.length
            · have heq := List.getElem?_eq_getElem hqt
              have hrow := HRow.out
              have hg : ∃ gb, g = some ⟨gb, 0, none⟩ := by
                rcases hrow.2 with ⟨_, h⟩ | ⟨gb, cap, cur, e, _⟩
                · omega
                · injection e with e1 _ _
                  exact ⟨gb, e1⟩
              obtain ⟨gb, rfl⟩ := hg
              have hcell := hrow.cells (g := gb) rfl q (.string U[q]) (by unfold strsV; rw [List.getElem?_map, heq]; rfl)
              rw [Addr.add_lit, Nat.zero_add] at hcell
              obtain ⟨u, hzu, hu⟩ := HMEM.out U[q] (List.getElem_mem hqt)
              rw [hzu] at hcell heq
              have HEQ := Lib.hid heq
              have HUU := Lib.hid hu
              have hum : (txt u).size ≤ maxLen := by
                have h1 := HRow.out
                have := prs_ok_call hu
                have := okM_few this
                rw [txt_size]; unfold maxLen; omega
              have hqi : (q : Int) < (U.length : Int) := by omega
              clear hrow heq hzu hu
              by_cases hin : u ∈ namesM l
              · have HIN := Lib.hid hin
                have hh2 : ptrAt (namesM l) eb (txt u).data.toList = .pointer (some ⟨eb u, 0, none⟩) := by rw [txt_list]; unfold ptrAt; rw [if_pos hin]
                clear hin
                go_wp2_with (at_lookup; refine look_p _ rfl _ _ rfl rfl HMp.out (txt u) rfl hum ?_; rw [hh2])
                go_roundw
                case rel =>
                  refine ⟨q + 1, by omega, by go_num, by first | exact trivial | rfl, ?_⟩
                  show ∀ i z, _
                  intro i z hi hz
                  rcases Nat.lt_or_ge i q with g1 | g1
                  · exact HQ.out i z g1 hz
                  · have : i = q := by omega
                    subst this
                    rw [HEQ.out] at hz
                    injection hz with hz
                    rw [← hz, txt_list]; exact HIN.out
                case measure => simp [intOf]; omega
              · have HE : Hid (tabE okM l = 5) := tabE_5 h40 HZ.out ⟨(m1, m2), HME.out, u, HUU.out, hin⟩
                have hh2 : ptrAt (namesM l) eb (txt u).data.toList = .pointer none := by rw [txt_list]; unfold ptrAt; rw [if_neg hin]; rfl
                clear hin
                go_wp2_with (at_lookup; refine look_p _ rfl _ _ rfl rfl HMp.out (txt u) rfl hum ?_; rw [hh2])
                go_ret2
                exact ⟨⟨.map none, by rw [HE.out]; rfl, .inl ⟨by rw [HE.out]; decide, rfl⟩⟩, HB.out.trans (HB0.out.mono HB.out.size)⟩
            · obtain rfl : q = U.length := by omega
              go_wp2
              go_roundw
              case rel =>
                refine ⟨j + 1, by omega, by go_num, HB0, ?_⟩
                show ∀ i m, _
                intro i m hi hm u hu
                rcases Nat.lt_or_ge i j with g1 | g1
                · exact HS.out i m g1 hm u hu
                · have : i = j := by omega
                  subst this
                  rw [HEL.out] at hm
                  injection hm with hm
                  subst hm
                  obtain ⟨z, hz, hze⟩ := List.getElem_of_mem (HALL.out u hu)
                  have := HQ.out z (txt u) hz (by rw [List.getElem?_eq_getElem hz, hze])
                  rwa [txt_list] at this
              case measure => simp [intOf]; omega
        · obtain rfl : j = l.length := by omega
          have hth : ∀ m ∈ l, ∀ u ∈ callsOf (prs okM m.2).1, u ∈ namesM l := fun m hm u hu => by
            obtain ⟨i, hi, rfl⟩ := List.getElem_of_mem hm
            exact HS.out i _ hi (List.getElem?_eq_getElem hi) u hu
          have hnl : ¬ Lacks okM l := by
            rintro ⟨m, hm, u, hu, hn⟩
            exact hn (hth m hm u hu)
          have HTH := Lib.hid hth
          have HNL := Lib.hid hnl
          have HT2 := Lib.hid (HT.out.below HBr.out)
          have HB2 := Lib.hid (HB.out.trans (HBr.out.mono HB.out.size))
          have hwork := work_ok w.heap.size w.heap.size l eb uv HND.out hth (fun m hm => (HSM.out m hm).2) (fun x hx => by
            obtain ⟨m, hm, rfl⟩ := List.mem_map.1 hx
            exact okM_few (HR.out m hm).1) hgl
          have HWK := Lib.hid hwork
          clear hwork hth hnl HT HS HB HBr hlt hj
          generalize wr = wd at *
          go_wp2
          go_loopw [81] (fun i wr => ∃ (j : Nat) (st : Bs → Nat), j ≤ l.length ∧ i = .int .i64 j ∧ Hid (Below w.heap.size w wr) ∧ Hid (TabW wr w.heap.size w.heap.size l eb uv st) ∧ Hid (DoneM l st) ∧ Hid (∀ y, st y ≠ 1) ∧ Hid (∀ i m, i < j → l[i]? = some m → st m.1 = 2)) (fun i _ => l.length - (intOf i).toNat)
          case atStart => exact ⟨0, fun _ => 0, Nat.zero_le _, rfl, HB2, HT2, ⟨fun n _ h => (by cases h), fun _ => Nat.zero_le _⟩, fun y h => (by cases h), fun i m h => absurd h (Nat.not_lt_zero _)⟩
          case round =>
            obtain ⟨j, st, hj, rfl, HBj, HTj, HDj, HOj, HSj⟩ := hrel
            by_cases hlt : j < l.length
            · have hel := List.getElem?_eq_getElem hlt
              obtain ⟨b, o, rfl, hb, c1, c2⟩ := (HN.out _ HBj.out).cell hel
              have hmem := List.getElem_mem hlt
              have HEL := Lib.hid hel
              rw [← Nat.add_assoc] at c2
              clear hel
              generalize l[j] = m at *
              obtain ⟨m1, m2⟩ := m
              have hmn : m1 ∈ namesM l := List.mem_map.2 ⟨(m1, m2), hmem, rfl⟩
              simp only [mF, mG] at c1 c2
              have hji : (j : Int) < (l.length : Int) := by omega
              obtain ⟨W0, hW0⟩ : ∃ W0, W0 = wr.alloc (.cells #[.string (txt m1), .string (txt m2)] 31) := ⟨_, rfl⟩
              have hb0 : Below wr.heap.size wr W0 := by rw [hW0]; exact mb1 wr _
              have k1 : W0.cell? ⟨wr.heap.size, 0, none⟩ = some (.string (txt m1)) := by rw [hW0, World.cell?_alloc_at _ _ _ _ rfl]; rfl
              have HB0 : Hid (Below w.heap.size w W0) := HBj.out.trans (hb0.mono HBj.out.size)
              have HCall := Lib.hid (HWK.out (count0 l st) st m1 W0 (Nat.le_refl _) hmn (HTj.out.below hb0) HDj.out (fun y _ h => absurd h (HOj.out y)) (HMB.out _ HB0.out) HB0.out.size)
              clear hb0 hmem hmn
              go_upto_region 27 with fail
              rw [← hW0]
              clear hW0
              go_wp2_with fail
              refine HCall.out.mono ?_
              rintro e w2 ⟨hres, hbb⟩
              have HB2' := Lib.hid (HB0.out.trans (hbb.mono (Nat.le_refl _)))
              clear hbb
              rcases hres with ⟨st2, rfl, h1, h2, h3, h4, h5⟩ | ⟨rfl, y, hy, hyy⟩
              · have HT3 := Lib.hid h1
                have HD3 := Lib.hid h2
                have HO3 : Hid (∀ y, st2 y ≠ 1) := fun y h => HOj.out y ((h5 y).1 h)
                have HS3 : Hid (∀ i m, i < j + 1 → l[i]? = some m → st2 m.1 = 2) := by
                  show ∀ i m, _
                  intro i m hi hm
                  rcases Nat.lt_or_ge i j with g1 | g1
                  · exact h4 _ (HSj.out i m g1 hm)
                  · have : i = j := by omega
                    subst this
                    rw [HEL.out] at hm
                    injection hm with hm
                    subst hm
                    exact h3
                clear h1 h2 h3 h4 h5
                go_wp2
                go_roundw
                case rel => exact ⟨j + 1, st2, by omega, by go_num, HB2', HT3, HD3, HO3, HS3⟩
                case measure => simp [intOf]; omega
              · have HE : Hid (tabE okM l = 8) := by
                  refine tabE_8 h40 HZ.out HNL.out ?_
                  obtain ⟨m, hm, rfl⟩ := List.mem_map.1 hy
                  exact ⟨m, hm, fun ⟨a, ha⟩ => ha.no_ring hyy⟩
                clear hyy hy
                go_wp2
                go_ret2
                exact ⟨⟨.map none, by rw [HE.out]; rfl, .inl ⟨by rw [HE.out]; decide, rfl⟩⟩, HB2'.out⟩
            · obtain rfl : j = l.length := by omega
              have hall : ∀ x ∈ namesM l, st x = 2 := fun x hx => by
                obtain ⟨m, hm, rfl⟩ := List.mem_map.1 hx
                obtain ⟨i, hi, rfl⟩ := List.getElem_of_mem hm
                exact HSj.out i _ hi (List.getElem?_eq_getElem hi)
              have HE : Hid (tabE okM l = 0) := tabE_zero.2 ⟨by omega, HR.out, HND.out, HTH.out, fun m hm => ⟨_, HDj.out.1 m.1 (List.mem_map_of_mem hm) (hall _ (List.mem_map_of_mem hm))⟩⟩
              have HALL := Lib.hid hall
              clear hall
              go_wp2
              go_ret2
              exact ⟨⟨.map (some w.heap.size), by rw [HE.out]; rfl, .inr ⟨HE.out, w.heap.size, eb, uv, st, rfl, HTj.out, HALL.out⟩⟩, HBj.out⟩
end Go.Proofs.YtmeenhfclnkjhaaDoor
