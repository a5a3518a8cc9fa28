/- Texts joined: MacroRW, MacroXW, FileP, SearchLay, SearchW, Un. Conditions: theirs. -/
import Derived.Test.YtoiolepengcagaaGreatDoorGraphRightLWM3
import Derived.Laws.IdiomRangeMap
import Derived.Maps.RangeWalk
import Derived.Sort.KeysCollected
import Derived.Test.YtoiolepengcagaaGreatDoorGraphRightLWM1
import Derived.Test.YtoiolepengcagaaGreatDoorInferP
import Derived.Lib.Split
import Derived.Shelf.Spec.SearchS
import Derived.Test.YtoiolepengcagaaGreatDoorProg
import Derived.Test.YtoiolepengcagaaGreatDoorNLSetW
import Derived.Sort.Walk0
import Derived.WalkKit
import Derived.Laws.BitsAllLaws
import Derived.OpenShut
namespace Go.Proofs.YtoiolepengcagaaGreatDoor
open Go.RowKit Go.Shelf Go.Maps
/-- what flats answers -/
def FlatsPost (w : World) (l : List Mac) (e : Ending) (w' : World) : Prop :=
  (∃ v, e = .returned (.tuple #[v, .int .i64 (flatsE okM l)]) ∧ ((flatsE okM l ≠ 0 ∧ v = .map none) ∨ (flatsE okM l = 0 ∧ ∃ B eb uv st, v = .map (some B) ∧ TabW w' B w.heap.size l eb uv st ∧ ∀ n ∈ namesM l, st n = 2))) ∧ Below w.heap.size w w'
theorem sameKey_str {a b : Bs} (h : (Lit.string a).sameKey (.string b) = true) : a = b := by simpa [Lit.sameKey] using h
set_option maxHeartbeats 4000000 in
set_option maxRecDepth 100000 in
theorem flats_ok (p : Option Addr) (n c : Nat) (l : List Mac) (w : World) (hR : MacsIn w p n c l) (hM : MLm w) : Calls Tryz.prog 74 #[.slice p n c] w (FlatsPost w l) := by
  have HNew := Lib.hid (newTable_ok p n c l w hR hM)
  clear hR hM
  by_cases hE : tabE okM l = 0
  · have HN2 : Hid (Calls Tryz.prog 107 #[.slice p n c] w fun e w' => (∃ B eb uv st, e = .returned (.tuple #[.map (some B), .int .i64 0]) ∧ TabW w' B w.heap.size l eb uv st ∧ ∀ n ∈ namesM l, st n = 2) ∧ Below w.heap.size w w') := by
      show Calls _ _ _ _ _
      refine HNew.out.mono ?_
      rintro e w' ⟨⟨v, rfl, hv⟩, hb⟩
      rw [hE] at hv ⊢
      obtain ⟨_, B, eb, uv, st, rfl, h1, h2⟩ := hv.resolve_left (fun h => h.1 rfl)
      exact ⟨⟨B, eb, uv, st, rfl, h1, h2⟩, hb⟩
    have hTO := tabE_zero.1 hE
    have HTO := Lib.hid hTO
    clear HNew hE hTO
    go_enter Tryz.func74, Tryz.ntmps74
    go_upto_region 2 with (go_at_call 107; refine HN2.out.mono ?_; rintro e w1 ⟨⟨B, eb, uv, st, rfl, h1, h2⟩, hb⟩; have HT := Lib.hid h1; have HS := Lib.hid h2; have HB := Lib.hid hb; obtain ⟨Nn, ⟨D, hown, hat, hhas⟩, _⟩ := h1.map; have HO := Lib.hid hown; have HAT := Lib.hid hat; have HHS := Lib.hid hhas; clear h1 h2 hb hown hat hhas)
    go_wp2_with (at_range; refine wpList_range_own _ rfl _ 137 rfl 9 142 lawM Tryz.underlying137 rawP B Nn D rfl HO.out ?_; intro w0 hrg0 hg0 hs0; have HR0 := Lib.hid hrg0; have HG0 := Lib.hid hg0; clear hrg0 hg0)
    go_frame
    go_loopw [7] (fun _ wr => ∃ (left : Lit → Bool) (cnt : Nat), Hid (wr.ranges Tryz.prog 9 rawP B w1.heap.size Nn D left cnt) ∧ Hid (∀ kl, left kl = true → has D kl = true) ∧ Hid (∀ s ∈ namesM l, left (.string s) = false → flatF okM l s ≠ none) ∧ Hid (Below w1.heap.size w1 wr)) (fun _ wr => wr.rangeLeft B w1.heap.size)
    case atStart => exact ⟨has D, _, HR0, fun _ h => h, fun s hs h => (by rw [(HHS.out s).2 hs] at h; cases h), ⟨HG0.out.os, HG0.out.tape, HG0.out.output, HG0.out.size, fun k hk => HG0.out.block k hk (by simp)⟩⟩
    case round =>
      obtain ⟨left, cnt, HRG, HLF, HNO, HBr⟩ := hrel
      go_wp2_with (at_next; refine wpList_next_ranges _ rfl _ rfl 9 lawM rawP Value.string (fun v : Value => v) (fun key kl h => by obtain ⟨x, rfl, _⟩ := Maps.keyOf_str Tryz.underlying9 h; exact ⟨_, rfl⟩) (fun v y _ => ⟨v, rfl⟩) B w1.heap.size Nn D left cnt rfl HRG.out ?_ ?_)
      · intro _ hl0
        have HL0 := Lib.hid hl0
        clear hl0
        have hnl : ¬ Larges okM l := by
          rintro ⟨m, hm, e⟩
          exact HNO.out m.1 (List.mem_map_of_mem hm) (HL0.out _) e
        have HE0 : Hid (flatsE okM l = 0) := flatsE_zero.2 ⟨HTO.out, hnl⟩
        clear hnl
        go_wp2
        go_ret2
        refine ⟨⟨.map (some B), by rw [HE0.out]; rfl, .inr ⟨HE0.out, B, eb, uv, st, rfl, HT.out.below HBr.out, HS.out⟩⟩, HB.out.trans (HBr.out.mono HB.out.size)⟩
      · intro x cv kl y1 y2 w2 cnt2 hkey hlx hry hat hrg hlt hg hs hen
        obtain ⟨s, hxs, hkl, _⟩ := Maps.keyOf_str Tryz.underlying9 hkey
        subst hkl
        have hmem : s ∈ namesM l := (HHS.out s).1 (HLF.out _ hlx)
        have hcv : cv = .pointer (some ⟨eb s, 0, none⟩) := by
          have h1 := hat (.held nilP)
          rw [HAT.out] at h1
          have h2 : (cv : Value) = ptrAt (namesM l) eb s := by
            unfold rawP at hry
            injection hry with hry
            injection hry with h3 h4
            rw [← h3] at h1
            injection h1 with h1
            exact h1.symm
          rw [h2]
          unfold ptrAt
          rw [if_pos hmem]
        subst hcv
        have HRG2 := Lib.hid hrg
        have HB2 : Hid (Below w1.heap.size w1 w2) := HBr.out.grown hg (by have := HRG.out.lt; omega) (fun k hk => by cases hk; exact Nat.le_refl _)
        obtain ⟨m, hm, hmn⟩ := List.mem_map.1 hmem
        have hent := (HT.out.below HB2.out).ent m hm
        rw [hmn, HS.out s hmem] at hent
        have hent2 : w2.heap[eb s]? = some (.cells #[.string (txt m.2), uv s, .int .i64 2, .string (txt ((flatF okM l s).getD [])), .bool (flatF okM l s).isNone] 141 (0, 0)) := hent
        obtain ⟨_, _, _, _, q4, _⟩ := mx5 hent2
        have HM := Lib.hid hmem
        have HLT := Lib.hid hlt
        clear hkey hlx hry hat hrg hlt hg hs hent hent2 hmem hm hmn
        cases hfl : flatF okM l s with
        | none =>
          rw [hfl] at q4
          have HE2 : Hid (flatsE okM l = 2) := by
            show _ = _
            unfold flatsE
            rw [if_neg (by rw [tabE_zero.2 HTO.out]; decide), if_pos]
            obtain ⟨m, hm, hmn⟩ := List.mem_map.1 HM.out
            exact ⟨m, hm, by rw [hmn]; exact hfl⟩
          clear hfl
          go_wp2
          go_ret2
          exact ⟨⟨.map none, by rw [HE2.out]; rfl, .inl ⟨by rw [HE2.out]; decide, rfl⟩⟩, HB.out.trans (HB2.out.mono HB.out.size)⟩
        | some v =>
          rw [hfl] at q4
          have HV := Lib.hid hfl
          clear hfl
          go_wp2
          go_roundw
          case rel =>
            refine ⟨_, cnt2, HRG2, ?_, ?_, HB2⟩
            · show ∀ _, _ → _
              intro kl h
              rw [Bool.and_eq_true] at h
              exact HLF.out kl h.1
            · show ∀ s', _
              intro s' hs' h
              rw [Bool.and_eq_false_iff] at h
              rcases h with h | h
              · exact HNO.out s' hs' h
              · have e := sameKey_str (by simpa using h)
                rw [e, HV.out]
                simp
          case measure => rw [HRG2.out.left_eq, HRG.out.left_eq]; exact HLT.out
  · have HE : Hid (flatsE okM l = tabE okM l) := by show _ = _; unfold flatsE; rw [if_pos hE]
    have HN2 : Hid (Calls Tryz.prog 107 #[.slice p n c] w fun e w' => e = .returned (.tuple #[.map none, .int .i64 (tabE okM l)]) ∧ Below w.heap.size w w') := by
      show Calls _ _ _ _ _
      refine HNew.out.mono ?_
      rintro e w' ⟨⟨v, rfl, hv⟩, hb⟩
      obtain ⟨_, rfl⟩ := hv.resolve_right (fun h => hE h.1)
      exact ⟨rfl, hb⟩
    have HNE := Lib.hid hE
    clear HNew hE
    generalize tabE okM l = te at *
    have hrg : ∀ w1 : World, (Instr.range 137 (.map none)).run Tryz.prog w1 = _ := fun w1 => run_range_nilMap w1 137 9 142 Tryz.underlying137
    have hnx : ∀ (w1 : World) ty, (Instr.next (.pointer (some ⟨w1.heap.size, 0, none⟩)) false ty).run Tryz.prog (w1.alloc (.mapIter none 0 #[] 0)) = _ := fun w1 ty => run_next_nilMap w1 ty 0 0 #[]
    go_enter Tryz.func74, Tryz.ntmps74
    go_wp2_with (go_at_call 107; refine HN2.out.mono ?_; rintro e w1 ⟨rfl, hb⟩; have HB := Lib.hid hb; clear hb)
    refine wp_loop_rounds 1 ?_
    rw [rounds_succ]
    go_wp2
    go_ret2
    exact ⟨⟨.map none, by rw [HE.out]; rfl, .inl ⟨by rw [HE.out]; exact HNE.out, rfl⟩⟩, HB.out.alloc HB.out.size _⟩
end Go.Proofs.YtoiolepengcagaaGreatDoor
namespace Go.Proofs.YtoiolepengcagaaGreatDoor
open Go.RowKit Go.Shelf Go.Maps
theorem TabW.flatOn {w : World} {B lo : Nat} {l : List Mac} {eb : Bs → Nat} {uv : Bs → Value} {st : Bs → Nat} (h : TabW w B lo l eb uv st) (hs : ∀ n ∈ namesM l, st n = 2) {cs : List Bs} (hc : ∀ u ∈ cs, u ∈ namesM l) : FlatOn w B (flatF okM l) cs := by
  obtain ⟨N, h1, _⟩ := h.map
  refine ⟨N, namesM l, ptrAt (namesM l) eb, h1, fun u hu => ?_⟩
  obtain ⟨m, hm, hmn⟩ := List.mem_map.1 (hc u hu)
  have he := h.ent m hm
  rw [hmn, hs u (hc u hu)] at he
  have he2 : w.heap[eb u]? = some (.cells #[.string (txt m.2), uv u, .int .i64 2, .string (txt ((flatF okM l u).getD [])), .bool (flatF okM l u).isNone] 141 (0, 0)) := he
  obtain ⟨_, _, _, k3, k4, _⟩ := mx5 he2
  exact ⟨eb u, by unfold ptrAt; rw [if_pos (hc u hu)], k3, k4⟩
theorem expandE_bad {l : List Mac} {s : Bs} (h : flatsE okM l ≠ 0) : expandE okM l s = (flatsE okM l, []) := by unfold expandE; rw [if_pos h]
theorem expandE_3 {l : List Mac} {s : Bs} (h : flatsE okM l = 0) (h1 : (prs okM s).2 = false) : expandE okM l s = (3, []) := by unfold expandE; rw [if_neg (by rw [h]; decide)]; unfold expandR; rw [if_pos h1]
theorem expandE_5 {l : List Mac} {s : Bs} (h : flatsE okM l = 0) (h1 : (prs okM s).2 = true) (h2 : ∃ u ∈ callsOf (prs okM s).1, u ∉ namesM l) : expandE okM l s = (5, []) := by unfold expandE; rw [if_neg (by rw [h]; decide)]; unfold expandR; rw [if_neg (by rw [h1]; decide), if_pos h2]
theorem expandE_l {l : List Mac} {s : Bs} (h : flatsE okM l = 0) (h1 : (prs okM s).2 = true) (h2 : ¬ ∃ u ∈ callsOf (prs okM s).1, u ∉ namesM l) : expandE okM l s = if lrg (flatF okM l) (prs okM s).1 = true then (2, []) else (0, evalT (flatF okM l) (prs okM s).1) := by
  unfold expandE; rw [if_neg (by rw [h]; decide)]; unfold expandR; rw [if_neg (by rw [h1]; decide), if_neg h2]
set_option maxHeartbeats 4000000 in
set_option maxRecDepth 100000 in
theorem Expand_ok (p : Option Addr) (n c : Nat) (l : List Mac) (s : Bs) (w : World) (hR : MacsIn w p n c l) (hM : MLm w) (hs : s.length ≤ 1048600) :
    Calls Tryz.prog 41 #[.slice p n c, .string (txt s)] w fun e w' => e = .returned (.tuple #[.string (txt (expandE okM l s).2), .int .i64 (expandE okM l s).1]) ∧ Below w.heap.size w w' := by
  have HFl := Lib.hid (flats_ok p n c l w hR hM)
  have HMB := Lib.hid (fun u (hu : Below w.heap.size w u) => hM.below hu)
  clear hR hM
  by_cases hE : flatsE okM l = 0
  rotate_left
  · have HE := Lib.hid (expandE_bad (s := s) hE)
    have HF2 : Hid (Calls Tryz.prog 74 #[.slice p n c] w fun e w' => (∃ v, e = .returned (.tuple #[v, .int .i64 (flatsE okM l)])) ∧ Below w.heap.size w w') := by
      show Calls _ _ _ _ _
      refine HFl.out.mono ?_
      rintro e w' ⟨⟨v, rfl, _⟩, hb⟩
      exact ⟨⟨v, rfl⟩, hb⟩
    obtain ⟨e1, e2⟩ := int_ne' hE
    clear HFl hE
    generalize flatsE okM l = fe at *
    go_enter Tryz.func41, Tryz.ntmps41
    go_wp2_with (go_at_call 74; refine HF2.out.mono ?_; rintro e w1 ⟨⟨v, rfl⟩, hb⟩; have HB := Lib.hid hb; clear hb)
    go_ret2
    exact ⟨by rw [HE.out]; rfl, HB.out⟩
  have HF2 : Hid (Calls Tryz.prog 74 #[.slice p n c] w fun e w' => (∃ B eb uv st, e = .returned (.tuple #[.map (some B), .int .i64 0]) ∧ TabW w' B w.heap.size l eb uv st ∧ ∀ n ∈ namesM l, st n = 2) ∧ Below w.heap.size w w') := by
    show Calls _ _ _ _ _
    refine HFl.out.mono ?_
    rintro e w' ⟨⟨v, rfl, hv⟩, hb⟩
    rw [hE] at hv ⊢
    obtain ⟨_, B, eb, uv, st, rfl, h1, h2⟩ := hv.resolve_left (fun h => h.1 rfl)
    exact ⟨⟨B, eb, uv, st, rfl, h1, h2⟩, hb⟩
  have HFE := Lib.hid hE
  have hul := usesM_len s
  clear HFl hE
  cases hp : (prs okM s).2
  · have HE := Lib.hid (expandE_3 HFE.out hp)
    have hue : usesE s = 3 := by unfold usesE; rw [hp]; rfl
    have HU : Hid (∀ w1, MLm w1 → Calls Tryz.prog 75 #[.string (txt s)] w1 fun e w' => (∃ v, e = .returned (.tuple #[v, .int .i64 3])) ∧ Below w1.heap.size w1 w') := by
      show ∀ _, _ → _
      intro w1 hM
      refine (Uses_ok s hs w1 hM).mono ?_
      rintro e w' ⟨⟨v, rfl, _⟩, hb⟩
      rw [hue]
      exact ⟨⟨v, rfl⟩, hb⟩
    clear hp hue
    go_enter Tryz.func41, Tryz.ntmps41
    go_wp2_with (first
      | (go_at_call 74; refine HF2.out.mono ?_; rintro e w1 ⟨⟨B, eb, uv, st, rfl, _, _⟩, hb⟩; have HB := Lib.hid hb; clear hb)
      | (go_at_call 75; refine (HU.out _ (HMB.out _ HB.out)).mono ?_; rintro e w2 ⟨⟨v, rfl⟩, hb⟩; have HB2 := Lib.hid (HB.out.trans (hb.mono HB.out.size)); clear hb))
    go_ret2
    exact ⟨by rw [HE.out]; rfl, HB2.out⟩
  have hue : usesE s = 0 := by unfold usesE; rw [hp]; rfl
  have HU : Hid (∀ w1, MLm w1 → Calls Tryz.prog 75 #[.string (txt s)] w1 fun e w' => (∃ v, e = .returned (.tuple #[v, .int .i64 0]) ∧ w'.ownsRow w1.heap.size 9 1 v (usesM (prs okM s).1).length (strsV (usesM (prs okM s).1))) ∧ Below w1.heap.size w1 w') := by
    show ∀ _, _ → _
    intro w1 hM
    refine (Uses_ok s hs w1 hM).mono ?_
    rintro e w' ⟨⟨v, rfl, hv⟩, hb⟩
    rw [hue] at hv ⊢
    exact ⟨⟨v, rfl, (hv.resolve_right (fun h => h.1 rfl)).2⟩, hb⟩
  have HP := Lib.hid hp
  have HMEM := Lib.hid (fun z (hz : z ∈ usesM (prs okM s).1) => usesM_txt hz)
  have HALL := Lib.hid (fun u (hu : u ∈ callsOf (prs okM s).1) => usesM_mem.2 hu)
  clear hp hue
  generalize hU : usesM (prs okM s).1 = U at *
  go_enter Tryz.func41, Tryz.ntmps41
  go_wp2_with (first
    | (go_at_call 74; refine HF2.out.mono ?_; rintro e w1 ⟨⟨B, eb, uv, st, rfl, h1, h2⟩, hb⟩; have HT := Lib.hid h1; have HS := Lib.hid h2; have HB := Lib.hid hb; clear hb h1 h2)
    | (go_at_call 75; refine (HU.out _ (HMB.out _ HB.out)).mono ?_; rintro e w2 ⟨⟨v, rfl, hv⟩, hb⟩; obtain ⟨g, cv, rfl⟩ := mown_form hv; have HV := Lib.hid hv; have HT2 := Lib.hid (HT.out.below hb); have HB2 := Lib.hid (HB.out.trans (hb.mono HB.out.size)); clear hb hv))
  go_loopw [31] (fun i wq => ∃ (q : Nat), q ≤ U.length ∧ i = .int .i64 q ∧ wq = w2 ∧ Hid (∀ i z, i < q → U[i]? = some z → z.data.toList ∈ namesM l)) (fun i _ => U.length - (intOf i).toNat)
  case atStart => exact ⟨0, Nat.zero_le _, rfl, rfl, fun i z h => absurd h (Nat.not_lt_zero _)⟩
  case round =>
    obtain ⟨q, hq, rfl, rfl, HQ⟩ := hrel
    by_cases hqt : q < U.length
    · have heq := List.getElem?_eq_getElem hqt
      have hrow := HV.out
      have hg : ∃ gb, g = some ⟨gb, 0, none⟩ := by
        rcases hrow.2 with ⟨_, h⟩ | ⟨gb, cap, cur, e, _⟩
        · omega
        · injection e with e1 _ _
          exact ⟨gb, e1⟩
      obtain ⟨gb, rfl⟩ := hg
      have hcell := hrow.cells (g := gb) rfl q (.string U[q]) (by unfold strsV; rw [List.getElem?_map, heq]; rfl)
      rw [Addr.add_lit, Nat.zero_add] at hcell
      obtain ⟨u, hzu, hu⟩ := HMEM.out U[q] (List.getElem_mem hqt)
      rw [hzu] at hcell heq
      have HEQ := Lib.hid heq
      have HUU := Lib.hid hu
      have hum : (txt u).size ≤ maxLen := by
        have := okM_few (prs_ok_call hu)
        rw [txt_size]; unfold maxLen; omega
      have hqi : (q : Int) < (U.length : Int) := by omega
      obtain ⟨N, hmp, _⟩ := HT2.out.map
      have HMp := Lib.hid hmp
      clear hrow heq hzu hu hmp
      by_cases hin : u ∈ namesM l
      · have HIN := Lib.hid hin
        have hh2 : ptrAt (namesM l) eb (txt u).data.toList = .pointer (some ⟨eb u, 0, none⟩) := by rw [txt_list]; unfold ptrAt; rw [if_pos hin]
        clear hin
        go_wp2_with (at_lookup; refine look_p _ rfl _ _ rfl rfl HMp.out (txt u) rfl hum ?_; rw [hh2])
        go_roundw
        case rel =>
          refine ⟨q + 1, by omega, by go_num, by first | exact trivial | rfl, ?_⟩
          show ∀ i z, _
          intro i z hi hz
          rcases Nat.lt_or_ge i q with g1 | g1
          · exact HQ.out i z g1 hz
          · have : i = q := by omega
            subst this
            rw [HEQ.out] at hz
            injection hz with hz
            rw [← hz, txt_list]; exact HIN.out
        case measure => simp [intOf]; omega
      · have HE := Lib.hid (expandE_5 HFE.out HP.out ⟨u, HUU.out, hin⟩)
        have hh2 : ptrAt (namesM l) eb (txt u).data.toList = .pointer none := by rw [txt_list]; unfold ptrAt; rw [if_neg hin]; rfl
        clear hin
        go_wp2_with (at_lookup; refine look_p _ rfl _ _ rfl rfl HMp.out (txt u) rfl hum ?_; rw [hh2])
        go_ret2
        exact ⟨by rw [HE.out]; rfl, HB2.out⟩
    · obtain rfl : q = U.length := by omega
      have hall : ∀ u ∈ callsOf (prs okM s).1, u ∈ namesM l := fun u hu => by
        obtain ⟨z, hz, hze⟩ := List.getElem_of_mem (HALL.out u hu)
        have := HQ.out z (txt u) hz (by rw [List.getElem?_eq_getElem hz, hze])
        rwa [txt_list] at this
      have HEL := Lib.hid (expandE_l HFE.out HP.out (fun ⟨u, hu, hn⟩ => hn (hall u hu)))
      have HFt := Lib.hid (flat_ok B (flatF okM l) s _ hs (HMB.out _ HB2.out) (HT2.out.flatOn HS.out hall))
      clear hall
      cases hl : lrg (flatF okM l) (prs okM s).1
      · have hc : cmb (flatF okM l) (prs okM s).1 = some (evalT (flatF okM l) (prs okM s).1) := by unfold cmb; rw [hl]; rfl
        rw [hc] at HFt
        rw [hl] at HEL
        clear hl hc
        go_wp2_with (go_at_call 76; refine HFt.out.mono ?_; rintro e w3 ⟨rfl, hb⟩; have HB3 := Lib.hid hb; clear hb)
        go_ret2
        exact ⟨by rw [HEL.out]; rfl, HB2.out.trans (HB3.out.mono HB2.out.size)⟩
      · have hc : cmb (flatF okM l) (prs okM s).1 = none := by unfold cmb; rw [hl]; rfl
        rw [hc] at HFt
        rw [hl] at HEL
        clear hl hc
        go_wp2_with (go_at_call 76; refine HFt.out.mono ?_; rintro e w3 ⟨rfl, hb⟩; have HB3 := Lib.hid hb; clear hb)
        go_ret2
        exact ⟨by rw [HEL.out]; rfl, HB2.out.trans (HB3.out.mono HB2.out.size)⟩
end Go.Proofs.YtoiolepengcagaaGreatDoor
namespace Go.Proofs.YtoiolepengcagaaGreatDoor
structure FileV where
  ms : List Mac
  ph : List ByteArray
  inf : List Inf
  rs : List (List ByteArray × List ByteArray)
def file0 : FileV := ⟨[], [], [], []⟩
/-- the first place of one of two bytes -/
def fst2 (x y : UInt8) : Bs → Option Nat
  | [] => none
  | c :: l => if c = x ∨ c = y then some 0 else (fst2 x y l).map (· + 1)
theorem fst2_none {x y : UInt8} {l : Bs} : fst2 x y l = none ↔ ∀ c ∈ l, c ≠ x ∧ c ≠ y := by
  induction l with
  | nil => simp [fst2]
  | cons c l ih =>
    unfold fst2
    split
    · rename_i h
      constructor
      · intro e; cases e
      · intro h2; have := h2 c List.mem_cons_self; rcases h with e | e
        · exact absurd e this.1
        · exact absurd e this.2
    · rename_i h
      rw [Option.map_eq_none_iff, ih]
      constructor
      · intro h2 d hd
        rcases List.mem_cons.1 hd with rfl | hd
        · exact ⟨fun e => h (.inl e), fun e => h (.inr e)⟩
        · exact h2 d hd
      · exact fun h2 d hd => h2 d (List.mem_cons_of_mem _ hd)
theorem fst2_some {x y : UInt8} {l : Bs} {k : Nat} (h : fst2 x y l = some k) : (∃ c, l[k]? = some c ∧ (c = x ∨ c = y)) ∧ ∀ j, j < k → ∀ c, l[j]? = some c → c ≠ x ∧ c ≠ y := by
  induction l generalizing k with
  | nil => cases h
  | cons c l ih =>
    unfold fst2 at h
    split at h
    · rename_i h2
      obtain rfl : 0 = k := by simpa using h
      exact ⟨⟨c, rfl, h2⟩, fun j hj => absurd hj (Nat.not_lt_zero _)⟩
    · rename_i h2
      rw [Option.map_eq_some_iff] at h
      obtain ⟨m, hm, rfl⟩ := h
      obtain ⟨h3, h4⟩ := ih hm
      refine ⟨by simpa using h3, fun j hj d hd => ?_⟩
      cases j with
      | zero =>
        obtain rfl : c = d := by simpa using hd
        exact ⟨fun e => h2 (.inl e), fun e => h2 (.inr e)⟩
      | succ j => exact h4 j (by omega) d (by simpa using hd)
/-- does a line define a macro? -/
def defB (s : Bs) : Bool := match fst2 61 58 s with
  | none => false
  | some k => s[k]? == some 61
theorem index_first {c : UInt8} {l : Bs} {k : Nat} (h1 : l[k]? = some c) (h2 : ∀ j, j < k → ∀ d, l[j]? = some d → d ≠ c) : Lib.indexByte l c = k := by
  induction l generalizing k with
  | nil => simp at h1
  | cons b l ih =>
    unfold Lib.indexByte
    cases k with
    | zero =>
      obtain rfl : b = c := by simpa using h1
      simp
    | succ k =>
      have hb : b ≠ c := h2 0 (by omega) b rfl
      have := ih (k := k) (by simpa using h1) (fun j hj d hd => h2 (j + 1) (by omega) d (by simpa using hd))
      rw [this]
      have e : (b == c) = false := by simpa using hb
      simp [hb]
      all_goals omega
/-- the macro that it defines -/
def defM (s : Bs) : Mac := (Lib.trimS (s.take (Lib.indexByte s 61).toNat) [32, 9], Lib.trimS (s.drop ((Lib.indexByte s 61).toNat + 1)) [32, 9])
theorem defB_at {s : Bs} (h : defB s = true) : ∃ k, fst2 61 58 s = some k ∧ s[k]? = some 61 ∧ Lib.indexByte s 61 = k := by
  unfold defB at h
  split at h
  · cases h
  · rename_i k hk
    have h1 : s[k]? = some 61 := by simpa using h
    exact ⟨k, hk, h1, index_first h1 fun j hj d hd => ((fst2_some hk).2 j hj d hd).1⟩
/-- a pair of suffixes -/
def partsB (s : ByteArray) : List ByteArray := Lib.splitB ⟨#[46]⟩ 0 (Lib.countB s ⟨#[46]⟩) s
def pairB (s : ByteArray) : Bool := decide ((partsB s).length = 3) && ((partsB s).getD 0 ByteArray.empty).toList.isEmpty && !((partsB s).getD 1 ByteArray.empty).toList.isEmpty && !((partsB s).getD 2 ByteArray.empty).toList.isEmpty && !Lib.contains s.data.toList [47]
def pairI (s : ByteArray) : Inf := ((⟨#[46]⟩ : ByteArray) ++ (partsB s).getD 1 ByteArray.empty, (⟨#[46]⟩ : ByteArray) ++ (partsB s).getD 2 ByteArray.empty)
def phonyS : ByteArray := ⟨#[46, 80, 72, 79, 78, 89]⟩
def addP (P : List ByteArray) (N : List ByteArray) : List ByteArray := N.foldl (fun P n => if Lib.containsS P n = true then P else P ++ [n]) P
theorem addP_snoc (P N : List ByteArray) (n : ByteArray) : addP P (N ++ [n]) = if Lib.containsS (addP P N) n = true then addP P N else addP P N ++ [n] := by
  unfold addP
  rw [List.foldl_append]
  rfl
/-- a rule put into a file -/
def addF (f : FileV) (T N : List ByteArray) : FileV × Int :=
  if Lib.containsS T phonyS = true then
    if 1 < T.length then (f, 3) else ({ f with ph := addP f.ph N }, if 20 < (addP f.ph N).length then 2 else 0)
  else if pairB (T.getD 0 ByteArray.empty) = true ∧ T.length = 1 ∧ N.length = 0 then
    ({ f with inf := if hasI f.inf (pairI (T.getD 0 ByteArray.empty)) = true then f.inf else f.inf ++ [pairI (T.getD 0 ByteArray.empty)] }, 0)
  else ({ f with rs := f.rs ++ [(T, N)] }, if 100 < (f.rs ++ [(T, N)]).length then 2 else 0)
noncomputable def lineF (ms : List Mac) (s : Bs) (f : FileV) : FileV × Int :=
  if (expandE okM ms s).1 ≠ 0 then (f, (expandE okM ms s).1)
  else if parseE (expandE okM ms s).2 ≠ 0 then (f, parseE (expandE okM ms s).2)
  else addF f (parseT (expandE okM ms s).2) (parseN (expandE okM ms s).2)
noncomputable def parseGo (ms : List Mac) : List Bs → Nat → FileV → FileV × Nat × Int
  | [], _, f => (f, 0, 0)
  | s :: l, i, f => if defB s = true then parseGo ms l (i + 1) f else if (lineF ms s f).2 ≠ 0 then (file0, i + 1, (lineF ms s f).2) else parseGo ms l (i + 1) (lineF ms s f).1
def macsF (l : List Bs) : List Mac := (l.filter defB).map defM
noncomputable def parseF (l : List Bs) : FileV × Nat × Int :=
  if 200 < l.length then (file0, 0, 2) else if flatsE okM (macsF l) ≠ 0 then (file0, 0, flatsE okM (macsF l)) else parseGo (macsF l) l 0 { file0 with ms := macsF l }
theorem parseGo_same (ms : List Mac) : ∀ (l l' : List Bs) (i j : Nat) (f : FileV), l.filter (fun s => !defB s) = l'.filter (fun s => !defB s) → (parseGo ms l i f).1 = (parseGo ms l' j f).1 ∧ (parseGo ms l i f).2.2 = (parseGo ms l' j f).2.2 := by
  have key : ∀ (l : List Bs) (i j : Nat) (f : FileV), (parseGo ms l i f).1 = (parseGo ms (l.filter fun s => !defB s) j f).1 ∧ (parseGo ms l i f).2.2 = (parseGo ms (l.filter fun s => !defB s) j f).2.2 := by
    intro l
    induction l with
    | nil => intro i j f; exact ⟨rfl, rfl⟩
    | cons s l ih =>
      intro i j f
      cases hs : defB s with
      | true =>
        rw [List.filter_cons_of_neg (by simp [hs])]
        unfold parseGo
        rw [if_pos hs]
        have := ih (i + 1) j f
        cases hl : l.filter (fun s => !defB s) with
        | nil => rw [hl] at this; exact this
        | cons t r => rw [hl] at this; exact this
      | false =>
        rw [List.filter_cons_of_pos (by simp [hs])]
        rw [parseGo, parseGo, hs]
        simp only [Bool.false_eq_true, if_false]
        split
        · exact ⟨rfl, rfl⟩
        · exact ih _ _ _
  intro l l' i j f h
  have h1 := key l i 0 f
  have h2 := key l' j 0 f
  rw [h] at h1
  exact ⟨h1.1.trans h2.1.symm, h1.2.trans h2.2.symm⟩
theorem parseF_same {l l' : List Bs} (hn : l.length = l'.length) (hm : l.filter defB = l'.filter defB) (hr : l.filter (fun s => !defB s) = l'.filter (fun s => !defB s)) : (parseF l).1 = (parseF l').1 ∧ (parseF l).2.2 = (parseF l').2.2 := by
  have e : macsF l = macsF l' := by unfold macsF; rw [hm]
  unfold parseF
  rw [hn, e]
  split
  · exact ⟨rfl, rfl⟩
  · split
    · exact ⟨rfl, rfl⟩
    · exact parseGo_same _ _ _ _ _ _ hr
/-- the law FileOrder, plainly -/
theorem order_law (l : List Bs) : (parseF (l.filter defB ++ l.filter fun s => !defB s)).1 = (parseF ((l.filter fun s => !defB s) ++ l.filter defB)).1 ∧ (parseF (l.filter defB ++ l.filter fun s => !defB s)).2.2 = (parseF ((l.filter fun s => !defB s) ++ l.filter defB)).2.2 := by
  have a : (l.filter fun s => !defB s).filter defB = [] := by rw [List.filter_filter, List.filter_eq_nil_iff]; intro s _; cases defB s <;> simp
  have b : (l.filter defB).filter (fun s => !defB s) = [] := by rw [List.filter_filter, List.filter_eq_nil_iff]; intro s _; cases defB s <;> simp
  refine parseF_same (by rw [List.length_append, List.length_append, Nat.add_comm]) ?_ ?_
  · rw [List.filter_append, List.filter_append, a, List.append_nil, List.nil_append]
  · rw [List.filter_append, List.filter_append, b, List.append_nil, List.nil_append]
theorem parseGo_err (ms : List Mac) : ∀ (l : List Bs) (i : Nat) (f : FileV), ((parseGo ms l i f).2.2 ≠ 0 → (parseGo ms l i f).1 = file0 ∧ (parseGo ms l i f).2.1 ≤ i + l.length) ∧ ((parseGo ms l i f).2.2 = 0 → (parseGo ms l i f).2.1 = 0) := by
  intro l
  induction l with
  | nil => intro i f; exact ⟨fun h => absurd rfl h, fun _ => rfl⟩
  | cons s l ih =>
    intro i f
    unfold parseGo
    rw [List.length_cons]
    split
    · have := ih (i + 1) f
      exact ⟨fun h => ⟨(this.1 h).1, by have := (this.1 h).2; omega⟩, this.2⟩
    · split
      · rename_i h
        exact ⟨fun _ => ⟨rfl, by show i + 1 ≤ _; omega⟩, fun e => absurd e h⟩
      · have := ih (i + 1) (lineF ms s f).1
        exact ⟨fun h => ⟨(this.1 h).1, by have := (this.1 h).2; omega⟩, this.2⟩
theorem parseF_err (l : List Bs) : ((parseF l).2.2 ≠ 0 → (parseF l).1 = file0 ∧ (parseF l).2.1 ≤ l.length) ∧ ((parseF l).2.2 = 0 → (parseF l).2.1 = 0) := by
  unfold parseF
  split
  · exact ⟨fun _ => ⟨rfl, Nat.zero_le _⟩, fun _ => rfl⟩
  · split
    · exact ⟨fun _ => ⟨rfl, Nat.zero_le _⟩, fun _ => rfl⟩
    · have := parseGo_err (macsF l) l 0 { file0 with ms := macsF l }
      rw [Nat.zero_add] at this
      exact this
/-- the lines of a file -/
def linesF (f : FileV) : List Bs :=
  (f.ms.map fun m => m.1 ++ [32, 61, 32] ++ m.2) ++ (if f.ph = [] then [] else [phonyS.data.toList ++ [32, 58, 32] ++ Lib.join (lsB f.ph) [32]]) ++ (f.inf.map fun x => x.1.data.toList ++ x.2.data.toList ++ [32, 58]) ++ (f.rs.map fun r => ruleT r.1 r.2)
open Classical in
/-- the check of a file -/
noncomputable def checkF (f : FileV) : Int := if (parseF (linesF f)).2.2 = 0 then (if (parseF (linesF f)).1 = f then 0 else 3) else (parseF (linesF f)).2.2
theorem checkF_zero {f : FileV} (h : checkF f = 0) : (parseF (linesF f)).2.2 = 0 ∧ (parseF (linesF f)).1 = f ∧ (parseF (linesF f)).2.1 = 0 := by
  unfold checkF at h
  split at h
  · rename_i h1
    split at h
    · rename_i h2; exact ⟨h1, h2, (parseF_err _).2 h1⟩
    · cases h
  · rename_i h1; exact absurd h h1
end Go.Proofs.YtoiolepengcagaaGreatDoor
namespace Go.Proofs
open Go.Shelf Go.RowKit
def Tryz.laysBs_ren : Go.Shelf.Ren := ⟨fun | 26 => 57 | 33 => 94 | 34 => 95 | 38 => 96 | n => n, fun | 0 => 0 | 3 => 3 | 4 => 4 | 9 => 9 | 24 => 23 | 40 => 132 | n => n, fun | n => n⟩
theorem Tryz.laysBs : Go.Proofs.Lays2.n26 Tryz.prog Tryz.laysBs_ren := {
  mixed := by kernel_rfl
  f26 := Tryz.func57.trans (congrArg some (by kernel_rfl))
  f33 := Tryz.func94.trans (congrArg some (by kernel_rfl))
  f34 := Tryz.func95.trans (congrArg some (by kernel_rfl))
  f38 := Tryz.func96.trans (congrArg some (by kernel_rfl))
  t0 := Tryz.underlying0
  a0 := Tryz.isAgg0
  z0 := Tryz.sizeOf0
  v0 := Tryz.zeroValue0
  t3 := Tryz.underlying3
  a3 := Tryz.isAgg3
  z3 := Tryz.sizeOf3
  v3 := Tryz.zeroValue3
  t4 := Tryz.underlying4
  a4 := Tryz.isAgg4
  z4 := Tryz.sizeOf4
  v4 := Tryz.zeroValue4
  t9 := Tryz.underlying9
  a9 := Tryz.isAgg9
  z9 := Tryz.sizeOf9
  v9 := Tryz.zeroValue9
  t24 := Tryz.underlying23
  a24 := Tryz.isAgg23
  z24 := Tryz.sizeOf23
  v24 := Tryz.zeroValue23
  t40 := Tryz.underlying132
  a40 := Tryz.isAgg132
  z40 := Tryz.sizeOf132
  v40 := Tryz.zeroValue132 }
end Go.Proofs
namespace Go.Proofs.YtoiolepengcagaaGreatDoor
open Go.RowKit Go.Shelf
/-- where a falling test falls -/
theorem falls (less : Nat → Bool) : ∀ n, ∃ k, k ≤ n ∧ (∀ t, t < k → less t = true) ∧ (k = n ∨ less k = false)
  | 0 => ⟨0, Nat.le_refl _, fun t ht => by omega, .inl rfl⟩
  | n + 1 => by
    obtain ⟨k, h1, h2, h3⟩ := falls less n
    rcases h3 with rfl | h3
    · cases h : less k
      · exact ⟨k, by omega, h2, .inr h⟩
      · exact ⟨k + 1, Nat.le_refl _, fun t ht => by
          rcases Nat.lt_or_ge t k with g | g
          · exact h2 t g
          · rw [show t = k from by omega]; exact h, .inl rfl⟩
    · exact ⟨k, by omega, h2, .inr h3⟩
def Rise (ls : List ByteArray) : Prop := ∀ i j, i < j → j < ls.length → (ls.getD i ByteArray.empty).data.toList < (ls.getD j ByteArray.empty).data.toList
theorem rise_sorted (zs : List ByteArray) : Rise (bz (sortN zs)) := by
  intro i j hij hj
  have h2 := sortN_strict zs
  have h1 : sortN zs = byt (bz (sortN zs)) := (byt_bz _).symm
  rw [h1] at h2
  have h3 := List.pairwise_iff_getElem.1 h2 i j (by rw [byt_len]; omega) (by rw [byt_len]; omega) hij
  unfold byt at h3
  rw [List.getElem_map, List.getElem_map] at h3
  rw [List.getD_eq_getElem?_getD, List.getD_eq_getElem?_getD, List.getElem?_eq_getElem hj, List.getElem?_eq_getElem (by omega : i < (bz (sortN zs)).length)]
  exact h3
theorem ba_ext {x y : ByteArray} (h : x.data.toList = y.data.toList) : x = y := by
  cases x; cases y
  exact congrArg ByteArray.mk (Array.toList_inj.1 h)
/-- what the search answers -/
def Found (ls : List ByteArray) (x : ByteArray) (k : Nat) (b : Bool) : Prop := (b = true ∧ k < ls.length ∧ ls.getD k ByteArray.empty = x) ∨ (b = false ∧ Lib.containsS ls x = false)
theorem getD_else {ls : List ByteArray} {t : Nat} (x : ByteArray) (h : t < ls.length) : ls.getD t x = ls.getD t ByteArray.empty := by
  rw [List.getD_eq_getElem?_getD, List.getD_eq_getElem?_getD, List.getElem?_eq_getElem h]; rfl
theorem search_plain (ls : List ByteArray) (x : ByteArray) (hr : Rise ls) :
    Found ls x (Lib.bsGo (fun t => Op.bytesLess (ls.getD t x).toList x.toList) ls.length 0 ls.length) (decide (Lib.bsGo (fun t => Op.bytesLess (ls.getD t x).toList x.toList) ls.length 0 ls.length < ls.length ∧ ls.getD (Lib.bsGo (fun t => Op.bytesLess (ls.getD t x).toList x.toList) ls.length 0 ls.length) x = x)) := by
  obtain ⟨k, h1, h2, h3⟩ := falls (fun t => Op.bytesLess (ls.getD t x).toList x.toList) ls.length
  have hlt : ∀ t, Op.bytesLess (ls.getD t x).toList x.toList = decide ((ls.getD t x).data.toList < x.data.toList) := fun t => by rw [Proofs.bytesLess_eq, Lib.toList_data, Lib.toList_data]
  have hge : ∀ t, k ≤ t → Op.bytesLess (ls.getD t x).toList x.toList = false := by
    intro t ht
    rw [hlt, decide_eq_false_iff_not]
    rcases Nat.lt_or_ge t ls.length with h | h
    · rcases h3 with h3 | h3
      · omega
      · rw [hlt, decide_eq_false_iff_not] at h3
        rcases Nat.lt_or_ge k t with h4 | h4
        · have h5 := hr k t h4 h
          rw [getD_else x (by omega)] at h3
          rw [getD_else x h]
          intro h6
          exact h3 (List.lt_trans h5 h6)
        · rw [show t = k from by omega]; exact h3
    · rw [List.getD_eq_getElem?_getD, List.getElem?_eq_none h]
      exact fun h6 => lt_irr h6
  have hk : Lib.bsGo (fun t => Op.bytesLess (ls.getD t x).toList x.toList) ls.length 0 ls.length = k := Lib.bsGo_spec _ k h2 hge _ _ _ (by omega) (Nat.zero_le _) h1
  rw [hk]
  by_cases hx : k < ls.length ∧ ls.getD k x = x
  · exact .inl ⟨decide_eq_true hx, hx.1, by rw [← getD_else x hx.1]; exact hx.2⟩
  · refine .inr ⟨decide_eq_false hx, ?_⟩
    rw [Bool.eq_false_iff]
    intro hc
    obtain ⟨j, hj, e⟩ := List.mem_iff_getElem.1 (has_iff.1 hc)
    have hjx : ls.getD j x = x := by rw [List.getD_eq_getElem?_getD, List.getElem?_eq_getElem hj]; exact e
    rcases Nat.lt_trichotomy j k with h | h | h
    · have := h2 j h
      simp only [hjx] at this
      rw [Proofs.bytesLess_eq, decide_eq_true_eq] at this
      exact lt_irr this
    · exact hx ⟨by omega, by rw [← h]; exact hjx⟩
    · have h5 := hr k j h hj
      rw [← getD_else x hj, hjx, ← getD_else x (by omega)] at h5
      have := hge k (Nat.le_refl _)
      rw [hlt, decide_eq_false_iff_not] at this
      exact this h5
theorem search_ok {w : World} {p : Option Addr} {n c : Nat} {ls : List ByteArray} (h : NL w p n c ls) (hr : Rise ls) (x : ByteArray) :
    Calls Tryz.prog 57 #[.slice p n c, .string x] w fun e w' => (∃ (k : Nat) (b : Bool), e = .returned (.tuple #[.int .i64 k, .bool b]) ∧ Found ls x k b) ∧ ∃ q, w' = w.drewN q := by
  have hl := h.at_.len
  have hb := h.at_.big
  subst hl
  rcases Nat.eq_zero_or_pos ls.length with h0 | h0
  · have : ls = [] := List.length_eq_zero_iff.1 h0
    subst this
    refine (Any2.slices_BinarySearch_string_empty Tryz.laysBs p c x w).mono ?_
    rintro e w' ⟨rfl, rfl⟩
    exact ⟨⟨0, false, rfl, .inr ⟨rfl, by rfl⟩⟩, 0, rfl⟩
  · obtain ⟨ad, rfl, _⟩ := h.at_.reads.2 h0
    obtain ⟨b, o, rfl, _⟩ := h.plain _ rfl
    refine (Any2.slices_BinarySearch_string Tryz.laysBs b o ls.length c (fun t => ls.getD t x) x w (by omega) (fun j hj => ?_)).mono ?_
    · rw [h.cellAt j hj, getD_else x hj]
    · rintro e w' ⟨rfl, hq⟩
      exact ⟨⟨_, _, rfl, search_plain ls x hr⟩, hq⟩
end Go.Proofs.YtoiolepengcagaaGreatDoor
namespace Go.Proofs.YtoiolepengcagaaGreatDoor
open Go.RowKit
abbrev B := BitVec 64
/-- the number of a set, closed to simp -/
def un (x : B) : Nat := x.toNat
theorem un_lt (x : B) : un x < 18446744073709551616 := x.isLt
theorem un_inj {x y : B} (h : un x = un y) : x = y := BitVec.eq_of_toNat_eq h
theorem un_bd (x : B) : (0 : Int) ≤ (un x : Int) ∧ (un x : Int) ≤ 18446744073709551615 := by have := un_lt x; omega
theorem un_wf (x : B) : (Lit.int .u64 (un x : Int)).wf = true := WalkArith.wf_u64 (un_bd x)
theorem un_of {a : Int} (h : (Lit.int .u64 a).wf = true) : ∃ x : B, a = (un x : Int) := by
  have hb : 0 ≤ a ∧ a < 18446744073709551616 := by
    have := bounds_u64 h
    omega
  refine ⟨BitVec.ofNat 64 a.toNat, ?_⟩
  unfold un
  rw [BitVec.toNat_ofNat]
  omega
theorem bits_and_un (x y : B) : bits .and .u64 (un x : Int) (un y : Int) = (un (x &&& y) : Int) := by
  rw [u64_and_nat _ _ (un_lt x) (un_lt y)]; rfl
theorem bits_or_un (x y : B) : bits .or .u64 (un x : Int) (un y : Int) = (un (x ||| y) : Int) := by
  rw [u64_or_nat _ _ (un_lt x) (un_lt y)]; rfl
theorem bits_xor_un (x y : B) : bits .xor .u64 (un x : Int) (un y : Int) = (un (x ^^^ y) : Int) := by
  rw [u64_xor_nat _ _ (un_lt x) (un_lt y)]; rfl
theorem bits_andNot_un (x y : B) : bits .andNot .u64 (un x : Int) (un y : Int) = (un (x &&& ~~~y) : Int) := by
  rw [u64_andNot_nat _ _ (un_lt x) (un_lt y)]
  unfold un
  rw [BitVec.toNat_and, BitVec.toNat_not]
theorem shl_un (x : B) (n : Nat) : IntKind.u64.wrap ((un x : Int) * 2 ^ n) = (un (x <<< n) : Int) := by
  rw [IntKind.wrap_u64]
  unfold un
  rw [BitVec.toNat_shiftLeft, Nat.shiftLeft_eq, show (2 : Nat) ^ 64 = 18446744073709551616 from rfl, Int.natCast_emod, Int.natCast_mul, Int.natCast_pow]
  rfl
theorem shl_one (n : Nat) : IntKind.u64.wrap (2 ^ n) = (un (1#64 <<< n) : Int) := by
  have h := shl_un 1#64 n
  have e : ((un 1#64 : Nat) : Int) = 1 := rfl
  rw [e, Int.one_mul] at h
  exact h
theorem shr_un (x : B) (n : Nat) : (un x : Int) / 2 ^ n = (un (x >>> n) : Int) := by
  unfold un
  rw [BitVec.toNat_ushiftRight, Nat.shiftRight_eq_div_pow, Int.natCast_ediv, Int.natCast_pow]
  rfl
theorem sub_un (x y : B) : IntKind.u64.wrap ((un x : Int) - (un y : Int)) = (un (x - y) : Int) := by
  rw [IntKind.wrap_u64]
  have hx := un_lt x
  have hy := un_lt y
  have e : un (x - y) = (18446744073709551616 - un y + un x) % 18446744073709551616 := BitVec.toNat_sub x y
  rw [e]
  omega
theorem sub_one (x : B) : IntKind.u64.wrap ((un x : Int) - 1) = (un (x - 1#64) : Int) := sub_un x 1#64
theorem and_one (x : B) : bits .and .u64 (un x : Int) 1 = (un (x &&& 1#64) : Int) := bits_and_un x 1#64
theorem u64_signed : IntKind.u64.signed = false := rfl
theorem not_un (x : B) : bits .xor .u64 IntKind.u64.max (un x : Int) = (un (~~~x) : Int) := by
  have h := bits_xor_un (BitVec.allOnes 64) x
  have h1 : ((un (BitVec.allOnes 64) : Nat) : Int) = IntKind.u64.max := by decide
  rw [h1, BitVec.allOnes_xor] at h
  exact h
theorem shl_two (x : B) : IntKind.u64.wrap ((un x : Int) * 2) = (un (x <<< 1) : Int) := shl_un x 1
attribute [go_sem] shl_two
attribute [go_sem] u64_signed not_un
attribute [go_sem] bits_and_un bits_or_un bits_xor_un bits_andNot_un shl_un shl_one shr_un sub_un sub_one and_one
end Go.Proofs.YtoiolepengcagaaGreatDoor
