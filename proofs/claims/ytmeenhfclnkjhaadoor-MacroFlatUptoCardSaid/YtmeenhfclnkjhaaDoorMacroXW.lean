/- The walk of macro.Expand. Conditions: the macros read as listed; names, values and the text are at most 2^20 bytes; the machine's MaxLen is laid. -/
import Derived.Test.YtmeenhfclnkjhaaDoorMacroRW
namespace Go.Proofs.YtmeenhfclnkjhaaDoor
open Go.RowKit Go.Shelf Go.Maps
theorem TabW.flatOn {w : World} {B lo : Nat} {l : List Mac} {eb : Bs → Nat} {uv : Bs → Value} {st : Bs → Nat} (h : TabW w B lo l eb uv st) (hs : ∀ n ∈ namesM l, st n = 2) {cs : List Bs} (hc : ∀ u ∈ cs, u ∈ namesM l) : FlatOn w B (flatF okM l) cs := by
  obtain ⟨N, h1, _⟩ := h.map
  refine ⟨N, namesM l, ptrAt (namesM l) eb, h1, fun u hu => ?_⟩
  obtain ⟨m, hm, hmn⟩ := List.mem_map.1 (hc u hu)
  have he := h.ent m hm
  rw [hmn, hs u (hc u hu)] at he
  have he2 : w.heap[eb u]? = some (.cells #[.string (txt m.2), uv u, .int .i64 2, .string (txt ((flatF okM l u).getD [])), .bool (flatF okM l u).isNone] 64 (0, 0)) := he
  obtain ⟨_, _, _, k3, k4, _⟩ := mx5 he2
  exact ⟨eb u, by unfold ptrAt; rw [if_pos (hc u hu)], k3, k4⟩
theorem expandE_bad {l : List Mac} {s : Bs} (h : flatsE okM l ≠ 0) : expandE okM l s = (flatsE okM l, []) := by unfold expandE; rw [if_pos h]
theorem expandE_3 {l : List Mac} {s : Bs} (h : flatsE okM l = 0) (h1 : (prs okM s).2 = false) : expandE okM l s = (3, []) := by unfold expandE; rw [if_neg (by rw [h]; decide)]; unfold expandR; rw [if_pos h1]
theorem expandE_5 {l : List Mac} {s : Bs} (h : flatsE okM l = 0) (h1 : (prs okM s).2 = true) (h2 : ∃ u ∈ callsOf (prs okM s).1, u ∉ namesM l) : expandE okM l s = (5, []) := by unfold expandE; rw [if_neg (by rw [h]; decide)]; unfold expandR; rw [if_neg (by rw [h1]; decide), if_pos h2]
theorem expandE_l {l : List Mac} {s : Bs} (h : flatsE okM l = 0) (h1 : (prs okM s).2 = true) (h2 : ¬ ∃ u ∈ callsOf (prs okM s).1, u ∉ namesM l) : expandE okM l s = if lrg (flatF okM l) (prs okM s).1 = true then (2, []) else (0, evalT (flatF okM l) (prs okM s).1) := by
  unfold expandE; rw [if_neg (by rw [h]; decide)]; unfold expandR; rw [if_neg (by rw [h1]; decide), if_neg h2]
set_option maxHeartbeats 4000000 in
set_option maxRecDepth 100000 in
theorem Expand_ok (p : Option Addr) (n c : Nat) (l : List Mac) (s : Bs) (w : World) (hR : MacsIn w p n c l) (hM : MLm w) (hs : s.length ≤ 1048576) :
    Calls Tryd.prog 9 #[.slice p n c, .string (txt s)] w fun e w' => e = .returned (.tuple #[.string (txt (expandE okM l s).2), .int .i64 (expandE okM l s).1]) ∧ Below w.heap.size w w' := by
  have HFl := Lib.hid (flats_ok p n c l w hR hM)
  have HMB := Lib.hid (fun u (hu : Below w.heap.size w u) => hM.below hu)
  clear hR hM
  by_cases hE : flatsE okM l = 0
  rotate_left
  · have HE := Lib.hid (expandE_bad (s := s) hE)
    have HF2 : Hid (Calls Tryd.prog 33 #[.slice p n c] w fun e w' => (∃ v, e = .returned (.tuple #[v, .int .i64 (flatsE okM l)])) ∧ Below w.heap.size w w') := by
      show Calls _ _ _ _ _
      refine HFl.out.mono ?_
      rintro e w' ⟨⟨v, rfl, _⟩, hb⟩
      exact ⟨⟨v, rfl⟩, hb⟩
    obtain ⟨e1, e2⟩ := int_ne' hE
    clear HFl hE
    generalize flatsE okM l = fe at *
    go_enter Tryd.func9, Tryd.ntmps9
    go_wp2_with (go_at_call 33; refine HF2.out.mono ?_; rintro e w1 ⟨⟨v, rfl⟩, hb⟩; have HB := Lib.hid hb; clear hb)
    go_ret2
    exact ⟨by rw [HE.out]; rfl, HB.out⟩
  have HF2 : Hid (Calls Tryd.prog 33 #[.slice p n c] w fun e w' => (∃ B eb uv st, e = .returned (.tuple #[.map (some B), .int .i64 0]) ∧ TabW w' B w.heap.size l eb uv st ∧ ∀ n ∈ namesM l, st n = 2) ∧ Below w.heap.size w w') := by
    show Calls _ _ _ _ _
    refine HFl.out.mono ?_
    rintro e w' ⟨⟨v, rfl, hv⟩, hb⟩
    rw [hE] at hv ⊢
    obtain ⟨_, B, eb, uv, st, rfl, h1, h2⟩ := hv.resolve_left (fun h => h.1 rfl)
    exact ⟨⟨B, eb, uv, st, rfl, h1, h2⟩, hb⟩
  have HFE := Lib.hid hE
  have hul := usesM_len s
  clear HFl hE
  cases hp : (prs okM s).2
  · have HE := Lib.hid (expandE_3 HFE.out hp)
    have hue : usesE s = 3 := by unfold usesE; rw [hp]; rfl
    have HU : Hid (∀ w1, MLm w1 → Calls Tryd.prog 34 #[.string (txt s)] w1 fun e w' => (∃ v, e = .returned (.tuple #[v, .int .i64 3])) ∧ Below w1.heap.size w1 w') := by
      show ∀ _, _ → _
      intro w1 hM
      refine (Uses_ok s hs w1 hM).mono ?_
      rintro e w' ⟨⟨v, rfl, _⟩, hb⟩
      rw [hue]
      exact ⟨⟨v, rfl⟩, hb⟩
    clear hp hue
    go_enter Tryd.func9, Tryd.ntmps9
    go_wp2_with (first
      | (go_at_call 33; refine HF2.out.mono ?_; rintro e w1 ⟨⟨B, eb, uv, st, rfl, _, _⟩, hb⟩; have HB := Lib.hid hb; clear hb)
      | (go_at_call 34; refine (HU.out _ (HMB.out _ HB.out)).mono ?_; rintro e w2 ⟨⟨v, rfl⟩, hb⟩; have HB2 := Lib.hid (HB.out.trans (hb.mono HB.out.size)); clear hb))
    go_ret2
    exact ⟨by rw [HE.out]; rfl, HB2.out⟩
  have hue : usesE s = 0 := by unfold usesE; rw [hp]; rfl
  have HU : Hid (∀ w1, MLm w1 → Calls Tryd.prog 34 #[.string (txt s)] w1 fun e w' => (∃ v, e = .returned (.tuple #[v, .int .i64 0]) ∧ w'.ownsRow w1.heap.size 9 1 v (usesM (prs okM s).1).length (strsV (usesM (prs okM s).1))) ∧ Below w1.heap.size w1 w') := by
    show ∀ _, _ → _
    intro w1 hM
    refine (Uses_ok s hs w1 hM).mono ?_
    rintro e w' ⟨⟨v, rfl, hv⟩, hb⟩
    rw [hue] at hv ⊢
    exact ⟨⟨v, rfl, (hv.resolve_right (fun h => h.1 rfl)).2⟩, hb⟩
  have HP := Lib.hid hp
  have HMEM := Lib.hid (fun z (hz : z ∈ usesM (prs okM s).1) => usesM_txt hz)
  have HALL := Lib.hid (fun u (hu : u ∈ callsOf (prs okM s).1) => usesM_mem.2 hu)
  clear hp hue
  generalize hU : usesM (prs okM s).1 = U at *
  go_enter Tryd.func9, Tryd.ntmps9
  go_wp2_with (first
    | (go_at_call 33; refine HF2.out.mono ?_; rintro e w1 ⟨⟨B, eb, uv, st, rfl, h1, h2⟩, hb⟩; have HT := Lib.hid h1; have HS := Lib.hid h2; have HB := Lib.hid hb; clear hb h1 h2)
    | (go_at_call 34; refine (HU.out _ (HMB.out _ HB.out)).mono ?_; rintro e w2 ⟨⟨v, rfl, hv⟩, hb⟩; obtain ⟨g, cv, rfl⟩ := mown_form hv; have HV := Lib.hid hv; have HT2 := Lib.hid (HT.out.below hb); have HB2 := Lib.hid (HB.out.trans (hb.mono HB.out.size)); clear hb hv))
  go_loopw [31] (fun i wq => ∃ (q : Nat), q ≤ U.length ∧ i = .int .i64 q ∧ wq = w2 ∧ Hid (∀ i z, i < q → U[i]? = some z → z.data.toList ∈ namesM l)) (fun i _ => U.length - (intOf i).toNat)
  case atStart => exact ⟨0, Nat.zero_le _, rfl, rfl, fun i z h => absurd h (Nat.not_lt_zero _)⟩
  case round =>
    obtain ⟨q, hq, rfl, rfl, HQ⟩ := hrel
    by_cases hqt : q < U.length
    · have heq := List.getElem?_eq_getElem hqt
      have hrow := HV.out
      have hg : ∃ gb, g = some ⟨gb, 0, none⟩ := by
        rcases hrow.2 with ⟨_, h⟩ | ⟨gb, cap, cur, e, _⟩
        · omega
        · injection e with e1 _ _
          exact ⟨gb, e1⟩
      obtain ⟨gb, rfl⟩ := hg
      have hcell := hrow.cells (g := gb) rfl q (.string U[q]) (by unfold strsV; rw [List.getElem?_map, heq]; rfl)
      rw [Addr.add_lit, Nat.zero_add] at hcell
      obtain ⟨u, hzu, hu⟩ := HMEM.out U[q] (List.getElem_mem hqt)
      rw [hzu] at hcell heq
      have HEQ := Lib.hid heq
      have HUU := Lib.hid hu
      have hum : (txt u).size ≤ maxLen := by
        have := okM_few (prs_ok_call hu)
        rw [txt_size]; unfold maxLen; omega
      have hqi : (q : Int) < (U.length : Int) := by omega
      obtain ⟨N, hmp, _⟩ := HT2.out.map
      have HMp := Lib.hid hmp
      clear hrow heq hzu hu hmp
      by_cases hin : u ∈ namesM l
      · have HIN := Lib.hid hin
        have hh2 : ptrAt (namesM l) eb (txt u).data.toList = .pointer (some ⟨eb u, 0, none⟩) := by rw [txt_list]; unfold ptrAt; rw [if_pos hin]
        clear hin
        go_wp2_with (at_lookup; refine look_p _ rfl _ _ rfl rfl HMp.out (txt u) rfl hum ?_; rw [hh2])
        go_roundw
        case rel =>
          refine ⟨q + 1, by omega, by go_num, by first | exact trivial | rfl, ?_⟩
          show ∀ i z, _
          intro i z hi hz
          rcases Nat.lt_or_ge i q with g1 | g1
          · exact HQ.out i z g1 hz
          · have : i = q := by omega
            subst this
            rw [HEQ.out] at hz
            injection hz with hz
            rw [← hz, txt_list]; exact HIN.out
        case measure => simp [intOf]; omega
      · have HE := Lib.hid (expandE_5 HFE.out HP.out ⟨u, HUU.out, hin⟩)
        have hh2 : ptrAt (namesM l) eb (txt u).data.toList = .pointer none := by rw [txt_list]; unfold ptrAt; rw [if_neg hin]; rfl
        clear hin
        go_wp2_with (at_lookup; refine look_p _ rfl _ _ rfl rfl HMp.out (txt u) rfl hum ?_; rw [hh2])
        go_ret2
        exact ⟨by rw [HE.out]; rfl, HB2.out⟩
    · obtain rfl : q = U.length := by omega
      have hall : ∀ u ∈ callsOf (prs okM s).1, u ∈ namesM l := fun u hu => by
        obtain ⟨z, hz, hze⟩ := List.getElem_of_mem (HALL.out u hu)
        have := HQ.out z (txt u) hz (by rw [List.getElem?_eq_getElem hz, hze])
        rwa [txt_list] at this
      have HEL := Lib.hid (expandE_l HFE.out HP.out (fun ⟨u, hu, hn⟩ => hn (hall u hu)))
      have HFt := Lib.hid (flat_ok B (flatF okM l) s _ hs (HMB.out _ HB2.out) (HT2.out.flatOn HS.out hall))
      clear hall
      cases hl : lrg (flatF okM l) (prs okM s).1
      · have hc : cmb (flatF okM l) (prs okM s).1 = some (evalT (flatF okM l) (prs okM s).1) := by unfold cmb; rw [hl]; rfl
        rw [hc] at HFt
        rw [hl] at HEL
        clear hl hc
        go_wp2_with (go_at_call 35; refine HFt.out.mono ?_; rintro e w3 ⟨rfl, hb⟩; have HB3 := Lib.hid hb; clear hb)
        go_ret2
        exact ⟨by rw [HEL.out]; rfl, HB2.out.trans (HB3.out.mono HB2.out.size)⟩
      · have hc : cmb (flatF okM l) (prs okM s).1 = none := by unfold cmb; rw [hl]; rfl
        rw [hc] at HFt
        rw [hl] at HEL
        clear hl hc
        go_wp2_with (go_at_call 35; refine HFt.out.mono ?_; rintro e w3 ⟨rfl, hb⟩; have HB3 := Lib.hid hb; clear hb)
        go_ret2
        exact ⟨by rw [HEL.out]; rfl, HB2.out.trans (HB3.out.mono HB2.out.size)⟩
end Go.Proofs.YtmeenhfclnkjhaaDoor
