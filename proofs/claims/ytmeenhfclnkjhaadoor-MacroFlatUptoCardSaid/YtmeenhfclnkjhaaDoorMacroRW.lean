/- The walk of macro.flats: newTable, and a range over the table. Conditions: the macros read as listed; names and values are at most 2^20 bytes; the machine's MaxLen is laid. -/
import Derived.Test.YtmeenhfclnkjhaaDoorMacroLW
import Derived.Laws.IdiomRangeMap
import Derived.Maps.RangeWalk
import Derived.Sort.KeysCollected
namespace Go.Proofs.YtmeenhfclnkjhaaDoor
open Go.RowKit Go.Shelf Go.Maps
/-- what flats answers -/
def FlatsPost (w : World) (l : List Mac) (e : Ending) (w' : World) : Prop :=
  (∃ v, e = .returned (.tuple #[v, .int .i64 (flatsE okM l)]) ∧ ((flatsE okM l ≠ 0 ∧ v = .map none) ∨ (flatsE okM l = 0 ∧ ∃ B eb uv st, v = .map (some B) ∧ TabW w' B w.heap.size l eb uv st ∧ ∀ n ∈ namesM l, st n = 2))) ∧ Below w.heap.size w w'
theorem sameKey_str {a b : Bs} (h : (Lit.string a).sameKey (.string b) = true) : a = b := by simpa [Lit.sameKey] using h
set_option maxHeartbeats 4000000 in
set_option maxRecDepth 100000 in
theorem flats_ok (p : Option Addr) (n c : Nat) (l : List Mac) (w : World) (hR : MacsIn w p n c l) (hM : MLm w) : Calls Tryd.prog 33 #[.slice p n c] w (FlatsPost w l) := by
  have HNew := Lib.hid (newTable_ok p n c l w hR hM)
  clear hR hM
  by_cases hE : tabE okM l = 0
  · have HN2 : Hid (Calls Tryd.prog 49 #[.slice p n c] w fun e w' => (∃ B eb uv st, e = .returned (.tuple #[.map (some B), .int .i64 0]) ∧ TabW w' B w.heap.size l eb uv st ∧ ∀ n ∈ namesM l, st n = 2) ∧ Below w.heap.size w w') := by
      show Calls _ _ _ _ _
      refine HNew.out.mono ?_
      rintro e w' ⟨⟨v, rfl, hv⟩, hb⟩
      rw [hE] at hv ⊢
      obtain ⟨_, B, eb, uv, st, rfl, h1, h2⟩ := hv.resolve_left (fun h => h.1 rfl)
      exact ⟨⟨B, eb, uv, st, rfl, h1, h2⟩, hb⟩
    have hTO := tabE_zero.1 hE
    have HTO := Lib.hid hTO
    clear HNew hE hTO
    go_enter Tryd.func33, Tryd.ntmps33
    go_upto_region 2 with (go_at_call 49; refine HN2.out.mono ?_; rintro e w1 ⟨⟨B, eb, uv, st, rfl, h1, h2⟩, hb⟩; have HT := Lib.hid h1; have HS := Lib.hid h2; have HB := Lib.hid hb; obtain ⟨Nn, ⟨D, hown, hat, hhas⟩, _⟩ := h1.map; have HO := Lib.hid hown; have HAT := Lib.hid hat; have HHS := Lib.hid hhas; clear h1 h2 hb hown hat hhas)
    go_wp2_with (at_range; refine wpList_range_own _ rfl _ 60 rfl 9 65 lawM Tryd.underlying60 rawP B Nn D rfl HO.out ?_; intro w0 hrg0 hg0 hs0; have HR0 := Lib.hid hrg0; have HG0 := Lib.hid hg0; clear hrg0 hg0)
    go_frame
    go_loopw [7] (fun _ wr => ∃ (left : Lit → Bool) (cnt : Nat), Hid (wr.ranges Tryd.prog 9 rawP B w1.heap.size Nn D left cnt) ∧ Hid (∀ kl, left kl = true → has D kl = true) ∧ Hid (∀ s ∈ namesM l, left (.string s) = false → flatF okM l s ≠ none) ∧ Hid (Below w1.heap.size w1 wr)) (fun _ wr => wr.rangeLeft B w1.heap.size)
    case atStart => exact ⟨has D, _, HR0, fun _ h => h, fun s hs h => (by rw [(HHS.out s).2 hs] at h; cases h), ⟨HG0.out.os, HG0.out.tape, HG0.out.output, HG0.out.size, fun k hk => HG0.out.block k hk (by simp)⟩⟩
    case round =>
      obtain ⟨left, cnt, HRG, HLF, HNO, HBr⟩ := hrel
      go_wp2_with (at_next; refine wpList_next_ranges _ rfl _ rfl 9 lawM rawP Value.string (fun v : Value => v) (fun key kl h => by obtain ⟨x, rfl, _⟩ := Maps.keyOf_str Tryd.underlying9 h; exact ⟨_, rfl⟩) (fun v y _ => ⟨v, rfl⟩) B w1.heap.size Nn D left cnt rfl HRG.out ?_ ?_)
      · intro _ hl0
        have HL0 := Lib.hid hl0
        clear hl0
        have hnl : ¬ Larges okM l := by
          rintro ⟨m, hm, e⟩
          exact HNO.out m.1 (List.mem_map_of_mem hm) (HL0.out _) e
        have HE0 : Hid (flatsE okM l = 0) := flatsE_zero.2 ⟨HTO.out, hnl⟩
        clear hnl
        go_wp2
        go_ret2
        refine ⟨⟨.map (some B), by rw [HE0.out]; rfl, .inr ⟨HE0.out, B, eb, uv, st, rfl, HT.out.below HBr.out, HS.out⟩⟩, HB.out.trans (HBr.out.mono HB.out.size)⟩
      · intro x cv kl y1 y2 w2 cnt2 hkey hlx hry hat hrg hlt hg hs hen
        obtain ⟨s, hxs, hkl, _⟩ := Maps.keyOf_str Tryd.underlying9 hkey
        subst hkl
        have hmem : s ∈ namesM l := (HHS.out s).1 (HLF.out _ hlx)
        have hcv : cv = .pointer (some ⟨eb s, 0, none⟩) := by
          have h1 := hat (.held nilP)
          rw [HAT.out] at h1
          have h2 : (cv : Value) = ptrAt (namesM l) eb s := by
            unfold rawP at hry
            injection hry with hry
            injection hry with h3 h4
            rw [← h3] at h1
            injection h1 with h1
            exact h1.symm
          rw [h2]
          unfold ptrAt
          rw [if_pos hmem]
        subst hcv
        have HRG2 := Lib.hid hrg
        have HB2 : Hid (Below w1.heap.size w1 w2) := HBr.out.grown hg (by have := HRG.out.lt; omega) (fun k hk => by cases hk; exact Nat.le_refl _)
        obtain ⟨m, hm, hmn⟩ := List.mem_map.1 hmem
        have hent := (HT.out.below HB2.out).ent m hm
        rw [hmn, HS.out s hmem] at hent
        have hent2 : w2.heap[eb s]? = some (.cells #[.string (txt m.2), uv s, .int .i64 2, .string (txt ((flatF okM l s).getD [])), .bool (flatF okM l s).isNone] 64 (0, 0)) := hent
        obtain ⟨_, _, _, _, q4, _⟩ := mx5 hent2
        have HM := Lib.hid hmem
        have HLT := Lib.hid hlt
        clear hkey hlx hry hat hrg hlt hg hs hent hent2 hmem hm hmn
        cases hfl : flatF okM l s with
        | none =>
          rw [hfl] at q4
          have HE2 : Hid (flatsE okM l = 2) := by
            show _ = _
            unfold flatsE
            rw [if_neg (by rw [tabE_zero.2 HTO.out]; decide), if_pos]
            obtain ⟨m, hm, hmn⟩ := List.mem_map.1 HM.out
            exact ⟨m, hm, by rw [hmn]; exact hfl⟩
          clear hfl
          go_wp2
          go_ret2
          exact ⟨⟨.map none, by rw [HE2.out]; rfl, .inl ⟨by rw [HE2.out]; decide, rfl⟩⟩, HB.out.trans (HB2.out.mono HB.out.size)⟩
        | some v =>
          rw [hfl] at q4
          have HV := Lib.hid hfl
          clear hfl
          go_wp2
          go_roundw
          case rel =>
            refine ⟨_, cnt2, HRG2, ?_, ?_, HB2⟩
            · show ∀ _, _ → _
              intro kl h
              rw [Bool.and_eq_true] at h
              exact HLF.out kl h.1
            · show ∀ s', _
              intro s' hs' h
              rw [Bool.and_eq_false_iff] at h
              rcases h with h | h
              · exact HNO.out s' hs' h
              · have e := sameKey_str (by simpa using h)
                rw [e, HV.out]
                simp
          case measure => rw [HRG2.out.left_eq, HRG.out.left_eq]; exact HLT.out
  · have HE : Hid (flatsE okM l = tabE okM l) := by show _ = _; unfold flatsE; rw [if_pos hE]
    have HN2 : Hid (Calls Tryd.prog 49 #[.slice p n c] w fun e w' => e = .returned (.tuple #[.map none, .int .i64 (tabE okM l)]) ∧ Below w.heap.size w w') := by
      show Calls _ _ _ _ _
      refine HNew.out.mono ?_
      rintro e w' ⟨⟨v, rfl, hv⟩, hb⟩
      obtain ⟨_, rfl⟩ := hv.resolve_right (fun h => hE h.1)
      exact ⟨rfl, hb⟩
    have HNE := Lib.hid hE
    clear HNew hE
    generalize tabE okM l = te at *
    have hrg : ∀ w1 : World, (Instr.range 60 (.map none)).run Tryd.prog w1 = _ := fun w1 => run_range_nilMap w1 60 9 65 Tryd.underlying60
    have hnx : ∀ (w1 : World) ty, (Instr.next (.pointer (some ⟨w1.heap.size, 0, none⟩)) false ty).run Tryd.prog (w1.alloc (.mapIter none 0 #[] 0)) = _ := fun w1 ty => run_next_nilMap w1 ty 0 0 #[]
    go_enter Tryd.func33, Tryd.ntmps33
    go_wp2_with (go_at_call 49; refine HN2.out.mono ?_; rintro e w1 ⟨rfl, hb⟩; have HB := Lib.hid hb; clear hb)
    refine wp_loop_rounds 1 ?_
    rw [rounds_succ]
    go_wp2
    go_ret2
    exact ⟨⟨.map none, by rw [HE.out]; rfl, .inl ⟨by rw [HE.out]; exact HNE.out, rfl⟩⟩, HB.out.alloc HB.out.size _⟩
end Go.Proofs.YtmeenhfclnkjhaaDoor
