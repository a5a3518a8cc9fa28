/- The fact macros. Conditions: the machine's MaxLen is laid. -/
import Derived.Test.YtmeenhfclnkjhaaDoorMacroXW
namespace Go.Proofs.YtmeenhfclnkjhaaDoor
open Go.RowKit Go.Shelf Go.Maps
theorem mill_macro : expandE okM [(([97] : Bs), ([98] : Bs))] [36, 40, 97, 41] = (0, [98]) := by
  have hok : okM [97] = true := by decide
  have h1 : prs okM [98] = ([.t [98]], true) := prs_last (by decide)
  have h2 : prs okM [36, 40, 97, 41] = ([.t [], .c [97], .t []], true) := by
    have := prs_call (ok := okM) (a := []) (n := [97]) (by decide) (by decide) []
    rw [if_pos hok, prs_last (s := []) (by decide)] at this
    exact this
  have ht : tabT okM [(([97] : Bs), ([98] : Bs))] [97] = some [.t [98]] := by
    unfold tabT
    simp [h1]
  have hf : Flt (tabT okM [(([97] : Bs), ([98] : Bs))]) [97] (cmb (fun _ => none) [.t [98]]) := .mk ht _ (fun m hm => by simp [callsOf] at hm)
  have hc : cmb (fun _ => none) [.t [98]] = some [98] := by decide
  rw [hc] at hf
  have hF := flatF_is hf
  have hT : TabOk okM [(([97] : Bs), ([98] : Bs))] := by
    refine ⟨by simp, fun m hm => ?_, by simp [namesM], fun m hm u hu => ?_, fun m hm => ?_⟩
    · rw [List.mem_singleton.1 hm]; exact ⟨hok, by rw [h1]⟩
    · rw [List.mem_singleton.1 hm] at hu
      simp [h1, callsOf] at hu
    · rw [List.mem_singleton.1 hm]; exact ⟨_, hf⟩
  have hL : ¬ Larges okM [(([97] : Bs), ([98] : Bs))] := by
    rintro ⟨m, hm, e⟩
    rw [List.mem_singleton.1 hm, hF] at e
    cases e
  rw [expandE_at ⟨hT, hL⟩]
  have hz : (expandR okM (namesM [(([97] : Bs), ([98] : Bs))]) (flatF okM [(([97] : Bs), ([98] : Bs))]) [36, 40, 97, 41]).1 = 0 := by
    rw [expandR_zero, h2]
    refine ⟨rfl, fun u hu => ?_, ?_⟩
    · have : u = [97] := by simpa [callsOf] using hu
      rw [this]; simp [namesM]
    · simp [lrg, noneT, evalT, pieceM, hF]
  refine Prod.ext hz ?_
  rw [expandR_text, if_pos hz, h2]
  simp [evalT, pieceM, hF]
set_option maxHeartbeats 1000000 in
theorem macros_ok (w : World) (hM : MLm w) : Calls Tryd.prog 7 #[] w fun e w' => e = .returned (.bool true) ∧ Below w.heap.size w w' := by
  obtain ⟨W1, hW1⟩ : ∃ W1, W1 = w.alloc (.cells #[.string ⟨#[97]⟩, .string ⟨#[98]⟩] 31) := ⟨_, rfl⟩
  have hb : Below w.heap.size w W1 := by rw [hW1]; exact mb1 w _
  have hin : MacsIn W1 (some ⟨w.heap.size, 0, none⟩) 1 1 [(([97] : Bs), ([98] : Bs))] := by
    refine ⟨⟨rfl, fun _ => ⟨w.heap.size, 0, rfl, by rw [hW1]; simp, fun k x hx => ?_⟩, by omega⟩, fun m hm => by rw [List.mem_singleton.1 hm]; simp⟩
    match k, hx with
    | 0, hx =>
      simp only [List.getElem?_cons_zero, Option.some.injEq] at hx
      subst hx
      rw [hW1, World.cell?_alloc_at _ _ _ _ rfl, World.cell?_alloc_at _ _ _ _ rfl]
      exact ⟨rfl, rfl⟩
  have HX := Lib.hid (Expand_ok _ 1 1 _ [36, 40, 97, 41] W1 hin (hM.below hb) (by decide))
  rw [mill_macro] at HX
  have HX2 : Hid (Calls Tryd.prog 9 #[.slice (some ⟨w.heap.size, 0, none⟩) 1 1, .string ⟨#[36, 40, 97, 41]⟩] W1 fun e w' => e = .returned (.tuple #[.string ⟨#[98]⟩, .int .i64 0]) ∧ Below W1.heap.size W1 w') := HX.out
  have HB := Lib.hid hb
  clear hin hb hM HX
  subst hW1
  go_enter Tryd.func7, Tryd.ntmps7
  go_wp2_with (go_at_call 9; refine HX2.out.mono ?_; rintro e w2 ⟨rfl, hb⟩; have HB2 := Lib.hid hb; clear hb)
  go_ret
  exact ⟨rfl, HB.out.trans (HB2.out.mono HB.out.size)⟩
end Go.Proofs.YtmeenhfclnkjhaaDoor
