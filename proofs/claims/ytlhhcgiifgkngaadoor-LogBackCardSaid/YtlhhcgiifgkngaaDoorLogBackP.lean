/- The law LogBack, plainly. Conditions: none. -/
import Derived.Test.YtlhhcgiifgkngaaDoorLogWrongW
namespace Go.Proofs.YtlhhcgiifgkngaaDoor
open Go.RowKit Go.Shelf
theorem stOk_sz {x : StP} (h : stOk x) : x.2.2 < 2 ^ 64 := by
  have h3 := h.2.2
  unfold rightN at h3
  have h4 := of_decide_eq_true h3
  have h5 : INF < 2 ^ 64 := by decide
  omega
theorem stOk_wf2 {x : StP} (h : stOk x) : WfS x := by
  refine stOk_wf h ⟨?_, stOk_sz h⟩
  have h1 := h.1
  unfold nameE at h1
  split at h1
  · cases h1
  · rename_i q
    rw [not_or] at q
    omega
theorem chkN_ok (l : List StP) (h : l.length ≤ 200) : chkN l = 0 ↔ OkL stOk leS l := by
  rw [chkN_zero]
  exact ⟨fun h => h.2, fun g => ⟨h, g⟩⟩
/-- what passes is parsed as it was told -/
theorem back_told {l : List StP} (h : ChkS l) (hs : (txA l).length ≤ 20000) : parL rdS chkN 200 (txA l) = (l, 0, 0) := by
  have e : linS (txA l) = l.map txS := by
    unfold txA
    refine linS_texts _ fun s hs => ?_
    obtain ⟨x, hx, rfl⟩ := List.mem_map.1 hs
    exact txS_line (stOk_wf2 (h.2.1 x hx))
  unfold parL
  rw [if_neg (by omega), e]
  have := lgo_told (rd := rdS) (chk := chkN) (most := 200) txS stOk leS (fun x hx => rdS_yes (stOk_wf2 hx)) chkN_ok (by omega) l [] h.2 h.1
  simpa using this
/-- what is parsed passes, and is told as the same text -/
theorem back_text {s : List UInt8} (h : (parL rdS chkN 200 s).2.2 = 0) : ChkS (parL rdS chkN 200 s).1 ∧ txA (parL rdS chkN 200 s).1 = s := by
  unfold parL at h ⊢
  split at h
  · cases h
  · rename_i hs
    rw [if_neg hs]
    have := lgo_back (rd := rdS) (chk := chkN) (most := 200) txS stOk leS (fun s hs => (rdS_of hs).2) chkN_ok (linS s) [] ⟨fun x hx => absurd hx List.not_mem_nil, fun i x y hi => by simp at hi⟩ (by simp) h
    obtain ⟨h1, h2, h3⟩ := this
    refine ⟨⟨h2, h1⟩, ?_⟩
    unfold txA
    rw [List.length_nil] at h3
    rw [h3, linS_flat]
    simp
theorem back_nil {s : List UInt8} (h : (parL rdS chkN 200 s).2.2 ≠ 0) : (parL rdS chkN 200 s).1 = [] := by
  unfold parL at h ⊢
  split
  · rfl
  · rename_i hs
    rw [if_neg hs] at h
    exact (lgo_bad rdS chkN 200 _ _ _ h).1
end Go.Proofs.YtlhhcgiifgkngaaDoor
