/- The walk of the law kit's logs. Conditions: the tables read as listed. -/
import Derived.Test.YtlhhcgiifgkngaaDoorLogPrintW
namespace Go.Proofs.YtlhhcgiifgkngaaDoor
open Go.RowKit Go.Shelf Go.Sort
theorem print_good {w w' : World} {l : List StP} {e : Ending} (h : PrintPost w l e w') (hc : ChkS l) : e = .returned (.tuple #[.string ⟨(txA l).toArray⟩, .int .i64 0]) ∧ Below w.heap.size w w' := by
  obtain ⟨⟨E, hE, hn, rfl⟩ | ⟨_, rfl⟩, hb⟩ := h
  · exact absurd hc hn
  · exact ⟨rfl, hb⟩
def stA : StP := (⟨#[97]⟩, 0, 0)
theorem stA_ok : stOk stA := ⟨by decide, by decide, by decide⟩
theorem stA_chk : ChkS [stA] := by
  refine ⟨by decide, ?_, ?_⟩
  · intro x hx
    rw [List.mem_singleton.1 hx]
    exact stA_ok
  · intro i x y h1 h2
    simp at h2
theorem txA_A : (⟨(txA [stA]).toArray⟩ : ByteArray) = ⟨#[97, 32, 48, 32, 48, 48, 48, 48, 48, 48, 48, 48, 48, 48, 48, 48, 48, 48, 48, 48, 10]⟩ := by kernel_rfl
set_option maxHeartbeats 2000000 in
set_option maxRecDepth 100000 in
theorem logs_ok (w : World) (hT : Tab w) (hP : PowT w) :
    Calls Tryd.prog 40 #[] w fun e w' => e = .returned (.bool true) ∧ Below w.heap.size w w' := by
  obtain ⟨X, hX⟩ : ∃ X : World, X = w.alloc (.cells #[.string ⟨#[97]⟩, .int .i64 0, .float .f64 0] 73) := ⟨_, rfl⟩
  have hB : Below w.heap.size w X := by rw [hX]; exact lbL w _
  have d0 : X.cell? ⟨w.heap.size, 0, none⟩ = some (.string ⟨#[97]⟩) := by rw [hX, World.cell?_alloc_at _ _ _ _ rfl]; rfl
  have d1 : X.cell? ⟨w.heap.size, 1, none⟩ = some (.int .i64 0) := by rw [hX, World.cell?_alloc_at _ _ _ _ rfl]; rfl
  have d2 : X.cell? ⟨w.heap.size, 2, none⟩ = some (.float .f64 0) := by rw [hX, World.cell?_alloc_at _ _ _ _ rfl]; rfl
  have hst : StAt X (some ⟨w.heap.size, 0, none⟩) 1 1 [stA] := by
    refine ⟨rfl, fun _ => ⟨w.heap.size, 0, rfl, by rw [hX]; simp, ?_⟩, by decide⟩
    intro k x hk
    match k, hk with
    | 0, hk =>
      simp at hk
      subst hk
      exact ⟨d0, d1, d2⟩
    | k + 1, hk => simp at hk
  have HPR := Lib.hid (LogPrint_ok _ _ _ _ X hst (by intro x hx; rw [List.mem_singleton.1 hx]; exact ⟨by decide, by decide⟩) (hT.below hB) (hP.below hB))
  have HB := Lib.hid hB
  clear hst d0 d1 d2 hB
  go_enter Tryd.func40, Tryd.ntmps40
  go_wp2_with (go_at_call 48; rw [← hX]; refine HPR.out.mono ?_; rintro e w' h; obtain ⟨rfl, hb⟩ := print_good h stA_chk; rw [txA_A]; have HB2 := Lib.hid hb; clear hb h)
  go_ret
  exact ⟨rfl, HB.out.trans (HB2.out.mono HB.out.size)⟩
end Go.Proofs.YtlhhcgiifgkngaaDoor
