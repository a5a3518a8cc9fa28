/- What the listed variables give SpanText: the table of math/bits, the two errors of strconv. Conditions: none. -/
import Derived.Test.YtlhhcgiifgkngaaDoorSpanTextW
import Derived.Stop.LaidErr
import Derived.Test.YtlhhcgiifgkngaaDoorDoor
namespace Go.Proofs.YtlhhcgiifgkngaaDoor
open Go.RowKit Go.ChangeShapes Go.WideShapes Go.ChangeAt
theorem gSyn : Tryd.prog.globalNamed "strconv.ErrSyntax" = some 2 := by kernel_rfl
theorem gRan : Tryd.prog.globalNamed "strconv.ErrRange" = some 3 := by kernel_rfl
theorem gSynT : (Tryd.prog.globals[2]?).map (·.type) = some 128 := by kernel_rfl
theorem gRanT : (Tryd.prog.globals[3]?).map (·.type) = some 128 := by kernel_rfl
theorem cellES : Tryd.prog.cellsOf 263 = 1 := by kernel_rfl
theorem cellStr : Tryd.prog.cellsOf 9 = 1 := by kernel_rfl
def lawL : List (String × DataW Unit) := Rows.spanTextRow.laid
theorem tab_text {w : World} (h : laidMetH Tryd.prog lawL w) : Tab w := by
  have h0 := h
  rw [MakeChecks.laidMetH_plain _ _ _ (by kernel_rfl)] at h
  obtain ⟨ps, hl, _⟩ := h
  obtain ⟨g', t', cs, fuel, p, hg', ht', hvar, hd⟩ := laid_one hl (tabName, (Lib.tabData .u8 tabInts : DataW Unit)) (by show _ ∈ [_, _, _, _, _]; repeat (first | exact List.Mem.head _ | apply List.Mem.tail))
  obtain rfl := Option.some.inj (tabG.symm.trans hg')
  obtain rfl := Option.some.inj (tabTD.symm.trans ht')
  have hT : Lib.TabIs Tryd.prog w tabName .u8 tabInts := by
    unfold Lib.TabIs
    rw [hvar, ← Lib.cells_of_tab Tryd.underlying202 Tryd.underlying5 tabCE tabCT hd]
  intro j hj
  have hc := hT.cell tabG j (by simpa [tabInts] using hj)
  rw [hc]
  have e : tabInts.getD j 0 = ((Lib.deBruijn64tab.getD j 0 : Nat) : Int) := by
    unfold tabInts
    rw [List.getD_eq_getElem?_getD, List.getD_eq_getElem?_getD, List.getElem?_map]
    cases Lib.deBruijn64tab[j]? <;> rfl
  rw [e]
theorem starE : "*" ++ "errors.errorString" = "*errors.errorString" := by decide
theorem rowErr (u : TypeId) (h : Tryd.prog.typeName? 3 u = some "*errors.errorString") : u = 261 :=
  typeName_ptr_named (nm := "errors.errorString") (by rw [starE]; kernel_rfl) (by kernel_rfl) (by decide) u (by rw [starE]; exact h)
theorem evs_text {w : World} (h : laidMetH Tryd.prog lawL w) : EVs w := by
  rw [MakeChecks.laidMetH_plain _ _ _ (by kernel_rfl)] at h
  have h5 : laidMet Tryd.prog [("math/bits.deBruijn32tab", Rows.laid_math_bits_deBruijn32tab), ("math/bits.deBruijn64tab", Rows.laid_math_bits_deBruijn64tab), ("internal/strconv.uint64pow10", Rows.laid_internal_strconv_uint64pow10), ("strconv.ErrRange", Rows.laid_strconv_ErrRange), ("strconv.ErrSyntax", Rows.laid_strconv_ErrSyntax)] w := h
  have h3 := h5.tail.tail.tail
  obtain ⟨a1, s1, hv1, _⟩ := laid_sentinel h3 gRan gRanT Tryd.underlying128 rowErr Tryd.underlying261 Tryd.underlying263 rfl rfl Tryd.underlying9 cellES cellStr
  obtain ⟨a2, s2, hv2, _⟩ := laid_sentinel h3.tail gSyn gSynT Tryd.underlying128 rowErr Tryd.underlying261 Tryd.underlying263 rfl rfl Tryd.underlying9 cellES cellStr
  exact ⟨⟨_, by simpa using World.var?_cell gSyn hv2 0, .inr ⟨_, _, rfl⟩⟩, ⟨_, by simpa using World.var?_cell gRan hv1 0, .inr ⟨_, _, rfl⟩⟩⟩
end Go.Proofs.YtlhhcgiifgkngaaDoor
