/- What the listed variables give LogWrong and LogBack: the tables of math/bits and internal/strconv, the two errors of strconv. Conditions: none. -/
import Derived.Test.YtlhhcgiifgkngaaDoorLogTextW
import Derived.Test.YtlhhcgiifgkngaaDoorParHex2W
import Derived.Stop.LaidErr
import Derived.Test.YtlhhcgiifgkngaaDoorDoor
namespace Go.Proofs.YtlhhcgiifgkngaaDoor
open Go.RowKit Go.ChangeShapes Go.WideShapes Go.ChangeAt
theorem lgSyn : Tryd.prog.globalNamed "strconv.ErrSyntax" = some 2 := by kernel_rfl
theorem lgRan : Tryd.prog.globalNamed "strconv.ErrRange" = some 3 := by kernel_rfl
theorem lgSynT : (Tryd.prog.globals[2]?).map (·.type) = some 128 := by kernel_rfl
theorem lgRanT : (Tryd.prog.globals[3]?).map (·.type) = some 128 := by kernel_rfl
theorem lgES : Tryd.prog.cellsOf 263 = 1 := by kernel_rfl
theorem lgStr : Tryd.prog.cellsOf 9 = 1 := by kernel_rfl
def lgL : List (String × DataW Unit) := Rows.logWrongRow.laid
/-- a table of numbers that is on the list reads as listed -/
theorem lg_tab {w : World} (h : laidMetH Tryd.prog lgL w) {name : String} {k : IntKind} {zs : List Int} {g : Nat} {t e : TypeId} {n : Nat} (hm : (name, (Lib.tabData k zs : DataW Unit)) ∈ lgL)
    (hg : Tryd.prog.globalNamed name = some g) (hty : (Tryd.prog.globals[g]?).map (·.type) = some t) (ht : Tryd.prog.underlying t = some (.array n e)) (he : Tryd.prog.underlying e = some (.int k)) (hce : Tryd.prog.cellsOf e = 1) (hct : Tryd.prog.cellsOf t = n) : Lib.TabIs Tryd.prog w name k zs := by
  rw [MakeChecks.laidMetH_plain _ _ _ (by kernel_rfl)] at h
  obtain ⟨ps, hl, _⟩ := h
  obtain ⟨g', t', cs, fuel, p, hg', ht', hvar, hd⟩ := laid_one hl _ hm
  obtain rfl := Option.some.inj (hg.symm.trans hg')
  obtain rfl := Option.some.inj (hty.symm.trans ht')
  unfold Lib.TabIs
  rw [hvar, ← Lib.cells_of_tab ht he hce hct hd]
theorem lg_Tab {w : World} (h : laidMetH Tryd.prog lgL w) : Tab w := by
  have hT := lg_tab h (name := tabName) (k := .u8) (zs := tabInts) (by show _ ∈ [_, _, _, _, _, _, _]; repeat (first | exact List.Mem.head _ | apply List.Mem.tail)) tabG tabTD Tryd.underlying202 Tryd.underlying5 tabCE tabCT
  intro j hj
  have hc := hT.cell tabG j (by simpa [tabInts] using hj)
  rw [hc]
  have e : tabInts.getD j 0 = ((Lib.deBruijn64tab.getD j 0 : Nat) : Int) := by
    unfold tabInts
    rw [List.getD_eq_getElem?_getD, List.getD_eq_getElem?_getD, List.getElem?_map]
    cases Lib.deBruijn64tab[j]? <;> rfl
  rw [e]
theorem lgPowMem : ("internal/strconv.uint64pow10", (Lib.tabData .u64 Lib.pow10Tab : DataW Unit)) ∈ lgL := by
  have e : (Rows.laid_internal_strconv_uint64pow10 : DataW Unit) = Lib.tabData .u64 Lib.pow10Tab := by kernel_rfl
  rw [← e]
  show _ ∈ [_, _, _, _, _, _, _]
  repeat (first | exact List.Mem.head _ | apply List.Mem.tail)
theorem lg_Pow {w : World} (h : laidMetH Tryd.prog lgL w) : PowT w :=
  lg_tab h lgPowMem (g := 4) (t := 249) (e := 24) (n := 20) (by kernel_rfl) (by kernel_rfl) Tryd.underlying249 Tryd.underlying24 (by kernel_rfl) (by kernel_rfl)
theorem lgStar : "*" ++ "errors.errorString" = "*errors.errorString" := by decide
theorem lgErr (u : TypeId) (h : Tryd.prog.typeName? 3 u = some "*errors.errorString") : u = 261 :=
  typeName_ptr_named (nm := "errors.errorString") (by rw [lgStar]; kernel_rfl) (by kernel_rfl) (by decide) u (by rw [lgStar]; exact h)
theorem lg_EVs {w : World} (h : laidMetH Tryd.prog lgL w) : EVs w := by
  rw [MakeChecks.laidMetH_plain _ _ _ (by kernel_rfl)] at h
  have h7 : laidMet Tryd.prog [("math/bits.deBruijn32tab", Rows.laid_math_bits_deBruijn32tab), ("math/bits.deBruijn64tab", Rows.laid_math_bits_deBruijn64tab), ("internal/strconv.uint64pow10", Rows.laid_internal_strconv_uint64pow10), ("unicode/utf8.acceptRanges", Rows.laid_unicode_utf8_acceptRanges), ("strconv.ErrRange", Rows.laid_strconv_ErrRange), ("strconv.ErrSyntax", Rows.laid_strconv_ErrSyntax), ("unicode/utf8.first", Rows.laid_unicode_utf8_first)] w := h
  have h3 := h7.tail.tail.tail.tail
  obtain ⟨a1, s1, hv1, _⟩ := laid_sentinel h3 lgRan lgRanT Tryd.underlying128 lgErr Tryd.underlying261 Tryd.underlying263 rfl rfl Tryd.underlying9 lgES lgStr
  obtain ⟨a2, s2, hv2, _⟩ := laid_sentinel h3.tail lgSyn lgSynT Tryd.underlying128 lgErr Tryd.underlying261 Tryd.underlying263 rfl rfl Tryd.underlying9 lgES lgStr
  exact ⟨⟨_, by simpa using World.var?_cell lgSyn hv2 0, .inr ⟨_, _, rfl⟩⟩, ⟨_, by simpa using World.var?_cell lgRan hv1 0, .inr ⟨_, _, rfl⟩⟩⟩
end Go.Proofs.YtlhhcgiifgkngaaDoor
