/- The tables that the walks of asks read, off the list of what is laid. Conditions: none. -/
import Derived.Test.YtcegmcnknkjcpaaDoorNormFnW
import Derived.Lib.LaidU8T
namespace Go.Proofs.YtcegmcnknkjcpaaDoor
open Go.RowKit Go.Shelf Go.Lib
def rhoU : Ren := ⟨fun x => x, fun x => if x = 5 then 5 else if x = 119 then 137 else if x = 138 then 139 else 140, fun x => if x = 3 then 4 else 5⟩
theorem u8t : U8Types Tryd.prog rhoU := ⟨by kernel_rfl, by kernel_rfl, by kernel_rfl, by kernel_rfl⟩
theorem u8x : U8Extra Tryd.prog rhoU := ⟨by kernel_rfl, by kernel_rfl, by kernel_rfl, by kernel_rfl, by kernel_rfl, by kernel_rfl, by kernel_rfl⟩
theorem firstMem : ("unicode/utf8.first", firstData) ∈ laidL := by
  have e : (Rows.laid_unicode_utf8_first : DataW Unit) = firstData := by kernel_rfl
  rw [← e]
  show _ ∈ [_, _, _, _, _, _, _]
  repeat (first | exact List.Mem.head _ | apply List.Mem.tail)
theorem acceptMem : ("unicode/utf8.acceptRanges", acceptData) ∈ laidL := by
  have e : (Rows.laid_unicode_utf8_acceptRanges : DataW Unit) = acceptData := by kernel_rfl
  rw [← e]
  show _ ∈ [_, _, _, _, _, _, _]
  repeat (first | exact List.Mem.head _ | apply List.Mem.tail)
theorem powMem : ("internal/strconv.uint64pow10", (Lib.tabData .u64 Lib.pow10Tab : DataW Unit)) ∈ laidL := by
  have e : (Rows.laid_internal_strconv_uint64pow10 : DataW Unit) = Lib.tabData .u64 Lib.pow10Tab := by kernel_rfl
  rw [← e]
  show _ ∈ [_, _, _, _, _, _, _]
  repeat (first | exact List.Mem.head _ | apply List.Mem.tail)
theorem utf_of {w : World} (h : laidMetH Tryd.prog laidL w) : Lib.Utf8Tabs 4 5 w := by
  rw [MakeChecks.laidMetH_plain _ _ _ (by kernel_rfl)] at h
  obtain ⟨ps, hl, _⟩ := h
  exact utf8Tabs_of_readsT u8t u8x (LaidVars_reads hl _ _ firstMem) (LaidVars_reads hl _ _ acceptMem)
theorem ask_tabs {w : World} (h : laidMetH Tryd.prog laidL w) : AskTabs w := ⟨forms_of h, utf_of h⟩
theorem txt_tabs {w : World} (h : laidMetH Tryd.prog laidL w) : TxtTabs w :=
  ⟨ask_tabs h, kinds_of h, laid_tab h powMem (g := 2) (t := 125) (e := 104) (n := 20) (by kernel_rfl) (by kernel_rfl) Tryd.underlying125 Tryd.underlying104 (by kernel_rfl) (by kernel_rfl)⟩
end Go.Proofs.YtcegmcnknkjcpaaDoor
