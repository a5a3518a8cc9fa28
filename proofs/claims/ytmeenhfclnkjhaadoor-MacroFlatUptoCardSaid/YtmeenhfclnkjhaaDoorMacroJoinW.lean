/- The law MacroJoin. Conditions: what it is handed is of bounded bulk; the machine's MaxLen is laid. -/
import Derived.Test.YtmeenhfclnkjhaaDoorMacroArg
import Derived.Test.YtmeenhfclnkjhaaDoorGoodP
namespace Go.Proofs.YtmeenhfclnkjhaaDoor
open Go.RowKit Go.Shelf Go.Maps
theorem mtxt_app (l m : Bs) : txt l ++ txt m = txt (l ++ m) := by
  unfold txt
  cases l <;> simp [ByteArray.ext_iff]
theorem mtxt_eq (l m : Bs) : ((txt l).toList == (txt m).toList) = decide (l = m) := by
  rw [Lib.toList_data, Lib.toList_data, txt_list, txt_list, Bool.eq_iff_iff, beq_iff_eq, decide_eq_true_iff]
theorem expand_len (l : List Mac) (s : Bs) : (expandE okM l s).2.length ≤ 2000 := by
  unfold expandE
  split
  · simp
  · unfold expandR
    split
    · simp
    · split
      · simp
      · split
        · simp
        · rename_i h
          unfold lrg at h
          simp only [Bool.or_eq_true, decide_eq_true_eq, not_or] at h
          simp only
          omega
end Go.Proofs.YtmeenhfclnkjhaaDoor
