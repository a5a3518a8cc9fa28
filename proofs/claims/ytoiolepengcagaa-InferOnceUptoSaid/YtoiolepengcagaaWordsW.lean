/- The walks of line.Split and line.Words. Conditions: the text is at most 2^32 bytes. -/
import Derived.Test.YtoiolepengcagaaRuleP
import Derived.Test.YtoiolepengcagaaNLArg
import Derived.Shelf.Strings.SlTrimAscii
import Derived.Deep.RegionWith
namespace Go.Proofs.Ytoiolepengcagaa
open Go.RowKit Go.Shelf
/-- trimmed of blanks -/
def trm (s : ByteArray) : ByteArray := txt (Lib.trimS s.data.toList [32, 9])
def isB (l : Bs) (x : List ByteArray) : Prop := lsB x = wordsL l
/-- the words of a text -/
def wb (l : Bs) : List ByteArray := (wordsL l).map txt
theorem lst_wb (l : Bs) : lsB (wb l) = wordsL l := by
  unfold lsB wb
  rw [List.map_map]
  have : (fun x : ByteArray => x.data.toList) ∘ txt = id := by funext l; exact txt_list l
  rw [this, List.map_id]
theorem wb_lst (x : List ByteArray) : (lsB x).map txt = x := by
  unfold lsB
  rw [List.map_map]
  have : txt ∘ (fun x : ByteArray => x.data.toList) = id := by funext l; exact list_txt l
  rw [this, List.map_id]
theorem fields_wb (s : ByteArray) : Lib.goFieldsP pblk s = wb s.data.toList := by
  unfold wb
  rw [← fields_words, ← lsB, wb_lst]
theorem enc_rune (x : Nat) : Value.int .i32 (x : Int) = Value.int .i32 (x : Int) := rfl
theorem wb_size (l : Bs) : ∀ s ∈ wb l, s.size ≤ l.length := by
  have key : ∀ l cur, ∀ w ∈ wgo cur l, w.length ≤ cur.length + l.length := by
    intro l
    induction l with
    | nil =>
      intro cur w hw
      rw [wgo_nil] at hw
      split at hw
      · cases hw
      · have : w = cur := by simpa using hw
        subst this; simp
    | cons c l ih =>
      intro cur w hw
      rw [wgo_cons] at hw
      simp only [List.length_cons]
      split at hw
      · split at hw
        · have := ih [] w hw; simp at this; omega
        · rcases List.mem_cons.1 hw with rfl | hw
          · omega
          · have := ih [] w hw; simp at this; omega
      · have := ih _ w hw
        rw [List.length_append, List.length_singleton] at this
        omega
  intro s hs
  obtain ⟨w, hw, rfl⟩ := List.mem_map.1 hs
  rw [txt_size]
  have := key l [] w hw
  simpa using this
theorem wb_len (l : Bs) : (wb l).length ≤ l.length := by
  have key : ∀ l cur, (wgo cur l).length ≤ l.length + (if cur = [] then 0 else 1) := by
    intro l
    induction l with
    | nil =>
      intro cur
      rw [wgo_nil]
      split <;> simp
    | cons c l ih =>
      intro cur
      rw [wgo_cons]
      simp only [List.length_cons]
      split
      · have := ih []
        simp only [if_true] at this
        split
        · omega
        · simp only [List.length_cons]; omega
      · have := ih (cur ++ [c])
        rw [if_neg (by simp)] at this
        split <;> omega
  unfold wb
  rw [List.length_map]
  have := key l []
  simpa [wordsL] using this
/-- what Words answers -/
def WordsPost (w : World) (us : List ByteArray) (e : Ending) (w' : World) : Prop :=
  ∃ A : Nat, e = .returned (.slice (some ⟨A, 0, none⟩) us.length us.length) ∧ w'.ownsRow w.heap.size 9 1 (.slice (some ⟨A, 0, none⟩) us.length us.length) us.length (strsV us) ∧ NL w' (some ⟨A, 0, none⟩) us.length us.length us ∧ Below w.heap.size w w'
end Go.Proofs.Ytoiolepengcagaa
