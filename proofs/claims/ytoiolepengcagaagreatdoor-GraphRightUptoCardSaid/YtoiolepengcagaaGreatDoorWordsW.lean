/- The walks of line.Split and line.Words. Conditions: the text is at most 2^32 bytes. -/
import Derived.Test.YtoiolepengcagaaGreatDoorRuleP
import Derived.Test.YtoiolepengcagaaGreatDoorNLArg
import Derived.Shelf.Strings.SlTrimAscii
import Derived.Deep.RegionWith
namespace Go.Proofs.YtoiolepengcagaaGreatDoor
open Go.RowKit Go.Shelf
/-- trimmed of blanks -/
def trm (s : ByteArray) : ByteArray := txt (Lib.trimS s.data.toList [32, 9])
theorem trim_ok (s : ByteArray) (w : World) (hs : s.size ≤ 9223372036854775807) :
    Calls Tryz.prog 106 #[.string s, .string ⟨#[32, 9]⟩] w fun e w' => e = .returned (.string (trm s)) ∧ Below w.heap.size w w' :=
  Any.strings_Trim_laid Tryz.lays160 (by kernel_rfl) s ⟨#[32, 9]⟩ w hs (by decide) (ascii_of_all (by decide))
theorem Split_no (s : ByteArray) (c : UInt8) (w : World) (h : Lib.indexByte s.data.toList c = -1) :
    Calls Tryz.prog 73 #[.string s, .int .u8 (c.toNat : Int)] w fun e w' => e = .returned (.tuple #[.string s, .string ⟨#[]⟩, .bool false]) ∧ w' = w := by
  have H := Lib.hid h
  clear h
  go_enter Tryz.func73, Tryz.ntmps73
  go_wp2_with (go_at_call 69; refine (Tryz.strings_IndexByte s _ _).mono ?_; rw [byte_back, H.out]; rintro e w' ⟨rfl, rfl⟩)
  go_ret3
  exact ⟨rfl, rfl⟩
set_option maxHeartbeats 1000000 in
theorem Split_yes (s : ByteArray) (c : UInt8) (w : World) (k : Nat) (h : Lib.indexByte s.data.toList c = k) (hk : k < s.size) (hs : s.size ≤ 140737488355328) :
    Calls Tryz.prog 73 #[.string s, .int .u8 (c.toNat : Int)] w fun e w' => e = .returned (.tuple #[.string (trm (s.extract 0 k)), .string (trm (s.extract (k + 1) s.size)), .bool true]) ∧ Below w.heap.size w w' := by
  have H := Lib.hid h
  clear h
  have s1 : (s.extract 0 k).size ≤ 9223372036854775807 := by rw [ByteArray.size_extract]; omega
  have s2 : (s.extract (k + 1) s.size).size ≤ 9223372036854775807 := by rw [ByteArray.size_extract]; omega
  go_enter Tryz.func73, Tryz.ntmps73
  go_wp2_with (go_at_call 69; refine (Tryz.strings_IndexByte s _ _).mono ?_; rw [byte_back, H.out]; rintro e w' ⟨rfl, rfl⟩)
  have f1 : (k : Int) + 1 ≤ (s.size : Int) := by omega
  have f2 : (0 : Int) ≤ (k : Int) + 1 := by omega
  have f3 : ((k : Int) + 1).toNat = k + 1 := by omega
  have f4 : k + 1 ≤ s.size := hk
  have f5 : IntKind.i64.wrap ((k : Int) + 1) = (k : Int) + 1 := by rw [IntKind.wrap_i64]; omega
  go_region_with (go_at_call 106; refine (trim_ok _ _ (by rw [ByteArray.size_extract]; omega)).mono ?_; rintro e w1 ⟨rfl, hb⟩; (first | (have HB2 := Lib.hid (HB1.out.trans (hb.mono HB1.out.size))) | (have HB1 := Lib.hid hb)); clear hb)
  all_goals (go_wp2; go_ret3; exact ⟨rfl, ((Below.refl _ _).drew).trans HB2.out⟩)
def isB (l : Bs) (x : List ByteArray) : Prop := lsB x = wordsL l
/-- the words of a text -/
def wb (l : Bs) : List ByteArray := (wordsL l).map txt
theorem lst_wb (l : Bs) : lsB (wb l) = wordsL l := by
  unfold lsB wb
  rw [List.map_map]
  have : (fun x : ByteArray => x.data.toList) ∘ txt = id := by funext l; exact txt_list l
  rw [this, List.map_id]
theorem wb_lst (x : List ByteArray) : (lsB x).map txt = x := by
  unfold lsB
  rw [List.map_map]
  have : txt ∘ (fun x : ByteArray => x.data.toList) = id := by funext l; exact list_txt l
  rw [this, List.map_id]
theorem fields_wb (s : ByteArray) : Lib.goFieldsP pblk s = wb s.data.toList := by
  unfold wb
  rw [← fields_words, ← lsB, wb_lst]
theorem enc_rune (x : Nat) : Value.int .i32 (x : Int) = Value.int .i32 (x : Int) := rfl
set_option maxHeartbeats 400000 in
theorem blank_pays (w : World) : PredAt Tryz.prog 103 #[] encR pblk w := by
  intro W x _
  unfold FnGives
  show Calls Tryz.prog 103 #[.int .i32 (x : Int)] W _
  by_cases h1 : x = 32
  · subst h1
    go_enter Tryz.func103, Tryz.ntmps103
    go_wp2
    go_ret
    exact ⟨rfl, 0, rfl⟩
  · by_cases h2 : x = 9
    · subst h2
      go_enter Tryz.func103, Tryz.ntmps103
      go_wp2
      go_ret
      exact ⟨rfl, 0, rfl⟩
    · have e1 : ((x : Int) == 32) = false := by rw [beq_eq_false_iff_ne]; omega
      have e2 : ((x : Int) == 9) = false := by rw [beq_eq_false_iff_ne]; omega
      have hp : Hid (pblk x = false) := by
        show _ = _
        unfold pblk
        rw [Bool.or_eq_false_iff, beq_eq_false_iff_ne, beq_eq_false_iff_ne]
        exact ⟨h1, h2⟩
      go_enter Tryz.func103, Tryz.ntmps103
      go_wp2
      go_ret
      exact ⟨by rw [hp.out]; rfl, 0, rfl⟩
theorem wb_size (l : Bs) : ∀ s ∈ wb l, s.size ≤ l.length := by
  have key : ∀ l cur, ∀ w ∈ wgo cur l, w.length ≤ cur.length + l.length := by
    intro l
    induction l with
    | nil =>
      intro cur w hw
      rw [wgo_nil] at hw
      split at hw
      · cases hw
      · have : w = cur := by simpa using hw
        subst this; simp
    | cons c l ih =>
      intro cur w hw
      rw [wgo_cons] at hw
      simp only [List.length_cons]
      split at hw
      · split at hw
        · have := ih [] w hw; simp at this; omega
        · rcases List.mem_cons.1 hw with rfl | hw
          · omega
          · have := ih [] w hw; simp at this; omega
      · have := ih _ w hw
        rw [List.length_append, List.length_singleton] at this
        omega
  intro s hs
  obtain ⟨w, hw, rfl⟩ := List.mem_map.1 hs
  rw [txt_size]
  have := key l [] w hw
  simpa using this
theorem wb_len (l : Bs) : (wb l).length ≤ l.length := by
  have key : ∀ l cur, (wgo cur l).length ≤ l.length + (if cur = [] then 0 else 1) := by
    intro l
    induction l with
    | nil =>
      intro cur
      rw [wgo_nil]
      split <;> simp
    | cons c l ih =>
      intro cur
      rw [wgo_cons]
      simp only [List.length_cons]
      split
      · have := ih []
        simp only [if_true] at this
        split
        · omega
        · simp only [List.length_cons]; omega
      · have := ih (cur ++ [c])
        rw [if_neg (by simp)] at this
        split <;> omega
  unfold wb
  rw [List.length_map]
  have := key l []
  simpa [wordsL] using this
/-- what Words answers -/
def WordsPost (w : World) (us : List ByteArray) (e : Ending) (w' : World) : Prop :=
  ∃ A : Nat, e = .returned (.slice (some ⟨A, 0, none⟩) us.length us.length) ∧ w'.ownsRow w.heap.size 9 1 (.slice (some ⟨A, 0, none⟩) us.length us.length) us.length (strsV us) ∧ NL w' (some ⟨A, 0, none⟩) us.length us.length us ∧ Below w.heap.size w w'
theorem Words_ok (s : ByteArray) (w : World) (hs : s.size ≤ 1048576) :
    Calls Tryz.prog 66 #[.string s] w (WordsPost w (wb s.data.toList)) := by
  have hF := Tryz.strings_FieldsFunc 103 #[] (enters_of Tryz.func103 (by kernel_rfl) rfl) pblk s w (by omega) (blank_pays w)
  rw [fields_wb] at hF
  have hsz : ∀ x ∈ wb s.data.toList, x.size ≤ 4611686018427387904 := fun x hx => by
    have := wb_size _ x hx
    rw [← Lib.size_eq] at this
    omega
  have hln := wb_len s.data.toList
  rw [← Lib.size_eq] at hln
  have HSZ := Lib.hid hsz
  have HF := Lib.hid hF
  clear hF hsz
  generalize wb s.data.toList = us at *
  go_enter Tryz.func66, Tryz.ntmps66
  go_wp2_with (go_at_call 102; refine HF.out.mono ?_; rintro e w1 ⟨g, rfl, _, hown, hb⟩; have HO := Lib.hid hown; have HB := Lib.hid hb; clear hown hb)
  go_ret
  exact ⟨g, rfl, HO.out, NL_own HO.out HSZ.out (by omega), HB.out⟩
end Go.Proofs.YtoiolepengcagaaGreatDoor
