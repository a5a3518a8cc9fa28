/- Texts joined: NLArg, WordsW, StemW, LineW, Pairs, Box2. Conditions: theirs. -/
import Derived.Test.YtoiolepengcagaaDoorFileCycleWM1
import Derived.WideShapes
import Derived.Test.YtoiolepengcagaaDoorRuleP
import Derived.Shelf.Strings.SlTrimAscii
import Derived.Deep.RegionWith
import Derived.Test.YtoiolepengcagaaDoorNameW
import Derived.Deep.QuietTactic
import Derived.BigQuiet
import Derived.Lib.LastIndexByte
import Derived.Test.YtoiolepengcagaaDoorLineQ
import Derived.Test.YtoiolepengcagaaDoorMem
import Derived.Deep.SlicePairs
import Derived.SizedLaws
import Derived.WalkKit
import Derived.Laws.ResultCell
import Derived.Laws.Rows
import Derived.Sort.Walk0
namespace Go.Proofs.YtoiolepengcagaaDoor
open Go.RowKit Go.ChangeShapes
theorem shape_lt {w : World} {b : Nat} {r : TypeId × Nat} (h : w.shape? b = some r) : b < w.heap.size := by
  unfold World.shape? at h
  rcases Nat.lt_or_ge b w.heap.size with hb | hb
  · exact hb
  · rw [Array.getElem?_eq_none hb] at h; cases h
theorem slice_plain {P : Program} {W : World} {b0 : Nat} {r : Reach} {a : Option Addr} {len cap : Nat} {t e : TypeId} (ht : P.underlying t = some (.slice e)) (h : Value.okWide P W r b0 t (.slice a len cap)) :
    (a = none → cap = 0) ∧ ∀ ad, a = some ad → ∃ b off, ad = ⟨b, off, none⟩ ∧ b < W.heap.size := by
  simp only [Value.okWide, ht, Cell.okWide] at h
  unfold Cell.ok at h
  rw [ht] at h
  cases a with
  | none =>
    refine ⟨fun _ => ?_, fun ad h => by cases h⟩
    revert h
    cases len <;> cases cap <;> simp
  | some ad =>
    refine ⟨fun h => (by cases h), fun ad' h' => ?_⟩
    injection h' with h'
    subst h'
    obtain ⟨_, _, _, hs, row, cells, hsh, _⟩ := h
    obtain ⟨b, o, s⟩ := ad
    simp only at hs
    subst hs
    exact ⟨b, o, rfl, shape_lt hsh⟩
def NLArg (w : World) (p : Option Addr) (n c : Nat) : Prop := ∃ zs, NL w p n c zs
set_option maxRecDepth 100000 in
theorem nl_arg {H : Type} {enc : TypeId × Value → H} {W : World} {r : Reach} {b0 fuel len cap : Nat} {a : Option Addr} {d : DataW H} {p : List MemPlace}
    (hok : Value.okWide Tryd.prog W r b0 28 (.slice a len cap))
    (ht : Tryd.prog.underlying 28 = some (.slice 9)) (he : Tryd.prog.underlying 9 = some .string) (hc : Tryd.prog.cellsOf 9 = 1)
    (hf : DataW.trod enc Tryd.prog W 0 (fun _ => true) true fuel 28 [.slice a len cap] = some (d, p))
    (hsz : ∀ n, n ∈ d.weights Tryd.prog 28 → n ≤ reachBytes) : NLArg W a len cap := by
  obtain ⟨ss, hS⟩ := str_arg ht he hc hf hsz
  obtain ⟨h1, h2⟩ := slice_plain ht hok
  refine ⟨ss, hS, h1, h2, ?_⟩
  rcases open_strings ht he hc hf with ⟨h1, h2⟩ | ⟨ad, ln, cp, zs, h1, h2, h3, h4, h5, h6, h7, h8⟩
  · injection h1 with h1 _
    injection h1 with e1 e2 e3
    subst e1 e2 e3
    omega
  · injection h1 with h1 _
    injection h1 with e1 e2 e3
    subst e1 e2 e3
    injection h6 with h6 h6'
    have hw : d.weights Tryd.prog 28 = ((strs (H := H) (zs.take len)).length + (strs (H := H) (zs.drop len)).length) * Tryd.prog.bytesOf 9 :: (DataW.weightsAll Tryd.prog 9 (strs (H := H) (zs.take len)) ++ DataW.weightsAll Tryd.prog 9 (strs (H := H) (zs.drop len))) := by
      rw [h6, DataW.weights, ht]
    have hb := hsz _ (by rw [hw]; exact List.mem_cons_self)
    have hby : Tryd.prog.bytesOf 9 = 16 := by kernel_rfl
    rw [hby] at hb
    unfold reachBytes at hb
    simp only [if_true] at h5
    have hl1 : (strs (H := H) (zs.take len)).length = len := by unfold strs; rw [List.length_map, List.length_take]; omega
    rw [hl1] at hb
    omega
end Go.Proofs.YtoiolepengcagaaDoor
namespace Go.Proofs.YtoiolepengcagaaDoor
open Go.RowKit Go.Shelf
/-- trimmed of blanks -/
def trm (s : ByteArray) : ByteArray := txt (Lib.trimS s.data.toList [32, 9])
theorem trim_ok (s : ByteArray) (w : World) (hs : s.size ≤ 9223372036854775807) :
    Calls Tryd.prog 52 #[.string s, .string ⟨#[32, 9]⟩] w fun e w' => e = .returned (.string (trm s)) ∧ Below w.heap.size w w' :=
  Any.strings_Trim_laid Tryd.lays160 (by kernel_rfl) s ⟨#[32, 9]⟩ w hs (by decide) (ascii_of_all (by decide))
theorem Split_no (s : ByteArray) (c : UInt8) (w : World) (h : Lib.indexByte s.data.toList c = -1) :
    Calls Tryd.prog 33 #[.string s, .int .u8 (c.toNat : Int)] w fun e w' => e = .returned (.tuple #[.string s, .string ⟨#[]⟩, .bool false]) ∧ w' = w := by
  have H := Lib.hid h
  clear h
  go_enter Tryd.func33, Tryd.ntmps33
  go_wp2_with (go_at_call 29; refine (Tryd.strings_IndexByte s _ _).mono ?_; rw [byte_back, H.out]; rintro e w' ⟨rfl, rfl⟩)
  go_ret3
  exact ⟨rfl, rfl⟩
set_option maxHeartbeats 1000000 in
theorem Split_yes (s : ByteArray) (c : UInt8) (w : World) (k : Nat) (h : Lib.indexByte s.data.toList c = k) (hk : k < s.size) (hs : s.size ≤ 140737488355328) :
    Calls Tryd.prog 33 #[.string s, .int .u8 (c.toNat : Int)] w fun e w' => e = .returned (.tuple #[.string (trm (s.extract 0 k)), .string (trm (s.extract (k + 1) s.size)), .bool true]) ∧ Below w.heap.size w w' := by
  have H := Lib.hid h
  clear h
  have s1 : (s.extract 0 k).size ≤ 9223372036854775807 := by rw [ByteArray.size_extract]; omega
  have s2 : (s.extract (k + 1) s.size).size ≤ 9223372036854775807 := by rw [ByteArray.size_extract]; omega
  go_enter Tryd.func33, Tryd.ntmps33
  go_wp2_with (go_at_call 29; refine (Tryd.strings_IndexByte s _ _).mono ?_; rw [byte_back, H.out]; rintro e w' ⟨rfl, rfl⟩)
  have f1 : (k : Int) + 1 ≤ (s.size : Int) := by omega
  have f2 : (0 : Int) ≤ (k : Int) + 1 := by omega
  have f3 : ((k : Int) + 1).toNat = k + 1 := by omega
  have f4 : k + 1 ≤ s.size := hk
  have f5 : IntKind.i64.wrap ((k : Int) + 1) = (k : Int) + 1 := by rw [IntKind.wrap_i64]; omega
  go_region_with (go_at_call 52; refine (trim_ok _ _ (by rw [ByteArray.size_extract]; omega)).mono ?_; rintro e w1 ⟨rfl, hb⟩; (first | (have HB2 := Lib.hid (HB1.out.trans (hb.mono HB1.out.size))) | (have HB1 := Lib.hid hb)); clear hb)
  all_goals (go_wp2; go_ret3; exact ⟨rfl, ((Below.refl _ _).drew).trans HB2.out⟩)
def isB (l : Bs) (x : List ByteArray) : Prop := lsB x = wordsL l
/-- the words of a text -/
def wb (l : Bs) : List ByteArray := (wordsL l).map txt
theorem lst_wb (l : Bs) : lsB (wb l) = wordsL l := by
  unfold lsB wb
  rw [List.map_map]
  have : (fun x : ByteArray => x.data.toList) ∘ txt = id := by funext l; exact txt_list l
  rw [this, List.map_id]
theorem wb_lst (x : List ByteArray) : (lsB x).map txt = x := by
  unfold lsB
  rw [List.map_map]
  have : txt ∘ (fun x : ByteArray => x.data.toList) = id := by funext l; exact list_txt l
  rw [this, List.map_id]
theorem fields_wb (s : ByteArray) : Lib.goFieldsP pblk s = wb s.data.toList := by
  unfold wb
  rw [← fields_words, ← lsB, wb_lst]
theorem enc_rune (x : Nat) : Value.int .i32 (x : Int) = Value.int .i32 (x : Int) := rfl
set_option maxHeartbeats 400000 in
theorem blank_pays (w : World) : PredAt Tryd.prog 50 #[] encR pblk w := by
  intro W x _
  unfold FnGives
  show Calls Tryd.prog 50 #[.int .i32 (x : Int)] W _
  by_cases h1 : x = 32
  · subst h1
    go_enter Tryd.func50, Tryd.ntmps50
    go_wp2
    go_ret
    exact ⟨rfl, 0, rfl⟩
  · by_cases h2 : x = 9
    · subst h2
      go_enter Tryd.func50, Tryd.ntmps50
      go_wp2
      go_ret
      exact ⟨rfl, 0, rfl⟩
    · have e1 : ((x : Int) == 32) = false := by rw [beq_eq_false_iff_ne]; omega
      have e2 : ((x : Int) == 9) = false := by rw [beq_eq_false_iff_ne]; omega
      have hp : Hid (pblk x = false) := by
        show _ = _
        unfold pblk
        rw [Bool.or_eq_false_iff, beq_eq_false_iff_ne, beq_eq_false_iff_ne]
        exact ⟨h1, h2⟩
      go_enter Tryd.func50, Tryd.ntmps50
      go_wp2
      go_ret
      exact ⟨by rw [hp.out]; rfl, 0, rfl⟩
theorem wb_size (l : Bs) : ∀ s ∈ wb l, s.size ≤ l.length := by
  have key : ∀ l cur, ∀ w ∈ wgo cur l, w.length ≤ cur.length + l.length := by
    intro l
    induction l with
    | nil =>
      intro cur w hw
      rw [wgo_nil] at hw
      split at hw
      · cases hw
      · have : w = cur := by simpa using hw
        subst this; simp
    | cons c l ih =>
      intro cur w hw
      rw [wgo_cons] at hw
      simp only [List.length_cons]
      split at hw
      · split at hw
        · have := ih [] w hw; simp at this; omega
        · rcases List.mem_cons.1 hw with rfl | hw
          · omega
          · have := ih [] w hw; simp at this; omega
      · have := ih _ w hw
        rw [List.length_append, List.length_singleton] at this
        omega
  intro s hs
  obtain ⟨w, hw, rfl⟩ := List.mem_map.1 hs
  rw [txt_size]
  have := key l [] w hw
  simpa using this
theorem wb_len (l : Bs) : (wb l).length ≤ l.length := by
  have key : ∀ l cur, (wgo cur l).length ≤ l.length + (if cur = [] then 0 else 1) := by
    intro l
    induction l with
    | nil =>
      intro cur
      rw [wgo_nil]
      split <;> simp
    | cons c l ih =>
      intro cur
      rw [wgo_cons]
      simp only [List.length_cons]
      split
      · have := ih []
        simp only [if_true] at this
        split
        · omega
        · simp only [List.length_cons]; omega
      · have := ih (cur ++ [c])
        rw [if_neg (by simp)] at this
        split <;> omega
  unfold wb
  rw [List.length_map]
  have := key l []
  simpa [wordsL] using this
/-- what Words answers -/
def WordsPost (w : World) (us : List ByteArray) (e : Ending) (w' : World) : Prop :=
  ∃ A : Nat, e = .returned (.slice (some ⟨A, 0, none⟩) us.length us.length) ∧ w'.ownsRow w.heap.size 9 1 (.slice (some ⟨A, 0, none⟩) us.length us.length) us.length (strsV us) ∧ NL w' (some ⟨A, 0, none⟩) us.length us.length us ∧ Below w.heap.size w w'
theorem Words_ok (s : ByteArray) (w : World) (hs : s.size ≤ 1048576) :
    Calls Tryd.prog 31 #[.string s] w (WordsPost w (wb s.data.toList)) := by
  have hF := Tryd.strings_FieldsFunc 50 #[] (enters_of Tryd.func50 (by kernel_rfl) rfl) pblk s w (by omega) (blank_pays w)
  rw [fields_wb] at hF
  have hsz : ∀ x ∈ wb s.data.toList, x.size ≤ 4611686018427387904 := fun x hx => by
    have := wb_size _ x hx
    rw [← Lib.size_eq] at this
    omega
  have hln := wb_len s.data.toList
  rw [← Lib.size_eq] at hln
  have HSZ := Lib.hid hsz
  have HF := Lib.hid hF
  clear hF hsz
  generalize wb s.data.toList = us at *
  go_enter Tryd.func31, Tryd.ntmps31
  go_wp2_with (go_at_call 49; refine HF.out.mono ?_; rintro e w1 ⟨g, rfl, _, hown, hb⟩; have HO := Lib.hid hown; have HB := Lib.hid hb; clear hown hb)
  go_ret
  exact ⟨g, rfl, HO.out, NL_own HO.out HSZ.out (by omega), HB.out⟩
end Go.Proofs.YtoiolepengcagaaDoor
namespace Go.Proofs.YtoiolepengcagaaDoor
open Go.RowKit
/-- what Stem answers -/
def StemPost (s : ByteArray) (w : World) (e : Ending) (w' : World) : Prop :=
  Below w.heap.size w w' ∧ ((Lib.lastIndexByte s 46 ≤ Lib.lastIndexByte s 47 + 1 ∧ e = .returned (.tuple #[.string s, .string ⟨#[]⟩])) ∨
    (Lib.lastIndexByte s 47 + 1 < Lib.lastIndexByte s 46 ∧ ∃ k : Nat, Lib.lastIndexByte s 46 = k ∧ k < s.size ∧ e = .returned (.tuple #[.string (s.extract 0 k), .string (s.extract k s.size)])))
theorem below_drawsP {b : Nat} {w w1 : World} (h : Below b w w1) (k : Nat) : Below b w (w1.drewN k) := ⟨h.os, h.tape, h.output, h.size, h.block⟩
theorem last_in (s : ByteArray) (c : Int) : -1 ≤ Lib.lastIndexByte s c ∧ (Lib.lastIndexByte s c < s.size ∨ Lib.lastIndexByte s c = -1) := by
  rcases Lib.lastIndexByte_spec s c with ⟨h, _⟩ | ⟨i, h1, h2, _⟩
  · exact ⟨by omega, .inr h⟩
  · exact ⟨by omega, .inl (by omega)⟩
end Go.Proofs.YtoiolepengcagaaDoor
namespace Go.Proofs.YtoiolepengcagaaDoor
open Go.RowKit Go.Shelf
/-- MaxLen's cell holds a number -/
def ML (w : World) : Prop := ∃ m : Int, w.cell? ⟨0, 0, none⟩ = some (.int .i64 m)
theorem ML.lt {w : World} (h : ML w) : 0 < w.heap.size := by
  obtain ⟨m, h⟩ := h
  exact World.block_lt_of_cell? w _ h
theorem ML.below {w w' : World} (h : ML w) (hb : Below w.heap.size w w') : ML w' := by
  have hl := h.lt
  obtain ⟨m, h⟩ := h
  exact ⟨m, (hb.cell hl).trans h⟩
theorem ML.of {w : World} (h : w.ShapedOpen Tryd.prog) : ML w := Tryd.laysM219.s1_3 w h
def badC (c : UInt8) : Bool := decide (126 < c.toNat) || (decide (c.toNat < 32) && (c.toNat != 9) && (c.toNat != 10))
def badB (l : Bl) : Bool := l.any badC
theorem byte_at {s : ByteArray} {k : Nat} (h : k < s.size) : s.data.toList.take (k + 1) = s.data.toList.take k ++ [s[k]] := by
  rw [List.take_add_one, ba_at h]; rfl
set_option maxHeartbeats 2000000 in
theorem bad_ok (s : ByteArray) (hs : s.size ≤ 4611686018427387904) (w : World) : Calls Tryd.prog 47 #[.string s] w fun e w' => e = .returned (.bool (badB s.data.toList)) ∧ w' = w := by
  go_enter Tryd.func47, Tryd.ntmps47
  go_wp2
  go_loop [7] (fun i => ∃ k : Nat, k ≤ s.size ∧ i = .int .i64 k ∧ Hid ((s.data.toList.take k).any badC = false)) (fun i => s.size - (intOf i).toNat)
  case atStart => exact ⟨0, Nat.zero_le _, rfl, rfl⟩
  case round =>
    obtain ⟨k, hk, rfl, HK⟩ := hrel
    by_cases hlt : k < s.size
    · obtain ⟨c, hc⟩ : ∃ c, s[k] = c := ⟨_, rfl⟩
      have hct := c.toNat_lt
      have hnx : (s.data.toList.take (k + 1)).any badC = badC c := by
        rw [byte_at hlt, List.any_append, HK.out, hc]
        simp
      have HNX := Lib.hid hnx
      have hbm : badC c = true → badB s.data.toList = true := by
        intro h
        unfold badB
        rw [List.any_eq_true]
        refine ⟨c, ?_, h⟩
        have := ba_at hlt
        rw [hc] at this
        exact List.mem_of_getElem? this
      have HBM := Lib.hid hbm
      clear hnx hbm
      by_cases h1 : 126 < c.toNat
      · have HV : Hid (badB s.data.toList = true) := HBM.out (by unfold badC; rw [decide_eq_true h1]; rfl)
        have e1 : decide ((126 : Int) < (c.toNat : Int)) = true := decide_eq_true (by omega)
        go_wp2
        go_ret
        exact ⟨by rw [HV.out]; rfl, rfl⟩
      · have e1 : decide ((126 : Int) < (c.toNat : Int)) = false := decide_eq_false (by omega)
        by_cases h2 : c.toNat < 32
        · have e2 : decide ((c.toNat : Int) < 32) = true := decide_eq_true (by omega)
          by_cases h3 : c.toNat = 9
          · have HV : Hid ((s.data.toList.take (k + 1)).any badC = false) := by show _ = _; rw [HNX.out]; unfold badC; rw [h3]; decide
            have e3 : ((c.toNat : Int) != 9) = false := by rw [h3]; rfl
            go_wp2
            go_round
            case rel => exact ⟨k + 1, by omega, by go_num, HV.out⟩
            case measure => simp [intOf]; omega
          · have e3 : ((c.toNat : Int) != 9) = true := by rw [bne_iff_ne]; omega
            by_cases h4 : c.toNat = 10
            · have HV : Hid ((s.data.toList.take (k + 1)).any badC = false) := by show _ = _; rw [HNX.out]; unfold badC; rw [h4]; decide
              have e4 : ((c.toNat : Int) != 10) = false := by rw [h4]; rfl
              go_wp2
              go_round
              case rel => exact ⟨k + 1, by omega, by go_num, HV.out⟩
              case measure => simp [intOf]; omega
            · have e4 : ((c.toNat : Int) != 10) = true := by rw [bne_iff_ne]; omega
              have HV : Hid (badB s.data.toList = true) := HBM.out (by
                unfold badC
                have g3 : (c.toNat != 9) = true := by rw [bne_iff_ne]; exact h3
                have g4 : (c.toNat != 10) = true := by rw [bne_iff_ne]; exact h4
                rw [decide_eq_true h2, g3, g4]; simp)
              go_wp2
              go_ret
              exact ⟨by rw [HV.out]; rfl, rfl⟩
        · have HV : Hid ((s.data.toList.take (k + 1)).any badC = false) := by show _ = _; rw [HNX.out]; unfold badC; rw [decide_eq_false h1, decide_eq_false h2]; rfl
          have e2 : decide ((c.toNat : Int) < 32) = false := decide_eq_false (by omega)
          go_wp2
          go_round
          case rel => exact ⟨k + 1, by omega, by go_num, HV.out⟩
          case measure => simp [intOf]; omega
    · obtain rfl : k = s.size := by omega
      have HV : Hid (badB s.data.toList = false) := by
        show _ = _
        have := HK.out
        rwa [List.take_of_length_le (by rw [← Lib.size_eq]; exact Nat.le_refl _)] at this
      go_wp2
      go_ret
      exact ⟨by rw [HV.out]; rfl, rfl⟩
theorem cntL_le (s sub : ByteArray) : Lib.countB s sub ≤ s.size + 1 := by
  have := Lib.count_le s.data.toList sub.data.toList
  rw [← Lib.size_eq] at this
  exact this
/-- the byte ahead of a place -/
def prv (l : Bl) : Nat → UInt8
  | 0 => 0
  | k + 1 => l.getD k 0
theorem hcut_at {l : Bl} {k : Nat} {c : UInt8} (hc : l[k]? = some c) : hcut (prv l k) (l.drop k) = if c = 35 ∧ prv l k ≠ 92 then [] else c :: hcut (prv l (k + 1)) (l.drop (k + 1)) := by
  have hk := (List.getElem?_eq_some_iff.1 hc).1
  have e : l[k] = c := (List.getElem?_eq_some_iff.1 hc).2
  rw [List.drop_eq_getElem_cons hk, e, hcut]
  have e2 : prv l (k + 1) = c := by show l.getD k 0 = c; rw [List.getD_eq_getElem?_getD, hc]; rfl
  rw [e2]
theorem une_len : ∀ n (x : Bl), x.length ≤ n → (une x).length ≤ x.length := by
  intro n
  induction n with
  | zero =>
    intro x h
    have : x = [] := List.length_eq_zero_iff.1 (by omega)
    subst this
    rw [une_nil]; exact Nat.le_refl _
  | succ n ih =>
    intro x h
    match x, h with
    | [], _ => rw [une_nil]; exact Nat.le_refl _
    | [d], _ => rw [une_cons (.inr (fun m e => by cases e)), une_nil]; exact Nat.le_refl _
    | d :: e :: m, h =>
      simp only [List.length_cons] at h
      by_cases hde : d = 92 ∧ e = 35
      · obtain ⟨rfl, rfl⟩ := hde
        rw [une_hash]
        have := ih m (by omega)
        simp only [List.length_cons]; omega
      · rw [une_cons (by
          by_cases h1 : d = 92
          · refine .inr (fun m' e' => ?_)
            injection e' with e1 _
            exact hde ⟨h1, e1⟩
          · exact .inl h1)]
        have := ih (e :: m) (by simp only [List.length_cons]; omega)
        simp only [List.length_cons] at this ⊢; omega
set_option maxHeartbeats 4000000 in
theorem cut_ok (s : ByteArray) (hs : s.size ≤ 1048576) (w : World) (hM : ML w) : Calls Tryd.prog 77 #[.string s] w fun e w' => e = .returned (.string (txt (cutL s.data.toList))) ∧ Below w.heap.size w w' := by
  obtain ⟨l, hl⟩ : ∃ l, l = s.data.toList := ⟨_, rfl⟩
  rw [← hl]
  have HL := Lib.hid hl
  clear hl
  have hfin : ∀ s' : ByteArray, s'.size ≤ 1048576 → Calls Tryd.prog 106 #[.string s', .string ⟨#[92, 35]⟩, .string ⟨#[35]⟩] w fun e w' => (∃ x : ByteArray, e = .returned (.string x) ∧ x.data.toList = une s'.data.toList ∧ x.size ≤ 9223372036854775807) ∧ Below w.heap.size w w' := by
    intro s' hs'
    obtain ⟨m, hm⟩ := hM
    have hcl := cntL_le s' ⟨#[92, 35]⟩
    refine (Tryd.strings_ReplaceAll s' ⟨#[92, 35]⟩ ⟨#[35]⟩ m w (by omega) hm (by decide) (by show s'.size + _ * 1 ≤ _; omega)).mono ?_
    rintro e w1 ⟨rfl, hb⟩
    refine ⟨⟨_, rfl, ?_, ?_⟩, hb⟩
    · show (txt _).data.toList = _
      rw [txt_list]
      rfl
    · show (txt _).size ≤ _
      rw [txt_size]
      have := une_len _ s'.data.toList (Nat.le_refl _)
      rw [← Lib.size_eq] at this
      show (une s'.data.toList).length ≤ _
      omega
  have htr : ∀ (x : ByteArray) (u : World), x.size ≤ 9223372036854775807 → Calls Tryd.prog 105 #[.string x, .string ⟨#[32, 9]⟩] u fun e w' => e = .returned (.string (txt (Lib.trimRightS x.data.toList [32, 9]))) ∧ Below u.heap.size u w' :=
    fun x u hx => Any.strings_TrimRight_laid Tryd.lays162 (by kernel_rfl) x ⟨#[32, 9]⟩ u hx (by decide) (ascii_of_all (by decide))
  have HF := Lib.hid hfin
  have HT := Lib.hid htr
  clear hfin htr hM
  go_enter Tryd.func77, Tryd.ntmps77
  go_wp2
  go_loop [0, 6] (fun t0 i => t0 = .string s ∧ ∃ k : Nat, k ≤ s.size ∧ i = .int .i64 k ∧ Hid (hcut 0 l = l.take k ++ hcut (prv l k) (l.drop k))) (fun _ i => s.size - (intOf i).toNat)
  case atStart => exact ⟨rfl, 0, Nat.zero_le _, rfl, rfl⟩
  case round =>
    obtain ⟨rfl, k, hk, rfl, HK⟩ := hrel
    by_cases hlt : k < s.size
    · obtain ⟨c, hc⟩ : ∃ c, s[k] = c := ⟨_, rfl⟩
      have hck : l[k]? = some c := by rw [HL.out, ba_at hlt, hc]
      have HA := Lib.hid (hcut_at hck)
      have HTK : Hid (l.take (k + 1) = l.take k ++ [c]) := by show _ = _; rw [List.take_add_one, hck]; rfl
      have hskip : ¬ (c = 35 ∧ prv l k ≠ 92) → hcut 0 l = l.take (k + 1) ++ hcut (prv l (k + 1)) (l.drop (k + 1)) := by
        intro h
        rw [HK.out, HA.out, if_neg h, HTK.out, List.append_assoc]
        rfl
      have HSK := Lib.hid hskip
      have hstop : c = 35 ∧ prv l k ≠ 92 → cutL l = Lib.trimRightS (une (s.extract 0 k).data.toList) [32, 9] := by
        intro h
        unfold cutL
        rw [HK.out, HA.out, if_pos h, List.append_nil, Lib.extract_from_zero, HL.out]
      have HST := Lib.hid hstop
      clear hskip hstop hck
      by_cases h35 : c = 35
      · have e1 : ((c.toNat : Int) == 35) = true := by rw [h35]; rfl
        cases k with
        | zero =>
          have hv := HST.out ⟨h35, by show (0 : UInt8) ≠ 92; decide⟩
          have h00 : (s.extract 0 0).data.toList = ByteArray.empty.data.toList := by rw [Lib.extract_from_zero]; rfl
          rw [h00] at hv
          have HV := Lib.hid hv
          clear hv h00
          clear HK HA HTK HSK HST
          go_wp2_with (first
            | (go_at_call 106; refine (HF.out _ (by decide)).mono ?_; rintro e w1 ⟨⟨x, rfl, hx, hxs⟩, hb⟩; have HB := Lib.hid hb; have HX := Lib.hid hx; clear hb hx)
            | (go_at_call 105; refine (HT.out _ _ hxs).mono ?_; rintro e w2 ⟨rfl, hb⟩; have HB2 := Lib.hid (HB.out.trans (hb.mono HB.out.size)); clear hb))
          go_ret
          exact ⟨by rw [HV.out, ← HX.out]; rfl, HB2.out⟩
        | succ j =>
          obtain ⟨d, hd⟩ : ∃ d, s[j]'(by omega) = d := ⟨_, rfl⟩
          have hpv : prv l (j + 1) = d := by
            show l.getD j 0 = d
            rw [HL.out, List.getD_eq_getElem?_getD, ba_at (by omega), hd]; rfl
          have e0 : (((j : Int) + 1) == 0) = false := by rw [beq_eq_false_iff_ne]; omega
          have e5 : IntKind.i64.wrap ((j : Int) + 1 - 1) = (j : Int) := by rw [IntKind.wrap_i64]; omega
          by_cases h92 : d = 92
          · have e2 : ((d.toNat : Int) != 92) = false := by rw [h92]; rfl
            have HV := Lib.hid (HSK.out (by rw [hpv]; exact fun h => h.2 h92))
            clear HK HA HTK HSK HST
            go_wp2
            go_round
            case rel => exact ⟨rfl, j + 1 + 1, by omega, by go_num, HV.out⟩
            case measure => simp [intOf]; omega
          · have e2 : ((d.toNat : Int) != 92) = true := by
              rw [bne_iff_ne]
              intro e
              exact h92 (UInt8.toNat_inj.1 (by show d.toNat = 92; omega))
            have HV := Lib.hid (HST.out ⟨h35, by rw [hpv]; exact h92⟩)
            clear HK HA HTK HSK HST
            go_wp2_with (first
              | (go_at_call 106; refine (HF.out _ (by rw [ByteArray.size_extract]; omega)).mono ?_; rintro e w1 ⟨⟨x, rfl, hx, hxs⟩, hb⟩; have HB := Lib.hid hb; have HX := Lib.hid hx; clear hb hx)
              | (go_at_call 105; refine (HT.out _ _ hxs).mono ?_; rintro e w2 ⟨rfl, hb⟩; have HB2 := Lib.hid (HB.out.trans (hb.mono HB.out.size)); clear hb))
            go_ret
            exact ⟨by rw [HV.out, ← HX.out]; rfl, HB2.out⟩
      · have e1 : ((c.toNat : Int) == 35) = false := by
          rw [beq_eq_false_iff_ne]
          intro e
          exact h35 (UInt8.toNat_inj.1 (by show c.toNat = 35; omega))
        have HV := Lib.hid (HSK.out (fun h => h35 h.1))
        clear HK HA HTK HSK HST
        go_wp2
        go_round
        case rel => exact ⟨rfl, k + 1, by omega, by go_num, HV.out⟩
        case measure => simp [intOf]; omega
    · obtain rfl : k = s.size := by omega
      have HV : Hid (cutL l = Lib.trimRightS (une s.data.toList) [32, 9]) := by
        show _ = _
        have hln : l.length = s.size := by rw [HL.out, ← Lib.size_eq]
        unfold cutL
        rw [HK.out, List.take_of_length_le (by omega), List.drop_eq_nil_of_le (by omega), HL.out]
        show Lib.trimRightS (une (s.data.toList ++ [])) _ = _
        rw [List.append_nil]
      clear HK
      go_wp2_with (first
        | (go_at_call 106; refine (HF.out _ hs).mono ?_; rintro e w1 ⟨⟨x, rfl, hx, hxs⟩, hb⟩; have HB := Lib.hid hb; have HX := Lib.hid hx; clear hb hx)
        | (go_at_call 105; refine (HT.out _ _ hxs).mono ?_; rintro e w2 ⟨rfl, hb⟩; have HB2 := Lib.hid (HB.out.trans (hb.mono HB.out.size)); clear hb))
      go_ret
      exact ⟨by rw [HV.out, ← HX.out]; rfl, HB2.out⟩
end Go.Proofs.YtoiolepengcagaaDoor
namespace Go.Proofs.YtoiolepengcagaaDoor
open Go.RowKit Go.ChangeShapes
theorem list_of {α : Type} (n : Nat) (Q : Nat → α → Prop) (h : ∀ i, i < n → ∃ a, Q i a) : ∃ l : List α, l.length = n ∧ ∀ i a, l[i]? = some a → Q i a := by
  induction n with
  | zero => exact ⟨[], rfl, fun i a h => by cases h⟩
  | succ n ih =>
    obtain ⟨l, h1, h2⟩ := ih fun i hi => h i (by omega)
    obtain ⟨a, ha⟩ := h n (by omega)
    refine ⟨l ++ [a], by simp [h1], fun i b hb => ?_⟩
    rcases Nat.lt_or_ge i n with hi | hi
    · rw [List.getElem?_append_left (by omega)] at hb; exact h2 i b hb
    · have hi2 : i < (l ++ [a]).length := (List.getElem?_eq_some_iff.1 hb).1
      have : i = n := by simp [h1] at hi2; omega
      subst this
      rw [List.getElem?_append_right (by omega), h1, Nat.sub_self] at hb
      injection hb with hb
      subst hb; exact ha
section
variable {α : Type} (f g : α → Value)
/-- the cells of pairs -/
def cells2 (l : List α) : List Value := l.flatMap fun x => [f x, g x]
theorem cells2_cons (x : α) (l : List α) : cells2 f g (x :: l) = f x :: g x :: cells2 f g l := rfl
theorem cells2_append (l m : List α) : cells2 f g (l ++ m) = cells2 f g l ++ cells2 f g m := by unfold cells2; simp
theorem cells2_len (l : List α) : (cells2 f g l).length = l.length * 2 := by
  induction l with
  | nil => rfl
  | cons x l ih => rw [cells2_cons, List.length_cons, List.length_cons, ih, List.length_cons]; omega
theorem cells2_at {l : List α} {k : Nat} {x : α} (h : l[k]? = some x) : (cells2 f g l)[k * 2]? = some (f x) ∧ (cells2 f g l)[k * 2 + 1]? = some (g x) := by
  induction l generalizing k with
  | nil => cases h
  | cons y l ih =>
    rw [cells2_cons]
    cases k with
    | zero => simp at h; subst h; exact ⟨rfl, rfl⟩
    | succ k =>
      have := ih (k := k) (by simpa using h)
      rw [show (k + 1) * 2 = k * 2 + 1 + 1 from by omega]
      simpa using this
theorem cells2_of {l : List α} {j : Nat} {u : Value} (h : (cells2 f g l)[j]? = some u) : ∃ k x, l[k]? = some x ∧ ((j = k * 2 ∧ u = f x) ∨ (j = k * 2 + 1 ∧ u = g x)) := by
  have hj := (List.getElem?_eq_some_iff.1 h).1
  rw [cells2_len] at hj
  have hk : j / 2 < l.length := by omega
  obtain ⟨h1, h2⟩ := cells2_at f g (List.getElem?_eq_getElem hk)
  refine ⟨j / 2, l[j / 2], List.getElem?_eq_getElem hk, ?_⟩
  rcases Nat.mod_two_eq_zero_or_one j with e | e
  · rw [show j / 2 * 2 = j from by omega, h] at h1
    injection h1 with h1
    exact .inl ⟨by omega, h1⟩
  · rw [show j / 2 * 2 + 1 = j from by omega, h] at h2
    injection h2 with h2
    exact .inr ⟨by omega, h2⟩
/-- a slice of pairs that the call can read -/
structure P2At (w : World) (p : Option Addr) (n c : Nat) (l : List α) : Prop where
  len : l.length = n
  at_ : 0 < n → ∃ b o, p = some ⟨b, o, none⟩ ∧ b < w.heap.size ∧ ∀ k x, l[k]? = some x → w.cell? ⟨b, o + k * 2, none⟩ = some (f x) ∧ w.cell? ⟨b, o + (k * 2 + 1), none⟩ = some (g x)
  big : n ≤ 8796093022208
variable {f g}
theorem P2At.below {w w' : World} {p : Option Addr} {n c : Nat} {l : List α} (h : P2At f g w p n c l) (hb : Below w.heap.size w w') : P2At f g w' p n c l :=
  ⟨h.len, fun hn => by
    obtain ⟨b, o, e, h1, h2⟩ := h.at_ hn
    refine ⟨b, o, e, Nat.lt_of_lt_of_le h1 hb.size, fun k x hx => ?_⟩
    obtain ⟨h3, h4⟩ := h2 k x hx
    exact ⟨(hb.cell h1).trans h3, (hb.cell h1).trans h4⟩, h.big⟩
theorem P2At.cell {w : World} {p : Option Addr} {n c : Nat} {l : List α} (h : P2At f g w p n c l) {k : Nat} {x : α} (hx : l[k]? = some x) :
    ∃ b o, p = some ⟨b, o, none⟩ ∧ b < w.heap.size ∧ w.cell? ⟨b, o + k * 2, none⟩ = some (f x) ∧ w.cell? ⟨b, o + (k * 2 + 1), none⟩ = some (g x) := by
  have hk := (List.getElem?_eq_some_iff.1 hx).1
  have := h.len
  obtain ⟨b, o, e, h1, h2⟩ := h.at_ (by omega)
  exact ⟨b, o, e, h1, h2 k x hx⟩
theorem P2At.own {w : World} {base n c : Nat} {e : TypeId} {p : Option Addr} {l : List α} (h : w.ownsRow base e 2 (.slice p n c) n (cells2 f g l)) (hbig : n ≤ 8796093022208) : P2At f g w p n c l := by
  have hl : l.length = n := by have := h.1; rw [cells2_len] at this; omega
  refine ⟨hl, fun hn => ?_, hbig⟩
  obtain ⟨b, cap, hv, _, _⟩ := h.form hn
  injection hv with e1 e2 e3
  subst e1 e3
  have hlt := h.lt b rfl
  refine ⟨b, 0, rfl, hlt.2, fun k x hx => ?_⟩
  obtain ⟨h1, h2⟩ := cells2_at f g hx
  have c1 := h.cells (g := b) rfl _ _ h1
  have c2 := h.cells (g := b) rfl _ _ h2
  rw [Addr.add_lit] at c1 c2
  exact ⟨c1, c2⟩
end
/-- the slice of pairs that a law is handed -/
theorem p2_arg {A B H : Type} {enc : TypeId × Value → H} {P : Program} {W : World} {fuel len cap : Nat} {a : Option Addr} {d : DataW H} {p : List MemPlace} {t e : TypeId} {f0 f1 : Field} (F : A → Value) (G : B → Value)
    (ht : P.underlying t = some (.slice e)) (he : P.underlying e = some (.struct #[f0, f1])) (ce : P.cellsOf e = 2) (o0 : f0.offset = 0) (o1 : f1.offset = 1) (c0 : P.cellsOf f0.type = 1) (c1 : P.cellsOf f1.type = 1)
    (hF : ∀ n v x, DataW.trod enc P W 0 (fun _ => true) true n f0.type [v] = some x → ∃ a, v = F a) (hG : ∀ n v x, DataW.trod enc P W 0 (fun _ => true) true n f1.type [v] = some x → ∃ b, v = G b)
    (hby : 16 ≤ P.bytesOf e) (hf : DataW.trod enc P W 0 (fun _ => true) true fuel t [.slice a len cap] = some (d, p)) (hsz : ∀ n, n ∈ d.weights P t → n ≤ reachBytes) :
    ∃ l : List (A × B), P2At (fun x => F x.1) (fun x => G x.2) W a len cap l := by
  rcases Go.Deep.open_slice_pairs ht he ce o0 o1 c0 c1 hf with ⟨h1, _⟩ | ⟨ad, ln, cp, m, n, V0, V1, D0, D1, P0, P1, h1, _, h3, _, h5, h6, h7⟩
  · injection h1 with h1 _
    injection h1 with e1 e2 e3
    subst e1 e2 e3
    exact ⟨[], rfl, fun h => by omega, by omega⟩
  · injection h1 with h1 _
    injection h1 with e1 e2 e3
    subst e1 e2 e3
    simp only [if_true] at h5
    subst h5
    have hex : ∀ i, i < len → ∃ q : A × B, W.cell? (ad.add (i * 2)) = some (F q.1) ∧ W.cell? (ad.add (i * 2 + 1)) = some (G q.2) := by
      intro i hi
      obtain ⟨k1, k2, k3, k4⟩ := h7 i (by omega)
      obtain ⟨x, hx⟩ := hF _ _ _ k3
      obtain ⟨y, hy⟩ := hG _ _ _ k4
      exact ⟨(x, y), by rw [k1, hx], by rw [k2, hy]⟩
    obtain ⟨l, hl, hq⟩ := list_of len _ hex
    injection h6 with h6 _
    have hb := hsz ((len + (m - len)) * P.bytesOf e) (by
      rw [h6, DataW.weights, ht]
      simp)
    have hrb : reachBytes < 2 ^ 47 := reachBytes_lt
    have hmul : (len + (m - len)) * 16 ≤ (len + (m - len)) * P.bytesOf e := Nat.mul_le_mul_left _ hby
    refine ⟨l, hl, fun hn => ?_, by omega⟩
    obtain ⟨b, o, s⟩ := ad
    have hs : s = none := by
      have h0 := (h7 0 (by omega)).1
      simpa [Addr.add] using World.cell?_spot h0
    subst hs
    refine ⟨b, o, rfl, ?_, fun k x hx => ?_⟩
    · have := World.block_lt_of_cell? W _ (h7 0 (by omega)).1
      rwa [block_of_add] at this
    · have := hq k x hx
      rw [Addr.add_lit, Addr.add_lit] at this
      exact this
end Go.Proofs.YtoiolepengcagaaDoor
namespace Go.Proofs.YtoiolepengcagaaDoor
open Go.RowKit
theorem rb_new (w : World) (o : Obj) : (w.alloc o).heap[w.heap.size]? = some o := by
  show (w.heap.push o)[w.heap.size]? = some o
  simp
theorem rb_old (w : World) (o : Obj) (i : Nat) (h : i < w.heap.size) : (w.alloc o).heap[i]? = w.heap[i]? := by
  show (w.heap.push o)[i]? = w.heap[i]?
  rw [Array.getElem?_push, if_neg (Nat.ne_of_lt h)]
/-- a block that was laid ahead of calls, and of one block more -/
theorem rb_far {w w3 w4 : World} {o o3 : Obj} (h3 : Below (w.alloc o).heap.size (w.alloc o) w3) (h4 : Below (w3.alloc o3).heap.size (w3.alloc o3) w4) : w4.heap[w.heap.size]? = some o ∧ w4.heap[w3.heap.size]? = some o3 := by
  have e : (w.alloc o).heap.size = w.heap.size + 1 := by simp
  have e3 : (w3.alloc o3).heap.size = w3.heap.size + 1 := by simp
  have hlt := h3.size
  refine ⟨?_, ?_⟩
  · rw [h4.block _ (by omega), rb_old _ _ _ (by omega), h3.block _ (by omega), rb_new]
  · rw [h4.block _ (by omega), rb_new]
theorem rb_cells {w : World} {b : Nat} {t : TypeId} {v0 v1 : Value} (h : w.heap[b]? = some (.cells #[v0, v1] t (0, 0))) :
    w.cell? ⟨b, 0, none⟩ = some v0 ∧ w.cell? ⟨b, 1, none⟩ = some v1 ∧ ∀ o, w.frozen? ⟨b, o, none⟩ = false := by
  refine ⟨?_, ?_, fun o => ?_⟩
  all_goals simp [World.cell?, World.frozen?, h]
theorem rb_all {w : World} {b : Nat} {t : TypeId} {v0 v1 : Value} (h : w.heap[b]? = some (.cells #[v0, v1] t (0, 0))) (u0 u1 : Value) :
    ((w.setCell ⟨b, 0, none⟩ u0).setCell ⟨b, 1, none⟩ u1).heap[b]? = some (.cells #[u0, u1] t (0, 0)) := by
  simp only [Go.Sort.setCell_eq]
  simp [Go.Sort.mapBlock, Go.Sort.onCells, Array.getElem?_modify, h]
theorem rb_below {B b : Nat} {w w' : World} (h : Below B w w') (hb : B ≤ b) (u0 u1 : Value) : Below B w ((w'.setCell ⟨b, 0, none⟩ u0).setCell ⟨b, 1, none⟩ u1) := (h.setCell hb _).setCell hb _
theorem rb_ct {P : Program} {fn : Func} {p u : Tmp} {ty : TypeId} (h : fn.results = #[.cell p ty, .tmp u]) (tmps : Array Value) (w : World) (g : Nat) (t : TypeId) (cs : Array Value) (fr : Nat × Nat) (d : TypeDesc) (x : Value)
    (hp : tmps.getD p undef = .pointer (some ⟨g, 0, none⟩)) (hx : tmps.getD u undef = x) (hg : w.heap[g]? = some (.cells cs t fr))
    (hu : P.underlying ty = some d) (hd : (match d with | .struct _ | .array _ _ => true | _ => false) = true) (hi : (P.info? ty).map (·.size) = some cs.size) :
    (results fn tmps).run P w = .ok (.tuple #[.agg cs, x]) w := by
  have hp' : tmps[p]?.getD undef = .pointer (some ⟨g, 0, none⟩) := by simpa using hp
  have hx' : tmps[u]?.getD undef = x := by simpa using hx
  rw [results_cell_tmp h]
  simp [hp', hx', asAddr, run_loadVar_row w g t ty cs fr d hg hu hd hi, Result.andThen]
end Go.Proofs.YtoiolepengcagaaDoor
