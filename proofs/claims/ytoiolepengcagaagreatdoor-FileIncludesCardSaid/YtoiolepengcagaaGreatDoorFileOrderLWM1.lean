/- Texts joined: NLArg, WordsW, RulePW, Box2, RuleLW, MacroP. Conditions: theirs. -/
import Derived.Test.YtoiolepengcagaaGreatDoorNamesW
import Derived.WideShapes
import Derived.Test.YtoiolepengcagaaGreatDoorRuleP
import Derived.Shelf.Strings.SlTrimAscii
import Derived.Deep.RegionWith
import Derived.Test.YtoiolepengcagaaGreatDoorRuleW
import Derived.Test.YtoiolepengcagaaGreatDoorMem
import Derived.WalkKit
import Derived.Laws.ResultCell
import Derived.Laws.Rows
import Derived.Sort.Walk0
import Derived.Deep.RegionHeld3
namespace Go.Proofs.YtoiolepengcagaaGreatDoor
open Go.RowKit Go.ChangeShapes
theorem shape_lt {w : World} {b : Nat} {r : TypeId × Nat} (h : w.shape? b = some r) : b < w.heap.size := by
  unfold World.shape? at h
  rcases Nat.lt_or_ge b w.heap.size with hb | hb
  · exact hb
  · rw [Array.getElem?_eq_none hb] at h; cases h
theorem slice_plain {P : Program} {W : World} {b0 : Nat} {r : Reach} {a : Option Addr} {len cap : Nat} {t e : TypeId} (ht : P.underlying t = some (.slice e)) (h : Value.okWide P W r b0 t (.slice a len cap)) :
    (a = none → cap = 0) ∧ ∀ ad, a = some ad → ∃ b off, ad = ⟨b, off, none⟩ ∧ b < W.heap.size := by
  simp only [Value.okWide, ht, Cell.okWide] at h
  unfold Cell.ok at h
  rw [ht] at h
  cases a with
  | none =>
    refine ⟨fun _ => ?_, fun ad h => by cases h⟩
    revert h
    cases len <;> cases cap <;> simp
  | some ad =>
    refine ⟨fun h => (by cases h), fun ad' h' => ?_⟩
    injection h' with h'
    subst h'
    obtain ⟨_, _, _, hs, row, cells, hsh, _⟩ := h
    obtain ⟨b, o, s⟩ := ad
    simp only at hs
    subst hs
    exact ⟨b, o, rfl, shape_lt hsh⟩
def NLArg (w : World) (p : Option Addr) (n c : Nat) : Prop := ∃ zs, NL w p n c zs
set_option maxRecDepth 100000 in
theorem nl_arg {H : Type} {enc : TypeId × Value → H} {W : World} {r : Reach} {b0 fuel len cap : Nat} {a : Option Addr} {d : DataW H} {p : List MemPlace}
    (hok : Value.okWide Tryz.prog W r b0 23 (.slice a len cap))
    (ht : Tryz.prog.underlying 23 = some (.slice 9)) (he : Tryz.prog.underlying 9 = some .string) (hc : Tryz.prog.cellsOf 9 = 1)
    (hf : DataW.trod enc Tryz.prog W 0 (fun _ => true) true fuel 23 [.slice a len cap] = some (d, p))
    (hsz : ∀ n, n ∈ d.weights Tryz.prog 23 → n ≤ reachBytes) : NLArg W a len cap := by
  obtain ⟨ss, hS⟩ := str_arg ht he hc hf hsz
  obtain ⟨h1, h2⟩ := slice_plain ht hok
  refine ⟨ss, hS, h1, h2, ?_⟩
  rcases open_strings ht he hc hf with ⟨h1, h2⟩ | ⟨ad, ln, cp, zs, h1, h2, h3, h4, h5, h6, h7, h8⟩
  · injection h1 with h1 _
    injection h1 with e1 e2 e3
    subst e1 e2 e3
    omega
  · injection h1 with h1 _
    injection h1 with e1 e2 e3
    subst e1 e2 e3
    injection h6 with h6 h6'
    have hw : d.weights Tryz.prog 23 = ((strs (H := H) (zs.take len)).length + (strs (H := H) (zs.drop len)).length) * Tryz.prog.bytesOf 9 :: (DataW.weightsAll Tryz.prog 9 (strs (H := H) (zs.take len)) ++ DataW.weightsAll Tryz.prog 9 (strs (H := H) (zs.drop len))) := by
      rw [h6, DataW.weights, ht]
    have hb := hsz _ (by rw [hw]; exact List.mem_cons_self)
    have hby : Tryz.prog.bytesOf 9 = 16 := by kernel_rfl
    rw [hby] at hb
    unfold reachBytes at hb
    simp only [if_true] at h5
    have hl1 : (strs (H := H) (zs.take len)).length = len := by unfold strs; rw [List.length_map, List.length_take]; omega
    rw [hl1] at hb
    omega
end Go.Proofs.YtoiolepengcagaaGreatDoor
namespace Go.Proofs.YtoiolepengcagaaGreatDoor
open Go.RowKit Go.Shelf
/-- trimmed of blanks -/
def trm (s : ByteArray) : ByteArray := txt (Lib.trimS s.data.toList [32, 9])
theorem trim_ok (s : ByteArray) (w : World) (hs : s.size ≤ 9223372036854775807) :
    Calls Tryz.prog 106 #[.string s, .string ⟨#[32, 9]⟩] w fun e w' => e = .returned (.string (trm s)) ∧ Below w.heap.size w w' :=
  Any.strings_Trim_laid Tryz.lays160 (by kernel_rfl) s ⟨#[32, 9]⟩ w hs (by decide) (ascii_of_all (by decide))
theorem Split_no (s : ByteArray) (c : UInt8) (w : World) (h : Lib.indexByte s.data.toList c = -1) :
    Calls Tryz.prog 73 #[.string s, .int .u8 (c.toNat : Int)] w fun e w' => e = .returned (.tuple #[.string s, .string ⟨#[]⟩, .bool false]) ∧ w' = w := by
  have H := Lib.hid h
  clear h
  go_enter Tryz.func73, Tryz.ntmps73
  go_wp2_with (go_at_call 69; refine (Tryz.strings_IndexByte s _ _).mono ?_; rw [byte_back, H.out]; rintro e w' ⟨rfl, rfl⟩)
  go_ret3
  exact ⟨rfl, rfl⟩
set_option maxHeartbeats 1000000 in
theorem Split_yes (s : ByteArray) (c : UInt8) (w : World) (k : Nat) (h : Lib.indexByte s.data.toList c = k) (hk : k < s.size) (hs : s.size ≤ 140737488355328) :
    Calls Tryz.prog 73 #[.string s, .int .u8 (c.toNat : Int)] w fun e w' => e = .returned (.tuple #[.string (trm (s.extract 0 k)), .string (trm (s.extract (k + 1) s.size)), .bool true]) ∧ Below w.heap.size w w' := by
  have H := Lib.hid h
  clear h
  have s1 : (s.extract 0 k).size ≤ 9223372036854775807 := by rw [ByteArray.size_extract]; omega
  have s2 : (s.extract (k + 1) s.size).size ≤ 9223372036854775807 := by rw [ByteArray.size_extract]; omega
  go_enter Tryz.func73, Tryz.ntmps73
  go_wp2_with (go_at_call 69; refine (Tryz.strings_IndexByte s _ _).mono ?_; rw [byte_back, H.out]; rintro e w' ⟨rfl, rfl⟩)
  have f1 : (k : Int) + 1 ≤ (s.size : Int) := by omega
  have f2 : (0 : Int) ≤ (k : Int) + 1 := by omega
  have f3 : ((k : Int) + 1).toNat = k + 1 := by omega
  have f4 : k + 1 ≤ s.size := hk
  have f5 : IntKind.i64.wrap ((k : Int) + 1) = (k : Int) + 1 := by rw [IntKind.wrap_i64]; omega
  go_region_with (go_at_call 106; refine (trim_ok _ _ (by rw [ByteArray.size_extract]; omega)).mono ?_; rintro e w1 ⟨rfl, hb⟩; (first | (have HB2 := Lib.hid (HB1.out.trans (hb.mono HB1.out.size))) | (have HB1 := Lib.hid hb)); clear hb)
  all_goals (go_wp2; go_ret3; exact ⟨rfl, ((Below.refl _ _).drew).trans HB2.out⟩)
def isB (l : Bs) (x : List ByteArray) : Prop := lst x = wordsL l
/-- the words of a text -/
def wb (l : Bs) : List ByteArray := (wordsL l).map txt
theorem lst_wb (l : Bs) : lst (wb l) = wordsL l := by
  unfold lst wb
  rw [List.map_map]
  have : (fun x : ByteArray => x.data.toList) ∘ txt = id := by funext l; exact txt_list l
  rw [this, List.map_id]
theorem wb_lst (x : List ByteArray) : (lst x).map txt = x := by
  unfold lst
  rw [List.map_map]
  have : txt ∘ (fun x : ByteArray => x.data.toList) = id := by funext l; exact list_txt l
  rw [this, List.map_id]
theorem fields_wb (s : ByteArray) : Lib.goFieldsP pblk s = wb s.data.toList := by
  unfold wb
  rw [← fields_words, ← lst, wb_lst]
theorem enc_rune (x : Nat) : Value.int .i32 (x : Int) = Value.int .i32 (x : Int) := rfl
set_option maxHeartbeats 400000 in
theorem blank_pays (w : World) : PredAt Tryz.prog 103 #[] encR pblk w := by
  intro W x _
  unfold FnGives
  show Calls Tryz.prog 103 #[.int .i32 (x : Int)] W _
  by_cases h1 : x = 32
  · subst h1
    go_enter Tryz.func103, Tryz.ntmps103
    go_wp2
    go_ret
    exact ⟨rfl, 0, rfl⟩
  · by_cases h2 : x = 9
    · subst h2
      go_enter Tryz.func103, Tryz.ntmps103
      go_wp2
      go_ret
      exact ⟨rfl, 0, rfl⟩
    · have e1 : ((x : Int) == 32) = false := by rw [beq_eq_false_iff_ne]; omega
      have e2 : ((x : Int) == 9) = false := by rw [beq_eq_false_iff_ne]; omega
      have hp : Hid (pblk x = false) := by
        show _ = _
        unfold pblk
        rw [Bool.or_eq_false_iff, beq_eq_false_iff_ne, beq_eq_false_iff_ne]
        exact ⟨h1, h2⟩
      go_enter Tryz.func103, Tryz.ntmps103
      go_wp2
      go_ret
      exact ⟨by rw [hp.out]; rfl, 0, rfl⟩
theorem wb_size (l : Bs) : ∀ s ∈ wb l, s.size ≤ l.length := by
  have key : ∀ l cur, ∀ w ∈ wgo cur l, w.length ≤ cur.length + l.length := by
    intro l
    induction l with
    | nil =>
      intro cur w hw
      rw [wgo_nil] at hw
      split at hw
      · cases hw
      · have : w = cur := by simpa using hw
        subst this; simp
    | cons c l ih =>
      intro cur w hw
      rw [wgo_cons] at hw
      simp only [List.length_cons]
      split at hw
      · split at hw
        · have := ih [] w hw; simp at this; omega
        · rcases List.mem_cons.1 hw with rfl | hw
          · omega
          · have := ih [] w hw; simp at this; omega
      · have := ih _ w hw
        rw [List.length_append, List.length_singleton] at this
        omega
  intro s hs
  obtain ⟨w, hw, rfl⟩ := List.mem_map.1 hs
  rw [txt_size]
  have := key l [] w hw
  simpa using this
theorem wb_len (l : Bs) : (wb l).length ≤ l.length := by
  have key : ∀ l cur, (wgo cur l).length ≤ l.length + (if cur = [] then 0 else 1) := by
    intro l
    induction l with
    | nil =>
      intro cur
      rw [wgo_nil]
      split <;> simp
    | cons c l ih =>
      intro cur
      rw [wgo_cons]
      simp only [List.length_cons]
      split
      · have := ih []
        simp only [if_true] at this
        split
        · omega
        · simp only [List.length_cons]; omega
      · have := ih (cur ++ [c])
        rw [if_neg (by simp)] at this
        split <;> omega
  unfold wb
  rw [List.length_map]
  have := key l []
  simpa [wordsL] using this
/-- what Words answers -/
def WordsPost (w : World) (us : List ByteArray) (e : Ending) (w' : World) : Prop :=
  ∃ A : Nat, e = .returned (.slice (some ⟨A, 0, none⟩) us.length us.length) ∧ w'.ownsRow w.heap.size 9 1 (.slice (some ⟨A, 0, none⟩) us.length us.length) us.length (strsV us) ∧ NL w' (some ⟨A, 0, none⟩) us.length us.length us ∧ Below w.heap.size w w'
theorem Words_ok (s : ByteArray) (w : World) (hs : s.size ≤ 1048576) :
    Calls Tryz.prog 66 #[.string s] w (WordsPost w (wb s.data.toList)) := by
  have hF := Tryz.strings_FieldsFunc 103 #[] (enters_of Tryz.func103 (by kernel_rfl) rfl) pblk s w (by omega) (blank_pays w)
  rw [fields_wb] at hF
  have hsz : ∀ x ∈ wb s.data.toList, x.size ≤ 4611686018427387904 := fun x hx => by
    have := wb_size _ x hx
    rw [← Lib.size_eq] at this
    omega
  have hln := wb_len s.data.toList
  rw [← Lib.size_eq] at hln
  have HSZ := Lib.hid hsz
  have HF := Lib.hid hF
  clear hF hsz
  generalize wb s.data.toList = us at *
  go_enter Tryz.func66, Tryz.ntmps66
  go_wp2_with (go_at_call 102; refine HF.out.mono ?_; rintro e w1 ⟨g, rfl, _, hown, hb⟩; have HO := Lib.hid hown; have HB := Lib.hid hb; clear hown hb)
  go_ret
  exact ⟨g, rfl, HO.out, NL_own HO.out HSZ.out (by omega), HB.out⟩
end Go.Proofs.YtoiolepengcagaaGreatDoor
namespace Go.Proofs.YtoiolepengcagaaGreatDoor
open Go.RowKit Go.Shelf
/-- a rule in memory -/
def RuleIn (w : World) (v : Value) (T N : List ByteArray) : Prop :=
  ∃ p n c q m d, v = .agg #[.slice p n c, .slice q m d] ∧ NL w p n c T ∧ NL w q m d N ∧ n ≤ c ∧ m ≤ d
theorem RuleIn.below {w w' : World} {v : Value} {T N : List ByteArray} (h : RuleIn w v T N) (hb : Below w.heap.size w w') : RuleIn w' v T N := by
  obtain ⟨p, n, c, q, m, d, e, h1, h2, h3, h4⟩ := h
  exact ⟨p, n, c, q, m, d, e, h1.below hb, h2.below hb, h3, h4⟩
theorem NL_none (w : World) : NL w none 0 0 [] :=
  ⟨⟨rfl, Reads.none_, fun s hs => (by cases hs), by omega⟩, fun _ => rfl, fun ad h => (by cases h), by omega⟩
def nilRule : Value := .agg #[.slice none 0 0, .slice none 0 0]
theorem nil_rule (w : World) : RuleIn w nilRule [] [] := ⟨none, 0, 0, none, 0, 0, rfl, NL_none w, NL_none w, Nat.le_refl _, Nat.le_refl _⟩
def threeP (p q g : Option Addr) (n c m d k e : Nat) (T M N : List ByteArray) : List CPart := [⟨p, n, c, T⟩, ⟨g, k, e, M⟩, ⟨q, m, d, N⟩]
theorem cat_three (p q g : Option Addr) (n c m d k e : Nat) (T M N : List ByteArray) : catN (threeP p q g n c m d k e T M N) (threeP p q g n c m d k e T M N).length = T ++ M ++ N := by
  unfold catN threeP
  simp
theorem concat_three {w : World} {B : Nat} {p q g : Option Addr} {n c m d k e : Nat} {T M N : List ByteArray} (h1 : NL w p n c T) (h3 : NL w g k e M) (h2 : NL w q m d N) (hsum : n + k + m ≤ 8796093022208)
    (c1 : w.cell? ⟨B, 0, none⟩ = some (.slice p n c)) (c2 : w.cell? ⟨B, 1, none⟩ = some (.slice g k e)) (c3 : w.cell? ⟨B, 2, none⟩ = some (.slice q m d)) (hB : B < w.heap.size) :
    Calls Tryz.prog 11 #[.slice (some ⟨B, 0, none⟩) 3 3] w (CatPost w (T ++ M ++ N)) := by
  have l1 := h1.at_.len
  have l2 := h2.at_.len
  have l3 := h3.at_.len
  subst l1 l2 l3
  have hP : CParts w B (threeP p q g T.length c N.length d M.length e T M N) := by
    refine ⟨fun k hk => ?_, fun k hk => ?_⟩
    · match k, hk with
      | 0, _ => exact h1.weak
      | 1, _ => exact h3.weak
      | 2, _ => exact h2.weak
    · match k, hk with
      | 0, _ => exact c1
      | 1, _ => exact c2
      | 2, _ => exact c3
  have := concatN_ok B _ w (by unfold threeP; simp) hP (by rw [cat_three, List.length_append, List.length_append]; omega) hB
  rw [cat_three] at this
  exact this
theorem join_own {w : World} {base : Nat} {g : Option Addr} {c : Nat} {us : List ByteArray} (h : w.ownsRow base 9 1 (.slice g us.length c) us.length (strsV us)) (h0 : 0 < us.length) (sep : ByteArray)
    (hn : us.length ≤ 140737488355328) (hlen : (Lib.join (us.map (·.data.toList)) sep.data.toList).length ≤ 140737488355328) :
    Calls Tryz.prog 81 #[.slice g us.length c, .string sep] w fun e w' => e = .returned (.string ⟨(Lib.join (us.map (·.data.toList)) sep.data.toList).toArray⟩) ∧ Below w.heap.size w w' := by
  rcases h.2 with ⟨e1, e2⟩ | ⟨b, cap, cur, e1, hbg, hg, hnc, hcm, hcs, htake⟩
  · omega
  · injection e1 with e1 e3 e4
    subst e1 e4
    have hcell := h.cells (g := b) rfl
    refine Tryz.strings_Join b 0 c us sep w (fun j x hx => ?_) (World.block_lt_of_cell? w _ (hcell 0 _ (by unfold strsV; rw [List.getElem?_map, List.getElem?_eq_getElem h0]; rfl))) hn (by omega) hlen
    have := hcell j (.string x) (by unfold strsV; rw [List.getElem?_map, hx]; rfl)
    rw [Addr.add_lit] at this
    exact this
theorem NL_one (w : World) (x : ByteArray) (hx : x.size ≤ 4611686018427387904) : NL (w.alloc (.cells #[.string x] 9)) (some ⟨w.heap.size, 0, none⟩) 1 1 [x] := by
  refine ⟨⟨rfl, ⟨rfl, fun _ => ⟨⟨w.heap.size, 0, none⟩, rfl, by simp, fun j u hu => ?_⟩⟩, fun s hs => ?_, by omega⟩, fun h => (by cases h), fun ad h => ?_, by omega⟩
  · match j, hu with
    | 0, hu =>
      simp [strsV] at hu
      subst hu
      rw [Addr.add_lit, World.cell?_alloc_at _ _ _ _ rfl]; rfl
  · have : s = x := by simpa using hs
    subst this; exact hx
  · injection h with h
    subst h
    exact ⟨_, _, rfl, by simp⟩
def rus (T N : List ByteArray) : List ByteArray := T ++ [(⟨#[58]⟩ : ByteArray)] ++ N
theorem rus_len (T N : List ByteArray) : (rus T N).length = T.length + 1 + N.length := by unfold rus; simp; omega
theorem print_cat (p q : Option Addr) (c d : Nat) (T N : List ByteArray) (w : World) (h1 : NL w p T.length c T) (h2 : NL w q N.length d N) (hT : T.length ≤ 20) (hN : N.length ≤ 20) :
    Calls Tryz.prog 11 #[.slice (some ⟨w.heap.size + 1, 0, none⟩) 3 3] ((w.alloc (.cells #[.string ⟨#[58]⟩] 9)).alloc (.cells #[.slice p T.length c, .slice (some ⟨w.heap.size, 0, none⟩) 1 1, .slice q N.length d] 23))
      fun e w' => ∃ g cg b, e = .returned (.slice g (rus T N).length cg) ∧ w'.ownsRow b 9 1 (.slice g (rus T N).length cg) (rus T N).length (strsV (rus T N)) ∧ Below w.heap.size w w' := by
  have hb1 : Below w.heap.size w (w.alloc (.cells #[.string ⟨#[58]⟩] 9)) := (Below.refl _ _).alloc (Nat.le_refl _) _
  have hs1 : (w.alloc (.cells #[.string ⟨#[58]⟩] 9)).heap.size = w.heap.size + 1 := by simp
  obtain ⟨o, ho⟩ : ∃ o, o = Obj.cells #[.slice p T.length c, .slice (some ⟨w.heap.size, 0, none⟩) 1 1, .slice q N.length d] 23 := ⟨_, rfl⟩
  have hb2 : Below w.heap.size w ((w.alloc (.cells #[.string ⟨#[58]⟩] 9)).alloc o) := hb1.alloc (by omega) _
  have hb12 : Below (w.heap.size + 1) (w.alloc (.cells #[.string ⟨#[58]⟩] 9)) ((w.alloc (.cells #[.string ⟨#[58]⟩] 9)).alloc o) := (Below.refl _ _).alloc (by omega) _
  have hm := NL_one w ⟨#[58]⟩ (by decide)
  rw [← hs1] at hb12
  have hm2 := hm.below hb12
  rw [← ho]
  have key := concat_three (w := (w.alloc (.cells #[.string ⟨#[58]⟩] 9)).alloc o) (B := w.heap.size + 1) (h1.below hb2) hm2 (h2.below hb2) (by omega)
    (by rw [ho, World.cell?_alloc_at _ _ _ _ (by simp)]; rfl) (by rw [ho, World.cell?_alloc_at _ _ _ _ (by simp)]; rfl) (by rw [ho, World.cell?_alloc_at _ _ _ _ (by simp)]; rfl) (by simp)
  refine key.mono ?_
  rintro e w' ⟨g, cg, e1, h3, h4⟩
  exact ⟨g, cg, _, e1, h3, hb2.trans (h4.mono hb2.size)⟩
theorem print_join {w : World} {base : Nat} {g : Option Addr} {c : Nat} {T N : List ByteArray} (h : w.ownsRow base 9 1 (.slice g (rus T N).length c) (rus T N).length (strsV (rus T N))) (hok : RuleOk T N) :
    Calls Tryz.prog 81 #[.slice g (rus T N).length c, .string ⟨#[32]⟩] w fun e w' => e = .returned (.string (txt (ruleT T N))) ∧ Below w.heap.size w w' := by
  have hl := rus_len T N
  have hf := hok.few
  have ht := ruleT_len hok
  exact join_own h (by omega) ⟨#[32]⟩ (by omega) (by show (ruleT T N).length ≤ _; omega)
end Go.Proofs.YtoiolepengcagaaGreatDoor
namespace Go.Proofs.YtoiolepengcagaaGreatDoor
open Go.RowKit
theorem rb_new (w : World) (o : Obj) : (w.alloc o).heap[w.heap.size]? = some o := by
  show (w.heap.push o)[w.heap.size]? = some o
  simp
theorem rb_old (w : World) (o : Obj) (i : Nat) (h : i < w.heap.size) : (w.alloc o).heap[i]? = w.heap[i]? := by
  show (w.heap.push o)[i]? = w.heap[i]?
  rw [Array.getElem?_push, if_neg (Nat.ne_of_lt h)]
/-- a block that was laid ahead of calls, and of one block more -/
theorem rb_far {w w3 w4 : World} {o o3 : Obj} (h3 : Below (w.alloc o).heap.size (w.alloc o) w3) (h4 : Below (w3.alloc o3).heap.size (w3.alloc o3) w4) : w4.heap[w.heap.size]? = some o ∧ w4.heap[w3.heap.size]? = some o3 := by
  have e : (w.alloc o).heap.size = w.heap.size + 1 := by simp
  have e3 : (w3.alloc o3).heap.size = w3.heap.size + 1 := by simp
  have hlt := h3.size
  refine ⟨?_, ?_⟩
  · rw [h4.block _ (by omega), rb_old _ _ _ (by omega), h3.block _ (by omega), rb_new]
  · rw [h4.block _ (by omega), rb_new]
theorem rb_cells {w : World} {b : Nat} {t : TypeId} {v0 v1 : Value} (h : w.heap[b]? = some (.cells #[v0, v1] t (0, 0))) :
    w.cell? ⟨b, 0, none⟩ = some v0 ∧ w.cell? ⟨b, 1, none⟩ = some v1 ∧ ∀ o, w.frozen? ⟨b, o, none⟩ = false := by
  refine ⟨?_, ?_, fun o => ?_⟩
  all_goals simp [World.cell?, World.frozen?, h]
theorem rb_all {w : World} {b : Nat} {t : TypeId} {v0 v1 : Value} (h : w.heap[b]? = some (.cells #[v0, v1] t (0, 0))) (u0 u1 : Value) :
    ((w.setCell ⟨b, 0, none⟩ u0).setCell ⟨b, 1, none⟩ u1).heap[b]? = some (.cells #[u0, u1] t (0, 0)) := by
  simp only [Go.Sort.setCell_eq]
  simp [Go.Sort.mapBlock, Go.Sort.onCells, Array.getElem?_modify, h]
theorem rb_below {B b : Nat} {w w' : World} (h : Below B w w') (hb : B ≤ b) (u0 u1 : Value) : Below B w ((w'.setCell ⟨b, 0, none⟩ u0).setCell ⟨b, 1, none⟩ u1) := (h.setCell hb _).setCell hb _
theorem rb_ct {P : Program} {fn : Func} {p u : Tmp} {ty : TypeId} (h : fn.results = #[.cell p ty, .tmp u]) (tmps : Array Value) (w : World) (g : Nat) (t : TypeId) (cs : Array Value) (fr : Nat × Nat) (d : TypeDesc) (x : Value)
    (hp : tmps.getD p undef = .pointer (some ⟨g, 0, none⟩)) (hx : tmps.getD u undef = x) (hg : w.heap[g]? = some (.cells cs t fr))
    (hu : P.underlying ty = some d) (hd : (match d with | .struct _ | .array _ _ => true | _ => false) = true) (hi : (P.info? ty).map (·.size) = some cs.size) :
    (results fn tmps).run P w = .ok (.tuple #[.agg cs, x]) w := by
  have hp' : tmps[p]?.getD undef = .pointer (some ⟨g, 0, none⟩) := by simpa using hp
  have hx' : tmps[u]?.getD undef = x := by simpa using hx
  rw [results_cell_tmp h]
  simp [hp', hx', asAddr, run_loadVar_row w g t ty cs fr d hg hu hd hi, Result.andThen]
end Go.Proofs.YtoiolepengcagaaGreatDoor
namespace Go.Proofs.YtoiolepengcagaaGreatDoor
open Go.RowKit Go.Shelf
def parseT (s : Bs) : List ByteArray := wb (s.take (Lib.indexByte s 58).toNat)
def parseN (s : Bs) : List ByteArray := wb (s.drop ((Lib.indexByte s 58).toNat + 1))
def parseE (s : Bs) : Int := if Lib.indexByte s 58 < 0 then 3 else ruleE (parseT s) (parseN s)
theorem wb_trm (s : ByteArray) : wb (trm s).data.toList = wb s.data.toList := by
  unfold wb trm
  rw [txt_list, words_trim]
/-- what Parse answers -/
def ParsePost (w : World) (s : Bs) (e : Ending) (w' : World) : Prop :=
  (∃ v, e = .returned (.tuple #[v, .int .i64 (parseE s)]) ∧ ((parseE s ≠ 0 ∧ v = nilRule) ∨ (parseE s = 0 ∧ RuleIn w' v (parseT s) (parseN s)))) ∧ Below w.heap.size w w'
theorem trm_size (s : ByteArray) : (trm s).size ≤ s.size := by
  unfold trm
  rw [txt_size, Lib.size_eq]
  unfold Lib.trimS Lib.trimLeftS Lib.trimRightS
  have h : ∀ (p : UInt8 → Bool) (l : Bs), (l.dropWhile p).length ≤ l.length := fun p l => by
    obtain ⟨u, e, _⟩ := dropWhile_split p l
    have := congrArg List.length e
    rw [List.length_append] at this
    omega
  refine Nat.le_trans (h _ _) ?_
  rw [List.length_reverse]
  refine Nat.le_trans (h _ _) ?_
  rw [List.length_reverse]
  exact Nat.le_refl _
theorem cell_other (w : World) (b j : Nat) (u : Value) {k o : Nat} (h : k ≠ b) : (w.setCell ⟨b, j, none⟩ u).cell? ⟨k, o, none⟩ = w.cell? ⟨k, o, none⟩ := by
  have := heap_setCell_other w ⟨b, j, none⟩ k u h
  simp only [World.cell?, this]
theorem NL_move {w w' : World} {g n c : Nat} {zs : List ByteArray} (h : NL w (some ⟨g, 0, none⟩) n c zs) (hc : ∀ o, w'.cell? ⟨g, o, none⟩ = w.cell? ⟨g, o, none⟩) (hg : g < w'.heap.size) : NL w' (some ⟨g, 0, none⟩) n c zs := by
  refine ⟨⟨h.at_.len, ⟨h.at_.reads.1, fun h0 => ?_⟩, h.at_.size, h.at_.big⟩, h.nil, fun ad e => ?_, h.reach⟩
  · obtain ⟨ad, e, _, hcell⟩ := h.at_.reads.2 h0
    injection e with e
    subst e
    refine ⟨_, rfl, hg, fun j u hu => ?_⟩
    have := hcell j u hu
    rw [Addr.add_lit] at this ⊢
    rw [hc]; exact this
  · injection e with e
    subst e
    exact ⟨g, 0, rfl, hg⟩
theorem index_lt {l : Bs} {c : UInt8} {k : Nat} (h : Lib.indexByte l c = k) : k < l.length := by
  induction l generalizing k with
  | nil => simp [Lib.indexByte] at h
  | cons b l ih =>
    unfold Lib.indexByte at h
    rw [List.length_cons]
    split at h
    · omega
    · split at h
      · omega
      · cases k with
        | zero => omega
        | succ k => have := ih (k := k) (by omega); omega
set_option maxHeartbeats 4000000 in
theorem ParseR_ok (s : ByteArray) (w : World) (hs : s.size ≤ 1048576) : Calls Tryz.prog 42 #[.string s] w (ParsePost w s.data.toList) := by
  have HB0 : Hid (∀ o, Below w.heap.size w (w.alloc o)) := fun o => (Below.refl _ _).alloc (Nat.le_refl _) _
  have hz0 : (w.alloc (.cells #[.slice none 0 0, .slice none 0 0] 61)).heap[w.heap.size]? = some (.cells #[.slice none 0 0, .slice none 0 0] 61 (0, 0)) := rb_new w _
  have HZ0 := Lib.hid hz0
  clear hz0
  rcases Int.lt_or_le (Lib.indexByte s.data.toList 58) 0 with hi | hi
  · have hi1 : Lib.indexByte s.data.toList 58 = -1 := by have := (indexByte_ge s.data.toList 58).1; omega
    have HE : Hid (parseE s.data.toList = 3) := by show _ = _; unfold parseE; rw [if_pos hi]
    have HS := Lib.hid (fun u => Split_no s 58 u hi1)
    clear hi hi1
    go_enter Tryz.func42, Tryz.ntmps42
    go_wp2_with (go_at_call 73; refine (HS.out _).mono ?_; rintro e w1 ⟨rfl, rfl⟩)
    refine bodyPost_ret (v := .tuple #[.agg #[.slice none 0 0, .slice none 0 0], .int .i64 3]) (rb_ct Tryz.results42 _ _ w.heap.size 61 _ (0, 0) _ _ rfl rfl HZ0.out Tryz.underlying61 rfl (by kernel_rfl)) rfl ⟨⟨nilRule, by rw [HE.out]; rfl, .inl ⟨by rw [HE.out]; decide, rfl⟩⟩, HB0.out _⟩
  · obtain ⟨k, hk⟩ := Int.eq_ofNat_of_zero_le hi
    have hks : k < s.size := by have := index_lt hk; rwa [← Lib.size_eq] at this
    have hkn : (Lib.indexByte s.data.toList 58).toNat = k := by omega
    have HE : Hid (parseE s.data.toList = ruleE (parseT s.data.toList) (parseN s.data.toList)) := by show _ = _; unfold parseE; rw [if_neg (by omega)]
    have eT : wb (trm (s.extract 0 k)).data.toList = parseT s.data.toList := by rw [wb_trm]; unfold parseT; rw [hkn, Lib.extract_from_zero]
    have eN : wb (trm (s.extract (k + 1) s.size)).data.toList = parseN s.data.toList := by rw [wb_trm]; unfold parseN; rw [hkn, Lib.extract_to_end]
    have sT : (trm (s.extract 0 k)).size ≤ 1048576 := by have := trm_size (s.extract 0 k); rw [ByteArray.size_extract] at this; omega
    have sN : (trm (s.extract (k + 1) s.size)).size ≤ 1048576 := by have := trm_size (s.extract (k + 1) s.size); rw [ByteArray.size_extract] at this; omega
    have HS := Lib.hid (fun u => Split_yes s 58 u k hk hks (by omega))
    have HWT := Lib.hid (fun u => Words_ok _ u sT)
    have HWN := Lib.hid (fun u => Words_ok _ u sN)
    rw [eT] at HWT
    rw [eN] at HWN
    clear sT sN eT eN hk hkn hi
    generalize trm (s.extract 0 k) = a at *
    generalize trm (s.extract (k + 1) s.size) = b at *
    obtain ⟨T, hT⟩ : ∃ T, T = parseT s.data.toList := ⟨_, rfl⟩
    obtain ⟨N, hN⟩ : ∃ N, N = parseN s.data.toList := ⟨_, rfl⟩
    rw [← hT, ← hN] at HE
    rw [← hT] at HWT
    rw [← hN] at HWN
    have HQT := Lib.hid hT
    have HQN := Lib.hid hN
    clear hT hN
    generalize s.data.toList = sl at *
    clear hs hks
    by_cases he : ruleE T N = 0
    · have HE0 := Lib.hid he
      clear he
      go_enter Tryz.func42, Tryz.ntmps42
      go_wp2_with (first
        | (go_at_call 73; refine (HS.out _).mono ?_; rintro e w1 ⟨rfl, hb⟩; have HB1 := Lib.hid ((HB0.out _).trans (hb.mono (HB0.out _).size)); have HX1 := Lib.hid hb; clear hb)
        | (go_at_call 66; (first
            | (have hq := HWT.out; clear HWT; refine (hq _).mono ?_; clear hq; rintro e w2 ⟨g, rfl, hown, hnl, hb⟩; have hg := hown.lt g rfl; have HN2 := Lib.hid hnl; have HB2 := Lib.hid (HB1.out.trans (hb.mono HB1.out.size)); have HX2 := Lib.hid (HX1.out.trans (hb.mono HX1.out.size)); have HW12 := Lib.hid hb; clear hown hnl hb)
            | (refine (HWN.out _).mono ?_; rintro e w3 ⟨g3, rfl, hown, hnl, hb⟩; have hg3 := hown.lt g3 rfl; have HN3 := Lib.hid hnl; have HB3 := Lib.hid (HB2.out.trans (hb.mono HB2.out.size)); have HX3 := Lib.hid (HX2.out.trans (hb.mono HX2.out.size)); have HN23 := Lib.hid (HN2.out.below hb); clear hown hnl hb; have HC := Lib.hid (fun o => CheckR_ok (some ⟨g, 0, none⟩) (some ⟨g3, 0, none⟩) T.length T.length N.length N.length T N (w3.alloc o) (HN23.out.below ((Below.refl _ _).alloc (Nat.le_refl _) o)).weak (HN3.out.below ((Below.refl _ _).alloc (Nat.le_refl _) o)).weak (Nat.le_refl _) (Nat.le_refl _)))))
        | (go_at_call 77; refine (HC.out _).mono ?_; rw [HE0.out]; rintro e w4 ⟨rfl, hb⟩; have HB4 := Lib.hid hb; obtain ⟨hz, hy⟩ := rb_far HX3.out hb; obtain ⟨c1, c2, c3⟩ := rb_cells hz; obtain ⟨d1, d2, d3⟩ := rb_cells hy; have HZ4 := Lib.hid hz; have hlt := HB3.out.size; clear hb hz hy d3))
      go_wp2
      refine bodyPost_ret (v := .tuple #[.agg #[.slice (some ⟨g, 0, none⟩) T.length T.length, .slice (some ⟨g3, 0, none⟩) N.length N.length], .int .i64 0]) (rb_ct Tryz.results42 _ _ w.heap.size 61 _ (0, 0) _ _ rfl rfl (rb_all HZ4.out _ _) Tryz.underlying61 rfl (by kernel_rfl)) rfl ?_
      have hb4 : Below w3.heap.size w3 w4 := ((Below.refl _ _).alloc (Nat.le_refl _) _).trans (HB4.out.mono (by simp))
      have hb5 : Below w.heap.size w w4 := HB3.out.trans (hb4.mono HB3.out.size)
      have hz1 := HX1.out.size
      simp only [World.size_alloc] at hz1
      have hz2 := HW12.out.size
      have hz3 := HX3.out.size
      have hz4 := hb4.size
      have hq : ∀ k o, k ≠ w.heap.size → k < w3.heap.size → ((w4.setCell ⟨w.heap.size, 0, none⟩ (.slice (some ⟨g, 0, none⟩) T.length T.length)).setCell ⟨w.heap.size, 1, none⟩ (.slice (some ⟨g3, 0, none⟩) N.length N.length)).cell? ⟨k, o, none⟩ = w3.cell? ⟨k, o, none⟩ := fun k o hk hl => by
        rw [cell_other _ _ _ _ hk, cell_other _ _ _ _ hk]
        exact hb4.cell hl
      refine ⟨⟨_, by rw [HE.out, HE0.out], .inr ⟨by rw [HE.out]; exact HE0.out, _, _, _, _, _, _, rfl, by rw [← HQT.out]; exact NL_move HN23.out (fun o => hq g o (by omega) (by omega)) (by simp; omega), by rw [← HQN.out]; exact NL_move HN3.out (fun o => hq g3 o (by omega) (by omega)) (by simp; omega), Nat.le_refl _, Nat.le_refl _⟩⟩, rb_below hb5 (Nat.le_refl _) _ _⟩
    · obtain ⟨E, hE⟩ : ∃ E, E = ruleE T N := ⟨_, rfl⟩
      rw [← hE] at he HE
      obtain ⟨i1, i2⟩ := int_ne' he
      have HNE := Lib.hid he
      have HEE := Lib.hid hE
      clear he hE
      go_enter Tryz.func42, Tryz.ntmps42
      go_wp2_with (first
        | (go_at_call 73; refine (HS.out _).mono ?_; rintro e w1 ⟨rfl, hb⟩; have HB1 := Lib.hid ((HB0.out _).trans (hb.mono (HB0.out _).size)); have HX1 := Lib.hid hb; clear hb)
        | (go_at_call 66; (first
            | (have hq := HWT.out; clear HWT; refine (hq _).mono ?_; clear hq; rintro e w2 ⟨g, rfl, hown, hnl, hb⟩; have hg := hown.lt g rfl; have HN2 := Lib.hid hnl; have HB2 := Lib.hid (HB1.out.trans (hb.mono HB1.out.size)); have HX2 := Lib.hid (HX1.out.trans (hb.mono HX1.out.size)); have HW12 := Lib.hid hb; clear hown hnl hb)
            | (refine (HWN.out _).mono ?_; rintro e w3 ⟨g3, rfl, hown, hnl, hb⟩; have hg3 := hown.lt g3 rfl; have HN3 := Lib.hid hnl; have HB3 := Lib.hid (HB2.out.trans (hb.mono HB2.out.size)); have HX3 := Lib.hid (HX2.out.trans (hb.mono HX2.out.size)); have HN23 := Lib.hid (HN2.out.below hb); clear hown hnl hb; have HC := Lib.hid (fun o => CheckR_ok (some ⟨g, 0, none⟩) (some ⟨g3, 0, none⟩) T.length T.length N.length N.length T N (w3.alloc o) (HN23.out.below ((Below.refl _ _).alloc (Nat.le_refl _) o)).weak (HN3.out.below ((Below.refl _ _).alloc (Nat.le_refl _) o)).weak (Nat.le_refl _) (Nat.le_refl _)))))
        | (go_at_call 77; refine (HC.out _).mono ?_; rw [← HEE.out]; rintro e w4 ⟨rfl, hb⟩; have HB4 := Lib.hid hb; obtain ⟨hz, hy⟩ := rb_far HX3.out hb; obtain ⟨c1, c2, c3⟩ := rb_cells hz; obtain ⟨d1, d2, d3⟩ := rb_cells hy; have HZ4 := Lib.hid hz; have hlt := HB3.out.size; clear hb hz hy d3))
      go_wp2
      refine bodyPost_ret (v := .tuple #[.agg #[.slice none 0 0, .slice none 0 0], .int .i64 E]) (rb_ct Tryz.results42 _ _ w.heap.size 61 _ (0, 0) _ _ rfl rfl (rb_all HZ4.out _ _) Tryz.underlying61 rfl (by kernel_rfl)) rfl ⟨⟨nilRule, by rw [HE.out]; rfl, .inl ⟨by rw [HE.out]; exact HNE.out, rfl⟩⟩, ?_⟩
      have hb4 : Below w3.heap.size w3 w4 := ((Below.refl _ _).alloc (Nat.le_refl _) _).trans (HB4.out.mono (by simp))
      exact rb_below (HB3.out.trans (hb4.mono HB3.out.size)) (Nat.le_refl _) _ _
end Go.Proofs.YtoiolepengcagaaGreatDoor
namespace Go.Proofs.YtoiolepengcagaaGreatDoor
/-- a pieceM of a text: as it stands, or a call -/
inductive Tok where
  | t (s : Bs)
  | c (n : Bs)
def cut1 (b : UInt8) : Bs → Option (Bs × Bs)
  | [] => none
  | x :: l => if x = b then some ([], l) else (cut1 b l).map fun p => (x :: p.1, p.2)
theorem cut1_hit {b : UInt8} {a : Bs} (h : b ∉ a) (r : Bs) : cut1 b (a ++ b :: r) = some (a, r) := by
  induction a with
  | nil => simp [cut1]
  | cons x a ih =>
    have hx : x ≠ b := fun e => h (e ▸ List.mem_cons_self)
    rw [List.cons_append, cut1, if_neg hx, ih (fun g => h (List.mem_cons_of_mem _ g))]
    rfl
theorem cut1_miss {b : UInt8} {a : Bs} (h : b ∉ a) : cut1 b a = none := by
  induction a with
  | nil => rfl
  | cons x a ih =>
    have hx : x ≠ b := fun e => h (e ▸ List.mem_cons_self)
    rw [cut1, if_neg hx, ih (fun g => h (List.mem_cons_of_mem _ g))]
    rfl
theorem cut1_cases (b : UInt8) (s : Bs) : (b ∉ s ∧ cut1 b s = none) ∨ ∃ a r, s = a ++ b :: r ∧ b ∉ a ∧ cut1 b s = some (a, r) := by
  induction s with
  | nil => exact .inl ⟨by simp, rfl⟩
  | cons x s ih =>
    by_cases h : x = b
    · subst h
      exact .inr ⟨[], s, rfl, by simp, by simp [cut1]⟩
    · rcases ih with ⟨h1, h2⟩ | ⟨a, r, h1, h2, h3⟩
      · refine .inl ⟨fun g => ?_, by rw [cut1, if_neg h, h2]; rfl⟩
        rcases List.mem_cons.1 g with g | g
        · exact h g.symm
        · exact h1 g
      · refine .inr ⟨x :: a, r, by rw [h1]; rfl, fun g => ?_, by rw [cut1, if_neg h, h3]; rfl⟩
        rcases List.mem_cons.1 g with g | g
        · exact h g.symm
        · exact h2 g
section
variable (ok : Bs → Bool)
def prsF : Nat → Bs → List Tok × Bool
  | 0, _ => ([], false)
  | f + 1, s =>
    match cut1 36 s with
    | none => ([.t s], true)
    | some (a, []) => ([.t a], false)
    | some (a, x :: r) =>
      if x = 36 then (.t a :: .t [36] :: (prsF f r).1, (prsF f r).2)
      else if x = 40 then
        match cut1 41 r with
        | none => ([.t a], false)
        | some (n, r') => if ok n = true then (.t a :: .c n :: (prsF f r').1, (prsF f r').2) else ([.t a], false)
      else ([.t a], false)
/-- the pieces of a text, and whether it is well formed -/
def prs (s : Bs) : List Tok × Bool := prsF ok (s.length + 1) s
variable {ok}
theorem prsF_enough : ∀ (f g : Nat) (s : Bs), s.length < f → s.length < g → prsF ok f s = prsF ok g s := by
  intro f
  induction f with
  | zero => intro g s h; omega
  | succ f ih =>
    intro g s hf hg
    cases g with
    | zero => omega
    | succ g =>
      rw [prsF, prsF]
      rcases cut1_cases 36 s with ⟨_, h⟩ | ⟨a, r, e, _, h⟩
      · rw [h]
      · rw [h]
        have hl := congrArg List.length e
        simp only [List.length_append, List.length_cons] at hl
        match r, hl with
        | [], _ => rfl
        | x :: r, hl =>
          simp only [List.length_cons] at hl
          simp only
          rw [ih g r (by omega) (by omega)]
          rcases cut1_cases 41 r with ⟨_, h2⟩ | ⟨n, r', e2, _, h2⟩
          · rw [h2]
          · rw [h2]
            have hl2 := congrArg List.length e2
            simp only [List.length_append, List.length_cons] at hl2
            simp only
            rw [ih g r' (by omega) (by omega)]
theorem prs_last {s : Bs} (h : 36 ∉ s) : prs ok s = ([.t s], true) := by
  unfold prs
  rw [prsF, cut1_miss h]
theorem prs_esc {a : Bs} (h : 36 ∉ a) (r : Bs) : prs ok (a ++ 36 :: 36 :: r) = (.t a :: .t [36] :: (prs ok r).1, (prs ok r).2) := by
  unfold prs
  rw [prsF, cut1_hit h]
  simp only
  rw [if_pos trivial, prsF_enough _ (r.length + 1) r (by simp; omega) (by omega)]
theorem prs_call {a n : Bs} (h : 36 ∉ a) (hn : 41 ∉ n) (r : Bs) : prs ok (a ++ 36 :: 40 :: (n ++ 41 :: r)) = if ok n = true then (.t a :: .c n :: (prs ok r).1, (prs ok r).2) else ([.t a], false) := by
  unfold prs
  rw [prsF, cut1_hit h]
  simp only
  rw [if_neg (by decide), if_pos trivial, cut1_hit hn]
  simp only
  rw [prsF_enough _ (r.length + 1) r (by simp; omega) (by omega)]
theorem prs_open {a r : Bs} (h : 36 ∉ a) (hr : 41 ∉ r) : prs ok (a ++ 36 :: 40 :: r) = ([.t a], false) := by
  unfold prs
  rw [prsF, cut1_hit h]
  simp only
  rw [if_neg (by decide), if_pos trivial, cut1_miss hr]
theorem prs_bad {a r : Bs} (h : 36 ∉ a) (h1 : r.head? ≠ some 36) (h2 : r.head? ≠ some 40) : prs ok (a ++ 36 :: r) = ([.t a], false) := by
  unfold prs
  rw [prsF, cut1_hit h]
  match r, h1, h2 with
  | [], _, _ => rfl
  | x :: r, h1, h2 =>
    have g1 : x ≠ 36 := fun e => h1 (by rw [e]; rfl)
    have g2 : x ≠ 40 := fun e => h2 (by rw [e]; rfl)
    simp only
    rw [if_neg g1, if_neg g2]
/-- the ways in which a text begins -/
theorem txt_cases (s : Bs) : 36 ∉ s ∨ (∃ a r, 36 ∉ a ∧ s = a ++ 36 :: 36 :: r) ∨ (∃ a n r, 36 ∉ a ∧ 41 ∉ n ∧ s = a ++ 36 :: 40 :: (n ++ 41 :: r)) ∨ (∃ a r, 36 ∉ a ∧ 41 ∉ r ∧ s = a ++ 36 :: 40 :: r) ∨ ∃ a r, 36 ∉ a ∧ r.head? ≠ some 36 ∧ r.head? ≠ some 40 ∧ s = a ++ 36 :: r := by
  rcases cut1_cases 36 s with ⟨h, _⟩ | ⟨a, r, e, h, _⟩
  · exact .inl h
  · right
    by_cases h1 : r.head? = some 36
    · match r, h1 with
      | x :: r, h1 =>
        simp at h1
        subst h1
        exact .inl ⟨a, r, h, e⟩
    · by_cases h2 : r.head? = some 40
      · match r, h2 with
        | x :: r, h2 =>
          simp at h2
          subst h2
          rcases cut1_cases 41 r with ⟨g, _⟩ | ⟨n, r', e2, g, _⟩
          · exact .inr (.inr (.inl ⟨a, r, h, g, e⟩))
          · exact .inr (.inl ⟨a, n, r', h, g, by rw [e, e2]⟩)
      · exact .inr (.inr (.inr ⟨a, r, h, h1, h2, e⟩))
/-- what a text calls for -/
def callsOf (l : List Tok) : List Bs := l.filterMap fun | .c n => some n | .t _ => none
theorem callsOf_mem {l : List Tok} {n : Bs} : n ∈ callsOf l ↔ Tok.c n ∈ l := by
  unfold callsOf
  rw [List.mem_filterMap]
  constructor
  · rintro ⟨x, hx, e⟩
    cases x with
    | t s => simp at e
    | c m => simp at e; rw [← e]; exact hx
  · intro h
    exact ⟨_, h, rfl⟩
def pieceM (F : Bs → Option Bs) : Tok → Bs
  | .t s => s
  | .c n => (F n).getD []
def evalT (F : Bs → Option Bs) (l : List Tok) : Bs := l.flatMap (pieceM F)
def noneT (F : Bs → Option Bs) (l : List Tok) : Bool := l.any fun | .c n => (F n).isNone | .t _ => false
def lrg (F : Bs → Option Bs) (l : List Tok) : Bool := noneT F l || decide (2000 < (evalT F l).length)
def cmb (F : Bs → Option Bs) (l : List Tok) : Option Bs := if lrg F l = true then none else some (evalT F l)
theorem evalT_app (F : Bs → Option Bs) (l m : List Tok) : evalT F (l ++ m) = evalT F l ++ evalT F m := by unfold evalT; rw [List.flatMap_append]
theorem noneT_app (F : Bs → Option Bs) (l m : List Tok) : noneT F (l ++ m) = (noneT F l || noneT F m) := by unfold noneT; rw [List.any_append]
theorem noneT_iff {F : Bs → Option Bs} {l : List Tok} : noneT F l = true ↔ ∃ n ∈ callsOf l, F n = none := by
  unfold noneT
  rw [List.any_eq_true]
  constructor
  · rintro ⟨x, hx, e⟩
    cases x with
    | t s => simp at e
    | c n => exact ⟨n, callsOf_mem.2 hx, by simpa using e⟩
  · rintro ⟨n, hn, e⟩
    exact ⟨_, callsOf_mem.1 hn, by simp [e]⟩
theorem evalT_congr {F G : Bs → Option Bs} {l : List Tok} (h : ∀ n ∈ callsOf l, F n = G n) : evalT F l = evalT G l := by
  unfold evalT
  rw [List.flatMap_def, List.flatMap_def]
  refine congrArg List.flatten (List.map_congr_left fun x hx => ?_)
  cases x with
  | t s => rfl
  | c n => exact congrArg (fun z : Option Bs => z.getD []) (h n (callsOf_mem.2 hx))
theorem noneT_congr {F G : Bs → Option Bs} {l : List Tok} (h : ∀ n ∈ callsOf l, F n = G n) : noneT F l = noneT G l := by
  rw [Bool.eq_iff_iff, noneT_iff, noneT_iff]
  constructor
  · rintro ⟨n, hn, e⟩; exact ⟨n, hn, by rw [← h n hn]; exact e⟩
  · rintro ⟨n, hn, e⟩; exact ⟨n, hn, by rw [h n hn]; exact e⟩
theorem cmb_congr {F G : Bs → Option Bs} {l : List Tok} (h : ∀ n ∈ callsOf l, F n = G n) : cmb F l = cmb G l := by
  unfold cmb lrg
  rw [evalT_congr h, noneT_congr h]
/-- two texts, one behind the other -/
theorem prs_pre {s : Bs} (h : 36 ∉ s) (t : Bs) : ∃ a l, (prs ok t).1 = .t a :: l ∧ prs ok (s ++ t) = (.t (s ++ a) :: l, (prs ok t).2) := by
  have app : ∀ {a : Bs}, 36 ∉ a → 36 ∉ s ++ a := fun ha g => by
    rcases List.mem_append.1 g with g | g
    · exact h g
    · exact ha g
  rcases txt_cases t with h1 | ⟨a, r, ha, rfl⟩ | ⟨a, n, r, ha, hn, rfl⟩ | ⟨a, r, ha, hr, rfl⟩ | ⟨a, r, ha, h1, h2, rfl⟩
  · exact ⟨t, [], by rw [prs_last h1], by rw [prs_last h1, prs_last (app h1)]⟩
  · refine ⟨a, .t [36] :: (prs ok r).1, by rw [prs_esc ha], ?_⟩
    rw [← List.append_assoc, prs_esc (app ha), prs_esc ha]
  · by_cases hok : ok n = true
    · refine ⟨a, .c n :: (prs ok r).1, by rw [prs_call ha hn, if_pos hok], ?_⟩
      rw [← List.append_assoc, prs_call (app ha) hn, prs_call ha hn, if_pos hok, if_pos hok]
    · refine ⟨a, [], by rw [prs_call ha hn, if_neg hok], ?_⟩
      rw [← List.append_assoc, prs_call (app ha) hn, prs_call ha hn, if_neg hok, if_neg hok]
  · refine ⟨a, [], by rw [prs_open ha hr], ?_⟩
    rw [← List.append_assoc, prs_open (app ha) hr, prs_open ha hr]
  · refine ⟨a, [], by rw [prs_bad ha h1 h2], ?_⟩
    rw [← List.append_assoc, prs_bad (app ha) h1 h2, prs_bad ha h1 h2]
theorem prs_join (F : Bs → Option Bs) : ∀ (k : Nat) (s t : Bs), s.length ≤ k → (prs ok s).2 = true →
    evalT F (prs ok (s ++ t)).1 = evalT F (prs ok s).1 ++ evalT F (prs ok t).1 ∧ callsOf (prs ok (s ++ t)).1 = callsOf (prs ok s).1 ++ callsOf (prs ok t).1 ∧ (prs ok (s ++ t)).2 = (prs ok t).2 := by
  intro k
  induction k with
  | zero =>
    intro s t hk _
    have : s = [] := List.length_eq_zero_iff.1 (by omega)
    subst this
    rw [List.nil_append, prs_last (s := []) (by simp)]
    simp [evalT, pieceM, callsOf]
  | succ k ih =>
    intro s t hk h
    rcases txt_cases s with h1 | ⟨a, r, ha, rfl⟩ | ⟨a, n, r, ha, hn, rfl⟩ | ⟨a, r, ha, hr, rfl⟩ | ⟨a, r, ha, h1, h2, rfl⟩
    · obtain ⟨a, l, e1, e2⟩ := prs_pre (ok := ok) h1 t
      rw [e2, e1, prs_last h1]
      simp [evalT, pieceM, callsOf]
    · rw [prs_esc ha] at h
      obtain ⟨i1, i2, i3⟩ := ih r t (by simp at hk; omega) h
      have e : a ++ 36 :: 36 :: r ++ t = a ++ 36 :: 36 :: (r ++ t) := by simp
      rw [e, prs_esc ha, prs_esc ha]
      refine ⟨?_, ?_, i3⟩
      · simp only [evalT, List.flatMap_cons, pieceM, List.append_assoc] at i1 ⊢
        rw [i1]
      · simp only [callsOf, List.filterMap_cons] at i2 ⊢
        exact i2
    · rw [prs_call ha hn] at h
      by_cases hok : ok n = true
      · rw [if_pos hok] at h
        obtain ⟨i1, i2, i3⟩ := ih r t (by simp at hk; omega) h
        have e : a ++ 36 :: 40 :: (n ++ 41 :: r) ++ t = a ++ 36 :: 40 :: (n ++ 41 :: (r ++ t)) := by simp
        rw [e, prs_call ha hn, prs_call ha hn, if_pos hok, if_pos hok]
        refine ⟨?_, ?_, i3⟩
        · simp only [evalT, List.flatMap_cons, pieceM, List.append_assoc] at i1 ⊢
          rw [i1]
        · simp only [callsOf, List.filterMap_cons, List.cons_append] at i2 ⊢
          rw [i2]
      · rw [if_neg hok] at h; cases h
    · rw [prs_open ha hr] at h; cases h
    · rw [prs_bad ha h1 h2] at h; cases h
/-- each sign that begins a call, twice -/
def dbl (v : Bs) : Bs := v.flatMap fun c => if c = 36 then [36, 36] else [c]
theorem dbl_none {a : Bs} (h : 36 ∉ a) : dbl a = a := by
  unfold dbl
  induction a with
  | nil => rfl
  | cons x a ih =>
    have hx : x ≠ 36 := fun e => h (by rw [e]; exact List.mem_cons_self)
    rw [List.flatMap_cons, if_neg hx, ih (fun g => h (List.mem_cons_of_mem _ g))]
    rfl
theorem prs_dbl (F : Bs → Option Bs) : ∀ (k : Nat) (v : Bs), v.length ≤ k → evalT F (prs ok (dbl v)).1 = v ∧ callsOf (prs ok (dbl v)).1 = [] ∧ (prs ok (dbl v)).2 = true := by
  intro k
  induction k with
  | zero =>
    intro v hk
    have : v = [] := List.length_eq_zero_iff.1 (by omega)
    subst this
    rw [show dbl [] = [] from rfl, prs_last (s := []) (by simp)]
    simp [evalT, pieceM, callsOf]
  | succ k ih =>
    intro v hk
    rcases cut1_cases 36 v with ⟨h, _⟩ | ⟨a, r, rfl, h, _⟩
    · rw [dbl_none h, prs_last h]
      simp [evalT, pieceM, callsOf]
    · obtain ⟨i1, i2, i3⟩ := ih r (by simp at hk; omega)
      have e : dbl (a ++ 36 :: r) = a ++ 36 :: 36 :: dbl r := by
        have h1 : dbl (a ++ 36 :: r) = dbl a ++ 36 :: 36 :: dbl r := by unfold dbl; rw [List.flatMap_append, List.flatMap_cons, if_pos rfl]; rfl
        rw [h1, dbl_none h]
      rw [e, prs_esc h]
      refine ⟨?_, ?_, i3⟩
      · simp only [evalT, List.flatMap_cons, pieceM] at i1 ⊢
        rw [i1]; rfl
      · simp only [callsOf, List.filterMap_cons] at i2 ⊢
        exact i2
end
/-- what a macro is flat: none, if it is too large -/
inductive Flt (T : Bs → Option (List Tok)) : Bs → Option Bs → Prop where
  | mk {n : Bs} {l : List Tok} (h : T n = some l) (F : Bs → Option Bs) (hF : ∀ m, m ∈ callsOf l → Flt T m (F m)) : Flt T n (cmb F l)
theorem Flt.uniq {T : Bs → Option (List Tok)} {n : Bs} {a b : Option Bs} (h : Flt T n a) (h2 : Flt T n b) : a = b := by
  induction h generalizing b with
  | mk h F hF ih =>
    cases h2 with
    | mk h' F' hF' =>
      rw [h] at h'
      injection h' with h'
      subst h'
      exact cmb_congr fun m hm => ih m hm (hF' m hm)
theorem Flt.more {T T' : Bs → Option (List Tok)} {n : Bs} {a : Option Bs} (h : Flt T n a) (hT : ∀ m l, T m = some l → T' m = some l) : Flt T' n a := by
  induction h with
  | mk h F hF ih => exact .mk (hT _ _ h) F fun m hm => ih m hm
/-- from n by calls to m -/
inductive Lead (T : Bs → Option (List Tok)) : Bs → Bs → Prop where
  | one {n m : Bs} {l : List Tok} (h : T n = some l) (hm : m ∈ callsOf l) : Lead T n m
  | step {n m k : Bs} {l : List Tok} (h : T n = some l) (hm : m ∈ callsOf l) (hk : Lead T m k) : Lead T n k
theorem Lead.trans {T : Bs → Option (List Tok)} {a b c : Bs} (h : Lead T a b) (h2 : Lead T b c) : Lead T a c := by
  induction h with
  | one h hm => exact .step h hm h2
  | step h hm _ ih => exact .step h hm (ih h2)
theorem Flt.no_ring {T : Bs → Option (List Tok)} {n : Bs} {a : Option Bs} (h : Flt T n a) : ¬ Lead T n n := by
  induction h with
  | @mk n l h F hF ih =>
    intro hl
    have key : ∀ m, m ∈ callsOf l → Lead T m n → False := fun m hm hmn => ih m hm (hmn.trans (.one h hm))
    cases hl with
    | one h' hm =>
      rw [h] at h'
      injection h' with h'
      subst h'
      exact ih _ hm (.one h hm)
    | step h' hm hk =>
      rw [h] at h'
      injection h' with h'
      subst h'
      exact key _ hm hk
theorem Flt.lead {T : Bs → Option (List Tok)} {n m : Bs} (h : Lead T n m) : ∀ {a : Option Bs}, Flt T n a → ∃ b, Flt T m b := by
  induction h with
  | one h hm =>
    intro a ha
    cases ha with
    | mk h' F hF =>
      rw [h] at h'
      injection h' with h'
      subst h'
      exact ⟨_, hF _ hm⟩
  | step h hm _ ih =>
    intro a ha
    cases ha with
    | mk h' F hF =>
      rw [h] at h'
      injection h' with h'
      subst h'
      exact ih (hF _ hm)
theorem Flt.short {T : Bs → Option (List Tok)} {n v : Bs} (h : Flt T n (some v)) : v.length ≤ 2000 := by
  generalize ha : some v = a at h
  cases h with
  | mk h F hF =>
    unfold cmb lrg at ha
    split at ha
    · cases ha
    · rename_i h1
      simp only [Bool.or_eq_true, decide_eq_true_eq, not_or] at h1
      injection ha with ha
      rw [ha]
      omega
end Go.Proofs.YtoiolepengcagaaGreatDoor
