/- The walks of rule.Print and rule.Parse. Conditions: the slices read as listed; the text is at most 2^20 bytes. -/
import Derived.Test.YtoiolepengcagaaGreatDoorRuleW
import Derived.Test.YtoiolepengcagaaGreatDoorWordsW
namespace Go.Proofs.YtoiolepengcagaaGreatDoor
open Go.RowKit Go.Shelf
/-- a rule in memory -/
def RuleIn (w : World) (v : Value) (T N : List ByteArray) : Prop :=
  ∃ p n c q m d, v = .agg #[.slice p n c, .slice q m d] ∧ NL w p n c T ∧ NL w q m d N ∧ n ≤ c ∧ m ≤ d
theorem RuleIn.below {w w' : World} {v : Value} {T N : List ByteArray} (h : RuleIn w v T N) (hb : Below w.heap.size w w') : RuleIn w' v T N := by
  obtain ⟨p, n, c, q, m, d, e, h1, h2, h3, h4⟩ := h
  exact ⟨p, n, c, q, m, d, e, h1.below hb, h2.below hb, h3, h4⟩
theorem NL_none (w : World) : NL w none 0 0 [] :=
  ⟨⟨rfl, Reads.none_, fun s hs => (by cases hs), by omega⟩, fun _ => rfl, fun ad h => (by cases h), by omega⟩
def nilRule : Value := .agg #[.slice none 0 0, .slice none 0 0]
theorem nil_rule (w : World) : RuleIn w nilRule [] [] := ⟨none, 0, 0, none, 0, 0, rfl, NL_none w, NL_none w, Nat.le_refl _, Nat.le_refl _⟩
def threeP (p q g : Option Addr) (n c m d k e : Nat) (T M N : List ByteArray) : List CPart := [⟨p, n, c, T⟩, ⟨g, k, e, M⟩, ⟨q, m, d, N⟩]
theorem cat_three (p q g : Option Addr) (n c m d k e : Nat) (T M N : List ByteArray) : catN (threeP p q g n c m d k e T M N) (threeP p q g n c m d k e T M N).length = T ++ M ++ N := by
  unfold catN threeP
  simp
theorem concat_three {w : World} {B : Nat} {p q g : Option Addr} {n c m d k e : Nat} {T M N : List ByteArray} (h1 : NL w p n c T) (h3 : NL w g k e M) (h2 : NL w q m d N) (hsum : n + k + m ≤ 8796093022208)
    (c1 : w.cell? ⟨B, 0, none⟩ = some (.slice p n c)) (c2 : w.cell? ⟨B, 1, none⟩ = some (.slice g k e)) (c3 : w.cell? ⟨B, 2, none⟩ = some (.slice q m d)) (hB : B < w.heap.size) :
    Calls Tryz.prog 11 #[.slice (some ⟨B, 0, none⟩) 3 3] w (CatPost w (T ++ M ++ N)) := by
  have l1 := h1.at_.len
  have l2 := h2.at_.len
  have l3 := h3.at_.len
  subst l1 l2 l3
  have hP : CParts w B (threeP p q g T.length c N.length d M.length e T M N) := by
    refine ⟨fun k hk => ?_, fun k hk => ?_⟩
    · match k, hk with
      | 0, _ => exact h1.weak
      | 1, _ => exact h3.weak
      | 2, _ => exact h2.weak
    · match k, hk with
      | 0, _ => exact c1
      | 1, _ => exact c2
      | 2, _ => exact c3
  have := concatN_ok B _ w (by unfold threeP; simp) hP (by rw [cat_three, List.length_append, List.length_append]; omega) hB
  rw [cat_three] at this
  exact this
theorem join_own {w : World} {base : Nat} {g : Option Addr} {c : Nat} {us : List ByteArray} (h : w.ownsRow base 9 1 (.slice g us.length c) us.length (strsV us)) (h0 : 0 < us.length) (sep : ByteArray)
    (hn : us.length ≤ 140737488355328) (hlen : (Lib.join (us.map (·.data.toList)) sep.data.toList).length ≤ 140737488355328) :
    Calls Tryz.prog 81 #[.slice g us.length c, .string sep] w fun e w' => e = .returned (.string ⟨(Lib.join (us.map (·.data.toList)) sep.data.toList).toArray⟩) ∧ Below w.heap.size w w' := by
  rcases h.2 with ⟨e1, e2⟩ | ⟨b, cap, cur, e1, hbg, hg, hnc, hcm, hcs, htake⟩
  · omega
  · injection e1 with e1 e3 e4
    subst e1 e4
    have hcell := h.cells (g := b) rfl
    refine Tryz.strings_Join b 0 c us sep w (fun j x hx => ?_) (World.block_lt_of_cell? w _ (hcell 0 _ (by unfold strsV; rw [List.getElem?_map, List.getElem?_eq_getElem h0]; rfl))) hn (by omega) hlen
    have := hcell j (.string x) (by unfold strsV; rw [List.getElem?_map, hx]; rfl)
    rw [Addr.add_lit] at this
    exact this
theorem NL_one (w : World) (x : ByteArray) (hx : x.size ≤ 4611686018427387904) : NL (w.alloc (.cells #[.string x] 9)) (some ⟨w.heap.size, 0, none⟩) 1 1 [x] := by
  refine ⟨⟨rfl, ⟨rfl, fun _ => ⟨⟨w.heap.size, 0, none⟩, rfl, by simp, fun j u hu => ?_⟩⟩, fun s hs => ?_, by omega⟩, fun h => (by cases h), fun ad h => ?_, by omega⟩
  · match j, hu with
    | 0, hu =>
      simp [strsV] at hu
      subst hu
      rw [Addr.add_lit, World.cell?_alloc_at _ _ _ _ rfl]; rfl
  · have : s = x := by simpa using hs
    subst this; exact hx
  · injection h with h
    subst h
    exact ⟨_, _, rfl, by simp⟩
def rus (T N : List ByteArray) : List ByteArray := T ++ [(⟨#[58]⟩ : ByteArray)] ++ N
theorem rus_len (T N : List ByteArray) : (rus T N).length = T.length + 1 + N.length := by unfold rus; simp; omega
theorem print_cat (p q : Option Addr) (c d : Nat) (T N : List ByteArray) (w : World) (h1 : NL w p T.length c T) (h2 : NL w q N.length d N) (hT : T.length ≤ 20) (hN : N.length ≤ 20) :
    Calls Tryz.prog 11 #[.slice (some ⟨w.heap.size + 1, 0, none⟩) 3 3] ((w.alloc (.cells #[.string ⟨#[58]⟩] 9)).alloc (.cells #[.slice p T.length c, .slice (some ⟨w.heap.size, 0, none⟩) 1 1, .slice q N.length d] 23))
      fun e w' => ∃ g cg b, e = .returned (.slice g (rus T N).length cg) ∧ w'.ownsRow b 9 1 (.slice g (rus T N).length cg) (rus T N).length (strsV (rus T N)) ∧ Below w.heap.size w w' := by
  have hb1 : Below w.heap.size w (w.alloc (.cells #[.string ⟨#[58]⟩] 9)) := (Below.refl _ _).alloc (Nat.le_refl _) _
  have hs1 : (w.alloc (.cells #[.string ⟨#[58]⟩] 9)).heap.size = w.heap.size + 1 := by simp
  obtain ⟨o, ho⟩ : ∃ o, o = Obj.cells #[.slice p T.length c, .slice (some ⟨w.heap.size, 0, none⟩) 1 1, .slice q N.length d] 23 := ⟨_, rfl⟩
  have hb2 : Below w.heap.size w ((w.alloc (.cells #[.string ⟨#[58]⟩] 9)).alloc o) := hb1.alloc (by omega) _
  have hb12 : Below (w.heap.size + 1) (w.alloc (.cells #[.string ⟨#[58]⟩] 9)) ((w.alloc (.cells #[.string ⟨#[58]⟩] 9)).alloc o) := (Below.refl _ _).alloc (by omega) _
  have hm := NL_one w ⟨#[58]⟩ (by decide)
  rw [← hs1] at hb12
  have hm2 := hm.below hb12
  rw [← ho]
  have key := concat_three (w := (w.alloc (.cells #[.string ⟨#[58]⟩] 9)).alloc o) (B := w.heap.size + 1) (h1.below hb2) hm2 (h2.below hb2) (by omega)
    (by rw [ho, World.cell?_alloc_at _ _ _ _ (by simp)]; rfl) (by rw [ho, World.cell?_alloc_at _ _ _ _ (by simp)]; rfl) (by rw [ho, World.cell?_alloc_at _ _ _ _ (by simp)]; rfl) (by simp)
  refine key.mono ?_
  rintro e w' ⟨g, cg, e1, h3, h4⟩
  exact ⟨g, cg, _, e1, h3, hb2.trans (h4.mono hb2.size)⟩
theorem print_join {w : World} {base : Nat} {g : Option Addr} {c : Nat} {T N : List ByteArray} (h : w.ownsRow base 9 1 (.slice g (rus T N).length c) (rus T N).length (strsV (rus T N))) (hok : RuleOk T N) :
    Calls Tryz.prog 81 #[.slice g (rus T N).length c, .string ⟨#[32]⟩] w fun e w' => e = .returned (.string (txt (ruleT T N))) ∧ Below w.heap.size w w' := by
  have hl := rus_len T N
  have hf := hok.few
  have ht := ruleT_len hok
  exact join_own h (by omega) ⟨#[32]⟩ (by omega) (by show (ruleT T N).length ≤ _; omega)
end Go.Proofs.YtoiolepengcagaaGreatDoor
