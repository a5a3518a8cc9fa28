/- Rules, plainly: when a rule is right; that what is printed is parsed into the same. Conditions: none. -/
import Derived.Test.YtoiolepengcagaaGreatDoorWordsP
import Derived.Test.YtoiolepengcagaaGreatDoorNameW
namespace Go.Proofs.YtoiolepengcagaaGreatDoor
abbrev Bs := List UInt8
def txt (l : Bs) : ByteArray := ⟨l.toArray⟩
theorem txt_list (l : Bs) : (txt l).data.toList = l := by unfold txt; simp
theorem list_txt (s : ByteArray) : txt s.data.toList = s := by unfold txt; simp
theorem txt_size (l : Bs) : (txt l).size = l.length := by rw [Lib.size_eq, txt_list]
/-- the error of a rule -/
def ruleE (T N : List ByteArray) : Int :=
  if 20 < T.length ∨ 20 < N.length then 2 else if T.length = 0 then 3 else if ((T ++ N).all fun s => nameE s == 0) = false then 3 else if ¬ T.Nodup ∨ ¬ N.Nodup then 6 else 0
structure RuleOk (T N : List ByteArray) : Prop where
  few : T.length ≤ 20 ∧ N.length ≤ 20
  some_ : T ≠ []
  names : ∀ s ∈ T ++ N, nameE s = 0
  once : T.Nodup ∧ N.Nodup
theorem ruleE_zero {T N : List ByteArray} : ruleE T N = 0 ↔ RuleOk T N := by
  unfold ruleE
  constructor
  · intro h
    split at h
    · cases h
    · rename_i h1
      split at h
      · cases h
      · rename_i h2
        split at h
        · cases h
        · rename_i h3
          split at h
          · cases h
          · rename_i h4
            refine ⟨by omega, fun e => h2 (by rw [e]; rfl), fun s hs => ?_, by simpa using h4⟩
            rw [Bool.not_eq_false, List.all_eq_true] at h3
            have := h3 s hs
            simpa using this
  · rintro ⟨h1, h2, h3, h4, h5⟩
    rw [if_neg (by omega), if_neg (fun e => h2 (List.length_eq_zero_iff.1 e)), if_neg ?_, if_neg (by simp [h4, h5])]
    rw [Bool.not_eq_false, List.all_eq_true]
    intro s hs
    rw [h3 s hs]; rfl
theorem index_at {u v : Bs} {c : UInt8} (h : c ∉ u) : Lib.indexByte (u ++ c :: v) c = u.length := by
  induction u with
  | nil => simp [Lib.indexByte]
  | cons b u ih =>
    have hb : (b == c) = false := by
      rw [beq_eq_false_iff_ne]
      intro e; subst e; exact h List.mem_cons_self
    have hi := ih (fun hc => h (List.mem_cons_of_mem _ hc))
    rw [List.cons_append]
    unfold Lib.indexByte
    rw [hb, hi]
    simp only [Bool.false_eq_true, if_false, List.length_cons]
    split
    · rename_i h; have := eq_of_beq h; omega
    · omega
/-- a name's bytes -/
theorem name_bytes {s : ByteArray} (h : nameE s = 0) : WordL s.data.toList ∧ (58 : UInt8) ∉ s.data.toList := by
  unfold nameE at h
  split at h
  · cases h
  · rename_i h1
    split at h
    · rename_i h2
      have h3 := List.all_eq_true.1 h2
      refine ⟨⟨fun e => ?_, fun c hc => ?_⟩, fun hc => ?_⟩
      · have : s.size = 0 := by rw [Lib.size_eq, e]; rfl
        omega
      · have := h3 c hc
        cases hb : blk c with
        | false => rfl
        | true =>
          unfold blk at hb
          rw [Bool.or_eq_true, beq_iff_eq, beq_iff_eq] at hb
          rcases hb with rfl | rfl
          · exact absurd this (by decide)
          · exact absurd this (by decide)
      · exact absurd (h3 58 hc) (by decide)
    · cases h
theorem join_append (X Y : List Bs) (hX : X ≠ []) (hY : Y ≠ []) (sep : Bs) : Lib.join (X ++ Y) sep = Lib.join X sep ++ sep ++ Lib.join Y sep := by
  induction X with
  | nil => exact absurd rfl hX
  | cons x X ih =>
    cases X with
    | nil =>
      cases Y with
      | nil => exact absurd rfl hY
      | cons y Y => rw [List.singleton_append, join_two, Lib.join_one]
    | cons x2 X =>
      rw [List.cons_append, List.cons_append, join_two, ← List.cons_append, ih (by simp), join_two]
      simp only [List.append_assoc]
theorem join_mem {X : List Bs} {sep : Bs} {c : UInt8} (h : c ∈ Lib.join X sep) : c ∈ sep ∨ ∃ x ∈ X, c ∈ x := by
  induction X with
  | nil => rw [Lib.join_nil] at h; cases h
  | cons x X ih =>
    cases X with
    | nil => rw [Lib.join_one] at h; exact .inr ⟨x, List.mem_cons_self, h⟩
    | cons y X =>
      rw [join_two] at h
      rcases List.mem_append.1 h with h | h
      · rcases List.mem_append.1 h with h | h
        · exact .inr ⟨x, List.mem_cons_self, h⟩
        · exact .inl h
      · rcases ih h with h | ⟨z, hz, h⟩
        · exact .inl h
        · exact .inr ⟨z, List.mem_cons_of_mem _ hz, h⟩
/-- the text of a rule -/
def ruleT (T N : List ByteArray) : Bs := Lib.join ((T ++ [(⟨#[58]⟩ : ByteArray)] ++ N).map fun x => x.data.toList) [32]
def lsB (l : List ByteArray) : List Bs := l.map fun x => x.data.toList
theorem rule_parts {T N : List ByteArray} (h : RuleOk T N) : ∃ k : Nat, Lib.indexByte (ruleT T N) 58 = k ∧ k < (ruleT T N).length ∧ wordsL ((ruleT T N).take k) = lsB T ∧ wordsL ((ruleT T N).drop (k + 1)) = lsB N := by
  have hT : ∀ w ∈ lsB T, WordL w ∧ (58 : UInt8) ∉ w := fun w hw => by
    obtain ⟨s, hs, rfl⟩ := List.mem_map.1 hw
    exact name_bytes (h.names s (List.mem_append_left _ hs))
  have hN : ∀ w ∈ lsB N, WordL w ∧ (58 : UInt8) ∉ w := fun w hw => by
    obtain ⟨s, hs, rfl⟩ := List.mem_map.1 hw
    exact name_bytes (h.names s (List.mem_append_right _ hs))
  have hTn : lsB T ≠ [] := fun e => h.some_ (List.map_eq_nil_iff.1 e)
  obtain ⟨v, hv, hv2⟩ : ∃ v, ruleT T N = (Lib.join (lsB T) [32] ++ [32]) ++ 58 :: v ∧ wordsL v = lsB N := by
    have e0 : ruleT T N = Lib.join (lsB T ++ ([[58]] ++ lsB N)) [32] := by
      unfold ruleT lsB
      rw [List.map_append, List.map_append, List.append_assoc]
      rfl
    rw [e0, join_append _ _ hTn (by simp)]
    rcases List.eq_nil_or_concat (lsB N) with e | ⟨_, _, _⟩
    · rw [e]
      exact ⟨[], by rw [List.append_nil, Lib.join_one], rfl⟩
    · have hNn : lsB N ≠ [] := by rename_i e; rw [e]; simp
      refine ⟨[32] ++ Lib.join (lsB N) [32], ?_, ?_⟩
      · rw [join_append _ _ (by simp) hNn, Lib.join_one]; simp
      · rw [words_left (by intro c hc; have : c = 32 := by simpa using hc
                           subst this; rfl), words_join (fun w hw => (hN w hw).1)]
  have hno : (58 : UInt8) ∉ Lib.join (lsB T) [32] ++ [32] := by
    intro hc
    rcases List.mem_append.1 hc with hc | hc
    · rcases join_mem hc with hc | ⟨w, hw, hc⟩
      · exact absurd hc (by decide)
      · exact (hT w hw).2 hc
    · exact absurd hc (by decide)
  refine ⟨(Lib.join (lsB T) [32] ++ [32]).length, by rw [hv, index_at hno], by rw [hv]; simp, ?_, ?_⟩
  · rw [hv, List.take_left']
    · exact words_join_go [32] (by intro c hc; have : c = 32 := by simpa using hc
                                   subst this; rfl) _ (fun w hw => (hT w hw).1)
    · rfl
  · rw [hv, ← List.drop_drop, List.drop_left']
    · exact hv2
    · rfl
theorem lst_inj {X Y : List ByteArray} (h : lsB X = lsB Y) : X = Y := by
  refine (List.map_inj_right ?_).1 h
  intro a b e
  cases a; cases b
  exact congrArg ByteArray.mk (Array.toList_inj.1 e)
theorem ruleT_len {T N : List ByteArray} (h : RuleOk T N) : (ruleT T N).length ≤ 100000 := by
  unfold ruleT
  have hall : ∀ s ∈ T ++ [(⟨#[58]⟩ : ByteArray)] ++ N, s.data.toList.length ≤ 40 := by
    intro s hs
    have hnm : ∀ s, nameE s = 0 → s.data.toList.length ≤ 40 := fun s h => by
      rw [← Lib.size_eq]
      unfold nameE at h
      split at h
      · cases h
      · omega
    rcases List.mem_append.1 hs with hs | hs
    · rcases List.mem_append.1 hs with hs | hs
      · exact hnm s (h.names s (List.mem_append_left _ hs))
      · have : s = (⟨#[58]⟩ : ByteArray) := by simpa using hs
        subst this; decide
    · exact hnm s (h.names s (List.mem_append_right _ hs))
  have hlen : (T ++ [(⟨#[58]⟩ : ByteArray)] ++ N).length ≤ 41 := by
    have := h.few
    simp only [List.length_append, List.length_singleton]; omega
  have key : ∀ X : List ByteArray, (∀ s ∈ X, s.data.toList.length ≤ 40) → (Lib.join (X.map fun x => x.data.toList) [32]).length ≤ 41 * X.length := by
    intro X
    induction X with
    | nil => intro _; simp [Lib.join_nil]
    | cons x X ih =>
      intro hX
      have h1 := hX x List.mem_cons_self
      have h2 := ih (fun s hs => hX s (List.mem_cons_of_mem _ hs))
      cases X with
      | nil => simp only [List.map_cons, List.map_nil, Lib.join_one, List.length_singleton]; omega
      | cons y X =>
        rw [List.map_cons] at h2
        rw [List.map_cons, List.map_cons, join_two]
        simp only [List.length_append, List.length_cons, List.length_nil] at h2 ⊢
        omega
  have := key _ hall
  omega
end Go.Proofs.YtoiolepengcagaaGreatDoor
