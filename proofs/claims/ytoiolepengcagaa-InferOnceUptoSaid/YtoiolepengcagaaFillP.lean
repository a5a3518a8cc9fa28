/- Needs that are inferred, filled in, plainly. Conditions: none. -/
import Derived.Test.YtoiolepengcagaaInferOfW
import Derived.Test.YtoiolepengcagaaRuleJP
namespace Go.Proofs.Ytoiolepengcagaa
/-- all targets and needs of joined rules -/
def askF (us : List Bs) (J : Bs → List ByteArray) : List ByteArray := us.flatMap fun u => txt u :: J u
/-- one name that is asked for -/
def fillS (l : List Inf) (said : List ByteArray) (st : List Bs × (Bs → List ByteArray)) (s : ByteArray) : List Bs × (Bs → List ByteArray) :=
  if 0 < (st.2 s.data.toList).length then st else match infOf l said (stA s) (stB s) with
    | none => st
    | some x => (s.data.toList :: st.1, upd st.2 s.data.toList [x])
theorem fillS_all (l : List Inf) (said : List ByteArray) : ∀ (L : List ByteArray) (st : List Bs × (Bs → List ByteArray)),
    (∀ t, (L.foldl (fillS l said) st).2 t = if 0 < (st.2 t).length ∨ t ∉ byt L then st.2 t else (infOf l said (stA (txt t)) (stB (txt t))).toList) ∧
    (∀ t, t ∈ (L.foldl (fillS l said) st).1 ↔ t ∈ st.1 ∨ (¬ 0 < (st.2 t).length ∧ t ∈ byt L ∧ (infOf l said (stA (txt t)) (stB (txt t))).isSome = true)) := by
  intro L
  induction L with
  | nil => intro st; exact ⟨fun t => by simp [byt], fun t => by simp [byt]⟩
  | cons s L ih =>
    intro st
    obtain ⟨i1, i2⟩ := ih (fillS l said st s)
    have hm : ∀ t, t ∈ byt (s :: L) ↔ t = s.data.toList ∨ t ∈ byt L := fun t => List.mem_cons
    have hs : ∀ t : Bs, t = s.data.toList → txt t = s := fun t h => by rw [h]; exact ba_inj (by rw [txt_list])
    rw [List.foldl_cons]
    by_cases h0 : 0 < (st.2 s.data.toList).length
    · have e : fillS l said st s = st := by unfold fillS; rw [if_pos h0]
      rw [e] at i1 i2 ⊢
      constructor
      · intro t
        rw [i1 t]
        simp only [hm]
        by_cases ht : t = s.data.toList
        · have hp : 0 < (st.2 t).length := by rw [ht]; exact h0
          rw [if_pos (.inl hp), if_pos (.inl hp)]
        · simp only [ht, false_or]
      · intro t
        rw [i2 t, hm]
        by_cases ht : t = s.data.toList
        · have hp : 0 < (st.2 t).length := by rw [ht]; exact h0
          simp only [hp, not_true_eq_false, false_and, or_false]
        · simp only [ht, false_or]
    · cases hi : infOf l said (stA s) (stB s) with
      | none =>
        have e : fillS l said st s = st := by unfold fillS; rw [if_neg h0, hi]
        rw [e] at i1 i2 ⊢
        have hn : st.2 s.data.toList = [] := List.length_eq_zero_iff.1 (by omega)
        constructor
        · intro t
          rw [i1 t]
          simp only [hm]
          by_cases ht : t = s.data.toList
          · rw [hs t ht, hi, ht, hn]
            simp
          · simp only [ht, false_or]
        · intro t
          rw [i2 t, hm]
          by_cases ht : t = s.data.toList
          · rw [hs t ht, hi]
            simp
          · simp only [ht, false_or]
      | some x =>
        have e : fillS l said st s = (s.data.toList :: st.1, upd st.2 s.data.toList [x]) := by unfold fillS; rw [if_neg h0, hi]
        rw [e] at i1 i2 ⊢
        constructor
        · intro t
          rw [i1 t]
          simp only [hm]
          by_cases ht : t = s.data.toList
          · rw [hs t ht, hi, ht]
            simp [upd_same, h0]
          · simp only [upd_other _ _ ht, ht, false_or]
        · intro t
          rw [i2 t, hm]
          by_cases ht : t = s.data.toList
          · rw [hs t ht, hi, ht]
            simp [upd_same, h0]
          · simp only [upd_other _ _ ht, List.mem_cons, ht, false_or]
/-- the needs of a name, in the end -/
def needF (l : List Inf) (said : List ByteArray) (us : List Bs) (J : Bs → List ByteArray) (t : Bs) : List ByteArray :=
  if 0 < (J t).length ∨ t ∉ byt (askF us J) then J t else (infOf l said (stA (txt t)) (stB (txt t))).toList
/-- a name has a rule in the end -/
def TargF (l : List Inf) (said : List ByteArray) (us : List Bs) (J : Bs → List ByteArray) (t : Bs) : Prop :=
  t ∈ us ∨ (¬ 0 < (J t).length ∧ t ∈ byt (askF us J) ∧ (infOf l said (stA (txt t)) (stB (txt t))).isSome = true)
/-- .. as the walk of the names that are asked for lays it -/
theorem fill_end (l : List Inf) (said : List ByteArray) (us : List Bs) (ks : List Bs) (J : Bs → List ByteArray) (hk : ∀ t, t ∈ ks ↔ t ∈ us) :
    ((askF us J).foldl (fillS l said) (ks, J)).2 = needF l said us J ∧ ∀ t, t ∈ ((askF us J).foldl (fillS l said) (ks, J)).1 ↔ TargF l said us J t := by
  obtain ⟨h1, h2⟩ := fillS_all l said (askF us J) (ks, J)
  refine ⟨funext fun t => ?_, fun t => ?_⟩
  · rw [h1 t]; rfl
  · rw [h2 t, hk t]; rfl
end Go.Proofs.Ytoiolepengcagaa
