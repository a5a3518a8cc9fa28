/- What log.Parse answers, plainly, at whatever reader of a line and check; the law LogWrong of it. Conditions: none. -/
import Derived.Test.YtlhhcgiifgkngaaDoorLinesSP
namespace Go.Proofs.YtlhhcgiifgkngaaDoor
section
variable {St : Type} (rd : List UInt8 → St × Bool) (chk : List St → Int) (most : Nat)
/-- the lines from the one behind line k on; the stamps so far -/
def lgo : List (List UInt8) → Nat → List St → List St × Nat × Int
  | [], _, out => (out, 0, 0)
  | s :: l, k, out =>
    if most < k + 1 then ([], k + 1, 2)
    else if (rd s).2 = false ∨ chk ((out ++ [(rd s).1]).drop (k - 1)) ≠ 0 then ([], k + 1, 3)
    else lgo l (k + 1) (out ++ [(rd s).1])
theorem lgo_ok : ∀ (l : List (List UInt8)) (k : Nat) (out : List St), (lgo rd chk most l k out).2.2 = 0 → (lgo rd chk most l k out).2.1 = 0 ∧ (lgo rd chk most l k out).1 = out ++ l.map fun s => (rd s).1 := by
  intro l
  induction l with
  | nil => intro k out _; exact ⟨rfl, by simp [lgo]⟩
  | cons s l ih =>
    intro k out h
    unfold lgo at h ⊢
    split at h
    · cases h
    · rename_i h1
      rw [if_neg h1]
      split at h
      · cases h
      · rename_i h2
        rw [if_neg h2]
        obtain ⟨h3, h4⟩ := ih _ _ h
        exact ⟨h3, by rw [h4]; simp⟩
theorem lgo_bad : ∀ (l : List (List UInt8)) (k : Nat) (out : List St), (lgo rd chk most l k out).2.2 ≠ 0 → (lgo rd chk most l k out).1 = [] ∧ k < (lgo rd chk most l k out).2.1 ∧ (lgo rd chk most l k out).2.1 ≤ k + l.length ∧
    (lgo rd chk most (l.take ((lgo rd chk most l k out).2.1 - 1 - k)) k out).2.2 = 0 := by
  intro l
  induction l with
  | nil => intro k out h; exact absurd rfl h
  | cons s l ih =>
    intro k out h
    by_cases h1 : most < k + 1
    · have e : lgo rd chk most (s :: l) k out = ([], k + 1, 2) := by rw [lgo, if_pos h1]
      rw [e]
      refine ⟨rfl, Nat.lt_succ_self _, by rw [List.length_cons]; show k + 1 ≤ _; omega, ?_⟩
      show (lgo rd chk most ((s :: l).take (k + 1 - 1 - k)) k out).2.2 = 0
      rw [show k + 1 - 1 - k = 0 by omega]
      rfl
    · by_cases h2 : (rd s).2 = false ∨ chk ((out ++ [(rd s).1]).drop (k - 1)) ≠ 0
      · have e : lgo rd chk most (s :: l) k out = ([], k + 1, 3) := by rw [lgo, if_neg h1, if_pos h2]
        rw [e]
        refine ⟨rfl, Nat.lt_succ_self _, by rw [List.length_cons]; show k + 1 ≤ _; omega, ?_⟩
        show (lgo rd chk most ((s :: l).take (k + 1 - 1 - k)) k out).2.2 = 0
        rw [show k + 1 - 1 - k = 0 by omega]
        rfl
      · have e : lgo rd chk most (s :: l) k out = lgo rd chk most l (k + 1) (out ++ [(rd s).1]) := by rw [lgo, if_neg h1, if_neg h2]
        rw [e] at h ⊢
        obtain ⟨h3, h4, h5, h6⟩ := ih _ _ h
        refine ⟨h3, by omega, by rw [List.length_cons]; omega, ?_⟩
        generalize (lgo rd chk most l (k + 1) (out ++ [(rd s).1])).2.1 = n at *
        rw [show n - 1 - k = (n - 1 - (k + 1)) + 1 by omega, List.take_succ_cons, lgo, if_neg h1, if_neg h2]
        exact h6
/-- what Parse answers at a text -/
def parL (s : List UInt8) : List St × Nat × Int := if 20000 < s.length then ([], 0, 2) else lgo rd chk most (linS s) 0 []
/-- the law LogWrong, plainly -/
theorem wrong_law {s : List UInt8} (h : (parL rd chk most s).2.2 = 3) : 0 < (parL rd chk most s).2.1 ∧ (parL rd chk most s).2.1 ≤ (linS s).length ∧
    (parL rd chk most (s.take (scanN s ((parL rd chk most s).2.1 - 1)))).2.2 = 0 ∧ (parL rd chk most (s.take (scanN s ((parL rd chk most s).2.1 - 1)))).2.1 = 0 ∧
    (parL rd chk most (s.take (scanN s ((parL rd chk most s).2.1 - 1)))).1.length = (parL rd chk most s).2.1 - 1 := by
  unfold parL at h ⊢
  split at h
  · cases h
  · rename_i hs
    rw [if_neg hs]
    obtain ⟨_, h2, h3, h4⟩ := lgo_bad rd chk most (linS s) 0 [] (by rw [h]; decide)
    generalize (lgo rd chk most (linS s) 0 []).2.1 = n at *
    have hn : n - 1 < (linS s).length := by omega
    rw [Nat.sub_zero] at h4
    have hlen : ¬ 20000 < (s.take (scanN s (n - 1))).length := by
      have := List.length_take_le' (scanN s (n - 1)) s
      omega
    rw [if_neg hlen, scanN_take _ _ hn, linS_take _ _ hn]
    obtain ⟨h5, h6⟩ := lgo_ok rd chk most _ _ _ h4
    refine ⟨h2, by omega, h4, h5, ?_⟩
    rw [h6, List.nil_append, List.length_map, List.length_take]
    omega
/-! ### the law LogBack -/
variable (text : St → List UInt8) (V : St → Prop) (R : St → St → Prop)
/-- stamps that pass the check -/
def OkL (l : List St) : Prop := (∀ x ∈ l, V x) ∧ ∀ i x y, l[i]? = some x → l[i + 1]? = some y → R x y
theorem okL_snoc {l : List St} {x : St} (h : OkL V R l) (hl : OkL V R ((l ++ [x]).drop (l.length - 1))) : OkL V R (l ++ [x]) := by
  refine ⟨fun y hy => ?_, fun i a b ha hb => ?_⟩
  · rcases List.mem_append.1 hy with hy | hy
    · exact h.1 y hy
    · rw [List.mem_singleton.1 hy]
      exact hl.1 x (by
        rw [List.mem_iff_getElem?]
        refine ⟨l.length - (l.length - 1), ?_⟩
        rw [List.getElem?_drop, show l.length - 1 + (l.length - (l.length - 1)) = l.length by omega]
        simp)
  · rcases Nat.lt_or_ge (i + 1) l.length with hi | hi
    · rw [List.getElem?_append_left (by omega)] at ha hb
      exact h.2 i a b ha hb
    · have hlt := (List.getElem?_eq_some_iff.1 hb).1
      simp at hlt
      have e : i = l.length - 1 := by omega
      refine hl.2 0 a b ?_ ?_
      · rw [List.getElem?_drop, Nat.add_zero, ← e]; exact ha
      · rw [List.getElem?_drop, ← e]; exact hb
theorem okL_last {l : List St} {x : St} (h : OkL V R (l ++ [x])) (k : Nat) : OkL V R ((l ++ [x]).drop k) :=
  ⟨fun y hy => h.1 y (List.mem_of_mem_drop hy), fun i a b ha hb => by
    rw [List.getElem?_drop] at ha hb
    exact h.2 (k + i) a b ha (by rw [Nat.add_assoc]; exact hb)⟩
theorem okL_take {l l2 : List St} (h : OkL V R (l ++ l2)) : OkL V R l :=
  ⟨fun y hy => h.1 y (List.mem_append_left _ hy), fun i a b ha hb => h.2 i a b (by rw [List.getElem?_append_left (List.getElem?_eq_some_iff.1 ha).1]; exact ha) (by rw [List.getElem?_append_left (List.getElem?_eq_some_iff.1 hb).1]; exact hb)⟩
/-- what is parsed passes the check, and is told as the same text -/
theorem lgo_back (hR : ∀ s, (rd s).2 = true → text (rd s).1 = s) (hC : ∀ l, l.length ≤ most → (chk l = 0 ↔ OkL V R l)) : ∀ (ls : List (List UInt8)) (out : List St), OkL V R out → out.length ≤ most → (lgo rd chk most ls out.length out).2.2 = 0 →
    OkL V R (lgo rd chk most ls out.length out).1 ∧ (lgo rd chk most ls out.length out).1.length ≤ most ∧ ((lgo rd chk most ls out.length out).1.map text).flatten = (out.map text).flatten ++ ls.flatten := by
  intro ls
  induction ls with
  | nil => intro out h hm _; exact ⟨h, hm, by simp [lgo]⟩
  | cons s ls ih =>
    intro out h hm h0
    by_cases g1 : most < out.length + 1
    · rw [lgo, if_pos g1] at h0; cases h0
    · by_cases g2 : (rd s).2 = false ∨ chk ((out ++ [(rd s).1]).drop (out.length - 1)) ≠ 0
      · rw [lgo, if_neg g1, if_pos g2] at h0; cases h0
      · have e : lgo rd chk most (s :: ls) out.length out = lgo rd chk most ls (out ++ [(rd s).1]).length (out ++ [(rd s).1]) := by
          rw [lgo, if_neg g1, if_neg g2, List.length_append, List.length_singleton]
        rw [e] at h0 ⊢
        rw [not_or] at g2
        have g3 : (rd s).2 = true := by simpa using g2.1
        have g4 : chk ((out ++ [(rd s).1]).drop (out.length - 1)) = 0 := by simpa using g2.2
        have hl : OkL V R (out ++ [(rd s).1]) := okL_snoc V R h ((hC _ (by rw [List.length_drop, List.length_append, List.length_singleton]; omega)).1 g4)
        obtain ⟨q1, q2, q3⟩ := ih _ hl (by rw [List.length_append, List.length_singleton]; omega) h0
        refine ⟨q1, q2, ?_⟩
        rw [q3, List.map_append, List.flatten_append, List.map_singleton, hR s g3, List.flatten_cons, List.append_assoc]
        simp
/-- what passes the check is parsed as it was told -/
theorem lgo_told (hT : ∀ x, V x → rd (text x) = (x, true)) (hC : ∀ l, l.length ≤ most → (chk l = 0 ↔ OkL V R l)) (h2 : 2 ≤ most) : ∀ (l out : List St), OkL V R (out ++ l) → (out ++ l).length ≤ most → lgo rd chk most (l.map text) out.length out = (out ++ l, 0, 0) := by
  intro l
  induction l with
  | nil => intro out _ _; simp [lgo]
  | cons x l ih =>
    intro out h hm
    have hx : V x := h.1 x (by simp)
    have e : out ++ x :: l = (out ++ [x]) ++ l := by simp
    rw [e] at h hm ⊢
    have hs : OkL V R (out ++ [x]) := okL_take V R h
    have hc : chk ((out ++ [x]).drop (out.length - 1)) = 0 := (hC _ (by rw [List.length_drop, List.length_append, List.length_singleton]; omega)).2 (okL_last V R hs _)
    have hlen : ¬ most < out.length + 1 := by simp only [List.length_append, List.length_singleton] at hm; omega
    rw [List.map_cons, lgo, if_neg hlen, hT x hx, if_neg (by rw [not_or]; exact ⟨by simp, by rw [hc]; simp⟩)]
    have := ih (out ++ [x]) h hm
    rw [List.length_append, List.length_singleton] at this
    exact this
end
end Go.Proofs.YtlhhcgiifgkngaaDoor
