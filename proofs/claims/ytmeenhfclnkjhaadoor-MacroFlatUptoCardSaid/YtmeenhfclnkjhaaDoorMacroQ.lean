/- A table of macros, plainly; the laws on what is expanded. Conditions: none. -/
import Derived.Test.YtmeenhfclnkjhaaDoorMacroP
namespace Go.Proofs.YtmeenhfclnkjhaaDoor
abbrev Mac := Bs × Bs
section
variable (ok : Bs → Bool)
def tabT (l : List Mac) (n : Bs) : Option (List Tok) := (l.find? fun m => m.1 == n).map fun m => (prs ok m.2).1
def namesM (l : List Mac) : List Bs := l.map (·.1)
def loop1 : List Bs → List Mac → Int
  | _, [] => 0
  | seen, m :: l => if ok m.1 = false ∨ (prs ok m.2).2 = false then 3 else if m.1 ∈ seen then 6 else loop1 (m.1 :: seen) l
def Lacks (l : List Mac) : Prop := ∃ m ∈ l, ∃ u ∈ callsOf (prs ok m.2).1, u ∉ namesM l
def Rings (l : List Mac) : Prop := ∃ m ∈ l, ¬ ∃ a, Flt (tabT ok l) m.1 a
open Classical in
/-- what is wrong with a table -/
noncomputable def tabE (l : List Mac) : Int :=
  if 40 < l.length then 2 else if loop1 ok [] l ≠ 0 then loop1 ok [] l else if Lacks ok l then 5 else if Rings ok l then 8 else 0
structure TabOk (l : List Mac) : Prop where
  few : l.length ≤ 40
  right : ∀ m ∈ l, ok m.1 = true ∧ (prs ok m.2).2 = true
  nodup : (namesM l).Nodup
  there : ∀ m ∈ l, ∀ u ∈ callsOf (prs ok m.2).1, u ∈ namesM l
  flat : ∀ m ∈ l, ∃ a, Flt (tabT ok l) m.1 a
variable {ok}
theorem loop1_zero : ∀ (l : List Mac) (seen : List Bs), loop1 ok seen l = 0 ↔ (∀ m ∈ l, ok m.1 = true ∧ (prs ok m.2).2 = true) ∧ (namesM l).Nodup ∧ ∀ m ∈ l, m.1 ∉ seen := by
  intro l
  induction l with
  | nil => intro seen; simp [loop1, namesM]
  | cons m l ih =>
    intro seen
    rw [loop1]
    by_cases h1 : ok m.1 = false ∨ (prs ok m.2).2 = false
    · rw [if_pos h1]
      constructor
      · intro h; cases h
      · rintro ⟨h, _⟩
        obtain ⟨g1, g2⟩ := h m List.mem_cons_self
        rw [g1, g2] at h1
        simp at h1
    · rw [if_neg h1]
      have h1' : ok m.1 = true ∧ (prs ok m.2).2 = true := by
        simp only [not_or, Bool.not_eq_false] at h1
        exact h1
      by_cases h2 : m.1 ∈ seen
      · rw [if_pos h2]
        constructor
        · intro h; cases h
        · rintro ⟨_, _, h⟩
          exact absurd h2 (h m List.mem_cons_self)
      · rw [if_neg h2, ih]
        simp only [namesM, List.map_cons, List.nodup_cons, List.mem_cons, forall_eq_or_imp, not_or, List.mem_map, not_exists, not_and]
        constructor
        · rintro ⟨a, b, c⟩
          exact ⟨⟨h1', a⟩, ⟨fun x hx e => (c x hx).1 e, b⟩, h2, fun x hx => (c x hx).2⟩
        · rintro ⟨⟨_, a⟩, ⟨b, c⟩, _, d⟩
          exact ⟨a, c, fun x hx => ⟨fun e => b x hx e, d x hx⟩⟩
theorem loop1_codes : ∀ (l : List Mac) (seen : List Bs), loop1 ok seen l = 0 ∨ loop1 ok seen l = 3 ∨ loop1 ok seen l = 6 := by
  intro l
  induction l with
  | nil => intro seen; exact .inl rfl
  | cons m l ih =>
    intro seen
    rw [loop1]
    split
    · exact .inr (.inl rfl)
    · split
      · exact .inr (.inr rfl)
      · exact ih _
theorem tabE_zero {l : List Mac} : tabE ok l = 0 ↔ TabOk ok l := by
  unfold tabE
  by_cases h1 : 40 < l.length
  · rw [if_pos h1]
    exact ⟨fun h => absurd h (by decide), fun h => absurd h.few (by omega)⟩
  rw [if_neg h1]
  by_cases h2 : loop1 ok [] l ≠ 0
  · rw [if_pos h2]
    exact ⟨fun h => absurd h h2, fun h => (loop1_zero l []).2 ⟨h.right, h.nodup, fun _ _ => by simp⟩⟩
  rw [if_neg h2]
  have h2' : loop1 ok [] l = 0 := by simpa using h2
  obtain ⟨g1, g2, _⟩ := (loop1_zero l []).1 h2'
  by_cases h3 : Lacks ok l
  · rw [if_pos h3]
    refine ⟨fun h => absurd h (by decide), fun h => ?_⟩
    obtain ⟨m, hm, u, hu, hn⟩ := h3
    exact absurd (h.there m hm u hu) hn
  rw [if_neg h3]
  by_cases h4 : Rings ok l
  · rw [if_pos h4]
    refine ⟨fun h => absurd h (by decide), fun h => ?_⟩
    obtain ⟨m, hm, hn⟩ := h4
    exact absurd (h.flat m hm) hn
  rw [if_neg h4]
  refine ⟨fun _ => ⟨by omega, g1, g2, fun m hm u hu => ?_, fun m hm => ?_⟩, fun _ => rfl⟩
  · by_cases h : u ∈ namesM l
    · exact h
    · exact absurd ⟨m, hm, u, hu, h⟩ h3
  · by_cases h : ∃ a, Flt (tabT ok l) m.1 a
    · exact h
    · exact absurd ⟨m, hm, h⟩ h4
theorem tabT_none {l : List Mac} {n : Bs} (h : n ∉ namesM l) : tabT ok l n = none := by
  unfold tabT
  rw [List.find?_eq_none.2, Option.map_none]
  intro m hm e
  exact h (List.mem_map.2 ⟨m, hm, by simpa using e⟩)
theorem tabT_mem {l : List Mac} (hn : (namesM l).Nodup) {m : Mac} (hm : m ∈ l) : tabT ok l m.1 = some (prs ok m.2).1 := by
  induction l with
  | nil => cases hm
  | cons x l ih =>
    unfold tabT
    rw [List.find?_cons]
    unfold namesM at hn
    rw [List.map_cons, List.nodup_cons] at hn
    rcases List.mem_cons.1 hm with rfl | hm
    · simp
    · have hne : x.1 ≠ m.1 := fun e => hn.1 (e ▸ List.mem_map_of_mem hm)
      rw [beq_eq_false_iff_ne.2 hne]
      exact ih hn.2 hm
theorem tabT_some {l : List Mac} {n : Bs} {k : List Tok} (h : tabT ok l n = some k) : ∃ m ∈ l, m.1 = n ∧ k = (prs ok m.2).1 := by
  unfold tabT at h
  rw [Option.map_eq_some_iff] at h
  obtain ⟨m, hm, e⟩ := h
  exact ⟨m, List.mem_of_find?_eq_some hm, by have := List.find?_some hm; simpa using this, e.symm⟩
theorem tabT_sub {l l' : List Mac} (hn : (namesM l').Nodup) (h : ∀ m ∈ l, m ∈ l') (n : Bs) (k : List Tok) (hk : tabT ok l n = some k) : tabT ok l' n = some k := by
  obtain ⟨m, hm, rfl, rfl⟩ := tabT_some hk
  exact tabT_mem hn (h m hm)
variable (ok)
open Classical in
/-- what a name is flat -/
noncomputable def flatF (l : List Mac) (n : Bs) : Option Bs := if h : ∃ a, Flt (tabT ok l) n a then Classical.choose h else none
def Larges (l : List Mac) : Prop := ∃ m ∈ l, flatF ok l m.1 = none
open Classical in
/-- a text expanded: the error, and what it is -/
noncomputable def expandR (names : List Bs) (F : Bs → Option Bs) (s : Bs) : Int × Bs :=
  if (prs ok s).2 = false then (3, []) else if ∃ u ∈ callsOf (prs ok s).1, u ∉ names then (5, []) else if lrg F (prs ok s).1 = true then (2, []) else (0, evalT F (prs ok s).1)
open Classical in
noncomputable def flatsE (l : List Mac) : Int := if tabE ok l ≠ 0 then tabE ok l else if Larges ok l then 2 else 0
open Classical in
noncomputable def expandE (l : List Mac) (s : Bs) : Int × Bs := if flatsE ok l ≠ 0 then (flatsE ok l, []) else expandR ok (namesM l) (flatF ok l) s
variable {ok}
theorem flatF_is {l : List Mac} {n : Bs} {a : Option Bs} (h : Flt (tabT ok l) n a) : flatF ok l n = a := by
  have hex : ∃ a, Flt (tabT ok l) n a := ⟨a, h⟩
  unfold flatF
  rw [dif_pos hex]
  exact (Classical.choose_spec hex).uniq h
theorem TabOk.name {l : List Mac} (h : TabOk ok l) {n : Bs} (hn : n ∈ namesM l) : Flt (tabT ok l) n (flatF ok l n) := by
  obtain ⟨m, hm, rfl⟩ := List.mem_map.1 hn
  obtain ⟨a, ha⟩ := h.flat m hm
  rw [flatF_is ha]
  exact ha
theorem flatsE_zero {l : List Mac} : flatsE ok l = 0 ↔ TabOk ok l ∧ ¬ Larges ok l := by
  unfold flatsE
  by_cases h : tabE ok l ≠ 0
  · rw [if_pos h]
    exact ⟨fun e => absurd e h, fun g => tabE_zero.2 g.1⟩
  · rw [if_neg h]
    have h' : TabOk ok l := tabE_zero.1 (by simpa using h)
    by_cases h2 : Larges ok l
    · rw [if_pos h2]
      exact ⟨fun e => absurd e (by decide), fun g => absurd h2 g.2⟩
    · rw [if_neg h2]
      exact ⟨fun _ => ⟨h', h2⟩, fun _ => rfl⟩
theorem expandR_zero {names : List Bs} {F : Bs → Option Bs} {s : Bs} : (expandR ok names F s).1 = 0 ↔ (prs ok s).2 = true ∧ (∀ u ∈ callsOf (prs ok s).1, u ∈ names) ∧ lrg F (prs ok s).1 = false := by
  unfold expandR
  by_cases h1 : (prs ok s).2 = false
  · rw [if_pos h1]
    exact ⟨fun e => absurd e (by decide), fun g => by rw [h1] at g; exact absurd g.1 (by decide)⟩
  rw [if_neg h1]
  by_cases h2 : ∃ u ∈ callsOf (prs ok s).1, u ∉ names
  · rw [if_pos h2]
    refine ⟨fun e => absurd e (by decide), fun g => ?_⟩
    obtain ⟨u, hu, hn⟩ := h2
    exact absurd (g.2.1 u hu) hn
  rw [if_neg h2]
  have h2' : ∀ u ∈ callsOf (prs ok s).1, u ∈ names := fun u hu => Classical.byContradiction fun hn => h2 ⟨u, hu, hn⟩
  by_cases h3 : lrg F (prs ok s).1 = true
  · rw [if_pos h3]
    exact ⟨fun e => absurd e (by decide), fun g => by rw [h3] at g; exact absurd g.2.2 (by decide)⟩
  · rw [if_neg h3]
    exact ⟨fun _ => ⟨by simpa using h1, h2', by simpa using h3⟩, fun _ => rfl⟩
theorem expandR_text {names : List Bs} {F : Bs → Option Bs} {s : Bs} : (expandR ok names F s).2 = if (expandR ok names F s).1 = 0 then evalT F (prs ok s).1 else [] := by
  unfold expandR
  split
  · rfl
  · split
    · rfl
    · split
      · rfl
      · rfl
theorem expandR_congr {names names' : List Bs} {F F' : Bs → Option Bs} (h : ∀ n, n ∈ names ↔ n ∈ names') (hF : ∀ n ∈ names, F n = F' n) (s : Bs) : expandR ok names F s = expandR ok names' F' s := by
  unfold expandR
  by_cases h1 : (prs ok s).2 = false
  · rw [if_pos h1, if_pos h1]
  rw [if_neg h1, if_neg h1]
  by_cases h2 : ∃ u ∈ callsOf (prs ok s).1, u ∉ names
  · rw [if_pos h2, if_pos (by obtain ⟨u, hu, hn⟩ := h2; exact ⟨u, hu, fun g => hn ((h u).2 g)⟩)]
  · have h2' : ∀ u ∈ callsOf (prs ok s).1, u ∈ names := fun u hu => Classical.byContradiction fun hn => h2 ⟨u, hu, hn⟩
    have h3 : ¬ ∃ u ∈ callsOf (prs ok s).1, u ∉ names' := by
      rintro ⟨u, hu, hn⟩
      exact hn ((h u).1 (h2' u hu))
    rw [if_neg h2, if_neg h3]
    have e1 : lrg F (prs ok s).1 = lrg F' (prs ok s).1 := by
      unfold lrg
      rw [evalT_congr (G := F') fun n hn => hF n (h2' n hn), noneT_congr (G := F') fun n hn => hF n (h2' n hn)]
    rw [e1, evalT_congr (G := F') fun n hn => hF n (h2' n hn)]
theorem expandE_text {l : List Mac} {s : Bs} (h : (expandE ok l s).1 ≠ 0) : (expandE ok l s).2 = [] := by
  unfold expandE at h ⊢
  by_cases h1 : flatsE ok l ≠ 0
  · rw [if_pos h1]
  · rw [if_neg h1] at h ⊢
    rw [expandR_text, if_neg h]
theorem expandE_zero {l : List Mac} {s : Bs} : (expandE ok l s).1 = 0 ↔ (TabOk ok l ∧ ¬ Larges ok l) ∧ (expandR ok (namesM l) (flatF ok l) s).1 = 0 := by
  unfold expandE
  by_cases h1 : flatsE ok l ≠ 0
  · rw [if_pos h1]
    exact ⟨fun e => absurd e h1, fun g => flatsE_zero.2 g.1⟩
  · rw [if_neg h1]
    exact ⟨fun e => ⟨flatsE_zero.1 (by simpa using h1), e⟩, fun g => g.2⟩
theorem expandE_at {l : List Mac} (h : TabOk ok l ∧ ¬ Larges ok l) (s : Bs) : expandE ok l s = expandR ok (namesM l) (flatF ok l) s := by
  unfold expandE
  rw [if_neg (by simpa using flatsE_zero.2 h)]
/-- the same macros in whatever order -/
theorem TabOk.perm {l l' : List Mac} (h : TabOk ok l) (hp : l.Perm l') : TabOk ok l' ∧ ∀ n ∈ namesM l, flatF ok l n = flatF ok l' n := by
  have hnp : (namesM l).Perm (namesM l') := hp.map _
  have hn' := hnp.nodup_iff.1 h.nodup
  have hfl : ∀ n a, Flt (tabT ok l) n a → Flt (tabT ok l') n a := fun n a ha => ha.more fun m k hk => tabT_sub hn' (fun x hx => hp.mem_iff.1 hx) m k hk
  refine ⟨⟨by rw [← hp.length_eq]; exact h.few, fun m hm => h.right m (hp.mem_iff.2 hm), hn', fun m hm u hu => hnp.mem_iff.1 (h.there m (hp.mem_iff.2 hm) u hu), fun m hm => ?_⟩, fun n hn => ?_⟩
  · obtain ⟨a, ha⟩ := h.flat m (hp.mem_iff.2 hm)
    exact ⟨a, hfl _ _ ha⟩
  · exact (flatF_is (hfl _ _ (h.name hn))).symm
theorem expand_perm {l l' : List Mac} (hp : l.Perm l') (s : Bs) : (expandE ok l s).2 = (expandE ok l' s).2 ∧ ((expandE ok l s).1 = 0 ↔ (expandE ok l' s).1 = 0) := by
  have key : ∀ {l l' : List Mac}, l.Perm l' → (TabOk ok l ∧ ¬ Larges ok l) → (TabOk ok l' ∧ ¬ Larges ok l') ∧ expandE ok l s = expandE ok l' s := by
    intro l l' hp h
    obtain ⟨h1, h2⟩ := h.1.perm hp
    have hl : ¬ Larges ok l' := by
      rintro ⟨m, hm, e⟩
      have hm' := hp.mem_iff.2 hm
      exact h.2 ⟨m, hm', by rw [h2 m.1 (List.mem_map_of_mem hm'), e]⟩
    refine ⟨⟨h1, hl⟩, ?_⟩
    rw [expandE_at h, expandE_at ⟨h1, hl⟩]
    exact expandR_congr (fun n => (hp.map (·.1)).mem_iff) h2 s
  by_cases h : TabOk ok l ∧ ¬ Larges ok l
  · obtain ⟨_, e⟩ := key hp h
    rw [e]
    exact ⟨rfl, Iff.rfl⟩
  · have h' : ¬ (TabOk ok l' ∧ ¬ Larges ok l') := fun g => h (key hp.symm g).1
    have e1 : (expandE ok l s).1 ≠ 0 := fun e => h (expandE_zero.1 e).1
    have e2 : (expandE ok l' s).1 ≠ 0 := fun e => h' (expandE_zero.1 e).1
    rw [expandE_text e1, expandE_text e2]
    exact ⟨rfl, fun e => absurd e e1, fun e => absurd e e2⟩
theorem expand_join {l : List Mac} {s t : Bs} (hs : (expandE ok l s).1 = 0) (ht : (expandE ok l t).1 = 0) (hlen : (expandE ok l s).2.length + (expandE ok l t).2.length ≤ 2000) :
    expandE ok l (s ++ t) = (0, (expandE ok l s).2 ++ (expandE ok l t).2) := by
  obtain ⟨h0, h1⟩ := expandE_zero.1 hs
  obtain ⟨_, h2⟩ := expandE_zero.1 ht
  rw [expandE_at h0, expandE_at h0] at hlen
  rw [expandE_at h0, expandE_at h0, expandE_at h0]
  have e1 := h1
  have e2 := h2
  rw [expandR_zero] at h1 h2
  rw [expandR_text (s := s), if_pos e1, expandR_text (s := t), if_pos e2] at hlen ⊢
  obtain ⟨j1, j2, j3⟩ := prs_join (ok := ok) (flatF ok l) s.length s t (Nat.le_refl _) h1.1
  have hz : (expandR ok (namesM l) (flatF ok l) (s ++ t)).1 = 0 := by
    rw [expandR_zero, j2, j3]
    refine ⟨h2.1, fun u hu => ?_, ?_⟩
    · rcases List.mem_append.1 hu with hu | hu
      · exact h1.2.1 u hu
      · exact h2.2.1 u hu
    · have a1 := h1.2.2
      have a2 := h2.2.2
      unfold lrg at a1 a2 ⊢
      rw [Bool.or_eq_false_iff] at a1 a2 ⊢
      refine ⟨?_, ?_⟩
      · rw [← Bool.not_eq_true, noneT_iff, j2]
        rintro ⟨n, hn, e⟩
        rcases List.mem_append.1 hn with hn | hn
        · exact absurd (noneT_iff.2 ⟨n, hn, e⟩) (by rw [a1.1]; decide)
        · exact absurd (noneT_iff.2 ⟨n, hn, e⟩) (by rw [a2.1]; decide)
      · rw [j1, List.length_append]
        exact decide_eq_false (by omega)
  refine Prod.ext hz ?_
  rw [expandR_text, if_pos hz, j1]
theorem expand_more {l : List Mac} {x : Mac} {s : Bs} (h1 : (expandE ok l s).1 = 0) (h2 : (expandE ok (l ++ [x]) s).1 = 0) : (expandE ok l s).2 = (expandE ok (l ++ [x]) s).2 := by
  obtain ⟨g1, e1⟩ := expandE_zero.1 h1
  obtain ⟨g2, e2⟩ := expandE_zero.1 h2
  rw [expandE_at g1, expandE_at g2, expandR_text, if_pos e1, expandR_text, if_pos e2]
  refine evalT_congr fun n hn => ?_
  have hn1 := (expandR_zero.1 e1).2.1 n hn
  exact (flatF_is ((g1.1.name hn1).more fun m k hk => tabT_sub g2.1.nodup (fun y hy => List.mem_append_left _ hy) m k hk)).symm
/-- what is flat, quoted -/
noncomputable def flatL (ok : Bs → Bool) (l : List Mac) : List Mac := l.map fun m => (m.1, (flatF ok l m.1).getD [])
def quoteL (l : List Mac) : List Mac := l.map fun m => (m.1, dbl m.2)
theorem quote_names (l : List Mac) : namesM (quoteL (flatL ok l)) = namesM l := by
  unfold namesM quoteL flatL
  rw [List.map_map, List.map_map]
  rfl
theorem quote_ok {l : List Mac} (h : TabOk ok l) (hL : ¬ Larges ok l) : (TabOk ok (quoteL (flatL ok l)) ∧ ¬ Larges ok (quoteL (flatL ok l))) ∧ ∀ n ∈ namesM l, flatF ok (quoteL (flatL ok l)) n = flatF ok l n := by
  have hsome : ∀ n ∈ namesM l, ∃ v, flatF ok l n = some v := fun n hn => by
    obtain ⟨m, hm, rfl⟩ := List.mem_map.1 hn
    cases e : flatF ok l m.1 with
    | none => exact absurd ⟨m, hm, e⟩ hL
    | some v => exact ⟨v, rfl⟩
  have hmem : ∀ x ∈ quoteL (flatL ok l), ∃ m ∈ l, ∃ v, flatF ok l m.1 = some v ∧ x = (m.1, dbl v) := by
    intro x hx
    obtain ⟨y, hy, rfl⟩ := List.mem_map.1 hx
    obtain ⟨m, hm, rfl⟩ := List.mem_map.1 hy
    obtain ⟨v, hv⟩ := hsome m.1 (List.mem_map_of_mem hm)
    exact ⟨m, hm, v, hv, by rw [hv]; rfl⟩
  have hnd : (namesM (quoteL (flatL ok l))).Nodup := by rw [quote_names]; exact h.nodup
  have hfl : ∀ n ∈ namesM l, Flt (tabT ok (quoteL (flatL ok l))) n (flatF ok l n) := by
    intro n hn
    rw [← quote_names (ok := ok)] at hn
    obtain ⟨x, hx, rfl⟩ := List.mem_map.1 hn
    obtain ⟨m, hm, v, hv, rfl⟩ := hmem x hx
    have ht := tabT_mem (ok := ok) hnd hx
    obtain ⟨p1, p2, p3⟩ := prs_dbl (ok := ok) (fun _ => none) v.length v (Nat.le_refl _)
    have hs := (h.name (List.mem_map_of_mem hm))
    rw [hv] at hs
    have hvl := hs.short
    have hc : cmb (fun _ => none) (prs ok (dbl v)).1 = some v := by
      unfold cmb lrg
      rw [if_neg, p1]
      rw [p1, Bool.or_eq_true, not_or]
      refine ⟨fun g => ?_, by rw [decide_eq_true_eq]; omega⟩
      obtain ⟨n, hn, _⟩ := noneT_iff.1 g
      rw [p2] at hn
      cases hn
    simp only
    rw [hv, ← hc]
    exact .mk ht _ fun m hm => by rw [p2] at hm; cases hm
  have hF : ∀ n ∈ namesM l, flatF ok (quoteL (flatL ok l)) n = flatF ok l n := fun n hn => flatF_is (hfl n hn)
  refine ⟨⟨⟨by unfold quoteL flatL; rw [List.length_map, List.length_map]; exact h.few, fun x hx => ?_, hnd, fun x hx u hu => ?_, fun x hx => ?_⟩, ?_⟩, hF⟩
  · obtain ⟨m, hm, v, hv, rfl⟩ := hmem x hx
    exact ⟨(h.right m hm).1, (prs_dbl (ok := ok) (fun _ => none) v.length v (Nat.le_refl _)).2.2⟩
  · obtain ⟨m, hm, v, hv, rfl⟩ := hmem x hx
    have hu' : u ∈ callsOf (prs ok (dbl v)).1 := hu
    rw [(prs_dbl (ok := ok) (fun _ => none) v.length v (Nat.le_refl _)).2.1] at hu'
    cases hu'
  · obtain ⟨m, hm, v, hv, rfl⟩ := hmem x hx
    exact ⟨_, hfl m.1 (List.mem_map_of_mem hm)⟩
  · rintro ⟨x, hx, e⟩
    obtain ⟨m, hm, v, hv, rfl⟩ := hmem x hx
    have := hF m.1 (List.mem_map_of_mem hm)
    rw [hv] at this
    have e' : flatF ok (quoteL (flatL ok l)) m.1 = none := e
    rw [this] at e'
    cases e'
theorem expand_quote {l : List Mac} (h : TabOk ok l) (hL : ¬ Larges ok l) (s : Bs) : expandE ok (quoteL (flatL ok l)) s = expandE ok l s := by
  obtain ⟨h1, h2⟩ := quote_ok h hL
  rw [expandE_at h1, expandE_at ⟨h, hL⟩]
  refine expandR_congr (fun n => by rw [quote_names]) (fun n hn => h2 n (by rwa [quote_names] at hn)) s
theorem flat_quote {l : List Mac} (h : TabOk ok l) (hL : ¬ Larges ok l) : flatL ok (quoteL (flatL ok l)) = flatL ok l := by
  obtain ⟨_, h2⟩ := quote_ok h hL
  unfold flatL at h2 ⊢
  unfold quoteL at h2 ⊢
  rw [List.map_map, List.map_map]
  refine List.map_congr_left fun m hm => ?_
  simp only [Function.comp]
  have := h2 m.1 (List.mem_map_of_mem hm)
  rw [List.map_map] at this
  simp only [List.map_map] at this ⊢
  exact Prod.ext rfl (congrArg (·.getD []) this)
end
end Go.Proofs.YtmeenhfclnkjhaaDoor
