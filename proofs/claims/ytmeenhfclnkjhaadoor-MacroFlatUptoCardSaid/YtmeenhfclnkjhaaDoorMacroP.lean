/- Macros, plainly: the pieces of a text, the table, what is flat. Conditions: none. -/
import Derived.Test.YtmeenhfclnkjhaaDoorRuleP
namespace Go.Proofs.YtmeenhfclnkjhaaDoor
/-- a pieceM of a text: as it stands, or a call -/
inductive Tok where
  | t (s : Bs)
  | c (n : Bs)
def cut1 (b : UInt8) : Bs → Option (Bs × Bs)
  | [] => none
  | x :: l => if x = b then some ([], l) else (cut1 b l).map fun p => (x :: p.1, p.2)
theorem cut1_hit {b : UInt8} {a : Bs} (h : b ∉ a) (r : Bs) : cut1 b (a ++ b :: r) = some (a, r) := by
  induction a with
  | nil => simp [cut1]
  | cons x a ih =>
    have hx : x ≠ b := fun e => h (e ▸ List.mem_cons_self)
    rw [List.cons_append, cut1, if_neg hx, ih (fun g => h (List.mem_cons_of_mem _ g))]
    rfl
theorem cut1_miss {b : UInt8} {a : Bs} (h : b ∉ a) : cut1 b a = none := by
  induction a with
  | nil => rfl
  | cons x a ih =>
    have hx : x ≠ b := fun e => h (e ▸ List.mem_cons_self)
    rw [cut1, if_neg hx, ih (fun g => h (List.mem_cons_of_mem _ g))]
    rfl
theorem cut1_cases (b : UInt8) (s : Bs) : (b ∉ s ∧ cut1 b s = none) ∨ ∃ a r, s = a ++ b :: r ∧ b ∉ a ∧ cut1 b s = some (a, r) := by
  induction s with
  | nil => exact .inl ⟨by simp, rfl⟩
  | cons x s ih =>
    by_cases h : x = b
    · subst h
      exact .inr ⟨[], s, rfl, by simp, by simp [cut1]⟩
    · rcases ih with ⟨h1, h2⟩ | ⟨a, r, h1, h2, h3⟩
      · refine .inl ⟨fun g => ?_, by rw [cut1, if_neg h, h2]; rfl⟩
        rcases List.mem_cons.1 g with g | g
        · exact h g.symm
        · exact h1 g
      · refine .inr ⟨x :: a, r, by rw [h1]; rfl, fun g => ?_, by rw [cut1, if_neg h, h3]; rfl⟩
        rcases List.mem_cons.1 g with g | g
        · exact h g.symm
        · exact h2 g
section
variable (ok : Bs → Bool)
def prsF : Nat → Bs → List Tok × Bool
  | 0, _ => ([], false)
  | f + 1, s =>
    match cut1 36 s with
    | none => ([.t s], true)
    | some (a, []) => ([.t a], false)
    | some (a, x :: r) =>
      if x = 36 then (.t a :: .t [36] :: (prsF f r).1, (prsF f r).2)
      else if x = 40 then
        match cut1 41 r with
        | none => ([.t a], false)
        | some (n, r') => if ok n = true then (.t a :: .c n :: (prsF f r').1, (prsF f r').2) else ([.t a], false)
      else ([.t a], false)
/-- the pieces of a text, and whether it is well formed -/
def prs (s : Bs) : List Tok × Bool := prsF ok (s.length + 1) s
variable {ok}
theorem prsF_enough : ∀ (f g : Nat) (s : Bs), s.length < f → s.length < g → prsF ok f s = prsF ok g s := by
  intro f
  induction f with
  | zero => intro g s h; omega
  | succ f ih =>
    intro g s hf hg
    cases g with
    | zero => omega
    | succ g =>
      rw [prsF, prsF]
      rcases cut1_cases 36 s with ⟨_, h⟩ | ⟨a, r, e, _, h⟩
      · rw [h]
      · rw [h]
        have hl := congrArg List.length e
        simp only [List.length_append, List.length_cons] at hl
        match r, hl with
        | [], _ => rfl
        | x :: r, hl =>
          simp only [List.length_cons] at hl
          simp only
          rw [ih g r (by omega) (by omega)]
          rcases cut1_cases 41 r with ⟨_, h2⟩ | ⟨n, r', e2, _, h2⟩
          · rw [h2]
          · rw [h2]
            have hl2 := congrArg List.length e2
            simp only [List.length_append, List.length_cons] at hl2
            simp only
            rw [ih g r' (by omega) (by omega)]
theorem prs_last {s : Bs} (h : 36 ∉ s) : prs ok s = ([.t s], true) := by
  unfold prs
  rw [prsF, cut1_miss h]
theorem prs_esc {a : Bs} (h : 36 ∉ a) (r : Bs) : prs ok (a ++ 36 :: 36 :: r) = (.t a :: .t [36] :: (prs ok r).1, (prs ok r).2) := by
  unfold prs
  rw [prsF, cut1_hit h]
  simp only
  rw [if_pos trivial, prsF_enough _ (r.length + 1) r (by simp; omega) (by omega)]
theorem prs_call {a n : Bs} (h : 36 ∉ a) (hn : 41 ∉ n) (r : Bs) : prs ok (a ++ 36 :: 40 :: (n ++ 41 :: r)) = if ok n = true then (.t a :: .c n :: (prs ok r).1, (prs ok r).2) else ([.t a], false) := by
  unfold prs
  rw [prsF, cut1_hit h]
  simp only
  rw [if_neg (by decide), if_pos trivial, cut1_hit hn]
  simp only
  rw [prsF_enough _ (r.length + 1) r (by simp; omega) (by omega)]
theorem prs_open {a r : Bs} (h : 36 ∉ a) (hr : 41 ∉ r) : prs ok (a ++ 36 :: 40 :: r) = ([.t a], false) := by
  unfold prs
  rw [prsF, cut1_hit h]
  simp only
  rw [if_neg (by decide), if_pos trivial, cut1_miss hr]
theorem prs_bad {a r : Bs} (h : 36 ∉ a) (h1 : r.head? ≠ some 36) (h2 : r.head? ≠ some 40) : prs ok (a ++ 36 :: r) = ([.t a], false) := by
  unfold prs
  rw [prsF, cut1_hit h]
  match r, h1, h2 with
  | [], _, _ => rfl
  | x :: r, h1, h2 =>
    have g1 : x ≠ 36 := fun e => h1 (by rw [e]; rfl)
    have g2 : x ≠ 40 := fun e => h2 (by rw [e]; rfl)
    simp only
    rw [if_neg g1, if_neg g2]
/-- the ways in which a text begins -/
theorem txt_cases (s : Bs) : 36 ∉ s ∨ (∃ a r, 36 ∉ a ∧ s = a ++ 36 :: 36 :: r) ∨ (∃ a n r, 36 ∉ a ∧ 41 ∉ n ∧ s = a ++ 36 :: 40 :: (n ++ 41 :: r)) ∨ (∃ a r, 36 ∉ a ∧ 41 ∉ r ∧ s = a ++ 36 :: 40 :: r) ∨ ∃ a r, 36 ∉ a ∧ r.head? ≠ some 36 ∧ r.head? ≠ some 40 ∧ s = a ++ 36 :: r := by
  rcases cut1_cases 36 s with ⟨h, _⟩ | ⟨a, r, e, h, _⟩
  · exact .inl h
  · right
    by_cases h1 : r.head? = some 36
    · match r, h1 with
      | x :: r, h1 =>
        simp at h1
        subst h1
        exact .inl ⟨a, r, h, e⟩
    · by_cases h2 : r.head? = some 40
      · match r, h2 with
        | x :: r, h2 =>
          simp at h2
          subst h2
          rcases cut1_cases 41 r with ⟨g, _⟩ | ⟨n, r', e2, g, _⟩
          · exact .inr (.inr (.inl ⟨a, r, h, g, e⟩))
          · exact .inr (.inl ⟨a, n, r', h, g, by rw [e, e2]⟩)
      · exact .inr (.inr (.inr ⟨a, r, h, h1, h2, e⟩))
/-- what a text calls for -/
def callsOf (l : List Tok) : List Bs := l.filterMap fun | .c n => some n | .t _ => none
theorem callsOf_mem {l : List Tok} {n : Bs} : n ∈ callsOf l ↔ Tok.c n ∈ l := by
  unfold callsOf
  rw [List.mem_filterMap]
  constructor
  · rintro ⟨x, hx, e⟩
    cases x with
    | t s => simp at e
    | c m => simp at e; rw [← e]; exact hx
  · intro h
    exact ⟨_, h, rfl⟩
def pieceM (F : Bs → Option Bs) : Tok → Bs
  | .t s => s
  | .c n => (F n).getD []
def evalT (F : Bs → Option Bs) (l : List Tok) : Bs := l.flatMap (pieceM F)
def noneT (F : Bs → Option Bs) (l : List Tok) : Bool := l.any fun | .c n => (F n).isNone | .t _ => false
def lrg (F : Bs → Option Bs) (l : List Tok) : Bool := noneT F l || decide (2000 < (evalT F l).length)
def cmb (F : Bs → Option Bs) (l : List Tok) : Option Bs := if lrg F l = true then none else some (evalT F l)
theorem evalT_app (F : Bs → Option Bs) (l m : List Tok) : evalT F (l ++ m) = evalT F l ++ evalT F m := by unfold evalT; rw [List.flatMap_append]
theorem noneT_app (F : Bs → Option Bs) (l m : List Tok) : noneT F (l ++ m) = (noneT F l || noneT F m) := by unfold noneT; rw [List.any_append]
theorem noneT_iff {F : Bs → Option Bs} {l : List Tok} : noneT F l = true ↔ ∃ n ∈ callsOf l, F n = none := by
  unfold noneT
  rw [List.any_eq_true]
  constructor
  · rintro ⟨x, hx, e⟩
    cases x with
    | t s => simp at e
    | c n => exact ⟨n, callsOf_mem.2 hx, by simpa using e⟩
  · rintro ⟨n, hn, e⟩
    exact ⟨_, callsOf_mem.1 hn, by simp [e]⟩
theorem evalT_congr {F G : Bs → Option Bs} {l : List Tok} (h : ∀ n ∈ callsOf l, F n = G n) : evalT F l = evalT G l := by
  unfold evalT
  rw [List.flatMap_def, List.flatMap_def]
  refine congrArg List.flatten (List.map_congr_left fun x hx => ?_)
  cases x with
  | t s => rfl
  | c n => exact congrArg (fun z : Option Bs => z.getD []) (h n (callsOf_mem.2 hx))
theorem noneT_congr {F G : Bs → Option Bs} {l : List Tok} (h : ∀ n ∈ callsOf l, F n = G n) : noneT F l = noneT G l := by
  rw [Bool.eq_iff_iff, noneT_iff, noneT_iff]
  constructor
  · rintro ⟨n, hn, e⟩; exact ⟨n, hn, by rw [← h n hn]; exact e⟩
  · rintro ⟨n, hn, e⟩; exact ⟨n, hn, by rw [h n hn]; exact e⟩
theorem cmb_congr {F G : Bs → Option Bs} {l : List Tok} (h : ∀ n ∈ callsOf l, F n = G n) : cmb F l = cmb G l := by
  unfold cmb lrg
  rw [evalT_congr h, noneT_congr h]
/-- two texts, one behind the other -/
theorem prs_pre {s : Bs} (h : 36 ∉ s) (t : Bs) : ∃ a l, (prs ok t).1 = .t a :: l ∧ prs ok (s ++ t) = (.t (s ++ a) :: l, (prs ok t).2) := by
  have app : ∀ {a : Bs}, 36 ∉ a → 36 ∉ s ++ a := fun ha g => by
    rcases List.mem_append.1 g with g | g
    · exact h g
    · exact ha g
  rcases txt_cases t with h1 | ⟨a, r, ha, rfl⟩ | ⟨a, n, r, ha, hn, rfl⟩ | ⟨a, r, ha, hr, rfl⟩ | ⟨a, r, ha, h1, h2, rfl⟩
  · exact ⟨t, [], by rw [prs_last h1], by rw [prs_last h1, prs_last (app h1)]⟩
  · refine ⟨a, .t [36] :: (prs ok r).1, by rw [prs_esc ha], ?_⟩
    rw [← List.append_assoc, prs_esc (app ha), prs_esc ha]
  · by_cases hok : ok n = true
    · refine ⟨a, .c n :: (prs ok r).1, by rw [prs_call ha hn, if_pos hok], ?_⟩
      rw [← List.append_assoc, prs_call (app ha) hn, prs_call ha hn, if_pos hok, if_pos hok]
    · refine ⟨a, [], by rw [prs_call ha hn, if_neg hok], ?_⟩
      rw [← List.append_assoc, prs_call (app ha) hn, prs_call ha hn, if_neg hok, if_neg hok]
  · refine ⟨a, [], by rw [prs_open ha hr], ?_⟩
    rw [← List.append_assoc, prs_open (app ha) hr, prs_open ha hr]
  · refine ⟨a, [], by rw [prs_bad ha h1 h2], ?_⟩
    rw [← List.append_assoc, prs_bad (app ha) h1 h2, prs_bad ha h1 h2]
theorem prs_join (F : Bs → Option Bs) : ∀ (k : Nat) (s t : Bs), s.length ≤ k → (prs ok s).2 = true →
    evalT F (prs ok (s ++ t)).1 = evalT F (prs ok s).1 ++ evalT F (prs ok t).1 ∧ callsOf (prs ok (s ++ t)).1 = callsOf (prs ok s).1 ++ callsOf (prs ok t).1 ∧ (prs ok (s ++ t)).2 = (prs ok t).2 := by
  intro k
  induction k with
  | zero =>
    intro s t hk _
    have : s = [] := List.length_eq_zero_iff.1 (by omega)
    subst this
    rw [List.nil_append, prs_last (s := []) (by simp)]
    simp [evalT, pieceM, callsOf]
  | succ k ih =>
    intro s t hk h
    rcases txt_cases s with h1 | ⟨a, r, ha, rfl⟩ | ⟨a, n, r, ha, hn, rfl⟩ | ⟨a, r, ha, hr, rfl⟩ | ⟨a, r, ha, h1, h2, rfl⟩
    · obtain ⟨a, l, e1, e2⟩ := prs_pre (ok := ok) h1 t
      rw [e2, e1, prs_last h1]
      simp [evalT, pieceM, callsOf]
    · rw [prs_esc ha] at h
      obtain ⟨i1, i2, i3⟩ := ih r t (by simp at hk; omega) h
      have e : a ++ 36 :: 36 :: r ++ t = a ++ 36 :: 36 :: (r ++ t) := by simp
      rw [e, prs_esc ha, prs_esc ha]
      refine ⟨?_, ?_, i3⟩
      · simp only [evalT, List.flatMap_cons, pieceM, List.append_assoc] at i1 ⊢
        rw [i1]
      · simp only [callsOf, List.filterMap_cons] at i2 ⊢
        exact i2
    · rw [prs_call ha hn] at h
      by_cases hok : ok n = true
      · rw [if_pos hok] at h
        obtain ⟨i1, i2, i3⟩ := ih r t (by simp at hk; omega) h
        have e : a ++ 36 :: 40 :: (n ++ 41 :: r) ++ t = a ++ 36 :: 40 :: (n ++ 41 :: (r ++ t)) := by simp
        rw [e, prs_call ha hn, prs_call ha hn, if_pos hok, if_pos hok]
        refine ⟨?_, ?_, i3⟩
        · simp only [evalT, List.flatMap_cons, pieceM, List.append_assoc] at i1 ⊢
          rw [i1]
        · simp only [callsOf, List.filterMap_cons, List.cons_append] at i2 ⊢
          rw [i2]
      · rw [if_neg hok] at h; cases h
    · rw [prs_open ha hr] at h; cases h
    · rw [prs_bad ha h1 h2] at h; cases h
/-- each sign that begins a call, twice -/
def dbl (v : Bs) : Bs := v.flatMap fun c => if c = 36 then [36, 36] else [c]
theorem dbl_none {a : Bs} (h : 36 ∉ a) : dbl a = a := by
  unfold dbl
  induction a with
  | nil => rfl
  | cons x a ih =>
    have hx : x ≠ 36 := fun e => h (by rw [e]; exact List.mem_cons_self)
    rw [List.flatMap_cons, if_neg hx, ih (fun g => h (List.mem_cons_of_mem _ g))]
    rfl
theorem prs_dbl (F : Bs → Option Bs) : ∀ (k : Nat) (v : Bs), v.length ≤ k → evalT F (prs ok (dbl v)).1 = v ∧ callsOf (prs ok (dbl v)).1 = [] ∧ (prs ok (dbl v)).2 = true := by
  intro k
  induction k with
  | zero =>
    intro v hk
    have : v = [] := List.length_eq_zero_iff.1 (by omega)
    subst this
    rw [show dbl [] = [] from rfl, prs_last (s := []) (by simp)]
    simp [evalT, pieceM, callsOf]
  | succ k ih =>
    intro v hk
    rcases cut1_cases 36 v with ⟨h, _⟩ | ⟨a, r, rfl, h, _⟩
    · rw [dbl_none h, prs_last h]
      simp [evalT, pieceM, callsOf]
    · obtain ⟨i1, i2, i3⟩ := ih r (by simp at hk; omega)
      have e : dbl (a ++ 36 :: r) = a ++ 36 :: 36 :: dbl r := by
        have h1 : dbl (a ++ 36 :: r) = dbl a ++ 36 :: 36 :: dbl r := by unfold dbl; rw [List.flatMap_append, List.flatMap_cons, if_pos rfl]; rfl
        rw [h1, dbl_none h]
      rw [e, prs_esc h]
      refine ⟨?_, ?_, i3⟩
      · simp only [evalT, List.flatMap_cons, pieceM] at i1 ⊢
        rw [i1]; rfl
      · simp only [callsOf, List.filterMap_cons] at i2 ⊢
        exact i2
end
/-- what a macro is flat: none, if it is too large -/
inductive Flt (T : Bs → Option (List Tok)) : Bs → Option Bs → Prop where
  | mk {n : Bs} {l : List Tok} (h : T n = some l) (F : Bs → Option Bs) (hF : ∀ m, m ∈ callsOf l → Flt T m (F m)) : Flt T n (cmb F l)
theorem Flt.uniq {T : Bs → Option (List Tok)} {n : Bs} {a b : Option Bs} (h : Flt T n a) (h2 : Flt T n b) : a = b := by
  induction h generalizing b with
  | mk h F hF ih =>
    cases h2 with
    | mk h' F' hF' =>
      rw [h] at h'
      injection h' with h'
      subst h'
      exact cmb_congr fun m hm => ih m hm (hF' m hm)
theorem Flt.more {T T' : Bs → Option (List Tok)} {n : Bs} {a : Option Bs} (h : Flt T n a) (hT : ∀ m l, T m = some l → T' m = some l) : Flt T' n a := by
  induction h with
  | mk h F hF ih => exact .mk (hT _ _ h) F fun m hm => ih m hm
/-- from n by calls to m -/
inductive Lead (T : Bs → Option (List Tok)) : Bs → Bs → Prop where
  | one {n m : Bs} {l : List Tok} (h : T n = some l) (hm : m ∈ callsOf l) : Lead T n m
  | step {n m k : Bs} {l : List Tok} (h : T n = some l) (hm : m ∈ callsOf l) (hk : Lead T m k) : Lead T n k
theorem Lead.trans {T : Bs → Option (List Tok)} {a b c : Bs} (h : Lead T a b) (h2 : Lead T b c) : Lead T a c := by
  induction h with
  | one h hm => exact .step h hm h2
  | step h hm _ ih => exact .step h hm (ih h2)
theorem Flt.no_ring {T : Bs → Option (List Tok)} {n : Bs} {a : Option Bs} (h : Flt T n a) : ¬ Lead T n n := by
  induction h with
  | @mk n l h F hF ih =>
    intro hl
    have key : ∀ m, m ∈ callsOf l → Lead T m n → False := fun m hm hmn => ih m hm (hmn.trans (.one h hm))
    cases hl with
    | one h' hm =>
      rw [h] at h'
      injection h' with h'
      subst h'
      exact ih _ hm (.one h hm)
    | step h' hm hk =>
      rw [h] at h'
      injection h' with h'
      subst h'
      exact key _ hm hk
theorem Flt.lead {T : Bs → Option (List Tok)} {n m : Bs} (h : Lead T n m) : ∀ {a : Option Bs}, Flt T n a → ∃ b, Flt T m b := by
  induction h with
  | one h hm =>
    intro a ha
    cases ha with
    | mk h' F hF =>
      rw [h] at h'
      injection h' with h'
      subst h'
      exact ⟨_, hF _ hm⟩
  | step h hm _ ih =>
    intro a ha
    cases ha with
    | mk h' F hF =>
      rw [h] at h'
      injection h' with h'
      subst h'
      exact ih (hF _ hm)
theorem Flt.short {T : Bs → Option (List Tok)} {n v : Bs} (h : Flt T n (some v)) : v.length ≤ 2000 := by
  generalize ha : some v = a at h
  cases h with
  | mk h F hF =>
    unfold cmb lrg at ha
    split at ha
    · cases ha
    · rename_i h1
      simp only [Bool.or_eq_true, decide_eq_true_eq, not_or] at h1
      injection ha with ha
      rw [ha]
      omega
end Go.Proofs.YtmeenhfclnkjhaaDoor
