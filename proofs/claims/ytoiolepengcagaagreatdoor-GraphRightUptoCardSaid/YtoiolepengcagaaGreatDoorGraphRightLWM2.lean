/- Texts joined: MacroP, MacroQ, MacroW, BoxM, MacroUW, MapP. Conditions: theirs. -/
import Derived.Test.YtoiolepengcagaaGreatDoorRuleP
import Derived.Test.YtoiolepengcagaaGreatDoorStemW
import Derived.WalkKit
import Derived.Lib.Hide
import Derived.Deep.LoopGhost
import Derived.Lib.IndexBytes
import Derived.Maps.OwnSet
import Derived.Maps.AppendAt
import Derived.Maps.RangeWalk
namespace Go.Proofs.YtoiolepengcagaaGreatDoor
/-- a pieceM of a text: as it stands, or a call -/
inductive Tok where
  | t (s : Bs)
  | c (n : Bs)
def cut1 (b : UInt8) : Bs → Option (Bs × Bs)
  | [] => none
  | x :: l => if x = b then some ([], l) else (cut1 b l).map fun p => (x :: p.1, p.2)
theorem cut1_hit {b : UInt8} {a : Bs} (h : b ∉ a) (r : Bs) : cut1 b (a ++ b :: r) = some (a, r) := by
  induction a with
  | nil => simp [cut1]
  | cons x a ih =>
    have hx : x ≠ b := fun e => h (e ▸ List.mem_cons_self)
    rw [List.cons_append, cut1, if_neg hx, ih (fun g => h (List.mem_cons_of_mem _ g))]
    rfl
theorem cut1_miss {b : UInt8} {a : Bs} (h : b ∉ a) : cut1 b a = none := by
  induction a with
  | nil => rfl
  | cons x a ih =>
    have hx : x ≠ b := fun e => h (e ▸ List.mem_cons_self)
    rw [cut1, if_neg hx, ih (fun g => h (List.mem_cons_of_mem _ g))]
    rfl
theorem cut1_cases (b : UInt8) (s : Bs) : (b ∉ s ∧ cut1 b s = none) ∨ ∃ a r, s = a ++ b :: r ∧ b ∉ a ∧ cut1 b s = some (a, r) := by
  induction s with
  | nil => exact .inl ⟨by simp, rfl⟩
  | cons x s ih =>
    by_cases h : x = b
    · subst h
      exact .inr ⟨[], s, rfl, by simp, by simp [cut1]⟩
    · rcases ih with ⟨h1, h2⟩ | ⟨a, r, h1, h2, h3⟩
      · refine .inl ⟨fun g => ?_, by rw [cut1, if_neg h, h2]; rfl⟩
        rcases List.mem_cons.1 g with g | g
        · exact h g.symm
        · exact h1 g
      · refine .inr ⟨x :: a, r, by rw [h1]; rfl, fun g => ?_, by rw [cut1, if_neg h, h3]; rfl⟩
        rcases List.mem_cons.1 g with g | g
        · exact h g.symm
        · exact h2 g
section
variable (ok : Bs → Bool)
def prsF : Nat → Bs → List Tok × Bool
  | 0, _ => ([], false)
  | f + 1, s =>
    match cut1 36 s with
    | none => ([.t s], true)
    | some (a, []) => ([.t a], false)
    | some (a, x :: r) =>
      if x = 36 then (.t a :: .t [36] :: (prsF f r).1, (prsF f r).2)
      else if x = 40 then
        match cut1 41 r with
        | none => ([.t a], false)
        | some (n, r') => if ok n = true then (.t a :: .c n :: (prsF f r').1, (prsF f r').2) else ([.t a], false)
      else ([.t a], false)
/-- the pieces of a text, and whether it is well formed -/
def prs (s : Bs) : List Tok × Bool := prsF ok (s.length + 1) s
variable {ok}
theorem prsF_enough : ∀ (f g : Nat) (s : Bs), s.length < f → s.length < g → prsF ok f s = prsF ok g s := by
  intro f
  induction f with
  | zero => intro g s h; omega
  | succ f ih =>
    intro g s hf hg
    cases g with
    | zero => omega
    | succ g =>
      rw [prsF, prsF]
      rcases cut1_cases 36 s with ⟨_, h⟩ | ⟨a, r, e, _, h⟩
      · rw [h]
      · rw [h]
        have hl := congrArg List.length e
        simp only [List.length_append, List.length_cons] at hl
        match r, hl with
        | [], _ => rfl
        | x :: r, hl =>
          simp only [List.length_cons] at hl
          simp only
          rw [ih g r (by omega) (by omega)]
          rcases cut1_cases 41 r with ⟨_, h2⟩ | ⟨n, r', e2, _, h2⟩
          · rw [h2]
          · rw [h2]
            have hl2 := congrArg List.length e2
            simp only [List.length_append, List.length_cons] at hl2
            simp only
            rw [ih g r' (by omega) (by omega)]
theorem prs_last {s : Bs} (h : 36 ∉ s) : prs ok s = ([.t s], true) := by
  unfold prs
  rw [prsF, cut1_miss h]
theorem prs_esc {a : Bs} (h : 36 ∉ a) (r : Bs) : prs ok (a ++ 36 :: 36 :: r) = (.t a :: .t [36] :: (prs ok r).1, (prs ok r).2) := by
  unfold prs
  rw [prsF, cut1_hit h]
  simp only
  rw [if_pos trivial, prsF_enough _ (r.length + 1) r (by simp; omega) (by omega)]
theorem prs_call {a n : Bs} (h : 36 ∉ a) (hn : 41 ∉ n) (r : Bs) : prs ok (a ++ 36 :: 40 :: (n ++ 41 :: r)) = if ok n = true then (.t a :: .c n :: (prs ok r).1, (prs ok r).2) else ([.t a], false) := by
  unfold prs
  rw [prsF, cut1_hit h]
  simp only
  rw [if_neg (by decide), if_pos trivial, cut1_hit hn]
  simp only
  rw [prsF_enough _ (r.length + 1) r (by simp; omega) (by omega)]
theorem prs_open {a r : Bs} (h : 36 ∉ a) (hr : 41 ∉ r) : prs ok (a ++ 36 :: 40 :: r) = ([.t a], false) := by
  unfold prs
  rw [prsF, cut1_hit h]
  simp only
  rw [if_neg (by decide), if_pos trivial, cut1_miss hr]
theorem prs_bad {a r : Bs} (h : 36 ∉ a) (h1 : r.head? ≠ some 36) (h2 : r.head? ≠ some 40) : prs ok (a ++ 36 :: r) = ([.t a], false) := by
  unfold prs
  rw [prsF, cut1_hit h]
  match r, h1, h2 with
  | [], _, _ => rfl
  | x :: r, h1, h2 =>
    have g1 : x ≠ 36 := fun e => h1 (by rw [e]; rfl)
    have g2 : x ≠ 40 := fun e => h2 (by rw [e]; rfl)
    simp only
    rw [if_neg g1, if_neg g2]
/-- the ways in which a text begins -/
theorem txt_cases (s : Bs) : 36 ∉ s ∨ (∃ a r, 36 ∉ a ∧ s = a ++ 36 :: 36 :: r) ∨ (∃ a n r, 36 ∉ a ∧ 41 ∉ n ∧ s = a ++ 36 :: 40 :: (n ++ 41 :: r)) ∨ (∃ a r, 36 ∉ a ∧ 41 ∉ r ∧ s = a ++ 36 :: 40 :: r) ∨ ∃ a r, 36 ∉ a ∧ r.head? ≠ some 36 ∧ r.head? ≠ some 40 ∧ s = a ++ 36 :: r := by
  rcases cut1_cases 36 s with ⟨h, _⟩ | ⟨a, r, e, h, _⟩
  · exact .inl h
  · right
    by_cases h1 : r.head? = some 36
    · match r, h1 with
      | x :: r, h1 =>
        simp at h1
        subst h1
        exact .inl ⟨a, r, h, e⟩
    · by_cases h2 : r.head? = some 40
      · match r, h2 with
        | x :: r, h2 =>
          simp at h2
          subst h2
          rcases cut1_cases 41 r with ⟨g, _⟩ | ⟨n, r', e2, g, _⟩
          · exact .inr (.inr (.inl ⟨a, r, h, g, e⟩))
          · exact .inr (.inl ⟨a, n, r', h, g, by rw [e, e2]⟩)
      · exact .inr (.inr (.inr ⟨a, r, h, h1, h2, e⟩))
/-- what a text calls for -/
def callsOf (l : List Tok) : List Bs := l.filterMap fun | .c n => some n | .t _ => none
theorem callsOf_mem {l : List Tok} {n : Bs} : n ∈ callsOf l ↔ Tok.c n ∈ l := by
  unfold callsOf
  rw [List.mem_filterMap]
  constructor
  · rintro ⟨x, hx, e⟩
    cases x with
    | t s => simp at e
    | c m => simp at e; rw [← e]; exact hx
  · intro h
    exact ⟨_, h, rfl⟩
def pieceM (F : Bs → Option Bs) : Tok → Bs
  | .t s => s
  | .c n => (F n).getD []
def evalT (F : Bs → Option Bs) (l : List Tok) : Bs := l.flatMap (pieceM F)
def noneT (F : Bs → Option Bs) (l : List Tok) : Bool := l.any fun | .c n => (F n).isNone | .t _ => false
def lrg (F : Bs → Option Bs) (l : List Tok) : Bool := noneT F l || decide (2000 < (evalT F l).length)
def cmb (F : Bs → Option Bs) (l : List Tok) : Option Bs := if lrg F l = true then none else some (evalT F l)
theorem evalT_app (F : Bs → Option Bs) (l m : List Tok) : evalT F (l ++ m) = evalT F l ++ evalT F m := by unfold evalT; rw [List.flatMap_append]
theorem noneT_app (F : Bs → Option Bs) (l m : List Tok) : noneT F (l ++ m) = (noneT F l || noneT F m) := by unfold noneT; rw [List.any_append]
theorem noneT_iff {F : Bs → Option Bs} {l : List Tok} : noneT F l = true ↔ ∃ n ∈ callsOf l, F n = none := by
  unfold noneT
  rw [List.any_eq_true]
  constructor
  · rintro ⟨x, hx, e⟩
    cases x with
    | t s => simp at e
    | c n => exact ⟨n, callsOf_mem.2 hx, by simpa using e⟩
  · rintro ⟨n, hn, e⟩
    exact ⟨_, callsOf_mem.1 hn, by simp [e]⟩
theorem evalT_congr {F G : Bs → Option Bs} {l : List Tok} (h : ∀ n ∈ callsOf l, F n = G n) : evalT F l = evalT G l := by
  unfold evalT
  rw [List.flatMap_def, List.flatMap_def]
  refine congrArg List.flatten (List.map_congr_left fun x hx => ?_)
  cases x with
  | t s => rfl
  | c n => exact congrArg (fun z : Option Bs => z.getD []) (h n (callsOf_mem.2 hx))
theorem noneT_congr {F G : Bs → Option Bs} {l : List Tok} (h : ∀ n ∈ callsOf l, F n = G n) : noneT F l = noneT G l := by
  rw [Bool.eq_iff_iff, noneT_iff, noneT_iff]
  constructor
  · rintro ⟨n, hn, e⟩; exact ⟨n, hn, by rw [← h n hn]; exact e⟩
  · rintro ⟨n, hn, e⟩; exact ⟨n, hn, by rw [h n hn]; exact e⟩
theorem cmb_congr {F G : Bs → Option Bs} {l : List Tok} (h : ∀ n ∈ callsOf l, F n = G n) : cmb F l = cmb G l := by
  unfold cmb lrg
  rw [evalT_congr h, noneT_congr h]
/-- two texts, one behind the other -/
theorem prs_pre {s : Bs} (h : 36 ∉ s) (t : Bs) : ∃ a l, (prs ok t).1 = .t a :: l ∧ prs ok (s ++ t) = (.t (s ++ a) :: l, (prs ok t).2) := by
  have app : ∀ {a : Bs}, 36 ∉ a → 36 ∉ s ++ a := fun ha g => by
    rcases List.mem_append.1 g with g | g
    · exact h g
    · exact ha g
  rcases txt_cases t with h1 | ⟨a, r, ha, rfl⟩ | ⟨a, n, r, ha, hn, rfl⟩ | ⟨a, r, ha, hr, rfl⟩ | ⟨a, r, ha, h1, h2, rfl⟩
  · exact ⟨t, [], by rw [prs_last h1], by rw [prs_last h1, prs_last (app h1)]⟩
  · refine ⟨a, .t [36] :: (prs ok r).1, by rw [prs_esc ha], ?_⟩
    rw [← List.append_assoc, prs_esc (app ha), prs_esc ha]
  · by_cases hok : ok n = true
    · refine ⟨a, .c n :: (prs ok r).1, by rw [prs_call ha hn, if_pos hok], ?_⟩
      rw [← List.append_assoc, prs_call (app ha) hn, prs_call ha hn, if_pos hok, if_pos hok]
    · refine ⟨a, [], by rw [prs_call ha hn, if_neg hok], ?_⟩
      rw [← List.append_assoc, prs_call (app ha) hn, prs_call ha hn, if_neg hok, if_neg hok]
  · refine ⟨a, [], by rw [prs_open ha hr], ?_⟩
    rw [← List.append_assoc, prs_open (app ha) hr, prs_open ha hr]
  · refine ⟨a, [], by rw [prs_bad ha h1 h2], ?_⟩
    rw [← List.append_assoc, prs_bad (app ha) h1 h2, prs_bad ha h1 h2]
theorem prs_join (F : Bs → Option Bs) : ∀ (k : Nat) (s t : Bs), s.length ≤ k → (prs ok s).2 = true →
    evalT F (prs ok (s ++ t)).1 = evalT F (prs ok s).1 ++ evalT F (prs ok t).1 ∧ callsOf (prs ok (s ++ t)).1 = callsOf (prs ok s).1 ++ callsOf (prs ok t).1 ∧ (prs ok (s ++ t)).2 = (prs ok t).2 := by
  intro k
  induction k with
  | zero =>
    intro s t hk _
    have : s = [] := List.length_eq_zero_iff.1 (by omega)
    subst this
    rw [List.nil_append, prs_last (s := []) (by simp)]
    simp [evalT, pieceM, callsOf]
  | succ k ih =>
    intro s t hk h
    rcases txt_cases s with h1 | ⟨a, r, ha, rfl⟩ | ⟨a, n, r, ha, hn, rfl⟩ | ⟨a, r, ha, hr, rfl⟩ | ⟨a, r, ha, h1, h2, rfl⟩
    · obtain ⟨a, l, e1, e2⟩ := prs_pre (ok := ok) h1 t
      rw [e2, e1, prs_last h1]
      simp [evalT, pieceM, callsOf]
    · rw [prs_esc ha] at h
      obtain ⟨i1, i2, i3⟩ := ih r t (by simp at hk; omega) h
      have e : a ++ 36 :: 36 :: r ++ t = a ++ 36 :: 36 :: (r ++ t) := by simp
      rw [e, prs_esc ha, prs_esc ha]
      refine ⟨?_, ?_, i3⟩
      · simp only [evalT, List.flatMap_cons, pieceM, List.append_assoc] at i1 ⊢
        rw [i1]
      · simp only [callsOf, List.filterMap_cons] at i2 ⊢
        exact i2
    · rw [prs_call ha hn] at h
      by_cases hok : ok n = true
      · rw [if_pos hok] at h
        obtain ⟨i1, i2, i3⟩ := ih r t (by simp at hk; omega) h
        have e : a ++ 36 :: 40 :: (n ++ 41 :: r) ++ t = a ++ 36 :: 40 :: (n ++ 41 :: (r ++ t)) := by simp
        rw [e, prs_call ha hn, prs_call ha hn, if_pos hok, if_pos hok]
        refine ⟨?_, ?_, i3⟩
        · simp only [evalT, List.flatMap_cons, pieceM, List.append_assoc] at i1 ⊢
          rw [i1]
        · simp only [callsOf, List.filterMap_cons, List.cons_append] at i2 ⊢
          rw [i2]
      · rw [if_neg hok] at h; cases h
    · rw [prs_open ha hr] at h; cases h
    · rw [prs_bad ha h1 h2] at h; cases h
/-- each sign that begins a call, twice -/
def dbl (v : Bs) : Bs := v.flatMap fun c => if c = 36 then [36, 36] else [c]
theorem dbl_none {a : Bs} (h : 36 ∉ a) : dbl a = a := by
  unfold dbl
  induction a with
  | nil => rfl
  | cons x a ih =>
    have hx : x ≠ 36 := fun e => h (by rw [e]; exact List.mem_cons_self)
    rw [List.flatMap_cons, if_neg hx, ih (fun g => h (List.mem_cons_of_mem _ g))]
    rfl
theorem prs_dbl (F : Bs → Option Bs) : ∀ (k : Nat) (v : Bs), v.length ≤ k → evalT F (prs ok (dbl v)).1 = v ∧ callsOf (prs ok (dbl v)).1 = [] ∧ (prs ok (dbl v)).2 = true := by
  intro k
  induction k with
  | zero =>
    intro v hk
    have : v = [] := List.length_eq_zero_iff.1 (by omega)
    subst this
    rw [show dbl [] = [] from rfl, prs_last (s := []) (by simp)]
    simp [evalT, pieceM, callsOf]
  | succ k ih =>
    intro v hk
    rcases cut1_cases 36 v with ⟨h, _⟩ | ⟨a, r, rfl, h, _⟩
    · rw [dbl_none h, prs_last h]
      simp [evalT, pieceM, callsOf]
    · obtain ⟨i1, i2, i3⟩ := ih r (by simp at hk; omega)
      have e : dbl (a ++ 36 :: r) = a ++ 36 :: 36 :: dbl r := by
        have h1 : dbl (a ++ 36 :: r) = dbl a ++ 36 :: 36 :: dbl r := by unfold dbl; rw [List.flatMap_append, List.flatMap_cons, if_pos rfl]; rfl
        rw [h1, dbl_none h]
      rw [e, prs_esc h]
      refine ⟨?_, ?_, i3⟩
      · simp only [evalT, List.flatMap_cons, pieceM] at i1 ⊢
        rw [i1]; rfl
      · simp only [callsOf, List.filterMap_cons] at i2 ⊢
        exact i2
end
/-- what a macro is flat: none, if it is too large -/
inductive Flt (T : Bs → Option (List Tok)) : Bs → Option Bs → Prop where
  | mk {n : Bs} {l : List Tok} (h : T n = some l) (F : Bs → Option Bs) (hF : ∀ m, m ∈ callsOf l → Flt T m (F m)) : Flt T n (cmb F l)
theorem Flt.uniq {T : Bs → Option (List Tok)} {n : Bs} {a b : Option Bs} (h : Flt T n a) (h2 : Flt T n b) : a = b := by
  induction h generalizing b with
  | mk h F hF ih =>
    cases h2 with
    | mk h' F' hF' =>
      rw [h] at h'
      injection h' with h'
      subst h'
      exact cmb_congr fun m hm => ih m hm (hF' m hm)
theorem Flt.more {T T' : Bs → Option (List Tok)} {n : Bs} {a : Option Bs} (h : Flt T n a) (hT : ∀ m l, T m = some l → T' m = some l) : Flt T' n a := by
  induction h with
  | mk h F hF ih => exact .mk (hT _ _ h) F fun m hm => ih m hm
/-- from n by calls to m -/
inductive Lead (T : Bs → Option (List Tok)) : Bs → Bs → Prop where
  | one {n m : Bs} {l : List Tok} (h : T n = some l) (hm : m ∈ callsOf l) : Lead T n m
  | step {n m k : Bs} {l : List Tok} (h : T n = some l) (hm : m ∈ callsOf l) (hk : Lead T m k) : Lead T n k
theorem Lead.trans {T : Bs → Option (List Tok)} {a b c : Bs} (h : Lead T a b) (h2 : Lead T b c) : Lead T a c := by
  induction h with
  | one h hm => exact .step h hm h2
  | step h hm _ ih => exact .step h hm (ih h2)
theorem Flt.no_ring {T : Bs → Option (List Tok)} {n : Bs} {a : Option Bs} (h : Flt T n a) : ¬ Lead T n n := by
  induction h with
  | @mk n l h F hF ih =>
    intro hl
    have key : ∀ m, m ∈ callsOf l → Lead T m n → False := fun m hm hmn => ih m hm (hmn.trans (.one h hm))
    cases hl with
    | one h' hm =>
      rw [h] at h'
      injection h' with h'
      subst h'
      exact ih _ hm (.one h hm)
    | step h' hm hk =>
      rw [h] at h'
      injection h' with h'
      subst h'
      exact key _ hm hk
theorem Flt.lead {T : Bs → Option (List Tok)} {n m : Bs} (h : Lead T n m) : ∀ {a : Option Bs}, Flt T n a → ∃ b, Flt T m b := by
  induction h with
  | one h hm =>
    intro a ha
    cases ha with
    | mk h' F hF =>
      rw [h] at h'
      injection h' with h'
      subst h'
      exact ⟨_, hF _ hm⟩
  | step h hm _ ih =>
    intro a ha
    cases ha with
    | mk h' F hF =>
      rw [h] at h'
      injection h' with h'
      subst h'
      exact ih (hF _ hm)
theorem Flt.short {T : Bs → Option (List Tok)} {n v : Bs} (h : Flt T n (some v)) : v.length ≤ 2000 := by
  generalize ha : some v = a at h
  cases h with
  | mk h F hF =>
    unfold cmb lrg at ha
    split at ha
    · cases ha
    · rename_i h1
      simp only [Bool.or_eq_true, decide_eq_true_eq, not_or] at h1
      injection ha with ha
      rw [ha]
      omega
end Go.Proofs.YtoiolepengcagaaGreatDoor
namespace Go.Proofs.YtoiolepengcagaaGreatDoor
abbrev Mac := Bs × Bs
section
variable (ok : Bs → Bool)
def tabT (l : List Mac) (n : Bs) : Option (List Tok) := (l.find? fun m => m.1 == n).map fun m => (prs ok m.2).1
def namesM (l : List Mac) : List Bs := l.map (·.1)
def loop1 : List Bs → List Mac → Int
  | _, [] => 0
  | seen, m :: l => if ok m.1 = false ∨ (prs ok m.2).2 = false then 3 else if m.1 ∈ seen then 6 else loop1 (m.1 :: seen) l
def Lacks (l : List Mac) : Prop := ∃ m ∈ l, ∃ u ∈ callsOf (prs ok m.2).1, u ∉ namesM l
def Rings (l : List Mac) : Prop := ∃ m ∈ l, ¬ ∃ a, Flt (tabT ok l) m.1 a
open Classical in
/-- what is wrong with a table -/
noncomputable def tabE (l : List Mac) : Int :=
  if 40 < l.length then 2 else if loop1 ok [] l ≠ 0 then loop1 ok [] l else if Lacks ok l then 5 else if Rings ok l then 8 else 0
structure TabOk (l : List Mac) : Prop where
  few : l.length ≤ 40
  right : ∀ m ∈ l, ok m.1 = true ∧ (prs ok m.2).2 = true
  nodup : (namesM l).Nodup
  there : ∀ m ∈ l, ∀ u ∈ callsOf (prs ok m.2).1, u ∈ namesM l
  flat : ∀ m ∈ l, ∃ a, Flt (tabT ok l) m.1 a
variable {ok}
theorem loop1_zero : ∀ (l : List Mac) (seen : List Bs), loop1 ok seen l = 0 ↔ (∀ m ∈ l, ok m.1 = true ∧ (prs ok m.2).2 = true) ∧ (namesM l).Nodup ∧ ∀ m ∈ l, m.1 ∉ seen := by
  intro l
  induction l with
  | nil => intro seen; simp [loop1, namesM]
  | cons m l ih =>
    intro seen
    rw [loop1]
    by_cases h1 : ok m.1 = false ∨ (prs ok m.2).2 = false
    · rw [if_pos h1]
      constructor
      · intro h; cases h
      · rintro ⟨h, _⟩
        obtain ⟨g1, g2⟩ := h m List.mem_cons_self
        rw [g1, g2] at h1
        simp at h1
    · rw [if_neg h1]
      have h1' : ok m.1 = true ∧ (prs ok m.2).2 = true := by
        simp only [not_or, Bool.not_eq_false] at h1
        exact h1
      by_cases h2 : m.1 ∈ seen
      · rw [if_pos h2]
        constructor
        · intro h; cases h
        · rintro ⟨_, _, h⟩
          exact absurd h2 (h m List.mem_cons_self)
      · rw [if_neg h2, ih]
        simp only [namesM, List.map_cons, List.nodup_cons, List.mem_cons, forall_eq_or_imp, not_or, List.mem_map, not_exists, not_and]
        constructor
        · rintro ⟨a, b, c⟩
          exact ⟨⟨h1', a⟩, ⟨fun x hx e => (c x hx).1 e, b⟩, h2, fun x hx => (c x hx).2⟩
        · rintro ⟨⟨_, a⟩, ⟨b, c⟩, _, d⟩
          exact ⟨a, c, fun x hx => ⟨fun e => b x hx e, d x hx⟩⟩
theorem loop1_codes : ∀ (l : List Mac) (seen : List Bs), loop1 ok seen l = 0 ∨ loop1 ok seen l = 3 ∨ loop1 ok seen l = 6 := by
  intro l
  induction l with
  | nil => intro seen; exact .inl rfl
  | cons m l ih =>
    intro seen
    rw [loop1]
    split
    · exact .inr (.inl rfl)
    · split
      · exact .inr (.inr rfl)
      · exact ih _
theorem tabE_zero {l : List Mac} : tabE ok l = 0 ↔ TabOk ok l := by
  unfold tabE
  by_cases h1 : 40 < l.length
  · rw [if_pos h1]
    exact ⟨fun h => absurd h (by decide), fun h => absurd h.few (by omega)⟩
  rw [if_neg h1]
  by_cases h2 : loop1 ok [] l ≠ 0
  · rw [if_pos h2]
    exact ⟨fun h => absurd h h2, fun h => (loop1_zero l []).2 ⟨h.right, h.nodup, fun _ _ => by simp⟩⟩
  rw [if_neg h2]
  have h2' : loop1 ok [] l = 0 := by simpa using h2
  obtain ⟨g1, g2, _⟩ := (loop1_zero l []).1 h2'
  by_cases h3 : Lacks ok l
  · rw [if_pos h3]
    refine ⟨fun h => absurd h (by decide), fun h => ?_⟩
    obtain ⟨m, hm, u, hu, hn⟩ := h3
    exact absurd (h.there m hm u hu) hn
  rw [if_neg h3]
  by_cases h4 : Rings ok l
  · rw [if_pos h4]
    refine ⟨fun h => absurd h (by decide), fun h => ?_⟩
    obtain ⟨m, hm, hn⟩ := h4
    exact absurd (h.flat m hm) hn
  rw [if_neg h4]
  refine ⟨fun _ => ⟨by omega, g1, g2, fun m hm u hu => ?_, fun m hm => ?_⟩, fun _ => rfl⟩
  · by_cases h : u ∈ namesM l
    · exact h
    · exact absurd ⟨m, hm, u, hu, h⟩ h3
  · by_cases h : ∃ a, Flt (tabT ok l) m.1 a
    · exact h
    · exact absurd ⟨m, hm, h⟩ h4
theorem tabT_none {l : List Mac} {n : Bs} (h : n ∉ namesM l) : tabT ok l n = none := by
  unfold tabT
  rw [List.find?_eq_none.2, Option.map_none]
  intro m hm e
  exact h (List.mem_map.2 ⟨m, hm, by simpa using e⟩)
theorem tabT_mem {l : List Mac} (hn : (namesM l).Nodup) {m : Mac} (hm : m ∈ l) : tabT ok l m.1 = some (prs ok m.2).1 := by
  induction l with
  | nil => cases hm
  | cons x l ih =>
    unfold tabT
    rw [List.find?_cons]
    unfold namesM at hn
    rw [List.map_cons, List.nodup_cons] at hn
    rcases List.mem_cons.1 hm with rfl | hm
    · simp
    · have hne : x.1 ≠ m.1 := fun e => hn.1 (e ▸ List.mem_map_of_mem hm)
      rw [beq_eq_false_iff_ne.2 hne]
      exact ih hn.2 hm
theorem tabT_some {l : List Mac} {n : Bs} {k : List Tok} (h : tabT ok l n = some k) : ∃ m ∈ l, m.1 = n ∧ k = (prs ok m.2).1 := by
  unfold tabT at h
  rw [Option.map_eq_some_iff] at h
  obtain ⟨m, hm, e⟩ := h
  exact ⟨m, List.mem_of_find?_eq_some hm, by have := List.find?_some hm; simpa using this, e.symm⟩
theorem tabT_sub {l l' : List Mac} (hn : (namesM l').Nodup) (h : ∀ m ∈ l, m ∈ l') (n : Bs) (k : List Tok) (hk : tabT ok l n = some k) : tabT ok l' n = some k := by
  obtain ⟨m, hm, rfl, rfl⟩ := tabT_some hk
  exact tabT_mem hn (h m hm)
variable (ok)
open Classical in
/-- what a name is flat -/
noncomputable def flatF (l : List Mac) (n : Bs) : Option Bs := if h : ∃ a, Flt (tabT ok l) n a then Classical.choose h else none
def Larges (l : List Mac) : Prop := ∃ m ∈ l, flatF ok l m.1 = none
open Classical in
/-- a text expanded: the error, and what it is -/
noncomputable def expandR (names : List Bs) (F : Bs → Option Bs) (s : Bs) : Int × Bs :=
  if (prs ok s).2 = false then (3, []) else if ∃ u ∈ callsOf (prs ok s).1, u ∉ names then (5, []) else if lrg F (prs ok s).1 = true then (2, []) else (0, evalT F (prs ok s).1)
open Classical in
noncomputable def flatsE (l : List Mac) : Int := if tabE ok l ≠ 0 then tabE ok l else if Larges ok l then 2 else 0
open Classical in
noncomputable def expandE (l : List Mac) (s : Bs) : Int × Bs := if flatsE ok l ≠ 0 then (flatsE ok l, []) else expandR ok (namesM l) (flatF ok l) s
variable {ok}
theorem flatF_is {l : List Mac} {n : Bs} {a : Option Bs} (h : Flt (tabT ok l) n a) : flatF ok l n = a := by
  have hex : ∃ a, Flt (tabT ok l) n a := ⟨a, h⟩
  unfold flatF
  rw [dif_pos hex]
  exact (Classical.choose_spec hex).uniq h
theorem TabOk.name {l : List Mac} (h : TabOk ok l) {n : Bs} (hn : n ∈ namesM l) : Flt (tabT ok l) n (flatF ok l n) := by
  obtain ⟨m, hm, rfl⟩ := List.mem_map.1 hn
  obtain ⟨a, ha⟩ := h.flat m hm
  rw [flatF_is ha]
  exact ha
theorem flatsE_zero {l : List Mac} : flatsE ok l = 0 ↔ TabOk ok l ∧ ¬ Larges ok l := by
  unfold flatsE
  by_cases h : tabE ok l ≠ 0
  · rw [if_pos h]
    exact ⟨fun e => absurd e h, fun g => tabE_zero.2 g.1⟩
  · rw [if_neg h]
    have h' : TabOk ok l := tabE_zero.1 (by simpa using h)
    by_cases h2 : Larges ok l
    · rw [if_pos h2]
      exact ⟨fun e => absurd e (by decide), fun g => absurd h2 g.2⟩
    · rw [if_neg h2]
      exact ⟨fun _ => ⟨h', h2⟩, fun _ => rfl⟩
theorem expandR_zero {names : List Bs} {F : Bs → Option Bs} {s : Bs} : (expandR ok names F s).1 = 0 ↔ (prs ok s).2 = true ∧ (∀ u ∈ callsOf (prs ok s).1, u ∈ names) ∧ lrg F (prs ok s).1 = false := by
  unfold expandR
  by_cases h1 : (prs ok s).2 = false
  · rw [if_pos h1]
    exact ⟨fun e => absurd e (by decide), fun g => by rw [h1] at g; exact absurd g.1 (by decide)⟩
  rw [if_neg h1]
  by_cases h2 : ∃ u ∈ callsOf (prs ok s).1, u ∉ names
  · rw [if_pos h2]
    refine ⟨fun e => absurd e (by decide), fun g => ?_⟩
    obtain ⟨u, hu, hn⟩ := h2
    exact absurd (g.2.1 u hu) hn
  rw [if_neg h2]
  have h2' : ∀ u ∈ callsOf (prs ok s).1, u ∈ names := fun u hu => Classical.byContradiction fun hn => h2 ⟨u, hu, hn⟩
  by_cases h3 : lrg F (prs ok s).1 = true
  · rw [if_pos h3]
    exact ⟨fun e => absurd e (by decide), fun g => by rw [h3] at g; exact absurd g.2.2 (by decide)⟩
  · rw [if_neg h3]
    exact ⟨fun _ => ⟨by simpa using h1, h2', by simpa using h3⟩, fun _ => rfl⟩
theorem expandR_text {names : List Bs} {F : Bs → Option Bs} {s : Bs} : (expandR ok names F s).2 = if (expandR ok names F s).1 = 0 then evalT F (prs ok s).1 else [] := by
  unfold expandR
  split
  · rfl
  · split
    · rfl
    · split
      · rfl
      · rfl
theorem expandR_congr {names names' : List Bs} {F F' : Bs → Option Bs} (h : ∀ n, n ∈ names ↔ n ∈ names') (hF : ∀ n ∈ names, F n = F' n) (s : Bs) : expandR ok names F s = expandR ok names' F' s := by
  unfold expandR
  by_cases h1 : (prs ok s).2 = false
  · rw [if_pos h1, if_pos h1]
  rw [if_neg h1, if_neg h1]
  by_cases h2 : ∃ u ∈ callsOf (prs ok s).1, u ∉ names
  · rw [if_pos h2, if_pos (by obtain ⟨u, hu, hn⟩ := h2; exact ⟨u, hu, fun g => hn ((h u).2 g)⟩)]
  · have h2' : ∀ u ∈ callsOf (prs ok s).1, u ∈ names := fun u hu => Classical.byContradiction fun hn => h2 ⟨u, hu, hn⟩
    have h3 : ¬ ∃ u ∈ callsOf (prs ok s).1, u ∉ names' := by
      rintro ⟨u, hu, hn⟩
      exact hn ((h u).1 (h2' u hu))
    rw [if_neg h2, if_neg h3]
    have e1 : lrg F (prs ok s).1 = lrg F' (prs ok s).1 := by
      unfold lrg
      rw [evalT_congr (G := F') fun n hn => hF n (h2' n hn), noneT_congr (G := F') fun n hn => hF n (h2' n hn)]
    rw [e1, evalT_congr (G := F') fun n hn => hF n (h2' n hn)]
theorem expandE_text {l : List Mac} {s : Bs} (h : (expandE ok l s).1 ≠ 0) : (expandE ok l s).2 = [] := by
  unfold expandE at h ⊢
  by_cases h1 : flatsE ok l ≠ 0
  · rw [if_pos h1]
  · rw [if_neg h1] at h ⊢
    rw [expandR_text, if_neg h]
theorem expandE_zero {l : List Mac} {s : Bs} : (expandE ok l s).1 = 0 ↔ (TabOk ok l ∧ ¬ Larges ok l) ∧ (expandR ok (namesM l) (flatF ok l) s).1 = 0 := by
  unfold expandE
  by_cases h1 : flatsE ok l ≠ 0
  · rw [if_pos h1]
    exact ⟨fun e => absurd e h1, fun g => flatsE_zero.2 g.1⟩
  · rw [if_neg h1]
    exact ⟨fun e => ⟨flatsE_zero.1 (by simpa using h1), e⟩, fun g => g.2⟩
theorem expandE_at {l : List Mac} (h : TabOk ok l ∧ ¬ Larges ok l) (s : Bs) : expandE ok l s = expandR ok (namesM l) (flatF ok l) s := by
  unfold expandE
  rw [if_neg (by simpa using flatsE_zero.2 h)]
/-- the same macros in whatever order -/
theorem TabOk.perm {l l' : List Mac} (h : TabOk ok l) (hp : l.Perm l') : TabOk ok l' ∧ ∀ n ∈ namesM l, flatF ok l n = flatF ok l' n := by
  have hnp : (namesM l).Perm (namesM l') := hp.map _
  have hn' := hnp.nodup_iff.1 h.nodup
  have hfl : ∀ n a, Flt (tabT ok l) n a → Flt (tabT ok l') n a := fun n a ha => ha.more fun m k hk => tabT_sub hn' (fun x hx => hp.mem_iff.1 hx) m k hk
  refine ⟨⟨by rw [← hp.length_eq]; exact h.few, fun m hm => h.right m (hp.mem_iff.2 hm), hn', fun m hm u hu => hnp.mem_iff.1 (h.there m (hp.mem_iff.2 hm) u hu), fun m hm => ?_⟩, fun n hn => ?_⟩
  · obtain ⟨a, ha⟩ := h.flat m (hp.mem_iff.2 hm)
    exact ⟨a, hfl _ _ ha⟩
  · exact (flatF_is (hfl _ _ (h.name hn))).symm
theorem expand_perm {l l' : List Mac} (hp : l.Perm l') (s : Bs) : (expandE ok l s).2 = (expandE ok l' s).2 ∧ ((expandE ok l s).1 = 0 ↔ (expandE ok l' s).1 = 0) := by
  have key : ∀ {l l' : List Mac}, l.Perm l' → (TabOk ok l ∧ ¬ Larges ok l) → (TabOk ok l' ∧ ¬ Larges ok l') ∧ expandE ok l s = expandE ok l' s := by
    intro l l' hp h
    obtain ⟨h1, h2⟩ := h.1.perm hp
    have hl : ¬ Larges ok l' := by
      rintro ⟨m, hm, e⟩
      have hm' := hp.mem_iff.2 hm
      exact h.2 ⟨m, hm', by rw [h2 m.1 (List.mem_map_of_mem hm'), e]⟩
    refine ⟨⟨h1, hl⟩, ?_⟩
    rw [expandE_at h, expandE_at ⟨h1, hl⟩]
    exact expandR_congr (fun n => (hp.map (·.1)).mem_iff) h2 s
  by_cases h : TabOk ok l ∧ ¬ Larges ok l
  · obtain ⟨_, e⟩ := key hp h
    rw [e]
    exact ⟨rfl, Iff.rfl⟩
  · have h' : ¬ (TabOk ok l' ∧ ¬ Larges ok l') := fun g => h (key hp.symm g).1
    have e1 : (expandE ok l s).1 ≠ 0 := fun e => h (expandE_zero.1 e).1
    have e2 : (expandE ok l' s).1 ≠ 0 := fun e => h' (expandE_zero.1 e).1
    rw [expandE_text e1, expandE_text e2]
    exact ⟨rfl, fun e => absurd e e1, fun e => absurd e e2⟩
theorem expand_join {l : List Mac} {s t : Bs} (hs : (expandE ok l s).1 = 0) (ht : (expandE ok l t).1 = 0) (hlen : (expandE ok l s).2.length + (expandE ok l t).2.length ≤ 2000) :
    expandE ok l (s ++ t) = (0, (expandE ok l s).2 ++ (expandE ok l t).2) := by
  obtain ⟨h0, h1⟩ := expandE_zero.1 hs
  obtain ⟨_, h2⟩ := expandE_zero.1 ht
  rw [expandE_at h0, expandE_at h0] at hlen
  rw [expandE_at h0, expandE_at h0, expandE_at h0]
  have e1 := h1
  have e2 := h2
  rw [expandR_zero] at h1 h2
  rw [expandR_text (s := s), if_pos e1, expandR_text (s := t), if_pos e2] at hlen ⊢
  obtain ⟨j1, j2, j3⟩ := prs_join (ok := ok) (flatF ok l) s.length s t (Nat.le_refl _) h1.1
  have hz : (expandR ok (namesM l) (flatF ok l) (s ++ t)).1 = 0 := by
    rw [expandR_zero, j2, j3]
    refine ⟨h2.1, fun u hu => ?_, ?_⟩
    · rcases List.mem_append.1 hu with hu | hu
      · exact h1.2.1 u hu
      · exact h2.2.1 u hu
    · have a1 := h1.2.2
      have a2 := h2.2.2
      unfold lrg at a1 a2 ⊢
      rw [Bool.or_eq_false_iff] at a1 a2 ⊢
      refine ⟨?_, ?_⟩
      · rw [← Bool.not_eq_true, noneT_iff, j2]
        rintro ⟨n, hn, e⟩
        rcases List.mem_append.1 hn with hn | hn
        · exact absurd (noneT_iff.2 ⟨n, hn, e⟩) (by rw [a1.1]; decide)
        · exact absurd (noneT_iff.2 ⟨n, hn, e⟩) (by rw [a2.1]; decide)
      · rw [j1, List.length_append]
        exact decide_eq_false (by omega)
  refine Prod.ext hz ?_
  rw [expandR_text, if_pos hz, j1]
theorem expand_more {l : List Mac} {x : Mac} {s : Bs} (h1 : (expandE ok l s).1 = 0) (h2 : (expandE ok (l ++ [x]) s).1 = 0) : (expandE ok l s).2 = (expandE ok (l ++ [x]) s).2 := by
  obtain ⟨g1, e1⟩ := expandE_zero.1 h1
  obtain ⟨g2, e2⟩ := expandE_zero.1 h2
  rw [expandE_at g1, expandE_at g2, expandR_text, if_pos e1, expandR_text, if_pos e2]
  refine evalT_congr fun n hn => ?_
  have hn1 := (expandR_zero.1 e1).2.1 n hn
  exact (flatF_is ((g1.1.name hn1).more fun m k hk => tabT_sub g2.1.nodup (fun y hy => List.mem_append_left _ hy) m k hk)).symm
/-- what is flat, quoted -/
noncomputable def flatL (ok : Bs → Bool) (l : List Mac) : List Mac := l.map fun m => (m.1, (flatF ok l m.1).getD [])
def quoteL (l : List Mac) : List Mac := l.map fun m => (m.1, dbl m.2)
theorem quote_names (l : List Mac) : namesM (quoteL (flatL ok l)) = namesM l := by
  unfold namesM quoteL flatL
  rw [List.map_map, List.map_map]
  rfl
theorem quote_ok {l : List Mac} (h : TabOk ok l) (hL : ¬ Larges ok l) : (TabOk ok (quoteL (flatL ok l)) ∧ ¬ Larges ok (quoteL (flatL ok l))) ∧ ∀ n ∈ namesM l, flatF ok (quoteL (flatL ok l)) n = flatF ok l n := by
  have hsome : ∀ n ∈ namesM l, ∃ v, flatF ok l n = some v := fun n hn => by
    obtain ⟨m, hm, rfl⟩ := List.mem_map.1 hn
    cases e : flatF ok l m.1 with
    | none => exact absurd ⟨m, hm, e⟩ hL
    | some v => exact ⟨v, rfl⟩
  have hmem : ∀ x ∈ quoteL (flatL ok l), ∃ m ∈ l, ∃ v, flatF ok l m.1 = some v ∧ x = (m.1, dbl v) := by
    intro x hx
    obtain ⟨y, hy, rfl⟩ := List.mem_map.1 hx
    obtain ⟨m, hm, rfl⟩ := List.mem_map.1 hy
    obtain ⟨v, hv⟩ := hsome m.1 (List.mem_map_of_mem hm)
    exact ⟨m, hm, v, hv, by rw [hv]; rfl⟩
  have hnd : (namesM (quoteL (flatL ok l))).Nodup := by rw [quote_names]; exact h.nodup
  have hfl : ∀ n ∈ namesM l, Flt (tabT ok (quoteL (flatL ok l))) n (flatF ok l n) := by
    intro n hn
    rw [← quote_names (ok := ok)] at hn
    obtain ⟨x, hx, rfl⟩ := List.mem_map.1 hn
    obtain ⟨m, hm, v, hv, rfl⟩ := hmem x hx
    have ht := tabT_mem (ok := ok) hnd hx
    obtain ⟨p1, p2, p3⟩ := prs_dbl (ok := ok) (fun _ => none) v.length v (Nat.le_refl _)
    have hs := (h.name (List.mem_map_of_mem hm))
    rw [hv] at hs
    have hvl := hs.short
    have hc : cmb (fun _ => none) (prs ok (dbl v)).1 = some v := by
      unfold cmb lrg
      rw [if_neg, p1]
      rw [p1, Bool.or_eq_true, not_or]
      refine ⟨fun g => ?_, by rw [decide_eq_true_eq]; omega⟩
      obtain ⟨n, hn, _⟩ := noneT_iff.1 g
      rw [p2] at hn
      cases hn
    simp only
    rw [hv, ← hc]
    exact .mk ht _ fun m hm => by rw [p2] at hm; cases hm
  have hF : ∀ n ∈ namesM l, flatF ok (quoteL (flatL ok l)) n = flatF ok l n := fun n hn => flatF_is (hfl n hn)
  refine ⟨⟨⟨by unfold quoteL flatL; rw [List.length_map, List.length_map]; exact h.few, fun x hx => ?_, hnd, fun x hx u hu => ?_, fun x hx => ?_⟩, ?_⟩, hF⟩
  · obtain ⟨m, hm, v, hv, rfl⟩ := hmem x hx
    exact ⟨(h.right m hm).1, (prs_dbl (ok := ok) (fun _ => none) v.length v (Nat.le_refl _)).2.2⟩
  · obtain ⟨m, hm, v, hv, rfl⟩ := hmem x hx
    have hu' : u ∈ callsOf (prs ok (dbl v)).1 := hu
    rw [(prs_dbl (ok := ok) (fun _ => none) v.length v (Nat.le_refl _)).2.1] at hu'
    cases hu'
  · obtain ⟨m, hm, v, hv, rfl⟩ := hmem x hx
    exact ⟨_, hfl m.1 (List.mem_map_of_mem hm)⟩
  · rintro ⟨x, hx, e⟩
    obtain ⟨m, hm, v, hv, rfl⟩ := hmem x hx
    have := hF m.1 (List.mem_map_of_mem hm)
    rw [hv] at this
    have e' : flatF ok (quoteL (flatL ok l)) m.1 = none := e
    rw [this] at e'
    cases e'
theorem expand_quote {l : List Mac} (h : TabOk ok l) (hL : ¬ Larges ok l) (s : Bs) : expandE ok (quoteL (flatL ok l)) s = expandE ok l s := by
  obtain ⟨h1, h2⟩ := quote_ok h hL
  rw [expandE_at h1, expandE_at ⟨h, hL⟩]
  refine expandR_congr (fun n => by rw [quote_names]) (fun n hn => h2 n (by rwa [quote_names] at hn)) s
theorem flat_quote {l : List Mac} (h : TabOk ok l) (hL : ¬ Larges ok l) : flatL ok (quoteL (flatL ok l)) = flatL ok l := by
  obtain ⟨_, h2⟩ := quote_ok h hL
  unfold flatL at h2 ⊢
  unfold quoteL at h2 ⊢
  rw [List.map_map, List.map_map]
  refine List.map_congr_left fun m hm => ?_
  simp only [Function.comp]
  have := h2 m.1 (List.mem_map_of_mem hm)
  rw [List.map_map] at this
  simp only [List.map_map] at this ⊢
  exact Prod.ext rfl (congrArg (·.getD []) this)
end
end Go.Proofs.YtoiolepengcagaaGreatDoor
namespace Go.Proofs.YtoiolepengcagaaGreatDoor
open Go.RowKit Go.Shelf
def MLm (w : World) : Prop := ∃ m : Int, w.cell? ⟨0, 0, none⟩ = some (.int .i64 m)
theorem MLm.below {w w' : World} (h : MLm w) (hb : Below w.heap.size w w') : MLm w' := by
  obtain ⟨m, h⟩ := h
  exact ⟨m, (hb.cell (World.block_lt_of_cell? w _ h)).trans h⟩
theorem MLm.drew {w : World} (h : MLm w) (n : Nat) : MLm (w.drewN n) := h.below (below_drawsP (Below.refl _ _) n)
theorem MLm.of {w : World} (h : w.ShapedOpen Tryz.prog) : MLm w := Tryz.laysM219.s1_3 w h
def okM (n : Bs) : Bool := nameE (txt n) == 0
theorem lib_cut (b : UInt8) (s : Bs) : Lib.cut s [b] = match cut1 b s with | none => (s, [], false) | some (a, r) => (a, r, true) := by
  unfold Lib.cut
  rw [Lib.index_one]
  obtain ⟨h1, h2⟩ := indexByte_ge s b
  rcases cut1_cases b s with ⟨h, e⟩ | ⟨a, r, e, h, e2⟩
  · rw [e, if_neg (fun g => h (h2.1 g))]
  · rw [e2]
    subst e
    have hi : Lib.indexByte (a ++ b :: r) b = (a.length : Int) := by
      have h0 : 0 ≤ Lib.indexByte (a ++ b :: r) b := h2.2 (by simp)
      obtain ⟨o, ho⟩ := Int.eq_ofNat_of_zero_le h0
      obtain ⟨g1, g2⟩ := Lib.indexByte_some ho
      rcases Nat.lt_trichotomy o a.length with hlt | heq | hgt
      · rw [List.getElem?_append_left hlt] at g1
        exact absurd (List.mem_of_getElem? g1) h
      · rw [ho, heq]
      · exact absurd (by simp) (g2 a.length hgt)
    rw [hi, if_pos (by omega)]
    simp
theorem pre_hit (x : UInt8) (r : Bs) : Lib.hasPrefix (x :: r) [x] = true ∧ Lib.trimPrefix (x :: r) [x] = r := by
  have h : Lib.hasPrefix (x :: r) [x] = true := by simp [Lib.hasPrefix]
  exact ⟨h, by unfold Lib.trimPrefix; rw [if_pos h]; rfl⟩
theorem pre_miss {x : UInt8} {r : Bs} (h : r.head? ≠ some x) : Lib.hasPrefix r [x] = false ∧ Lib.trimPrefix r [x] = r := by
  have h : Lib.hasPrefix r [x] = false := by
    cases r with
    | nil => simp [Lib.hasPrefix]
    | cons y r =>
      have : x ≠ y := fun e => h (by rw [e]; rfl)
      simp [Lib.hasPrefix, List.isPrefixOf, this]
  exact ⟨h, by unfold Lib.trimPrefix; rw [if_neg (by rw [h]; decide)]⟩
theorem cutS_ok (s a r : Bs) (c : UInt8) (m : Bool) (h : Lib.cut s [c] = (a, r, m)) (hs : s.length ≤ 1048600) (w : World) (hM : MLm w) :
    Calls Tryz.prog 131 #[.string (txt s), .string ⟨#[c]⟩] w fun e w' => e = .returned (.tuple #[.string (txt a), .string (txt r), .bool m]) ∧ ∃ n, w' = w.drewN n := by
  obtain ⟨k, hk⟩ := hM
  have := Tryz.strings_Cut (txt s) ⟨#[c]⟩ k w (by rw [txt_size]; omega) hk
  rw [txt_list, show (⟨#[c]⟩ : ByteArray).data.toList = [c] from rfl, h] at this
  exact this
theorem cutP_ok (s r : Bs) (c : UInt8) (m : Bool) (h1 : Lib.trimPrefix s [c] = r) (h2 : Lib.hasPrefix s [c] = m) (w : World) :
    Calls Tryz.prog 143 #[.string (txt s), .string ⟨#[c]⟩] w fun e w' => e = .returned (.tuple #[.string (txt r), .bool m]) ∧ w' = w := by
  have := Tryz.strings_CutPrefix (txt s) ⟨#[c]⟩ w
  rw [txt_list, show (⟨#[c]⟩ : ByteArray).data.toList = [c] from rfl, h1, h2] at this
  exact this
/-- what is asked of the functions that are handed the pieces (T) and the calls (C) of the text s0 -/
structure Feeds (s0 : Bs) (J : List Tok → World → Prop) (fT : Nat) (cT : Array Value) (fC : Nat) (cC : Array Value) : Prop where
  eT : ∀ args w, (callFunc fT args).run Tryz.prog w = .ok (.enter fT args) w
  eC : ∀ args w, (callFunc fC args).run Tryz.prog w = .ok (.enter fC args) w
  text : ∀ pre s W, J pre W → s.length ≤ 1048600 → Calls Tryz.prog fT (#[.string (txt s)] ++ cT) W fun e W' => e = .returned (.tuple #[]) ∧ J (pre ++ [.t s]) W'
  call : ∀ pre n W, J pre W → Tok.c n ∈ (prs okM s0).1 → okM n = true → Calls Tryz.prog fC (#[.string (txt n)] ++ cC) W fun e W' => e = .returned (.tuple #[]) ∧ J (pre ++ [.c n]) W'
  cell : ∀ pre W, J pre W → MLm W
  drew : ∀ pre W n, J pre W → J pre (W.drewN n)
theorem cut_esc {a r : Bs} {x : UInt8} (h : x ∉ a) : Lib.cut (a ++ x :: r) [x] = (a, r, true) := by rw [lib_cut, cut1_hit h]
theorem cut_not {s : Bs} {x : UInt8} (h : x ∉ s) : Lib.cut s [x] = (s, [], false) := by rw [lib_cut, cut1_miss h]
theorem okM_few {n : Bs} (h : okM n = true) : n.length ≤ 40 := by
  unfold okM nameE at h
  split at h
  · cases h
  · rename_i g
    rw [txt_size] at g
    omega
set_option maxHeartbeats 4000000 in
set_option maxRecDepth 100000 in
theorem parseM_ok (s0 : Bs) (J : List Tok → World → Prop) (fT : Nat) (cT : Array Value) (fC : Nat) (cC : Array Value) (hF : Feeds s0 J fT cT fC cC) (hs : s0.length ≤ 1048600) (w : World) (h0 : J [] w) :
    Calls Tryz.prog 108 #[.string (txt s0), .func (.func fT) #[] cT, .func (.func fC) #[] cC] w fun e w' => e = .returned (.bool (prs okM s0).2) ∧ J (prs okM s0).1 w' := by
  have eT := hF.eT
  have eC := hF.eC
  have HF := Lib.hid hF
  have H0 := Lib.hid h0
  clear hF h0
  go_enter Tryz.func108, Tryz.ntmps108
  go_wp2
  go_loopg [0] s0.length (fun gg v wr => ∃ (pre : List Tok) (s : Bs), v = .string (txt s) ∧ s.length ≤ gg ∧ s.length ≤ 1048600 ∧ Hid (prs okM s0 = (pre ++ (prs okM s).1, (prs okM s).2)) ∧ Hid (J pre wr))
  case atStart => exact ⟨[], s0, rfl, Nat.le_refl _, hs, by show _ = _; simp, H0⟩
  case round =>
    obtain ⟨pre, s, rfl, hsg, hsb, HP, HJ⟩ := hrel
    rcases txt_cases s with h1 | ⟨a, r, ha, rfl⟩ | ⟨a, n, r, ha, hn, rfl⟩ | ⟨a, r, ha, hr, rfl⟩ | ⟨a, r, ha, h1, h2, rfl⟩
    · have HE := Lib.hid (prs_last (ok := okM) h1)
      have HC1 := Lib.hid (cutS_ok s s [] 36 false (cut_not h1) hsb)
      have HT1 := Lib.hid (fun W hW => HF.out.text pre s W hW hsb)
      clear h1
      go_wp2_with (first
        | (go_at_call 131; refine (HC1.out _ (HF.out.cell _ _ HJ.out)).mono ?_; rintro e w1 ⟨rfl, n1, rfl⟩)
        | (go_at_fn fT; refine (HT1.out _ (HF.out.drew _ _ _ HJ.out)).mono ?_; rintro e w2 ⟨rfl, hj⟩; have HJ2 := Lib.hid hj; clear hj))
      go_ret
      refine ⟨by rw [HP.out, HE.out]; rfl, ?_⟩
      rw [HP.out, HE.out]
      exact HJ2.out
    · have hlg := hsg
      have hlb := hsb
      simp only [List.length_append, List.length_cons] at hlg hlb
      have HE := Lib.hid (prs_esc (ok := okM) ha r)
      have HC1 := Lib.hid (cutS_ok _ a (36 :: r) 36 true (cut_esc ha) hsb)
      have HT1 := Lib.hid (fun W hW => HF.out.text pre a W hW (by omega))
      have HP1 := Lib.hid (cutP_ok (36 :: r) r 36 true (pre_hit 36 r).2 (pre_hit 36 r).1)
      have HT2 := Lib.hid (fun W hW => HF.out.text (pre ++ [.t a]) [36] W hW (by decide))
      clear ha
      go_wp2_with (first
        | (go_at_call 131; have hh := HC1.out; clear HC1; refine (hh _ (HF.out.cell _ _ HJ.out)).mono ?_; clear hh; rintro e w1 ⟨rfl, n1, rfl⟩)
        | (go_at_fn fT; have hh := HT1.out; clear HT1; refine (hh _ (HF.out.drew _ _ _ HJ.out)).mono ?_; clear hh; rintro e w2 ⟨rfl, hj⟩; have HJ2 := Lib.hid hj; clear hj)
        | (go_at_call 143; have hh := HP1.out; clear HP1; refine (hh _).mono ?_; clear hh; rintro e w3 ⟨rfl, hw3⟩; rw [hw3]; clear hw3)
        | (go_at_fn fT; refine (HT2.out _ HJ2.out).mono ?_; rintro e w4 ⟨rfl, hj⟩; have HJ3 := Lib.hid hj; clear hj))
      go_roundg r.length
      case measure => omega
      case rel => exact ⟨pre ++ [.t a] ++ [.t [36]], r, rfl, Nat.le_refl _, by omega, by show _ = _; rw [HP.out, HE.out]; simp, HJ3⟩
    · have hlg := hsg
      have hlb := hsb
      simp only [List.length_append, List.length_cons] at hlg hlb
      have HE := Lib.hid (prs_call (ok := okM) ha hn r)
      have HC1 := Lib.hid (cutS_ok _ a (40 :: (n ++ 41 :: r)) 36 true (cut_esc ha) hsb)
      have HT1 := Lib.hid (fun W hW => HF.out.text pre a W hW (by omega))
      have hpm := pre_miss (x := 36) (r := 40 :: (n ++ 41 :: r)) (by simp)
      have HP1 := Lib.hid (cutP_ok (40 :: (n ++ 41 :: r)) _ 36 false hpm.2 hpm.1)
      have hc2 : Lib.cut (40 :: (n ++ 41 :: r)) [41] = (40 :: n, r, true) := cut_esc (a := 40 :: n) (by simp [hn])
      have HC2 := Lib.hid (cutS_ok _ (40 :: n) r 41 true hc2 (by simp only [List.length_append, List.length_cons]; omega))
      have HP2 := Lib.hid (cutP_ok (40 :: n) n 40 true (pre_hit 40 n).2 (pre_hit 40 n).1)
      have HN := Lib.hid (CheckN_ok (txt n) (by rw [txt_size]; omega))
      clear ha hn hpm hc2
      by_cases hok : okM n = true
      · have HNE : Hid (nameE (txt n) = 0) := by show _ = _; unfold okM at hok; simpa using hok
        have HMM : Hid (Tok.c n ∈ (prs okM s0).1) := by show _ ∈ _; rw [HP.out, HE.out, if_pos hok]; simp
        have HCC := Lib.hid (fun W hW => HF.out.call (pre ++ [.t a]) n W hW HMM.out hok)
        rw [if_pos hok] at HE
        clear hok
        go_wp2_with (first
          | (go_at_call 131; have hh := HC1.out; clear HC1; refine (hh _ (HF.out.cell _ _ HJ.out)).mono ?_; clear hh; rintro e w1 ⟨rfl, n1, rfl⟩)
          | (go_at_fn fT; have hh := HT1.out; clear HT1; refine (hh _ (HF.out.drew _ _ _ HJ.out)).mono ?_; clear hh; rintro e w2 ⟨rfl, hj⟩; have HJ2 := Lib.hid hj; clear hj)
          | (go_at_call 143; have hh := HP1.out; clear HP1; refine (hh _).mono ?_; clear hh; rintro e w3 ⟨rfl, hw3⟩; rw [hw3]; clear hw3)
          | (go_at_call 131; refine (HC2.out _ (HF.out.cell _ _ HJ2.out)).mono ?_; rintro e w4 ⟨rfl, n4, rfl⟩)
          | (go_at_call 143; refine (HP2.out _).mono ?_; rintro e w5 ⟨rfl, hw5⟩; rw [hw5]; clear hw5)
          | (go_at_call 28; refine (HN.out _).mono ?_; rw [HNE.out]; rintro e w6 ⟨rfl, rfl⟩)
          | (go_at_fn fC; refine (HCC.out _ (HF.out.drew _ _ _ HJ2.out)).mono ?_; rintro e w7 ⟨rfl, hj⟩; have HJ3 := Lib.hid hj; clear hj))
        go_roundg r.length
        case measure => omega
        case rel => exact ⟨pre ++ [.t a] ++ [.c n], r, rfl, Nat.le_refl _, by omega, by show _ = _; rw [HP.out, HE.out]; simp, HJ3⟩
      · have HNE : Hid (nameE (txt n) = 3) := by
          show _ = _
          rcases nameE_cases (txt n) with h | h
          · exact absurd (by unfold okM; rw [h]; rfl) hok
          · exact h
        rw [if_neg hok] at HE
        clear hok
        go_wp2_with (first
          | (go_at_call 131; have hh := HC1.out; clear HC1; refine (hh _ (HF.out.cell _ _ HJ.out)).mono ?_; clear hh; rintro e w1 ⟨rfl, n1, rfl⟩)
          | (go_at_fn fT; have hh := HT1.out; clear HT1; refine (hh _ (HF.out.drew _ _ _ HJ.out)).mono ?_; clear hh; rintro e w2 ⟨rfl, hj⟩; have HJ2 := Lib.hid hj; clear hj)
          | (go_at_call 143; have hh := HP1.out; clear HP1; refine (hh _).mono ?_; clear hh; rintro e w3 ⟨rfl, hw3⟩; rw [hw3]; clear hw3)
          | (go_at_call 131; refine (HC2.out _ (HF.out.cell _ _ HJ2.out)).mono ?_; rintro e w4 ⟨rfl, n4, rfl⟩)
          | (go_at_call 143; refine (HP2.out _).mono ?_; rintro e w5 ⟨rfl, hw5⟩; rw [hw5]; clear hw5)
          | (go_at_call 28; refine (HN.out _).mono ?_; rw [HNE.out]; rintro e w6 ⟨rfl, rfl⟩))
        go_ret
        refine ⟨by rw [HP.out, HE.out]; rfl, ?_⟩
        rw [HP.out, HE.out]
        exact HF.out.drew _ _ _ HJ2.out
    · have hlg := hsg
      have hlb := hsb
      simp only [List.length_append, List.length_cons] at hlg hlb
      have HE := Lib.hid (prs_open (ok := okM) ha hr)
      have HC1 := Lib.hid (cutS_ok _ a (40 :: r) 36 true (cut_esc ha) hsb)
      have HT1 := Lib.hid (fun W hW => HF.out.text pre a W hW (by omega))
      have hpm := pre_miss (x := 36) (r := 40 :: r) (by simp)
      have HP1 := Lib.hid (cutP_ok (40 :: r) _ 36 false hpm.2 hpm.1)
      have HC2 := Lib.hid (cutS_ok _ (40 :: r) [] 41 false (cut_not (by simp [hr])) (by simp only [List.length_cons]; omega))
      have HP2 := Lib.hid (cutP_ok (40 :: r) r 40 true (pre_hit 40 r).2 (pre_hit 40 r).1)
      clear ha hr hpm
      go_wp2_with (first
        | (go_at_call 131; have hh := HC1.out; clear HC1; refine (hh _ (HF.out.cell _ _ HJ.out)).mono ?_; clear hh; rintro e w1 ⟨rfl, n1, rfl⟩)
        | (go_at_fn fT; have hh := HT1.out; clear HT1; refine (hh _ (HF.out.drew _ _ _ HJ.out)).mono ?_; clear hh; rintro e w2 ⟨rfl, hj⟩; have HJ2 := Lib.hid hj; clear hj)
        | (go_at_call 143; have hh := HP1.out; clear HP1; refine (hh _).mono ?_; clear hh; rintro e w3 ⟨rfl, hw3⟩; rw [hw3]; clear hw3)
        | (go_at_call 131; refine (HC2.out _ (HF.out.cell _ _ HJ2.out)).mono ?_; rintro e w4 ⟨rfl, n4, rfl⟩)
        | (go_at_call 143; refine (HP2.out _).mono ?_; rintro e w5 ⟨rfl, hw5⟩; rw [hw5]; clear hw5))
      go_ret
      refine ⟨by rw [HP.out, HE.out]; rfl, ?_⟩
      rw [HP.out, HE.out]
      exact HF.out.drew _ _ _ HJ2.out
    · have hlg := hsg
      have hlb := hsb
      simp only [List.length_append, List.length_cons] at hlg hlb
      have HE := Lib.hid (prs_bad (ok := okM) ha h1 h2)
      have HC1 := Lib.hid (cutS_ok _ a r 36 true (cut_esc ha) hsb)
      have HT1 := Lib.hid (fun W hW => HF.out.text pre a W hW (by omega))
      have HP1 := Lib.hid (cutP_ok r r 36 false (pre_miss h1).2 (pre_miss h1).1)
      obtain ⟨q, r', m, hcq, hq, hql⟩ : ∃ q r' m, Lib.cut r [41] = (q, r', m) ∧ q.head? ≠ some 40 ∧ q.length ≤ r.length := by
        rcases cut1_cases 41 r with ⟨_, e⟩ | ⟨q, r', e, _, e2⟩
        · exact ⟨r, [], false, by rw [lib_cut, e], h2, Nat.le_refl _⟩
        · refine ⟨q, r', true, by rw [lib_cut, e2], fun g => h2 ?_, by rw [e]; simp⟩
          rw [e]
          cases q with
          | nil => cases g
          | cons y q => exact g
      have HC2 := Lib.hid (cutS_ok r q r' 41 m hcq (by omega))
      have HP2 := Lib.hid (cutP_ok q q 40 false (pre_miss hq).2 (pre_miss hq).1)
      clear ha h1 h2 hcq hq
      go_wp2_with (first
        | (go_at_call 131; have hh := HC1.out; clear HC1; refine (hh _ (HF.out.cell _ _ HJ.out)).mono ?_; clear hh; rintro e w1 ⟨rfl, n1, rfl⟩)
        | (go_at_fn fT; have hh := HT1.out; clear HT1; refine (hh _ (HF.out.drew _ _ _ HJ.out)).mono ?_; clear hh; rintro e w2 ⟨rfl, hj⟩; have HJ2 := Lib.hid hj; clear hj)
        | (go_at_call 143; have hh := HP1.out; clear HP1; refine (hh _).mono ?_; clear hh; rintro e w3 ⟨rfl, hw3⟩; rw [hw3]; clear hw3)
        | (go_at_call 131; refine (HC2.out _ (HF.out.cell _ _ HJ2.out)).mono ?_; rintro e w4 ⟨rfl, n4, rfl⟩)
        | (go_at_call 143; refine (HP2.out _).mono ?_; rintro e w5 ⟨rfl, hw5⟩; rw [hw5]; clear hw5))
      go_ret
      refine ⟨by rw [HP.out, HE.out]; rfl, ?_⟩
      rw [HP.out, HE.out]
      exact HF.out.drew _ _ _ HJ2.out
end Go.Proofs.YtoiolepengcagaaGreatDoor
namespace Go.Proofs.YtoiolepengcagaaGreatDoor
open Go.RowKit Go.Shelf
theorem mx1 {w : World} {b : Nat} {t : TypeId} {v0 : Value} (h : w.heap[b]? = some (.cells #[v0] t (0, 0))) : w.cell? ⟨b, 0, none⟩ = some v0 ∧ w.frozen? ⟨b, 0, none⟩ = false := by
  refine ⟨?_, ?_⟩
  all_goals simp [World.cell?, World.frozen?, h]
theorem mx1_set {w : World} {b : Nat} {t : TypeId} {v0 : Value} (h : w.heap[b]? = some (.cells #[v0] t (0, 0))) (u : Value) : (w.setCell ⟨b, 0, none⟩ u).heap[b]? = some (.cells #[u] t (0, 0)) := by
  have := heap_setCell_same w b 0 _ t u h
  rw [this]; rfl
theorem mset_other {w : World} {a : Addr} {u : Value} {k : Nat} {o : Option Obj} (h : w.heap[k]? = o) (hne : k ≠ a.block) : (w.setCell a u).heap[k]? = o := by
  rw [heap_setCell_other w a k u hne]; exact h
theorem mhao (w : World) (o : Obj) (i : Nat) (h : i < w.heap.size) : (w.alloc o).heap[i]? = w.heap[i]? := by
  show (w.heap.push o)[i]? = w.heap[i]?
  rw [Array.getElem?_push, if_neg (Nat.ne_of_lt h)]
theorem mhan (w : World) (o : Obj) : (w.alloc o).heap[w.heap.size]? = some o := by
  show (w.heap.push o)[w.heap.size]? = some o
  simp
theorem mgrown_set (w : World) (a : Addr) (u : Value) : w.grownBy (w.setCell a u) (some a.block) :=
  ⟨rfl, rfl, rfl, by simp, fun k _ hk => heap_setCell_other w a k u (fun e => hk (by rw [e]))⟩
theorem mlt {w : World} {b : Nat} {o : Obj} (h : w.heap[b]? = some o) : b < w.heap.size := (Array.getElem?_eq_some_iff.1 h).1
theorem mnone {v : Value} : some v.ownBlock ≠ none := by simp
theorem own_none {w w' : World} {base e size n : Nat} {v : Value} {xs : List Value} (h : w.ownsRow base e size v n xs) (hg : w.grownBy w' none) : w'.ownsRow base e size v n xs := by
  refine h.kept hg ?_
  cases hq : v.ownBlock with
  | none => exact .inl rfl
  | some k => exact .inr (by simp)
theorem own_at {w w' : World} {base e size n b : Nat} {v : Value} {xs : List Value} (h : w.ownsRow base e size v n xs) (hg : w.grownBy w' (some b)) (hb : b < base) : w'.ownsRow base e size v n xs := by
  refine h.kept hg ?_
  cases hq : v.ownBlock with
  | none => exact .inl rfl
  | some k => exact .inr (fun e => by injection e with e; have := (h.lt k hq).1; omega)
theorem below_none {b : Nat} {w w' : World} (h : Below b w w') (h2 : b = w.heap.size) : w.grownBy w' none := ⟨h.os, h.tape, h.output, h.size, fun k hk _ => h.block k (by omega)⟩
theorem box_kept {w w' : World} {ob base e size n : Nat} {v : Value} {xs : List Value} {o : Obj} (hb : w.heap[ob]? = some o) (h : w.ownsRow base e size v n xs) (hlt : ob < base) (hg : w.grownBy w' v.ownBlock) : w'.heap[ob]? = some o := by
  rw [hg.block ob (mlt hb) (fun e => by have := (h.lt ob e.symm).1; omega)]
  exact hb
theorem own_low {w : World} {base base' size n : Nat} {e : TypeId} {v : Value} {xs : List Value} (h : w.ownsRow base e size v n xs) (hb : base' ≤ base) : w.ownsRow base' e size v n xs := by
  refine ⟨h.1, ?_⟩
  rcases h.2 with hn | ⟨g, cap, cur, rfl, h1, rest⟩
  · exact .inl hn
  · exact .inr ⟨g, cap, cur, rfl, Nat.le_trans hb h1, rest⟩
theorem mown_form {w : World} {base e n size : Nat} {v : Value} {xs : List Value} (h : w.ownsRow base e size v n xs) : ∃ (g : Option Addr) (c : Nat), v = .slice g n c := by
  rcases h.2 with ⟨rfl, rfl⟩ | ⟨g, cap, cur, rfl, _⟩
  · exact ⟨none, 0, rfl⟩
  · exact ⟨_, cap, rfl⟩
/-- slices.Contains at what the call owns -/
theorem owns_contains {w : World} {lo : Nat} {v : Value} {zs : List ByteArray} (h : w.ownsRow lo 9 1 v zs.length (strsV zs)) (hn : zs.length ≤ 9223372036854775807) (x : ByteArray) :
    Calls Tryz.prog 78 #[v, .string x] w fun e w' => e = .returned (.bool (Lib.containsS zs x)) ∧ w' = w := by
  rcases h.2 with ⟨rfl, h0⟩ | ⟨g, cap, cur, rfl, _, _, _, _, _, _⟩
  · have : zs = [] := List.length_eq_zero_iff.1 h0
    subst this
    exact Tryz.slices_Contains_string_empty none 0 x w
  · have hc := h.cells (g := g) rfl
    have := Tryz.slices_Contains_string g 0 zs.length cap zs x w (Nat.le_refl _) hn (fun j hj => by
      have h1 := hc j (.string (zs.getD j ByteArray.empty)) (by unfold strsV; rw [List.getElem?_map, List.getElem?_eq_getElem hj, List.getD_eq_getElem?_getD, List.getElem?_eq_getElem hj]; rfl)
      rw [Addr.add_lit] at h1
      exact h1)
    rw [List.take_length] at this
    exact this
end Go.Proofs.YtoiolepengcagaaGreatDoor
namespace Go.Proofs.YtoiolepengcagaaGreatDoor
open Go.RowKit Go.Shelf
def addU (zs : List ByteArray) (n : ByteArray) : List ByteArray := if Lib.containsS zs n = true then zs else zs ++ [n]
/-- what is called for, each once -/
def usesM (l : List Tok) : List ByteArray := ((callsOf l).map txt).foldl addU []
theorem usesM_t (l : List Tok) (s : Bs) : usesM (l ++ [.t s]) = usesM l := by
  unfold usesM callsOf
  rw [List.filterMap_append]
  simp
theorem usesM_c (l : List Tok) (n : Bs) : usesM (l ++ [.c n]) = addU (usesM l) (txt n) := by
  unfold usesM callsOf
  rw [List.filterMap_append]
  simp
theorem addU_mem {zs : List ByteArray} {n x : ByteArray} : x ∈ addU zs n ↔ x ∈ zs ∨ x = n := by
  unfold addU
  split
  · rename_i h
    rw [Lib.containsS_iff] at h
    exact ⟨.inl, fun g => g.elim id (fun e => e ▸ h)⟩
  · simp
theorem foldU_mem {N : List ByteArray} : ∀ {zs : List ByteArray} {x : ByteArray}, x ∈ N.foldl addU zs ↔ x ∈ zs ∨ x ∈ N := by
  induction N with
  | nil => intro zs x; simp
  | cons n N ih =>
    intro zs x
    rw [List.foldl_cons, ih, addU_mem, List.mem_cons, or_assoc]
theorem txt_inj {a b : Bs} (h : txt a = txt b) : a = b := by
  have := congrArg (fun z : ByteArray => z.data.toList) h
  simpa [txt_list] using this
theorem usesM_mem {l : List Tok} {n : Bs} : txt n ∈ usesM l ↔ n ∈ callsOf l := by
  unfold usesM
  rw [foldU_mem, List.mem_map]
  constructor
  · rintro (h | ⟨m, hm, e⟩)
    · cases h
    · rw [← txt_inj e]; exact hm
  · intro h
    exact .inr ⟨n, h, rfl⟩
theorem usesM_txt {l : List Tok} {x : ByteArray} (h : x ∈ usesM l) : ∃ n, x = txt n ∧ n ∈ callsOf l := by
  unfold usesM at h
  rw [foldU_mem, List.mem_map] at h
  rcases h with h | ⟨m, hm, e⟩
  · cases h
  · exact ⟨m, e.symm, hm⟩
theorem addU_nodup {zs : List ByteArray} {n : ByteArray} (h : zs.Nodup) : (addU zs n).Nodup := by
  unfold addU
  split
  · exact h
  · rename_i hn
    rw [Lib.containsS_iff] at hn
    rw [List.nodup_append]
    exact ⟨h, by simp, fun a ha b hb => by rw [List.mem_singleton.1 hb]; rintro rfl; exact hn ha⟩
theorem foldU_nodup {N : List ByteArray} : ∀ {zs : List ByteArray}, zs.Nodup → (N.foldl addU zs).Nodup := by
  induction N with
  | nil => intro zs h; exact h
  | cons n N ih => intro zs h; rw [List.foldl_cons]; exact ih (addU_nodup h)
theorem usesM_nodup (l : List Tok) : (usesM l).Nodup := foldU_nodup List.nodup_nil
theorem calls_len : ∀ (k : Nat) (s : Bs), s.length ≤ k → (callsOf (prs okM s).1).length ≤ s.length := by
  intro k
  induction k with
  | zero =>
    intro s hk
    have : s = [] := List.length_eq_zero_iff.1 (by omega)
    subst this
    rw [prs_last (s := []) (by simp)]
    simp [callsOf]
  | succ k ih =>
    intro s hk
    rcases txt_cases s with h1 | ⟨a, r, ha, rfl⟩ | ⟨a, n, r, ha, hn, rfl⟩ | ⟨a, r, ha, hr, rfl⟩ | ⟨a, r, ha, h1, h2, rfl⟩
    · rw [prs_last h1]; simp [callsOf]
    · rw [prs_esc ha]
      have := ih r (by simp at hk; omega)
      simp only [callsOf, List.filterMap_cons, List.length_append, List.length_cons] at this ⊢
      omega
    · rw [prs_call ha hn]
      by_cases hok : okM n = true
      · rw [if_pos hok]
        have := ih r (by simp at hk; omega)
        simp only [callsOf, List.filterMap_cons, List.length_append, List.length_cons] at this ⊢
        omega
      · rw [if_neg hok]; simp [callsOf]
    · rw [prs_open ha hr]; simp [callsOf]
    · rw [prs_bad ha h1 h2]; simp [callsOf]
theorem usesM_len (s : Bs) : (usesM (prs okM s).1).length ≤ s.length := by
  refine Nat.le_trans ?_ (calls_len _ s (Nat.le_refl _))
  refine Nat.le_trans (List.Nodup.length_le_of_subset (usesM_nodup _) (fun x hx => ?_ : usesM (prs okM s).1 ⊆ (callsOf (prs okM s).1).map txt)) (by rw [List.length_map]; exact Nat.le_refl _)
  obtain ⟨n, rfl, hn⟩ := usesM_txt hx
  exact List.mem_map_of_mem hn
/-- the names that a text has called for so far lie in the box ob -/
def UsesJ (w : World) (ob : Nat) (s : Bs) (pre : List Tok) (W : World) : Prop :=
  ∃ v, W.heap[ob]? = some (.cells #[v] 23 (0, 0)) ∧ W.ownsRow (ob + 1) 9 1 v (usesM pre).length (strsV (usesM pre)) ∧ Below ob w W ∧ MLm W ∧ ∀ x ∈ usesM pre, x ∈ usesM (prs okM s).1
set_option maxHeartbeats 1000000 in
theorem uses1_ok (ob : Nat) (v : Value) (zs : List ByteArray) (n : ByteArray) (w : World) (hb : w.heap[ob]? = some (.cells #[v] 23 (0, 0))) (hown : w.ownsRow (ob + 1) 9 1 v zs.length (strsV zs)) (hl : zs.length ≤ 1048600) :
    Calls Tryz.prog 110 (#[.string n] ++ #[.pointer (some ⟨ob, 0, none⟩)]) w fun e w' => e = .returned (.tuple #[]) ∧ ∃ v', w'.heap[ob]? = some (.cells #[v'] 23 (0, 0)) ∧ w'.ownsRow (ob + 1) 9 1 v' (addU zs n).length (strsV (addU zs n)) ∧ Below ob w w' := by
  obtain ⟨c1, f1⟩ := mx1 hb
  have hlt := mlt hb
  have HB := Lib.hid hb
  have HO := Lib.hid hown
  have HC := Lib.hid (owns_contains hown (by omega) n)
  show Calls _ _ #[.string n, .pointer (some ⟨ob, 0, none⟩)] _ _
  clear hb hown
  cases hc : Lib.containsS zs n
  · rw [hc] at HC
    have HA : Hid (addU zs n = zs ++ [n]) := by show _ = _; unfold addU; rw [hc]; rfl
    go_enter Tryz.func110, Tryz.ntmps110
    go_upto_region 1 with (go_at_call 78; refine HC.out.mono ?_; rintro e w1 ⟨rfl, hw1⟩; rw [hw1]; clear hw1)
    obtain ⟨W1, hW1⟩ : ∃ W1, W1 = w.alloc (.cells #[.string n] 9) := ⟨_, rfl⟩
    have HB1 : Hid (W1.heap[ob]? = some (.cells #[v] 23 (0, 0))) := by show _ = _; rw [hW1, mhao _ _ _ hlt]; exact HB.out
    have HO1 : Hid (W1.ownsRow (ob + 1) 9 1 v zs.length (strsV zs)) := by show World.ownsRow _ _ _ _ _ _ _; rw [hW1]; exact own_none HO.out (World.grownBy_alloc _ _ _)
    have HN1 : Hid (W1.cell? ⟨w.heap.size, 0, none⟩ = some (.string n)) := by show _ = _; rw [hW1, World.cell?_alloc_at _ _ _ _ rfl]; rfl
    have HS1 : Hid (w.heap.size < W1.heap.size) := by show _ < _; rw [hW1]; simp
    have HBl : Hid (Below ob w W1) := by show Below _ _ _; rw [hW1]; exact (Below.refl _ _).alloc (by omega) _
    rw [hW1] at HB1 HO1 HN1 HS1 HBl
    have hba := (mx1 HB1.out).1
    clear hW1
    go_wp2_with (at_builtin; go_loud (refine app_str _ rfl _ _ rfl (ob + 1) _ zs.length _ rfl HO1.out w.heap.size (.string n) rfl rfl HN1.out (by omega) (by have := HS1.out; omega) ?_; intro v' w2 h1 h2; have hb2 := box_kept HB1.out HO1.out (Nat.lt_succ_self _) h2; obtain ⟨d1, d2⟩ := mx1 hb2; have HB2 := Lib.hid hb2; have HG : Hid (Below ob w w2) := HBl.out.grown h2 (Nat.le_of_lt (mlt HB1.out)) (fun k hk => Nat.le_of_lt (HO1.out.lt k hk).1); obtain ⟨gv, cv, rfl⟩ := mown_form h1; have HX := Lib.hid h1; clear h1 h2 hb2))

    first | (refine bodyPost_ret (results_none rfl _ _ _) rfl ?_) | (refine bodyPost_end (results_none rfl _ _ _) rfl ?_)
    refine ⟨rfl, _, mx1_set HB2.out _, ?_, HG.out.setCell (Nat.le_refl _) _⟩
    rw [HA.out, List.length_append, strsV_snoc]
    exact own_at HX.out (mgrown_set _ _ _) (Nat.lt_succ_self _)
  · rw [hc] at HC
    have HA : Hid (addU zs n = zs) := by show _ = _; unfold addU; rw [hc]; rfl
    go_enter Tryz.func110, Tryz.ntmps110
    go_wp2_with (go_at_call 78; refine HC.out.mono ?_; rintro e w1 ⟨rfl, hw1⟩; rw [hw1]; clear hw1)
    first | (refine bodyPost_ret (results_none rfl _ _ _) rfl ?_) | (refine bodyPost_end (results_none rfl _ _ _) rfl ?_)
    exact ⟨rfl, v, HB.out, by rw [HA.out]; exact HO.out, Below.refl _ _⟩
theorem nothing_ok (s : ByteArray) (w : World) : Calls Tryz.prog 109 (#[.string s] ++ #[]) w fun e w' => e = .returned (.tuple #[]) ∧ w = w' := by
  show Calls _ _ #[.string s] _ _
  go_enter Tryz.func109, Tryz.ntmps109
  go_wp2
  first | (refine bodyPost_ret (results_none rfl _ _ _) rfl ?_) | (refine bodyPost_end (results_none rfl _ _ _) rfl ?_)
  exact ⟨rfl, rfl⟩
def usesE (s : Bs) : Int := if (prs okM s).2 = true then 0 else 3
/-- what Uses answers -/
def UsesPost (w : World) (s : Bs) (e : Ending) (w' : World) : Prop :=
  (∃ v, e = .returned (.tuple #[v, .int .i64 (usesE s)]) ∧ ((usesE s = 0 ∧ w'.ownsRow w.heap.size 9 1 v (usesM (prs okM s).1).length (strsV (usesM (prs okM s).1))) ∨ (usesE s ≠ 0 ∧ v = .slice none 0 0))) ∧ Below w.heap.size w w'
set_option maxHeartbeats 2000000 in
theorem Uses_ok (s : Bs) (hs : s.length ≤ 1048600) (w : World) (hM : MLm w) : Calls Tryz.prog 75 #[.string (txt s)] w (UsesPost w s) := by
  have hF : Feeds s (UsesJ w w.heap.size s) 109 #[] 110 #[.pointer (some ⟨w.heap.size, 0, none⟩)] := by
    refine ⟨enters_of Tryz.func109 (by kernel_rfl) rfl, enters_of Tryz.func110 (by kernel_rfl) rfl, ?_, ?_, ?_, ?_⟩
    · rintro pre x W ⟨v, h1, h2, h3, h4, h5⟩ _
      refine (nothing_ok (txt x) W).mono ?_
      rintro e w' ⟨rfl, rfl⟩
      exact ⟨rfl, v, h1, by rw [usesM_t]; exact h2, h3, h4, by rw [usesM_t]; exact h5⟩
    · rintro pre n W ⟨v, h1, h2, h3, h4, h5⟩ hn _
      have hl : (usesM pre).length ≤ 1048600 := Nat.le_trans (List.Nodup.length_le_of_subset (usesM_nodup _) (fun x hx => h5 x hx : usesM pre ⊆ usesM (prs okM s).1)) (Nat.le_trans (usesM_len s) hs)
      refine (uses1_ok w.heap.size v (usesM pre) (txt n) W h1 h2 hl).mono ?_
      rintro e w' ⟨rfl, v', g1, g2, g3⟩
      refine ⟨rfl, v', g1, by rw [usesM_c]; exact g2, h3.trans (g3.mono (Nat.le_refl _)), ?_, fun x hx => ?_⟩
      · obtain ⟨m, hm⟩ := hM
        exact ⟨m, ((h3.trans (g3.mono (Nat.le_refl _))).cell (World.block_lt_of_cell? w _ hm)).trans hm⟩
      · rw [usesM_c, addU_mem] at hx
        rcases hx with hx | rfl
        · exact h5 x hx
        · exact usesM_mem.2 (callsOf_mem.2 hn)
    · rintro pre W ⟨v, h1, h2, h3, h4, h5⟩
      exact h4
    · rintro pre W n ⟨v, h1, h2, h3, h4, h5⟩
      exact ⟨v, h1, own_none h2 ⟨rfl, rfl, rfl, Nat.le_refl _, fun _ _ _ => rfl⟩, below_drawsP h3 n, h4.drew n, h5⟩
  obtain ⟨W1, hW1⟩ : ∃ W1, W1 = w.alloc (.cells #[.slice none 0 0] 23) := ⟨_, rfl⟩
  have hb1 : Below w.heap.size w W1 := by rw [hW1]; exact (Below.refl _ _).alloc (Nat.le_refl _) _
  have h0 : UsesJ w w.heap.size s [] W1 := by
    refine ⟨.slice none 0 0, by rw [hW1]; exact mhan _ _, World.ownsRow_nil _ _ _ _, hb1, hM.below hb1, fun x hx => by cases hx⟩
  have HP := Lib.hid (parseM_ok s _ _ _ _ _ hF hs W1 h0)
  clear hF h0 hM hb1
  cases hp : (prs okM s).2
  · rw [hp] at HP
    have HE : Hid (usesE s = 3) := by show _ = _; unfold usesE; rw [hp]; rfl
    clear hp
    go_enter Tryz.func75, Tryz.ntmps75
    go_upto_region 2 with fail
    rw [← hW1]
    clear hW1
    go_wp2_with (go_at_call 108; refine HP.out.mono ?_; rintro e w2 ⟨rfl, v, h1, h2, h3, h4, h5⟩; have HB := Lib.hid h3; clear h1 h2 h3 h4 h5)
    go_ret2
    exact ⟨⟨.slice none 0 0, by rw [HE.out]; rfl, .inr ⟨by rw [HE.out]; decide, rfl⟩⟩, HB.out⟩
  · rw [hp] at HP
    have HE : Hid (usesE s = 0) := by show _ = _; unfold usesE; rw [hp]; rfl
    clear hp
    go_enter Tryz.func75, Tryz.ntmps75
    go_upto_region 2 with fail
    rw [← hW1]
    clear hW1
    go_wp2_with (go_at_call 108; refine HP.out.mono ?_; rintro e w2 ⟨rfl, v, h1, h2, h3, h4, h5⟩; have c1 := (mx1 h1).1; have HO := Lib.hid h2; have HB := Lib.hid h3; clear h1 h2 h3 h4 h5)
    go_ret2
    exact ⟨⟨v, by rw [HE.out]; rfl, .inl ⟨HE.out, own_low HO.out (by omega)⟩⟩, HB.out⟩
end Go.Proofs.YtoiolepengcagaaGreatDoor
namespace Go.Proofs.YtoiolepengcagaaGreatDoor
open Go.RowKit Go.Shelf Go.Maps Go.WideMaps
theorem lawM : Keyed Tryz.prog 9 := string_keyed Tryz.underlying9
def rawP (v : Value) : Option (DataW Value × List MemPlace) := some (.held v, [])
def nilP : Value := .pointer none
/-- block B is a map of at most n entries: its keys, and the pointer at each key -/
def MapP (w : World) (B n : Nat) (ks : List Bs) (h : Bs → Value) : Prop :=
  ∃ D : DataW Value, w.ownsMap Tryz.prog 9 rawP B n D ∧ (∀ s, D.atKey (.string s) (.held nilP) = .held (h s)) ∧ (∀ s, has D (.string s) = true ↔ s ∈ ks)
theorem MapP.made (w : World) : MapP (w.alloc (.map #[] 0)) w.heap.size 0 [] (fun _ => nilP) :=
  ⟨.map [], World.ownsMap_made _ _ _ _, fun _ => rfl, fun s => by simp [has]⟩
theorem MapP.kept {w w' : World} {B n : Nat} {ks : List Bs} {h : Bs → Value} (hm : MapP w B n ks h) {row : Option Nat} (hg : w.grownBy w' row) (hne : some B ≠ row) : MapP w' B n ks h := by
  obtain ⟨D, h1, h2, h3⟩ := hm
  exact ⟨D, h1.kept hg hne, h2, h3⟩
theorem MapP.mono {w : World} {B n n' : Nat} {ks : List Bs} {h : Bs → Value} (hm : MapP w B n ks h) (hn : n ≤ n') : MapP w B n' ks h := by
  obtain ⟨D, h1, h2, h3⟩ := hm
  exact ⟨D, h1.mono hn, h2, h3⟩
theorem MapP.lt {w : World} {B n : Nat} {ks : List Bs} {h : Bs → Value} (hm : MapP w B n ks h) : B < w.heap.size := by
  obtain ⟨D, h1, _⟩ := hm
  exact h1.lt
theorem MapP.below {w w' : World} {B n : Nat} {ks : List Bs} {h : Bs → Value} (hm : MapP w B n ks h) (hb : Below w.heap.size w w') : MapP w' B n ks h :=
  hm.kept (row := none) ⟨hb.os, hb.tape, hb.output, hb.size, fun k hk _ => hb.block k hk⟩ (by simp)
theorem zeroPt (w : World) : (zeroValue 142).run Tryz.prog w = .ok (.pointer none) w := Tryz.zeroValue142 w
theorem look_run {w : World} {B n : Nat} {ks : List Bs} {h : Bs → Value} (hH : MapP w B n ks h) (s : ByteArray) (hs : s.size ≤ maxLen) :
    Sem.run Tryz.prog (Instr.lookup 137 (.map (some B)) (.string s) false) w = .ok (h s.data.toList) w := by
  obtain ⟨D, h1, h2, _⟩ := hH
  obtain ⟨v, ps, hrun, hat⟩ := h1.lookup lawM Tryz.underlying137 (zeroPt w) (zd := .held nilP) (zp := []) rfl (keyOf_string_mk Tryz.underlying9 hs)
  rw [h2] at hat
  have hv : v = h s.data.toList := by
    have h3 : (DataW.held v : DataW Value) = .held (h s.data.toList) := congrArg Prod.fst (Option.some.inj hat)
    exact DataW.held.inj h3
  subst hv
  exact hrun
/-- the look-up at the operation -/
theorem look_p (w : World) {ops : Array Oper} {rest : List Oper} {o : Oper} {a : Act} {Q : Exit → Act → World → Prop}
    (hg : o.guard = none) (m x : Operand) (hop : o.op = Op.lookup 137 m x false) {B n : Nat} {ks : List Bs} {h : Bs → Value}
    (hm : a.eval m = .map (some B)) (hH : MapP w B n ks h) (s : ByteArray) (hx : a.eval x = .string s) (hs : s.size ≤ maxLen)
    (hK : wpList Tryz.prog ops Q rest (a.put o.dst (h s.data.toList)) w) : wpList Tryz.prog ops Q (o :: rest) a w := by
  refine wpList_plain hg fun K' hK' => ?_
  obtain ⟨D, h1, h2, _⟩ := hH
  obtain ⟨v, ps, hrun, hat⟩ := h1.lookup lawM Tryz.underlying137 (zeroPt w) (zd := .held nilP) (zp := []) rfl (keyOf_string_mk Tryz.underlying9 hs)
  rw [h2] at hat
  have hv : v = h s.data.toList := by
    have h3 : (DataW.held v : DataW Value) = .held (h s.data.toList) := congrArg Prod.fst (Option.some.inj hat)
    exact DataW.held.inj h3
  subst hv
  unfold Oper.wp
  simp [execOp, hop, hm, hx, hrun, Result.andThen]
  exact hK' _ _ hK
/-- .. where the operation is guarded -/
theorem look_pg (w : World) {ops : Array Oper} {rest : List Oper} {o : Oper} {a : Act} {Q : Exit → Act → World → Prop}
    (hg : Region.wanted o (yielded ops a.tmps) = true) (m x : Operand) (hop : o.op = Op.lookup 137 m x false) {B n : Nat} {ks : List Bs} {h : Bs → Value}
    (hm : a.eval m = .map (some B)) (hH : MapP w B n ks h) (s : ByteArray) (hx : a.eval x = .string s) (hs : s.size ≤ maxLen)
    (hK : wpList Tryz.prog ops Q rest (a.put o.dst (h s.data.toList)) w) : wpList Tryz.prog ops Q (o :: rest) a w := by
  refine wpList_step fun K' hK' => ?_
  rw [if_pos hg]
  obtain ⟨D, h1, h2, _⟩ := hH
  obtain ⟨v, ps, hrun, hat⟩ := h1.lookup lawM Tryz.underlying137 (zeroPt w) (zd := .held nilP) (zp := []) rfl (keyOf_string_mk Tryz.underlying9 hs)
  rw [h2] at hat
  have hv : v = h s.data.toList := by
    have h3 : (DataW.held v : DataW Value) = .held (h s.data.toList) := congrArg Prod.fst (Option.some.inj hat)
    exact DataW.held.inj h3
  subst hv
  unfold Oper.wp
  simp [execOp, hop, hm, hx, hrun, Result.andThen]
  exact hK' _ _ hK
def updM {α : Type} (f : Bs → α) (s : Bs) (v : α) : Bs → α := fun t => if t = s then v else f t
theorem updM_same {α : Type} (f : Bs → α) (s : Bs) (v : α) : updM f s v s = v := by unfold updM; rw [if_pos rfl]
theorem updM_other {α : Type} (f : Bs → α) {s t : Bs} (v : α) (h : t ≠ s) : updM f s v t = f t := by unfold updM; rw [if_neg h]
/-- the store at the operation -/
theorem store_p (w : World) {ops : Array Oper} {rest : List Oper} {o : Oper} {a : Act} {Q : Exit → Act → World → Prop}
    (hg : o.guard = none) (m x v : Operand) (hop : o.op = Op.mapUpdate 137 m x v) {B n : Nat} {ks : List Bs} {h : Bs → Value}
    (hm : a.eval m = .map (some B)) (hH : MapP w B n ks h) (hn : n < maxLen) (s : ByteArray) (hx : a.eval x = .string s) (hs : s.size ≤ maxLen) (u : Value) (hv : a.eval v = u)
    (hK : ∀ w', MapP w' B (n + 1) (s.data.toList :: ks) (updM h s.data.toList u) → w.grownBy w' (some B) → wpList Tryz.prog ops Q rest (a.put o.dst undef) w') : wpList Tryz.prog ops Q (o :: rest) a w := by
  obtain ⟨D, h1, h2, h3⟩ := hH
  have hT := (h1.tidy lawM).isMap
  refine wpList_mapUpdate_own w hg m x v _ hop 9 142 lawM Tryz.underlying137 rawP B n D hm h1 hn _ u _ hx hv (keyOf_string_mk Tryz.underlying9 hs) (.held u) [] rfl (fun w' r1 r2 => hK w' ⟨_, r1, fun t => ?_, fun t => ?_⟩ r2)
  · by_cases ht : t = s.data.toList
    · subst ht
      rw [updM_same]
      exact atKey_put_same hT (show WideAt.IsKeyLit (.string s.data.toList) from trivial) _ _
    · rw [updM_other _ _ ht, ← h2]
      exact atKey_put_other (fun e => ht (by injection e)) _ _
  · by_cases ht : t = s.data.toList
    · subst ht
      exact ⟨fun _ => List.mem_cons_self, fun _ => has_put_same hT (show WideAt.IsKeyLit (.string s.data.toList) from trivial) _⟩
    · rw [has_put_other (fun e => ht (by injection e)), h3, List.mem_cons]
      exact ⟨.inr, fun g => g.resolve_left ht⟩
end Go.Proofs.YtoiolepengcagaaGreatDoor
