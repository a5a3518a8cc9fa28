/- A list of lists of numbers in memory: a slice of slices of the call's own. Conditions: none. -/
import Derived.Test.YtklikjjipoghlaaDoorListW
import Derived.Test.YtklikjjipoghlaaDoorBackW
import Derived.Test.YtklikjjipoghlaaDoorLevel
namespace Go.Proofs.YtklikjjipoghlaaDoor
open Go.RowKit
theorem own_apart {w : World} {base base' e e' size size' n n' : Nat} {v v' : Value} {xs xs' : List Value} (he : e ≠ e') (h : w.ownsRow base e size v n xs) (h' : w.ownsRow base' e' size' v' n' xs') {k : Nat} (hk : v.ownBlock = some k) : v'.ownBlock ≠ some k := by
  intro hk'
  rcases h.2 with ⟨rfl, _⟩ | ⟨g, cap, cur, rfl, _, hh, _⟩
  · cases hk
  · rcases h'.2 with ⟨rfl, _⟩ | ⟨g', cap', cur', rfl, _, hh', _⟩
    · cases hk'
    · have e1 : g = k := by simpa [Value.ownBlock] using hk
      have e2 : g' = k := by simpa [Value.ownBlock] using hk'
      subst e1 e2
      rw [hh] at hh'
      injection hh' with h1
      injection h1 with _ h2
      exact he h2
def nthL (LL : List (List Nat)) (t : Nat) : List Nat := LL.getD t []
/-- the slice v reads as the lists LL -/
def Nest (w : World) (base : Nat) (v : Value) (LL : List (List Nat)) : Prop :=
  ∃ hs : List Value, w.ownsRow base 24 1 v LL.length hs ∧ ∀ t, t < LL.length → ∃ (p : Option Addr) (c : Nat), hs[t]? = some (.slice p (nthL LL t).length c) ∧ w.ownsRow base 3 1 (.slice p (nthL LL t).length c) (nthL LL t).length (ints (nthL LL t))
theorem Nest.nil (w : World) (base : Nat) : Nest w base (.slice none 0 0) [] := ⟨[], World.ownsRow_nil _ _ _ _, fun t ht => absurd ht (by simp)⟩
theorem Nest.below {w w' : World} {base : Nat} {v : Value} {LL : List (List Nat)} (h : Nest w base v LL) (hb : Below w.heap.size w w') : Nest w' base v LL := by
  obtain ⟨hs, h1, h2⟩ := h
  refine ⟨hs, own_below h1 hb, fun t ht => ?_⟩
  obtain ⟨p, c, h3, h4⟩ := h2 t ht
  exact ⟨p, c, h3, own_below h4 hb⟩
theorem Nest.form {w : World} {base : Nat} {v : Value} {LL : List (List Nat)} (h : Nest w base v LL) : ∃ (g : Option Addr) (c : Nat), v = .slice g LL.length c ∧ ∀ b, v.ownBlock = some b → base ≤ b ∧ b < w.heap.size := by
  obtain ⟨hs, h1, _⟩ := h
  exact own_form h1
/-- one of the lists -/
theorem Nest.at_ {w : World} {base : Nat} {g : Option Addr} {n c : Nat} {LL : List (List Nat)} (h : Nest w base (.slice g n c) LL) {t : Nat} (ht : t < LL.length) :
    ∃ (ad : Addr) (p : Option Addr) (d : Nat), g = some ad ∧ w.cell? (ad.add t) = some (.slice p (nthL LL t).length d) ∧ w.ownsRow base 3 1 (.slice p (nthL LL t).length d) (nthL LL t).length (ints (nthL LL t)) := by
  obtain ⟨hs, h1, h2⟩ := h
  obtain ⟨p, d, h3, h4⟩ := h2 t ht
  obtain ⟨_, _, hv, _⟩ := own_form h1
  injection hv with e1 e2 e3
  subst e2
  obtain ⟨ad, u, rfl, _, hu, hc⟩ := (Reads.of_own h1).at_ ht
  rw [h3] at hu
  injection hu with hu
  subst hu
  exact ⟨ad, p, d, rfl, hc, h4⟩
theorem nthL_left {LL : List (List Nat)} {l : List Nat} {t : Nat} (h : t < LL.length) : nthL (LL ++ [l]) t = nthL LL t := by
  unfold nthL
  rw [List.getD_eq_getElem?_getD, List.getElem?_append_left h, List.getD_eq_getElem?_getD]
theorem nthL_last (LL : List (List Nat)) (l : List Nat) : nthL (LL ++ [l]) LL.length = l := by
  unfold nthL; simp
theorem own_keptT {w w' : World} {base e n : Nat} {v : Value} {xs : List Value} {row : Option Nat} (h : w.ownsRow base e 1 v n xs) (hg : w.grownBy w' row) (hne : ∀ k, row = some k → v.ownBlock ≠ some k) : w'.ownsRow base e 1 v n xs := by
  cases hv : v.ownBlock with
  | none =>
    rcases h.2 with ⟨h1, h2⟩ | ⟨g, cap, cur, h1, _⟩
    · exact ⟨h.1, .inl ⟨h1, h2⟩⟩
    · rw [h1] at hv; cases hv
  | some k =>
    refine h.kept hg (.inr ?_)
    rw [hv]
    exact fun e => hne k e.symm hv
/-- a list more -/
theorem Nest.snoc {w w' : World} {base : Nat} {v v' : Value} {LL : List (List Nat)} {hs : List Value} {l : List Nat} {p : Option Addr} {c : Nat} (h1 : w.ownsRow base 24 1 v LL.length hs)
    (h2 : ∀ t, t < LL.length → ∃ (p : Option Addr) (c : Nat), hs[t]? = some (.slice p (nthL LL t).length c) ∧ w.ownsRow base 3 1 (.slice p (nthL LL t).length c) (nthL LL t).length (ints (nthL LL t)))
    (hl : w.ownsRow base 3 1 (.slice p l.length c) l.length (ints l)) (hg : w.grownBy w' v.ownBlock) (h' : w'.ownsRow base 24 1 v' (LL.length + 1) (hs ++ [.slice p l.length c])) : Nest w' base v' (LL ++ [l]) := by
  have hne : (24 : Nat) ≠ 3 := by decide
  have hlen : hs.length = LL.length := by have := h1.1; omega
  refine ⟨hs ++ [.slice p l.length c], by simpa using h', fun t ht => ?_⟩
  rw [List.length_append, List.length_singleton] at ht
  rcases Nat.lt_or_ge t LL.length with h3 | h3
  · obtain ⟨q, d, h4, h5⟩ := h2 t h3
    rw [nthL_left h3]
    refine ⟨q, d, ?_, own_keptT h5 hg fun k hk => own_apart hne h1 h5 hk⟩
    rw [List.getElem?_append_left (by omega)]; exact h4
  · have : t = LL.length := by omega
    subst this
    rw [nthL_last]
    refine ⟨p, c, ?_, own_keptT hl hg fun k hk => own_apart hne h1 hl hk⟩
    rw [List.getElem?_append_right (by omega)]
    simp [hlen]
theorem info_row : (Tryd.prog.info? 24).map (fun i => (i.zero, i.size, i.bytes)) = some (some (.slice none 0 0), 1, 24) := by kernel_rfl
theorem app_row (w : World) {ops : Array Oper} {rest : List Oper} {o : Oper} {a : Act} {Q : Exit → Act → World → Prop} (hgd : o.guard = none) (s x : Operand)
    (ho : o.op = .call { callee := .builtin .append, args := #[s, x], argTypes := #[34, 34] })
    (base : Nat) (v : Value) (n : Nat) (xs : List Value) (hs : a.eval s = v) (hown : w.ownsRow base 24 1 v n xs)
    (g : Nat) (u : Value) (hu : u.oneCell' = true) (hx : a.eval x = .slice (some ⟨g, 0, none⟩) 1 1) (hcell : w.cell? ⟨g, 0, none⟩ = some u)
    (hn : n ≤ 1099511627776) (hbase : base ≤ w.heap.size)
    (h : ∀ v' w', w'.ownsRow base 24 1 v' (n + 1) (xs ++ [u]) → w.grownBy w' v.ownBlock → wpList Tryd.prog ops Q rest (a.put o.dst v') w') : wpList Tryd.prog ops Q (o :: rest) a w := by
  obtain ⟨i0, hi, hz0, hz1, hz2⟩ := info_parts info_row
  refine wpList_append_own w hgd s x 34 ho base 24 i0 (.slice none 0 0) 1 24 Tryd.underlying34 hi hz0 hz1 hz2 rfl (by decide) v n xs hs hown ⟨g, 0, none⟩ 1 1 [u] hx rfl ?_ ?_ (by unfold maxLen; omega) (by omega) hbase (fun v' w' h1 h2 _ => h v' w' h1 h2)
  · intro j q hj
    match j, hj with
    | 0, hj => simp at hj; subst hj; simpa [Addr.add] using hcell
  · intro q hq; simp at hq; subst hq; exact hu
end Go.Proofs.YtklikjjipoghlaaDoor
