/- Slices of two-cell elements, handed in or owned. Conditions: none. -/
import Derived.Test.YtlhhcgiifgkngaaDoorMem
import Derived.Deep.SlicePairs
import Derived.WideShapes
import Derived.SizedLaws
namespace Go.Proofs.YtlhhcgiifgkngaaDoor
open Go.RowKit Go.ChangeShapes
theorem list_of {α : Type} (n : Nat) (Q : Nat → α → Prop) (h : ∀ i, i < n → ∃ a, Q i a) : ∃ l : List α, l.length = n ∧ ∀ i a, l[i]? = some a → Q i a := by
  induction n with
  | zero => exact ⟨[], rfl, fun i a h => by cases h⟩
  | succ n ih =>
    obtain ⟨l, h1, h2⟩ := ih fun i hi => h i (by omega)
    obtain ⟨a, ha⟩ := h n (by omega)
    refine ⟨l ++ [a], by simp [h1], fun i b hb => ?_⟩
    rcases Nat.lt_or_ge i n with hi | hi
    · rw [List.getElem?_append_left (by omega)] at hb; exact h2 i b hb
    · have hi2 : i < (l ++ [a]).length := (List.getElem?_eq_some_iff.1 hb).1
      have : i = n := by simp [h1] at hi2; omega
      subst this
      rw [List.getElem?_append_right (by omega), h1, Nat.sub_self] at hb
      injection hb with hb
      subst hb; exact ha
section
variable {α : Type} (f g : α → Value)
/-- the cells of pairs -/
def cells2 (l : List α) : List Value := l.flatMap fun x => [f x, g x]
theorem cells2_cons (x : α) (l : List α) : cells2 f g (x :: l) = f x :: g x :: cells2 f g l := rfl
theorem cells2_append (l m : List α) : cells2 f g (l ++ m) = cells2 f g l ++ cells2 f g m := by unfold cells2; simp
theorem cells2_len (l : List α) : (cells2 f g l).length = l.length * 2 := by
  induction l with
  | nil => rfl
  | cons x l ih => rw [cells2_cons, List.length_cons, List.length_cons, ih, List.length_cons]; omega
theorem cells2_at {l : List α} {k : Nat} {x : α} (h : l[k]? = some x) : (cells2 f g l)[k * 2]? = some (f x) ∧ (cells2 f g l)[k * 2 + 1]? = some (g x) := by
  induction l generalizing k with
  | nil => cases h
  | cons y l ih =>
    rw [cells2_cons]
    cases k with
    | zero => simp at h; subst h; exact ⟨rfl, rfl⟩
    | succ k =>
      have := ih (k := k) (by simpa using h)
      rw [show (k + 1) * 2 = k * 2 + 1 + 1 from by omega]
      simpa using this
theorem cells2_of {l : List α} {j : Nat} {u : Value} (h : (cells2 f g l)[j]? = some u) : ∃ k x, l[k]? = some x ∧ ((j = k * 2 ∧ u = f x) ∨ (j = k * 2 + 1 ∧ u = g x)) := by
  have hj := (List.getElem?_eq_some_iff.1 h).1
  rw [cells2_len] at hj
  have hk : j / 2 < l.length := by omega
  obtain ⟨h1, h2⟩ := cells2_at f g (List.getElem?_eq_getElem hk)
  refine ⟨j / 2, l[j / 2], List.getElem?_eq_getElem hk, ?_⟩
  rcases Nat.mod_two_eq_zero_or_one j with e | e
  · rw [show j / 2 * 2 = j from by omega, h] at h1
    injection h1 with h1
    exact .inl ⟨by omega, h1⟩
  · rw [show j / 2 * 2 + 1 = j from by omega, h] at h2
    injection h2 with h2
    exact .inr ⟨by omega, h2⟩
/-- a slice of pairs that the call can read -/
structure P2At (w : World) (p : Option Addr) (n c : Nat) (l : List α) : Prop where
  len : l.length = n
  at_ : 0 < n → ∃ b o, p = some ⟨b, o, none⟩ ∧ b < w.heap.size ∧ ∀ k x, l[k]? = some x → w.cell? ⟨b, o + k * 2, none⟩ = some (f x) ∧ w.cell? ⟨b, o + (k * 2 + 1), none⟩ = some (g x)
  big : n ≤ 8796093022208
variable {f g}
theorem P2At.below {w w' : World} {p : Option Addr} {n c : Nat} {l : List α} (h : P2At f g w p n c l) (hb : Below w.heap.size w w') : P2At f g w' p n c l :=
  ⟨h.len, fun hn => by
    obtain ⟨b, o, e, h1, h2⟩ := h.at_ hn
    refine ⟨b, o, e, Nat.lt_of_lt_of_le h1 hb.size, fun k x hx => ?_⟩
    obtain ⟨h3, h4⟩ := h2 k x hx
    exact ⟨(hb.cell h1).trans h3, (hb.cell h1).trans h4⟩, h.big⟩
theorem P2At.cell {w : World} {p : Option Addr} {n c : Nat} {l : List α} (h : P2At f g w p n c l) {k : Nat} {x : α} (hx : l[k]? = some x) :
    ∃ b o, p = some ⟨b, o, none⟩ ∧ b < w.heap.size ∧ w.cell? ⟨b, o + k * 2, none⟩ = some (f x) ∧ w.cell? ⟨b, o + (k * 2 + 1), none⟩ = some (g x) := by
  have hk := (List.getElem?_eq_some_iff.1 hx).1
  have := h.len
  obtain ⟨b, o, e, h1, h2⟩ := h.at_ (by omega)
  exact ⟨b, o, e, h1, h2 k x hx⟩
theorem P2At.own {w : World} {base n c : Nat} {e : TypeId} {p : Option Addr} {l : List α} (h : w.ownsRow base e 2 (.slice p n c) n (cells2 f g l)) (hbig : n ≤ 8796093022208) : P2At f g w p n c l := by
  have hl : l.length = n := by have := h.1; rw [cells2_len] at this; omega
  refine ⟨hl, fun hn => ?_, hbig⟩
  obtain ⟨b, cap, hv, _, _⟩ := h.form hn
  injection hv with e1 e2 e3
  subst e1 e3
  have hlt := h.lt b rfl
  refine ⟨b, 0, rfl, hlt.2, fun k x hx => ?_⟩
  obtain ⟨h1, h2⟩ := cells2_at f g hx
  have c1 := h.cells (g := b) rfl _ _ h1
  have c2 := h.cells (g := b) rfl _ _ h2
  rw [Addr.add_lit] at c1 c2
  exact ⟨c1, c2⟩
end
/-- the slice of pairs that a law is handed -/
theorem p2_arg {A B H : Type} {enc : TypeId × Value → H} {P : Program} {W : World} {fuel len cap : Nat} {a : Option Addr} {d : DataW H} {p : List MemPlace} {t e : TypeId} {f0 f1 : Field} (F : A → Value) (G : B → Value)
    (ht : P.underlying t = some (.slice e)) (he : P.underlying e = some (.struct #[f0, f1])) (ce : P.cellsOf e = 2) (o0 : f0.offset = 0) (o1 : f1.offset = 1) (c0 : P.cellsOf f0.type = 1) (c1 : P.cellsOf f1.type = 1)
    (hF : ∀ n v x, DataW.trod enc P W 0 (fun _ => true) true n f0.type [v] = some x → ∃ a, v = F a) (hG : ∀ n v x, DataW.trod enc P W 0 (fun _ => true) true n f1.type [v] = some x → ∃ b, v = G b)
    (hby : 16 ≤ P.bytesOf e) (hf : DataW.trod enc P W 0 (fun _ => true) true fuel t [.slice a len cap] = some (d, p)) (hsz : ∀ n, n ∈ d.weights P t → n ≤ reachBytes) :
    ∃ l : List (A × B), P2At (fun x => F x.1) (fun x => G x.2) W a len cap l := by
  rcases Go.Deep.open_slice_pairs ht he ce o0 o1 c0 c1 hf with ⟨h1, _⟩ | ⟨ad, ln, cp, m, n, V0, V1, D0, D1, P0, P1, h1, _, h3, _, h5, h6, h7⟩
  · injection h1 with h1 _
    injection h1 with e1 e2 e3
    subst e1 e2 e3
    exact ⟨[], rfl, fun h => by omega, by omega⟩
  · injection h1 with h1 _
    injection h1 with e1 e2 e3
    subst e1 e2 e3
    simp only [if_true] at h5
    subst h5
    have hex : ∀ i, i < len → ∃ q : A × B, W.cell? (ad.add (i * 2)) = some (F q.1) ∧ W.cell? (ad.add (i * 2 + 1)) = some (G q.2) := by
      intro i hi
      obtain ⟨k1, k2, k3, k4⟩ := h7 i (by omega)
      obtain ⟨x, hx⟩ := hF _ _ _ k3
      obtain ⟨y, hy⟩ := hG _ _ _ k4
      exact ⟨(x, y), by rw [k1, hx], by rw [k2, hy]⟩
    obtain ⟨l, hl, hq⟩ := list_of len _ hex
    injection h6 with h6 _
    have hb := hsz ((len + (m - len)) * P.bytesOf e) (by
      rw [h6, DataW.weights, ht]
      simp)
    have hrb : reachBytes < 2 ^ 47 := reachBytes_lt
    have hmul : (len + (m - len)) * 16 ≤ (len + (m - len)) * P.bytesOf e := Nat.mul_le_mul_left _ hby
    refine ⟨l, hl, fun hn => ?_, by omega⟩
    obtain ⟨b, o, s⟩ := ad
    have hs : s = none := by
      have h0 := (h7 0 (by omega)).1
      simpa [Addr.add] using World.cell?_spot h0
    subst hs
    refine ⟨b, o, rfl, ?_, fun k x hx => ?_⟩
    · have := World.block_lt_of_cell? W _ (h7 0 (by omega)).1
      rwa [block_of_add] at this
    · have := hq k x hx
      rw [Addr.add_lit, Addr.add_lit] at this
      exact this
end Go.Proofs.YtlhhcgiifgkngaaDoor
