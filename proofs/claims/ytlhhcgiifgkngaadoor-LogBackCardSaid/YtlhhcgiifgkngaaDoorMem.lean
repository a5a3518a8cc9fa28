/- A slice value that reads as a list of cells, nil let in; kept over whatever leaves old memory alone. Conditions: none. -/
import Derived.Below
import Derived.Laws.OwnMore
import Derived.Deep.AppendLies
import Derived.Deep.Draws
import Derived.Lib.Hide
namespace Go.Proofs.YtlhhcgiifgkngaaDoor
open Go.RowKit
theorem block_of_add (a : Addr) (n : Nat) : (a.add n).block = a.block := by unfold Addr.add; split <;> rfl
theorem add_of_add (a : Addr) (i j : Nat) : (a.add i).add j = a.add (i + j) := by
  unfold Addr.add
  by_cases hi : i = 0 <;> by_cases hj : j = 0 <;> simp [hi, hj, Nat.add_assoc]
def Reads (w : World) (b : Nat) (size : Nat) (p : Option Addr) (n : Nat) (xs : List Value) : Prop :=
  xs.length = n * size ∧ (0 < n → ∃ ad, p = some ad ∧ ad.block < b ∧ ∀ j u, xs[j]? = some u → w.cell? (ad.add j) = some u)
section
variable {w w' : World} {b b' size n : Nat} {p : Option Addr} {xs : List Value}
theorem Reads.none_ : Reads w b size p 0 [] := ⟨by simp, fun h => absurd h (by omega)⟩
theorem Reads.at_ {k : Nat} (h : Reads w b 1 p n xs) (hk : k < n) : ∃ ad u, p = some ad ∧ ad.block < b ∧ xs[k]? = some u ∧ w.cell? (ad.add k) = some u := by
  obtain ⟨ad, e, hb, hc⟩ := h.2 (by omega)
  have hl : k < xs.length := by have := h.1; omega
  exact ⟨ad, xs[k], e, hb, List.getElem?_eq_getElem hl, hc k _ (List.getElem?_eq_getElem hl)⟩
theorem Reads.keep (h : Reads w b size p n xs) (hk : ∀ q : Addr, q.block < b → w'.cell? q = w.cell? q) : Reads w' b size p n xs :=
  ⟨h.1, fun hn => by
    obtain ⟨ad, e, hb, hc⟩ := h.2 hn
    exact ⟨ad, e, hb, fun j u hu => (hk _ (by rw [block_of_add]; exact hb)).trans (hc j u hu)⟩⟩
theorem Reads.more (h : Reads w b size p n xs) (hB : b ≤ b') : Reads w b' size p n xs :=
  ⟨h.1, fun hn => by
    obtain ⟨ad, e, hb, hc⟩ := h.2 hn
    exact ⟨ad, e, by omega, hc⟩⟩
theorem Reads.below (h : Reads w b size p n xs) (hb : Below b w w') : Reads w' b size p n xs := h.keep fun _ hp => hb.cell hp
theorem Reads.drew (h : Reads w b size p n xs) : Reads w.drew b size p n xs := h
theorem Reads.drewN (h : Reads w b size p n xs) (k : Nat) : Reads (w.drewN k) b size p n xs := h
theorem Reads.alloc (h : Reads w b size p n xs) (hB : b ≤ w.heap.size) (o : Obj) : Reads (w.alloc o) b size p n xs := h.keep fun q hp => World.cell?_alloc_lt w o q (by omega)
theorem Reads.of_own {base : Nat} {e : TypeId} {c : Nat} (h : w.ownsRow base e size (.slice p n c) n xs) : Reads w w.heap.size size p n xs := by
  refine ⟨h.1, fun hn => ?_⟩
  obtain ⟨g, cap, hv, _, hlt⟩ := h.form hn
  have hp : p = some ⟨g, 0, none⟩ := by injection hv
  subst hp
  exact ⟨_, rfl, hlt, h.cells (g := g) rfl⟩
end
end Go.Proofs.YtlhhcgiifgkngaaDoor
