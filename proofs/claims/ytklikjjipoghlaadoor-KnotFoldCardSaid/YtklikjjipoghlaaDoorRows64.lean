/- A slice of uint64 in memory as a list of sets, kept over new blocks. Conditions: none. -/
import Derived.Test.YtklikjjipoghlaaDoorDoor
import Derived.Test.YtklikjjipoghlaaDoorReach
namespace Go.Proofs.YtklikjjipoghlaaDoor
open Go.RowKit
def u64s (r : List B) : List Value := r.map fun x : B => Value.int .u64 (un x : Int)
/-- the slice at p with n elements reads as r -/
structure RowsAt (w : World) (p : Option Addr) (n : Nat) (r : List B) : Prop where
  reads : Reads w w.heap.size 1 p n (u64s r)
  len : r.length = n
  big : n ≤ maxLen
theorem RowsAt.below {w w' : World} {p : Option Addr} {n : Nat} {r : List B} (h : RowsAt w p n r) (hb : Below w.heap.size w w') : RowsAt w' p n r :=
  ⟨(h.reads.below hb).more hb.size, h.len, h.big⟩
theorem RowsAt.drewN {w : World} {p : Option Addr} {n : Nat} {r : List B} (h : RowsAt w p n r) (k : Nat) : RowsAt (w.drewN k) p n r := ⟨h.reads, h.len, h.big⟩
theorem RowsAt.alloc {w : World} {p : Option Addr} {n : Nat} {r : List B} (h : RowsAt w p n r) (o : Obj) : RowsAt (w.alloc o) p n r :=
  h.below ((Below.refl _ _).alloc (Nat.le_refl _) o)
theorem RowsAt.cell {w : World} {p : Option Addr} {n : Nat} {r : List B} (h : RowsAt w p n r) {k : Nat} (hk : k < n) : ∃ ad, p = some ad ∧ ad.block < w.heap.size ∧ w.cell? (ad.add k) = some (.int .u64 (un (row r k) : Int)) := by
  obtain ⟨ad, u, rfl, hb, hu, hc⟩ := h.reads.at_ hk
  refine ⟨ad, rfl, hb, ?_⟩
  have hl : k < r.length := by rw [h.len]; exact hk
  rw [hc, ← hu]
  unfold u64s row
  simp [hl]
theorem below_next {w w1 w2 : World} (h : Below w.heap.size w w1) (h2 : Below w1.heap.size w1 w2) : Below w.heap.size w w2 := h.trans (h2.mono h.size)
theorem below_draws {b : Nat} {w w1 : World} (h : Below b w w1) (k : Nat) : Below b w (w1.drewN k) := ⟨h.os, h.tape, h.output, h.size, h.block⟩
/-- from a list of numbers that fit uint64 to sets -/
theorem sets_of (zs : List Int) (h : ∀ n ∈ zs, (Lit.int .u64 n).wf = true) : ∃ r : List B, zs = r.map (fun x : B => (un x : Int)) := by
  induction zs with
  | nil => exact ⟨[], rfl⟩
  | cons z zs ih =>
    obtain ⟨r, hr⟩ := ih (fun n hn => h n (List.mem_cons_of_mem _ hn))
    obtain ⟨x, hx⟩ := un_of (h z List.mem_cons_self)
    exact ⟨x :: r, by rw [List.map_cons, ← hx, ← hr]⟩
/-- what the shell of a law tells of a slice of uint64 -/
theorem rows_of {w : World} {a : Option Addr} {len cap : Nat} {zs : List Int}
    (h : (a = none ∧ len = 0 ∧ cap = 0 ∧ zs = []) ∨
      ∃ x, a = some x ∧ len ≤ cap ∧ cap ≤ maxLen ∧ zs.length = cap ∧ (∀ i, i < zs.length → w.cell? (x.add i) = some (.int .u64 (zs.getD i 0))) ∧ ∀ n ∈ zs, (Lit.int .u64 n).wf = true) :
    ∃ r : List B, RowsAt w a len r := by
  rcases h with ⟨rfl, rfl, rfl, rfl⟩ | ⟨x, rfl, hl, hm, hz, hc, hw⟩
  · exact ⟨[], Reads.none_, rfl, Nat.zero_le _⟩
  · obtain ⟨r, rfl⟩ := sets_of zs hw
    have hrl : r.length = cap := by simpa using hz
    refine ⟨r.take len, ⟨?_, fun hn => ⟨x, rfl, ?_, fun j u hj => ?_⟩⟩, ?_, by omega⟩
    · simp [u64s]; omega
    · have h0 := hc 0 (by simp; omega)
      have hb : (x.add 0).block = x.block := block_of_add x 0
      rw [← hb]
      rcases Nat.lt_or_ge (x.add 0).block w.heap.size with h1 | h1
      · exact h1
      · unfold World.cell? at h0
        rw [Array.getElem?_eq_none h1] at h0
        cases h0
    · have hjl : j < len := by
        have := (List.getElem?_eq_some_iff.1 hj).1
        simp [u64s] at this; omega
      rw [hc j (by simp; omega), ← hj]
      have hjr : j < r.length := by omega
      simp [u64s, hjl, hjr]
    · simp; omega
end Go.Proofs.YtklikjjipoghlaaDoor
