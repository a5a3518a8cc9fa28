/- The fact names of the laws; what the call owns, as a slice of strings; the slice that a law is handed. Conditions: none. -/
import Derived.Test.YtlhhcgiifgkngaaDoorSortN
namespace Go.Proofs.YtlhhcgiifgkngaaDoor
open Go.RowKit Go.Shelf Go.Maps Go.Sort Go.ChangeShapes
/-- bytes as strings -/
def bz (bs : List (List UInt8)) : List ByteArray := bs.map fun l => ⟨l.toArray⟩
theorem byt_bz (bs : List (List UInt8)) : byt (bz bs) = bs := by
  unfold byt bz; rw [List.map_map]; exact (List.map_congr_left fun l _ => rfl).trans (List.map_id bs)
theorem bz_byt (zs : List ByteArray) : bz (byt zs) = zs := by
  unfold byt bz; rw [List.map_map]; exact (List.map_congr_left fun l _ => rfl).trans (List.map_id zs)
theorem bz_strs (bs : List (List UInt8)) : strsV (bz bs) = bs.map encStr := by unfold strsV bz; rw [List.map_map]; rfl
theorem bz_len (bs : List (List UInt8)) : (bz bs).length = bs.length := List.length_map ..
/-- what the call owns -/
theorem NL_own {w : World} {base n c : Nat} {g : Option Addr} {zs : List ByteArray} (h : w.ownsRow base 9 1 (.slice g n c) n (strsV zs)) (hs : ∀ s ∈ zs, s.size ≤ 4611686018427387904) (hn : n * 16 ≤ 140737488351232) : NL w g n c zs := by
  have hl : zs.length = n := by have := h.1; simpa [strsV] using this
  refine ⟨⟨hl, Reads.of_own h, hs, by omega⟩, ?_, ?_, hn⟩
  · intro hg
    rcases h.2 with ⟨h1, _⟩ | ⟨b, cap, cur, h1, _⟩
    · injection h1
    · injection h1 with e1 e2 e3; rw [hg] at e1; cases e1
  · intro ad hg
    rcases h.2 with ⟨h1, _⟩ | ⟨b, cap, cur, h1, h2, h3, _⟩
    · injection h1 with e1; rw [hg] at e1; cases e1
    · injection h1 with e1 e2 e3
      rw [hg] at e1
      injection e1 with e1
      exact ⟨b, 0, e1, (Array.getElem?_eq_some_iff.1 h3).1⟩
theorem NL_two (w : World) (x y : ByteArray) (hx : x.size ≤ 4611686018427387904) (hy : y.size ≤ 4611686018427387904) : NL (w.alloc (.cells #[.string x, .string y] 9)) (some ⟨w.heap.size, 0, none⟩) 2 2 [x, y] := by
  refine ⟨⟨rfl, ⟨rfl, fun _ => ⟨_, rfl, by simp, fun j u hu => ?_⟩⟩, ?_, by omega⟩, fun h => (by cases h), fun ad h => ?_, by omega⟩
  rotate_right
  · injection h with h
    exact ⟨w.heap.size, 0, h.symm, by simp⟩
  · match j, hu with
    | 0, hu => injection hu with hu; subst hu; show World.cell? _ ⟨w.heap.size, 0, none⟩ = _; rw [World.cell?_alloc_at _ _ _ _ rfl]; rfl
    | 1, hu => injection hu with hu; subst hu; show World.cell? _ ⟨w.heap.size, 1, none⟩ = _; rw [World.cell?_alloc_at _ _ _ _ rfl]; rfl
  · intro s hs
    rcases List.mem_cons.1 hs with rfl | hs
    · exact hx
    · rw [List.mem_singleton.1 hs]; exact hy
theorem two_sorted : sortN [(⟨#[98]⟩ : ByteArray), ⟨#[97]⟩] = [[97], [98]] :=
  strict_ext (sortN_strict _) (by decide) fun x => by rw [sortN_mem]; simp [byt, or_comm]
theorem two_okN : okN [(⟨#[98]⟩ : ByteArray), ⟨#[97]⟩] 2 := fun j hj => by
  match j, hj with
  | 0, _ => decide +kernel
  | 1, _ => decide +kernel
end Go.Proofs.YtlhhcgiifgkngaaDoor
