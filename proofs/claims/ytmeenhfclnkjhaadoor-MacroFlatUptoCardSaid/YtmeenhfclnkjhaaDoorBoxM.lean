/- Blocks of the call's own that hold one or five cells. Conditions: none. -/
import Derived.Test.YtmeenhfclnkjhaaDoorMacroW
namespace Go.Proofs.YtmeenhfclnkjhaaDoor
open Go.RowKit Go.Shelf
theorem mx1 {w : World} {b : Nat} {t : TypeId} {v0 : Value} (h : w.heap[b]? = some (.cells #[v0] t (0, 0))) : w.cell? ⟨b, 0, none⟩ = some v0 ∧ w.frozen? ⟨b, 0, none⟩ = false := by
  refine ⟨?_, ?_⟩
  all_goals simp [World.cell?, World.frozen?, h]
theorem mx1_set {w : World} {b : Nat} {t : TypeId} {v0 : Value} (h : w.heap[b]? = some (.cells #[v0] t (0, 0))) (u : Value) : (w.setCell ⟨b, 0, none⟩ u).heap[b]? = some (.cells #[u] t (0, 0)) := by
  have := heap_setCell_same w b 0 _ t u h
  rw [this]; rfl
theorem mset_other {w : World} {a : Addr} {u : Value} {k : Nat} {o : Option Obj} (h : w.heap[k]? = o) (hne : k ≠ a.block) : (w.setCell a u).heap[k]? = o := by
  rw [heap_setCell_other w a k u hne]; exact h
theorem mhao (w : World) (o : Obj) (i : Nat) (h : i < w.heap.size) : (w.alloc o).heap[i]? = w.heap[i]? := by
  show (w.heap.push o)[i]? = w.heap[i]?
  rw [Array.getElem?_push, if_neg (Nat.ne_of_lt h)]
theorem mhan (w : World) (o : Obj) : (w.alloc o).heap[w.heap.size]? = some o := by
  show (w.heap.push o)[w.heap.size]? = some o
  simp
theorem mgrown_set (w : World) (a : Addr) (u : Value) : w.grownBy (w.setCell a u) (some a.block) :=
  ⟨rfl, rfl, rfl, by simp, fun k _ hk => heap_setCell_other w a k u (fun e => hk (by rw [e]))⟩
theorem mlt {w : World} {b : Nat} {o : Obj} (h : w.heap[b]? = some o) : b < w.heap.size := (Array.getElem?_eq_some_iff.1 h).1
theorem mnone {v : Value} : some v.ownBlock ≠ none := by simp
theorem own_none {w w' : World} {base e size n : Nat} {v : Value} {xs : List Value} (h : w.ownsRow base e size v n xs) (hg : w.grownBy w' none) : w'.ownsRow base e size v n xs := by
  refine h.kept hg ?_
  cases hq : v.ownBlock with
  | none => exact .inl rfl
  | some k => exact .inr (by simp)
theorem own_at {w w' : World} {base e size n b : Nat} {v : Value} {xs : List Value} (h : w.ownsRow base e size v n xs) (hg : w.grownBy w' (some b)) (hb : b < base) : w'.ownsRow base e size v n xs := by
  refine h.kept hg ?_
  cases hq : v.ownBlock with
  | none => exact .inl rfl
  | some k => exact .inr (fun e => by injection e with e; have := (h.lt k hq).1; omega)
theorem below_none {b : Nat} {w w' : World} (h : Below b w w') (h2 : b = w.heap.size) : w.grownBy w' none := ⟨h.os, h.tape, h.output, h.size, fun k hk _ => h.block k (by omega)⟩
theorem box_kept {w w' : World} {ob base e size n : Nat} {v : Value} {xs : List Value} {o : Obj} (hb : w.heap[ob]? = some o) (h : w.ownsRow base e size v n xs) (hlt : ob < base) (hg : w.grownBy w' v.ownBlock) : w'.heap[ob]? = some o := by
  rw [hg.block ob (mlt hb) (fun e => by have := (h.lt ob e.symm).1; omega)]
  exact hb
theorem own_low {w : World} {base base' size n : Nat} {e : TypeId} {v : Value} {xs : List Value} (h : w.ownsRow base e size v n xs) (hb : base' ≤ base) : w.ownsRow base' e size v n xs := by
  refine ⟨h.1, ?_⟩
  rcases h.2 with hn | ⟨g, cap, cur, rfl, h1, rest⟩
  · exact .inl hn
  · exact .inr ⟨g, cap, cur, rfl, Nat.le_trans hb h1, rest⟩
theorem mown_form {w : World} {base e n size : Nat} {v : Value} {xs : List Value} (h : w.ownsRow base e size v n xs) : ∃ (g : Option Addr) (c : Nat), v = .slice g n c := by
  rcases h.2 with ⟨rfl, rfl⟩ | ⟨g, cap, cur, rfl, _⟩
  · exact ⟨none, 0, rfl⟩
  · exact ⟨_, cap, rfl⟩
/-- slices.Contains at what the call owns -/
theorem owns_contains {w : World} {lo : Nat} {v : Value} {zs : List ByteArray} (h : w.ownsRow lo 9 1 v zs.length (strsV zs)) (hn : zs.length ≤ 9223372036854775807) (x : ByteArray) :
    Calls Tryd.prog 24 #[v, .string x] w fun e w' => e = .returned (.bool (Lib.containsS zs x)) ∧ w' = w := by
  rcases h.2 with ⟨rfl, h0⟩ | ⟨g, cap, cur, rfl, _, _, _, _, _, _⟩
  · have : zs = [] := List.length_eq_zero_iff.1 h0
    subst this
    exact Tryd.slices_Contains_string_empty none 0 x w
  · have hc := h.cells (g := g) rfl
    have := Tryd.slices_Contains_string g 0 zs.length cap zs x w (Nat.le_refl _) hn (fun j hj => by
      have h1 := hc j (.string (zs.getD j ByteArray.empty)) (by unfold strsV; rw [List.getElem?_map, List.getElem?_eq_getElem hj, List.getD_eq_getElem?_getD, List.getElem?_eq_getElem hj]; rfl)
      rw [Addr.add_lit] at h1
      exact h1)
    rw [List.take_length] at this
    exact this
end Go.Proofs.YtmeenhfclnkjhaaDoor
