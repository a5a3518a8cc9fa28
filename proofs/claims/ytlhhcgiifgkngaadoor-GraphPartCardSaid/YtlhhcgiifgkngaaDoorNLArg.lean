/- A slice of strings that a law is handed, with where it lies. Conditions: none. -/
import Derived.Test.YtlhhcgiifgkngaaDoorNamesW
import Derived.WideShapes
namespace Go.Proofs.YtlhhcgiifgkngaaDoor
open Go.RowKit Go.ChangeShapes
theorem shape_lt {w : World} {b : Nat} {r : TypeId × Nat} (h : w.shape? b = some r) : b < w.heap.size := by
  unfold World.shape? at h
  rcases Nat.lt_or_ge b w.heap.size with hb | hb
  · exact hb
  · rw [Array.getElem?_eq_none hb] at h; cases h
theorem slice_plain {P : Program} {W : World} {b0 : Nat} {r : Reach} {a : Option Addr} {len cap : Nat} {t e : TypeId} (ht : P.underlying t = some (.slice e)) (h : Value.okWide P W r b0 t (.slice a len cap)) :
    (a = none → cap = 0) ∧ ∀ ad, a = some ad → ∃ b off, ad = ⟨b, off, none⟩ ∧ b < W.heap.size := by
  simp only [Value.okWide, ht, Cell.okWide] at h
  unfold Cell.ok at h
  rw [ht] at h
  cases a with
  | none =>
    refine ⟨fun _ => ?_, fun ad h => by cases h⟩
    revert h
    cases len <;> cases cap <;> simp
  | some ad =>
    refine ⟨fun h => (by cases h), fun ad' h' => ?_⟩
    injection h' with h'
    subst h'
    obtain ⟨_, _, _, hs, row, cells, hsh, _⟩ := h
    obtain ⟨b, o, s⟩ := ad
    simp only at hs
    subst hs
    exact ⟨b, o, rfl, shape_lt hsh⟩
def NLArg (w : World) (p : Option Addr) (n c : Nat) : Prop := ∃ zs, NL w p n c zs
set_option maxRecDepth 100000 in
theorem nl_arg {H : Type} {enc : TypeId × Value → H} {W : World} {r : Reach} {b0 fuel len cap : Nat} {a : Option Addr} {d : DataW H} {p : List MemPlace}
    (hok : Value.okWide Tryd.prog W r b0 22 (.slice a len cap))
    (ht : Tryd.prog.underlying 22 = some (.slice 9)) (he : Tryd.prog.underlying 9 = some .string) (hc : Tryd.prog.cellsOf 9 = 1)
    (hf : DataW.trod enc Tryd.prog W 0 (fun _ => true) true fuel 22 [.slice a len cap] = some (d, p))
    (hsz : ∀ n, n ∈ d.weights Tryd.prog 22 → n ≤ reachBytes) : NLArg W a len cap := by
  obtain ⟨ss, hS⟩ := str_arg ht he hc hf hsz
  obtain ⟨h1, h2⟩ := slice_plain ht hok
  refine ⟨ss, hS, h1, h2, ?_⟩
  rcases open_strings ht he hc hf with ⟨h1, h2⟩ | ⟨ad, ln, cp, zs, h1, h2, h3, h4, h5, h6, h7, h8⟩
  · injection h1 with h1 _
    injection h1 with e1 e2 e3
    subst e1 e2 e3
    omega
  · injection h1 with h1 _
    injection h1 with e1 e2 e3
    subst e1 e2 e3
    injection h6 with h6 h6'
    have hw : d.weights Tryd.prog 22 = ((strs (H := H) (zs.take len)).length + (strs (H := H) (zs.drop len)).length) * Tryd.prog.bytesOf 9 :: (DataW.weightsAll Tryd.prog 9 (strs (H := H) (zs.take len)) ++ DataW.weightsAll Tryd.prog 9 (strs (H := H) (zs.drop len))) := by
      rw [h6, DataW.weights, ht]
    have hb := hsz _ (by rw [hw]; exact List.mem_cons_self)
    have hby : Tryd.prog.bytesOf 9 = 16 := by kernel_rfl
    rw [hby] at hb
    unfold reachBytes at hb
    simp only [if_true] at h5
    have hl1 : (strs (H := H) (zs.take len)).length = len := by unfold strs; rw [List.length_map, List.length_take]; omega
    rw [hl1] at hb
    omega
end Go.Proofs.YtlhhcgiifgkngaaDoor
