/- A slice of int that the call is handed, with its size. Conditions: none. -/
import Derived.Test.YtlhomgbibhacoaaDoorFlts
namespace Go.Proofs.YtlhomgbibhacoaaDoor
open Go.RowKit Go.ChangeShapes
def i64s (zs : List Int) : List Value := zs.map (Value.int .i64)
structure IntAt (w : World) (p : Option Addr) (n : Nat) (zs : List Int) : Prop where
  reads : Reads w w.heap.size 1 p n (i64s zs)
  len : zs.length = n
  big : n ≤ 17592186043904
theorem IntAt.below {w w' : World} {p : Option Addr} {n : Nat} {zs : List Int} (h : IntAt w p n zs) (hb : Below w.heap.size w w') : IntAt w' p n zs :=
  ⟨(h.reads.below hb).more hb.size, h.len, h.big⟩
theorem IntAt.cell {w : World} {p : Option Addr} {n : Nat} {zs : List Int} (h : IntAt w p n zs) {k : Nat} (hk : k < n) : ∃ ad, p = some ad ∧ ad.block < w.heap.size ∧ w.cell? (ad.add k) = some (.int .i64 (zs.getD k 0)) := by
  obtain ⟨ad, u, rfl, hb, hu, hc⟩ := h.reads.at_ hk
  refine ⟨ad, rfl, hb, ?_⟩
  have hl : k < zs.length := by rw [h.len]; exact hk
  rw [hc, ← hu]
  unfold i64s
  rw [List.getElem?_map, List.getD_eq_getElem?_getD, List.getElem?_eq_getElem hl]
  rfl
def IntArg (w : World) (p : Option Addr) (n _c : Nat) : Prop := ∃ zs, IntAt w p n zs
theorem i64s_of (vs : List Value) (h : ∀ v ∈ vs, ∃ x : Int, v = Value.int .i64 x) : ∃ l : List Int, vs = i64s l := by
  induction vs with
  | nil => exact ⟨[], rfl⟩
  | cons v vs ih =>
    obtain ⟨l, hl⟩ := ih (fun v hv => h v (List.mem_cons_of_mem _ hv))
    obtain ⟨x, hx⟩ := h v List.mem_cons_self
    exact ⟨x :: l, by rw [hl, hx]; rfl⟩
theorem int_arg {H : Type} {enc : TypeId × Value → H} {W : World} {fuel len cap : Nat} {a : Option Addr} {d : DataW H} {p : List MemPlace}
    (hf : DataW.trod enc Tryd.prog W 0 (fun _ => true) true fuel 40 [.slice a len cap] = some (d, p))
    (hsz : ∀ n, n ∈ d.weights Tryd.prog 40 → n ≤ reachBytes) : IntArg W a len cap := by
  obtain ⟨h1, h2, h3, vs, h4, h5, h6⟩ := gen_arg (R := fun u => ∃ x : Int, u = .int .i64 x) Tryd.underlying40 (by kernel_rfl) (fun n cs y h => by
    obtain ⟨z, rfl, _, _⟩ := DataW.trod_int Tryd.underlying3 h
    exact ⟨_, rfl, z, rfl⟩) hf
  obtain ⟨l, rfl⟩ := i64s_of vs h6
  refine ⟨l, h5, by simpa [i64s] using h4, ?_⟩
  rcases h3 with h3 | ⟨els, rest, h3, h7⟩
  · omega
  · have h3' : d = .slice els rest := h3
    have hw : d.weights Tryd.prog 40 = (els.length + rest.length) * Tryd.prog.bytesOf 3 :: (DataW.weightsAll Tryd.prog 3 els ++ DataW.weightsAll Tryd.prog 3 rest) := by
      rw [h3', DataW.weights, Tryd.underlying40]
    have hb := hsz _ (by rw [hw]; exact List.mem_cons_self)
    have hby : Tryd.prog.bytesOf 3 = 8 := by kernel_rfl
    have hrb : reachBytes = 140737488351232 := by decide +kernel
    rw [hby] at hb
    omega
end Go.Proofs.YtlhomgbibhacoaaDoor
