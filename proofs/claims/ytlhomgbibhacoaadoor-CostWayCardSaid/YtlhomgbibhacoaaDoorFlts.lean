/- A slice of float64 that the call is handed, as a list of bit vectors. Conditions: none. -/
import Derived.Test.YtlhomgbibhacoaaDoorSpanSumW
import Derived.Test.YtlhomgbibhacoaaDoorSpanOrderW
import Derived.ChangeArms
import Derived.ChangeSlices
import Derived.SizedLaws
namespace Go.Proofs.YtlhomgbibhacoaaDoor
open Go.RowKit Go.ChangeShapes
/-- a slice whose elements are one cell each: its cells -/
theorem gen_arg {H : Type} {enc : TypeId × Value → H} {P : Program} {W : World} {t e : TypeId} {fuel len cap : Nat} {a : Option Addr} {x : DataW H × List MemPlace} {R : Value → Prop}
    (ht : P.underlying t = some (.slice e)) (hc : P.cellsOf e = 1)
    (hel : ∀ n cs y, DataW.trod enc P W 0 (fun _ => true) true n e cs = some y → ∃ u, cs = [u] ∧ R u)
    (hf : DataW.trod enc P W 0 (fun _ => true) true fuel t [.slice a len cap] = some x) :
    len ≤ cap ∧ cap ≤ maxLen ∧ (cap = 0 ∨ ∃ els rest, x.1 = .slice els rest ∧ els.length + rest.length = cap) ∧ ∃ vs : List Value, vs.length = len ∧ Reads W W.heap.size 1 a len vs ∧ ∀ v ∈ vs, R v := by
  rcases DataW.trod_slice ht hf with ⟨h1, h2⟩ | ⟨ad, ln, cp, elems, rest, n, _, h1, rfl, hb, hl, hm, hlen, hel', hsp, _⟩
  · injection h1 with h1 _
    injection h1 with e1 e2 e3
    subst e1 e2 e3
    exact ⟨Nat.le_refl _, Nat.zero_le _, .inl rfl, [], rfl, Reads.none_, fun v hv => by cases hv⟩
  · injection h1 with h1 _
    injection h1 with e1 e2 e3
    subst e1 e2 e3
    have cell : ∀ i, i < len → ∃ u, W.cell? (ad.add i) = some u ∧ R u := fun i hi => by
      have h3 := hel' i hi
      have hi' : i < elems.length := by omega
      rw [List.getElem?_eq_getElem hi', hc, Nat.mul_one, Option.bind_eq_some_iff] at h3
      obtain ⟨cs, h4, h5⟩ := h3
      obtain ⟨u, rfl, hr⟩ := hel _ _ _ h5
      exact ⟨u, cell_of_cells?_one h4, hr⟩
    refine ⟨hl, hm, .inr ⟨_, _, rfl, ?_⟩, (List.range len).map (fun i => (W.cell? (ad.add i)).getD undef), by simp, ⟨by simp, fun hn => ⟨ad, rfl, ?_, fun j u hj => ?_⟩⟩, fun v hv => ?_⟩
    · rw [List.length_map, List.length_map, hlen, (hsp rfl).1]; omega
    · obtain ⟨u, h4, _⟩ := cell 0 hn
      have := World.block_lt_of_cell? W _ h4
      rwa [block_of_add] at this
    · rw [List.getElem?_map, Option.map_eq_some_iff] at hj
      obtain ⟨i, hi, rfl⟩ := hj
      obtain ⟨hi1, hi2⟩ := List.getElem?_eq_some_iff.1 hi
      rw [List.getElem_range] at hi2
      subst hi2
      obtain ⟨u, h4, _⟩ := cell j (by simpa using hi1)
      rw [h4]; rfl
    · rw [List.mem_map] at hv
      obtain ⟨i, hi, rfl⟩ := hv
      obtain ⟨u, h4, hr⟩ := cell i (by simpa using hi)
      rw [h4]; exact hr
theorem trod_float1 {H : Type} {enc : TypeId × Value → H} {P : Program} {W : World} {t : TypeId} (ht : P.underlying t = some (.float .f64)) (n : Nat) (cs : List Value) (y : DataW H × List MemPlace)
    (h : DataW.trod enc P W 0 (fun _ => true) true n t cs = some y) : ∃ u, cs = [u] ∧ ∃ x : B, u = .float .f64 (un x) := by
  cases n with
  | zero => simp [DataW.trod] at h
  | succ n =>
    unfold DataW.trod at h
    rw [ht] at h
    split at h <;> simp_all
    rename_i k b heq
    subst heq
    obtain ⟨⟨rfl, hw⟩, _⟩ := h
    exact f64_of hw
theorem flts_of (vs : List Value) (h : ∀ v ∈ vs, ∃ x : B, v = Value.float .f64 (un x)) : ∃ l : List B, vs = flts l := by
  induction vs with
  | nil => exact ⟨[], rfl⟩
  | cons v vs ih =>
    obtain ⟨l, hl⟩ := ih (fun v hv => h v (List.mem_cons_of_mem _ hv))
    obtain ⟨x, hx⟩ := h v List.mem_cons_self
    exact ⟨x :: l, by rw [hl, hx]; rfl⟩
structure FltsAt (w : World) (p : Option Addr) (n : Nat) (l : List B) : Prop where
  reads : Reads w w.heap.size 1 p n (flts l)
  len : l.length = n
  big : n ≤ 17592186043904
theorem FltsAt.below {w w' : World} {p : Option Addr} {n : Nat} {l : List B} (h : FltsAt w p n l) (hb : Below w.heap.size w w') : FltsAt w' p n l :=
  ⟨(h.reads.below hb).more hb.size, h.len, h.big⟩
theorem FltsAt.cell {w : World} {p : Option Addr} {n : Nat} {l : List B} (h : FltsAt w p n l) {k : Nat} (hk : k < n) : ∃ ad, p = some ad ∧ ad.block < w.heap.size ∧ w.cell? (ad.add k) = some (.float .f64 (un (l.getD k 0#64))) := by
  obtain ⟨ad, u, rfl, hb, hu, hc⟩ := h.reads.at_ hk
  refine ⟨ad, rfl, hb, ?_⟩
  have hl : k < l.length := by rw [h.len]; exact hk
  rw [hc, ← hu]
  unfold flts
  rw [List.getElem?_map, List.getD_eq_getElem?_getD, List.getElem?_eq_getElem hl]
  rfl
def FltArg (w : World) (p : Option Addr) (n c : Nat) : Prop := n ≤ c ∧ ∃ l, FltsAt w p n l
theorem flt_arg {H : Type} {enc : TypeId × Value → H} {W : World} {fuel len cap : Nat} {a : Option Addr} {d : DataW H} {p : List MemPlace}
    (hf : DataW.trod enc Tryd.prog W 0 (fun _ => true) true fuel 32 [.slice a len cap] = some (d, p))
    (hsz : ∀ n, n ∈ d.weights Tryd.prog 32 → n ≤ reachBytes) : FltArg W a len cap := by
  obtain ⟨h1, h2, h3, vs, h4, h5, h6⟩ := gen_arg Tryd.underlying32 (by kernel_rfl) (trod_float1 Tryd.underlying22) hf
  obtain ⟨l, rfl⟩ := flts_of vs h6
  refine ⟨h1, l, h5, by simpa [flts] using h4, ?_⟩
  rcases h3 with h3 | ⟨els, rest, h3, h7⟩
  · omega
  · have h3' : d = .slice els rest := h3
    have hw : d.weights Tryd.prog 32 = (els.length + rest.length) * Tryd.prog.bytesOf 22 :: (DataW.weightsAll Tryd.prog 22 els ++ DataW.weightsAll Tryd.prog 22 rest) := by
      rw [h3', DataW.weights, Tryd.underlying32]
    have hb := hsz _ (by rw [hw]; exact List.mem_cons_self)
    have hby : Tryd.prog.bytesOf 22 = 8 := by kernel_rfl
    have hrb : reachBytes = 140737488351232 := by decide +kernel
    rw [hby] at hb
    omega
end Go.Proofs.YtlhomgbibhacoaaDoor
