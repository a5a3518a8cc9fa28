/- A slice of stamps that a law is handed. Conditions: none. -/
import Derived.Test.YtlhhcgiifgkngaaDoorLogCheckW
import Derived.Deep.Slices
import Derived.Deep.Strs
import Derived.WideShapes
import Derived.SizedLaws
namespace Go.Proofs.YtlhhcgiifgkngaaDoor
open Go.RowKit Go.Shelf Go.ChangeShapes Go.WideShapes Go.Deep
theorem weightsS_mem {H : Type} {P : Program} {e : TypeId} {d : DataW H} {n : Nat} (hn : n ∈ d.weights P e) : ∀ {ds : List (DataW H)}, d ∈ ds → n ∈ DataW.weightsAll P e ds := by
  intro ds
  induction ds with
  | nil => intro h; cases h
  | cons x ds ih =>
    intro h
    rw [DataW.weightsAll]
    rcases List.mem_cons.1 h with rfl | h
    · exact List.mem_append_left _ hn
    · exact List.mem_append_right _ (ih h)
theorem trod_floatS {H : Type} {enc : TypeId × Value → H} {P : Program} {W : World} {t : TypeId} (ht : P.underlying t = some (.float .f64)) (n : Nat) (cs : List Value) (y : DataW H × List MemPlace)
    (h : DataW.trod enc P W 0 (fun _ => true) true n t cs = some y) : ∃ b, cs = [.float .f64 b] ∧ b < 2 ^ 64 := by
  cases n with
  | zero => simp [DataW.trod] at h
  | succ n =>
    unfold DataW.trod at h
    rw [ht] at h
    split at h <;> simp_all
    rename_i k b heq
    subst heq
    obtain ⟨⟨rfl, hw⟩, _⟩ := h
    simpa [Lit.wf] using hw
/-- stamps that the call is handed -/
def StampsAt (w : World) (v : Value) (_ : Unit) : Prop := ∃ p n c l, v = .slice p n c ∧ StAt w p n c l ∧ ∀ x ∈ l, stWf x
set_option maxRecDepth 100000 in
theorem stamps_arg {H : Type} {enc : TypeId × Value → H} {W : World} {r : Reach} {b0 : Nat} {v : Value} {d : DataW H} {p : List MemPlace}
    (hok : Value.okWide Tryd.prog W r b0 69 v) (hf : DataW.Trod enc Tryd.prog W 0 (fun _ => true) true 69 v d p)
    (hsz : ∀ n, n ∈ d.weights Tryd.prog 69 → n ≤ reachBytes) : ∃ g, StampsAt W v g := by
  obtain ⟨a0, n0, c0, rfl⟩ := Go.WideShapes.okWide_slice Tryd.underlying69 hok
  obtain ⟨fuel, hf⟩ := hf
  have ht := Tryd.underlying69
  have he := Tryd.underlying73
  have ce : Tryd.prog.cellsOf 73 = 3 := by kernel_rfl
  have k0 : Tryd.prog.cellsOf 9 = 1 := by kernel_rfl
  have k1 : Tryd.prog.cellsOf 2 = 1 := by kernel_rfl
  have k2 : Tryd.prog.cellsOf 63 = 1 := by kernel_rfl
  have hrb : reachBytes < 2 ^ 47 := reachBytes_lt
  rcases Go.Deep.open_slice ht hf with ⟨h1, _⟩ | ⟨ad, ln, cp, m, n, D, Pl, h1, _, h3, _, h5, h6, h7⟩
  · injection h1 with h1 _
    injection h1 with e1 e2 e3
    subst e1 e2 e3
    exact ⟨(), none, 0, 0, [], rfl, StAt.nil_ _ _ _, fun x hx => by cases hx⟩
  · injection h1 with h1 _
    injection h1 with e1 e2 e3
    subst e1 e2 e3
    simp only [if_true] at h5
    subst h5
    injection h6 with h6 _
    have hel : ∀ i, i < n0 → ∀ k, k ∈ (D i).weights Tryd.prog 73 → k ≤ reachBytes := by
      intro i hi k hk
      refine hsz k ?_
      rw [h6, DataW.weights, ht]
      refine List.mem_cons_of_mem _ (List.mem_append_left _ (weightsS_mem hk ?_))
      exact List.mem_map.2 ⟨i, List.mem_range.2 hi, rfl⟩
    have hex : ∀ i, i < n0 → ∃ x : StP, W.cell? (ad.add (i * 3)) = some (sN x) ∧ W.cell? (ad.add (i * 3 + 1)) = some (sA x) ∧ W.cell? (ad.add (i * 3 + 2)) = some (sT x) ∧ stWf x := by
      intro i hi
      obtain ⟨cs, g1, g2⟩ := h7 i (by omega)
      rw [ce] at g1
      obtain ⟨_, hlen, hcell⟩ := World.cells?_some g1
      obtain ⟨y0, y1, y2, n', hD, _, t0, t1, t2⟩ := Go.Deep.trod_struct3 he g2
      match cs, hlen with
      | [v0, v1, v2], _ =>
        have t0' : DataW.trod enc Tryd.prog W 0 (fun _ => true) true n' 9 [v0] = some y0 := by simpa [k0] using t0
        have t1' : DataW.trod enc Tryd.prog W 0 (fun _ => true) true n' 2 [v1] = some y1 := by simpa [k1] using t1
        have t2' : DataW.trod enc Tryd.prog W 0 (fun _ => true) true n' 63 [v2] = some y2 := by simpa [k2] using t2
        obtain ⟨s, es, hy0, _⟩ := DataW.trod_string Tryd.underlying9 t0'
        obtain ⟨a, ea, _, _⟩ := DataW.trod_int Tryd.underlying2 t1'
        obtain ⟨b, eb, hb⟩ := trod_floatS Tryd.underlying63 _ _ _ t2'
        injection es with es _
        injection ea with ea _
        injection eb with eb _
        subst es ea eb
        have q0 := hcell 0 (by omega)
        have q1 := hcell 1 (by omega)
        have q2 := hcell 2 (by omega)
        rw [add_add] at q0 q1 q2
        refine ⟨(s, a, b), by simpa [sN] using q0, by simpa [sA] using q1, by simpa [sT] using q2, ?_, hb⟩
        have hD' : D i = .agg [y0.1, y1.1, y2.1] := by injection hD
        have := hel i hi s.size (by
          rw [hD', hy0]
          simp only [DataW.weights, he, List.map_cons, List.map_nil, DataW.weightsEach, List.mem_append]
          simp)
        show s.size ≤ _
        omega
    obtain ⟨l, hl, hq⟩ := list_of n0 _ hex
    have hb := hsz ((n0 + (m - n0)) * Tryd.prog.bytesOf 73) (by
      rw [h6, DataW.weights, ht]
      simp)
    have hby : Tryd.prog.bytesOf 73 = 32 := by kernel_rfl
    rw [hby] at hb
    refine ⟨(), some ad, n0, m, l, rfl, ⟨hl, fun hn => ?_, by omega⟩, fun x hx => ?_⟩
    · have h00 := (hq 0 (l[0]'(by omega)) (List.getElem?_eq_getElem (by omega))).1
      obtain ⟨b, o, s⟩ := ad
      have hs : s = none := by simpa [Addr.add] using World.cell?_spot h00
      subst hs
      refine ⟨b, o, rfl, ?_, fun k x hx => ?_⟩
      · have := World.block_lt_of_cell? W _ h00
        rwa [block_of_add] at this
      · obtain ⟨r0, r1, r2, _⟩ := hq k x hx
        rw [Addr.add_lit] at r0 r1 r2
        exact ⟨r0, r1, r2⟩
    · obtain ⟨k, hk, rfl⟩ := List.mem_iff_getElem.1 hx
      exact (hq k _ (List.getElem?_eq_getElem hk)).2.2.2
end Go.Proofs.YtlhhcgiifgkngaaDoor
