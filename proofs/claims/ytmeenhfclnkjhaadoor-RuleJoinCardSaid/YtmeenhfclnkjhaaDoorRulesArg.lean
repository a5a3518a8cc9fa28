/- A slice of rules that a law is handed. Conditions: none. -/
import Derived.Test.YtmeenhfclnkjhaaDoorRuleAskW
import Derived.Test.YtmeenhfclnkjhaaDoorRuleBackW
namespace Go.Proofs.YtmeenhfclnkjhaaDoor
open Go.RowKit Go.Shelf Go.ChangeShapes Go.WideShapes
def WkOk (W : World) (a : Option Addr) (len cap : Nat) : Prop := (∃ zs, NLw W a len cap zs) ∧ len ≤ cap
theorem nlw_any {H : Type} {enc : TypeId × Value → H} {W : World} {fuel : Nat} {v : Value} {d : DataW H} {p : List MemPlace}
    (hf : DataW.trod enc Tryd.prog W 0 (fun _ => true) true fuel 35 [v] = some (d, p))
    (hsz : ∀ n, n ∈ d.weights Tryd.prog 35 → n ≤ reachBytes) : ∃ a len cap, v = .slice a len cap ∧ WkOk W a len cap := by
  have ht := Tryd.underlying35
  have he := Tryd.underlying9
  have hc : Tryd.prog.cellsOf 9 = 1 := by kernel_rfl
  rcases open_strings ht he hc hf with ⟨h1, h2⟩ | ⟨ad, ln, cp, zs, h1, h2, h3, h4, h5, h6, h7, h8⟩
  · injection h1 with h1 _
    subst h1
    exact ⟨none, 0, 0, rfl, ⟨[], ⟨rfl, Reads.none_, fun s hs => (by cases hs), by omega⟩, fun h => by omega, by omega⟩, Nat.le_refl _⟩
  · injection h1 with h1 _
    subst h1
    obtain ⟨ss, hS⟩ := str_arg ht he hc hf hsz
    refine ⟨some ad, ln, cp, rfl, ⟨ss, hS, fun h0 ad' e => ?_, ?_⟩, ?_⟩
    · injection e with e
      subst e
      obtain ⟨b, o, s⟩ := ad
      have h5' := h5
      simp only [if_true] at h5'
      have hcell := h7 0 (by omega)
      have hs : s = none := by simpa [Addr.add] using World.cell?_spot hcell
      subst hs
      refine ⟨b, o, rfl, ?_⟩
      have := World.block_lt_of_cell? W _ hcell
      rwa [block_of_add] at this
    · injection h6 with h6 h6'
      have hw : d.weights Tryd.prog 35 = ((strs (H := H) (zs.take ln)).length + (strs (H := H) (zs.drop ln)).length) * Tryd.prog.bytesOf 9 :: (DataW.weightsAll Tryd.prog 9 (strs (H := H) (zs.take ln)) ++ DataW.weightsAll Tryd.prog 9 (strs (H := H) (zs.drop ln))) := by
        rw [h6, DataW.weights, ht]
      have hb := hsz _ (by rw [hw]; exact List.mem_cons_self)
      have hby : Tryd.prog.bytesOf 9 = 16 := by kernel_rfl
      rw [hby] at hb
      unfold reachBytes at hb
      simp only [if_true] at h5
      have hl1 : (strs (H := H) (zs.take ln)).length = ln := by unfold strs; rw [List.length_map, List.length_take]; omega
      rw [hl1] at hb
      omega
    · omega
theorem weightsAll_mem {H : Type} {P : Program} {e : TypeId} {d : DataW H} {n : Nat} (hn : n ∈ d.weights P e) : ∀ {ds : List (DataW H)}, d ∈ ds → n ∈ DataW.weightsAll P e ds := by
  intro ds
  induction ds with
  | nil => intro h; cases h
  | cons x ds ih =>
    intro h
    rw [DataW.weightsAll]
    rcases List.mem_cons.1 h with rfl | h
    · exact List.mem_append_left _ hn
    · exact List.mem_append_right _ (ih h)
/-- the slice of pairs that a law is handed, each field of a weight that is told -/
theorem p2_argw {A B H : Type} {enc : TypeId × Value → H} {P : Program} {W : World} {fuel len cap : Nat} {a : Option Addr} {d : DataW H} {p : List MemPlace} {t e : TypeId} {f0 f1 : Field} (F : A → Value) (G : B → Value)
    (ht : P.underlying t = some (.slice e)) (he : P.underlying e = some (.struct #[f0, f1])) (ce : P.cellsOf e = 2) (o0 : f0.offset = 0) (o1 : f1.offset = 1) (c0 : P.cellsOf f0.type = 1) (c1 : P.cellsOf f1.type = 1)
    (hF : ∀ n v x, DataW.trod enc P W 0 (fun _ => true) true n f0.type [v] = some x → (∀ k, k ∈ x.1.weights P f0.type → k ≤ reachBytes) → ∃ a, v = F a)
    (hG : ∀ n v x, DataW.trod enc P W 0 (fun _ => true) true n f1.type [v] = some x → (∀ k, k ∈ x.1.weights P f1.type → k ≤ reachBytes) → ∃ b, v = G b)
    (hby : 16 ≤ P.bytesOf e) (hf : DataW.trod enc P W 0 (fun _ => true) true fuel t [.slice a len cap] = some (d, p)) (hsz : ∀ n, n ∈ d.weights P t → n ≤ reachBytes) :
    ∃ l : List (A × B), P2At (fun x => F x.1) (fun x => G x.2) W a len cap l := by
  rcases Go.Deep.open_slice_pairs ht he ce o0 o1 c0 c1 hf with ⟨h1, _⟩ | ⟨ad, ln, cp, m, n, V0, V1, D0, D1, P0, P1, h1, _, h3, _, h5, h6, h7⟩
  · injection h1 with h1 _
    injection h1 with e1 e2 e3
    subst e1 e2 e3
    exact ⟨[], rfl, fun h => by omega, by omega⟩
  · injection h1 with h1 _
    injection h1 with e1 e2 e3
    subst e1 e2 e3
    simp only [if_true] at h5
    subst h5
    injection h6 with h6 _
    have hel : ∀ i, i < len → ∀ k, k ∈ (DataW.agg [D0 i, D1 i]).weights P e → k ≤ reachBytes := by
      intro i hi k hk
      refine hsz k ?_
      rw [h6, DataW.weights, ht]
      refine List.mem_cons_of_mem _ (List.mem_append_left _ (weightsAll_mem hk ?_))
      exact List.mem_map.2 ⟨i, List.mem_range.2 hi, rfl⟩
    have hex : ∀ i, i < len → ∃ q : A × B, W.cell? (ad.add (i * 2)) = some (F q.1) ∧ W.cell? (ad.add (i * 2 + 1)) = some (G q.2) := by
      intro i hi
      obtain ⟨k1, k2, k3, k4⟩ := h7 i (by omega)
      obtain ⟨x, hx⟩ := hF _ _ _ k3 (fun k hk => hel i hi k (by simp only [DataW.weights, he, List.map_cons, List.map_nil, DataW.weightsEach, List.mem_append]; exact .inl hk))
      obtain ⟨y, hy⟩ := hG _ _ _ k4 (fun k hk => hel i hi k (by simp only [DataW.weights, he, List.map_cons, List.map_nil, DataW.weightsEach, List.mem_append]; exact .inr (.inl hk)))
      exact ⟨(x, y), by rw [k1, hx], by rw [k2, hy]⟩
    obtain ⟨l, hl, hq⟩ := list_of len _ hex
    have hb := hsz ((len + (m - len)) * P.bytesOf e) (by
      rw [h6, DataW.weights, ht]
      simp)
    have hrb : reachBytes < 2 ^ 47 := reachBytes_lt
    have hmul : (len + (m - len)) * 16 ≤ (len + (m - len)) * P.bytesOf e := Nat.mul_le_mul_left _ hby
    refine ⟨l, hl, fun hn => ?_, by omega⟩
    obtain ⟨b, o, s⟩ := ad
    have hs : s = none := by
      have h0 := (h7 0 (by omega)).1
      simpa [Addr.add] using World.cell?_spot h0
    subst hs
    refine ⟨b, o, rfl, ?_, fun k x hx => ?_⟩
    · have := World.block_lt_of_cell? W _ (h7 0 (by omega)).1
      rwa [block_of_add] at this
    · have := hq k x hx
      rw [Addr.add_lit, Addr.add_lit] at this
      exact this
def RulesAt (w : World) (v : Value) (_ : Unit) : Prop := ∃ p n c l, v = .slice p n c ∧ RulesIn w p n c l
set_option maxRecDepth 100000 in
theorem rules_arg {H : Type} {enc : TypeId × Value → H} {W : World} {r : Reach} {b0 : Nat} {v : Value} {d : DataW H} {p : List MemPlace}
    (hok : Value.okWide Tryd.prog W r b0 46 v) (hf : DataW.Trod enc Tryd.prog W 0 (fun _ => true) true 46 v d p)
    (hsz : ∀ n, n ∈ d.weights Tryd.prog 46 → n ≤ reachBytes) : ∃ g, RulesAt W v g := by
  obtain ⟨a0, n0, c0, rfl⟩ := Go.WideShapes.okWide_slice Tryd.underlying46 hok
  obtain ⟨fuel, hf⟩ := hf
  have hS : ∀ n v x, DataW.trod enc Tryd.prog W 0 (fun _ => true) true n 35 [v] = some x → (∀ k, k ∈ x.1.weights Tryd.prog 35 → k ≤ reachBytes) → ∃ a : {x : Hd // x.ok W}, v = a.1.v := by
    rintro n v ⟨d, p⟩ h hw
    obtain ⟨a, len, cap, rfl, ⟨zs, hN⟩, hc⟩ := nlw_any h hw
    exact ⟨⟨⟨a, len, cap, zs⟩, hN, hc⟩, rfl⟩
  obtain ⟨l, hE⟩ := p2_argw (A := {x : Hd // x.ok W}) (B := {x : Hd // x.ok W}) (fun a => a.1.v) (fun a => a.1.v) Tryd.underlying46 Tryd.underlying37 (by kernel_rfl) rfl rfl (by kernel_rfl) (by kernel_rfl) hS hS (by decide +kernel) hf hsz
  refine ⟨(), a0, n0, c0, l.map (fun x => (x.1.1, x.2.1)), rfl, ⟨by rw [List.length_map]; exact hE.len, fun h0 => ?_, hE.big⟩, fun x hx => ?_, slice_cap Tryd.underlying46 hok⟩
  · obtain ⟨b, o, e, hb, hc⟩ := hE.at_ h0
    refine ⟨b, o, e, hb, fun k x hx => ?_⟩
    rw [List.getElem?_map, Option.map_eq_some_iff] at hx
    obtain ⟨y, hy, rfl⟩ := hx
    exact hc k y hy
  · obtain ⟨y, _, rfl⟩ := List.mem_map.1 hx
    exact ⟨y.1.2, y.2.2⟩
end Go.Proofs.YtmeenhfclnkjhaaDoor
