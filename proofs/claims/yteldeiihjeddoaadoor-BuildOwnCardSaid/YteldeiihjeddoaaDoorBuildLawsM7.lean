/- Texts joined: NLArg, GraphArg, GenArg, SeenArg, BuildLaws. Conditions: theirs. -/
import Derived.Test.YteldeiihjeddoaaDoorNamesW
import Derived.WideShapes
import Derived.Test.YteldeiihjeddoaaDoorGraphW
import Derived.Test.YteldeiihjeddoaaDoorGraphCheckW
import Derived.ChangeArms
import Derived.Test.YteldeiihjeddoaaDoorMem
import Derived.ChangeSlices
import Derived.SizedLaws
import Derived.Test.YteldeiihjeddoaaDoorBuildLawsM2
import Derived.Test.YteldeiihjeddoaaDoorBuildLawsM6
namespace Go.Proofs.YteldeiihjeddoaaDoor
open Go.RowKit Go.ChangeShapes
theorem shape_lt {w : World} {b : Nat} {r : TypeId × Nat} (h : w.shape? b = some r) : b < w.heap.size := by
  unfold World.shape? at h
  rcases Nat.lt_or_ge b w.heap.size with hb | hb
  · exact hb
  · rw [Array.getElem?_eq_none hb] at h; cases h
theorem slice_plain {P : Program} {W : World} {b0 : Nat} {r : Reach} {a : Option Addr} {len cap : Nat} {t e : TypeId} (ht : P.underlying t = some (.slice e)) (h : Value.okWide P W r b0 t (.slice a len cap)) :
    (a = none → cap = 0) ∧ ∀ ad, a = some ad → ∃ b off, ad = ⟨b, off, none⟩ ∧ b < W.heap.size := by
  simp only [Value.okWide, ht, Cell.okWide] at h
  unfold Cell.ok at h
  rw [ht] at h
  cases a with
  | none =>
    refine ⟨fun _ => ?_, fun ad h => by cases h⟩
    revert h
    cases len <;> cases cap <;> simp
  | some ad =>
    refine ⟨fun h => (by cases h), fun ad' h' => ?_⟩
    injection h' with h'
    subst h'
    obtain ⟨_, _, _, hs, row, cells, hsh, _⟩ := h
    obtain ⟨b, o, s⟩ := ad
    simp only at hs
    subst hs
    exact ⟨b, o, rfl, shape_lt hsh⟩
def NLArg (w : World) (p : Option Addr) (n c : Nat) : Prop := ∃ zs, NL w p n c zs
set_option maxRecDepth 100000 in
theorem nl_arg {H : Type} {enc : TypeId × Value → H} {W : World} {r : Reach} {b0 fuel len cap : Nat} {a : Option Addr} {d : DataW H} {p : List MemPlace}
    (hok : Value.okWide Tryd.prog W r b0 22 (.slice a len cap))
    (ht : Tryd.prog.underlying 22 = some (.slice 9)) (he : Tryd.prog.underlying 9 = some .string) (hc : Tryd.prog.cellsOf 9 = 1)
    (hf : DataW.trod enc Tryd.prog W 0 (fun _ => true) true fuel 22 [.slice a len cap] = some (d, p))
    (hsz : ∀ n, n ∈ d.weights Tryd.prog 22 → n ≤ reachBytes) : NLArg W a len cap := by
  obtain ⟨ss, hS⟩ := str_arg ht he hc hf hsz
  obtain ⟨h1, h2⟩ := slice_plain ht hok
  refine ⟨ss, hS, h1, h2, ?_⟩
  rcases open_strings ht he hc hf with ⟨h1, h2⟩ | ⟨ad, ln, cp, zs, h1, h2, h3, h4, h5, h6, h7, h8⟩
  · injection h1 with h1 _
    injection h1 with e1 e2 e3
    subst e1 e2 e3
    omega
  · injection h1 with h1 _
    injection h1 with e1 e2 e3
    subst e1 e2 e3
    injection h6 with h6 h6'
    have hw : d.weights Tryd.prog 22 = ((strs (H := H) (zs.take len)).length + (strs (H := H) (zs.drop len)).length) * Tryd.prog.bytesOf 9 :: (DataW.weightsAll Tryd.prog 9 (strs (H := H) (zs.take len)) ++ DataW.weightsAll Tryd.prog 9 (strs (H := H) (zs.drop len))) := by
      rw [h6, DataW.weights, ht]
    have hb := hsz _ (by rw [hw]; exact List.mem_cons_self)
    have hby : Tryd.prog.bytesOf 9 = 16 := by kernel_rfl
    rw [hby] at hb
    unfold reachBytes at hb
    simp only [if_true] at h5
    have hl1 : (strs (H := H) (zs.take len)).length = len := by unfold strs; rw [List.length_map, List.length_take]; omega
    rw [hl1] at hb
    omega
end Go.Proofs.YteldeiihjeddoaaDoor
namespace Go.Proofs.YteldeiihjeddoaaDoor
open Go.RowKit Go.ChangeShapes Go.WideShapes
set_option maxRecDepth 100000 in
theorem graph_arg {H : Type} {enc : TypeId × Value → H} {W : World} {r : Reach} {b0 : Nat} {v : Value} {d : DataW H} {p : List MemPlace}
    (hok : Value.okWide Tryd.prog W r b0 26 v) (hf : DataW.Trod enc Tryd.prog W 0 (fun _ => true) true 26 v d p)
    (hsz : ∀ n, n ∈ d.weights Tryd.prog 26 → n ≤ reachBytes) : ∃ g, GrAt W v g := by
  have ht := Tryd.underlying26
  have hok2 := hok
  simp only [Value.okWide, ht] at hok2
  obtain ⟨cs, rfl, hcs, ts, hts, _, hcell⟩ := hok2
  have hc4 : cs.size = 4 := by rw [hcs]; kernel_rfl
  have hts4 : Tryd.prog.cellTypes Tryd.prog.depth 26 = some [22, 23, 24, 24] := by kernel_rfl
  rw [hts] at hts4
  injection hts4 with hts4
  subst hts4
  obtain ⟨fuel, hf⟩ := hf
  obtain ⟨xs, k, _, hxy, hlen, hxl, hff⟩ := DataW.trod_struct ht hf
  obtain ⟨l, rfl⟩ : ∃ l : List Value, cs = l.toArray := ⟨cs.toList, by simp⟩
  have hl4 : l.length = 4 := by simpa using hc4
  match l, hl4, xs, hxl with
  | [v0, v1, v2, v3], _, [y0, y1, y2, y3], _ =>
    have s0 : Tryd.prog.cellsOf 22 = 1 := by kernel_rfl
    have s1 : Tryd.prog.cellsOf 23 = 1 := by kernel_rfl
    have s2 : Tryd.prog.cellsOf 24 = 1 := by kernel_rfl
    have g0 := hff 0 _ rfl
    have g1 := hff 1 _ rfl
    have g2 := hff 2 _ rfl
    have g3 := hff 3 _ rfl
    simp [s0, s1, s2, Value.cells] at g0 g1 g2 g3
    obtain ⟨u0, hu0, o0⟩ := hcell 0 v0 rfl
    obtain ⟨u1, hu1, o1⟩ := hcell 1 v1 rfl
    injection hu0 with hu0
    injection hu1 with hu1
    subst hu0 hu1
    obtain ⟨z2, e2, _, w2⟩ := DataW.trod_int Tryd.underlying24 g2
    obtain ⟨z3, e3, _, w3⟩ := DataW.trod_int Tryd.underlying24 g3
    injection e2 with e2 _
    injection e3 with e3 _
    subst e2 e3
    obtain ⟨m2, rfl⟩ := un_of w2
    obtain ⟨m3, rfl⟩ := un_of w3
    injection hxy with hd _
    have hwt : ∀ n, (n ∈ y0.1.weights Tryd.prog 22 ∨ n ∈ y1.1.weights Tryd.prog 23) → n ≤ reachBytes := by
      intro n hn
      refine hsz n ?_
      rw [hd]
      simp only [DataW.weights, ht, List.map_cons, List.map_nil, DataW.weightsEach, List.mem_append]
      rcases hn with hn | hn
      · exact .inl hn
      · exact .inr (.inl hn)
    obtain ⟨d0, p0⟩ := y0
    obtain ⟨d1, p1⟩ := y1
    have ok0 : Value.okWide Tryd.prog W r b0 22 v0 := by
      simp only [Value.okWide, Tryd.underlying22]; exact o0
    have ok1 : Value.okWide Tryd.prog W r b0 23 v1 := by
      simp only [Value.okWide, Tryd.underlying23]; exact o1
    obtain ⟨a0, n0, c0, rfl⟩ := okWide_slice Tryd.underlying22 ok0
    obtain ⟨a1, n1, c1, rfl⟩ := okWide_slice Tryd.underlying23 ok1
    obtain ⟨zs, hN⟩ := nl_arg ok0 Tryd.underlying22 Tryd.underlying9 (by kernel_rfl) g0 (fun n hn => hwt n (.inl hn))
    have hI : ∀ n v x, DataW.trod enc Tryd.prog W 0 (fun _ => true) true n 3 [v] = some x → ∃ a : Int, v = Value.int .i64 a := by
      intro n v x h
      obtain ⟨z, e, _⟩ := DataW.trod_int Tryd.underlying3 h
      injection e with e _
      exact ⟨z, e⟩
    obtain ⟨es, hE⟩ := p2_arg (Value.int .i64) (Value.int .i64) Tryd.underlying23 Tryd.underlying35 (by kernel_rfl) rfl rfl (by kernel_rfl) (by kernel_rfl) hI hI (by decide +kernel) g1 (fun n hn => hwt n (.inr hn))
    exact ⟨⟨zs, es, m2, m3⟩, ⟨a0, n0, c0, a1, n1, c1, rfl, hN, hE⟩⟩
end Go.Proofs.YteldeiihjeddoaaDoor
namespace Go.Proofs.YteldeiihjeddoaaDoor
open Go.RowKit Go.ChangeShapes
/-- a slice whose elements are one cell each: its cells -/
theorem gen_arg {H : Type} {enc : TypeId × Value → H} {P : Program} {W : World} {t e : TypeId} {fuel len cap : Nat} {a : Option Addr} {x : DataW H × List MemPlace} {R : Value → Prop}
    (ht : P.underlying t = some (.slice e)) (hc : P.cellsOf e = 1)
    (hel : ∀ n cs y, DataW.trod enc P W 0 (fun _ => true) true n e cs = some y → ∃ u, cs = [u] ∧ R u)
    (hf : DataW.trod enc P W 0 (fun _ => true) true fuel t [.slice a len cap] = some x) :
    len ≤ cap ∧ cap ≤ maxLen ∧ (cap = 0 ∨ ∃ els rest, x.1 = .slice els rest ∧ els.length + rest.length = cap) ∧ ∃ vs : List Value, vs.length = len ∧ Reads W W.heap.size 1 a len vs ∧ ∀ v ∈ vs, R v := by
  rcases DataW.trod_slice ht hf with ⟨h1, h2⟩ | ⟨ad, ln, cp, elems, rest, n, _, h1, rfl, hb, hl, hm, hlen, hel', hsp, _⟩
  · injection h1 with h1 _
    injection h1 with e1 e2 e3
    subst e1 e2 e3
    exact ⟨Nat.le_refl _, Nat.zero_le _, .inl rfl, [], rfl, Reads.none_, fun v hv => by cases hv⟩
  · injection h1 with h1 _
    injection h1 with e1 e2 e3
    subst e1 e2 e3
    have cell : ∀ i, i < len → ∃ u, W.cell? (ad.add i) = some u ∧ R u := fun i hi => by
      have h3 := hel' i hi
      have hi' : i < elems.length := by omega
      rw [List.getElem?_eq_getElem hi', hc, Nat.mul_one, Option.bind_eq_some_iff] at h3
      obtain ⟨cs, h4, h5⟩ := h3
      obtain ⟨u, rfl, hr⟩ := hel _ _ _ h5
      exact ⟨u, cell_of_cells?_one h4, hr⟩
    refine ⟨hl, hm, .inr ⟨_, _, rfl, ?_⟩, (List.range len).map (fun i => (W.cell? (ad.add i)).getD undef), by simp, ⟨by simp, fun hn => ⟨ad, rfl, ?_, fun j u hj => ?_⟩⟩, fun v hv => ?_⟩
    · rw [List.length_map, List.length_map, hlen, (hsp rfl).1]; omega
    · obtain ⟨u, h4, _⟩ := cell 0 hn
      have := World.block_lt_of_cell? W _ h4
      rwa [block_of_add] at this
    · rw [List.getElem?_map, Option.map_eq_some_iff] at hj
      obtain ⟨i, hi, rfl⟩ := hj
      obtain ⟨hi1, hi2⟩ := List.getElem?_eq_some_iff.1 hi
      rw [List.getElem_range] at hi2
      subst hi2
      obtain ⟨u, h4, _⟩ := cell j (by simpa using hi1)
      rw [h4]; rfl
    · rw [List.mem_map] at hv
      obtain ⟨i, hi, rfl⟩ := hv
      obtain ⟨u, h4, hr⟩ := cell i (by simpa using hi)
      rw [h4]; exact hr
end Go.Proofs.YteldeiihjeddoaaDoor
namespace Go.Proofs.YteldeiihjeddoaaDoor
open Go.RowKit Go.ChangeShapes Go.WideShapes
theorem iv_of (vs : List Value) (h : ∀ v ∈ vs, ∃ x : Int, v = Value.int .i64 x) : ∃ l : List Int, vs = iv l := by
  induction vs with
  | nil => exact ⟨[], rfl⟩
  | cons v vs ih =>
    obtain ⟨l, hl⟩ := ih (fun v hv => h v (List.mem_cons_of_mem _ hv))
    obtain ⟨x, hx⟩ := h v List.mem_cons_self
    exact ⟨x :: l, by rw [hl, hx]; rfl⟩
theorem i64_arg {H : Type} {enc : TypeId × Value → H} {W : World} {fuel len cap : Nat} {a : Option Addr} {d : DataW H} {p : List MemPlace}
    (hf : DataW.trod enc Tryd.prog W 0 (fun _ => true) true fuel 27 [.slice a len cap] = some (d, p))
    (hsz : ∀ n, n ∈ d.weights Tryd.prog 27 → n ≤ reachBytes) : ∃ l : List Int, l.length = len ∧ Reads W W.heap.size 1 a len (iv l) ∧ len ≤ 17592186044416 := by
  obtain ⟨h1, h2, h3, vs, h4, h5, h6⟩ := gen_arg (R := fun u => ∃ x : Int, u = .int .i64 x) Tryd.underlying27 (by kernel_rfl) (fun n cs y h => by
    obtain ⟨z, rfl, _, _⟩ := DataW.trod_int Tryd.underlying2 h
    exact ⟨_, rfl, z, rfl⟩) hf
  obtain ⟨l, rfl⟩ := iv_of vs h6
  refine ⟨l, by simpa [iv] using h4, h5, ?_⟩
  rcases h3 with h3 | ⟨els, rest, h3, h7⟩
  · omega
  · have h3' : d = .slice els rest := h3
    have hw : d.weights Tryd.prog 27 = (els.length + rest.length) * Tryd.prog.bytesOf 2 :: (DataW.weightsAll Tryd.prog 2 els ++ DataW.weightsAll Tryd.prog 2 rest) := by
      rw [h3', DataW.weights, Tryd.underlying27]
    have hb : Tryd.prog.bytesOf 2 = 8 := by kernel_rfl
    have := hsz ((els.length + rest.length) * Tryd.prog.bytesOf 2) (by rw [hw]; exact List.mem_cons_self)
    rw [hb] at this
    unfold reachBytes at this
    omega
set_option maxRecDepth 100000 in
theorem seen_arg {H : Type} {enc : TypeId × Value → H} {W : World} {r : Reach} {b0 : Nat} {v : Value} {d : DataW H} {p : List MemPlace}
    (hok : Value.okWide Tryd.prog W r b0 29 v) (hf : DataW.Trod enc Tryd.prog W 0 (fun _ => true) true 29 v d p)
    (hsz : ∀ n, n ∈ d.weights Tryd.prog 29 → n ≤ reachBytes) : ∃ x, SnAt W v x := by
  have ht := Tryd.underlying29
  have hok2 := hok
  simp only [Value.okWide, ht] at hok2
  obtain ⟨cs, rfl, hcs, ts, hts, _, hcell⟩ := hok2
  have hc4 : cs.size = 2 := by rw [hcs]; kernel_rfl
  have hts4 : Tryd.prog.cellTypes Tryd.prog.depth 29 = some [27, 24] := by kernel_rfl
  rw [hts] at hts4
  injection hts4 with hts4
  subst hts4
  obtain ⟨fuel, hf⟩ := hf
  obtain ⟨xs, k, _, hxy, hlen, hxl, hff⟩ := DataW.trod_struct ht hf
  obtain ⟨l, rfl⟩ : ∃ l : List Value, cs = l.toArray := ⟨cs.toList, by simp⟩
  have hl4 : l.length = 2 := by simpa using hc4
  match l, hl4, xs, hxl with
  | [v0, v1], _, [y0, y1], _ =>
    have s0 : Tryd.prog.cellsOf 27 = 1 := by kernel_rfl
    have s1 : Tryd.prog.cellsOf 24 = 1 := by kernel_rfl
    have g0 := hff 0 _ rfl
    have g1 := hff 1 _ rfl
    simp [s0, s1, Value.cells] at g0 g1
    obtain ⟨u0, hu0, o0⟩ := hcell 0 v0 rfl
    injection hu0 with hu0
    subst hu0
    obtain ⟨z2, e2, _, w2⟩ := DataW.trod_int Tryd.underlying24 g1
    injection e2 with e2 _
    subst e2
    obtain ⟨m2, rfl⟩ := un_of w2
    injection hxy with hd _
    have hwt : ∀ n, n ∈ y0.1.weights Tryd.prog 27 → n ≤ reachBytes := by
      intro n hn
      refine hsz n ?_
      rw [hd]
      simp only [DataW.weights, ht, List.map_cons, List.map_nil, DataW.weightsEach, List.mem_append]
      exact .inl hn
    obtain ⟨d0, p0⟩ := y0
    have ok0 : Value.okWide Tryd.prog W r b0 27 v0 := by
      simp only [Value.okWide, Tryd.underlying27]; exact o0
    obtain ⟨a0, n0, c0, rfl⟩ := okWide_slice Tryd.underlying27 ok0
    obtain ⟨zs, h1, h2, h3⟩ := i64_arg g0 hwt
    exact ⟨⟨zs, m2⟩, ⟨a0, n0, c0, rfl, h1, h2, h3⟩⟩
end Go.Proofs.YteldeiihjeddoaaDoor
namespace Go.Proofs.YteldeiihjeddoaaDoor
open Go.RowKit
theorem buildOrder_law (v u : Value) (a now : Int) (ha : (Lit.int .u64 a).wf = true) (w : World) (hT : Tab w) (h : ∃ g, GrAt w v g) (hx : ∃ x, SnAt w u x) :
    Calls Tryd.prog 9 #[v, u, .int .u64 a, .int .i64 now] w fun e w' => e = .returned (.bool true) ∧ Below w.heap.size w w' := by
  obtain ⟨g, hg⟩ := h
  obtain ⟨x, hx⟩ := hx
  obtain ⟨s, rfl⟩ := un_of ha
  exact buildOrder_walk v u g x s now w hg hx hT
end Go.Proofs.YteldeiihjeddoaaDoor
