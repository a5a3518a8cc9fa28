/- Texts joined: SeenArg, StaleLaws. Conditions: theirs. -/
import Derived.Test.YtcgimnokdicmcaaDoorStaleLawsM2
import Derived.Test.YtcgimnokdicmcaaDoorStaleLawsM4
import Derived.WideShapes
namespace Go.Proofs.YtcgimnokdicmcaaDoor
open Go.RowKit Go.ChangeShapes Go.WideShapes
theorem iv_of (vs : List Value) (h : ∀ v ∈ vs, ∃ x : Int, v = Value.int .i64 x) : ∃ l : List Int, vs = iv l := by
  induction vs with
  | nil => exact ⟨[], rfl⟩
  | cons v vs ih =>
    obtain ⟨l, hl⟩ := ih (fun v hv => h v (List.mem_cons_of_mem _ hv))
    obtain ⟨x, hx⟩ := h v List.mem_cons_self
    exact ⟨x :: l, by rw [hl, hx]; rfl⟩
theorem i64_arg {H : Type} {enc : TypeId × Value → H} {W : World} {fuel len cap : Nat} {a : Option Addr} {d : DataW H} {p : List MemPlace}
    (hf : DataW.trod enc Tryd.prog W 0 (fun _ => true) true fuel 65 [.slice a len cap] = some (d, p))
    (hsz : ∀ n, n ∈ d.weights Tryd.prog 65 → n ≤ reachBytes) : ∃ l : List Int, l.length = len ∧ Reads W W.heap.size 1 a len (iv l) ∧ len ≤ 17592186044416 := by
  obtain ⟨h1, h2, h3, vs, h4, h5, h6⟩ := gen_arg (R := fun u => ∃ x : Int, u = .int .i64 x) Tryd.underlying65 (by kernel_rfl) (fun n cs y h => by
    obtain ⟨z, rfl, _, _⟩ := DataW.trod_int Tryd.underlying2 h
    exact ⟨_, rfl, z, rfl⟩) hf
  obtain ⟨l, rfl⟩ := iv_of vs h6
  refine ⟨l, by simpa [iv] using h4, h5, ?_⟩
  rcases h3 with h3 | ⟨els, rest, h3, h7⟩
  · omega
  · have h3' : d = .slice els rest := h3
    have hw : d.weights Tryd.prog 65 = (els.length + rest.length) * Tryd.prog.bytesOf 2 :: (DataW.weightsAll Tryd.prog 2 els ++ DataW.weightsAll Tryd.prog 2 rest) := by
      rw [h3', DataW.weights, Tryd.underlying65]
    have hb : Tryd.prog.bytesOf 2 = 8 := by kernel_rfl
    have := hsz ((els.length + rest.length) * Tryd.prog.bytesOf 2) (by rw [hw]; exact List.mem_cons_self)
    rw [hb] at this
    unfold reachBytes at this
    omega
set_option maxRecDepth 100000 in
theorem seen_arg {H : Type} {enc : TypeId × Value → H} {W : World} {r : Reach} {b0 : Nat} {v : Value} {d : DataW H} {p : List MemPlace}
    (hok : Value.okWide Tryd.prog W r b0 67 v) (hf : DataW.Trod enc Tryd.prog W 0 (fun _ => true) true 67 v d p)
    (hsz : ∀ n, n ∈ d.weights Tryd.prog 67 → n ≤ reachBytes) : ∃ x, SnAt W v x := by
  have ht := Tryd.underlying67
  have hok2 := hok
  simp only [Value.okWide, ht] at hok2
  obtain ⟨cs, rfl, hcs, ts, hts, _, hcell⟩ := hok2
  have hc4 : cs.size = 2 := by rw [hcs]; kernel_rfl
  have hts4 : Tryd.prog.cellTypes Tryd.prog.depth 67 = some [65, 24] := by kernel_rfl
  rw [hts] at hts4
  injection hts4 with hts4
  subst hts4
  obtain ⟨fuel, hf⟩ := hf
  obtain ⟨xs, k, _, hxy, hlen, hxl, hff⟩ := DataW.trod_struct ht hf
  obtain ⟨l, rfl⟩ : ∃ l : List Value, cs = l.toArray := ⟨cs.toList, by simp⟩
  have hl4 : l.length = 2 := by simpa using hc4
  match l, hl4, xs, hxl with
  | [v0, v1], _, [y0, y1], _ =>
    have s0 : Tryd.prog.cellsOf 65 = 1 := by kernel_rfl
    have s1 : Tryd.prog.cellsOf 24 = 1 := by kernel_rfl
    have g0 := hff 0 _ rfl
    have g1 := hff 1 _ rfl
    simp [s0, s1, Value.cells] at g0 g1
    obtain ⟨u0, hu0, o0⟩ := hcell 0 v0 rfl
    injection hu0 with hu0
    subst hu0
    obtain ⟨z2, e2, _, w2⟩ := DataW.trod_int Tryd.underlying24 g1
    injection e2 with e2 _
    subst e2
    obtain ⟨m2, rfl⟩ := un_of w2
    injection hxy with hd _
    have hwt : ∀ n, n ∈ y0.1.weights Tryd.prog 65 → n ≤ reachBytes := by
      intro n hn
      refine hsz n ?_
      rw [hd]
      simp only [DataW.weights, ht, List.map_cons, List.map_nil, DataW.weightsEach, List.mem_append]
      exact .inl hn
    obtain ⟨d0, p0⟩ := y0
    have ok0 : Value.okWide Tryd.prog W r b0 65 v0 := by
      simp only [Value.okWide, Tryd.underlying65]; exact o0
    obtain ⟨a0, n0, c0, rfl⟩ := okWide_slice Tryd.underlying65 ok0
    obtain ⟨zs, h1, h2, h3⟩ := i64_arg g0 hwt
    exact ⟨⟨zs, m2⟩, ⟨a0, n0, c0, rfl, h1, h2, h3⟩⟩
end Go.Proofs.YtcgimnokdicmcaaDoor
namespace Go.Proofs.YtcgimnokdicmcaaDoor
open Go.RowKit
theorem staleMore_law (v u : Value) (d : Int) (hd : (Lit.int .u64 d).wf = true) (w : World) (hT : Tab w) (h : ∃ g, GrAt w v g) (hx : ∃ x, SnAt w u x) :
    Calls Tryd.prog 9 #[v, u, .int .u64 d] w fun e w' => e = .returned (.bool true) ∧ Below w.heap.size w w' := by
  obtain ⟨g, hg⟩ := h
  obtain ⟨x, hx⟩ := hx
  obtain ⟨s, rfl⟩ := un_of hd
  exact staleMore_walk v u g x s w hg hx hT
theorem staleOnly_law (v u : Value) (a b : Int) (ha : (Lit.int .u64 a).wf = true) (hb : (Lit.int .u64 b).wf = true) (w : World) (hT : Tab w) (h : ∃ g, GrAt w v g) (hx : ∃ x, SnAt w u x) :
    Calls Tryd.prog 10 #[v, u, .int .u64 a, .int .u64 b] w fun e w' => e = .returned (.bool true) ∧ Below w.heap.size w w' := by
  obtain ⟨g, hg⟩ := h
  obtain ⟨x, hx⟩ := hx
  obtain ⟨s, rfl⟩ := un_of ha
  obtain ⟨t, rfl⟩ := un_of hb
  exact staleOnly_walk v u g x s t w hg hx hT
theorem staleClosed_law (v u : Value) (w : World) (hT : Tab w) (h : ∃ g, GrAt w v g) (hx : ∃ x, SnAt w u x) :
    Calls Tryd.prog 8 #[v, u] w fun e w' => e = .returned (.bool true) ∧ Below w.heap.size w w' := by
  obtain ⟨g, hg⟩ := h
  obtain ⟨x, hx⟩ := hx
  exact staleClosed_walk v u g x w hg hx hT
end Go.Proofs.YtcgimnokdicmcaaDoor
