/- The graph that a law is handed. Conditions: none. -/
import Derived.Test.YtcgimnokdicmcaaGraphW
import Derived.Test.YtcgimnokdicmcaaGraphCheckW
import Derived.Test.YtcgimnokdicmcaaNLArg
import Derived.ChangeArms
namespace Go.Proofs.Ytcgimnokdicmcaa
open Go.RowKit Go.ChangeShapes Go.WideShapes
set_option maxRecDepth 100000 in
theorem graph_arg {H : Type} {enc : TypeId × Value → H} {W : World} {r : Reach} {b0 : Nat} {v : Value} {d : DataW H} {p : List MemPlace}
    (hok : Value.okWide Try.prog W r b0 26 v) (hf : DataW.Trod enc Try.prog W 0 (fun _ => true) true 26 v d p)
    (hsz : ∀ n, n ∈ d.weights Try.prog 26 → n ≤ reachBytes) : ∃ g, GrAt W v g := by
  have ht := Try.underlying26
  have hok2 := hok
  simp only [Value.okWide, ht] at hok2
  obtain ⟨cs, rfl, hcs, ts, hts, _, hcell⟩ := hok2
  have hc4 : cs.size = 4 := by rw [hcs]; kernel_rfl
  have hts4 : Try.prog.cellTypes Try.prog.depth 26 = some [22, 23, 24, 24] := by kernel_rfl
  rw [hts] at hts4
  injection hts4 with hts4
  subst hts4
  obtain ⟨fuel, hf⟩ := hf
  obtain ⟨xs, k, _, hxy, hlen, hxl, hff⟩ := DataW.trod_struct ht hf
  obtain ⟨l, rfl⟩ : ∃ l : List Value, cs = l.toArray := ⟨cs.toList, by simp⟩
  have hl4 : l.length = 4 := by simpa using hc4
  match l, hl4, xs, hxl with
  | [v0, v1, v2, v3], _, [y0, y1, y2, y3], _ =>
    have s0 : Try.prog.cellsOf 22 = 1 := by kernel_rfl
    have s1 : Try.prog.cellsOf 23 = 1 := by kernel_rfl
    have s2 : Try.prog.cellsOf 24 = 1 := by kernel_rfl
    have g0 := hff 0 _ rfl
    have g1 := hff 1 _ rfl
    have g2 := hff 2 _ rfl
    have g3 := hff 3 _ rfl
    simp [s0, s1, s2, Value.cells] at g0 g1 g2 g3
    obtain ⟨u0, hu0, o0⟩ := hcell 0 v0 rfl
    obtain ⟨u1, hu1, o1⟩ := hcell 1 v1 rfl
    injection hu0 with hu0
    injection hu1 with hu1
    subst hu0 hu1
    obtain ⟨z2, e2, _, w2⟩ := DataW.trod_int Try.underlying24 g2
    obtain ⟨z3, e3, _, w3⟩ := DataW.trod_int Try.underlying24 g3
    injection e2 with e2 _
    injection e3 with e3 _
    subst e2 e3
    obtain ⟨m2, rfl⟩ := un_of w2
    obtain ⟨m3, rfl⟩ := un_of w3
    injection hxy with hd _
    have hwt : ∀ n, (n ∈ y0.1.weights Try.prog 22 ∨ n ∈ y1.1.weights Try.prog 23) → n ≤ reachBytes := by
      intro n hn
      refine hsz n ?_
      rw [hd]
      simp only [DataW.weights, ht, List.map_cons, List.map_nil, DataW.weightsEach, List.mem_append]
      rcases hn with hn | hn
      · exact .inl hn
      · exact .inr (.inl hn)
    obtain ⟨d0, p0⟩ := y0
    obtain ⟨d1, p1⟩ := y1
    have ok0 : Value.okWide Try.prog W r b0 22 v0 := by
      simp only [Value.okWide, Try.underlying22]; exact o0
    have ok1 : Value.okWide Try.prog W r b0 23 v1 := by
      simp only [Value.okWide, Try.underlying23]; exact o1
    obtain ⟨a0, n0, c0, rfl⟩ := okWide_slice Try.underlying22 ok0
    obtain ⟨a1, n1, c1, rfl⟩ := okWide_slice Try.underlying23 ok1
    obtain ⟨zs, hN⟩ := nl_arg ok0 Try.underlying22 Try.underlying9 (by kernel_rfl) g0 (fun n hn => hwt n (.inl hn))
    have hI : ∀ n v x, DataW.trod enc Try.prog W 0 (fun _ => true) true n 3 [v] = some x → ∃ a : Int, v = Value.int .i64 a := by
      intro n v x h
      obtain ⟨z, e, _⟩ := DataW.trod_int Try.underlying3 h
      injection e with e _
      exact ⟨z, e⟩
    obtain ⟨es, hE⟩ := p2_arg (Value.int .i64) (Value.int .i64) Try.underlying23 Try.underlying36 (by kernel_rfl) rfl rfl (by kernel_rfl) (by kernel_rfl) hI hI (by decide +kernel) g1 (fun n hn => hwt n (.inr hn))
    exact ⟨⟨zs, es, m2, m3⟩, ⟨a0, n0, c0, a1, n1, c1, rfl, hN, hE⟩⟩
end Go.Proofs.Ytcgimnokdicmcaa
