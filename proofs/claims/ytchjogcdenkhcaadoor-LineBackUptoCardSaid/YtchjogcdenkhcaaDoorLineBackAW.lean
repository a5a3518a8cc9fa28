/- The law LineBack with its handed lines read, of bulk at most 2^20. Conditions: the slice of lines reads as listed. -/
import Derived.Test.YtchjogcdenkhcaaDoorLineBackW
import Derived.Test.YtchjogcdenkhcaaDoorBulk
namespace Go.Proofs.YtchjogcdenkhcaaDoor
open Go.ChangeShapes Go.RowKit Go.WideShapes
def LinesAt (w : World) (v : Value) (_ : Unit) : Prop := ∃ p n c l, v = .slice p n c ∧ P2At hF hG w p n c l ∧ ∀ x ∈ l, x.1 ≤ 9223372036854775807 ∧ x.2.size ≤ 1048576
abbrev I64 := {z : Int // z ≤ 9223372036854775807}
theorem lines_arg_upto {H : Type} {enc : TypeId × Value → H} {W : World} {r : Reach} {b0 : Nat} {v : Value} {d : DataW H} {p : List MemPlace}
    (hok : Value.okWide Tryd.prog W r b0 23 v) (hf : DataW.Trod enc Tryd.prog W 0 (fun _ => true) true 23 v d p)
    (hsz : ∀ n, n ∈ d.weights Tryd.prog 23 → n ≤ reachBytes) (hbk : Rows.uptoBulk d ≤ 1048576) : ∃ g, LinesAt W v g := by
  obtain ⟨a0, n0, c0, rfl⟩ := Go.WideShapes.okWide_slice Tryd.underlying23 hok
  obtain ⟨fuel, hf⟩ := hf
  have hS : ∀ n v x, DataW.trod enc Tryd.prog W 0 (fun _ => true) true n 9 [v] = some x → ∃ a : ByteArray, v = Value.string a ∧ a.size ≤ Rows.uptoBulk x.1 := by
    intro n v x h
    obtain ⟨s, e, hx, hs⟩ := DataW.trod_string Tryd.underlying9 h
    injection e with e _
    refine ⟨s, e, ?_⟩
    rw [hx, Lib.size_eq]
    simp only [Rows.uptoBulk]
    omega
  have hI : ∀ n v x, DataW.trod enc Tryd.prog W 0 (fun _ => true) true n 3 [v] = some x → ∃ a : I64, v = Value.int .i64 a.1 ∧ 0 ≤ Rows.uptoBulk x.1 := by
    intro n v x h
    obtain ⟨z, e, _, hz⟩ := DataW.trod_int Tryd.underlying3 h
    injection e with e _
    have hz2 : IntKind.i64.min ≤ z ∧ z ≤ 9223372036854775807 := by simpa [Lit.wf] using hz
    exact ⟨⟨z, hz2.2⟩, e, Nat.zero_le _⟩
  obtain ⟨l, hE, hB⟩ := p2_bulk (A := I64) (B := ByteArray) (fun a => Value.int .i64 a.1) (fun a => Value.string a) (fun _ => 0) (fun a => a.size) Tryd.underlying23 Tryd.underlying30 (by kernel_rfl) rfl rfl (by kernel_rfl) (by kernel_rfl) hI hS (by decide +kernel) hf hsz
  refine ⟨(), a0, n0, c0, l.map (fun x => (x.1.1, x.2)), rfl, p2_map (f := fun x : I64 × ByteArray => Value.int .i64 x.1.1) (g := fun x => Value.string x.2) (f' := hF) (g' := hG) (fun x => ((x.1.1, x.2) : LnH)) (fun _ => rfl) (fun _ => rfl) hE, fun x hx => ?_⟩
  obtain ⟨y, hy, rfl⟩ := List.mem_map.1 hx
  have := sum_mem (fun x : I64 × ByteArray => 0 + x.2.size + 1) hy
  exact ⟨y.1.2, by simp only at this ⊢; omega⟩
theorem lineBack_handed {v : Value} (s : ByteArray) (w : World) (hM : ML w) (h : ∃ g, LinesAt w v g) (hs : s.size ≤ 1048576) :
    Calls Tryd.prog 5 #[v, .string s] w fun e w' => e = .returned (.bool true) ∧ Below w.heap.size w w' := by
  obtain ⟨_, p, n, c, l, rfl, h1, h2⟩ := h
  exact lineBack_walk p n c l s w hM h1 h2 hs
end Go.Proofs.YtchjogcdenkhcaaDoor
