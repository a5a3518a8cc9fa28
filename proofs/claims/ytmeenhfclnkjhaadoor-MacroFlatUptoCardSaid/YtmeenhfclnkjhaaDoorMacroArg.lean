/- Macros that a law is handed, of bounded bulk. Conditions: none. -/
import Derived.Test.YtmeenhfclnkjhaaDoorBulk2
import Derived.Test.YtmeenhfclnkjhaaDoorMacroFactW
namespace Go.Proofs.YtmeenhfclnkjhaaDoor
open Go.RowKit Go.Shelf Go.Maps Go.ChangeShapes Go.WideShapes
def MacsAt (w : World) (v : Value) (_ : Unit) : Prop := ∃ p n c l, v = .slice p n c ∧ MacsIn w p n c l ∧ (p = none → c = 0) ∧ n ≤ 1048576 ∧ ∀ ad, p = some ad → ad.spot = none
def MacAt (_w : World) (v : Value) (_ : Unit) : Prop := ∃ m : Mac, v = .agg #[mF m, mG m] ∧ m.1.length ≤ 1048576 ∧ m.2.length ≤ 1048576
theorem strb {H : Type} {enc : TypeId × Value → H} {W : World} : ∀ n v x, DataW.trod enc Tryd.prog W 0 (fun _ => true) true n 9 [v] = some x → ∃ a : ByteArray, v = Value.string a ∧ a.size ≤ Rows.uptoBulk x.1 := by
  intro n v x h
  obtain ⟨s, e, hx, hs⟩ := DataW.trod_string Tryd.underlying9 h
  injection e with e _
  refine ⟨s, e, ?_⟩
  rw [hx, Lib.size_eq]
  simp only [Rows.uptoBulk]
  omega
theorem mslice_cap {P : Program} {W : World} {b0 : Nat} {r : Reach} {a : Option Addr} {len cap : Nat} {t e : TypeId} (ht : P.underlying t = some (.slice e)) (h : Value.okWide P W r b0 t (.slice a len cap)) : len ≤ cap ∧ (a = none → cap = 0) ∧ ∀ ad, a = some ad → ad.spot = none := by
  simp only [Value.okWide, ht, Cell.okWide] at h
  unfold Cell.ok at h
  rw [ht] at h
  cases a with
  | none =>
    revert h
    cases len <;> cases cap <;> simp
  | some ad => exact ⟨h.1, fun e => (by cases e), fun ad' e => by injection e with e; subst e; exact h.2.2.2.1⟩
set_option maxRecDepth 100000 in
theorem macs_arg_upto {H : Type} {enc : TypeId × Value → H} {W : World} {r : Reach} {b0 : Nat} {v : Value} {d : DataW H} {p : List MemPlace}
    (hok : Value.okWide Tryd.prog W r b0 22 v) (hf : DataW.Trod enc Tryd.prog W 0 (fun _ => true) true 22 v d p)
    (hsz : ∀ n, n ∈ d.weights Tryd.prog 22 → n ≤ reachBytes) (hbk : Rows.uptoBulk d ≤ 1048576) : ∃ g, MacsAt W v g := by
  obtain ⟨a0, n0, c0, rfl⟩ := Go.WideShapes.okWide_slice Tryd.underlying22 hok
  obtain ⟨fuel, hf⟩ := hf
  obtain ⟨l, hE, hB⟩ := p2_bulk (A := ByteArray) (B := ByteArray) (fun a => Value.string a) (fun a => Value.string a) (fun a => a.size) (fun a => a.size) Tryd.underlying22 Tryd.underlying31 (by kernel_rfl) rfl rfl (by kernel_rfl) (by kernel_rfl) strb strb (by decide +kernel) hf hsz
  obtain ⟨_, h2, h3⟩ := mslice_cap Tryd.underlying22 hok
  have hlen : n0 ≤ 1048576 := by
    have h1 := sum_len (fun x : ByteArray × ByteArray => x.1.size + x.2.size + 1) (l := l) (fun x => by omega)
    have h2 := hE.len
    omega
  refine ⟨(), a0, n0, c0, l.map (fun x => (x.1.data.toList, x.2.data.toList)), rfl, ⟨⟨by rw [List.length_map]; exact hE.len, fun h0 => ?_, hE.big⟩, fun m hm => ?_⟩, h2, hlen, h3⟩
  · obtain ⟨b, o, e, hb, hc⟩ := hE.at_ h0
    refine ⟨b, o, e, hb, fun k x hx => ?_⟩
    rw [List.getElem?_map, Option.map_eq_some_iff] at hx
    obtain ⟨y, hy, rfl⟩ := hx
    have := hc k y hy
    unfold mF mG
    simp only [list_txt]
    exact this
  · obtain ⟨y, hy, rfl⟩ := List.mem_map.1 hm
    have := sum_mem (fun x : ByteArray × ByteArray => x.1.size + x.2.size + 1) hy
    simp only at this ⊢
    rw [← Lib.size_eq, ← Lib.size_eq]
    omega
set_option maxRecDepth 100000 in
theorem mac_arg_upto {H : Type} {enc : TypeId × Value → H} {W : World} {r : Reach} {b0 : Nat} {v : Value} {d : DataW H} {p : List MemPlace}
    (hok : Value.okWide Tryd.prog W r b0 31 v) (hf : DataW.Trod enc Tryd.prog W 0 (fun _ => true) true 31 v d p)
    (_hsz : ∀ n, n ∈ d.weights Tryd.prog 31 → n ≤ reachBytes) (hbk : Rows.uptoBulk d ≤ 1048576) : ∃ g, MacAt W v g := by
  have ht := Tryd.underlying31
  have hok2 := hok
  simp only [Value.okWide, ht] at hok2
  obtain ⟨cs, rfl, hcs, ts, hts, _, hcell⟩ := hok2
  have hc4 : cs.size = 2 := by rw [hcs]; kernel_rfl
  obtain ⟨fuel, hf⟩ := hf
  obtain ⟨xs, k, _, hxy, hlen, hxl, hff⟩ := DataW.trod_struct ht hf
  obtain ⟨l, rfl⟩ : ∃ l : List Value, cs = l.toArray := ⟨cs.toList, by simp⟩
  have hl4 : l.length = 2 := by simpa using hc4
  match l, hl4, xs, hxl with
  | [v0, v1], _, [y0, y1], _ =>
    have s0 : Tryd.prog.cellsOf 9 = 1 := by kernel_rfl
    have g0 := hff 0 _ rfl
    have g1 := hff 1 _ rfl
    simp [s0, Value.cells] at g0 g1
    injection hxy with hd _
    obtain ⟨a, rfl, ha⟩ := strb _ _ _ g0
    obtain ⟨b, rfl, hb⟩ := strb _ _ _ g1
    rw [hd] at hbk
    simp only [List.map_cons, List.map_nil, Rows.uptoBulk, Rows.uptoBulkAll] at hbk
    refine ⟨(), (a.data.toList, b.data.toList), ?_, ?_, ?_⟩
    · unfold mF mG; simp only [list_txt]
    · show a.data.toList.length ≤ _
      rw [← Lib.size_eq]; omega
    · show b.data.toList.length ≤ _
      rw [← Lib.size_eq]; omega
end Go.Proofs.YtmeenhfclnkjhaaDoor
