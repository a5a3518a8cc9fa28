/- The walks of graph.rises at edges and graph.Check. Conditions: the slices read as listed. -/
import Derived.Test.YtlhhcgiifgkngaaDoorOrderW
namespace Go.Proofs.YtlhhcgiifgkngaaDoor
open Go.RowKit Go.Shelf
def eF (x : E2) : Value := .int .i64 x.1
def eG (x : E2) : Value := .int .i64 x.2
abbrev EsAt (w : World) (p : Option Addr) (n c : Nat) (es : List E2) : Prop := P2At eF eG w p n c es
theorem ordE_neg {a b : E2} : ordE a b < 0 ↔ elt a b := by
  have key : ∀ x y : Int, (x < y ∧ Lib.compareInt x y = -1) ∨ (x = y ∧ Lib.compareInt x y = 0) ∨ (y < x ∧ Lib.compareInt x y = 1) := by
    intro x y
    unfold Lib.compareInt
    rcases Int.lt_trichotomy x y with h | h | h
    · exact .inl ⟨h, if_pos h⟩
    · exact .inr (.inl ⟨h, by rw [if_neg (by omega), if_neg (by omega)]⟩)
    · exact .inr (.inr ⟨h, by rw [if_neg (by omega), if_pos h]⟩)
  unfold ordE elt
  rcases key a.1 b.1 with ⟨h, e⟩ | ⟨h, e⟩ | ⟨h, e⟩
  · rw [e, if_pos (by decide)]; omega
  · rw [e, if_neg (by decide)]
    rcases key a.2 b.2 with ⟨g, f⟩ | ⟨g, f⟩ | ⟨g, f⟩ <;> rw [f] <;> omega
  · rw [e, if_pos (by decide)]; omega
def ERiseTo (es : List E2) (k : Nat) : Prop := ∀ i, i < k → elt (es.getD i (0, 0)) (es.getD (i + 1) (0, 0))
theorem erise_next {es : List E2} {k : Nat} (h : ERiseTo es k) (hk : ordE (es.getD k (0, 0)) (es.getD (k + 1) (0, 0)) < 0) : ERiseTo es (k + 1) := fun i hi => by
  rcases Nat.lt_or_ge i k with h1 | h1
  · exact h i h1
  · rw [show i = k from by omega]; exact ordE_neg.1 hk
theorem getD_some {α : Type} {l : List α} {k : Nat} (d : α) (h : k < l.length) : l[k]? = some (l.getD k d) := by
  rw [List.getD_eq_getElem?_getD, List.getElem?_eq_getElem h]; rfl
set_option maxHeartbeats 1000000 in
set_option maxRecDepth 100000 in
theorem risesE_ok (p : Option Addr) (n c : Nat) (es : List E2) (w : World) (h : EsAt w p n c es) :
    Calls Tryd.prog 60 #[.slice p n c, .func (.func 61) #[] #[]] w fun e w' => ((e = .returned (.bool true) ∧ ERise es) ∨ (e = .returned (.bool false) ∧ ¬ ERise es)) ∧ Below w.heap.size w w' := by
  have hl := h.len
  have hbig := h.big
  subst hl
  have HN := Lib.hid h
  clear h
  go_enter Tryd.func60, Tryd.ntmps60
  go_wp2
  go_loopw [9] (fun i wr => ∃ k : Nat, i = .int .i64 k ∧ (k = 0 ∨ k < es.length) ∧ Hid (ERiseTo es k) ∧ Hid (Below w.heap.size w wr)) (fun i _ => es.length - (intOf i).toNat)
  case atStart => exact ⟨0, rfl, .inl rfl, show ERiseTo es 0 from fun i hi => by omega, show Below _ _ _ from Below.refl _ _⟩
  case round =>
    obtain ⟨k, rfl, hk, HR, HW⟩ := hrel
    by_cases hlt : (k : Int) < (es.length : Int) - 1
    · have HNw := Lib.hid (HN.out.below HW.out)
      obtain ⟨b, o, rfl, hb, hca, hcb⟩ := HNw.out.cell (getD_some (0, 0) (show k < es.length by omega))
      obtain ⟨b', o', hbo, _, hcc, hcd⟩ := HNw.out.cell (getD_some (0, 0) (show k + 1 < es.length by omega))
      injection hbo with hbo
      injection hbo with e1 e2
      subst e1 e2
      have HX : Hid (ordE (es.getD k (0, 0)) (es.getD (k + 1) (0, 0)) < 0 → ERiseTo es (k + 1)) := by show _ → _; exact erise_next HR.out
      have HY : Hid (¬ ordE (es.getD k (0, 0)) (es.getD (k + 1) (0, 0)) < 0 → ¬ ERise es) := by
        show _ → _
        intro h1 h2
        exact h1 (ordE_neg.2 (h2 k (by omega)))
      generalize es.getD k (0, 0) = x at *
      generalize es.getD (k + 1) (0, 0) = y at *
      have HO := Lib.hid (eorder_ok x y)
      obtain ⟨z, hz⟩ : ∃ z, ordE x y = z := ⟨_, rfl⟩
      rw [hz] at HX HY HO
      clear hz
      obtain ⟨x1, x2⟩ := x
      obtain ⟨y1, y2⟩ := y
      simp only [eF, eG] at hca hcb hcc hcd
      have hl1 : (k : Int) < (es.length : Int) := by omega
      have hl2 : (k : Int) + 1 < (es.length : Int) := by omega
      have hl3 : (0 : Int) ≤ (k : Int) + 1 := by omega
      have htn : ((k : Int) + 1).toNat = k + 1 := by omega
      have hwr : IntKind.i64.wrap ((k : Int) + 1) = (k : Int) + 1 := by rw [IntKind.wrap_i64]; omega
      go_wp2
      refine wp_region_still_tail 10 (by kernel_rfl) (by kernel_rfl) ?_
      simp only [List.take_succ_cons, List.take_zero, List.drop_succ_cons, List.drop_zero]
      obtain ⟨W2, hW2⟩ : ∃ W2 : World, W2 = { heap := wr.heap, tape := wr.tape, drawn := wr.drawn + 1, os := wr.os, output := wr.output } := ⟨_, rfl⟩
      have HB2 : Hid (Below w.heap.size w W2) := by
        show Below _ _ _
        rw [hW2]; exact HW.out.drew
      have d1 : W2.cell? ⟨b, o + k * 2, none⟩ = some (.int .i64 x1) := by rw [hW2]; exact hca
      have d2 : W2.cell? ⟨b, o + k * 2 + 1, none⟩ = some (.int .i64 x2) := by rw [hW2]; exact hcb
      have d3 : W2.cell? ⟨b, o + (k + 1) * 2, none⟩ = some (.int .i64 y1) := by rw [hW2]; exact hcc
      have d4 : W2.cell? ⟨b, o + (k + 1) * 2 + 1, none⟩ = some (.int .i64 y2) := by rw [hW2]; exact hcd
      rw [← hW2]
      clear hW2 hca hcb hcc hcd
      repeat still_step
      refine wpStill_nil ?_
      clear d1 d2 d3 d4
      unfold e2V at HO
      by_cases h0 : (0 : Int) ≤ z
      · go_wp2_with (go_at_call 61; refine (HO.out _).mono ?_; rintro e w' ⟨rfl, hb'⟩; have HB3 := Lib.hid (HB2.out.trans (hb'.mono HB2.out.size)); clear hb')
        go_ret
        exact ⟨.inr ⟨rfl, HY.out (by omega)⟩, HB3.out⟩
      · go_wp2_with (go_at_call 61; refine (HO.out _).mono ?_; rintro e w' ⟨rfl, hb'⟩; have HB3 := Lib.hid (HB2.out.trans (hb'.mono HB2.out.size)); clear hb')
        go_roundw
        case rel => exact ⟨k + 1, by go_num, by omega, HX.out (by omega), HB3.out⟩
        case measure => simp [intOf]; omega
    · go_wp2
      go_ret
      refine ⟨.inl ⟨rfl, fun i hi => HR.out i (by omega)⟩, HW.out⟩
end Go.Proofs.YtlhhcgiifgkngaaDoor
