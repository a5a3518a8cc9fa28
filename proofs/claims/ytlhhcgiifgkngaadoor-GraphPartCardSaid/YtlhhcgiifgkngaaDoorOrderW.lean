/- The walks of cmp.Compare at strings, graph.order and graph.rises. Conditions: the slices read as listed. -/
import Derived.Test.YtlhhcgiifgkngaaDoorSearchW
import Derived.Test.YtlhhcgiifgkngaaDoorGraphP
import Derived.Test.YtlhhcgiifgkngaaDoorPairs
import Derived.RegionTactic
import Derived.ChangeAlike
import Derived.Deep.QuietTactic
import Derived.BigQuiet
import Derived.StillTailTactics
namespace Go.Proofs.YtlhhcgiifgkngaaDoor
open Go.RowKit Go.Shelf
def cmpS (x y : ByteArray) : Int := if x.data.toList < y.data.toList then -1 else if y.data.toList < x.data.toList then 1 else 0
theorem cmpS_neg {x y : ByteArray} : cmpS x y < 0 ↔ x.data.toList < y.data.toList := by
  unfold cmpS
  by_cases h : x.data.toList < y.data.toList
  · rw [if_pos h]; simp [h]
  · rw [if_neg h]
    split
    · simp [h]
    · simp [h]
theorem run_gtr_str {x y : ByteArray} {b c : Bool} (h : Op.bytesLess x.toList y.toList = b) (h2 : (x.toList == y.toList) = c) (w : World) : (binOp .gtr 9 (.string x) (.string y)).run Tryd.prog w = .ok (.bool (!(b || c))) w := by
  simp [binOp, Op.stringOp, h, h2]
theorem bytesLess_of (x y : ByteArray) : Op.bytesLess x.toList y.toList = decide (x.data.toList < y.data.toList) := by rw [Proofs.bytesLess_eq, Lib.toList_data, Lib.toList_data]
set_option maxHeartbeats 400000 in
theorem isNaNs_ok (x : ByteArray) (w : World) : Calls Tryd.prog 108 #[.string x] w fun e w' => e = .returned (.bool false) ∧ w' = w := by
  go_enter Tryd.func108, Tryd.ntmps108
  go_wp2
  go_ret
  exact ⟨by simp, rfl⟩
set_option maxHeartbeats 1000000 in
theorem cmpS_ok (x y : ByteArray) (w : World) : Calls Tryd.prog 59 #[.string x, .string y] w fun e w' => e = .returned (.int .i64 (cmpS x y)) ∧ w' = w := by
  by_cases h : x.data.toList < y.data.toList
  · have hv : cmpS x y = -1 := by unfold cmpS; rw [if_pos h]
    have h1 := (bytesLess_of x y).trans (decide_eq_true h)
    rw [hv]
    clear hv h
    go_enter Tryd.func59, Tryd.ntmps59
    go_wp2_with (go_at_call 108; refine (isNaNs_ok _ _).mono ?_; rintro e w' ⟨rfl, rfl⟩)
    go_ret
    exact ⟨rfl, rfl⟩
  · have h1 := (bytesLess_of x y).trans (decide_eq_false h)
    by_cases h2 : y.data.toList < x.data.toList
    · have hv : cmpS x y = 1 := by unfold cmpS; rw [if_neg h, if_pos h2]
      have hne : (x.toList == y.toList) = false := by
        rw [Lib.toList_data, Lib.toList_data, beq_eq_false_iff_ne]
        intro e
        rw [e] at h2
        exact lt_irr h2
      have h3 := run_gtr_str ((bytesLess_of x y).trans (decide_eq_false h)) hne
      rw [hv]
      clear hv h h2 hne
      go_enter Tryd.func59, Tryd.ntmps59
      go_wp2_with (go_at_call 108; refine (isNaNs_ok _ _).mono ?_; rintro e w' ⟨rfl, rfl⟩)
      go_ret
      exact ⟨rfl, rfl⟩
    · have hv : cmpS x y = 0 := by unfold cmpS; rw [if_neg h, if_neg h2]
      have hne : (x.toList == y.toList) = true := by
        rw [Lib.toList_data, Lib.toList_data, beq_iff_eq]
        exact List.le_antisymm (List.not_lt.1 h2) (List.not_lt.1 h)
      have h3 := run_gtr_str ((bytesLess_of x y).trans (decide_eq_false h)) hne
      rw [hv]
      clear hv h h2 hne
      go_enter Tryd.func59, Tryd.ntmps59
      go_wp2_with (go_at_call 108; refine (isNaNs_ok _ _).mono ?_; rintro e w' ⟨rfl, rfl⟩)
      go_ret
      exact ⟨rfl, rfl⟩
theorem drewN_add (w : World) (a b : Nat) : (w.drewN a).drewN b = w.drewN (a + b) := by simp [World.drewN, Nat.add_assoc]
/-- each name below the next one -/
def RiseTo (zs : List ByteArray) (k : Nat) : Prop := ∀ i, i < k → (zs.getD i ByteArray.empty).data.toList < (zs.getD (i + 1) ByteArray.empty).data.toList
theorem rise_to {zs : List ByteArray} : RiseTo zs (zs.length - 1) ↔ Rise zs := by
  constructor
  · intro h i j hij hj
    obtain ⟨d, rfl⟩ : ∃ d, j = i + d + 1 := ⟨j - i - 1, by omega⟩
    induction d with
    | zero => exact h i (by omega)
    | succ d ih => exact List.lt_trans (ih (by omega) (by omega)) (h (i + d + 1) (by omega))
  · intro h i hi
    exact h i (i + 1) (by omega) (by omega)
theorem rise_next {zs : List ByteArray} {k : Nat} (h : RiseTo zs k) (hk : cmpS (zs.getD k ByteArray.empty) (zs.getD (k + 1) ByteArray.empty) < 0) : RiseTo zs (k + 1) := fun i hi => by
  rcases Nat.lt_or_ge i k with h1 | h1
  · exact h i h1
  · rw [show i = k from by omega]; exact cmpS_neg.1 hk
set_option maxHeartbeats 1000000 in
theorem risesS_ok (p : Option Addr) (n c : Nat) (zs : List ByteArray) (w : World) (h : NL w p n c zs) :
    Calls Tryd.prog 58 #[.slice p n c, .func (.func 59) #[] #[]] w fun e w' => ((e = .returned (.bool true) ∧ Rise zs) ∨ (e = .returned (.bool false) ∧ ¬ Rise zs)) ∧ ∃ q, w' = w.drewN q := by
  have hl := h.at_.len
  have hbig := h.at_.big
  subst hl
  have HN := Lib.hid h
  clear h
  go_enter Tryd.func58, Tryd.ntmps58
  go_wp2
  go_loopw [9] (fun i wr => ∃ k : Nat, i = .int .i64 k ∧ (k = 0 ∨ k < zs.length) ∧ Hid (RiseTo zs k) ∧ Hid (∃ q, wr = w.drewN q)) (fun i _ => zs.length - (intOf i).toNat)
  case atStart => exact ⟨0, rfl, .inl rfl, show RiseTo zs 0 from fun i hi => by omega, show ∃ q, w = w.drewN q from ⟨0, rfl⟩⟩
  case round =>
    obtain ⟨k, rfl, hk, HR, HW⟩ := hrel
    by_cases hlt : (k : Int) < (zs.length : Int) - 1
    · have HNw : Hid (NL wr p zs.length c zs) := by
        show NL _ _ _ _ _
        obtain ⟨q, hq⟩ := HW.out
        rw [hq]; exact HN.out.drew q
      obtain ⟨ad, rfl, _⟩ := HN.out.at_.reads.2 (by omega)
      obtain ⟨b, o, rfl, _⟩ := HN.out.plain _ rfl
      have hc1 := HNw.out.cellAt k (by omega)
      have hc2 := HNw.out.cellAt (k + 1) (by omega)
      have HX : Hid (cmpS (zs.getD k ByteArray.empty) (zs.getD (k + 1) ByteArray.empty) < 0 → RiseTo zs (k + 1)) := by show _ → _; exact rise_next HR.out
      have HY : Hid (¬ cmpS (zs.getD k ByteArray.empty) (zs.getD (k + 1) ByteArray.empty) < 0 → ¬ Rise zs) := by
        show _ → _
        intro h1 h2
        exact h1 (cmpS_neg.2 (h2 k (k + 1) (by omega) (by omega)))
      generalize zs.getD k ByteArray.empty = x at *
      generalize zs.getD (k + 1) ByteArray.empty = y at *
      obtain ⟨z, hz⟩ : ∃ z, cmpS x y = z := ⟨_, rfl⟩
      rw [hz] at HX HY
      have HZ := Lib.hid hz
      clear hz
      by_cases h0 : (0 : Int) ≤ z
      · go_wp2
        go_quiet ((go_at_call 59; refine (cmpS_ok x y _).mono ?_; rintro e w'' ⟨he, hw⟩; rw [HZ.out] at he; exact ⟨he, _, hw⟩))
        go_wp2
        go_ret
        refine ⟨.inr ⟨rfl, HY.out (by omega)⟩, ?_⟩
        obtain ⟨q, hq⟩ := HW.out
        exact ⟨_, by rw [hq, drewN_add]⟩
      · go_wp2
        go_quiet ((go_at_call 59; refine (cmpS_ok x y _).mono ?_; rintro e w'' ⟨he, hw⟩; rw [HZ.out] at he; exact ⟨he, _, hw⟩))
        go_wp2
        go_roundw
        case rel =>
          refine ⟨k + 1, by go_num, by omega, HX.out (by omega), ?_⟩
          obtain ⟨q, hq⟩ := HW.out
          exact ⟨_, by rw [hq, drewN_add]⟩
        case measure => simp [intOf]; omega
    · go_wp2
      go_ret
      refine ⟨.inl ⟨rfl, ?_⟩, HW.out⟩
      rw [← rise_to]
      have : zs.length - 1 = k := by omega
      rw [this]; exact HR.out
theorem cell_drew (w : World) (a : Addr) : w.drew.cell? a = w.cell? a := rfl
def ordE (a b : E2) : Int := if Lib.compareInt a.1 b.1 ≠ 0 then Lib.compareInt a.1 b.1 else Lib.compareInt a.2 b.2
def e2V (x : E2) : Value := .agg #[.int .i64 x.1, .int .i64 x.2]
set_option maxHeartbeats 1000000 in
theorem or_ok (x y : Int) (b : Nat) (w : World) (h1 : w.cell? ⟨b, 0, none⟩ = some (.int .i64 x)) (h2 : w.cell? ⟨b, 1, none⟩ = some (.int .i64 y)) :
    Calls Tryd.prog 109 #[.slice (some ⟨b, 0, none⟩) 2 2] w fun e w' => e = .returned (.int .i64 (if x ≠ 0 then x else y)) ∧ w' = w := by
  go_enter Tryd.func109, Tryd.ntmps109
  go_wp2
  go_loop [8] (fun i => i = .int .i64 0 ∨ (i = .int .i64 1 ∧ x = 0) ∨ (i = .int .i64 2 ∧ x = 0 ∧ y = 0)) (fun i => 2 - (intOf i).toNat)
  case atStart => exact .inl rfl
  case round =>
    rcases hrel with rfl | ⟨rfl, rfl⟩ | ⟨rfl, rfl, rfl⟩
    · by_cases hx : x = 0
      · subst hx
        go_wp2
        go_round
        case rel => exact .inr (.inl ⟨by go_num, trivial⟩)
        case measure => simp [intOf]
      · have hb : (x != 0) = true := by simpa using hx
        go_wp2
        go_ret
        exact ⟨by first | rfl | (rw [if_pos hx]; rfl), rfl⟩
    · by_cases hy : y = 0
      · subst hy
        go_wp2
        go_round
        case rel => exact .inr (.inr ⟨by go_num, trivial, trivial⟩)
        case measure => simp [intOf]
      · have hb : (y != 0) = true := by simpa using hy
        go_wp2
        go_ret
        exact ⟨by simp, rfl⟩
    · go_wp2
      go_ret
      exact ⟨by simp, rfl⟩
set_option maxHeartbeats 1000000 in
set_option maxRecDepth 100000 in
theorem eorder_ok (a b : E2) (w : World) : Calls Tryd.prog 61 #[e2V a, e2V b] w fun e w' => e = .returned (.int .i64 (ordE a b)) ∧ Below w.heap.size w w' := by
  obtain ⟨a1, a2⟩ := a
  obtain ⟨b1, b2⟩ := b
  unfold e2V ordE
  simp only
  obtain ⟨x, hx⟩ : ∃ x, Lib.compareInt a1 b1 = x := ⟨_, rfl⟩
  obtain ⟨y, hy⟩ : ∃ y, Lib.compareInt a2 b2 = y := ⟨_, rfl⟩
  rw [hx, hy]
  have HO := Lib.hid (or_ok x y)
  obtain ⟨v, hv⟩ : ∃ v, (if x ≠ 0 then x else y) = v := ⟨_, rfl⟩
  rw [hv] at HO ⊢
  clear hv
  have HX := Lib.hid (Tryd.cmp_Compare_int a1 b1)
  have HY := Lib.hid (Tryd.cmp_Compare_int a2 b2)
  rw [hx] at HX
  rw [hy] at HY
  clear hx hy
  go_enter Tryd.func61, Tryd.ntmps61
  go_wp2
  obtain ⟨W, hW⟩ : ∃ W, W = (w.alloc (.cells #[.int .i64 a1, .int .i64 a2] 43)).alloc (.cells #[.int .i64 b1, .int .i64 b2] 43) := ⟨_, rfl⟩
  have c1 : W.cell? ⟨w.heap.size, 0, none⟩ = some (.int .i64 a1) := by rw [hW, World.cell?_alloc_lt _ _ _ (by simp), World.cell?_alloc_at _ _ _ _ rfl]; rfl
  have c2 : W.cell? ⟨w.heap.size, 1, none⟩ = some (.int .i64 a2) := by rw [hW, World.cell?_alloc_lt _ _ _ (by simp), World.cell?_alloc_at _ _ _ _ rfl]; rfl
  have c3 : W.cell? ⟨w.heap.size + 1, 0, none⟩ = some (.int .i64 b1) := by rw [hW, World.cell?_alloc_at _ _ _ _ (by simp)]; rfl
  have c4 : W.cell? ⟨w.heap.size + 1, 1, none⟩ = some (.int .i64 b2) := by rw [hW, World.cell?_alloc_at _ _ _ _ (by simp)]; rfl
  have HB : Hid (Below w.heap.size w W) := by
    show Below _ _ _
    rw [hW]; exact ((Below.refl _ _).alloc (Nat.le_refl _) _).alloc (by simp) _
  rw [← hW]
  clear hW
  refine wp_region_still_tail 10 (by kernel_rfl) (by kernel_rfl) ?_
  simp only [List.take_succ_cons, List.take_zero, List.drop_succ_cons, List.drop_zero]
  repeat still_step
  still_call (HX.out _)
  repeat still_step
  still_call (HY.out _)
  repeat still_step
  refine wpStill_nil ?_
  obtain ⟨W2, hW2⟩ : ∃ W2 : World, W2 = { heap := W.heap, tape := W.tape, drawn := W.drawn + 1, os := W.os, output := W.output } := ⟨_, rfl⟩
  have HB2 : Hid (Below w.heap.size w W2) := by
    show Below _ _ _
    rw [hW2]; exact HB.out.drew
  rw [← hW2]
  clear hW2 c1 c2 c3 c4 HB
  go_wp2_with (go_at_call 109; refine (HO.out _ _ (by rw [World.cell?_alloc_at _ _ _ _ rfl]; rfl) (by rw [World.cell?_alloc_at _ _ _ _ rfl]; rfl)).mono ?_; rintro e w' ⟨rfl, rfl⟩)
  go_ret
  exact ⟨rfl, HB2.out.alloc HB2.out.size _⟩
end Go.Proofs.YtlhhcgiifgkngaaDoor
