/- Texts joined: GraphP, OrderW, GraphW, GraphCheckW, MakeP, IndexAny2W. Conditions: theirs. -/
import Derived.Test.YtoiolepengcagaaGreatDoorGraphRightLWM5
import Derived.Test.YtoiolepengcagaaGreatDoorGraphRightLWM4
import Derived.Test.YtoiolepengcagaaGreatDoorPairs
import Derived.RegionTactic
import Derived.ChangeAlike
import Derived.Deep.QuietTactic
import Derived.BigQuiet
import Derived.StillTailTactics
import Derived.Test.YtoiolepengcagaaGreatDoorGraphRightLWM1
import Derived.Test.YtoiolepengcagaaGreatDoorIndexAnyW
namespace Go.Proofs.YtoiolepengcagaaGreatDoor
abbrev E2 := Int × Int
/-- an edge ahead of another one -/
def elt (a b : E2) : Prop := a.1 < b.1 ∨ (a.1 = b.1 ∧ a.2 < b.2)
instance (a b : E2) : Decidable (elt a b) := inferInstanceAs (Decidable (_ ∨ _))
def EIn (n : Nat) (x : E2) : Prop := 0 ≤ x.1 ∧ x.1 < n ∧ 0 ≤ x.2 ∧ x.2 < n
def ERise (es : List E2) : Prop := ∀ i, i + 1 < es.length → elt (es.getD i (0, 0)) (es.getD (i + 1) (0, 0))
/-- a row with an edge more -/
def put1 (s : B) (a : Nat) (x : E2) : B := if x.1 = (a : Int) then s ||| (1#64 <<< x.2.toNat) else s
def rowE (es : List E2) (a : Nat) : B := es.foldl (fun s x => put1 s a x) 0#64
def rowsE (n : Nat) (es : List E2) : List B := (List.range n).map (rowE es)
theorem rowE_snoc (es : List E2) (x : E2) (a : Nat) : rowE (es ++ [x]) a = put1 (rowE es a) a x := by
  unfold rowE; rw [List.foldl_append]; rfl
theorem rowE_nil (a : Nat) : rowE [] a = 0#64 := rfl
theorem rowsE_len (n : Nat) (es : List E2) : (rowsE n es).length = n := by unfold rowsE; simp
theorem rowsE_get {n a : Nat} (es : List E2) (h : a < n) : (rowsE n es).getD a 0#64 = rowE es a := by
  unfold rowsE
  rw [List.getD_eq_getElem?_getD, List.getElem?_map, List.getElem?_range h]; rfl
theorem rowsE_at {n i : Nat} (es : List E2) (h : i < (rowsE n es).length) : (rowsE n es)[i] = rowE es i := by
  have hn : i < n := by rw [rowsE_len] at h; exact h
  have := rowsE_get es hn
  rw [List.getD_eq_getElem?_getD, List.getElem?_eq_getElem h] at this
  exact this
theorem rowsE_nil (n : Nat) : rowsE n [] = List.replicate n 0#64 := by
  apply List.ext_getElem
  · rw [rowsE_len]; simp
  · intro i h1 h2
    rw [List.getElem_replicate, rowsE_at]
    rfl
theorem rowsE_snoc {n a b : Nat} (es : List E2) (h : a < n) : rowsE n (es ++ [((a : Int), (b : Int))]) = (rowsE n es).set a ((rowsE n es).getD a 0#64 ||| (1#64 <<< b)) := by
  apply List.ext_getElem
  · rw [List.length_set, rowsE_len, rowsE_len]
  · intro i h1 h2
    have h1' : i < n := by rw [rowsE_len] at h1; exact h1
    rw [List.getElem_set, rowsE_at, rowE_snoc]
    unfold put1
    by_cases hi : a = i
    · subst hi
      rw [if_pos rfl, if_pos rfl, rowsE_get es h]; simp
    · rw [if_neg (show ¬ ((a : Int) = (i : Int)) by omega), if_neg hi, rowsE_at]
theorem has_put1 {s : B} {a b : Nat} {x : E2} (hx : 0 ≤ x.2 ∧ x.2 < 64) (hb : b < 64) : has (put1 s a x) b = (has s b || decide (x = ((a : Int), (b : Int)))) := by
  obtain ⟨x1, x2⟩ := x
  unfold put1
  simp only at hx ⊢
  obtain ⟨k, rfl⟩ := Int.eq_ofNat_of_zero_le hx.1
  by_cases h : x1 = (a : Int)
  · subst h
    rw [if_pos rfl, has_or, Int.toNat_natCast, has_one _ _ hb]
    congr 1
    rw [decide_eq_decide]
    constructor
    · rintro rfl; rfl
    · intro e; injection e with _ e; omega
  · rw [if_neg h, decide_eq_false (fun e => h (by injection e)), Bool.or_false]
theorem has_fold {a b : Nat} (hb : b < 64) : ∀ (es : List E2) (s : B), (∀ x ∈ es, 0 ≤ x.2 ∧ x.2 < 64) → has (es.foldl (fun s x => put1 s a x) s) b = (has s b || decide (((a : Int), (b : Int)) ∈ es))
  | [], s, _ => by simp
  | x :: es, s, h => by
    rw [List.foldl_cons, has_fold hb es _ (fun y hy => h y (List.mem_cons_of_mem _ hy)), has_put1 (h x List.mem_cons_self) hb, Bool.or_assoc]
    congr 1
    rw [Bool.eq_iff_iff, Bool.or_eq_true, decide_eq_true_iff, decide_eq_true_iff, decide_eq_true_iff, List.mem_cons]
    exact or_congr eq_comm Iff.rfl
theorem has_rowE {es : List E2} {a b : Nat} (hb : b < 64) (h : ∀ x ∈ es, 0 ≤ x.2 ∧ x.2 < 64) : has (rowE es a) b = decide (((a : Int), (b : Int)) ∈ es) := by
  unfold rowE
  rw [has_fold hb es _ h, has_zero, Bool.false_or]
end Go.Proofs.YtoiolepengcagaaGreatDoor
namespace Go.Proofs.YtoiolepengcagaaGreatDoor
open Go.RowKit Go.Shelf
def cmpS (x y : ByteArray) : Int := if x.data.toList < y.data.toList then -1 else if y.data.toList < x.data.toList then 1 else 0
theorem cmpS_neg {x y : ByteArray} : cmpS x y < 0 ↔ x.data.toList < y.data.toList := by
  unfold cmpS
  by_cases h : x.data.toList < y.data.toList
  · rw [if_pos h]; simp [h]
  · rw [if_neg h]
    split
    · simp [h]
    · simp [h]
theorem run_gtr_str {x y : ByteArray} {b c : Bool} (h : Op.bytesLess x.toList y.toList = b) (h2 : (x.toList == y.toList) = c) (w : World) : (binOp .gtr 9 (.string x) (.string y)).run Tryz.prog w = .ok (.bool (!(b || c))) w := by
  simp [binOp, Op.stringOp, h, h2]
theorem bytesLess_of (x y : ByteArray) : Op.bytesLess x.toList y.toList = decide (x.data.toList < y.data.toList) := by rw [Proofs.bytesLess_eq, Lib.toList_data, Lib.toList_data]
set_option maxHeartbeats 400000 in
theorem isNaNs_ok (x : ByteArray) (w : World) : Calls Tryz.prog 96 #[.string x] w fun e w' => e = .returned (.bool false) ∧ w' = w := by
  go_enter Tryz.func96, Tryz.ntmps96
  go_wp2
  go_ret
  exact ⟨by simp, rfl⟩
set_option maxHeartbeats 1000000 in
theorem cmpS_ok (x y : ByteArray) (w : World) : Calls Tryz.prog 60 #[.string x, .string y] w fun e w' => e = .returned (.int .i64 (cmpS x y)) ∧ w' = w := by
  by_cases h : x.data.toList < y.data.toList
  · have hv : cmpS x y = -1 := by unfold cmpS; rw [if_pos h]
    have h1 := (bytesLess_of x y).trans (decide_eq_true h)
    rw [hv]
    clear hv h
    go_enter Tryz.func60, Tryz.ntmps60
    go_wp2_with (go_at_call 96; refine (isNaNs_ok _ _).mono ?_; rintro e w' ⟨rfl, rfl⟩)
    go_ret
    exact ⟨rfl, rfl⟩
  · have h1 := (bytesLess_of x y).trans (decide_eq_false h)
    by_cases h2 : y.data.toList < x.data.toList
    · have hv : cmpS x y = 1 := by unfold cmpS; rw [if_neg h, if_pos h2]
      have hne : (x.toList == y.toList) = false := by
        rw [Lib.toList_data, Lib.toList_data, beq_eq_false_iff_ne]
        intro e
        rw [e] at h2
        exact lt_irr h2
      have h3 := run_gtr_str ((bytesLess_of x y).trans (decide_eq_false h)) hne
      rw [hv]
      clear hv h h2 hne
      go_enter Tryz.func60, Tryz.ntmps60
      go_wp2_with (go_at_call 96; refine (isNaNs_ok _ _).mono ?_; rintro e w' ⟨rfl, rfl⟩)
      go_ret
      exact ⟨rfl, rfl⟩
    · have hv : cmpS x y = 0 := by unfold cmpS; rw [if_neg h, if_neg h2]
      have hne : (x.toList == y.toList) = true := by
        rw [Lib.toList_data, Lib.toList_data, beq_iff_eq]
        exact List.le_antisymm (List.not_lt.1 h2) (List.not_lt.1 h)
      have h3 := run_gtr_str ((bytesLess_of x y).trans (decide_eq_false h)) hne
      rw [hv]
      clear hv h h2 hne
      go_enter Tryz.func60, Tryz.ntmps60
      go_wp2_with (go_at_call 96; refine (isNaNs_ok _ _).mono ?_; rintro e w' ⟨rfl, rfl⟩)
      go_ret
      exact ⟨rfl, rfl⟩
theorem drewN_add (w : World) (a b : Nat) : (w.drewN a).drewN b = w.drewN (a + b) := by simp [World.drewN, Nat.add_assoc]
/-- each name below the next one -/
def RiseTo (zs : List ByteArray) (k : Nat) : Prop := ∀ i, i < k → (zs.getD i ByteArray.empty).data.toList < (zs.getD (i + 1) ByteArray.empty).data.toList
theorem rise_to {zs : List ByteArray} : RiseTo zs (zs.length - 1) ↔ Rise zs := by
  constructor
  · intro h i j hij hj
    obtain ⟨d, rfl⟩ : ∃ d, j = i + d + 1 := ⟨j - i - 1, by omega⟩
    induction d with
    | zero => exact h i (by omega)
    | succ d ih => exact List.lt_trans (ih (by omega) (by omega)) (h (i + d + 1) (by omega))
  · intro h i hi
    exact h i (i + 1) (by omega) (by omega)
theorem rise_next {zs : List ByteArray} {k : Nat} (h : RiseTo zs k) (hk : cmpS (zs.getD k ByteArray.empty) (zs.getD (k + 1) ByteArray.empty) < 0) : RiseTo zs (k + 1) := fun i hi => by
  rcases Nat.lt_or_ge i k with h1 | h1
  · exact h i h1
  · rw [show i = k from by omega]; exact cmpS_neg.1 hk
set_option maxHeartbeats 1000000 in
theorem risesS_ok (p : Option Addr) (n c : Nat) (zs : List ByteArray) (w : World) (h : NL w p n c zs) :
    Calls Tryz.prog 59 #[.slice p n c, .func (.func 60) #[] #[]] w fun e w' => ((e = .returned (.bool true) ∧ Rise zs) ∨ (e = .returned (.bool false) ∧ ¬ Rise zs)) ∧ ∃ q, w' = w.drewN q := by
  have hl := h.at_.len
  have hbig := h.at_.big
  subst hl
  have HN := Lib.hid h
  clear h
  go_enter Tryz.func59, Tryz.ntmps59
  go_wp2
  go_loopw [9] (fun i wr => ∃ k : Nat, i = .int .i64 k ∧ (k = 0 ∨ k < zs.length) ∧ Hid (RiseTo zs k) ∧ Hid (∃ q, wr = w.drewN q)) (fun i _ => zs.length - (intOf i).toNat)
  case atStart => exact ⟨0, rfl, .inl rfl, show RiseTo zs 0 from fun i hi => by omega, show ∃ q, w = w.drewN q from ⟨0, rfl⟩⟩
  case round =>
    obtain ⟨k, rfl, hk, HR, HW⟩ := hrel
    by_cases hlt : (k : Int) < (zs.length : Int) - 1
    · have HNw : Hid (NL wr p zs.length c zs) := by
        show NL _ _ _ _ _
        obtain ⟨q, hq⟩ := HW.out
        rw [hq]; exact HN.out.drew q
      obtain ⟨ad, rfl, _⟩ := HN.out.at_.reads.2 (by omega)
      obtain ⟨b, o, rfl, _⟩ := HN.out.plain _ rfl
      have hc1 := HNw.out.cellAt k (by omega)
      have hc2 := HNw.out.cellAt (k + 1) (by omega)
      have HX : Hid (cmpS (zs.getD k ByteArray.empty) (zs.getD (k + 1) ByteArray.empty) < 0 → RiseTo zs (k + 1)) := by show _ → _; exact rise_next HR.out
      have HY : Hid (¬ cmpS (zs.getD k ByteArray.empty) (zs.getD (k + 1) ByteArray.empty) < 0 → ¬ Rise zs) := by
        show _ → _
        intro h1 h2
        exact h1 (cmpS_neg.2 (h2 k (k + 1) (by omega) (by omega)))
      generalize zs.getD k ByteArray.empty = x at *
      generalize zs.getD (k + 1) ByteArray.empty = y at *
      obtain ⟨z, hz⟩ : ∃ z, cmpS x y = z := ⟨_, rfl⟩
      rw [hz] at HX HY
      have HZ := Lib.hid hz
      clear hz
      by_cases h0 : (0 : Int) ≤ z
      · go_wp2
        go_quiet ((go_at_call 60; refine (cmpS_ok x y _).mono ?_; rintro e w'' ⟨he, hw⟩; rw [HZ.out] at he; exact ⟨he, _, hw⟩))
        go_wp2
        go_ret
        refine ⟨.inr ⟨rfl, HY.out (by omega)⟩, ?_⟩
        obtain ⟨q, hq⟩ := HW.out
        exact ⟨_, by rw [hq, drewN_add]⟩
      · go_wp2
        go_quiet ((go_at_call 60; refine (cmpS_ok x y _).mono ?_; rintro e w'' ⟨he, hw⟩; rw [HZ.out] at he; exact ⟨he, _, hw⟩))
        go_wp2
        go_roundw
        case rel =>
          refine ⟨k + 1, by go_num, by omega, HX.out (by omega), ?_⟩
          obtain ⟨q, hq⟩ := HW.out
          exact ⟨_, by rw [hq, drewN_add]⟩
        case measure => simp [intOf]; omega
    · go_wp2
      go_ret
      refine ⟨.inl ⟨rfl, ?_⟩, HW.out⟩
      rw [← rise_to]
      have : zs.length - 1 = k := by omega
      rw [this]; exact HR.out
theorem cell_drew (w : World) (a : Addr) : w.drew.cell? a = w.cell? a := rfl
def ordE (a b : E2) : Int := if Lib.compareInt a.1 b.1 ≠ 0 then Lib.compareInt a.1 b.1 else Lib.compareInt a.2 b.2
def e2V (x : E2) : Value := .agg #[.int .i64 x.1, .int .i64 x.2]
set_option maxHeartbeats 1000000 in
theorem or_ok (x y : Int) (b : Nat) (w : World) (h1 : w.cell? ⟨b, 0, none⟩ = some (.int .i64 x)) (h2 : w.cell? ⟨b, 1, none⟩ = some (.int .i64 y)) :
    Calls Tryz.prog 97 #[.slice (some ⟨b, 0, none⟩) 2 2] w fun e w' => e = .returned (.int .i64 (if x ≠ 0 then x else y)) ∧ w' = w := by
  go_enter Tryz.func97, Tryz.ntmps97
  go_wp2
  go_loop [8] (fun i => i = .int .i64 0 ∨ (i = .int .i64 1 ∧ x = 0) ∨ (i = .int .i64 2 ∧ x = 0 ∧ y = 0)) (fun i => 2 - (intOf i).toNat)
  case atStart => exact .inl rfl
  case round =>
    rcases hrel with rfl | ⟨rfl, rfl⟩ | ⟨rfl, rfl, rfl⟩
    · by_cases hx : x = 0
      · subst hx
        go_wp2
        go_round
        case rel => exact .inr (.inl ⟨by go_num, trivial⟩)
        case measure => simp [intOf]
      · have hb : (x != 0) = true := by simpa using hx
        go_wp2
        go_ret
        exact ⟨by first | rfl | (rw [if_pos hx]; rfl), rfl⟩
    · by_cases hy : y = 0
      · subst hy
        go_wp2
        go_round
        case rel => exact .inr (.inr ⟨by go_num, trivial, trivial⟩)
        case measure => simp [intOf]
      · have hb : (y != 0) = true := by simpa using hy
        go_wp2
        go_ret
        exact ⟨by simp, rfl⟩
    · go_wp2
      go_ret
      exact ⟨by simp, rfl⟩
set_option maxHeartbeats 1000000 in
set_option maxRecDepth 100000 in
theorem eorder_ok (a b : E2) (w : World) : Calls Tryz.prog 62 #[e2V a, e2V b] w fun e w' => e = .returned (.int .i64 (ordE a b)) ∧ Below w.heap.size w w' := by
  obtain ⟨a1, a2⟩ := a
  obtain ⟨b1, b2⟩ := b
  unfold e2V ordE
  simp only
  obtain ⟨x, hx⟩ : ∃ x, Lib.compareInt a1 b1 = x := ⟨_, rfl⟩
  obtain ⟨y, hy⟩ : ∃ y, Lib.compareInt a2 b2 = y := ⟨_, rfl⟩
  rw [hx, hy]
  have HO := Lib.hid (or_ok x y)
  obtain ⟨v, hv⟩ : ∃ v, (if x ≠ 0 then x else y) = v := ⟨_, rfl⟩
  rw [hv] at HO ⊢
  clear hv
  have HX := Lib.hid (Tryz.cmp_Compare_int a1 b1)
  have HY := Lib.hid (Tryz.cmp_Compare_int a2 b2)
  rw [hx] at HX
  rw [hy] at HY
  clear hx hy
  go_enter Tryz.func62, Tryz.ntmps62
  go_wp2
  obtain ⟨W, hW⟩ : ∃ W, W = (w.alloc (.cells #[.int .i64 a1, .int .i64 a2] 59)).alloc (.cells #[.int .i64 b1, .int .i64 b2] 59) := ⟨_, rfl⟩
  have c1 : W.cell? ⟨w.heap.size, 0, none⟩ = some (.int .i64 a1) := by rw [hW, World.cell?_alloc_lt _ _ _ (by simp), World.cell?_alloc_at _ _ _ _ rfl]; rfl
  have c2 : W.cell? ⟨w.heap.size, 1, none⟩ = some (.int .i64 a2) := by rw [hW, World.cell?_alloc_lt _ _ _ (by simp), World.cell?_alloc_at _ _ _ _ rfl]; rfl
  have c3 : W.cell? ⟨w.heap.size + 1, 0, none⟩ = some (.int .i64 b1) := by rw [hW, World.cell?_alloc_at _ _ _ _ (by simp)]; rfl
  have c4 : W.cell? ⟨w.heap.size + 1, 1, none⟩ = some (.int .i64 b2) := by rw [hW, World.cell?_alloc_at _ _ _ _ (by simp)]; rfl
  have HB : Hid (Below w.heap.size w W) := by
    show Below _ _ _
    rw [hW]; exact ((Below.refl _ _).alloc (Nat.le_refl _) _).alloc (by simp) _
  rw [← hW]
  clear hW
  refine wp_region_still_tail 10 (by kernel_rfl) (by kernel_rfl) ?_
  simp only [List.take_succ_cons, List.take_zero, List.drop_succ_cons, List.drop_zero]
  repeat still_step
  still_call (HX.out _)
  repeat still_step
  still_call (HY.out _)
  repeat still_step
  refine wpStill_nil ?_
  obtain ⟨W2, hW2⟩ : ∃ W2 : World, W2 = { heap := W.heap, tape := W.tape, drawn := W.drawn + 1, os := W.os, output := W.output } := ⟨_, rfl⟩
  have HB2 : Hid (Below w.heap.size w W2) := by
    show Below _ _ _
    rw [hW2]; exact HB.out.drew
  rw [← hW2]
  clear hW2 c1 c2 c3 c4 HB
  go_wp2_with (go_at_call 97; refine (HO.out _ _ (by rw [World.cell?_alloc_at _ _ _ _ rfl]; rfl) (by rw [World.cell?_alloc_at _ _ _ _ rfl]; rfl)).mono ?_; rintro e w' ⟨rfl, rfl⟩)
  go_ret
  exact ⟨rfl, HB2.out.alloc HB2.out.size _⟩
end Go.Proofs.YtoiolepengcagaaGreatDoor
namespace Go.Proofs.YtoiolepengcagaaGreatDoor
open Go.RowKit Go.Shelf
def eF (x : E2) : Value := .int .i64 x.1
def eG (x : E2) : Value := .int .i64 x.2
abbrev EsAt (w : World) (p : Option Addr) (n c : Nat) (es : List E2) : Prop := P2At eF eG w p n c es
theorem ordE_neg {a b : E2} : ordE a b < 0 ↔ elt a b := by
  have key : ∀ x y : Int, (x < y ∧ Lib.compareInt x y = -1) ∨ (x = y ∧ Lib.compareInt x y = 0) ∨ (y < x ∧ Lib.compareInt x y = 1) := by
    intro x y
    unfold Lib.compareInt
    rcases Int.lt_trichotomy x y with h | h | h
    · exact .inl ⟨h, if_pos h⟩
    · exact .inr (.inl ⟨h, by rw [if_neg (by omega), if_neg (by omega)]⟩)
    · exact .inr (.inr ⟨h, by rw [if_neg (by omega), if_pos h]⟩)
  unfold ordE elt
  rcases key a.1 b.1 with ⟨h, e⟩ | ⟨h, e⟩ | ⟨h, e⟩
  · rw [e, if_pos (by decide)]; omega
  · rw [e, if_neg (by decide)]
    rcases key a.2 b.2 with ⟨g, f⟩ | ⟨g, f⟩ | ⟨g, f⟩ <;> rw [f] <;> omega
  · rw [e, if_pos (by decide)]; omega
def ERiseTo (es : List E2) (k : Nat) : Prop := ∀ i, i < k → elt (es.getD i (0, 0)) (es.getD (i + 1) (0, 0))
theorem erise_next {es : List E2} {k : Nat} (h : ERiseTo es k) (hk : ordE (es.getD k (0, 0)) (es.getD (k + 1) (0, 0)) < 0) : ERiseTo es (k + 1) := fun i hi => by
  rcases Nat.lt_or_ge i k with h1 | h1
  · exact h i h1
  · rw [show i = k from by omega]; exact ordE_neg.1 hk
theorem getD_some {α : Type} {l : List α} {k : Nat} (d : α) (h : k < l.length) : l[k]? = some (l.getD k d) := by
  rw [List.getD_eq_getElem?_getD, List.getElem?_eq_getElem h]; rfl
set_option maxHeartbeats 1000000 in
set_option maxRecDepth 100000 in
theorem risesE_ok (p : Option Addr) (n c : Nat) (es : List E2) (w : World) (h : EsAt w p n c es) :
    Calls Tryz.prog 61 #[.slice p n c, .func (.func 62) #[] #[]] w fun e w' => ((e = .returned (.bool true) ∧ ERise es) ∨ (e = .returned (.bool false) ∧ ¬ ERise es)) ∧ Below w.heap.size w w' := by
  have hl := h.len
  have hbig := h.big
  subst hl
  have HN := Lib.hid h
  clear h
  go_enter Tryz.func61, Tryz.ntmps61
  go_wp2
  go_loopw [9] (fun i wr => ∃ k : Nat, i = .int .i64 k ∧ (k = 0 ∨ k < es.length) ∧ Hid (ERiseTo es k) ∧ Hid (Below w.heap.size w wr)) (fun i _ => es.length - (intOf i).toNat)
  case atStart => exact ⟨0, rfl, .inl rfl, show ERiseTo es 0 from fun i hi => by omega, show Below _ _ _ from Below.refl _ _⟩
  case round =>
    obtain ⟨k, rfl, hk, HR, HW⟩ := hrel
    by_cases hlt : (k : Int) < (es.length : Int) - 1
    · have HNw := Lib.hid (HN.out.below HW.out)
      obtain ⟨b, o, rfl, hb, hca, hcb⟩ := HNw.out.cell (getD_some (0, 0) (show k < es.length by omega))
      obtain ⟨b', o', hbo, _, hcc, hcd⟩ := HNw.out.cell (getD_some (0, 0) (show k + 1 < es.length by omega))
      injection hbo with hbo
      injection hbo with e1 e2
      subst e1 e2
      have HX : Hid (ordE (es.getD k (0, 0)) (es.getD (k + 1) (0, 0)) < 0 → ERiseTo es (k + 1)) := by show _ → _; exact erise_next HR.out
      have HY : Hid (¬ ordE (es.getD k (0, 0)) (es.getD (k + 1) (0, 0)) < 0 → ¬ ERise es) := by
        show _ → _
        intro h1 h2
        exact h1 (ordE_neg.2 (h2 k (by omega)))
      generalize es.getD k (0, 0) = x at *
      generalize es.getD (k + 1) (0, 0) = y at *
      have HO := Lib.hid (eorder_ok x y)
      obtain ⟨z, hz⟩ : ∃ z, ordE x y = z := ⟨_, rfl⟩
      rw [hz] at HX HY HO
      clear hz
      obtain ⟨x1, x2⟩ := x
      obtain ⟨y1, y2⟩ := y
      simp only [eF, eG] at hca hcb hcc hcd
      have hl1 : (k : Int) < (es.length : Int) := by omega
      have hl2 : (k : Int) + 1 < (es.length : Int) := by omega
      have hl3 : (0 : Int) ≤ (k : Int) + 1 := by omega
      have htn : ((k : Int) + 1).toNat = k + 1 := by omega
      have hwr : IntKind.i64.wrap ((k : Int) + 1) = (k : Int) + 1 := by rw [IntKind.wrap_i64]; omega
      go_wp2
      refine wp_region_still_tail 10 (by kernel_rfl) (by kernel_rfl) ?_
      simp only [List.take_succ_cons, List.take_zero, List.drop_succ_cons, List.drop_zero]
      obtain ⟨W2, hW2⟩ : ∃ W2 : World, W2 = { heap := wr.heap, tape := wr.tape, drawn := wr.drawn + 1, os := wr.os, output := wr.output } := ⟨_, rfl⟩
      have HB2 : Hid (Below w.heap.size w W2) := by
        show Below _ _ _
        rw [hW2]; exact HW.out.drew
      have d1 : W2.cell? ⟨b, o + k * 2, none⟩ = some (.int .i64 x1) := by rw [hW2]; exact hca
      have d2 : W2.cell? ⟨b, o + k * 2 + 1, none⟩ = some (.int .i64 x2) := by rw [hW2]; exact hcb
      have d3 : W2.cell? ⟨b, o + (k + 1) * 2, none⟩ = some (.int .i64 y1) := by rw [hW2]; exact hcc
      have d4 : W2.cell? ⟨b, o + (k + 1) * 2 + 1, none⟩ = some (.int .i64 y2) := by rw [hW2]; exact hcd
      rw [← hW2]
      clear hW2 hca hcb hcc hcd
      repeat still_step
      refine wpStill_nil ?_
      clear d1 d2 d3 d4
      unfold e2V at HO
      by_cases h0 : (0 : Int) ≤ z
      · go_wp2_with (go_at_call 62; refine (HO.out _).mono ?_; rintro e w' ⟨rfl, hb'⟩; have HB3 := Lib.hid (HB2.out.trans (hb'.mono HB2.out.size)); clear hb')
        go_ret
        exact ⟨.inr ⟨rfl, HY.out (by omega)⟩, HB3.out⟩
      · go_wp2_with (go_at_call 62; refine (HO.out _).mono ?_; rintro e w' ⟨rfl, hb'⟩; have HB3 := Lib.hid (HB2.out.trans (hb'.mono HB2.out.size)); clear hb')
        go_roundw
        case rel => exact ⟨k + 1, by go_num, by omega, HX.out (by omega), HB3.out⟩
        case measure => simp [intOf]; omega
    · go_wp2
      go_ret
      refine ⟨.inl ⟨rfl, fun i hi => HR.out i (by omega)⟩, HW.out⟩
end Go.Proofs.YtoiolepengcagaaGreatDoor
namespace Go.Proofs.YtoiolepengcagaaGreatDoor
open Go.RowKit Go.Shelf
/-- what a graph holds -/
structure GD where
  names : List ByteArray
  edges : List E2
  phony : B
  made : B
/-- a graph that Check lets pass -/
structure Good (g : GD) : Prop where
  names : g.names.length ≤ 64
  ok : okN g.names g.names.length
  rise : Rise g.names
  edges : ∀ x ∈ g.edges, EIn g.names.length x
  erise : ERise g.edges
  sets : (g.phony ||| g.made) &&& ~~~belowB g.names.length = 0#64
/-- a graph as the call can read it -/
structure GrAt (w : World) (v : Value) (g : GD) : Prop where
  at_ : ∃ (p : Option Addr) (n c : Nat) (q : Option Addr) (m d : Nat), v = .agg #[.slice p n c, .slice q m d, .int .u64 (un g.phony : Int), .int .u64 (un g.made : Int)] ∧ NL w p n c g.names ∧ EsAt w q m d g.edges
theorem GrAt.below {w w' : World} {v : Value} {g : GD} (h : GrAt w v g) (hb : Below w.heap.size w w') : GrAt w' v g := by
  obtain ⟨p, n, c, q, m, d, h1, h2, h3⟩ := h.at_
  exact ⟨p, n, c, q, m, d, h1, h2.below hb, h3.below hb⟩
def EAll (g : GD) (k : Nat) : Prop := ∀ x ∈ g.edges.take k, EIn g.names.length x
theorem eall_next {g : GD} {k : Nat} (hk : k < g.edges.length) (h : EAll g k) (hx : EIn g.names.length (g.edges.getD k (0, 0))) : EAll g (k + 1) := by
  intro x hm
  rw [List.take_succ_eq_append_getElem hk] at hm
  rcases List.mem_append.1 hm with hm | hm
  · exact h x hm
  · rw [List.mem_singleton.1 hm]
    rw [List.getD_eq_getElem?_getD, List.getElem?_eq_getElem hk] at hx
    exact hx
theorem eall_no {g : GD} {k : Nat} (hk : k < g.edges.length) (hx : ¬ EIn g.names.length (g.edges.getD k (0, 0))) : ¬ Good g := fun h => hx (h.edges _ (by
  rw [List.getD_eq_getElem?_getD, List.getElem?_eq_getElem hk]; exact List.getElem_mem hk))
set_option maxHeartbeats 4000000 in
set_option maxRecDepth 100000 in
theorem CheckG2_ok (v : Value) (g : GD) (w : World) (h : GrAt w v g) :
    Calls Tryz.prog 27 #[v] w fun e w' => (∃ E : Int, e = .returned (.int .i64 E) ∧ ((E = 0 ∧ Good g) ∨ (E ≠ 0 ∧ ¬ Good g))) ∧ Below w.heap.size w w' := by
  obtain ⟨p, n, c, q, m, d, rfl, hN, hE⟩ := h.at_
  have hln := hN.at_.len
  have hlm := hE.len
  subst hln hlm
  have hbn := hN.at_.big
  have hbm := hE.big
  obtain ⟨W, hW⟩ : ∃ W, W = w.alloc (.cells #[.slice p g.names.length c, .slice q g.edges.length d, .int .u64 (un g.phony : Int), .int .u64 (un g.made : Int)] 54) := ⟨_, rfl⟩
  have hBW : Below w.heap.size w W := by rw [hW]; exact (Below.refl _ _).alloc (Nat.le_refl _) _
  have HS : Hid (w.heap.size < W.heap.size) := by show _ < _; rw [hW]; simp
  have HC : Hid (∀ u : World, Below W.heap.size W u → u.cell? ⟨w.heap.size, 0, none⟩ = some (.slice p g.names.length c) ∧ u.cell? ⟨w.heap.size, 1, none⟩ = some (.slice q g.edges.length d) ∧ u.cell? ⟨w.heap.size, 2, none⟩ = some (.int .u64 (un g.phony : Int)) ∧ u.cell? ⟨w.heap.size, 3, none⟩ = some (.int .u64 (un g.made : Int))) := by
    show ∀ u : World, _ → _
    intro u hu
    rw [hu.cell HS.out, hu.cell HS.out, hu.cell HS.out, hu.cell HS.out, hW]
    refine ⟨?_, ?_, ?_, ?_⟩ <;> (rw [World.cell?_alloc_at _ _ _ _ rfl]; rfl)
  have HN := Lib.hid (hN.below hBW)
  have HE := Lib.hid (hE.below hBW)
  have HBW := Lib.hid hBW
  obtain ⟨k0, k1, k2, k3⟩ := HC.out W (Below.refl _ _)
  rw [hW] at k0 k1 k2 k3
  clear hN hE hBW h
  by_cases h64 : g.names.length ≤ 64
  · by_cases hok : okN g.names g.names.length
    · go_enter Tryz.func27, Tryz.ntmps27
      go_wp2_with fail
      rw [← hW]
      clear hW k0 k1 k2 k3
      refine (Sort_yes _ _ _ g.names _ HN.out hok).mono ?_
      rintro e w2 ⟨gg, cg, rfl, _, hb2⟩
      have HB2 := Lib.hid hb2
      obtain ⟨k0, k1, k2, k3⟩ := HC.out w2 hb2
      clear hb2
      go_wp2_with fail
      refine (risesS_ok _ _ _ g.names _ (HN.out.below HB2.out)).mono ?_
      rintro e w3 ⟨hcase, qq, rfl⟩
      rcases hcase with ⟨rfl, hr⟩ | ⟨rfl, hr⟩
      · have HR := Lib.hid hr
        have HB3 : Hid (Below W.heap.size W (w2.drewN qq)) := by show Below _ _ _; exact below_drawsP HB2.out qq
        clear hr
        obtain ⟨w3, hw3⟩ : ∃ w3, w3 = w2.drewN qq := ⟨_, rfl⟩
        rw [← hw3] at HB3 ⊢
        clear hw3 HB2 k0 k1 k2 k3
        obtain ⟨k0, k1, k2, k3⟩ := HC.out w3 HB3.out
        generalize (sortN g.names).length = sl at *
        have HH : Hid (g.names.length ≤ 64 ∧ okN g.names g.names.length) := by show _ ∧ _; exact ⟨h64, hok⟩
        clear hok
        go_wp2
        go_loopw [31] (fun i wr => ∃ k : Nat, k ≤ g.edges.length ∧ i = .int .i64 k ∧ Hid (EAll g k) ∧ Hid (Below W.heap.size W wr)) (fun i _ => g.edges.length - (intOf i).toNat)
        case atStart => exact ⟨0, Nat.zero_le _, rfl, show EAll g 0 from fun x hx => by simp at hx, HB3⟩
        case round =>
          clear k0 k1 k2 k3
          obtain ⟨k, hk, rfl, HA, HW⟩ := hrel
          have HFIN : Hid (∀ u, Below W.heap.size W u → Below w.heap.size w u) := by show ∀ u, _; exact fun u hu => HBW.out.trans (hu.mono (Nat.le_of_lt HS.out))
          by_cases hlt : k < g.edges.length
          · obtain ⟨b, o, rfl, hb, hca, hcb⟩ := (HE.out.below HW.out).cell (getD_some (0, 0) hlt)
            have HX := Lib.hid (eall_next hlt HA.out)
            have HY := Lib.hid (eall_no (g := g) hlt)
            generalize g.edges.getD k (0, 0) = x at *
            obtain ⟨x1, x2⟩ := x
            simp only [eF, eG] at hca hcb
            have hca2 : wr.cell? ⟨b, o + k * 2 + 1, none⟩ = some (.int .i64 x2) := hcb
            have HB4 : Hid (Below W.heap.size W (wr.alloc (.cells #[.int .i64 x1, .int .i64 x2] 59))) := by show Below _ _ _; exact HW.out.alloc HW.out.size _
            clear hcb
            by_cases g1 : x1 < 0
            · have HN4 := Lib.hid (HY.out (fun h => by have := h.1; simp only at this; omega))
              clear HX HY
              go_wp2
              go_ret
              exact ⟨⟨4, rfl, .inr ⟨by decide, HN4.out⟩⟩, HFIN.out _ HB4.out⟩
            by_cases g2 : (g.names.length : Int) ≤ x1
            · have HN4 := Lib.hid (HY.out (fun h => by have := h.2.1; simp only at this; omega))
              clear HX HY
              go_wp2
              go_ret
              exact ⟨⟨4, rfl, .inr ⟨by decide, HN4.out⟩⟩, HFIN.out _ HB4.out⟩
            by_cases g3 : x2 < 0
            · have HN4 := Lib.hid (HY.out (fun h => by have := h.2.2.1; simp only at this; omega))
              clear HX HY
              go_wp2
              go_ret
              exact ⟨⟨4, rfl, .inr ⟨by decide, HN4.out⟩⟩, HFIN.out _ HB4.out⟩
            by_cases g4 : (g.names.length : Int) ≤ x2
            · have HN4 := Lib.hid (HY.out (fun h => by have := h.2.2.2; simp only at this; omega))
              clear HX HY
              go_wp2
              go_ret
              exact ⟨⟨4, rfl, .inr ⟨by decide, HN4.out⟩⟩, HFIN.out _ HB4.out⟩
            have HN4 := Lib.hid (HX.out ⟨by simp only; omega, by simp only; omega, by simp only; omega, by simp only; omega⟩)
            clear HX HY
            go_wp2
            go_roundw
            case rel => exact ⟨k + 1, by omega, by go_num, HN4.out, HB4.out⟩
            case measure => simp [intOf]; omega
          · obtain rfl : k = g.edges.length := by omega
            obtain ⟨k0, k1, k2, k3⟩ := HC.out wr HW.out
            have HAll : Hid (∀ x ∈ g.edges, EIn g.names.length x) := by
              show ∀ x ∈ g.edges, _
              have := HA.out
              unfold EAll at this
              rw [List.take_length] at this
              exact this
            go_wp2_with fail
            refine (risesE_ok _ _ _ g.edges _ (HE.out.below HW.out)).mono ?_
            rintro e w5 ⟨hcase, hb5⟩
            have HB5 := Lib.hid (HW.out.trans (hb5.mono HW.out.size))
            clear hb5 k0 k1 k2 k3
            obtain ⟨k0, k1, k2, k3⟩ := HC.out w5 HB5.out
            rcases hcase with ⟨rfl, hr⟩ | ⟨rfl, hr⟩
            · have HR5 := Lib.hid hr
              clear hr
              by_cases hz : (g.phony ||| g.made) &&& ~~~belowB g.names.length = 0#64
              · have HG : Hid (Good g) := by show Good g; exact ⟨HH.out.1, HH.out.2, HR.out, HAll.out, HR5.out, hz⟩
                have hzz : (((un ((g.phony ||| g.made) &&& ~~~belowB g.names.length) : Nat) : Int) != 0) = false := by rw [hz]; rfl
                clear hz
                go_wp2_with (go_at_call 63; refine (Below_ok _ h64 _).mono ?_; rintro e w' ⟨rfl, rfl⟩)
                go_ret
                exact ⟨⟨0, rfl, .inl ⟨rfl, HG.out⟩⟩, HFIN.out _ HB5.out⟩
              · have HG : Hid (¬ Good g) := by show ¬ _; exact fun h => hz h.sets
                have hzz : (((un ((g.phony ||| g.made) &&& ~~~belowB g.names.length) : Nat) : Int) != 0) = true := by
                  rw [bne_iff_ne]
                  intro e
                  exact hz (un_inj (by rw [show un 0#64 = 0 from rfl]; omega))
                clear hz
                go_wp2_with (go_at_call 63; refine (Below_ok _ h64 _).mono ?_; rintro e w' ⟨rfl, rfl⟩)
                go_ret
                exact ⟨⟨4, rfl, .inr ⟨by decide, HG.out⟩⟩, HFIN.out _ HB5.out⟩
            · have HG : Hid (¬ Good g) := by show ¬ _; exact fun h => hr h.erise
              clear hr
              go_wp2
              go_ret
              exact ⟨⟨3, rfl, .inr ⟨by decide, HG.out⟩⟩, HFIN.out _ HB5.out⟩
      · have HG : Hid (¬ Good g) := by show ¬ _; exact fun h => hr h.rise
        clear hr
        go_wp2
        go_ret
        exact ⟨⟨3, rfl, .inr ⟨by decide, HG.out⟩⟩, HBW.out.trans ((below_drawsP HB2.out qq).mono (Nat.le_of_lt HS.out))⟩
    · have HG : Hid (¬ Good g) := by show ¬ _; exact fun h => hok h.ok
      go_enter Tryz.func27, Tryz.ntmps27
      go_wp2_with fail
      rw [← hW]
      clear hW k0 k1 k2 k3
      refine (Sort_no _ _ _ g.names _ HN.out.at_ hok).mono ?_
      rintro e w2 ⟨rfl, rfl⟩
      go_wp2
      go_ret
      exact ⟨⟨3, rfl, .inr ⟨by decide, HG.out⟩⟩, HBW.out⟩
  · have HG : Hid (¬ Good g) := by show ¬ _; exact fun h => h64 h.names
    go_enter Tryz.func27, Tryz.ntmps27
    go_wp2
    go_ret
    rw [← hW]
    exact ⟨⟨2, rfl, .inr ⟨by decide, HG.out⟩⟩, HBW.out⟩
end Go.Proofs.YtoiolepengcagaaGreatDoor
namespace Go.Proofs.YtoiolepengcagaaGreatDoor
open Go.RowKit
/-! ### places in a list that rises -/
theorem idx_lt {N : List Bs} {x : Bs} (h : x ∈ N) : N.idxOf x < N.length := List.idxOf_lt_length_iff.2 h
theorem idx_get {N : List Bs} {x : Bs} (h : x ∈ N) : N[N.idxOf x]? = some x := by
  rw [List.getElem?_eq_getElem (idx_lt h), List.getElem_idxOf]
theorem idx_mono {N : List Bs} (hN : N.Pairwise (· < ·)) {x y : Bs} (hx : x ∈ N) (hy : y ∈ N) (h : x < y) : N.idxOf x < N.idxOf y := by
  have lx := idx_lt hx
  have ly := idx_lt hy
  have gx : N[N.idxOf x] = x := List.getElem_idxOf lx
  have gy : N[N.idxOf y] = y := List.getElem_idxOf ly
  rcases Nat.lt_trichotomy (N.idxOf x) (N.idxOf y) with g | g | g
  · exact g
  · exfalso
    have : x = y := by rw [← gx, ← gy]; simp only [g]
    subst this
    exact List.lt_irrefl x h
  · exfalso
    have := List.pairwise_iff_getElem.1 hN _ _ ly lx g
    rw [gx, gy] at this
    exact lt_asym h this
theorem idx_uniq {N : List Bs} (hN : N.Pairwise (· < ·)) {k : Nat} {x : Bs} (h : N[k]? = some x) : N.idxOf x = k := by
  obtain ⟨hk, e⟩ := List.getElem?_eq_some_iff.1 h
  have hx : x ∈ N := by rw [← e]; exact List.getElem_mem hk
  have lx := idx_lt hx
  have gx : N[N.idxOf x] = x := List.getElem_idxOf lx
  rcases Nat.lt_trichotomy (N.idxOf x) k with g | g | g
  · exfalso
    have := List.pairwise_iff_getElem.1 hN _ _ lx hk g
    rw [gx, e] at this
    exact List.lt_irrefl x this
  · exact g
  · exfalso
    have := List.pairwise_iff_getElem.1 hN _ _ hk lx g
    rw [gx, e] at this
    exact List.lt_irrefl x this
/-! ### the graph -/
/-- the set of some names -/
def setS (N : List Bs) (s : B) (x : ByteArray) : B := if x.data.toList ∈ N then s ||| (1#64 <<< N.idxOf x.data.toList) else s
def setM (N : List Bs) (l : List ByteArray) : B := l.foldl (setS N) 0#64
theorem has_foldS {N : List Bs} (_hN : N.length ≤ 64) : ∀ (l : List ByteArray) (s : B) (b : Nat), b < 64 → (has (l.foldl (setS N) s) b = true ↔ has s b = true ∨ ∃ x ∈ l, x.data.toList ∈ N ∧ N.idxOf x.data.toList = b) := by
  intro l
  induction l with
  | nil => intro s b _; simp
  | cons x l ih =>
    intro s b hb
    rw [List.foldl_cons, ih _ b hb]
    unfold setS
    by_cases hx : x.data.toList ∈ N
    · rw [if_pos hx, has_or, Bool.or_eq_true, has_one _ _ hb, decide_eq_true_eq, or_assoc]
      constructor
      · rintro (h | h | ⟨y, hy, h⟩)
        · exact .inl h
        · exact .inr ⟨x, List.mem_cons_self, hx, h.symm⟩
        · exact .inr ⟨y, List.mem_cons_of_mem _ hy, h⟩
      · rintro (h | ⟨y, hy, h1, h2⟩)
        · exact .inl h
        · rcases List.mem_cons.1 hy with rfl | hy
          · exact .inr (.inl h2.symm)
          · exact .inr (.inr ⟨y, hy, h1, h2⟩)
    · rw [if_neg hx]
      constructor
      · rintro (h | ⟨y, hy, h⟩)
        · exact .inl h
        · exact .inr ⟨y, List.mem_cons_of_mem _ hy, h⟩
      · rintro (h | ⟨y, hy, h1, h2⟩)
        · exact .inl h
        · rcases List.mem_cons.1 hy with rfl | hy
          · exact absurd h1 hx
          · exact .inr ⟨y, hy, h1, h2⟩
theorem has_setM {N : List Bs} (hN : N.length ≤ 64) {l : List ByteArray} {b : Nat} : has (setM N l) b = true ↔ ∃ x ∈ l, x.data.toList ∈ N ∧ N.idxOf x.data.toList = b := by
  rcases Nat.lt_or_ge b 64 with hb | hb
  · unfold setM
    rw [has_foldS hN l _ b hb]
    simp [has]
  · constructor
    · intro h; have := has_lt h; omega
    · rintro ⟨x, _, h1, h2⟩
      have := idx_lt h1
      omega
def rowsM (F : FileV) (there : List ByteArray) : List Bs := endK F.rs F.inf there
def needM (F : FileV) (there : List ByteArray) : Bs → List ByteArray := needR F.rs F.inf there
def allM (F : FileV) (there : List ByteArray) : List ByteArray := F.ph ++ (rowsM F there).flatMap fun u => txt u :: needM F there u
def namesK (F : FileV) (there : List ByteArray) : List Bs := sortN (allM F there)
/-- the edges of one rule -/
def rowM (N : List Bs) (u : Bs) (ns : List ByteArray) : List E2 := (lst (setM N ns)).map fun (tt : Nat) => ((N.idxOf u : Int), ((tt : Nat) : Int))
def edgesM (F : FileV) (there : List ByteArray) : List E2 := (rowsM F there).flatMap fun u => rowM (namesK F there) u (needM F there u)
def makeG (F : FileV) (there : List ByteArray) : GD := ⟨bz (namesK F there), edgesM F there, setM (namesK F there) F.ph, setM (namesK F there) ((rowsM F there).map txt)⟩
noncomputable def makeE (F : FileV) (there : List ByteArray) : Int :=
  if checkF F ≠ 0 then checkF F else if fillE F.rs F.inf there ≠ 0 then fillE F.rs F.inf there else if 64 < (namesK F there).length then 2 else 0
theorem makeE_zero {F : FileV} {there : List ByteArray} (h : makeE F there = 0) : checkF F = 0 ∧ fillE F.rs F.inf there = 0 ∧ (namesK F there).length ≤ 64 := by
  unfold makeE at h
  split at h
  · rename_i h1; exact absurd h h1
  · rename_i h1
    split at h
    · rename_i h2; exact absurd h h2
    · rename_i h2
      split at h
      · cases h
      · rename_i h3
        exact ⟨by simpa using h1, by simpa using h2, by omega⟩
section
variable {F : FileV} {there : List ByteArray}
theorem namesM_strict : (namesK F there).Pairwise (· < ·) := sortN_strict _
theorem namesM_mem {x : ByteArray} : x.data.toList ∈ namesK F there ↔ x ∈ allM F there := by
  unfold namesK
  rw [sortN_mem]
  exact mem_byt
theorem row_in {u : Bs} (hu : u ∈ rowsM F there) : u ∈ namesK F there := by
  have : (txt u).data.toList ∈ namesK F there := namesM_mem.2 (List.mem_append_right _ (List.mem_flatMap.2 ⟨u, hu, List.mem_cons_self⟩))
  rwa [txt_list] at this
theorem need_in {u : Bs} (hu : u ∈ rowsM F there) {n : ByteArray} (hn : n ∈ needM F there u) : n.data.toList ∈ namesK F there :=
  namesM_mem.2 (List.mem_append_right _ (List.mem_flatMap.2 ⟨u, hu, List.mem_cons_of_mem _ hn⟩))
theorem ph_in {n : ByteArray} (hn : n ∈ F.ph) : n.data.toList ∈ namesK F there := namesM_mem.2 (List.mem_append_left _ hn)
theorem edge_mem (h64 : (namesK F there).length ≤ 64) {x : E2} : x ∈ edgesM F there ↔ ∃ u ∈ rowsM F there, ∃ n ∈ needM F there u, n.data.toList ∈ namesK F there ∧ x = (((namesK F there).idxOf u : Int), ((namesK F there).idxOf n.data.toList : Int)) := by
  unfold edgesM rowM
  rw [List.mem_flatMap]
  constructor
  · rintro ⟨u, hu, hx⟩
    obtain ⟨tt, hto, rfl⟩ := List.mem_map.1 hx
    rw [mem_lst, has_setM h64] at hto
    obtain ⟨n, hn, h1, rfl⟩ := hto
    exact ⟨u, hu, n, hn, h1, rfl⟩
  · rintro ⟨u, hu, n, hn, h1, rfl⟩
    refine ⟨u, hu, List.mem_map.2 ⟨_, ?_, rfl⟩⟩
    rw [mem_lst, has_setM h64]
    exact ⟨n, hn, h1, rfl⟩
theorem edges_rise (_h64 : (namesK F there).length ≤ 64) : (edgesM F there).Pairwise elt := by
  unfold edgesM
  rw [List.pairwise_flatMap]
  refine ⟨fun u _ => ?_, ?_⟩
  · unfold rowM
    rw [List.pairwise_map]
    refine (lst_sorted _).imp fun {a b} h => .inr ⟨rfl, by show (a : Int) < (b : Int); omega⟩
  · refine List.Pairwise.imp_of_mem ?_ (endK_strict F.rs F.inf there)
    intro u v hu hv huv x hx y hy
    obtain ⟨a, _, rfl⟩ := List.mem_map.1 hx
    obtain ⟨b, _, rfl⟩ := List.mem_map.1 hy
    have := idx_mono (namesM_strict (F := F) (there := there)) (row_in hu) (row_in hv) huv
    exact .inl (by show ((namesK F there).idxOf u : Int) < ((namesK F there).idxOf v : Int); omega)
theorem erise_of {es : List E2} (h : es.Pairwise elt) : ERise es := by
  intro i hi
  rw [List.getD_eq_getElem?_getD, List.getD_eq_getElem?_getD, List.getElem?_eq_getElem (by omega), List.getElem?_eq_getElem hi]
  exact List.pairwise_iff_getElem.1 h i (i + 1) (by omega) hi (by omega)
theorem makeG_good (h : makeE F there = 0) (hph : ∀ x ∈ F.ph, nameE x = 0) : Good (makeG F there) := by
  obtain ⟨_, hf, h64⟩ := makeE_zero h
  obtain ⟨hj, _, ht, _⟩ := fillE_zero hf
  obtain ⟨_, hru, _, _⟩ := joinRE_zero hj
  have hnl : (makeG F there).names.length = (namesK F there).length := bz_len _
  refine ⟨by rw [hnl]; exact h64, ?_, rise_sorted _, fun x hx => ?_, erise_of (edges_rise h64), ?_⟩
  · rw [okN_mem rfl]
    intro s hs
    have hs2 : s ∈ allM F there := sortN_mem_bz.1 hs
    rcases List.mem_append.1 hs2 with hs2 | hs2
    · exact hph s hs2
    · obtain ⟨u, hu, hs2⟩ := List.mem_flatMap.1 hs2
      rcases List.mem_cons.1 hs2 with rfl | hs2
      · exact endK_names hru hu
      · exact need_names hru ht hs2
  · obtain ⟨u, hu, n, hn, h1, rfl⟩ := (edge_mem h64).1 hx
    have a := idx_lt (row_in hu)
    have b := idx_lt h1
    rw [hnl]
    exact ⟨by show (0 : Int) ≤ _; omega, by show ((namesK F there).idxOf u : Int) < _; omega, by show (0 : Int) ≤ _; omega, by show ((namesK F there).idxOf n.data.toList : Int) < _; omega⟩
  · rw [hnl]
    refine set_ext fun b hb => ?_
    have hz : has (0#64) b = false := by simp [has]
    rw [hz, ← Bool.not_eq_true]
    intro hh
    have h2 : has (setM (namesK F there) F.ph ||| setM (namesK F there) ((rowsM F there).map txt)) b = true ∧ has (~~~belowB (namesK F there).length) b = true := by
      have : has ((setM (namesK F there) F.ph ||| setM (namesK F there) ((rowsM F there).map txt)) &&& ~~~belowB (namesK F there).length) b = true := hh
      unfold has at this ⊢
      rw [BitVec.getLsbD_and, Bool.and_eq_true] at this
      exact this
    have hb2 : b < (namesK F there).length := by
      rw [has_or, Bool.or_eq_true] at h2
      rcases h2.1 with g | g
      · obtain ⟨x, _, g1, g2⟩ := (has_setM h64).1 g
        have := idx_lt g1
        omega
      · obtain ⟨x, _, g1, g2⟩ := (has_setM h64).1 g
        have := idx_lt g1
        omega
    have h3 := h2.2
    have h4 : has (belowB (namesK F there).length) b = true := by
      rw [has_below _ _ hb]
      exact decide_eq_true hb2
    unfold has at h3 h4
    rw [BitVec.getLsbD_not] at h3
    rw [h4] at h3
    simp at h3
/-- what GraphRight asks of the file's rules -/
theorem right_made (h64 : (namesK F there).length ≤ 64) {x : E2} (hx : x ∈ edgesM F there) : ∃ i : Nat, x.1 = i ∧ i < 64 ∧ has (makeG F there).made i = true := by
  obtain ⟨u, hu, n, hn, h1, rfl⟩ := (edge_mem h64).1 hx
  have a := idx_lt (row_in hu)
  refine ⟨_, rfl, by omega, (has_setM h64).2 ⟨txt u, List.mem_map_of_mem hu, ?_, ?_⟩⟩
  · rw [txt_list]; exact row_in hu
  · rw [txt_list]
theorem right_target (_h : makeE F there = 0) {r : Rl} (hr : r ∈ F.rs) {t : ByteArray} (ht : t ∈ r.1) : t.data.toList ∈ rowsM F there := by
  refine (endK_mem _ _ _ _).2 (.inl ((usF_mem _ _).2 ⟨r, hr, List.mem_map_of_mem ht⟩))
theorem right_need (_h : makeE F there = 0) {r : Rl} (hr : r ∈ F.rs) {t n : ByteArray} (ht : t ∈ r.1) (hn : n ∈ r.2) : n ∈ needM F there t.data.toList := by
  have hj : n ∈ jF F.rs t.data.toList := (grpR_mem _ _ _).2 (.inr ⟨r, hr, List.mem_map_of_mem ht, hn⟩)
  unfold needM
  rw [need_said (List.length_pos_of_mem hj)]
  exact hj
end
end Go.Proofs.YtoiolepengcagaaGreatDoor
namespace Go.Proofs.YtoiolepengcagaaGreatDoor
open Go.RowKit
/-- the first place of either byte -/
def First2 (s : ByteArray) (x y : UInt8) (k : Nat) : Prop := k < s.size ∧ (∃ h : k < s.size, s[k] = x ∨ s[k] = y) ∧ ∀ j, j < k → ∀ h : j < s.size, s[j] ≠ x ∧ s[j] ≠ y
theorem First2.before {s : ByteArray} {x y : UInt8} {k j : Nat} (h : First2 s x y k) (hj : j < k) (hl : j < s.size := by omega) : s[j] ≠ x ∧ s[j] ≠ y := h.2.2 j hj hl
theorem First2.here {s : ByteArray} {x y : UInt8} {k : Nat} (h : First2 s x y k) (hl : k < s.size := by omega) : s[k] = x ∨ s[k] = y := h.2.1.2
theorem First2.ascii {s : ByteArray} {x y : UInt8} {k : Nat} (h : First2 s x y k) (hx : x.toNat < 128) (hy : y.toNat < 128) (hl : k < s.size := by omega) : (s[k]).toNat < 128 := by
  rcases h.here hl with e | e <;> rw [e] <;> assumption
theorem hit_index {x y c : UInt8} (h : c = x ∨ c = y) : ∃ z : Nat, Lib.indexByte [x, y] c = z := by
  have h1 := (indexByte_ge [x, y] c).2.2 (by rcases h with e | e <;> simp [e])
  exact ⟨(Lib.indexByte [x, y] c).toNat, by omega⟩
theorem get_lt2 (s : ByteArray) {j : Nat} (hj : j < s.size) : s.get! j = s[j] := by
  have h : j < s.data.size := hj
  show s.data[j]! = s.data[j]
  rw [getElem!_pos s.data j h]
theorem decode_skip (s : ByteArray) {i k : Nat} (h : i < k) (hk : k < s.size) (ha : (s[k]).toNat < 128) : i + (Utf8.decode s i).2 ≤ k := by
  have hg := get_lt2 s hk
  have hne : ∀ d, (s.get! (i + d)).toNat / 64 = 2 → i + d ≠ k := fun d hd e => by
    rw [e, hg] at hd; omega
  unfold Utf8.decode
  simp only [Nat.add_zero]
  split
  · show i + 1 ≤ k; omega
  · split
    · rename_i h2
      simp only [Bool.and_eq_true, beq_iff_eq, decide_eq_true_eq] at h2
      have := hne 1 h2.2.2
      split
      · show i + 2 ≤ k; omega
      · show i + 1 ≤ k; omega
    · split
      · rename_i h2
        simp only [Bool.and_eq_true, beq_iff_eq, decide_eq_true_eq] at h2
        have := hne 1 h2.1.2.2
        have := hne 2 h2.2.2
        split
        · show i + 3 ≤ k; omega
        · show i + 1 ≤ k; omega
      · split
        · rename_i h2
          simp only [Bool.and_eq_true, beq_iff_eq, decide_eq_true_eq] at h2
          have := hne 1 h2.1.1.2.2
          have := hne 2 h2.1.2.2
          have := hne 3 h2.2.2
          split
          · show i + 4 ≤ k; omega
          · show i + 1 ≤ k; omega
        · show i + 1 ≤ k; omega
set_option maxHeartbeats 4000000 in
set_option maxRecDepth 100000 in
theorem indexAny_some (s : ByteArray) (x y : UInt8) (hx : x.toNat < 128) (hy : y.toNat < 128) (hs : s.size < 4611686018427387904) (k : Nat) (hk : First2 s x y k) (w : World) :
    Calls Tryz.prog 14 #[.string s, .string ⟨#[x, y]⟩] w fun e w' => e = .returned (.int .i64 (k : Int)) ∧ Below w.heap.size w w' := by
  have hkl := hk.1
  have hemp : (⟨#[x, y]⟩ : ByteArray).toList.isEmpty = false := by rw [Lib.toList_data]; rfl
  have HF := Lib.hid hk
  have HX := Lib.hid hx
  have HY := Lib.hid hy
  clear hk hx hy
  by_cases h8 : 8 < s.size
  · have h8z : decide ((8 : Int) < (s.size : Int)) = true := decide_eq_true (by omega)
    obtain ⟨L, hL⟩ : ∃ L : Array Value, L = Lib.setCells [x, y] := ⟨_, rfl⟩
    have hLs : L.size = 256 := by rw [hL]; exact Lib.setCells_size _
    have hL1 : L.all (·.oneCell') = true := by rw [hL]; exact Lib.setCells_one _
    have HLC : Hid (∀ c : UInt8, L[c.toNat]? = some (.bool ([x, y].contains c))) := by
      show ∀ c : UInt8, _
      intro c; rw [hL]; exact Lib.setCells_at _ c
    have HM := Lib.hid (fun u => Tryz.strings_makeASCIISet (zero_of_info info_set).1 ⟨#[x, y]⟩ u (by show 2 < 4294967281; decide) (fun j b hb => by
      have hj : b = x ∨ b = y := by
        have := List.mem_of_getElem? hb
        simpa using this
      rcases hj with rfl | rfl
      · exact HX.out
      · exact HY.out))
    rw [show (⟨#[x, y]⟩ : ByteArray).data.toList = [x, y] from rfl, ← hL] at HM
    have hsc : (storeCells ⟨w.heap.size + 1, 0, none⟩ L.toList 0).run Tryz.prog ((w.alloc (.cells L 80)).alloc (.cells Tryz.zeroCells80 80)) = .ok () ((w.alloc (.cells L 80)).alloc (.cells L 80)) := by
      have := run_storeCells_new (P := Tryz.prog) (w.alloc (.cells L 80)) 80 Tryz.zeroCells80 L (by rw [hLs]; kernel_rfl) (by rw [hLs]; rfl) hL1
      simpa using this
    clear hL
    go_enter Tryz.func14, Tryz.ntmps14
    go_wp2_with (first
      | (go_at_call 35; refine (Tryz.strings_shouldUseASCIISet _ _).mono ?_; rintro e w' ⟨rfl, hw⟩; rw [hw, h8z])
      | (go_at_call 36; refine (HM.out _).mono ?_; rintro e w' ⟨rfl, hw⟩; rw [hw]))
    clear hsc
    obtain ⟨W, hW⟩ : ∃ W, W = (w.alloc (.cells L 80)).alloc (.cells L 80) := ⟨_, rfl⟩
    have HBW : Hid (Below w.heap.size w W) := by
      show Below _ _ _
      rw [hW]; exact ((Below.refl _ _).alloc (Nat.le_refl _) _).alloc (by simp) _
    have HCW : Hid (∀ c : UInt8, W.cell? ⟨w.heap.size + 1, c.toNat, none⟩ = some (.bool ([x, y].contains c))) := by
      show ∀ c : UInt8, _
      intro c
      rw [hW, World.cell?_alloc_at _ _ _ _ (by simp)]
      exact HLC.out c
    rw [← hW]
    clear hW
    go_loopg [8] s.size (fun g s8 wx => ∃ i : Nat, i ≤ k ∧ s.size ≤ i + g ∧ s8 = .int .i64 i ∧ wx = W)
    case atStart => exact ⟨0, Nat.zero_le _, by omega, rfl, rfl⟩
    case round =>
      obtain ⟨i, hik, hig, rfl, rfl⟩ := hrel
      have hi : i < s.size := by omega
      rcases Nat.lt_or_ge i k with hlt | hge
      · have hfree := HF.out.before hlt
        obtain ⟨c, hc⟩ : ∃ c, s[i] = c := ⟨_, rfl⟩
        rw [hc] at hfree
        have hcell := HCW.out c
        rw [show [x, y].contains c = false from by simp [hfree.1, hfree.2]] at hcell
        go_wp2_with (go_at_call 37; refine (Tryz.asciiSet_contains _ c _ _ hcell).mono ?_; rintro e w' ⟨rfl, hw⟩; rw [hw])
        go_roundg (gk - 1)
        case measure => omega
        case rel => exact ⟨i + 1, by omega, by omega, by go_num, rfl⟩
      · obtain rfl : i = k := by omega
        have hhit := HF.out.here
        obtain ⟨c, hc⟩ : ∃ c, s[i] = c := ⟨_, rfl⟩
        rw [hc] at hhit
        have hcell := HCW.out c
        rw [show [x, y].contains c = true from by rcases hhit with h | h <;> simp [h]] at hcell
        go_wp2_with (go_at_call 37; refine (Tryz.asciiSet_contains _ c _ _ hcell).mono ?_; rintro e w' ⟨rfl, hw⟩; rw [hw])
        go_ret
        exact ⟨rfl, HBW.out⟩
  · have h8z : decide ((8 : Int) < (s.size : Int)) = false := decide_eq_false (by omega)
    go_enter Tryz.func14, Tryz.ntmps14
    go_wp2_with (go_at_call 35; refine (Tryz.strings_shouldUseASCIISet _ _).mono ?_; rintro e w' ⟨rfl, hw⟩; rw [hw, h8z])
    go_loopg [9, 10] s.size (fun g _ _ wx => ∃ i : Nat, i ≤ k ∧ s.size ≤ i + g ∧ Below w.heap.size w wx ∧ wx.heap[w.heap.size]? = some (.stringIter s i))
    case atStart => exact ⟨0, Nat.zero_le _, by omega, (Below.refl _ _).alloc (Nat.le_refl _) _, World.iter_heap w s 0⟩
    case round =>
      obtain ⟨i, hik, hig, hb, hk⟩ := hrel
      have HB := Lib.hid hb
      clear hb
      have hi : i < s.size := by omega
      have hnx := fun ty => Lib.run_next_any_at (P := Tryz.prog) wr w.heap.size s i ty hk hi
      have hk2 := Lib.iterAt_heap wr w.heap.size s i (i + (Utf8.decode s i).2) hk
      have hb2 : Below w.heap.size w (wr.iterAt w.heap.size s (i + (Utf8.decode s i).2)) := Lib.below_iterAt HB.out (Nat.le_refl _) s _
      have hsz2 : w.heap.size < (wr.iterAt w.heap.size s (i + (Utf8.decode s i).2)).heap.size := (Array.getElem?_eq_some_iff.1 hk2).1
      have hw1 : 1 ≤ (Utf8.decode s i).2 := by
        rcases Nat.lt_or_ge (s[i].toNat) 128 with ha | ha
        · rw [decode_ascii s i hi ha]; exact Nat.le_refl 1
        · exact (decode_high s i hi ha).2
      rcases Nat.lt_or_ge i k with hlt | hge
      · have hfree := HF.out.before hlt
        have hskip : i + (Utf8.decode s i).2 ≤ k := decode_skip s hlt hkl (HF.out.ascii HX.out HY.out)
        have hrune : ∀ u : World, Calls Tryz.prog 34 #[.string ⟨#[x, y]⟩, .int .i32 ((Utf8.decode s i).1 : Int)] u fun e w' => e = .returned (.int .i64 (-1)) ∧ Below u.heap.size u w' := by
          intro u
          rcases Nat.lt_or_ge (s[i].toNat) 128 with ha | ha
          · rw [decode_ascii s i hi ha]
            refine (Tryz.strings_IndexRune_ascii _ _ u (by omega) (by omega)).mono ?_
            rintro e w' ⟨rfl, rfl⟩
            rw [show (((s[i].toNat : Nat) : Int)).toNat.toUInt8 = s[i] from by simp]
            exact ⟨congrArg (fun z => Ending.returned (.int .i64 z)) (free_index hfree), Below.refl _ _⟩
          · exact indexRune_none x y HX.out HY.out _ (decode_high s i hi ha).1 (decode_le s i) u
        have HR := Lib.hid hrune
        have HK2 := Lib.hid hk2
        have HB2 := Lib.hid hb2
        have HSZ := Lib.hid hsz2
        clear hrune hk2 hb2 hsz2 hfree hk HB HF hs
        generalize (Utf8.decode s i).1 = rr at *
        generalize (Utf8.decode s i).2 = wd at *
        obtain ⟨w2, hw2⟩ : ∃ w2, w2 = wr.iterAt w.heap.size s (i + wd) := ⟨_, rfl⟩
        rw [← hw2] at HK2 HB2 HSZ
        simp only [← hw2] at hnx
        clear hw2
        go_wp2_with (go_at_call 34; refine (HR.out _).mono ?_; rintro e w3 ⟨rfl, hb3⟩; have HB3 := Lib.hid hb3; clear hb3)
        go_roundg (gk - 1)
        case measure => omega
        case rel => exact ⟨i + wd, by omega, by omega, HB2.out.trans (HB3.out.mono (Nat.le_of_lt HSZ.out)), (HB3.out.block _ HSZ.out).trans HK2.out⟩
      · obtain rfl : i = k := by omega
        have ha := HF.out.ascii HX.out HY.out
        have hhit := HF.out.here
        have hrune : ∀ u : World, Calls Tryz.prog 34 #[.string ⟨#[x, y]⟩, .int .i32 ((Utf8.decode s i).1 : Int)] u fun e w' => (∃ z : Nat, e = .returned (.int .i64 z)) ∧ w' = u := by
          intro u
          rw [decode_ascii s i hi ha]
          refine (Tryz.strings_IndexRune_ascii _ _ u (by omega) (by omega)).mono ?_
          rintro e w' ⟨rfl, rfl⟩
          rw [show (((s[i].toNat : Nat) : Int)).toNat.toUInt8 = s[i] from by simp]
          obtain ⟨z, hz⟩ := hit_index hhit
          exact ⟨⟨z, congrArg (fun z => Ending.returned (.int .i64 z)) hz⟩, rfl⟩
        have HR := Lib.hid hrune
        have HB2 := Lib.hid hb2
        clear hrune hk2 hb2 hsz2 hhit hk HB HF hs ha
        generalize (Utf8.decode s i).1 = rr at *
        generalize (Utf8.decode s i).2 = wd at *
        obtain ⟨w2, hw2⟩ : ∃ w2, w2 = wr.iterAt w.heap.size s (i + wd) := ⟨_, rfl⟩
        rw [← hw2] at HB2
        simp only [← hw2] at hnx
        clear hw2
        go_wp2_with (go_at_call 34; refine (HR.out _).mono ?_; rintro e w3 ⟨⟨z, rfl⟩, rfl⟩)
        go_ret
        exact ⟨rfl, HB2.out⟩
end Go.Proofs.YtoiolepengcagaaGreatDoor
