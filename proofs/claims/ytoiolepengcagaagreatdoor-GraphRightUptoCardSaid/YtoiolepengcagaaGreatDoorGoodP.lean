/- The walk through good: no error among those that are handed in. Conditions: none. -/
import Derived.Test.YtoiolepengcagaaGreatDoorRows
import Derived.Test.YtoiolepengcagaaGreatDoorMem
import Derived.WalkKit
import Derived.OpenShut
namespace Go.Proofs.YtoiolepengcagaaGreatDoor
open Go.RowKit
def errs (es : List Int) : List Value := es.map fun e => Value.int .i64 e
def allOk (es : List Int) : Bool := es.all fun x => decide (x = 0)
def errIdx (es : List Int) : Nat → Nat → Int
  | _, 0 => -1
  | k, f + 1 => if es.getD k 0 = 0 then errIdx es (k + 1) f else (k : Int)
/-- the first error's index, or -1 -/
def firstErr (es : List Int) : Int := errIdx es 0 es.length
theorem errIdx_sign (es : List Int) (f k : Nat) (hk : k + f = es.length) : decide (0 ≤ errIdx es k f) = !((es.drop k).all fun x => decide (x = 0)) := by
  induction f generalizing k with
  | zero =>
    have : es.drop k = [] := List.drop_eq_nil_of_le (by omega)
    rw [this]; simp [errIdx]
  | succ f ih =>
    have hl : k < es.length := by omega
    rw [List.drop_eq_getElem_cons hl, List.all_cons]
    unfold errIdx
    have hg : es.getD k 0 = es[k] := by simp [hl]
    rw [hg]
    by_cases h : es[k] = 0
    · rw [if_pos h, ih (k + 1) (by omega)]; simp [h]
    · rw [if_neg h]; simp [h]
theorem firstErr_sign (es : List Int) : decide (0 ≤ firstErr es) = !allOk es := by
  have := errIdx_sign es es.length 0 (by omega)
  rw [List.drop_zero] at this
  exact this
set_option maxHeartbeats 400000 in
theorem indexErr_ok (es : List Int) (p : Option Addr) (n c b : Nat) (w : World) (hr : Reads w b 1 p n (errs es)) (hn : n ≤ 100) :
    Calls Tryz.prog 68 #[.slice p n c, .func (Fn.func 31) #[] #[]] w fun e w' => e = .returned (.int .i64 (firstErr es)) ∧ w = w' := by
  have hl : es.length = n := by have := hr.1; simpa [errs] using this
  subst hl
  go_enter Tryz.func68, Tryz.ntmps68
  go_wp2
  go_loop [8] (fun i => ∃ k : Nat, k ≤ es.length ∧ i = .int .i64 k ∧ Hid (firstErr es = errIdx es k (es.length - k))) (fun i => es.length - (intOf i).toNat)
  case atStart => exact ⟨0, Nat.zero_le _, rfl, rfl⟩
  case round =>
    obtain ⟨k, hk, rfl, HK⟩ := hrel
    by_cases hlt : k < es.length
    · obtain ⟨ad, u, rfl, _, hu, hc⟩ := hr.at_ hlt
      obtain ⟨x, hx⟩ : ∃ x, x = es.getD k 0 := ⟨_, rfl⟩
      have hcell : w.cell? (ad.add k) = some (.int .i64 x) := by rw [hc, ← hu, hx]; simp [errs, hlt]
      obtain ⟨f, hf⟩ : ∃ f, es.length - k = f + 1 := ⟨es.length - k - 1, by omega⟩
      have hs : errIdx es k (es.length - k) = if x = 0 then errIdx es (k + 1) (es.length - (k + 1)) else (k : Int) := by
        rw [hf, show es.length - (k + 1) = f by omega, hx]; rfl
      by_cases h0 : x = 0
      · have HN : Hid (firstErr es = errIdx es (k + 1) (es.length - (k + 1))) := by show firstErr es = _; rw [HK.out, hs, if_pos h0]
        subst h0
        clear hu hc hs HK hr hx hf
        go_wp2
        go_round
        case rel => exact ⟨k + 1, by omega, by go_num, HN.out⟩
        case measure => simp [intOf]; omega
      · have HN : Hid (firstErr es = (k : Int)) := by show firstErr es = _; rw [HK.out, hs, if_neg h0]
        have e1 : (x == 0) = false := by simpa using h0
        have e2 : (x != 0) = true := by simpa using h0
        clear hu hc hs HK hr hx h0 hf
        go_wp2
        go_ret
        exact ⟨by rw [HN.out]; rfl, rfl⟩
    · have HN : Hid (firstErr es = -1) := by show firstErr es = _; rw [HK.out, show es.length - k = 0 by omega]; rfl
      clear HK
      go_wp2
      go_ret
      exact ⟨by rw [HN.out]; rfl, rfl⟩
set_option maxHeartbeats 400000 in
theorem good_ok (es : List Int) (p : Option Addr) (n c b : Nat) (w : World) (hr : Reads w b 1 p n (errs es)) (hn : n ≤ 100) :
    Calls Tryz.prog 9 #[.slice p n c] w fun e w' => e = .returned (.bool (allOk es)) ∧ w = w' := by
  have hs := firstErr_sign es
  go_enter Tryz.func9, Tryz.ntmps9
  go_wp2_with (first | (go_at_call 68; refine (indexErr_ok es _ _ _ _ _ hr hn).mono ?_; rintro e w' ⟨rfl, rfl⟩) | go_in)
  go_ret
  exact ⟨by simp, rfl⟩
theorem errs_reads (w : World) (es : List Int) (t : TypeId) : Reads (w.alloc (.cells (errs es).toArray t)) (w.heap.size + 1) 1 (some ⟨w.heap.size, 0, none⟩) es.length (errs es) := by
  refine ⟨by simp [errs], fun _ => ⟨_, rfl, by simp, fun j u hj => ?_⟩⟩
  have hs : (w.alloc (.cells (errs es).toArray t)).cell? ⟨w.heap.size, j, none⟩ = (errs es)[j]? := by simp
  have ha : (⟨w.heap.size, 0, none⟩ : Addr).add j = ⟨w.heap.size, j, none⟩ := by
    unfold Addr.add
    split
    · rename_i h; subst h; rfl
    · simp
  rw [ha, hs, hj]
theorem good1 (x0 : Int) (w : World) : Calls Tryz.prog 9 #[.slice (some ⟨w.heap.size, 0, none⟩) 1 1] (w.alloc (.cells #[.int .i64 x0] 24))
    fun e w' => e = .returned (.bool (allOk [x0])) ∧ w.alloc (.cells #[.int .i64 x0] 24) = w' :=
  good_ok [x0] _ 1 1 _ _ (errs_reads w [x0] 24) (by omega)
theorem good2 (x0 x1 : Int) (w : World) : Calls Tryz.prog 9 #[.slice (some ⟨w.heap.size, 0, none⟩) 2 2] (w.alloc (.cells #[.int .i64 x0, .int .i64 x1] 24))
    fun e w' => e = .returned (.bool (allOk [x0, x1])) ∧ w.alloc (.cells #[.int .i64 x0, .int .i64 x1] 24) = w' :=
  good_ok [x0, x1] _ 2 2 _ _ (errs_reads w [x0, x1] 24) (by omega)
theorem good3 (x0 x1 x2 : Int) (w : World) : Calls Tryz.prog 9 #[.slice (some ⟨w.heap.size, 0, none⟩) 3 3] (w.alloc (.cells #[.int .i64 x0, .int .i64 x1, .int .i64 x2] 24))
    fun e w' => e = .returned (.bool (allOk [x0, x1, x2])) ∧ w.alloc (.cells #[.int .i64 x0, .int .i64 x1, .int .i64 x2] 24) = w' :=
  good_ok [x0, x1, x2] _ 3 3 _ _ (errs_reads w [x0, x1, x2] 24) (by omega)
theorem good4 (x0 x1 x2 x3 : Int) (w : World) : Calls Tryz.prog 9 #[.slice (some ⟨w.heap.size, 0, none⟩) 4 4] (w.alloc (.cells #[.int .i64 x0, .int .i64 x1, .int .i64 x2, .int .i64 x3] 24))
    fun e w' => e = .returned (.bool (allOk [x0, x1, x2, x3])) ∧ w.alloc (.cells #[.int .i64 x0, .int .i64 x1, .int .i64 x2, .int .i64 x3] 24) = w' :=
  good_ok [x0, x1, x2, x3] _ 4 4 _ _ (errs_reads w [x0, x1, x2, x3] 24) (by omega)
theorem good5 (x0 x1 x2 x3 x4 : Int) (w : World) : Calls Tryz.prog 9 #[.slice (some ⟨w.heap.size, 0, none⟩) 5 5] (w.alloc (.cells #[.int .i64 x0, .int .i64 x1, .int .i64 x2, .int .i64 x3, .int .i64 x4] 24))
    fun e w' => e = .returned (.bool (allOk [x0, x1, x2, x3, x4])) ∧ w.alloc (.cells #[.int .i64 x0, .int .i64 x1, .int .i64 x2, .int .i64 x3, .int .i64 x4] 24) = w' :=
  good_ok [x0, x1, x2, x3, x4] _ 5 5 _ _ (errs_reads w [x0, x1, x2, x3, x4] 24) (by omega)
theorem good6 (x0 x1 x2 x3 x4 x5 : Int) (w : World) : Calls Tryz.prog 9 #[.slice (some ⟨w.heap.size, 0, none⟩) 6 6] (w.alloc (.cells #[.int .i64 x0, .int .i64 x1, .int .i64 x2, .int .i64 x3, .int .i64 x4, .int .i64 x5] 24))
    fun e w' => e = .returned (.bool (allOk [x0, x1, x2, x3, x4, x5])) ∧ w.alloc (.cells #[.int .i64 x0, .int .i64 x1, .int .i64 x2, .int .i64 x3, .int .i64 x4, .int .i64 x5] 24) = w' :=
  good_ok [x0, x1, x2, x3, x4, x5] _ 6 6 _ _ (errs_reads w [x0, x1, x2, x3, x4, x5] 24) (by omega)
theorem goodB1 (x0 : Int) (w : World) : Calls Tryz.prog 9 #[.slice (some ⟨w.heap.size, 0, none⟩) 1 1] (w.alloc (.cells #[.int .i64 x0] 24))
    fun e w' => e = .returned (.bool (allOk [x0])) ∧ Below w.heap.size w w' :=
  (good1 x0 w).mono fun _ _ ⟨h1, h2⟩ => ⟨h1, h2 ▸ (Below.refl _ _).alloc (Nat.le_refl _) _⟩
theorem goodB2 (x0 x1 : Int) (w : World) : Calls Tryz.prog 9 #[.slice (some ⟨w.heap.size, 0, none⟩) 2 2] (w.alloc (.cells #[.int .i64 x0, .int .i64 x1] 24))
    fun e w' => e = .returned (.bool (allOk [x0, x1])) ∧ Below w.heap.size w w' :=
  (good2 x0 x1 w).mono fun _ _ ⟨h1, h2⟩ => ⟨h1, h2 ▸ (Below.refl _ _).alloc (Nat.le_refl _) _⟩
theorem goodB3 (x0 x1 x2 : Int) (w : World) : Calls Tryz.prog 9 #[.slice (some ⟨w.heap.size, 0, none⟩) 3 3] (w.alloc (.cells #[.int .i64 x0, .int .i64 x1, .int .i64 x2] 24))
    fun e w' => e = .returned (.bool (allOk [x0, x1, x2])) ∧ Below w.heap.size w w' :=
  (good3 x0 x1 x2 w).mono fun _ _ ⟨h1, h2⟩ => ⟨h1, h2 ▸ (Below.refl _ _).alloc (Nat.le_refl _) _⟩
theorem goodB4 (x0 x1 x2 x3 : Int) (w : World) : Calls Tryz.prog 9 #[.slice (some ⟨w.heap.size, 0, none⟩) 4 4] (w.alloc (.cells #[.int .i64 x0, .int .i64 x1, .int .i64 x2, .int .i64 x3] 24))
    fun e w' => e = .returned (.bool (allOk [x0, x1, x2, x3])) ∧ Below w.heap.size w w' :=
  (good4 x0 x1 x2 x3 w).mono fun _ _ ⟨h1, h2⟩ => ⟨h1, h2 ▸ (Below.refl _ _).alloc (Nat.le_refl _) _⟩
theorem goodB5 (x0 x1 x2 x3 x4 : Int) (w : World) : Calls Tryz.prog 9 #[.slice (some ⟨w.heap.size, 0, none⟩) 5 5] (w.alloc (.cells #[.int .i64 x0, .int .i64 x1, .int .i64 x2, .int .i64 x3, .int .i64 x4] 24))
    fun e w' => e = .returned (.bool (allOk [x0, x1, x2, x3, x4])) ∧ Below w.heap.size w w' :=
  (good5 x0 x1 x2 x3 x4 w).mono fun _ _ ⟨h1, h2⟩ => ⟨h1, h2 ▸ (Below.refl _ _).alloc (Nat.le_refl _) _⟩
theorem goodB6 (x0 x1 x2 x3 x4 x5 : Int) (w : World) : Calls Tryz.prog 9 #[.slice (some ⟨w.heap.size, 0, none⟩) 6 6] (w.alloc (.cells #[.int .i64 x0, .int .i64 x1, .int .i64 x2, .int .i64 x3, .int .i64 x4, .int .i64 x5] 24))
    fun e w' => e = .returned (.bool (allOk [x0, x1, x2, x3, x4, x5])) ∧ Below w.heap.size w w' :=
  (good6 x0 x1 x2 x3 x4 x5 w).mono fun _ _ ⟨h1, h2⟩ => ⟨h1, h2 ▸ (Below.refl _ _).alloc (Nat.le_refl _) _⟩
end Go.Proofs.YtoiolepengcagaaGreatDoor
