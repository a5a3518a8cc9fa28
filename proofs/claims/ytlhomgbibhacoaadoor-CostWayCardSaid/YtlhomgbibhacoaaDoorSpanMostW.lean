/- The walks of span.Most, slices.Clone and slices.ContainsFunc at times. Conditions: the slices read as listed. -/
import Derived.Test.YtlhomgbibhacoaaDoorSpanEndsW
import Derived.Test.YtlhomgbibhacoaaDoorFlts
namespace Go.Proofs.YtlhomgbibhacoaaDoor
open Go.RowKit
set_option maxHeartbeats 400000 in
theorem most_nil (p : Option Addr) (c : Nat) (w : World) : Calls Tryd.prog 27 #[.slice p 0 c] w fun e w' => e = .returned (.float .f64 0) ∧ w = w' := by
  go_enter Tryd.func27, Tryd.ntmps27
  go_wp2
  go_ret
  exact ⟨rfl, rfl⟩
/-- one of the first k, and the last in order of them -/
def Mx (l : List B) (k : Nat) (y : B) : Prop := y ∈ l.take k ∧ ∀ x ∈ l.take k, ordN (un x) (un y) ≤ 0
theorem mx_one {l : List B} (h : 0 < l.length) : Mx l 1 (l.getD 0 0#64) := by
  cases l with
  | nil => simp at h
  | cons a l =>
    refine ⟨by simp, fun x hx => ?_⟩
    simp at hx
    subst hx
    rw [ord_le]; simp
theorem take_snoc_d {l : List B} {k : Nat} (h : k < l.length) : l.take (k + 1) = l.take k ++ [l.getD k 0#64] := by
  rw [List.take_add_one, List.getElem?_eq_getElem h, List.getD_eq_getElem?_getD, List.getElem?_eq_getElem h]; rfl
theorem mx_keep {l : List B} {k : Nat} {y : B} (hk : k < l.length) (h : Mx l k y) (hle : ordN (un (l.getD k 0#64)) (un y) ≤ 0) : Mx l (k + 1) y := by
  unfold Mx at *
  rw [take_snoc_d hk]
  refine ⟨List.mem_append_left _ h.1, fun x hx => ?_⟩
  rcases List.mem_append.1 hx with hx | hx
  · exact h.2 x hx
  · rw [List.mem_singleton.1 hx]; exact hle
theorem mx_turn {l : List B} {k : Nat} {y : B} (hk : k < l.length) (h : Mx l k y) (hgt : 0 < ordN (un (l.getD k 0#64)) (un y)) : Mx l (k + 1) (l.getD k 0#64) := by
  unfold Mx at *
  rw [take_snoc_d hk]
  have h1 : keyN (un y) ≤ keyN (un (l.getD k 0#64)) := by
    rcases ord_cases (un (l.getD k 0#64)) (un y) with ⟨a, b⟩ | ⟨a, b⟩ | ⟨a, b⟩ <;> omega
  refine ⟨List.mem_append_right _ (List.mem_singleton.2 rfl), fun x hx => ?_⟩
  rcases List.mem_append.1 hx with hx | hx
  · have := h.2 x hx
    rw [ord_le] at this ⊢; omega
  · rw [List.mem_singleton.1 hx, ord_le]; exact Nat.le_refl _
set_option maxHeartbeats 1000000 in
theorem maxFunc_ok (l : List B) (p : Option Addr) (n c : Nat) (w : World) (hr : FltsAt w p n l) (hn : 0 < n) :
    Calls Tryd.prog 53 #[.slice p n c, .func (.func 15) #[] #[]] w fun e w' => (∃ y : B, e = .returned (.float .f64 (un y)) ∧ Mx l n y) ∧ w = w' := by
  obtain ⟨ad, rfl, _, hc0⟩ := hr.cell hn
  have hl := hr.len
  subst hl
  have hbig := hr.big
  have e0 : ad.add 0 = ad := by unfold Addr.add; simp
  rw [e0] at hc0
  have m0 := mx_one hn
  generalize l.getD 0 0#64 = y0 at hc0 m0
  have M0 := Lib.hid m0
  clear m0
  have h1 : ¬ (l.length : Int) < 1 := by omega
  go_enter Tryd.func53, Tryd.ntmps53
  go_wp2
  go_loop [5, 6] (fun m i => ∃ (k : Nat) (y : B), 1 ≤ k ∧ k ≤ l.length ∧ i = .int .i64 k ∧ m = .float .f64 (un y) ∧ Mx l k y) (fun _ i => l.length - (intOf i).toNat)
  case atStart => exact ⟨1, _, Nat.le_refl _, hn, rfl, rfl, M0.out⟩
  case round =>
    obtain ⟨k, y, hk1, hk, rfl, rfl, hM⟩ := hrel
    have HM := Lib.hid hM
    clear hM
    by_cases hlt : k < l.length
    · obtain ⟨ad', had, _, hcell⟩ := hr.cell hlt
      injection had with had
      subst had
      clear hc0 M0 hr
      obtain ⟨x, hxe⟩ : ∃ x, x = l.getD k 0#64 := ⟨_, rfl⟩
      rw [← hxe] at hcell
      have K1 : Hid (ordN (un x) (un y) ≤ 0 → Mx l (k + 1) y) := by
        show _ → _
        intro h; rw [hxe] at h; exact mx_keep hlt HM.out h
      have K2 : Hid (0 < ordN (un x) (un y) → Mx l (k + 1) x) := by
        show _ → _
        intro h; rw [hxe] at h ⊢; exact mx_turn hlt HM.out h
      clear hxe
      go_wp2_with (go_at_call 15; refine (spord_ok _ _ _).mono ?_; rintro e w' ⟨rfl, rfl⟩)
      · go_round
        case rel => exact ⟨k + 1, _, by omega, by omega, by go_num, rfl, K2.out (by assumption)⟩
        case measure => simp [intOf]; omega
      · go_round
        case rel => exact ⟨k + 1, _, by omega, by omega, by go_num, rfl, K1.out (by assumption)⟩
        case measure => simp [intOf]; omega
    · have hke : k = l.length := by omega
      subst hke
      go_wp2
      go_ret
      exact ⟨⟨y, rfl, HM.out⟩, rfl⟩
set_option maxHeartbeats 400000 in
theorem most_some (l : List B) (p : Option Addr) (n c : Nat) (w : World) (hr : FltsAt w p n l) (hn : 0 < n) : Calls Tryd.prog 27 #[.slice p n c] w fun e w' => (∃ y : B, e = .returned (.float .f64 (un y)) ∧ Mx l n y) ∧ w = w' := by
  have h0 : ((n : Int) == 0) = false := by simp; omega
  go_enter Tryd.func27, Tryd.ntmps27
  go_wp2_with (go_at_call 53; refine (maxFunc_ok l _ _ _ _ hr hn).mono ?_; rintro e w' ⟨⟨y, rfl, hy⟩, rfl⟩)
  go_ret
  exact ⟨⟨y, rfl, hy⟩, rfl⟩
/-- Most, in one form -/
theorem most_any (l : List B) (p : Option Addr) (n c : Nat) (w : World) (hr : FltsAt w p n l) : Calls Tryd.prog 27 #[.slice p n c] w fun e w' => (∃ y : B, e = .returned (.float .f64 (un y)) ∧ ((n = 0 ∧ y = 0#64) ∨ Mx l n y)) ∧ w = w' := by
  by_cases hn : n = 0
  · subst hn
    exact (most_nil p c w).mono fun e w' ⟨h1, h2⟩ => ⟨⟨0#64, by rw [h1]; rfl, .inl ⟨rfl, rfl⟩⟩, h2⟩
  · exact (most_some l p n c w hr (by omega)).mono fun e w' ⟨⟨y, h1, h2⟩, h3⟩ => ⟨⟨y, h1, .inr h2⟩, h3⟩
end Go.Proofs.YtlhomgbibhacoaaDoor
