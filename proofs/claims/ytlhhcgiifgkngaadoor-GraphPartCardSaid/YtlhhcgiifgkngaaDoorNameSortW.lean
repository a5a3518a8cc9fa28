/- The walk of name.Sort. Conditions: the slice reads as listed. -/
import Derived.Test.YtlhhcgiifgkngaaDoorCompactW
import Derived.Test.YtlhhcgiifgkngaaDoorNameW
namespace Go.Proofs.YtlhhcgiifgkngaaDoor
open Go.RowKit Go.Shelf Go.Maps Go.Sort
/-- a slice of strings that the call can read and range over -/
structure NL (w : World) (p : Option Addr) (n c : Nat) (zs : List ByteArray) : Prop where
  at_ : StrsAt w p n zs
  nil : p = none → c = 0
  plain : ∀ ad, p = some ad → ∃ b off, ad = ⟨b, off, none⟩ ∧ b < w.heap.size
  reach : n * 16 ≤ 140737488351232
theorem NL.below {w w' : World} {p : Option Addr} {n c : Nat} {zs : List ByteArray} (h : NL w p n c zs) (hb : Below w.heap.size w w') : NL w' p n c zs :=
  ⟨h.at_.below hb, h.nil, fun ad ha => by
    obtain ⟨b, off, e, hlt⟩ := h.plain ad ha
    exact ⟨b, off, e, Nat.lt_of_lt_of_le hlt hb.size⟩, h.reach⟩
/-- sorted, each once -/
def sortN (zs : List ByteArray) : List (List UInt8) := Lib.compact ((byt zs).mergeSort fun x y => decide (x ≤ y))
def okN (zs : List ByteArray) (k : Nat) : Prop := ∀ j, j < k → nameE (zs.getD j ByteArray.empty) = 0
def SortPost (w : World) (zs : List ByteArray) (e : Ending) (w' : World) : Prop :=
  ∃ (g : Option Addr) (c : Nat), e = .returned (.tuple #[.slice g (sortN zs).length c, .int .i64 0]) ∧ w'.ownsRow w.heap.size 9 1 (.slice g (sortN zs).length c) (sortN zs).length ((sortN zs).map encStr) ∧ Below w.heap.size w w'
set_option maxHeartbeats 2000000 in
theorem Sort_yes (p : Option Addr) (n c : Nat) (zs : List ByteArray) (w : World) (h : NL w p n c zs) (hok : okN zs n) :
    Calls Tryd.prog 57 #[.slice p n c] w (SortPost w zs) := by
  have hl := h.at_.len
  subst hl
  have hbig := h.at_.big
  have HN := Lib.hid h
  have HK := Lib.hid hok
  clear h hok
  go_enter Tryd.func57, Tryd.ntmps57
  go_wp2
  go_loop [9] (fun i => ∃ k : Nat, k ≤ zs.length ∧ i = .int .i64 k) (fun i => zs.length - (intOf i).toNat)
  case atStart => exact ⟨0, Nat.zero_le _, rfl⟩
  case round =>
    obtain ⟨k, hk, rfl⟩ := hrel
    by_cases hlt : k < zs.length
    · obtain ⟨ad, rfl, _, hc⟩ := str_at HN.out.at_.reads hlt
      have HE := Lib.hid (HK.out k hlt)
      have HS := Lib.hid (HN.out.at_.size (zs.getD k ByteArray.empty) (by
        rw [List.getD_eq_getElem?_getD, List.getElem?_eq_getElem hlt]; exact List.getElem_mem hlt))
      generalize zs.getD k ByteArray.empty = s at *
      go_wp2_with (go_at_call 104; refine (CheckN_ok s HS.out _).mono ?_; rw [HE.out]; rintro e w' ⟨rfl, rfl⟩)
      go_round
      case rel => exact ⟨k + 1, by omega, by go_num⟩
      case measure => simp [intOf]; omega
    · obtain rfl : k = zs.length := by omega
      have hb1 : Below w.heap.size w (w.alloc (.cells #[.slice p zs.length c] 22)) := (Below.refl _ _).alloc (Nat.le_refl _) _
      have hcell : (w.alloc (.cells #[.slice p zs.length c] 22)).cell? ⟨w.heap.size, 0, none⟩ = some (.slice p zs.length c) := by rw [World.cell?_alloc_at _ _ _ _ rfl]; rfl
      have HC := Lib.hid hcell
      have HB1 := Lib.hid hb1
      have HN1 := Lib.hid (HN.out.below hb1)
      clear hcell hb1 hlt hbig
      go_wp2_with fail
      refine (callsIn_wide.1 (vs_values_in Fence.wide 1 trivial rfl p zs.length c w)).mono ?_
      rintro e w' ⟨rfl, rfl⟩
      go_wp2_with fail
      refine (sorted_ok w.heap.size p zs.length c zs _ (by simp) HN1.out.at_ HC.out HN1.out.nil HN1.out.plain HN1.out.reach).mono ?_
      rintro e w2 ⟨g, cg, rfl, hown, hb2⟩
      have HO := Lib.hid hown
      have HB2 := Lib.hid (HB1.out.trans (hb2.mono HB1.out.size))
      have HB2' := Lib.hid hb2
      clear hown hb2
      go_wp2_with fail
      refine (compact_own HO.out).mono ?_
      rintro e w3 ⟨rfl, hown3, hg3⟩
      have HO3 := Lib.hid hown3
      have HB3 := Lib.hid (HB2.out.grown hg3 HB2.out.size (fun j hj => by have := (HO.out.lt j hj).1; have := HB1.out.size; omega))
      clear hown3 hg3
      go_wp2
      go_ret2
      have hs1 := HB1.out.size
      refine ⟨g, cg, rfl, ?_, HB3.out⟩
      refine ⟨HO3.out.1, ?_⟩
      rcases HO3.out.2 with h | ⟨g', cap, cur, h1, h2, h3⟩
      · exact .inl h
      · exact .inr ⟨g', cap, cur, h1, Nat.le_trans hs1 h2, h3⟩
theorem okN_next {zs : List ByteArray} {k : Nat} (h : okN zs k) (hk : nameE (zs.getD k ByteArray.empty) = 0) : okN zs (k + 1) := fun j hj => by
  rcases Nat.lt_or_ge j k with h1 | h1
  · exact h j h1
  · rw [show j = k from by omega]; exact hk
set_option maxHeartbeats 2000000 in
theorem Sort_no (p : Option Addr) (n c : Nat) (zs : List ByteArray) (w : World) (h : StrsAt w p n zs) (hno : ¬ okN zs n) :
    Calls Tryd.prog 57 #[.slice p n c] w fun e w' => e = .returned (.tuple #[.slice none 0 0, .int .i64 3]) ∧ w = w' := by
  have hl := h.len
  subst hl
  have hbig := h.big
  have HN := Lib.hid h
  have HK := Lib.hid hno
  clear h hno
  go_enter Tryd.func57, Tryd.ntmps57
  go_wp2
  go_loop [9] (fun i => ∃ k : Nat, k ≤ zs.length ∧ i = .int .i64 k ∧ Hid (okN zs k)) (fun i => zs.length - (intOf i).toNat)
  case atStart => exact ⟨0, Nat.zero_le _, rfl, show okN zs 0 from fun j hj => by omega⟩
  case round =>
    obtain ⟨k, hk, rfl, HO⟩ := hrel
    by_cases hlt : k < zs.length
    · obtain ⟨ad, rfl, _, hc⟩ := str_at HN.out.reads hlt
      have HS := Lib.hid (HN.out.size (zs.getD k ByteArray.empty) (by
        rw [List.getD_eq_getElem?_getD, List.getElem?_eq_getElem hlt]; exact List.getElem_mem hlt))
      have HX := Lib.hid (okN_next (k := k) HO.out)
      generalize zs.getD k ByteArray.empty = s at *
      rcases nameE_cases s with hE | hE
      · have HE := Lib.hid hE
        clear hE
        go_wp2_with (go_at_call 104; refine (CheckN_ok s HS.out _).mono ?_; rw [HE.out]; rintro e w' ⟨rfl, rfl⟩)
        go_round
        case rel => exact ⟨k + 1, by omega, by go_num, HX.out HE.out⟩
        case measure => simp [intOf]; omega
      · have HE := Lib.hid hE
        clear hE
        go_wp2_with (go_at_call 104; refine (CheckN_ok s HS.out _).mono ?_; rw [HE.out]; rintro e w' ⟨rfl, rfl⟩)
        go_ret2
        exact ⟨rfl, rfl⟩
    · exfalso
      have : k = zs.length := by omega
      subst this
      exact HK.out HO.out
end Go.Proofs.YtlhhcgiifgkngaaDoor
