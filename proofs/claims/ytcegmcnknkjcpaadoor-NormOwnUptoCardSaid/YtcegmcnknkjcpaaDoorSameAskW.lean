/- The walks of sameAsk, slices.EqualFunc at asks, copied. Conditions: the asks lie in memory. -/
import Derived.Test.YtcegmcnknkjcpaaDoorAskCountW
namespace Go.Proofs.YtcegmcnknkjcpaaDoor
open Go.RowKit
/-- whether two asks are the same -/
def SamePost (a b : QT) (w : World) (e : Ending) (w' : World) : Prop := (∃ r : Bool, e = .returned (.bool r) ∧ (r = true ↔ qabs a = qabs b)) ∧ Below w.heap.size w w'
def SamesTo (l m : List QT) (k : Nat) : Prop := ∀ i x y, i < k → l[i]? = some x → m[i]? = some y → qabs x = qabs y
theorem qabss_eq {l m : List QT} : qabss l = qabss m ↔ l.length = m.length ∧ SamesTo l m l.length := by
  rw [qabss_map, qabss_map]
  constructor
  · intro h
    refine ⟨by have := congrArg List.length h; simpa using this, fun i x y _ hx hy => ?_⟩
    have := congrArg (fun l : List QA => l[i]?) h
    simpa [hx, hy] using this
  · rintro ⟨h1, h2⟩
    apply List.ext_getElem?
    intro i
    rw [List.getElem?_map, List.getElem?_map]
    by_cases hi : i < l.length
    · rw [List.getElem?_eq_getElem hi, List.getElem?_eq_getElem (by omega : i < m.length)]
      exact congrArg some (h2 i _ _ hi (List.getElem?_eq_getElem hi) (List.getElem?_eq_getElem (by omega)))
    · rw [List.getElem?_eq_none (by omega), List.getElem?_eq_none (by omega)]
def EqPost (l m : List QT) (w : World) (e : Ending) (w' : World) : Prop := (∃ r : Bool, e = .returned (.bool r) ∧ (r = true ↔ qabss l = qabss m)) ∧ Below w.heap.size w w'
set_option maxHeartbeats 4000000 in
set_option maxRecDepth 100000 in
theorem equalF_ok (p q : Option Addr) (c d : Nat) (l m : List QT) (w : World) (hP : QsIn w p 0 l) (hQ : QsIn w q 0 m) (hl : l.length ≤ 1048576)
    (ih : ∀ x ∈ l, ∀ (y : QT) (w : World), QIn w x → QIn w y → Calls Tryd.prog 10 #[x.v, y.v] w (SamePost x y w)) :
    Calls Tryd.prog 20 #[.slice p l.length c, .slice q m.length d, .func (.func 10) #[] #[]] w (EqPost l m w) := by
  have HP := Lib.hid hP
  have HQ := Lib.hid hQ
  have IH := Lib.hid ih
  clear hP hQ ih
  go_enter Tryd.func20, Tryd.ntmps20
  by_cases hlen : l.length = m.length
  · have HLEN := Lib.hid hlen
    obtain ⟨ln, hln⟩ : ∃ ln, l.length = ln := ⟨_, rfl⟩
    have hmn : m.length = ln := by omega
    rw [hln, hmn]
    have HLN := Lib.hid hln
    have HMN := Lib.hid hmn
    clear hlen
    rw [hln] at hl
    clear hln hmn
    go_wp2_with fail
    go_loopw [17] (fun i wr => ∃ j : Nat, j ≤ ln ∧ i = .int .i64 j ∧ Hid (SamesTo l m j) ∧ Hid (Below w.heap.size w wr)) (fun i _ => ln - (intOf i).toNat)
    case atStart => exact ⟨0, Nat.zero_le _, rfl, fun i x y h => by omega, Below.refl _ _⟩
    case round =>
      obtain ⟨j, hj, rfl, HS, HB⟩ := hrel
      by_cases hlt : j < ln
      · obtain ⟨x, hx⟩ : ∃ x, l[j]? = some x := ⟨_, List.getElem?_eq_getElem (by have := HLN.out; omega)⟩
        obtain ⟨y, hy⟩ : ∃ y, m[j]? = some y := ⟨_, List.getElem?_eq_getElem (by have := HMN.out; omega)⟩
        obtain ⟨⟨b, o, rfl, hb, hf⟩, hqx⟩ := HP.out.at hx
        obtain ⟨⟨b2, o2, rfl, hb2, hf2⟩, hqy⟩ := HQ.out.at hy
        obtain ⟨c0, c1, c2, c3⟩ := four_at (hf.below HB.out hb)
        have hd := fun ob => four_at (hf2.below (HB.out.trans (((Below.refl _ _).alloc (Nat.le_refl _) ob).mono HB.out.size)) hb2)
        have d0 := fun ob => (hd ob).1
        have d1 := fun ob => (hd ob).2.1
        have d2 := fun ob => (hd ob).2.2.1
        have d3 := fun ob => (hd ob).2.2.2
        have HCALL := Lib.hid (fun (u : World) (hu : Below wr.heap.size wr u) => IH.out x (List.mem_of_getElem? hx) y u (hqx.below (HB.out.trans (hu.mono HB.out.size))) (hqy.below (HB.out.trans (hu.mono HB.out.size))))
        have HY : Hid (qabs x = qabs y → SamesTo l m (j + 1)) := fun h i x' y' hi hx' hy' => by
          rcases Nat.lt_or_ge i j with h1 | h1
          · exact HS.out i x' y' h1 hx' hy'
          · obtain rfl : i = j := by omega
            rw [hx] at hx'; rw [hy] at hy'
            injection hx' with hx'; injection hy' with hy'
            subst hx' hy'; exact h
        have HN : Hid (qabs x ≠ qabs y → qabss l ≠ qabss m) := fun h h2 => h ((qabss_eq.1 h2).2 j x y (by have := HLN.out; omega) hx hy)
        clear hqx hqy hf hf2 hb hb2 hd
        have HAL : Hid (∀ o o2, Below wr.heap.size wr ((wr.alloc o).alloc o2)) := fun o o2 => ((Below.refl _ _).alloc (Nat.le_refl _) o).alloc (by simp) o2
        by_cases hxy : qabs x = qabs y
        · have HXY := Lib.hid hxy
          have HY2 := Lib.hid (HY.out hxy)
          clear hxy HY HN
          go_wp2_with (go_at_call 10; refine (HCALL.out _ (HAL.out _ _)).mono ?_; rintro e w5 ⟨⟨r, rfl, hr⟩, hb5⟩; have HB5 := Lib.hid (HB.out.trans (((HAL.out _ _).trans (hb5.mono (HAL.out _ _).size)).mono HB.out.size)); obtain rfl : r = true := hr.2 HXY.out; clear hb5 hr)
          go_roundw
          case rel => exact ⟨j + 1, by omega, by go_num, HY2.out, HB5⟩
          case measure => simp [intOf]; omega
        · have HXY := Lib.hid hxy
          have HN2 := Lib.hid (HN.out hxy)
          clear hxy HY HN
          go_wp2_with (go_at_call 10; refine (HCALL.out _ (HAL.out _ _)).mono ?_; rintro e w5 ⟨⟨r, rfl, hr⟩, hb5⟩; have HB5 := Lib.hid (HB.out.trans (((HAL.out _ _).trans (hb5.mono (HAL.out _ _).size)).mono HB.out.size)); obtain rfl : r = false := Bool.eq_false_iff.2 (fun h => HXY.out (hr.1 h)); clear hb5 hr)
          go_ret
          exact ⟨⟨false, rfl, by simp [HN2.out]⟩, HB5.out⟩
      · obtain rfl : j = ln := by omega
        have HT : Hid (qabss l = qabss m) := qabss_eq.2 ⟨HLEN.out, by rw [HLN.out]; exact HS.out⟩
        go_wp2
        go_ret
        exact ⟨⟨true, rfl, by simp [HT.out]⟩, HB.out⟩
  · have HN : Hid (qabss l ≠ qabss m) := fun h => hlen (qabss_eq.1 h).1
    have hb : ((l.length : Int) == (m.length : Int)) = false := by rw [beq_eq_false_iff_ne]; omega
    have hb2 : ((l.length : Int) != (m.length : Int)) = true := by simp [bne, hb]
    go_wp2
    go_ret
    exact ⟨⟨false, rfl, by simp [HN.out]⟩, Below.refl _ _⟩
theorem name_beq (x y : ByteArray) : (x.toList == y.toList) = decide (x.data.toList = y.data.toList) := by
  rw [Lib.toList_data, Lib.toList_data, Bool.eq_iff_iff]
  simp
theorem below_drawsA {b : Nat} {w w1 : World} (h : Below b w w1) (k : Nat) : Below b w (w1.drewN k) := ⟨h.os, h.tape, h.output, h.size, h.block⟩
set_option maxHeartbeats 4000000 in
set_option maxRecDepth 100000 in
theorem sameAsk_ok : ∀ (a b : QT) (w : World), QIn w a → QIn w b → Calls Tryd.prog 10 #[a.v, b.v] w (SamePost a b w) := by
  intro a
  induction a using QT.ind with
  | h k s n p c xs ih =>
    intro b w ha hb
    obtain ⟨k2, s2, n2, p2, c2, ys⟩ := b
    obtain ⟨W, hW⟩ : ∃ W, W = (w.alloc (.cells #[.int .i64 k, .string s, .int .i64 n, .slice p xs.length c] 24)).alloc (.cells #[.int .i64 k2, .string s2, .int .i64 n2, .slice p2 ys.length c2] 24) := ⟨_, rfl⟩
    have hBW : Below w.heap.size w W := by rw [hW]; exact ((Below.refl _ _).alloc (Nat.le_refl _) _).alloc (by simp) _
    have HBW := Lib.hid hBW
    have ha2 : xs.length ≤ 1048576 := ha.small.2.2
    have HCALL := Lib.hid (equalF_ok p p2 c c2 xs ys W (ha.kids.below hBW) (hb.kids.below hBW) ha2 ih)
    have HEQ : Hid ((qabs (.mk k s n p c xs) = qabs (.mk k2 s2 n2 p2 c2 ys)) ↔ (k = k2 ∧ s.data.toList = s2.data.toList ∧ n = n2 ∧ qabss xs = qabss ys)) := by
      show _ ↔ _
      simp only [qabs, QA.mk.injEq]
    show Calls Tryd.prog 10 #[.agg #[.int .i64 k, .string s, .int .i64 n, .slice p xs.length c], .agg #[.int .i64 k2, .string s2, .int .i64 n2, .slice p2 ys.length c2]] w _
    have HNO : Hid (¬ (k = k2 ∧ s.data.toList = s2.data.toList ∧ n = n2 ∧ qabss xs = qabss ys) → SamePost (.mk k s n p c xs) (.mk k2 s2 n2 p2 c2 ys) w (.returned (.bool false)) W) := by
      show _ → _
      intro h
      refine ⟨⟨false, rfl, ?_⟩, HBW.out⟩
      rw [HEQ.out]
      exact ⟨fun e => Bool.noConfusion e, fun e => absurd e h⟩
    clear ha hb ih hBW ha2
    have hsb := name_beq s s2
    go_enter Tryd.func10, Tryd.ntmps10
    by_cases h1 : k = k2
    · subst h1
      by_cases h2 : s.data.toList = s2.data.toList
      · rw [decide_eq_true h2] at hsb
        have H2 := Lib.hid h2
        clear h2
        by_cases h3 : n = n2
        · subst h3
          go_wp2_with (go_at_call 20; rw [← hW]; refine HCALL.out.mono ?_; rintro e w5 ⟨⟨r, rfl, hr⟩, hb5⟩; have HB5 := Lib.hid (HBW.out.trans (hb5.mono HBW.out.size)); have HR := Lib.hid hr; clear hb5 hr)
          go_ret
          refine ⟨⟨r, rfl, ?_⟩, HB5.out⟩
          rw [HEQ.out, HR.out]
          exact ⟨fun h => ⟨trivial, H2.out, trivial, h⟩, fun h => h.2.2.2⟩
        · go_wp2
          rw [← hW]
          go_ret
          exact HNO.out (fun h => h3 h.2.2.1)
      · rw [decide_eq_false h2] at hsb
        have H2 := Lib.hid h2
        clear h2
        go_wp2
        rw [← hW]
        go_ret
        exact HNO.out (fun h => H2.out h.2.1)
    · go_wp2
      rw [← hW]
      go_ret
      exact HNO.out (fun h => h1 h.1)
end Go.Proofs.YtcegmcnknkjcpaaDoor
