/- Texts joined: AskCountW, SameAskW, BoxQ, Typed, AskAppW. Conditions: theirs. -/
import Derived.Test.YteefncohknclcaaGreatDoorAskBoundLWM6
import Derived.Test.YteefncohknclcaaGreatDoorShelf
import Derived.WalkKit
import Derived.Deep.QuietTactic
import Derived.BigQuiet
import Derived.Lib.Hide
import Derived.Laws.ResultCell
import Derived.Laws.Tables
import Derived.Sort.Row
import Derived.Laws.OwnMore
import Derived.Maps.AppendAt
import Derived.Test.YteefncohknclcaaGreatDoorProg
namespace Go.Proofs.YteefncohknclcaaGreatDoor
open Go.RowKit
/-- the world in which a call has laid its ask -/
theorem arg1 (w : World) (v0 v1 v2 v3 : Value) : ∃ W, W = w.alloc (.cells #[v0, v1, v2, v3] 29) ∧ Below w.heap.size w W ∧ W.heap.size = w.heap.size + 1 ∧
    ∀ u : World, Below W.heap.size W u → u.cell? ⟨w.heap.size, 0, none⟩ = some v0 ∧ u.cell? ⟨w.heap.size, 1, none⟩ = some v1 ∧ u.cell? ⟨w.heap.size, 2, none⟩ = some v2 ∧ u.cell? ⟨w.heap.size, 3, none⟩ = some v3 := by
  obtain ⟨W, hW⟩ : ∃ W, W = w.alloc (.cells #[v0, v1, v2, v3] 29) := ⟨_, rfl⟩
  have hs : W.heap.size = w.heap.size + 1 := by rw [hW]; simp
  refine ⟨W, hW, by rw [hW]; exact (Below.refl _ _).alloc (Nat.le_refl _) _, hs, fun u hu => ?_⟩
  have c0 : ∀ o, u.cell? ⟨w.heap.size, o, none⟩ = W.cell? ⟨w.heap.size, o, none⟩ := fun o => hu.cell (p := ⟨w.heap.size, o, none⟩) (by show w.heap.size < _; omega)
  rw [c0, c0, c0, c0, hW]
  refine ⟨?_, ?_, ?_, ?_⟩ <;> (rw [World.cell?_alloc_at _ _ _ _ rfl]; rfl)
theorem qabss_take (l : List QT) (k : Nat) : qcnts (qabss (l.take k)) ≤ qcnts (qabss l) := by
  induction l generalizing k with
  | nil => simp
  | cons x l ih =>
    cases k with
    | zero => simp [qabss, qcnts]
    | succ k => simp only [List.take_succ_cons, qabss, qcnts]; have := ih k; omega
theorem qabss_next {l : List QT} {k : Nat} {x : QT} (h : l[k]? = some x) : qcnts (qabss (l.take (k + 1))) = qcnts (qabss (l.take k)) + qcnt (qabs x) := by
  have hk : k < l.length := by
    rcases Nat.lt_or_ge k l.length with h1 | h1
    · exact h1
    · rw [List.getElem?_eq_none h1] at h; cases h
  rw [List.getElem?_eq_getElem hk] at h
  injection h with h
  rw [List.take_succ_eq_append_getElem hk, qabss_map, List.map_append, qcnts_app, ← qabss_map, h]
  simp [qcnts]
/-- the cells of an element of a list, as a walk asks for them -/
theorem four_at {w : World} {b o j : Nat} {t : QT} (h : Four w b (o + 4 * (0 + j)) t) : w.cell? ⟨b, o + j * 4, none⟩ = some (.int .i64 t.kind) ∧ w.cell? ⟨b, o + j * 4 + 1, none⟩ = some (.string t.name) ∧ w.cell? ⟨b, o + j * 4 + 2, none⟩ = some (.int .i64 t.num) ∧ w.cell? ⟨b, o + j * 4 + 3, none⟩ = some (.slice t.p t.xs.length t.cap) := by
  rw [show o + 4 * (0 + j) = o + j * 4 by omega] at h
  exact h
set_option maxHeartbeats 4000000 in
set_option maxRecDepth 100000 in
theorem countA_ok : ∀ (t : QT) (w : World), QIn w t → qcnt (qabs t) ≤ 1099511627776 → Calls Tryz.prog 53 #[t.v] w fun e w' => e = .returned (.int .i64 (qcnt (qabs t) : Int)) ∧ Below w.heap.size w w' := by
  intro t
  induction t using QT.ind with
  | h k s n p c xs ih =>
    intro w hq hc
    have IH := Lib.hid ih
    have HK : Hid (QsIn w p 0 xs) := hq.kids
    have hsm := hq.small.2
    have hxl : xs.length ≤ 1048576 := hsm.2
    have hcn : qcnts (qabss xs) ≤ 1099511627776 := by
      have e : qcnt (qabs (.mk k s n p c xs)) = 1 + qcnts (qabss xs) := rfl
      omega
    have HCN : Hid (qcnt (qabs (.mk k s n p c xs)) = 1 + qcnts (qabss xs)) := rfl
    clear ih hq hc hsm
    obtain ⟨W, hW, hBW, hS, hC⟩ := arg1 w (.int .i64 k) (.string s) (.int .i64 n) (.slice p xs.length c)
    have HC := Lib.hid hC
    have HBW := Lib.hid hBW
    obtain ⟨k0, k1, k2, k3⟩ := HC.out W (Below.refl _ _)
    rw [hW] at k0 k1 k2 k3
    show Calls Tryz.prog 53 #[.agg #[.int .i64 k, .string s, .int .i64 n, .slice p xs.length c]] w _
    clear hBW hS hC
    go_enter Tryz.func53, Tryz.ntmps53
    go_wp2_with fail
    rw [← hW]
    clear hW k0 k1 k2 k3
    go_loopw [9, 3] (fun i m wr => ∃ j : Nat, j ≤ xs.length ∧ i = .int .i64 j ∧ m = .int .i64 ((1 + qcnts (qabss (xs.take j)) : Nat) : Int) ∧ Hid (Below W.heap.size W wr)) (fun i _ _ => xs.length - (intOf i).toNat)
    case atStart => exact ⟨0, Nat.zero_le _, rfl, by simp [qabss, qcnts], Below.refl _ _⟩
    case round =>
      obtain ⟨j, hj, rfl, rfl, HB⟩ := hrel
      by_cases hlt : j < xs.length
      · obtain ⟨x, hx⟩ : ∃ x, xs[j]? = some x := ⟨_, List.getElem?_eq_getElem hlt⟩
        obtain ⟨⟨b, o, rfl, hb, hf⟩, hqx⟩ := HK.out.at hx
        have HBw := Lib.hid (HBW.out.trans (HB.out.mono HBW.out.size))
        obtain ⟨c0, c1, c2, c3⟩ := four_at (hf.below HBw.out hb)
        have hnx := qabss_next hx
        have hle := qabss_take xs (j + 1)
        have HCALL := Lib.hid (fun (u : World) (hu : Below wr.heap.size wr u) => IH.out x (List.mem_of_getElem? hx) u (hqx.below (HBw.out.trans (hu.mono HBw.out.size))) (by omega))
        rw [hnx] at hle
        have HNX := Lib.hid hnx
        clear hqx hnx hf
        generalize qcnts (qabss (xs.take j)) = m0 at *
        have HAL : Hid (∀ o, Below wr.heap.size wr (wr.alloc o)) := fun o => (Below.refl _ _).alloc (Nat.le_refl _) o
        go_wp2_with (go_at_call 53; refine (HCALL.out _ (HAL.out _)).mono ?_; rintro e w5 ⟨rfl, hb5⟩; have HB5 := Lib.hid (HB.out.trans (((HAL.out _).trans (hb5.mono (HAL.out _).size)).mono HB.out.size)); clear hb5)
        go_roundw
        case rel => exact ⟨j + 1, by omega, by go_num, by
          rw [HNX.out]
          refine congrArg (Value.int .i64) ?_
          go_num, HB5⟩
        case measure => simp [intOf]; omega
      · obtain rfl : j = xs.length := by omega
        go_wp2
        go_ret
        refine ⟨?_, HBW.out.trans (HB.out.mono HBW.out.size)⟩
        rw [HCN.out, List.take_length]
        rfl
set_option maxHeartbeats 4000000 in
set_option maxRecDepth 100000 in
theorem sizeN_ok : ∀ (t : QT) (w : World), QIn w t → qcnt (qabs t) ≤ 1099511627776 → Calls Tryz.prog 52 #[t.v] w fun e w' => e = .returned (.int .i64 (qcnt (qabs t) : Int)) ∧ Below w.heap.size w w' := by
  intro t
  induction t using QT.ind with
  | h k s n p c xs ih =>
    intro w hq hc
    have IH := Lib.hid ih
    have HK : Hid (QsIn w p 0 xs) := hq.kids
    have hsm := hq.small.2
    have hxl : xs.length ≤ 1048576 := hsm.2
    have hcn : qcnts (qabss xs) ≤ 1099511627776 := by
      have e : qcnt (qabs (.mk k s n p c xs)) = 1 + qcnts (qabss xs) := rfl
      omega
    have HCN : Hid (qcnt (qabs (.mk k s n p c xs)) = 1 + qcnts (qabss xs)) := rfl
    clear ih hq hc hsm
    obtain ⟨W, hW, hBW, hS, hC⟩ := arg1 w (.int .i64 k) (.string s) (.int .i64 n) (.slice p xs.length c)
    have HC := Lib.hid hC
    have HBW := Lib.hid hBW
    obtain ⟨k0, k1, k2, k3⟩ := HC.out W (Below.refl _ _)
    rw [hW] at k0 k1 k2 k3
    show Calls Tryz.prog 52 #[.agg #[.int .i64 k, .string s, .int .i64 n, .slice p xs.length c]] w _
    clear hBW hS hC
    go_enter Tryz.func52, Tryz.ntmps52
    go_wp2_with fail
    rw [← hW]
    clear hW k0 k1 k2 k3
    go_loopw [9, 3] (fun i m wr => ∃ j : Nat, j ≤ xs.length ∧ i = .int .i64 j ∧ m = .int .i64 ((1 + qcnts (qabss (xs.take j)) : Nat) : Int) ∧ Hid (Below W.heap.size W wr)) (fun i _ _ => xs.length - (intOf i).toNat)
    case atStart => exact ⟨0, Nat.zero_le _, rfl, by simp [qabss, qcnts], Below.refl _ _⟩
    case round =>
      obtain ⟨j, hj, rfl, rfl, HB⟩ := hrel
      by_cases hlt : j < xs.length
      · obtain ⟨x, hx⟩ : ∃ x, xs[j]? = some x := ⟨_, List.getElem?_eq_getElem hlt⟩
        obtain ⟨⟨b, o, rfl, hb, hf⟩, hqx⟩ := HK.out.at hx
        have HBw := Lib.hid (HBW.out.trans (HB.out.mono HBW.out.size))
        obtain ⟨c0, c1, c2, c3⟩ := four_at (hf.below HBw.out hb)
        have hnx := qabss_next hx
        have hle := qabss_take xs (j + 1)
        have HCALL := Lib.hid (fun (u : World) (hu : Below wr.heap.size wr u) => IH.out x (List.mem_of_getElem? hx) u (hqx.below (HBw.out.trans (hu.mono HBw.out.size))) (by omega))
        rw [hnx] at hle
        have HNX := Lib.hid hnx
        clear hqx hnx hf
        generalize qcnts (qabss (xs.take j)) = m0 at *
        have HAL : Hid (∀ o, Below wr.heap.size wr (wr.alloc o)) := fun o => (Below.refl _ _).alloc (Nat.le_refl _) o
        go_wp2_with (go_at_call 52; refine (HCALL.out _ (HAL.out _)).mono ?_; rintro e w5 ⟨rfl, hb5⟩; have HB5 := Lib.hid (HB.out.trans (((HAL.out _).trans (hb5.mono (HAL.out _).size)).mono HB.out.size)); clear hb5)
        go_roundw
        case rel => exact ⟨j + 1, by omega, by go_num, by
          rw [HNX.out]
          refine congrArg (Value.int .i64) ?_
          go_num, HB5⟩
        case measure => simp [intOf]; omega
      · obtain rfl : j = xs.length := by omega
        go_wp2
        go_ret
        refine ⟨?_, HBW.out.trans (HB.out.mono HBW.out.size)⟩
        rw [HCN.out, List.take_length]
        rfl
end Go.Proofs.YteefncohknclcaaGreatDoor
namespace Go.Proofs.YteefncohknclcaaGreatDoor
open Go.RowKit
/-- whether two asks are the same -/
def SamePost (a b : QT) (w : World) (e : Ending) (w' : World) : Prop := (∃ r : Bool, e = .returned (.bool r) ∧ (r = true ↔ qabs a = qabs b)) ∧ Below w.heap.size w w'
def SamesTo (l m : List QT) (k : Nat) : Prop := ∀ i x y, i < k → l[i]? = some x → m[i]? = some y → qabs x = qabs y
theorem qabss_eq {l m : List QT} : qabss l = qabss m ↔ l.length = m.length ∧ SamesTo l m l.length := by
  rw [qabss_map, qabss_map]
  constructor
  · intro h
    refine ⟨by have := congrArg List.length h; simpa using this, fun i x y _ hx hy => ?_⟩
    have := congrArg (fun l : List QA => l[i]?) h
    simpa [hx, hy] using this
  · rintro ⟨h1, h2⟩
    apply List.ext_getElem?
    intro i
    rw [List.getElem?_map, List.getElem?_map]
    by_cases hi : i < l.length
    · rw [List.getElem?_eq_getElem hi, List.getElem?_eq_getElem (by omega : i < m.length)]
      exact congrArg some (h2 i _ _ hi (List.getElem?_eq_getElem hi) (List.getElem?_eq_getElem (by omega)))
    · rw [List.getElem?_eq_none (by omega), List.getElem?_eq_none (by omega)]
def EqPost (l m : List QT) (w : World) (e : Ending) (w' : World) : Prop := (∃ r : Bool, e = .returned (.bool r) ∧ (r = true ↔ qabss l = qabss m)) ∧ Below w.heap.size w w'
set_option maxHeartbeats 4000000 in
set_option maxRecDepth 100000 in
theorem equalF_ok (p q : Option Addr) (c d : Nat) (l m : List QT) (w : World) (hP : QsIn w p 0 l) (hQ : QsIn w q 0 m) (hl : l.length ≤ 1048576)
    (ih : ∀ x ∈ l, ∀ (y : QT) (w : World), QIn w x → QIn w y → Calls Tryz.prog 12 #[x.v, y.v] w (SamePost x y w)) :
    Calls Tryz.prog 34 #[.slice p l.length c, .slice q m.length d, .func (.func 12) #[] #[]] w (EqPost l m w) := by
  have HP := Lib.hid hP
  have HQ := Lib.hid hQ
  have IH := Lib.hid ih
  clear hP hQ ih
  go_enter Tryz.func34, Tryz.ntmps34
  by_cases hlen : l.length = m.length
  · have HLEN := Lib.hid hlen
    obtain ⟨ln, hln⟩ : ∃ ln, l.length = ln := ⟨_, rfl⟩
    have hmn : m.length = ln := by omega
    rw [hln, hmn]
    have HLN := Lib.hid hln
    have HMN := Lib.hid hmn
    clear hlen
    rw [hln] at hl
    clear hln hmn
    go_wp2_with fail
    go_loopw [17] (fun i wr => ∃ j : Nat, j ≤ ln ∧ i = .int .i64 j ∧ Hid (SamesTo l m j) ∧ Hid (Below w.heap.size w wr)) (fun i _ => ln - (intOf i).toNat)
    case atStart => exact ⟨0, Nat.zero_le _, rfl, fun i x y h => by omega, Below.refl _ _⟩
    case round =>
      obtain ⟨j, hj, rfl, HS, HB⟩ := hrel
      by_cases hlt : j < ln
      · obtain ⟨x, hx⟩ : ∃ x, l[j]? = some x := ⟨_, List.getElem?_eq_getElem (by have := HLN.out; omega)⟩
        obtain ⟨y, hy⟩ : ∃ y, m[j]? = some y := ⟨_, List.getElem?_eq_getElem (by have := HMN.out; omega)⟩
        obtain ⟨⟨b, o, rfl, hb, hf⟩, hqx⟩ := HP.out.at hx
        obtain ⟨⟨b2, o2, rfl, hb2, hf2⟩, hqy⟩ := HQ.out.at hy
        obtain ⟨c0, c1, c2, c3⟩ := four_at (hf.below HB.out hb)
        have hd := fun ob => four_at (hf2.below (HB.out.trans (((Below.refl _ _).alloc (Nat.le_refl _) ob).mono HB.out.size)) hb2)
        have d0 := fun ob => (hd ob).1
        have d1 := fun ob => (hd ob).2.1
        have d2 := fun ob => (hd ob).2.2.1
        have d3 := fun ob => (hd ob).2.2.2
        have HCALL := Lib.hid (fun (u : World) (hu : Below wr.heap.size wr u) => IH.out x (List.mem_of_getElem? hx) y u (hqx.below (HB.out.trans (hu.mono HB.out.size))) (hqy.below (HB.out.trans (hu.mono HB.out.size))))
        have HY : Hid (qabs x = qabs y → SamesTo l m (j + 1)) := fun h i x' y' hi hx' hy' => by
          rcases Nat.lt_or_ge i j with h1 | h1
          · exact HS.out i x' y' h1 hx' hy'
          · obtain rfl : i = j := by omega
            rw [hx] at hx'; rw [hy] at hy'
            injection hx' with hx'; injection hy' with hy'
            subst hx' hy'; exact h
        have HN : Hid (qabs x ≠ qabs y → qabss l ≠ qabss m) := fun h h2 => h ((qabss_eq.1 h2).2 j x y (by have := HLN.out; omega) hx hy)
        clear hqx hqy hf hf2 hb hb2 hd
        have HAL : Hid (∀ o o2, Below wr.heap.size wr ((wr.alloc o).alloc o2)) := fun o o2 => ((Below.refl _ _).alloc (Nat.le_refl _) o).alloc (by simp) o2
        by_cases hxy : qabs x = qabs y
        · have HXY := Lib.hid hxy
          have HY2 := Lib.hid (HY.out hxy)
          clear hxy HY HN
          go_wp2_with (go_at_call 12; refine (HCALL.out _ (HAL.out _ _)).mono ?_; rintro e w5 ⟨⟨r, rfl, hr⟩, hb5⟩; have HB5 := Lib.hid (HB.out.trans (((HAL.out _ _).trans (hb5.mono (HAL.out _ _).size)).mono HB.out.size)); obtain rfl : r = true := hr.2 HXY.out; clear hb5 hr)
          go_roundw
          case rel => exact ⟨j + 1, by omega, by go_num, HY2.out, HB5⟩
          case measure => simp [intOf]; omega
        · have HXY := Lib.hid hxy
          have HN2 := Lib.hid (HN.out hxy)
          clear hxy HY HN
          go_wp2_with (go_at_call 12; refine (HCALL.out _ (HAL.out _ _)).mono ?_; rintro e w5 ⟨⟨r, rfl, hr⟩, hb5⟩; have HB5 := Lib.hid (HB.out.trans (((HAL.out _ _).trans (hb5.mono (HAL.out _ _).size)).mono HB.out.size)); obtain rfl : r = false := Bool.eq_false_iff.2 (fun h => HXY.out (hr.1 h)); clear hb5 hr)
          go_ret
          exact ⟨⟨false, rfl, by simp [HN2.out]⟩, HB5.out⟩
      · obtain rfl : j = ln := by omega
        have HT : Hid (qabss l = qabss m) := qabss_eq.2 ⟨HLEN.out, by rw [HLN.out]; exact HS.out⟩
        go_wp2
        go_ret
        exact ⟨⟨true, rfl, by simp [HT.out]⟩, HB.out⟩
  · have HN : Hid (qabss l ≠ qabss m) := fun h => hlen (qabss_eq.1 h).1
    have hb : ((l.length : Int) == (m.length : Int)) = false := by rw [beq_eq_false_iff_ne]; omega
    have hb2 : ((l.length : Int) != (m.length : Int)) = true := by simp [bne, hb]
    go_wp2
    go_ret
    exact ⟨⟨false, rfl, by simp [HN.out]⟩, Below.refl _ _⟩
theorem name_beq (x y : ByteArray) : (x.toList == y.toList) = decide (x.data.toList = y.data.toList) := by
  rw [Lib.toList_data, Lib.toList_data, Bool.eq_iff_iff]
  simp
theorem below_drawsA {b : Nat} {w w1 : World} (h : Below b w w1) (k : Nat) : Below b w (w1.drewN k) := ⟨h.os, h.tape, h.output, h.size, h.block⟩
set_option maxHeartbeats 4000000 in
set_option maxRecDepth 100000 in
theorem sameAsk_ok : ∀ (a b : QT) (w : World), QIn w a → QIn w b → Calls Tryz.prog 12 #[a.v, b.v] w (SamePost a b w) := by
  intro a
  induction a using QT.ind with
  | h k s n p c xs ih =>
    intro b w ha hb
    obtain ⟨k2, s2, n2, p2, c2, ys⟩ := b
    obtain ⟨W, hW⟩ : ∃ W, W = (w.alloc (.cells #[.int .i64 k, .string s, .int .i64 n, .slice p xs.length c] 29)).alloc (.cells #[.int .i64 k2, .string s2, .int .i64 n2, .slice p2 ys.length c2] 29) := ⟨_, rfl⟩
    have hBW : Below w.heap.size w W := by rw [hW]; exact ((Below.refl _ _).alloc (Nat.le_refl _) _).alloc (by simp) _
    have HBW := Lib.hid hBW
    have ha2 : xs.length ≤ 1048576 := ha.small.2.2
    have HCALL := Lib.hid (equalF_ok p p2 c c2 xs ys W (ha.kids.below hBW) (hb.kids.below hBW) ha2 ih)
    have HEQ : Hid ((qabs (.mk k s n p c xs) = qabs (.mk k2 s2 n2 p2 c2 ys)) ↔ (k = k2 ∧ s.data.toList = s2.data.toList ∧ n = n2 ∧ qabss xs = qabss ys)) := by
      show _ ↔ _
      simp only [qabs, QA.mk.injEq]
    show Calls Tryz.prog 12 #[.agg #[.int .i64 k, .string s, .int .i64 n, .slice p xs.length c], .agg #[.int .i64 k2, .string s2, .int .i64 n2, .slice p2 ys.length c2]] w _
    have HNO : Hid (¬ (k = k2 ∧ s.data.toList = s2.data.toList ∧ n = n2 ∧ qabss xs = qabss ys) → SamePost (.mk k s n p c xs) (.mk k2 s2 n2 p2 c2 ys) w (.returned (.bool false)) W) := by
      show _ → _
      intro h
      refine ⟨⟨false, rfl, ?_⟩, HBW.out⟩
      rw [HEQ.out]
      exact ⟨fun e => Bool.noConfusion e, fun e => absurd e h⟩
    clear ha hb ih hBW ha2
    have hsb := name_beq s s2
    go_enter Tryz.func12, Tryz.ntmps12
    by_cases h1 : k = k2
    · subst h1
      by_cases h2 : s.data.toList = s2.data.toList
      · rw [decide_eq_true h2] at hsb
        have H2 := Lib.hid h2
        clear h2
        by_cases h3 : n = n2
        · subst h3
          go_wp2_with (go_at_call 34; rw [← hW]; refine HCALL.out.mono ?_; rintro e w5 ⟨⟨r, rfl, hr⟩, hb5⟩; have HB5 := Lib.hid (HBW.out.trans (hb5.mono HBW.out.size)); have HR := Lib.hid hr; clear hb5 hr)
          go_ret
          refine ⟨⟨r, rfl, ?_⟩, HB5.out⟩
          rw [HEQ.out, HR.out]
          exact ⟨fun h => ⟨trivial, H2.out, trivial, h⟩, fun h => h.2.2.2⟩
        · go_wp2
          rw [← hW]
          go_ret
          exact HNO.out (fun h => h3 h.2.2.1)
      · rw [decide_eq_false h2] at hsb
        have H2 := Lib.hid h2
        clear h2
        go_wp2
        rw [← hW]
        go_ret
        exact HNO.out (fun h => H2.out h.2.1)
    · go_wp2
      rw [← hW]
      go_ret
      exact HNO.out (fun h => h1 h.1)
end Go.Proofs.YteefncohknclcaaGreatDoor
namespace Go.Proofs.YteefncohknclcaaGreatDoor
open Go.RowKit Go.Sort
theorem hanQ (w : World) (o : Obj) : (w.alloc o).heap[w.heap.size]? = some o := by
  show (w.heap.push o)[w.heap.size]? = some o
  simp
theorem haoQ (w : World) (o : Obj) (i : Nat) (h : i < w.heap.size) : (w.alloc o).heap[i]? = w.heap[i]? := by
  show (w.heap.push o)[i]? = w.heap[i]?
  rw [Array.getElem?_push, if_neg (Nat.ne_of_lt h)]
theorem box4Q {w : World} {b : Nat} {t : TypeId} {v0 v1 v2 v3 : Value} (h : w.heap[b]? = some (.cells #[v0, v1, v2, v3] t (0, 0))) :
    w.cell? ⟨b, 0, none⟩ = some v0 ∧ w.cell? ⟨b, 1, none⟩ = some v1 ∧ w.cell? ⟨b, 2, none⟩ = some v2 ∧ w.cell? ⟨b, 3, none⟩ = some v3 ∧ ∀ o, w.frozen? ⟨b, o, none⟩ = false := by
  refine ⟨?_, ?_, ?_, ?_, fun o => ?_⟩
  all_goals simp [World.cell?, World.frozen?, h]
theorem box4Q_all {w : World} {b : Nat} {t : TypeId} {v0 v1 v2 v3 : Value} (h : w.heap[b]? = some (.cells #[v0, v1, v2, v3] t (0, 0))) (u0 u1 u2 u3 : Value) :
    ((((w.setCell ⟨b, 0, none⟩ u0).setCell ⟨b, 1, none⟩ u1).setCell ⟨b, 2, none⟩ u2).setCell ⟨b, 3, none⟩ u3).heap[b]? = some (.cells #[u0, u1, u2, u3] t (0, 0)) := by
  simp only [setCell_eq]
  simp [mapBlock, onCells, Array.getElem?_modify, h]
theorem below_set4Q {B b : Nat} {w w' : World} (h : Below B w w') (hb : B ≤ b) (u0 u1 u2 u3 : Value) :
    Below B w ((((w'.setCell ⟨b, 0, none⟩ u0).setCell ⟨b, 1, none⟩ u1).setCell ⟨b, 2, none⟩ u2).setCell ⟨b, 3, none⟩ u3) :=
  (((h.setCell hb _).setCell hb _).setCell hb _).setCell hb _
theorem set4Q_other (w : World) (b k : Nat) (u0 u1 u2 u3 : Value) (h : k ≠ b) : ((((w.setCell ⟨b, 0, none⟩ u0).setCell ⟨b, 1, none⟩ u1).setCell ⟨b, 2, none⟩ u2).setCell ⟨b, 3, none⟩ u3).heap[k]? = w.heap[k]? := by
  rw [heap_setCell_other _ _ k _ h, heap_setCell_other _ _ k _ h, heap_setCell_other _ _ k _ h, heap_setCell_other _ _ k _ h]
theorem results_ctQ {P : Program} {fn : Func} {p u : Tmp} {ty : TypeId} (h : fn.results = #[.cell p ty, .tmp u]) (tmps : Array Value) (w : World) (g : Nat) (t : TypeId) (cs : Array Value) (fr : Nat × Nat) (d : TypeDesc) (x : Value)
    (hp : tmps.getD p undef = .pointer (some ⟨g, 0, none⟩)) (hx : tmps.getD u undef = x) (hg : w.heap[g]? = some (.cells cs t fr))
    (hu : P.underlying ty = some d) (hd : (match d with | .struct _ | .array _ _ => true | _ => false) = true) (hi : (P.info? ty).map (·.size) = some cs.size) :
    (results fn tmps).run P w = .ok (.tuple #[.agg cs, x]) w := by
  have hp' : tmps[p]?.getD undef = .pointer (some ⟨g, 0, none⟩) := by simpa using hp
  have hx' : tmps[u]?.getD undef = x := by simpa using hx
  rw [results_cell_tmp h]
  simp [hp', hx', asAddr, run_loadVar_row w g t ty cs fr d hg hu hd hi, Result.andThen]
/-- the world in which a call has laid its ask and the cell of its answer -/
theorem arg2r (w : World) (v0 v1 v2 v3 : Value) : ∃ W, W = (w.alloc (.cells #[v0, v1, v2, v3] 29)).alloc (.cells #[.int .i64 0, .string ⟨#[]⟩, .int .i64 0, .slice none 0 0] 29) ∧ Below w.heap.size w W ∧ W.heap.size = w.heap.size + 2 ∧
    ∀ u : World, Below W.heap.size W u → u.heap[w.heap.size]? = some (.cells #[v0, v1, v2, v3] 29 (0, 0)) ∧ u.heap[w.heap.size + 1]? = some (.cells #[.int .i64 0, .string ⟨#[]⟩, .int .i64 0, .slice none 0 0] 29 (0, 0)) := by
  obtain ⟨W, hW⟩ : ∃ W, W = (w.alloc (.cells #[v0, v1, v2, v3] 29)).alloc (.cells #[.int .i64 0, .string ⟨#[]⟩, .int .i64 0, .slice none 0 0] 29) := ⟨_, rfl⟩
  have hs : W.heap.size = w.heap.size + 2 := by rw [hW]; simp
  refine ⟨W, hW, by rw [hW]; exact ((Below.refl _ _).alloc (Nat.le_refl _) _).alloc (by simp) _, hs, fun u hu => ?_⟩
  rw [hu.block _ (by omega), hu.block _ (by omega), hW]
  refine ⟨?_, ?_⟩
  · rw [haoQ _ _ _ (by simp), hanQ]
  · have := hanQ (w.alloc (.cells #[v0, v1, v2, v3] 29)) (.cells #[.int .i64 0, .string ⟨#[]⟩, .int .i64 0, .slice none 0 0] 29)
    simpa using this
end Go.Proofs.YteefncohknclcaaGreatDoor
namespace Go.Proofs.YteefncohknclcaaGreatDoor
open Go
/-- all cells of the block at which a slice begins are so -/
def AllC (w : World) (v : Value) (Pr : Value → Prop) : Prop := ∀ b, v.ownBlock = some b → ∃ cur t fr, w.heap[b]? = some (.cells cur t fr) ∧ ∀ u ∈ cur.toList, Pr u
theorem AllC.nil_ (w : World) (Pr : Value → Prop) : AllC w (.slice none 0 0) Pr := fun b h => by simp [Value.ownBlock] at h
theorem AllC.kept {w w' : World} {v : Value} {Pr : Value → Prop} {row : Option Nat} (h : AllC w v Pr) (hg : w.grownBy w' row) (hne : v.ownBlock = none ∨ v.ownBlock ≠ row) : AllC w' v Pr := fun b hb => by
  obtain ⟨cur, t, fr, h1, h2⟩ := h b hb
  refine ⟨cur, t, fr, ?_, h2⟩
  rw [hg.block b (Array.getElem?_eq_some_iff.1 h1).1 ?_]
  · exact h1
  · rcases hne with h3 | h3
    · rw [h3] at hb; cases hb
    · rw [← hb]; exact h3
theorem zero_all {z : Array Value} {n : Nat} {Pr : Value → Prop} (hz : ∀ u ∈ z.toList, Pr u) : ∀ u ∈ (Builtin.zeroCells z n).toList, Pr u := by
  intro u hu
  unfold Builtin.zeroCells at hu
  simp only [Array.toList_map, List.mem_map, Array.toList_range, List.mem_range] at hu
  obtain ⟨i, hi, rfl⟩ := hu
  have h0 : 0 < z.size := by
    rcases Nat.eq_zero_or_pos z.size with h | h
    · rw [h] at hi; simp at hi
    · exact h
  have hm := Nat.mod_lt i h0
  rw [getElem!_pos z _ hm]
  exact hz _ (by simp)
theorem append_all {P : Program} {w : World} {base : Nat} {t ty e : TypeId} {i : TypeInfo} {z : Value} (ht : P.underlying t = some (.slice e)) (hi : P.info? e = some i) (hz : i.zero = some z)
    {v : Value} {n : Nat} {xs : List Value} (hown : w.ownsRow base e i.size v n xs)
    {a : Addr} {m c : Nat} {news : List Value} (hl : news.length = m * i.size) (hnews : ∀ j u, news[j]? = some u → w.cell? (a.add j) = some u) (h1 : ∀ u ∈ news, u.oneCell' = true)
    (h63 : n + m ≤ maxLen) (hbytes : (n + m) * i.bytes ≤ 140737488355328) {Pr : Value → Prop} (pz : ∀ u ∈ z.cells.toList, Pr u) (pn : ∀ u ∈ news, Pr u) (hp : AllC w v Pr)
    {v' : Value} {w' : World} (hr : (Builtin.append_ #[t, t] ty #[v, .slice (some a) m c]).run P w = .ok v' w') : AllC w' v' Pr := by
  have hsmall : n + m ≤ 9223372036854775807 := by simp only [maxLen] at h63; omega
  have hall : ∀ l : List Value, (∀ u ∈ l, Pr u) → ∀ k, AllC (w.drew.alloc (.cells (l.toArray ++ news.toArray ++ Builtin.zeroCells z.cells k) e)) (.slice (some ⟨w.heap.size, 0, none⟩) (n + m) (grownCap w (n + m) 0 e)) Pr := by
    intro l hl k b hb
    have hb' : w.heap.size = b := by simpa [Value.ownBlock] using hb
    subst hb'
    refine ⟨_, _, _, heap_alloc_new w.drew _, fun u hu => ?_⟩
    simp only [Array.toList_append, List.mem_append] at hu
    rcases hu with (hu | hu) | hu
    · exact hl u hu
    · exact pn u hu
    · exact zero_all pz u hu
  rcases hown.2 with ⟨rfl, rfl⟩ | ⟨g, cap, cur, rfl, hbg, hg, hnc, hcm, hcs, htake⟩
  · by_cases hm : m = 0
    · subst hm
      have hn : news = [] := List.eq_nil_of_length_eq_zero (by simpa using hl)
      subst hn
      have h0 : (Builtin.append_ #[t, t] ty #[.slice none 0 0, .slice (some a) 0 c]).run P w = .ok (.slice none 0 0) w := by
        simp [Builtin.append_, run_underlying ht, sizeOf, typeInfo, hi, Builtin.lenOf, Builtin.firstCells, loadCells, loadCellsFrom]
      rw [h0] at hr
      injection hr with e1 e2
      subst e1 e2
      exact AllC.nil_ _ _
    · have h0 := run_append_nil (P := P) w t ty e i z ht hi hz a m c news hl hnews (by omega) (by omega) (by have hb := hbytes; simp only [Nat.zero_add] at hb; omega)
      rw [h0] at hr
      injection hr with e1 e2
      subst e1 e2
      intro b hb
      have hb' : w.heap.size = b := by simpa [Value.ownBlock] using hb
      subst hb'
      have := hall [] (fun u hu => by cases hu) (grownCap w m 0 e - m) w.heap.size (by simp [Value.ownBlock])
      simpa using this
  · have hcur : ∀ u ∈ cur.toList, Pr u := by
      obtain ⟨cur', t', fr', h2, h3⟩ := hp g (by simp [Value.ownBlock])
      rw [hg] at h2
      injection h2 with h2
      injection h2 with h2
      subst h2
      exact h3
    have hxs : ∀ u ∈ xs, Pr u := fun u hu => hcur u (by rw [← htake] at hu; exact List.mem_of_mem_take hu)
    by_cases hroom : n + m ≤ cap
    · have hfit : n * i.size + news.length ≤ cur.size := by rw [hl, hcs, ← Nat.add_mul]; exact Nat.mul_le_mul_right _ hroom
      have h0 := run_append_room (P := P) w t ty e i ht hi g n cap cur hg a m c news hl hnews h1 hroom hfit
      rw [h0] at hr
      injection hr with e1 e2
      subst e1 e2
      intro b hb
      have hb' : g = b := by simpa [Value.ownBlock] using hb
      subst hb'
      refine ⟨_, _, _, setRow_heap w g cur _ e _ hg, fun u hu => ?_⟩
      simp only [List.mem_append] at hu
      rcases hu with (hu | hu) | hu
      · exact hcur u (List.mem_of_mem_take hu)
      · exact pn u hu
      · exact hcur u (List.mem_of_mem_drop hu)
    · have holds : ∀ j u, xs[j]? = some u → w.cell? ((⟨g, 0, none⟩ : Addr).add j) = some u := hown.cells (g := g) rfl
      have h0 := run_append_grow (P := P) w t ty e i z ht hi hz ⟨g, 0, none⟩ n cap xs hown.1 holds a m c news hl hnews (by omega) (by omega) (growslice_fits (by omega) hbytes)
      rw [h0] at hr
      injection hr with e1 e2
      subst e1 e2
      intro b hb
      have hb' : w.heap.size = b := by simpa [Value.ownBlock] using hb
      subst hb'
      exact hall xs hxs _ w.heap.size (by simp [Value.ownBlock])
/-- append to a slice of the call's own, with what all its cells are -/
theorem wpList_append_all {P : Program} (w : World) {ops : Array Oper} {rest : List Oper} {o : Oper} {a : Act} {Q : Exit → Act → World → Prop} (hgd : o.guard = none) (s x : Operand) (t : TypeId)
    (ho : o.op = .call { callee := .builtin .append, args := #[s, x], argTypes := #[t, t] })
    (base : Nat) (e : TypeId) (i : TypeInfo) (z : Value) (size bytes : Nat) (ht : P.underlying t = some (.slice e)) (hi : P.info? e = some i) (hz : i.zero = some z) (hsize : i.size = size) (hby : i.bytes = bytes) (hzs : z.cells.size = size) (hsz : 0 < size)
    (v : Value) (n : Nat) (xs : List Value) (hs : a.eval s = v) (hown : w.ownsRow base e size v n xs)
    (ad : Addr) (m c : Nat) (news : List Value) (hx : a.eval x = .slice (some ad) m c) (hl : news.length = m * size) (hnews : ∀ j u, news[j]? = some u → w.cell? (ad.add j) = some u) (h1 : ∀ u ∈ news, u.oneCell' = true)
    (h63 : n + m ≤ maxLen) (hbytes : (n + m) * bytes ≤ 140737488355328) (hbase : base ≤ w.heap.size) (Pr : Value → Prop) (pz : ∀ u ∈ z.cells.toList, Pr u) (pn : ∀ u ∈ news, Pr u) (hp : AllC w v Pr)
    (h : ∀ v' w', w'.ownsRow base e size v' (n + m) (xs ++ news) → w.grownBy w' v.ownBlock → AllC w' v' Pr → (v'.ownBlock = v.ownBlock ∨ v'.ownBlock = some w.heap.size) → wpList P ops Q rest (a.put o.dst v') w') : wpList P ops Q (o :: rest) a w := by
  subst hsize
  subst hby
  refine wpList_plain hgd fun K hK => ?_
  obtain ⟨v', w', hr, h2, h3, _, h6⟩ := run_append_own_at (P := P) w base t o.type e i z i.size i.bytes ht hi hz rfl rfl hzs hsz v n xs hown ad m c news hl hnews h1 h63 hbytes hbase
  have h5 := append_all ht hi hz hown hl hnews h1 h63 hbytes pz pn hp hr
  unfold Oper.wp execOp
  simp only [ho, resolve, invoke, builtin, Sem.run_bind, Sem.run_pure, Result.andThen_ok, List.map_toArray, List.map_cons, List.map_nil, hs, hx, hr]
  exact hK _ _ (h v' w' h2 h3 h5 h6)
end Go.Proofs.YteefncohknclcaaGreatDoor
namespace Go.Proofs.YteefncohknclcaaGreatDoor
open Go.RowKit
def askC (t : QT) : List Value := [.int .i64 t.kind, .string t.name, .int .i64 t.num, .slice t.p t.xs.length t.cap]
def asksC (l : List QT) : List Value := l.flatMap askC
theorem asksC_snoc (l : List QT) (t : QT) : asksC (l ++ [t]) = asksC l ++ askC t := by unfold asksC; rw [List.flatMap_append]; simp
theorem asksC_len (l : List QT) : (asksC l).length = l.length * 4 := by
  induction l with
  | nil => rfl
  | cons x l ih =>
    show (askC x ++ asksC l).length = _
    rw [List.length_append, ih, List.length_cons]
    have : (askC x).length = 4 := rfl
    omega
theorem asksC_at {l : List QT} {k : Nat} {x : QT} (h : l[k]? = some x) (j : Nat) (hj : j < 4) : (asksC l)[k * 4 + j]? = (askC x)[j]? := by
  induction l generalizing k with
  | nil => simp at h
  | cons y l ih =>
    have e : asksC (y :: l) = askC y ++ asksC l := rfl
    have hy : (askC y).length = 4 := rfl
    rw [e]
    cases k with
    | zero =>
      simp only [List.getElem?_cons_zero, Option.some.injEq] at h
      subst h
      rw [Nat.zero_mul, Nat.zero_add, List.getElem?_append_left (by omega)]
    | succ k =>
      rw [List.getElem?_append_right (by omega), hy, show (k + 1) * 4 + j - 4 = k * 4 + j by omega]
      exact ih (by simpa using h)
theorem info_ask : (Tryz.prog.info? 29).map (fun i => (i.zero, i.size, i.bytes)) = some (some (.agg #[.int .i64 0, .string ⟨#[]⟩, .int .i64 0, .slice none 0 0]), 4, 56) := by kernel_rfl
theorem app_ask (w : World) {ops : Array Oper} {rest : List Oper} {o : Oper} {a : Act} {Q : Exit → Act → World → Prop} (hgd : o.guard = none) (s x : Operand)
    (ho : o.op = .call { callee := .builtin .append, args := #[s, x], argTypes := #[27, 27] })
    (base : Nat) (v : Value) (n : Nat) (xs : List QT) (hs : a.eval s = v) (hown : w.ownsRow base 29 4 v n (asksC xs))
    (g : Nat) (y : QT) (hx : a.eval x = .slice (some ⟨g, 0, none⟩) 1 1) (hc0 : w.cell? ⟨g, 0, none⟩ = some (.int .i64 y.kind)) (hc1 : w.cell? ⟨g, 1, none⟩ = some (.string y.name)) (hc2 : w.cell? ⟨g, 2, none⟩ = some (.int .i64 y.num)) (hc3 : w.cell? ⟨g, 3, none⟩ = some (.slice y.p y.xs.length y.cap))
    (hn : n ≤ 1099511627776) (hbase : base ≤ w.heap.size)
    (h : ∀ v' w', w'.ownsRow base 29 4 v' (n + 1) (asksC (xs ++ [y])) → w.grownBy w' v.ownBlock → (v'.ownBlock = v.ownBlock ∨ v'.ownBlock = some w.heap.size) → wpList Tryz.prog ops Q rest (a.put o.dst v') w') : wpList Tryz.prog ops Q (o :: rest) a w := by
  obtain ⟨i0, hi, hz0, hz1, hz2⟩ := info_parts info_ask
  refine wpList_append_all w hgd s x 27 ho base 29 i0 _ 4 56 Tryz.underlying27 hi hz0 hz1 hz2 rfl (by decide) v n _ hs hown ⟨g, 0, none⟩ 1 1 (askC y) hx rfl ?_ ?_ (by unfold maxLen; omega) (by omega) hbase (fun _ => True) ?_ ?_ ?_ (fun v' w' h1 h2 _ h4 => h v' w' ?_ h2 h4)
  · intro j q hj
    match j, hj with
    | 0, hj => simp [askC] at hj; subst hj; simpa [Addr.add] using hc0
    | 1, hj => simp [askC] at hj; subst hj; simpa [Addr.add] using hc1
    | 2, hj => simp [askC] at hj; subst hj; simpa [Addr.add] using hc2
    | 3, hj => simp [askC] at hj; subst hj; simpa [Addr.add] using hc3
    | j + 4, hj => simp [askC] at hj
  · intro q hq; simp [askC] at hq; rcases hq with rfl | rfl | rfl | rfl <;> rfl
  · intro q hq; trivial
  · intro q hq; trivial
  · intro b hb
    rcases hown.2 with ⟨rfl, _⟩ | ⟨g', cap, cur, rfl, _, hlt, _, _, _, _⟩
    · simp [Value.ownBlock] at hb
    · simp [Value.ownBlock] at hb
      subst hb
      exact ⟨cur, _, _, hlt, fun _ _ => trivial⟩
  · rw [asksC_snoc]; exact h1
/-- a list of the call's own, as what is in an ask -/
theorem own_kids {w : World} {base : Nat} {p : Option Addr} {c : Nat} {l : List QT} (hown : w.ownsRow base 29 4 (.slice p l.length c) l.length (asksC l)) (hk : ∀ x ∈ l, QIn w x) :
    QsIn w p 0 l ∧ l.length ≤ c ∧ ((p = none ∧ c = 0 ∧ l = []) ∨ ∃ b cur, p = some ⟨b, 0, none⟩ ∧ base ≤ b ∧ b < w.heap.size ∧ w.heap[b]? = some (.cells cur 29 (0, 0)) ∧ cur.size = 4 * c ∧ c ≤ 9223372036854775807) := by
  rcases hown.2 with ⟨hv, hn⟩ | ⟨g, cap, cur, hv, hb, hg, hnc, hml, hcs, _⟩
  · injection hv with e1 e2 e3
    have hl := List.length_eq_zero_iff.1 hn
    subst e1 e3 hl
    exact ⟨trivial, Nat.le_refl _, .inl ⟨rfl, rfl, rfl⟩⟩
  · injection hv with e1 e2 e3
    subst e1 e3
    have hlt := (Array.getElem?_eq_some_iff.1 hg).1
    refine ⟨QsIn.mk fun j x hx => ⟨⟨g, 0, rfl, hlt, ?_⟩, hk x (List.mem_of_getElem? hx)⟩, hnc, .inr ⟨g, cur, rfl, hb, hlt, hg, by omega, by unfold maxLen at hml; omega⟩⟩
    have hj : j < l.length := by
      rcases Nat.lt_or_ge j l.length with h1 | h1
      · exact h1
      · rw [List.getElem?_eq_none h1] at hx; cases hx
    have hc : ∀ i, i < 4 → w.cell? ⟨g, j * 4 + i, none⟩ = (askC x)[i]? := fun i hi => by
      rw [hown.cellAt (j * 4 + i) (by omega), asksC_at hx i hi]
    rw [show 0 + 4 * (0 + j) = j * 4 by omega]
    exact ⟨hc 0 (by omega), hc 1 (by omega), hc 2 (by omega), hc 3 (by omega)⟩
end Go.Proofs.YteefncohknclcaaGreatDoor
