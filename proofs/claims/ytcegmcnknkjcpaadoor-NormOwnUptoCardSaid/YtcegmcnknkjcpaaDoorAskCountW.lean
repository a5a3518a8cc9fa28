/- The walks of ask.count and norm.size. Conditions: the ask lies in memory; it has fewer than 2^40 asks in it. -/
import Derived.Test.YtcegmcnknkjcpaaDoorAskM
import Derived.Test.YtcegmcnknkjcpaaDoorShelf
import Derived.WalkKit
import Derived.Deep.QuietTactic
import Derived.BigQuiet
import Derived.Lib.Hide
namespace Go.Proofs.YtcegmcnknkjcpaaDoor
open Go.RowKit
/-- the world in which a call has laid its ask -/
theorem arg1 (w : World) (v0 v1 v2 v3 : Value) : ∃ W, W = w.alloc (.cells #[v0, v1, v2, v3] 24) ∧ Below w.heap.size w W ∧ W.heap.size = w.heap.size + 1 ∧
    ∀ u : World, Below W.heap.size W u → u.cell? ⟨w.heap.size, 0, none⟩ = some v0 ∧ u.cell? ⟨w.heap.size, 1, none⟩ = some v1 ∧ u.cell? ⟨w.heap.size, 2, none⟩ = some v2 ∧ u.cell? ⟨w.heap.size, 3, none⟩ = some v3 := by
  obtain ⟨W, hW⟩ : ∃ W, W = w.alloc (.cells #[v0, v1, v2, v3] 24) := ⟨_, rfl⟩
  have hs : W.heap.size = w.heap.size + 1 := by rw [hW]; simp
  refine ⟨W, hW, by rw [hW]; exact (Below.refl _ _).alloc (Nat.le_refl _) _, hs, fun u hu => ?_⟩
  have c0 : ∀ o, u.cell? ⟨w.heap.size, o, none⟩ = W.cell? ⟨w.heap.size, o, none⟩ := fun o => hu.cell (p := ⟨w.heap.size, o, none⟩) (by show w.heap.size < _; omega)
  rw [c0, c0, c0, c0, hW]
  refine ⟨?_, ?_, ?_, ?_⟩ <;> (rw [World.cell?_alloc_at _ _ _ _ rfl]; rfl)
theorem qabss_take (l : List QT) (k : Nat) : qcnts (qabss (l.take k)) ≤ qcnts (qabss l) := by
  induction l generalizing k with
  | nil => simp
  | cons x l ih =>
    cases k with
    | zero => simp [qabss, qcnts]
    | succ k => simp only [List.take_succ_cons, qabss, qcnts]; have := ih k; omega
theorem qabss_next {l : List QT} {k : Nat} {x : QT} (h : l[k]? = some x) : qcnts (qabss (l.take (k + 1))) = qcnts (qabss (l.take k)) + qcnt (qabs x) := by
  have hk : k < l.length := by
    rcases Nat.lt_or_ge k l.length with h1 | h1
    · exact h1
    · rw [List.getElem?_eq_none h1] at h; cases h
  rw [List.getElem?_eq_getElem hk] at h
  injection h with h
  rw [List.take_succ_eq_append_getElem hk, qabss_map, List.map_append, qcnts_app, ← qabss_map, h]
  simp [qcnts]
/-- the cells of an element of a list, as a walk asks for them -/
theorem four_at {w : World} {b o j : Nat} {t : QT} (h : Four w b (o + 4 * (0 + j)) t) : w.cell? ⟨b, o + j * 4, none⟩ = some (.int .i64 t.kind) ∧ w.cell? ⟨b, o + j * 4 + 1, none⟩ = some (.string t.name) ∧ w.cell? ⟨b, o + j * 4 + 2, none⟩ = some (.int .i64 t.num) ∧ w.cell? ⟨b, o + j * 4 + 3, none⟩ = some (.slice t.p t.xs.length t.cap) := by
  rw [show o + 4 * (0 + j) = o + j * 4 by omega] at h
  exact h
set_option maxHeartbeats 4000000 in
set_option maxRecDepth 100000 in
theorem countA_ok : ∀ (t : QT) (w : World), QIn w t → qcnt (qabs t) ≤ 1099511627776 → Calls Tryd.prog 26 #[t.v] w fun e w' => e = .returned (.int .i64 (qcnt (qabs t) : Int)) ∧ Below w.heap.size w w' := by
  intro t
  induction t using QT.ind with
  | h k s n p c xs ih =>
    intro w hq hc
    have IH := Lib.hid ih
    have HK : Hid (QsIn w p 0 xs) := hq.kids
    have hsm := hq.small.2
    have hxl : xs.length ≤ 1048576 := hsm.2
    have hcn : qcnts (qabss xs) ≤ 1099511627776 := by
      have e : qcnt (qabs (.mk k s n p c xs)) = 1 + qcnts (qabss xs) := rfl
      omega
    have HCN : Hid (qcnt (qabs (.mk k s n p c xs)) = 1 + qcnts (qabss xs)) := rfl
    clear ih hq hc hsm
    obtain ⟨W, hW, hBW, hS, hC⟩ := arg1 w (.int .i64 k) (.string s) (.int .i64 n) (.slice p xs.length c)
    have HC := Lib.hid hC
    have HBW := Lib.hid hBW
    obtain ⟨k0, k1, k2, k3⟩ := HC.out W (Below.refl _ _)
    rw [hW] at k0 k1 k2 k3
    show Calls Tryd.prog 26 #[.agg #[.int .i64 k, .string s, .int .i64 n, .slice p xs.length c]] w _
    clear hBW hS hC
    go_enter Tryd.func26, Tryd.ntmps26
    go_wp2_with fail
    rw [← hW]
    clear hW k0 k1 k2 k3
    go_loopw [9, 3] (fun i m wr => ∃ j : Nat, j ≤ xs.length ∧ i = .int .i64 j ∧ m = .int .i64 ((1 + qcnts (qabss (xs.take j)) : Nat) : Int) ∧ Hid (Below W.heap.size W wr)) (fun i _ _ => xs.length - (intOf i).toNat)
    case atStart => exact ⟨0, Nat.zero_le _, rfl, by simp [qabss, qcnts], Below.refl _ _⟩
    case round =>
      obtain ⟨j, hj, rfl, rfl, HB⟩ := hrel
      by_cases hlt : j < xs.length
      · obtain ⟨x, hx⟩ : ∃ x, xs[j]? = some x := ⟨_, List.getElem?_eq_getElem hlt⟩
        obtain ⟨⟨b, o, rfl, hb, hf⟩, hqx⟩ := HK.out.at hx
        have HBw := Lib.hid (HBW.out.trans (HB.out.mono HBW.out.size))
        obtain ⟨c0, c1, c2, c3⟩ := four_at (hf.below HBw.out hb)
        have hnx := qabss_next hx
        have hle := qabss_take xs (j + 1)
        have HCALL := Lib.hid (fun (u : World) (hu : Below wr.heap.size wr u) => IH.out x (List.mem_of_getElem? hx) u (hqx.below (HBw.out.trans (hu.mono HBw.out.size))) (by omega))
        rw [hnx] at hle
        have HNX := Lib.hid hnx
        clear hqx hnx hf
        generalize qcnts (qabss (xs.take j)) = m0 at *
        have HAL : Hid (∀ o, Below wr.heap.size wr (wr.alloc o)) := fun o => (Below.refl _ _).alloc (Nat.le_refl _) o
        go_wp2_with (go_at_call 26; refine (HCALL.out _ (HAL.out _)).mono ?_; rintro e w5 ⟨rfl, hb5⟩; have HB5 := Lib.hid (HB.out.trans (((HAL.out _).trans (hb5.mono (HAL.out _).size)).mono HB.out.size)); clear hb5)
        go_roundw
        case rel => exact ⟨j + 1, by omega, by go_num, by
          rw [HNX.out]
          refine congrArg (Value.int .i64) ?_
          go_num, HB5⟩
        case measure => simp [intOf]; omega
      · obtain rfl : j = xs.length := by omega
        go_wp2
        go_ret
        refine ⟨?_, HBW.out.trans (HB.out.mono HBW.out.size)⟩
        rw [HCN.out, List.take_length]
        rfl
set_option maxHeartbeats 4000000 in
set_option maxRecDepth 100000 in
theorem sizeN_ok : ∀ (t : QT) (w : World), QIn w t → qcnt (qabs t) ≤ 1099511627776 → Calls Tryd.prog 21 #[t.v] w fun e w' => e = .returned (.int .i64 (qcnt (qabs t) : Int)) ∧ Below w.heap.size w w' := by
  intro t
  induction t using QT.ind with
  | h k s n p c xs ih =>
    intro w hq hc
    have IH := Lib.hid ih
    have HK : Hid (QsIn w p 0 xs) := hq.kids
    have hsm := hq.small.2
    have hxl : xs.length ≤ 1048576 := hsm.2
    have hcn : qcnts (qabss xs) ≤ 1099511627776 := by
      have e : qcnt (qabs (.mk k s n p c xs)) = 1 + qcnts (qabss xs) := rfl
      omega
    have HCN : Hid (qcnt (qabs (.mk k s n p c xs)) = 1 + qcnts (qabss xs)) := rfl
    clear ih hq hc hsm
    obtain ⟨W, hW, hBW, hS, hC⟩ := arg1 w (.int .i64 k) (.string s) (.int .i64 n) (.slice p xs.length c)
    have HC := Lib.hid hC
    have HBW := Lib.hid hBW
    obtain ⟨k0, k1, k2, k3⟩ := HC.out W (Below.refl _ _)
    rw [hW] at k0 k1 k2 k3
    show Calls Tryd.prog 21 #[.agg #[.int .i64 k, .string s, .int .i64 n, .slice p xs.length c]] w _
    clear hBW hS hC
    go_enter Tryd.func21, Tryd.ntmps21
    go_wp2_with fail
    rw [← hW]
    clear hW k0 k1 k2 k3
    go_loopw [9, 3] (fun i m wr => ∃ j : Nat, j ≤ xs.length ∧ i = .int .i64 j ∧ m = .int .i64 ((1 + qcnts (qabss (xs.take j)) : Nat) : Int) ∧ Hid (Below W.heap.size W wr)) (fun i _ _ => xs.length - (intOf i).toNat)
    case atStart => exact ⟨0, Nat.zero_le _, rfl, by simp [qabss, qcnts], Below.refl _ _⟩
    case round =>
      obtain ⟨j, hj, rfl, rfl, HB⟩ := hrel
      by_cases hlt : j < xs.length
      · obtain ⟨x, hx⟩ : ∃ x, xs[j]? = some x := ⟨_, List.getElem?_eq_getElem hlt⟩
        obtain ⟨⟨b, o, rfl, hb, hf⟩, hqx⟩ := HK.out.at hx
        have HBw := Lib.hid (HBW.out.trans (HB.out.mono HBW.out.size))
        obtain ⟨c0, c1, c2, c3⟩ := four_at (hf.below HBw.out hb)
        have hnx := qabss_next hx
        have hle := qabss_take xs (j + 1)
        have HCALL := Lib.hid (fun (u : World) (hu : Below wr.heap.size wr u) => IH.out x (List.mem_of_getElem? hx) u (hqx.below (HBw.out.trans (hu.mono HBw.out.size))) (by omega))
        rw [hnx] at hle
        have HNX := Lib.hid hnx
        clear hqx hnx hf
        generalize qcnts (qabss (xs.take j)) = m0 at *
        have HAL : Hid (∀ o, Below wr.heap.size wr (wr.alloc o)) := fun o => (Below.refl _ _).alloc (Nat.le_refl _) o
        go_wp2_with (go_at_call 21; refine (HCALL.out _ (HAL.out _)).mono ?_; rintro e w5 ⟨rfl, hb5⟩; have HB5 := Lib.hid (HB.out.trans (((HAL.out _).trans (hb5.mono (HAL.out _).size)).mono HB.out.size)); clear hb5)
        go_roundw
        case rel => exact ⟨j + 1, by omega, by go_num, by
          rw [HNX.out]
          refine congrArg (Value.int .i64) ?_
          go_num, HB5⟩
        case measure => simp [intOf]; omega
      · obtain rfl : j = xs.length := by omega
        go_wp2
        go_ret
        refine ⟨?_, HBW.out.trans (HB.out.mono HBW.out.size)⟩
        rw [HCN.out, List.take_length]
        rfl
end Go.Proofs.YtcegmcnknkjcpaaDoor
