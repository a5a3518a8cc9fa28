/- The walks through cmp.Compare and slices.Compare at ints, and the walk test of WayShort. Conditions: the table reads as listed. -/
import Derived.Test.YtofffdjpnfhakaaDoorWayThereW
import Derived.Deep.QuietTactic
import Derived.BigQuiet
namespace Go.Proofs.YtofffdjpnfhakaaDoor
open Go.RowKit
/-- a slice of ints in memory as a list of numbers, negative ones let in -/
structure IntsAt (w : World) (p : Option Addr) (n : Nat) (zs : List Int) : Prop where
  reads : Reads w w.heap.size 1 p n (zs.map (Value.int .i64))
  len : zs.length = n
  big : n ≤ maxLen
theorem IntsAt.below {w w' : World} {p : Option Addr} {n : Nat} {zs : List Int} (h : IntsAt w p n zs) (hb : Below w.heap.size w w') : IntsAt w' p n zs :=
  ⟨(h.reads.below hb).more hb.size, h.len, h.big⟩
theorem IntsAt.cell {w : World} {p : Option Addr} {n : Nat} {zs : List Int} (h : IntsAt w p n zs) {k : Nat} (hk : k < n) : ∃ ad, p = some ad ∧ ad.block < w.heap.size ∧ w.cell? (ad.add k) = some (.int .i64 (zs.getD k 0)) := by
  obtain ⟨ad, u, rfl, hb, hu, hc⟩ := h.reads.at_ hk
  refine ⟨ad, rfl, hb, ?_⟩
  have hl : k < zs.length := by rw [h.len]; exact hk
  rw [hc, ← hu]
  simp [hl]
theorem ints_at {w : World} {a : Option Addr} {len cap : Nat} {zs : List Int}
    (h : (a = none ∧ len = 0 ∧ cap = 0 ∧ zs = []) ∨
      ∃ x, a = some x ∧ len ≤ cap ∧ cap ≤ maxLen ∧ zs.length = cap ∧ (∀ i, i < zs.length → w.cell? (x.add i) = some (.int .i64 (zs.getD i 0))) ∧ ∀ n ∈ zs, (Lit.int .i64 n).wf = true) :
    ∃ ys : List Int, IntsAt w a len ys := by
  rcases h with ⟨rfl, rfl, rfl, rfl⟩ | ⟨x, rfl, hl, hm, hz, hc, _⟩
  · exact ⟨[], Reads.none_, rfl, Nat.zero_le _⟩
  · refine ⟨zs.take len, ⟨by simp; omega, fun hn => ⟨x, rfl, ?_, fun j u hj => ?_⟩⟩, by simp; omega, by omega⟩
    · have h0 := hc 0 (by omega)
      have hb : (x.add 0).block = x.block := block_of_add x 0
      rw [← hb]
      rcases Nat.lt_or_ge (x.add 0).block w.heap.size with h1 | h1
      · exact h1
      · unfold World.cell? at h0
        rw [Array.getElem?_eq_none h1] at h0
        cases h0
    · have hjl : j < len := by
        have := (List.getElem?_eq_some_iff.1 hj).1
        simp at this; omega
      rw [hc j (by omega), ← hj]
      have hjr : j < zs.length := by omega
      simp [hjl, hjr]
theorem dist_uniq {r : List B} {a b : B} {d e : Nat} (h : Dist r a b d) (h2 : Dist r a b e) : d = e := by
  rcases Nat.lt_or_ge d e with h3 | h3
  · exact absurd (h2.before d h3) h.at_
  · rcases Nat.lt_or_ge e d with h4 | h4
    · exact absurd (h.before e h4) h2.at_
    · omega
def cmpI (x y : Int) : Int := if x < y then -1 else if y < x then 1 else 0
theorem isNaN_ok (x : Int) (w : World) : Calls Tryd.prog 56 #[.int .i64 x] w fun e w' => e = .returned (.bool false) ∧ w = w' := by
  go_enter Tryd.func56, Tryd.ntmps56
  go_wp2
  go_ret
  exact ⟨by simp, rfl⟩
theorem cmp_ok (x y : Int) (w : World) : Calls Tryd.prog 54 #[.int .i64 x, .int .i64 y] w fun e w' => e = .returned (.int .i64 (cmpI x y)) ∧ w = w' := by
  rcases (show x < y ∨ y < x ∨ x = y by omega) with h | h | h
  · have HC : Hid (cmpI x y = -1) := by show cmpI x y = -1; unfold cmpI; rw [if_pos h]
    go_enter Tryd.func54, Tryd.ntmps54
    go_wp2_with (go_at_call 56; refine (isNaN_ok _ _).mono ?_; rintro e w' ⟨rfl, rfl⟩)
    go_ret
    exact ⟨by rw [HC.out]; rfl, rfl⟩
  · have HC : Hid (cmpI x y = 1) := by show cmpI x y = 1; unfold cmpI; rw [if_neg (by omega), if_pos h]
    have h2 : ¬ x < y := by omega
    go_enter Tryd.func54, Tryd.ntmps54
    go_wp2_with (go_at_call 56; refine (isNaN_ok _ _).mono ?_; rintro e w' ⟨rfl, rfl⟩)
    go_ret
    exact ⟨by rw [HC.out]; rfl, rfl⟩
  · subst h
    have HC : Hid (cmpI x x = 0) := by show cmpI x x = 0; unfold cmpI; simp
    go_enter Tryd.func54, Tryd.ntmps54
    go_wp2_with (go_at_call 56; refine (isNaN_ok _ _).mono ?_; rintro e w' ⟨rfl, rfl⟩)
    go_ret
    exact ⟨by rw [HC.out]; rfl, rfl⟩
set_option maxHeartbeats 1000000 in
/-- equal, or less at the first place where they differ -/
theorem compare_ok (xs ys : List Nat) (p q : Option Addr) (n c d b b' : Nat) (w : World) (hP : Reads w b 1 p n (ints xs)) (hQ : Reads w b' 1 q n (ints ys)) (hn : n ≤ 1099511627776)
    (hle : xs = ys ∨ ∃ k, k < n ∧ xs.take k = ys.take k ∧ xs.getD k 0 < ys.getD k 0) :
    Calls Tryd.prog 40 #[.slice p n c, .slice q n d] w fun e w' => ∃ z : Int, e = .returned (.int .i64 z) ∧ z ≤ 0 ∧ w = w' := by
  have hD : ∀ k, k < n → xs.take k = ys.take k → xs.getD k 0 ≤ ys.getD k 0 := by
    intro k hk he
    rcases hle with rfl | ⟨j, hj, h1, h2⟩
    · omega
    · rcases Nat.lt_or_ge j k with h3 | h3
      · have e1 : (xs.take k).getD j 0 = xs.getD j 0 := by simp [List.getD_eq_getElem?_getD, h3]
        have e2 : (ys.take k).getD j 0 = ys.getD j 0 := by simp [List.getD_eq_getElem?_getD, h3]
        rw [he] at e1
        omega
      · rcases Nat.lt_or_ge k j with h4 | h4
        · have e1 : (xs.take j).getD k 0 = xs.getD k 0 := by simp [List.getD_eq_getElem?_getD, h4]
          have e2 : (ys.take j).getD k 0 = ys.getD k 0 := by simp [List.getD_eq_getElem?_getD, h4]
          rw [h1] at e1
          omega
        · have : k = j := by omega
          subst this; omega
  have HD := Lib.hid hD
  have hxl : xs.length = n := by have := hP.1; simpa [ints] using this
  have hyl : ys.length = n := by have := hQ.1; simpa [ints] using this
  have HXL := Lib.hid hxl
  have HYL := Lib.hid hyl
  clear hD hle hxl hyl
  go_enter Tryd.func40, Tryd.ntmps40
  go_wp2
  go_loop [11] (fun i => ∃ k : Nat, k ≤ n ∧ i = .int .i64 k ∧ Hid (xs.take k = ys.take k)) (fun i => n - (intOf i).toNat)
  case atStart => exact ⟨0, Nat.zero_le _, rfl, show xs.take 0 = ys.take 0 by simp⟩
  case round =>
    obtain ⟨k, hk, rfl, HK⟩ := hrel
    by_cases hlt : k < n
    · obtain ⟨ad, rfl, _, hc⟩ := hP.int_at hlt
      obtain ⟨ae, rfl, _, hd⟩ := hQ.int_at hlt
      have hle := HD.out k hlt HK.out
      rcases Nat.lt_or_ge (xs.getD k 0) (ys.getD k 0) with h1 | h1
      · have HC : Hid (cmpI (xs.getD k 0) (ys.getD k 0) = -1) := by show cmpI _ _ = -1; unfold cmpI; rw [if_pos (by omega)]
        clear hP hQ HK HD hle h1 HXL HYL
        generalize xs.getD k 0 = x at *
        generalize ys.getD k 0 = y at *
        go_wp2_with (go_at_call 54; refine (cmp_ok _ _ _).mono ?_; rw [HC.out]; rintro e w' ⟨rfl, rfl⟩)
        go_ret
        exact ⟨-1, rfl, by omega, rfl⟩
      · have he : xs.getD k 0 = ys.getD k 0 := by omega
        have HC : Hid (cmpI (xs.getD k 0) (ys.getD k 0) = 0) := by show cmpI _ _ = 0; unfold cmpI; rw [he]; simp
        have HN : Hid (xs.take (k + 1) = ys.take (k + 1)) := by
          show _ = _
          have hx : k < xs.length := by have := HXL.out; omega
          have hy : k < ys.length := by have := HYL.out; omega
          rw [List.take_succ_eq_append_getElem hx, List.take_succ_eq_append_getElem hy, HK.out]
          simp [hx, hy] at he
          rw [he]
        clear hP hQ HK HD hle h1 HXL HYL he
        generalize xs.getD k 0 = x at *
        generalize ys.getD k 0 = y at *
        go_wp2_with (go_at_call 54; refine (cmp_ok _ _ _).mono ?_; rw [HC.out]; rintro e w' ⟨rfl, rfl⟩)
        go_round
        case rel => exact ⟨k + 1, by omega, by go_num, HN.out⟩
        case measure => simp [intOf]; omega
    · obtain rfl : k = n := by omega
      clear hP hQ
      go_wp2
      go_ret
      exact ⟨0, rfl, by omega, rfl⟩
/-- a right walk from a into b -/
def WalkOk (r : List B) (a b : B) (zs : List Int) : Prop :=
  (∀ j, j < zs.length → 0 ≤ zs.getD j 0 ∧ zs.getD j 0 < r.length ∧ (0 < j → has (row r (zs.getD (j - 1) 0).toNat) (zs.getD j 0).toNat = true)) ∧
  0 < zs.length ∧ has a (zs.getD 0 0).toNat = true ∧ has b (zs.getD (zs.length - 1) 0).toNat = true
open Classical in
noncomputable def walkB (r : List B) (a b : B) (zs : List Int) : Bool := decide (WalkOk r a b zs)
/-- the three boxed variables of WayShort -/
structure Boxes (w : World) (s : Nat) (u v x : Value) : Prop where
  r : w.cell? ⟨s, 0, none⟩ = some u
  a : w.cell? ⟨s + 1, 0, none⟩ = some v
  b : w.cell? ⟨s + 2, 0, none⟩ = some x
  lt : s + 2 < w.heap.size
theorem Boxes.below {w w' : World} {s : Nat} {u v x : Value} (h : Boxes w s u v x) (hb : Below w.heap.size w w') : Boxes w' s u v x := by
  have h0 := h.lt
  have hs := hb.size
  exact ⟨by rw [hb.cell (show s < _ by omega)]; exact h.r, by rw [hb.cell (show s + 1 < _ by omega)]; exact h.a, by rw [hb.cell (show s + 2 < _ by omega)]; exact h.b, by omega⟩
theorem boxes_new (w : World) (u v x : Value) (t1 t2 t3 : TypeId) : Boxes (((w.alloc (.cells #[u] t1)).alloc (.cells #[v] t2)).alloc (.cells #[x] t3)) w.heap.size u v x := by
  refine ⟨?_, ?_, ?_, ?_⟩
  · rw [World.cell?_alloc_past _ _ _ (by simp; omega), World.cell?_alloc_past _ _ _ (by simp), World.cell?_alloc_at _ _ _ _ rfl]; rfl
  · rw [World.cell?_alloc_past _ _ _ (by simp), World.cell?_alloc_at _ _ _ _ (by simp)]; rfl
  · rw [World.cell?_alloc_at _ _ _ _ (by simp)]; rfl
  · simp
/-- the first numbers of a walk are right -/
def StepOk (r : List B) (zs : List Int) (j : Nat) : Prop := 0 ≤ zs.getD j 0 ∧ zs.getD j 0 < r.length ∧ (0 < j → has (row r (zs.getD (j - 1) 0).toNat) (zs.getD j 0).toNat = true)
set_option maxHeartbeats 4000000 in
theorem walk_ok (p p2 : Option Addr) (c n2 c2 s : Nat) (r : List B) (a b : B) (zs : List Int) (w : World) (hR : RowsAt w p r.length r) (hZ : IntsAt w p2 n2 zs)
    (hB : Boxes w s (.slice p r.length c) (.int .u64 (un a : Int)) (.int .u64 (un b : Int))) :
    Calls Tryd.prog 39 #[.slice p2 n2 c2, .pointer (some ⟨s, 0, none⟩), .pointer (some ⟨s + 1, 0, none⟩), .pointer (some ⟨s + 1 + 1, 0, none⟩)] w fun e w' => e = .returned (.bool (walkB r a b zs)) ∧ ∃ m, w' = w.drewN m := by
  have hl := hZ.len
  subst hl
  have hbig := hZ.big
  unfold maxLen at hbig
  have hq1 := hB.r
  have hq2 := hB.a
  have hq3 : w.cell? ⟨s + 1 + 1, 0, none⟩ = some (.int .u64 (un b : Int)) := hB.b
  clear hB
  go_enter Tryd.func39, Tryd.ntmps39
  go_wp2
  go_loopw [10] (fun i wr => ∃ k : Nat, k ≤ zs.length ∧ i = .int .i64 k ∧ Hid (∀ j, j < k → StepOk r zs j) ∧ Hid (∃ m, wr = w.drewN m)) (fun i _ => zs.length - (intOf i).toNat)
  case atStart => exact ⟨0, Nat.zero_le _, rfl, show ∀ j, _ from fun j hj => absurd hj (by omega), show ∃ m, w = w.drewN m from ⟨0, rfl⟩⟩
  case round =>
    obtain ⟨k, hk, rfl, HK, HW⟩ := hrel
    obtain ⟨wo, rfl⟩ : ∃ wo : World, wo = wr := ⟨_, rfl⟩
    have hp1 : wo.cell? ⟨s, 0, none⟩ = some (.slice p r.length c) := by obtain ⟨m, hm⟩ := HW.out; rw [hm]; exact hq1
    have hp2 : wo.cell? ⟨s + 1, 0, none⟩ = some (.int .u64 (un a : Int)) := by obtain ⟨m, hm⟩ := HW.out; rw [hm]; exact hq2
    have hp3 : wo.cell? ⟨s + 1 + 1, 0, none⟩ = some (.int .u64 (un b : Int)) := by obtain ⟨m, hm⟩ := HW.out; rw [hm]; exact hq3
    by_cases hlt : k < zs.length
    · have HNF : Hid (¬ StepOk r zs k → walkB r a b zs = false) := by
        show _ → _
        intro hn
        unfold walkB
        rw [decide_eq_false_iff_not]
        exact fun h => hn (h.1 k hlt)
      have HNX : Hid (StepOk r zs k → ∀ j, j < k + 1 → StepOk r zs j) := by
        show _ → _
        intro hn j hj
        rcases Nat.lt_or_ge j k with h1 | h1
        · exact HK.out j h1
        · have : j = k := by omega
          subst this; exact hn
      obtain ⟨ad, rfl, _, hc0⟩ := hZ.cell hlt
      have hc : wo.cell? (ad.add k) = some (.int .i64 (zs.getD k 0)) := by obtain ⟨m, hm⟩ := HW.out; rw [hm]; exact hc0
      by_cases hz0 : zs.getD k 0 < 0
      · have HF := Lib.hid (HNF.out (fun h => by have := h.1; omega))
        clear HNF HNX hc0 HK hZ hR hq1 hq2 hq3
        generalize zs.getD k 0 = z at *
        go_wp2
        go_quiet (fail)
        go_wp2
        go_ret
        exact ⟨by rw [HF.out]; rfl, by obtain ⟨m, hm⟩ := HW.out; exact ⟨_, by rw [hm, World.drewN_drewN]⟩⟩
      · obtain ⟨z, hz⟩ := Int.eq_ofNat_of_zero_le (show 0 ≤ zs.getD k 0 by omega)
        by_cases hzr : r.length ≤ z
        · have HF := Lib.hid (HNF.out (fun h => by have := h.2.1; omega))
          rw [hz] at hc
          clear HNF HNX hc0 HK hZ hR hq1 hq2 hq3 hz0 hz
          have hd1 : decide ((z : Int) < 0) = false := by simp
          have hd2 : decide ((r.length : Int) ≤ (z : Int)) = true := by simp; omega
          have hd3 : decide (r.length ≤ z) = true := by simp; omega
          go_wp2
          go_quiet (fail)
          go_wp2
          go_ret
          exact ⟨by rw [HF.out]; rfl, by obtain ⟨m, hm⟩ := HW.out; exact ⟨_, by rw [hm, World.drewN_drewN]⟩⟩
        · have hzl : z < r.length := by omega
          by_cases hk0 : k = 0
          · subst hk0
            have HN := Lib.hid (HNX.out ⟨by omega, by omega, fun h => absurd h (by omega)⟩)
            rw [hz] at hc
            have hcz : wo.cell? ad = some (.int .i64 (z : Int)) := by simpa [Addr.add] using hc
            clear HNF HNX hc0 HK hZ hR hq1 hq2 hq3 hz0 hz hzr
            have hd1 : decide ((z : Int) < 0) = false := by simp
            have hd2 : decide ((r.length : Int) ≤ (z : Int)) = false := decide_eq_false (by omega)
            have hd3 : decide (r.length ≤ z) = false := decide_eq_false (by omega)
            go_wp2
            go_quiet (fail)
            go_wp2
            go_roundw
            case rel => exact ⟨1, by omega, by go_num, HN.out, by
              obtain ⟨m, hm⟩ := HW.out
              exact ⟨_, by rw [hm, World.drewN_drewN]⟩⟩
            case measure => simp [intOf]; omega
          · obtain ⟨hy0, hyl, _⟩ := HK.out (k - 1) (by omega)
            obtain ⟨y, hy⟩ := Int.eq_ofNat_of_zero_le hy0
            have hyr : y < r.length := by omega
            have hc1 : wo.cell? (ad.add (k - 1)) = some (.int .i64 (y : Int)) := by
              obtain ⟨ad', had, _, hd0⟩ := hZ.cell (k := k - 1) (by omega)
              injection had with had
              subst had
              obtain ⟨m, hm⟩ := HW.out
              rw [hm, ← hy]; exact hd0
            obtain ⟨adr, rfl, _, hcr0⟩ := hR.cell hyr
            have hcr : wo.cell? (adr.add y) = some (.int .u64 (un (row r y) : Int)) := by obtain ⟨m, hm⟩ := HW.out; rw [hm]; exact hcr0
            have hE : (zs.getD (k - 1) 0).toNat = y := by rw [hy, Int.toNat_natCast]
            have hG : (zs.getD k 0).toNat = z := by rw [hz, Int.toNat_natCast]
            have hI : hasI (row r y) (z : Int) = has (row r y) z := by unfold hasI; simp
            cases hx : has (row r y) z
            · rw [hx] at hI
              have HI := Lib.hid hI
              have HF := Lib.hid (HNF.out (fun h => by have := h.2.2 (by omega); rw [hE, hG, hx] at this; cases this))
              rw [hz] at hc
              clear HNF HNX hc0 HK hZ hR hq1 hq2 hq3 hz0 hz hzr hI hx hE hG hy hy0 hyl hcr0
              generalize row r y = x at *
              have hd1 : decide ((z : Int) < 0) = false := by simp
              have hd2 : decide ((r.length : Int) ≤ (z : Int)) = false := decide_eq_false (by omega)
              have hd3 : decide (r.length ≤ z) = false := decide_eq_false (by omega)
              have hd4 : decide (0 < (k : Int)) = true := decide_eq_true (by omega)
              have hd5 : decide (0 < k) = true := decide_eq_true (by omega)
              have s1 : IntKind.i64.wrap ((k : Int) - 1) = (k : Int) - 1 := IntWalk.i64_in _ (by omega)
              have s2 : ((k : Int) - 1).toNat = k - 1 := by omega
              have s3 : 0 ≤ (k : Int) - 1 := by omega
              go_wp2
              go_quiet ((go_at_call 25; exact Calls.quiet_of_same ((has_ok x (z : Int) _).mono (by rintro e w' ⟨rfl, rfl⟩; exact ⟨by rw [HI.out], rfl⟩))))
              go_wp2
              go_ret
              exact ⟨by rw [HF.out]; rfl, by obtain ⟨m, hm⟩ := HW.out; exact ⟨_, by rw [hm, World.drewN_drewN]⟩⟩
            · rw [hx] at hI
              have HI := Lib.hid hI
              have HN := Lib.hid (HNX.out ⟨by omega, by omega, fun _ => by rw [hE, hG]; exact hx⟩)
              rw [hz] at hc
              clear HNF HNX hc0 HK hZ hR hq1 hq2 hq3 hz0 hz hzr hI hx hE hG hy hy0 hyl hcr0
              generalize row r y = x at *
              have hd1 : decide ((z : Int) < 0) = false := by simp
              have hd2 : decide ((r.length : Int) ≤ (z : Int)) = false := decide_eq_false (by omega)
              have hd3 : decide (r.length ≤ z) = false := decide_eq_false (by omega)
              have hd4 : decide (0 < (k : Int)) = true := decide_eq_true (by omega)
              have hd5 : decide (0 < k) = true := decide_eq_true (by omega)
              have s1 : IntKind.i64.wrap ((k : Int) - 1) = (k : Int) - 1 := IntWalk.i64_in _ (by omega)
              have s2 : ((k : Int) - 1).toNat = k - 1 := by omega
              have s3 : 0 ≤ (k : Int) - 1 := by omega
              go_wp2
              go_quiet ((go_at_call 25; exact Calls.quiet_of_same ((has_ok x (z : Int) _).mono (by rintro e w' ⟨rfl, rfl⟩; exact ⟨by rw [HI.out], rfl⟩))))
              go_wp2
              go_roundw
              case rel => exact ⟨k + 1, by omega, by go_num, HN.out, by
                obtain ⟨m, hm⟩ := HW.out
                exact ⟨_, by rw [hm, World.drewN_drewN]⟩⟩
              case measure => simp [intOf]; omega
    · obtain rfl : k = zs.length := by omega
      have hHL : Hid (∀ j, j < zs.length → StepOk r zs j) := HK
      by_cases h0 : zs.length = 0
      · have HF : Hid (walkB r a b zs = false) := by
          show _ = _
          unfold walkB
          rw [decide_eq_false_iff_not]
          intro h
          have := h.2.1
          omega
        have hg0 : decide (0 < (zs.length : Int)) = false := decide_eq_false (by omega)
        have hg1 : decide (0 < zs.length) = false := decide_eq_false (by omega)
        clear HK hHL hR hZ hq1 hq2 hq3
        go_wp2
        go_quiet (fail)
        go_wp2
        go_ret
        exact ⟨by rw [HF.out]; rfl, by obtain ⟨m, hm⟩ := HW.out; exact ⟨_, by rw [hm, World.drewN_drewN]⟩⟩
      · obtain ⟨m, hm⟩ : ∃ m, zs.length = m + 1 := ⟨zs.length - 1, by omega⟩
        obtain ⟨x, hx⟩ := Int.eq_ofNat_of_zero_le (HK.out 0 (by omega)).1
        obtain ⟨y, hy⟩ := Int.eq_ofNat_of_zero_le (HK.out m (by omega)).1
        have HBV : Hid (walkB r a b zs = (has a x && has b y)) := by
          show _ = _
          have hxx : (zs.getD 0 0).toNat = x := by rw [hx, Int.toNat_natCast]
          have hyy : (zs.getD (zs.length - 1) 0).toNat = y := by rw [hm, Nat.add_sub_cancel, hy, Int.toNat_natCast]
          have : WalkOk r a b zs ↔ (has a x && has b y) = true := by
            unfold WalkOk
            rw [hxx, hyy, Bool.and_eq_true]
            exact ⟨fun h => h.2.2, fun h => ⟨HK.out, by omega, h⟩⟩
          cases hq : (has a x && has b y)
          · unfold walkB; rw [decide_eq_false_iff_not, this, hq]; simp
          · unfold walkB; exact @decide_eq_true _ (Classical.propDecidable _) (this.2 hq)
        obtain ⟨ad, rfl, _, hc0⟩ := hZ.cell (k := 0) (by omega)
        have hc1 : wo.cell? ad = some (.int .i64 (x : Int)) := by
          obtain ⟨q, hq⟩ := HW.out
          rw [hq, ← hx]
          simpa [Addr.add] using hc0
        obtain ⟨ad', had, _, hd0⟩ := hZ.cell (k := m) (by omega)
        injection had with had
        subst had
        have hc2 : wo.cell? (ad.add m) = some (.int .i64 (y : Int)) := by
          obtain ⟨q, hq⟩ := HW.out
          rw [hq, ← hy]; exact hd0
        have HIa : Hid (hasI a (x : Int) = has a x) := by show hasI a _ = _; unfold hasI; simp
        have HIb : Hid (hasI b (y : Int) = has b y) := by show hasI b _ = _; unfold hasI; simp
        have hg0 : decide (0 < (m : Int) + 1) = true := decide_eq_true (by omega)
        have HWW : Hid (∃ q, wo = w.drewN q) := HW
        clear HK hHL hR hZ hq1 hq2 hq3 hx hy hc0 hd0 hlt h0 HW
        rw [hm] at hbig ⊢
        clear hm
        cases hxa : has a x
        · rw [hxa] at HIa HBV
          go_wp2
          go_quiet ((go_at_call 25; exact Calls.quiet_of_same ((has_ok a (x : Int) _).mono (by rintro e w' ⟨rfl, rfl⟩; exact ⟨by rw [HIa.out], rfl⟩))))
          go_wp2
          go_ret
          exact ⟨by rw [HBV.out]; rfl, by obtain ⟨q, hq⟩ := HWW.out; exact ⟨_, by rw [hq, World.drewN_drewN]⟩⟩
        · rw [hxa] at HIa HBV
          go_wp2
          go_quiet ((go_at_call 25; exact Calls.quiet_of_same ((has_ok _ _ _).mono (by rintro e w' ⟨rfl, rfl⟩; first | exact ⟨by rw [HIa.out], rfl⟩ | exact ⟨by rw [HIb.out], rfl⟩))))
          go_wp2
          go_ret
          exact ⟨by rw [HBV.out]; simp, by obtain ⟨q, hq⟩ := HWW.out; exact ⟨_, by rw [hq, World.drewN_drewN]⟩⟩
end Go.Proofs.YtofffdjpnfhakaaDoor
