/- The walks through way.Far, way.Some and the fact ways. Conditions: the table reads as listed. -/
import Derived.Test.YtofffdjpnfhakaaDoorWayRingsW
import Derived.Deep.Onto
namespace Go.Proofs.YtofffdjpnfhakaaDoor
open Go.RowKit
set_option maxHeartbeats 2000000 in
theorem rings_no (p : Option Addr) (n c : Nat) (r : List B) (a b : B) (h : chks r [a, b] ≠ 0) (w : World) (hR : RowsAt w p n r) (hT : Tab w) :
    Calls Tryd.prog 53 #[.slice p n c, .int .u64 (un a), .int .u64 (un b)] w fun e w' => e = .returned (.tuple #[.slice none 0 0, .int .i64 (chks r [a, b])]) ∧ Below w.heap.size w w' := by
  have hl := hR.len
  subst hl
  by_cases h1 : chkR r = 0
  · obtain ⟨h2, h3⟩ := (chk_or h1).2 h
    have H1 := Lib.hid h1
    have H3 := Lib.hid h3
    have e0 := un_ne0 h2
    have e1 := un_ne1 h2
    have h64 := (chkR_zero.1 h1).1
    clear h h1 h2 h3
    go_enter Tryd.func53, Tryd.ntmps53
    go_wp2_with fail
    refine (Back_yes p _ c r H1.out w hR hT).mono ?_
    rintro e w1 ⟨g, cg, rfl, _, hb1⟩
    clear hR
    go_wp2_with (go_at_call 60; refine (Below_ok _ h64 _).mono ?_; rintro e w' ⟨rfl, rfl⟩)
    go_ret2
    exact ⟨by rw [H3.out]; rfl, hb1⟩
  · have H1 := Lib.hid h1
    obtain ⟨h2, h3⟩ := int_ne h1
    have HC : Hid (chks r [a, b] = chkR r) := by show chks r _ = _; unfold chks; rw [if_pos h1]
    clear h h1
    go_enter Tryd.func53, Tryd.ntmps53
    go_wp2_with fail
    refine (Back_no p _ c r H1.out w hR).mono ?_
    rintro e w1 ⟨rfl, rfl⟩
    clear hR
    go_wp2
    go_ret2
    exact ⟨by rw [HC.out]; rfl, Below.refl _ _⟩
def FarPost (r : List B) (a b : B) (w : World) (e : Ending) (w' : World) : Prop :=
  (∃ d : Nat, e = .returned (.tuple #[.int .i64 (d : Int), .int .i64 0]) ∧ Dist r a b d ∧ d ≤ 64 ∧ Below w.heap.size w w') ∨
  (e = .returned (.tuple #[.int .i64 0, .int .i64 5]) ∧ (∀ j, a &&& DD r b j = 0#64) ∧ Below w.heap.size w w')
set_option maxHeartbeats 2000000 in
theorem Far_yes (p : Option Addr) (n c : Nat) (r : List B) (a b : B) (h : chks r [a, b] = 0) (w : World) (hR : RowsAt w p n r) (hT : Tab w) :
    Calls Tryd.prog 38 #[.slice p n c, .int .u64 (un a), .int .u64 (un b)] w (FarPost r a b w) := by
  go_enter Tryd.func38, Tryd.ntmps38
  go_wp2_with fail
  refine (rings_yes p n c r a b h w hR hT).mono ?_
  rintro e w1 (⟨d, g, cg, rfl, hd, hd64, _, hb⟩ | ⟨rfl, hf, hb⟩)
  · have HD := Lib.hid hd
    clear hd hR hT h
    go_wp2
    go_ret2
    exact .inl ⟨d, rfl, HD.out, hd64, hb⟩
  · have HF := Lib.hid hf
    clear hf hR hT h
    go_wp2
    go_ret2
    exact .inr ⟨rfl, HF.out, hb⟩
set_option maxHeartbeats 2000000 in
theorem Far_no (p : Option Addr) (n c : Nat) (r : List B) (a b : B) (h : chks r [a, b] ≠ 0) (w : World) (hR : RowsAt w p n r) (hT : Tab w) :
    Calls Tryd.prog 38 #[.slice p n c, .int .u64 (un a), .int .u64 (un b)] w fun e w' => e = .returned (.tuple #[.int .i64 0, .int .i64 (chks r [a, b])]) ∧ Below w.heap.size w w' := by
  go_enter Tryd.func38, Tryd.ntmps38
  go_wp2_with fail
  refine (rings_no p n c r a b h w hR hT).mono ?_
  rintro e w1 ⟨rfl, hb⟩
  clear hR hT h
  go_wp2
  go_ret2
  exact ⟨rfl, hb⟩
theorem next_low {x : B} (h : x ≠ 0#64) : nextV x 0 = .tuple #[.int .i64 (low x : Int), .bool true] := by
  have e : frm x 0 = x := eq_of_iff fun k => by rw [has_frm]; simp
  unfold nextV
  rw [e, if_neg h]
def SomePost (r : List B) (a b : B) (w : World) (e : Ending) (w' : World) : Prop :=
  (∃ (d : Nat) (g : Option Addr) (c : Nat), e = .returned (.tuple #[.slice g (d + 1) c, .int .i64 0]) ∧ Dist r a b d ∧ d ≤ 64 ∧ w'.ownsRow w.heap.size 3 1 (.slice g (d + 1) c) (d + 1) (ints (wayL r b (d + 1) a)) ∧ Below w.heap.size w w') ∨
  (e = .returned (.tuple #[.slice none 0 0, .int .i64 5]) ∧ (∀ j, a &&& DD r b j = 0#64) ∧ Below w.heap.size w w')
set_option maxRecDepth 100000 in
set_option maxHeartbeats 2000000 in
theorem Some_yes (p : Option Addr) (n c : Nat) (r : List B) (a b : B) (h : chks r [a, b] = 0) (w : World) (hR : RowsAt w p n r) (hT : Tab w) :
    Calls Tryd.prog 36 #[.slice p n c, .int .u64 (un a), .int .u64 (un b)] w (SomePost r a b w) := by
  have H := Lib.hid h
  have hl := hR.len
  subst hl
  go_enter Tryd.func36, Tryd.ntmps36
  go_wp2_with fail
  refine (rings_yes p _ c r a b h w hR hT).mono ?_
  rintro e w1 (⟨d, g, cg, rfl, hd, hd64, hG, hb⟩ | ⟨rfl, hf, hb⟩)
  · have HD := Lib.hid hd
    have hR1 := hR.below hb
    have hT1 := hT.below hb
    clear hd h hR hT
    go_wp2_with fail
    have HCK := Lib.hid H.out
    go_loopw [1, 10, 11] (fun av v iv wr => ∃ (m : Nat) (a' : B) (o : List Nat), m ≤ d + 1 ∧ iv = .int .i64 ((m : Int) - 1) ∧ av = .int .u64 (un a') ∧ o.length + m = d + 1 ∧ Hid (o ++ wayL r b m a' = wayL r b (d + 1) a) ∧ Hid (0 < m → Dist r a' b (m - 1)) ∧ wr.ownsRow w1.heap.size 3 1 v o.length (ints o) ∧ Below w1.heap.size w1 wr) (fun _ _ iv _ => (intOf iv + 1).toNat)
    case atStart => exact ⟨d + 1, a, [], Nat.le_refl _, by go_num, rfl, by simp, show _ = _ from rfl, fun _ => HD.out, World.ownsRow_nil _ _ _ _, Below.refl _ _⟩
    case round =>
      obtain ⟨m, a', o, hm, rfl, rfl, hol, HW, HDM, hown, hbr⟩ := hrel
      obtain ⟨wo, rfl⟩ : ∃ wo : World, wo = wr := ⟨_, rfl⟩
      obtain ⟨go, co, rfl, hfb⟩ := own_form hown
      cases m with
      | zero =>
        have hoe : o = wayL r b (d + 1) a := by rw [← HW.out]; simp [wayL]
        have HO : Hid (ints o = ints (wayL r b (d + 1) a)) := by show ints o = _; rw [hoe]
        clear hoe hR1
        have HLE : Hid (o.length = d + 1) := by show o.length = d + 1; omega
        clear hol
        have HBB := Lib.hid (below_next hb hbr)
        have HOW := Lib.hid (World.ownsRow.mono hown hb.size)
        clear hown hbr hb hG hfb
        go_wp2
        go_ret2
        have hown := HOW.out
        rw [HO.out, HLE.out] at hown
        refine .inl ⟨d, go, co, ?_, HD.out, hd64, hown, HBB.out⟩
        rw [← HLE.out]; rfl
      | succ q =>
        rw [show (((q + 1 : Nat) : Int) - 1) = (q : Int) by omega]
        have hD := HDM.out (by omega)
        rw [show q + 1 - 1 = q by omega] at hD
        obtain ⟨h1, h2, h3, _⟩ := wayN_spec hD
        have hnr : wayN r b q a' < r.length := DD_in H.out h2
        have hnb : wayN r b q a' < 64 := has_lt h2
        obtain ⟨adr, rfl, hadb, hcr⟩ := hR1.cell hnr
        have hGr := hG.below hbr
        obtain ⟨ad, rfl, _, hc⟩ := hGr.cell (k := q) (by omega)
        rw [rngs_row (by omega)] at hc
        have HNV : Hid (nextV (a' &&& DD r b q) 0 = .tuple #[.int .i64 (wayN r b q a' : Int), .bool true]) := next_low hD.at_
        have HIS : Hid (ints (o ++ [wayN r b q a']) = ints o ++ [.int .i64 (wayN r b q a' : Int)]) := ints_snoc o _
        have HWN : Hid ((o ++ [wayN r b q a']) ++ wayL r b q (row r (wayN r b q a')) = wayL r b (d + 1) a) := by
          show _ = _
          rw [← HW.out, List.append_assoc]; rfl
        have HDN : Hid (0 < q → Dist r (row r (wayN r b q a')) b (q - 1)) := by
          show _ → _
          intro hq
          obtain ⟨q', rfl⟩ : ∃ q', q = q' + 1 := ⟨q - 1, by omega⟩
          rw [show q' + 1 - 1 = q' by omega]
          exact dist_row (chks_two H.out).1 h2 h3
        have hT1o := hT1.below hbr
        have hszr := hbr.size
        have HBR := Lib.hid hbr
        have HOW := Lib.hid hown
        have HFB := Lib.hid hfb
        clear hD h1 h2 h3 hGr hown hbr hfb HW HDM
        generalize row r (wayN r b q a') = y at *
        generalize wayN r b q a' = n at *
        generalize DD r b q = x at *
        go_wp2_with (first | (go_at_call 19; refine (Next_ok _ _ _ (by assumption)).mono ?_; rw [show (0 : Int).toNat = 0 from rfl, HNV.out]; rintro e w' ⟨rfl, rfl⟩) | (at_builtin; refine app_int _ rfl _ _ rfl w1.heap.size _ o.length _ rfl (HOW.out.alloc _) wo.heap.size (.int .i64 (n : Int)) rfl rfl ?c1 (by omega) ?c2 ?_; rotate_right; intro v' w2 hown2 hgrow2; rw [← HIS.out] at hown2; have hb2 : Below w1.heap.size w1 w2 := (HBR.out.alloc hszr _).grown hgrow2 (by simp; omega) (fun k hk => (HFB.out k hk).1); have hc2 : w2.cell? (adr.add n) = some (.int .u64 (un y : Int)) := by { rw [hb2.cell (by rw [block_of_add]; exact hadb)]; exact hcr }; clear hgrow2))
        case c1 => simp
        case c2 => simp; omega
        go_roundw
        case rel => exact ⟨q, y, o ++ [n], by omega, by go_num, rfl, by simp; omega, HWN.out, HDN.out, by simpa using hown2, hb2⟩
        case measure => first | (simp [intOf]; done) | (simp [intOf]; omega)
  · have HF := Lib.hid hf
    clear hf hR hT h
    go_wp2
    go_ret2
    exact .inr ⟨rfl, HF.out, hb⟩
set_option maxHeartbeats 2000000 in
theorem Some_no (p : Option Addr) (n c : Nat) (r : List B) (a b : B) (h : chks r [a, b] ≠ 0) (w : World) (hR : RowsAt w p n r) (hT : Tab w) :
    Calls Tryd.prog 36 #[.slice p n c, .int .u64 (un a), .int .u64 (un b)] w fun e w' => e = .returned (.tuple #[.slice none 0 0, .int .i64 (chks r [a, b])]) ∧ Below w.heap.size w w' := by
  obtain ⟨h1, h2⟩ := int_ne h
  have H := Lib.hid h
  clear h
  go_enter Tryd.func36, Tryd.ntmps36
  go_wp2_with fail
  refine (rings_no p n c r a b H.out w hR hT).mono ?_
  rintro e w1 ⟨rfl, hb⟩
  clear hR hT
  go_wp2
  go_ret2
  exact ⟨rfl, hb⟩
end Go.Proofs.YtofffdjpnfhakaaDoor
