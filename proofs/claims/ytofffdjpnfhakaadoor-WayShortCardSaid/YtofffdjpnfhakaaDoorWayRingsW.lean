/- The walk through way.rings. Conditions: the table reads as listed. -/
import Derived.Test.YtofffdjpnfhakaaDoorWay
import Derived.Test.YtofffdjpnfhakaaDoorReachDepthW
import Derived.Deep.LoopGhost
namespace Go.Proofs.YtofffdjpnfhakaaDoor
open Go.RowKit
theorem app_u64 (w : World) {ops : Array Oper} {rest : List Oper} {o : Oper} {a : Act} {Q : Exit → Act → World → Prop} (hgd : o.guard = none) (s x : Operand)
    (ho : o.op = .call { callee := .builtin .append, args := #[s, x], argTypes := #[36, 36] })
    (base : Nat) (v : Value) (n : Nat) (xs : List Value) (hs : a.eval s = v) (hown : w.ownsRow base 22 1 v n xs)
    (g : Nat) (u : Value) (hu : u.oneCell' = true) (hx : a.eval x = .slice (some ⟨g, 0, none⟩) 1 1) (hcell : w.cell? ⟨g, 0, none⟩ = some u)
    (hn : n ≤ 1099511627776) (hbase : base ≤ w.heap.size)
    (h : ∀ v' w', w'.ownsRow base 22 1 v' (n + 1) (xs ++ [u]) → w.grownBy w' v.ownBlock → wpList Tryd.prog ops Q rest (a.put o.dst v') w') : wpList Tryd.prog ops Q (o :: rest) a w := by
  obtain ⟨i0, hi, hz0, hz1, hz2⟩ := info_parts info_u64
  refine wpList_append_own w hgd s x 36 ho base 22 i0 (.int .u64 0) 1 8 Tryd.underlying36 hi hz0 hz1 hz2 rfl (by decide) v n xs hs hown ⟨g, 0, none⟩ 1 1 [u] hx rfl ?_ ?_ (by unfold maxLen; omega) (by omega) hbase (fun v' w' h1 h2 _ => h v' w' h1 h2)
  · intro j q hj
    match j, hj with
    | 0, hj => simp at hj; subst hj; simpa [Addr.add] using hcell
  · intro q hq; simp at hq; subst hq; exact hu
/-- the rings up to the one with this number -/
def rngs (r : List B) (b : B) (k : Nat) : List B := (List.range (k + 1)).map (DD r b)
theorem rngs_len (r : List B) (b : B) (k : Nat) : (rngs r b k).length = k + 1 := by simp [rngs]
theorem rngs_next (r : List B) (b : B) (k : Nat) : u64s (rngs r b (k + 1)) = u64s (rngs r b k) ++ [.int .u64 (un (DD r b (k + 1)) : Int)] := by
  unfold rngs
  rw [List.range_succ, List.map_append]
  simp [u64s]
theorem rngs_row {r : List B} {b : B} {k j : Nat} (h : j ≤ k) : row (rngs r b k) j = DD r b j := by
  unfold rngs row
  have : j < k + 1 := by omega
  simp [this]
theorem chk_or {r : List B} {a b : B} (h : chkR r = 0) : (chks r [a, b] = 0 → (a ||| b) &&& ~~~belowB r.length = 0#64) ∧ (chks r [a, b] ≠ 0 → (a ||| b) &&& ~~~belowB r.length ≠ 0#64 ∧ chks r [a, b] = 4) := by
  have hv := chkR_zero.1 h
  constructor
  · intro hc
    obtain ⟨_, hs⟩ := chks_zero.1 hc
    refine andNot_zero fun k hk => ?_
    rw [has_below _ _ (has_lt hk), decide_eq_true_eq]
    rw [has_or, Bool.or_eq_true] at hk
    rcases hk with hk | hk
    · exact hs a (by simp) k hk
    · exact hs b (by simp) k hk
  · intro hc
    refine ⟨fun h0 => hc (chks_zero.2 ⟨hv, fun s hs k hk => ?_⟩), ?_⟩
    · have h1 := andNot_zero_iff.1 h0 k (by
        rw [has_or, Bool.or_eq_true]
        rcases (show s = a ∨ s = b by simpa using hs) with rfl | rfl
        · exact .inl hk
        · exact .inr hk)
      rw [has_below _ _ (has_lt hk), decide_eq_true_eq] at h1
      exact h1
    · unfold chks chkN at hc ⊢
      rw [h] at hc ⊢
      by_cases h2 : okSets r.length [a, b] = true <;> simp [h2] at hc ⊢
def CntOk (r : List B) (b : B) (k : Nat) : Prop := k ≤ cnt (DD r b k)
/-- what rings answers of right rows and sets -/
def RingsPost (r : List B) (a b : B) (w : World) (e : Ending) (w' : World) : Prop :=
  (∃ (d : Nat) (g : Option Addr) (c : Nat), e = .returned (.tuple #[.slice g (d + 1) c, .int .i64 0]) ∧ Dist r a b d ∧ d ≤ 64 ∧ RowsAt w' g (d + 1) (rngs r b d) ∧ Below w.heap.size w w') ∨
  (e = .returned (.tuple #[.slice none 0 0, .int .i64 5]) ∧ (∀ j, a &&& DD r b j = 0#64) ∧ Below w.heap.size w w')
set_option maxRecDepth 100000 in
set_option maxHeartbeats 2000000 in
theorem rings_yes (p : Option Addr) (n c : Nat) (r : List B) (a b : B) (h : chks r [a, b] = 0) (w : World) (hR : RowsAt w p n r) (hT : Tab w) :
    Calls Tryd.prog 53 #[.slice p n c, .int .u64 (un a), .int .u64 (un b)] w (RingsPost r a b w) := by
  have hl := hR.len
  subst hl
  have H := Lib.hid h
  obtain ⟨hv, _, _, h3⟩ := chks_two h
  have HV := Lib.hid hv
  have H3 := Lib.hid h3
  have HB := Lib.hid hR.big
  have h64 := hv.1
  have h0 : (un ((a ||| b) &&& ~~~belowB r.length) : Int) = 0 := un_zero_int ((chk_or (chkR_zero.2 hv)).1 h)
  clear h hv h3
  go_enter Tryd.func53, Tryd.ntmps53
  go_wp2_with fail
  refine (Back_yes p _ c r (chkR_zero.2 HV.out) w hR hT).mono ?_
  rintro e w1 ⟨g, cg, rfl, hown, hb1⟩
  have hB1 := rows_own hown (bk_len r) HB.out
  have hR1 := hR.below hb1
  have hT1 := hT.below hb1
  clear hown hR hT
  go_wp2_with (go_at_call 60; refine (Below_ok _ h64 _).mono ?_; rintro e w' ⟨rfl, rfl⟩)
  have hbl : Below w1.heap.size w1 (w1.alloc (.cells #[.int .u64 (un b : Int)] 22)) := (Below.refl _ _).alloc (Nat.le_refl _) _
  have hol : (w1.alloc (.cells #[.int .u64 (un b : Int)] 22)).ownsRow w1.heap.size 22 1 (.slice (some ⟨w1.heap.size, 0, none⟩) 1 1) (0 + 1) (u64s (rngs r b 0)) := World.ownsRow_lit (size := 1) w1 #[.int .u64 (un b : Int)] 1 (Nat.le_refl _) (by decide) rfl
  go_loopw [12, 13] (fun v dp wr => ∃ k : Nat, dp = .int .i64 ((k : Int) + 1) ∧ Hid (∀ j, j < k → a &&& DD r b j = 0#64) ∧ CntOk r b k ∧ wr.ownsRow w1.heap.size 22 1 v (k + 1) (u64s (rngs r b k)) ∧ Below w1.heap.size w1 wr) (fun _ dp _ => 66 - (intOf dp).toNat)
  case atStart => exact ⟨0, rfl, show ∀ j, _ from fun j hj => absurd hj (by omega), Nat.zero_le _, hol, hbl⟩
  case round =>
    obtain ⟨k, rfl, HK, HC, hown, hbr⟩ := hrel
    obtain ⟨wo, rfl⟩ : ∃ wo : World, wo = wr := ⟨_, rfl⟩
    have hk64 : k ≤ 64 := Nat.le_trans HC (cnt_le _)
    have hBr := hB1.below hbr
    have hTr := hT1.below hbr
    have hszr := hbr.size
    obtain ⟨go, co, rfl, hfb⟩ := own_form hown
    have hO := rows_own hown (rngs_len r b k) (by unfold maxLen; omega)
    obtain ⟨ad, rfl, _, hc⟩ := hO.cell (k := k) (by omega)
    rw [rngs_row (Nat.le_refl k)] at hc
    by_cases hz : a &&& DD r b k = 0#64
    · have e0 : (un (DD r b k &&& a) : Int) = 0 := un_zero_int (by rw [BitVec.and_comm]; exact hz)
      go_wp2_with fail
      refine (Within_yes _ _ _ (bk r) b H3.out ((k : Int) + 1) (by omega) wo hBr hTr).mono ?_
      rintro e w2 ⟨rfl, hb2⟩
      rw [show ((k : Int) + 1).toNat = k + 1 by omega, show ball (bk r) (k + 1) b = DD r b (k + 1) from rfl]
      have hown2 := own_below hown hb2
      have hO2 := rows_own hown2 (rngs_len r b k) (by unfold maxLen; omega)
      have hbb := hbr.trans (hb2.mono hszr)
      have hsz2 := hbb.size
      obtain ⟨ad', had, _, hc2⟩ := hO2.cell (k := k) (by omega)
      injection had with had
      subst had
      rw [rngs_row (Nat.le_refl k)] at hc2
      by_cases heq : DD r b (k + 1) = DD r b k
      · have HF : Hid (∀ j, a &&& DD r b j = 0#64) := by
          show ∀ j, _
          intro j
          by_cases h0 : a &&& DD r b j = 0#64
          · exact h0
          · obtain ⟨q, hq1, hq2⟩ := and_ne.1 h0
            exact absurd hz (and_ne.2 ⟨q, hq1, DD_stop_all heq j q hq2⟩)
        rw [heq]
        have HBB := Lib.hid (below_next hb1 hbb)
        clear heq hz hc hown hown2 hO hO2 hBr hTr hbb hb2 hbr hB1 hb1 hR1
        generalize DD r b k = x at *
        go_wp2
        go_ret2
        exact .inr ⟨rfl, HF.out, HBB.out⟩
      · have hni : ((un (DD r b (k + 1)) : Int) == (un (DD r b k) : Int)) = false := by
          simp only [beq_eq_false_iff_ne, ne_eq]
          intro hh
          exact heq (un_inj (by omega))
        have HKN : Hid (∀ j, j < k + 1 → a &&& DD r b j = 0#64) := by
          show ∀ j, _
          intro j hj
          rcases Nat.lt_or_ge j k with h3 | h3
          · exact HK.out j h3
          · have : j = k := by omega
            subst this; exact hz
        have HCN : CntOk r b (k + 1) := by
          have h3 := DD_grow heq
          unfold CntOk at HC ⊢
          omega
        have HOW := Lib.hid hown2
        have HBB := Lib.hid hbb
        obtain ⟨go2, co2, hgo, hfb2⟩ := own_form hown2
        have HFB := Lib.hid hfb2
        have HRN := Lib.hid (rngs_next r b k)
        clear heq hz hc hown hown2 hO hO2 hBr hTr hb2 hbr hbb hB1 hb1 hR1 hfb hfb2 hgo HK HC
        generalize DD r b (k + 1) = y at *
        generalize DD r b k = x at *
        go_wp2_with (at_builtin; refine app_u64 _ rfl _ _ rfl w1.heap.size _ (k + 1) _ rfl (HOW.out.alloc _) w2.heap.size (.int .u64 (un y : Int)) rfl rfl ?c1 (by omega) ?c2 ?_; rotate_right; intro v' w3 hown3 hgrow3)
        case c1 => simp
        case c2 => simp; omega
        rw [← HRN.out] at hown3
        have hb3 : Below w1.heap.size w1 w3 := (HBB.out.alloc hsz2 _).grown hgrow3 (by simp; omega) (fun k hk => (HFB.out k hk).1)
        clear hgrow3
        go_roundw
        case rel => exact ⟨k + 1, rfl, HKN.out, HCN, hown3, hb3⟩
        case measure => simp [intOf]; omega
    · have e0 := un_ne0 (show DD r b k &&& a ≠ 0#64 by rw [BitVec.and_comm]; exact hz)
      have e1 := un_ne1 (show DD r b k &&& a ≠ 0#64 by rw [BitVec.and_comm]; exact hz)
      have HZ := Lib.hid hz
      have HOW := Lib.hid hO
      have HBB := Lib.hid (below_next hb1 hbr)
      clear hz hO hbr hb1 hR1 hB1 hBr hTr hown hfb
      go_wp2
      go_ret2
      exact .inl ⟨k, some ad, co, rfl, ⟨HZ.out, HK.out⟩, hk64, HOW.out, HBB.out⟩
end Go.Proofs.YtofffdjpnfhakaaDoor
