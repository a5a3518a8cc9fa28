/- The walk through knot.Ring. Conditions: the table reads as listed. -/
import Derived.Test.YtofffdjpnfhakaaDoorKnotW
import Derived.Test.YtofffdjpnfhakaaDoorRing
import Derived.Deep.LoopGhost
namespace Go.Proofs.YtofffdjpnfhakaaDoor
open Go.RowKit
def lenOf (v : Value) : Nat := match v with | .slice _ n _ => n | _ => 0
theorem own_full {w : World} {base e n c : Nat} {g : Option Addr} {xs : List Value} (h : w.ownsRow base e 1 (.slice g n c) n xs) (hn : 0 < n) : ∃ b : Nat, g = some ⟨b, 0, none⟩ ∧ n ≤ c ∧ c ≤ 9223372036854775807 := by
  rcases h.2 with ⟨_, rfl⟩ | ⟨b, cap, cur, he, _, _, h1, h2, _⟩
  · cases hn
  · injection he with e1 e2 e3
    subst e3
    unfold maxLen at h2
    exact ⟨b, e1, h1, by omega⟩
theorem Reads.drop {w : World} {b n k : Nat} {ad : Addr} {xs : List Value} (h : Reads w b 1 (some ad) n xs) (hk : k ≤ n) : Reads w b 1 (some (ad.add k)) (n - k) (xs.drop k) := by
  refine ⟨by rw [List.length_drop, h.1]; omega, fun hn => ?_⟩
  obtain ⟨a, e, hb, hc⟩ := h.2 (by omega)
  injection e with e
  subst e
  refine ⟨_, rfl, by rw [block_of_add]; exact hb, fun j u hu => ?_⟩
  rw [add_of_add]
  exact hc _ u (by rw [List.getElem?_drop] at hu; exact hu)
/-- what Ring answers of right rows -/
def RingPost (r : List B) (w : World) (e : Ending) (w' : World) : Prop :=
  (∃ (o : List Nat), e = .returned (.tuple #[.slice none 0 0, .int .i64 5]) ∧ KOrd r o 0#64 ∧ Stuck r 0#64 ∧ Below w.heap.size w w') ∨
  (∃ (o l : List Nat) (left : B) (p : Option Addr) (c : Nat), e = .returned (.tuple #[.slice p l.length c, .int .i64 0]) ∧ left ≠ 0#64 ∧ KOrd r o left ∧ Stuck r left ∧ RingIs r l ∧ l.length ≤ 64 ∧ l.length ≤ c ∧ c ≤ 9223372036854775807 ∧ Reads w' w'.heap.size 1 p l.length (ints l) ∧ Below w.heap.size w w')
theorem Ring_yes (p : Option Addr) (n c : Nat) (r : List B) (h : chkR r = 0) (w : World) (hR : RowsAt w p n r) (hT : Tab w) :
    Calls Tryd.prog 30 #[.slice p n c] w (RingPost r w) := by
  have hl := hR.len
  subst hl
  have H := Lib.hid h
  have HV := Lib.hid (chkR_zero.1 h)
  clear h
  go_enter Tryd.func30, Tryd.ntmps30
  go_wp2_with (go_at_call 49; refine (Check_ok _ _ _ r _ hR).mono ?_; rw [H.out]; rintro e w' ⟨rfl, rfl⟩)
  refine (order_ok p _ c r HV.out w hR hT).mono ?_
  rintro e w1 ⟨o, left, g, cg, rfl, hO, hS, _, hb1⟩
  have hR1 := hR.below hb1
  have hT1 := hT.below hb1
  have HO := Lib.hid hO
  have HS := Lib.hid hS
  clear hO hS hR hT
  cases hnb : nextB left 0
  · have h0 : left = 0#64 := by
      rw [eq_zero_iff]
      intro a
      exact next_false hnb a (Nat.zero_le _)
    have H0 := Lib.hid h0
    clear h0 hR1
    go_wp2_with (go_at_call 19; refine (Next_ok _ _ _ hT1).mono ?_; rw [show (0 : Int).toNat = 0 from rfl, nextV_parts, hnb]; rintro e w' ⟨rfl, rfl⟩)
    go_ret2
    have h0 := H0.out
    subst h0
    exact .inl ⟨o, rfl, HO.out, HS.out, hb1⟩
  · obtain ⟨j0, hj0, _, hj64, hs0, _⟩ := next_true hnb
    go_wp2_with (go_at_call 19; refine (Next_ok _ _ _ hT1).mono ?_; rw [show (0 : Int).toNat = 0 from rfl, nextV_parts, hnb, hj0]; rintro e w' ⟨rfl, rfl⟩)
    go_loopw [7, 9] (fun l v wr => ∃ (i : Nat) (t : List Nat), i < 64 ∧ l = .int .i64 (i : Int) ∧ Hid (Trail r left t i) ∧ Hid (v = .slice none 0 0 → t = []) ∧ wr.ownsRow w1.heap.size 3 1 v t.length (ints t) ∧ Below w1.heap.size w1 wr) (fun _ v _ => 65 - lenOf v)
    case atStart => exact ⟨j0, [], hj64, rfl, trail_nil hs0, fun _ => rfl, World.ownsRow_nil _ _ _ _, Below.refl _ _⟩
    case round =>
      obtain ⟨i, t, hi64, rfl, HTR, _, hown, hbr⟩ := hrel
      obtain ⟨wo, rfl⟩ : ∃ wo : World, wo = wr := ⟨_, rfl⟩
      have hRr := hR1.below hbr
      have hTr := hT1.below hbr
      have hszr := hbr.size
      have ht64 := trail_len HTR.out
      obtain ⟨g, cg, rfl, hfb⟩ := own_form hown
      have hL := Reads.of_own hown
      by_cases hit : i ∈ t
      · have hin : isIn t i = true := by unfold isIn; simp [hit]
        have hka : t.idxOf i < t.length := List.idxOf_lt_length_of_mem hit
        have hkf : firstAt t i = (t.idxOf i : Int) := by unfold firstAt; rw [if_pos hit]
        have hkg : t.getD (t.idxOf i) 0 = i := by simp [hka]
        have HRG := Lib.hid (trail_ring HTR.out hka hkg)
        generalize t.idxOf i = k at *
        obtain ⟨g1, rfl, hcg1, hcg2⟩ := own_full hown (by omega)
        go_wp2_with (first | (go_at_call 31; refine (contains_ok t i _ _ _ _ _ hL (by unfold maxLen; omega)).mono ?_; rw [hin]; rintro e w' ⟨rfl, rfl⟩) | (go_at_call 51; refine (index_ok t i _ _ _ _ _ hL (by unfold maxLen; omega)).mono ?_; rw [hkf]; rintro e w' ⟨rfl, rfl⟩))
        have HOW := Lib.hid hown
        clear hown hRr hin hkf hkg hfb
        go_ret2
        have hne : left ≠ 0#64 := fun e => by rw [e, has_zero] at hs0; cases hs0
        have hD := hL.drop (k := k) (by omega)
        have hA : (⟨g1, 0, none⟩ : Addr).add k = ⟨g1, k, none⟩ := by unfold Addr.add; split <;> simp_all
        rw [hA] at hD
        have hdl : (t.drop k).length = t.length - k := List.length_drop
        refine .inr ⟨o, t.drop k, left, some ⟨g1, k, none⟩, cg - k, ?_, hne, HO.out, HS.out, HRG.out, by omega, by omega, by omega, ?_, below_next hb1 hbr⟩
        · rw [hdl]; rfl
        · rw [hdl]; unfold ints at hD ⊢; rw [List.map_drop]; exact hD
      · have hin : isIn t i = false := by unfold isIn; simp [hit]
        obtain ⟨q, hq, hql⟩ := HS.out i HTR.out.cur
        have hir : i < r.length := row_lt hq
        have hxq : has (row r i &&& left) q = true := by rw [has_and, hq, hql]; rfl
        obtain ⟨ad, rfl, hadb, hc⟩ := hR1.cell hir
        have hnx : nextB (row r i &&& left) 0 = true := by
          cases hz : nextB (row r i &&& left) 0
          · have := next_false hz q (Nat.zero_le _)
            rw [this] at hxq; cases hxq
          · rfl
        obtain ⟨k, hk, _, hk64, hsk, _⟩ := next_true hnx
        have HN := Lib.hid (trail_next HTR.out hit hsk)
        have HIS : Hid (ints (t ++ [i]) = ints t ++ [.int .i64 (i : Int)]) := ints_snoc t i
        have HBR := Lib.hid hbr
        have HOW := Lib.hid hown
        have HFB := Lib.hid hfb
        have HPT : Hid (nextV (row r i &&& left) 0 = .tuple #[.int .i64 (k : Int), .bool true]) := by
          show nextV _ _ = _
          rw [nextV_parts, hk, hnx]
        clear hsk hxq hq hql hnx hk hit hnb hs0 hRr hown hbr hfb
        generalize row r i = x at *
        go_wp2_with (first | (go_at_call 31; refine (contains_ok t i _ _ _ _ _ hL (by unfold maxLen; omega)).mono ?_; rw [hin]; rintro e w' ⟨rfl, rfl⟩) | (at_builtin; refine app_int _ rfl _ _ rfl w1.heap.size _ t.length _ rfl (HOW.out.alloc _) wo.heap.size (.int .i64 (i : Int)) rfl rfl ?c1 (by omega) ?c2 ?_; rotate_right; intro v' w2 hown2 hgrow2; rw [← HIS.out] at hown2; have hb2 : Below w1.heap.size w1 w2 := (HBR.out.alloc hszr _).grown hgrow2 (by simp; omega) (fun k hk => (HFB.out k hk).1); have hc2 : w2.cell? (ad.add i) = some (.int .u64 (un x : Int)) := by { rw [hb2.cell (by rw [block_of_add]; exact hadb)]; exact hc }; have hT2 := hT1.below hb2; clear hgrow2) | (go_at_call 19; refine (Next_ok _ _ _ (by assumption)).mono ?_; rw [show (0 : Int).toNat = 0 from rfl, HPT.out]; rintro e w' ⟨rfl, rfl⟩))
        case c1 => simp
        case c2 => simp; omega
        obtain ⟨g2, cg2, rfl, _⟩ := own_form hown2
        go_roundw
        case rel => exact ⟨k, t ++ [i], hk64, rfl, HN.out, fun _ => by simp_all, by simpa using hown2, hb2⟩
        case measure => simp [lenOf]; omega
end Go.Proofs.YtofffdjpnfhakaaDoor
