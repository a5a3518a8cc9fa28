/- Texts joined: GoodW, ReachDepthW, ListW, ReachClosedW, BackW. Conditions: theirs. -/
import Derived.Test.YteefncohknclcaaGreatDoorAskBoundLWM3
import Derived.Test.YteefncohknclcaaGreatDoorGoodP
import Derived.Test.YteefncohknclcaaGreatDoorAskBoundLWM2
import Derived.Test.YteefncohknclcaaGreatDoorAskBoundLWM1
import Derived.RegionTactic
import Derived.ChangeAlike
/- The walk through good, beside the rows of sets. Conditions: none. -/
namespace Go.Proofs.YteefncohknclcaaGreatDoor
open Go.RowKit
theorem chks_ball {r : List B} {s : B} (h : chks r [s] = 0) (i : Nat) : chks r [ball r i s] = 0 := by
  obtain ⟨hv, hs⟩ := chks_zero.1 h
  refine chks_zero.2 ⟨hv, fun t ht k hk => ?_⟩
  have : t = ball r i s := by simpa using ht
  subst this
  exact ball_in hv (hs s (by simp)) i k hk
end Go.Proofs.YteefncohknclcaaGreatDoor
namespace Go.Proofs.YteefncohknclcaaGreatDoor
open Go.RowKit
theorem info_int : (Tryz.prog.info? 3).map (fun i => (i.zero, i.size, i.bytes)) = some (some (.int .i64 0), 1, 8) := by kernel_rfl
theorem ints_snoc (xs : List Nat) (x : Nat) : ints (xs ++ [x]) = ints xs ++ [.int .i64 (x : Int)] := by simp [ints]
theorem take_lst {s x : B} {j : Nat} (h : lst x = (lst s).drop j) (hj : j < (lst s).length) : ints ((lst s).take (j + 1)) = ints ((lst s).take j) ++ [.int .i64 (low x : Int)] := by
  obtain ⟨_, _, h3⟩ := lst_drop h hj
  have hn : nth s j = (lst s)[j] := by unfold nth; simp [hj]
  rw [List.take_succ_eq_append_getElem hj, ints_snoc, h3, hn]
theorem app_int (w : World) {ops : Array Oper} {rest : List Oper} {o : Oper} {a : Act} {Q : Exit → Act → World → Prop} (hgd : o.guard = none) (s x : Operand)
    (ho : o.op = .call { callee := .builtin .append, args := #[s, x], argTypes := #[106, 106] })
    (base : Nat) (v : Value) (n : Nat) (xs : List Value) (hs : a.eval s = v) (hown : w.ownsRow base 3 1 v n xs)
    (g : Nat) (u : Value) (hu : u.oneCell' = true) (hx : a.eval x = .slice (some ⟨g, 0, none⟩) 1 1) (hcell : w.cell? ⟨g, 0, none⟩ = some u)
    (hn : n ≤ 1099511627776) (hbase : base ≤ w.heap.size)
    (h : ∀ v' w', w'.ownsRow base 3 1 v' (n + 1) (xs ++ [u]) → w.grownBy w' v.ownBlock → wpList Tryz.prog ops Q rest (a.put o.dst v') w') : wpList Tryz.prog ops Q (o :: rest) a w := by
  obtain ⟨i0, hi, hz0, hz1, hz2⟩ := info_parts info_int
  refine wpList_append_own w hgd s x 106 ho base 3 i0 (.int .i64 0) 1 8 Tryz.underlying106 hi hz0 hz1 hz2 rfl (by decide) v n xs hs hown ⟨g, 0, none⟩ 1 1 [u] hx rfl ?_ ?_ (by unfold maxLen; omega) (by omega) hbase (fun v' w' h1 h2 _ => h v' w' h1 h2)
  · intro j q hj
    match j, hj with
    | 0, hj => simp at hj; subst hj; simpa [Addr.add] using hcell
  · intro q hq; simp at hq; subst hq; exact hu
theorem own_form {w : World} {base e n : Nat} {v : Value} {xs : List Value} (h : w.ownsRow base e 1 v n xs) : ∃ (g : Option Addr) (c : Nat), v = .slice g n c ∧ ∀ b, v.ownBlock = some b → base ≤ b ∧ b < w.heap.size := by
  rcases h.2 with ⟨rfl, rfl⟩ | ⟨g, cap, cur, rfl, hb, hh, _⟩
  · exact ⟨none, 0, rfl, fun b hb => by cases hb⟩
  · refine ⟨_, cap, rfl, fun b hb' => ?_⟩
    have : g = b := by simpa [Value.ownBlock] using hb'
    subst this
    exact ⟨hb, by
      rcases Nat.lt_or_ge g w.heap.size with h1 | h1
      · exact h1
      · rw [Array.getElem?_eq_none h1] at hh; cases hh⟩
theorem drop_lt {t : B} (h : t ≠ 0#64) : un (t &&& (t - 1#64)) < un t := by
  have h0 : un t ≠ 0 := fun e => h (un_inj (by rw [e]; rfl))
  have h1 : un (t - 1#64) = un t - 1 := by
    unfold un at h0 ⊢
    rw [BitVec.toNat_sub_of_le]
    · rfl
    · rw [BitVec.le_def]; show 1 ≤ t.toNat; omega
  have h2 : un (t &&& (t - 1#64)) ≤ un (t - 1#64) := by unfold un; rw [BitVec.toNat_and]; exact Nat.and_le_right
  omega
set_option maxRecDepth 100000 in
set_option maxHeartbeats 2000000 in
theorem List_ok (s : B) (w : World) (hT : Tab w) : Calls Tryz.prog 95 #[.int .u64 (un s)] w
    fun e w' => ∃ (g : Option Addr) (c : Nat), e = .returned (.slice g (cnt s) c) ∧ w'.ownsRow w.heap.size 3 1 (.slice g (cnt s) c) (cnt s) (ints (lst s)) ∧ Below w.heap.size w w' := by
  have hc64 := cnt_le s
  have hcl := cnt_lst s
  have HC := Lib.hid hcl
  clear hcl
  obtain ⟨i0, hi, hz0, hz1, hz2⟩ := info_parts info_int
  go_enter Tryz.func95, Tryz.ntmps95
  go_wp2_with (first | (go_at_call 130; refine (count_ok _ _).mono ?_; rintro e w' ⟨rfl, rfl⟩) | (at_make; refine wpList_make_own _ rfl _ _ 106 rfl w.heap.size 3 i0 (.int .i64 0) 1 Tryz.underlying106 hi hz0 hz1 .i64 .i64 (cnt s : Int) (cnt s) rfl rfl rfl ?b2 ?b3 (Nat.le_refl _) ?_; rotate_right; intro w1 hown hgrow))
  case b2 => rw [hz2]; omega
  case b3 => unfold maxLen; omega
  have hb1 : Below w.heap.size w w1 := (Below.refl _ _).grown hgrow (Nat.le_refl _) (fun k hk => by cases hk)
  have hT1 := hT.below hb1
  clear hgrow
  go_loopw [0, 3] (fun x v wr => ∃ (j : Nat) (t : B), j ≤ cnt s ∧ x = .int .u64 (un t) ∧ Hid (lst t = (lst s).drop j) ∧ wr.ownsRow w.heap.size 3 1 v j (ints ((lst s).take j)) ∧ Below w.heap.size w wr)
    (fun x _ _ => (intOf x).toNat)
  case atStart => exact ⟨0, s, by omega, rfl, by show lst s = _; simp, hown, hb1⟩
  case round =>
    obtain ⟨j, t, hj, rfl, HX, hownr, hbr⟩ := hrel
    have hTr := hT.below hbr
    by_cases hlt : j < cnt s
    · have hjl : j < (lst s).length := by rw [← HC.out]; exact hlt
      have HD := Lib.hid (lst_drop HX.out hjl)
      have HT := Lib.hid (take_lst HX.out hjl)
      have e0 := un_ne0 HD.out.1
      have HL := Lib.hid (drop_lt HD.out.1)
      clear HX hjl
      obtain ⟨g, c, rfl, hfb⟩ := own_form hownr
      have hsz := hbr.size
      go_wp2_with (first | (go_at_call 129; refine (least_ok t HD.out.1 _ hTr).mono ?_; rintro e w' ⟨rfl, rfl⟩) | (at_builtin; refine app_int _ rfl _ _ rfl w.heap.size _ j _ rfl (hownr.alloc _) wr.heap.size (.int .i64 (low t : Int)) rfl rfl ?c1 (by omega) ?c2 ?_; rotate_right; intro v' w2 hown2 hgrow2))
      case c1 => simp
      case c2 => simp; omega
      rw [← HT.out] at hown2
      have hb2 : Below w.heap.size w w2 := (hbr.alloc hsz _).grown hgrow2 (by simp; omega) (fun k hk => (hfb k hk).1)
      clear hown hb1 hownr hgrow2 hbr hfb hTr hT1
      go_wp2
      go_roundw
      case rel => exact ⟨j + 1, _, by omega, rfl, HD.out.2.1, hown2, hb2⟩
      case measure => simp [intOf]; exact HL.out
    · obtain rfl : j = cnt s := by omega
      have ht0 : t = 0#64 := by
        have h1 : lst t = [] := by rw [HX.out, HC.out]; simp
        by_cases h0 : t = 0#64
        · exact h0
        · rw [lst_step h0] at h1; cases h1
      have e0 : (un t : Int) = 0 := un_zero_int ht0
      have hall : (lst s).take (cnt s) = lst s := by rw [HC.out]; exact List.take_length
      rw [hall] at hownr
      clear ht0 hall HX
      obtain ⟨g, c, rfl, hfb⟩ := own_form hownr
      go_wp2
      go_ret
      exact ⟨g, c, rfl, hownr, hbr⟩
end Go.Proofs.YteefncohknclcaaGreatDoor
namespace Go.Proofs.YteefncohknclcaaGreatDoor
open Go.RowKit
theorem chks_cls {r : List B} {s : B} (h : chks r [s] = 0) : chks r [cls r s] = 0 := chks_ball h 64
theorem chks_or {r : List B} {s t : B} (h : chks r [s] = 0) (h2 : chks r [t] = 0) : chks r [s ||| t] = 0 := by
  obtain ⟨hv, hs⟩ := chks_zero.1 h
  obtain ⟨_, ht⟩ := chks_zero.1 h2
  refine chks_zero.2 ⟨hv, fun u hu k hk => ?_⟩
  have : u = s ||| t := by simpa using hu
  subst this
  rw [has_or, Bool.or_eq_true] at hk
  rcases hk with hk | hk
  · exact hs s (by simp) k hk
  · exact ht t (by simp) k hk
theorem Reads.int_at {w : World} {b n : Nat} {p : Option Addr} {xs : List Nat} (h : Reads w b 1 p n (ints xs)) {k : Nat} (hk : k < n) : ∃ ad, p = some ad ∧ ad.block < b ∧ w.cell? (ad.add k) = some (.int .i64 (xs.getD k 0 : Int)) := by
  obtain ⟨ad, u, rfl, hb, hu, hc⟩ := h.at_ hk
  refine ⟨ad, rfl, hb, ?_⟩
  have hl : k < xs.length := by have := h.1; simp [ints] at this; omega
  rw [hc, ← hu]
  simp [ints, hl]
end Go.Proofs.YteefncohknclcaaGreatDoor
namespace Go.Proofs.YteefncohknclcaaGreatDoor
open Go.RowKit
theorem info_u64 : (Tryz.prog.info? 24).map (fun i => (i.zero, i.size, i.bytes)) = some (some (.int .u64 0), 1, 8) := by kernel_rfl
theorem own_below {w w' : World} {base e n : Nat} {v : Value} {xs : List Value} (h : w.ownsRow base e 1 v n xs) (hb : Below w.heap.size w w') : w'.ownsRow base e 1 v n xs := by
  refine h.kept (row := none) ⟨hb.os, hb.tape, hb.output, hb.size, fun k hk _ => hb.block k hk⟩ ?_
  cases hv : v.ownBlock
  · exact .inl rfl
  · exact .inr (by simp)
/-- what the rows hold when the numbers below i are through, and of row i the first j -/
def BackInv (r cur : List B) (i j : Nat) : Prop :=
  cur.length = r.length ∧ ∀ k a, k < r.length → (has (row cur k) a = true ↔ (a < i ∧ has (row r a) k = true) ∨ (a = i ∧ k ∈ (lst (row r i)).take j))
theorem back_next {r cur : List B} {i j : Nat} (hi : i < r.length) (h64 : r.length ≤ 64) (h : BackInv r cur i j) (hj : j < (lst (row r i)).length) (hv : ∀ i k, has (row r i) k = true → k < r.length) :
    let k := (lst (row r i)).getD j 0
    k < r.length ∧ BackInv r (cur.set k (row cur k ||| 1#64 <<< i)) i (j + 1) := by
  intro k
  have hk : k = (lst (row r i))[j] := by show (lst (row r i)).getD j 0 = _; simp [hj]
  have hkr : k < r.length := hv i k (by rw [hk]; exact mem_lst.1 (List.getElem_mem hj))
  refine ⟨hkr, by rw [List.length_set]; exact h.1, fun m a hm => ?_⟩
  have hset : row (cur.set k (row cur k ||| 1#64 <<< i)) m = if k = m then row cur k ||| 1#64 <<< i else row cur m := by
    unfold row
    rw [List.getD_eq_getElem?_getD, List.getElem?_set]
    by_cases hkm : k = m
    · subst hkm
      have : k < cur.length := by rw [h.1]; exact hkr
      simp [this]
    · simp [hkm]
  have htk : (lst (row r i)).take (j + 1) = (lst (row r i)).take j ++ [k] := by rw [List.take_succ_eq_append_getElem hj, hk]
  rw [hset, htk]
  by_cases hkm : k = m
  · rw [if_pos hkm, has_or, Bool.or_eq_true, h.2 k a hkr, hkm, List.mem_append]
    rcases Nat.lt_or_ge a 64 with ha | ha
    · rw [has_one i a ha]
      simp only [decide_eq_true_eq, List.mem_singleton, ← hkm]
      constructor
      · rintro ((h1 | ⟨h1, h2⟩) | h1)
        · exact .inl h1
        · exact .inr ⟨h1, .inl h2⟩
        · exact .inr ⟨h1, .inr trivial⟩
      · rintro (h1 | ⟨h1, h2 | h2⟩)
        · exact .inl (.inl h1)
        · exact .inl (.inr ⟨h1, h2⟩)
        · exact .inr h1
    · rw [has_ge ha]
      simp only [Bool.false_eq_true, or_false]
      constructor
      · rintro (h1 | ⟨h1, _⟩)
        · exact .inl h1
        · omega
      · rintro (h1 | ⟨h1, _⟩)
        · exact .inl h1
        · omega
  · rw [if_neg hkm, h.2 m a hm, List.mem_append]
    simp only [List.mem_singleton]
    constructor
    · rintro (h1 | ⟨h1, h2⟩)
      · exact .inl h1
      · exact .inr ⟨h1, .inl h2⟩
    · rintro (h1 | ⟨h1, h2 | h2⟩)
      · exact .inl h1
      · exact .inr ⟨h1, h2⟩
      · exact absurd h2.symm hkm
theorem back_row {r cur : List B} {i : Nat} (h : BackInv r cur i (lst (row r i)).length) : BackInv r cur (i + 1) 0 := by
  refine ⟨h.1, fun k a hk => ?_⟩
  rw [h.2 k a hk, List.take_length]
  simp only [List.take_zero, List.not_mem_nil, and_false, or_false]
  rw [mem_lst]
  constructor
  · rintro (⟨h1, h2⟩ | ⟨rfl, h2⟩)
    · exact ⟨by omega, h2⟩
    · exact ⟨by omega, h2⟩
  · rintro ⟨h1, h2⟩
    rcases Nat.lt_or_ge a i with h3 | h3
    · exact .inl ⟨h3, h2⟩
    · have : a = i := by omega
      subst this; exact .inr ⟨rfl, h2⟩
/-- the rows the other way -/
def bk (r : List B) : List B := (List.range r.length).map fun k => ofL ((List.range r.length).filter fun a => has (row r a) k)
theorem bk_len (r : List B) : (bk r).length = r.length := by simp [bk]
theorem has_bk {r : List B} (h64 : r.length ≤ 64) {k a : Nat} : has (row (bk r) k) a = true ↔ k < r.length ∧ has (row r a) k = true := by
  constructor
  · intro h
    have hk : k < r.length := by have := row_lt h; rwa [bk_len] at this
    have e : row (bk r) k = ofL ((List.range r.length).filter fun a => has (row r a) k) := by show (bk r).getD k 0#64 = _; unfold bk; simp [hk]
    rw [e, has_ofL _ _ (has_lt h)] at h
    simp at h
    exact ⟨hk, h.2⟩
  · rintro ⟨hk, h⟩
    have ha := row_lt h
    have e : row (bk r) k = ofL ((List.range r.length).filter fun a => has (row r a) k) := by show (bk r).getD k 0#64 = _; unfold bk; simp [hk]
    rw [e, has_ofL _ _ (by omega)]
    simp [ha, h]
theorem list_ext_row {a b : List B} (hl : a.length = b.length) (h : ∀ k, k < a.length → row a k = row b k) : a = b := by
  apply List.ext_getElem hl
  intro k h1 h2
  have := h k h1
  unfold row at this
  simpa [h1, h2] using this
theorem back_done {r cur : List B} (h64 : r.length ≤ 64) (h : BackInv r cur r.length 0) : cur = bk r := by
  refine list_ext_row (by rw [h.1, bk_len]) fun k hk => eq_of_iff fun a => ?_
  rw [h.1] at hk
  rw [h.2 k a hk, has_bk h64]
  simp only [List.take_zero, List.not_mem_nil, and_false, or_false]
  exact ⟨fun ⟨_, h2⟩ => ⟨hk, h2⟩, fun ⟨_, h2⟩ => ⟨row_lt h2, h2⟩⟩
theorem back_start (r : List B) : BackInv r (List.replicate r.length 0#64) 0 0 := by
  refine ⟨by simp, fun k a hk => ?_⟩
  have : row (List.replicate r.length 0#64) k = 0#64 := by unfold row; simp [hk]
  rw [this, has_zero]; simp
theorem u64s_set (cur : List B) (k : Nat) (x : B) : (u64s cur).set k (.int .u64 (un x : Int)) = u64s (cur.set k x) := by
  unfold u64s; rw [List.map_set]
theorem made_zero (n : Nat) : (madeCells (Value.int .u64 0).cells (n * 1)).toList = u64s (List.replicate n 0#64) := by
  unfold madeCells u64s
  apply List.ext_getElem
  · simp
  · intro i h1 h2
    simp [Value.cells, Nat.mod_one]
    rfl
set_option maxRecDepth 100000 in
set_option maxHeartbeats 4000000 in
theorem back_ok (p : Option Addr) (n c : Nat) (r : List B) (hv : Valid r) (w : World) (hR : RowsAt w p n r) (hT : Tab w) :
    Calls Tryz.prog 88 #[.slice p n c] w
      fun e w' => ∃ (g : Option Addr) (cg : Nat), e = .returned (.slice g n cg) ∧ w'.ownsRow w.heap.size 24 1 (.slice g n cg) n (u64s (bk r)) ∧ Below w.heap.size w w' := by
  have hl := hR.len
  subst hl
  have hbig := hR.big
  unfold maxLen at hbig
  have h64 := hv.1
  have HV := Lib.hid hv
  clear hv
  obtain ⟨i0, hi, hz0, hz1, hz2⟩ := info_parts info_u64
  go_enter Tryz.func88, Tryz.ntmps88
  go_wp2_with (at_make; refine wpList_make_full _ rfl _ _ 50 rfl w.heap.size 24 i0 (.int .u64 0) 1 Tryz.underlying50 hi hz0 hz1 .i64 .i64 (r.length : Int) (r.length : Int) r.length rfl rfl rfl rfl ?b2 ?b3 (Nat.le_refl _) ?_; rotate_right; intro w1 hown hgrow)
  case b2 => rw [hz2]; omega
  case b3 => unfold maxLen; omega
  rw [made_zero] at hown
  have hb1 : Below w.heap.size w w1 := (Below.refl _ _).grown hgrow (Nat.le_refl _) (fun k hk => by cases hk)
  clear hgrow
  go_wp2
  go_loopw [13] (fun i wr => ∃ (k : Nat) (cur : List B), k ≤ r.length ∧ i = .int .i64 k ∧ Hid (BackInv r cur k 0) ∧ wr.ownsRow w.heap.size 24 1 (.slice (some ⟨w.heap.size, 0, none⟩) r.length r.length) r.length (u64s cur) ∧ Below w.heap.size w wr)
    (fun i _ => r.length - (intOf i).toNat)
  case atStart => exact ⟨0, _, Nat.zero_le _, rfl, back_start r, hown, hb1⟩
  case round =>
    obtain ⟨k, cur, hk, rfl, HB, hownr, hbr⟩ := hrel
    obtain ⟨wo, rfl⟩ : ∃ wo : World, wo = wr := ⟨_, rfl⟩
    clear hown hb1
    by_cases hlt : k < r.length
    · have hRr := hR.below hbr
      have hTr := hT.below hbr
      obtain ⟨ad, rfl, hbl, hc⟩ := hRr.cell hlt
      obtain ⟨x, hx⟩ : ∃ x, x = row r k := ⟨_, rfl⟩
      have HX := Lib.hid hx
      rw [← hx] at hc
      clear hx hbl
      go_wp2_with (go_at_call 95; refine (List_ok x _ hTr).mono ?_; rintro e w2 ⟨gl, cl, rfl, hownl, hb2⟩)
      have hownw := own_below hownr hb2
      have hg0 : w.heap.size < wo.heap.size := by
        rcases hownr.2 with ⟨h, _⟩ | ⟨g', _, _, h, _, hh, _⟩
        · simp at h
        · simp only [Value.slice.injEq, Option.some.injEq, Addr.mk.injEq, and_true] at h
          rcases Nat.lt_or_ge w.heap.size wo.heap.size with h1 | h1
          · exact h1
          · rw [← h.1, Array.getElem?_eq_none h1] at hh; cases hh
      have hL := hownl
      have hbw := below_next hbr hb2
      have hszr := hbr.size
      have hsz2 := hb2.size
      have hlx := Lib.hid (cnt_lst x)
      have hcx := cnt_le x
      have HK : Hid (k < r.length) := hlt
      clear hownr hownl hRr hTr hc
      go_loopw [21] (fun i wi => ∃ (j : Nat) (cu : List B), j ≤ cnt x ∧ i = .int .i64 j ∧ Hid (BackInv r cu k j) ∧ wi.ownsRow w.heap.size 24 1 (.slice (some ⟨w.heap.size, 0, none⟩) r.length r.length) r.length (u64s cu) ∧ Below w.heap.size w wi ∧ wi.ownsRow wo.heap.size 3 1 (.slice gl (cnt x) cl) (cnt x) (ints (lst x)))
        (fun i _ => cnt x - (intOf i).toNat)
      case atStart => exact ⟨0, cur, Nat.zero_le _, rfl, HB.out, hownw, hbw, hL⟩
      case round =>
        obtain ⟨j, cu, hj, rfl, HBj, hownj, hbj, hLj⟩ := hrel
        clear hownw hbw hL
        by_cases hjl : j < cnt x
        · obtain ⟨al, rfl, hal, hcl⟩ := (Reads.of_own hLj).int_at hjl
          have hN := back_next HK.out h64 HBj.out (j := j) (by rw [← HX.out, ← hlx.out]; exact hjl) HV.out.2
          rw [← HX.out] at hN
          obtain ⟨hkr, hbi⟩ := hN
          obtain ⟨q, hq⟩ : ∃ q, q = (lst x).getD j 0 := ⟨_, rfl⟩
          rw [← hq] at hcl hkr hbi
          have hql : q < (u64s cu).length := by simp [u64s]; rw [HBj.out.1]; exact hkr
          have hcell : wr.cell? ⟨w.heap.size, q, none⟩ = some (.int .u64 (un (row cu q) : Int)) := by
            rw [hownj.cellAt q (by omega)]
            unfold u64s row
            have : q < cu.length := by rw [HBj.out.1]; exact hkr
            simp [this]
          have hfr := hownj.frozenAt q
          have hst0 := hownj.stored q (.int .u64 (un (row cu q ||| 1#64 <<< k) : Int))
          rw [u64s_set] at hst0
          have hst : Hid ((wr.setCell ⟨w.heap.size, q, none⟩ (.int .u64 (un (row cu q ||| 1#64 <<< k) : Int))).drew.ownsRow w.heap.size 24 1 (.slice (some ⟨w.heap.size, 0, none⟩) r.length r.length) r.length (u64s (cu.set q (row cu q ||| 1#64 <<< k))) ∧
              wr.grownBy (wr.setCell ⟨w.heap.size, q, none⟩ (.int .u64 (un (row cu q ||| 1#64 <<< k) : Int))).drew (some w.heap.size)) :=
            ⟨hst0.1, ⟨hst0.2.os, hst0.2.tape, hst0.2.output, hst0.2.size, hst0.2.block⟩⟩
          clear hst0
          have hne : ∀ b, (Value.slice (some al) (cnt x) cl).ownBlock = some b → b ≠ w.heap.size := by
            intro b hb he
            obtain ⟨_, _, h1, h2⟩ := own_form hLj
            have := (h2 b hb).1
            omega
          have HBI := Lib.hid hbi
          have HBJ := Lib.hid hbj
          have HLJ := Lib.hid hLj
          have HNE := Lib.hid hne
          clear hownj hbi hbj hLj hq HBj HB hne
          generalize row cu q = y at *
          go_wp2
          go_region
          go_wp2
          go_roundw
          case rel =>
            refine ⟨j + 1, _, by omega, by go_num, HBI.out, hst.out.1, ?_, ?_⟩
            · exact (HBJ.out.grown hst.out.2 HBJ.out.size (fun b hb => by cases hb; exact Nat.le_refl _))
            · refine HLJ.out.kept hst.out.2 (.inr fun h => ?_)
              exact HNE.out _ h rfl
          case measure => simp [intOf]; omega
        · obtain rfl : j = cnt x := by omega
          have hBB : BackInv r cu (k + 1) 0 := back_row (by rw [← HX.out, ← hlx.out]; exact HBj.out)
          have HBN := Lib.hid hBB
          clear hBB HBj HB hLj
          go_wp2
          go_roundw
          case rel => exact ⟨k + 1, cu, by omega, by go_num, HBN.out, hownj, hbj⟩
          case measure => simp [intOf]; omega
    · obtain rfl : k = r.length := by omega
      have hd := back_done h64 HB.out
      subst hd
      go_wp2
      go_ret
      exact ⟨_, _, rfl, hownr, hbr⟩
theorem rows_own {w : World} {base : Nat} {g : Option Addr} {n c : Nat} {r : List B} (h : w.ownsRow base 24 1 (.slice g n c) n (u64s r)) (hl : r.length = n) (hb : n ≤ maxLen) : RowsAt w g n r :=
  ⟨Reads.of_own h, hl, hb⟩
set_option maxHeartbeats 1000000 in
theorem Back_yes (p : Option Addr) (n c : Nat) (r : List B) (hv : chkR r = 0) (w : World) (hR : RowsAt w p n r) (hT : Tab w) :
    Calls Tryz.prog 58 #[.slice p n c] w
      fun e w' => ∃ (g : Option Addr) (cg : Nat), e = .returned (.tuple #[.slice g n cg, .int .i64 0]) ∧ w'.ownsRow w.heap.size 24 1 (.slice g n cg) n (u64s (bk r)) ∧ Below w.heap.size w w' := by
  have H := Lib.hid hv
  clear hv
  go_enter Tryz.func58, Tryz.ntmps58
  go_wp2_with (go_at_call 87; refine (Check_ok _ _ _ r _ hR).mono ?_; rw [H.out]; rintro e w' ⟨rfl, rfl⟩)
  refine (back_ok p n c r (chkR_zero.1 H.out) w hR hT).mono ?_
  rintro e w1 ⟨g, cg, rfl, hown, hb⟩
  go_wp2
  go_ret2
  exact ⟨g, cg, rfl, hown, hb⟩
set_option maxHeartbeats 1000000 in
theorem Back_no (p : Option Addr) (n c : Nat) (r : List B) (hv : chkR r ≠ 0) (w : World) (hR : RowsAt w p n r) :
    Calls Tryz.prog 58 #[.slice p n c] w fun e w' => e = .returned (.tuple #[.slice none 0 0, .int .i64 (chkR r)]) ∧ w = w' := by
  obtain ⟨h1, h2⟩ := int_ne hv
  clear hv
  go_enter Tryz.func58, Tryz.ntmps58
  go_wp2_with (go_at_call 87; refine (Check_ok _ _ _ r _ hR).mono ?_; rintro e w' ⟨rfl, rfl⟩)
  go_ret2
  exact ⟨rfl, rfl⟩
end Go.Proofs.YteefncohknclcaaGreatDoor
