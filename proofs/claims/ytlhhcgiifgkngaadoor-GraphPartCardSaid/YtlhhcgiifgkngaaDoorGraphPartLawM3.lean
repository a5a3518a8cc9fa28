/- Texts joined: ReachClosedW, BackW, Rch, Kahn, KahnW, KnotW. Conditions: theirs. -/
import Derived.Test.YtlhhcgiifgkngaaDoorGraphPartLawM2
import Derived.Test.YtlhhcgiifgkngaaDoorOf
import Derived.RegionTactic
import Derived.ChangeAlike
import Derived.Deep.LoopGhost
namespace Go.Proofs.YtlhhcgiifgkngaaDoor
open Go.RowKit
theorem chks_cls {r : List B} {s : B} (h : chks r [s] = 0) : chks r [cls r s] = 0 := chks_ball h 64
theorem chks_or {r : List B} {s t : B} (h : chks r [s] = 0) (h2 : chks r [t] = 0) : chks r [s ||| t] = 0 := by
  obtain ⟨hv, hs⟩ := chks_zero.1 h
  obtain ⟨_, ht⟩ := chks_zero.1 h2
  refine chks_zero.2 ⟨hv, fun u hu k hk => ?_⟩
  have : u = s ||| t := by simpa using hu
  subst this
  rw [has_or, Bool.or_eq_true] at hk
  rcases hk with hk | hk
  · exact hs s (by simp) k hk
  · exact ht t (by simp) k hk
theorem Reads.int_at {w : World} {b n : Nat} {p : Option Addr} {xs : List Nat} (h : Reads w b 1 p n (ints xs)) {k : Nat} (hk : k < n) : ∃ ad, p = some ad ∧ ad.block < b ∧ w.cell? (ad.add k) = some (.int .i64 (xs.getD k 0 : Int)) := by
  obtain ⟨ad, u, rfl, hb, hu, hc⟩ := h.at_ hk
  refine ⟨ad, rfl, hb, ?_⟩
  have hl : k < xs.length := by have := h.1; simp [ints] at this; omega
  rw [hc, ← hu]
  simp [ints, hl]
end Go.Proofs.YtlhhcgiifgkngaaDoor
namespace Go.Proofs.YtlhhcgiifgkngaaDoor
open Go.RowKit
theorem info_u64 : (Tryd.prog.info? 24).map (fun i => (i.zero, i.size, i.bytes)) = some (some (.int .u64 0), 1, 8) := by kernel_rfl
theorem own_below {w w' : World} {base e n : Nat} {v : Value} {xs : List Value} (h : w.ownsRow base e 1 v n xs) (hb : Below w.heap.size w w') : w'.ownsRow base e 1 v n xs := by
  refine h.kept (row := none) ⟨hb.os, hb.tape, hb.output, hb.size, fun k hk _ => hb.block k hk⟩ ?_
  cases hv : v.ownBlock
  · exact .inl rfl
  · exact .inr (by simp)
/-- what the rows hold when the numbers below i are through, and of row i the first j -/
def BackInv (r cur : List B) (i j : Nat) : Prop :=
  cur.length = r.length ∧ ∀ k a, k < r.length → (has (row cur k) a = true ↔ (a < i ∧ has (row r a) k = true) ∨ (a = i ∧ k ∈ (lst (row r i)).take j))
theorem back_next {r cur : List B} {i j : Nat} (hi : i < r.length) (h64 : r.length ≤ 64) (h : BackInv r cur i j) (hj : j < (lst (row r i)).length) (hv : ∀ i k, has (row r i) k = true → k < r.length) :
    let k := (lst (row r i)).getD j 0
    k < r.length ∧ BackInv r (cur.set k (row cur k ||| 1#64 <<< i)) i (j + 1) := by
  intro k
  have hk : k = (lst (row r i))[j] := by show (lst (row r i)).getD j 0 = _; simp [hj]
  have hkr : k < r.length := hv i k (by rw [hk]; exact mem_lst.1 (List.getElem_mem hj))
  refine ⟨hkr, by rw [List.length_set]; exact h.1, fun m a hm => ?_⟩
  have hset : row (cur.set k (row cur k ||| 1#64 <<< i)) m = if k = m then row cur k ||| 1#64 <<< i else row cur m := by
    unfold row
    rw [List.getD_eq_getElem?_getD, List.getElem?_set]
    by_cases hkm : k = m
    · subst hkm
      have : k < cur.length := by rw [h.1]; exact hkr
      simp [this]
    · simp [hkm]
  have htk : (lst (row r i)).take (j + 1) = (lst (row r i)).take j ++ [k] := by rw [List.take_succ_eq_append_getElem hj, hk]
  rw [hset, htk]
  by_cases hkm : k = m
  · rw [if_pos hkm, has_or, Bool.or_eq_true, h.2 k a hkr, hkm, List.mem_append]
    rcases Nat.lt_or_ge a 64 with ha | ha
    · rw [has_one i a ha]
      simp only [decide_eq_true_eq, List.mem_singleton, ← hkm]
      constructor
      · rintro ((h1 | ⟨h1, h2⟩) | h1)
        · exact .inl h1
        · exact .inr ⟨h1, .inl h2⟩
        · exact .inr ⟨h1, .inr trivial⟩
      · rintro (h1 | ⟨h1, h2 | h2⟩)
        · exact .inl (.inl h1)
        · exact .inl (.inr ⟨h1, h2⟩)
        · exact .inr h1
    · rw [has_ge ha]
      simp only [Bool.false_eq_true, or_false]
      constructor
      · rintro (h1 | ⟨h1, _⟩)
        · exact .inl h1
        · omega
      · rintro (h1 | ⟨h1, _⟩)
        · exact .inl h1
        · omega
  · rw [if_neg hkm, h.2 m a hm, List.mem_append]
    simp only [List.mem_singleton]
    constructor
    · rintro (h1 | ⟨h1, h2⟩)
      · exact .inl h1
      · exact .inr ⟨h1, .inl h2⟩
    · rintro (h1 | ⟨h1, h2 | h2⟩)
      · exact .inl h1
      · exact .inr ⟨h1, h2⟩
      · exact absurd h2.symm hkm
theorem back_row {r cur : List B} {i : Nat} (h : BackInv r cur i (lst (row r i)).length) : BackInv r cur (i + 1) 0 := by
  refine ⟨h.1, fun k a hk => ?_⟩
  rw [h.2 k a hk, List.take_length]
  simp only [List.take_zero, List.not_mem_nil, and_false, or_false]
  rw [mem_lst]
  constructor
  · rintro (⟨h1, h2⟩ | ⟨rfl, h2⟩)
    · exact ⟨by omega, h2⟩
    · exact ⟨by omega, h2⟩
  · rintro ⟨h1, h2⟩
    rcases Nat.lt_or_ge a i with h3 | h3
    · exact .inl ⟨h3, h2⟩
    · have : a = i := by omega
      subst this; exact .inr ⟨rfl, h2⟩
/-- the rows the other way -/
def bk (r : List B) : List B := (List.range r.length).map fun k => ofL ((List.range r.length).filter fun a => has (row r a) k)
theorem bk_len (r : List B) : (bk r).length = r.length := by simp [bk]
theorem has_bk {r : List B} (h64 : r.length ≤ 64) {k a : Nat} : has (row (bk r) k) a = true ↔ k < r.length ∧ has (row r a) k = true := by
  constructor
  · intro h
    have hk : k < r.length := by have := row_lt h; rwa [bk_len] at this
    have e : row (bk r) k = ofL ((List.range r.length).filter fun a => has (row r a) k) := by show (bk r).getD k 0#64 = _; unfold bk; simp [hk]
    rw [e, has_ofL _ _ (has_lt h)] at h
    simp at h
    exact ⟨hk, h.2⟩
  · rintro ⟨hk, h⟩
    have ha := row_lt h
    have e : row (bk r) k = ofL ((List.range r.length).filter fun a => has (row r a) k) := by show (bk r).getD k 0#64 = _; unfold bk; simp [hk]
    rw [e, has_ofL _ _ (by omega)]
    simp [ha, h]
theorem list_ext_row {a b : List B} (hl : a.length = b.length) (h : ∀ k, k < a.length → row a k = row b k) : a = b := by
  apply List.ext_getElem hl
  intro k h1 h2
  have := h k h1
  unfold row at this
  simpa [h1, h2] using this
theorem back_done {r cur : List B} (h64 : r.length ≤ 64) (h : BackInv r cur r.length 0) : cur = bk r := by
  refine list_ext_row (by rw [h.1, bk_len]) fun k hk => eq_of_iff fun a => ?_
  rw [h.1] at hk
  rw [h.2 k a hk, has_bk h64]
  simp only [List.take_zero, List.not_mem_nil, and_false, or_false]
  exact ⟨fun ⟨_, h2⟩ => ⟨hk, h2⟩, fun ⟨_, h2⟩ => ⟨row_lt h2, h2⟩⟩
theorem back_start (r : List B) : BackInv r (List.replicate r.length 0#64) 0 0 := by
  refine ⟨by simp, fun k a hk => ?_⟩
  have : row (List.replicate r.length 0#64) k = 0#64 := by unfold row; simp [hk]
  rw [this, has_zero]; simp
theorem u64s_set (cur : List B) (k : Nat) (x : B) : (u64s cur).set k (.int .u64 (un x : Int)) = u64s (cur.set k x) := by
  unfold u64s; rw [List.map_set]
theorem made_zero (n : Nat) : (madeCells (Value.int .u64 0).cells (n * 1)).toList = u64s (List.replicate n 0#64) := by
  unfold madeCells u64s
  apply List.ext_getElem
  · simp
  · intro i h1 h2
    simp [Value.cells, Nat.mod_one]
    rfl
set_option maxRecDepth 100000 in
set_option maxHeartbeats 4000000 in
theorem back_ok (p : Option Addr) (n c : Nat) (r : List B) (hv : Valid r) (w : World) (hR : RowsAt w p n r) (hT : Tab w) :
    Calls Tryd.prog 71 #[.slice p n c] w
      fun e w' => ∃ (g : Option Addr) (cg : Nat), e = .returned (.slice g n cg) ∧ w'.ownsRow w.heap.size 24 1 (.slice g n cg) n (u64s (bk r)) ∧ Below w.heap.size w w' := by
  have hl := hR.len
  subst hl
  have hbig := hR.big
  unfold maxLen at hbig
  have h64 := hv.1
  have HV := Lib.hid hv
  clear hv
  obtain ⟨i0, hi, hz0, hz1, hz2⟩ := info_parts info_u64
  go_enter Tryd.func71, Tryd.ntmps71
  go_wp2_with (at_make; refine wpList_make_full _ rfl _ _ 49 rfl w.heap.size 24 i0 (.int .u64 0) 1 Tryd.underlying49 hi hz0 hz1 .i64 .i64 (r.length : Int) (r.length : Int) r.length rfl rfl rfl rfl ?b2 ?b3 (Nat.le_refl _) ?_; rotate_right; intro w1 hown hgrow)
  case b2 => rw [hz2]; omega
  case b3 => unfold maxLen; omega
  rw [made_zero] at hown
  have hb1 : Below w.heap.size w w1 := (Below.refl _ _).grown hgrow (Nat.le_refl _) (fun k hk => by cases hk)
  clear hgrow
  go_wp2
  go_loopw [13] (fun i wr => ∃ (k : Nat) (cur : List B), k ≤ r.length ∧ i = .int .i64 k ∧ Hid (BackInv r cur k 0) ∧ wr.ownsRow w.heap.size 24 1 (.slice (some ⟨w.heap.size, 0, none⟩) r.length r.length) r.length (u64s cur) ∧ Below w.heap.size w wr)
    (fun i _ => r.length - (intOf i).toNat)
  case atStart => exact ⟨0, _, Nat.zero_le _, rfl, back_start r, hown, hb1⟩
  case round =>
    obtain ⟨k, cur, hk, rfl, HB, hownr, hbr⟩ := hrel
    obtain ⟨wo, rfl⟩ : ∃ wo : World, wo = wr := ⟨_, rfl⟩
    clear hown hb1
    by_cases hlt : k < r.length
    · have hRr := hR.below hbr
      have hTr := hT.below hbr
      obtain ⟨ad, rfl, hbl, hc⟩ := hRr.cell hlt
      obtain ⟨x, hx⟩ : ∃ x, x = row r k := ⟨_, rfl⟩
      have HX := Lib.hid hx
      rw [← hx] at hc
      clear hx hbl
      go_wp2_with (go_at_call 19; refine (List_ok x _ hTr).mono ?_; rintro e w2 ⟨gl, cl, rfl, hownl, hb2⟩)
      have hownw := own_below hownr hb2
      have hg0 : w.heap.size < wo.heap.size := by
        rcases hownr.2 with ⟨h, _⟩ | ⟨g', _, _, h, _, hh, _⟩
        · simp at h
        · simp only [Value.slice.injEq, Option.some.injEq, Addr.mk.injEq, and_true] at h
          rcases Nat.lt_or_ge w.heap.size wo.heap.size with h1 | h1
          · exact h1
          · rw [← h.1, Array.getElem?_eq_none h1] at hh; cases hh
      have hL := hownl
      have hbw := below_next hbr hb2
      have hszr := hbr.size
      have hsz2 := hb2.size
      have hlx := Lib.hid (cnt_lst x)
      have hcx := cnt_le x
      have HK : Hid (k < r.length) := hlt
      clear hownr hownl hRr hTr hc
      go_loopw [21] (fun i wi => ∃ (j : Nat) (cu : List B), j ≤ cnt x ∧ i = .int .i64 j ∧ Hid (BackInv r cu k j) ∧ wi.ownsRow w.heap.size 24 1 (.slice (some ⟨w.heap.size, 0, none⟩) r.length r.length) r.length (u64s cu) ∧ Below w.heap.size w wi ∧ wi.ownsRow wo.heap.size 3 1 (.slice gl (cnt x) cl) (cnt x) (ints (lst x)))
        (fun i _ => cnt x - (intOf i).toNat)
      case atStart => exact ⟨0, cur, Nat.zero_le _, rfl, HB.out, hownw, hbw, hL⟩
      case round =>
        obtain ⟨j, cu, hj, rfl, HBj, hownj, hbj, hLj⟩ := hrel
        clear hownw hbw hL
        by_cases hjl : j < cnt x
        · obtain ⟨al, rfl, hal, hcl⟩ := (Reads.of_own hLj).int_at hjl
          have hN := back_next HK.out h64 HBj.out (j := j) (by rw [← HX.out, ← hlx.out]; exact hjl) HV.out.2
          rw [← HX.out] at hN
          obtain ⟨hkr, hbi⟩ := hN
          obtain ⟨q, hq⟩ : ∃ q, q = (lst x).getD j 0 := ⟨_, rfl⟩
          rw [← hq] at hcl hkr hbi
          have hql : q < (u64s cu).length := by simp [u64s]; rw [HBj.out.1]; exact hkr
          have hcell : wr.cell? ⟨w.heap.size, q, none⟩ = some (.int .u64 (un (row cu q) : Int)) := by
            rw [hownj.cellAt q (by omega)]
            unfold u64s row
            have : q < cu.length := by rw [HBj.out.1]; exact hkr
            simp [this]
          have hfr := hownj.frozenAt q
          have hst0 := hownj.stored q (.int .u64 (un (row cu q ||| 1#64 <<< k) : Int))
          rw [u64s_set] at hst0
          have hst : Hid ((wr.setCell ⟨w.heap.size, q, none⟩ (.int .u64 (un (row cu q ||| 1#64 <<< k) : Int))).drew.ownsRow w.heap.size 24 1 (.slice (some ⟨w.heap.size, 0, none⟩) r.length r.length) r.length (u64s (cu.set q (row cu q ||| 1#64 <<< k))) ∧
              wr.grownBy (wr.setCell ⟨w.heap.size, q, none⟩ (.int .u64 (un (row cu q ||| 1#64 <<< k) : Int))).drew (some w.heap.size)) :=
            ⟨hst0.1, ⟨hst0.2.os, hst0.2.tape, hst0.2.output, hst0.2.size, hst0.2.block⟩⟩
          clear hst0
          have hne : ∀ b, (Value.slice (some al) (cnt x) cl).ownBlock = some b → b ≠ w.heap.size := by
            intro b hb he
            obtain ⟨_, _, h1, h2⟩ := own_form hLj
            have := (h2 b hb).1
            omega
          have HBI := Lib.hid hbi
          have HBJ := Lib.hid hbj
          have HLJ := Lib.hid hLj
          have HNE := Lib.hid hne
          clear hownj hbi hbj hLj hq HBj HB hne
          generalize row cu q = y at *
          go_wp2
          go_region
          go_wp2
          go_roundw
          case rel =>
            refine ⟨j + 1, _, by omega, by go_num, HBI.out, hst.out.1, ?_, ?_⟩
            · exact (HBJ.out.grown hst.out.2 HBJ.out.size (fun b hb => by cases hb; exact Nat.le_refl _))
            · refine HLJ.out.kept hst.out.2 (.inr fun h => ?_)
              exact HNE.out _ h rfl
          case measure => simp [intOf]; omega
        · obtain rfl : j = cnt x := by omega
          have hBB : BackInv r cu (k + 1) 0 := back_row (by rw [← HX.out, ← hlx.out]; exact HBj.out)
          have HBN := Lib.hid hBB
          clear hBB HBj HB hLj
          go_wp2
          go_roundw
          case rel => exact ⟨k + 1, cu, by omega, by go_num, HBN.out, hownj, hbj⟩
          case measure => simp [intOf]; omega
    · obtain rfl : k = r.length := by omega
      have hd := back_done h64 HB.out
      subst hd
      go_wp2
      go_ret
      exact ⟨_, _, rfl, hownr, hbr⟩
theorem rows_own {w : World} {base : Nat} {g : Option Addr} {n c : Nat} {r : List B} (h : w.ownsRow base 24 1 (.slice g n c) n (u64s r)) (hl : r.length = n) (hb : n ≤ maxLen) : RowsAt w g n r :=
  ⟨Reads.of_own h, hl, hb⟩
set_option maxHeartbeats 1000000 in
theorem Back_yes (p : Option Addr) (n c : Nat) (r : List B) (hv : chkR r = 0) (w : World) (hR : RowsAt w p n r) (hT : Tab w) :
    Calls Tryd.prog 30 #[.slice p n c] w
      fun e w' => ∃ (g : Option Addr) (cg : Nat), e = .returned (.tuple #[.slice g n cg, .int .i64 0]) ∧ w'.ownsRow w.heap.size 24 1 (.slice g n cg) n (u64s (bk r)) ∧ Below w.heap.size w w' := by
  have H := Lib.hid hv
  clear hv
  go_enter Tryd.func30, Tryd.ntmps30
  go_wp2_with (go_at_call 70; refine (Check_ok _ _ _ r _ hR).mono ?_; rw [H.out]; rintro e w' ⟨rfl, rfl⟩)
  refine (back_ok p n c r (chkR_zero.1 H.out) w hR hT).mono ?_
  rintro e w1 ⟨g, cg, rfl, hown, hb⟩
  go_wp2
  go_ret2
  exact ⟨g, cg, rfl, hown, hb⟩
set_option maxHeartbeats 1000000 in
theorem Back_no (p : Option Addr) (n c : Nat) (r : List B) (hv : chkR r ≠ 0) (w : World) (hR : RowsAt w p n r) :
    Calls Tryd.prog 30 #[.slice p n c] w fun e w' => e = .returned (.tuple #[.slice none 0 0, .int .i64 (chkR r)]) ∧ w = w' := by
  obtain ⟨h1, h2⟩ := int_ne hv
  clear hv
  go_enter Tryd.func30, Tryd.ntmps30
  go_wp2_with (go_at_call 70; refine (Check_ok _ _ _ r _ hR).mono ?_; rintro e w' ⟨rfl, rfl⟩)
  go_ret2
  exact ⟨rfl, rfl⟩
end Go.Proofs.YtlhhcgiifgkngaaDoor
namespace Go.Proofs.YtlhhcgiifgkngaaDoor
/-- from a one comes to b -/
inductive Rch (r : List B) : Nat → Nat → Prop
  | refl (a : Nat) : Rch r a a
  | tail {a b c : Nat} (h : Rch r a b) (e : has (row r b) c = true) : Rch r a c
theorem Rch.head {r : List B} {a b c : Nat} (e : has (row r a) b = true) (h : Rch r b c) : Rch r a c := by
  induction h with
  | refl => exact .tail (.refl a) e
  | tail _ e2 ih => exact .tail ih e2
theorem Rch.trans {r : List B} {a b c : Nat} (h : Rch r a b) (h2 : Rch r b c) : Rch r a c := by
  induction h2 with
  | refl => exact h
  | tail _ e ih => exact .tail ih e
theorem has_cls {r : List B} {s : B} {b : Nat} : has (cls r s) b = true ↔ ∃ a, has s a = true ∧ Rch r a b := by
  constructor
  · intro h
    have : ∀ i k, has (ball r i s) k = true → ∃ a, has s a = true ∧ Rch r a k := by
      intro i
      induction i with
      | zero => intro k hk; exact ⟨k, hk, .refl k⟩
      | succ i ih =>
        intro k hk
        rcases has_ball_succ.1 hk with hk | ⟨n, hn, hk⟩
        · exact ih k hk
        · obtain ⟨a, ha, hr⟩ := ih n hn
          exact ⟨a, ha, .tail hr hk⟩
    exact this 64 b h
  · rintro ⟨a, ha, hr⟩
    induction hr with
    | refl => exact cls_self ha
    | tail _ e ih => exact cls_closed r s _ _ ih e
theorem has_cls_one {r : List B} {a b : Nat} (ha : a < 64) : has (cls r (1#64 <<< a)) b = true ↔ Rch r a b := by
  rw [has_cls]
  constructor
  · rintro ⟨x, hx, h⟩
    rw [has_one a x (has_lt hx)] at hx
    have : x = a := by simpa using hx
    subst this; exact h
  · intro h; exact ⟨a, by rw [has_one a a ha]; simp, h⟩
theorem edge_bk {r : List B} (hv : Valid r) {a b : Nat} : has (row (bk r) b) a = true ↔ has (row r a) b = true := by
  rw [has_bk hv.1]
  exact ⟨fun h => h.2, fun h => ⟨hv.2 a b h, h⟩⟩
theorem valid_bk {r : List B} (hv : Valid r) : Valid (bk r) := by
  refine ⟨by rw [bk_len]; exact hv.1, fun i k h => ?_⟩
  rw [edge_bk hv] at h
  rw [bk_len]; exact row_lt h
theorem bk_bk {r : List B} (hv : Valid r) : bk (bk r) = r := by
  refine list_ext_row (by rw [bk_len, bk_len]) fun k _ => eq_of_iff fun a => ?_
  rw [edge_bk (valid_bk hv), edge_bk hv]
theorem rch_bk {r : List B} (hv : Valid r) {a b : Nat} : Rch (bk r) a b ↔ Rch r b a := by
  constructor
  · intro h
    induction h with
    | refl => exact .refl _
    | tail _ e ih => exact .head ((edge_bk hv).1 e) ih
  · intro h
    induction h with
    | refl => exact .refl _
    | tail _ e ih => exact .head ((edge_bk hv).2 e) ih
theorem chks_bits {r : List B} (hv : Valid r) {ss : List B} (h : ∀ s ∈ ss, ∀ k, has s k = true → k < r.length) : chks r ss = 0 := chks_zero.2 ⟨hv, h⟩
theorem chks_bit {r : List B} (hv : Valid r) {a : Nat} (ha : a < r.length) : chks r [1#64 <<< a] = 0 := chks_bits hv fun s hs k hk => by
  have : s = 1#64 <<< a := by simpa using hs
  subst this
  rw [has_one a k (has_lt hk)] at hk
  have : k = a := by simpa using hk
  omega
end Go.Proofs.YtlhhcgiifgkngaaDoor
namespace Go.Proofs.YtlhhcgiifgkngaaDoor
/-- the order as far as it has gone -/
structure KOrd (r : List B) (o : List Nat) (left : B) : Prop where
  nodup : o.Nodup
  lt : ∀ n ∈ o, n < r.length
  left_iff : ∀ k, has left k = true ↔ k < r.length ∧ k ∉ o
  needs : ∀ i (h : i < o.length) k, has (row r o[i]) k = true → k ∈ o.take i
/-- nobody of those left can be next -/
def Stuck (r : List B) (left : B) : Prop := ∀ n, has left n = true → ∃ k, has (row r n) k = true ∧ has left k = true
theorem kord_nil {r : List B} (h : r.length ≤ 64) : KOrd r [] (belowB r.length) :=
  ⟨List.nodup_nil, (fun n h => by cases h), (fun k => by
    rcases Nat.lt_or_ge k 64 with h1 | h1
    · rw [has_below _ _ h1]; simp
    · rw [has_ge h1]; simp; omega), (fun i h => by cases h)⟩
theorem kord_snoc {r : List B} (hv : Valid r) {o : List Nat} {left : B} (h : KOrd r o left) {n : Nat} (hn : has left n = true) (h0 : row r n &&& left = 0#64) : KOrd r (o ++ [n]) (left &&& ~~~(1#64 <<< n)) := by
  obtain ⟨hl, ho⟩ := (h.left_iff n).1 hn
  refine ⟨?_, ?_, ?_, ?_⟩
  · rw [List.nodup_append]
    refine ⟨h.nodup, by simp, fun a ha b hb => ?_⟩
    have : b = n := by simpa using hb
    subst this
    intro e; subst e; exact ho ha
  · intro m hm
    rcases List.mem_append.1 hm with hm | hm
    · exact h.lt m hm
    · have : m = n := by simpa using hm
      subst this; exact hl
  · intro k
    rw [has_and, Bool.and_eq_true]
    rcases Nat.lt_or_ge k 64 with h1 | h1
    · rw [has_not _ _ h1, has_one n k h1, h.left_iff k, List.mem_append]
      simp only [Bool.not_eq_true', decide_eq_false_iff_not, List.mem_singleton, not_or]
      exact ⟨fun ⟨⟨a, b⟩, c⟩ => ⟨a, b, c⟩, fun ⟨a, b, c⟩ => ⟨⟨a, b⟩, c⟩⟩
    · rw [has_ge h1]
      constructor
      · rintro ⟨h2, _⟩; cases h2
      · rintro ⟨h2, _⟩; have := hv.1; omega
  · intro i hi k hk
    rw [List.length_append] at hi
    rcases Nat.lt_or_ge i o.length with h1 | h1
    · rw [List.getElem_append_left h1] at hk
      rw [List.take_append_of_le_length (by omega)]
      exact h.needs i h1 k hk
    · have hie : i = o.length := by simp at hi; omega
      subst hie
      have hk' : has (row r n) k = true := by simpa using hk
      have hnl : has left k ≠ true := fun hc => by
        have := eq_zero_iff.1 h0 k
        rw [has_and, hk', hc] at this; cases this
      have hko : k ∈ o := by
        by_cases hc : k ∈ o
        · exact hc
        · exact absurd ((h.left_iff k).2 ⟨hv.2 n k hk', hc⟩) hnl
      rw [List.take_left]; exact hko
theorem clear_lt {l : B} {n : Nat} (h : has l n = true) : un (l &&& ~~~(1#64 <<< n)) < un l := by
  have h1 : un (l &&& ~~~(1#64 <<< n)) ≤ un l := by unfold un; rw [BitVec.toNat_and]; exact Nat.and_le_left
  rcases Nat.lt_or_ge (un (l &&& ~~~(1#64 <<< n))) (un l) with h2 | h2
  · exact h2
  · have h3 : l &&& ~~~(1#64 <<< n) = l := un_inj (by omega)
    have h4 : has (l &&& ~~~(1#64 <<< n)) n = has l n := by rw [h3]
    rw [has_and, has_not _ _ (has_lt h), has_one n n (has_lt h), h] at h4
    simp at h4
/-- a set in which each needs another one of it is never touched -/
theorem kord_keeps {r : List B} {o : List Nat} {left : B} (h : KOrd r o left) {X : Nat → Prop} (hX : ∀ n, X n → ∃ k, X k ∧ has (row r n) k = true) {n : Nat} (hn : X n) : n ∉ o := by
  have key : ∀ i, ∀ j, j ≤ i → ∀ (hj : j < o.length), ¬ X o[j] := by
    intro i
    induction i with
    | zero =>
      intro j hj hjl hx
      obtain ⟨k, _, hk⟩ := hX _ hx
      have := h.needs j hjl k hk
      have hj0 : j = 0 := by omega
      subst hj0
      simp at this
    | succ i ih =>
      intro j hj hjl hx
      obtain ⟨k, hxk, hk⟩ := hX _ hx
      have hm := h.needs j hjl k hk
      obtain ⟨m, hm1, hm2⟩ := List.mem_iff_getElem.1 hm
      rw [List.length_take] at hm1
      rw [List.getElem_take] at hm2
      exact ih m (by omega) (by omega) (by rw [hm2]; exact hxk)
  intro hmem
  obtain ⟨j, hj, he⟩ := List.mem_iff_getElem.1 hmem
  exact key j j (Nat.le_refl _) hj (by rw [he]; exact hn)
theorem stuck_sub {r : List B} {o : List Nat} {l l2 : B} (h : KOrd r o l) (hs : Stuck r l2) {n : Nat} (hn : has l2 n = true) : has l n = true := by
  obtain ⟨k, hk, _⟩ := hs n hn
  refine (h.left_iff n).2 ⟨row_lt hk, kord_keeps h (X := fun m => has l2 m = true) (fun m hm => ?_) hn⟩
  obtain ⟨q, h1, h2⟩ := hs m hm
  exact ⟨q, h2, h1⟩
theorem stuck_zero_iff {r : List B} {o o2 : List Nat} {l l2 : B} (h : KOrd r o l) (hs : Stuck r l) (h2 : KOrd r o2 l2) (hs2 : Stuck r l2) : l = 0#64 ↔ l2 = 0#64 := by
  constructor
  · intro h0
    rw [eq_zero_iff] at h0 ⊢
    intro n
    by_cases hn : has l2 n = true
    · have := stuck_sub h hs2 hn
      rw [h0] at this; cases this
    · simpa using hn
  · intro h0
    rw [eq_zero_iff] at h0 ⊢
    intro n
    by_cases hn : has l n = true
    · have := stuck_sub h2 hs hn
      rw [h0] at this; cases this
    · simpa using hn
theorem kord_len {r : List B} (hv : Valid r) {o : List Nat} {l : B} (h : KOrd r o l) : o.length ≤ 64 := by
  have h1 : o.length ≤ (List.range r.length).length := List.Nodup.length_le_of_subset h.nodup (fun n hn => List.mem_range.2 (h.lt n hn))
  have := hv.1
  simp at h1; omega
theorem kord_all {r : List B} {o : List Nat} (h : KOrd r o 0#64) : o.length = r.length := by
  have h1 : o.length ≤ (List.range r.length).length := List.Nodup.length_le_of_subset h.nodup (fun n hn => List.mem_range.2 (h.lt n hn))
  have h2 : (List.range r.length).length ≤ o.length := List.Nodup.length_le_of_subset List.nodup_range (fun n hn => by
    by_cases hc : n ∈ o
    · exact hc
    · have := (h.left_iff n).2 ⟨List.mem_range.1 hn, hc⟩
      rw [has_zero] at this; cases this)
  simp at h1 h2; omega
end Go.Proofs.YtlhhcgiifgkngaaDoor
namespace Go.Proofs.YtlhhcgiifgkngaaDoor
open Go.RowKit
set_option maxRecDepth 100000 in
set_option maxHeartbeats 4000000 in
theorem order_ok (p : Option Addr) (n c : Nat) (r : List B) (hv : Valid r) (w : World) (hR : RowsAt w p n r) (hT : Tab w) :
    Calls Tryd.prog 142 #[.slice p n c] w
      fun e w' => ∃ (o : List Nat) (left : B) (g : Option Addr) (cg : Nat), e = .returned (.tuple #[.slice g o.length cg, .int .u64 (un left)]) ∧ KOrd r o left ∧ Stuck r left ∧ w'.ownsRow w.heap.size 3 1 (.slice g o.length cg) o.length (ints o) ∧ Below w.heap.size w w' := by
  have hl := hR.len
  subst hl
  have hbig := hR.big
  unfold maxLen at hbig
  have h64 := hv.1
  have HV := Lib.hid hv
  clear hv
  go_enter Tryd.func142, Tryd.ntmps142
  go_wp2_with (go_at_call 14; refine (Below_ok _ h64 _).mono ?_; rintro e w' ⟨rfl, rfl⟩)
  go_loopw [4, 6] (fun l v wr => ∃ (o : List Nat) (left : B), l = .int .u64 (un left) ∧ Hid (KOrd r o left) ∧ wr.ownsRow w.heap.size 3 1 v o.length (ints o) ∧ Below w.heap.size w wr) (fun l _ _ => (intOf l).toNat)
  case atStart => exact ⟨[], _, rfl, kord_nil h64, World.ownsRow_nil _ _ _ _, Below.refl _ _⟩
  case round =>
    obtain ⟨o, left, rfl, HO, hown, hbr⟩ := hrel
    obtain ⟨wo, rfl⟩ : ∃ wo : World, wo = wr := ⟨_, rfl⟩
    have hRr := hR.below hbr
    have hTr := hT.below hbr
    have hszr := hbr.size
    go_wp2_with (go_at_call 160; refine (Next_ok _ _ _ hTr).mono ?_; rw [nextV_parts]; rintro e w' ⟨rfl, rfl⟩)
    go_loop [7, 8, 9] (fun i x b => ∃ (m : Nat), m ≤ 64 ∧ i = .int .i64 (-1) ∧ x = .int .i64 (nextI left m) ∧ b = .bool (nextB left m) ∧ Hid (∀ k, k < m → has left k = true → row r k &&& left ≠ 0#64)) (fun _ x b => muIs x b)
    case atStart => exact ⟨0, by omega, rfl, rfl, rfl, show ∀ k, _ from fun k hk => absurd hk (by omega)⟩
    case round =>
      obtain ⟨m, hm, rfl, rfl, rfl, HM⟩ := hrel
      cases hnb : nextB left m
      · -- nobody can be next
        have hst : Stuck r left := by
          intro a ha
          have hne : row r a &&& left ≠ 0#64 := by
            rcases Nat.lt_or_ge a m with h1 | h1
            · exact HM.out a h1 ha
            · rw [next_false hnb a h1] at ha; cases ha
          obtain ⟨k, hk⟩ := exists_of_ne hne
          rw [has_and, Bool.and_eq_true] at hk
          exact ⟨k, hk⟩
        have HS := Lib.hid hst
        obtain ⟨g, cg, rfl, _⟩ := own_form hown
        clear hst HM hnb hRr hR
        go_wp2
        go_ret2
        exact ⟨o, left, g, cg, rfl, HO.out, HS.out, hown, hbr⟩
      · obtain ⟨j, hj, hmj, hj64, hsj, hno⟩ := next_true hnb
        have hjr : j < r.length := ((HO.out.left_iff j).1 hsj).1
        obtain ⟨ad, rfl, hb, hc⟩ := hRr.cell hjr
        rw [hj]
        have hol : o.length ≤ 64 := kord_len HV.out HO.out
        by_cases hz : row r j &&& left = 0#64
        · have e0 : (un (row r j &&& left) : Int) = 0 := un_zero_int hz
          have HN := Lib.hid (kord_snoc HV.out HO.out hsj hz)
          have HC := Lib.hid (clear_lt hsj)
          obtain ⟨g, cg, rfl, hfb⟩ := own_form hown
          have HIS : Hid (ints (o ++ [j]) = ints o ++ [.int .i64 (j : Int)]) := ints_snoc o j
          have HBR := Lib.hid hbr
          have HOW := Lib.hid hown
          have HFB := Lib.hid hfb
          clear hz HM hno hsj hb hRr hR hnb hj hown hbr hfb
          generalize row r j = x at *
          go_wp2_with (at_builtin; refine app_int _ rfl _ _ rfl w.heap.size _ o.length _ rfl (HOW.out.alloc _) wo.heap.size (.int .i64 (j : Int)) rfl rfl ?c1 (by omega) ?c2 ?_; rotate_right; intro v' w2 hown2 hgrow2)
          case c2 => omega
          case roundEnd =>
            rw [← HIS.out] at hown2
            have hb2 : Below w.heap.size w w2 := (HBR.out.alloc hszr _).grown hgrow2 (by simp; omega) (fun k hk => (HFB.out k hk).1)
            refine ⟨⟨o ++ [j], _, rfl, HN.out, by simpa using hown2, hb2⟩, ?_⟩
            have := HC.out
            simp [intOf]; omega
        · have e0 := un_ne0 hz
          have HN : Hid (∀ k, k < j + 1 → has left k = true → row r k &&& left ≠ 0#64) := by
            show ∀ k, _
            intro k hk hlk
            rcases Nat.lt_or_ge k m with h1 | h1
            · exact HM.out k h1 hlk
            · rcases Nat.lt_or_ge k j with h2 | h2
              · rw [hno k h1 h2] at hlk; cases hlk
              · have : k = j := by omega
                subst this; exact hz
          have HMU := Lib.hid (mu_next left j hj64)
          have HE : Hid (((j : Int) + 1).toNat = j + 1) := by show ((j : Int) + 1).toNat = j + 1; omega
          clear hz HM hno hsj hb hRr hR hnb hj
          generalize row r j = x at *
          go_wp2_with (go_at_call 160; refine (Next_ok _ _ _ hTr).mono ?_; rw [HE.out, nextV_parts]; rintro e w' ⟨rfl, rfl⟩)
          go_round
          case rel => exact ⟨j + 1, by omega, rfl, rfl, rfl, HN.out⟩
          case measure => exact HMU.out
end Go.Proofs.YtlhhcgiifgkngaaDoor
namespace Go.Proofs.YtlhhcgiifgkngaaDoor
open Go.RowKit
/-- where a number first stands in a list, or -1 -/
def firstAt (xs : List Nat) (x : Nat) : Int := if x ∈ xs then (xs.idxOf x : Int) else -1
theorem firstAt_hit {xs : List Nat} {x k : Nat} (hk : k < xs.length) (hx : xs[k] = x) (hno : x ∉ xs.take k) : firstAt xs x = (k : Int) := by
  have hm : x ∈ xs := by rw [← hx]; exact List.getElem_mem hk
  unfold firstAt
  rw [if_pos hm]
  have h1 : xs.idxOf x = k := by
    clear hm
    induction xs generalizing k with
    | nil => simp at hk
    | cons y ys ih =>
      cases k with
      | zero => simp at hx; subst hx; simp
      | succ k =>
        simp at hk hx hno
        have h2 := ih hk hx hno.2
        have h3 : (y == x) = false := by simp only [beq_eq_false_iff_ne, ne_eq]; exact fun h => hno.1 h.symm
        rw [List.idxOf_cons, h3, h2]
        simp
  rw [h1]
set_option maxHeartbeats 400000 in
theorem index_ok (xs : List Nat) (x : Nat) (p : Option Addr) (n c b : Nat) (w : World) (hr : Reads w b 1 p n (ints xs)) (hn : n ≤ maxLen) :
    Calls Tryd.prog 103 #[.slice p n c, .int .i64 (x : Int)] w fun e w' => e = .returned (.int .i64 (firstAt xs x)) ∧ w = w' := by
  unfold maxLen at hn
  have hl : xs.length = n := by have := hr.1; simpa [ints] using this
  subst hl
  go_enter Tryd.func103, Tryd.ntmps103
  go_wp2
  go_loop [8] (fun i => ∃ k : Nat, k ≤ xs.length ∧ i = .int .i64 k ∧ Hid (x ∉ xs.take k)) (fun i => xs.length - (intOf i).toNat)
  case atStart => exact ⟨0, Nat.zero_le _, rfl, show x ∉ xs.take 0 by simp⟩
  case round =>
    obtain ⟨k, hk, rfl, HK⟩ := hrel
    by_cases hlt : k < xs.length
    · obtain ⟨ad, rfl, _, hc⟩ := hr.int_at hlt
      have hg : xs.getD k 0 = xs[k] := by simp [hlt]
      by_cases h0 : x = xs.getD k 0
      · have HF : Hid (firstAt xs x = (k : Int)) := firstAt_hit hlt (by rw [← hg]; exact h0.symm) HK.out
        rw [← h0] at hc
        clear h0 hg HK hr
        go_wp2
        go_ret
        exact ⟨by rw [HF.out]; rfl, rfl⟩
      · have HN : Hid (x ∉ xs.take (k + 1)) := by
          show x ∉ _
          rw [List.take_succ_eq_append_getElem hlt, List.mem_append]
          rintro (h1 | h1)
          · exact HK.out h1
          · apply h0; rw [hg]; simpa using h1
        have e1 : ((x : Int) == (xs.getD k 0 : Int)) = false := by simp only [beq_eq_false_iff_ne, ne_eq]; omega
        clear hg HK hr h0
        generalize xs.getD k 0 = y at *
        go_wp2
        go_round
        case rel => exact ⟨k + 1, by omega, by go_num, HN.out⟩
        case measure => simp [intOf]; omega
    · have HF : Hid (firstAt xs x = -1) := by
        show firstAt xs x = -1
        unfold firstAt
        have := HK.out
        rw [List.take_of_length_le (by omega)] at this
        rw [if_neg this]
      go_wp2
      go_ret
      exact ⟨by rw [HF.out]; rfl, rfl⟩
def isIn (xs : List Nat) (x : Nat) : Bool := decide (x ∈ xs)
theorem firstAt_sign (xs : List Nat) (x : Nat) : decide (0 ≤ firstAt xs x) = isIn xs x := by
  unfold firstAt isIn
  by_cases h : x ∈ xs <;> simp [h]
set_option maxHeartbeats 400000 in
theorem contains_ok (xs : List Nat) (x : Nat) (p : Option Addr) (n c b : Nat) (w : World) (hr : Reads w b 1 p n (ints xs)) (hn : n ≤ maxLen) :
    Calls Tryd.prog 53 #[.slice p n c, .int .i64 (x : Int)] w fun e w' => e = .returned (.bool (isIn xs x)) ∧ w = w' := by
  have hs := firstAt_sign xs x
  go_enter Tryd.func53, Tryd.ntmps53
  go_wp2_with (go_at_call 103; refine (index_ok xs x _ _ _ _ _ hr hn).mono ?_; rintro e w' ⟨rfl, rfl⟩)
  go_ret
  exact ⟨by simp, rfl⟩
/-- what Order answers of right rows -/
def OrderPost (r : List B) (w : World) (e : Ending) (w' : World) : Prop :=
  (∃ (o : List Nat) (g : Option Addr) (cg : Nat), e = .returned (.tuple #[.slice g o.length cg, .int .i64 0]) ∧ KOrd r o 0#64 ∧ Stuck r 0#64 ∧ w'.ownsRow w.heap.size 3 1 (.slice g o.length cg) o.length (ints o) ∧ Below w.heap.size w w') ∨
  (∃ (o : List Nat) (left : B), e = .returned (.tuple #[.slice none 0 0, .int .i64 8]) ∧ left ≠ 0#64 ∧ KOrd r o left ∧ Stuck r left ∧ Below w.heap.size w w')
set_option maxHeartbeats 1000000 in
theorem Order_yes (p : Option Addr) (n c : Nat) (r : List B) (h : chkR r = 0) (w : World) (hR : RowsAt w p n r) (hT : Tab w) :
    Calls Tryd.prog 100 #[.slice p n c] w (OrderPost r w) := by
  have H := Lib.hid h
  clear h
  go_enter Tryd.func100, Tryd.ntmps100
  go_wp2_with (go_at_call 70; refine (Check_ok _ _ _ r _ hR).mono ?_; rw [H.out]; rintro e w' ⟨rfl, rfl⟩)
  refine (order_ok p n c r (chkR_zero.1 H.out) w hR hT).mono ?_
  rintro e w1 ⟨o, left, g, cg, rfl, hO, hS, hown, hb⟩
  have HO := Lib.hid hO
  have HS := Lib.hid hS
  clear hO hS hR hT
  by_cases h0 : left = 0#64
  · have e0 : (un left : Int) = 0 := un_zero_int h0
    have H0 := Lib.hid h0
    clear h0
    go_wp2
    go_ret2
    have h0 := H0.out
    subst h0
    exact .inl ⟨o, g, cg, rfl, HO.out, HS.out, hown, hb⟩
  · have e0 := un_ne0 h0
    have e1 := un_ne1 h0
    have H0 := Lib.hid h0
    clear h0
    go_wp2
    go_ret2
    exact .inr ⟨o, left, rfl, H0.out, HO.out, HS.out, hb⟩
set_option maxHeartbeats 1000000 in
theorem Order_no (p : Option Addr) (n c : Nat) (r : List B) (h : chkR r ≠ 0) (w : World) (hR : RowsAt w p n r) :
    Calls Tryd.prog 100 #[.slice p n c] w fun e w' => e = .returned (.tuple #[.slice none 0 0, .int .i64 (chkR r)]) ∧ w = w' := by
  obtain ⟨h1, h2⟩ := int_ne h
  clear h
  go_enter Tryd.func100, Tryd.ntmps100
  go_wp2_with (go_at_call 70; refine (Check_ok _ _ _ r _ hR).mono ?_; rintro e w' ⟨rfl, rfl⟩)
  go_ret2
  exact ⟨rfl, rfl⟩
theorem knots_rows : chkR [2#64, 0#64] = 0 := by decide +kernel
theorem knots_order {o : List Nat} {left : B} (h : KOrd [2#64, 0#64] o left) (hs : Stuck [2#64, 0#64] left) : o = [1, 0] ∧ left = 0#64 := by
  have row0 : ∀ k, has (row [2#64, 0#64] 0) k = true → k = 1 := by
    intro k hk
    have hlt := has_lt hk
    revert hk; revert hlt; revert k
    decide +kernel
  have row1 : ∀ n k, 1 ≤ n → has (row [2#64, 0#64] n) k = true → False := by
    intro n k hn hk
    have := row_lt hk
    have hn1 : n = 1 := by simp at this; omega
    subst hn1
    have hlt := has_lt hk
    revert hk; revert hlt; revert k
    decide +kernel
  have hl0 : ∀ n, has left n = true → False := by
    intro n hn
    obtain ⟨k, h1, h2⟩ := hs n hn
    rcases Nat.lt_or_ge n 1 with h3 | h3
    · have hn0 : n = 0 := by omega
      subst hn0
      have hk1 := row0 k h1
      subst hk1
      obtain ⟨j, h4, _⟩ := hs 1 h2
      exact row1 1 j (by omega) h4
    · exact row1 n k h3 h1
  have hleft : left = 0#64 := eq_zero_iff.2 fun n => by
    by_cases hn : has left n = true
    · exact absurd (hl0 n hn) id
    · simpa using hn
  subst hleft
  have hlen := kord_all h
  simp at hlen
  refine ⟨?_, rfl⟩
  match o, hlen, h with
  | [a, b], _, h =>
    have ha := h.lt a (by simp)
    have hb := h.lt b (by simp)
    have hne : a ≠ b := by have := h.nodup; simp at this; exact this
    simp at ha hb
    have h01 : has (row [2#64, 0#64] 0) 1 = true := by decide +kernel
    rcases (show a = 0 ∨ a = 1 by omega) with rfl | rfl
    · have := h.needs 0 (by simp) 1 h01
      simp at this
    · have : b = 0 := by omega
      subst this; rfl
end Go.Proofs.YtlhhcgiifgkngaaDoor
