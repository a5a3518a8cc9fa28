/- The walk through dom.over. Conditions: the table reads as listed. -/
import Derived.Test.YtklikjjipoghlaaDoorKnotW
import Derived.Test.YtklikjjipoghlaaDoorLevel
import Derived.Test.YtklikjjipoghlaaDoorDom
import Derived.Deep.LoopGhost
import Derived.Deep.Onto
namespace Go.Proofs.YtklikjjipoghlaaDoor
open Go.RowKit
theorem own_u64_at {w : World} {base b n c : Nat} {D : List B} (h : w.ownsRow base 28 1 (.slice (some ⟨b, 0, none⟩) n c) n (u64s D)) {k : Nat} (hk : k < n) : w.cell? ⟨b, k, none⟩ = some (.int .u64 (un (row D k) : Int)) := by
  rw [h.cellAt k (by omega)]
  have hl : D.length = n := by have := h.1; simpa [u64s] using this
  unfold u64s row
  simp [hl, hk]
theorem own_lt {w : World} {base e b n c : Nat} {xs : List Value} (h : w.ownsRow base e 1 (.slice (some ⟨b, 0, none⟩) n c) n xs) : b < w.heap.size := by
  rcases h.2 with ⟨h, _⟩ | ⟨g', _, _, h, _, hh, _⟩
  · simp at h
  · simp only [Value.slice.injEq, Option.some.injEq, Addr.mk.injEq, and_true] at h
    rcases Nat.lt_or_ge b w.heap.size with h1 | h1
    · exact h1
    · rw [← h.1, Array.getElem?_eq_none h1] at hh; cases hh
theorem own_full' {w : World} {base e n c : Nat} {g : Option Addr} {xs : List Value} (h : w.ownsRow base e 1 (.slice g n c) n xs) (hn : 0 < n) : ∃ b : Nat, g = some ⟨b, 0, none⟩ ∧ n ≤ c ∧ c ≤ 9223372036854775807 := by
  rcases h.2 with ⟨_, rfl⟩ | ⟨b, cap, cur, he, _, _, h1, h2, _⟩
  · have := h.1
    simp at this
    omega
  · injection he with e1 e2 e3
    subst e3
    unfold maxLen at h2
    exact ⟨b, e1, h1, by omega⟩
theorem own_lo {w : World} {base e b n c : Nat} {xs : List Value} (h : w.ownsRow base e 1 (.slice (some ⟨b, 0, none⟩) n c) n xs) : base ≤ b := by
  rcases h.2 with ⟨h, _⟩ | ⟨g', _, _, h, hb, _⟩
  · simp at h
  · simp only [Value.slice.injEq, Option.some.injEq, Addr.mk.injEq, and_true] at h
    rw [h.1]; exact hb
/-- the first rows, as far as they are filled -/
def fillN (m : Nat) (come : B) (j : Nat) : List B := (List.range m).map fun n => if n ∈ (lst come).take j then come else 0#64
theorem fill_zero (m : Nat) (come : B) : fillN m come 0 = List.replicate m 0#64 := by
  unfold fillN
  apply List.ext_getElem (by simp)
  intro i h1 h2
  simp
theorem fill_next {m : Nat} {come : B} {j : Nat} (hj : j < (lst come).length) : fillN m come (j + 1) = (fillN m come j).set ((lst come).getD j 0) come := by
  have e : (lst come).take (j + 1) = (lst come).take j ++ [(lst come).getD j 0] := by rw [List.take_succ_eq_append_getElem hj, getD_at hj]
  unfold fillN
  apply List.ext_getElem (by simp)
  intro i h1 h2
  rw [List.getElem_set]
  simp only [List.getElem_map, List.getElem_range]
  by_cases h : (lst come).getD j 0 = i
  · rw [if_pos h, if_pos]
    rw [e, List.mem_append]; exact .inr (List.mem_singleton.2 h.symm)
  · rw [if_neg h]
    have : i ∈ (lst come).take (j + 1) ↔ i ∈ (lst come).take j := by
      rw [e, List.mem_append, List.mem_singleton]
      exact ⟨fun h1 => h1.elim id (fun h2 => absurd h2.symm h), .inl⟩
    by_cases h3 : i ∈ (lst come).take j
    · rw [if_pos h3, if_pos (this.2 h3)]
    · rw [if_neg h3, if_neg (fun h4 => h3 (this.1 h4))]
theorem fill_all (r : List B) (root : Nat) : (fillN r.length (cls r (1#64 <<< root)) (lst (cls r (1#64 <<< root))).length).set root (1#64 <<< root) = dom0 r root := by
  unfold fillN dom0
  congr 1
  apply List.map_congr_left
  intro n _
  rw [List.take_length]
  by_cases h : has (cls r (1#64 <<< root)) n = true
  · rw [if_pos h, if_pos (mem_lst.2 h)]
  · rw [if_neg h, if_neg (fun h2 => h (mem_lst.1 h2))]
def foldD (D : List B) (come : B) (xs : List Nat) : B := xs.foldl (fun s p => s &&& row D p) come
theorem foldD_next (D : List B) (come : B) (xs : List Nat) {j : Nat} (hj : j < xs.length) : foldD D come (xs.take (j + 1)) = foldD D come (xs.take j) &&& row D (xs.getD j 0) := by
  unfold foldD
  rw [List.take_succ_eq_append_getElem hj, List.foldl_append, getD_at hj]; rfl
/-- one round over the numbers, the first j of them -/
def DomRound (r : List B) (root : Nat) (D0 D : List B) (b : Bool) (j : Nat) : Prop :=
  DomInv r root D ∧ (b = false → D = D0 ∧ ∀ n ∈ (lst (cls r (1#64 <<< root) &&& ~~~(1#64 <<< root))).take j, nxt r (cls r (1#64 <<< root)) D n = row D n) ∧ (b = true → domSum D < domSum D0)
theorem mem_but {s : B} {x n : Nat} : n ∈ lst (s &&& ~~~(1#64 <<< x)) ↔ has s n = true ∧ n ≠ x := by
  rw [mem_lst, has_and, Bool.and_eq_true]
  rcases Nat.lt_or_ge n 64 with h | h
  · rw [has_not _ _ h, has_one x n h]; simp
  · rw [has_ge h]; simp
theorem round_at {r : List B} (hv : Valid r) {root : Nat} (hr : root < r.length) {j : Nat} (hj : j < (lst (cls r (1#64 <<< root) &&& ~~~(1#64 <<< root))).length) {n : Nat} (hn : n = (lst (cls r (1#64 <<< root) &&& ~~~(1#64 <<< root))).getD j 0) :
    has (cls r (1#64 <<< root)) n = true ∧ n ≠ root ∧ n < r.length := by
  have h64 : root < 64 := by have := hv.1; omega
  have h1 : n ∈ lst (cls r (1#64 <<< root) &&& ~~~(1#64 <<< root)) := by rw [hn]; exact getD_mem hj
  have h2 := (mem_but).1 h1
  exact ⟨h2.1, h2.2, ball_in hv (s := 1#64 <<< root) (fun k hk => by rw [has_one' h64] at hk; omega) 64 n h2.1⟩
theorem round_same {r : List B} {root : Nat} {D0 D : List B} {b : Bool} {j : Nat} (h : DomRound r root D0 D b j) (hj : j < (lst (cls r (1#64 <<< root) &&& ~~~(1#64 <<< root))).length) {n : Nat} (hn : n = (lst (cls r (1#64 <<< root) &&& ~~~(1#64 <<< root))).getD j 0)
    (he : nxt r (cls r (1#64 <<< root)) D n = row D n) : DomRound r root D0 D b (j + 1) := by
  refine ⟨h.1, fun hb => ?_, h.2.2⟩
  obtain ⟨h1, h2⟩ := h.2.1 hb
  refine ⟨h1, fun m hm => ?_⟩
  rw [List.take_succ_eq_append_getElem hj, List.mem_append, List.mem_singleton, ← getD_at hj, ← hn] at hm
  rcases hm with hm | hm
  · exact h2 m hm
  · rw [hm]; exact he
theorem round_new {r : List B} (hv : Valid r) {root : Nat} (hr : root < r.length) {D0 D : List B} {b : Bool} {j : Nat} (h : DomRound r root D0 D b j) (hj : j < (lst (cls r (1#64 <<< root) &&& ~~~(1#64 <<< root))).length) {n : Nat} (hn : n = (lst (cls r (1#64 <<< root) &&& ~~~(1#64 <<< root))).getD j 0)
    (he : nxt r (cls r (1#64 <<< root)) D n ≠ row D n) : DomRound r root D0 (D.set n (nxt r (cls r (1#64 <<< root)) D n)) true (j + 1) := by
  obtain ⟨h1, h2, _⟩ := round_at hv hr hj hn
  refine ⟨dom_next hv hr h.1 h1 h2, (fun hb => by cases hb), fun _ => ?_⟩
  have h3 := dom_less hv hr h.1 h1 h2 he
  cases b
  · rw [← (h.2.1 rfl).1]; exact h3
  · exact Nat.lt_trans h3 (h.2.2 rfl)
theorem round_end {r : List B} (hv : Valid r) {root : Nat} (hr : root < r.length) {D0 D : List B} {b : Bool} (h : DomRound r root D0 D b (lst (cls r (1#64 <<< root) &&& ~~~(1#64 <<< root))).length) :
    DomInv r root D ∧ (b = false → DomDone r root D) ∧ 2 * domSum D + (if b = true then 1 else 0) < 2 * domSum D0 + 1 := by
  have h64 : root < 64 := by have := hv.1; omega
  refine ⟨h.1, fun hb => ⟨h.1, fun n h1 h2 => ?_⟩, ?_⟩
  · obtain ⟨_, h3⟩ := h.2.1 hb
    rw [List.take_length] at h3
    exact h3 n ((mem_but).2 ⟨h1, h2⟩)
  · cases b
    · rw [(h.2.1 rfl).1]; simp
    · have := h.2.2 rfl
      simp; omega
set_option maxRecDepth 100000 in
set_option maxHeartbeats 8000000 in
theorem over_ok (p : Option Addr) (n c : Nat) (r : List B) (hv : Valid r) (root : Nat) (hr : root < r.length) (w : World) (hR : RowsAt w p n r) (hT : Tab w) :
    Calls Tryd.prog 63 #[.slice p n c, .int .i64 (root : Int)] w
      fun e w' => ∃ (D : List B) (g : Option Addr) (cg : Nat), e = .returned (.slice g n cg) ∧ DomDone r root D ∧ w'.ownsRow w.heap.size 28 1 (.slice g n cg) n (u64s D) ∧ Below w.heap.size w w' := by
  have hl := hR.len
  subst hl
  have HBG := Lib.hid hR.big
  have h64 := hv.1
  have hr64 : root < 64 := by omega
  have HV := Lib.hid hv
  have H0 := Lib.hid (chkR_zero.2 hv)
  have H1 := Lib.hid (chks_bit hv hr)
  have HDS := Lib.hid (dom_start hv hr)
  have HFA := Lib.hid (fill_all r root)
  have HIN : Hid (∀ k, has (cls r (1#64 <<< root)) k = true → k < r.length) := chks_in (chks_cls (chks_bit hv hr)) (by simp)
  obtain ⟨i0, hi, hz0, hz1, hz2⟩ := info_parts info_u64
  clear hv
  go_enter Tryd.func63, Tryd.ntmps63
  go_wp2_with fail
  refine (From_yes p _ c r (1#64 <<< root) H1.out w hR hT).mono ?_
  rintro e w1 ⟨rfl, hb1⟩
  have hR1 := hR.below hb1
  have hT1 := hT.below hb1
  clear hR hT
  obtain ⟨come, hcome⟩ : ∃ come, come = cls r (1#64 <<< root) := ⟨_, rfl⟩
  have HC := Lib.hid hcome
  rw [← hcome] at HFA HIN ⊢
  clear hcome
  go_wp2_with fail
  refine (Back_yes p _ c r H0.out w1 hR1 hT1).mono ?_
  rintro e w2 ⟨g, cg, rfl, hownb, hb2⟩
  have hB2 := rows_own hownb (bk_len r) HBG.out
  have hT2 := hT1.below hb2
  have hb12 := below_next hb1 hb2
  clear hownb hb1 hb2 hR1 hT1
  go_wp2_with (at_make; refine wpList_make_full _ rfl _ _ 22 rfl w2.heap.size 28 i0 (.int .u64 0) 1 Tryd.underlying22 hi hz0 hz1 .i64 .i64 (r.length : Int) (r.length : Int) r.length rfl rfl rfl rfl ?b2 ?b3 (Nat.le_refl _) ?_; rotate_right; intro w3 hown3 hgrow)
  case b2 => rw [hz2]; omega
  case b3 => unfold maxLen; omega
  rw [made_zero, ← fill_zero r.length come] at hown3
  have hb3 : Below w2.heap.size w2 w3 := (Below.refl _ _).grown hgrow (Nat.le_refl _) (fun k hk => by cases hk)
  have hT3 := hT2.below hb3
  clear hgrow
  have hg3 := own_lt hown3
  go_wp2_with (go_at_call 16; refine (List_ok come _ hT3).mono ?_; rintro e w4 ⟨gl, cl, rfl, hownl, hb4⟩)
  have hown4 := own_below hown3 hb4
  have hbw4 := below_next hb3 hb4
  have hlc := Lib.hid (cnt_lst come)
  have hcc := cnt_le come
  clear hown3 hb3 hb4 hT3
  go_loopw [36] (fun i wr => ∃ j : Nat, j ≤ cnt come ∧ i = .int .i64 j ∧ wr.ownsRow w2.heap.size 28 1 (.slice (some ⟨w2.heap.size, 0, none⟩) r.length r.length) r.length (u64s (fillN r.length come j)) ∧ Below w2.heap.size w2 wr ∧ wr.ownsRow w3.heap.size 3 1 (.slice gl (cnt come) cl) (cnt come) (ints (lst come)))
    (fun i _ => cnt come - (intOf i).toNat)
  case atStart => exact ⟨0, Nat.zero_le _, rfl, hown4, hbw4, hownl⟩
  case round =>
    obtain ⟨j, hj, rfl, hownj, hbj, hLj⟩ := hrel
    clear hown4 hbw4 hownl
    by_cases hjl : j < cnt come
    · have hjl' : j < (lst come).length := by rw [← hlc.out]; exact hjl
      obtain ⟨q, hq⟩ : ∃ q, q = (lst come).getD j 0 := ⟨_, rfl⟩
      have hqr : q < r.length := HIN.out q (mem_lst.1 (by rw [hq]; exact getD_mem hjl'))
      obtain ⟨al, rfl, hal, hcl⟩ := (Reads.of_own hLj).int_at hjl
      have hfn := fill_next (m := r.length) hjl'
      rw [← hq] at hcl hfn
      have hcell := own_u64_at hownj hqr
      have hfr := hownj.frozenAt q
      have hst1 := hownj.stored q (.int .u64 (un come : Int))
      rw [u64s_set, ← hfn] at hst1
      have HST := Lib.hid hst1
      have hne : ∀ b, (Value.slice (some al) (cnt come) cl).ownBlock = some b → b ≠ w2.heap.size := by
        intro b hb he
        obtain ⟨_, _, h1, h2⟩ := own_form hLj
        have := (h2 b hb).1
        omega
      have HNE := Lib.hid hne
      have HBJ := Lib.hid hbj
      have HLJ := Lib.hid hLj
      clear hownj hst1 hbj hLj hne hjl' hq hfn
      generalize row (fillN r.length come j) q = y at *
      go_wp2
      go_roundw
      case rel =>
        refine ⟨j + 1, by omega, by go_num, HST.out.1, ?_, ?_⟩
        · exact HBJ.out.grown HST.out.2 HBJ.out.size (fun b hb => by cases hb; exact Nat.le_refl _)
        · exact HLJ.out.kept HST.out.2 (.inr fun h => HNE.out _ h rfl)
      case measure => simp [intOf]; omega
    · obtain rfl : j = cnt come := by omega
      have hcell := own_u64_at hownj hr
      have hfr := hownj.frozenAt root
      have hst1 := hownj.stored root (.int .u64 (un (1#64 <<< root) : Int))
      rw [u64s_set, hlc.out, HFA.out] at hst1
      have hown5 := Lib.hid hst1.1
      have hbw5 := Lib.hid (hbj.grown hst1.2 hbj.size (fun b hb => by cases hb; exact Nat.le_refl _))
      clear hownj hst1 hbj hLj
      generalize row (fillN r.length come (cnt come)) root = y at *
      go_wp2
      go_loopg [12] (2 * domSum (dom0 r root) + 1) (fun gn b wr => ∃ (D : List B) (bb : Bool), b = .bool bb ∧ Hid (DomInv r root D ∧ (bb = false → DomDone r root D) ∧ 2 * domSum D + (if bb = true then 1 else 0) ≤ gn) ∧ wr.ownsRow w2.heap.size 28 1 (.slice (some ⟨w2.heap.size, 0, none⟩) r.length r.length) r.length (u64s D) ∧ Below w2.heap.size w2 wr)
      case atStart => exact ⟨_, true, rfl, ⟨HDS.out, (fun h => by cases h), by simp⟩, hown5.out, hbw5.out⟩
      case round =>
        obtain ⟨D, bb, rfl, HI, hownd, hbd⟩ := hrel
        obtain ⟨wo, rfl⟩ : ∃ wo : World, wo = wr := ⟨_, rfl⟩
        clear hown5 hbw5 hcell hfr
        cases bb
        · have HD := Lib.hid (HI.out.2.1 rfl)
          have HBB := Lib.hid (below_next hb12 hbd)
          have HOW := Lib.hid (World.ownsRow.mono hownd hb12.size)
          clear hownd hbd hb12 HI
          go_wp2
          go_ret
          exact ⟨D, _, _, rfl, HD.out, HOW.out, HBB.out⟩
        · have hTo := hT2.below hbd
          have hlT := Lib.hid (cnt_lst (come &&& ~~~(1#64 <<< root)))
          have hcT := cnt_le (come &&& ~~~(1#64 <<< root))
          have HS0 : Hid (DomRound r root D D false 0) := ⟨HI.out.1, fun _ => ⟨rfl, fun n hn => by simp at hn⟩, fun h => by cases h⟩
          have HGN : Hid (2 * domSum D + 1 ≤ gk) := by have := HI.out.2.2; exact (by simpa using this : 2 * domSum D + 1 ≤ gk)
          clear HI
          go_wp2_with (go_at_call 16; refine (List_ok (come &&& ~~~(1#64 <<< root)) _ hTo).mono ?_; rintro e wa ⟨gt, ct, rfl, hownt, hba⟩)
          have hownw := own_below hownd hba
          have hbw := below_next hbd hba
          have hszd := own_lt hownd
          clear hownd hbd hba hTo
          go_loopw [12, 57] (fun b i wi => ∃ (j : Nat) (E : List B) (bb : Bool), j ≤ cnt (come &&& ~~~(1#64 <<< root)) ∧ i = .int .i64 j ∧ b = .bool bb ∧ Hid (DomRound r root D E bb j) ∧ wi.ownsRow w2.heap.size 28 1 (.slice (some ⟨w2.heap.size, 0, none⟩) r.length r.length) r.length (u64s E) ∧ Below w2.heap.size w2 wi ∧ wi.ownsRow wo.heap.size 3 1 (.slice gt (cnt (come &&& ~~~(1#64 <<< root))) ct) (cnt (come &&& ~~~(1#64 <<< root))) (ints (lst (come &&& ~~~(1#64 <<< root)))))
            (fun _ i _ => cnt (come &&& ~~~(1#64 <<< root)) - (intOf i).toNat)
          case atStart => exact ⟨0, D, false, Nat.zero_le _, rfl, rfl, HS0.out, hownw, hbw, hownt⟩
          case round =>
            obtain ⟨j, E, bb, hj, rfl, rfl, HE, howne, hbe, hLt⟩ := hrel
            obtain ⟨we, rfl⟩ : ∃ we : World, we = wr := ⟨_, rfl⟩
            clear hownw hbw hownt
            by_cases hjl : j < cnt (come &&& ~~~(1#64 <<< root))
            · have hjl' : j < (lst (come &&& ~~~(1#64 <<< root))).length := by rw [← hlT.out]; exact hjl
              obtain ⟨m, hm⟩ : ∃ m, m = (lst (come &&& ~~~(1#64 <<< root))).getD j 0 := ⟨_, rfl⟩
              have hm' : m = (lst (cls r (1#64 <<< root) &&& ~~~(1#64 <<< root))).getD j 0 := by rw [← HC.out]; exact hm
              have hjc : j < (lst (cls r (1#64 <<< root) &&& ~~~(1#64 <<< root))).length := by rw [← HC.out]; exact hjl'
              obtain ⟨hm1, hm2, hmr⟩ := round_at HV.out hr hjc hm'
              have HRS : Hid (nxt r come E m = row E m → DomRound r root D E bb (j + 1)) := fun h => round_same HE.out hjc hm' (by rw [← HC.out]; exact h)
              have HRN : Hid (nxt r come E m ≠ row E m → DomRound r root D (E.set m (nxt r come E m)) true (j + 1)) := fun h => by
                have := round_new HV.out hr HE.out hjc hm' (by rw [← HC.out]; exact h)
                rw [← HC.out] at this; exact this
              obtain ⟨al, rfl, hal, hcl⟩ := (Reads.of_own hLt).int_at hjl
              rw [← hm] at hcl
              have hBe := hB2.below hbe
              have hTe := hT2.below hbe
              obtain ⟨ab, rfl, hab, hcb⟩ := hBe.cell hmr
              obtain ⟨y, hy⟩ : ∃ y, y = row (bk r) m := ⟨_, rfl⟩
              rw [← hy] at hcb
              obtain ⟨q, hq⟩ : ∃ q, q = y &&& come := ⟨_, rfl⟩
              have HNX : Hid (foldD E come (lst q) ||| 1#64 <<< m = nxt r come E m) := by
                show _ = nxt r come E m
                unfold nxt preds foldD
                rw [hq, hy]
              have HQR : Hid (∀ k, has q k = true → k < r.length) := by
                show ∀ k, _ → _
                intro k hk
                rw [hq, has_and, Bool.and_eq_true] at hk
                exact HIN.out k hk.2
              have HQ := Lib.hid hq
              clear hjl' hm hm' hjc hm1 hm2 hy hq
              go_wp2_with (go_at_call 16; rw [← HQ.out]; refine (List_ok q _ hTe).mono ?_; rintro e wb ⟨gq, cq, rfl, hownq, hbb⟩)
              have howne2 := own_below howne hbb
              have hbe2 := Lib.hid (below_next hbe hbb)
              have hLt2 := Lib.hid (own_below hLt hbb)
              have hXq := Reads.of_own hownq
              have hlq := Lib.hid (cnt_lst q)
              have hcq := cnt_le q
              have HNW : Hid (∀ b, (Value.slice (some al) (cnt (come &&& ~~~(1#64 <<< root))) ct).ownBlock = some b → b ≠ w2.heap.size) := by
                show ∀ b, _ → _
                intro b hb he
                obtain ⟨_, _, h1, h2⟩ := own_form hLt
                have := (h2 b hb).1
                omega
              clear howne hbe hLt hbb hTe hBe hcb hownq
              go_loop [15, 70] (fun s i => ∃ k : Nat, k ≤ cnt q ∧ i = .int .i64 k ∧ s = .int .u64 (un (foldD E come ((lst q).take k)))) (fun _ i => cnt q - (intOf i).toNat)
              case atStart => exact ⟨0, Nat.zero_le _, rfl, rfl⟩
              case round =>
                obtain ⟨k, hk, rfl, rfl⟩ := hrel
                by_cases hkl : k < cnt q
                · have hkl' : k < (lst q).length := by rw [← hlq.out]; exact hkl
                  obtain ⟨v, hvv⟩ : ∃ v, v = (lst q).getD k 0 := ⟨_, rfl⟩
                  have hvr : v < r.length := HQR.out v (mem_lst.1 (by rw [hvv]; exact getD_mem hkl'))
                  have HFN := Lib.hid (foldD_next E come (lst q) hkl')
                  obtain ⟨aq, rfl, _, hcq2⟩ := hXq.int_at hkl
                  rw [← hvv] at hcq2
                  have HFN2 : Hid (foldD E come ((lst q).take (k + 1)) = foldD E come ((lst q).take k) &&& row E v) := by show _ = _; rw [HFN.out, hvv]
                  have hce := own_u64_at howne2 hvr
                  clear hkl' hvv HFN hXq
                  generalize foldD E come ((lst q).take k) = z at *
                  generalize row E v = y2 at *
                  go_wp2
                  go_round
                  case rel => exact ⟨k + 1, by omega, by go_num, by rw [HFN2.out]⟩
                  case measure => simp [intOf]; omega
                · obtain rfl : k = cnt q := by omega
                  have hall : (lst q).take (cnt q) = lst q := by rw [hlq.out]; exact List.take_length
                  rw [hall]
                  have hce := own_u64_at howne2 hmr
                  have hfr := howne2.frozenAt m
                  have hst1 := howne2.stored m (.int .u64 (un (nxt r come E m) : Int))
                  rw [u64s_set] at hst1
                  rw [← HNX.out] at hst1
                  have HST := Lib.hid hst1
                  have HOE := Lib.hid howne2
                  clear hall hXq hst1 howne2
                  by_cases he : nxt r come E m = row E m
                  · have HRR := Lib.hid (HRS.out he)
                    rw [← HNX.out] at he
                    generalize foldD E come (lst q) = z at *
                    generalize row E m = y2 at *
                    have hn1 : ((un (z ||| 1#64 <<< m) : Int) == (un y2 : Int)) = true := by rw [he]; simp
                    have hn2 : ((un (z ||| 1#64 <<< m) : Int) != (un y2 : Int)) = false := by rw [he]; simp
                    clear he
                    go_wp2
                    go_roundw
                    case rel => exact ⟨j + 1, E, bb, by omega, by go_num, rfl, HRR.out, HOE.out, hbe2.out, hLt2.out⟩
                    case measure => simp [intOf]; omega
                  · have HRR := Lib.hid (HRN.out he)
                    rw [← HNX.out] at he HRR
                    have hne : ¬ (un (foldD E come (lst q) ||| 1#64 <<< m) : Int) = (un (row E m) : Int) := fun h => he (un_inj (by omega))
                    generalize foldD E come (lst q) = z at *
                    generalize row E m = y2 at *
                    have hn1 : ((un (z ||| 1#64 <<< m) : Int) == (un y2 : Int)) = false := by simpa using hne
                    have hn2 : ((un (z ||| 1#64 <<< m) : Int) != (un y2 : Int)) = true := by simpa using hne
                    clear he hne
                    go_wp2
                    go_roundw
                    case rel =>
                      refine ⟨j + 1, _, true, by omega, by go_num, rfl, HRR.out, HST.out.1, ?_, ?_⟩
                      · exact hbe2.out.grown HST.out.2 hbe2.out.size (fun b hb => by cases hb; exact Nat.le_refl _)
                      · exact hLt2.out.kept HST.out.2 (.inr fun h => HNW.out _ h rfl)
                    case measure => simp [intOf]; omega
            · obtain rfl : j = cnt (come &&& ~~~(1#64 <<< root)) := by omega
              have hre := round_end HV.out hr (D0 := D) (D := E) (b := bb) (by rw [← HC.out, ← hlT.out]; exact HE.out)
              have HRE := Lib.hid hre
              clear hre HE hLt
              go_wp2
              go_roundg (2 * domSum E + (if bb = true then 1 else 0))
              case measure => have := HRE.out.2.2; have := HGN.out; omega
              case rel => exact ⟨E, bb, rfl, ⟨HRE.out.1, HRE.out.2.1, Nat.le_refl _⟩, howne, hbe⟩
end Go.Proofs.YtklikjjipoghlaaDoor
