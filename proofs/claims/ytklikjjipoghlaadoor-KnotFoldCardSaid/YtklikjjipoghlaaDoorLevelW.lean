/- The walks through chain.Levels and the fact chains. Conditions: the table reads as listed. -/
import Derived.Test.YtklikjjipoghlaaDoorCloseW
import Derived.Deep.Onto
namespace Go.Proofs.YtklikjjipoghlaaDoor
open Go.RowKit
theorem ints_set (cur : List Nat) (k x : Nat) : (ints cur).set k (.int .i64 (x : Int)) = ints (cur.set k x) := by
  unfold ints; rw [List.map_set]
theorem made_zero_int (n : Nat) : (madeCells (Value.int .i64 0).cells (n * 1)).toList = ints (List.replicate n 0) := by
  unfold madeCells ints
  apply List.ext_getElem
  · simp
  · intro i h1 h2
    simp [Value.cells, Nat.mod_one]
theorem own_int_at {w : World} {base b n c : Nat} {xs : List Nat} (h : w.ownsRow base 3 1 (.slice (some ⟨b, 0, none⟩) n c) n (ints xs)) {k : Nat} (hk : k < n) : w.cell? ⟨b, k, none⟩ = some (.int .i64 (xs.getD k 0 : Int)) := by
  rw [h.cellAt k (by omega)]
  have hl : xs.length = n := by have := h.1; simpa [ints] using this
  simp [ints, hl, hk]
/-- what Levels answers of right rows -/
def LevPost (r : List B) (w : World) (e : Ending) (w' : World) : Prop :=
  (∃ (L : List Nat) (g : Option Addr) (cg : Nat), e = .returned (.tuple #[.slice g r.length cg, .int .i64 0]) ∧ Levels r L ∧ w'.ownsRow w.heap.size 3 1 (.slice g r.length cg) r.length (ints L) ∧ Below w.heap.size w w') ∨
  (∃ (o : List Nat) (left : B), e = .returned (.tuple #[.slice none 0 0, .int .i64 8]) ∧ left ≠ 0#64 ∧ KOrd r o left ∧ Stuck r left ∧ Below w.heap.size w w')
set_option maxRecDepth 100000 in
set_option maxHeartbeats 4000000 in
theorem Levels_yes (p : Option Addr) (n c : Nat) (r : List B) (h : chkR r = 0) (w : World) (hR : RowsAt w p n r) (hT : Tab w) :
    Calls Tryd.prog 15 #[.slice p n c] w (LevPost r w) := by
  have H := Lib.hid h
  have HV := Lib.hid (chkR_zero.1 h)
  have h64 := (chkR_zero.1 h).1
  have hl := hR.len
  subst hl
  clear h
  obtain ⟨i0, hi, hz0, hz1, hz2⟩ := info_parts info_int
  go_enter Tryd.func15, Tryd.ntmps15
  go_wp2_with fail
  refine (chainBelow_yes p _ c r H.out w hR hT).mono ?_
  rintro e w1 (⟨o, p1, g, c1, cg, rfl, hO, _, hown, hb1⟩ | ⟨o, left, rfl, hne, hO, hS, hb1⟩)
  · have hR1 := hR.below hb1
    have hT1 := hT.below hb1
    have HO := Lib.hid hO
    have HLO := Lib.hid (kord_all hO)
    have ho64 := kord_len HV.out hO
    clear hO hR hT
    go_wp2_with (at_make; refine wpList_make_full _ rfl _ _ 24 rfl w1.heap.size 3 i0 (.int .i64 0) 1 Tryd.underlying24 hi hz0 hz1 .i64 .i64 (r.length : Int) (r.length : Int) r.length rfl rfl rfl rfl ?b2 ?b3 (Nat.le_refl _) ?_; rotate_right; intro w2 hown2 hgrow)
    case b2 => rw [hz2]; omega
    case b3 => unfold maxLen; omega
    rw [made_zero_int] at hown2
    have hb2 : Below w1.heap.size w1 w2 := (Below.refl _ _).grown hgrow (Nat.le_refl _) (fun k hk => by cases hk)
    have hown' := own_below hown hb2
    have hsz1 := hb1.size
    have HFQ : Hid (∀ b, (Value.slice g o.length cg).ownBlock = some b → w.heap.size ≤ b ∧ b < w1.heap.size) := by
      obtain ⟨_, _, _, h⟩ := own_form hown
      exact h
    clear hgrow hown
    go_wp2
    go_loopw [26] (fun i wr => ∃ (k : Nat) (L : List Nat), k ≤ o.length ∧ i = .int .i64 k ∧ Hid (LevInv r o L k) ∧ wr.ownsRow w1.heap.size 3 1 (.slice (some ⟨w1.heap.size, 0, none⟩) r.length r.length) r.length (ints L) ∧ wr.ownsRow w.heap.size 3 1 (.slice g o.length cg) o.length (ints o) ∧ Below w1.heap.size w1 wr)
      (fun i _ => o.length - (intOf i).toNat)
    case atStart => exact ⟨0, _, Nat.zero_le _, rfl, lev_start r o, hown2, hown', hb2⟩
    case round =>
      obtain ⟨k, L, hk, rfl, HB, hownr, hownq, hbr⟩ := hrel
      obtain ⟨wo, rfl⟩ : ∃ wo : World, wo = wr := ⟨_, rfl⟩
      clear hown2 hb2 hown'
      by_cases hlt : k < o.length
      · have hRr := hR1.below hbr
        have hTr := hT1.below hbr
        obtain ⟨ado, rfl, _, hco⟩ := (Reads.of_own hownq).int_at hlt
        have hnr : o.getD k 0 < r.length := HO.out.lt _ (by simp [hlt])
        have hz0 := lev_zero HO.out hlt HB.out
        have hnx0 := lev_next HO.out hlt HB.out
        obtain ⟨n, hn⟩ : ∃ n, n = o.getD k 0 := ⟨_, rfl⟩
        rw [← hn] at hnr hco hz0 hnx0
        obtain ⟨adr, rfl, _, hc⟩ := hRr.cell hnr
        obtain ⟨x, hx⟩ : ∃ x, x = row r n := ⟨_, rfl⟩
        rw [← hx] at hc hz0 hnx0
        have HZ := Lib.hid hz0
        have HNX := Lib.hid hnx0
        have HNN := Lib.hid hn
        have HX := Lib.hid hx
        clear hz0 hnx0 hn hx
        go_wp2_with (go_at_call 16; refine (List_ok x _ hTr).mono ?_; rintro e w3 ⟨gl, cl, rfl, hownl, hb3⟩)
        have hownw := own_below hownr hb3
        have hownv := own_below hownq hb3
        have hg0 : w1.heap.size < wo.heap.size := by
          rcases hownr.2 with ⟨h, _⟩ | ⟨g', _, _, h, _, hh, _⟩
          · simp at h
          · simp only [Value.slice.injEq, Option.some.injEq, Addr.mk.injEq, and_true] at h
            rcases Nat.lt_or_ge w1.heap.size wo.heap.size with h1 | h1
            · exact h1
            · rw [← h.1, Array.getElem?_eq_none h1] at hh; cases hh
        have hbw := below_next hbr hb3
        have hszr := hbr.size
        have hsz3 := hb3.size
        have hlx := Lib.hid (cnt_lst x)
        have hcx := cnt_le x
        rw [← HZ.out] at hownw
        have hL := hownl
        have HK : Hid (k < o.length) := hlt
        have HBO := Lib.hid HB.out
        clear hownr hownq hownl hRr hTr hc hco HB hbr
        go_loopw [36] (fun i wi => ∃ (j : Nat) (cu : List Nat), j ≤ cnt x ∧ i = .int .i64 j ∧ Hid (cu = L.set n (topOf L ((lst x).take j))) ∧ wi.ownsRow w1.heap.size 3 1 (.slice (some ⟨w1.heap.size, 0, none⟩) r.length r.length) r.length (ints cu) ∧ wi.ownsRow w.heap.size 3 1 (.slice (some ado) o.length cg) o.length (ints o) ∧ Below w1.heap.size w1 wi ∧ wi.ownsRow wo.heap.size 3 1 (.slice gl (cnt x) cl) (cnt x) (ints (lst x)))
          (fun i _ => cnt x - (intOf i).toNat)
        case atStart => exact ⟨0, _, Nat.zero_le _, rfl, rfl, hownw, hownv, hbw, hL⟩
        case round =>
          obtain ⟨j, cu, hj, rfl, HC, hownj, hownk, hbj, hLj⟩ := hrel
          clear hownw hbw hL hownv
          by_cases hjl : j < cnt x
          · obtain ⟨al, rfl, hal, hcl⟩ := (Reads.of_own hLj).int_at hjl
            obtain ⟨q, hq⟩ : ∃ q, q = (lst x).getD j 0 := ⟨_, rfl⟩
            obtain ⟨hkr, hk64, hn64, hst0⟩ := lev_in' HV.out HO.out HK.out HBO.out HNN.out HX.out hq HC.out (by rw [← hlx.out]; exact hjl)
            rw [← hq] at hcl
            have HS := Lib.hid hst0
            clear hq
            have hcn := own_int_at hownj hnr
            have hcq := own_int_at hownj hkr
            have hfr := hownj.frozenAt n
            have hst1 := hownj.stored n (.int .i64 ((max (cu.getD n 0) (cu.getD q 0 + 1) : Nat) : Int))
            rw [ints_set] at hst1
            have hst : Hid ((wr.setCell ⟨w1.heap.size, n, none⟩ (.int .i64 ((max (cu.getD n 0) (cu.getD q 0 + 1) : Nat) : Int))).drew.ownsRow w1.heap.size 3 1 (.slice (some ⟨w1.heap.size, 0, none⟩) r.length r.length) r.length (ints (cu.set n (max (cu.getD n 0) (cu.getD q 0 + 1)))) ∧
                wr.grownBy (wr.setCell ⟨w1.heap.size, n, none⟩ (.int .i64 ((max (cu.getD n 0) (cu.getD q 0 + 1) : Nat) : Int))).drew (some w1.heap.size)) :=
              ⟨hst1.1, ⟨hst1.2.os, hst1.2.tape, hst1.2.output, hst1.2.size, hst1.2.block⟩⟩
            have hmx : max (cu.getD n 0 : Int) ((cu.getD q 0 : Int) + 1) = ((max (cu.getD n 0) (cu.getD q 0 + 1) : Nat) : Int) := by omega
            have hne : ∀ b, (Value.slice (some al) (cnt x) cl).ownBlock = some b → b ≠ w1.heap.size := by
              intro b hb he
              obtain ⟨_, _, h1, h2⟩ := own_form hLj
              have := (h2 b hb).1
              omega
            have HBJ := Lib.hid hbj
            have HLJ := Lib.hid hLj
            have HOK := Lib.hid hownk
            have HNE := Lib.hid hne
            clear hownj hst1 hst0 hbj hLj hownk hne HC
            generalize cu.getD n 0 = y at *
            generalize cu.getD q 0 = z at *
            go_wp2
            go_region
            go_wp2
            go_roundw
            case rel =>
              refine ⟨j + 1, _, by omega, by go_num, HS.out, hst.out.1, ?_, ?_, ?_⟩
              · refine HOK.out.kept hst.out.2 (.inr fun h => ?_)
                have := HFQ.out _ h
                omega
              · exact (HBJ.out.grown hst.out.2 HBJ.out.size (fun b hb => by cases hb; exact Nat.le_refl _))
              · refine HLJ.out.kept hst.out.2 (.inr fun h => ?_)
                exact HNE.out _ h rfl
            case measure => simp [intOf]; omega
          · obtain rfl : j = cnt x := by omega
            have hcu : cu = L.set n (topOf L (lst x)) := by rw [HC.out, hlx.out, List.take_length]
            have HN2 : Hid (LevInv r o cu (k + 1)) := by show LevInv r o cu (k + 1); rw [hcu]; exact HNX.out
            clear hcu HC hLj
            go_wp2
            go_roundw
            case rel => exact ⟨k + 1, cu, by omega, by go_num, HN2.out, hownj, hownk, hbj⟩
            case measure => simp [intOf]; omega
      · obtain rfl : k = o.length := by omega
        have hd := lev_done HV.out (by have := HO.out; exact this) HB.out
        have HD := Lib.hid hd
        clear hd HB hownq
        have HBB := Lib.hid (below_next hb1 hbr)
        have HOW := Lib.hid (World.ownsRow.mono hownr hsz1)
        clear hbr hownr hb1
        go_wp2
        go_ret2
        exact .inl ⟨L, _, _, rfl, HD.out, HOW.out, HBB.out⟩
  · have HO := Lib.hid hO
    have HS := Lib.hid hS
    have HN := Lib.hid hne
    clear hR hT hO hS hne
    go_wp2
    go_ret2
    exact .inr ⟨o, left, rfl, HN.out, HO.out, HS.out, hb1⟩
set_option maxHeartbeats 1000000 in
theorem Levels_no (p : Option Addr) (n c : Nat) (r : List B) (h : chkR r ≠ 0) (w : World) (hR : RowsAt w p n r) :
    Calls Tryd.prog 15 #[.slice p n c] w fun e w' => e = .returned (.tuple #[.slice none 0 0, .int .i64 (chkR r)]) ∧ w = w' := by
  obtain ⟨h1, h2⟩ := int_ne h
  have H := Lib.hid h
  clear h
  go_enter Tryd.func15, Tryd.ntmps15
  go_wp2_with (go_at_call 48; refine (chainBelow_no p _ c r H.out w hR).mono ?_; rintro e w' ⟨rfl, rfl⟩)
  go_ret2
  exact ⟨rfl, rfl⟩
theorem chains_lev {L : List Nat} (h : Levels [2#64, 0#64] L) : L.getD 0 0 = 1 := by
  have h0 := h.2.1 0 (by decide)
  have h1 := h.2.1 1 (by decide)
  have e0 : lst (row [2#64, 0#64] 0) = [1] := by decide +kernel
  have e1 : lst (row [2#64, 0#64] 1) = [] := by decide +kernel
  rw [e1] at h1
  rw [e0] at h0
  have h2 : L.getD 1 0 = 0 := h1
  rw [h0]
  show max 0 (L.getD 1 0 + 1) = 1
  rw [h2]; rfl
set_option maxHeartbeats 1000000 in
theorem chains_below (w : World) (hT : Tab w) : Calls Tryd.prog 14 #[] w fun e w' => e = .returned (.bool true) ∧ Below w.heap.size w w' := by
  have hb1 : Below w.heap.size w (w.alloc (.cells #[.int .u64 2, .int .u64 0] 28)) := (Below.refl _ _).alloc (Nat.le_refl _) _
  have hR := rows_two w 2#64 0#64
  go_enter Tryd.func14, Tryd.ntmps14
  go_wp2_with fail
  refine (Levels_yes _ _ _ [2#64, 0#64] knots_rows _ hR (hT.below hb1)).mono ?_
  rintro e w1 (⟨L, g, cg, rfl, hL, hown, hb2⟩ | ⟨o, left, rfl, hne, hO, hS, hb2⟩)
  · have h0 := chains_lev hL
    have hL1 := Reads.of_own hown
    obtain ⟨ad, rfl, _, hc⟩ := hL1.int_at (k := 0) (by simp)
    rw [h0] at hc
    have hb := below_next hb1 hb2
    clear h0 hL hL1 hown hb1 hb2 hR hT
    have hc0 : w1.cell? ad = some (.int .i64 1) := by simpa [Addr.add] using hc
    clear hc
    go_wp2
    go_ret
    exact ⟨rfl, hb⟩
  · exact absurd (knots_order hO hS).2 hne
end Go.Proofs.YtklikjjipoghlaaDoor
