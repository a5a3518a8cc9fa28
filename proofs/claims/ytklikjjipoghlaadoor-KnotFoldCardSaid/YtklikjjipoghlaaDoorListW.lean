/- The walk through bits.List: a new list of the numbers of the set, rising. Conditions: the table reads as listed. -/
import Derived.Test.YtklikjjipoghlaaDoorLowW
namespace Go.Proofs.YtklikjjipoghlaaDoor
open Go.RowKit
theorem info_int : (Tryd.prog.info? 3).map (fun i => (i.zero, i.size, i.bytes)) = some (some (.int .i64 0), 1, 8) := by kernel_rfl
theorem ints_snoc (xs : List Nat) (x : Nat) : ints (xs ++ [x]) = ints xs ++ [.int .i64 (x : Int)] := by simp [ints]
theorem take_lst {s x : B} {j : Nat} (h : lst x = (lst s).drop j) (hj : j < (lst s).length) : ints ((lst s).take (j + 1)) = ints ((lst s).take j) ++ [.int .i64 (low x : Int)] := by
  obtain ⟨_, _, h3⟩ := lst_drop h hj
  have hn : nth s j = (lst s)[j] := by unfold nth; simp [hj]
  rw [List.take_succ_eq_append_getElem hj, ints_snoc, h3, hn]
theorem app_int (w : World) {ops : Array Oper} {rest : List Oper} {o : Oper} {a : Act} {Q : Exit → Act → World → Prop} (hgd : o.guard = none) (s x : Operand)
    (ho : o.op = .call { callee := .builtin .append, args := #[s, x], argTypes := #[24, 24] })
    (base : Nat) (v : Value) (n : Nat) (xs : List Value) (hs : a.eval s = v) (hown : w.ownsRow base 3 1 v n xs)
    (g : Nat) (u : Value) (hu : u.oneCell' = true) (hx : a.eval x = .slice (some ⟨g, 0, none⟩) 1 1) (hcell : w.cell? ⟨g, 0, none⟩ = some u)
    (hn : n ≤ 1099511627776) (hbase : base ≤ w.heap.size)
    (h : ∀ v' w', w'.ownsRow base 3 1 v' (n + 1) (xs ++ [u]) → w.grownBy w' v.ownBlock → wpList Tryd.prog ops Q rest (a.put o.dst v') w') : wpList Tryd.prog ops Q (o :: rest) a w := by
  obtain ⟨i0, hi, hz0, hz1, hz2⟩ := info_parts info_int
  refine wpList_append_own w hgd s x 24 ho base 3 i0 (.int .i64 0) 1 8 Tryd.underlying24 hi hz0 hz1 hz2 rfl (by decide) v n xs hs hown ⟨g, 0, none⟩ 1 1 [u] hx rfl ?_ ?_ (by unfold maxLen; omega) (by omega) hbase (fun v' w' h1 h2 _ => h v' w' h1 h2)
  · intro j q hj
    match j, hj with
    | 0, hj => simp at hj; subst hj; simpa [Addr.add] using hcell
  · intro q hq; simp at hq; subst hq; exact hu
theorem own_form {w : World} {base e n : Nat} {v : Value} {xs : List Value} (h : w.ownsRow base e 1 v n xs) : ∃ (g : Option Addr) (c : Nat), v = .slice g n c ∧ ∀ b, v.ownBlock = some b → base ≤ b ∧ b < w.heap.size := by
  rcases h.2 with ⟨rfl, rfl⟩ | ⟨g, cap, cur, rfl, hb, hh, _⟩
  · exact ⟨none, 0, rfl, fun b hb => by cases hb⟩
  · refine ⟨_, cap, rfl, fun b hb' => ?_⟩
    have : g = b := by simpa [Value.ownBlock] using hb'
    subst this
    exact ⟨hb, by
      rcases Nat.lt_or_ge g w.heap.size with h1 | h1
      · exact h1
      · rw [Array.getElem?_eq_none h1] at hh; cases hh⟩
theorem drop_lt {t : B} (h : t ≠ 0#64) : un (t &&& (t - 1#64)) < un t := by
  have h0 : un t ≠ 0 := fun e => h (un_inj (by rw [e]; rfl))
  have h1 : un (t - 1#64) = un t - 1 := by
    unfold un at h0 ⊢
    rw [BitVec.toNat_sub_of_le]
    · rfl
    · rw [BitVec.le_def]; show 1 ≤ t.toNat; omega
  have h2 : un (t &&& (t - 1#64)) ≤ un (t - 1#64) := by unfold un; rw [BitVec.toNat_and]; exact Nat.and_le_right
  omega
set_option maxRecDepth 100000 in
set_option maxHeartbeats 2000000 in
theorem List_ok (s : B) (w : World) (hT : Tab w) : Calls Tryd.prog 16 #[.int .u64 (un s)] w
    fun e w' => ∃ (g : Option Addr) (c : Nat), e = .returned (.slice g (cnt s) c) ∧ w'.ownsRow w.heap.size 3 1 (.slice g (cnt s) c) (cnt s) (ints (lst s)) ∧ Below w.heap.size w w' := by
  have hc64 := cnt_le s
  have hcl := cnt_lst s
  have HC := Lib.hid hcl
  clear hcl
  obtain ⟨i0, hi, hz0, hz1, hz2⟩ := info_parts info_int
  go_enter Tryd.func16, Tryd.ntmps16
  go_wp2_with (first | (go_at_call 24; refine (count_ok _ _).mono ?_; rintro e w' ⟨rfl, rfl⟩) | (at_make; refine wpList_make_own _ rfl _ _ 24 rfl w.heap.size 3 i0 (.int .i64 0) 1 Tryd.underlying24 hi hz0 hz1 .i64 .i64 (cnt s : Int) (cnt s) rfl rfl rfl ?b2 ?b3 (Nat.le_refl _) ?_; rotate_right; intro w1 hown hgrow))
  case b2 => rw [hz2]; omega
  case b3 => unfold maxLen; omega
  have hb1 : Below w.heap.size w w1 := (Below.refl _ _).grown hgrow (Nat.le_refl _) (fun k hk => by cases hk)
  have hT1 := hT.below hb1
  clear hgrow
  go_loopw [0, 3] (fun x v wr => ∃ (j : Nat) (t : B), j ≤ cnt s ∧ x = .int .u64 (un t) ∧ Hid (lst t = (lst s).drop j) ∧ wr.ownsRow w.heap.size 3 1 v j (ints ((lst s).take j)) ∧ Below w.heap.size w wr)
    (fun x _ _ => (intOf x).toNat)
  case atStart => exact ⟨0, s, by omega, rfl, by show lst s = _; simp, hown, hb1⟩
  case round =>
    obtain ⟨j, t, hj, rfl, HX, hownr, hbr⟩ := hrel
    have hTr := hT.below hbr
    by_cases hlt : j < cnt s
    · have hjl : j < (lst s).length := by rw [← HC.out]; exact hlt
      have HD := Lib.hid (lst_drop HX.out hjl)
      have HT := Lib.hid (take_lst HX.out hjl)
      have e0 := un_ne0 HD.out.1
      have HL := Lib.hid (drop_lt HD.out.1)
      clear HX hjl
      obtain ⟨g, c, rfl, hfb⟩ := own_form hownr
      have hsz := hbr.size
      go_wp2_with (first | (go_at_call 49; refine (least_ok t HD.out.1 _ hTr).mono ?_; rintro e w' ⟨rfl, rfl⟩) | (at_builtin; refine app_int _ rfl _ _ rfl w.heap.size _ j _ rfl (hownr.alloc _) wr.heap.size (.int .i64 (low t : Int)) rfl rfl ?c1 (by omega) ?c2 ?_; rotate_right; intro v' w2 hown2 hgrow2))
      case c1 => simp
      case c2 => simp; omega
      rw [← HT.out] at hown2
      have hb2 : Below w.heap.size w w2 := (hbr.alloc hsz _).grown hgrow2 (by simp; omega) (fun k hk => (hfb k hk).1)
      clear hown hb1 hownr hgrow2 hbr hfb hTr hT1
      go_wp2
      go_roundw
      case rel => exact ⟨j + 1, _, by omega, rfl, HD.out.2.1, hown2, hb2⟩
      case measure => simp [intOf]; exact HL.out
    · obtain rfl : j = cnt s := by omega
      have ht0 : t = 0#64 := by
        have h1 : lst t = [] := by rw [HX.out, HC.out]; simp
        by_cases h0 : t = 0#64
        · exact h0
        · rw [lst_step h0] at h1; cases h1
      have e0 : (un t : Int) = 0 := un_zero_int ht0
      have hall : (lst s).take (cnt s) = lst s := by rw [HC.out]; exact List.take_length
      rw [hall] at hownr
      clear ht0 hall HX
      obtain ⟨g, c, rfl, hfb⟩ := own_form hownr
      go_wp2
      go_ret
      exact ⟨g, c, rfl, hownr, hbr⟩
end Go.Proofs.YtklikjjipoghlaaDoor
