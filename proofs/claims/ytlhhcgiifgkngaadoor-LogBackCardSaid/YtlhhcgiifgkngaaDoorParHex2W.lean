/- The walks of strconv.ParseUint at base 16 and of span.Read. Conditions: the text is of at most 2^47 bytes; the two errors' variables hold an error or nil. -/
import Derived.Test.YtlhhcgiifgkngaaDoorParHexW
import Derived.Test.YtlhhcgiifgkngaaDoorHexW
import Derived.Test.YtlhhcgiifgkngaaDoorSpanW
namespace Go.Proofs.YtlhhcgiifgkngaaDoor
open Go.RowKit Go.Shelf Go.Sort
theorem parGo_code : ∀ (l : List UInt8) (n : Nat), (parGo l n).2 = 0 ∨ (parGo l n).2 = 1 ∨ (parGo l n).2 = 2 := by
  intro l
  induction l with
  | nil => intro n; exact .inl rfl
  | cons c l ih =>
    intro n
    unfold parGo
    split
    · exact .inr (.inr rfl)
    · split
      · exact .inr (.inr rfl)
      · split
        · exact .inr (.inl rfl)
        · exact ih _
theorem par_code (l : List UInt8) : (par l).2 = 0 ∨ (par l).2 = 1 ∨ (par l).2 = 2 := by
  unfold par
  split
  · exact .inr (.inr rfl)
  · exact parGo_code _ _
/-- the two errors' variables hold an error, or nil -/
structure EVs (w : World) : Prop where
  syn : ∃ ev, w.cell? ⟨2, 0, none⟩ = some ev ∧ (ev = .nilIface ∨ ∃ te pe, ev = .iface te pe)
  ran : ∃ ev, w.cell? ⟨3, 0, none⟩ = some ev ∧ (ev = .nilIface ∨ ∃ te pe, ev = .iface te pe)
theorem EVs.below {w w' : World} (h : EVs w) (hb : Below w.heap.size w w') : EVs w' := by
  obtain ⟨⟨e1, h1, h2⟩, ⟨e3, h3, h4⟩⟩ := h
  exact ⟨⟨e1, by rw [hb.cell (World.block_lt_of_cell? w _ h1)]; exact h1, h2⟩, ⟨e3, by rw [hb.cell (World.block_lt_of_cell? w _ h3)]; exact h3, h4⟩⟩
set_option maxHeartbeats 2000000 in
theorem parU_ok (s : ByteArray) (hs : s.size ≤ 140737488355328) (w : World) (hE : EVs w) :
    Calls Tryd.prog 78 #[.string s, .int .i64 16, .int .i64 64] w fun e w' => (((par s.data.toList).2 = 0 ∧ e = .returned (.tuple #[.int .u64 ((par s.data.toList).1 : Int), .nilIface])) ∨ ((par s.data.toList).2 ≠ 0 ∧ ∃ v N, e = .returned (.tuple #[v, .iface 218 (.pointer (some ⟨N, 0, none⟩))]))) ∧ Below w.heap.size w w' := by
  have H := Lib.hid (parI_ok s hs w)
  have HEv := Lib.hid hE
  have HSz := Lib.hid hs
  clear hE hs
  obtain ⟨⟨v, E⟩, hp⟩ : ∃ q, q = par s.data.toList := ⟨_, rfl⟩
  have hcode := par_code s.data.toList
  rw [← hp] at H hcode ⊢
  clear hp
  simp only at hcode
  have HH : Hid (Calls Tryd.prog 123 #[.string s, .int .i64 16, .int .i64 64] w fun e w' => e = .returned (.tuple #[.int .u64 (v : Int), errI E]) ∧ Below w.heap.size w w') := H.out
  clear H
  rcases hcode with rfl | rfl | rfl
  · rw [show errI 0 = .nilIface from rfl] at HH
    go_enter Tryd.func78, Tryd.ntmps78
    go_wp2_with (go_at_call 123; refine HH.out.mono ?_; rintro e w' ⟨rfl, hb⟩; have HB := Lib.hid hb; clear hb)
    go_ret2
    exact ⟨.inl ⟨trivial, rfl⟩, HB.out⟩
  · rw [show errI 1 = .iface 216 (.int .i64 1) from rfl] at HH
    have HT : Hid (∀ u, Below w.heap.size w u → Calls Tryd.prog 124 #[.string ⟨#[80, 97, 114, 115, 101, 85, 105, 110, 116]⟩, .string s, .int .i64 16, .int .i64 64, .iface 216 (.int .i64 1)] u fun e w' => (∃ N, e = .returned (.iface 218 (.pointer (some ⟨N, 0, none⟩)))) ∧ Below u.heap.size u w') := by
      show ∀ u, _
      intro u hu
      obtain ⟨ev, h1, h2⟩ := (HEv.out.below hu).ran
      refine (Tryd.strconv_toError_range _ s 16 64 ev u (by have := HSz.out; omega) h1 h2).mono ?_
      rintro e w' ⟨N, rfl, _, _, hb⟩
      exact ⟨⟨N, rfl⟩, hb⟩
    go_enter Tryd.func78, Tryd.ntmps78
    go_wp2_with (first
      | (go_at_call 124; refine (HT.out _ HB.out).mono ?_; rintro e w'' ⟨⟨N, rfl⟩, hb⟩; have HB2 := Lib.hid (HB.out.trans (hb.mono HB.out.size)); clear hb)
      | (go_at_call 123; refine HH.out.mono ?_; rintro e w' ⟨rfl, hb⟩; have HB := Lib.hid hb; clear hb))
    go_ret2
    exact ⟨.inr ⟨by decide, _, N, rfl⟩, HB2.out⟩
  · rw [show errI 2 = .iface 216 (.int .i64 2) from rfl] at HH
    have HT : Hid (∀ u, Below w.heap.size w u → Calls Tryd.prog 124 #[.string ⟨#[80, 97, 114, 115, 101, 85, 105, 110, 116]⟩, .string s, .int .i64 16, .int .i64 64, .iface 216 (.int .i64 2)] u fun e w' => (∃ N, e = .returned (.iface 218 (.pointer (some ⟨N, 0, none⟩)))) ∧ Below u.heap.size u w') := by
      show ∀ u, _
      intro u hu
      obtain ⟨ev, h1, h2⟩ := (HEv.out.below hu).syn
      refine (Tryd.strconv_toError_syntax _ s 16 64 ev u (by have := HSz.out; omega) h1 h2).mono ?_
      rintro e w' ⟨N, rfl, _, _, hb⟩
      exact ⟨⟨N, rfl⟩, hb⟩
    go_enter Tryd.func78, Tryd.ntmps78
    go_wp2_with (first
      | (go_at_call 124; refine (HT.out _ HB.out).mono ?_; rintro e w'' ⟨⟨N, rfl⟩, hb⟩; have HB2 := Lib.hid (HB.out.trans (hb.mono HB.out.size)); clear hb)
      | (go_at_call 123; refine HH.out.mono ?_; rintro e w' ⟨rfl, hb⟩; have HB := Lib.hid hb; clear hb))
    go_ret2
    exact ⟨.inr ⟨by decide, _, N, rfl⟩, HB2.out⟩
theorem run_frombitsT (x : Nat) (hx : x < 2 ^ 64) (w : World) : (callFunc 79 #[.int .u64 (x : Int)]).run Tryd.prog w = .ok (.value (.float .f64 x)) w := by
  have h := run_frombits (BitVec.ofNat 64 x) w
  have e : un (BitVec.ofNat 64 x) = x := by unfold un; rw [BitVec.toNat_ofNat]; omega
  rw [e] at h
  exact h
/-- what span.Read answers -/
def ReadPost (s : ByteArray) (e : Ending) : Prop :=
  (∃ x : Nat, x < 2 ^ 64 ∧ s = ⟨(txtH x).toArray⟩ ∧ e = .returned (.tuple #[.float .f64 x, .int .i64 0])) ∨ ((∀ x : Nat, x < 2 ^ 64 → s ≠ ⟨(txtH x).toArray⟩) ∧ e = .returned (.tuple #[.float .f64 0, .int .i64 3]))
set_option maxHeartbeats 4000000 in
theorem spanRead_ok (s : ByteArray) (hs : s.size ≤ 140737488355328) (w : World) (hE : EVs w) (hT : Tab w) :
    Calls Tryd.prog 37 #[.string s] w fun e w' => ReadPost s e ∧ Below w.heap.size w w' := by
  have H := parU_ok s hs w hE
  have htx : ∀ x : Nat, x < 2 ^ 64 → s = ⟨(txtH x).toArray⟩ → par s.data.toList = (x, 0) := by
    rintro x hx rfl
    exact par_txt hx
  have hv64 : (par s.data.toList).1 < 2 ^ 64 := by
    unfold par
    split
    · exact Nat.two_pow_pos 64
    · exact par_lt _ _ (Nat.two_pow_pos 64)
  obtain ⟨⟨v, E⟩, hp⟩ : ∃ q, q = par s.data.toList := ⟨_, rfl⟩
  rw [← hp] at H htx hv64
  clear hp
  simp only at hv64
  by_cases hE0 : E = 0
  · subst hE0
    have HH : Hid (Calls Tryd.prog 78 #[.string s, .int .i64 16, .int .i64 64] w fun e w' => e = .returned (.tuple #[.int .u64 (v : Int), .nilIface]) ∧ Below w.heap.size w w') := by
      show Calls _ _ _ _ _
      refine H.mono ?_
      rintro e w' ⟨h1 | h1, hb⟩
      · exact ⟨h1.2, hb⟩
      · exact absurd rfl h1.1
    have HX : Hid (∀ x : Nat, x < 2 ^ 64 → s = ⟨(txtH x).toArray⟩ → v = x) := by
      show ∀ x, _
      intro x hx h
      have := htx x hx h
      injection this
    have HT := Lib.hid hT
    have HV := Lib.hid hv64
    clear H htx
    by_cases h16 : s.size = 16
    · have kfb := run_frombitsT v hv64
      have HTt : Hid (∀ u, Below w.heap.size w u → Calls Tryd.prog 38 #[.float .f64 v] u fun e w' => e = .returned (.string ⟨(txtH v).toArray⟩) ∧ Below u.heap.size u w') := by
        show ∀ u, _
        intro u hu
        exact spanText_ok v hv64 u (HT.out.below hu)
      obtain ⟨z, hz⟩ : ∃ z : ByteArray, z = ⟨(txtH v).toArray⟩ := ⟨_, rfl⟩
      rw [← hz] at HTt
      have HZ := Lib.hid hz
      clear hz hv64 hT
      by_cases hzs : z = s
      · subst hzs
        have HZ2 := HZ
        clear HX
        go_enter Tryd.func37, Tryd.ntmps37
        go_wp2_with (first
          | (go_at_call 38; refine (HTt.out _ HB.out).mono ?_; rintro e w2 ⟨rfl, hb⟩; have HB2 := Lib.hid (HB.out.trans (hb.mono HB.out.size)); clear hb)
          | (go_at_call 78; refine HH.out.mono ?_; rintro e w1 ⟨rfl, hb⟩; have HB := Lib.hid hb; clear hb))
        go_ret2
        exact ⟨.inl ⟨v, HV.out, HZ.out, rfl⟩, HB2.out⟩
      · have HNE : Hid (∀ x : Nat, x < 2 ^ 64 → s ≠ ⟨(txtH x).toArray⟩) := by
          show ∀ x, _
          intro x hx h
          obtain rfl := HX.out x hx h
          exact hzs (HZ.out.trans h.symm)
        have hzl : (z.toList == s.toList) = false := by
          rw [beq_eq_false_iff_ne]
          intro e
          rw [Lib.toList_data, Lib.toList_data] at e
          exact hzs (ByteArray.ext (Array.toList_inj.1 e))
        go_enter Tryd.func37, Tryd.ntmps37
        go_wp2_with (first
          | (go_at_call 38; refine (HTt.out _ HB.out).mono ?_; rintro e w2 ⟨rfl, hb⟩; have HB2 := Lib.hid (HB.out.trans (hb.mono HB.out.size)); clear hb)
          | (go_at_call 78; refine HH.out.mono ?_; rintro e w1 ⟨rfl, hb⟩; have HB := Lib.hid hb; clear hb))
        go_ret2
        exact ⟨.inr ⟨HNE.out, rfl⟩, HB2.out⟩
    · have HNE : Hid (∀ x : Nat, x < 2 ^ 64 → s ≠ ⟨(txtH x).toArray⟩) := by
        show ∀ x, _
        rintro x hx rfl
        exact h16 (by show (txtH x).toArray.size = 16; simp [txtH_len hx])
      have h16i : ¬ ((s.size : Int) = 16) := by omega
      clear hv64 hT h16
      go_enter Tryd.func37, Tryd.ntmps37
      go_wp2_with (go_at_call 78; refine HH.out.mono ?_; rintro e w1 ⟨rfl, hb⟩; have HB := Lib.hid hb; clear hb)
      go_ret2
      exact ⟨.inr ⟨HNE.out, rfl⟩, HB.out⟩
  · have HH : Hid (Calls Tryd.prog 78 #[.string s, .int .i64 16, .int .i64 64] w fun e w' => (∃ v N, e = .returned (.tuple #[v, .iface 218 (.pointer (some ⟨N, 0, none⟩))])) ∧ Below w.heap.size w w') := by
      show Calls _ _ _ _ _
      refine H.mono ?_
      rintro e w' ⟨h1 | h1, hb⟩
      · exact absurd h1.1 hE0
      · exact ⟨h1.2, hb⟩
    have HNE : Hid (∀ x : Nat, x < 2 ^ 64 → s ≠ ⟨(txtH x).toArray⟩) := by
      show ∀ x, _
      intro x hx h
      have := htx x hx h
      injection this with _ h2
      exact hE0 h2
    clear H htx hv64 hT hE hE0
    go_enter Tryd.func37, Tryd.ntmps37
    go_wp2_with (go_at_call 78; refine HH.out.mono ?_; rintro e w1 ⟨⟨v, N, rfl⟩, hb⟩; have HB := Lib.hid hb; clear hb)
    go_ret2
    exact ⟨.inr ⟨HNE.out, rfl⟩, HB.out⟩
end Go.Proofs.YtlhhcgiifgkngaaDoor
