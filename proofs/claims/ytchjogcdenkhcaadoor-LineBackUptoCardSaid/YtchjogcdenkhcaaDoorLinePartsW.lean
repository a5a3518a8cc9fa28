/- The walks of line.Join, slices.Equal at lines, and the law LineParts. Conditions: texts of at most 2^48 bytes; the machine's MaxLen is laid. -/
import Derived.Test.YtchjogcdenkhcaaDoorJoinW
import Derived.Test.YtchjogcdenkhcaaDoorGoodP
import Derived.Laws.StructEq
import Derived.Deep.QuietTactic
import Derived.BigQuiet
namespace Go.Proofs.YtchjogcdenkhcaaDoor
open Go.RowKit Go.Shelf
/-- the error of Join -/
def joinE (s : ByteArray) : Int := if 20000 < s.size then 2 else if badB s.data.toList = true then 3 else 0
theorem joinE_len {s : ByteArray} (h : joinE s = 0) : s.size ≤ 20000 ∧ badB s.data.toList = false := by
  unfold joinE at h
  split at h
  · cases h
  · rename_i h1
    split at h
    · cases h
    · rename_i h2
      exact ⟨by omega, by simpa using h2⟩
/-- what Join answers -/
def JoinPost (s : ByteArray) (w : World) (e : Ending) (w' : World) : Prop :=
  ((joinE s ≠ 0 ∧ e = .returned (.tuple #[.slice none 0 0, .int .i64 (joinE s)])) ∨ (joinE s = 0 ∧ ∃ po co, e = .returned (.tuple #[.slice po (joinL s.data.toList).length co, .int .i64 0]) ∧
    w'.ownsRow w.heap.size 30 2 (.slice po (joinL s.data.toList).length co) (joinL s.data.toList).length (cells2 lF lG (joinL s.data.toList)))) ∧ Below w.heap.size w w'
set_option maxHeartbeats 1000000 in
theorem JoinE_ok (s : ByteArray) (hs : s.size ≤ 4611686018427387904) (w : World) (hM : ML w) : Calls Tryd.prog 7 #[.string s] w (JoinPost s w) := by
  by_cases h1 : 20000 < s.size
  · have HE : Hid (joinE s = 2) := by show _ = _; unfold joinE; rw [if_pos h1]
    go_enter Tryd.func7, Tryd.ntmps7
    go_wp2
    go_ret2
    exact ⟨.inl ⟨by rw [HE.out]; decide, by rw [HE.out]; rfl⟩, Below.refl _ _⟩
  · cases h2 : badB s.data.toList
    · have HE : Hid (joinE s = 0) := by show _ = _; unfold joinE; rw [if_neg h1, h2]; rfl
      have HJ := Lib.hid (join_ok s (by omega) w hM)
      have HB := Lib.hid h2
      clear h2
      generalize hlj : joinL s.data.toList = L at HJ
      have HLJ := Lib.hid hlj
      clear hlj
      go_enter Tryd.func7, Tryd.ntmps7
      go_wp2_with (first
        | (go_at_call 17; refine (bad_ok s hs _).mono ?_; rw [HB.out]; rintro e w1 ⟨rfl, rfl⟩)
        | (go_at_call 18; refine HJ.out.mono ?_; rintro e w1 ⟨⟨po, co, rfl, hown⟩, hb⟩; have HO := Lib.hid hown; have HBL := Lib.hid hb; clear hown hb))
      go_ret2
      refine ⟨.inr ⟨HE.out, ?_⟩, HBL.out⟩
      rw [HLJ.out]
      exact ⟨po, co, rfl, HO.out⟩
    · have HE : Hid (joinE s = 3) := by show _ = _; unfold joinE; rw [if_neg h1, if_pos h2]
      have HB := Lib.hid h2
      clear h2
      go_enter Tryd.func7, Tryd.ntmps7
      go_wp2_with (go_at_call 17; refine (bad_ok s hs _).mono ?_; rw [HB.out]; rintro e w1 ⟨rfl, rfl⟩)
      go_ret2
      exact ⟨.inl ⟨by rw [HE.out]; decide, by rw [HE.out]; rfl⟩, Below.refl _ _⟩
abbrev LnH := Int × ByteArray
def hF (x : LnH) : Value := .int .i64 x.1
def hG (x : LnH) : Value := .string x.2
theorem run_neqL_same (x1 : Int) (x2 : ByteArray) (u : World) : (binOp .neq 30 (.agg #[.int .i64 x1, .string x2]) (.agg #[.int .i64 x1, .string x2])).run Tryd.prog u = .ok (.bool false) u := by
  have ht := Tryd.underlying30
  have hu : Tryd.prog.underlying 30 = some (.struct (Tryd.prog.fieldsOf 30)) := by unfold Program.fieldsOf; rw [ht]
  have hs : Tryd.prog.stoodInHeld 30 = false := by kernel_rfl
  rw [run_neq_struct, run_equalIn_agg u 9999 30 _ _ hu hs]
  simp only [Program.fieldsOf, ht]
  simp [Op.eqFields, part, run_equalIn_int, run_equalIn_string, Tryd.underlying3, Tryd.underlying9]
theorem getD_at {α : Type} {l : List α} {k : Nat} (d : α) (h : k < l.length) : l[k]? = some (l.getD k d) := by
  rw [List.getD_eq_getElem?_getD, List.getElem?_eq_getElem h]; rfl
theorem drewN_sum (w : World) (a b : Nat) : (w.drewN a).drewN b = w.drewN (a + b) := by
  induction b with
  | zero => rfl
  | succ b ih => rw [← Nat.add_assoc]; show ((w.drewN a).drewN b).drew = (w.drewN (a + b)).drew; rw [ih]
set_option maxHeartbeats 1000000 in
theorem equalL_same (p q : Option Addr) (n c d : Nat) (es : List LnH) (w : World) (h : P2At hF hG w p n c es) (h2 : P2At hF hG w q n d es) :
    Calls Tryd.prog 10 #[.slice p n c, .slice q n d] w fun e w' => e = .returned (.bool true) ∧ Below w.heap.size w w' := by
  have hl := h.len
  have hbig := h.big
  subst hl
  have HN := Lib.hid h
  have HM := Lib.hid h2
  clear h h2
  go_enter Tryd.func10, Tryd.ntmps10
  go_wp2
  go_loopw [13] (fun i wr => ∃ k : Nat, k ≤ es.length ∧ i = .int .i64 k ∧ Hid (Below w.heap.size w wr)) (fun i _ => es.length - (intOf i).toNat)
  case atStart => exact ⟨0, Nat.zero_le _, rfl, Below.refl _ _⟩
  case round =>
    obtain ⟨k, hk, rfl, HW⟩ := hrel
    by_cases hlt : k < es.length
    · obtain ⟨b, o, rfl, hb, hca, hcb⟩ := (HN.out.below HW.out).cell (getD_at (0, ByteArray.empty) hlt)
      obtain ⟨b2, o2, rfl, hb2, hcc, hcd⟩ := (HM.out.below HW.out).cell (getD_at (0, ByteArray.empty) hlt)
      generalize es.getD k (0, ByteArray.empty) = y at *
      obtain ⟨y1, y2⟩ := y
      simp only [hF, hG] at hca hcb hcc hcd
      have hcb2 : wr.cell? ⟨b, o + k * 2 + 1, none⟩ = some (.string y2) := hcb
      have hcd2 : wr.cell? ⟨b2, o2 + k * 2 + 1, none⟩ = some (.string y2) := hcd
      have hl1 : (k : Int) < (es.length : Int) := by omega
      clear hcb hcd
      have hrun := run_neqL_same y1 y2
      have hgd : Tryd.prog.eqGuardType Tryd.prog.depth 30 = false := by kernel_rfl
      go_wp2
      go_quiet (fail)
      go_wp2
      go_roundw
      case rel => exact ⟨k + 1, by omega, by go_num, below_drawsP HW.out _⟩
      case measure => simp [intOf]; omega
    · obtain rfl : k = es.length := by omega
      go_wp2
      go_ret
      exact ⟨rfl, HW.out⟩
theorem p2_map {α β : Type} {f g : α → Value} {f' g' : β → Value} (φ : α → β) (hf : ∀ x, f' (φ x) = f x) (hg : ∀ x, g' (φ x) = g x) {w : World} {p : Option Addr} {n c : Nat} {l : List α} (h : P2At f g w p n c l) : P2At f' g' w p n c (l.map φ) := by
  refine ⟨by rw [List.length_map]; exact h.len, fun h0 => ?_, h.big⟩
  obtain ⟨b, o, e, h1, h2⟩ := h.at_ h0
  refine ⟨b, o, e, h1, fun k x hx => ?_⟩
  rw [List.getElem?_map, Option.map_eq_some_iff] at hx
  obtain ⟨y, hy, rfl⟩ := hx
  rw [hf, hg]
  exact h2 k y hy
def toH (x : Ln) : LnH := ((x.1 : Int), txt x.2)
theorem own_H {w : World} {base n c : Nat} {e : TypeId} {p : Option Addr} {l : List Ln} (h : w.ownsRow base e 2 (.slice p n c) n (cells2 lF lG l)) (hbig : n ≤ 8796093022208) : P2At hF hG w p n c (l.map toH) :=
  p2_map toH (fun _ => rfl) (fun _ => rfl) (P2At.own h hbig)
theorem joinL_len (s : Bl) : (joinL s).length ≤ s.length := by
  have key : ∀ n s at_, s.length ≤ n → (jg s at_).length ≤ s.length := by
    intro n
    induction n with
    | zero =>
      intro s at_ h
      have : s = [] := List.length_eq_zero_iff.1 (by omega)
      subst this
      rw [jg_nil]; exact Nat.le_refl _
    | succ n ih =>
      intro s at_ h
      by_cases hs : s = []
      · subst hs; rw [jg_nil]; exact Nat.le_refl _
      · have hl := lg_len _ [] s (at_ + 1) (Nat.le_refl _) hs
        have := ih (lg [] s (at_ + 1)).2.1 (lg [] s (at_ + 1)).2.2 (by omega)
        rw [jg_eq hs, List.length_append]
        split
        · simp; omega
        · simp only [List.length_singleton]; omega
  exact key _ s 0 (Nat.le_refl _)
theorem a_line : joinL [97, 10] = [(1, [97])] := by decide
theorem a_E : joinE ⟨#[97, 10]⟩ = 0 := by decide
set_option maxHeartbeats 1000000 in
theorem lines_below (w : World) (hM : ML w) : Calls Tryd.prog 6 #[] w fun e w' => e = .returned (.bool true) ∧ Below w.heap.size w w' := by
  have HJ := Lib.hid (JoinE_ok ⟨#[97, 10]⟩ (by decide) w hM)
  have HE := Lib.hid a_E
  have HL : Hid (joinL (⟨#[97, 10]⟩ : ByteArray).data.toList = [(1, [97])]) := a_line
  go_enter Tryd.func6, Tryd.ntmps6
  go_wp2_with fail
  refine HJ.out.mono ?_
  rintro e w1 ⟨hc, hb⟩
  rcases hc with ⟨hc, _⟩ | ⟨_, po, co, rfl, hown⟩
  · exact absurd HE.out hc
  rw [HL.out] at hown ⊢
  obtain ⟨b, o, rfl, _, c1, c2⟩ := (P2At.own hown (by simp)).cell (k := 0) (x := (1, [97])) rfl
  have HB := Lib.hid hb
  have e1 : w1.cell? ⟨b, o, none⟩ = some (.int .i64 1) := c1
  have e2 : w1.cell? ⟨b, o + 1, none⟩ = some (.string (txt [97])) := c2
  have e3 : ((txt [97]).toList == (⟨#[97]⟩ : ByteArray).toList) = true := by rw [Lib.toList_data, Lib.toList_data]; rfl
  have e4 : ((txt [97]).toList == ([97] : List UInt8)) = true := by rw [Lib.toList_data]; rfl
  clear hown c1 c2 hb HJ HE HL
  go_wp2
  go_ret
  exact ⟨rfl, HB.out⟩
end Go.Proofs.YtchjogcdenkhcaaDoor
