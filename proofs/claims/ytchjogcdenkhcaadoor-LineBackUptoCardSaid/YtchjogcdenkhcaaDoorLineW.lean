/- The walks of line.bad, line.cut, line.shown. Conditions: texts of at most 2^20 bytes; the machine's MaxLen is laid. -/
import Derived.Test.YtchjogcdenkhcaaDoorLineQ
import Derived.Test.YtchjogcdenkhcaaDoorWordsW
import Derived.Test.YtchjogcdenkhcaaDoorStemW
namespace Go.Proofs.YtchjogcdenkhcaaDoor
open Go.RowKit Go.Shelf
/-- MaxLen's cell holds a number -/
def ML (w : World) : Prop := ∃ m : Int, w.cell? ⟨0, 0, none⟩ = some (.int .i64 m)
theorem ML.lt {w : World} (h : ML w) : 0 < w.heap.size := by
  obtain ⟨m, h⟩ := h
  exact World.block_lt_of_cell? w _ h
theorem ML.below {w w' : World} (h : ML w) (hb : Below w.heap.size w w') : ML w' := by
  have hl := h.lt
  obtain ⟨m, h⟩ := h
  exact ⟨m, (hb.cell hl).trans h⟩
theorem ML.of {w : World} (h : w.ShapedOpen Tryd.prog) : ML w := Tryd.laysM219.s1_3 w h
def badC (c : UInt8) : Bool := decide (126 < c.toNat) || (decide (c.toNat < 32) && (c.toNat != 9) && (c.toNat != 10))
def badB (l : Bl) : Bool := l.any badC
theorem byte_at {s : ByteArray} {k : Nat} (h : k < s.size) : s.data.toList.take (k + 1) = s.data.toList.take k ++ [s[k]] := by
  rw [List.take_add_one, ba_at h]; rfl
set_option maxHeartbeats 2000000 in
theorem bad_ok (s : ByteArray) (hs : s.size ≤ 4611686018427387904) (w : World) : Calls Tryd.prog 17 #[.string s] w fun e w' => e = .returned (.bool (badB s.data.toList)) ∧ w' = w := by
  go_enter Tryd.func17, Tryd.ntmps17
  go_wp2
  go_loop [7] (fun i => ∃ k : Nat, k ≤ s.size ∧ i = .int .i64 k ∧ Hid ((s.data.toList.take k).any badC = false)) (fun i => s.size - (intOf i).toNat)
  case atStart => exact ⟨0, Nat.zero_le _, rfl, rfl⟩
  case round =>
    obtain ⟨k, hk, rfl, HK⟩ := hrel
    by_cases hlt : k < s.size
    · obtain ⟨c, hc⟩ : ∃ c, s[k] = c := ⟨_, rfl⟩
      have hct := c.toNat_lt
      have hnx : (s.data.toList.take (k + 1)).any badC = badC c := by
        rw [byte_at hlt, List.any_append, HK.out, hc]
        simp
      have HNX := Lib.hid hnx
      have hbm : badC c = true → badB s.data.toList = true := by
        intro h
        unfold badB
        rw [List.any_eq_true]
        refine ⟨c, ?_, h⟩
        have := ba_at hlt
        rw [hc] at this
        exact List.mem_of_getElem? this
      have HBM := Lib.hid hbm
      clear hnx hbm
      by_cases h1 : 126 < c.toNat
      · have HV : Hid (badB s.data.toList = true) := HBM.out (by unfold badC; rw [decide_eq_true h1]; rfl)
        have e1 : decide ((126 : Int) < (c.toNat : Int)) = true := decide_eq_true (by omega)
        go_wp2
        go_ret
        exact ⟨by rw [HV.out]; rfl, rfl⟩
      · have e1 : decide ((126 : Int) < (c.toNat : Int)) = false := decide_eq_false (by omega)
        by_cases h2 : c.toNat < 32
        · have e2 : decide ((c.toNat : Int) < 32) = true := decide_eq_true (by omega)
          by_cases h3 : c.toNat = 9
          · have HV : Hid ((s.data.toList.take (k + 1)).any badC = false) := by show _ = _; rw [HNX.out]; unfold badC; rw [h3]; decide
            have e3 : ((c.toNat : Int) != 9) = false := by rw [h3]; rfl
            go_wp2
            go_round
            case rel => exact ⟨k + 1, by omega, by go_num, HV.out⟩
            case measure => simp [intOf]; omega
          · have e3 : ((c.toNat : Int) != 9) = true := by rw [bne_iff_ne]; omega
            by_cases h4 : c.toNat = 10
            · have HV : Hid ((s.data.toList.take (k + 1)).any badC = false) := by show _ = _; rw [HNX.out]; unfold badC; rw [h4]; decide
              have e4 : ((c.toNat : Int) != 10) = false := by rw [h4]; rfl
              go_wp2
              go_round
              case rel => exact ⟨k + 1, by omega, by go_num, HV.out⟩
              case measure => simp [intOf]; omega
            · have e4 : ((c.toNat : Int) != 10) = true := by rw [bne_iff_ne]; omega
              have HV : Hid (badB s.data.toList = true) := HBM.out (by
                unfold badC
                have g3 : (c.toNat != 9) = true := by rw [bne_iff_ne]; exact h3
                have g4 : (c.toNat != 10) = true := by rw [bne_iff_ne]; exact h4
                rw [decide_eq_true h2, g3, g4]; simp)
              go_wp2
              go_ret
              exact ⟨by rw [HV.out]; rfl, rfl⟩
        · have HV : Hid ((s.data.toList.take (k + 1)).any badC = false) := by show _ = _; rw [HNX.out]; unfold badC; rw [decide_eq_false h1, decide_eq_false h2]; rfl
          have e2 : decide ((c.toNat : Int) < 32) = false := decide_eq_false (by omega)
          go_wp2
          go_round
          case rel => exact ⟨k + 1, by omega, by go_num, HV.out⟩
          case measure => simp [intOf]; omega
    · obtain rfl : k = s.size := by omega
      have HV : Hid (badB s.data.toList = false) := by
        show _ = _
        have := HK.out
        rwa [List.take_of_length_le (by rw [← Lib.size_eq]; exact Nat.le_refl _)] at this
      go_wp2
      go_ret
      exact ⟨by rw [HV.out]; rfl, rfl⟩
theorem cnt_le (s sub : ByteArray) : Lib.countB s sub ≤ s.size + 1 := by
  have := Lib.count_le s.data.toList sub.data.toList
  rw [← Lib.size_eq] at this
  exact this
theorem shown_ok (s : ByteArray) (hs : s.size ≤ 1048576) (w : World) (hM : ML w) : Calls Tryd.prog 40 #[.string s] w fun e w' => e = .returned (.string (txt (shw s.data.toList))) ∧ Below w.heap.size w w' := by
  obtain ⟨m, hm⟩ := hM
  have hcl := cnt_le s ⟨#[35]⟩
  have HR := Lib.hid (Tryd.strings_ReplaceAll s ⟨#[35]⟩ ⟨#[92, 35]⟩ m w (by omega) hm (by decide) (by show s.size + _ * 2 ≤ _; omega))
  clear hm hcl
  go_enter Tryd.func40, Tryd.ntmps40
  go_wp2_with (go_at_call 57; refine HR.out.mono ?_; rintro e w1 ⟨rfl, hb⟩; have HB := Lib.hid hb; clear hb)
  go_ret
  exact ⟨rfl, HB.out⟩
/-- the byte ahead of a place -/
def prv (l : Bl) : Nat → UInt8
  | 0 => 0
  | k + 1 => l.getD k 0
theorem hcut_at {l : Bl} {k : Nat} {c : UInt8} (hc : l[k]? = some c) : hcut (prv l k) (l.drop k) = if c = 35 ∧ prv l k ≠ 92 then [] else c :: hcut (prv l (k + 1)) (l.drop (k + 1)) := by
  have hk := (List.getElem?_eq_some_iff.1 hc).1
  have e : l[k] = c := (List.getElem?_eq_some_iff.1 hc).2
  rw [List.drop_eq_getElem_cons hk, e, hcut]
  have e2 : prv l (k + 1) = c := by show l.getD k 0 = c; rw [List.getD_eq_getElem?_getD, hc]; rfl
  rw [e2]
theorem une_len : ∀ n (x : Bl), x.length ≤ n → (une x).length ≤ x.length := by
  intro n
  induction n with
  | zero =>
    intro x h
    have : x = [] := List.length_eq_zero_iff.1 (by omega)
    subst this
    rw [une_nil]; exact Nat.le_refl _
  | succ n ih =>
    intro x h
    match x, h with
    | [], _ => rw [une_nil]; exact Nat.le_refl _
    | [d], _ => rw [une_cons (.inr (fun m e => by cases e)), une_nil]; exact Nat.le_refl _
    | d :: e :: m, h =>
      simp only [List.length_cons] at h
      by_cases hde : d = 92 ∧ e = 35
      · obtain ⟨rfl, rfl⟩ := hde
        rw [une_hash]
        have := ih m (by omega)
        simp only [List.length_cons]; omega
      · rw [une_cons (by
          by_cases h1 : d = 92
          · refine .inr (fun m' e' => ?_)
            injection e' with e1 _
            exact hde ⟨h1, e1⟩
          · exact .inl h1)]
        have := ih (e :: m) (by simp only [List.length_cons]; omega)
        simp only [List.length_cons] at this ⊢; omega
set_option maxHeartbeats 4000000 in
theorem cut_ok (s : ByteArray) (hs : s.size ≤ 1048576) (w : World) (hM : ML w) : Calls Tryd.prog 44 #[.string s] w fun e w' => e = .returned (.string (txt (cutL s.data.toList))) ∧ Below w.heap.size w w' := by
  obtain ⟨l, hl⟩ : ∃ l, l = s.data.toList := ⟨_, rfl⟩
  rw [← hl]
  have HL := Lib.hid hl
  clear hl
  have hfin : ∀ s' : ByteArray, s'.size ≤ 1048576 → Calls Tryd.prog 57 #[.string s', .string ⟨#[92, 35]⟩, .string ⟨#[35]⟩] w fun e w' => (∃ x : ByteArray, e = .returned (.string x) ∧ x.data.toList = une s'.data.toList ∧ x.size ≤ 9223372036854775807) ∧ Below w.heap.size w w' := by
    intro s' hs'
    obtain ⟨m, hm⟩ := hM
    have hcl := cnt_le s' ⟨#[92, 35]⟩
    refine (Tryd.strings_ReplaceAll s' ⟨#[92, 35]⟩ ⟨#[35]⟩ m w (by omega) hm (by decide) (by show s'.size + _ * 1 ≤ _; omega)).mono ?_
    rintro e w1 ⟨rfl, hb⟩
    refine ⟨⟨_, rfl, ?_, ?_⟩, hb⟩
    · show (txt _).data.toList = _
      rw [txt_list]
      rfl
    · show (txt _).size ≤ _
      rw [txt_size]
      have := une_len _ s'.data.toList (Nat.le_refl _)
      rw [← Lib.size_eq] at this
      show (une s'.data.toList).length ≤ _
      omega
  have htr : ∀ (x : ByteArray) (u : World), x.size ≤ 9223372036854775807 → Calls Tryd.prog 60 #[.string x, .string ⟨#[32, 9]⟩] u fun e w' => e = .returned (.string (txt (Lib.trimRightS x.data.toList [32, 9]))) ∧ Below u.heap.size u w' :=
    fun x u hx => Any.strings_TrimRight_laid Tryd.lays162 (by kernel_rfl) x ⟨#[32, 9]⟩ u hx (by decide) (ascii_of_all (by decide))
  have HF := Lib.hid hfin
  have HT := Lib.hid htr
  clear hfin htr hM
  go_enter Tryd.func44, Tryd.ntmps44
  go_wp2
  go_loop [0, 6] (fun t0 i => t0 = .string s ∧ ∃ k : Nat, k ≤ s.size ∧ i = .int .i64 k ∧ Hid (hcut 0 l = l.take k ++ hcut (prv l k) (l.drop k))) (fun _ i => s.size - (intOf i).toNat)
  case atStart => exact ⟨rfl, 0, Nat.zero_le _, rfl, rfl⟩
  case round =>
    obtain ⟨rfl, k, hk, rfl, HK⟩ := hrel
    by_cases hlt : k < s.size
    · obtain ⟨c, hc⟩ : ∃ c, s[k] = c := ⟨_, rfl⟩
      have hck : l[k]? = some c := by rw [HL.out, ba_at hlt, hc]
      have HA := Lib.hid (hcut_at hck)
      have HTK : Hid (l.take (k + 1) = l.take k ++ [c]) := by show _ = _; rw [List.take_add_one, hck]; rfl
      have hskip : ¬ (c = 35 ∧ prv l k ≠ 92) → hcut 0 l = l.take (k + 1) ++ hcut (prv l (k + 1)) (l.drop (k + 1)) := by
        intro h
        rw [HK.out, HA.out, if_neg h, HTK.out, List.append_assoc]
        rfl
      have HSK := Lib.hid hskip
      have hstop : c = 35 ∧ prv l k ≠ 92 → cutL l = Lib.trimRightS (une (s.extract 0 k).data.toList) [32, 9] := by
        intro h
        unfold cutL
        rw [HK.out, HA.out, if_pos h, List.append_nil, Lib.extract_from_zero, HL.out]
      have HST := Lib.hid hstop
      clear hskip hstop hck
      by_cases h35 : c = 35
      · have e1 : ((c.toNat : Int) == 35) = true := by rw [h35]; rfl
        cases k with
        | zero =>
          have hv := HST.out ⟨h35, by show (0 : UInt8) ≠ 92; decide⟩
          have h00 : (s.extract 0 0).data.toList = ByteArray.empty.data.toList := by rw [Lib.extract_from_zero]; rfl
          rw [h00] at hv
          have HV := Lib.hid hv
          clear hv h00
          clear HK HA HTK HSK HST
          go_wp2_with (first
            | (go_at_call 57; refine (HF.out _ (by decide)).mono ?_; rintro e w1 ⟨⟨x, rfl, hx, hxs⟩, hb⟩; have HB := Lib.hid hb; have HX := Lib.hid hx; clear hb hx)
            | (go_at_call 60; refine (HT.out _ _ hxs).mono ?_; rintro e w2 ⟨rfl, hb⟩; have HB2 := Lib.hid (HB.out.trans (hb.mono HB.out.size)); clear hb))
          go_ret
          exact ⟨by rw [HV.out, ← HX.out]; rfl, HB2.out⟩
        | succ j =>
          obtain ⟨d, hd⟩ : ∃ d, s[j]'(by omega) = d := ⟨_, rfl⟩
          have hpv : prv l (j + 1) = d := by
            show l.getD j 0 = d
            rw [HL.out, List.getD_eq_getElem?_getD, ba_at (by omega), hd]; rfl
          have e0 : (((j : Int) + 1) == 0) = false := by rw [beq_eq_false_iff_ne]; omega
          have e5 : IntKind.i64.wrap ((j : Int) + 1 - 1) = (j : Int) := by rw [IntKind.wrap_i64]; omega
          by_cases h92 : d = 92
          · have e2 : ((d.toNat : Int) != 92) = false := by rw [h92]; rfl
            have HV := Lib.hid (HSK.out (by rw [hpv]; exact fun h => h.2 h92))
            clear HK HA HTK HSK HST
            go_wp2
            go_round
            case rel => exact ⟨rfl, j + 1 + 1, by omega, by go_num, HV.out⟩
            case measure => simp [intOf]; omega
          · have e2 : ((d.toNat : Int) != 92) = true := by
              rw [bne_iff_ne]
              intro e
              exact h92 (UInt8.toNat_inj.1 (by show d.toNat = 92; omega))
            have HV := Lib.hid (HST.out ⟨h35, by rw [hpv]; exact h92⟩)
            clear HK HA HTK HSK HST
            go_wp2_with (first
              | (go_at_call 57; refine (HF.out _ (by rw [ByteArray.size_extract]; omega)).mono ?_; rintro e w1 ⟨⟨x, rfl, hx, hxs⟩, hb⟩; have HB := Lib.hid hb; have HX := Lib.hid hx; clear hb hx)
              | (go_at_call 60; refine (HT.out _ _ hxs).mono ?_; rintro e w2 ⟨rfl, hb⟩; have HB2 := Lib.hid (HB.out.trans (hb.mono HB.out.size)); clear hb))
            go_ret
            exact ⟨by rw [HV.out, ← HX.out]; rfl, HB2.out⟩
      · have e1 : ((c.toNat : Int) == 35) = false := by
          rw [beq_eq_false_iff_ne]
          intro e
          exact h35 (UInt8.toNat_inj.1 (by show c.toNat = 35; omega))
        have HV := Lib.hid (HSK.out (fun h => h35 h.1))
        clear HK HA HTK HSK HST
        go_wp2
        go_round
        case rel => exact ⟨rfl, k + 1, by omega, by go_num, HV.out⟩
        case measure => simp [intOf]; omega
    · obtain rfl : k = s.size := by omega
      have HV : Hid (cutL l = Lib.trimRightS (une s.data.toList) [32, 9]) := by
        show _ = _
        have hln : l.length = s.size := by rw [HL.out, ← Lib.size_eq]
        unfold cutL
        rw [HK.out, List.take_of_length_le (by omega), List.drop_eq_nil_of_le (by omega), HL.out]
        show Lib.trimRightS (une (s.data.toList ++ [])) _ = _
        rw [List.append_nil]
      clear HK
      go_wp2_with (first
        | (go_at_call 57; refine (HF.out _ hs).mono ?_; rintro e w1 ⟨⟨x, rfl, hx, hxs⟩, hb⟩; have HB := Lib.hid hb; have HX := Lib.hid hx; clear hb hx)
        | (go_at_call 60; refine (HT.out _ _ hxs).mono ?_; rintro e w2 ⟨rfl, hb⟩; have HB2 := Lib.hid (HB.out.trans (hb.mono HB.out.size)); clear hb))
      go_ret
      exact ⟨by rw [HV.out, ← HX.out]; rfl, HB2.out⟩
end Go.Proofs.YtchjogcdenkhcaaDoor
