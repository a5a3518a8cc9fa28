/- Texts joined: LineW, JoinW, GoodP, LinePartsW, MapS, RuleJP. Conditions: theirs. -/
import Derived.Test.YtoiolepengcagaaGreatDoorFileOrderLWM7
import Derived.Test.YtoiolepengcagaaGreatDoorFileOrderLWM1
import Derived.Test.YtoiolepengcagaaGreatDoorStemW
import Derived.Test.YtoiolepengcagaaGreatDoorFileOrderLWM3
import Derived.Test.YtoiolepengcagaaGreatDoorConcatW
import Derived.Test.YtoiolepengcagaaGreatDoorRows
import Derived.Test.YtoiolepengcagaaGreatDoorMem
import Derived.WalkKit
import Derived.OpenShut
import Derived.Laws.StructEq
import Derived.Deep.QuietTactic
import Derived.BigQuiet
import Derived.Maps.OwnSet
import Derived.Maps.AppendAt
import Derived.Sort.KeysCollected
namespace Go.Proofs.YtoiolepengcagaaGreatDoor
open Go.RowKit Go.Shelf
/-- MaxLen's cell holds a number -/
def ML (w : World) : Prop := ∃ m : Int, w.cell? ⟨0, 0, none⟩ = some (.int .i64 m)
theorem ML.lt {w : World} (h : ML w) : 0 < w.heap.size := by
  obtain ⟨m, h⟩ := h
  exact World.block_lt_of_cell? w _ h
theorem ML.below {w w' : World} (h : ML w) (hb : Below w.heap.size w w') : ML w' := by
  have hl := h.lt
  obtain ⟨m, h⟩ := h
  exact ⟨m, (hb.cell hl).trans h⟩
theorem ML.of {w : World} (h : w.ShapedOpen Tryz.prog) : ML w := Tryz.laysM219.s1_3 w h
def badC (c : UInt8) : Bool := decide (126 < c.toNat) || (decide (c.toNat < 32) && (c.toNat != 9) && (c.toNat != 10))
def badB (l : Bl) : Bool := l.any badC
theorem byte_at {s : ByteArray} {k : Nat} (h : k < s.size) : s.data.toList.take (k + 1) = s.data.toList.take k ++ [s[k]] := by
  rw [List.take_add_one, ba_at h]; rfl
set_option maxHeartbeats 2000000 in
theorem bad_ok (s : ByteArray) (hs : s.size ≤ 4611686018427387904) (w : World) : Calls Tryz.prog 100 #[.string s] w fun e w' => e = .returned (.bool (badB s.data.toList)) ∧ w' = w := by
  go_enter Tryz.func100, Tryz.ntmps100
  go_wp2
  go_loop [7] (fun i => ∃ k : Nat, k ≤ s.size ∧ i = .int .i64 k ∧ Hid ((s.data.toList.take k).any badC = false)) (fun i => s.size - (intOf i).toNat)
  case atStart => exact ⟨0, Nat.zero_le _, rfl, rfl⟩
  case round =>
    obtain ⟨k, hk, rfl, HK⟩ := hrel
    by_cases hlt : k < s.size
    · obtain ⟨c, hc⟩ : ∃ c, s[k] = c := ⟨_, rfl⟩
      have hct := c.toNat_lt
      have hnx : (s.data.toList.take (k + 1)).any badC = badC c := by
        rw [byte_at hlt, List.any_append, HK.out, hc]
        simp
      have HNX := Lib.hid hnx
      have hbm : badC c = true → badB s.data.toList = true := by
        intro h
        unfold badB
        rw [List.any_eq_true]
        refine ⟨c, ?_, h⟩
        have := ba_at hlt
        rw [hc] at this
        exact List.mem_of_getElem? this
      have HBM := Lib.hid hbm
      clear hnx hbm
      by_cases h1 : 126 < c.toNat
      · have HV : Hid (badB s.data.toList = true) := HBM.out (by unfold badC; rw [decide_eq_true h1]; rfl)
        have e1 : decide ((126 : Int) < (c.toNat : Int)) = true := decide_eq_true (by omega)
        go_wp2
        go_ret
        exact ⟨by rw [HV.out]; rfl, rfl⟩
      · have e1 : decide ((126 : Int) < (c.toNat : Int)) = false := decide_eq_false (by omega)
        by_cases h2 : c.toNat < 32
        · have e2 : decide ((c.toNat : Int) < 32) = true := decide_eq_true (by omega)
          by_cases h3 : c.toNat = 9
          · have HV : Hid ((s.data.toList.take (k + 1)).any badC = false) := by show _ = _; rw [HNX.out]; unfold badC; rw [h3]; decide
            have e3 : ((c.toNat : Int) != 9) = false := by rw [h3]; rfl
            go_wp2
            go_round
            case rel => exact ⟨k + 1, by omega, by go_num, HV.out⟩
            case measure => simp [intOf]; omega
          · have e3 : ((c.toNat : Int) != 9) = true := by rw [bne_iff_ne]; omega
            by_cases h4 : c.toNat = 10
            · have HV : Hid ((s.data.toList.take (k + 1)).any badC = false) := by show _ = _; rw [HNX.out]; unfold badC; rw [h4]; decide
              have e4 : ((c.toNat : Int) != 10) = false := by rw [h4]; rfl
              go_wp2
              go_round
              case rel => exact ⟨k + 1, by omega, by go_num, HV.out⟩
              case measure => simp [intOf]; omega
            · have e4 : ((c.toNat : Int) != 10) = true := by rw [bne_iff_ne]; omega
              have HV : Hid (badB s.data.toList = true) := HBM.out (by
                unfold badC
                have g3 : (c.toNat != 9) = true := by rw [bne_iff_ne]; exact h3
                have g4 : (c.toNat != 10) = true := by rw [bne_iff_ne]; exact h4
                rw [decide_eq_true h2, g3, g4]; simp)
              go_wp2
              go_ret
              exact ⟨by rw [HV.out]; rfl, rfl⟩
        · have HV : Hid ((s.data.toList.take (k + 1)).any badC = false) := by show _ = _; rw [HNX.out]; unfold badC; rw [decide_eq_false h1, decide_eq_false h2]; rfl
          have e2 : decide ((c.toNat : Int) < 32) = false := decide_eq_false (by omega)
          go_wp2
          go_round
          case rel => exact ⟨k + 1, by omega, by go_num, HV.out⟩
          case measure => simp [intOf]; omega
    · obtain rfl : k = s.size := by omega
      have HV : Hid (badB s.data.toList = false) := by
        show _ = _
        have := HK.out
        rwa [List.take_of_length_le (by rw [← Lib.size_eq]; exact Nat.le_refl _)] at this
      go_wp2
      go_ret
      exact ⟨by rw [HV.out]; rfl, rfl⟩
theorem cnt_le (s sub : ByteArray) : Lib.countB s sub ≤ s.size + 1 := by
  have := Lib.count_le s.data.toList sub.data.toList
  rw [← Lib.size_eq] at this
  exact this
/-- the byte ahead of a place -/
def prv (l : Bl) : Nat → UInt8
  | 0 => 0
  | k + 1 => l.getD k 0
theorem hcut_at {l : Bl} {k : Nat} {c : UInt8} (hc : l[k]? = some c) : hcut (prv l k) (l.drop k) = if c = 35 ∧ prv l k ≠ 92 then [] else c :: hcut (prv l (k + 1)) (l.drop (k + 1)) := by
  have hk := (List.getElem?_eq_some_iff.1 hc).1
  have e : l[k] = c := (List.getElem?_eq_some_iff.1 hc).2
  rw [List.drop_eq_getElem_cons hk, e, hcut]
  have e2 : prv l (k + 1) = c := by show l.getD k 0 = c; rw [List.getD_eq_getElem?_getD, hc]; rfl
  rw [e2]
theorem une_len : ∀ n (x : Bl), x.length ≤ n → (une x).length ≤ x.length := by
  intro n
  induction n with
  | zero =>
    intro x h
    have : x = [] := List.length_eq_zero_iff.1 (by omega)
    subst this
    rw [une_nil]; exact Nat.le_refl _
  | succ n ih =>
    intro x h
    match x, h with
    | [], _ => rw [une_nil]; exact Nat.le_refl _
    | [d], _ => rw [une_cons (.inr (fun m e => by cases e)), une_nil]; exact Nat.le_refl _
    | d :: e :: m, h =>
      simp only [List.length_cons] at h
      by_cases hde : d = 92 ∧ e = 35
      · obtain ⟨rfl, rfl⟩ := hde
        rw [une_hash]
        have := ih m (by omega)
        simp only [List.length_cons]; omega
      · rw [une_cons (by
          by_cases h1 : d = 92
          · refine .inr (fun m' e' => ?_)
            injection e' with e1 _
            exact hde ⟨h1, e1⟩
          · exact .inl h1)]
        have := ih (e :: m) (by simp only [List.length_cons]; omega)
        simp only [List.length_cons] at this ⊢; omega
set_option maxHeartbeats 4000000 in
theorem cut_ok (s : ByteArray) (hs : s.size ≤ 1048576) (w : World) (hM : ML w) : Calls Tryz.prog 134 #[.string s] w fun e w' => e = .returned (.string (txt (cutL s.data.toList))) ∧ Below w.heap.size w w' := by
  obtain ⟨l, hl⟩ : ∃ l, l = s.data.toList := ⟨_, rfl⟩
  rw [← hl]
  have HL := Lib.hid hl
  clear hl
  have hfin : ∀ s' : ByteArray, s'.size ≤ 1048576 → Calls Tryz.prog 156 #[.string s', .string ⟨#[92, 35]⟩, .string ⟨#[35]⟩] w fun e w' => (∃ x : ByteArray, e = .returned (.string x) ∧ x.data.toList = une s'.data.toList ∧ x.size ≤ 9223372036854775807) ∧ Below w.heap.size w w' := by
    intro s' hs'
    obtain ⟨m, hm⟩ := hM
    have hcl := cnt_le s' ⟨#[92, 35]⟩
    refine (Tryz.strings_ReplaceAll s' ⟨#[92, 35]⟩ ⟨#[35]⟩ m w (by omega) hm (by decide) (by show s'.size + _ * 1 ≤ _; omega)).mono ?_
    rintro e w1 ⟨rfl, hb⟩
    refine ⟨⟨_, rfl, ?_, ?_⟩, hb⟩
    · show (txt _).data.toList = _
      rw [txt_list]
      rfl
    · show (txt _).size ≤ _
      rw [txt_size]
      have := une_len _ s'.data.toList (Nat.le_refl _)
      rw [← Lib.size_eq] at this
      show (une s'.data.toList).length ≤ _
      omega
  have htr : ∀ (x : ByteArray) (u : World), x.size ≤ 9223372036854775807 → Calls Tryz.prog 155 #[.string x, .string ⟨#[32, 9]⟩] u fun e w' => e = .returned (.string (txt (Lib.trimRightS x.data.toList [32, 9]))) ∧ Below u.heap.size u w' :=
    fun x u hx => Any.strings_TrimRight_laid Tryz.lays162 (by kernel_rfl) x ⟨#[32, 9]⟩ u hx (by decide) (ascii_of_all (by decide))
  have HF := Lib.hid hfin
  have HT := Lib.hid htr
  clear hfin htr hM
  go_enter Tryz.func134, Tryz.ntmps134
  go_wp2
  go_loop [0, 6] (fun t0 i => t0 = .string s ∧ ∃ k : Nat, k ≤ s.size ∧ i = .int .i64 k ∧ Hid (hcut 0 l = l.take k ++ hcut (prv l k) (l.drop k))) (fun _ i => s.size - (intOf i).toNat)
  case atStart => exact ⟨rfl, 0, Nat.zero_le _, rfl, rfl⟩
  case round =>
    obtain ⟨rfl, k, hk, rfl, HK⟩ := hrel
    by_cases hlt : k < s.size
    · obtain ⟨c, hc⟩ : ∃ c, s[k] = c := ⟨_, rfl⟩
      have hck : l[k]? = some c := by rw [HL.out, ba_at hlt, hc]
      have HA := Lib.hid (hcut_at hck)
      have HTK : Hid (l.take (k + 1) = l.take k ++ [c]) := by show _ = _; rw [List.take_add_one, hck]; rfl
      have hskip : ¬ (c = 35 ∧ prv l k ≠ 92) → hcut 0 l = l.take (k + 1) ++ hcut (prv l (k + 1)) (l.drop (k + 1)) := by
        intro h
        rw [HK.out, HA.out, if_neg h, HTK.out, List.append_assoc]
        rfl
      have HSK := Lib.hid hskip
      have hstop : c = 35 ∧ prv l k ≠ 92 → cutL l = Lib.trimRightS (une (s.extract 0 k).data.toList) [32, 9] := by
        intro h
        unfold cutL
        rw [HK.out, HA.out, if_pos h, List.append_nil, Lib.extract_from_zero, HL.out]
      have HST := Lib.hid hstop
      clear hskip hstop hck
      by_cases h35 : c = 35
      · have e1 : ((c.toNat : Int) == 35) = true := by rw [h35]; rfl
        cases k with
        | zero =>
          have hv := HST.out ⟨h35, by show (0 : UInt8) ≠ 92; decide⟩
          have h00 : (s.extract 0 0).data.toList = ByteArray.empty.data.toList := by rw [Lib.extract_from_zero]; rfl
          rw [h00] at hv
          have HV := Lib.hid hv
          clear hv h00
          clear HK HA HTK HSK HST
          go_wp2_with (first
            | (go_at_call 156; refine (HF.out _ (by decide)).mono ?_; rintro e w1 ⟨⟨x, rfl, hx, hxs⟩, hb⟩; have HB := Lib.hid hb; have HX := Lib.hid hx; clear hb hx)
            | (go_at_call 155; refine (HT.out _ _ hxs).mono ?_; rintro e w2 ⟨rfl, hb⟩; have HB2 := Lib.hid (HB.out.trans (hb.mono HB.out.size)); clear hb))
          go_ret
          exact ⟨by rw [HV.out, ← HX.out]; rfl, HB2.out⟩
        | succ j =>
          obtain ⟨d, hd⟩ : ∃ d, s[j]'(by omega) = d := ⟨_, rfl⟩
          have hpv : prv l (j + 1) = d := by
            show l.getD j 0 = d
            rw [HL.out, List.getD_eq_getElem?_getD, ba_at (by omega), hd]; rfl
          have e0 : (((j : Int) + 1) == 0) = false := by rw [beq_eq_false_iff_ne]; omega
          have e5 : IntKind.i64.wrap ((j : Int) + 1 - 1) = (j : Int) := by rw [IntKind.wrap_i64]; omega
          by_cases h92 : d = 92
          · have e2 : ((d.toNat : Int) != 92) = false := by rw [h92]; rfl
            have HV := Lib.hid (HSK.out (by rw [hpv]; exact fun h => h.2 h92))
            clear HK HA HTK HSK HST
            go_wp2
            go_round
            case rel => exact ⟨rfl, j + 1 + 1, by omega, by go_num, HV.out⟩
            case measure => simp [intOf]; omega
          · have e2 : ((d.toNat : Int) != 92) = true := by
              rw [bne_iff_ne]
              intro e
              exact h92 (UInt8.toNat_inj.1 (by show d.toNat = 92; omega))
            have HV := Lib.hid (HST.out ⟨h35, by rw [hpv]; exact h92⟩)
            clear HK HA HTK HSK HST
            go_wp2_with (first
              | (go_at_call 156; refine (HF.out _ (by rw [ByteArray.size_extract]; omega)).mono ?_; rintro e w1 ⟨⟨x, rfl, hx, hxs⟩, hb⟩; have HB := Lib.hid hb; have HX := Lib.hid hx; clear hb hx)
              | (go_at_call 155; refine (HT.out _ _ hxs).mono ?_; rintro e w2 ⟨rfl, hb⟩; have HB2 := Lib.hid (HB.out.trans (hb.mono HB.out.size)); clear hb))
            go_ret
            exact ⟨by rw [HV.out, ← HX.out]; rfl, HB2.out⟩
      · have e1 : ((c.toNat : Int) == 35) = false := by
          rw [beq_eq_false_iff_ne]
          intro e
          exact h35 (UInt8.toNat_inj.1 (by show c.toNat = 35; omega))
        have HV := Lib.hid (HSK.out (fun h => h35 h.1))
        clear HK HA HTK HSK HST
        go_wp2
        go_round
        case rel => exact ⟨rfl, k + 1, by omega, by go_num, HV.out⟩
        case measure => simp [intOf]; omega
    · obtain rfl : k = s.size := by omega
      have HV : Hid (cutL l = Lib.trimRightS (une s.data.toList) [32, 9]) := by
        show _ = _
        have hln : l.length = s.size := by rw [HL.out, ← Lib.size_eq]
        unfold cutL
        rw [HK.out, List.take_of_length_le (by omega), List.drop_eq_nil_of_le (by omega), HL.out]
        show Lib.trimRightS (une (s.data.toList ++ [])) _ = _
        rw [List.append_nil]
      clear HK
      go_wp2_with (first
        | (go_at_call 156; refine (HF.out _ hs).mono ?_; rintro e w1 ⟨⟨x, rfl, hx, hxs⟩, hb⟩; have HB := Lib.hid hb; have HX := Lib.hid hx; clear hb hx)
        | (go_at_call 155; refine (HT.out _ _ hxs).mono ?_; rintro e w2 ⟨rfl, hb⟩; have HB2 := Lib.hid (HB.out.trans (hb.mono HB.out.size)); clear hb))
      go_ret
      exact ⟨by rw [HV.out, ← HX.out]; rfl, HB2.out⟩
end Go.Proofs.YtoiolepengcagaaGreatDoor
namespace Go.Proofs.YtoiolepengcagaaGreatDoor
open Go.RowKit Go.Shelf
abbrev Ln := Nat × Bl
def lF (x : Ln) : Value := .int .i64 (x.1 : Int)
def lG (x : Ln) : Value := .string (txt x.2)
theorem info_line : (Tryz.prog.info? 125).map (fun i => (i.zero, i.size, i.bytes)) = some (some (.agg #[.int .i64 0, .string ⟨#[]⟩]), 2, 24) := by kernel_rfl
theorem app_line (w : World) {ops : Array Oper} {rest : List Oper} {o : Oper} {a : Act} {Q : Exit → Act → World → Prop} (hgd : o.guard = none) (s x : Operand)
    (ho : o.op = .call { callee := .builtin .append, args := #[s, x], argTypes := #[121, 121] })
    (base : Nat) (v : Value) (n : Nat) (xs : List Ln) (hs : a.eval s = v) (hown : w.ownsRow base 125 2 v n (cells2 lF lG xs))
    (g : Nat) (y : Ln) (hx : a.eval x = .slice (some ⟨g, 0, none⟩) 1 1) (hc0 : w.cell? ⟨g, 0, none⟩ = some (.int .i64 (y.1 : Int))) (hc1 : w.cell? ⟨g, 1, none⟩ = some (.string (txt y.2)))
    (hn : n ≤ 1000000) (hbase : base ≤ w.heap.size)
    (h : ∀ v' w', w'.ownsRow base 125 2 v' (n + 1) (cells2 lF lG (xs ++ [y])) → w.grownBy w' v.ownBlock → wpList Tryz.prog ops Q rest (a.put o.dst v') w') : wpList Tryz.prog ops Q (o :: rest) a w := by
  obtain ⟨i0, hi, hz0, hz1, hz2⟩ := info_parts info_line
  refine wpList_append_own w hgd s x 121 ho base 125 i0 _ 2 24 Tryz.underlying121 hi hz0 hz1 hz2 rfl (by decide) v n _ hs hown ⟨g, 0, none⟩ 1 1 [lF y, lG y] hx rfl ?_ ?_ (by unfold maxLen; omega) (by omega) hbase (fun v' w' h1 h2 _ => h v' w' ?_ h2)
  · intro j q hj
    match j, hj with
    | 0, hj => simp at hj; subst hj; simpa [Addr.add, lF] using hc0
    | 1, hj => simp at hj; subst hj; simpa [Addr.add, lG] using hc1
  · intro q hq; simp at hq; rcases hq with rfl | rfl <;> rfl
  · rw [cells2_append]; exact h1
theorem cutnl_ok (l : Bl) (hl : l.length ≤ 1048576) (w : World) (hM : ML w) : Calls Tryz.prog 131 #[.string (txt l), .string ⟨#[10]⟩] w fun e w' => (∃ b : Bool, e = .returned (.tuple #[.string (txt (nl l).1), .string (txt (nl l).2), .bool b])) ∧ ∃ n, w' = w.drewN n := by
  obtain ⟨m, hm⟩ := hM
  refine (Tryz.strings_Cut (txt l) ⟨#[10]⟩ m w (by rw [txt_size]; omega) hm).mono ?_
  rintro e w1 ⟨he, hw⟩
  rw [txt_list, show (⟨#[10]⟩ : ByteArray).data.toList = [10] from rfl, nl_cut] at he
  exact ⟨⟨_, he⟩, hw⟩
theorem trimL_ok (l : Bl) (w : World) : Calls Tryz.prog 132 #[.string (txt l), .string ⟨#[32, 9]⟩] w fun e w' => e = .returned (.string (txt (Lib.trimLeftS l [32, 9]))) ∧ Below w.heap.size w w' := by
  have := Any.strings_TrimLeft_laid Tryz.lays161 (by kernel_rfl) (txt l) ⟨#[32, 9]⟩ w (by decide) (ascii_of_all (by decide))
  rw [txt_list] at this
  exact this
theorem cutsuf_ok (l : Bl) (w : World) (hl : l.length ≤ 1048576) : Calls Tryz.prog 133 #[.string (txt l), .string ⟨#[92]⟩] w fun e w' => e = .returned (.tuple #[.string (txt (Lib.trimSuffix l [92])), .bool (Lib.hasSuffix l [92])]) ∧ w' = w := by
  have := Tryz.strings_CutSuffix (txt l) ⟨#[92]⟩ w (by rw [txt_size]; omega)
  rw [txt_list] at this
  exact this
theorem cutl_len (l : Bl) : (cutL l).length ≤ l.length := by
  have hh : ∀ (l : Bl) p, (hcut p l).length ≤ l.length := by
    intro l
    induction l with
    | nil => intro p; exact Nat.le_refl _
    | cons c l ih =>
      intro p
      rw [hcut]
      split
      · simp
      · have := ih c; simp only [List.length_cons]; omega
  unfold cutL
  have h1 := trimR_len (une (hcut 0 l)) [32, 9]
  have h2 := une_len _ (hcut 0 l) (Nat.le_refl _)
  have h3 := hh l 0
  omega
theorem onl_len (text one : Bl) : (onl text one).length ≤ one.length := by
  unfold onl
  split
  · exact Nat.le_refl _
  · unfold Lib.trimLeftS
    exact (List.dropWhile_sublist _).length_le
theorem trimSuf_len (l p : Bl) : (Lib.trimSuffix l p).length ≤ l.length := by
  unfold Lib.trimSuffix
  split
  · rw [List.length_take]; omega
  · exact Nat.le_refl _
theorem txt_eq (l m : Bl) : ((txt l).toList == (txt m).toList) = decide (l = m) := by
  rw [Lib.toList_data, Lib.toList_data, txt_list, txt_list, Bool.eq_iff_iff, beq_iff_eq, decide_eq_true_iff]
theorem txt_app (l m : Bl) : txt l ++ txt m = txt (l ++ m) := by
  refine (list_txt (txt l ++ txt m)).symm.trans ?_
  rw [ByteArray.data_append, Array.toList_append, txt_list, txt_list]
theorem txt_none (l : Bl) : ((txt l).toList == ([] : List UInt8)) = decide (l = []) := by
  rw [Lib.toList_data, txt_list, Bool.eq_iff_iff, beq_iff_eq, decide_eq_true_iff]
theorem txt_none2 (l : Bl) : ((txt l).toList == (⟨#[]⟩ : ByteArray).toList) = decide (l = []) := by
  rw [Lib.toList_data (⟨#[]⟩ : ByteArray)]; exact txt_none l
theorem bx_set1 {w : World} {b : Nat} {t : TypeId} {v0 v1 : Value} (h : w.heap[b]? = some (.cells #[v0, v1] t (0, 0))) (u : Value) :
    (w.setCell ⟨b, 1, none⟩ u).heap[b]? = some (.cells #[v0, u] t (0, 0)) := by
  rw [Go.Sort.setCell_eq]
  simp [Go.Sort.mapBlock, Go.Sort.onCells, Array.getElem?_modify, h]
/-- the line that is being read, in its block -/
structure JI (wo : World) (a1 : Int) (text : Bl) (wr : World) : Prop where
  grow : (wo.alloc (.cells #[.int .i64 a1, .string ⟨#[]⟩] 125)).grownBy wr (some wo.heap.size)
  box : wr.heap[wo.heap.size]? = some (.cells #[.int .i64 a1, .string (txt text)] 125 (0, 0))
theorem JI.start (wo : World) (a1 : Int) : JI wo a1 [] (wo.alloc (.cells #[.int .i64 a1, .string ⟨#[]⟩] 125)) :=
  ⟨World.grownBy.refl _ _, rb_new wo _⟩
theorem JI.below {wo : World} {a1 : Int} {text : Bl} {wr w' : World} (h : JI wo a1 text wr) (hb : Below wr.heap.size wr w') : JI wo a1 text w' := by
  have hlt : wo.heap.size < wr.heap.size := (Array.getElem?_eq_some_iff.1 h.box).1
  exact ⟨h.grow.trans ⟨hb.os, hb.tape, hb.output, hb.size, fun k hk _ => hb.block k hk⟩, (hb.block _ hlt).trans h.box⟩
theorem JI.set {wo : World} {a1 : Int} {text : Bl} {wr : World} (h : JI wo a1 text wr) (text' : Bl) : JI wo a1 text' (wr.setCell ⟨wo.heap.size, 1, none⟩ (.string (txt text'))) :=
  ⟨h.grow.trans ⟨rfl, rfl, rfl, by simp, fun k _ hk => heap_setCell_other wr _ k _ (fun e => hk (by rw [e]))⟩, bx_set1 h.box _⟩
theorem JI.far {wo : World} {a1 : Int} {text : Bl} {wr w : World} (h : JI wo a1 text wr) (hb : Below w.heap.size w wo) : Below w.heap.size w wr :=
  ((hb.alloc hb.size _)).grown h.grow (by have := hb.size; simp; omega) (fun k hk => by injection hk with hk; have := hb.size; omega)
theorem JI.lt {wo : World} {a1 : Int} {text : Bl} {wr : World} (h : JI wo a1 text wr) : wo.heap.size < wr.heap.size := (Array.getElem?_eq_some_iff.1 h.box).1
theorem own_sl {w : World} {base e n size : Nat} {v : Value} {xs : List Value} (h : w.ownsRow base e size v n xs) : ∃ (p : Option Addr) (c : Nat), v = .slice p n c := by
  rcases h.2 with ⟨rfl, rfl⟩ | ⟨g, cap, cur, rfl, _⟩
  · exact ⟨none, 0, rfl⟩
  · exact ⟨_, cap, rfl⟩
theorem JI.own {wo : World} {a1 : Int} {text : Bl} {wr : World} (h : JI wo a1 text wr) {base e n size : Nat} {v : Value} {xs : List Value} (ho : wo.ownsRow base e size v n xs) : wr.ownsRow base e size v n xs := by
  refine (ho.alloc _).kept h.grow ?_
  cases hq : v.ownBlock with
  | none => exact .inl rfl
  | some k => exact .inr (fun e => by injection e with e; have := (ho.lt k hq).2; omega)
theorem cutT_ok (l : Bl) (hl : l.length ≤ 1048576) (w : World) (hM : ML w) : Calls Tryz.prog 134 #[.string (txt l)] w fun e w' => e = .returned (.string (txt (cutL l))) ∧ Below w.heap.size w w' := by
  have := cut_ok (txt l) (by rw [txt_size]; exact hl) w hM
  rw [txt_list] at this
  exact this
set_option maxHeartbeats 16000000 in
set_option maxRecDepth 100000 in
theorem join_ok (s : ByteArray) (hs : s.size ≤ 20000) (w : World) (hM : ML w) :
    Calls Tryz.prog 101 #[.string s] w fun e w' => (∃ po co, e = .returned (.slice po (joinL s.data.toList).length co) ∧ w'.ownsRow w.heap.size 125 2 (.slice po (joinL s.data.toList).length co) (joinL s.data.toList).length (cells2 lF lG (joinL s.data.toList))) ∧ Below w.heap.size w w' := by
  have HM := Lib.hid hM
  obtain ⟨l, hl⟩ : ∃ l, l = s.data.toList := ⟨_, rfl⟩
  have hsl : s = txt l := by rw [hl, list_txt]
  have hln : l.length ≤ 20000 := by rw [hl, ← Lib.size_eq]; exact hs
  rw [← hl]
  subst hsl
  clear hl hs hM
  go_enter Tryz.func101, Tryz.ntmps101
  go_wp2
  go_loopg [0, 3, 4] l.length (fun g s0 o a wr => ∃ (rest : Bl) (at_ : Nat) (done : List Ln) (po : Option Addr) (co : Nat), rest.length ≤ g ∧ at_ + rest.length ≤ l.length ∧ done.length ≤ at_ ∧ s0 = .string (txt rest) ∧ a = .int .i64 at_ ∧ o = .slice po done.length co ∧ Below w.heap.size w wr ∧ Hid (joinL l = done ++ jg rest at_) ∧ Hid (wr.ownsRow w.heap.size 125 2 (.slice po done.length co) done.length (cells2 lF lG done)))
  case atStart => exact ⟨l, 0, [], none, 0, Nat.le_refl _, by omega, Nat.le_refl _, rfl, rfl, rfl, Below.refl _ _, rfl, World.ownsRow_nil _ _ _ _⟩
  case round =>
    obtain ⟨rest, at_, done, po, co, hg, hal, hda, rfl, rfl, rfl, hbr, HK, HO⟩ := hrel
    have HBR := Lib.hid hbr
    by_cases hr : rest = []
    · have z1 : ((txt rest).toList == ([] : List UInt8)) = true := by rw [txt_none]; exact decide_eq_true hr
      have z2 : ((txt rest).toList == (⟨#[]⟩ : ByteArray).toList) = true := by rw [txt_none2]; exact decide_eq_true hr
      have HV : Hid (joinL l = done) := by show _ = _; rw [HK.out, hr, jg_nil, List.append_nil]
      clear hbr hr
      go_wp2
      go_ret
      exact ⟨⟨po, co, by rw [HV.out]; rfl, by rw [HV.out]; exact HO.out⟩, HBR.out⟩
    · have z1 : ((txt rest).toList == ([] : List UInt8)) = false := by rw [txt_none]; exact decide_eq_false hr
      have z2 : ((txt rest).toList == (⟨#[]⟩ : ByteArray).toList) = false := by rw [txt_none2]; exact decide_eq_false hr
      have HRN := Lib.hid hr
      obtain ⟨wo, hwo⟩ : ∃ wo, wo = wr := ⟨_, rfl⟩
      rw [← hwo] at HBR HO ⊢
      clear hbr hr hwo
      have HML := Lib.hid (fun u (hu : Below w.heap.size w u) => HM.out.below hu)
      go_wp2
      go_loopg [0, 4, 6] (rest.length + 1) (fun g s0 a m wr => ∃ (text r2 : Bl) (a2 : Nat) (mo : Bool), s0 = .string (txt r2) ∧ a = .int .i64 a2 ∧ m = .bool mo ∧ Hid (JI wo (at_ + 1 : Nat) text wr) ∧ text.length + r2.length ≤ rest.length ∧ r2.length + (if mo = true then 1 else 0) ≤ g ∧
        Hid (mo = true → lg [] rest (at_ + 1) = lg text r2 a2) ∧ (mo = true → r2 ≠ [] ∧ a2 + r2.length ≤ at_ + 1 + rest.length) ∧ Hid (mo = false → lg [] rest (at_ + 1) = (text, r2, a2)) ∧ (mo = false → r2.length < rest.length ∧ a2 + r2.length ≤ at_ + rest.length ∧ at_ < a2) ∧ (mo = true → at_ < a2))
      case atStart => exact ⟨[], rest, at_ + 1, true, rfl, by go_num, rfl, JI.start wo _, by simp, by simp, fun _ => rfl, fun _ => ⟨HRN.out, Nat.le_refl _⟩, (fun h => by cases h), (fun h => by cases h), fun _ => Nat.lt_succ_self _⟩
      case round =>
        obtain ⟨text, r2, a2, mo, rfl, rfl, rfl, HJ, hlen, hg2, H1, h2, H3, h4, h5⟩ := hrel
        obtain ⟨k0, k1, k2⟩ := rb_cells HJ.out.box
        cases mo with
        | false =>
          obtain ⟨b1, b2, b3⟩ := h4 rfl
          have HL := Lib.hid (H3.out rfl)
          have HCT := Lib.hid (fun u (hu : Below w.heap.size w u) => cutT_ok text (by omega) u (HML.out u hu))
          have hcl := cutl_len text
          clear H1 h2 H3 h4 h5
          have HV : Hid (jg rest at_ = (if cutL text = [] then [] else [(at_ + 1, cutL text)]) ++ jg r2 a2) := by show _ = _; rw [jg_eq HRN.out, HL.out]
          obtain ⟨c, hc⟩ : ∃ c, c = cutL text := ⟨_, rfl⟩
          rw [← hc] at HCT HV hcl
          clear hc HL
          by_cases hce : c = []
          · have c1 : ((txt c).toList == ([] : List UInt8)) = true := by rw [txt_none]; exact decide_eq_true hce
            have c2 : ((txt c).toList == (⟨#[]⟩ : ByteArray).toList) = true := by rw [txt_none2]; exact decide_eq_true hce
            have HW : Hid (joinL l = done ++ jg r2 a2) := by show _ = _; rw [HK.out, HV.out, if_pos hce]; rfl
            clear hce HV
            go_wp2_with (go_at_call 134; refine (HCT.out _ (HJ.out.far HBR.out)).mono ?_; rintro e w1 ⟨rfl, hb⟩; have HJ1 := Lib.hid (HJ.out.below hb); clear hb k0 k1 k2; obtain ⟨k0, k1, k2⟩ := rb_cells HJ1.out.box)
            go_roundg r2.length
            case measure => omega
            case rel => exact ⟨r2, a2, done, po, co, Nat.le_refl _, by omega, by omega, rfl, rfl, rfl, (HJ1.out.set c).far HBR.out, HW.out, (HJ1.out.set c).own HO.out⟩
          · have c1 : ((txt c).toList == ([] : List UInt8)) = false := by rw [txt_none]; exact decide_eq_false hce
            have c2 : ((txt c).toList == (⟨#[]⟩ : ByteArray).toList) = false := by rw [txt_none2]; exact decide_eq_false hce
            have HW : Hid (joinL l = (done ++ [(at_ + 1, c)]) ++ jg r2 a2) := by show _ = _; rw [HK.out, HV.out, if_neg hce, List.append_assoc]
            clear hce HV
            go_wp2_with (first
              | (go_at_call 134; refine (HCT.out _ (HJ.out.far HBR.out)).mono ?_; rintro e w1 ⟨rfl, hb⟩; have HJ1 := Lib.hid (HJ.out.below hb); clear hb k0 k1 k2; obtain ⟨k0, k1, k2⟩ := rb_cells HJ1.out.box; have hwb := (HJ1.out.far HBR.out).size)
              | (at_builtin; refine app_line _ rfl _ _ rfl w.heap.size _ done.length done rfl (((HJ1.out.set c).own HO.out).alloc _) w1.heap.size (at_ + 1, c) rfl (by rw [World.cell?_alloc_at _ _ _ _ (by simp)]; rfl) (by rw [World.cell?_alloc_at _ _ _ _ (by simp)]; rfl) (by omega) (by simp; omega) ?_; intro v' w2 h1 h2; have HX := Lib.hid h1; have HG := Lib.hid h2; clear h1 h2))
            obtain ⟨po2, co2, rfl⟩ := own_sl HX.out
            go_roundg r2.length
            case measure => omega
            case rel =>
              refine ⟨r2, a2, done ++ [(at_ + 1, c)], po2, co2, Nat.le_refl _, by omega, by rw [List.length_append]; simp; omega, rfl, rfl, by rw [List.length_append]; rfl, ?_, HW.out, by rw [List.length_append]; exact HX.out⟩
              refine (((HJ1.out.set c).far HBR.out).alloc (by simp; omega) _).grown HG.out (by simp; omega) (fun k hk => ?_)
              exact (HO.out.lt k hk).1
        | true =>
          obtain ⟨hne, ha2⟩ := h2 rfl
          have ha3 := h5 rfl
          have hLG := H1.out rfl
          rw [lg_eq text r2] at hLG
          have hnl := nl_len r2
          have hnl2 := hnl.2 hne
          have hsf : Lib.hasSuffix (onl text (nl r2).1) [92] = true → (Lib.trimSuffix (onl text (nl r2).1) [92]).length + 1 = (onl text (nl r2).1).length := by
            intro h
            unfold Lib.trimSuffix
            rw [if_pos h, List.length_take]
            unfold Lib.hasSuffix at h
            rw [List.isSuffixOf_iff_suffix] at h
            have := h.length_le
            simp at this ⊢
            omega
          have hol := onl_len text (nl r2).1
          have hts := trimSuf_len (onl text (nl r2).1) [92]
          have HLG := Lib.hid hLG
          clear hLG H1 H3 h2 h4 h5
          obtain ⟨one, hone⟩ : ∃ one, one = (nl r2).1 := ⟨_, rfl⟩
          obtain ⟨r3, hr3⟩ : ∃ r3, r3 = (nl r2).2 := ⟨_, rfl⟩
          have HC := Lib.hid (fun u (hu : Below w.heap.size w u) => cutnl_ok r2 (by omega) u (HML.out u hu))
          rw [← hone] at HC HLG hnl hol hts hsf
          rw [← hr3] at HC HLG hnl hnl2
          clear hone hr3
          obtain ⟨x, hx⟩ : ∃ x, x = onl text one := ⟨_, rfl⟩
          obtain ⟨y, hy⟩ : ∃ y, y = Lib.trimSuffix x [92] := ⟨_, rfl⟩
          rw [← hx] at HLG hol hts hsf
          rw [← hy] at HLG hts hsf
          have HX := Lib.hid hx
          have HCS := Lib.hid (fun u => cutsuf_ok x u (by omega))
          rw [← hy] at HCS
          clear hx hy
          have ap1 : txt text ++ txt y = txt (text ++ y) := txt_app _ _
          have ap2 : txt (text ++ y) ++ (⟨#[32]⟩ : ByteArray) = txt (text ++ y ++ [32]) := txt_app _ [32]
          have no1 : ¬ (9223372036854775807 < (txt text).size + (txt y).size) := by rw [txt_size, txt_size]; omega
          have no2 : ¬ (9223372036854775807 < (txt (text ++ y)).size + 1) := by rw [txt_size, List.length_append]; omega
          have q1 : ((txt r3).toList == ([] : List UInt8)) = decide (r3 = []) := txt_none _
          have q2 : ((txt r3).toList == (⟨#[]⟩ : ByteArray).toList) = decide (r3 = []) := txt_none2 _
          by_cases ht : text = []
          · have t1 : ((txt text).toList == ([] : List UInt8)) = true := by rw [txt_none]; exact decide_eq_true ht
            have t2 : ((txt text).toList == (⟨#[]⟩ : ByteArray).toList) = true := by rw [txt_none2]; exact decide_eq_true ht
            have HX1 : Hid (x = one) := by show _ = _; rw [HX.out]; unfold onl; rw [if_pos ht]
            clear HX ht
            cases hsx : Lib.hasSuffix x [92]
            · rw [hsx] at HCS
              have HLG2 : Hid (lg [] rest (at_ + 1) = (text ++ y, r3, a2)) := by show _ = _; rw [HLG.out, if_neg (by rw [hsx]; simp)]
              have hx1 := HX1.out
              subst hx1
              clear HLG hsx hsf
              go_wp2_with (first
                              | (go_at_call 131; refine (HC.out _ (HJ.out.far HBR.out)).mono ?_; rintro e w1 ⟨⟨b, rfl⟩, n1, rfl⟩; have HJ1 := Lib.hid (HJ.out.below (below_drawsP (Below.refl _ _) n1)))
                              | (go_at_call 133; refine (HCS.out _).mono ?_; rintro e w3 ⟨rfl, rfl⟩))
              go_roundg r3.length
              case measure => simp at hg2; omega
              case rel => exact ⟨text ++ y, r3, a2, false, rfl, rfl, rfl, HJ1.out.set _, by rw [List.length_append]; omega, by simp, (fun h => by cases h), (fun h => by cases h), fun _ => HLG2.out, fun _ => ⟨by omega, by omega, ha3⟩, fun h => by cases h⟩
            · rw [hsx] at HCS
              have hsf2 := hsf hsx
              by_cases h3 : r3 = []
              · rw [decide_eq_true h3] at q1 q2
                have HLG2 : Hid (lg [] rest (at_ + 1) = (text ++ y, r3, a2)) := by show _ = _; rw [HLG.out, if_neg (fun h => h.2 h3)]
                have hx1 := HX1.out
                subst hx1
                clear HLG hsx hsf h3
                go_wp2_with (first
                                | (go_at_call 131; refine (HC.out _ (HJ.out.far HBR.out)).mono ?_; rintro e w1 ⟨⟨b, rfl⟩, n1, rfl⟩; have HJ1 := Lib.hid (HJ.out.below (below_drawsP (Below.refl _ _) n1)))
                                | (go_at_call 133; refine (HCS.out _).mono ?_; rintro e w3 ⟨rfl, rfl⟩))
                go_roundg r3.length
                case measure => simp at hg2; omega
                case rel => exact ⟨text ++ y, r3, a2, false, rfl, rfl, rfl, HJ1.out.set _, by rw [List.length_append]; omega, by simp, (fun h => by cases h), (fun h => by cases h), fun _ => HLG2.out, fun _ => ⟨by omega, by omega, ha3⟩, fun h => by cases h⟩
              · rw [decide_eq_false h3] at q1 q2
                have HR3 := Lib.hid h3
                have HLG2 : Hid (lg [] rest (at_ + 1) = lg (text ++ (y ++ [32])) r3 (a2 + 1)) := by show _ = _; rw [HLG.out, if_pos ⟨hsx, h3⟩, List.append_assoc]
                have hx1 := HX1.out
                subst hx1
                clear HLG hsx hsf h3
                go_wp2_with (first
                                | (go_at_call 131; refine (HC.out _ (HJ.out.far HBR.out)).mono ?_; rintro e w1 ⟨⟨b, rfl⟩, n1, rfl⟩; have HJ1 := Lib.hid (HJ.out.below (below_drawsP (Below.refl _ _) n1)))
                                | (go_at_call 133; refine (HCS.out _).mono ?_; rintro e w3 ⟨rfl, rfl⟩))
                go_roundg (r3.length + 1)
                case measure => simp at hg2; omega
                case rel => exact ⟨text ++ (y ++ [32]), r3, a2 + 1, true, rfl, by go_num, rfl, (HJ1.out.set _).set _, by rw [List.length_append, List.length_append, List.length_singleton]; omega, by simp, fun _ => HLG2.out, fun _ => ⟨HR3.out, by omega⟩, (fun h => by cases h), (fun h => by cases h), fun _ => by omega⟩
          · have t1 : ((txt text).toList == ([] : List UInt8)) = false := by rw [txt_none]; exact decide_eq_false ht
            have t2 : ((txt text).toList == (⟨#[]⟩ : ByteArray).toList) = false := by rw [txt_none2]; exact decide_eq_false ht
            have HX1 : Hid (x = Lib.trimLeftS one [32, 9]) := by show _ = _; rw [HX.out]; unfold onl; rw [if_neg ht]
            clear HX ht
            cases hsx : Lib.hasSuffix x [92]
            · rw [hsx] at HCS
              have HLG2 : Hid (lg [] rest (at_ + 1) = (text ++ y, r3, a2)) := by show _ = _; rw [HLG.out, if_neg (by rw [hsx]; simp)]
              have hx1 := HX1.out
              rw [hx1] at HCS
              clear HLG hsx hsf
              go_wp2_with (first
                              | (go_at_call 131; refine (HC.out _ (HJ.out.far HBR.out)).mono ?_; rintro e w1 ⟨⟨b, rfl⟩, n1, rfl⟩; have HJ0 := Lib.hid (HJ.out.below (below_drawsP (Below.refl _ _) n1)))
                              | (go_at_call 132; refine (trimL_ok one _).mono ?_; rintro e w2 ⟨rfl, hb⟩; have HJ1 := Lib.hid (HJ0.out.below hb); clear hb k0 k1 k2; obtain ⟨k0, k1, k2⟩ := rb_cells HJ1.out.box)
                              | (go_at_call 133; refine (HCS.out _).mono ?_; rintro e w3 ⟨rfl, rfl⟩))
              go_roundg r3.length
              case measure => simp at hg2; omega
              case rel => exact ⟨text ++ y, r3, a2, false, rfl, rfl, rfl, HJ1.out.set _, by rw [List.length_append]; omega, by simp, (fun h => by cases h), (fun h => by cases h), fun _ => HLG2.out, fun _ => ⟨by omega, by omega, ha3⟩, fun h => by cases h⟩
            · rw [hsx] at HCS
              have hsf2 := hsf hsx
              by_cases h3 : r3 = []
              · rw [decide_eq_true h3] at q1 q2
                have HLG2 : Hid (lg [] rest (at_ + 1) = (text ++ y, r3, a2)) := by show _ = _; rw [HLG.out, if_neg (fun h => h.2 h3)]
                have hx1 := HX1.out
                rw [hx1] at HCS
                clear HLG hsx hsf h3
                go_wp2_with (first
                                | (go_at_call 131; refine (HC.out _ (HJ.out.far HBR.out)).mono ?_; rintro e w1 ⟨⟨b, rfl⟩, n1, rfl⟩; have HJ0 := Lib.hid (HJ.out.below (below_drawsP (Below.refl _ _) n1)))
                                | (go_at_call 132; refine (trimL_ok one _).mono ?_; rintro e w2 ⟨rfl, hb⟩; have HJ1 := Lib.hid (HJ0.out.below hb); clear hb k0 k1 k2; obtain ⟨k0, k1, k2⟩ := rb_cells HJ1.out.box)
                                | (go_at_call 133; refine (HCS.out _).mono ?_; rintro e w3 ⟨rfl, rfl⟩))
                go_roundg r3.length
                case measure => simp at hg2; omega
                case rel => exact ⟨text ++ y, r3, a2, false, rfl, rfl, rfl, HJ1.out.set _, by rw [List.length_append]; omega, by simp, (fun h => by cases h), (fun h => by cases h), fun _ => HLG2.out, fun _ => ⟨by omega, by omega, ha3⟩, fun h => by cases h⟩
              · rw [decide_eq_false h3] at q1 q2
                have HR3 := Lib.hid h3
                have HLG2 : Hid (lg [] rest (at_ + 1) = lg (text ++ (y ++ [32])) r3 (a2 + 1)) := by show _ = _; rw [HLG.out, if_pos ⟨hsx, h3⟩, List.append_assoc]
                have hx1 := HX1.out
                rw [hx1] at HCS
                clear HLG hsx hsf h3
                go_wp2_with (first
                                | (go_at_call 131; refine (HC.out _ (HJ.out.far HBR.out)).mono ?_; rintro e w1 ⟨⟨b, rfl⟩, n1, rfl⟩; have HJ0 := Lib.hid (HJ.out.below (below_drawsP (Below.refl _ _) n1)))
                                | (go_at_call 132; refine (trimL_ok one _).mono ?_; rintro e w2 ⟨rfl, hb⟩; have HJ1 := Lib.hid (HJ0.out.below hb); clear hb k0 k1 k2; obtain ⟨k0, k1, k2⟩ := rb_cells HJ1.out.box)
                                | (go_at_call 133; refine (HCS.out _).mono ?_; rintro e w3 ⟨rfl, rfl⟩))
                go_roundg (r3.length + 1)
                case measure => simp at hg2; omega
                case rel => exact ⟨text ++ (y ++ [32]), r3, a2 + 1, true, rfl, by go_num, rfl, (HJ1.out.set _).set _, by rw [List.length_append, List.length_append, List.length_singleton]; omega, by simp, fun _ => HLG2.out, fun _ => ⟨HR3.out, by omega⟩, (fun h => by cases h), (fun h => by cases h), fun _ => by omega⟩
end Go.Proofs.YtoiolepengcagaaGreatDoor
namespace Go.Proofs.YtoiolepengcagaaGreatDoor
open Go.RowKit
def errs (es : List Int) : List Value := es.map fun e => Value.int .i64 e
def allOk (es : List Int) : Bool := es.all fun x => decide (x = 0)
def errIdx (es : List Int) : Nat → Nat → Int
  | _, 0 => -1
  | k, f + 1 => if es.getD k 0 = 0 then errIdx es (k + 1) f else (k : Int)
/-- the first error's index, or -1 -/
def firstErr (es : List Int) : Int := errIdx es 0 es.length
theorem errIdx_sign (es : List Int) (f k : Nat) (hk : k + f = es.length) : decide (0 ≤ errIdx es k f) = !((es.drop k).all fun x => decide (x = 0)) := by
  induction f generalizing k with
  | zero =>
    have : es.drop k = [] := List.drop_eq_nil_of_le (by omega)
    rw [this]; simp [errIdx]
  | succ f ih =>
    have hl : k < es.length := by omega
    rw [List.drop_eq_getElem_cons hl, List.all_cons]
    unfold errIdx
    have hg : es.getD k 0 = es[k] := by simp [hl]
    rw [hg]
    by_cases h : es[k] = 0
    · rw [if_pos h, ih (k + 1) (by omega)]; simp [h]
    · rw [if_neg h]; simp [h]
theorem firstErr_sign (es : List Int) : decide (0 ≤ firstErr es) = !allOk es := by
  have := errIdx_sign es es.length 0 (by omega)
  rw [List.drop_zero] at this
  exact this
set_option maxHeartbeats 400000 in
theorem indexErr_ok (es : List Int) (p : Option Addr) (n c b : Nat) (w : World) (hr : Reads w b 1 p n (errs es)) (hn : n ≤ 100) :
    Calls Tryz.prog 68 #[.slice p n c, .func (Fn.func 31) #[] #[]] w fun e w' => e = .returned (.int .i64 (firstErr es)) ∧ w = w' := by
  have hl : es.length = n := by have := hr.1; simpa [errs] using this
  subst hl
  go_enter Tryz.func68, Tryz.ntmps68
  go_wp2
  go_loop [8] (fun i => ∃ k : Nat, k ≤ es.length ∧ i = .int .i64 k ∧ Hid (firstErr es = errIdx es k (es.length - k))) (fun i => es.length - (intOf i).toNat)
  case atStart => exact ⟨0, Nat.zero_le _, rfl, rfl⟩
  case round =>
    obtain ⟨k, hk, rfl, HK⟩ := hrel
    by_cases hlt : k < es.length
    · obtain ⟨ad, u, rfl, _, hu, hc⟩ := hr.at_ hlt
      obtain ⟨x, hx⟩ : ∃ x, x = es.getD k 0 := ⟨_, rfl⟩
      have hcell : w.cell? (ad.add k) = some (.int .i64 x) := by rw [hc, ← hu, hx]; simp [errs, hlt]
      obtain ⟨f, hf⟩ : ∃ f, es.length - k = f + 1 := ⟨es.length - k - 1, by omega⟩
      have hs : errIdx es k (es.length - k) = if x = 0 then errIdx es (k + 1) (es.length - (k + 1)) else (k : Int) := by
        rw [hf, show es.length - (k + 1) = f by omega, hx]; rfl
      by_cases h0 : x = 0
      · have HN : Hid (firstErr es = errIdx es (k + 1) (es.length - (k + 1))) := by show firstErr es = _; rw [HK.out, hs, if_pos h0]
        subst h0
        clear hu hc hs HK hr hx hf
        go_wp2
        go_round
        case rel => exact ⟨k + 1, by omega, by go_num, HN.out⟩
        case measure => simp [intOf]; omega
      · have HN : Hid (firstErr es = (k : Int)) := by show firstErr es = _; rw [HK.out, hs, if_neg h0]
        have e1 : (x == 0) = false := by simpa using h0
        have e2 : (x != 0) = true := by simpa using h0
        clear hu hc hs HK hr hx h0 hf
        go_wp2
        go_ret
        exact ⟨by rw [HN.out]; rfl, rfl⟩
    · have HN : Hid (firstErr es = -1) := by show firstErr es = _; rw [HK.out, show es.length - k = 0 by omega]; rfl
      clear HK
      go_wp2
      go_ret
      exact ⟨by rw [HN.out]; rfl, rfl⟩
set_option maxHeartbeats 400000 in
theorem good_ok (es : List Int) (p : Option Addr) (n c b : Nat) (w : World) (hr : Reads w b 1 p n (errs es)) (hn : n ≤ 100) :
    Calls Tryz.prog 9 #[.slice p n c] w fun e w' => e = .returned (.bool (allOk es)) ∧ w = w' := by
  have hs := firstErr_sign es
  go_enter Tryz.func9, Tryz.ntmps9
  go_wp2_with (first | (go_at_call 68; refine (indexErr_ok es _ _ _ _ _ hr hn).mono ?_; rintro e w' ⟨rfl, rfl⟩) | go_in)
  go_ret
  exact ⟨by simp, rfl⟩
theorem errs_reads (w : World) (es : List Int) (t : TypeId) : Reads (w.alloc (.cells (errs es).toArray t)) (w.heap.size + 1) 1 (some ⟨w.heap.size, 0, none⟩) es.length (errs es) := by
  refine ⟨by simp [errs], fun _ => ⟨_, rfl, by simp, fun j u hj => ?_⟩⟩
  have hs : (w.alloc (.cells (errs es).toArray t)).cell? ⟨w.heap.size, j, none⟩ = (errs es)[j]? := by simp
  have ha : (⟨w.heap.size, 0, none⟩ : Addr).add j = ⟨w.heap.size, j, none⟩ := by
    unfold Addr.add
    split
    · rename_i h; subst h; rfl
    · simp
  rw [ha, hs, hj]
theorem good1 (x0 : Int) (w : World) : Calls Tryz.prog 9 #[.slice (some ⟨w.heap.size, 0, none⟩) 1 1] (w.alloc (.cells #[.int .i64 x0] 24))
    fun e w' => e = .returned (.bool (allOk [x0])) ∧ w.alloc (.cells #[.int .i64 x0] 24) = w' :=
  good_ok [x0] _ 1 1 _ _ (errs_reads w [x0] 24) (by omega)
theorem good2 (x0 x1 : Int) (w : World) : Calls Tryz.prog 9 #[.slice (some ⟨w.heap.size, 0, none⟩) 2 2] (w.alloc (.cells #[.int .i64 x0, .int .i64 x1] 24))
    fun e w' => e = .returned (.bool (allOk [x0, x1])) ∧ w.alloc (.cells #[.int .i64 x0, .int .i64 x1] 24) = w' :=
  good_ok [x0, x1] _ 2 2 _ _ (errs_reads w [x0, x1] 24) (by omega)
theorem good3 (x0 x1 x2 : Int) (w : World) : Calls Tryz.prog 9 #[.slice (some ⟨w.heap.size, 0, none⟩) 3 3] (w.alloc (.cells #[.int .i64 x0, .int .i64 x1, .int .i64 x2] 24))
    fun e w' => e = .returned (.bool (allOk [x0, x1, x2])) ∧ w.alloc (.cells #[.int .i64 x0, .int .i64 x1, .int .i64 x2] 24) = w' :=
  good_ok [x0, x1, x2] _ 3 3 _ _ (errs_reads w [x0, x1, x2] 24) (by omega)
theorem good4 (x0 x1 x2 x3 : Int) (w : World) : Calls Tryz.prog 9 #[.slice (some ⟨w.heap.size, 0, none⟩) 4 4] (w.alloc (.cells #[.int .i64 x0, .int .i64 x1, .int .i64 x2, .int .i64 x3] 24))
    fun e w' => e = .returned (.bool (allOk [x0, x1, x2, x3])) ∧ w.alloc (.cells #[.int .i64 x0, .int .i64 x1, .int .i64 x2, .int .i64 x3] 24) = w' :=
  good_ok [x0, x1, x2, x3] _ 4 4 _ _ (errs_reads w [x0, x1, x2, x3] 24) (by omega)
theorem good5 (x0 x1 x2 x3 x4 : Int) (w : World) : Calls Tryz.prog 9 #[.slice (some ⟨w.heap.size, 0, none⟩) 5 5] (w.alloc (.cells #[.int .i64 x0, .int .i64 x1, .int .i64 x2, .int .i64 x3, .int .i64 x4] 24))
    fun e w' => e = .returned (.bool (allOk [x0, x1, x2, x3, x4])) ∧ w.alloc (.cells #[.int .i64 x0, .int .i64 x1, .int .i64 x2, .int .i64 x3, .int .i64 x4] 24) = w' :=
  good_ok [x0, x1, x2, x3, x4] _ 5 5 _ _ (errs_reads w [x0, x1, x2, x3, x4] 24) (by omega)
theorem good6 (x0 x1 x2 x3 x4 x5 : Int) (w : World) : Calls Tryz.prog 9 #[.slice (some ⟨w.heap.size, 0, none⟩) 6 6] (w.alloc (.cells #[.int .i64 x0, .int .i64 x1, .int .i64 x2, .int .i64 x3, .int .i64 x4, .int .i64 x5] 24))
    fun e w' => e = .returned (.bool (allOk [x0, x1, x2, x3, x4, x5])) ∧ w.alloc (.cells #[.int .i64 x0, .int .i64 x1, .int .i64 x2, .int .i64 x3, .int .i64 x4, .int .i64 x5] 24) = w' :=
  good_ok [x0, x1, x2, x3, x4, x5] _ 6 6 _ _ (errs_reads w [x0, x1, x2, x3, x4, x5] 24) (by omega)
theorem goodB1 (x0 : Int) (w : World) : Calls Tryz.prog 9 #[.slice (some ⟨w.heap.size, 0, none⟩) 1 1] (w.alloc (.cells #[.int .i64 x0] 24))
    fun e w' => e = .returned (.bool (allOk [x0])) ∧ Below w.heap.size w w' :=
  (good1 x0 w).mono fun _ _ ⟨h1, h2⟩ => ⟨h1, h2 ▸ (Below.refl _ _).alloc (Nat.le_refl _) _⟩
theorem goodB2 (x0 x1 : Int) (w : World) : Calls Tryz.prog 9 #[.slice (some ⟨w.heap.size, 0, none⟩) 2 2] (w.alloc (.cells #[.int .i64 x0, .int .i64 x1] 24))
    fun e w' => e = .returned (.bool (allOk [x0, x1])) ∧ Below w.heap.size w w' :=
  (good2 x0 x1 w).mono fun _ _ ⟨h1, h2⟩ => ⟨h1, h2 ▸ (Below.refl _ _).alloc (Nat.le_refl _) _⟩
theorem goodB3 (x0 x1 x2 : Int) (w : World) : Calls Tryz.prog 9 #[.slice (some ⟨w.heap.size, 0, none⟩) 3 3] (w.alloc (.cells #[.int .i64 x0, .int .i64 x1, .int .i64 x2] 24))
    fun e w' => e = .returned (.bool (allOk [x0, x1, x2])) ∧ Below w.heap.size w w' :=
  (good3 x0 x1 x2 w).mono fun _ _ ⟨h1, h2⟩ => ⟨h1, h2 ▸ (Below.refl _ _).alloc (Nat.le_refl _) _⟩
theorem goodB4 (x0 x1 x2 x3 : Int) (w : World) : Calls Tryz.prog 9 #[.slice (some ⟨w.heap.size, 0, none⟩) 4 4] (w.alloc (.cells #[.int .i64 x0, .int .i64 x1, .int .i64 x2, .int .i64 x3] 24))
    fun e w' => e = .returned (.bool (allOk [x0, x1, x2, x3])) ∧ Below w.heap.size w w' :=
  (good4 x0 x1 x2 x3 w).mono fun _ _ ⟨h1, h2⟩ => ⟨h1, h2 ▸ (Below.refl _ _).alloc (Nat.le_refl _) _⟩
theorem goodB5 (x0 x1 x2 x3 x4 : Int) (w : World) : Calls Tryz.prog 9 #[.slice (some ⟨w.heap.size, 0, none⟩) 5 5] (w.alloc (.cells #[.int .i64 x0, .int .i64 x1, .int .i64 x2, .int .i64 x3, .int .i64 x4] 24))
    fun e w' => e = .returned (.bool (allOk [x0, x1, x2, x3, x4])) ∧ Below w.heap.size w w' :=
  (good5 x0 x1 x2 x3 x4 w).mono fun _ _ ⟨h1, h2⟩ => ⟨h1, h2 ▸ (Below.refl _ _).alloc (Nat.le_refl _) _⟩
theorem goodB6 (x0 x1 x2 x3 x4 x5 : Int) (w : World) : Calls Tryz.prog 9 #[.slice (some ⟨w.heap.size, 0, none⟩) 6 6] (w.alloc (.cells #[.int .i64 x0, .int .i64 x1, .int .i64 x2, .int .i64 x3, .int .i64 x4, .int .i64 x5] 24))
    fun e w' => e = .returned (.bool (allOk [x0, x1, x2, x3, x4, x5])) ∧ Below w.heap.size w w' :=
  (good6 x0 x1 x2 x3 x4 x5 w).mono fun _ _ ⟨h1, h2⟩ => ⟨h1, h2 ▸ (Below.refl _ _).alloc (Nat.le_refl _) _⟩
end Go.Proofs.YtoiolepengcagaaGreatDoor
namespace Go.Proofs.YtoiolepengcagaaGreatDoor
open Go.RowKit Go.Shelf
/-- the error of Join -/
def joinE (s : ByteArray) : Int := if 20000 < s.size then 2 else if badB s.data.toList = true then 3 else 0
theorem joinE_len {s : ByteArray} (h : joinE s = 0) : s.size ≤ 20000 ∧ badB s.data.toList = false := by
  unfold joinE at h
  split at h
  · cases h
  · rename_i h1
    split at h
    · cases h
    · rename_i h2
      exact ⟨by omega, by simpa using h2⟩
/-- what Join answers -/
def JoinPost (s : ByteArray) (w : World) (e : Ending) (w' : World) : Prop :=
  ((joinE s ≠ 0 ∧ e = .returned (.tuple #[.slice none 0 0, .int .i64 (joinE s)])) ∨ (joinE s = 0 ∧ ∃ po co, e = .returned (.tuple #[.slice po (joinL s.data.toList).length co, .int .i64 0]) ∧
    w'.ownsRow w.heap.size 125 2 (.slice po (joinL s.data.toList).length co) (joinL s.data.toList).length (cells2 lF lG (joinL s.data.toList)))) ∧ Below w.heap.size w w'
set_option maxHeartbeats 1000000 in
theorem JoinE_ok (s : ByteArray) (hs : s.size ≤ 4611686018427387904) (w : World) (hM : ML w) : Calls Tryz.prog 65 #[.string s] w (JoinPost s w) := by
  by_cases h1 : 20000 < s.size
  · have HE : Hid (joinE s = 2) := by show _ = _; unfold joinE; rw [if_pos h1]
    go_enter Tryz.func65, Tryz.ntmps65
    go_wp2
    go_ret2
    exact ⟨.inl ⟨by rw [HE.out]; decide, by rw [HE.out]; rfl⟩, Below.refl _ _⟩
  · cases h2 : badB s.data.toList
    · have HE : Hid (joinE s = 0) := by show _ = _; unfold joinE; rw [if_neg h1, h2]; rfl
      have HJ := Lib.hid (join_ok s (by omega) w hM)
      have HB := Lib.hid h2
      clear h2
      generalize hlj : joinL s.data.toList = L at HJ
      have HLJ := Lib.hid hlj
      clear hlj
      go_enter Tryz.func65, Tryz.ntmps65
      go_wp2_with (first
        | (go_at_call 100; refine (bad_ok s hs _).mono ?_; rw [HB.out]; rintro e w1 ⟨rfl, rfl⟩)
        | (go_at_call 101; refine HJ.out.mono ?_; rintro e w1 ⟨⟨po, co, rfl, hown⟩, hb⟩; have HO := Lib.hid hown; have HBL := Lib.hid hb; clear hown hb))
      go_ret2
      refine ⟨.inr ⟨HE.out, ?_⟩, HBL.out⟩
      rw [HLJ.out]
      exact ⟨po, co, rfl, HO.out⟩
    · have HE : Hid (joinE s = 3) := by show _ = _; unfold joinE; rw [if_neg h1, if_pos h2]
      have HB := Lib.hid h2
      clear h2
      go_enter Tryz.func65, Tryz.ntmps65
      go_wp2_with (go_at_call 100; refine (bad_ok s hs _).mono ?_; rw [HB.out]; rintro e w1 ⟨rfl, rfl⟩)
      go_ret2
      exact ⟨.inl ⟨by rw [HE.out]; decide, by rw [HE.out]; rfl⟩, Below.refl _ _⟩
abbrev LnH := Int × ByteArray
def hF (x : LnH) : Value := .int .i64 x.1
def hG (x : LnH) : Value := .string x.2
theorem run_neqL_same (x1 : Int) (x2 : ByteArray) (u : World) : (binOp .neq 125 (.agg #[.int .i64 x1, .string x2]) (.agg #[.int .i64 x1, .string x2])).run Tryz.prog u = .ok (.bool false) u := by
  have ht := Tryz.underlying125
  have hu : Tryz.prog.underlying 125 = some (.struct (Tryz.prog.fieldsOf 125)) := by unfold Program.fieldsOf; rw [ht]
  have hs : Tryz.prog.stoodInHeld 125 = false := by kernel_rfl
  rw [run_neq_struct, run_equalIn_agg u 9999 125 _ _ hu hs]
  simp only [Program.fieldsOf, ht]
  simp [Op.eqFields, part, run_equalIn_int, run_equalIn_string, Tryz.underlying3, Tryz.underlying9]
theorem getD_at {α : Type} {l : List α} {k : Nat} (d : α) (h : k < l.length) : l[k]? = some (l.getD k d) := by
  rw [List.getD_eq_getElem?_getD, List.getElem?_eq_getElem h]; rfl
theorem drewN_sum (w : World) (a b : Nat) : (w.drewN a).drewN b = w.drewN (a + b) := by
  induction b with
  | zero => rfl
  | succ b ih => rw [← Nat.add_assoc]; show ((w.drewN a).drewN b).drew = (w.drewN (a + b)).drew; rw [ih]
theorem p2_map {α β : Type} {f g : α → Value} {f' g' : β → Value} (φ : α → β) (hf : ∀ x, f' (φ x) = f x) (hg : ∀ x, g' (φ x) = g x) {w : World} {p : Option Addr} {n c : Nat} {l : List α} (h : P2At f g w p n c l) : P2At f' g' w p n c (l.map φ) := by
  refine ⟨by rw [List.length_map]; exact h.len, fun h0 => ?_, h.big⟩
  obtain ⟨b, o, e, h1, h2⟩ := h.at_ h0
  refine ⟨b, o, e, h1, fun k x hx => ?_⟩
  rw [List.getElem?_map, Option.map_eq_some_iff] at hx
  obtain ⟨y, hy, rfl⟩ := hx
  rw [hf, hg]
  exact h2 k y hy
def toH (x : Ln) : LnH := ((x.1 : Int), txt x.2)
theorem own_H {w : World} {base n c : Nat} {e : TypeId} {p : Option Addr} {l : List Ln} (h : w.ownsRow base e 2 (.slice p n c) n (cells2 lF lG l)) (hbig : n ≤ 8796093022208) : P2At hF hG w p n c (l.map toH) :=
  p2_map toH (fun _ => rfl) (fun _ => rfl) (P2At.own h hbig)
theorem joinL_len (s : Bl) : (joinL s).length ≤ s.length := by
  have key : ∀ n s at_, s.length ≤ n → (jg s at_).length ≤ s.length := by
    intro n
    induction n with
    | zero =>
      intro s at_ h
      have : s = [] := List.length_eq_zero_iff.1 (by omega)
      subst this
      rw [jg_nil]; exact Nat.le_refl _
    | succ n ih =>
      intro s at_ h
      by_cases hs : s = []
      · subst hs; rw [jg_nil]; exact Nat.le_refl _
      · have hl := lg_len _ [] s (at_ + 1) (Nat.le_refl _) hs
        have := ih (lg [] s (at_ + 1)).2.1 (lg [] s (at_ + 1)).2.2 (by omega)
        rw [jg_eq hs, List.length_append]
        split
        · simp; omega
        · simp only [List.length_singleton]; omega
  exact key _ s 0 (Nat.le_refl _)
theorem a_line : joinL [97, 10] = [(1, [97])] := by decide
theorem a_E : joinE ⟨#[97, 10]⟩ = 0 := by decide
end Go.Proofs.YtoiolepengcagaaGreatDoor
namespace Go.Proofs.YtoiolepengcagaaGreatDoor
open Go.RowKit Go.Shelf Go.Maps Go.WideMaps
theorem lawS : Keyed Tryz.prog 9 := string_keyed Tryz.underlying9
theorem info_strM : (Tryz.prog.info? 9).map (fun i => (i.zero, i.size, i.bytes)) = some (some (.string ⟨#[]⟩), 1, 16) := by kernel_rfl
def rawE (v : Value) : Option (DataW Value × List MemPlace) := some (.held v, [])
def nilS : Value := .slice none 0 0
/-- block B is a map of at most n entries: its keys, and the header at each key -/
def MapH (w : World) (B n : Nat) (ks : List Bs) (h : Bs → Value) : Prop :=
  ∃ D : DataW Value, w.ownsMap Tryz.prog 9 rawE B n D ∧ (∀ s, D.atKey (.string s) (.held nilS) = .held (h s)) ∧ (∀ s, has D (.string s) = true ↔ s ∈ ks)
theorem MapH.made (w : World) : MapH (w.alloc (.map #[] 0)) w.heap.size 0 [] (fun _ => nilS) :=
  ⟨.map [], World.ownsMap_made _ _ _ _, fun _ => rfl, fun s => by simp [has]⟩
theorem MapH.kept {w w' : World} {B n : Nat} {ks : List Bs} {h : Bs → Value} (hm : MapH w B n ks h) {row : Option Nat} (hg : w.grownBy w' row) (hne : some B ≠ row) : MapH w' B n ks h := by
  obtain ⟨D, h1, h2, h3⟩ := hm
  exact ⟨D, h1.kept hg hne, h2, h3⟩
theorem MapH.mono {w : World} {B n n' : Nat} {ks : List Bs} {h : Bs → Value} (hm : MapH w B n ks h) (hn : n ≤ n') : MapH w B n' ks h := by
  obtain ⟨D, h1, h2, h3⟩ := hm
  exact ⟨D, h1.mono hn, h2, h3⟩
theorem MapH.lt {w : World} {B n : Nat} {ks : List Bs} {h : Bs → Value} (hm : MapH w B n ks h) : B < w.heap.size := by
  obtain ⟨D, h1, _⟩ := hm
  exact h1.lt
theorem zeroS (w : World) : (zeroValue 23).run Tryz.prog w = .ok (.slice none 0 0) w := Tryz.zeroValue23 w
/-- the look-up at the operation -/
theorem look_h (w : World) {ops : Array Oper} {rest : List Oper} {o : Oper} {a : Act} {Q : Exit → Act → World → Prop}
    (hg : o.guard = none) (m x : Operand) (hop : o.op = Op.lookup 154 m x false) {B n : Nat} {ks : List Bs} {h : Bs → Value}
    (hm : a.eval m = .map (some B)) (hH : MapH w B n ks h) (s : ByteArray) (hx : a.eval x = .string s) (hs : s.size ≤ maxLen)
    (hK : wpList Tryz.prog ops Q rest (a.put o.dst (h s.data.toList)) w) : wpList Tryz.prog ops Q (o :: rest) a w := by
  refine wpList_plain hg fun K' hK' => ?_
  obtain ⟨D, h1, h2, _⟩ := hH
  obtain ⟨v, ps, hrun, hat⟩ := h1.lookup lawS Tryz.underlying154 (zeroS w) (zd := .held nilS) (zp := []) rfl (keyOf_string_mk Tryz.underlying9 hs)
  rw [h2] at hat
  have hv : v = h s.data.toList := by
    have h3 : (DataW.held v : DataW Value) = .held (h s.data.toList) := congrArg Prod.fst (Option.some.inj hat)
    exact DataW.held.inj h3
  subst hv
  unfold Oper.wp
  simp [execOp, hop, hm, hx, hrun, Result.andThen]
  exact hK' _ _ hK
def upd {α : Type} (f : Bs → α) (s : Bs) (v : α) : Bs → α := fun t => if t = s then v else f t
theorem upd_same {α : Type} (f : Bs → α) (s : Bs) (v : α) : upd f s v s = v := by unfold upd; rw [if_pos rfl]
theorem upd_other {α : Type} (f : Bs → α) {s t : Bs} (v : α) (h : t ≠ s) : upd f s v t = f t := by unfold upd; rw [if_neg h]
/-- the store at the operation -/
theorem store_h (w : World) {ops : Array Oper} {rest : List Oper} {o : Oper} {a : Act} {Q : Exit → Act → World → Prop}
    (hg : o.guard = none) (m x v : Operand) (hop : o.op = Op.mapUpdate 154 m x v) {B n : Nat} {ks : List Bs} {h : Bs → Value}
    (hm : a.eval m = .map (some B)) (hH : MapH w B n ks h) (hn : n < maxLen) (s : ByteArray) (hx : a.eval x = .string s) (hs : s.size ≤ maxLen) (u : Value) (hv : a.eval v = u)
    (hK : ∀ w', MapH w' B (n + 1) (s.data.toList :: ks) (upd h s.data.toList u) → w.grownBy w' (some B) → wpList Tryz.prog ops Q rest (a.put o.dst undef) w') : wpList Tryz.prog ops Q (o :: rest) a w := by
  obtain ⟨D, h1, h2, h3⟩ := hH
  have hT := (h1.tidy lawS).isMap
  refine wpList_mapUpdate_own w hg m x v _ hop 9 23 lawS Tryz.underlying154 rawE B n D hm h1 hn _ u _ hx hv (keyOf_string_mk Tryz.underlying9 hs) (.held u) [] rfl (fun w' r1 r2 => hK w' ⟨_, r1, fun t => ?_, fun t => ?_⟩ r2)
  · by_cases ht : t = s.data.toList
    · subst ht
      rw [upd_same]
      exact atKey_put_same hT (show WideAt.IsKeyLit (.string s.data.toList) from trivial) _ _
    · rw [upd_other _ _ ht, ← h2]
      exact atKey_put_other (fun e => ht (by injection e)) _ _
  · by_cases ht : t = s.data.toList
    · subst ht
      exact ⟨fun _ => List.mem_cons_self, fun _ => has_put_same hT (show WideAt.IsKeyLit (.string s.data.toList) from trivial) _⟩
    · rw [has_put_other (fun e => ht (by injection e)), h3, List.mem_cons]
      exact ⟨.inr, fun g => g.resolve_left ht⟩
/-- the map and all that its headers own; the header at t is being turned: it owns zs -/
structure GrpX (w : World) (B lo n : Nat) (ks : List Bs) (g : Bs → List ByteArray) (t : Bs) (v : Value) (zs : List ByteArray) : Prop where
  h : ∃ h, MapH w B n ks h ∧ (∀ s, s ≠ t → w.ownsRow lo 9 1 (h s) (g s).length (strsV (g s))) ∧ (∀ s s', s ≠ t → s' ≠ t → s ≠ s' → ∀ k, (h s).ownBlock = some k → (h s').ownBlock ≠ some k) ∧
    (∀ s, s ≠ t → ∀ k, (h s).ownBlock = some k → v.ownBlock ≠ some k)
  own : w.ownsRow lo 9 1 v zs.length (strsV zs)
  lo : B < lo
def Grp (w : World) (B lo n : Nat) (ks : List Bs) (g : Bs → List ByteArray) : Prop :=
  ∃ h, MapH w B n ks h ∧ (∀ s, w.ownsRow lo 9 1 (h s) (g s).length (strsV (g s))) ∧ (∀ s s', s ≠ s' → ∀ k, (h s).ownBlock = some k → (h s').ownBlock ≠ some k) ∧ B < lo
theorem Grp.made (w : World) : Grp (w.alloc (.map #[] 0)) w.heap.size (w.heap.size + 1) 0 [] (fun _ => []) :=
  ⟨_, MapH.made w, fun _ => World.ownsRow_nil _ _ _ _, fun _ _ _ k e => by simp [nilS, Value.ownBlock] at e, Nat.lt_succ_self _⟩
theorem Grp.kept {w w' : World} {B lo n : Nat} {ks : List Bs} {g : Bs → List ByteArray} (hG : Grp w B lo n ks g) (hg : w.grownBy w' none) : Grp w' B lo n ks g := by
  obtain ⟨h, h1, h2, h3, h4⟩ := hG
  refine ⟨h, h1.kept hg (by simp), fun s => (h2 s).kept hg ?_, h3, h4⟩
  cases hq : (h s).ownBlock with
  | none => exact .inl rfl
  | some k => exact .inr (by simp)
theorem GrpX.kept {w w' : World} {B lo n : Nat} {ks : List Bs} {g : Bs → List ByteArray} {t : Bs} {v : Value} {zs : List ByteArray} (hG : GrpX w B lo n ks g t v zs) (hg : w.grownBy w' none) : GrpX w' B lo n ks g t v zs := by
  obtain ⟨⟨h, h1, h2, h3, h4⟩, h5, h6⟩ := hG
  refine ⟨⟨h, h1.kept hg (by simp), fun s hs => (h2 s hs).kept hg ?_, h3, h4⟩, h5.kept hg ?_, h6⟩
  · cases hq : (h s).ownBlock with
    | none => exact .inl rfl
    | some k => exact .inr (by simp)
  · cases hq : v.ownBlock with
    | none => exact .inl rfl
    | some k => exact .inr (by simp)
/-- the append at the header in hand -/
theorem GrpX.appended {w w' : World} {B lo n : Nat} {ks : List Bs} {g : Bs → List ByteArray} {t : Bs} {v v' : Value} {zs zs' : List ByteArray} (hG : GrpX w B lo n ks g t v zs)
    (hown : w'.ownsRow lo 9 1 v' zs'.length (strsV zs')) (hg : w.grownBy w' v.ownBlock) (hloc : v'.ownBlock = v.ownBlock ∨ v'.ownBlock = some w.heap.size) : GrpX w' B lo n ks g t v' zs' := by
  obtain ⟨⟨h, h1, h2, h3, h4⟩, h5, h6⟩ := hG
  refine ⟨⟨h, h1.kept hg ?_, fun s hs => (h2 s hs).kept hg ?_, h3, fun s hs k hk => ?_⟩, hown, h6⟩
  · intro e
    have := (h5.lt B e.symm).1
    omega
  · cases hq : (h s).ownBlock with
    | none => exact .inl rfl
    | some k => exact .inr (fun e => h4 s hs k hq e.symm)
  · rcases hloc with e | e
    · rw [e]; exact h4 s hs k hk
    · rw [e]
      intro e2
      injection e2 with e2
      have := ((h2 s hs).lt k hk).2
      omega
theorem Grp.look {w : World} {B lo n : Nat} {ks : List Bs} {g : Bs → List ByteArray} (hG : Grp w B lo n ks g) (t : Bs) : ∃ h, MapH w B n ks h ∧ GrpX w B lo n ks g t (h t) (g t) := by
  obtain ⟨h, h1, h2, h3, h4⟩ := hG
  exact ⟨h, h1, ⟨⟨h, h1, fun s _ => h2 s, fun s s' _ _ e => h3 s s' e, fun s hs k hk => h3 s t hs k hk⟩, h2 t, h4⟩⟩
/-- the store at the operation, of the header in hand -/
theorem store_g (w : World) {ops : Array Oper} {rest : List Oper} {o : Oper} {a : Act} {Q : Exit → Act → World → Prop}
    (hg : o.guard = none) (m x v : Operand) (hop : o.op = Op.mapUpdate 154 m x v) {B lo n : Nat} {ks : List Bs} {g : Bs → List ByteArray} {zs : List ByteArray} {u : Value} (s : ByteArray)
    (hm : a.eval m = .map (some B)) (hG : GrpX w B lo n ks g s.data.toList u zs) (hn : n < maxLen) (hx : a.eval x = .string s) (hs : s.size ≤ maxLen) (hv : a.eval v = u)
    (hK : ∀ w', Grp w' B lo (n + 1) (s.data.toList :: ks) (upd g s.data.toList zs) → w.grownBy w' (some B) → wpList Tryz.prog ops Q rest (a.put o.dst undef) w') : wpList Tryz.prog ops Q (o :: rest) a w := by
  obtain ⟨⟨h, h1, h2, h3, h4⟩, h5, h6⟩ := hG
  refine store_h w hg m x v hop hm h1 hn s hx hs u hv fun w' r1 r2 => hK w' ⟨_, r1, fun t => ?_, fun t t' hne k hk => ?_, h6⟩ r2
  · by_cases ht : t = s.data.toList
    · subst ht
      rw [upd_same, upd_same]
      refine h5.kept r2 ?_
      cases hq : u.ownBlock with
      | none => exact .inl rfl
      | some k => exact .inr (fun e => by injection e with e; have := (h5.lt k hq).1; omega)
    · rw [upd_other _ _ ht, upd_other _ _ ht]
      refine (h2 t ht).kept r2 ?_
      cases hq : (h t).ownBlock with
      | none => exact .inl rfl
      | some k => exact .inr (fun e => by injection e with e; have := ((h2 t ht).lt k hq).1; omega)
  · by_cases ht : t = s.data.toList
    · subst ht
      rw [upd_same] at hk
      rw [upd_other _ _ (Ne.symm hne)]
      exact fun e => h4 t' (Ne.symm hne) k e hk
    · rw [upd_other _ _ ht] at hk
      by_cases ht' : t' = s.data.toList
      · subst ht'
        rw [upd_same]
        exact h4 t ht k hk
      · rw [upd_other _ _ ht']
        exact h3 t t' ht ht' hne k hk
end Go.Proofs.YtoiolepengcagaaGreatDoor
namespace Go.Proofs.YtoiolepengcagaaGreatDoor
abbrev Rl := List ByteArray × List ByteArray
def rulesE : List Rl → Int
  | [] => 0
  | r :: l => if ruleE r.1 r.2 ≠ 0 then ruleE r.1 r.2 else rulesE l
def addN (zs : List ByteArray) (n : ByteArray) : List ByteArray := if Lib.containsS zs n = true then zs else zs ++ [n]
def addAll (zs N : List ByteArray) : List ByteArray := N.foldl addN zs
def grpT (g : Bs → List ByteArray) (T N : List ByteArray) : Bs → List ByteArray := T.foldl (fun g t => upd g t.data.toList (addAll (g t.data.toList) N)) g
def grpR (l : List Rl) (g : Bs → List ByteArray) : Bs → List ByteArray := l.foldl (fun g r => grpT g r.1 r.2) g
theorem addN_mem {zs : List ByteArray} {n x : ByteArray} : x ∈ addN zs n ↔ x ∈ zs ∨ x = n := by
  unfold addN
  split
  · rename_i h
    rw [Lib.containsS_iff] at h
    exact ⟨.inl, fun g => g.elim id (fun e => e ▸ h)⟩
  · simp
theorem addAll_mem {N : List ByteArray} : ∀ {zs : List ByteArray} {x : ByteArray}, x ∈ addAll zs N ↔ x ∈ zs ∨ x ∈ N := by
  induction N with
  | nil => intro zs x; simp [addAll]
  | cons n N ih =>
    intro zs x
    show x ∈ addAll (addN zs n) N ↔ _
    rw [ih, addN_mem, List.mem_cons, or_assoc]
theorem addN_len (zs : List ByteArray) (n : ByteArray) : (addN zs n).length ≤ zs.length + 1 := by
  unfold addN
  split <;> simp
theorem addAll_len (N : List ByteArray) : ∀ zs : List ByteArray, (addAll zs N).length ≤ zs.length + N.length := by
  induction N with
  | nil => intro zs; simp [addAll]
  | cons n N ih =>
    intro zs
    show (addAll (addN zs n) N).length ≤ _
    have := ih (addN zs n)
    have := addN_len zs n
    rw [List.length_cons]
    omega
theorem addAll_take {N : List ByteArray} {k : Nat} {x : ByteArray} (zs : List ByteArray) (h : N[k]? = some x) : addAll zs (N.take (k + 1)) = addN (addAll zs (N.take k)) x := by
  unfold addAll
  rw [List.take_add_one, h, List.foldl_append]
  rfl
theorem grpT_take {T N : List ByteArray} {k : Nat} {x : ByteArray} (g : Bs → List ByteArray) (h : T[k]? = some x) : grpT g (T.take (k + 1)) N = upd (grpT g (T.take k) N) x.data.toList (addAll (grpT g (T.take k) N x.data.toList) N) := by
  unfold grpT
  rw [List.take_add_one, h, List.foldl_append]
  rfl
theorem grpR_take {l : List Rl} {k : Nat} {r : Rl} (g : Bs → List ByteArray) (h : l[k]? = some r) : grpR (l.take (k + 1)) g = grpT (grpR (l.take k) g) r.1 r.2 := by
  unfold grpR
  rw [List.take_add_one, h, List.foldl_append]
  rfl
theorem ba_inj {x y : ByteArray} (h : x.data.toList = y.data.toList) : x = y := by
  cases x; cases y
  exact congrArg ByteArray.mk (Array.toList_inj.1 h)
theorem grpT_mem {N : List ByteArray} {n : ByteArray} : ∀ (T : List ByteArray) (g : Bs → List ByteArray) (t : Bs), n ∈ grpT g T N t ↔ n ∈ g t ∨ (t ∈ T.map (·.data.toList) ∧ n ∈ N) := by
  intro T
  induction T with
  | nil => intro g t; simp [grpT]
  | cons u T ih =>
    intro g t
    show n ∈ grpT (upd g u.data.toList (addAll (g u.data.toList) N)) T N t ↔ _
    rw [ih]
    by_cases h : t = u.data.toList
    · subst h
      rw [upd_same, addAll_mem]
      simp only [List.map_cons, List.mem_cons, true_or, true_and]
      constructor
      · rintro ((h | h) | ⟨_, h⟩)
        · exact .inl h
        · exact .inr h
        · exact .inr h
      · rintro (h | h)
        · exact .inl (.inl h)
        · exact .inl (.inr h)
    · rw [upd_other _ _ h]
      simp [h]
theorem grpR_mem {n : ByteArray} : ∀ (l : List Rl) (g : Bs → List ByteArray) (t : Bs), n ∈ grpR l g t ↔ n ∈ g t ∨ ∃ r ∈ l, t ∈ r.1.map (·.data.toList) ∧ n ∈ r.2 := by
  intro l
  induction l with
  | nil => intro g t; simp [grpR]
  | cons r l ih =>
    intro g t
    show n ∈ grpR l (grpT g r.1 r.2) t ↔ _
    rw [ih, grpT_mem, or_assoc]
    simp only [List.mem_cons, exists_eq_or_imp]
theorem grpT_len {N : List ByteArray} : ∀ (T : List ByteArray) (g : Bs → List ByteArray) (t : Bs), (grpT g T N t).length ≤ (g t).length + T.length * N.length := by
  intro T
  induction T with
  | nil => intro g t; simp [grpT]
  | cons u T ih =>
    intro g t
    have h := ih (upd g u.data.toList (addAll (g u.data.toList) N)) t
    show (grpT (upd g u.data.toList (addAll (g u.data.toList) N)) T N t).length ≤ _
    rw [List.length_cons, Nat.succ_mul]
    by_cases e : t = u.data.toList
    · subst e
      rw [upd_same] at h
      have := addAll_len N (g u.data.toList)
      omega
    · rw [upd_other _ _ e] at h
      omega
theorem grpR_len : ∀ (l : List Rl) (g : Bs → List ByteArray) (t : Bs), (∀ r ∈ l, r.1.length ≤ 20 ∧ r.2.length ≤ 20) → (grpR l g t).length ≤ (g t).length + l.length * 400 := by
  intro l
  induction l with
  | nil => intro g t _; simp [grpR]
  | cons r l ih =>
    intro g t h
    have h1 := ih (grpT g r.1 r.2) t (fun x hx => h x (List.mem_cons_of_mem _ hx))
    have h2 := grpT_len (N := r.2) r.1 g t
    obtain ⟨a, b⟩ := h r List.mem_cons_self
    have h3 : r.1.length * r.2.length ≤ 20 * 20 := Nat.mul_le_mul a b
    show (grpR l (grpT g r.1 r.2) t).length ≤ _
    rw [List.length_cons, Nat.succ_mul]
    omega
/-- a rule that is joined passes the check -/
theorem rulesE_take : ∀ (l : List Rl) (k : Nat) (r : Rl), rulesE (l.take k) = 0 → l[k]? = some r → rulesE (l.take (k + 1)) = ruleE r.1 r.2 := by
  intro l
  induction l with
  | nil => intro k r _ h; simp at h
  | cons x l ih =>
    intro k r h0 h
    cases k with
    | zero =>
      simp at h
      subst h
      show (if ruleE x.1 x.2 ≠ 0 then ruleE x.1 x.2 else rulesE (l.take 0)) = _
      split
      · rfl
      · rename_i h1
        have : ruleE x.1 x.2 = 0 := by simpa using h1
        rw [this]
        rfl
    | succ k =>
      rw [List.take_succ_cons] at h0 ⊢
      unfold rulesE at h0 ⊢
      split at h0
      · rename_i h1; exact absurd h0 h1
      · rename_i h1
        rw [if_neg h1]
        exact ih k r h0 (by simpa using h)
theorem rulesE_all {l : List Rl} (h : rulesE l = 0) : ∀ r ∈ l, ruleE r.1 r.2 = 0 := by
  induction l with
  | nil => intro r hr; cases hr
  | cons x l ih =>
    unfold rulesE at h
    split at h
    · rename_i h1; exact absurd h h1
    · rename_i h1
      intro r hr
      rcases List.mem_cons.1 hr with rfl | hr
      · simpa using h1
      · exact ih h r hr
theorem rulesE_more : ∀ (l m : List Rl), rulesE l ≠ 0 → rulesE (l ++ m) = rulesE l := by
  intro l
  induction l with
  | nil => intro m h; exact absurd rfl h
  | cons x l ih =>
    intro m h
    unfold rulesE at h
    show (if ruleE x.1 x.2 ≠ 0 then ruleE x.1 x.2 else rulesE (l ++ m)) = (if ruleE x.1 x.2 ≠ 0 then ruleE x.1 x.2 else rulesE l)
    split
    · rfl
    · rename_i h1
      rw [if_neg h1] at h
      exact ih m h
theorem ruleE_few {T N : List ByteArray} (h : ruleE T N = 0) : T.length ≤ 20 ∧ N.length ≤ 20 := by
  unfold ruleE at h
  split at h
  · cases h
  · rename_i h1; omega
end Go.Proofs.YtoiolepengcagaaGreatDoor
