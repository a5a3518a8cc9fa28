/- The walks through the methods of glob.piece. Conditions: none. -/
import Derived.Test.YteefncohknclcaaGreatDoorRows
import Derived.Test.YteefncohknclcaaGreatDoorGlob
import Derived.Test.YteefncohknclcaaGreatDoorMem
import Derived.Test.YteefncohknclcaaGreatDoorPopW
import Derived.RegionTactic
import Derived.ChangeAlike
import Derived.Outline
import Derived.WalkSpells
namespace Go.Proofs.YteefncohknclcaaGreatDoor
open Go.RowKit
/-- a piece as its five cells -/
def pcV (p : Pc) : Value := .agg #[.bool p.any, .int .u64 (un (wd p.set 0) : Int), .int .u64 (un (wd p.set 1) : Int), .int .u64 (un (wd p.set 2) : Int), .int .u64 (un (wd p.set 3) : Int)]
theorem sel5 (b : Value) (S : List B) {k : Nat} (hk : k < 4) : [b, .int .u64 (un (wd S 0) : Int), .int .u64 (un (wd S 1) : Int), .int .u64 (un (wd S 2) : Int), .int .u64 (un (wd S 3) : Int)][1 + k]? = some (.int .u64 (un (wd S k) : Int)) := by
  rcases (show k = 0 ∨ k = 1 ∨ k = 2 ∨ k = 3 by omega) with h | h | h | h <;> subst h <;> rfl
theorem u8_and63 (c : Nat) (hc : c < 256) : bits .and .u8 (c : Int) 63 = ((c % 64 : Nat) : Int) := by
  have h := u8_and_nat c 63 hc (by omega)
  have e : c &&& 63 = c % 64 := Nat.and_two_pow_sub_one_eq_mod c 6
  rw [e] at h
  exact h
theorem shr_bit' (s : B) (a : Nat) : (un (s >>> a &&& 1#64) : Int) = if has s a = true then 1 else 0 := by
  have e : un (s >>> a &&& 1#64) = un (s >>> a) % 2 := by
    unfold un; rw [BitVec.toNat_and]; exact Nat.and_one_is_mod _
  have e2 : un (s >>> a) = un s / 2 ^ a := by unfold un; rw [BitVec.toNat_ushiftRight, Nat.shiftRight_eq_div_pow]
  rw [e, e2, has_un, Nat.testBit_eq_decide_div_mod_eq]
  rcases Nat.mod_two_eq_zero_or_one (un s / 2 ^ a) with h | h <;> simp [h]
/-- the five cells of a piece -/
def pcL (a : Bool) (S : List B) : List Value := .bool a :: S.map fun x => Value.int .u64 (un x : Int)
theorem pcL_set (a : Bool) (S : List B) (j : Nat) (x : B) : (pcL a S).set (1 + j) (.int .u64 (un x : Int)) = pcL a (S.set j x) := by
  unfold pcL
  rw [Nat.add_comm, List.set_cons_succ, List.map_set]
theorem pcL_get (a : Bool) {S : List B} {j : Nat} (h : j < S.length) : (pcL a S)[1 + j]? = some (.int .u64 (un (wd S j) : Int)) := by
  unfold pcL wd
  rw [Nat.add_comm, List.getElem?_cons_succ]
  simp [h]
theorem pcL_four (a : Bool) {S : List B} (h : S.length = 4) : pcL a S = [.bool a, .int .u64 (un (wd S 0) : Int), .int .u64 (un (wd S 1) : Int), .int .u64 (un (wd S 2) : Int), .int .u64 (un (wd S 3) : Int)] := by
  match S, h with
  | [x0, x1, x2, x3], _ => rfl
/-- a block of its own that holds a piece -/
structure PcOwn (w : World) (base b : Nat) (a : Bool) (S : List B) : Prop where
  len : S.length = 4
  own : w.ownsRow base 172 1 (.slice (some ⟨b, 0, none⟩) 5 5) 5 (pcL a S)
theorem PcOwn.cell {w : World} {base b : Nat} {a : Bool} {S : List B} (h : PcOwn w base b a S) {j : Nat} (hj : j < 4) : w.cell? ⟨b, 1 + j, none⟩ = some (.int .u64 (un (wd S j) : Int)) := by
  rw [h.own.cellAt (1 + j) (by omega)]
  exact pcL_get a (by rw [h.len]; exact hj)
theorem PcOwn.cell0 {w : World} {base b : Nat} {a : Bool} {S : List B} (h : PcOwn w base b a S) : w.cell? ⟨b, 0, none⟩ = some (.bool a) := by
  rw [h.own.cellAt 0 (by omega)]
  rfl
theorem PcOwn.stored {w : World} {base b : Nat} {a : Bool} {S : List B} (h : PcOwn w base b a S) (j : Nat) (x : B) :
    PcOwn (w.setCell ⟨b, 1 + j, none⟩ (.int .u64 (un x : Int))) base b a (S.set j x) ∧ w.grownBy (w.setCell ⟨b, 1 + j, none⟩ (.int .u64 (un x : Int))) (some b) := by
  have h1 := h.own.stored (1 + j) (.int .u64 (un x : Int))
  rw [pcL_set] at h1
  exact ⟨⟨by rw [List.length_set]; exact h.len, h1.1⟩, h1.2⟩
theorem PcOwn.drew {w : World} {base b : Nat} {a : Bool} {S : List B} (h : PcOwn w base b a S) : PcOwn w.drew base b a S := ⟨h.len, h.own⟩
theorem grown_drew {w w' : World} {o : Option Nat} (h : w.grownBy w' o) : w.grownBy w'.drew o := ⟨h.os, h.tape, h.output, h.size, h.block⟩
theorem grown_trans {w w1 w2 : World} {o : Option Nat} (h : w.grownBy w1 o) (h2 : w1.grownBy w2 o) : w.grownBy w2 o :=
  ⟨h2.os.trans h.os, h2.tape.trans h.tape, h2.output.trans h.output, Nat.le_trans h.size h2.size, fun k hk hn => (h2.block k (Nat.lt_of_lt_of_le hk h.size) hn).trans (h.block k hk hn)⟩
theorem grown_refl (w : World) (o : Option Nat) : w.grownBy w o := ⟨rfl, rfl, rfl, Nat.le_refl _, fun _ _ _ => rfl⟩
def turnN (S : List B) : Nat → List B
  | 0 => S
  | k + 1 => (turnN S k).set k (~~~wd S k)
theorem turnN_four {S : List B} (h : S.length = 4) : turnN S 4 = setTurn S := by
  match S, h with
  | [x0, x1, x2, x3], _ => rfl
theorem wd_turnN (S : List B) {k : Nat} : ∀ {j}, k ≤ j → wd (turnN S k) j = wd S j := by
  induction k with
  | zero => intro j _; rfl
  | succ k ih =>
    intro j hj
    show wd ((turnN S k).set k _) j = _
    unfold wd at ih ⊢
    rw [List.getD_eq_getElem?_getD, List.getElem?_set, if_neg (by omega), ← List.getD_eq_getElem?_getD]
    exact ih (by omega)
set_option maxHeartbeats 1000000 in
theorem has_pc (p : Pc) (c : Nat) (hc : c < 256) (w : World) : Calls Tryz.prog 133 #[pcV p, .int .u8 (c : Int)] w fun e w' => e = .returned (.bool (pcHas p c)) ∧ w.alloc (.cells #[.bool p.any, .int .u64 (un (wd p.set 0) : Int), .int .u64 (un (wd p.set 1) : Int), .int .u64 (un (wd p.set 2) : Int), .int .u64 (un (wd p.set 3) : Int)] 172) = w' := by
  unfold pcV
  have hsel := sel5 (.bool p.any) p.set (k := c / 64) (by omega)
  have h63 := u8_and63 c hc
  have hsb := shr_bit' (wd p.set (c / 64)) (c % 64)
  have HV : Hid (pcHas p c = has (wd p.set (c / 64)) (c % 64)) := rfl
  generalize wd p.set (c / 64) = x at *
  have hm : c % 64 < 64 := by omega
  generalize c % 64 = m at *
  cases hk : has x m
  · rw [hk] at hsb HV
    simp only [Bool.false_eq_true, if_false] at hsb
    clear hk
    go_enter Tryz.func133, Tryz.ntmps133
    go_wp2
    go_ret
    exact ⟨by rw [HV.out]; rfl, rfl⟩
  · rw [hk] at hsb HV
    simp only [if_true] at hsb
    clear hk
    go_enter Tryz.func133, Tryz.ntmps133
    go_wp2
    go_ret
    exact ⟨by rw [HV.out]; rfl, rfl⟩
set_option maxHeartbeats 1000000 in
theorem turn_pc (base b : Nat) (a : Bool) (S : List B) (w : World) (h : PcOwn w base b a S) : Calls Tryz.prog 155 #[.pointer (some ⟨b, 0, none⟩)] w
    fun e w' => e = .returned (.tuple #[]) ∧ PcOwn w' base b a (setTurn S) ∧ w.grownBy w' (some b) := by
  have HF := Lib.hid (turnN_four h.len)
  go_enter Tryz.func155, Tryz.ntmps155
  go_wp2
  go_loopw [3] (fun i wr => ∃ k : Nat, k ≤ 4 ∧ i = .int .i64 k ∧ PcOwn wr base b a (turnN S k) ∧ w.grownBy wr (some b)) (fun i _ => 4 - (intOf i).toNat)
  case atStart => exact ⟨0, by omega, rfl, h, grown_refl _ _⟩
  case round =>
    obtain ⟨k, hk, rfl, hP, hg⟩ := hrel
    by_cases hlt : k < 4
    · have hc := hP.cell hlt
      have hfr := hP.own.frozenAt (1 + k)
      have hst : PcOwn _ base b a (turnN S (k + 1)) ∧ _ := hP.stored k (~~~wd S k)
      rw [wd_turnN S (Nat.le_refl k)] at hc
      have HST := Lib.hid hst
      have HG := Lib.hid hg
      have i1 : (0 : Int) ≤ (k : Int) := by omega
      have i2 : (k : Int) < 4 := by omega
      clear hP hst hg h
      generalize wd S k = x at *
      go_wp2
      go_region
      go_wp2
      go_roundw
      case rel => exact ⟨k + 1, by omega, by go_num, HST.out.1.drew, grown_drew (grown_trans HG.out HST.out.2)⟩
      case measure => simp [intOf]; omega
    · obtain rfl : k = 4 := by omega
      rw [HF.out] at hP
      go_wp2
      go_end0
      exact ⟨rfl, hP, hg⟩
theorem i64_and63 (c : Nat) (hc : c < 256) : bits .and .i64 (c : Int) 63 = ((c % 64 : Nat) : Int) := by
  have h := i64_and_lit c 63 (by omega) (by omega)
  have e : c &&& 63 = c % 64 := Nat.and_two_pow_sub_one_eq_mod c 6
  rw [e] at h
  exact h
set_option maxHeartbeats 1000000 in
theorem add_pc (base b : Nat) (a : Bool) (S : List B) (f t : Nat) (hf : f < 256) (ht : t < 256) (hft : f ≤ t + 1) (w : World) (h : PcOwn w base b a S) :
    Calls Tryz.prog 157 #[.pointer (some ⟨b, 0, none⟩), .int .u8 (f : Int), .int .u8 (t : Int)] w
    fun e w' => e = .returned (.tuple #[]) ∧ PcOwn w' base b a (setN S f (t + 1 - f)) ∧ w.grownBy w' (some b) := by
  have HL := Lib.hid h.len
  go_enter Tryz.func157, Tryz.ntmps157
  go_wp2
  go_loopw [6] (fun i wr => ∃ c : Nat, f ≤ c ∧ c ≤ t + 1 ∧ i = .int .i64 c ∧ PcOwn wr base b a (setN S f (c - f)) ∧ w.grownBy wr (some b)) (fun i _ => t + 1 - (intOf i).toNat)
  case atStart => exact ⟨f, by omega, by omega, rfl, by rw [Nat.sub_self]; exact h, grown_refl _ _⟩
  case round =>
    obtain ⟨c, hfc, hct, rfl, hP, hg⟩ := hrel
    by_cases hlt : c ≤ t
    · have hc := hP.cell (j := c / 64) (by omega)
      have hfr := hP.own.frozenAt (1 + c / 64)
      have hst : PcOwn (wr.setCell ⟨b, 1 + c / 64, none⟩ (.int .u64 (un (wd (setN S f (c - f)) (c / 64) ||| 1#64 <<< (c % 64)) : Int))) base b a (setN S f (c + 1 - f)) ∧ wr.grownBy (wr.setCell ⟨b, 1 + c / 64, none⟩ (.int .u64 (un (wd (setN S f (c - f)) (c / 64) ||| 1#64 <<< (c % 64)) : Int))) (some b) := by
        have e : setN S f (c + 1 - f) = (setN S f (c - f)).set (c / 64) (wd (setN S f (c - f)) (c / 64) ||| 1#64 <<< (c % 64)) := by
          rw [show c + 1 - f = (c - f) + 1 by omega]
          show setOne (setN S f (c - f)) (f + (c - f)) = _
          rw [show f + (c - f) = c by omega]; rfl
        rw [e]
        exact hP.stored (c / 64) (wd (setN S f (c - f)) (c / 64) ||| 1#64 <<< (c % 64))
      have h63 := i64_and63 c (by omega)
      have HST := Lib.hid hst
      have HG := Lib.hid hg
      have i1 : (0 : Int) ≤ (c : Int) / 64 := by omega
      have i2 : (c : Int) / 64 < 4 := by omega
      have hm : c % 64 < 64 := by omega
      clear hP hst hg h
      generalize wd (setN S f (c - f)) (c / 64) = x at *
      generalize c % 64 = m at *
      go_wp2
      go_region
      go_wp2
      go_roundw
      case rel => exact ⟨c + 1, by omega, by omega, by go_num, HST.out.1.drew, grown_drew (grown_trans HG.out HST.out.2)⟩
      case measure => simp [intOf]; omega
    · obtain rfl : c = t + 1 := by omega
      go_wp2
      go_end0
      exact ⟨rfl, hP, hg⟩
end Go.Proofs.YteefncohknclcaaGreatDoor
