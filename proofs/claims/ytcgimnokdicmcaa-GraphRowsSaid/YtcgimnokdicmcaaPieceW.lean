/- The walks through the methods of glob.piece. Conditions: none. -/
import Derived.Test.YtcgimnokdicmcaaRows
import Derived.Test.YtcgimnokdicmcaaGlob
import Derived.Test.YtcgimnokdicmcaaMem
import Derived.Test.YtcgimnokdicmcaaPopW
import Derived.RegionTactic
import Derived.ChangeAlike
import Derived.Outline
import Derived.WalkSpells
namespace Go.Proofs.Ytcgimnokdicmcaa
open Go.RowKit
/-- a piece as its five cells -/
def pcV (p : Pc) : Value := .agg #[.bool p.any, .int .u64 (un (wd p.set 0) : Int), .int .u64 (un (wd p.set 1) : Int), .int .u64 (un (wd p.set 2) : Int), .int .u64 (un (wd p.set 3) : Int)]
theorem sel5 (b : Value) (S : List B) {k : Nat} (hk : k < 4) : [b, .int .u64 (un (wd S 0) : Int), .int .u64 (un (wd S 1) : Int), .int .u64 (un (wd S 2) : Int), .int .u64 (un (wd S 3) : Int)][1 + k]? = some (.int .u64 (un (wd S k) : Int)) := by
  rcases (show k = 0 ∨ k = 1 ∨ k = 2 ∨ k = 3 by omega) with h | h | h | h <;> subst h <;> rfl
theorem u8_and63 (c : Nat) (hc : c < 256) : bits .and .u8 (c : Int) 63 = ((c % 64 : Nat) : Int) := by
  have h := u8_and_nat c 63 hc (by omega)
  have e : c &&& 63 = c % 64 := Nat.and_two_pow_sub_one_eq_mod c 6
  rw [e] at h
  exact h
theorem shr_bit' (s : B) (a : Nat) : (un (s >>> a &&& 1#64) : Int) = if has s a = true then 1 else 0 := by
  have e : un (s >>> a &&& 1#64) = un (s >>> a) % 2 := by
    unfold un; rw [BitVec.toNat_and]; exact Nat.and_one_is_mod _
  have e2 : un (s >>> a) = un s / 2 ^ a := by unfold un; rw [BitVec.toNat_ushiftRight, Nat.shiftRight_eq_div_pow]
  rw [e, e2, has_un, Nat.testBit_eq_decide_div_mod_eq]
  rcases Nat.mod_two_eq_zero_or_one (un s / 2 ^ a) with h | h <;> simp [h]
/-- the five cells of a piece -/
def pcL (a : Bool) (S : List B) : List Value := .bool a :: S.map fun x => Value.int .u64 (un x : Int)
theorem pcL_set (a : Bool) (S : List B) (j : Nat) (x : B) : (pcL a S).set (1 + j) (.int .u64 (un x : Int)) = pcL a (S.set j x) := by
  unfold pcL
  rw [Nat.add_comm, List.set_cons_succ, List.map_set]
theorem pcL_get (a : Bool) {S : List B} {j : Nat} (h : j < S.length) : (pcL a S)[1 + j]? = some (.int .u64 (un (wd S j) : Int)) := by
  unfold pcL wd
  rw [Nat.add_comm, List.getElem?_cons_succ]
  simp [h]
theorem pcL_four (a : Bool) {S : List B} (h : S.length = 4) : pcL a S = [.bool a, .int .u64 (un (wd S 0) : Int), .int .u64 (un (wd S 1) : Int), .int .u64 (un (wd S 2) : Int), .int .u64 (un (wd S 3) : Int)] := by
  match S, h with
  | [x0, x1, x2, x3], _ => rfl
theorem grown_drew {w w' : World} {o : Option Nat} (h : w.grownBy w' o) : w.grownBy w'.drew o := ⟨h.os, h.tape, h.output, h.size, h.block⟩
theorem grown_trans {w w1 w2 : World} {o : Option Nat} (h : w.grownBy w1 o) (h2 : w1.grownBy w2 o) : w.grownBy w2 o :=
  ⟨h2.os.trans h.os, h2.tape.trans h.tape, h2.output.trans h.output, Nat.le_trans h.size h2.size, fun k hk hn => (h2.block k (Nat.lt_of_lt_of_le hk h.size) hn).trans (h.block k hk hn)⟩
theorem grown_refl (w : World) (o : Option Nat) : w.grownBy w o := ⟨rfl, rfl, rfl, Nat.le_refl _, fun _ _ _ => rfl⟩
def turnN (S : List B) : Nat → List B
  | 0 => S
  | k + 1 => (turnN S k).set k (~~~wd S k)
theorem turnN_four {S : List B} (h : S.length = 4) : turnN S 4 = setTurn S := by
  match S, h with
  | [x0, x1, x2, x3], _ => rfl
theorem wd_turnN (S : List B) {k : Nat} : ∀ {j}, k ≤ j → wd (turnN S k) j = wd S j := by
  induction k with
  | zero => intro j _; rfl
  | succ k ih =>
    intro j hj
    show wd ((turnN S k).set k _) j = _
    unfold wd at ih ⊢
    rw [List.getD_eq_getElem?_getD, List.getElem?_set, if_neg (by omega), ← List.getD_eq_getElem?_getD]
    exact ih (by omega)
theorem i64_and63 (c : Nat) (hc : c < 256) : bits .and .i64 (c : Int) 63 = ((c % 64 : Nat) : Int) := by
  have h := i64_and_lit c 63 (by omega) (by omega)
  have e : c &&& 63 = c % 64 := Nat.and_two_pow_sub_one_eq_mod c 6
  rw [e] at h
  exact h
end Go.Proofs.Ytcgimnokdicmcaa
