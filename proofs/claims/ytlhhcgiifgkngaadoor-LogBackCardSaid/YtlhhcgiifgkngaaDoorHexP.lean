/- Numbers in hexadecimal digits, plainly: the sixteen digits of a word, and the word that digits tell. Conditions: none. -/
namespace Go.Proofs.YtlhhcgiifgkngaaDoor
def hexD : List UInt8 := [48, 49, 50, 51, 52, 53, 54, 55, 56, 57, 97, 98, 99, 100, 101, 102]
def hexd (n : Nat) : UInt8 := hexD.getD n 0
/-- the digits of a number, the last first laid -/
def hexGo : Nat → Nat → List Nat → List Nat
  | 0, _, acc => acc
  | f + 1, u, acc => if u < 16 then u :: acc else hexGo f (u / 16) (u % 16 :: acc)
def hexN (u : Nat) : List Nat := hexGo 16 u []
def hexL (u : Nat) : List UInt8 := (hexN u).map hexd
def txtH (u : Nat) : List UInt8 := List.replicate (16 - (hexL u).length) 48 ++ hexL u
def hval (l : List Nat) : Nat := l.foldl (fun a d => a * 16 + d) 0
theorem hval_go (l : List Nat) : ∀ n, l.foldl (fun a d => a * 16 + d) n = n * 16 ^ l.length + hval l := by
  unfold hval
  induction l with
  | nil => intro n; simp
  | cons d l ih =>
    intro n
    rw [List.foldl_cons, List.foldl_cons, ih, ih (0 * 16 + d), List.length_cons, Nat.pow_succ, Nat.add_mul, Nat.zero_mul, Nat.zero_add, Nat.mul_assoc, Nat.mul_comm 16, Nat.add_assoc]
theorem hval_cons (d : Nat) (l : List Nat) : hval (d :: l) = d * 16 ^ l.length + hval l := by
  have := hval_go l d
  unfold hval at this ⊢
  rw [List.foldl_cons, Nat.zero_mul, Nat.zero_add]
  exact this
theorem hexGo_facts : ∀ (f u : Nat) (acc : List Nat), 0 < f → u < 16 ^ f → (∀ d ∈ acc, d < 16) → hval (hexGo f u acc) = u * 16 ^ acc.length + hval acc ∧ (∀ d ∈ hexGo f u acc, d < 16) ∧ (hexGo f u acc).length ≤ f + acc.length ∧ 0 < (hexGo f u acc).length := by
  intro f
  induction f with
  | zero => intro u acc h; exact absurd h (by omega)
  | succ f ih =>
    intro u acc _ hu hacc
    unfold hexGo
    split
    · rename_i h
      refine ⟨hval_cons _ _, fun d hd => ?_, by simp; omega, by simp⟩
      rcases List.mem_cons.1 hd with rfl | hd
      · exact h
      · exact hacc d hd
    · rename_i h
      have hf : 0 < f := by
        rcases Nat.eq_zero_or_pos f with rfl | h2
        · rw [Nat.pow_succ, Nat.pow_zero] at hu; omega
        · exact h2
      have h16 : u / 16 < 16 ^ f := by
        rw [Nat.pow_succ] at hu
        exact Nat.div_lt_of_lt_mul (by omega)
      obtain ⟨h1, h2, h3, h4⟩ := ih (u / 16) (u % 16 :: acc) hf h16 (fun d hd => by
        rcases List.mem_cons.1 hd with rfl | hd
        · exact Nat.mod_lt _ (by omega)
        · exact hacc d hd)
      refine ⟨?_, h2, by rw [List.length_cons] at h3; omega, h4⟩
      rw [h1, hval_cons, List.length_cons, Nat.pow_succ, ← Nat.add_assoc, Nat.mul_comm (16 ^ acc.length) 16, ← Nat.mul_assoc, ← Nat.add_mul]
      congr 2
      omega
theorem hexN_facts {u : Nat} (h : u < 2 ^ 64) : hval (hexN u) = u ∧ (∀ d ∈ hexN u, d < 16) ∧ (hexN u).length ≤ 16 ∧ 0 < (hexN u).length := by
  obtain ⟨h1, h2, h3, h4⟩ := hexGo_facts 16 u [] (by omega) (by rw [show (16 : Nat) ^ 16 = 2 ^ 64 from by decide]; exact h) (fun d hd => by cases hd)
  exact ⟨by unfold hexN; rw [h1]; simp [hval], h2, (by rw [List.length_nil] at h3; exact h3), h4⟩
/-- the digit that a byte tells -/
def dig (c : UInt8) : Option Nat :=
  if 48 ≤ c.toNat ∧ c.toNat ≤ 57 then some (c.toNat - 48) else if 97 ≤ (c ||| 32).toNat ∧ (c ||| 32).toNat ≤ 122 then some ((c ||| 32).toNat - 87) else none
theorem dig_hexd {d : Nat} (h : d < 16) : dig (hexd d) = some d := by
  have : ∀ d : Fin 16, dig (hexd d.1) = some d.1 := by decide
  exact this ⟨d, h⟩
/-- what ParseUint answers at base 16: the number, and the error's number -/
def parGo : List UInt8 → Nat → Nat × Int
  | [], n => (n, 0)
  | c :: l, n => match dig c with
    | none => (0, 2)
    | some d => if 16 ≤ d then (0, 2) else if 1152921504606846976 ≤ n then (18446744073709551615, 1) else parGo l (n * 16 + d)
def par (l : List UInt8) : Nat × Int := if l = [] then (0, 2) else parGo l 0
theorem parGo_digits : ∀ (l : List Nat) (n : Nat), (∀ d ∈ l, d < 16) → n * 16 ^ l.length + hval l < 2 ^ 64 → parGo (l.map hexd) n = (n * 16 ^ l.length + hval l, 0) := by
  intro l
  induction l with
  | nil => intro n _ _; simp [parGo, hval]
  | cons d l ih =>
    intro n hd hn
    have hd0 := hd d List.mem_cons_self
    rw [hval_cons, List.length_cons, Nat.pow_succ, Nat.mul_comm (16 ^ l.length) 16, ← Nat.mul_assoc, ← Nat.add_assoc, ← Nat.add_mul] at hn ⊢
    have hp : 0 < 16 ^ l.length := Nat.pow_pos (by omega)
    have hle : n * 16 + d ≤ (n * 16 + d) * 16 ^ l.length := Nat.le_mul_of_pos_right _ hp
    rw [List.map_cons]
    unfold parGo
    rw [dig_hexd hd0]
    simp only
    rw [if_neg (by omega), if_neg (by omega)]
    exact ih _ (fun x hx => hd x (List.mem_cons_of_mem _ hx)) hn
theorem txtH_digits (u : Nat) : txtH u = (List.replicate (16 - (hexN u).length) 0 ++ hexN u).map hexd := by
  unfold txtH hexL
  rw [List.map_append, List.map_replicate, List.length_map]
  rfl
theorem txtH_len {u : Nat} (h : u < 2 ^ 64) : (txtH u).length = 16 := by
  have := (hexN_facts h).2.2.1
  unfold txtH hexL
  rw [List.length_append, List.length_replicate, List.length_map]
  omega
theorem hval_zeros (k : Nat) (l : List Nat) : hval (List.replicate k 0 ++ l) = hval l := by
  induction k with
  | zero => rfl
  | succ k ih => rw [List.replicate_succ, List.cons_append, hval_cons, Nat.zero_mul, Nat.zero_add, ih]
/-- what is told is parsed into the same -/
theorem par_txt {u : Nat} (h : u < 2 ^ 64) : par (txtH u) = (u, 0) := by
  obtain ⟨h1, h2, h3, h4⟩ := hexN_facts h
  have hne : txtH u ≠ [] := fun e => by have := txtH_len h; rw [e] at this; cases this
  unfold par
  rw [if_neg hne, txtH_digits, parGo_digits]
  · rw [hval_zeros, h1, Nat.zero_mul, Nat.zero_add]
  · intro d hd
    rcases List.mem_append.1 hd with hd | hd
    · rw [List.eq_of_mem_replicate hd]; omega
    · exact h2 d hd
  · rw [hval_zeros, h1]; omega
theorem par_lt : ∀ (l : List UInt8) (n : Nat), n < 2 ^ 64 → (parGo l n).1 < 2 ^ 64 := by
  intro l
  induction l with
  | nil => intro n h; exact h
  | cons c l ih =>
    intro n h
    unfold parGo
    split
    · exact Nat.two_pow_pos 64
    · split
      · exact Nat.two_pow_pos 64
      · split
        · decide
        · exact ih _ (by omega)
end Go.Proofs.YtlhhcgiifgkngaaDoor
