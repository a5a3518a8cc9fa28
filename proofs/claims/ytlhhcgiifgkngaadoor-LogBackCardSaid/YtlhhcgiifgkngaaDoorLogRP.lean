/- The text of a stamp, and that a line tells one stamp at most, plainly. Conditions: none. -/
import Derived.Test.YtlhhcgiifgkngaaDoorLogP
import Derived.Test.YtlhhcgiifgkngaaDoorHexP
import Derived.Lib.SplitLaws
import Derived.Lib.ItoaMem
import Derived.Lib.ParseIntBCases
namespace Go.Proofs.YtlhhcgiifgkngaaDoor
/-! ### the pieces between blanks -/
/-- a text cut at every blank -/
def spl : List UInt8 → List (List UInt8)
  | [] => [[]]
  | c :: l => if c = 32 then [] :: spl l else match spl l with
    | [] => [[c]]
    | x :: xs => (c :: x) :: xs
theorem spl_ne (l : List UInt8) : spl l ≠ [] := by
  cases l with
  | nil => simp [spl]
  | cons c l =>
    unfold spl
    split
    · simp
    · split <;> simp
theorem spl_free (x : List UInt8) (h : (32 : UInt8) ∉ x) : spl x = [x] := by
  induction x with
  | nil => rfl
  | cons c x ih =>
    have hc : c ≠ 32 := fun e => h (by rw [e]; exact List.mem_cons_self)
    unfold spl
    rw [if_neg hc, ih fun h2 => h (List.mem_cons_of_mem _ h2)]
theorem spl_cons (x l : List UInt8) (h : (32 : UInt8) ∉ x) : spl (x ++ 32 :: l) = x :: spl l := by
  induction x with
  | nil => show spl (32 :: l) = _; rw [spl, if_pos rfl]
  | cons c x ih =>
    have hc : c ≠ 32 := fun e => h (by rw [e]; exact List.mem_cons_self)
    rw [List.cons_append, spl, if_neg hc, ih fun h2 => h (List.mem_cons_of_mem _ h2)]
theorem spl_cases (l : List UInt8) : (32 : UInt8) ∉ l ∨ ∃ x r, (32 : UInt8) ∉ x ∧ l = x ++ 32 :: r := by
  induction l with
  | nil => exact .inl (by simp)
  | cons c l ih =>
    by_cases hc : c = 32
    · exact .inr ⟨[], l, by simp, by rw [hc]; rfl⟩
    · rcases ih with h | ⟨x, r, h1, h2⟩
      · refine .inl fun h2 => ?_
        rcases List.mem_cons.1 h2 with h2 | h2
        · exact hc h2.symm
        · exact h h2
      · refine .inr ⟨c :: x, r, fun h3 => ?_, by rw [h2]; rfl⟩
        rcases List.mem_cons.1 h3 with h3 | h3
        · exact hc h3.symm
        · exact h1 h3
theorem index_at (x r : List UInt8) (h : (32 : UInt8) ∉ x) : Lib.index (x ++ 32 :: r) [32] = x.length := by
  refine Lib.index_first (by simp) ?_ ?_
  · simp [Lib.occAt]
  · intro j hj
    have hjl : j < (x ++ 32 :: r).length := by simp; omega
    rw [Lib.occAt, List.drop_eq_getElem_cons hjl, List.getElem_append_left hj]
    have : x[j] ≠ 32 := fun e => h (by rw [← e]; exact List.getElem_mem hj)
    simp [List.isPrefixOf]
    exact fun e => absurd e.symm this
theorem index_no (l : List UInt8) (h : (32 : UInt8) ∉ l) : Lib.index l [32] = -1 := by
  refine Lib.index_none fun j hj => ?_
  rcases Nat.lt_or_ge j l.length with hjl | hjl
  · rw [Lib.occAt, List.drop_eq_getElem_cons hjl]
    have : l[j] ≠ 32 := fun e => h (by rw [← e]; exact List.getElem_mem hjl)
    simp [List.isPrefixOf]
    exact fun e => absurd e.symm this
  · rw [Lib.occAt, List.drop_eq_nil_of_le hjl]; rfl
theorem splitK_spl : ∀ (n : Nat) (l : List UInt8), l.length ≤ n → Lib.splitK [32] 0 (Lib.count l [32]) l = spl l := by
  intro n
  induction n with
  | zero =>
    intro l h
    have : l = [] := List.length_eq_zero_iff.1 (by omega)
    subst this
    rw [Lib.count_one]
    rfl
  | succ n ih =>
    intro l h
    rcases spl_cases l with hn | ⟨x, r, hx, rfl⟩
    · rw [Lib.count_miss (index_no l hn), spl_free l hn]
      rfl
    · have hi := index_at x r hx
      have hd : (x ++ 32 :: r).drop (x.length + ([32] : List UInt8).length) = r := by simp
      rw [Lib.count_hit (by simp) hi, hd, Nat.add_comm 1, Lib.splitK, if_neg (by rw [hi]; intro e; have := beq_iff_eq.1 e; omega), hi, spl_cons x r hx]
      have e1 : ((x.length : Int)).toNat = x.length := by omega
      rw [e1, hd, Nat.add_zero, ih r (by simp at h; omega)]
      congr 1
      simp
theorem spl_three {l a b c : List UInt8} (h : spl l = [a, b, c]) : l = a ++ 32 :: (b ++ 32 :: c) ∧ (32 : UInt8) ∉ a ∧ (32 : UInt8) ∉ b ∧ (32 : UInt8) ∉ c := by
  rcases spl_cases l with hn | ⟨x, r, hx, rfl⟩
  · rw [spl_free l hn] at h; cases h
  · rw [spl_cons x r hx] at h
    injection h with h1 h2
    subst h1
    rcases spl_cases r with hn | ⟨y, r2, hy, rfl⟩
    · rw [spl_free r hn] at h2; cases h2
    · rw [spl_cons y r2 hy] at h2
      injection h2 with h3 h4
      subst h3
      rcases spl_cases r2 with hn | ⟨z, r3, hz, rfl⟩
      · rw [spl_free r2 hn] at h4
        injection h4 with h4 _
        subst h4
        exact ⟨rfl, hx, hy, hn⟩
      · rw [spl_cons z r3 hz] at h4
        injection h4 with _ h4
        exact absurd h4 (spl_ne r3)
/-- the pieces, as strings.Split answers them -/
def cutB (s : ByteArray) : List ByteArray := Lib.splitB ⟨#[32]⟩ 0 (Lib.countB s ⟨#[32]⟩) s
theorem cutB_list (s : ByteArray) : (cutB s).map (·.data.toList) = spl s.data.toList := by
  unfold cutB
  rw [Lib.splitB_data]
  exact splitK_spl _ _ (Nat.le_refl _)
/-! ### numbers -/
theorem decDigits_byte (u : Nat) : ∀ c ∈ Lib.decDigits u, 48 ≤ c.toNat ∧ c.toNat ≤ 57 := by
  induction u using Nat.strongRecOn with
  | _ u ih =>
    have dg : ∀ d, d < 10 → 48 ≤ (UInt8.ofNat (48 + d)).toNat ∧ (UInt8.ofNat (48 + d)).toNat ≤ 57 := by
      intro d hd
      have : (UInt8.ofNat (48 + d)).toNat = 48 + d := by
        simp
        omega
      omega
    intro c hc
    rw [Lib.decDigits] at hc
    split at hc
    · rename_i h
      rw [List.mem_singleton.1 hc]
      exact dg u h
    · rename_i h
      rcases List.mem_append.1 hc with hc | hc
      · exact ih _ (by omega) c hc
      · rw [List.mem_singleton.1 hc]
        exact dg _ (Nat.mod_lt _ (by decide))
theorem parseM_go (M : Nat) (hM : M ≤ 18446744073709551615) : ∀ (l : List UInt8) (acc : Nat), (∀ c ∈ l, 48 ≤ c.toNat ∧ c.toNat ≤ 57) → l.foldl (fun a c => a * 10 + (c.toNat - 48)) acc ≤ M → Lib.parseUintM M acc l = .ok (l.foldl (fun a c => a * 10 + (c.toNat - 48)) acc) := by
  have mono : ∀ (l : List UInt8) (a : Nat), a ≤ l.foldl (fun a c => a * 10 + (c.toNat - 48)) a := by
    intro l
    induction l with
    | nil => intro a; exact Nat.le_refl _
    | cons c l ih => intro a; exact Nat.le_trans (by omega) (ih (a * 10 + (c.toNat - 48)))
  intro l
  induction l with
  | nil => intro acc _ _; rfl
  | cons c l ih =>
    intro acc h hm
    have h1 := mono l (acc * 10 + (c.toNat - 48))
    rw [List.foldl_cons] at hm
    rw [Lib.parseUintM, if_pos (h c List.mem_cons_self), if_neg (by omega), if_neg (by omega), ih _ (fun x hx => h x (List.mem_cons_of_mem _ hx)) hm]
    rfl
theorem dec_fold (u : Nat) : (Lib.decDigits u).foldl (fun a c => a * 10 + (c.toNat - 48)) 0 = u := by
  induction u using Nat.strongRecOn with
  | _ u ih =>
    have dg : ∀ d, d < 10 → (UInt8.ofNat (48 + d)).toNat - 48 = d := by
      intro d hd
      have : (UInt8.ofNat (48 + d)).toNat = 48 + d := by
        simp
        omega
      omega
    rw [Lib.decDigits]
    split
    · rename_i h
      show 0 * 10 + _ = _
      rw [dg u h, Nat.zero_mul, Nat.zero_add]
    · rename_i h
      rw [List.foldl_append, ih _ (by omega)]
      show u / 10 * 10 + _ = u
      rw [dg _ (Nat.mod_lt _ (by decide))]
      omega
theorem dec_ne (u : Nat) : Lib.decDigits u ≠ [] := by
  rw [Lib.decDigits]
  split <;> simp
theorem parse_dec (u : Nat) (h : u < 9223372036854775808) : Lib.parseIntB 64 (Lib.decDigits u) = .ok (u : Int) := by
  have hb := decDigits_byte u
  have hf := dec_fold u
  cases hl : Lib.decDigits u with
  | nil => exact absurd hl (dec_ne u)
  | cons c r =>
    rw [hl] at hb hf
    have hc := hb c List.mem_cons_self
    rw [Lib.parseIntB_plain 64 c r (by omega) (by omega)]
    unfold Lib.parseUintB
    have e1 : (2 : Nat) ^ 64 - 1 = 18446744073709551615 := by decide
    have e2 : (2 : Nat) ^ (64 - 1) = 9223372036854775808 := by decide
    rw [if_neg (by simp), e1, e2, parseM_go _ (by decide) _ _ hb (by rw [hf]; omega), hf, Lib.signlessC, if_neg (by omega)]
/-! ### the text of a stamp -/
/-- a stamp: name, time, and how long it took (the float's word) -/
abbrev StP := ByteArray × Int × Nat
def txS (x : StP) : List UInt8 := x.1.data.toList ++ 32 :: (Lib.itoa x.2.1 ++ 32 :: (txtH x.2.2 ++ [10]))
/-- a stamp that a line may tell -/
def WfS (x : StP) : Prop := ((32 : UInt8) ∉ x.1.data.toList ∧ (10 : UInt8) ∉ x.1.data.toList) ∧ (0 ≤ x.2.1 ∧ x.2.1 < 9223372036854775808) ∧ x.2.2 < 2 ^ 64
theorem hexd_byte (d : Nat) : hexd d ≠ 32 ∧ hexd d ≠ 10 := by
  unfold hexd hexD
  rcases Nat.lt_or_ge d 16 with h | h
  · have : ∀ d : Fin 16, ([48, 49, 50, 51, 52, 53, 54, 55, 56, 57, 97, 98, 99, 100, 101, 102] : List UInt8).getD d.1 0 ≠ 32 ∧ ([48, 49, 50, 51, 52, 53, 54, 55, 56, 57, 97, 98, 99, 100, 101, 102] : List UInt8).getD d.1 0 ≠ 10 := by decide
    exact this ⟨d, h⟩
  · rw [List.getD_eq_getElem?_getD, List.getElem?_eq_none (by simpa using h)]
    decide
theorem txtH_free (u : Nat) : (32 : UInt8) ∉ txtH u ∧ (10 : UInt8) ∉ txtH u := by
  rw [txtH_digits]
  constructor <;>
  · intro h
    obtain ⟨d, _, hd⟩ := List.mem_map.1 h
    first | exact (hexd_byte d).1 hd | exact (hexd_byte d).2 hd
theorem dec_free (u : Nat) : (32 : UInt8) ∉ Lib.decDigits u ∧ (10 : UInt8) ∉ Lib.decDigits u := by
  constructor <;>
  · intro h
    have := decDigits_byte u _ h
    revert this
    decide
theorem itoa_pos {n : Int} (h : 0 ≤ n) : Lib.itoa n = Lib.decDigits n.toNat := by unfold Lib.itoa; rw [if_neg (by omega)]
theorem txS_body {x : StP} (h : WfS x) : ∃ y, txS x = y ++ [10] ∧ (10 : UInt8) ∉ y ∧ spl y = [x.1.data.toList, Lib.decDigits x.2.1.toNat, txtH x.2.2] := by
  obtain ⟨⟨h1, h2⟩, ⟨h3, _⟩, _⟩ := h
  refine ⟨x.1.data.toList ++ 32 :: (Lib.decDigits x.2.1.toNat ++ 32 :: txtH x.2.2), ?_, ?_, ?_⟩
  · unfold txS
    rw [itoa_pos h3]
    simp
  · intro hm
    simp only [List.mem_append, List.mem_cons] at hm
    rcases hm with hm | hm | hm | hm | hm
    · exact h2 hm
    · revert hm; decide
    · exact (dec_free _).2 hm
    · revert hm; decide
    · exact (txtH_free _).2 hm
  · rw [spl_cons _ _ h1, spl_cons _ _ (dec_free _).1, spl_free _ (txtH_free _).1]
theorem txS_inj {x y : StP} (hx : WfS x) (hy : WfS y) (h : txS x = txS y) : x = y := by
  obtain ⟨a, a1, _, a3⟩ := txS_body hx
  obtain ⟨b, b1, _, b3⟩ := txS_body hy
  have e : a = b := by
    rw [a1, b1] at h
    exact List.append_cancel_right h
  rw [e, b3] at a3
  injection a3 with e1 e2
  injection e2 with e2 e3
  injection e3 with e3 _
  have f1 : x.1 = y.1 := ByteArray.ext (Array.toList_inj.1 e1.symm)
  have f2 : x.2.1 = y.2.1 := by
    have h1 := parse_dec x.2.1.toNat (by have := hx.2.1; omega)
    have h2 := parse_dec y.2.1.toNat (by have := hy.2.1; omega)
    rw [← e2, h2] at h1
    injection h1 with h1
    have := hx.2.1.1
    have := hy.2.1.1
    omega
  have f3 : x.2.2 = y.2.2 := by
    have h1 := par_txt hx.2.2
    rw [← e3, par_txt hy.2.2] at h1
    injection h1 with h1 _
    exact h1.symm
  exact Prod.ext f1 (Prod.ext f2 f3)
instance : Inhabited StP := ⟨(ByteArray.empty, 0, 0)⟩
open Classical in
/-- the stamp that a line tells -/
noncomputable def rdS (s : List UInt8) : StP × Bool := if h : ∃ x, WfS x ∧ txS x = s then (Classical.choose h, true) else (default, false)
theorem rdS_yes {x : StP} (h : WfS x) : rdS (txS x) = (x, true) := by
  have hex : ∃ y, WfS y ∧ txS y = txS x := ⟨x, h, rfl⟩
  unfold rdS
  rw [dif_pos hex]
  obtain ⟨h1, h2⟩ := Classical.choose_spec hex
  rw [txS_inj h1 h h2]
theorem rdS_of {s : List UInt8} (h : (rdS s).2 = true) : WfS (rdS s).1 ∧ txS (rdS s).1 = s := by
  unfold rdS at h ⊢
  split at h
  · rename_i hex
    rw [dif_pos hex]
    exact Classical.choose_spec hex
  · cases h
theorem rdS_no {s : List UInt8} (h : (rdS s).2 = false) : ∀ x, WfS x → txS x ≠ s := by
  rintro x hx rfl
  rw [rdS_yes hx] at h
  cases h
/-- the line of a stamp ends, and holds no other end -/
theorem txS_line {x : StP} (h : WfS x) : ∃ y, (10 : UInt8) ∉ y ∧ txS x = y ++ [10] := by
  obtain ⟨y, h1, h2, _⟩ := txS_body h
  exact ⟨y, h2, h1⟩
end Go.Proofs.YtlhhcgiifgkngaaDoor
