/- The asks, plainly: how many there are in one, whether it is well formed, its text, and that the text tells it. Conditions: none. -/
import Derived.Test.YteefncohknclcaaGreatDoorNameW
import Derived.Lib.ItoaMem
namespace Go.Proofs.YteefncohknclcaaGreatDoor
def qtx (l : List UInt8) : ByteArray := ⟨l.toArray⟩
theorem qtx_list (l : List UInt8) : (qtx l).data.toList = l := by unfold qtx; simp
theorem list_qtx (s : ByteArray) : qtx s.data.toList = s := by unfold qtx; simp
theorem qtx_size (l : List UInt8) : (qtx l).size = l.length := by rw [← ba_len, qtx_list]
/-- an ask -/
inductive QA where
  | mk (kind : Int) (name : List UInt8) (num : Int) (xs : List QA)
def QA.kind : QA → Int | .mk k _ _ _ => k
def QA.name : QA → List UInt8 | .mk _ s _ _ => s
def QA.num : QA → Int | .mk _ _ n _ => n
def QA.xs : QA → List QA | .mk _ _ _ l => l
mutual
/-- how many asks are in it -/
def qcnt : QA → Nat
  | .mk _ _ _ xs => 1 + qcnts xs
def qcnts : List QA → Nat
  | [] => 0
  | x :: r => qcnt x + qcnts r
end
theorem qcnt_pos (x : QA) : 0 < qcnt x := by cases x; unfold qcnt; omega
theorem qcnt_mem {x : QA} {l : List QA} (h : x ∈ l) : qcnt x ≤ qcnts l := by
  induction l with
  | nil => cases h
  | cons y l ih =>
    unfold qcnts
    rcases List.mem_cons.1 h with h | h
    · subst h; omega
    · have := ih h; omega
theorem qcnts_app (l r : List QA) : qcnts (l ++ r) = qcnts l + qcnts r := by
  induction l with
  | nil => simp [qcnts]
  | cons x l ih => simp only [List.cons_append, qcnts, ih]; omega
theorem QA.ind {P : QA → Prop} (h : ∀ k s n xs, (∀ x ∈ xs, P x) → P (.mk k s n xs)) : ∀ x, P x := by
  have key : ∀ (c : Nat) (x : QA), qcnt x ≤ c → P x := by
    intro c
    induction c with
    | zero => intro x hx; have := qcnt_pos x; omega
    | succ c ih =>
      intro x hx
      cases x with
      | mk k s n xs =>
        refine h k s n xs fun y hy => ih y ?_
        have := qcnt_mem hy
        unfold qcnt at hx
        omega
  exact fun x => key _ x (Nat.le_refl _)
/-- a name, as a list of bytes -/
def nokL (s : List UInt8) : Bool := decide (s.length ≠ 0) && decide (s.length ≤ 40) && s.all signC
theorem nokL_eq (s : ByteArray) : nameE s = if nokL s.data.toList then 0 else 3 := by
  have hl := ba_len s
  unfold nameE nokL
  by_cases h : s.size = 0 ∨ 40 < s.size
  · rw [if_pos h, if_neg]
    simp only [Bool.and_eq_true, decide_eq_true_eq]
    omega
  · rw [if_neg h]
    have h1 : decide (s.data.toList.length ≠ 0) = true := decide_eq_true (by omega)
    have h2 : decide (s.data.toList.length ≤ 40) = true := decide_eq_true (by omega)
    rw [h1, h2]
    rfl
/-- how many asks a kind has in it -/
def qmany (k : Int) : Nat := if k ≤ 3 then 0 else if k ≤ 7 then 2 else if k ≤ 11 then 1 else if k ≤ 13 then 2 else 1
def qnamed (k : Int) : Bool := decide (k = 1) || decide (k = 3) || decide (k = 4) || decide (k = 14)
def qnumd (k : Int) : Bool := decide (k = 10) || decide (k = 11) || decide (k = 15)
section
variable (pat : List UInt8 → Bool)
/-- the error of one ask, without those in it -/
def qnodeE (k : Int) (s : List UInt8) (n : Int) (m : Nat) : Int :=
  if k < 1 ∨ 15 < k then 1
  else if m ≠ qmany k ∨ (qnamed k = false ∧ s ≠ []) ∨ (qnumd k = false ∧ n ≠ 0) then 1
  else if k = 14 then (if pat s then 0 else 3)
  else if qnamed k then (if nokL s = true ∧ ¬ (k = 1 ∧ s = [108, 101, 116]) then 0 else 3)
  else if k = 15 then (if n < 1 ∨ 3 < n then 4 else 0)
  else if n < 0 ∨ 100 < n then 4 else 0
mutual
/-- the first error in an ask -/
def qchk : QA → Int
  | .mk k s n xs => if qnodeE pat k s n xs.length ≠ 0 then qnodeE pat k s n xs.length else qchks xs
def qchks : List QA → Int
  | [] => 0
  | x :: r => if qchk x ≠ 0 then qchk x else qchks r
end
/-- the error of an ask -/
def qE (x : QA) : Int := if 60 < qcnt x then 2 else qchk pat x
end
theorem qchks_zero {pat : List UInt8 → Bool} {l : List QA} : qchks pat l = 0 ↔ ∀ x ∈ l, qchk pat x = 0 := by
  induction l with
  | nil => simp [qchks]
  | cons x l ih =>
    unfold qchks
    by_cases h : qchk pat x = 0
    · rw [if_neg (by simpa using h), ih]; simp [h]
    · rw [if_pos h]; simp [h]
theorem qchk_zero {pat : List UInt8 → Bool} {k : Int} {s : List UInt8} {n : Int} {xs : List QA} : qchk pat (.mk k s n xs) = 0 ↔ qnodeE pat k s n xs.length = 0 ∧ ∀ x ∈ xs, qchk pat x = 0 := by
  rw [qchk]
  by_cases h : qnodeE pat k s n xs.length = 0
  · rw [if_neg (by simpa using h), qchks_zero]; simp [h]
  · rw [if_pos h]; simp [h]
/-- the word of a kind -/
def qword (k : Int) : List UInt8 :=
  if k = 5 then [43] else if k = 6 then [94] else if k = 7 then [45]
  else if k = 8 ∨ k = 10 then [100, 101, 112, 115] else if k = 9 ∨ k = 11 then [117, 115, 101, 114, 115]
  else if k = 12 then [119, 97, 121, 115] else if k = 13 then [115, 111, 109, 101] else if k = 14 then [109, 97, 116, 99, 104] else []
def qkindw (n : Int) : List UInt8 := if n = 1 then [109, 97, 100, 101] else if n = 2 then [112, 104, 111, 110, 121] else if n = 3 then [112, 108, 97, 105, 110] else []
/-- the text of an ask, by the texts of those in it -/
def qbody (k : Int) (s : List UInt8) (n : Int) (ts : List (List UInt8)) : List UInt8 :=
  if k = 1 then s
  else if k = 2 then [42]
  else if k = 3 then 36 :: s
  else if k = 4 then [40, 108, 101, 116, 32] ++ (s ++ ([32, 61, 32] ++ (ts.getD 0 [] ++ ([32, 105, 110, 32] ++ (ts.getD 1 [] ++ [41])))))
  else if k = 5 ∨ k = 6 ∨ k = 7 then 40 :: (ts.getD 0 [] ++ (32 :: (qword k ++ (32 :: (ts.getD 1 [] ++ [41])))))
  else if k = 15 then qkindw n ++ (40 :: (ts.getD 0 [] ++ [41]))
  else if k = 14 then qword k ++ (40 :: (s ++ (44 :: 32 :: (ts.getD 0 [] ++ [41]))))
  else if k = 10 ∨ k = 11 then qword k ++ (40 :: (ts.getD 0 [] ++ (44 :: 32 :: (Lib.itoa n ++ [41]))))
  else if k = 12 ∨ k = 13 then qword k ++ (40 :: (ts.getD 0 [] ++ (44 :: 32 :: (ts.getD 1 [] ++ [41]))))
  else qword k ++ (40 :: (ts.getD 0 [] ++ [41]))
mutual
def qtxt : QA → List UInt8
  | .mk k s n xs => qbody k s n (qtxts xs)
def qtxts : List QA → List (List UInt8)
  | [] => []
  | x :: r => qtxt x :: qtxts r
end
/-- a sign that can not be in a word -/
def sepC (c : UInt8) : Bool := c == 32 || c == 40 || c == 41 || c == 44 || c == 36
def qwd (s : List UInt8) : List UInt8 := s.takeWhile fun c => !sepC c
def qrs (s : List UInt8) : List UInt8 := s.dropWhile fun c => !sepC c
/-- nothing, or a sign that ends a word -/
def SepAt : List UInt8 → Prop
  | [] => True
  | c :: _ => sepC c = true
theorem wd_app {s u : List UInt8} (h : ∀ c ∈ s, sepC c = false) (hu : SepAt u) : qwd (s ++ u) = s ∧ qrs (s ++ u) = u := by
  induction s with
  | nil =>
    cases u with
    | nil => exact ⟨rfl, rfl⟩
    | cons c u =>
      have hc : sepC c = true := hu
      exact ⟨by simp [qwd, hc], by simp [qrs, hc]⟩
  | cons c s ih =>
    have hc : sepC c = false := h c List.mem_cons_self
    obtain ⟨h1, h2⟩ := ih fun d hd => h d (List.mem_cons_of_mem _ hd)
    refine ⟨?_, ?_⟩
    · show (c :: (s ++ u)).takeWhile _ = _
      rw [List.takeWhile_cons, hc]
      exact congrArg (List.cons c) h1
    · show (c :: (s ++ u)).dropWhile _ = _
      rw [List.dropWhile_cons, hc]
      exact h2
theorem wd_app2 {s : List UInt8} (h : ∀ c ∈ s, sepC c = false) (c : UInt8) (p v : List UInt8) (hc : sepC c = true) : qwd (s ++ ((c :: p) ++ v)) = s ∧ qrs (s ++ ((c :: p) ++ v)) = (c :: p) ++ v := wd_app h (by show sepC c = true; exact hc)
theorem sign_sep {c : UInt8} (h : signC c = true) : sepC c = false := by
  revert h c
  have key : ∀ n : Fin 256, signC (UInt8.ofNat n.1) = true → sepC (UInt8.ofNat n.1) = false := by decide +kernel
  intro c h
  have h2 : UInt8.ofNat c.toNat = c := by simp
  have := key ⟨c.toNat, c.toNat_lt⟩
  rw [h2] at this
  exact this h
theorem nok_sep {s : List UInt8} (h : nokL s = true) : s ≠ [] ∧ ∀ c ∈ s, sepC c = false := by
  unfold nokL at h
  simp only [Bool.and_eq_true, decide_eq_true_eq] at h
  obtain ⟨⟨h1, h2⟩, h3⟩ := h
  refine ⟨fun e => h1 (by rw [e]; rfl), fun c hc => sign_sep ?_⟩
  exact List.all_eq_true.1 h3 c hc
theorem nok_head {c : UInt8} {s : List UInt8} (h : nokL (c :: s) = true) : c ≠ 42 := by
  intro e
  subst e
  unfold nokL at h
  simp only [Bool.and_eq_true, List.all_cons] at h
  exact absurd h.2.1 (by decide)
def qstrip (p s : List UInt8) : Option (List UInt8) := if p.isPrefixOf s then some (s.drop p.length) else none
theorem qstrip_app (p s : List UInt8) : qstrip p (p ++ s) = some s := by
  unfold qstrip
  have : p.isPrefixOf (p ++ s) = true := by simp
  rw [this]
  simp
/-- the kind between two -/
def qop (w : List UInt8) : Option Int := if w = [43] then some 5 else if w = [94] then some 6 else if w = [45] then some 7 else none
theorem dec_one {n : Nat} (h : n < 10) : Lib.decDigits n = [UInt8.ofNat (48 + n)] := by rw [Lib.decDigits, dif_pos h]
theorem dec_more {n : Nat} (h : ¬ n < 10) : Lib.decDigits n = Lib.decDigits (n / 10) ++ [UInt8.ofNat (48 + n % 10)] := by rw [Lib.decDigits, dif_neg h]
def itoa3 (n : Nat) : List UInt8 := if n < 10 then [UInt8.ofNat (48 + n)] else if n < 100 then [UInt8.ofNat (48 + n / 10), UInt8.ofNat (48 + n % 10)] else [49, 48, 48]
theorem itoa_small {n : Nat} (h : n ≤ 100) : Lib.itoa (n : Int) = itoa3 n := by
  unfold Lib.itoa itoa3
  rw [if_neg (by omega), show (n : Int).toNat = n from rfl]
  by_cases h1 : n < 10
  · rw [if_pos h1, dec_one h1]
  · rw [if_neg h1, dec_more h1]
    by_cases h2 : n < 100
    · rw [if_pos h2, dec_one (by omega)]
      rfl
    · rw [if_neg h2, dec_more (by omega), dec_one (by omega), show n = 100 by omega]
      rfl
def qnum (w : List UInt8) : Option Int := ((List.range 101).find? fun n => itoa3 n == w).map fun n => (n : Int)
theorem qnum_itoa {n : Int} (h0 : 0 ≤ n) (h1 : n ≤ 100) : qnum (Lib.itoa n) = some n ∧ ∀ c ∈ Lib.itoa n, sepC c = false := by
  have key : ∀ m : Fin 101, qnum (itoa3 m.1) = some (m.1 : Int) ∧ ∀ c ∈ itoa3 m.1, sepC c = false := by decide +kernel
  have := key ⟨n.toNat, by omega⟩
  rw [← itoa_small (show n.toNat ≤ 100 by omega), show ((n.toNat : Nat) : Int) = n by omega] at this
  exact this
section
variable (R : List UInt8 → Option (QA × List UInt8))
def qrdLet (r : List UInt8) : Option (QA × List UInt8) := do
  let r1 ← qstrip [32, 61, 32] (qrs r)
  let a ← R r1
  let r2 ← qstrip [32, 105, 110, 32] a.2
  let b ← R r2
  let r3 ← qstrip [41] b.2
  return (.mk 4 (qwd r) 0 [a.1, b.1], r3)
def qrdTwo (r : List UInt8) : Option (QA × List UInt8) := do
  let a ← R r
  let r1 ← qstrip [32] a.2
  let r2 ← qstrip [32] (qrs r1)
  let b ← R r2
  let r3 ← qstrip [41] b.2
  let k ← qop (qwd r1)
  return (.mk k [] 0 [a.1, b.1], r3)
def qrdMatch (r : List UInt8) : Option (QA × List UInt8) := do
  let r1 ← qstrip [44, 32] (qrs r)
  let a ← R r1
  let r2 ← qstrip [41] a.2
  return (.mk 14 (qwd r) 0 [a.1], r2)
def qrdWalk (k : Int) (r : List UInt8) : Option (QA × List UInt8) := do
  let a ← R r
  match qstrip [44, 32] a.2 with
  | some r1 => do
    let n ← qnum (qwd r1)
    let r2 ← qstrip [41] (qrs r1)
    return (.mk (k + 2) [] n [a.1], r2)
  | none => do
    let r2 ← qstrip [41] a.2
    return (.mk k [] 0 [a.1], r2)
def qrdWays (k : Int) (r : List UInt8) : Option (QA × List UInt8) := do
  let a ← R r
  let r1 ← qstrip [44, 32] a.2
  let b ← R r1
  let r2 ← qstrip [41] b.2
  return (.mk k [] 0 [a.1, b.1], r2)
def qrdKind (n : Int) (r : List UInt8) : Option (QA × List UInt8) := do
  let a ← R r
  let r2 ← qstrip [41] a.2
  return (.mk 15 [] n [a.1], r2)
def qrdCall (w r : List UInt8) : Option (QA × List UInt8) :=
  if w = qword 8 then qrdWalk R 8 r
  else if w = qword 9 then qrdWalk R 9 r
  else if w = qword 12 then qrdWays R 12 r
  else if w = qword 13 then qrdWays R 13 r
  else if w = qword 14 then qrdMatch R r
  else if w = qkindw 1 then qrdKind R 1 r
  else if w = qkindw 2 then qrdKind R 2 r
  else if w = qkindw 3 then qrdKind R 3 r
  else none
def qrdWord (s : List UInt8) : Option (QA × List UInt8) :=
  match qstrip [40] (qrs s) with
  | some r => qrdCall R (qwd s) r
  | none => if qwd s = [42] then some (.mk 2 [] 0 [], qrs s) else some (.mk 1 (qwd s) 0 [], qrs s)
def qrdOne (s : List UInt8) : Option (QA × List UInt8) :=
  match qstrip [36] s with
  | some r => some (.mk 3 (qwd r) 0 [], qrs r)
  | none =>
    match qstrip [40, 108, 101, 116, 32] s with
    | some r => qrdLet R r
    | none =>
      match qstrip [40] s with
      | some r => qrdTwo R r
      | none => qrdWord R s
end
/-- an ask is read: the ask, and what is left of the text -/
def qrd : Nat → List UInt8 → Option (QA × List UInt8)
  | 0, _ => none
  | f + 1, s => qrdOne (qrd f) s
theorem qstrip_no {p s : List UInt8} (h : p.isPrefixOf s = false) : qstrip p s = none := by
  unfold qstrip
  rw [h]
  rfl
/-- nothing, or a sign that may stand behind an ask -/
def EndAt : List UInt8 → Prop
  | [] => True
  | c :: _ => c = 32 ∨ c = 41 ∨ c = 44
theorem EndAt.sep {u : List UInt8} (h : EndAt u) : SepAt u := by
  cases u with
  | nil => trivial
  | cons c u => rcases h with h | h | h <;> subst h <;> rfl
/-- the facts of one ask that is well formed -/
theorem node_cases {pat : List UInt8 → Bool} {k : Int} {s : List UInt8} {n : Int} {m : Nat} (h : qnodeE pat k s n m = 0) :
    (k = 1 ∧ m = 0 ∧ n = 0 ∧ nokL s = true ∧ s ≠ [108, 101, 116]) ∨ (k = 2 ∧ m = 0 ∧ n = 0 ∧ s = []) ∨ (k = 3 ∧ m = 0 ∧ n = 0 ∧ nokL s = true) ∨ (k = 4 ∧ m = 2 ∧ n = 0 ∧ nokL s = true)
    ∨ ((k = 5 ∨ k = 6 ∨ k = 7) ∧ m = 2 ∧ n = 0 ∧ s = []) ∨ ((k = 8 ∨ k = 9) ∧ m = 1 ∧ n = 0 ∧ s = []) ∨ ((k = 10 ∨ k = 11) ∧ m = 1 ∧ 0 ≤ n ∧ n ≤ 100 ∧ s = [])
    ∨ ((k = 12 ∨ k = 13) ∧ m = 2 ∧ n = 0 ∧ s = []) ∨ (k = 14 ∧ m = 1 ∧ n = 0 ∧ pat s = true) ∨ (k = 15 ∧ m = 1 ∧ 1 ≤ n ∧ n ≤ 3 ∧ s = []) := by
  unfold qnodeE at h
  split at h
  · simp at h
  rename_i hk
  split at h
  · simp at h
  rename_i hm
  simp only [not_or, not_and, Decidable.not_not] at hm
  obtain ⟨h1, h2, h3⟩ := hm
  obtain ⟨j, rfl⟩ := Int.eq_ofNat_of_zero_le (show 0 ≤ k by omega)
  have hj : j = 1 ∨ j = 2 ∨ j = 3 ∨ j = 4 ∨ j = 5 ∨ j = 6 ∨ j = 7 ∨ j = 8 ∨ j = 9 ∨ j = 10 ∨ j = 11 ∨ j = 12 ∨ j = 13 ∨ j = 14 ∨ j = 15 := by omega
  rcases hj with h' | h' | h' | h' | h' | h' | h' | h' | h' | h' | h' | h' | h' | h' | h' <;> subst h' <;> simp [qmany, qnamed, qnumd] at h h1 h2 h3 ⊢ <;> simp_all <;> omega
theorem qtxts_get (l : List QA) (i : Nat) (h : i < l.length) : (qtxts l).getD i [] = qtxt (l[i]) := by
  induction l generalizing i with
  | nil => simp at h
  | cons x l ih =>
    cases i with
    | zero => rfl
    | succ i => exact ih i (by simpa using h)
theorem qtxts_one (x : QA) : qtxts [x] = [qtxt x] := rfl
theorem qtxts_two (x y : QA) : qtxts [x, y] = [qtxt x, qtxt y] := rfl
theorem len_one {α : Type} {l : List α} (h : l.length = 1) : ∃ x, l = [x] := by
  match l, h with
  | [x], _ => exact ⟨x, rfl⟩
theorem len_two {α : Type} {l : List α} (h : l.length = 2) : ∃ x y, l = [x, y] := by
  match l, h with
  | [x, y], _ => exact ⟨x, y, rfl⟩
theorem pre_one {c d : UInt8} {p s : List UInt8} (h : c ≠ d) : (c :: p).isPrefixOf (d :: s) = false := by
  simp [List.isPrefixOf, h]
theorem strip_sep {c : UInt8} {p u : List UInt8} (hc : c ≠ 32 ∧ c ≠ 41 ∧ c ≠ 44) (hu : EndAt u) : qstrip (c :: p) u = none := by
  cases u with
  | nil => rfl
  | cons d u =>
    refine qstrip_no (pre_one ?_)
    rcases hu with h | h | h <;> subst h
    · exact hc.1
    · exact hc.2.1
    · exact hc.2.2
/-- the first word of an ask's text is not 'let' with a blank behind -/
theorem word_text {pat : List UInt8 → Bool} (a : QA) (h : qchk pat a = 0) (u : List UInt8) (hu : EndAt u) : qstrip [108, 101, 116, 32] (qtxt a ++ u) = none := by
  cases a with
  | mk k s n xs =>
    obtain ⟨hn, _⟩ := qchk_zero.1 h
    have hq : qtxt (.mk k s n xs) = qbody k s n (qtxts xs) := rfl
    rw [hq]
    rcases node_cases hn with ⟨rfl, hm, _, h1, h2⟩ | ⟨rfl, _⟩ | ⟨rfl, _⟩ | ⟨rfl, _⟩ | ⟨hk, _⟩ | ⟨hk, _⟩ | ⟨hk, _⟩ | ⟨hk, _⟩ | ⟨rfl, _⟩ | ⟨rfl, _, h1, h2, _⟩
    · show qstrip _ (s ++ u) = none
      obtain ⟨h3, h4⟩ := nok_sep h1
      obtain ⟨w1, w2⟩ := wd_app h4 hu.sep
      refine qstrip_no ?_
      cases hp : ([108, 101, 116, 32] : List UInt8).isPrefixOf (s ++ u) with
      | false => rfl
      | true =>
        obtain ⟨r, hr⟩ := List.isPrefixOf_iff_prefix.1 hp
        have hr2 : ([108, 101, 116] : List UInt8) ++ (32 :: r) = s ++ u := hr
        obtain ⟨w3, _⟩ := wd_app (s := [108, 101, 116]) (u := 32 :: r) (by decide) rfl
        rw [hr2, w1] at w3
        exact absurd w3 h2
    · rfl
    · rfl
    · rfl
    · rcases hk with rfl | rfl | rfl <;> rfl
    · rcases hk with rfl | rfl <;> rfl
    · rcases hk with rfl | rfl <;> rfl
    · rcases hk with rfl | rfl <;> rfl
    · rfl
    · rcases (by omega : n = 1 ∨ n = 2 ∨ n = 3) with rfl | rfl | rfl <;> rfl
theorem call_wd {w r : List UInt8} (h : ∀ c ∈ w, sepC c = false) : qwd (w ++ 40 :: r) = w ∧ qstrip [40] (qrs (w ++ 40 :: r)) = some r := by
  obtain ⟨h1, h2⟩ := wd_app (u := 40 :: r) h rfl
  rw [h1, h2]
  exact ⟨rfl, qstrip_app [40] r⟩
theorem one_word {R : List UInt8 → Option (QA × List UInt8)} {c : UInt8} {s : List UInt8} (h : sepC c = false) : qrdOne R (c :: s) = qrdWord R (c :: s) := by
  have h1 : (36 : UInt8) ≠ c := fun e => by subst e; exact absurd h (by decide)
  have h2 : (40 : UInt8) ≠ c := fun e => by subst e; exact absurd h (by decide)
  unfold qrdOne
  rw [qstrip_no (pre_one h1), qstrip_no (pre_one h2), qstrip_no (pre_one h2)]
theorem one_call {R : List UInt8 → Option (QA × List UInt8)} {c : UInt8} {w r : List UInt8} (h : ∀ d ∈ c :: w, sepC d = false) : qrdOne R (c :: w ++ 40 :: r) = qrdCall R (c :: w) r := by
  obtain ⟨h1, h2⟩ := call_wd (r := r) h
  have h3 : qrdOne R (c :: w ++ 40 :: r) = qrdWord R (c :: w ++ 40 :: r) := one_word (h c List.mem_cons_self)
  rw [h3]
  unfold qrdWord
  rw [h1, h2]
/-- THE TEXT TELLS THE ASK -/
theorem rd_txt {pat : List UInt8 → Bool} (hp : ∀ s, pat s = true → ∀ c ∈ s, sepC c = false) : ∀ (a : QA), qchk pat a = 0 → ∀ (f : Nat) (u : List UInt8), qcnt a ≤ f → EndAt u → qrd f (qtxt a ++ u) = some (a, u) := by
  intro a
  induction a using QA.ind with
  | h k s n xs ih =>
    intro hc f u hf hu
    obtain ⟨hn, hxs⟩ := qchk_zero.1 hc
    have hcnt : qcnt (.mk k s n xs) = 1 + qcnts xs := rfl
    cases f with
    | zero => omega
    | succ f =>
    have hq : qtxt (.mk k s n xs) = qbody k s n (qtxts xs) := rfl
    rw [hq]
    have ih2 : ∀ x ∈ xs, ∀ v, EndAt v → qrd f (qtxt x ++ v) = some (x, v) := fun x hx v hv => ih x hx (hxs x hx) f v (by have := qcnt_mem hx; omega) hv
    have ih3 : ∀ x ∈ xs, ∀ (c : UInt8) (p v : List UInt8), (c = 32 ∨ c = 41 ∨ c = 44) → qrd f (qtxt x ++ ((c :: p) ++ v)) = some (x, (c :: p) ++ v) := fun x hx c p v hv => ih2 x hx _ (by show c = 32 ∨ c = 41 ∨ c = 44; exact hv)
    show qrdOne (qrd f) _ = _
    rcases node_cases hn with ⟨rfl, hm, rfl, h1, h2⟩ | ⟨rfl, hm, rfl, rfl⟩ | ⟨rfl, hm, rfl, h1⟩ | ⟨rfl, hm, rfl, h1⟩ | ⟨hk, hm, rfl, rfl⟩ | ⟨hk, hm, rfl, rfl⟩ | ⟨hk, hm, h1, h2, rfl⟩ | ⟨hk, hm, rfl, rfl⟩ | ⟨rfl, hm, rfl, h1⟩ | ⟨rfl, hm, h1, h2, rfl⟩
    · obtain rfl := List.length_eq_zero_iff.1 hm
      obtain ⟨h3, h4⟩ := nok_sep h1
      obtain ⟨w1, w2⟩ := wd_app h4 hu.sep
      show qrdOne _ (s ++ u) = _
      cases s with
      | nil => exact absurd rfl h3
      | cons c s =>
        have h5 : qrdOne (qrd f) (c :: s ++ u) = qrdWord (qrd f) (c :: s ++ u) := one_word (h4 c List.mem_cons_self)
        rw [h5]
        unfold qrdWord
        rw [w1, w2, strip_sep (by decide) hu]
        have h6 : (c :: s) ≠ [42] := fun e => by
          injection e with e1 e2
          exact nok_head h1 e1
        simp only [h6, if_false]
    · obtain rfl := List.length_eq_zero_iff.1 hm
      obtain ⟨w1, w2⟩ := wd_app (s := [42]) (by decide) hu.sep
      show qrdOne _ ([42] ++ u) = _
      have h5 : qrdOne (qrd f) ([42] ++ u) = qrdWord (qrd f) ([42] ++ u) := one_word (by decide)
      rw [h5]
      unfold qrdWord
      rw [w1, w2, strip_sep (by decide) hu]
      rfl
    · obtain rfl := List.length_eq_zero_iff.1 hm
      obtain ⟨h3, h4⟩ := nok_sep h1
      obtain ⟨w1, w2⟩ := wd_app h4 hu.sep
      show qrdOne _ ([36] ++ (s ++ u)) = _
      unfold qrdOne
      rw [qstrip_app]
      simp only [w1, w2]
    · obtain ⟨x, y, rfl⟩ := len_two hm
      obtain ⟨h3, h4⟩ := nok_sep h1
      have e : qbody 4 s 0 (qtxts [x, y]) ++ u = [40, 108, 101, 116, 32] ++ (s ++ ([32, 61, 32] ++ (qtxt x ++ ([32, 105, 110, 32] ++ (qtxt y ++ ([41] ++ u)))))) := by
        show ([40, 108, 101, 116, 32] ++ (s ++ ([32, 61, 32] ++ (qtxt x ++ ([32, 105, 110, 32] ++ (qtxt y ++ [41])))))) ++ u = _
        simp only [List.append_assoc]
      rw [e]
      obtain ⟨w1, w2⟩ := wd_app2 h4 32 [61, 32] (qtxt x ++ ([32, 105, 110, 32] ++ (qtxt y ++ ([41] ++ u)))) rfl
      have e1 : qstrip [36] ([40, 108, 101, 116, 32] ++ (s ++ ([32, 61, 32] ++ (qtxt x ++ ([32, 105, 110, 32] ++ (qtxt y ++ ([41] ++ u))))))) = none := qstrip_no (pre_one (by decide))
      unfold qrdOne
      rw [e1, qstrip_app]
      simp only [qrdLet, w1, w2]
      rw [qstrip_app]
      simp only [Option.bind_eq_bind, Option.bind_some]
      rw [ih3 x (by simp) _ _ _ (.inl rfl)]
      simp only [Option.bind_some]
      rw [qstrip_app]
      simp only [Option.bind_some]
      rw [ih3 y (by simp) _ _ _ (.inr (.inl rfl))]
      simp only [Option.bind_some]
      rw [qstrip_app]
      rfl
    · obtain ⟨x, y, rfl⟩ := len_two hm
      have hx0 : qchk pat x = 0 := hxs x (by simp)
      have e : qbody k [] 0 (qtxts [x, y]) ++ u = [40] ++ (qtxt x ++ ([32] ++ (qword k ++ ([32] ++ (qtxt y ++ ([41] ++ u)))))) := by
        have : qbody k [] 0 (qtxts [x, y]) = 40 :: (qtxt x ++ (32 :: (qword k ++ (32 :: (qtxt y ++ [41]))))) := by rcases hk with rfl | rfl | rfl <;> rfl
        rw [this]
        simp only [List.cons_append, List.append_assoc, List.nil_append]
      rw [e]
      have hkw : (∀ c ∈ qword k, sepC c = false) ∧ qop (qword k) = some k := by rcases hk with rfl | rfl | rfl <;> exact ⟨by decide, rfl⟩
      obtain ⟨w1, w2⟩ := wd_app2 hkw.1 32 [] (qtxt y ++ ([41] ++ u)) rfl
      have e2 := word_text x hx0 ([32] ++ (qword k ++ ([32] ++ (qtxt y ++ ([41] ++ u))))) (by show (32 : UInt8) = 32 ∨ _; exact .inl rfl)
      have e3 : qstrip [40, 108, 101, 116, 32] ([40] ++ (qtxt x ++ ([32] ++ (qword k ++ ([32] ++ (qtxt y ++ ([41] ++ u))))))) = none := by
        refine qstrip_no ?_
        unfold qstrip at e2
        split at e2
        · cases e2
        · rename_i h
          simp only [Bool.not_eq_true] at h
          show (([40, 108, 101, 116, 32] : List UInt8).isPrefixOf (40 :: _)) = false
          simp only [List.isPrefixOf, beq_self_eq_true, Bool.true_and]
          exact h
      have e1 : qstrip [36] ([40] ++ (qtxt x ++ ([32] ++ (qword k ++ ([32] ++ (qtxt y ++ ([41] ++ u))))))) = none := qstrip_no (pre_one (by decide))
      unfold qrdOne
      rw [e1, e3, qstrip_app]
      simp only [qrdTwo, Option.bind_eq_bind]
      rw [ih3 x (by simp) _ _ _ (.inl rfl)]
      simp only [Option.bind_some]
      rw [qstrip_app]
      simp only [Option.bind_some, w1, w2]
      rw [qstrip_app]
      simp only [Option.bind_some]
      rw [ih3 y (by simp) _ _ _ (.inr (.inl rfl))]
      simp only [Option.bind_some]
      rw [qstrip_app, hkw.2]
      rfl
    · obtain ⟨x, rfl⟩ := len_one hm
      have e : qbody k [] 0 (qtxts [x]) ++ u = qword k ++ 40 :: (qtxt x ++ ([41] ++ u)) := by
        have : qbody k [] 0 (qtxts [x]) = qword k ++ (40 :: (qtxt x ++ [41])) := by rcases hk with rfl | rfl <;> rfl
        rw [this]
        simp only [List.cons_append, List.append_assoc, List.nil_append]
      rw [e]
      have e1 : qrdOne (qrd f) (qword k ++ 40 :: (qtxt x ++ ([41] ++ u))) = qrdWalk (qrd f) k (qtxt x ++ ([41] ++ u)) := by
        rcases hk with rfl | rfl
        · exact (one_call (c := 100) (w := [101, 112, 115]) (by decide)).trans rfl
        · exact (one_call (c := 117) (w := [115, 101, 114, 115]) (by decide)).trans rfl
      rw [e1]
      unfold qrdWalk
      rw [ih3 x (by simp) _ _ _ (.inr (.inl rfl))]
      simp only [Option.bind_eq_bind, Option.bind_some]
      have e2 : qstrip [44, 32] ([41] ++ u) = none := qstrip_no (pre_one (by decide))
      rw [e2, qstrip_app]
      rfl
    · obtain ⟨x, rfl⟩ := len_one hm
      obtain ⟨q1, q2⟩ := qnum_itoa h1 h2
      have e : qbody k [] n (qtxts [x]) ++ u = qword k ++ 40 :: (qtxt x ++ ([44, 32] ++ (Lib.itoa n ++ ([41] ++ u)))) := by
        have : qbody k [] n (qtxts [x]) = qword k ++ (40 :: (qtxt x ++ (44 :: 32 :: (Lib.itoa n ++ [41])))) := by rcases hk with rfl | rfl <;> rfl
        rw [this]
        simp only [List.cons_append, List.append_assoc, List.nil_append]
      rw [e]
      have e1 : qrdOne (qrd f) (qword k ++ 40 :: (qtxt x ++ ([44, 32] ++ (Lib.itoa n ++ ([41] ++ u))))) = qrdWalk (qrd f) (k - 2) (qtxt x ++ ([44, 32] ++ (Lib.itoa n ++ ([41] ++ u)))) := by
        rcases hk with rfl | rfl
        · exact (one_call (c := 100) (w := [101, 112, 115]) (by decide)).trans rfl
        · exact (one_call (c := 117) (w := [115, 101, 114, 115]) (by decide)).trans rfl
      rw [e1]
      unfold qrdWalk
      rw [ih3 x (by simp) _ _ _ (.inr (.inr rfl))]
      simp only [Option.bind_eq_bind, Option.bind_some]
      obtain ⟨w1, w2⟩ := wd_app2 q2 41 [] u rfl
      rw [qstrip_app]
      simp only [w1, w2]
      rw [q1]
      simp only [Option.bind_some]
      rw [qstrip_app, show k - 2 + 2 = k by omega]
      rfl
    · obtain ⟨x, y, rfl⟩ := len_two hm
      have e : qbody k [] 0 (qtxts [x, y]) ++ u = qword k ++ 40 :: (qtxt x ++ ([44, 32] ++ (qtxt y ++ ([41] ++ u)))) := by
        have : qbody k [] 0 (qtxts [x, y]) = qword k ++ (40 :: (qtxt x ++ (44 :: 32 :: (qtxt y ++ [41])))) := by rcases hk with rfl | rfl <;> rfl
        rw [this]
        simp only [List.cons_append, List.append_assoc, List.nil_append]
      rw [e]
      have e1 : qrdOne (qrd f) (qword k ++ 40 :: (qtxt x ++ ([44, 32] ++ (qtxt y ++ ([41] ++ u))))) = qrdWays (qrd f) k (qtxt x ++ ([44, 32] ++ (qtxt y ++ ([41] ++ u)))) := by
        rcases hk with rfl | rfl
        · exact (one_call (c := 119) (w := [97, 121, 115]) (by decide)).trans rfl
        · exact (one_call (c := 115) (w := [111, 109, 101]) (by decide)).trans rfl
      rw [e1]
      unfold qrdWays
      rw [ih3 x (by simp) _ _ _ (.inr (.inr rfl))]
      simp only [Option.bind_eq_bind, Option.bind_some]
      rw [qstrip_app]
      simp only [Option.bind_some]
      rw [ih3 y (by simp) _ _ _ (.inr (.inl rfl))]
      simp only [Option.bind_some]
      rw [qstrip_app]
      rfl
    · obtain ⟨x, rfl⟩ := len_one hm
      have e : qbody 14 s 0 (qtxts [x]) ++ u = qword 14 ++ 40 :: (s ++ ([44, 32] ++ (qtxt x ++ ([41] ++ u)))) := by
        have : qbody 14 s 0 (qtxts [x]) = qword 14 ++ (40 :: (s ++ (44 :: 32 :: (qtxt x ++ [41])))) := rfl
        rw [this]
        simp only [List.cons_append, List.append_assoc, List.nil_append]
      rw [e]
      have e1 : qrdOne (qrd f) (qword 14 ++ 40 :: (s ++ ([44, 32] ++ (qtxt x ++ ([41] ++ u))))) = qrdMatch (qrd f) (s ++ ([44, 32] ++ (qtxt x ++ ([41] ++ u)))) :=
        (one_call (c := 109) (w := [97, 116, 99, 104]) (by decide)).trans rfl
      rw [e1]
      obtain ⟨w1, w2⟩ := wd_app2 (hp s h1) 44 [32] (qtxt x ++ ([41] ++ u)) rfl
      simp only [qrdMatch, w1, w2]
      rw [qstrip_app]
      simp only [Option.bind_eq_bind, Option.bind_some]
      rw [ih3 x (by simp) _ _ _ (.inr (.inl rfl))]
      simp only [Option.bind_some]
      rw [qstrip_app]
      rfl
    · obtain ⟨x, rfl⟩ := len_one hm
      have e : qbody 15 [] n (qtxts [x]) ++ u = qkindw n ++ 40 :: (qtxt x ++ ([41] ++ u)) := by
        have : qbody 15 [] n (qtxts [x]) = qkindw n ++ (40 :: (qtxt x ++ [41])) := rfl
        rw [this]
        simp only [List.cons_append, List.append_assoc, List.nil_append]
      rw [e]
      have e1 : qrdOne (qrd f) (qkindw n ++ 40 :: (qtxt x ++ ([41] ++ u))) = qrdKind (qrd f) n (qtxt x ++ ([41] ++ u)) := by
        rcases (by omega : n = 1 ∨ n = 2 ∨ n = 3) with rfl | rfl | rfl
        · exact (one_call (c := 109) (w := [97, 100, 101]) (by decide)).trans rfl
        · exact (one_call (c := 112) (w := [104, 111, 110, 121]) (by decide)).trans rfl
        · exact (one_call (c := 112) (w := [108, 97, 105, 110]) (by decide)).trans rfl
      rw [e1]
      unfold qrdKind
      rw [ih3 x (by simp) _ _ _ (.inr (.inl rfl))]
      simp only [Option.bind_eq_bind, Option.bind_some]
      rw [qstrip_app]
      rfl
/-- two asks of one text are one ask -/
theorem qtxt_inj {pat : List UInt8 → Bool} (hp : ∀ s, pat s = true → ∀ c ∈ s, sepC c = false) {a b : QA} (ha : qchk pat a = 0) (hb : qchk pat b = 0) (h : qtxt a = qtxt b) : a = b := by
  have h1 := rd_txt hp a ha (qcnt a + qcnt b) [] (by omega) trivial
  have h2 := rd_txt hp b hb (qcnt a + qcnt b) [] (by omega) trivial
  rw [h, h2] at h1
  injection h1 with h1
  injection h1 with h1 _
  exact h1.symm
end Go.Proofs.YteefncohknclcaaGreatDoor
