/- What is normal, plainly: the rules, that they come to an end, that what is normal stays, and that the order of two is no matter. Conditions: none. -/
import Derived.Test.YteefncohknclcaaGreatDoorAskP
namespace Go.Proofs.YteefncohknclcaaGreatDoor
/-- the rules of two -/
def qtwo (k : Int) (s : List UInt8) (n : Int) (a b : QA) : QA × Bool :=
  if qtxt a = qtxt b then (a, true)
  else if k = 5 ∧ (a.kind = 2 ∨ b.kind = 2) then (.mk 2 [] 0 [], true)
  else if a.kind = 2 then (b, true)
  else if b.kind = 2 then (a, true)
  else if qtxt b < qtxt a then (.mk k [] 0 [b, a], true)
  else (.mk k s n [a, b], false)
/-- the rules of what is come to -/
def qwalks (whole part : Int) (k : Int) (s : List UInt8) (n : Int) (y : QA) : QA × Bool :=
  if k = part ∧ n = 0 then (y, true)
  else if y.kind = 2 then (y, true)
  else if k = whole ∧ (y.kind = whole ∨ y.kind = part) then (.mk whole [] 0 y.xs, true)
  else if y.kind = whole then (y, true)
  else if y.kind = part ∧ n + y.num ≤ 100 then (.mk part [] (n + y.num) y.xs, true)
  else (.mk k s n [y], false)
/-- the rule that fits -/
def qrule : QA → QA × Bool
  | .mk k s n xs =>
    if k = 5 ∨ k = 6 then
      (match xs with
      | [a, b] => qtwo k s n a b
      | xs => (.mk k s n xs, false))
    else if k = 8 ∨ k = 10 then
      (match xs with
      | [y] => qwalks 8 10 k s n y
      | xs => (.mk k s n xs, false))
    else if k = 9 ∨ k = 11 then
      (match xs with
      | [y] => qwalks 9 11 k s n y
      | xs => (.mk k s n xs, false))
    else if k = 14 ∨ k = 15 then
      (match xs with
      | [y] => if y.kind = k ∧ y.name = s ∧ y.num = n then (y, true) else (.mk k s n [y], false)
      | xs => (.mk k s n xs, false))
    else if k = 7 then
      (match xs with
      | [a, .mk k2 s2 n2 [b, c]] => if k2 = 7 ∧ qtxt b = qtxt a then (.mk 6 [] 0 [a, c], true) else (.mk k s n [a, .mk k2 s2 n2 [b, c]], false)
      | xs => (.mk k s n xs, false))
    else (.mk k s n xs, false)
def qagain : Nat → QA → QA
  | 0, x => x
  | f + 1, x => if (qrule x).2 = true then qagain f (qrule x).1 else x
/-- two that are the wrong way round -/
def qturned : QA → Nat
  | .mk _ _ _ [a, b] => if qtxt b < qtxt a then 1 else 0
  | _ => 0
def qmeas (x : QA) : Nat := 2 * qcnt x + qturned x
theorem turned_le (x : QA) : qturned x ≤ 1 := by
  unfold qturned
  split
  · split <;> omega
  · omega
mutual
/-- what is normal -/
def qnrm : QA → QA
  | .mk k s n xs => qagain (2 * (1 + qcnts (qnrms xs)) + 2) (.mk k s n (qnrms xs))
def qnrms : List QA → List QA
  | [] => []
  | x :: r => qnrm x :: qnrms r
end
theorem qnrms_map (l : List QA) : qnrms l = l.map qnrm := by
  induction l with
  | nil => rfl
  | cons x l ih => rw [qnrms, ih]; rfl
/-- all that the rules can do, at an ask that is well formed -/
theorem rule_cases {pat : List UInt8 → Bool} {x : QA} (h : qchk pat x = 0) :
    (qrule x = (x, false)) ∨ (∃ y, y ∈ x.xs ∧ qrule x = (y, true)) ∨ (∃ k s n a b, x = .mk k s n [a, b] ∧ k = 5 ∧ qrule x = (.mk 2 [] 0 [], true))
    ∨ (∃ k a b, x = .mk k [] 0 [a, b] ∧ (k = 5 ∨ k = 6) ∧ qtxt b < qtxt a ∧ qrule x = (.mk k [] 0 [b, a], true))
    ∨ (∃ w n k2 n2 z, (w = 8 ∨ w = 9) ∧ x = .mk w [] n [.mk k2 [] n2 [z]] ∧ (k2 = w ∨ k2 = w + 2) ∧ qrule x = (.mk w [] 0 [z], true))
    ∨ (∃ w n n2 z, (w = 8 ∨ w = 9) ∧ x = .mk (w + 2) [] n [.mk (w + 2) [] n2 [z]] ∧ n + n2 ≤ 100 ∧ 0 ≤ n ∧ 0 ≤ n2 ∧ qrule x = (.mk (w + 2) [] (n + n2) [z], true))
    ∨ (∃ a b c, x = .mk 7 [] 0 [a, .mk 7 [] 0 [b, c]] ∧ qtxt b = qtxt a ∧ qrule x = (.mk 6 [] 0 [a, c], true)) := by
  obtain ⟨k, s, n, xs⟩ := x
  obtain ⟨hn, hxs⟩ := qchk_zero.1 h
  by_cases k1 : k = 5 ∨ k = 6
  · have hm : xs.length = 2 ∧ n = 0 ∧ s = [] := by rcases node_cases hn with h | h | h | h | h | h | h | h | h | h <;> first | (exfalso; omega) | exact ⟨h.2.1, h.2.2.1, h.2.2.2⟩
    obtain ⟨hm, rfl, rfl⟩ := hm
    obtain ⟨a, b, rfl⟩ := len_two hm
    have e : qrule (.mk k [] 0 [a, b]) = qtwo k [] 0 a b := by rw [qrule, if_pos k1]
    rw [e]
    unfold qtwo
    split
    · exact .inr (.inl ⟨a, by show a ∈ [a, b]; simp, rfl⟩)
    split
    · rename_i h5; exact .inr (.inr (.inl ⟨k, [], 0, a, b, rfl, h5.1, rfl⟩))
    split
    · exact .inr (.inl ⟨b, by show b ∈ [a, b]; simp, rfl⟩)
    split
    · exact .inr (.inl ⟨a, by show a ∈ [a, b]; simp, rfl⟩)
    split
    · rename_i h5; exact .inr (.inr (.inr (.inl ⟨k, a, b, rfl, k1, h5, rfl⟩)))
    · exact .inl rfl
  by_cases k2 : k = 8 ∨ k = 10 ∨ k = 9 ∨ k = 11
  · have hm : xs.length = 1 ∧ 0 ≤ n ∧ s = [] := by rcases node_cases hn with h | h | h | h | h | h | h | h | h | h <;> first | (exfalso; omega) | exact ⟨h.2.1, by omega, h.2.2.2⟩ | exact ⟨h.2.1, by omega, h.2.2.2.2⟩
    obtain ⟨hm, hn0, rfl⟩ := hm
    obtain ⟨y, rfl⟩ := len_one hm
    have hy : qchk pat y = 0 := hxs y (by simp)
    obtain ⟨ky, sy, ny, ysl⟩ := y
    obtain ⟨hny, _⟩ := qchk_zero.1 hy
    have key : ∀ w : Int, (w = 8 ∨ w = 9) → (k = w ∨ k = w + 2) → qrule (.mk k [] n [.mk ky sy ny ysl]) = qwalks w (w + 2) k [] n (.mk ky sy ny ysl) := by
      intro w hw hk
      rw [qrule]
      rw [if_neg k1]
      rcases hw with rfl | rfl
      · rw [if_pos (by omega)]; rfl
      · rw [if_neg (by omega), if_pos (by omega)]; rfl
    obtain ⟨w, hw, hk⟩ : ∃ w : Int, (w = 8 ∨ w = 9) ∧ (k = w ∨ k = w + 2) := by
      rcases k2 with h | h | h | h
      · exact ⟨8, .inl rfl, .inl h⟩
      · exact ⟨8, .inl rfl, .inr h⟩
      · exact ⟨9, .inr rfl, .inl h⟩
      · exact ⟨9, .inr rfl, .inr h⟩
    rw [key w hw hk]
    have sub : ∀ (kk : Int), kk = w ∨ kk = w + 2 → ky = kk → ∃ z, ysl = [z] ∧ sy = [] ∧ 0 ≤ ny := by
      intro kk h1 h2
      have : ysl.length = 1 ∧ sy = [] ∧ 0 ≤ ny := by rcases node_cases hny with h | h | h | h | h | h | h | h | h | h <;> first | (exfalso; omega) | exact ⟨h.2.1, h.2.2.2, by omega⟩ | exact ⟨h.2.1, h.2.2.2.2, by omega⟩
      obtain ⟨z, hz⟩ := len_one this.1
      exact ⟨z, hz, this.2⟩
    unfold qwalks
    show (_ : QA × Bool) = _ ∨ _
    split
    · exact .inr (.inl ⟨_, by show _ ∈ [_]; simp, rfl⟩)
    split
    · exact .inr (.inl ⟨_, by show _ ∈ [_]; simp, rfl⟩)
    split
    · rename_i h5
      have h6 : ky = w ∨ ky = w + 2 := h5.2
      obtain ⟨z, rfl, rfl, _⟩ := sub ky h6 rfl
      exact .inr (.inr (.inr (.inr (.inl ⟨w, n, ky, ny, z, hw, by rw [h5.1], h6, rfl⟩))))
    split
    · exact .inr (.inl ⟨_, by show _ ∈ [_]; simp, rfl⟩)
    split
    · rename_i h3 _ h5
      have h6 : ky = w + 2 := h5.1
      obtain ⟨z, rfl, rfl, hny0⟩ := sub ky (.inr h6) rfl
      have hkk : k = w + 2 := by
        rcases hk with h7 | h7
        · exact absurd ⟨h7, .inr h5.1⟩ h3
        · exact h7
      subst h6 hkk
      exact .inr (.inr (.inr (.inr (.inr (.inl ⟨w, n, ny, z, hw, rfl, h5.2, hn0, hny0, rfl⟩)))))
    · exact .inl rfl
  by_cases k3 : k = 14 ∨ k = 15
  · have hm : xs.length = 1 := by rcases node_cases hn with h | h | h | h | h | h | h | h | h | h <;> first | (exfalso; omega) | exact h.2.1
    obtain ⟨y, rfl⟩ := len_one hm
    have e : qrule (.mk k s n [y]) = if y.kind = k ∧ y.name = s ∧ y.num = n then (y, true) else (.mk k s n [y], false) := by
      rw [qrule, if_neg k1, if_neg (by omega), if_neg (by omega), if_pos k3]
    rw [e]
    split
    · exact .inr (.inl ⟨y, by show y ∈ [y]; simp, rfl⟩)
    · exact .inl rfl
  by_cases k4 : k = 7
  · subst k4
    have hm : xs.length = 2 ∧ n = 0 ∧ s = [] := by rcases node_cases hn with h | h | h | h | h | h | h | h | h | h <;> first | (exfalso; omega) | exact ⟨h.2.1, h.2.2.1, h.2.2.2⟩
    obtain ⟨hm, rfl, rfl⟩ := hm
    obtain ⟨a, y, rfl⟩ := len_two hm
    have hy : qchk pat y = 0 := hxs y (by simp)
    obtain ⟨ky, sy, ny, ysl⟩ := y
    obtain ⟨hny, _⟩ := qchk_zero.1 hy
    by_cases h7 : ky = 7
    · subst h7
      have hm2 : ysl.length = 2 ∧ ny = 0 ∧ sy = [] := by rcases node_cases hny with h | h | h | h | h | h | h | h | h | h <;> first | (exfalso; omega) | exact ⟨h.2.1, h.2.2.1, h.2.2.2⟩
      obtain ⟨hm2, rfl, rfl⟩ := hm2
      obtain ⟨b, c, rfl⟩ := len_two hm2
      by_cases hb : qtxt b = qtxt a
      · refine .inr (.inr (.inr (.inr (.inr (.inr ⟨a, b, c, rfl, hb, ?_⟩)))))
        rw [qrule]
        simp [hb]
      · refine .inl ?_
        rw [qrule]
        simp [hb]
    · refine .inl ?_
      rw [qrule]
      simp only [show ¬ ((7 : Int) = 5 ∨ (7 : Int) = 6) by omega, show ¬ ((7 : Int) = 8 ∨ (7 : Int) = 10) by omega, show ¬ ((7 : Int) = 9 ∨ (7 : Int) = 11) by omega, show ¬ ((7 : Int) = 14 ∨ (7 : Int) = 15) by omega, if_false, if_true]
      split
      · rename_i h
        injection h with h1 h2
        injection h2 with h2 _
        injection h2 with h2 h3 h4 h5
        subst h1 h2 h3 h4 h5
        rw [if_neg (fun h => h7 h.1)]
      · rfl
  · refine .inl ?_
    unfold qrule
    dsimp only
    rw [if_neg k1, if_neg (by omega), if_neg (by omega), if_neg k3, if_neg k4]
theorem rule_same {pat : List UInt8 → Bool} {x : QA} (h : qchk pat x = 0) (hr : (qrule x).2 = false) : qrule x = (x, false) := by
  rcases rule_cases h with h | ⟨_, _, e⟩ | ⟨_, _, _, _, _, _, _, e⟩ | ⟨_, _, _, _, _, _, e⟩ | ⟨_, _, _, _, _, _, _, _, e⟩ | ⟨_, _, _, _, _, _, _, _, _, e⟩ | ⟨_, _, _, _, _, e⟩
  · exact h
  all_goals (rw [e] at hr; cases hr)
theorem node_two {pat : List UInt8 → Bool} {k : Int} (h : k = 5 ∨ k = 6 ∨ k = 7) : qnodeE pat k [] 0 2 = 0 := by
  rcases h with rfl | rfl | rfl <;> simp [qnodeE, qmany, qnamed, qnumd]
theorem node_one {pat : List UInt8 → Bool} {w n : Int} (h : w = 8 ∨ w = 9) (h0 : 0 ≤ n) (h1 : n ≤ 100) : qnodeE pat w [] 0 1 = 0 ∧ qnodeE pat (w + 2) [] n 1 = 0 := by
  rcases h with rfl | rfl <;> refine ⟨by simp [qnodeE, qmany, qnamed, qnumd], ?_⟩ <;> simp [qnodeE, qmany, qnamed, qnumd] <;> omega
theorem rule_ok {pat : List UInt8 → Bool} {x : QA} (h : qchk pat x = 0) : qchk pat (qrule x).1 = 0 := by
  have hk : ∀ y ∈ x.xs, qchk pat y = 0 := by cases x; exact (qchk_zero.1 h).2
  rcases rule_cases h with e | ⟨y, hy, e⟩ | ⟨_, _, _, _, _, _, _, e⟩ | ⟨k, a, b, hx, h1, _, e⟩ | ⟨w, n, k2, n2, z, h1, hx, _, e⟩ | ⟨w, n, n2, z, h1, hx, h2, h3, h4, e⟩ | ⟨a, b, c, hx, _, e⟩
  · rw [e]; exact h
  · rw [e]; exact hk y hy
  · rw [e]; exact qchk_zero.2 ⟨by simp [qnodeE, qmany, qnamed, qnumd], by simp⟩
  · rw [e]
    subst hx
    refine qchk_zero.2 ⟨node_two (by omega), fun y hy => hk y ?_⟩
    show y ∈ [a, b]
    simp at hy ⊢
    exact hy.symm
  · rw [e]
    subst hx
    have := (qchk_zero.1 (hk (.mk k2 [] n2 [z]) (show _ ∈ [QA.mk k2 [] n2 [z]] by simp))).2
    exact qchk_zero.2 ⟨(node_one h1 (Int.le_refl _) (by omega)).1, this⟩
  · rw [e]
    subst hx
    have := (qchk_zero.1 (hk (.mk (w + 2) [] n2 [z]) (show _ ∈ [QA.mk (w + 2) [] n2 [z]] by simp))).2
    exact qchk_zero.2 ⟨(node_one h1 (by omega) h2).2, this⟩
  · rw [e]
    subst hx
    have h2 := (qchk_zero.1 (hk (.mk 7 [] 0 [b, c]) (show _ ∈ [a, QA.mk 7 [] 0 [b, c]] by simp))).2
    refine qchk_zero.2 ⟨node_two (.inr (.inl rfl)), fun y hy => ?_⟩
    simp at hy
    rcases hy with rfl | rfl
    · exact hk y (show y ∈ [y, QA.mk 7 [] 0 [b, c]] by simp)
    · exact h2 y (by simp)
theorem cnt_mk (k : Int) (s : List UInt8) (n : Int) (xs : List QA) : qcnt (.mk k s n xs) = 1 + qcnts xs := rfl
theorem cnts_one (x : QA) : qcnts [x] = qcnt x := by simp [qcnts]
theorem cnts_two (x y : QA) : qcnts [x, y] = qcnt x + qcnt y := by simp [qcnts]
theorem rule_less {pat : List UInt8 → Bool} {x : QA} (h : qchk pat x = 0) (hr : (qrule x).2 = true) : qmeas (qrule x).1 < qmeas x ∧ qcnt (qrule x).1 ≤ qcnt x := by
  have hc := turned_le (qrule x).1
  have key : qcnt (qrule x).1 < qcnt x → qmeas (qrule x).1 < qmeas x ∧ qcnt (qrule x).1 ≤ qcnt x := fun h => ⟨by unfold qmeas; omega, by omega⟩
  rcases rule_cases h with e | ⟨y, hy, e⟩ | ⟨_, _, _, a, b, hx, _, e⟩ | ⟨k, a, b, hx, h1, h2, e⟩ | ⟨w, n, k2, n2, z, h1, hx, _, e⟩ | ⟨w, n, n2, z, h1, hx, h2, h3, h4, e⟩ | ⟨a, b, c, hx, _, e⟩
  · rw [e] at hr; cases hr
  · refine key ?_
    rw [e]
    obtain ⟨k, s, n, xs⟩ := x
    have := qcnt_mem (show y ∈ xs from hy)
    rw [cnt_mk]
    show qcnt y < _
    omega
  · refine key ?_
    rw [e, hx, cnt_mk _ _ _ [a, b], cnts_two]
    have := qcnt_pos a
    have e2 : qcnt (.mk 2 [] 0 []) = 1 := rfl
    show qcnt (.mk 2 [] 0 []) < _
    omega
  · subst hx
    rw [e]
    have e1 : qcnt (.mk k [] 0 [b, a]) = qcnt (.mk k [] 0 [a, b]) := by rw [cnt_mk, cnt_mk, cnts_two, cnts_two]; omega
    refine ⟨?_, Nat.le_of_eq e1⟩
    show qmeas (.mk k [] 0 [b, a]) < _
    unfold qmeas
    rw [e1]
    have t1 : qturned (.mk k [] 0 [b, a]) = 0 := if_neg (fun h => List.lt_irrefl _ (List.lt_trans h h2))
    have t2 : qturned (.mk k [] 0 [a, b]) = 1 := if_pos h2
    rw [t1, t2]
    omega
  · refine key ?_
    rw [e, hx]
    show qcnt (.mk w [] 0 [z]) < _
    rw [cnt_mk, cnt_mk, cnts_one, cnts_one, cnt_mk, cnts_one]
    omega
  · refine key ?_
    rw [e, hx]
    show qcnt (.mk (w + 2) [] (n + n2) [z]) < _
    rw [cnt_mk, cnt_mk, cnts_one, cnts_one, cnt_mk, cnts_one]
    omega
  · refine key ?_
    rw [e, hx]
    show qcnt (.mk 6 [] 0 [a, c]) < _
    rw [cnt_mk, cnt_mk, cnts_two, cnts_two, cnt_mk, cnts_two]
    omega
/-- normal: none of the rules fits, in it and in all that is in it -/
inductive Nm : QA → Prop where
  | mk {k : Int} {s : List UInt8} {n : Int} {xs : List QA} (h : ∀ y ∈ xs, Nm y) (hr : (qrule (.mk k s n xs)).2 = false) : Nm (.mk k s n xs)
theorem Nm.kids {x : QA} (h : Nm x) : ∀ y ∈ x.xs, Nm y := by cases h; assumption
theorem Nm.rule {x : QA} (h : Nm x) : (qrule x).2 = false := by cases h; assumption
theorem Nm.of {x : QA} (h : ∀ y ∈ x.xs, Nm y) (hr : (qrule x).2 = false) : Nm x := by cases x; exact .mk h hr
theorem rule_kids {pat : List UInt8 → Bool} {x : QA} (h : qchk pat x = 0) (hk : ∀ y ∈ x.xs, Nm y) : ∀ y ∈ (qrule x).1.xs, Nm y := by
  rcases rule_cases h with e | ⟨y, hy, e⟩ | ⟨_, _, _, a, b, hx, _, e⟩ | ⟨k, a, b, hx, h1, h2, e⟩ | ⟨w, n, k2, n2, z, h1, hx, _, e⟩ | ⟨w, n, n2, z, h1, hx, h2, h3, h4, e⟩ | ⟨a, b, c, hx, _, e⟩
  · rw [e]; exact hk
  · rw [e]; exact (hk y hy).kids
  · rw [e]; intro y hy; cases hy
  · rw [e]
    subst hx
    intro y hy
    have hy : y ∈ [b, a] := hy
    refine hk y (show y ∈ [a, b] from ?_)
    simp at hy ⊢
    exact hy.symm
  · rw [e]
    subst hx
    exact (hk (.mk k2 [] n2 [z]) (show _ ∈ [QA.mk k2 [] n2 [z]] by simp)).kids
  · rw [e]
    subst hx
    exact (hk (.mk (w + 2) [] n2 [z]) (show _ ∈ [QA.mk (w + 2) [] n2 [z]] by simp)).kids
  · rw [e]
    subst hx
    intro y hy
    have hy : y ∈ [a, c] := hy
    simp at hy
    rcases hy with rfl | rfl
    · exact hk y (show y ∈ [y, QA.mk 7 [] 0 [b, c]] by simp)
    · exact (hk (.mk 7 [] 0 [b, y]) (show _ ∈ [a, QA.mk 7 [] 0 [b, y]] by simp)).kids y (show y ∈ [b, y] by simp)
theorem again_stop {f : Nat} {x : QA} (h : (qrule x).2 = false) : qagain f x = x := by
  cases f with
  | zero => rfl
  | succ f => unfold qagain; rw [if_neg (by rw [h]; decide)]
theorem again_step {f : Nat} {x : QA} (h : (qrule x).2 = true) : qagain (f + 1) x = qagain f (qrule x).1 := by
  rw [qagain, if_pos h]
/-- what holds through every rule holds in the end -/
theorem again_inv {pat : List UInt8 → Bool} {P : QA → Prop} (hP : ∀ x, qchk pat x = 0 → P x → P (qrule x).1) : ∀ (f : Nat) (x : QA), qchk pat x = 0 → P x → P (qagain f x) ∧ qchk pat (qagain f x) = 0 := by
  intro f
  induction f with
  | zero => exact fun x h hx => ⟨hx, h⟩
  | succ f ih =>
    intro x h hx
    by_cases hr : (qrule x).2 = true
    · rw [again_step hr]; exact ih _ (rule_ok h) (hP x h hx)
    · rw [again_stop (by simpa using hr)]; exact ⟨hx, h⟩
theorem again_nm {pat : List UInt8 → Bool} : ∀ (f : Nat) (x : QA), qchk pat x = 0 → qmeas x ≤ f → (∀ y ∈ x.xs, Nm y) → Nm (qagain f x) ∧ qcnt (qagain f x) ≤ qcnt x := by
  intro f
  induction f with
  | zero => intro x _ h _; have := qcnt_pos x; unfold qmeas at h; omega
  | succ f ih =>
    intro x h hm hk
    by_cases hr : (qrule x).2 = true
    · rw [again_step hr]
      obtain ⟨h1, h2⟩ := rule_less h hr
      obtain ⟨h3, h4⟩ := ih _ (rule_ok h) (by omega) (rule_kids h hk)
      exact ⟨h3, by omega⟩
    · rw [again_stop (by simpa using hr)]; exact ⟨Nm.of hk (by simpa using hr), Nat.le_refl _⟩
theorem again_enough {pat : List UInt8 → Bool} : ∀ (f g : Nat) (x : QA), qchk pat x = 0 → qmeas x ≤ f → qmeas x ≤ g → qagain f x = qagain g x := by
  intro f
  induction f with
  | zero => intro g x _ h _; have := qcnt_pos x; unfold qmeas at h; omega
  | succ f ih =>
    intro g x h hf hg
    cases g with
    | zero => have := qcnt_pos x; unfold qmeas at hg; omega
    | succ g =>
      by_cases hr : (qrule x).2 = true
      · rw [again_step hr, again_step hr]
        have := (rule_less h hr).1
        exact ih g _ (rule_ok h) (by omega) (by omega)
      · have hr : (qrule x).2 = false := by simpa using hr
        rw [again_stop hr, again_stop hr]
theorem cnts_le {l m : List QA} (hl : l.length = m.length) (h : ∀ (i : Nat) (a b : QA), l[i]? = some a → m[i]? = some b → qcnt a ≤ qcnt b) : qcnts l ≤ qcnts m := by
  induction l generalizing m with
  | nil => simp [qcnts]
  | cons x l ih =>
    cases m with
    | nil => simp at hl
    | cons y m =>
      have h1 := h 0 x y rfl rfl
      have h2 := ih (m := m) (by simpa using hl) fun i a b ha hb => h (i + 1) a b ha hb
      simp only [qcnts]
      omega
/-- the ask whose parts are normal -/
theorem inner_ok {pat : List UInt8 → Bool} {k : Int} {s : List UInt8} {n : Int} {xs : List QA} (h : qchk pat (.mk k s n xs) = 0) (hx : ∀ x ∈ xs, qchk pat (qnrm x) = 0) : qchk pat (.mk k s n (qnrms xs)) = 0 := by
  obtain ⟨hn, _⟩ := qchk_zero.1 h
  refine qchk_zero.2 ⟨by rw [qnrms_map, List.length_map]; exact hn, fun y hy => ?_⟩
  rw [qnrms_map] at hy
  obtain ⟨x, h1, rfl⟩ := List.mem_map.1 hy
  exact hx x h1
/-- THE NORMAL FORM: it is well formed, normal, and no greater -/
theorem nrm_ok {pat : List UInt8 → Bool} (x : QA) (h : qchk pat x = 0) : qchk pat (qnrm x) = 0 ∧ Nm (qnrm x) ∧ qcnt (qnrm x) ≤ qcnt x := by
  induction x using QA.ind with
  | h k s n xs ih =>
    obtain ⟨_, hxs⟩ := qchk_zero.1 h
    have h1 := inner_ok h fun x hx => (ih x hx (hxs x hx)).1
    have hk : ∀ y ∈ (QA.mk k s n (qnrms xs)).xs, Nm y := by
      intro y hy
      have hy : y ∈ qnrms xs := hy
      rw [qnrms_map] at hy
      obtain ⟨x, h1, rfl⟩ := List.mem_map.1 hy
      exact (ih x h1 (hxs x h1)).2.1
    have ht := turned_le (.mk k s n (qnrms xs))
    have hm : qmeas (.mk k s n (qnrms xs)) ≤ 2 * (1 + qcnts (qnrms xs)) + 2 := by unfold qmeas; rw [cnt_mk]; omega
    obtain ⟨h2, h3⟩ := again_nm _ _ h1 hm hk
    have h4 := (again_inv (P := fun _ => True) (fun _ _ _ => trivial) (2 * (1 + qcnts (qnrms xs)) + 2) _ h1 trivial).2
    have h5 : qcnts (qnrms xs) ≤ qcnts xs := by
      refine cnts_le (by rw [qnrms_map, List.length_map]) fun i a b ha hb => ?_
      rw [qnrms_map, List.getElem?_map, hb] at ha
      simp only [Option.map_some, Option.some.injEq] at ha
      subst ha
      have := List.mem_of_getElem? hb
      exact (ih b this (hxs b this)).2.2
    refine ⟨h4, h2, ?_⟩
    rw [cnt_mk] at h3 ⊢
    show qcnt (qagain _ _) ≤ _
    omega
theorem nm_nrm (x : QA) (h : Nm x) : qnrm x = x := by
  induction x using QA.ind with
  | h k s n xs ih =>
    have hk : ∀ y ∈ xs, Nm y := h.kids
    have e : qnrms xs = xs := by
      rw [qnrms_map]
      have : xs.map qnrm = xs.map id := List.map_congr_left fun x hx => ih x hx (hk x hx)
      rw [this, List.map_id]
    rw [qnrm, e]
    exact again_stop h.rule
/-- what is normal is so for good -/
theorem nrm_once {pat : List UInt8 → Bool} {x : QA} (h : qchk pat x = 0) : qnrm (qnrm x) = qnrm x := nm_nrm _ (nrm_ok x h).2.1
theorem lt_split {a b : List UInt8} (h : a ≠ b) : a < b ∨ b < a := by
  rcases Decidable.em (a < b) with h1 | h1
  · exact .inl h1
  · rcases Decidable.em (b < a) with h2 | h2
    · exact .inr h2
    · exact absurd (List.le_antisymm (List.not_lt.1 h2) (List.not_lt.1 h1)) h
theorem all_eq {pat : List UInt8 → Bool} {x : QA} (h : qchk pat x = 0) (hk : x.kind = 2) : x = .mk 2 [] 0 [] := by
  obtain ⟨k, s, n, xs⟩ := x
  have hk : k = 2 := hk
  subst hk
  rcases node_cases (qchk_zero.1 h).1 with h | h | h | h | h | h | h | h | h | h
  all_goals first
    | (exfalso; omega)
    | (obtain ⟨_, h1, h2, h3⟩ := h; rw [List.length_eq_zero_iff.1 h1, h2, h3])
/-- the order of two is no matter -/
theorem nrm_turned {pat : List UInt8 → Bool} (hp : ∀ s, pat s = true → ∀ c ∈ s, sepC c = false) {k : Int} {x y : QA} (hk : k = 5 ∨ k = 6) (h : qchk pat (.mk k [] 0 [x, y]) = 0) : qnrm (.mk k [] 0 [x, y]) = qnrm (.mk k [] 0 [y, x]) := by
  have hx := (qchk_zero.1 h).2 x (by simp)
  have hy := (qchk_zero.1 h).2 y (by simp)
  obtain ⟨a0, an, _⟩ := nrm_ok x hx
  obtain ⟨b0, bn, _⟩ := nrm_ok y hy
  have key : ∀ x y : QA, qnrm (.mk k [] 0 [x, y]) = qagain (2 * (1 + (qcnt (qnrm x) + qcnt (qnrm y))) + 2) (.mk k [] 0 [qnrm x, qnrm y]) := by
    intro x y
    rw [qnrm]
    have : qnrms [x, y] = [qnrm x, qnrm y] := rfl
    rw [this, cnts_two]
  rw [key, key]
  generalize qnrm x = a at *
  generalize qnrm y = b at *
  have hr : ∀ a b : QA, qrule (.mk k [] 0 [a, b]) = qtwo k [] 0 a b := fun a b => by rw [qrule, if_pos hk]
  by_cases h1 : qtxt a = qtxt b
  · rw [qtxt_inj hp a0 b0 h1]
  have main : ∀ (a b : QA), qchk pat a = 0 → qchk pat b = 0 → Nm a → Nm b → qtxt a ≠ qtxt b → ∀ f, qagain (f + 2) (.mk k [] 0 [a, b]) = if k = 5 ∧ (a.kind = 2 ∨ b.kind = 2) then .mk 2 [] 0 [] else if a.kind = 2 then b else if b.kind = 2 then a else if qtxt b < qtxt a then .mk k [] 0 [b, a] else .mk k [] 0 [a, b] := by
    intro a b a0 b0 an bn hne f
    have hq := hr a b
    unfold qtwo at hq
    rw [if_neg hne] at hq
    split at hq
    · rename_i h2
      rw [if_pos h2, again_step (by rw [hq]), hq]
      refine again_stop ?_
      rfl
    rename_i h2
    rw [if_neg h2]
    split at hq
    · rename_i h3
      rw [if_pos h3, again_step (by rw [hq]), hq]
      exact again_stop bn.rule
    rename_i h3
    rw [if_neg h3]
    split at hq
    · rename_i h4
      rw [if_pos h4, again_step (by rw [hq]), hq]
      exact again_stop an.rule
    rename_i h4
    rw [if_neg h4]
    split at hq
    · rename_i h5
      rw [if_pos h5, again_step (by rw [hq]), hq]
      refine again_stop ?_
      rw [hr]
      unfold qtwo
      rw [if_neg (fun e => hne e.symm), if_neg (by rintro ⟨e, e2⟩; exact h2 ⟨e, e2.symm⟩), if_neg h4, if_neg h3, if_neg (fun e => List.lt_irrefl _ (List.lt_trans e h5))]
    · rename_i h5
      rw [if_neg h5]
      exact again_stop (by rw [hq])
  rw [main a b a0 b0 an bn h1, show 2 * (1 + (qcnt b + qcnt a)) + 2 = 2 * (1 + (qcnt b + qcnt a)) + 2 from rfl, main b a b0 a0 bn an (fun e => h1 e.symm)]
  by_cases h2 : k = 5 ∧ (a.kind = 2 ∨ b.kind = 2)
  · rw [if_pos h2, if_pos ⟨h2.1, h2.2.symm⟩]
  have h2' : ¬ (k = 5 ∧ (b.kind = 2 ∨ a.kind = 2)) := fun e => h2 ⟨e.1, e.2.symm⟩
  rw [if_neg h2, if_neg h2']
  by_cases h3 : a.kind = 2
  · by_cases h4 : b.kind = 2
    · exact absurd (by rw [all_eq a0 h3, all_eq b0 h4]) h1
    · rw [if_pos h3, if_neg h4, if_pos h3]
  · by_cases h4 : b.kind = 2
    · rw [if_neg h3, if_pos h4, if_pos h4]
    · rw [if_neg h3, if_neg h4, if_neg h4, if_neg h3]
      rcases lt_split h1 with h5 | h5
      · rw [if_neg (fun e => List.lt_irrefl _ (List.lt_trans e h5)), if_pos h5]
      · rw [if_pos h5, if_neg (fun e => List.lt_irrefl _ (List.lt_trans e h5))]
end Go.Proofs.YteefncohknclcaaGreatDoor
