/- The walks of ask.check and ask.Check. Conditions: the ask lies in memory; the tables read as listed. -/
import Derived.Test.YtcegmcnknkjcpaaDoorAskCountW
import Derived.Test.YtcegmcnknkjcpaaDoorPatW
import Derived.Deep.LoopGhost
import Derived.Deep.DeepCutAuto
namespace Go.Proofs.YtcegmcnknkjcpaaDoor
open Go.RowKit
theorem isEmpty_of {s : ByteArray} (h : s.data.toList = []) : s.toList.isEmpty = true := by rw [Lib.toList_data, h]; rfl
theorem isEmpty_no {s : ByteArray} (h : s.data.toList ≠ []) : s.toList.isEmpty = false := by
  rw [Lib.toList_data]
  cases hl : s.data.toList with
  | nil => exact absurd hl h
  | cons a l => rfl
/-- the error of the first k of a list -/
theorem qchks_take {l : List QT} {k : Nat} {x : QT} (h : l[k]? = some x) (h0 : ∀ i y, i < k → l[i]? = some y → qchk qpat (qabs y) = 0) (hx : qchk qpat (qabs x) ≠ 0) : qchks qpat (qabss l) = qchk qpat (qabs x) := by
  induction l generalizing k with
  | nil => simp at h
  | cons y l ih =>
    show qchks qpat (qabs y :: qabss l) = _
    unfold qchks
    cases k with
    | zero =>
      simp only [List.getElem?_cons_zero, Option.some.injEq] at h
      subst h
      rw [if_pos hx]
    | succ k =>
      rw [if_neg (by simpa using h0 0 y (by omega) rfl)]
      exact ih (by simpa using h) fun i z hi hz => h0 (i + 1) z (by omega) (by simpa using hz)
theorem qchks_all {l : List QT} (h : ∀ (i : Nat) y, l[i]? = some y → qchk qpat (qabs y) = 0) : qchks qpat (qabss l) = 0 := by
  rw [qchks_zero, qabss_map]
  intro x hx
  obtain ⟨y, hy, rfl⟩ := List.mem_map.1 hx
  obtain ⟨i, hi, e⟩ := List.getElem_of_mem hy
  exact h i y (by rw [List.getElem?_eq_getElem hi, e])
/-- an ask by its parts -/
theorem qchk_parts {k : Int} {s : ByteArray} {n : Int} {p : Option Addr} {c : Nat} {xs : List QT} : qchk qpat (qabs (.mk k s n p c xs)) = if qnodeE qpat k s.data.toList n xs.length ≠ 0 then qnodeE qpat k s.data.toList n xs.length else qchks qpat (qabss xs) := by
  show qchk qpat (.mk k s.data.toList n (qabss xs)) = _
  rw [qchk, qabss_len]
def CheckPost (t : QT) (w : World) (e : Ending) (w' : World) : Prop := e = .returned (.int .i64 (qchk qpat (qabs t))) ∧ Below w.heap.size w w'
set_option maxHeartbeats 8000000 in
set_option maxRecDepth 100000 in
theorem check_ok : ∀ (t : QT) (w : World), QIn w t → AskTabs w → Calls Tryd.prog 27 #[t.v] w (CheckPost t w) := by
  intro t
  induction t using QT.ind with
  | h k s n p c xs ih =>
    intro w hq hT
    have IH := Lib.hid ih
    have HK : Hid (QsIn w p 0 xs) := hq.kids
    have hsm := hq.small.2
    have hss : s.size ≤ 1048576 := hq.small.1
    have hxl : xs.length ≤ 1048576 := hsm.2
    have HCN := Lib.hid (@qchk_parts k s n p c xs)
    clear ih hq hsm
    obtain ⟨W, hW, hBW, hS, hC⟩ := arg1 w (.int .i64 k) (.string s) (.int .i64 n) (.slice p xs.length c)
    have HC := Lib.hid hC
    have HBW := Lib.hid hBW
    have HT := Lib.hid hT
    have hBA : ∀ o, Below W.heap.size W (W.alloc o) := fun o => (Below.refl _ _).alloc (Nat.le_refl _) o
    have hBA2 : ∀ o, Below w.heap.size w (W.alloc o) := fun o => hBW.trans ((hBA o).mono hBW.size)
    have HFIN : Hid (∀ (E : Int), qnodeE qpat k s.data.toList n xs.length = E → E ≠ 0 → ∀ u, Below w.heap.size w u → CheckPost (.mk k s n p c xs) w (.returned (.int .i64 E)) u) := by
      show ∀ _, _
      intro E h1 h2 u hu
      refine ⟨?_, hu⟩
      rw [HCN.out, h1, if_pos h2]
    obtain ⟨k0, k1, k2, k3⟩ := HC.out W (Below.refl _ _)
    rw [hW] at k0 k1 k2 k3
    show Calls Tryd.prog 27 #[.agg #[.int .i64 k, .string s, .int .i64 n, .slice p xs.length c]] w _
    clear hBW hS hC hT
    go_enter Tryd.func27, Tryd.ntmps27
    go_upto_region 1 with fail
    rw [← hW] at k0 k1 k2 k3 ⊢
    clear hW
    by_cases g1 : k < 1
    · have HE : Hid (qnodeE qpat k s.data.toList n xs.length = 1) := by show _ = _; unfold qnodeE; rw [if_pos (.inl g1)]
      go_wp2
      go_ret
      exact HFIN.out 1 HE.out (by decide) W HBW.out
    by_cases g2 : 15 < k
    · have HE : Hid (qnodeE qpat k s.data.toList n xs.length = 1) := by show _ = _; unfold qnodeE; rw [if_pos (.inr g2)]
      go_wp2
      go_ret
      exact HFIN.out 1 HE.out (by decide) W HBW.out
    obtain ⟨j, rfl⟩ := Int.eq_ofNat_of_zero_le (show 0 ≤ k by omega)
    have hj : j < 16 := by omega
    obtain ⟨f0, f1, f2, f3⟩ := (HT.out.forms.below HBW.out) j hj
    rw [show 4 * j = j * 4 by omega] at f0 f1 f2 f3
    have hn0 : ¬ ((j : Int) < 1 ∨ 15 < (j : Int)) := by omega
    have HND : Hid (qnodeE qpat j s.data.toList n xs.length = if xs.length ≠ qmany j ∨ (qnamed j = false ∧ s.data.toList ≠ []) ∨ (qnumd j = false ∧ n ≠ 0) then 1
        else if (j : Int) = 14 then (if qpat s.data.toList then 0 else 3)
        else if qnamed j then (if nokL s.data.toList = true ∧ ¬ ((j : Int) = 1 ∧ s.data.toList = [108, 101, 116]) then 0 else 3)
        else if (j : Int) = 15 then (if n < 1 ∨ 3 < n then 4 else 0) else if n < 0 ∨ 100 < n then 4 else 0) := by
      show _ = _
      unfold qnodeE
      rw [if_neg hn0]
    have HPAT := Lib.hid (fun (u : World) (hu : Below w.heap.size w u) => pattern_ok s hss u (HT.out.below hu))
    have HNAME := Lib.hid (fun (u : World) => CheckN_ok s (by omega) u)
    have hj1 : 1 ≤ j := by omega
    have hj2 : j ≤ 15 := by omega
    generalize qword (j : Int) = wd at f3
    clear hn0 hj
    obtain ⟨mn, hmn⟩ : ∃ mn, qmany j = mn := ⟨_, rfl⟩
    obtain ⟨nb, hnb⟩ : ∃ nb, qnamed j = nb := ⟨_, rfl⟩
    obtain ⟨ub, hub⟩ : ∃ ub, qnumd j = ub := ⟨_, rfl⟩
    rw [hmn] at f0 HND
    rw [hnb] at f1 HND
    rw [hub] at f2 HND
    have HNB := Lib.hid hnb
    have HUB := Lib.hid hub
    have HMN := Lib.hid hmn
    clear hmn hnb hub
    go_upto_region 4 with fail
    obtain ⟨V, hV⟩ : ∃ V : World, V = W.alloc (.cells #[.int .i64 (mn : Int), .bool nb, .bool ub, .string (qtx wd)] 54) := ⟨_, rfl⟩
    have hBV : Below W.heap.size W V := by rw [hV]; exact (Below.refl _ _).alloc (Nat.le_refl _) _
    have HBV := Lib.hid (HBW.out.trans (hBV.mono HBW.out.size))
    have q0 : V.cell? ⟨W.heap.size, 0, none⟩ = some (.int .i64 (mn : Int)) := by rw [hV, World.cell?_alloc_at _ _ _ _ rfl]; rfl
    have q1 : V.cell? ⟨W.heap.size, 1, none⟩ = some (.bool nb) := by rw [hV, World.cell?_alloc_at _ _ _ _ rfl]; rfl
    have q2 : V.cell? ⟨W.heap.size, 2, none⟩ = some (.bool ub) := by rw [hV, World.cell?_alloc_at _ _ _ _ rfl]; rfl
    have hlt : W.heap.size < V.heap.size := by rw [hV]; simp
    have HQ : Hid (∀ u, Below V.heap.size V u → u.cell? ⟨W.heap.size, 1, none⟩ = some (.bool nb) ∧ u.cell? ⟨W.heap.size, 2, none⟩ = some (.bool ub)) := by
      show ∀ u, _
      exact fun u hu => ⟨(hu.cell hlt).trans q1, (hu.cell hlt).trans q2⟩
    have HCV : Hid (∀ u, Below V.heap.size V u → u.cell? ⟨w.heap.size, 0, none⟩ = some (.int .i64 (j : Int)) ∧ u.cell? ⟨w.heap.size, 1, none⟩ = some (.string s) ∧ u.cell? ⟨w.heap.size, 2, none⟩ = some (.int .i64 n) ∧ u.cell? ⟨w.heap.size, 3, none⟩ = some (.slice p xs.length c)) := by
      show ∀ u, _
      exact fun u hu => HC.out u (hBV.trans (hu.mono hBV.size))
    obtain ⟨v0, v1, v2, v3⟩ := HCV.out V (Below.refl _ _)
    rw [← hV]
    clear hV hBV hlt k0 k1 k2 k3 f0 f1 f2 f3 hBA hBA2
    by_cases g3 : xs.length = mn
    · have e1 : ((xs.length : Int) == (mn : Int)) = true := by rw [beq_iff_eq]; omega
      have e2 : ((xs.length : Int) != (mn : Int)) = false := by simp [bne, e1]
      by_cases g4 : nb = false ∧ s.data.toList ≠ []
      · obtain ⟨rfl, g4⟩ := g4
        have HE : Hid (qnodeE qpat j s.data.toList n xs.length = 1) := by show _ = _; rw [HND.out, if_pos (.inr (.inl ⟨rfl, g4⟩))]
        have g5 := isEmpty_no g4
        clear g4
        go_wp2
        go_ret
        exact HFIN.out 1 HE.out (by decide) V HBV.out
      by_cases g5 : ub = false ∧ n ≠ 0
      · obtain ⟨rfl, g5⟩ := g5
        have HE : Hid (qnodeE qpat j s.data.toList n xs.length = 1) := by show _ = _; rw [HND.out, if_pos (.inr (.inr ⟨rfl, g5⟩))]
        obtain ⟨i1, i2⟩ := int_ne' g5
        cases nb with
        | false =>
          have g4' := isEmpty_of (Classical.not_not.1 (fun h => g4 ⟨rfl, h⟩))
          clear g4 g5
          go_wp2
          go_ret
          exact HFIN.out 1 HE.out (by decide) V HBV.out
        | true =>
          clear g4 g5
          go_wp2
          go_ret
          exact HFIN.out 1 HE.out (by decide) V HBV.out
      have hpre : ¬ (xs.length ≠ mn ∨ (nb = false ∧ s.data.toList ≠ []) ∨ (ub = false ∧ n ≠ 0)) := by
        rintro (h | h | h)
        · exact h g3
        · exact g4 h
        · exact g5 h
      rw [if_neg hpre] at HND
      have HOK : Hid (qnodeE qpat j s.data.toList n xs.length = 0 → qchk qpat (qabs (.mk j s n p c xs)) = qchks qpat (qabss xs)) := by
        show _ → _
        intro h
        rw [HCN.out, h, if_neg (by decide)]
      have hnu : nb = true → ub = false ∧ n = 0 := by
        intro h
        have h1 := HNB.out
        have h2 := HUB.out
        rw [h] at h1
        unfold qnamed at h1
        simp only [Bool.or_eq_true, decide_eq_true_eq] at h1
        have h3 : ub = false := by
          rw [← h2]
          unfold qnumd
          rcases h1 with ((h1 | h1) | h1) | h1 <;> rw [h1] <;> rfl
        exact ⟨h3, Classical.not_not.1 fun h4 => g5 ⟨h3, h4⟩⟩
      have hns : nb = false → s.data.toList = [] := fun h => Classical.not_not.1 fun h4 => g4 ⟨h, h4⟩
      have hnz : ub = false → n = 0 := fun h => Classical.not_not.1 fun h4 => g5 ⟨h, h4⟩
      have h14 : j = 14 → nb = true := by
        rintro rfl
        rw [← HNB.out]
        rfl
      have h15 : j = 15 → ub = true := by
        rintro rfl
        rw [← HUB.out]
        rfl
      have hcs : (j = 14) ∨ (j ≠ 14 ∧ nb = true ∧ j ≠ 1) ∨ (j ≠ 14 ∧ nb = true ∧ j = 1) ∨ (j = 15 ∧ nb = false) ∨ ((j ≠ 14 ∧ j ≠ 15 ∧ nb = false) ∧ ub = true) ∨ ((j ≠ 14 ∧ j ≠ 15 ∧ nb = false) ∧ ub = false) := by
        by_cases a1 : j = 14
        · exact .inl a1
        · cases nb
          · by_cases a2 : j = 15
            · exact .inr (.inr (.inr (.inl ⟨a2, rfl⟩)))
            · cases ub
              · exact .inr (.inr (.inr (.inr (.inr ⟨⟨a1, a2, rfl⟩, rfl⟩))))
              · exact .inr (.inr (.inr (.inr (.inl ⟨⟨a1, a2, rfl⟩, rfl⟩))))
          · by_cases a2 : j = 1
            · exact .inr (.inr (.inl ⟨a1, rfl, a2⟩))
            · exact .inr (.inl ⟨a1, rfl, a2⟩)
      clear g4 g5 hpre
      rcases hcs with hA | ⟨hA, hB, hJ⟩ | ⟨hA, hB, hJ⟩ | ⟨hA, hB⟩ | ⟨⟨hA, hB, hD⟩, hub⟩ | ⟨⟨hA, hB, hD⟩, hub⟩
      case' inl =>
        have hB := h14 hA
        obtain ⟨rfl, rfl⟩ := hnu hB
        subst hA hB
        have hq : qnodeE qpat ((14 : Nat) : Int) s.data.toList 0 xs.length = if qpat s.data.toList then 0 else 3 := by rw [HND.out, if_pos (show ((14 : Nat) : Int) = 14 from rfl)]
        clear hnu hns hnz h14 h15 HND HNB HUB HMN
        cases hpt : qpat s.data.toList
        · rw [hpt] at hq
          have HE := Lib.hid hq
          have HP0 := Lib.hid hpt
          clear hq hpt
          go_wp2_with (go_at_call 34; refine (HPAT.out _ HBV.out).mono ?_; rw [HP0.out]; rintro e U ⟨rfl, hb⟩; have HU := Lib.hid (HBV.out.trans (hb.mono HBV.out.size)); clear hb)
          go_ret
          exact HFIN.out 3 HE.out (by decide) U HU.out
        rw [hpt] at hq
        have HE : Hid (qnodeE qpat ((14 : Nat) : Int) s.data.toList 0 xs.length = 0) := hq
        have HP0 := Lib.hid hpt
        clear hq hpt
        go_wp2_with (go_at_call 34; refine (HPAT.out _ HBV.out).mono ?_; rw [HP0.out]; rintro e U ⟨rfl, hb⟩; have HU := Lib.hid (HBV.out.trans (hb.mono HBV.out.size)); obtain ⟨u0, u1, u2, u3⟩ := HCV.out U hb; clear hb)
      case' inr.inl =>
        obtain ⟨rfl, rfl⟩ := hnu hB
        subst hB
        have hq : qnodeE qpat (j : Int) s.data.toList 0 xs.length = if nokL s.data.toList = true ∧ ¬ ((j : Int) = 1 ∧ s.data.toList = [108, 101, 116]) then 0 else 3 := by rw [HND.out, if_neg (by omega), if_pos rfl]
        have hne := nokL_eq s
        have g14 : ((j : Int) == 14) = false := by rw [beq_eq_false_iff_ne]; omega
        clear hnu hns hnz h14 h15 HND HNB HUB HMN hA
        cases hok : nokL s.data.toList
        · rw [hok] at hq hne
          have HE : Hid (qnodeE qpat (j : Int) s.data.toList 0 xs.length = 3) := hq
          have HNE : Hid (nameE s = 3) := hne
          clear hq hok hne
          go_wp2_with (go_at_call 35; refine (HNAME.out _).mono ?_; rw [HNE.out]; rintro e U ⟨rfl, rfl⟩)
          go_ret
          exact HFIN.out 3 HE.out (by decide) V HBV.out
        rw [hok] at hq hne
        have HNE : Hid (nameE s = 0) := hne
        obtain ⟨U, hU⟩ : ∃ U, U = V := ⟨_, rfl⟩
        have HU : Hid (Below w.heap.size w U) := by rw [hU]; exact HBV
        have HE : Hid (qnodeE qpat (j : Int) s.data.toList 0 xs.length = 0) := by show _ = _; rw [hq, if_pos ⟨rfl, fun h => hJ (by omega)⟩]
        have hjs : ((j : Int) == 1) = false := by rw [beq_eq_false_iff_ne]; omega
        clear hq hok hne
        go_wp2_with (go_at_call 35; refine (HNAME.out _).mono ?_; rw [HNE.out]; rintro e U2 ⟨rfl, rfl⟩)
        rw [← hU]
      case' inr.inr.inl =>
        subst hJ
        obtain ⟨rfl, rfl⟩ := hnu hB
        subst hB
        have hq : qnodeE qpat ((1 : Nat) : Int) s.data.toList 0 xs.length = if nokL s.data.toList = true ∧ ¬ (((1 : Nat) : Int) = 1 ∧ s.data.toList = [108, 101, 116]) then 0 else 3 := by rw [HND.out, if_neg (by omega), if_pos rfl]
        have hne := nokL_eq s
        have g14 : (((1 : Nat) : Int) == 14) = false := by rw [beq_eq_false_iff_ne]; omega
        clear hnu hns hnz h14 h15 HND HNB HUB HMN hA
        cases hok : nokL s.data.toList
        · rw [hok] at hq hne
          have HE : Hid (qnodeE qpat ((1 : Nat) : Int) s.data.toList 0 xs.length = 3) := hq
          have HNE : Hid (nameE s = 3) := hne
          clear hq hok hne
          go_wp2_with (go_at_call 35; refine (HNAME.out _).mono ?_; rw [HNE.out]; rintro e U ⟨rfl, rfl⟩)
          go_ret
          exact HFIN.out 3 HE.out (by decide) V HBV.out
        rw [hok] at hq hne
        have HNE : Hid (nameE s = 0) := hne
        obtain ⟨U, hU⟩ : ∃ U, U = V := ⟨_, rfl⟩
        have HU : Hid (Below w.heap.size w U) := by rw [hU]; exact HBV
        by_cases hl : s.data.toList = [108, 101, 116]
        · have HE : Hid (qnodeE qpat ((1 : Nat) : Int) s.data.toList 0 xs.length = 3) := by show _ = _; rw [hq, if_neg (fun h => h.2 ⟨rfl, hl⟩)]
          have hsl : (s.toList == [108, 101, 116]) = true := by rw [Lib.toList_data, hl]; rfl
          clear hq hok hne hl
          go_wp2_with (go_at_call 35; refine (HNAME.out _).mono ?_; rw [HNE.out]; rintro e U2 ⟨rfl, rfl⟩)
          go_ret
          exact HFIN.out 3 HE.out (by decide) V HBV.out
        have HE : Hid (qnodeE qpat ((1 : Nat) : Int) s.data.toList 0 xs.length = 0) := by show _ = _; rw [hq, if_pos ⟨rfl, fun h => hl h.2⟩]
        have hsl : (s.toList == [108, 101, 116]) = false := by rw [Lib.toList_data, beq_eq_false_iff_ne]; exact hl
        clear hq hok hne hl
        go_wp2_with (go_at_call 35; refine (HNAME.out _).mono ?_; rw [HNE.out]; rintro e U2 ⟨rfl, rfl⟩)
        rw [← hU]
      case' inr.inr.inr.inl =>
        have hB2 := h15 hA
        have hse := isEmpty_of (hns hB)
        subst hA hB hB2
        have hq : qnodeE qpat ((15 : Nat) : Int) s.data.toList n xs.length = if n < 1 ∨ 3 < n then 4 else 0 := by
          rw [HND.out, if_neg (by decide), if_neg (by decide), if_pos (show ((15 : Nat) : Int) = 15 from rfl)]
        clear hnu hns hnz h14 h15 HND HNB HUB HMN
        by_cases n1 : n < 1
        · have HE : Hid (qnodeE qpat ((15 : Nat) : Int) s.data.toList n xs.length = 4) := by show _ = _; rw [hq, if_pos (.inl n1)]
          clear hq
          go_wp2
          go_ret
          exact HFIN.out 4 HE.out (by decide) V HBV.out
        by_cases n2 : 3 < n
        · have HE : Hid (qnodeE qpat ((15 : Nat) : Int) s.data.toList n xs.length = 4) := by show _ = _; rw [hq, if_pos (.inr n2)]
          clear hq
          go_wp2
          go_ret
          exact HFIN.out 4 HE.out (by decide) V HBV.out
        have HE : Hid (qnodeE qpat ((15 : Nat) : Int) s.data.toList n xs.length = 0) := by show _ = _; rw [hq, if_neg (by omega)]
        clear hq
        obtain ⟨U, hU⟩ : ∃ U, U = V := ⟨_, rfl⟩
        have HU : Hid (Below w.heap.size w U) := by rw [hU]; exact HBV
        go_wp2_with fail
        rw [← hU]
      case' inr.inr.inr.inr.inl =>
        have hse := isEmpty_of (hns hD)
        subst hD
        have g14 : ((j : Int) == 14) = false := by rw [beq_eq_false_iff_ne]; omega
        have g15 : ((j : Int) == 15) = false := by rw [beq_eq_false_iff_ne]; omega
        have hq : qnodeE qpat (j : Int) s.data.toList n xs.length = if n < 0 ∨ 100 < n then 4 else 0 := by
          rw [HND.out, if_neg (by omega), if_neg (by decide), if_neg (by omega)]
        have hnz2 := hnz
        clear hnu hns hnz h14 h15 HND HNB HUB HMN
        obtain ⟨U, hU⟩ : ∃ U, U = V := ⟨_, rfl⟩
        have HU : Hid (Below w.heap.size w U) := by rw [hU]; exact HBV
        subst hub
        clear hnz2
        by_cases n1 : n < 0
        · have HE : Hid (qnodeE qpat (j : Int) s.data.toList n xs.length = 4) := by show _ = _; rw [hq, if_pos (.inl n1)]
          clear hq
          go_wp2
          go_ret
          exact HFIN.out 4 HE.out (by decide) V HBV.out
        by_cases n2 : 100 < n
        · have HE : Hid (qnodeE qpat (j : Int) s.data.toList n xs.length = 4) := by show _ = _; rw [hq, if_pos (.inr n2)]
          clear hq
          go_wp2
          go_ret
          exact HFIN.out 4 HE.out (by decide) V HBV.out
        have HE : Hid (qnodeE qpat (j : Int) s.data.toList n xs.length = 0) := by show _ = _; rw [hq, if_neg (by omega)]
        clear hq
        go_wp2_with fail
        rw [← hU]
      case' inr.inr.inr.inr.inr =>
        have hse := isEmpty_of (hns hD)
        subst hD
        have g14 : ((j : Int) == 14) = false := by rw [beq_eq_false_iff_ne]; omega
        have g15 : ((j : Int) == 15) = false := by rw [beq_eq_false_iff_ne]; omega
        have hq : qnodeE qpat (j : Int) s.data.toList n xs.length = if n < 0 ∨ 100 < n then 4 else 0 := by
          rw [HND.out, if_neg (by omega), if_neg (by decide), if_neg (by omega)]
        have hnz2 := hnz
        clear hnu hns hnz h14 h15 HND HNB HUB HMN
        obtain ⟨U, hU⟩ : ∃ U, U = V := ⟨_, rfl⟩
        have HU : Hid (Below w.heap.size w U) := by rw [hU]; exact HBV
        obtain rfl := hnz2 hub
        subst hub
        clear hnz2
        have HE : Hid (qnodeE qpat (j : Int) s.data.toList 0 xs.length = 0) := by show _ = _; rw [hq, if_neg (by omega)]
        clear hq
        go_wp2_with fail
        rw [← hU]
      all_goals
        have HFIN2 := Lib.hid (fun (E : Int) (h : qchks qpat (qabss xs) = E) (u : World) (hu : Below w.heap.size w u) => (⟨by rw [HOK.out HE.out, h], hu⟩ : CheckPost _ w (.returned (.int .i64 E)) u))
        have HKU := Lib.hid (HK.out.below HU.out)
        have HTU := Lib.hid (HT.out.below HU.out)
        go_loopw [94] (fun i wr => ∃ m : Nat, m ≤ xs.length ∧ i = .int .i64 m ∧ Hid (∀ i y, i < m → xs[i]? = some y → qchk qpat (qabs y) = 0) ∧ Hid (Below U.heap.size U wr)) (fun i _ => xs.length - (intOf i).toNat)
        case atStart => exact ⟨0, Nat.zero_le _, rfl, fun i y h => by omega, Below.refl _ _⟩
        case round =>
          obtain ⟨m, hm, rfl, HS, HB⟩ := hrel
          by_cases hlt : m < xs.length
          · obtain ⟨x, hx⟩ : ∃ x, xs[m]? = some x := ⟨_, List.getElem?_eq_getElem hlt⟩
            obtain ⟨⟨b, o, rfl, hb, hf⟩, hqx⟩ := HKU.out.at hx
            obtain ⟨c0, c1, c2, c3⟩ := four_at (hf.below HB.out hb)
            have HCALL := Lib.hid (fun (u : World) (hu : Below wr.heap.size wr u) => IH.out x (List.mem_of_getElem? hx) u (hqx.below (HB.out.trans (hu.mono HB.out.size))) (HTU.out.below (HB.out.trans (hu.mono HB.out.size))))
            have HTK := Lib.hid (fun (h : qchk qpat (qabs x) ≠ 0) => qchks_take hx HS.out h)
            have HNX : Hid (qchk qpat (qabs x) = 0 → ∀ i y, i < m + 1 → xs[i]? = some y → qchk qpat (qabs y) = 0) := fun h i y hi hy => by
              rcases Nat.lt_or_ge i m with h1 | h1
              · exact HS.out i y h1 hy
              · obtain rfl : i = m := by omega
                rw [hx] at hy
                injection hy with hy
                subst hy; exact h
            have HAL : Hid (∀ o, Below wr.heap.size wr (wr.alloc o)) := fun o => (Below.refl _ _).alloc (Nat.le_refl _) o
            clear hqx hf hb
            obtain ⟨E, hE⟩ : ∃ E, qchk qpat (qabs x) = E := ⟨_, rfl⟩
            have HEE := Lib.hid hE
            by_cases h0 : E = 0
            · subst h0
              have HNX2 := Lib.hid (HNX.out hE)
              clear hE HNX HTK
              go_wp2_with (go_at_call 27; refine (HCALL.out _ (HAL.out _)).mono ?_; rintro e w5 ⟨he, hb5⟩; rw [HEE.out] at he; subst he; have HB5 := Lib.hid (HB.out.trans (((HAL.out _).trans (hb5.mono (HAL.out _).size)).mono HB.out.size)); clear hb5)
              go_roundw
              case rel => exact ⟨m + 1, by omega, by go_num, HNX2.out, HB5⟩
              case measure => simp [intOf]; omega
            · have HTK2 : Hid (qchks qpat (qabss xs) = E) := by show _ = _; rw [HTK.out (by rw [hE]; exact h0), hE]
              obtain ⟨i1, i2⟩ := int_ne' h0
              clear hE HNX HTK h0
              go_wp2_with (go_at_call 27; refine (HCALL.out _ (HAL.out _)).mono ?_; rintro e w5 ⟨he, hb5⟩; rw [HEE.out] at he; subst he; have HB5 := Lib.hid (HB.out.trans (((HAL.out _).trans (hb5.mono (HAL.out _).size)).mono HB.out.size)); clear hb5)
              go_ret
              exact HFIN2.out E HTK2.out _ (HU.out.trans (HB5.out.mono HU.out.size))
          · obtain rfl : m = xs.length := by omega
            have HALL : Hid (qchks qpat (qabss xs) = 0) := qchks_all fun i y hy => HS.out i y (by
              rcases Nat.lt_or_ge i xs.length with h1 | h1
              · exact h1
              · rw [List.getElem?_eq_none h1] at hy; cases hy) hy
            go_wp2
            go_ret
            exact HFIN2.out 0 HALL.out _ (HU.out.trans (HB.out.mono HU.out.size))
    · have HE : Hid (qnodeE qpat j s.data.toList n xs.length = 1) := by show _ = _; rw [HND.out, if_pos (.inl g3)]
      have e1 : ((xs.length : Int) == (mn : Int)) = false := by rw [beq_eq_false_iff_ne]; omega
      have e2 : ((xs.length : Int) != (mn : Int)) = true := by simp [bne, e1]
      go_wp2
      go_ret
      exact HFIN.out 1 HE.out (by decide) V HBV.out
end Go.Proofs.YtcegmcnknkjcpaaDoor
