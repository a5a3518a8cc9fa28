/- How long the text of an ask is. Conditions: none. -/
import Derived.Test.YtcegmcnknkjcpaaDoorPatP
namespace Go.Proofs.YtcegmcnknkjcpaaDoor
theorem nok_len {s : List UInt8} (h : nokL s = true) : s.length ≤ 40 := by
  unfold nokL at h
  simp only [Bool.and_eq_true, decide_eq_true_eq] at h
  exact h.1.2
theorem pat_len {s : List UInt8} (h : qpat s = true) : s.length ≤ 60 := by
  have := qpat_pE h
  unfold pE at this
  split at this
  · cases this
  · omega
theorem itoa_len {n : Int} (h0 : 0 ≤ n) (h1 : n ≤ 100) : (Lib.itoa n).length ≤ 3 := by
  have h := itoa_small (n := n.toNat) (by omega)
  rw [show ((n.toNat : Nat) : Int) = n by omega] at h
  rw [h]
  unfold itoa3
  (repeat' split) <;> simp
theorem qtxt_len (x : QA) : qchk qpat x = 0 → (qtxt x).length ≤ 100 * qcnt x := by
  induction x using QA.ind with
  | h k s n xs ih =>
    intro hc
    obtain ⟨hn, hxs⟩ := qchk_zero.1 hc
    have ih2 : ∀ x ∈ xs, (qtxt x).length ≤ 100 * qcnt x := fun x hx => ih x hx (hxs x hx)
    have hcnt : qcnt (.mk k s n xs) = 1 + qcnts xs := rfl
    have hq : qtxt (.mk k s n xs) = qbody k s n (qtxts xs) := rfl
    rw [hq, hcnt]
    rcases node_cases hn with ⟨rfl, hm, rfl, h1, h2⟩ | ⟨rfl, hm, rfl, rfl⟩ | ⟨rfl, hm, rfl, h1⟩ | ⟨rfl, hm, rfl, h1⟩ | ⟨hk, hm, rfl, rfl⟩ | ⟨hk, hm, rfl, rfl⟩ | ⟨hk, hm, h1, h2, rfl⟩ | ⟨hk, hm, rfl, rfl⟩ | ⟨rfl, hm, rfl, h1⟩ | ⟨rfl, hm, h1, h2, rfl⟩
    · have := nok_len h1
      show s.length ≤ _
      omega
    · show 1 ≤ _
      omega
    · have := nok_len h1
      show (36 :: s).length ≤ _
      simp only [List.length_cons]
      omega
    · obtain ⟨x, y, rfl⟩ := len_two hm
      have := nok_len h1
      have i1 := ih2 x (by simp)
      have i2 := ih2 y (by simp)
      have e : qbody 4 s 0 (qtxts [x, y]) = [40, 108, 101, 116, 32] ++ (s ++ ([32, 61, 32] ++ (qtxt x ++ ([32, 105, 110, 32] ++ (qtxt y ++ [41]))))) := rfl
      rw [e, cnts_two']
      simp only [List.length_append, List.length_cons, List.length_nil]
      omega
    · obtain ⟨x, y, rfl⟩ := len_two hm
      have i1 := ih2 x (by simp)
      have i2 := ih2 y (by simp)
      have e : qbody k [] 0 (qtxts [x, y]) = 40 :: (qtxt x ++ (32 :: (qword k ++ (32 :: (qtxt y ++ [41]))))) := by rcases hk with rfl | rfl | rfl <;> rfl
      have hw : (qword k).length = 1 := by rcases hk with rfl | rfl | rfl <;> rfl
      rw [e, cnts_two']
      simp only [List.length_append, List.length_cons, List.length_nil, hw]
      omega
    · obtain ⟨x, rfl⟩ := len_one hm
      have i1 := ih2 x (by simp)
      have e : qbody k [] 0 (qtxts [x]) = qword k ++ (40 :: (qtxt x ++ [41])) := by rcases hk with rfl | rfl <;> rfl
      have hw : (qword k).length ≤ 5 := by rcases hk with rfl | rfl <;> decide
      rw [e, cnts_one']
      simp only [List.length_append, List.length_cons, List.length_nil]
      omega
    · obtain ⟨x, rfl⟩ := len_one hm
      have i1 := ih2 x (by simp)
      have e : qbody k [] n (qtxts [x]) = qword k ++ (40 :: (qtxt x ++ (44 :: 32 :: (Lib.itoa n ++ [41])))) := by rcases hk with rfl | rfl <;> rfl
      have hw : (qword k).length ≤ 5 := by rcases hk with rfl | rfl <;> decide
      have hl := itoa_len h1 h2
      rw [e, cnts_one']
      simp only [List.length_append, List.length_cons, List.length_nil]
      omega
    · obtain ⟨x, y, rfl⟩ := len_two hm
      have i1 := ih2 x (by simp)
      have i2 := ih2 y (by simp)
      have e : qbody k [] 0 (qtxts [x, y]) = qword k ++ (40 :: (qtxt x ++ (44 :: 32 :: (qtxt y ++ [41])))) := by rcases hk with rfl | rfl <;> rfl
      have hw : (qword k).length ≤ 5 := by rcases hk with rfl | rfl <;> decide
      rw [e, cnts_two']
      simp only [List.length_append, List.length_cons, List.length_nil]
      omega
    · obtain ⟨x, rfl⟩ := len_one hm
      have i1 := ih2 x (by simp)
      have hl := pat_len h1
      have e : qbody 14 s 0 (qtxts [x]) = qword 14 ++ (40 :: (s ++ (44 :: 32 :: (qtxt x ++ [41])))) := rfl
      have hw : (qword 14).length ≤ 5 := by decide
      rw [e, cnts_one']
      simp only [List.length_append, List.length_cons, List.length_nil]
      omega
    · obtain ⟨x, rfl⟩ := len_one hm
      have i1 := ih2 x (by simp)
      have e : qbody 15 [] n (qtxts [x]) = qkindw n ++ (40 :: (qtxt x ++ [41])) := rfl
      have hw : (qkindw n).length ≤ 5 := by rcases (by omega : n = 1 ∨ n = 2 ∨ n = 3) with rfl | rfl | rfl <;> decide
      rw [e, cnts_one']
      simp only [List.length_append, List.length_cons, List.length_nil]
      omega
where
  cnts_one' {x : QA} : qcnts [x] = qcnt x := by simp [qcnts]
  cnts_two' {x y : QA} : qcnts [x, y] = qcnt x + qcnt y := by simp [qcnts]
end Go.Proofs.YtcegmcnknkjcpaaDoor
