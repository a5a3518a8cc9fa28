/- The law LogWrong. Conditions: the text is of at most 2^47 bytes; the tables and the errors' variables read as listed. -/
import Derived.Test.YtlhhcgiifgkngaaDoorLogParseW
import Derived.Test.YtlhhcgiifgkngaaDoorLogsW
namespace Go.Proofs.YtlhhcgiifgkngaaDoor
open Go.RowKit Go.Shelf Go.Sort
/-- the ends of lines in a text -/
def nlC (l : List UInt8) : Nat := (l.filter (· == 10)).length
theorem nlC_cons (c : UInt8) (l : List UInt8) : nlC (c :: l) = (if c = 10 then 1 else 0) + nlC l := by
  unfold nlC
  by_cases h : c = 10
  · rw [List.filter_cons_of_pos (by simpa using h), List.length_cons, if_pos h]; omega
  · rw [List.filter_cons_of_neg (by simpa using h), if_neg h]; omega
theorem linS_count : ∀ l : List UInt8, (linS l).length ≤ nlC l + 1 := by
  intro l
  induction l with
  | nil => simp [linS]
  | cons c l ih =>
    rw [nlC_cons, linS]
    by_cases h : c = 10
    · rw [if_pos h, if_pos h, List.length_cons]; omega
    · rw [if_neg h, if_neg h]
      cases hl : linS l with
      | nil => simp
      | cons x m => rw [hl] at ih; simp only [List.length_cons] at *; omega
/-- the scan goes on by one byte -/
theorem scanN_step {l : List UInt8} {k : Nat} {c : UInt8} {m : Nat} (h : l[k]? = some c) : scanN (l.drop k) (m + 1) = 1 + scanN (l.drop (k + 1)) (if c = 10 then m else m + 1) := by
  have hk := (List.getElem?_eq_some_iff.1 h).1
  have e : l.drop k = c :: l.drop (k + 1) := by
    rw [List.drop_eq_getElem_cons hk]
    congr 1
    exact (List.getElem?_eq_some_iff.1 h).2
  rw [e, scanN]
theorem nlC_step {l : List UInt8} {k : Nat} {c : UInt8} (h : l[k]? = some c) : nlC (l.take (k + 1)) = nlC (l.take k) + (if c = 10 then 1 else 0) := by
  unfold nlC
  rw [List.take_add_one, h, List.filter_append, List.length_append]
  by_cases hc : c = 10 <;> simp [hc]
theorem ba_take (s : ByteArray) (k : Nat) : (s.extract 0 k).data.toList = s.data.toList.take k := by
  simp
theorem parL_zero {s : List UInt8} (h : (parL rdS chkN 200 s).2.2 = 0) : (parL rdS chkN 200 s).2.1 = 0 := by
  unfold parL at h ⊢
  split at h
  · cases h
  · rename_i hs
    rw [if_neg hs]
    exact (lgo_ok rdS chkN 200 _ _ _ h).1
set_option maxHeartbeats 4000000 in
set_option maxRecDepth 100000 in
theorem logWrong_ok (s : ByteArray) (hs : s.size ≤ 140737488351232) (w : World) (hE : EVs w) (hT : Tab w) (hP : PowT w) (hM : MLL w) :
    Calls Tryd.prog 10 #[.string s] w fun e w' => e = .returned (.bool true) ∧ Below w.heap.size w w' := by
  have HPAR : Hid (∀ (t : ByteArray) (u : World), Below w.heap.size w u → Calls Tryd.prog 47 #[.string t] u (ParsePostL t u)) := by
    show ∀ t u, _
    intro t u hu
    rcases Nat.lt_or_ge 20000 t.size with h | h
    · exact LogParse_big t h u
    · exact LogParse_ok t h u (hE.below hu) (hT.below hu) (hP.below hu) (hM.below hu)
  have HLG := Lib.hid (logs_ok w hT hP)
  clear hE hT hP hM
  go_enter Tryd.func10, Tryd.ntmps10
  go_upto_region 3 with (go_at_call 40; refine HLG.out.mono ?_; rintro e w1 ⟨rfl, hb1⟩; have HB1 := Lib.hid hb1; clear hb1)
  go_upto_region 4 with (go_at_call 47; refine (HPAR.out _ _ HB1.out).mono ?_; rintro e w2 ⟨⟨p, c, n, E, l, rfl, hpar, hst, hwf⟩, hb2⟩; have HB2 := Lib.hid (HB1.out.trans (hb2.mono HB1.out.size)); have HPA := Lib.hid hpar; clear hpar hst hwf hb2)
  by_cases h3 : E = 3
  · subst h3
    obtain ⟨g1, g2, g3, g4, g5⟩ := wrong_law rdS chkN 200 (s := s.data.toList) (by rw [HPA.out])
    rw [HPA.out] at g1 g2 g3 g4 g5
    simp only at g1 g2 g3 g4 g5
    have HG := Lib.hid (And.intro g3 (And.intro g4 g5))
    have hcnt := linS_count s.data.toList
    have hsl : s.data.toList.length = s.size := rfl
    have hfl : nlC s.data.toList ≤ s.data.toList.length := List.length_filter_le _ _
    have HC := Lib.hid hcnt
    have hnb : n ≤ 140737488351233 := by omega
    have HGN := Lib.hid g2
    clear g2 g3 g4 g5 hcnt hfl hsl
    go_upto_region 7 with fail
    go_loopw [6, 7] (fun x y wr => ∃ j A : Nat, j ≤ s.size ∧ x = .int .i64 A ∧ y = .int .i64 j ∧ A ≤ n ∧ Hid (A = 1 + nlC (s.data.toList.take j) ∧ scanN s.data.toList (n - 1) = j + scanN (s.data.toList.drop j) (n - A)) ∧ wr = w2) (fun _ y _ => s.size - (intOf y).toNat)
    case atStart => exact ⟨0, 1, Nat.zero_le _, rfl, rfl, g1, show _ ∧ _ from ⟨rfl, by simp⟩, rfl⟩
    case round =>
      obtain ⟨j, A, hj, rfl, rfl, hA, HI, rfl⟩ := hrel
      by_cases c1 : A < n
      · by_cases c2 : j < s.size
        · have i1 : (A : Int) < (n : Int) := by omega
          have i2 : (j : Int) < (s.size : Int) := by omega
          have hg : s.data.toList[j]? = some s[j] := by
            rw [List.getElem?_eq_getElem (by exact c2)]
            rfl
          obtain ⟨m, hm⟩ : ∃ m, n - A = m + 1 := ⟨n - A - 1, by omega⟩
          have HS := Lib.hid (scanN_step (m := m) hg)
          have HN := Lib.hid (nlC_step hg)
          have HM := Lib.hid hm
          clear hg hm
          by_cases c3 : s[j] = 10
          · have i3 : ((s[j].toNat : Int) == 10) = true := by rw [c3]; rfl
            have H3 := Lib.hid c3
            clear c3
            go_wp2
            go_roundw
            case rel =>
              refine ⟨j + 1, A + 1, by omega, by go_num, by go_num, by omega, ?_, trivial⟩
              refine show _ ∧ _ from ⟨?_, ?_⟩
              · rw [HN.out, if_pos H3.out, HI.out.1]; omega
              · rw [HI.out.2, HM.out, HS.out, if_pos H3.out, show n - (A + 1) = m by have := HM.out; omega]; omega
            case measure => simp [intOf]; omega
          · have i3 : ((s[j].toNat : Int) == 10) = false := by
              rw [beq_eq_false_iff_ne]
              intro h
              exact c3 (UInt8.toNat_inj.1 (by rw [show (10 : UInt8).toNat = 10 from rfl]; omega))
            have H3 := Lib.hid c3
            clear c3
            go_wp2
            go_roundw
            case rel =>
              refine ⟨j + 1, A, by omega, rfl, by go_num, by omega, ?_, trivial⟩
              refine show _ ∧ _ from ⟨?_, ?_⟩
              · rw [HN.out, if_neg H3.out, HI.out.1]; omega
              · rw [HI.out.2, HM.out, HS.out, if_neg H3.out]; omega
            case measure => simp [intOf]; omega
        · exfalso
          have h1 := HI.out.1
          have h2 := HC.out
          have h3 := HGN.out
          rw [List.take_of_length_le (by show s.size ≤ j; omega)] at h1
          omega
      · obtain rfl : A = n := by omega
        have hj2 : scanN s.data.toList (A - 1) = j := by rw [HI.out.2, Nat.sub_self, scanN_zero]; rfl
        have HG2 := HG.out
        rw [hj2, ← ba_take] at HG2
        have HGG := Lib.hid HG2
        have hA1 : ((A : Int) - 1) = ((A - 1 : Nat) : Int) := by omega
        clear HG2 hj2
        have i1 : ¬ (A : Int) < (A : Int) := by omega
        go_wp2_with (go_at_call 47; refine (HPAR.out _ _ HB2.out).mono ?_; rintro e w3 ⟨⟨p2, c2, n2, E2, l2, rfl, hpar2, hst2, hwf2⟩, hb3⟩; rw [hpar2] at HGG; obtain ⟨q1, q2, q3⟩ := HGG.out; simp only at q1 q2 q3; subst q1 q2; have HB3 := Lib.hid (HB2.out.trans (hb3.mono HB2.out.size)); clear hpar2 hst2 hwf2 hb3 HGG)
        go_ret
        exact ⟨rfl, HB3.out⟩
  · by_cases h0 : E = 0
    · have hn : n = 0 := by
        have := parL_zero (s := s.data.toList) (by rw [HPA.out]; exact h0)
        rw [HPA.out] at this
        exact this
      subst h0 hn
      go_wp2_with fail
      go_ret
      exact ⟨rfl, HB2.out⟩
    · obtain ⟨i1, i2⟩ := int_ne' h0
      have i3 : (E == 3) = false := by rw [beq_eq_false_iff_ne]; exact h3
      go_wp2_with fail
      go_ret
      exact ⟨rfl, HB2.out⟩
end Go.Proofs.YtlhhcgiifgkngaaDoor
