/- The law LogBack. Conditions: the text is of at most 2^47 bytes; the stamps read as listed; the tables and the errors' variables read as listed. -/
import Derived.Test.YtlhhcgiifgkngaaDoorLogBackP
import Derived.Test.YtlhhcgiifgkngaaDoorSameStW
namespace Go.Proofs.YtlhhcgiifgkngaaDoor
open Go.RowKit Go.Shelf Go.Sort
theorem print_bad {w w' : World} {l : List StP} {e : Ending} (h : PrintPost w l e w') (hc : ¬ ChkS l) : ∃ E : Int, E ≠ 0 ∧ e = .returned (.tuple #[.string ⟨#[]⟩, .int .i64 E]) ∧ Below w.heap.size w w' := by
  obtain ⟨⟨E, hE, hn, rfl⟩ | ⟨hg, _⟩, hb⟩ := h
  · exact ⟨E, hE, rfl, hb⟩
  · exact absurd hg hc
set_option maxHeartbeats 8000000 in
set_option maxRecDepth 100000 in
theorem logBack_ok (p : Option Addr) (n c : Nat) (l : List StP) (s : ByteArray) (w : World) (hst : StAt w p n c l) (hwf : ∀ x ∈ l, stWf x) (hE : EVs w) (hT : Tab w) (hP : PowT w) (hM : MLL w) :
    Calls Tryd.prog 11 #[.slice p n c, .string s] w fun e w' => e = .returned (.bool true) ∧ Below w.heap.size w w' := by
  have hl := hst.len
  subst hl
  have HTT : Hid (∀ u, Below w.heap.size w u → EVs u ∧ Tab u ∧ PowT u ∧ MLL u) := by show ∀ u, _; exact fun u hu => ⟨hE.below hu, hT.below hu, hP.below hu, hM.below hu⟩
  have HPAR : Hid (∀ (t : ByteArray) (u : World), Below w.heap.size w u → Calls Tryd.prog 47 #[.string t] u (ParsePostL t u)) := by
    show ∀ t u, _
    intro t u hu
    rcases Nat.lt_or_ge 20000 t.size with h | h
    · exact LogParse_big t h u
    · exact LogParse_ok t h u (hE.below hu) (hT.below hu) (hP.below hu) (hM.below hu)
  have HLG := Lib.hid (logs_ok w hT hP)
  have HPRI : Hid (∀ u, Below w.heap.size w u → Calls Tryd.prog 48 #[.slice p l.length c] u (PrintPost u l)) := by
    show ∀ u, _
    exact fun u hu => LogPrint_ok p l.length c l u (hst.below hu) hwf (hT.below hu) (hP.below hu)
  have HST := Lib.hid hst
  clear hst hwf hE hT hP hM
  go_enter Tryd.func11, Tryd.ntmps11
  go_upto_region 3 with (go_at_call 40; refine HLG.out.mono ?_; rintro e w1 ⟨rfl, hb1⟩; have HB1 := Lib.hid hb1; clear hb1)
  by_cases hc : ChkS l
  · have HC := Lib.hid hc
    obtain ⟨T, hT⟩ : ∃ T : ByteArray, T = ⟨(txA l).toArray⟩ := ⟨_, rfl⟩
    have hTs : T.size = (txA l).length := by rw [hT]; show (txA l).toArray.size = _; simp
    have hTd : T.data.toList = txA l := by rw [hT]
    have HTE := Lib.hid hT
    clear hc hT
    go_upto_region 4 with (go_at_call 48; refine (HPRI.out _ HB1.out).mono ?_; rintro e w2 h2; obtain ⟨rfl, hb2⟩ := print_good h2 HC.out; rw [← HTE.out]; have HB2 := Lib.hid (HB1.out.trans (hb2.mono HB1.out.size)); clear h2 hb2)
    by_cases hlen : T.size ≤ 20000
    · have hli : (T.size : Int) ≤ 20000 := by omega
      have HTO : Hid (parL rdS chkN 200 T.data.toList = (l, 0, 0)) := by show _ = _; rw [hTd]; exact back_told HC.out (by omega)
      clear hTd hTs
      go_upto_region 8 with (first
        | (go_at_call 47; refine (HPAR.out T _ HB2.out).mono ?_; rintro e w3 ⟨⟨p3, c3, n3, E3, l3, rfl, hpar3, hst3, hwf3⟩, hb3⟩; have hq := HTO.out.symm.trans hpar3; injection hq with hq1 hq2; injection hq2 with hq2 hq3; subst hq1 hq3; obtain rfl := hq2; have HS3 := Lib.hid hst3; have HB3 := Lib.hid (HB2.out.trans (hb3.mono HB2.out.size)); clear hpar3 hst3 hwf3 hb3)
        | (go_at_call 46; refine (sameStamps_ok _ _ _ _ _ l _ HS3.out (HST.out.below HB3.out)).mono ?_; rintro e w4 ⟨rfl, hb4⟩; have HBX := Lib.hid (HB3.out.trans (hb4.mono HB3.out.size)); clear hb4))
      by_cases hf : (parL rdS chkN 200 s.data.toList).2.2 = 0
      · obtain ⟨b1, b2⟩ := back_text hf
        have HB12 := Lib.hid (And.intro hf (And.intro b1 b2))
        clear hf b1 b2
        go_wp2_with (first
          | (go_at_call 47; refine (HPAR.out s _ HBX.out).mono ?_; rintro e w7 ⟨⟨p7, c7, n7, E7, l7, rfl, hpar7, hst7, hwf7⟩, hb7⟩; have HQ := Lib.hid (And.intro hpar7 (And.intro hst7 hwf7)); have HB7 := Lib.hid (HBX.out.trans (hb7.mono HBX.out.size)); have hE7 : E7 = 0 := (by have := HB12.out.1; rw [hpar7] at this; exact this); subst hE7; clear hpar7 hst7 hwf7 hb7)
          | (go_at_call 48; refine (LogPrint_ok _ _ _ _ _ HQ.out.2.1 HQ.out.2.2 (HTT.out _ HB7.out).2.1 (HTT.out _ HB7.out).2.2.1).mono ?_; rintro e w8 h8; obtain ⟨rfl, hb8⟩ := print_good h8 (by have := HB12.out.2.1; rw [HQ.out.1] at this; exact this); rw [show (⟨(txA l7).toArray⟩ : ByteArray) = s from by have := HB12.out.2.2; rw [HQ.out.1] at this; exact ba_ext (by simpa using this)]; have HB8 := Lib.hid (HB7.out.trans (hb8.mono HB7.out.size)); clear h8 hb8))
        go_ret
        exact ⟨rfl, HB8.out⟩
      · have hn := back_nil hf
        have HB12 := Lib.hid (And.intro hf hn)
        clear hf hn
        go_wp2_with (go_at_call 47; refine (HPAR.out s _ HBX.out).mono ?_; rintro e w7 ⟨⟨p7, c7, n7, E7, l7, rfl, hpar7, hst7, hwf7⟩, hb7⟩; have HB7 := Lib.hid (HBX.out.trans (hb7.mono HBX.out.size)); rw [hpar7] at HB12; obtain ⟨hE7, hl7⟩ := HB12.out; simp only at hE7 hl7; subst hl7; obtain ⟨i71, i72⟩ := int_ne' hE7; simp only [List.length_nil]; clear hpar7 hst7 hwf7 hb7 HB12)
        go_ret
        exact ⟨rfl, HB7.out⟩
    · have hli : ¬ (T.size : Int) ≤ 20000 := by omega
      clear hTd hTs
      go_upto_region 8 with fail
      have HBX := HB2
      by_cases hf : (parL rdS chkN 200 s.data.toList).2.2 = 0
      · obtain ⟨b1, b2⟩ := back_text hf
        have HB12 := Lib.hid (And.intro hf (And.intro b1 b2))
        clear hf b1 b2
        go_wp2_with (first
          | (go_at_call 47; refine (HPAR.out s _ HBX.out).mono ?_; rintro e w7 ⟨⟨p7, c7, n7, E7, l7, rfl, hpar7, hst7, hwf7⟩, hb7⟩; have HQ := Lib.hid (And.intro hpar7 (And.intro hst7 hwf7)); have HB7 := Lib.hid (HBX.out.trans (hb7.mono HBX.out.size)); have hE7 : E7 = 0 := (by have := HB12.out.1; rw [hpar7] at this; exact this); subst hE7; clear hpar7 hst7 hwf7 hb7)
          | (go_at_call 48; refine (LogPrint_ok _ _ _ _ _ HQ.out.2.1 HQ.out.2.2 (HTT.out _ HB7.out).2.1 (HTT.out _ HB7.out).2.2.1).mono ?_; rintro e w8 h8; obtain ⟨rfl, hb8⟩ := print_good h8 (by have := HB12.out.2.1; rw [HQ.out.1] at this; exact this); rw [show (⟨(txA l7).toArray⟩ : ByteArray) = s from by have := HB12.out.2.2; rw [HQ.out.1] at this; exact ba_ext (by simpa using this)]; have HB8 := Lib.hid (HB7.out.trans (hb8.mono HB7.out.size)); clear h8 hb8))
        go_ret
        exact ⟨rfl, HB8.out⟩
      · have hn := back_nil hf
        have HB12 := Lib.hid (And.intro hf hn)
        clear hf hn
        go_wp2_with (go_at_call 47; refine (HPAR.out s _ HBX.out).mono ?_; rintro e w7 ⟨⟨p7, c7, n7, E7, l7, rfl, hpar7, hst7, hwf7⟩, hb7⟩; have HB7 := Lib.hid (HBX.out.trans (hb7.mono HBX.out.size)); rw [hpar7] at HB12; obtain ⟨hE7, hl7⟩ := HB12.out; simp only at hE7 hl7; subst hl7; obtain ⟨i71, i72⟩ := int_ne' hE7; simp only [List.length_nil]; clear hpar7 hst7 hwf7 hb7 HB12)
        go_ret
        exact ⟨rfl, HB7.out⟩
  · have HC := Lib.hid hc
    clear hc
    go_upto_region 8 with (go_at_call 48; refine (HPRI.out _ HB1.out).mono ?_; rintro e w2 h2; obtain ⟨E2, hE2, rfl, hb2⟩ := print_bad h2 HC.out; obtain ⟨i21, i22⟩ := int_ne' hE2; have HBX := Lib.hid (HB1.out.trans (hb2.mono HB1.out.size)); clear h2 hb2)
    by_cases hf : (parL rdS chkN 200 s.data.toList).2.2 = 0
    · obtain ⟨b1, b2⟩ := back_text hf
      have HB12 := Lib.hid (And.intro hf (And.intro b1 b2))
      clear hf b1 b2
      go_wp2_with (first
        | (go_at_call 47; refine (HPAR.out s _ HBX.out).mono ?_; rintro e w7 ⟨⟨p7, c7, n7, E7, l7, rfl, hpar7, hst7, hwf7⟩, hb7⟩; have HQ := Lib.hid (And.intro hpar7 (And.intro hst7 hwf7)); have HB7 := Lib.hid (HBX.out.trans (hb7.mono HBX.out.size)); have hE7 : E7 = 0 := (by have := HB12.out.1; rw [hpar7] at this; exact this); subst hE7; clear hpar7 hst7 hwf7 hb7)
        | (go_at_call 48; refine (LogPrint_ok _ _ _ _ _ HQ.out.2.1 HQ.out.2.2 (HTT.out _ HB7.out).2.1 (HTT.out _ HB7.out).2.2.1).mono ?_; rintro e w8 h8; obtain ⟨rfl, hb8⟩ := print_good h8 (by have := HB12.out.2.1; rw [HQ.out.1] at this; exact this); rw [show (⟨(txA l7).toArray⟩ : ByteArray) = s from by have := HB12.out.2.2; rw [HQ.out.1] at this; exact ba_ext (by simpa using this)]; have HB8 := Lib.hid (HB7.out.trans (hb8.mono HB7.out.size)); clear h8 hb8))
      go_ret
      exact ⟨rfl, HB8.out⟩
    · have hn := back_nil hf
      have HB12 := Lib.hid (And.intro hf hn)
      clear hf hn
      go_wp2_with (go_at_call 47; refine (HPAR.out s _ HBX.out).mono ?_; rintro e w7 ⟨⟨p7, c7, n7, E7, l7, rfl, hpar7, hst7, hwf7⟩, hb7⟩; have HB7 := Lib.hid (HBX.out.trans (hb7.mono HBX.out.size)); rw [hpar7] at HB12; obtain ⟨hE7, hl7⟩ := HB12.out; simp only at hE7 hl7; subst hl7; obtain ⟨i71, i72⟩ := int_ne' hE7; simp only [List.length_nil]; clear hpar7 hst7 hwf7 hb7 HB12)
      go_ret
      exact ⟨rfl, HB7.out⟩
end Go.Proofs.YtlhhcgiifgkngaaDoor
