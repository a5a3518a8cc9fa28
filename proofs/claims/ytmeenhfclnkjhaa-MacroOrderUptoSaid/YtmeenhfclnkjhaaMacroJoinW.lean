/- The law MacroJoin. Conditions: what it is handed is of bounded bulk; the machine's MaxLen is laid. -/
import Derived.Test.YtmeenhfclnkjhaaMacroArg
import Derived.Test.YtmeenhfclnkjhaaGoodP
namespace Go.Proofs.Ytmeenhfclnkjhaa
open Go.RowKit Go.Shelf Go.Maps
theorem mtxt_app (l m : Bs) : txt l ++ txt m = txt (l ++ m) := by
  unfold txt
  cases l <;> simp [ByteArray.ext_iff]
theorem mtxt_eq (l m : Bs) : ((txt l).toList == (txt m).toList) = decide (l = m) := by
  rw [Lib.toList_data, Lib.toList_data, txt_list, txt_list, Bool.eq_iff_iff, beq_iff_eq, decide_eq_true_iff]
theorem expand_len (l : List Mac) (s : Bs) : (expandE okM l s).2.length ≤ 2000 := by
  unfold expandE
  split
  · simp
  · unfold expandR
    split
    · simp
    · split
      · simp
      · split
        · simp
        · rename_i h
          unfold lrg at h
          simp only [Bool.or_eq_true, decide_eq_true_eq, not_or] at h
          simp only
          omega
set_option maxHeartbeats 4000000 in
set_option maxRecDepth 100000 in
theorem macroJoin_walk (p : Option Addr) (n c : Nat) (l : List Mac) (s t : Bs) (w : World) (hR : MacsIn w p n c l) (hM : MLm w) (hs : s.length + t.length ≤ 1048576) :
    Calls Try.prog 4 #[.slice p n c, .string (txt s), .string (txt t)] w fun e w' => e = .returned (.bool true) ∧ Below w.heap.size w w' := by
  have HX : Hid (∀ u (z : Bs), Below w.heap.size w u → z.length ≤ 1048576 → Calls Try.prog 9 #[.slice p n c, .string (txt z)] u fun e w' => e = .returned (.tuple #[.string (txt (expandE okM l z).2), .int .i64 (expandE okM l z).1]) ∧ Below w.heap.size w w') := by
    show ∀ u z, _
    intro u z hu hz
    refine (Expand_ok p n c l z u (hR.below hu) (hM.below hu) hz).mono ?_
    rintro e w' ⟨h1, h2⟩
    exact ⟨h1, hu.trans (h2.mono hu.size)⟩
  have HMac := Lib.hid (macros_ok w hM)
  have hcat := mtxt_app s t
  obtain ⟨es, hes⟩ : ∃ es, es = expandE okM l s := ⟨_, rfl⟩
  obtain ⟨et, het⟩ : ∃ et, et = expandE okM l t := ⟨_, rfl⟩
  have HJ : Hid (es.1 = 0 → et.1 = 0 → es.2.length + et.2.length ≤ 2000 → expandE okM l (s ++ t) = (0, es.2 ++ et.2)) := by
    show _ → _
    intro h1 h2 h3
    rw [hes] at h1 h3 ⊢
    rw [het] at h2 h3 ⊢
    exact expand_join h1 h2 h3
  have HS : Hid (∀ u, Below w.heap.size w u → Calls Try.prog 9 #[.slice p n c, .string (txt s)] u fun e w' => e = .returned (.tuple #[.string (txt es.2), .int .i64 es.1]) ∧ Below w.heap.size w w') := by
    show ∀ u, _
    intro u hu
    rw [hes]; exact HX.out u s hu (by omega)
  have HTT : Hid (∀ u, Below w.heap.size w u → Calls Try.prog 9 #[.slice p n c, .string (txt t)] u fun e w' => e = .returned (.tuple #[.string (txt et.2), .int .i64 et.1]) ∧ Below w.heap.size w w') := by
    show ∀ u, _
    intro u hu
    rw [het]; exact HX.out u t hu (by omega)
  have HSTL : (s ++ t).length ≤ 1048576 := by rw [List.length_append]; omega
  have hla : es.2.length ≤ 2000 := by rw [hes]; exact expand_len l s
  have hlb : et.2.length ≤ 2000 := by rw [het]; exact expand_len l t
  clear hes het hR hM
  obtain ⟨E1, a⟩ := es
  obtain ⟨E2, b⟩ := et
  simp only at HJ HS HTT hla hlb
  have sa : (txt a).size = a.length := txt_size a
  have sb : (txt b).size = b.length := txt_size b
  have hw : IntKind.i64.wrap ((a.length : Int) + (b.length : Int)) = (a.length : Int) + (b.length : Int) := IntWalk.i64_in _ (by omega)
  have HGD : Hid (∀ u : World, Calls Try.prog 11 #[.slice (some ⟨u.heap.size, 0, none⟩) 2 2] (u.alloc (.cells #[.int .i64 E1, .int .i64 E2] 26)) fun e w' => e = .returned (.bool (allOk [E1, E2])) ∧ u.alloc (.cells #[.int .i64 E1, .int .i64 E2] 26) = w') := fun u => good2 E1 E2 u
  by_cases hg : E1 = 0 ∧ E2 = 0
  · obtain ⟨rfl, rfl⟩ := hg
    have hok : allOk [(0 : Int), 0] = true := rfl
    rw [hok] at HGD
    have HJ2 := Lib.hid (HJ.out rfl rfl)
    clear HJ
    by_cases hlen : 2000 < a.length + b.length
    · have h1 : (2000 : Int) < (a.length : Int) + (b.length : Int) := by omega
      go_enter Try.func4, Try.ntmps4
      go_wp2_with (first
        | (go_at_call 8; refine HMac.out.mono ?_; rintro e w1 ⟨rfl, hb⟩; have HB1 := Lib.hid hb; clear hb)
        | (go_at_call 9; have hh := HS.out; clear HS; refine (hh _ HB1.out).mono ?_; clear hh; rintro e w2 ⟨rfl, hb⟩; have HB2 := Lib.hid hb; clear hb)
        | (go_at_call 9; refine (HTT.out _ HB2.out).mono ?_; rintro e w3 ⟨rfl, hb⟩; have HB3 := Lib.hid hb; clear hb)
        | (go_at_call 11; refine (HGD.out _).mono ?_; rintro e w4 ⟨rfl, rfl⟩))
      go_ret
      exact ⟨rfl, HB3.out.alloc HB3.out.size _⟩
    · have h1 : ¬ (2000 : Int) < (a.length : Int) + (b.length : Int) := by omega
      have hJ := HJ2.out (by omega)
      have HC : Hid (∀ u, Below w.heap.size w u → Calls Try.prog 9 #[.slice p n c, .string (txt (s ++ t))] u fun e w' => e = .returned (.tuple #[.string (txt (a ++ b)), .int .i64 0]) ∧ Below w.heap.size w w') := by
        show ∀ u, _
        intro u hu
        have := HX.out u (s ++ t) hu HSTL
        rw [hJ] at this
        exact this
      have hcat2 := mtxt_app a b
      have ss : (txt s).size = s.length := txt_size s
      have st : (txt t).size = t.length := txt_size t
      have no1 : ¬ (9223372036854775807 < s.length + t.length) := by omega
      have no2 : ¬ (9223372036854775807 < a.length + b.length) := by omega
      have hself : ((txt (a ++ b)).toList == (txt (a ++ b)).toList) = true := by simp
      clear HJ2 hJ
      go_enter Try.func4, Try.ntmps4
      go_wp2_with (first
        | (go_at_call 8; refine HMac.out.mono ?_; rintro e w1 ⟨rfl, hb⟩; have HB1 := Lib.hid hb; clear hb)
        | (go_at_call 9; have hh := HS.out; clear HS; refine (hh _ HB1.out).mono ?_; clear hh; rintro e w2 ⟨rfl, hb⟩; have HB2 := Lib.hid hb; clear hb)
        | (go_at_call 9; have hh := HTT.out; clear HTT; refine (hh _ HB2.out).mono ?_; clear hh; rintro e w3 ⟨rfl, hb⟩; have HB3 := Lib.hid hb; clear hb)
        | (go_at_call 11; refine (HGD.out _).mono ?_; rintro e w4 ⟨rfl, rfl⟩)
        | (go_at_call 9; refine (HC.out _ (HB3.out.alloc HB3.out.size _)).mono ?_; rintro e w5 ⟨rfl, hb⟩; have HB5 := Lib.hid hb; clear hb))

      go_ret
      exact ⟨rfl, HB5.out⟩
  · have hok : allOk [E1, E2] = false := by
      unfold allOk
      by_cases h1 : E1 = 0
      · have h2 : E2 ≠ 0 := fun h => hg ⟨h1, h⟩
        simp [h2]
      · simp [h1]
    rw [hok] at HGD
    clear HJ hg
    go_enter Try.func4, Try.ntmps4
    go_wp2_with (first
      | (go_at_call 8; refine HMac.out.mono ?_; rintro e w1 ⟨rfl, hb⟩; have HB1 := Lib.hid hb; clear hb)
      | (go_at_call 9; have hh := HS.out; clear HS; refine (hh _ HB1.out).mono ?_; clear hh; rintro e w2 ⟨rfl, hb⟩; have HB2 := Lib.hid hb; clear hb)
      | (go_at_call 9; refine (HTT.out _ HB2.out).mono ?_; rintro e w3 ⟨rfl, hb⟩; have HB3 := Lib.hid hb; clear hb)
      | (go_at_call 11; refine (HGD.out _).mono ?_; rintro e w4 ⟨rfl, rfl⟩))
    go_ret
    exact ⟨rfl, HB3.out.alloc HB3.out.size _⟩
theorem macroJoin_law {v : Value} (s t : ByteArray) (w : World) (hM : MLm w) (h : ∃ g, MacsAt w v g) (hs : s.size + t.size ≤ 1048576) :
    Calls Try.prog 4 #[v, .string s, .string t] w fun e w' => e = .returned (.bool true) ∧ Below w.heap.size w w' := by
  obtain ⟨_, p, n, c, l, rfl, h1, _⟩ := h
  have := macroJoin_walk p n c l s.data.toList t.data.toList w h1 hM (by rw [← Lib.size_eq, ← Lib.size_eq]; exact hs)
  rwa [list_txt, list_txt] at this
end Go.Proofs.Ytmeenhfclnkjhaa
