/- The walk through the law GlobStars. Conditions: texts shorter than 2^62 bytes. -/
import Derived.Test.YtnffcboelkkbmaaGlobJoinW
namespace Go.Proofs.Ytnffcboelkkbmaa
open Go.RowKit
theorem pE_zero {p : Txt} (h : pE p = 0) : ∃ l, prs p = some l := by
  unfold pE at h
  split at h
  · cases h
  · split at h
    · cases h
    · rename_i h4
      cases h5 : prs p with
      | none => exact absurd h5 h4
      | some l => exact ⟨l, rfl⟩
theorem m_mid {p q r s : Txt} {l m n : List Pc} (h1 : prs p = some l) (h3 : prs (r ++ q) = some (n ++ m)) (h : mE (p ++ r ++ q) s = 0) : mB (p ++ r ++ q) s = mt (l ++ (n ++ m)) s := by
  obtain ⟨_, _, k, h7, h8⟩ := m_zero h
  rw [List.append_assoc, prs_app _ h1, h3] at h7
  injection h7 with h7
  rw [h8, ← h7]
theorem stars_one {p q s : Txt} (h1 : pE p = 0) (h2 : pE q = 0) (h3 : mE (p ++ [42] ++ q) s = 0) (h4 : mE (p ++ [42, 42] ++ q) s = 0) : mB (p ++ [42] ++ q) s = mB (p ++ [42, 42] ++ q) s := by
  obtain ⟨l, hl⟩ := pE_zero h1
  obtain ⟨m, hm⟩ := pE_zero h2
  rw [m_mid (m := m) hl (n := [pcAny]) (by rw [List.singleton_append, prs_star, hm]; rfl) h3, m_mid (m := m) hl (n := [pcAny, pcAny]) (by show prs (42 :: 42 :: q) = _; rw [prs_star, prs_star, hm]; rfl) h4]
  exact (stars_two s).symm
theorem stars_both {p q s : Txt} (h1 : pE p = 0) (h2 : pE q = 0) (h3 : mE (p ++ [63, 42] ++ q) s = 0) (h4 : mE (p ++ [42, 63] ++ q) s = 0) : mB (p ++ [63, 42] ++ q) s = mB (p ++ [42, 63] ++ q) s := by
  obtain ⟨l, hl⟩ := pE_zero h1
  obtain ⟨m, hm⟩ := pE_zero h2
  rw [m_mid (m := m) hl (n := [pcAll, pcAny]) (by show prs (63 :: 42 :: q) = _; rw [prs_what, prs_star, hm]; rfl) h3, m_mid (m := m) hl (n := [pcAny, pcAll]) (by show prs (42 :: 63 :: q) = _; rw [prs_star, prs_what, hm]; rfl) h4]
  exact stars_turn s
theorem stars_then {p q s : Txt} (h1 : pE p = 0) (h2 : pE q = 0) (h3 : mB (p ++ [63, 42] ++ q) s = true) (h5 : mE (p ++ [63, 42] ++ q) s = 0) (h4 : mE (p ++ [42] ++ q) s = 0) : mB (p ++ [42] ++ q) s = true := by
  obtain ⟨l, hl⟩ := pE_zero h1
  obtain ⟨m, hm⟩ := pE_zero h2
  rw [m_mid (m := m) hl (n := [pcAll, pcAny]) (by show prs (63 :: 42 :: q) = _; rw [prs_what, prs_star, hm]; rfl) h5] at h3
  rw [m_mid (m := m) hl (n := [pcAny]) (by rw [List.singleton_append, prs_star, hm]; rfl) h4]
  exact stars_less h3
theorem allOk_two {x y : Int} (h : allOk [x, y] = true) : x = 0 ∧ y = 0 := by
  simpa [allOk] using h
theorem Match_mid (p q s m : ByteArray) (hp : p.size ≤ 140737488355328) (hq : q.size ≤ 140737488355328) (hs : s.size ≤ 140737488355328) (hm : m.size ≤ 4) (w : World) :
    Calls Try.prog 22 #[.string (p ++ m ++ q), .string s] w fun e w' => ∃ (v : Bool) (c : Int), e = .returned (.tuple #[.bool v, .int .i64 c]) ∧ Hid (c = mE (p.data.toList ++ m.data.toList ++ q.data.toList) s.data.toList ∧ v = mB (p.data.toList ++ m.data.toList ++ q.data.toList) s.data.toList) ∧ Below w.heap.size w w' := by
  refine (Match_ok (p ++ m ++ q) s (by rw [ba_size, ba_size]; omega) (by omega) w).mono ?_
  rintro e w' ⟨rfl, hb⟩
  exact ⟨_, _, rfl, ⟨by rw [ba_app, ba_app], by rw [ba_app, ba_app]⟩, hb⟩
set_option maxRecDepth 100000 in
set_option maxHeartbeats 2000000 in
theorem globStars_walk (p q s : ByteArray) (hp : p.size ≤ 140737488355328) (hq : q.size ≤ 140737488355328) (hs : s.size ≤ 140737488355328) (w : World) :
    Calls Try.prog 8 #[.string p, .string q, .string s] w fun e w' => e = .returned (.bool true) ∧ Below w.heap.size w w' := by
  go_enter Try.func8, Try.ntmps8
  go_wp2_with fail
  refine (globs_below w).mono ?_
  rintro e w1 ⟨rfl, hb1⟩
  by_cases h1 : pE p.data.toList = 0
  · have H1 := Lib.hid h1
    by_cases h2 : pE q.data.toList = 0
    · have H2 := Lib.hid h2
      clear h1 h2
      go_wp2_with fail
      refine (CheckG_ok p (by omega) w1).mono ?_
      rw [H1.out]
      rintro e w2 ⟨rfl, hb2⟩
      have hb12 : Below w.heap.size w w2 := hb1.trans (hb2.mono hb1.size)
      clear hb1 hb2
      go_wp2_with fail
      refine (CheckG_ok q (by omega) w2).mono ?_
      rw [H2.out]
      rintro e w3 ⟨rfl, hb3⟩
      have hb13 : Below w.heap.size w w3 := hb12.trans (hb3.mono hb12.size)
      clear hb12 hb3
      go_wp2_with fail
      refine (Match_mid p q s _ hp hq hs (Nat.le_of_ble_eq_true rfl) w3).mono ?_
      rintro e w4 ⟨a1, e1, rfl, K1, hb4⟩
      have hb14 : Below w.heap.size w w4 := hb13.trans (hb4.mono hb13.size)
      clear hb13 hb4
      go_wp2_with fail
      refine (Match_mid p q s _ hp hq hs (Nat.le_of_ble_eq_true rfl) w4).mono ?_
      rintro e w5 ⟨a2, e2, rfl, K2, hb5⟩
      have hb15 : Below w.heap.size w w5 := hb14.trans (hb5.mono hb14.size)
      clear hb14 hb5
      have hb16 : Below w.heap.size w (w5.alloc (.cells #[.int .i64 e1, .int .i64 e2] 24)) := hb15.alloc hb15.size _
      have hcs : allOk [e1, e2] = false ∨ (allOk [e1, e2] = true ∧ a1 = a2) := by
        cases hok : allOk [e1, e2]
        · exact .inl rfl
        · refine .inr ⟨rfl, ?_⟩
          obtain ⟨z1, z2⟩ := allOk_two hok
          obtain ⟨k1, k2⟩ := K1.out
          obtain ⟨k3, k4⟩ := K2.out
          rw [k2, k4]
          exact stars_one H1.out H2.out (k1.symm.trans z1) (k3.symm.trans z2)
      rcases hcs with hok | ⟨hok, haa⟩
      · have HOK := Lib.hid hok
        clear hok K2
        go_wp2_with (go_at_call 23; refine (good2 _ _ w5).mono ?_; rw [HOK.out]; rintro e w' ⟨rfl, rfl⟩)
        refine (Match_mid p q s _ hp hq hs (Nat.le_of_ble_eq_true rfl) _).mono ?_
        rintro e w6 ⟨a3, e3, rfl, K3, hb6⟩
        have hb17 : Below w.heap.size w w6 := hb16.trans (hb6.mono hb16.size)
        clear hb15 hb16 hb6
        go_wp2_with fail
        refine (Match_mid p q s _ hp hq hs (Nat.le_of_ble_eq_true rfl) w6).mono ?_
        rintro e w7 ⟨a4, e4, rfl, K4, hb7⟩
        have hb18 : Below w.heap.size w w7 := hb17.trans (hb7.mono hb17.size)
        clear hb17 hb7
        have hb19 : Below w.heap.size w (w7.alloc (.cells #[.int .i64 e3, .int .i64 e4] 24)) := hb18.alloc hb18.size _
        cases hok2 : allOk [e3, e4]
        · have HOK2 := Lib.hid hok2
          clear hok2 K1 K3 K4
          go_wp2_with (go_at_call 23; refine (good2 _ _ w7).mono ?_; rw [HOK2.out]; rintro e w' ⟨rfl, rfl⟩)
          go_ret
          exact ⟨rfl, hb19⟩
        · obtain ⟨z3, z4⟩ := allOk_two hok2
          have ha34 : a3 = a4 := by
            obtain ⟨k1, k2⟩ := K3.out
            obtain ⟨k3, k4⟩ := K4.out
            rw [k2, k4]
            exact stars_both H1.out H2.out (k1.symm.trans z3) (k3.symm.trans z4)
          have HOK2 := Lib.hid hok2
          have hl3 : a3 = true → e1 = 0 → a1 = true := by
            obtain ⟨k1, k2⟩ := K3.out
            obtain ⟨k3, k4⟩ := K1.out
            intro h5 h6
            rw [k4]
            exact stars_then H1.out H2.out (k2.symm.trans h5) (k1.symm.trans z3) (k3.symm.trans h6)
          subst ha34
          clear hok2 K1 K3 K4 z3 z4
          cases a3
          · clear hl3
            go_wp2_with (go_at_call 23; refine (good2 _ _ w7).mono ?_; rw [HOK2.out]; rintro e w' ⟨rfl, rfl⟩)
            go_ret
            exact ⟨rfl, hb19⟩
          · by_cases hz : e1 = 0
            · have ha1 := hl3 rfl hz
              clear hl3
              subst ha1 hz
              go_wp2_with (go_at_call 23; refine (good2 _ _ w7).mono ?_; rw [HOK2.out]; rintro e w' ⟨rfl, rfl⟩)
              go_ret
              exact ⟨rfl, hb19⟩
            · obtain ⟨z5, z6⟩ := int_ne' hz
              clear hl3 hz
              go_wp2_with (go_at_call 23; refine (good2 _ _ w7).mono ?_; rw [HOK2.out]; rintro e w' ⟨rfl, rfl⟩)
              go_ret
              exact ⟨rfl, hb19⟩
      · have HOK := Lib.hid hok
        clear hok K2
        subst haa
        go_wp2_with (go_at_call 23; refine (good2 _ _ w5).mono ?_; rw [HOK.out]; rintro e w' ⟨rfl, rfl⟩)
        refine (Match_mid p q s _ hp hq hs (Nat.le_of_ble_eq_true rfl) _).mono ?_
        rintro e w6 ⟨a3, e3, rfl, K3, hb6⟩
        have hb17 : Below w.heap.size w w6 := hb16.trans (hb6.mono hb16.size)
        clear hb15 hb16 hb6
        go_wp2_with fail
        refine (Match_mid p q s _ hp hq hs (Nat.le_of_ble_eq_true rfl) w6).mono ?_
        rintro e w7 ⟨a4, e4, rfl, K4, hb7⟩
        have hb18 : Below w.heap.size w w7 := hb17.trans (hb7.mono hb17.size)
        clear hb17 hb7
        have hb19 : Below w.heap.size w (w7.alloc (.cells #[.int .i64 e3, .int .i64 e4] 24)) := hb18.alloc hb18.size _
        cases hok2 : allOk [e3, e4]
        · have HOK2 := Lib.hid hok2
          clear hok2 K1 K3 K4
          go_wp2_with (go_at_call 23; refine (good2 _ _ w7).mono ?_; rw [HOK2.out]; rintro e w' ⟨rfl, rfl⟩)
          go_ret
          exact ⟨rfl, hb19⟩
        · obtain ⟨z3, z4⟩ := allOk_two hok2
          have ha34 : a3 = a4 := by
            obtain ⟨k1, k2⟩ := K3.out
            obtain ⟨k3, k4⟩ := K4.out
            rw [k2, k4]
            exact stars_both H1.out H2.out (k1.symm.trans z3) (k3.symm.trans z4)
          have HOK2 := Lib.hid hok2
          have hl3 : a3 = true → e1 = 0 → a1 = true := by
            obtain ⟨k1, k2⟩ := K3.out
            obtain ⟨k3, k4⟩ := K1.out
            intro h5 h6
            rw [k4]
            exact stars_then H1.out H2.out (k2.symm.trans h5) (k1.symm.trans z3) (k3.symm.trans h6)
          subst ha34
          clear hok2 K1 K3 K4 z3 z4
          cases a3
          · clear hl3
            go_wp2_with (go_at_call 23; refine (good2 _ _ w7).mono ?_; rw [HOK2.out]; rintro e w' ⟨rfl, rfl⟩)
            go_ret
            exact ⟨rfl, hb19⟩
          · by_cases hz : e1 = 0
            · have ha1 := hl3 rfl hz
              clear hl3
              subst ha1 hz
              go_wp2_with (go_at_call 23; refine (good2 _ _ w7).mono ?_; rw [HOK2.out]; rintro e w' ⟨rfl, rfl⟩)
              go_ret
              exact ⟨rfl, hb19⟩
            · obtain ⟨z5, z6⟩ := int_ne' hz
              clear hl3 hz
              go_wp2_with (go_at_call 23; refine (good2 _ _ w7).mono ?_; rw [HOK2.out]; rintro e w' ⟨rfl, rfl⟩)
              go_ret
              exact ⟨rfl, hb19⟩
    · obtain ⟨h3, h4⟩ := int_ne' h2
      clear h1 h2
      go_wp2_with fail
      refine (CheckG_ok p (by omega) w1).mono ?_
      rw [H1.out]
      rintro e w2 ⟨rfl, hb2⟩
      have hb12 : Below w.heap.size w w2 := hb1.trans (hb2.mono hb1.size)
      clear hb1 hb2
      go_wp2_with fail
      refine (CheckG_ok q (by omega) w2).mono ?_
      rintro e w3 ⟨rfl, hb3⟩
      have hb13 : Below w.heap.size w w3 := hb12.trans (hb3.mono hb12.size)
      clear hb12 hb3
      go_wp2
      go_ret
      exact ⟨rfl, hb13⟩
  · obtain ⟨h3, h4⟩ := int_ne' h1
    clear h1
    go_wp2_with fail
    refine (CheckG_ok p (by omega) w1).mono ?_
    rintro e w2 ⟨rfl, hb2⟩
    have hb12 : Below w.heap.size w w2 := hb1.trans (hb2.mono hb1.size)
    clear hb1 hb2
    go_wp2
    go_ret
    exact ⟨rfl, hb12⟩
end Go.Proofs.Ytnffcboelkkbmaa
