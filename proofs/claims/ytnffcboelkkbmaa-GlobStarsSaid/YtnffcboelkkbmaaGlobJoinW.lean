/- The walk through the law GlobJoin. Conditions: texts shorter than 2^62 bytes. -/
import Derived.Test.YtnffcboelkkbmaaGlobFnW
namespace Go.Proofs.Ytnffcboelkkbmaa
open Go.RowKit
theorem m_true {p s : Txt} (h : mB p s = true) : p.length ≤ 60 ∧ s.length ≤ 2000 ∧ ∃ l, prs p = some l ∧ mt l s = true := by
  unfold mB at h
  split at h
  · cases h
  · rename_i h1
    split at h
    · cases h
    · rename_i l h2
      split at h
      · cases h
      · exact ⟨by omega, by omega, l, h2, h⟩
theorem m_zero {p s : Txt} (h : mE p s = 0) : p.length ≤ 60 ∧ s.length ≤ 2000 ∧ ∃ l, prs p = some l ∧ mB p s = mt l s := by
  unfold mE at h
  split at h
  · rename_i h1; exact absurd h h1
  · rename_i h1
    split at h
    · cases h
    · rename_i h2
      have hE : pE p = 0 := by
        by_cases h3 : pE p = 0
        · exact h3
        · exact absurd h3 h1
      unfold pE at hE
      split at hE
      · cases hE
      · rename_i h3
        split at hE
        · cases hE
        · rename_i h4
          cases h5 : prs p with
          | none => exact absurd h5 h4
          | some l =>
            refine ⟨by omega, by omega, l, rfl, ?_⟩
            rw [(m_good (by omega) h5 s).1, if_neg h2]
theorem join_law {p q s t : Txt} (h1 : mB p s = true) (h2 : mB q t = true) (h : mE (p ++ q) (s ++ t) = 0) : mB (p ++ q) (s ++ t) = true := by
  obtain ⟨_, _, l, h3, h4⟩ := m_true h1
  obtain ⟨_, _, m, h5, h6⟩ := m_true h2
  obtain ⟨_, _, n, h7, h8⟩ := m_zero h
  rw [prs_app q h3, h5] at h7
  injection h7 with h7
  rw [h8, ← h7]
  exact mt_split.2 ⟨s, t, rfl, h4, h6⟩
theorem join_star {p q s t u : Txt} (h1 : mB p s = true) (h2 : mB q t = true) (h : mE (p ++ [42] ++ q) (s ++ u ++ t) = 0) : mB (p ++ [42] ++ q) (s ++ u ++ t) = true := by
  obtain ⟨_, _, l, h3, h4⟩ := m_true h1
  obtain ⟨_, _, m, h5, h6⟩ := m_true h2
  obtain ⟨_, _, n, h7, h8⟩ := m_zero h
  rw [List.append_assoc, prs_app _ h3, List.singleton_append, prs_star, h5] at h7
  injection h7 with h7
  rw [h8, ← h7, List.append_assoc]
  exact mt_any_any.2 ⟨s, u, t, rfl, h4, h6⟩
theorem ba_app (x y : ByteArray) : (x ++ y).data.toList = x.data.toList ++ y.data.toList := by simp
theorem ba_size (x y : ByteArray) : (x ++ y).size = x.size + y.size := by simp
set_option maxRecDepth 100000 in
set_option maxHeartbeats 4000000 in
theorem globJoin_walk (p q s t u : ByteArray) (hp : p.size ≤ 140737488355328) (hq : q.size ≤ 140737488355328) (hs : s.size ≤ 140737488355328) (ht : t.size ≤ 140737488355328) (hu : u.size ≤ 140737488355328) (w : World) :
    Calls Try.prog 7 #[.string p, .string q, .string s, .string t, .string u] w fun e w' => e = .returned (.bool true) ∧ Below w.heap.size w w' := by
  go_enter Try.func7, Try.ntmps7
  go_wp2_with fail
  refine (globs_below w).mono ?_
  rintro e w1 ⟨rfl, hb1⟩
  go_wp2_with fail
  refine (Match_ok p s (by omega) (by omega) w1).mono ?_
  rintro e w2 ⟨rfl, hb2⟩
  have hb12 : Below w.heap.size w w2 := hb1.trans (hb2.mono hb1.size)
  clear hb1 hb2
  go_wp2_with fail
  refine (Match_ok q t (by omega) (by omega) w2).mono ?_
  rintro e w3 ⟨rfl, hb3⟩
  have hb13 : Below w.heap.size w w3 := hb12.trans (hb3.mono hb12.size)
  clear hb12 hb3
  have hb14 : Below w.heap.size w (w3.alloc (.cells #[.int .i64 (mE p.data.toList s.data.toList), .int .i64 (mE q.data.toList t.data.toList)] 24)) := hb13.alloc hb13.size _
  cases hok : allOk [mE p.data.toList s.data.toList, mE q.data.toList t.data.toList]
  · have HOK := Lib.hid hok
    clear hok
    generalize mE p.data.toList s.data.toList = e1 at *
    generalize mE q.data.toList t.data.toList = e2 at *
    go_wp2_with (go_at_call 23; refine (good2 _ _ w3).mono ?_; rw [HOK.out]; rintro e w' ⟨rfl, rfl⟩)
    go_ret
    exact ⟨rfl, hb14⟩
  · cases ha : mB p.data.toList s.data.toList
    · have HOK := Lib.hid hok
      clear hok ha
      generalize mE p.data.toList s.data.toList = e1 at *
      generalize mE q.data.toList t.data.toList = e2 at *
      go_wp2_with (go_at_call 23; refine (good2 _ _ w3).mono ?_; rw [HOK.out]; rintro e w' ⟨rfl, rfl⟩)
      go_ret
      exact ⟨rfl, hb14⟩
    · cases hbq : mB q.data.toList t.data.toList
      · have HOK := Lib.hid hok
        clear hok ha hbq
        generalize mE p.data.toList s.data.toList = e1 at *
        generalize mE q.data.toList t.data.toList = e2 at *
        go_wp2_with (go_at_call 23; refine (good2 _ _ w3).mono ?_; rw [HOK.out]; rintro e w' ⟨rfl, rfl⟩)
        go_ret
        exact ⟨rfl, hb14⟩
      · obtain ⟨l1, l2, _⟩ := m_true ha
        obtain ⟨l3, l4, _⟩ := m_true hbq
        rw [ba_len] at l1 l2 l3 l4
        have HJ : Hid (mE (p ++ q).data.toList (s ++ t).data.toList = 0 → mB (p ++ q).data.toList (s ++ t).data.toList = true) := by
          show _ → _
          rw [ba_app, ba_app]; exact join_law ha hbq
        have HS : Hid (mE (p ++ ⟨#[42]⟩ ++ q).data.toList (s ++ u ++ t).data.toList = 0 → mB (p ++ ⟨#[42]⟩ ++ q).data.toList (s ++ u ++ t).data.toList = true) := by
          show _ → _
          rw [ba_app, ba_app, ba_app, ba_app]; exact join_star ha hbq
        have HOK := Lib.hid hok
        clear hok ha hbq
        generalize mE p.data.toList s.data.toList = e1 at *
        generalize mE q.data.toList t.data.toList = e2 at *
        go_wp2_with (go_at_call 23; refine (good2 _ _ w3).mono ?_; rw [HOK.out]; rintro e w' ⟨rfl, rfl⟩)
        refine (Match_ok (p ++ q) (s ++ t) (by rw [ba_size]; omega) (by rw [ba_size]; omega) _).mono ?_
        rintro e w4 ⟨rfl, hb4⟩
        have hb15 : Below w.heap.size w w4 := hb14.trans (hb4.mono hb14.size)
        clear hb13 hb14 hb4
        generalize mE (p ++ q).data.toList (s ++ t).data.toList = e3 at *
        generalize mB (p ++ q).data.toList (s ++ t).data.toList = v3 at *
        go_wp2_with fail
        refine (Match_ok (p ++ ⟨#[42]⟩ ++ q) (s ++ u ++ t) (by rw [ba_size, ba_size]; show _ + 1 + _ ≤ _; omega) (by rw [ba_size, ba_size]; omega) _).mono ?_
        rintro e w5 ⟨rfl, hb5⟩
        have hb16 : Below w.heap.size w w5 := hb15.trans (hb5.mono hb15.size)
        clear hb15 hb5
        generalize mE (p ++ ⟨#[42]⟩ ++ q).data.toList (s ++ u ++ t).data.toList = e4 at *
        generalize mB (p ++ ⟨#[42]⟩ ++ q).data.toList (s ++ u ++ t).data.toList = v4 at *
        by_cases h3 : e3 = 0
        · obtain rfl := HJ.out h3
          subst h3
          by_cases h4 : e4 = 0
          · obtain rfl := HS.out h4
            subst h4
            clear HJ HS
            go_wp2
            go_ret
            exact ⟨rfl, hb16⟩
          · obtain ⟨h5, h6⟩ := int_ne' h4
            clear HJ HS h4
            go_wp2
            go_ret
            exact ⟨rfl, hb16⟩
        · obtain ⟨h7, h8⟩ := int_ne' h3
          by_cases h4 : e4 = 0
          · obtain rfl := HS.out h4
            subst h4
            clear HJ HS h3
            go_wp2
            go_ret
            exact ⟨rfl, hb16⟩
          · obtain ⟨h5, h6⟩ := int_ne' h4
            clear HJ HS h4 h3
            go_wp2
            go_ret
            exact ⟨rfl, hb16⟩
end Go.Proofs.Ytnffcboelkkbmaa
