/- The law NameFind. Conditions: the slice reads as listed; the string is shorter than 2^62 bytes. -/
import Derived.Test.YtnffcboelkkbmaaSearchW
import Derived.Test.YtnffcboelkkbmaaNLArg
namespace Go.Proofs.Ytnffcboelkkbmaa
open Go.RowKit Go.Shelf
set_option maxHeartbeats 1000000 in
theorem find_ok {w : World} {p : Option Addr} {n c : Nat} {ls : List ByteArray} (h : NL w p n c ls) (hr : Rise ls) (x : ByteArray) :
    Calls Try.prog 17 #[.slice p n c, .string x] w fun e w' => ((∃ k : Nat, k < ls.length ∧ ls.getD k ByteArray.empty = x ∧ e = .returned (.tuple #[.int .i64 k, .bool true])) ∨ (Lib.containsS ls x = false ∧ e = .returned (.tuple #[.int .i64 0, .bool false]))) ∧ ∃ q, w' = w.drewN q := by
  have HS := Lib.hid (search_ok h hr x)
  clear h hr
  go_enter Try.func17, Try.ntmps17
  go_wp2_with fail
  refine HS.out.mono ?_
  rintro e w' ⟨⟨k, b, rfl, hF⟩, q, rfl⟩
  rcases hF with ⟨rfl, hk, hx⟩ | ⟨rfl, hx⟩
  · have HX := Lib.hid hx
    clear hx
    go_wp2
    go_ret2
    exact ⟨.inl ⟨k, hk, HX.out, rfl⟩, q, rfl⟩
  · have HX := Lib.hid hx
    clear hx
    go_wp2
    go_ret2
    exact ⟨.inr ⟨HX.out, rfl⟩, q, rfl⟩
set_option maxHeartbeats 4000000 in
theorem nameFind_walk (p : Option Addr) (n c : Nat) (s : ByteArray) (w : World) (h : NLArg w p n c) :
    Calls Try.prog 4 #[.slice p n c, .string s] w fun e w' => e = .returned (.bool true) ∧ Below w.heap.size w w' := by
  obtain ⟨zs, hN⟩ := h
  have hl := hN.at_.len
  subst hl
  have HN := Lib.hid hN
  clear hN
  by_cases hok : okN zs zs.length
  · go_enter Try.func4, Try.ntmps4
    go_wp2_with fail
    refine (names_below w).mono ?_
    rintro e w1 ⟨rfl, hb1⟩
    have HB1 := Lib.hid hb1
    clear hb1
    go_wp2_with fail
    refine (Sort_yes _ _ _ zs _ (HN.out.below HB1.out) hok).mono ?_
    rintro e w2 ⟨g, cg, rfl, hown, hb2⟩
    have HB2 := Lib.hid (HB1.out.trans (hb2.mono HB1.out.size))
    have HA := Lib.hid (NL_sorted rfl hok HN.out.reach hown)
    have HR := Lib.hid (rise_sorted zs)
    clear hown hb2 HB1 hok
    obtain ⟨ls, has⟩ : ∃ ls, ls = bz (sortN zs) := ⟨_, rfl⟩
    have hal : (sortN zs).length = ls.length := by rw [has, bz_len]
    rw [← has] at HA HR
    rw [hal] at HA ⊢
    clear has hal
    have hbig := HA.out.at_.big
    go_wp2_with fail
    refine (find_ok HA.out HR.out s).mono ?_
    rintro e w3 ⟨hF, q, rfl⟩
    rcases hF with ⟨k, hk, hx, rfl⟩ | ⟨hc, rfl⟩
    · obtain ⟨ad, rfl, _, hcell⟩ := str_at (HA.out.drew q).at_.reads hk
      rw [hx] at hcell
      clear hx
      go_wp2
      go_ret
      exact ⟨by simp, below_drawsP HB2.out q⟩
    · have HC := Lib.hid hc
      have HA2 := Lib.hid (HA.out.drew q)
      clear hc
      go_wp2_with (go_at_call 13; refine (nl_contains HA2.out s).mono ?_; rw [HC.out]; rintro e w' ⟨rfl, rfl⟩)
      go_ret
      exact ⟨rfl, below_drawsP HB2.out q⟩
  · go_enter Try.func4, Try.ntmps4
    go_wp2_with fail
    refine (names_below w).mono ?_
    rintro e w1 ⟨rfl, hb1⟩
    have HB1 := Lib.hid hb1
    clear hb1
    go_wp2_with fail
    refine (Sort_no _ _ _ zs _ (HN.out.at_.below HB1.out) hok).mono ?_
    rintro e w2 ⟨rfl, rfl⟩
    go_wp2
    go_ret
    exact ⟨rfl, HB1.out⟩
end Go.Proofs.Ytnffcboelkkbmaa
