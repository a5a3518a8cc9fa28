/- The law MacroOrder. Conditions: what it is handed is of bounded bulk; the machine's MaxLen is laid. -/
import Derived.Test.YtmeenhfclnkjhaaMacroRevW
import Derived.Test.YtmeenhfclnkjhaaMacroJoinW
namespace Go.Proofs.Ytmeenhfclnkjhaa
open Go.RowKit Go.Shelf Go.Maps
set_option maxHeartbeats 8000000 in
set_option maxRecDepth 100000 in
theorem macroOrder_walk (p : Option Addr) (n c : Nat) (l : List Mac) (s : Bs) (w : World) (hR : MacsIn w p n c l) (hn : n ≤ 1048576) (hsp : ∀ ad, p = some ad → ad.spot = none) (hM : MLm w) (hs : s.length ≤ 1048576) :
    Calls Try.prog 5 #[.slice p n c, .string (txt s)] w fun e w' => e = .returned (.bool true) ∧ Below w.heap.size w w' := by
  have hln := hR.at_.len
  subst hln
  have hsm := hR.small
  have HMac := Lib.hid (macros_ok w hM)
  obtain ⟨ea, hea⟩ : ∃ ea, ea = expandE okM l s := ⟨_, rfl⟩
  obtain ⟨eb, heb⟩ : ∃ eb, eb = expandE okM l.reverse s := ⟨_, rfl⟩
  obtain ⟨hq1, hq2⟩ : ea.2 = eb.2 ∧ (ea.1 = 0 ↔ eb.1 = 0) := by rw [hea, heb]; exact expand_perm (List.reverse_perm l).symm s
  have HA : Hid (∀ u, Below w.heap.size w u → Calls Try.prog 9 #[.slice p l.length c, .string (txt s)] u fun e w' => e = .returned (.tuple #[.string (txt ea.2), .int .i64 ea.1]) ∧ Below u.heap.size u w') := by
    show ∀ u, _
    intro u hu
    rw [hea]
    exact Expand_ok p l.length c l s u (hR.below hu) (hM.below hu) hs
  have HBX : Hid (∀ (W u : World) (g : Option Addr) (cg : Nat), Below w.heap.size w W → Below W.heap.size W u → u.ownsRow W.heap.size 24 2 (.slice g l.length cg) l.length (cells2 mF mG l.reverse) → Calls Try.prog 9 #[.slice g l.length cg, .string (txt s)] u fun e w' => e = .returned (.tuple #[.string (txt eb.2), .int .i64 eb.1]) ∧ Below w.heap.size w w') := by
    show ∀ W u g cg, _ → _
    intro W u g cg hW hu ho
    rw [heb]
    have hu2 := hW.trans (hu.mono hW.size)
    refine (Expand_ok g l.length cg l.reverse s u (MacsIn.own ho (by omega) (fun m hm => hsm m (List.mem_reverse.1 hm))) (hM.below hu2) hs).mono ?_
    rintro e w' ⟨h1, h2⟩
    exact ⟨h1, hu2.trans (h2.mono hu2.size)⟩
  have HCl : Hid (∀ u, Below w.heap.size w u → Calls Try.prog 10 #[.slice p l.length c] u fun e w' => ∃ (g : Option Addr) (cg : Nat), e = .returned (.slice g l.length cg) ∧ w'.ownsRow u.heap.size 24 2 (.slice g l.length cg) l.length (cells2 mF mG l) ∧ Below u.heap.size u w') := fun u hu => cloneM_ok p l.length c l u (hR.below hu) (by omega) hsp
  have HRv : Hid (∀ (base : Nat) (u : World) (g : Option Addr) (cg : Nat), u.ownsRow base 24 2 (.slice g l.length cg) l.length (cells2 mF mG l) → Calls Try.prog 12 #[.slice g l.length cg] u fun e w' => e = .returned (.tuple #[]) ∧ w'.ownsRow base 24 2 (.slice g l.length cg) l.length (cells2 mF mG l.reverse) ∧ u.grownBy w' (Value.slice g l.length cg).ownBlock) := fun base u g cg ho => revM_ok base g cg l u ho hn
  clear hR hM hsm hea heb
  obtain ⟨E1, a⟩ := ea
  obtain ⟨E2, b⟩ := eb
  simp only at HA HBX hq1 hq2
  subst hq1
  have hself : ((txt a).toList == (txt a).toList) = true := by simp
  have hbe : (E1 == 0) = (E2 == 0) := by
    rw [Bool.eq_iff_iff, beq_iff_eq, beq_iff_eq]; exact hq2
  have HBE := Lib.hid hbe
  clear hq2 hbe
  go_enter Try.func5, Try.ntmps5
  go_wp2_with (first
    | (go_at_call 8; refine HMac.out.mono ?_; rintro e w1 ⟨rfl, hb⟩; have HB1 := Lib.hid hb; clear hb)
    | (go_at_call 10; refine (HCl.out _ HB1.out).mono ?_; rintro e w2 ⟨g, cg, rfl, hown, hb⟩; have HO2 := Lib.hid hown; have HB2 := Lib.hid hb; clear hown hb)
    | (go_at_call 12; refine (HRv.out _ _ _ _ HO2.out).mono ?_; rintro e w3 ⟨rfl, hown, hg⟩; have HO3 := Lib.hid hown; have HB3 : Hid (Below w1.heap.size w1 w3) := HB2.out.grown hg HB2.out.size (fun k hk => (HO2.out.lt k hk).1); clear hown hg)
    | (go_at_call 9; have hh := HA.out; clear HA; refine (hh _ (HB1.out.trans (HB3.out.mono HB1.out.size))).mono ?_; clear hh; rintro e w4 ⟨rfl, hb⟩; have HX4 := Lib.hid (HBX.out w1 w4 g cg HB1.out (HB3.out.trans (hb.mono HB3.out.size)) (own_none HO3.out (mgrown_below hb))); clear hb)
    | (go_at_call 9; refine HX4.out.mono ?_; rintro e w5 ⟨rfl, hb⟩; have HB5 := Lib.hid hb; clear hb))
  go_ret
  exact ⟨by simp [HBE.out], HB5.out⟩
theorem macroOrder_law {v : Value} (s : ByteArray) (w : World) (hM : MLm w) (h : ∃ g, MacsAt w v g) (hs : s.size ≤ 1048576) :
    Calls Try.prog 5 #[v, .string s] w fun e w' => e = .returned (.bool true) ∧ Below w.heap.size w w' := by
  obtain ⟨_, p, n, c, l, rfl, h1, _, hn, hsp⟩ := h
  have := macroOrder_walk p n c l s.data.toList w h1 hn hsp hM (by rw [← Lib.size_eq]; exact hs)
  rwa [list_txt] at this
end Go.Proofs.Ytmeenhfclnkjhaa
