/- The law MacroUses. Conditions: what it is handed is of bounded bulk; the machine's MaxLen is laid. -/
import Derived.Test.YtmeenhfclnkjhaaMacroCW
import Derived.Test.YtmeenhfclnkjhaaMacroJoinW
namespace Go.Proofs.Ytmeenhfclnkjhaa
open Go.RowKit Go.Shelf Go.Maps
set_option maxHeartbeats 8000000 in
set_option maxRecDepth 100000 in
theorem macroUses_walk (p : Option Addr) (n c : Nat) (l : List Mac) (s : Bs) (x : Mac) (w : World) (hR : MacsIn w p n c l) (hn : n ≤ 1048576) (hsp : ∀ ad, p = some ad → ad.spot = none) (hM : MLm w) (hs : s.length ≤ 1048576) (hx : x.1.length ≤ 1048576 ∧ x.2.length ≤ 1048576) :
    Calls Try.prog 3 #[.slice p n c, .string (txt s), .agg #[mF x, mG x]] w fun e w' => e = .returned (.bool true) ∧ Below w.heap.size w w' := by
  have hln := hR.at_.len
  have hsm := hR.small
  obtain ⟨W0, hW0⟩ : ∃ W0, W0 = w.alloc (.cells #[mF x, mG x] 24) := ⟨_, rfl⟩
  have hb0 : Below w.heap.size w W0 := by rw [hW0]; exact mb1 w _
  have hz0 : W0.heap.size = w.heap.size + 1 := by rw [hW0]; simp
  have x0 : W0.cell? ⟨w.heap.size, 0, none⟩ = some (mF x) := by rw [hW0, World.cell?_alloc_at _ _ _ _ rfl]; rfl
  have x1 : W0.cell? ⟨w.heap.size, 1, none⟩ = some (mG x) := by rw [hW0, World.cell?_alloc_at _ _ _ _ rfl]; rfl
  have HXC : Hid (∀ u, Below W0.heap.size W0 u → u.cell? ⟨w.heap.size, 0, none⟩ = some (mF x) ∧ u.cell? ⟨w.heap.size, 1, none⟩ = some (mG x)) := fun u hu => ⟨(hu.cell (by show w.heap.size < _; omega)).trans x0, (hu.cell (by show w.heap.size < _; omega)).trans x1⟩
  have hR0 := hR.below hb0
  have hM0 := hM.below hb0
  have HB0 := Lib.hid hb0
  have HMac := Lib.hid (macros_ok W0 hM0)
  obtain ⟨ea, hea⟩ : ∃ ea, ea = expandE okM l s := ⟨_, rfl⟩
  obtain ⟨eb, heb⟩ : ∃ eb, eb = expandE okM (l ++ [x]) s := ⟨_, rfl⟩
  have HA : Hid (∀ u, Below W0.heap.size W0 u → Calls Try.prog 9 #[.slice p n c, .string (txt s)] u fun e w' => e = .returned (.tuple #[.string (txt ea.2), .int .i64 ea.1]) ∧ Below W0.heap.size W0 w') := by
    show ∀ u, _
    intro u hu
    rw [hea]
    refine (Expand_ok p n c l s u (hR0.below hu) (hM0.below hu) hs).mono ?_
    rintro e w' ⟨h1, h2⟩
    exact ⟨h1, hu.trans (h2.mono hu.size)⟩
  have HBX : Hid (∀ (W u : World) (g : Option Addr) (cg : Nat), Below W0.heap.size W0 W → Below W.heap.size W u → u.ownsRow W.heap.size 24 2 (.slice g (n + 1) cg) (n + 1) (cells2 mF mG (l ++ [x])) → Calls Try.prog 9 #[.slice g (n + 1) cg, .string (txt s)] u fun e w' => e = .returned (.tuple #[.string (txt eb.2), .int .i64 eb.1]) ∧ Below W0.heap.size W0 w') := by
    show ∀ W u g cg, _ → _
    intro W u g cg hW hu ho
    rw [heb]
    have hu2 := hW.trans (hu.mono hW.size)
    refine (Expand_ok g (n + 1) cg (l ++ [x]) s u (MacsIn.own ho (by omega) (fun m hm => ?_)) (hM0.below hu2) hs).mono ?_
    · rcases List.mem_append.1 hm with h | h
      · exact hsm m h
      · rw [List.mem_singleton.1 h]; exact hx
    · rintro e w' ⟨h1, h2⟩
      exact ⟨h1, hu2.trans (h2.mono hu2.size)⟩
  have HCl : Hid (∀ u, Below W0.heap.size W0 u → Calls Try.prog 10 #[.slice p n c] u fun e w' => ∃ (g : Option Addr) (cg : Nat), e = .returned (.slice g n cg) ∧ w'.ownsRow u.heap.size 24 2 (.slice g n cg) n (cells2 mF mG l) ∧ Below u.heap.size u w') := fun u hu => cloneM_ok p n c l u (hR0.below hu) (by omega) hsp
  have HEQ : Hid (ea.1 = 0 → eb.1 = 0 → ea.2 = eb.2) := by
    show _ → _
    intro h1 h2
    rw [hea] at h1 ⊢
    rw [heb] at h2 ⊢
    exact expand_more h1 h2
  have HE1 : Hid (ea.1 ≠ 0 → ea.2 = []) := by show _ → _; rw [hea]; exact expandE_text
  have HE2 : Hid (eb.1 ≠ 0 → eb.2 = []) := by show _ → _; rw [heb]; exact expandE_text
  clear hR hR0 hM hM0 hb0 hea heb x0 x1 hsm hln
  obtain ⟨E1, a⟩ := ea
  obtain ⟨E2, b⟩ := eb
  simp only at HA HBX HEQ HE1 HE2
  go_enter Try.func3, Try.ntmps3
  go_upto_region 1 with fail
  rw [← hW0]
  clear hW0
  go_upto_region 4 with (first
    | (go_at_call 8; refine HMac.out.mono ?_; rintro e w1 ⟨rfl, hb⟩; have HB1 := Lib.hid hb; clear hb)
    | (go_at_call 9; refine (HA.out _ HB1.out).mono ?_; rintro e w2 ⟨rfl, hb⟩; have HB2 := Lib.hid hb; clear hb))
  obtain ⟨k0, k1⟩ := HXC.out _ HB2.out
  have HB2d : Hid (Below W0.heap.size W0 w2.drew) := HB2.out.drew
  obtain ⟨XO, hXO⟩ : ∃ XO, XO = Obj.cells #[mF x, mG x] 24 := ⟨_, rfl⟩
  have HB2a : Hid (Below W0.heap.size W0 (w2.alloc XO).drew) := (HB2.out.alloc HB2.out.size _).drew
  have hz3 : (w2.alloc XO).drew.heap.size = w2.heap.size + 1 := by show (w2.alloc XO).heap.size = _; simp
  have XC0 : Hid ((w2.alloc XO).drew.cell? ⟨w2.heap.size, 0, none⟩ = some (mF x)) := by show (w2.alloc XO).cell? _ = _; rw [hXO, World.cell?_alloc_at _ _ _ _ rfl]; rfl
  have XC1 : Hid ((w2.alloc XO).drew.cell? ⟨w2.heap.size, 1, none⟩ = some (mG x)) := by show (w2.alloc XO).cell? _ = _; rw [hXO, World.cell?_alloc_at _ _ _ _ rfl]; rfl
  have HAP : Hid (∀ (w3 : World) (g : Option Addr) (cg : Nat) (v' : Value) (w5 : World), Below w2.heap.size w2 w3 → w3.ownsRow w2.heap.size 24 2 (.slice g n cg) n (cells2 mF mG l) → w5.ownsRow w2.heap.size 24 2 v' (n + 1) (cells2 mF mG (l ++ [x])) → w3.grownBy w5 (Value.slice g n cg).ownBlock → ∃ g5 c5, v' = .slice g5 (n + 1) c5 ∧ Hid (Calls Try.prog 9 #[.slice g5 (n + 1) c5, .string (txt s)] w5 fun e w' => e = .returned (.tuple #[.string (txt b), .int .i64 E2]) ∧ Below W0.heap.size W0 w')) := by
    show ∀ w3 g cg v' w5, _
    intro w3 g cg v' w5 h1 h2 h3 h4
    obtain ⟨g5, c5, rfl⟩ := mown_form h3
    exact ⟨g5, c5, rfl, HBX.out w2 w5 g5 c5 HB2.out (h1.grown h4 h1.size (fun k hk => (h2.lt k hk).1)) h3⟩
  go_cut [9, 10] from 11 (fun s9 s10 wx => s9 = .string (txt b) ∧ s10 = .int .i64 E2 ∧ Hid (Below W0.heap.size W0 wx))
  case first =>
    go_region_law? (first
      | (go_simp; go_at_call 10; (first
          | (refine (HCl.out _ HB2d.out).mono ?_; rintro e w3 ⟨g, cg, rfl, hown, hb⟩; have hb3 := (Below.refl w2.heap.size w2).drew.trans hb; have hbw := HB2.out.trans (hb3.mono HB2.out.size); obtain ⟨k03, k13⟩ := HXC.out _ hbw; have HA3 : Hid (∀ o, Below w2.heap.size w2 (w3.alloc o) ∧ (w3.alloc o).ownsRow w2.heap.size 24 2 (.slice g n cg) n (cells2 mF mG l)) := fun o => ⟨hb3.alloc hb3.size o, own_none hown (World.grownBy_alloc _ _ _)⟩; clear hb hown hb3 hbw)
          | (rw [← hXO]; refine (HCl.out _ HB2a.out).mono ?_; rintro e w3 ⟨g, cg, rfl, hown, hb⟩; rw [hz3] at hb hown; have hb3 := ((Below.refl w2.heap.size w2).alloc (Nat.le_refl _) XO).drew.trans (hb.mono (Nat.le_succ _)); have HB3 : Hid (Below w2.heap.size w2 w3 ∧ w3.ownsRow w2.heap.size 24 2 (.slice g n cg) n (cells2 mF mG l) ∧ w3.cell? ⟨w2.heap.size, 0, none⟩ = some (mF x) ∧ w3.cell? ⟨w2.heap.size, 1, none⟩ = some (mG x)) := ⟨hb3, own_low hown (Nat.le_succ _), (hb.cell (p := ⟨w2.heap.size, 0, none⟩) (Nat.lt_succ_self _)).trans XC0.out, (hb.cell (p := ⟨w2.heap.size, 1, none⟩) (Nat.lt_succ_self _)).trans XC1.out⟩; clear hb hown hb3)))
      | (refine step_mac rfl _ _ rfl w2.heap.size _ n l rfl (HA3.out _).2 w3.heap.size x rfl (by rw [World.cell?_alloc_at _ _ _ _ rfl]; rfl) (by rw [World.cell?_alloc_at _ _ _ _ rfl]; rfl) (by omega) (HA3.out _).1.size ?_; intro v' w5 h1 h2; obtain ⟨g5, c5, rfl, HE5⟩ := HAP.out _ _ _ _ _ (HA3.out _).1 (HA3.out _).2 h1 h2; clear h1 h2)
      | (refine step_mac rfl _ _ rfl w2.heap.size _ n l rfl HB3.out.2.1 w2.heap.size x rfl HB3.out.2.2.1 HB3.out.2.2.2 (by omega) HB3.out.1.size ?_; intro v' w5 h1 h2; obtain ⟨g5, c5, rfl, HE5⟩ := HAP.out _ _ _ _ _ HB3.out.1 HB3.out.2.1 h1 h2; clear h1 h2)
      | (go_simp; go_at_call 9; refine HE5.out.mono ?_; rintro e w6 ⟨rfl, hb⟩; have HB6 := Lib.hid hb; clear hb))
    all_goals
      go_wp2_with fail
      go_meet
      case rel => exact ⟨rfl, rfl, HB6⟩
  case rest =>
    obtain ⟨rfl, rfl, HBc⟩ := hcut
    clear HCl HA HBX HAP HB2a XC0 XC1 HXC HMac k0 k1 HB2d
    by_cases h1 : E1 = 0
    · by_cases h2 : E2 = 0
      · obtain rfl := HEQ.out h1 h2
        subst h1 h2
        have hself : ((txt a).toList == (txt a).toList) = true := by simp
        go_wp2
        go_ret
        exact ⟨by simp, HB0.out.trans (HBc.out.mono HB0.out.size)⟩
      · obtain rfl := HE2.out h2
        obtain ⟨i1, i2⟩ := int_ne' h2
        subst h1
        have hz : txt [] = (⟨#[]⟩ : ByteArray) := rfl
        rw [hz]
        go_wp2
        go_ret
        exact ⟨by simp, HB0.out.trans (HBc.out.mono HB0.out.size)⟩
    · obtain rfl := HE1.out h1
      obtain ⟨i1, i2⟩ := int_ne' h1
      have hz : txt [] = (⟨#[]⟩ : ByteArray) := rfl
      by_cases h2 : E2 = 0
      · subst h2
        rw [hz]
        go_wp2
        go_ret
        exact ⟨by simp, HB0.out.trans (HBc.out.mono HB0.out.size)⟩
      · obtain rfl := HE2.out h2
        obtain ⟨i3, i4⟩ := int_ne' h2
        rw [hz]
        go_wp2
        go_ret
        exact ⟨by simp, HB0.out.trans (HBc.out.mono HB0.out.size)⟩
theorem macroUses_law {v u : Value} (s : ByteArray) (w : World) (hM : MLm w) (h : ∃ g, MacsAt w v g) (h2 : ∃ g, MacAt w u g) (hs : s.size ≤ 1048576) :
    Calls Try.prog 3 #[v, .string s, u] w fun e w' => e = .returned (.bool true) ∧ Below w.heap.size w w' := by
  obtain ⟨_, p, n, c, l, rfl, h1, _, hn, hsp⟩ := h
  obtain ⟨_, x, rfl, hx⟩ := h2
  have := macroUses_walk p n c l s.data.toList x w h1 hn hsp hM (by rw [← Lib.size_eq]; exact hs) hx
  rwa [list_txt] at this
end Go.Proofs.Ytmeenhfclnkjhaa
