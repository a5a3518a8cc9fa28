/- The law MacroFlat. Conditions: what it is handed is of bounded bulk; the machine's MaxLen is laid. -/
import Derived.Test.YtmeenhfclnkjhaaDoorMacroFlatP
import Derived.Test.YtmeenhfclnkjhaaDoorMacroEqW
import Derived.Test.YtmeenhfclnkjhaaDoorMacroRevW
import Derived.Test.YtmeenhfclnkjhaaDoorMacroJoinW
namespace Go.Proofs.YtmeenhfclnkjhaaDoor
open Go.RowKit Go.Shelf Go.Maps
theorem replM_ok (v : Bs) (hv : v.length ≤ 2000) (w : World) (hM : MLm w) :
    Calls Tryd.prog 11 #[.string (txt v), .string ⟨#[36]⟩, .string ⟨#[36, 36]⟩] w fun e w' => e = .returned (.string (txt (dbl v))) ∧ Below w.heap.size w w' := by
  obtain ⟨m, hm⟩ := hM
  have hc := Lib.count_le (txt v).data.toList (⟨#[36]⟩ : ByteArray).data.toList
  have := Tryd.strings_ReplaceAll (txt v) ⟨#[36]⟩ ⟨#[36, 36]⟩ m w (by rw [txt_size]; omega) hm (by decide) (by
    have h2 : Lib.countB (txt v) ⟨#[36]⟩ ≤ v.length + 1 := by
      rw [txt_list] at hc
      exact hc
    show (txt v).size + Lib.countB (txt v) ⟨#[36]⟩ * 2 ≤ _
    rw [txt_size]; omega)
  rw [txt_list, show (⟨#[36]⟩ : ByteArray).data.toList = [36] from rfl, show (⟨#[36, 36]⟩ : ByteArray).data.toList = [36, 36] from rfl, repl_dbl] at this
  exact this
set_option maxHeartbeats 8000000 in
set_option maxRecDepth 100000 in
theorem macroFlat_walk (p : Option Addr) (n c : Nat) (l : List Mac) (s : Bs) (w : World) (hR : MacsIn w p n c l) (hn : n ≤ 1048576) (hM : MLm w) (hs : s.length ≤ 1048576) :
    Calls Tryd.prog 3 #[.slice p n c, .string (txt s)] w fun e w' => e = .returned (.bool true) ∧ Below w.heap.size w w' := by
  have hln := hR.at_.len
  subst hln
  have hsm := hR.small
  have HMac := Lib.hid (macros_ok w hM)
  have HML := Lib.hid (fun u (hu : Below w.heap.size w u) => hM.below hu)
  have HFl := Lib.hid (fun u (hu : Below w.heap.size w u) => Flat_ok p l.length c l u (hR.below hu) (hM.below hu))
  by_cases hE : flatsE okM l = 0
  rotate_left
  · have HF2 : Hid (∀ u, Below w.heap.size w u → Calls Tryd.prog 8 #[.slice p l.length c] u fun e w' => e = .returned (.tuple #[.slice none 0 0, .int .i64 (flatsE okM l)]) ∧ Below w.heap.size w w') := by
      show ∀ u, _
      intro u hu
      refine (HFl.out u hu).mono ?_
      rintro e w' ⟨⟨v, rfl, hv⟩, hb⟩
      obtain ⟨_, rfl⟩ := hv.resolve_right (fun h => hE h.1)
      exact ⟨rfl, hu.trans (hb.mono hu.size)⟩
    obtain ⟨e1, e2⟩ := int_ne' hE
    clear HFl hE hR hM hsm
    generalize flatsE okM l = fe at *
    go_enter Tryd.func3, Tryd.ntmps3
    go_wp2_with (first
      | (go_at_call 7; refine HMac.out.mono ?_; rintro e w1 ⟨rfl, hb⟩; have HB1 := Lib.hid hb; clear hb)
      | (go_at_call 8; refine (HF2.out _ HB1.out).mono ?_; rintro e w2 ⟨rfl, hb⟩; have HB2 := Lib.hid hb; clear hb))
    go_ret
    exact ⟨rfl, HB2.out⟩
  obtain ⟨hTO, hLG⟩ := flatsE_zero.1 hE
  obtain ⟨hQ1, _⟩ := quote_ok hTO hLG
  have hE2 : flatsE okM (quoteL (flatL okM l)) = 0 := flatsE_zero.2 hQ1
  have hFQ := flat_quote hTO hLG
  have hXQ := expand_quote hTO hLG s
  obtain ⟨FL, hFL⟩ : ∃ FL, FL = flatL okM l := ⟨_, rfl⟩
  have hFlen : FL.length = l.length := by rw [hFL]; unfold flatL; rw [List.length_map]
  have HSH : Hid (∀ x ∈ FL, x.1.length ≤ 1048576 ∧ x.2.length ≤ 2000) := by
    show ∀ x ∈ FL, _
    intro x hx
    rw [hFL] at hx
    obtain ⟨h1, m, hm, h2⟩ := flatL_short hx
    exact ⟨by rw [h2]; exact (hsm m hm).1, h1⟩
  have HF2 : Hid (∀ u, Below w.heap.size w u → Calls Tryd.prog 8 #[.slice p l.length c] u fun e w' => (∃ g cg, e = .returned (.tuple #[.slice g l.length cg, .int .i64 0]) ∧ w'.ownsRow u.heap.size 31 2 (.slice g l.length cg) l.length (cells2 mF mG FL)) ∧ Below u.heap.size u w') := by
    show ∀ u, _
    intro u hu
    refine (HFl.out u hu).mono ?_
    rintro e w' ⟨⟨v, rfl, hv⟩, hb⟩
    obtain ⟨_, ho⟩ := hv.resolve_left (fun h => h.1 hE)
    rw [hE]
    rw [← hFL] at ho
    obtain ⟨g, cg, rfl⟩ := mown_form ho
    exact ⟨⟨g, cg, rfl, ho⟩, hb⟩
  obtain ⟨ea, hea⟩ : ∃ ea, ea = expandE okM l s := ⟨_, rfl⟩
  have HX : Hid (∀ u, Below w.heap.size w u → Calls Tryd.prog 9 #[.slice p l.length c, .string (txt s)] u fun e w' => e = .returned (.tuple #[.string (txt ea.2), .int .i64 ea.1]) ∧ Below u.heap.size u w') := by
    show ∀ u, _
    intro u hu
    rw [hea]
    exact Expand_ok p l.length c l s u (hR.below hu) (hM.below hu) hs
  have HIN : Hid (∀ (base : Nat) (u : World) (g : Option Addr) (cg : Nat), u.ownsRow base 31 2 (.slice g l.length cg) l.length (cells2 mF mG FL) → MacsIn u g l.length cg FL) := by
    show ∀ base u g cg, _
    intro base u g cg ho
    exact MacsIn.own ho (by omega) (fun m hm => ⟨(HSH.out m hm).1, by have := (HSH.out m hm).2; omega⟩)
  have HINQ : Hid (∀ (base : Nat) (u : World) (g : Option Addr) (cg : Nat), u.ownsRow base 31 2 (.slice g l.length cg) l.length (cells2 mF mG (quoteL FL)) → MacsIn u g l.length cg (quoteL FL)) := by
    show ∀ base u g cg, _
    intro base u g cg ho
    refine MacsIn.own ho (by omega) (fun m hm => ?_)
    obtain ⟨x, hx, rfl⟩ := List.mem_map.1 hm
    have h1 := HSH.out x hx
    have h2 := dbl_len x.2
    exact ⟨h1.1, by show (dbl x.2).length ≤ _; omega⟩
  have HXQ : Hid (∀ (base : Nat) (u : World) (g : Option Addr) (cg : Nat), Below w.heap.size w u → u.ownsRow base 31 2 (.slice g l.length cg) l.length (cells2 mF mG (quoteL FL)) → Calls Tryd.prog 9 #[.slice g l.length cg, .string (txt s)] u fun e w' => e = .returned (.tuple #[.string (txt ea.2), .int .i64 ea.1]) ∧ Below u.heap.size u w') := by
    show ∀ base u g cg, _
    intro base u g cg hu ho
    have := Expand_ok g l.length cg (quoteL FL) s u (HINQ.out base u g cg ho) (hM.below hu) hs
    rw [hFL, hXQ, ← hea] at this
    exact this
  have HFQ : Hid (∀ (base : Nat) (u : World) (g : Option Addr) (cg : Nat), Below w.heap.size w u → u.ownsRow base 31 2 (.slice g l.length cg) l.length (cells2 mF mG (quoteL FL)) → Calls Tryd.prog 8 #[.slice g l.length cg] u fun e w' => (∃ g2 c2, e = .returned (.tuple #[.slice g2 l.length c2, .int .i64 0]) ∧ w'.ownsRow u.heap.size 31 2 (.slice g2 l.length c2) l.length (cells2 mF mG FL)) ∧ Below u.heap.size u w') := by
    show ∀ base u g cg, _
    intro base u g cg hu ho
    refine (Flat_ok g l.length cg (quoteL FL) u (HINQ.out base u g cg ho) (hM.below hu)).mono ?_
    rintro e w' ⟨⟨v, rfl, hv⟩, hb⟩
    rw [hFL] at hv ⊢
    rw [hE2] at hv ⊢
    obtain ⟨_, ho2⟩ := hv.resolve_left (fun h => h.1 rfl)
    rw [hFQ] at ho2
    have hql : (quoteL (flatL okM l)).length = l.length := by unfold quoteL flatL; rw [List.length_map, List.length_map]
    rw [hql] at ho2
    obtain ⟨g2, c2, rfl⟩ := mown_form ho2
    exact ⟨⟨g2, c2, rfl, ho2⟩, hb⟩
  have HCl : Hid (∀ (base : Nat) (u : World) (g : Option Addr) (cg : Nat), u.ownsRow base 31 2 (.slice g l.length cg) l.length (cells2 mF mG FL) → Calls Tryd.prog 10 #[.slice g l.length cg] u fun e w' => ∃ (g2 : Option Addr) (c2 : Nat), e = .returned (.slice g2 l.length c2) ∧ w'.ownsRow u.heap.size 31 2 (.slice g2 l.length c2) l.length (cells2 mF mG FL) ∧ Below u.heap.size u w') := by
    show ∀ base u g cg, _
    intro base u g cg ho
    refine cloneM_ok g l.length cg FL u (HIN.out base u g cg ho) (by omega) (fun ad had => ?_)
    rcases ho.2 with ⟨h, _⟩ | ⟨g', cap, cur, h, _⟩
    · injection h with h; rw [h] at had; cases had
    · injection h with h; rw [h] at had; injection had with had; rw [← had]
  have HEq : Hid (∀ (b1 b2 : Nat) (u : World) (g g2 : Option Addr) (c1 c2 : Nat), u.ownsRow b1 31 2 (.slice g l.length c1) l.length (cells2 mF mG FL) → u.ownsRow b2 31 2 (.slice g2 l.length c2) l.length (cells2 mF mG FL) → Calls Tryd.prog 12 #[.slice g l.length c1, .slice g2 l.length c2] u fun e w' => e = .returned (.bool true) ∧ Below u.heap.size u w') := by
    show ∀ b1 b2 u g g2 c1 c2, _
    intro b1 b2 u g g2 c1 c2 h1 h2
    exact equalM_ok g g2 l.length c1 c2 FL u (HIN.out _ _ _ _ h1) (HIN.out _ _ _ _ h2)
  have HFL := Lib.hid hFlen
  clear HFl hE hR hM hsm hTO hLG hQ1 hE2 hFQ hXQ hFL hea hFlen HIN HINQ
  obtain ⟨E1, a⟩ := ea
  simp only at HX HXQ
  have hself : ((txt a).toList == (txt a).toList) = true := by simp
  have hself2 : (E1 == E1) = true := by simp
  go_enter Tryd.func3, Tryd.ntmps3
  go_wp2_with (first
    | (go_at_call 7; refine HMac.out.mono ?_; rintro e w1 ⟨rfl, hb⟩; have HB1 := Lib.hid hb; clear hb)
    | (go_at_call 8; refine (HF2.out _ HB1.out).mono ?_; rintro e w2 ⟨⟨g, cg, rfl, hown⟩, hb⟩; have HO2 := Lib.hid hown; have HB2 := Lib.hid (HB1.out.trans (hb.mono HB1.out.size)); clear hb hown)
    | (go_at_call 9; refine (HX.out _ HB2.out).mono ?_; rintro e w3 ⟨rfl, hb⟩; have HO3 := Lib.hid (own_none HO2.out (mgrown_below hb)); have HB3 := Lib.hid (HB2.out.trans (hb.mono HB2.out.size)); clear hb)
    | (go_at_call 10; refine (HCl.out _ _ _ _ HO3.out).mono ?_; rintro e w4 ⟨q, cq, rfl, hown, hb⟩; have HO4 := Lib.hid (own_none HO3.out (mgrown_below hb)); have HQ4 := Lib.hid hown; have HB4 := Lib.hid (HB3.out.trans (hb.mono HB3.out.size)); have HBc := Lib.hid hb; clear hb hown))
  go_loopw [37] (fun i wr => ∃ (k : Nat) (L : List Mac), k ≤ l.length ∧ i = .int .i64 k ∧ Hid (QK FL L k) ∧ Hid (wr.ownsRow w3.heap.size 31 2 (.slice q l.length cq) l.length (cells2 mF mG L)) ∧ Hid (Below w3.heap.size w3 wr)) (fun i _ => l.length - (intOf i).toNat)
  case atStart => exact ⟨0, FL, Nat.zero_le _, rfl, QK.start FL, HQ4, HBc⟩
  case round =>
    obtain ⟨k, L, hk, rfl, HK, HW, HBr⟩ := hrel
    by_cases hlt : k < l.length
    · have hq : ∃ gb, q = some ⟨gb, 0, none⟩ := by
        rcases HW.out.2 with ⟨_, h⟩ | ⟨gb, cap, cur, e, _⟩
        · omega
        · injection e with e1 _ _
          exact ⟨gb, e1⟩
      obtain ⟨gb, rfl⟩ := hq
      have hLl := HK.out.1
      have hFl := HFL.out
      obtain ⟨x, hx⟩ : ∃ x, L[k]? = some x := ⟨_, List.getElem?_eq_getElem (show k < L.length by omega)⟩
      have HST := Lib.hid (HK.out.step hx)
      have hxF : x ∈ FL := by
        have e := HK.out.2 k
        rw [if_neg (by omega), hx] at e
        exact List.mem_of_getElem? e.symm
      have hxs := (HSH.out x hxF).2
      obtain ⟨_, q2⟩ := cells2_at mF mG hx
      have c2 := HW.out.cells (g := gb) rfl _ _ q2
      rw [Addr.add_lit, Nat.zero_add] at c2
      have HSE := Lib.hid (cells2_set1 hx (dbl x.2))
      have HRp := Lib.hid (fun (u : World) hu => replM_ok x.2 hxs u (HML.out u hu))
      have HBw := Lib.hid (HB3.out.trans (HBr.out.mono HB3.out.size))
      have hbig := HBr.out.size
      obtain ⟨x1, x2⟩ := x
      have hkl : (k : Int) < (l.length : Int) := by omega
      simp only [mG] at c2
      clear hx hxF hxs q2 hLl hFl
      go_wp2_with (go_at_call 11; refine (HRp.out _ HBw.out).mono ?_; rintro e w5 ⟨rfl, hb⟩; have ho5 := own_none HW.out (mgrown_below hb); have f5 := own_ice (j := k * 2 + 1) ho5; have c5 := (hb.cell (World.block_lt_of_cell? _ _ c2)).trans c2; have HO5 := Lib.hid ho5; have HB5 := Lib.hid (HBr.out.trans (hb.mono HBr.out.size)); clear hb ho5)
      go_roundw
      case rel =>
        refine ⟨k + 1, L.set k (x1, dbl x2), by omega, by go_num, HST, ?_, ?_⟩
        · show World.ownsRow _ _ _ _ _ _ _
          have o1 := own_set (j := k * 2 + 1) (u := mG (x1, dbl x2)) HO5.out
          rw [HSE.out] at o1
          exact o1
        · show Below _ _ _
          exact HB5.out.setCell (HO5.out.lt gb rfl).1 _
      case measure => simp [intOf]; omega
    · obtain rfl : k = l.length := by omega
      have hL : L = quoteL FL := by
        have := HK.out
        rw [← HFL.out] at this
        exact this.done
      subst hL
      have HBw := Lib.hid (HB3.out.trans (HBr.out.mono HB3.out.size))
      have HOr := Lib.hid (own_none HO3.out (mgrown_below HBr.out))
      clear hlt hk
      go_wp2_with (first
        | (go_at_call 9; refine (HXQ.out _ _ _ _ HBw.out HW.out).mono ?_; rintro e w6 ⟨rfl, hb⟩; have HQ6 := Lib.hid (own_none HW.out (mgrown_below hb)); have HO6 := Lib.hid (own_none HOr.out (mgrown_below hb)); have HB6 := Lib.hid (HBw.out.trans (hb.mono HBw.out.size)); clear hb)
        | (go_at_call 8; refine (HFQ.out _ _ _ _ HB6.out HQ6.out).mono ?_; rintro e w7 ⟨⟨g2, c2, rfl, hown⟩, hb⟩; have HA7 := Lib.hid hown; have HO7 := Lib.hid (own_none HO6.out (mgrown_below hb)); have HB7 := Lib.hid (HB6.out.trans (hb.mono HB6.out.size)); clear hb hown)
        | (go_at_call 12; refine (HEq.out _ _ _ _ _ _ _ HA7.out HO7.out).mono ?_; rintro e w8 ⟨rfl, hb⟩; have HB8 := Lib.hid (HB7.out.trans (hb.mono HB7.out.size)); clear hb))
      go_ret
      exact ⟨rfl, HB8.out⟩
theorem macroFlat_law {v : Value} (s : ByteArray) (w : World) (hM : MLm w) (h : ∃ g, MacsAt w v g) (hs : s.size ≤ 1048576) :
    Calls Tryd.prog 3 #[v, .string s] w fun e w' => e = .returned (.bool true) ∧ Below w.heap.size w w' := by
  obtain ⟨_, p, n, c, l, rfl, h1, _, hn, _⟩ := h
  have := macroFlat_walk p n c l s.data.toList w h1 hn hM (by rw [← Lib.size_eq]; exact hs)
  rwa [list_txt] at this
end Go.Proofs.YtmeenhfclnkjhaaDoor
