/- The walks through glob.Pick and the law GlobPick. Conditions: texts shorter than 2^62 bytes. -/
import Derived.Test.YtnffcboelkkbmaaStrs
import Derived.Deep.QuietTactic
import Derived.BigQuiet
import Derived.Deep.Onto
namespace Go.Proofs.Ytnffcboelkkbmaa
open Go.RowKit
theorem own_formS {w : World} {base e n : Nat} {v : Value} {xs : List Value} (h : w.ownsRow base e 1 v n xs) : ∃ (g : Option Addr) (c : Nat), v = .slice g n c ∧ ∀ b, v.ownBlock = some b → base ≤ b ∧ b < w.heap.size := by
  rcases h.2 with ⟨rfl, rfl⟩ | ⟨g, cap, cur, rfl, hb, hh, _⟩
  · exact ⟨none, 0, rfl, fun b hb => by cases hb⟩
  · exact ⟨_, cap, rfl, fun b hb' => h.lt b hb'⟩
theorem own_belowS {w w' : World} {base e n : Nat} {v : Value} {xs : List Value} (h : w.ownsRow base e 1 v n xs) (hb : Below w.heap.size w w') : w'.ownsRow base e 1 v n xs := by
  refine h.kept (row := none) ⟨hb.os, hb.tape, hb.output, hb.size, fun k hk _ => hb.block k hk⟩ ?_
  cases hv : v.ownBlock
  · exact .inl rfl
  · exact .inr (by simp)
/-- what Pick answers -/
def PickPost (p : Txt) (ss : List ByteArray) (w : World) (e : Ending) (w' : World) : Prop :=
  Below w.heap.size w w' ∧ ((∃ (g : Option Addr) (c : Nat), pE p = 0 ∧ e = .returned (.tuple #[.slice g (pk p ss).length c, .int .i64 0]) ∧ w'.ownsRow w.heap.size 9 1 (.slice g (pk p ss).length c) (pk p ss).length (strsV (pk p ss))) ∨
  (pE p ≠ 0 ∧ e = .returned (.tuple #[.slice none 0 0, .int .i64 (pE p)])))
set_option maxHeartbeats 4000000 in
theorem Pick_ok (p : ByteArray) (a : Option Addr) (n c : Nat) (ss : List ByteArray) (hp : p.size ≤ 4611686018427387904) (w : World) (hS : StrsAt w a n ss) :
    Calls Try.prog 25 #[.string p, .slice a n c] w (PickPost p.data.toList ss w) := by
  have hl := hS.len
  have hbig := hS.big
  have HSZ : Hid (∀ k, (ss.getD k ByteArray.empty).size ≤ 4611686018427387904) := by
    show ∀ k, _
    intro k
    rw [List.getD_eq_getElem?_getD]
    rcases Nat.lt_or_ge k ss.length with h | h
    · rw [List.getElem?_eq_getElem h]; exact hS.size _ (List.getElem_mem h)
    · rw [List.getElem?_eq_none h]; exact Nat.zero_le _
  subst hl
  go_enter Try.func25, Try.ntmps25
  go_wp2_with fail
  refine (pieces_ok p hp w).mono ?_
  rintro e w1 ⟨hb1, ⟨l, g, cg, hpl, hpr, hll, hE, rfl, hP⟩ | ⟨hE, _, rfl⟩⟩
  · have HM : Hid (∀ s : Txt, mB p.data.toList s = if 2000 < s.length then false else mt l s) := fun s => (m_good hpl hpr s).1
    have HE := Lib.hid hE
    have hS1 := hS.below hb1
    have hsz1 := hb1.size
    clear hpl hpr hE hS
    go_wp2_with fail
    go_loopw [8, 21] (fun v i wr => ∃ k : Nat, k ≤ ss.length ∧ i = .int .i64 k ∧ wr.ownsRow w1.heap.size 9 1 v (pk p.data.toList (ss.take k)).length (strsV (pk p.data.toList (ss.take k))) ∧ Below w1.heap.size w1 wr) (fun _ i _ => ss.length - (intOf i).toNat)
    case atStart => exact ⟨0, Nat.zero_le _, rfl, World.ownsRow_nil _ _ _ _, Below.refl _ _⟩
    case round =>
      obtain ⟨k, hk, rfl, hown, hbr⟩ := hrel
      obtain ⟨wo, rfl⟩ : ∃ wo : World, wo = wr := ⟨_, rfl⟩
      obtain ⟨gr, cr, rfl, hfb⟩ := own_formS hown
      have hszr := hbr.size
      by_cases hlt : k < ss.length
      · obtain ⟨ad, rfl, _, hc⟩ := str_at (hS1.below hbr).reads hlt
        have hPr := hP.keep hbr
        have hple := pk_le p.data.toList ss k
        have hx62 := HSZ.out k
        have HY := Lib.hid (pk_yes (p := p.data.toList) hlt)
        have HN := Lib.hid (pk_no (p := p.data.toList) hlt)
        obtain ⟨x, hx⟩ : ∃ x, x = ss.getD k ByteArray.empty := ⟨_, rfl⟩
        rw [← hx] at hc hx62
        have HX := Lib.hid hx
        clear hx
        have hm := HM.out x.data.toList
        rw [ba_len] at hm
        have HOW := Lib.hid hown
        have HBR := Lib.hid hbr
        have HFB := Lib.hid hfb
        clear hown hbr hfb
        by_cases hbigx : 2000 < x.size
        · rw [if_pos hbigx] at hm
          have hno := HN.out (by rw [← HX.out]; exact hm)
          have HO2 : Hid (wo.ownsRow w1.heap.size 9 1 (.slice gr (pk p.data.toList (ss.take k)).length cr) (pk p.data.toList (ss.take (k + 1))).length (strsV (pk p.data.toList (ss.take (k + 1))))) := by
            show wo.ownsRow _ _ _ _ _ _
            rw [hno]; exact HOW.out
          clear hm hno hPr HY HN
          go_wp2
          go_roundw
          case rel => exact ⟨k + 1, by omega, by go_num, HO2.out, HBR.out⟩
          case measure => simp [intOf]; omega
        · rw [if_neg hbigx] at hm
          have HMO := Lib.hid (match_ok l hll g cg x (by omega) wo hPr)
          have HMT := Lib.hid (match_mt hll x.data.toList)
          cases hmt : mt l x.data.toList
          · rw [hmt] at hm
            have hno := HN.out (by rw [← HX.out]; exact hm)
            have HMF : Hid (matchB l x.data.toList = false) := HMT.out.trans hmt
            clear hm hmt hPr HY HN
            go_wp2_with (go_at_call 39; refine HMO.out.mono ?_; rw [HMF.out]; rintro e w2 ⟨rfl, hb2⟩)
            have HO2 : Hid (w2.ownsRow w1.heap.size 9 1 (.slice gr (pk p.data.toList (ss.take k)).length cr) (pk p.data.toList (ss.take (k + 1))).length (strsV (pk p.data.toList (ss.take (k + 1))))) := by
              show w2.ownsRow _ _ _ _ _ _
              rw [hno]; exact own_belowS HOW.out hb2
            have HB2 := Lib.hid (HBR.out.trans (hb2.mono hszr))
            clear hno HMO hb2
            go_roundw
            case rel => exact ⟨k + 1, by omega, by go_num, HO2.out, HB2.out⟩
            case measure => simp [intOf]; omega
          · rw [hmt] at hm
            have hys := HY.out (by rw [← HX.out]; exact hm)
            rw [← HX.out] at hys
            have HYS := Lib.hid hys
            have HMF : Hid (matchB l x.data.toList = true) := HMT.out.trans hmt
            clear hm hmt hPr HY HN hys
            go_wp2_with (first | (go_at_call 39; refine HMO.out.mono ?_; rw [HMF.out]; rintro e w2 ⟨rfl, hb2⟩; have HO2 := Lib.hid (own_belowS HOW.out hb2); have HB2 := Lib.hid (HBR.out.trans (hb2.mono hszr)); have hs2 := hb2.size; clear hb2 HMO) | (at_builtin; refine app_str _ rfl _ _ rfl w1.heap.size _ (pk p.data.toList (ss.take k)).length _ rfl (HO2.out.alloc _) _ (.string x) rfl rfl ?c1 (by omega) ?c2 ?_; rotate_right; intro v' w4 hown4 hgrow4))
            case c1 => simp
            case c2 => simp; omega
            have hb4 : Below w1.heap.size w1 w4 := (HB2.out.alloc (Nat.le_trans hszr hs2) _).grown hgrow4 (by simp; omega) (fun k hk => (HFB.out k hk).1)
            have HO4 : Hid (w4.ownsRow w1.heap.size 9 1 v' (pk p.data.toList (ss.take (k + 1))).length (strsV (pk p.data.toList (ss.take (k + 1))))) := by
              show w4.ownsRow _ _ _ _ _ _
              rw [HYS.out, strsV_snoc, List.length_append]; exact hown4
            clear hown4 hgrow4
            go_roundw
            case rel => exact ⟨k + 1, by omega, by go_num, HO4.out, hb4⟩
            case measure => simp [intOf]; omega
      · obtain rfl : k = ss.length := by omega
        rw [List.take_length] at hown
        have HOW := Lib.hid (World.ownsRow.mono hown hsz1)
        have HBB := Lib.hid (hb1.trans (hbr.mono hsz1))
        rw [List.take_length]
        clear hown hbr hfb
        go_wp2
        go_ret2
        exact ⟨HBB.out, .inl ⟨gr, cr, HE.out, rfl, HOW.out⟩⟩
  · obtain ⟨h1, h2⟩ := int_ne' hE
    have HE := Lib.hid hE
    clear hE
    go_wp2
    go_ret2
    exact ⟨hb1, .inr ⟨HE.out, rfl⟩⟩
theorem m_err {p : Txt} (h : pE p = 0) (s : Txt) : mB p s = true → mE p s = 0 := by
  intro hm
  unfold mE
  rw [if_neg (by rw [h]; simp)]
  unfold mB at hm
  split at hm
  · cases hm
  · split at hm
    · cases hm
    · split at hm
      · cases hm
      · rename_i h2; rw [if_neg h2]
set_option maxHeartbeats 4000000 in
theorem globPick_walk (p : ByteArray) (a : Option Addr) (n c : Nat) (ss : List ByteArray) (hp : p.size ≤ 4611686018427387904) (w : World) (hS : StrsAt w a n ss) :
    Calls Try.prog 9 #[.string p, .slice a n c] w fun e w' => e = .returned (.bool true) ∧ Below w.heap.size w w' := by
  have hl := hS.len
  have hbig := hS.big
  have HSZ : Hid (∀ k, (ss.getD k ByteArray.empty).size ≤ 4611686018427387904) := by
    show ∀ k, _
    intro k
    rw [List.getD_eq_getElem?_getD]
    rcases Nat.lt_or_ge k ss.length with h | h
    · rw [List.getElem?_eq_getElem h]; exact hS.size _ (List.getElem_mem h)
    · rw [List.getElem?_eq_none h]; exact Nat.zero_le _
  subst hl
  go_enter Try.func9, Try.ntmps9
  go_wp2_with fail
  refine (globs_below w).mono ?_
  rintro e w1 ⟨rfl, hb1⟩
  have hS1 := hS.below hb1
  have hsz1 := hb1.size
  clear hS
  go_wp2_with fail
  refine (Pick_ok p a _ c ss hp w1 hS1).mono ?_
  rintro e w2 ⟨hb2, ⟨g, cg, hE, rfl, hown⟩ | ⟨hE, rfl⟩⟩
  · have HE : Hid (∀ s, mB p.data.toList s = true → mE p.data.toList s = 0) := fun s => m_err hE s
    have hS2 := hS1.below hb2
    have hsz2 := hb2.size
    have hb12 : Below w.heap.size w w2 := hb1.trans (hb2.mono hsz1)
    have hsz12 := hb12.size
    have hpl : (pk p.data.toList ss).length ≤ ss.length := by
      have := pk_le p.data.toList ss ss.length
      rwa [List.take_length] at this
    have HO := Lib.hid hown
    clear hE hS1 hb1 hb2 hown
    go_wp2_with fail
    go_loopw [7, 33] (fun v i wr => ∃ k : Nat, k ≤ ss.length ∧ i = .int .i64 k ∧ v = .int .i64 ((pk p.data.toList (ss.take k)).length : Nat) ∧ Below w2.heap.size w2 wr) (fun _ i _ => ss.length - (intOf i).toNat)
    case atStart => exact ⟨0, Nat.zero_le _, rfl, rfl, Below.refl _ _⟩
    case round =>
      obtain ⟨k, hk, rfl, rfl, hbr⟩ := hrel
      obtain ⟨wo, rfl⟩ : ∃ wo : World, wo = wr := ⟨_, rfl⟩
      have hszr := hbr.size
      by_cases hlt : k < ss.length
      · obtain ⟨ad, rfl, _, hc⟩ := str_at (hS2.below hbr).reads hlt
        have hple := pk_le p.data.toList ss k
        have hx62 := HSZ.out k
        have HY := Lib.hid (pk_yes (p := p.data.toList) hlt)
        have HN := Lib.hid (pk_no (p := p.data.toList) hlt)
        have HA := Lib.hid (pk_at (p := p.data.toList) hlt)
        obtain ⟨x, hx⟩ : ∃ x, x = ss.getD k ByteArray.empty := ⟨_, rfl⟩
        rw [← hx] at hc hx62
        have HX := Lib.hid hx
        have HBR := Lib.hid hbr
        clear hx hbr
        go_wp2_with fail
        refine (Match_ok p x hp hx62 wo).mono ?_
        rintro e w3 ⟨rfl, hb3⟩
        have hb23 : Below w2.heap.size w2 w3 := HBR.out.trans (hb3.mono hszr)
        clear hb3 hc
        cases hm : mB p.data.toList x.data.toList
        · have hno := HN.out (by rw [← HX.out]; exact hm)
          have HL : Hid ((pk p.data.toList (ss.take (k + 1))).length = (pk p.data.toList (ss.take k)).length) := by show _ = _; rw [hno]
          clear hno hm HN HY HA
          generalize mE p.data.toList x.data.toList = e3 at *
          by_cases h0 : e3 = 0
          · subst h0
            go_wp2
            go_roundw
            case rel => exact ⟨k + 1, by omega, by go_num, by rw [HL.out], hb23⟩
            case measure => simp [intOf]; omega
          · obtain ⟨h1, h2⟩ := int_ne' h0
            clear h0
            go_wp2
            go_roundw
            case rel => exact ⟨k + 1, by omega, by go_num, by rw [HL.out], hb23⟩
            case measure => simp [intOf]; omega
        · have hys := HY.out (by rw [← HX.out]; exact hm)
          obtain ⟨hat1, hat2⟩ := HA.out (by rw [← HX.out]; exact hm)
          have HL : Hid ((pk p.data.toList (ss.take (k + 1))).length = (pk p.data.toList (ss.take k)).length + 1) := by show _ = _; rw [hys]; simp
          have he := HE.out _ hm
          rw [he]
          obtain ⟨ag, hag, _, hcg⟩ := str_at (Reads.of_own (own_belowS HO.out hb23)) hat1
          rw [hat2, ← HX.out] at hcg
          subst hag
          clear hys hm HN HY HA he hat2
          generalize (pk p.data.toList (ss.take k)).length = z at *
          go_wp2
          go_roundw
          case rel => exact ⟨k + 1, by omega, by go_num, by rw [HL.out]; go_num, hb23⟩
          case measure => simp [intOf]; omega
      · obtain rfl : k = ss.length := by omega
        have HBB := Lib.hid (hb12.trans (hbr.mono hsz12))
        rw [List.take_length]
        clear hbr
        go_wp2
        go_ret
        exact ⟨by simp, HBB.out⟩
  · have hb12 : Below w.heap.size w w2 := hb1.trans (hb2.mono hsz1)
    obtain ⟨h1, h2⟩ := int_ne' hE
    have hsz12 := hb12.size
    have HC := Lib.hid (CheckG_ok p hp w2)
    clear hE hb1 hb2 hS1
    generalize pE p.data.toList = e1 at *
    go_wp2_with (go_at_call 24; refine HC.out.mono ?_; rintro e w3 ⟨rfl, hb3⟩; have hb13 := Lib.hid (hb12.trans (hb3.mono hsz12)); clear hb3 HC)
    go_ret
    exact ⟨by simp, hb13.out⟩
end Go.Proofs.Ytnffcboelkkbmaa
