/- The walks of copied and spoilAsk. Conditions: the ask lies in memory; what is spoilt is of its own. -/
import Derived.Test.YtcegmcnknkjcpaaDoorSpoilP
import Derived.Test.YtcegmcnknkjcpaaDoorSameAskW
namespace Go.Proofs.YtcegmcnknkjcpaaDoor
open Go.RowKit Go.Shelf
def CopyPost (t : QT) (w : World) (e : Ending) (w' : World) : Prop := ∃ t' : QT, e = .returned t'.v ∧ qabs t' = qabs t ∧ QIn w' t' ∧ QOw w' w.heap.size t' ∧ Below w.heap.size w w'
theorem copy_fin {t t' : QT} {w u : World} (h1 : qabs t' = qabs t) (h2 : QIn u t') (h3 : QOw u (w.heap.size + 2) t') (hb : Below w.heap.size w u) (u0 u1 u2 u3 : Value) :
    CopyPost t w (.returned t'.v) ((((u.setCell ⟨w.heap.size + 1, 0, none⟩ u0).setCell ⟨w.heap.size + 1, 1, none⟩ u1).setCell ⟨w.heap.size + 1, 2, none⟩ u2).setCell ⟨w.heap.size + 1, 3, none⟩ u3) := by
  have hsz := (below_set4Q (b := w.heap.size + 1) (Below.refl 0 u) (Nat.zero_le _) u0 u1 u2 u3).size
  have hk : ∀ b, w.heap.size + 2 ≤ b → b < u.heap.size → ((((u.setCell ⟨w.heap.size + 1, 0, none⟩ u0).setCell ⟨w.heap.size + 1, 1, none⟩ u1).setCell ⟨w.heap.size + 1, 2, none⟩ u2).setCell ⟨w.heap.size + 1, 3, none⟩ u3).heap[b]? = u.heap[b]? := fun b hb1 _ => set4Q_other _ _ _ _ _ _ _ (by omega)
  exact ⟨t', rfl, h1, h2.keep hsz h3 hk, (h3.keep hsz hk).lower (Nat.le_add_right _ _), below_set4Q hb (Nat.le_succ _) _ _ _ _⟩
set_option maxHeartbeats 4000000 in
set_option maxRecDepth 100000 in
theorem copied_ok : ∀ (t : QT) (w : World), QIn w t → Calls Tryd.prog 8 #[t.v] w (CopyPost t w) := by
  intro t
  induction t using QT.ind with
  | h k s n p c xs ih =>
    intro w hq
    have IH := Lib.hid ih
    have HK : Hid (QsIn w p 0 xs) := hq.kids
    have hsm := hq.small
    have hxl : xs.length ≤ 1048576 := hsm.2.2
    have HSM : Hid (s.size ≤ 1048576) := hsm.1
    clear ih hq hsm
    obtain ⟨W, hW, hBW, hS, hC⟩ := arg2r w (.int .i64 k) (.string s) (.int .i64 n) (.slice p xs.length c)
    have HS := Lib.hid hS
    have HC := Lib.hid hC
    have HBW := Lib.hid hBW
    obtain ⟨B0, B1⟩ := HC.out W (Below.refl _ _)
    obtain ⟨k0, k1, k2, k3, _⟩ := box4Q B0
    show Calls Tryd.prog 8 #[.agg #[.int .i64 k, .string s, .int .i64 n, .slice p xs.length c]] w _
    clear hBW hS hC B0 B1
    go_enter Tryd.func8, Tryd.ntmps8
    go_upto_region 1 with fail
    rw [← hW]
    clear hW
    go_wp2_with fail
    clear k0 k1 k2 k3
    go_loopw [9, 3] (fun i v wr => ∃ (j : Nat) (l : List QT), j ≤ xs.length ∧ i = .int .i64 j ∧ Hid (NInv W xs id j l v wr)) (fun i _ _ => xs.length - (intOf i).toNat)
    case atStart => exact ⟨0, [], Nat.zero_le _, rfl, NInv.start _ _ _⟩
    case round =>
      obtain ⟨j, l, hj, rfl, HI⟩ := hrel
      by_cases hlt : j < xs.length
      · obtain ⟨x, hx⟩ : ∃ x, xs[j]? = some x := ⟨_, List.getElem?_eq_getElem hlt⟩
        have HX := Lib.hid hx
        obtain ⟨⟨b, o, rfl, hb, hf⟩, hqx⟩ := HK.out.at hx
        have HBw := Lib.hid (HBW.out.trans (HI.out.below.mono HBW.out.size))
        obtain ⟨c0, c1, c2, c3⟩ := four_at (hf.below HBw.out hb)
        have HCALL := Lib.hid (fun (u : World) (hu : Below wr.heap.size wr u) => IH.out x (List.mem_of_getElem? hx) u (hqx.below (HBw.out.trans (hu.mono HBw.out.size))))
        clear hqx hf hx
        have HAL : Hid (∀ o, Below wr.heap.size wr (wr.alloc o)) := fun o => (Below.refl _ _).alloc (Nat.le_refl _) o
        have HLEN := Lib.hid HI.out.len
        obtain ⟨gv, cv, rfl, hgl⟩ := own_form1 HI.out.own
        have HGL := Lib.hid hgl
        clear hgl
        go_wp2_with (first
          | (go_at_call 8; refine (HCALL.out _ (HAL.out _)).mono ?_; rintro e w5 ⟨⟨k', s', n', p', c', xs'⟩, he, ht1, ht2, ht3, hb5⟩; obtain rfl : e = .returned (.agg #[.int .i64 k', .string s', .int .i64 n', .slice p' xs'.length c']) := he; have HB5 := Lib.hid ((HAL.out _).trans (hb5.mono (HAL.out _).size)); have HI5 := Lib.hid (HI.out.later HB5.out); have HT1 := Lib.hid ht1; have HT2 := Lib.hid ht2; have HT3 := Lib.hid ht3; clear hb5 ht1 ht2 ht3)
          | (at_builtin; refine app_ask _ rfl _ _ rfl W.heap.size _ j l rfl (own_below4 HI5.out.own ((Below.refl _ _).alloc (Nat.le_refl _) _)) w5.heap.size (.mk k' s' n' p' c' xs') rfl ?c1 ?c2 ?c3 ?c4 (by omega) ?c5 ?_; rotate_right; intro v' w6 hown6 hgrow6 hv6; have HI6 := Lib.hid ((HI5.out.later ((Below.refl _ _).alloc (Nat.le_refl _) _)).step HX.out HT1.out (HT2.out.below ((Below.refl _ _).alloc (Nat.le_refl _) _)) (HT3.out.later ((Below.refl _ _).alloc (Nat.le_refl _) _)) (fun g hg => Nat.lt_of_lt_of_le (HGL.out g hg).2 (HAL.out _).size) (Nat.le_trans HI.out.below.size (HAL.out _).size) hown6 hgrow6 hv6); clear hown6 hgrow6 hv6))
        case c1 => rw [World.cell?_alloc_at _ _ _ _ rfl]; rfl
        case c2 => rw [World.cell?_alloc_at _ _ _ _ rfl]; rfl
        case c3 => rw [World.cell?_alloc_at _ _ _ _ rfl]; rfl
        case c4 => rw [World.cell?_alloc_at _ _ _ _ rfl]; rfl
        case c5 => have := HI5.out.below.size; simp; omega
        go_roundw
        case rel => exact ⟨j + 1, _, by omega, by go_num, HI6.out⟩
        case measure => simp [intOf]; omega
      · obtain rfl : j = xs.length := by omega
        obtain ⟨pl, cl, rfl, hqi, hqo, hqa⟩ := HI.out.ask (k := k) (n := n) hxl HSM.out
        obtain ⟨B0, B1⟩ := HC.out wr HI.out.below
        have HR := Lib.hid B1
        have HF := Lib.hid (copy_fin (t := .mk k s n p c xs) (t' := .mk k s n pl cl l) (by rw [hqa, List.map_id]; rfl) hqi (by rw [← HS.out]; exact hqo) (HBW.out.trans (HI.out.below.mono HBW.out.size)))
        obtain ⟨k0, k1, k2, k3, k4⟩ := box4Q B0
        obtain ⟨r0, r1, r2, r3, r4⟩ := box4Q B1
        clear B0 B1 hqi hqo hqa HI
        go_wp2_with fail
        refine bodyPost_ret (v := (QT.mk k s n pl cl l).v) (results_cell_row Tryd.results8 _ _ (w.heap.size + 1) 24 _ (0, 0) _ rfl (box4Q_all HR.out _ _ _ _) Tryd.underlying24 rfl (by kernel_rfl)) rfl (HF.out _ _ _ _)
set_option maxHeartbeats 4000000 in
set_option maxRecDepth 100000 in
theorem spoil_ok : ∀ (m : Nat) (t : QT), qcnt (qabs t) ≤ m → ∀ (n N : Nat) (w : World), n ≤ N → N ≤ w.heap.size → SpIn w n N t → Calls Tryd.prog 11 #[t.v] w fun e w' => e = .returned (.tuple #[]) ∧ Spl n N w w' := by
  intro m
  induction m with
  | zero => intro t h; have := qcnt_pos (qabs t); omega
  | succ m ih =>
    intro t hm n N w hnN hN hs
    obtain ⟨k, s, q, p, c, xs⟩ := t
    have HCN : Hid (∀ y : QT, (∃ x ∈ xs, y = x ∨ y = spT) → qcnt (qabs y) ≤ m) := by
      show ∀ y : QT, _
      rintro y ⟨x, hx, hy⟩
      have e : qcnt (qabs (.mk k s q p c xs)) = 1 + qcnts (qabss xs) := rfl
      have h1 : qabs x ∈ qabss xs := by rw [qabss_map]; exact List.mem_map_of_mem hx
      have h2 := qcnt_mem h1
      have h3 := qcnt_pos (qabs x)
      rcases hy with rfl | rfl
      · omega
      · have : qcnt (qabs spT) = 1 := rfl
        omega
    obtain ⟨W, hW, hBW, hS, hC⟩ := arg1 w (.int .i64 k) (.string s) (.int .i64 q) (.slice p xs.length c)
    have HC := Lib.hid hC
    have HS0 : Hid (Spl n N w W) := Spl.ofBelow (by omega) hBW
    have HSI := Lib.hid (hs.spl HS0.out)
    have HN : Hid (n ≤ N ∧ N ≤ w.heap.size ∧ W.heap.size = w.heap.size + 1) := ⟨hnN, hN, hS⟩
    obtain ⟨k0, k1, k2, k3⟩ := HC.out W (Below.refl _ _)
    have HIH := Lib.hid ih
    have hcap : c ≤ 9223372036854775807 := by
      rcases hs.place with ⟨_, h, _⟩ | ⟨_, _, _, _, _, _, h, _⟩
      · have : c = 0 := h
        omega
      · exact h.2
    have hlc : xs.length ≤ c := by
      rcases hs.place with ⟨_, _, h⟩ | ⟨_, _, _, _, _, _, _, h, _⟩
      · have : xs = [] := h
        rw [this]; exact Nat.zero_le _
      · exact h
    show Calls Tryd.prog 11 #[.agg #[.int .i64 k, .string s, .int .i64 q, .slice p xs.length c]] w _
    clear hnN hN hs hC hS hBW ih hm
    go_enter Tryd.func11, Tryd.ntmps11
    go_upto_region 1 with fail
    rw [← hW]
    clear hW
    go_wp2_with fail
    clear k0 k1 k2 k3
    go_loopw [9] (fun i wr => ∃ j : Nat, j ≤ xs.length ∧ i = .int .i64 j ∧ Hid (Spl n N W wr) ∧ Hid (wr.heap[w.heap.size]? = W.heap[w.heap.size]?)) (fun i _ => xs.length - (intOf i).toNat)
    case atStart => exact ⟨0, Nat.zero_le _, rfl, Spl.refl _ _ _, rfl⟩
    case round =>
      obtain ⟨j, hj, rfl, HSP, HBX⟩ := hrel
      have HSW := Lib.hid (HSI.out.spl HSP.out)
      have HSZ : Hid (n ≤ wr.heap.size ∧ N ≤ wr.heap.size ∧ w.heap.size < wr.heap.size) := by
        have h1 := HSP.out.below.size
        have h2 := HN.out
        show _ ∧ _ ∧ _
        omega
      by_cases hlt : j < xs.length
      · obtain ⟨x, hx⟩ : ∃ x, xs[j]? = some x := ⟨_, List.getElem?_eq_getElem hlt⟩
        rcases HSW.out.place with ⟨_, _, h⟩ | ⟨b, cur, hp, h2, h7, h3, h4, h5, h6⟩
        · have h : xs = [] := h
          rw [h] at hlt
          simp at hlt
        obtain rfl : p = some ⟨b, 0, none⟩ := hp
        obtain ⟨y, hy, c0, c1, c2, c3⟩ := SpIn.at h3 (h6 j x hx)
        have HCALL : Hid (∀ u : World, Spl n N wr u → Calls Tryd.prog 11 #[y.v] u fun e w' => e = .returned (.tuple #[]) ∧ Spl n N u w') := by
          show ∀ u : World, _
          intro u hu
          refine HIH.out y (HCN.out y ⟨x, List.mem_of_getElem? hx, hy⟩) n N u HN.out.1 (Nat.le_trans HSZ.out.2.1 hu.below.size) ?_
          rcases hy with rfl | rfl
          · exact (HSW.out.kids _ (List.mem_of_getElem? hx)).spl hu
          · exact spT_in _ _ _
        have HAL : Hid (∀ o, Spl n N wr (wr.alloc o)) := fun o => Spl.ofBelow HSZ.out.1 ((Below.refl _ _).alloc (Nat.le_refl _) o)
        clear hy h2 h7 h3 h4 h5 h6 hx
        go_wp2_with (go_at_call 11; refine (HCALL.out _ (HAL.out _)).mono ?_; rintro e w5 ⟨rfl, hs5⟩; have HS5 := Lib.hid ((HAL.out _).trans hs5); clear hs5)
        go_roundw
        case rel => exact ⟨j + 1, by omega, by go_num, HSP.out.trans HS5.out, (HS5.out.keep _ HN.out.2.1 HSZ.out.2.2).trans HBX.out⟩
        case measure => simp [intOf]; omega
      · obtain rfl : j = xs.length := by omega
        have hbc : ∀ i, wr.cell? ⟨w.heap.size, i, none⟩ = W.cell? ⟨w.heap.size, i, none⟩ := fun i => by simp only [World.cell?, HBX.out]
        obtain ⟨k0, k1, k2, k3⟩ := HC.out W (Below.refl _ _)
        rw [← hbc] at k0 k1 k2 k3
        clear hbc
        obtain ⟨wa, hwa⟩ : ∃ wa, wa = wr := ⟨_, rfl⟩
        subst hwa
        rcases HSW.out.place with ⟨h1, h2, h3⟩ | ⟨b, cur, hp, h2, h7, h3, h4, h5, h6⟩
        · obtain rfl : p = none := h1
          obtain rfl : c = 0 := h2
          obtain rfl : xs = [] := h3
          go_wp2_with fail
          go_loopw [24] (fun i wr2 => i = .int .i64 0 ∧ wr2 = wa) (fun _ _ => 0)
          case atStart => exact ⟨rfl, rfl⟩
          case round =>
            obtain ⟨rfl, rfl⟩ := hrel
            go_wp2_with fail
            refine bodyPost_end (results_none rfl _ _ _) rfl ⟨rfl, HS0.out.trans HSP.out⟩
        · obtain rfl : p = some ⟨b, 0, none⟩ := hp
          obtain ⟨h4, h8⟩ := h4
          have HH := Lib.hid h3
          have HBN := Lib.hid (And.intro h2 h7)
          have h4 : cur.size = 4 * c := h4
          have HCS := Lib.hid h4
          clear h2 h7 h3 h4 h5 h6 h8
          go_wp2_with fail
          go_loopw [24] (fun i wr2 => ∃ j : Nat, j ≤ c ∧ i = .int .i64 j ∧ Hid (Spl n N wa wr2)) (fun i _ => c - (intOf i).toNat)
          case atStart => exact ⟨0, Nat.zero_le _, rfl, Spl.refl _ _ _⟩
          case round =>
            obtain ⟨j, hj, rfl, HSQ⟩ := hrel
            by_cases hlt : j < c
            · obtain ⟨cur', g1, g2, _⟩ := HSQ.out.grp b cur HH.out
              have hsz : cur'.size = 4 * c := g2.trans HCS.out
              have hcl : ∀ i, i < 4 * c → ∃ v, wr.cell? ⟨b, i, none⟩ = some v := fun i hi => ⟨cur'[i]'(by omega), by simp only [World.cell?, g1]; simp⟩
              obtain ⟨v0, z0⟩ := hcl (j * 4) (by omega)
              obtain ⟨v1, z1⟩ := hcl (j * 4 + 1) (by omega)
              obtain ⟨v2, z2⟩ := hcl (j * 4 + 2) (by omega)
              obtain ⟨v3, z3⟩ := hcl (j * 4 + 3) (by omega)
              have z4 : ∀ o, wr.frozen? ⟨b, o, none⟩ = false := fun o => by simp [World.frozen?, g1]
              have HST := Lib.hid (Spl.set4 (n := n) (N := N) (i := j) g1 HBN.out.1 HBN.out.2 (by omega))
              clear hcl g1 g2 hsz
              go_wp2_with fail
              go_roundw
              case rel => exact ⟨j + 1, by omega, by go_num, HSQ.out.trans HST.out⟩
              case measure => simp [intOf]; omega
            · obtain rfl : j = c := by omega
              go_wp2_with fail
              refine bodyPost_end (results_none rfl _ _ _) rfl ⟨rfl, HS0.out.trans (HSP.out.trans HSQ.out)⟩
end Go.Proofs.YtcegmcnknkjcpaaDoor
