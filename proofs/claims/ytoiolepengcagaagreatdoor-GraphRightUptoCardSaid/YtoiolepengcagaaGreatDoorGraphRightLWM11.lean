/- Texts joined: SameFileW, SameW2, ReadP, ReadStW, ReadW, LinesW. Conditions: theirs. -/
import Derived.Test.YtoiolepengcagaaGreatDoorGraphRightLWM10
import Derived.Test.YtoiolepengcagaaGreatDoorGraphRightLWM9
import Derived.Test.YtoiolepengcagaaGreatDoorWordsP
import Derived.Test.YtoiolepengcagaaGreatDoorRuleP
import Derived.Test.YtoiolepengcagaaGreatDoorWordsW
import Derived.Maps.OwnSet
import Derived.Deep.RegionLaw
import Derived.Deep.AppendLies
import Derived.Defers
import Derived.Deep.QuietTactic
import Derived.BigQuiet
namespace Go.Proofs.YtoiolepengcagaaGreatDoor
open Go.RowKit Go.Shelf Go.Maps
/-- a file in memory, as it reads -/
structure FileIn (w : World) (F : FileV) (pm : Option Addr) (nm cm : Nat) (pp : Option Addr) (np cp : Nat) (pi : Option Addr) (ni ci : Nat) (pr : Option Addr) (nr cr : Nat) (hl : List (Hd × Hd)) : Prop where
  ms : P2At mF mG w pm nm cm F.ms
  ph : NLw w pp np cp F.ph
  inf : P2At iF iG w pi ni ci F.inf
  rs : RulesIn w pr nr cr hl
  same : hl.map rl = F.rs
section
variable {w w' : World} {F : FileV} {pm pp pi pr : Option Addr} {nm cm np cp ni ci nr cr : Nat} {hl : List (Hd × Hd)}
theorem RulesIn.belowF {p : Option Addr} {n c : Nat} (h : RulesIn w p n c hl) (hb : Below w.heap.size w w') : RulesIn w' p n c hl :=
  ⟨h.at_.below hb, fun x hx => ⟨(h.ok x hx).1.below hb, (h.ok x hx).2.below hb⟩, h.cap⟩
theorem FileIn.below (h : FileIn w F pm nm cm pp np cp pi ni ci pr nr cr hl) (hb : Below w.heap.size w w') : FileIn w' F pm nm cm pp np cp pi ni ci pr nr cr hl :=
  ⟨h.ms.below hb, h.ph.below hb, h.inf.below hb, h.rs.belowF hb, h.same⟩
end
def hdRV (r : RV) : Hd × Hd := (⟨some ⟨r.g1, 0, none⟩, r.T.length, r.T.length, r.T⟩, ⟨some ⟨r.g2, 0, none⟩, r.N.length, r.N.length, r.N⟩)
theorem p2_mapF {α β : Type} {f g : α → Value} {f' g' : β → Value} (φ : α → β) (hf : ∀ x, f' (φ x) = f x) (hg : ∀ x, g' (φ x) = g x) {w : World} {p : Option Addr} {n c : Nat} {l : List α} (h : P2At f g w p n c l) : P2At f' g' w p n c (l.map φ) := by
  refine ⟨by rw [List.length_map]; exact h.len, fun h0 => ?_, h.big⟩
  obtain ⟨b, o, e, h1, h2⟩ := h.at_ h0
  refine ⟨b, o, e, h1, fun k x hx => ?_⟩
  rw [List.getElem?_map, Option.map_eq_some_iff] at hx
  obtain ⟨y, hy, rfl⟩ := hx
  rw [hf, hg]
  exact h2 k y hy
theorem FSt.fin {base B : Nat} {F : FileV} {s : FV} {rl' : List RV} {w : World} (h : FSt base B F s rl' [] w) (h1 : F.ms.length ≤ 1000000) (h2 : F.ph.length ≤ 1000000) (h3 : F.inf.length ≤ 1000000) (h4 : F.rs.length ≤ 1000000) :
    FileIn w F s.pm F.ms.length s.cm s.pp F.ph.length s.cp s.pi F.inf.length s.ci s.pr F.rs.length s.cr (rl'.map hdRV) := by
  refine ⟨(P2At.own h.ms (by omega)), ?_, P2At.own h.inf (by omega), ⟨p2_mapF hdRV (fun _ => rfl) (fun _ => rfl) (P2At.own h.rs (by omega)), fun x hx => ?_, ?_⟩, ?_⟩
  · exact (NL_own h.ph (fun x hx => by have := h.sp x hx; omega) (by omega)).weak
  · obtain ⟨r, hr, rfl⟩ := List.mem_map.1 hx
    obtain ⟨k1, k2, _⟩ := h.own r (by rw [List.append_nil]; exact hr)
    exact ⟨⟨k1.nl.weak, Nat.le_refl _⟩, ⟨k2.nl.weak, Nat.le_refl _⟩⟩
  · rcases h.rs.2 with ⟨hv, hn⟩ | ⟨g, cap, cur, hv, _, _, hc, _⟩
    · omega
    · have hv' : Value.slice s.pr F.rs.length s.cr = .slice (some ⟨g, 0, none⟩) F.rs.length cap := hv
      injection hv' with _ _ e2
      omega
  · rw [List.map_map, ← h.same]
    rfl
def mB (m : Mac) : Inf := (txt m.1, txt m.2)
theorem mB_inj {l k : List Mac} : l.map mB = k.map mB ↔ l = k := by
  constructor
  · intro h
    have key : ∀ l : List Mac, (l.map mB).map (fun x => (x.1.data.toList, x.2.data.toList)) = l := fun l => by
      rw [List.map_map]
      have : (fun x : Inf => (x.1.data.toList, x.2.data.toList)) ∘ mB = id := by
        funext m
        show ((txt m.1).data.toList, (txt m.2).data.toList) = m
        rw [txt_list, txt_list]
      rw [this, List.map_id]
    rw [← key l, ← key k, h]
  · rintro rfl; rfl
set_option maxHeartbeats 4000000 in
theorem sameFile1_ok (x y : Hd × Hd) (w : World) (hx : x.1.ok w ∧ x.2.ok w) (hy : y.1.ok w ∧ y.2.ok w) :
    Calls Tryz.prog 47 #[.agg #[x.1.v, x.2.v], .agg #[y.1.v, y.2.v]] w fun e w' => e = .returned (.bool (decide (rl x = rl y))) ∧ Below w.heap.size w w' := by
  obtain ⟨⟨p1, n1, k1, T1⟩, ⟨p2, n2, k2, T2⟩⟩ := x
  obtain ⟨⟨q1, m1, l1, S1⟩, ⟨q2, m2, l2, S2⟩⟩ := y
  obtain ⟨⟨a1, _⟩, ⟨a2, _⟩⟩ := hx
  obtain ⟨⟨b1, _⟩, ⟨b2, _⟩⟩ := hy
  simp only at a1 a2 b1 b2
  have hb : ∀ o1 o2, Below w.heap.size w ((w.alloc o1).alloc o2) := fun o1 o2 => ((Below.refl _ _).alloc (Nat.le_refl _) o1).alloc (by simp) o2
  have HB := Lib.hid hb
  have HQ1 := Lib.hid (fun o1 o2 => nlw_equalG (a1.below (hb o1 o2)) (b1.below (hb o1 o2)))
  have HQ2 := Lib.hid (fun o1 o2 k => nlw_equalG ((a2.below (hb o1 o2)).drew k) ((b2.below (hb o1 o2)).drew k))
  clear hb a1 a2 b1 b2
  show Calls Tryz.prog 47 #[.agg #[.slice p1 n1 k1, .slice p2 n2 k2], .agg #[.slice q1 m1 l1, .slice q2 m2 l2]] w fun e w' => e = .returned (.bool (decide ((T1, T2) = (S1, S2)))) ∧ Below w.heap.size w w'
  by_cases h1 : T1 = S1
  · rw [decide_eq_true h1] at HQ1
    have hd : decide ((T1, T2) = (S1, S2)) = decide (T2 = S2) := by rw [h1]; simp
    rw [hd]
    clear h1 hd
    generalize decide (T2 = S2) = bv at *
    go_enter Tryz.func47, Tryz.ntmps47
    go_wp2_with (go_at_call 10; (first
      | (have hq := HQ1.out; clear HQ1; refine (hq _ _).mono ?_; clear hq; rintro e w1 ⟨rfl, k1, rfl⟩)
      | (refine (HQ2.out _ _ _).mono ?_; rintro e w2 ⟨rfl, k2, rfl⟩)))
    go_ret
    exact ⟨rfl, below_drawsP (HB.out _ _) _⟩
  · rw [decide_eq_false h1] at HQ1
    have hd : decide ((T1, T2) = (S1, S2)) = false := decide_eq_false (fun e => h1 (Prod.mk.inj e).1)
    rw [hd]
    clear h1 hd
    go_enter Tryz.func47, Tryz.ntmps47
    go_wp2_with (go_at_call 10; refine (HQ1.out _ _).mono ?_; rintro e w1 ⟨rfl, k1, rfl⟩)
    go_ret
    exact ⟨rfl, below_drawsP (HB.out _ _) _⟩
set_option maxHeartbeats 4000000 in
set_option maxRecDepth 100000 in
theorem sameFileF_ok (p q : Option Addr) (n m c d : Nat) (l k : List (Hd × Hd)) (w : World) (h1 : RulesIn w p n c l) (h2 : RulesIn w q m d k) :
    Calls Tryz.prog 46 #[.slice p n c, .slice q m d, .func (.func 47) #[] #[]] w fun e w' => (∃ r : Bool, e = .returned (.bool r) ∧ (r = true ↔ l.map rl = k.map rl)) ∧ Below w.heap.size w w' := by
  have hln := h1.at_.len
  have hlm := h2.at_.len
  have hbig := h1.at_.big
  have hbig2 := h2.at_.big
  subst hln hlm
  have H1 := Lib.hid (fun u (hu : Below w.heap.size w u) => h1.belowF hu)
  have H2 := Lib.hid (fun u (hu : Below w.heap.size w u) => h2.belowF hu)
  clear h1 h2
  by_cases hne : l.length = k.length
  · obtain ⟨N, hN⟩ : ∃ N, N = l.length := ⟨_, rfl⟩
    have hK : k.length = N := by omega
    rw [← hN] at H1 hbig ⊢
    rw [hK] at H2 hbig2 ⊢
    have HLN := Lib.hid hN
    have HLK := Lib.hid hK
    have hnn : ((N : Int) != (N : Int)) = false := by simp
    clear hN hK hne
    go_enter Tryz.func46, Tryz.ntmps46
    go_wp2
    go_loopw [17] (fun i wr => ∃ j : Nat, j ≤ N ∧ i = .int .i64 j ∧ Hid ((l.map rl).take j = (k.map rl).take j) ∧ Hid (Below w.heap.size w wr)) (fun i _ => N - (intOf i).toNat)
    case atStart => exact ⟨0, Nat.zero_le _, rfl, rfl, Below.refl _ _⟩
    case round =>
      obtain ⟨j, hj, rfl, HT, HB⟩ := hrel
      by_cases hlt : j < N
      · obtain ⟨x, hx⟩ : ∃ x, l[j]? = some x := ⟨_, List.getElem?_eq_getElem (by have := HLN.out; omega)⟩
        obtain ⟨y, hy⟩ : ∃ y, k[j]? = some y := ⟨_, List.getElem?_eq_getElem (by have := HLK.out; omega)⟩
        obtain ⟨b1, o1, rfl, hb1, c1, c2⟩ := (H1.out _ HB.out).at_.cell hx
        obtain ⟨b2, o2, rfl, hb2, d1, d2⟩ := (H2.out _ HB.out).at_.cell hy
        rw [← Nat.add_assoc] at c2 d2
        have hbb : b2 < wr.heap.size := by have := HB.out.size; omega
        have hd1 : ∀ o, (wr.alloc o).cell? ⟨b2, o2 + j * 2, none⟩ = some (rF y) := fun o => (World.cell?_alloc_lt _ _ _ hbb).trans d1
        have hd2 : ∀ o, (wr.alloc o).cell? ⟨b2, o2 + j * 2 + 1, none⟩ = some (rG y) := fun o => (World.cell?_alloc_lt _ _ _ hbb).trans d2
        have HNX := Lib.hid (take_eq_next HT.out (x := rl x) (y := rl y) (by rw [List.getElem?_map, hx]; rfl) (by rw [List.getElem?_map, hy]; rfl))
        have HXK : Hid (rl x ≠ rl y → l.map rl ≠ k.map rl) := fun h e => h (by
          have h1 : (l.map rl)[j]? = some (rl x) := by rw [List.getElem?_map, hx]; rfl
          have h2 : (k.map rl)[j]? = some (rl y) := by rw [List.getElem?_map, hy]; rfl
          rw [e, h2] at h1; injection h1 with h1; exact h1.symm)
        have HAL : Hid (∀ o o2, Below wr.heap.size wr ((wr.alloc o).alloc o2)) := fun o o2 => ((Below.refl _ _).alloc (Nat.le_refl _) o).alloc (by simp) o2
        have HCALL := Lib.hid (fun o o2 => sameFile1_ok x y ((wr.alloc o).alloc o2) ((H1.out _ (HB.out.trans ((HAL.out o o2).mono HB.out.size))).ok x (List.mem_of_getElem? hx)) ((H2.out _ (HB.out.trans ((HAL.out o o2).mono HB.out.size))).ok y (List.mem_of_getElem? hy)))
        clear hx hy d1 d2
        obtain ⟨⟨p1, n1, k1, T1⟩, ⟨p2, n2, k2, T2⟩⟩ := x
        obtain ⟨⟨q1, m1, l1, S1⟩, ⟨q2, m2, l2, S2⟩⟩ := y
        simp only [rF, rG, Hd.v] at c1 c2 hd1 hd2 HCALL
        have hji : (j : Int) < (N : Int) := by omega
        generalize hrx : rl ((⟨p1, n1, k1, T1⟩ : Hd), (⟨p2, n2, k2, T2⟩ : Hd)) = rx at *
        generalize hry : rl ((⟨q1, m1, l1, S1⟩ : Hd), (⟨q2, m2, l2, S2⟩ : Hd)) = ry at *
        clear hrx hry
        by_cases hxy : rx = ry
        · have HY := Lib.hid (HNX.out.2 hxy)
          rw [decide_eq_true hxy] at HCALL
          clear hxy HNX HXK
          go_wp2_with (go_at_call 47; refine (HCALL.out _ _).mono ?_; rintro e w5 ⟨rfl, hb5⟩; have HB5 := Lib.hid (HB.out.trans (((HAL.out _ _).trans (hb5.mono (HAL.out _ _).size)).mono HB.out.size)); clear hb5)
          go_roundw
          case rel => exact ⟨j + 1, by omega, by go_num, HY.out, HB5.out⟩
          case measure => simp [intOf]; omega
        · have HY := Lib.hid (HXK.out hxy)
          rw [decide_eq_false hxy] at HCALL
          clear hxy HNX HXK
          go_wp2_with (go_at_call 47; refine (HCALL.out _ _).mono ?_; rintro e w5 ⟨rfl, hb5⟩; have HB5 := Lib.hid (HB.out.trans (((HAL.out _ _).trans (hb5.mono (HAL.out _ _).size)).mono HB.out.size)); clear hb5)
          go_ret
          exact ⟨⟨false, rfl, ⟨fun e => (by cases e), fun e => absurd e HY.out⟩⟩, HB5.out⟩
      · obtain rfl : j = N := by omega
        have HE : Hid (l.map rl = k.map rl) := by
          show _ = _
          have := HT.out
          rwa [List.take_of_length_le (by rw [List.length_map]; have := HLN.out; omega), List.take_of_length_le (by rw [List.length_map]; have := HLK.out; omega)] at this
        go_wp2
        go_ret
        exact ⟨⟨true, rfl, ⟨fun _ => HE.out, fun _ => rfl⟩⟩, HB.out⟩
  · have hd : ((l.length : Int) != (k.length : Int)) = true := by
      have : ¬ (l.length : Int) = (k.length : Int) := by omega
      simpa using this
    have hd2 : ((l.length : Int) == (k.length : Int)) = false := by
      have : ¬ (l.length : Int) = (k.length : Int) := by omega
      simpa using this
    have HE : Hid (l.map rl ≠ k.map rl) := fun e => hne (by have := congrArg List.length e; rwa [List.length_map, List.length_map] at this)
    clear hne
    go_enter Tryz.func46, Tryz.ntmps46
    go_wp2
    go_ret
    exact ⟨⟨false, rfl, ⟨fun e => (by cases e), fun e => absurd e HE.out⟩⟩, Below.refl _ _⟩
set_option maxHeartbeats 8000000 in
set_option maxRecDepth 100000 in
theorem sameFile_ok (F G : FileV) (w : World) (pm pp pi pr qm qp qi qr : Option Addr) (nm cm np cp ni ci nr cr am bm ap bp ai bi ar br : Nat) (hl kl : List (Hd × Hd))
    (h1 : FileIn w F pm nm cm pp np cp pi ni ci pr nr cr hl) (h2 : FileIn w G qm am bm qp ap bp qi ai bi qr ar br kl) :
    Calls Tryz.prog 19 #[.agg #[.slice pm nm cm, .slice pp np cp, .slice pi ni ci, .slice pr nr cr], .agg #[.slice qm am bm, .slice qp ap bp, .slice qi ai bi, .slice qr ar br]] w fun e w' => (∃ r : Bool, e = .returned (.bool r) ∧ (r = true ↔ F = G)) ∧ Below w.heap.size w w' := by
  obtain ⟨W0, hW0⟩ : ∃ W0, W0 = w.alloc (.cells #[.slice pm nm cm, .slice pp np cp, .slice pi ni ci, .slice pr nr cr] 43) := ⟨_, rfl⟩
  have hb0 : Below w.heap.size w W0 := by rw [hW0]; exact rb1w _ _
  have hs0 : W0.heap.size = w.heap.size + 1 := by rw [hW0]; simp
  have hz0 : W0.heap[w.heap.size]? = some (.cells #[.slice pm nm cm, .slice pp np cp, .slice pi ni ci, .slice pr nr cr] 43 (0, 0)) := by rw [hW0]; exact rb_new w _
  obtain ⟨W, hW⟩ : ∃ W, W = W0.alloc (.cells #[.slice qm am bm, .slice qp ap bp, .slice qi ai bi, .slice qr ar br] 43) := ⟨_, rfl⟩
  have hb1 : Below W0.heap.size W0 W := by rw [hW]; exact rb1w _ _
  have hs1 : W.heap.size = W0.heap.size + 1 := by rw [hW]; simp
  have hz1 : W.heap[W0.heap.size]? = some (.cells #[.slice qm am bm, .slice qp ap bp, .slice qi ai bi, .slice qr ar br] 43 (0, 0)) := by rw [hW]; exact rb_new W0 _
  have hbW := hb0.trans (hb1.mono hb0.size)
  have HC : Hid (∀ u : World, Below W.heap.size W u → ((u.cell? ⟨w.heap.size, 0, none⟩ = some (.slice pm nm cm) ∧ u.cell? ⟨w.heap.size, 1, none⟩ = some (.slice pp np cp) ∧ u.cell? ⟨w.heap.size, 2, none⟩ = some (.slice pi ni ci) ∧ u.cell? ⟨w.heap.size, 3, none⟩ = some (.slice pr nr cr)) ∧
      (u.cell? ⟨w.heap.size + 1, 0, none⟩ = some (.slice qm am bm) ∧ u.cell? ⟨w.heap.size + 1, 1, none⟩ = some (.slice qp ap bp) ∧ u.cell? ⟨w.heap.size + 1, 2, none⟩ = some (.slice qi ai bi) ∧ u.cell? ⟨w.heap.size + 1, 3, none⟩ = some (.slice qr ar br))) ∧
      Below w.heap.size w u ∧ FileIn u F pm nm cm pp np cp pi ni ci pr nr cr hl ∧ FileIn u G qm am bm qp ap bp qi ai bi qr ar br kl) := by
    show ∀ u : World, _
    intro u hu
    have hbu : Below w.heap.size w u := hbW.trans (hu.mono (by omega))
    have g0 : u.heap[w.heap.size]? = some (.cells #[.slice pm nm cm, .slice pp np cp, .slice pi ni ci, .slice pr nr cr] 43 (0, 0)) := by rw [hu.block _ (by omega), hb1.block _ (by omega)]; exact hz0
    have g1 : u.heap[w.heap.size + 1]? = some (.cells #[.slice qm am bm, .slice qp ap bp, .slice qi ai bi, .slice qr ar br] 43 (0, 0)) := by rw [← hs0, hu.block _ (by omega)]; exact hz1
    exact ⟨⟨(boxF g0).1, (boxF g1).1⟩, hbu, h1.below hbu, h2.below hbu⟩
  have hmi : F.ms = G.ms ↔ F.ms.map mB = G.ms.map mB := mB_inj.symm
  have HS1 := Lib.hid h1.same
  have HS2 := Lib.hid h2.same
  have HE1 : Hid (∀ u : World, Below W.heap.size W u → Calls Tryz.prog 44 #[.slice pm nm cm, .slice qm am bm] u fun e w' => e = .returned (.bool (decide (F.ms.map mB = G.ms.map mB))) ∧ Below u.heap.size u w') := by
    show ∀ u : World, _
    intro u hu
    obtain ⟨_, _, k1, k2⟩ := HC.out u hu
    exact equalMG pm qm nm am cm bm _ _ u (p2_mapF mB (fun _ => rfl) (fun _ => rfl) k1.ms) (p2_mapF mB (fun _ => rfl) (fun _ => rfl) k2.ms)
  have HE2 : Hid (∀ u : World, Below W.heap.size W u → Calls Tryz.prog 10 #[.slice pp np cp, .slice qp ap bp] u fun e w' => e = .returned (.bool (decide (F.ph = G.ph))) ∧ Below u.heap.size u w') := by
    show ∀ u : World, _
    intro u hu
    obtain ⟨_, _, k1, k2⟩ := HC.out u hu
    refine (nlw_equalG k1.ph k2.ph).mono ?_
    rintro e w' ⟨he, k, rfl⟩
    exact ⟨he, below_drawsP (Below.refl _ _) k⟩
  have HE3 : Hid (∀ u : World, Below W.heap.size W u → Calls Tryz.prog 45 #[.slice pi ni ci, .slice qi ai bi] u fun e w' => e = .returned (.bool (decide (F.inf = G.inf))) ∧ Below u.heap.size u w') := by
    show ∀ u : World, _
    intro u hu
    obtain ⟨_, _, k1, k2⟩ := HC.out u hu
    exact equalIG pi qi ni ai ci bi _ _ u k1.inf k2.inf
  have HE4 : Hid (∀ u : World, Below W.heap.size W u → Calls Tryz.prog 46 #[.slice pr nr cr, .slice qr ar br, .func (.func 47) #[] #[]] u fun e w' => (∃ r : Bool, e = .returned (.bool r) ∧ (r = true ↔ F.rs = G.rs)) ∧ Below u.heap.size u w') := by
    show ∀ u : World, _
    intro u hu
    obtain ⟨_, _, k1, k2⟩ := HC.out u hu
    rw [← HS1.out, ← HS2.out]
    exact sameFileF_ok pr qr nr ar cr br _ _ u k1.rs k2.rs
  have HFI : Hid (∀ u : World, Below W.heap.size W u → Below w.heap.size w u) := fun u hu => (HC.out u hu).2.1
  have HIFF : Hid (F = G ↔ F.ms.map mB = G.ms.map mB ∧ F.ph = G.ph ∧ F.inf = G.inf ∧ F.rs = G.rs) := by
    show _ ↔ _
    rw [← hmi]
    constructor
    · rintro rfl; exact ⟨rfl, rfl, rfl, rfl⟩
    · obtain ⟨a1, a2, a3, a4⟩ := F
      obtain ⟨b1, b2, b3, b4⟩ := G
      rintro ⟨rfl, rfl, rfl, rfl⟩; rfl
  obtain ⟨⟨⟨c0, c1, c2, c3⟩, ⟨d0, d1, d2, d3⟩⟩, _⟩ := HC.out W (Below.refl _ _)
  clear hb0 hs0 hz0 hb1 hs1 hz1 hbW h1 h2 hmi
  have HBR : Hid (Below W.heap.size W W) := Below.refl _ _
  by_cases e1 : F.ms.map mB = G.ms.map mB
  · rw [decide_eq_true e1] at HE1
    have E1 := Lib.hid e1
    clear e1
    by_cases e2 : F.ph = G.ph
    · rw [decide_eq_true e2] at HE2
      have E2 := Lib.hid e2
      clear e2
      by_cases e3 : F.inf = G.inf
      · rw [decide_eq_true e3] at HE3
        have E3 := Lib.hid e3
        clear e3
        go_enter Tryz.func19, Tryz.ntmps19
        go_upto_region 1 with fail
        rw [← hW0, ← hW]
        clear hW hW0
        go_wp2_with (first | (go_at_call 44; refine (HE1.out _ HBR.out).mono ?_; rintro e u1 ⟨rfl, hb⟩; have HB1 := Lib.hid (HBR.out.trans (hb.mono HBR.out.size)); obtain ⟨⟨⟨x0, x1, x2, x3⟩, ⟨y0, y1, y2, y3⟩⟩, _⟩ := HC.out u1 HB1.out; clear hb) | (go_at_call 10; refine (HE2.out _ HB1.out).mono ?_; rintro e u2 ⟨rfl, hb⟩; have HB2 := Lib.hid (HB1.out.trans (hb.mono HB1.out.size)); obtain ⟨⟨⟨x0, x1, x2, x3⟩, ⟨y0, y1, y2, y3⟩⟩, _⟩ := HC.out u2 HB2.out; clear hb) | (go_at_call 45; refine (HE3.out _ HB2.out).mono ?_; rintro e u3 ⟨rfl, hb⟩; have HB3 := Lib.hid (HB2.out.trans (hb.mono HB2.out.size)); obtain ⟨⟨⟨x0, x1, x2, x3⟩, ⟨y0, y1, y2, y3⟩⟩, _⟩ := HC.out u3 HB3.out; clear hb) | (go_at_call 46; refine (HE4.out _ HB3.out).mono ?_; rintro e u4 ⟨⟨r, rfl, hr⟩, hb⟩; have HR := Lib.hid hr; have HB4 := Lib.hid (HB3.out.trans (hb.mono HB3.out.size)); clear hb hr))
        go_ret
        exact ⟨⟨r, rfl, by rw [HR.out, HIFF.out]; exact ⟨fun h => ⟨E1.out, E2.out, E3.out, h⟩, fun h => h.2.2.2⟩⟩, HFI.out _ HB4.out⟩
      · rw [decide_eq_false e3] at HE3
        have E3 := Lib.hid e3
        clear e3
        go_enter Tryz.func19, Tryz.ntmps19
        go_upto_region 1 with fail
        rw [← hW0, ← hW]
        clear hW hW0
        go_wp2_with (first | (go_at_call 44; refine (HE1.out _ HBR.out).mono ?_; rintro e u1 ⟨rfl, hb⟩; have HB1 := Lib.hid (HBR.out.trans (hb.mono HBR.out.size)); obtain ⟨⟨⟨x0, x1, x2, x3⟩, ⟨y0, y1, y2, y3⟩⟩, _⟩ := HC.out u1 HB1.out; clear hb) | (go_at_call 10; refine (HE2.out _ HB1.out).mono ?_; rintro e u2 ⟨rfl, hb⟩; have HB2 := Lib.hid (HB1.out.trans (hb.mono HB1.out.size)); obtain ⟨⟨⟨x0, x1, x2, x3⟩, ⟨y0, y1, y2, y3⟩⟩, _⟩ := HC.out u2 HB2.out; clear hb) | (go_at_call 45; refine (HE3.out _ HB2.out).mono ?_; rintro e u3 ⟨rfl, hb⟩; have HB3 := Lib.hid (HB2.out.trans (hb.mono HB2.out.size)); obtain ⟨⟨⟨x0, x1, x2, x3⟩, ⟨y0, y1, y2, y3⟩⟩, _⟩ := HC.out u3 HB3.out; clear hb))
        go_ret
        exact ⟨⟨false, rfl, ⟨fun e => (by cases e), fun e => absurd (by have h := HIFF.out.1 e; exact h.2.2.1) E3.out⟩⟩, HFI.out _ HB3.out⟩
    · rw [decide_eq_false e2] at HE2
      have E2 := Lib.hid e2
      clear e2
      go_enter Tryz.func19, Tryz.ntmps19
      go_upto_region 1 with fail
      rw [← hW0, ← hW]
      clear hW hW0
      go_wp2_with (first | (go_at_call 44; refine (HE1.out _ HBR.out).mono ?_; rintro e u1 ⟨rfl, hb⟩; have HB1 := Lib.hid (HBR.out.trans (hb.mono HBR.out.size)); obtain ⟨⟨⟨x0, x1, x2, x3⟩, ⟨y0, y1, y2, y3⟩⟩, _⟩ := HC.out u1 HB1.out; clear hb) | (go_at_call 10; refine (HE2.out _ HB1.out).mono ?_; rintro e u2 ⟨rfl, hb⟩; have HB2 := Lib.hid (HB1.out.trans (hb.mono HB1.out.size)); obtain ⟨⟨⟨x0, x1, x2, x3⟩, ⟨y0, y1, y2, y3⟩⟩, _⟩ := HC.out u2 HB2.out; clear hb))
      go_ret
      exact ⟨⟨false, rfl, ⟨fun e => (by cases e), fun e => absurd (by have h := HIFF.out.1 e; exact h.2.1) E2.out⟩⟩, HFI.out _ HB2.out⟩
  · rw [decide_eq_false e1] at HE1
    have E1 := Lib.hid e1
    clear e1
    go_enter Tryz.func19, Tryz.ntmps19
    go_upto_region 1 with fail
    rw [← hW0, ← hW]
    clear hW hW0
    go_wp2_with (first | (go_at_call 44; refine (HE1.out _ HBR.out).mono ?_; rintro e u1 ⟨rfl, hb⟩; have HB1 := Lib.hid (HBR.out.trans (hb.mono HBR.out.size)); obtain ⟨⟨⟨x0, x1, x2, x3⟩, ⟨y0, y1, y2, y3⟩⟩, _⟩ := HC.out u1 HB1.out; clear hb))
    go_ret
    exact ⟨⟨false, rfl, ⟨fun e => (by cases e), fun e => absurd (by have h := HIFF.out.1 e; exact h.1) E1.out⟩⟩, HFI.out _ HB1.out⟩
end Go.Proofs.YtoiolepengcagaaGreatDoor
namespace Go.Proofs.YtoiolepengcagaaGreatDoor
open Go.RowKit Go.Shelf Go.Maps
set_option maxHeartbeats 4000000 in
theorem fsame1_ok (x y : Hd × Hd) (w : World) (hx : x.1.ok w ∧ x.2.ok w) (hy : y.1.ok w ∧ y.2.ok w) :
    Calls Tryz.prog 82 #[.agg #[x.1.v, x.2.v], .agg #[y.1.v, y.2.v]] w fun e w' => e = .returned (.bool (decide (rl x = rl y))) ∧ Below w.heap.size w w' := by
  obtain ⟨⟨p1, n1, k1, T1⟩, ⟨p2, n2, k2, T2⟩⟩ := x
  obtain ⟨⟨q1, m1, l1, S1⟩, ⟨q2, m2, l2, S2⟩⟩ := y
  obtain ⟨⟨a1, _⟩, ⟨a2, _⟩⟩ := hx
  obtain ⟨⟨b1, _⟩, ⟨b2, _⟩⟩ := hy
  simp only at a1 a2 b1 b2
  have hb : ∀ o1 o2, Below w.heap.size w ((w.alloc o1).alloc o2) := fun o1 o2 => ((Below.refl _ _).alloc (Nat.le_refl _) o1).alloc (by simp) o2
  have HB := Lib.hid hb
  have HQ1 := Lib.hid (fun o1 o2 => nlw_equalG (a1.below (hb o1 o2)) (b1.below (hb o1 o2)))
  have HQ2 := Lib.hid (fun o1 o2 k => nlw_equalG ((a2.below (hb o1 o2)).drew k) ((b2.below (hb o1 o2)).drew k))
  clear hb a1 a2 b1 b2
  show Calls Tryz.prog 82 #[.agg #[.slice p1 n1 k1, .slice p2 n2 k2], .agg #[.slice q1 m1 l1, .slice q2 m2 l2]] w fun e w' => e = .returned (.bool (decide ((T1, T2) = (S1, S2)))) ∧ Below w.heap.size w w'
  by_cases h1 : T1 = S1
  · rw [decide_eq_true h1] at HQ1
    have hd : decide ((T1, T2) = (S1, S2)) = decide (T2 = S2) := by rw [h1]; simp
    rw [hd]
    clear h1 hd
    generalize decide (T2 = S2) = bv at *
    go_enter Tryz.func82, Tryz.ntmps82
    go_wp2_with (go_at_call 10; (first
      | (have hq := HQ1.out; clear HQ1; refine (hq _ _).mono ?_; clear hq; rintro e w1 ⟨rfl, k1, rfl⟩)
      | (refine (HQ2.out _ _ _).mono ?_; rintro e w2 ⟨rfl, k2, rfl⟩)))
    go_ret
    exact ⟨rfl, below_drawsP (HB.out _ _) _⟩
  · rw [decide_eq_false h1] at HQ1
    have hd : decide ((T1, T2) = (S1, S2)) = false := decide_eq_false (fun e => h1 (Prod.mk.inj e).1)
    rw [hd]
    clear h1 hd
    go_enter Tryz.func82, Tryz.ntmps82
    go_wp2_with (go_at_call 10; refine (HQ1.out _ _).mono ?_; rintro e w1 ⟨rfl, k1, rfl⟩)
    go_ret
    exact ⟨rfl, below_drawsP (HB.out _ _) _⟩
set_option maxHeartbeats 4000000 in
set_option maxRecDepth 100000 in
theorem fsameF_ok (p q : Option Addr) (n m c d : Nat) (l k : List (Hd × Hd)) (w : World) (h1 : RulesIn w p n c l) (h2 : RulesIn w q m d k) :
    Calls Tryz.prog 46 #[.slice p n c, .slice q m d, .func (.func 82) #[] #[]] w fun e w' => (∃ r : Bool, e = .returned (.bool r) ∧ (r = true ↔ l.map rl = k.map rl)) ∧ Below w.heap.size w w' := by
  have hln := h1.at_.len
  have hlm := h2.at_.len
  have hbig := h1.at_.big
  have hbig2 := h2.at_.big
  subst hln hlm
  have H1 := Lib.hid (fun u (hu : Below w.heap.size w u) => h1.belowF hu)
  have H2 := Lib.hid (fun u (hu : Below w.heap.size w u) => h2.belowF hu)
  clear h1 h2
  by_cases hne : l.length = k.length
  · obtain ⟨N, hN⟩ : ∃ N, N = l.length := ⟨_, rfl⟩
    have hK : k.length = N := by omega
    rw [← hN] at H1 hbig ⊢
    rw [hK] at H2 hbig2 ⊢
    have HLN := Lib.hid hN
    have HLK := Lib.hid hK
    have hnn : ((N : Int) != (N : Int)) = false := by simp
    clear hN hK hne
    go_enter Tryz.func46, Tryz.ntmps46
    go_wp2
    go_loopw [17] (fun i wr => ∃ j : Nat, j ≤ N ∧ i = .int .i64 j ∧ Hid ((l.map rl).take j = (k.map rl).take j) ∧ Hid (Below w.heap.size w wr)) (fun i _ => N - (intOf i).toNat)
    case atStart => exact ⟨0, Nat.zero_le _, rfl, rfl, Below.refl _ _⟩
    case round =>
      obtain ⟨j, hj, rfl, HT, HB⟩ := hrel
      by_cases hlt : j < N
      · obtain ⟨x, hx⟩ : ∃ x, l[j]? = some x := ⟨_, List.getElem?_eq_getElem (by have := HLN.out; omega)⟩
        obtain ⟨y, hy⟩ : ∃ y, k[j]? = some y := ⟨_, List.getElem?_eq_getElem (by have := HLK.out; omega)⟩
        obtain ⟨b1, o1, rfl, hb1, c1, c2⟩ := (H1.out _ HB.out).at_.cell hx
        obtain ⟨b2, o2, rfl, hb2, d1, d2⟩ := (H2.out _ HB.out).at_.cell hy
        rw [← Nat.add_assoc] at c2 d2
        have hbb : b2 < wr.heap.size := by have := HB.out.size; omega
        have hd1 : ∀ o, (wr.alloc o).cell? ⟨b2, o2 + j * 2, none⟩ = some (rF y) := fun o => (World.cell?_alloc_lt _ _ _ hbb).trans d1
        have hd2 : ∀ o, (wr.alloc o).cell? ⟨b2, o2 + j * 2 + 1, none⟩ = some (rG y) := fun o => (World.cell?_alloc_lt _ _ _ hbb).trans d2
        have HNX := Lib.hid (take_eq_next HT.out (x := rl x) (y := rl y) (by rw [List.getElem?_map, hx]; rfl) (by rw [List.getElem?_map, hy]; rfl))
        have HXK : Hid (rl x ≠ rl y → l.map rl ≠ k.map rl) := fun h e => h (by
          have h1 : (l.map rl)[j]? = some (rl x) := by rw [List.getElem?_map, hx]; rfl
          have h2 : (k.map rl)[j]? = some (rl y) := by rw [List.getElem?_map, hy]; rfl
          rw [e, h2] at h1; injection h1 with h1; exact h1.symm)
        have HAL : Hid (∀ o o2, Below wr.heap.size wr ((wr.alloc o).alloc o2)) := fun o o2 => ((Below.refl _ _).alloc (Nat.le_refl _) o).alloc (by simp) o2
        have HCALL := Lib.hid (fun o o2 => fsame1_ok x y ((wr.alloc o).alloc o2) ((H1.out _ (HB.out.trans ((HAL.out o o2).mono HB.out.size))).ok x (List.mem_of_getElem? hx)) ((H2.out _ (HB.out.trans ((HAL.out o o2).mono HB.out.size))).ok y (List.mem_of_getElem? hy)))
        clear hx hy d1 d2
        obtain ⟨⟨p1, n1, k1, T1⟩, ⟨p2, n2, k2, T2⟩⟩ := x
        obtain ⟨⟨q1, m1, l1, S1⟩, ⟨q2, m2, l2, S2⟩⟩ := y
        simp only [rF, rG, Hd.v] at c1 c2 hd1 hd2 HCALL
        have hji : (j : Int) < (N : Int) := by omega
        generalize hrx : rl ((⟨p1, n1, k1, T1⟩ : Hd), (⟨p2, n2, k2, T2⟩ : Hd)) = rx at *
        generalize hry : rl ((⟨q1, m1, l1, S1⟩ : Hd), (⟨q2, m2, l2, S2⟩ : Hd)) = ry at *
        clear hrx hry
        by_cases hxy : rx = ry
        · have HY := Lib.hid (HNX.out.2 hxy)
          rw [decide_eq_true hxy] at HCALL
          clear hxy HNX HXK
          go_wp2_with (go_at_call 82; refine (HCALL.out _ _).mono ?_; rintro e w5 ⟨rfl, hb5⟩; have HB5 := Lib.hid (HB.out.trans (((HAL.out _ _).trans (hb5.mono (HAL.out _ _).size)).mono HB.out.size)); clear hb5)
          go_roundw
          case rel => exact ⟨j + 1, by omega, by go_num, HY.out, HB5.out⟩
          case measure => simp [intOf]; omega
        · have HY := Lib.hid (HXK.out hxy)
          rw [decide_eq_false hxy] at HCALL
          clear hxy HNX HXK
          go_wp2_with (go_at_call 82; refine (HCALL.out _ _).mono ?_; rintro e w5 ⟨rfl, hb5⟩; have HB5 := Lib.hid (HB.out.trans (((HAL.out _ _).trans (hb5.mono (HAL.out _ _).size)).mono HB.out.size)); clear hb5)
          go_ret
          exact ⟨⟨false, rfl, ⟨fun e => (by cases e), fun e => absurd e HY.out⟩⟩, HB5.out⟩
      · obtain rfl : j = N := by omega
        have HE : Hid (l.map rl = k.map rl) := by
          show _ = _
          have := HT.out
          rwa [List.take_of_length_le (by rw [List.length_map]; have := HLN.out; omega), List.take_of_length_le (by rw [List.length_map]; have := HLK.out; omega)] at this
        go_wp2
        go_ret
        exact ⟨⟨true, rfl, ⟨fun _ => HE.out, fun _ => rfl⟩⟩, HB.out⟩
  · have hd : ((l.length : Int) != (k.length : Int)) = true := by
      have : ¬ (l.length : Int) = (k.length : Int) := by omega
      simpa using this
    have hd2 : ((l.length : Int) == (k.length : Int)) = false := by
      have : ¬ (l.length : Int) = (k.length : Int) := by omega
      simpa using this
    have HE : Hid (l.map rl ≠ k.map rl) := fun e => hne (by have := congrArg List.length e; rwa [List.length_map, List.length_map] at this)
    clear hne
    go_enter Tryz.func46, Tryz.ntmps46
    go_wp2
    go_ret
    exact ⟨⟨false, rfl, ⟨fun e => (by cases e), fun e => absurd e HE.out⟩⟩, Below.refl _ _⟩
set_option maxHeartbeats 8000000 in
set_option maxRecDepth 100000 in
theorem fsame_ok (F G : FileV) (w : World) (pm pp pi pr qm qp qi qr : Option Addr) (nm cm np cp ni ci nr cr am bm ap bp ai bi ar br : Nat) (hl kl : List (Hd × Hd))
    (h1 : FileIn w F pm nm cm pp np cp pi ni ci pr nr cr hl) (h2 : FileIn w G qm am bm qp ap bp qi ai bi qr ar br kl) :
    Calls Tryz.prog 49 #[.agg #[.slice pm nm cm, .slice pp np cp, .slice pi ni ci, .slice pr nr cr], .agg #[.slice qm am bm, .slice qp ap bp, .slice qi ai bi, .slice qr ar br]] w fun e w' => (∃ r : Bool, e = .returned (.bool r) ∧ (r = true ↔ F = G)) ∧ Below w.heap.size w w' := by
  obtain ⟨W0, hW0⟩ : ∃ W0, W0 = w.alloc (.cells #[.slice pm nm cm, .slice pp np cp, .slice pi ni ci, .slice pr nr cr] 43) := ⟨_, rfl⟩
  have hb0 : Below w.heap.size w W0 := by rw [hW0]; exact rb1w _ _
  have hs0 : W0.heap.size = w.heap.size + 1 := by rw [hW0]; simp
  have hz0 : W0.heap[w.heap.size]? = some (.cells #[.slice pm nm cm, .slice pp np cp, .slice pi ni ci, .slice pr nr cr] 43 (0, 0)) := by rw [hW0]; exact rb_new w _
  obtain ⟨W, hW⟩ : ∃ W, W = W0.alloc (.cells #[.slice qm am bm, .slice qp ap bp, .slice qi ai bi, .slice qr ar br] 43) := ⟨_, rfl⟩
  have hb1 : Below W0.heap.size W0 W := by rw [hW]; exact rb1w _ _
  have hs1 : W.heap.size = W0.heap.size + 1 := by rw [hW]; simp
  have hz1 : W.heap[W0.heap.size]? = some (.cells #[.slice qm am bm, .slice qp ap bp, .slice qi ai bi, .slice qr ar br] 43 (0, 0)) := by rw [hW]; exact rb_new W0 _
  have hbW := hb0.trans (hb1.mono hb0.size)
  have HC : Hid (∀ u : World, Below W.heap.size W u → ((u.cell? ⟨w.heap.size, 0, none⟩ = some (.slice pm nm cm) ∧ u.cell? ⟨w.heap.size, 1, none⟩ = some (.slice pp np cp) ∧ u.cell? ⟨w.heap.size, 2, none⟩ = some (.slice pi ni ci) ∧ u.cell? ⟨w.heap.size, 3, none⟩ = some (.slice pr nr cr)) ∧
      (u.cell? ⟨w.heap.size + 1, 0, none⟩ = some (.slice qm am bm) ∧ u.cell? ⟨w.heap.size + 1, 1, none⟩ = some (.slice qp ap bp) ∧ u.cell? ⟨w.heap.size + 1, 2, none⟩ = some (.slice qi ai bi) ∧ u.cell? ⟨w.heap.size + 1, 3, none⟩ = some (.slice qr ar br))) ∧
      Below w.heap.size w u ∧ FileIn u F pm nm cm pp np cp pi ni ci pr nr cr hl ∧ FileIn u G qm am bm qp ap bp qi ai bi qr ar br kl) := by
    show ∀ u : World, _
    intro u hu
    have hbu : Below w.heap.size w u := hbW.trans (hu.mono (by omega))
    have g0 : u.heap[w.heap.size]? = some (.cells #[.slice pm nm cm, .slice pp np cp, .slice pi ni ci, .slice pr nr cr] 43 (0, 0)) := by rw [hu.block _ (by omega), hb1.block _ (by omega)]; exact hz0
    have g1 : u.heap[w.heap.size + 1]? = some (.cells #[.slice qm am bm, .slice qp ap bp, .slice qi ai bi, .slice qr ar br] 43 (0, 0)) := by rw [← hs0, hu.block _ (by omega)]; exact hz1
    exact ⟨⟨(boxF g0).1, (boxF g1).1⟩, hbu, h1.below hbu, h2.below hbu⟩
  have hmi : F.ms = G.ms ↔ F.ms.map mB = G.ms.map mB := mB_inj.symm
  have HS1 := Lib.hid h1.same
  have HS2 := Lib.hid h2.same
  have HE1 : Hid (∀ u : World, Below W.heap.size W u → Calls Tryz.prog 44 #[.slice pm nm cm, .slice qm am bm] u fun e w' => e = .returned (.bool (decide (F.ms.map mB = G.ms.map mB))) ∧ Below u.heap.size u w') := by
    show ∀ u : World, _
    intro u hu
    obtain ⟨_, _, k1, k2⟩ := HC.out u hu
    exact equalMG pm qm nm am cm bm _ _ u (p2_mapF mB (fun _ => rfl) (fun _ => rfl) k1.ms) (p2_mapF mB (fun _ => rfl) (fun _ => rfl) k2.ms)
  have HE2 : Hid (∀ u : World, Below W.heap.size W u → Calls Tryz.prog 10 #[.slice pp np cp, .slice qp ap bp] u fun e w' => e = .returned (.bool (decide (F.ph = G.ph))) ∧ Below u.heap.size u w') := by
    show ∀ u : World, _
    intro u hu
    obtain ⟨_, _, k1, k2⟩ := HC.out u hu
    refine (nlw_equalG k1.ph k2.ph).mono ?_
    rintro e w' ⟨he, k, rfl⟩
    exact ⟨he, below_drawsP (Below.refl _ _) k⟩
  have HE3 : Hid (∀ u : World, Below W.heap.size W u → Calls Tryz.prog 45 #[.slice pi ni ci, .slice qi ai bi] u fun e w' => e = .returned (.bool (decide (F.inf = G.inf))) ∧ Below u.heap.size u w') := by
    show ∀ u : World, _
    intro u hu
    obtain ⟨_, _, k1, k2⟩ := HC.out u hu
    exact equalIG pi qi ni ai ci bi _ _ u k1.inf k2.inf
  have HE4 : Hid (∀ u : World, Below W.heap.size W u → Calls Tryz.prog 46 #[.slice pr nr cr, .slice qr ar br, .func (.func 82) #[] #[]] u fun e w' => (∃ r : Bool, e = .returned (.bool r) ∧ (r = true ↔ F.rs = G.rs)) ∧ Below u.heap.size u w') := by
    show ∀ u : World, _
    intro u hu
    obtain ⟨_, _, k1, k2⟩ := HC.out u hu
    rw [← HS1.out, ← HS2.out]
    exact fsameF_ok pr qr nr ar cr br _ _ u k1.rs k2.rs
  have HFI : Hid (∀ u : World, Below W.heap.size W u → Below w.heap.size w u) := fun u hu => (HC.out u hu).2.1
  have HIFF : Hid (F = G ↔ F.ms.map mB = G.ms.map mB ∧ F.ph = G.ph ∧ F.inf = G.inf ∧ F.rs = G.rs) := by
    show _ ↔ _
    rw [← hmi]
    constructor
    · rintro rfl; exact ⟨rfl, rfl, rfl, rfl⟩
    · obtain ⟨a1, a2, a3, a4⟩ := F
      obtain ⟨b1, b2, b3, b4⟩ := G
      rintro ⟨rfl, rfl, rfl, rfl⟩; rfl
  obtain ⟨⟨⟨c0, c1, c2, c3⟩, ⟨d0, d1, d2, d3⟩⟩, _⟩ := HC.out W (Below.refl _ _)
  clear hb0 hs0 hz0 hb1 hs1 hz1 hbW h1 h2 hmi
  have HBR : Hid (Below W.heap.size W W) := Below.refl _ _
  by_cases e1 : F.ms.map mB = G.ms.map mB
  · rw [decide_eq_true e1] at HE1
    have E1 := Lib.hid e1
    clear e1
    by_cases e2 : F.ph = G.ph
    · rw [decide_eq_true e2] at HE2
      have E2 := Lib.hid e2
      clear e2
      by_cases e3 : F.inf = G.inf
      · rw [decide_eq_true e3] at HE3
        have E3 := Lib.hid e3
        clear e3
        go_enter Tryz.func49, Tryz.ntmps49
        go_upto_region 1 with fail
        rw [← hW0, ← hW]
        clear hW hW0
        go_wp2_with (first | (go_at_call 44; refine (HE1.out _ HBR.out).mono ?_; rintro e u1 ⟨rfl, hb⟩; have HB1 := Lib.hid (HBR.out.trans (hb.mono HBR.out.size)); obtain ⟨⟨⟨x0, x1, x2, x3⟩, ⟨y0, y1, y2, y3⟩⟩, _⟩ := HC.out u1 HB1.out; clear hb) | (go_at_call 10; refine (HE2.out _ HB1.out).mono ?_; rintro e u2 ⟨rfl, hb⟩; have HB2 := Lib.hid (HB1.out.trans (hb.mono HB1.out.size)); obtain ⟨⟨⟨x0, x1, x2, x3⟩, ⟨y0, y1, y2, y3⟩⟩, _⟩ := HC.out u2 HB2.out; clear hb) | (go_at_call 45; refine (HE3.out _ HB2.out).mono ?_; rintro e u3 ⟨rfl, hb⟩; have HB3 := Lib.hid (HB2.out.trans (hb.mono HB2.out.size)); obtain ⟨⟨⟨x0, x1, x2, x3⟩, ⟨y0, y1, y2, y3⟩⟩, _⟩ := HC.out u3 HB3.out; clear hb) | (go_at_call 46; refine (HE4.out _ HB3.out).mono ?_; rintro e u4 ⟨⟨r, rfl, hr⟩, hb⟩; have HR := Lib.hid hr; have HB4 := Lib.hid (HB3.out.trans (hb.mono HB3.out.size)); clear hb hr))
        go_ret
        exact ⟨⟨r, rfl, by rw [HR.out, HIFF.out]; exact ⟨fun h => ⟨E1.out, E2.out, E3.out, h⟩, fun h => h.2.2.2⟩⟩, HFI.out _ HB4.out⟩
      · rw [decide_eq_false e3] at HE3
        have E3 := Lib.hid e3
        clear e3
        go_enter Tryz.func49, Tryz.ntmps49
        go_upto_region 1 with fail
        rw [← hW0, ← hW]
        clear hW hW0
        go_wp2_with (first | (go_at_call 44; refine (HE1.out _ HBR.out).mono ?_; rintro e u1 ⟨rfl, hb⟩; have HB1 := Lib.hid (HBR.out.trans (hb.mono HBR.out.size)); obtain ⟨⟨⟨x0, x1, x2, x3⟩, ⟨y0, y1, y2, y3⟩⟩, _⟩ := HC.out u1 HB1.out; clear hb) | (go_at_call 10; refine (HE2.out _ HB1.out).mono ?_; rintro e u2 ⟨rfl, hb⟩; have HB2 := Lib.hid (HB1.out.trans (hb.mono HB1.out.size)); obtain ⟨⟨⟨x0, x1, x2, x3⟩, ⟨y0, y1, y2, y3⟩⟩, _⟩ := HC.out u2 HB2.out; clear hb) | (go_at_call 45; refine (HE3.out _ HB2.out).mono ?_; rintro e u3 ⟨rfl, hb⟩; have HB3 := Lib.hid (HB2.out.trans (hb.mono HB2.out.size)); obtain ⟨⟨⟨x0, x1, x2, x3⟩, ⟨y0, y1, y2, y3⟩⟩, _⟩ := HC.out u3 HB3.out; clear hb))
        go_ret
        exact ⟨⟨false, rfl, ⟨fun e => (by cases e), fun e => absurd (by have h := HIFF.out.1 e; exact h.2.2.1) E3.out⟩⟩, HFI.out _ HB3.out⟩
    · rw [decide_eq_false e2] at HE2
      have E2 := Lib.hid e2
      clear e2
      go_enter Tryz.func49, Tryz.ntmps49
      go_upto_region 1 with fail
      rw [← hW0, ← hW]
      clear hW hW0
      go_wp2_with (first | (go_at_call 44; refine (HE1.out _ HBR.out).mono ?_; rintro e u1 ⟨rfl, hb⟩; have HB1 := Lib.hid (HBR.out.trans (hb.mono HBR.out.size)); obtain ⟨⟨⟨x0, x1, x2, x3⟩, ⟨y0, y1, y2, y3⟩⟩, _⟩ := HC.out u1 HB1.out; clear hb) | (go_at_call 10; refine (HE2.out _ HB1.out).mono ?_; rintro e u2 ⟨rfl, hb⟩; have HB2 := Lib.hid (HB1.out.trans (hb.mono HB1.out.size)); obtain ⟨⟨⟨x0, x1, x2, x3⟩, ⟨y0, y1, y2, y3⟩⟩, _⟩ := HC.out u2 HB2.out; clear hb))
      go_ret
      exact ⟨⟨false, rfl, ⟨fun e => (by cases e), fun e => absurd (by have h := HIFF.out.1 e; exact h.2.1) E2.out⟩⟩, HFI.out _ HB2.out⟩
  · rw [decide_eq_false e1] at HE1
    have E1 := Lib.hid e1
    clear e1
    go_enter Tryz.func49, Tryz.ntmps49
    go_upto_region 1 with fail
    rw [← hW0, ← hW]
    clear hW hW0
    go_wp2_with (first | (go_at_call 44; refine (HE1.out _ HBR.out).mono ?_; rintro e u1 ⟨rfl, hb⟩; have HB1 := Lib.hid (HBR.out.trans (hb.mono HBR.out.size)); obtain ⟨⟨⟨x0, x1, x2, x3⟩, ⟨y0, y1, y2, y3⟩⟩, _⟩ := HC.out u1 HB1.out; clear hb))
    go_ret
    exact ⟨⟨false, rfl, ⟨fun e => (by cases e), fun e => absurd (by have h := HIFF.out.1 e; exact h.1) E1.out⟩⟩, HFI.out _ HB1.out⟩
end Go.Proofs.YtoiolepengcagaaGreatDoor
namespace Go.Proofs.YtoiolepengcagaaGreatDoor
/-! ### a text behind one whose last line ends -/
/-- ends with a line's end that is not put off -/
def EndedL (w : Bl) : Prop := ∃ v, w = v ++ [10] ∧ Lib.hasSuffix v [92] = false
theorem suf_iff (l : Bl) : Lib.hasSuffix l [92] = true ↔ ∃ a, l = a ++ [92] := by
  unfold Lib.hasSuffix
  rw [List.isSuffixOf_iff_suffix]
  constructor
  · rintro ⟨a, h⟩; exact ⟨a, h.symm⟩
  · rintro ⟨a, h⟩; exact ⟨a, h.symm⟩
theorem suf_behind {a b : Bl} (h : Lib.hasSuffix (a ++ b) [92] = false) : Lib.hasSuffix b [92] = false := by
  rw [← Bool.not_eq_true, suf_iff] at h ⊢
  rintro ⟨c, rfl⟩
  exact h ⟨a ++ c, by simp⟩
theorem onl_end (text : Bl) {v : Bl} (h : Lib.hasSuffix v [92] = false) : Lib.hasSuffix (onl text v) [92] = false := by
  unfold onl
  split
  · exact h
  · unfold Lib.trimLeftS
    have : ∃ a, v = a ++ v.dropWhile (fun x => ([32, 9] : List UInt8).contains x) := ⟨v.takeWhile _, (List.takeWhile_append_dropWhile).symm⟩
    obtain ⟨a, ha⟩ := this
    rw [ha] at h
    exact suf_behind h
theorem nl_ended {w : Bl} (h : EndedL w) : (∃ v, nl w = (v, []) ∧ w = v ++ [10] ∧ (10 : UInt8) ∉ v ∧ Lib.hasSuffix v [92] = false) ∨ ∃ u r, nl w = (u, r) ∧ w = u ++ 10 :: r ∧ (10 : UInt8) ∉ u ∧ EndedL r := by
  obtain ⟨v, rfl, hs⟩ := h
  rcases nl_split v with ⟨h1, _⟩ | ⟨u, r, h1, h2, _⟩
  · left
    exact ⟨v, by rw [nl_yes h1], rfl, h1, hs⟩
  · right
    refine ⟨u, r ++ [10], ?_, by rw [h1]; simp, h2, r, rfl, ?_⟩
    · rw [h1, List.append_assoc, List.cons_append, nl_yes h2]
    · rw [h1, show u ++ 10 :: r = (u ++ [10]) ++ r by simp] at hs
      exact suf_behind hs
theorem lg_behindE : ∀ n text w t at_, w.length ≤ n → EndedL w → lg text (w ++ t) at_ = ((lg text w at_).1, (lg text w at_).2.1 ++ t, (lg text w at_).2.2) ∧
    ((lg text w at_).2.1 = [] ∨ EndedL (lg text w at_).2.1) ∧ (lg text w at_).2.2 + (lg text w at_).2.1.count 10 + 1 = at_ + w.count 10 := by
  intro n
  induction n with
  | zero =>
    intro text w t at_ h hw
    obtain ⟨v, rfl, _⟩ := hw
    simp at h
  | succ n ih =>
    intro text w t at_ h hw
    rcases nl_ended hw with ⟨v, h1, h2, h3, h5⟩ | ⟨u, r, h1, h2, h3, h4⟩
    · have e : nl (w ++ t) = (v, t) := by
        rw [h2, show v ++ [10] ++ t = v ++ 10 :: t by simp, nl_yes h3]
      rw [lg_eq text (w ++ t), lg_eq text w, e, h1]
      simp only [onl_end text h5]
      rw [if_neg (by simp), if_neg (by simp)]
      refine ⟨rfl, .inl rfl, ?_⟩
      have hc : v.count 10 = 0 := List.count_eq_zero.2 h3
      rw [h2, List.count_append, hc]
      simp
    · have e : nl (w ++ t) = (u, r ++ t) := by rw [h2, List.append_assoc, List.cons_append, nl_yes h3]
      have hr : r ≠ [] := by obtain ⟨v, rfl, _⟩ := h4; simp
      have hrt : r ++ t ≠ [] := by simp [hr]
      have hcw : w.count 10 = r.count 10 + 1 := by
        have hc : u.count 10 = 0 := List.count_eq_zero.2 h3
        rw [h2, List.count_append, hc]
        simp
      rw [lg_eq text (w ++ t), lg_eq text w, e, h1]
      by_cases hs : Lib.hasSuffix (onl text u) [92] = true
      · rw [if_pos ⟨hs, hrt⟩, if_pos ⟨hs, hr⟩]
        have hlr : r.length ≤ n := by rw [h2] at h; simp at h; omega
        obtain ⟨i1, i2, i3⟩ := ih (text ++ Lib.trimSuffix (onl text u) [92] ++ [32]) r t (at_ + 1) hlr h4
        exact ⟨i1, i2, by rw [hcw]; simp only; omega⟩
      · rw [if_neg (fun g => hs g.1), if_neg (fun g => hs g.1)]
        exact ⟨rfl, .inr h4, by rw [hcw]; show at_ + r.count 10 + 1 = _; omega⟩
theorem jg_behindE (t : Bl) : ∀ n w at_, w.length ≤ n → (w = [] ∨ EndedL w) → jg (w ++ t) at_ = jg w at_ ++ jg t (at_ + w.count 10) := by
  intro n
  induction n with
  | zero =>
    intro w at_ h hw
    have : w = [] := List.length_eq_zero_iff.1 (by omega)
    subst this
    rw [jg_nil]; rfl
  | succ n ih =>
    intro w at_ h hw
    rcases hw with rfl | hw
    · rw [jg_nil]; rfl
    · have hne : w ≠ [] := by obtain ⟨v, rfl, _⟩ := hw; simp
      have hnt : w ++ t ≠ [] := by simp [hne]
      obtain ⟨i1, i2, i3⟩ := lg_behindE _ [] w t (at_ + 1) (Nat.le_refl _) hw
      have hl := lg_len _ [] w (at_ + 1) (Nat.le_refl _) hne
      rw [jg_eq hnt, jg_eq hne, i1]
      simp only
      rw [ih _ _ (by omega) i2, List.append_assoc, show (lg [] w (at_ + 1)).2.2 + (lg [] w (at_ + 1)).2.1.count 10 = at_ + w.count 10 by omega]
theorem join_behindE (w t : Bl) (h : EndedL w) : joinL (w ++ t) = joinL w ++ moved (w.count 10) (joinL t) := by
  unfold joinL
  rw [jg_behindE t _ _ _ (Nat.le_refl _) (.inr h), jg_moved _ _ _ _ (Nat.le_refl _)]
/-- the texts of the lines -/
def txsL (s : Bl) : List Bl := (joinL s).map (·.2)
theorem txs_behind (w t : Bl) (h : EndedL w) : txsL (w ++ t) = txsL w ++ txsL t := by
  unfold txsL
  rw [join_behindE w t h, List.map_append]
  congr 1
  unfold moved
  rw [List.map_map]
  rfl
/-! ### the reader -/
def incW : Bl := [105, 110, 99, 108, 117, 100, 101]
def joinEL (s : Bl) : Int := if 20000 < s.length then 2 else if badB s = true then 3 else 0
mutual
/-- read a text: how many lines, what is told, the error -/
def readR (T : Bl → Option Bl) : Nat → List Bl → Nat → List Bl → Bl → Nat × List Bl × Int
  | f, op, many, out, s => if joinEL s ≠ 0 then (many, out, joinEL s) else readG T f op (txsL s) many out
  termination_by f => (f, 1, 0)
def readG (T : Bl → Option Bl) : Nat → List Bl → List Bl → Nat → List Bl → Nat × List Bl × Int
  | _, _, [], many, out => (many, out, 0)
  | f, op, x :: l, many, out =>
    if 200 < many + 1 then (many + 1, out, 2)
    else if (wordsL x).getD 0 [] ≠ incW then readG T f op l (many + 1) (out ++ [x])
    else if (wordsL x).length ≠ 2 then (many + 1, out, 3)
    else match T ((wordsL x).getD 1 []) with
      | none => (many + 1, out, 5)
      | some t => if (wordsL x).getD 1 [] ∈ op then (many + 1, out, 8) else
        match f with
        | 0 => (many + 1, out, 8)
        | f + 1 =>
          if (readR T f (op ++ [(wordsL x).getD 1 []]) (many + 1) out t).2.2 ≠ 0 then readR T f (op ++ [(wordsL x).getD 1 []]) (many + 1) out t
          else readG T (f + 1) op l (readR T f (op ++ [(wordsL x).getD 1 []]) (many + 1) out t).1 (readR T f (op ++ [(wordsL x).getD 1 []]) (many + 1) out t).2.1
  termination_by f _ l => (f, 0, l.length)
end
variable {T : Bl → Option Bl}
theorem readR_eq (f : Nat) (op : List Bl) (many : Nat) (out : List Bl) (s : Bl) : readR T f op many out s = if joinEL s ≠ 0 then (many, out, joinEL s) else readG T f op (txsL s) many out := by rw [readR]
theorem readG_nil (f : Nat) (op : List Bl) (many : Nat) (out : List Bl) : readG T f op [] many out = (many, out, 0) := by rw [readG]
theorem readG_text (f : Nat) (op : List Bl) (x : Bl) (l : List Bl) (many : Nat) (out : List Bl) (h : (wordsL x).getD 0 [] ≠ incW) :
    readG T f op (x :: l) many out = if 200 < many + 1 then (many + 1, out, 2) else readG T f op l (many + 1) (out ++ [x]) := by rw [readG, if_pos h]
theorem readG_inc (f : Nat) (op : List Bl) (x : Bl) (l : List Bl) (many : Nat) (out : List Bl) (t : Bl) (hm : ¬ 200 < many + 1) (h : (wordsL x).getD 0 [] = incW) (h2 : (wordsL x).length = 2) (hT : T ((wordsL x).getD 1 []) = some t) (ho : (wordsL x).getD 1 [] ∉ op) :
    readG T (f + 1) op (x :: l) many out = if (readR T f (op ++ [(wordsL x).getD 1 []]) (many + 1) out t).2.2 ≠ 0 then readR T f (op ++ [(wordsL x).getD 1 []]) (many + 1) out t
          else readG T (f + 1) op l (readR T f (op ++ [(wordsL x).getD 1 []]) (many + 1) out t).1 (readR T f (op ++ [(wordsL x).getD 1 []]) (many + 1) out t).2.1 := by
  rw [readG, if_neg hm, if_neg (fun e => e h), if_neg (fun e => e h2), hT]
  simp only
  rw [if_neg ho]
theorem readG_cyc (f : Nat) (op : List Bl) (x : Bl) (l : List Bl) (many : Nat) (out : List Bl) (t : Bl) (hm : ¬ 200 < many + 1) (h : (wordsL x).getD 0 [] = incW) (h2 : (wordsL x).length = 2) (hT : T ((wordsL x).getD 1 []) = some t) (ho : (wordsL x).getD 1 [] ∈ op) :
    readG T f op (x :: l) many out = (many + 1, out, 8) := by
  rw [readG, if_neg hm, if_neg (fun e => e h), if_neg (fun e => e h2), hT]
  simp only
  rw [if_pos ho]
/-- lines that include nothing -/
theorem readG_flat (f : Nat) (op : List Bl) : ∀ (l : List Bl) (many : Nat) (out : List Bl), (∀ x ∈ l, (wordsL x).getD 0 [] ≠ incW) → (readG T f op l many out).2.2 = 0 → readG T f op l many out = (many + l.length, out ++ l, 0) ∧ (l ≠ [] → many + l.length ≤ 200) := by
  intro l
  induction l with
  | nil => intro many out _ _; rw [readG_nil]; simp
  | cons x l ih =>
    intro many out h h0
    rw [readG_text _ _ _ _ _ _ (h x List.mem_cons_self)] at h0 ⊢
    by_cases hm : 200 < many + 1
    · rw [if_pos hm] at h0; cases h0
    · rw [if_neg hm] at h0 ⊢
      obtain ⟨h1, h2⟩ := ih (many + 1) (out ++ [x]) (fun y hy => h y (List.mem_cons_of_mem _ hy)) h0
      rw [h1]
      refine ⟨by rw [List.length_cons, List.append_assoc]; simp; omega, fun _ => ?_⟩
      rw [List.length_cons]
      by_cases hl : l = []
      · subst hl; simp; omega
      · have := h2 hl; omega
theorem readG_ahead (f : Nat) (op : List Bl) : ∀ (l m : List Bl) (many : Nat) (out : List Bl), (∀ x ∈ l, (wordsL x).getD 0 [] ≠ incW) → many + l.length ≤ 200 → readG T f op (l ++ m) many out = readG T f op m (many + l.length) (out ++ l) := by
  intro l
  induction l with
  | nil => intro m many out _ _; simp
  | cons x l ih =>
    intro m many out h h0
    rw [List.length_cons] at h0
    rw [List.cons_append, readG_text _ _ _ _ _ _ (h x List.mem_cons_self), if_neg (by omega), ih _ _ _ (fun y hy => h y (List.mem_cons_of_mem _ hy)) (by omega), List.append_assoc, List.length_cons, Nat.add_assoc, Nat.add_comm 1]
    rfl
/-- where there are no texts, nothing is included -/
theorem readG_none (f : Nat) (op : List Bl) : ∀ (l : List Bl) (many : Nat) (out : List Bl), (readG (fun _ => none) f op l many out).2.2 = 0 → ∀ x ∈ l, (wordsL x).getD 0 [] ≠ incW := by
  intro l
  induction l with
  | nil => intro _ _ _ x hx; cases hx
  | cons y l ih =>
    intro many out h x hx
    by_cases hy : (wordsL y).getD 0 [] = incW
    · exfalso
      rw [readG] at h
      by_cases hm : 200 < many + 1
      · rw [if_pos hm] at h; cases h
      · rw [if_neg hm, if_neg (fun e => e hy)] at h
        by_cases h2 : (wordsL y).length ≠ 2
        · rw [if_pos h2] at h; cases h
        · rw [if_neg h2] at h; cases h
    · rw [readG_text _ _ _ _ _ _ hy] at h
      by_cases hm : 200 < many + 1
      · rw [if_pos hm] at h; cases h
      · rw [if_neg hm] at h
        rcases List.mem_cons.1 hx with rfl | hx
        · exact hy
        · exact ih _ _ h x hx
/-! ### a line that includes -/
theorem shw_none {x : Bl} (h : (35 : UInt8) ∉ x) : shw x = x := by
  rw [shw_flat]
  induction x with
  | nil => rfl
  | cons c x ih =>
    have hc : c ≠ 35 := fun e => h (by rw [e]; exact List.mem_cons_self)
    rw [List.flatMap_cons, if_neg hc, ih (fun hm => h (List.mem_cons_of_mem _ hm))]
    rfl
theorem suf_none {x : Bl} (h : (92 : UInt8) ∉ x) : Lib.hasSuffix x [92] = false := by
  rw [← Bool.not_eq_true, suf_iff]
  rintro ⟨a, rfl⟩
  exact h (by simp)
theorem trimR_last {a : Bl} {c : UInt8} (h : blk c = false) : Lib.trimRightS (a ++ [c]) [32, 9] = a ++ [c] := by
  unfold Lib.trimRightS
  rw [List.reverse_append, List.reverse_cons, List.reverse_nil, List.nil_append, List.singleton_append, List.dropWhile_cons, if_neg (by rw [blk_has, h]; decide), List.reverse_cons, List.reverse_reverse]
theorem lg_one {x : Bl} (h10 : (10 : UInt8) ∉ x) (h92 : (92 : UInt8) ∉ x) (at_ : Nat) : lg [] x at_ = (x, [], at_) ∧ ∀ s, lg [] (x ++ 10 :: s) at_ = (x, s, at_) := by
  have ht : Lib.trimSuffix (onl [] x) [92] = x := by
    have : onl [] x = x := rfl
    rw [this]
    unfold Lib.trimSuffix
    rw [suf_none h92]
    rfl
  have hs : Lib.hasSuffix (onl [] x) [92] = false := suf_none h92
  refine ⟨?_, fun s => ?_⟩
  · rw [lg_eq, nl_no h10, if_neg (fun g => g.2 rfl)]
    simp only [ht, List.nil_append]
  · rw [lg_eq, nl_yes h10]
    simp only [hs, ht, List.nil_append]
    rw [if_neg (by simp)]
theorem tx_one {x : Bl} (hx : x ≠ []) (h35 : (35 : UInt8) ∉ x) (h10 : (10 : UInt8) ∉ x) (h92 : (92 : UInt8) ∉ x) (hb : Lib.trimRightS x [32, 9] = x) : txsL x = [x] ∧ txsL (x ++ [10]) = [x] := by
  have hc : cutL x = x := by
    have := cutL_shw x
    rw [shw_none h35, hb] at this
    exact this
  constructor
  · unfold txsL joinL
    rw [jg_eq hx, (lg_one h10 h92 _).1]
    simp only [hc, if_neg hx, jg_nil, List.append_nil, List.map_cons, List.map_nil]
  · unfold txsL joinL
    rw [jg_eq (by simp), (lg_one h10 h92 _).2 []]
    simp only [hc, if_neg hx, jg_nil, List.append_nil, List.map_cons, List.map_nil]
/-- the line that includes n -/
def incL (n : Bl) : Bl := incW ++ [32] ++ n
theorem name_facts {n : Bl} (h : nameE (txt n) = 0) : n ≠ [] ∧ (35 : UInt8) ∉ n ∧ (10 : UInt8) ∉ n ∧ (92 : UInt8) ∉ n ∧ (∀ c ∈ n, blk c = false) ∧ (∀ c ∈ n, signC c = true) ∧ n.length ≤ 40 := by
  obtain ⟨h1, _⟩ := name_bytes h
  rw [txt_list] at h1
  have hz : ∀ c ∈ n, signC c = true := by
    unfold nameE at h
    split at h
    · cases h
    · split at h
      · rename_i h2
        rw [txt_list] at h2
        exact List.all_eq_true.1 h2
      · cases h
  have hl : n.length ≤ 40 := by
    unfold nameE at h
    split at h
    · cases h
    · rename_i h3; rw [txt_size] at h3; omega
  exact ⟨h1.1, fun hc => absurd (hz _ hc) (by decide), fun hc => absurd (hz _ hc) (by decide), fun hc => absurd (hz _ hc) (by decide), h1.2, hz, hl⟩
theorem inc_words {n : Bl} (h : nameE (txt n) = 0) : wordsL (incL n) = [incW, n] := by
  obtain ⟨h1, _, _, _, h5, _⟩ := name_facts h
  have := words_join (ws := [incW, n]) (fun w hw => by
    rcases List.mem_cons.1 hw with rfl | hw
    · exact ⟨by decide, by decide⟩
    · rw [List.mem_singleton.1 hw]; exact ⟨h1, h5⟩)
  rwa [show Lib.join [incW, n] [32] = incL n from by rw [join_two, Lib.join_one]; rfl] at this
theorem inc_tx {n : Bl} (h : nameE (txt n) = 0) : txsL (incL n) = [incL n] ∧ txsL (incL n ++ [10]) = [incL n] := by
  obtain ⟨h1, h2, h3, h4, h5, _⟩ := name_facts h
  have ha : ∀ c : UInt8, c ∉ incW ++ [32] → c ∉ n → c ∉ incL n := fun c q1 q2 q3 => by
    rcases List.mem_append.1 q3 with q | q
    · exact q1 q
    · exact q2 q
  refine tx_one (by simp [incL]) (ha _ (by decide) h2) (ha _ (by decide) h3) (ha _ (by decide) h4) ?_
  rcases List.eq_nil_or_concat n with e | ⟨n', c, e⟩
  · exact absurd e h1
  · rw [List.concat_eq_append] at e
    have hc : blk c = false := h5 c (by rw [e]; simp)
    unfold incL
    rw [e, ← List.append_assoc]
    exact trimR_last hc
theorem badB_app (a b : Bl) : badB (a ++ b) = (badB a || badB b) := by unfold badB; rw [List.any_append]
theorem sign_good {c : UInt8} (h : signC c = true) : badC c = false := by
  have key : ∀ n : Fin 256, signC (UInt8.ofNat n.1) = true → badC (UInt8.ofNat n.1) = false := by decide +kernel
  have := key ⟨c.toNat, c.toNat_lt⟩
  simp only [UInt8.ofNat_toNat] at this
  exact this h
/-! ### the law FileIncludes -/
theorem includes_law {f : Nat} {s n t : Bl} {ma mb mc : Nat} {a b c : List Bl} (hn : nameE (txt n) = 0) (hs : Lib.hasSuffix s [92] = false)
    (ha : readR (fun _ => none) f [] 0 [] t = (ma, a, 0)) (hb : readR (fun x => if x = n then some t else none) (f + 1) [] 0 [] (s ++ [10] ++ (incL n ++ [10])) = (mb, b, 0)) (hc : readR (fun _ => none) f [] 0 [] (s ++ [10]) = (mc, c, 0)) : b = c ++ a := by
  rw [readR_eq] at ha hb hc
  split at ha
  · rename_i h; injection ha with _ ha; injection ha with _ ha; exact absurd ha h
  split at hb
  · rename_i h; injection hb with _ hb; injection hb with _ hb; exact absurd hb h
  split at hc
  · rename_i h; injection hc with _ hc; injection hc with _ hc; exact absurd hc h
  rename_i et eb ec
  have fa := readG_none f [] (txsL t) 0 [] (by rw [ha])
  have fc := readG_none f [] (txsL (s ++ [10])) 0 [] (by rw [hc])
  obtain ⟨ga, ga2⟩ := readG_flat f [] _ 0 [] fa (by rw [ha])
  obtain ⟨gc, gc2⟩ := readG_flat f [] _ 0 [] fc (by rw [hc])
  rw [ha] at ga
  rw [hc] at gc
  injection ga with _ ga; injection ga with ga _
  injection gc with _ gc; injection gc with gc _
  rw [List.nil_append] at ga gc
  have hlen : (txsL (s ++ [10])).length ≤ 200 := by
    by_cases h : txsL (s ++ [10]) = []
    · rw [h]; simp
    · have := gc2 h; omega
  rw [txs_behind _ _ ⟨s, rfl, hs⟩, (inc_tx hn).2, readG_ahead _ _ _ _ _ _ fc (by omega)] at hb
  rw [Nat.zero_add, List.nil_append] at hb
  by_cases hm : 200 < (txsL (s ++ [10])).length + 1
  · rw [readG, if_pos hm] at hb
    injection hb with _ hb; injection hb with _ hb; cases hb
  · have hw := inc_words hn
    rw [readG_inc f [] (incL n) [] _ _ t hm (by rw [hw]; rfl) (by rw [hw]; rfl) (by rw [hw]; simp) (by simp)] at hb
    split at hb
    · rename_i h; rw [hb] at h; exact absurd rfl h
    rename_i h
    rw [readG_nil] at hb
    injection hb with _ hb; injection hb with hb _
    have h0 : (readR (fun x => if x = n then some t else none) f ([] ++ [(wordsL (incL n)).getD 1 []]) ((txsL (s ++ [10])).length + 1) (txsL (s ++ [10])) t).2.2 = 0 := by
      rcases Decidable.em ((readR (fun x => if x = n then some t else none) f ([] ++ [(wordsL (incL n)).getD 1 []]) ((txsL (s ++ [10])).length + 1) (txsL (s ++ [10])) t).2.2 = 0) with e | e
      · exact e
      · exact absurd e h
    rw [readR_eq, if_neg et] at h0 hb
    rw [(readG_flat _ _ _ _ _ fa h0).1] at hb
    rw [← hb, ga, gc]
/-! ### the law FileCycle -/
theorem cycle_law {k : Nat} {nm : Nat → Bl} (hk : k ≤ 8) (hnm : ∀ i, nameE (txt (nm i)) = 0) (hinj : ∀ i j, i ≤ k → j ≤ k → nm i = nm j → i = j) (hT : ∀ i, i ≤ k → T (nm i) = some (incL (nm ((i + 1) % (k + 1))) ++ [10])) :
    ∀ d i, i + d = k + 1 → ∀ f, d ≤ f → ∀ s, (s = incL (nm (i % (k + 1))) ∨ s = incL (nm (i % (k + 1))) ++ [10]) → (readR T f ((List.range i).map nm) i [] s).2.2 = 8 := by
  have hle : ∀ n : Bl, nameE (txt n) = 0 → joinEL (incL n) = 0 ∧ joinEL (incL n ++ [10]) = 0 := by
    intro n hn
    obtain ⟨_, _, _, _, _, h6, h7⟩ := name_facts hn
    have hl : (incL n).length ≤ 48 := by unfold incL incW; simp; omega
    have hbad : badB n = false := by
      unfold badB
      rw [List.any_eq_false]
      intro c hc e
      rw [sign_good (h6 c hc)] at e
      cases e
    have hb1 : badB (incL n) = false := by
      unfold incL
      rw [badB_app, hbad, show badB (incW ++ [32]) = false from by decide]
      rfl
    have hb2 : badB (incL n ++ [10]) = false := by
      rw [badB_app, hb1]
      decide
    have hl2 : (incL n ++ [10]).length ≤ 49 := by rw [List.length_append]; simp; omega
    unfold joinEL
    constructor
    · rw [if_neg (by omega), hb1]; rfl
    · rw [if_neg (by omega), hb2]; rfl
  intro d
  induction d with
  | zero =>
    intro i hi f _ s hs
    obtain rfl : i = k + 1 := by omega
    have hj := hle _ (hnm ((k + 1) % (k + 1)))
    have hx := inc_tx (hnm ((k + 1) % (k + 1)))
    have hr : readR T f ((List.range (k + 1)).map nm) (k + 1) [] s = readG T f ((List.range (k + 1)).map nm) [incL (nm ((k + 1) % (k + 1)))] (k + 1) [] := by
      rcases hs with rfl | rfl
      · rw [readR_eq, if_neg (fun e => e hj.1), hx.1]
      · rw [readR_eq, if_neg (fun e => e hj.2), hx.2]
    have hw := inc_words (hnm ((k + 1) % (k + 1)))
    rw [hr, readG_cyc f _ _ _ _ _ _ (by omega) (by rw [hw]; rfl) (by rw [hw]; rfl) (by rw [hw]; show T (nm ((k + 1) % (k + 1))) = _; rw [Nat.mod_self]; exact hT 0 (by omega)) (by rw [hw]; show nm ((k + 1) % (k + 1)) ∈ _; rw [Nat.mod_self]; exact List.mem_map.2 ⟨0, by simp, rfl⟩)]
  | succ d ih =>
    intro i hi f hf s hs
    obtain ⟨f', rfl⟩ : ∃ f', f = f' + 1 := ⟨f - 1, by omega⟩
    have him : i % (k + 1) = i := Nat.mod_eq_of_lt (by omega)
    rw [him] at hs
    have hj := hle _ (hnm i)
    have hx := inc_tx (hnm i)
    have hr : readR T (f' + 1) ((List.range i).map nm) i [] s = readG T (f' + 1) ((List.range i).map nm) [incL (nm i)] i [] := by
      rcases hs with rfl | rfl
      · rw [readR_eq, if_neg (fun e => e hj.1), hx.1]
      · rw [readR_eq, if_neg (fun e => e hj.2), hx.2]
    have hw := inc_words (hnm i)
    have hw1 : (wordsL (incL (nm i))).getD 1 [] = nm i := by rw [hw]; rfl
    have hop : nm i ∉ (List.range i).map nm := by
      rw [List.mem_map]
      rintro ⟨j, hj, e⟩
      have := hinj j i (by have := List.mem_range.1 hj; omega) (by omega) e
      have := List.mem_range.1 hj
      omega
    have hnext := ih (i + 1) (by omega) f' (by omega) (incL (nm ((i + 1) % (k + 1))) ++ [10]) (.inr rfl)
    rw [List.range_succ, List.map_append] at hnext
    rw [hr, readG_inc f' _ _ _ _ _ _ (by omega) (by rw [hw]; rfl) (by rw [hw]; rfl) (by rw [hw1]; exact hT i (by omega)) (by rw [hw1]; exact hop), hw1]
    rw [show (List.map nm [i]) = [nm i] from rfl] at hnext
    rw [if_pos (by rw [hnext]; decide)]
    exact hnext
end Go.Proofs.YtoiolepengcagaaGreatDoor
namespace Go.Proofs.YtoiolepengcagaaGreatDoor
open Go.RowKit Go.Shelf Go.Maps Go.WideMaps
/-! ### what a line does, plainly -/
section
variable {T : Bl → Option Bl}
/-- a line that includes: how many lines, what is told, the error -/
def incR (T : Bl → Option Bl) (f : Nat) (op : List Bl) (many : Nat) (out : List Bl) (ws : List Bl) : Nat × List Bl × Int :=
  if ws.length ≠ 2 then (many, out, 3) else match T (ws.getD 1 []) with
    | none => (many, out, 5)
    | some t => if ws.getD 1 [] ∈ op then (many, out, 8) else match f with
      | 0 => (many, out, 8)
      | f + 1 => readR T f (op ++ [ws.getD 1 []]) many out t
theorem readG_cons (f : Nat) (op : List Bl) (x : Bl) (l : List Bl) (many : Nat) (out : List Bl) : readG T f op (x :: l) many out =
    if 200 < many + 1 then (many + 1, out, 2) else if (wordsL x).getD 0 [] ≠ incW then readG T f op l (many + 1) (out ++ [x])
    else if (incR T f op (many + 1) out (wordsL x)).2.2 ≠ 0 then incR T f op (many + 1) out (wordsL x) else readG T f op l (incR T f op (many + 1) out (wordsL x)).1 (incR T f op (many + 1) out (wordsL x)).2.1 := by
  rw [readG]
  by_cases h1 : 200 < many + 1
  · rw [if_pos h1, if_pos h1]
  · rw [if_neg h1, if_neg h1]
    by_cases h2 : (wordsL x).getD 0 [] ≠ incW
    · rw [if_pos h2, if_pos h2]
    · rw [if_neg h2, if_neg h2]
      unfold incR
      by_cases h3 : (wordsL x).length ≠ 2
      · simp only [if_pos h3]
        exact (if_pos (show (3 : Int) ≠ 0 by decide)).symm
      · simp only [if_neg h3]
        cases hT : T ((wordsL x).getD 1 []) with
        | none => exact (if_pos (show (5 : Int) ≠ 0 by decide)).symm
        | some t =>
          simp only
          by_cases h4 : (wordsL x).getD 1 [] ∈ op
          · simp only [if_pos h4]
            exact (if_pos (show (8 : Int) ≠ 0 by decide)).symm
          · simp only [if_neg h4]
            cases f with
            | zero => exact (if_pos (show (8 : Int) ≠ 0 by decide)).symm
            | succ f => rfl
theorem txs_drop {s : Bl} {k : Nat} (h : k < (txsL s).length) : (txsL s).drop k = (txsL s).getD k [] :: (txsL s).drop (k + 1) := by
  rw [List.drop_eq_getElem_cons h, List.getD_eq_getElem?_getD, List.getElem?_eq_getElem h]; rfl
theorem blk_sp {c : UInt8} (h : blk c = true) : ([32, 9] : List UInt8).contains c = true := by rw [blk_has]; exact h
/-- a line that is told bears a word -/
theorem trimR_words {l : Bl} (h : Lib.trimRightS l [32, 9] ≠ []) : wordsL (Lib.trimRightS l [32, 9]) ≠ [] := by
  intro e
  rw [words_empty] at e
  unfold Lib.trimRightS at h e
  apply h
  rw [List.reverse_eq_nil_iff]
  cases hd : l.reverse.dropWhile (fun x => ([32, 9] : List UInt8).contains x) with
  | nil => rfl
  | cons c r =>
    exfalso
    have h1 := List.head?_dropWhile_not (p := fun x => ([32, 9] : List UInt8).contains x) (l := l.reverse)
    rw [hd] at h1 e
    have h2 := e c (by simp)
    have h3 : ([32, 9] : List UInt8).contains c = true := blk_sp h2
    rw [List.head?_cons] at h1
    rw [h1] at h3
    cases h3
theorem jg_words : ∀ n s at_, s.length ≤ n → ∀ x ∈ jg s at_, wordsL x.2 ≠ [] := by
  intro n
  induction n with
  | zero =>
    intro s at_ h x hx
    have : s = [] := List.length_eq_zero_iff.1 (by omega)
    subst this
    cases hx
  | succ n ih =>
    intro s at_ h x hx
    by_cases hs : s = []
    · subst hs; cases hx
    · have hl := lg_len _ [] s (at_ + 1) (Nat.le_refl _) hs
      rw [jg_eq hs] at hx
      rcases List.mem_append.1 hx with hx | hx
      · split at hx
        · cases hx
        · rename_i hc
          rw [List.mem_singleton.1 hx]
          exact trimR_words hc
      · exact ih _ _ (by omega) x hx
theorem txs_words {s x : Bl} (h : x ∈ txsL s) : wordsL x ≠ [] := by
  obtain ⟨y, hy, rfl⟩ := List.mem_map.1 h
  exact jg_words _ s 0 (Nat.le_refl _) y hy
theorem txs_len (s : Bl) : (txsL s).length = (joinL s).length := List.length_map ..
end
/-! ### in memory -/
theorem lawT : Keyed Tryz.prog 9 := string_keyed Tryz.underlying9
def rawT (v : Value) : Option (DataW Value × List MemPlace) := some (.held v, [])
/-- the texts that can be included -/
def MapT (w : World) (b n : Nat) (T : Bl → Option Bl) : Prop :=
  ∃ D : DataW Value, w.ownsMap Tryz.prog 9 rawT b n D ∧ (∀ s, D.atKey (.string s) (.held (.string ⟨#[]⟩)) = .held (.string (txt ((T s).getD [])))) ∧ ∀ s, Maps.has D (.string s) = (T s).isSome
theorem MapT.kept {w w' : World} {b n : Nat} {T : Bl → Option Bl} (h : MapT w b n T) {row : Option Nat} (hg : w.grownBy w' row) (hne : some b ≠ row) : MapT w' b n T := by
  obtain ⟨D, h1, h2, h3⟩ := h
  exact ⟨D, h1.kept hg hne, h2, h3⟩
theorem MapT.lt {w : World} {b n : Nat} {T : Bl → Option Bl} (h : MapT w b n T) : b < w.heap.size := by
  obtain ⟨D, h1, _⟩ := h
  exact h1.lt
theorem MapT.below {w w' : World} {b n : Nat} {T : Bl → Option Bl} (h : MapT w b n T) (hb : Below w.heap.size w w') : MapT w' b n T :=
  h.kept (row := none) ⟨hb.os, hb.tape, hb.output, hb.size, fun k hk _ => hb.block k hk⟩ (by simp)
theorem MapT.set {w : World} {b n B i : Nat} {T : Bl → Option Bl} {u : Value} (h : MapT w b n T) (hne : b ≠ B) : MapT (w.setCell ⟨B, i, none⟩ u) b n T :=
  h.kept (grown_setF w _ _) (fun e => by injection e with e; exact hne e)
theorem MapT.look {w : World} {b n : Nat} {T : Bl → Option Bl} (h : MapT w b n T) (s : ByteArray) (hs : s.size ≤ maxLen) :
    Sem.run Tryz.prog (Instr.lookup 67 (.map (some b)) (.string s) true) w = .ok (.tuple #[.string (txt ((T s.data.toList).getD [])), .bool (T s.data.toList).isSome]) w := by
  obtain ⟨D, h1, h2, h3⟩ := h
  obtain ⟨v, ps, hrun, hat⟩ := h1.look_ok lawT Tryz.underlying67 (Tryz.zeroValue9 w) (zd := .held (.string ⟨#[]⟩)) (zp := []) rfl (keyOf_string_mk Tryz.underlying9 hs)
  rw [h2] at hat
  have hv : v = .string (txt ((T s.data.toList).getD [])) := by
    have h4 : (DataW.held v : DataW Value) = .held _ := congrArg Prod.fst (Option.some.inj hat)
    exact DataW.held.inj h4
  subst hv
  rw [h3] at hrun
  exact hrun
/-- where the reader's rows lie -/
structure RR where
  bm : Nat
  nm : Nat
  po : Option Addr
  co : Nat
  pq : Option Addr
  cq : Nat
def RR.o (r : RR) (op : List Bl) : Value := .slice r.po op.length r.co
def RR.q (r : RR) (out : List Bl) : Value := .slice r.pq out.length r.cq
structure RSt (base B : Nat) (T : Bl → Option Bl) (op : List Bl) (many : Nat) (out : List Bl) (r : RR) (w : World) : Prop where
  box : w.heap[B]? = some (.cells #[.map (some r.bm), r.o op, .int .i64 (many : Int), r.q out] 69 (0, 0))
  lt : B < base
  map : MapT w r.bm r.nm T
  mlt : r.bm < B
  rowO : w.ownsRow base 9 1 (r.o op) op.length (strsV (op.map txt))
  rowQ : w.ownsRow base 9 1 (r.q out) out.length (strsV (out.map txt))
  apart : (r.o op).ownBlock = none ∨ (r.o op).ownBlock ≠ (r.q out).ownBlock
  so : ∀ x ∈ op, x.length ≤ 1048576
  sq : ∀ x ∈ out, x.length ≤ 1048576
  lo : op.length ≤ 1000
  lq : out.length ≤ many
  lm : many ≤ 201
/-- what a call keeps: all blocks but the box and two rows -/
structure Kp (w w' : World) (B : Nat) (a b : Option Nat) : Prop where
  os : w'.os = w.os
  tape : w'.tape = w.tape
  output : w'.output = w.output
  size : w.heap.size ≤ w'.heap.size
  block : ∀ k, k < w.heap.size → k ≠ B → some k ≠ a → some k ≠ b → w'.heap[k]? = w.heap[k]?
theorem Kp.refl (w : World) (B : Nat) (a b : Option Nat) : Kp w w B a b := ⟨rfl, rfl, rfl, Nat.le_refl _, fun _ _ _ _ _ => rfl⟩
theorem Kp.of_below {w w' : World} {B : Nat} {a b : Option Nat} (h : Below w.heap.size w w') : Kp w w' B a b := ⟨h.os, h.tape, h.output, h.size, fun k hk _ _ _ => h.block k hk⟩
theorem Kp.trans {w w1 w2 : World} {B : Nat} {a b a1 b1 : Option Nat} (h : Kp w w1 B a b) (h2 : Kp w1 w2 B a1 b1) (ha : a1 = a ∨ ∀ k, a1 = some k → w.heap.size ≤ k) (hb : b1 = b ∨ ∀ k, b1 = some k → w.heap.size ≤ k) : Kp w w2 B a b :=
  ⟨h2.os.trans h.os, h2.tape.trans h.tape, h2.output.trans h.output, Nat.le_trans h.size h2.size, fun k hk h0 h3 h4 => by
    rw [h2.block k (Nat.lt_of_lt_of_le hk h.size) h0 (fun e => by
      rcases ha with rfl | ha
      · exact h3 e
      · have := ha k e.symm; omega) (fun e => by
      rcases hb with rfl | hb
      · exact h4 e
      · have := hb k e.symm; omega)]
    exact h.block k hk h0 h3 h4⟩
theorem Kp.grown {w u z : World} {B : Nat} {a b r : Option Nat} (h : Kp w u B a b) (g : u.grownBy z r) (hr : r = a ∨ r = b ∨ ∀ k, r = some k → w.heap.size ≤ k) : Kp w z B a b :=
  ⟨g.os.trans h.os, g.tape.trans h.tape, g.output.trans h.output, Nat.le_trans h.size g.size, fun k hk h0 h3 h4 => by
    rw [g.block k (Nat.lt_of_lt_of_le hk h.size) (fun e => by
      rcases hr with rfl | rfl | hr
      · exact h3 e
      · exact h4 e
      · have := hr k e.symm; omega)]
    exact h.block k hk h0 h3 h4⟩
theorem Kp.set {w u : World} {B i : Nat} {a b : Option Nat} {x : Value} (h : Kp w u B a b) : Kp w (u.setCell ⟨B, i, none⟩ x) B a b :=
  ⟨h.os, h.tape, h.output, by simp; exact h.size, fun k hk h0 h3 h4 => by rw [heap_setCell_other u _ _ _ h0]; exact h.block k hk h0 h3 h4⟩
/-- a row of another kind stays -/
theorem Kp.row {w w' : World} {B base lo e k n : Nat} {T : Bl → Option Bl} {op : List Bl} {many : Nat} {out : List Bl} {r : RR} {v : Value} {xs : List Value} (h : Kp w w' B (r.o op).ownBlock (r.q out).ownBlock) (hR : RSt base B T op many out r w)
    (hv : w.ownsRow lo e k v n xs) (hlo : B < lo) (he : 9 ≠ e) : w'.ownsRow lo e k v n xs := by
  refine ⟨hv.1, ?_⟩
  rcases hv.2 with h1 | ⟨g, cap, cur, rfl, h2, h3, h4⟩
  · exact .inl h1
  · refine .inr ⟨g, cap, cur, rfl, h2, ?_, h4⟩
    have ho := own_apart (v' := .slice (some ⟨g, 0, none⟩) n cap) hR.rowO ⟨hv.1, .inr ⟨g, cap, cur, rfl, h2, h3, h4⟩⟩ he
    have hq := own_apart (v' := .slice (some ⟨g, 0, none⟩) n cap) hR.rowQ ⟨hv.1, .inr ⟨g, cap, cur, rfl, h2, h3, h4⟩⟩ he
    rw [h.block g (Array.getElem?_eq_some_iff.1 h3).1 (by omega) (fun e => by
      rcases ho with ho | ho
      · rw [ho] at e; cases e
      · exact ho e.symm) (fun e => by
      rcases hq with hq | hq
      · rw [hq] at e; cases e
      · exact hq e.symm)]
    exact h3
section
variable {base B : Nat} {T : Bl → Option Bl} {op : List Bl} {many : Nat} {out : List Bl} {r : RR} {w w5 : World}
theorem RSt.blt (h : RSt base B T op many out r w) : B < w.heap.size := (Array.getElem?_eq_some_iff.1 h.box).1
theorem RSt.below (h : RSt base B T op many out r w) (hb : Below w.heap.size w w5) : RSt base B T op many out r w5 :=
  { h with box := by rw [hb.block B h.blt]; exact h.box
           map := h.map.below hb
           rowO := own_belowR h.rowO hb
           rowQ := own_belowR h.rowQ hb }
theorem RSt.drew (h : RSt base B T op many out r w) : RSt base B T op many out r w.drew := h.below ((Below.refl _ _).drew)
theorem RSt.boxAt (h : RSt base B T op many out r w) {x : Option Nat} (hg : w.grownBy w5 x) (hr : ∀ k, x = some k → base ≤ k) : w5.heap[B]? = some (.cells #[.map (some r.bm), r.o op, .int .i64 (many : Int), r.q out] 69 (0, 0)) := by
  rw [hg.block B h.blt (fun e => by have := hr B e.symm; have := h.lt; omega)]
  exact h.box
/-- one line more is counted -/
theorem RSt.count (h : RSt base B T op many out r w) (hm : many + 1 ≤ 201) : RSt base B T op (many + 1) out r (w.setCell ⟨B, 2, none⟩ (.int .i64 ((many : Int) + 1))) where
  box := (boxF_set h.box (.int .i64 ((many : Int) + 1))).2.2.1
  lt := h.lt
  map := h.map.set (by have := h.mlt; omega)
  mlt := h.mlt
  rowO := own_set h.rowO h.lt
  rowQ := own_set h.rowQ h.lt
  apart := h.apart
  so := h.so
  sq := h.sq
  lo := h.lo
  lq := Nat.le_succ_of_le h.lq
  lm := hm
/-- a text more is told -/
theorem RSt.text (h : RSt base B T op many out r w) {x : Bl} {p : Option Addr} {c : Nat} (hx : x.length ≤ 1048576) (hg : w.grownBy w5 (r.q out).ownBlock) (hl : out.length + 1 ≤ many)
    (ho : w5.ownsRow base 9 1 (.slice p (out.length + 1) c) (out.length + 1) (strsV (out.map txt ++ [txt x])))
    (hlies : (Value.slice p (out.length + 1) c).ownBlock = (r.q out).ownBlock ∨ (Value.slice p (out.length + 1) c).ownBlock = some w.heap.size) :
    w5.heap[B]? = some (.cells #[.map (some r.bm), r.o op, .int .i64 (many : Int), r.q out] 69 (0, 0)) ∧ RSt base B T op many (out ++ [x]) { r with pq := p, cq := c } (w5.setCell ⟨B, 3, none⟩ (.slice p (out.length + 1) c)) := by
  have hb := h.boxAt hg (fun k hk => (h.rowQ.lt k hk).1)
  have hln : (out ++ [x]).length = out.length + 1 := by simp
  refine ⟨hb, ⟨?_, h.lt, ?_, h.mlt, ?_, ?_, ?_, h.so, ?_, h.lo, by rw [hln]; exact hl, h.lm⟩⟩
  · have := (boxF_set hb (.slice p (out.length + 1) c)).2.2.2
    rw [this]
    unfold RR.q
    rw [hln]
    rfl
  · exact (h.map.kept hg (fun e => by have := (h.rowQ.lt _ e.symm).1; have := h.mlt; have := h.lt; omega)).set (by have := h.mlt; show r.bm ≠ B; omega)
  · exact own_step h.rowO hg h.apart h.lt
  · have := own_set (i := 3) (u := .slice p (out.length + 1) c) ho h.lt
    unfold RR.q
    rw [hln, List.map_append]
    exact this
  · show (r.o op).ownBlock = none ∨ (r.o op).ownBlock ≠ _
    unfold RR.q
    rw [hln]
    rcases hlies with e | e
    · rw [e]; exact h.apart
    · rw [e]
      right
      intro e2
      have := (h.rowO.lt _ e2).2
      omega
  · intro y hy
    rcases List.mem_append.1 hy with hy | hy
    · exact h.sq y hy
    · rw [List.mem_singleton.1 hy]; exact hx
end
/-- what a call of read or include leaves -/
def ReadPost (base B : Nat) (T : Bl → Option Bl) (op : List Bl) (out : List Bl) (r : RR) (R : Nat × List Bl × Int) (w : World) (e : Ending) (w' : World) : Prop :=
  e = .returned (.int .i64 R.2.2) ∧ (∃ r', RSt base B T op R.1 R.2.1 r' w' ∧ ((r'.o op).ownBlock = (r.o op).ownBlock ∨ ∀ k, (r'.o op).ownBlock = some k → w.heap.size ≤ k) ∧ ((r'.q R.2.1).ownBlock = (r.q out).ownBlock ∨ ∀ k, (r'.q R.2.1).ownBlock = some k → w.heap.size ≤ k)) ∧ Kp w w' B (r.o op).ownBlock (r.q out).ownBlock ∧ (R.2.2 = 0 → R.1 ≤ 200)
end Go.Proofs.YtoiolepengcagaaGreatDoor
namespace Go.Proofs.YtoiolepengcagaaGreatDoor
open Go.RowKit Go.Shelf Go.Maps
theorem nl_sum (s : Bl) : (nl s).1.length + (nl s).2.length ≤ s.length := by
  induction s with
  | nil => exact Nat.le_refl _
  | cons c s ih =>
    unfold nl
    split
    · simp
    · simp only [List.length_cons]; omega
theorem trimSuf_lt {l : Bl} (h : Lib.hasSuffix l [92] = true) : (Lib.trimSuffix l [92]).length + 1 ≤ l.length := by
  have h1 : 1 ≤ l.length := by
    obtain ⟨a, rfl⟩ := (suf_iff l).1 h
    simp
  unfold Lib.trimSuffix
  rw [if_pos h, List.length_take]
  simp only [List.length_singleton]
  omega
theorem lg_size : ∀ n text s at_, s.length ≤ n → (lg text s at_).1.length + (lg text s at_).2.1.length ≤ text.length + s.length := by
  intro n
  induction n with
  | zero =>
    intro text s at_ h
    have : s = [] := List.length_eq_zero_iff.1 (by omega)
    subst this
    show text.length + 0 ≤ _
    omega
  | succ n ih =>
    intro text s at_ h
    have h1 := nl_sum s
    have h2 := onl_len text (nl s).1
    rw [lg_eq]
    split
    · rename_i hc
      have h3 := trimSuf_lt hc.1
      have hne : s ≠ [] := fun e => by subst e; exact hc.2 rfl
      have h4 : (nl s).2.length < s.length := by
        have : (nl s).2.length + 1 ≤ s.length := by
          have := (suf_iff _).1 hc.1
          obtain ⟨a, ha⟩ := this
          have : 1 ≤ (onl text (nl s).1).length := by rw [ha]; simp
          omega
        omega
      have := ih (text ++ Lib.trimSuffix (onl text (nl s).1) [92] ++ [32]) (nl s).2 (at_ + 1) (by omega)
      rw [List.length_append, List.length_append] at this
      simp only [List.length_singleton] at this
      omega
    · have h3 := trimSuf_len (onl text (nl s).1) [92]
      simp only [List.length_append]
      omega
theorem jg_size : ∀ n s at_, s.length ≤ n → ∀ x ∈ jg s at_, x.2.length ≤ s.length := by
  intro n
  induction n with
  | zero =>
    intro s at_ h x hx
    have : s = [] := List.length_eq_zero_iff.1 (by omega)
    subst this
    cases hx
  | succ n ih =>
    intro s at_ h x hx
    by_cases hs : s = []
    · subst hs; cases hx
    · have hl := lg_len _ [] s (at_ + 1) (Nat.le_refl _) hs
      have hz := lg_size _ [] s (at_ + 1) (Nat.le_refl _)
      rw [jg_eq hs] at hx
      rcases List.mem_append.1 hx with hx | hx
      · split at hx
        · cases hx
        · rw [List.mem_singleton.1 hx]
          have := cutl_len (lg [] s (at_ + 1)).1
          simp only at this ⊢
          simp only [List.length_nil] at hz
          omega
      · have := ih _ _ (by omega) x hx
        omega
theorem joinL_size {s : Bl} {x : Ln} (h : x ∈ joinL s) : x.2.length ≤ s.length := jg_size _ s 0 (Nat.le_refl _) x h
theorem joinEL_eq (s : ByteArray) : joinE s = joinEL s.data.toList := by
  unfold joinE joinEL
  rw [ba_len]
theorem txs_at {s : Bl} {j : Nat} {x : Ln} (h : (joinL s)[j]? = some x) : (txsL s).getD j [] = x.2 := by
  unfold txsL
  rw [List.getD_eq_getElem?_getD, List.getElem?_map, h]
  rfl
theorem RSt.cells {base B : Nat} {T : Bl → Option Bl} {op : List Bl} {many : Nat} {out : List Bl} {r : RR} {w : World} (h : RSt base B T op many out r w) :
    (w.cell? ⟨B, 0, none⟩ = some (.map (some r.bm)) ∧ w.cell? ⟨B, 1, none⟩ = some (.slice r.po op.length r.co) ∧ w.cell? ⟨B, 2, none⟩ = some (.int .i64 (many : Int)) ∧ w.cell? ⟨B, 3, none⟩ = some (.slice r.pq out.length r.cq)) ∧ ∀ o, w.frozen? ⟨B, o, none⟩ = false := boxF h.box
/-- append of one string, as one step of a region that draws -/
theorem step_strL {ops : Array Oper} {o : Oper} {a : Act} {w : World} {K : Act → World → Prop} {Q : Exit → Act → World → Prop} {E : Prop} (hg : o.guard = none) (s x : Operand)
    (ho : o.op = .call { callee := .builtin .append, args := #[s, x], argTypes := #[23, 23] })
    (base : Nat) (v : Value) (n : Nat) (xs : List ByteArray) (hs : a.eval s = v) (hown : w.ownsRow base 9 1 v n (strsV xs))
    (g : Nat) (u : ByteArray) (hx : a.eval x = .slice (some ⟨g, 0, none⟩) 1 1) (hcell : w.cell? ⟨g, 0, none⟩ = some (.string u))
    (hn : n < 8796093022208) (hbase : base ≤ w.heap.size)
    (h : ∀ v' w', w'.ownsRow base 9 1 v' (n + 1) (strsV (xs ++ [u])) → w.grownBy w' v.ownBlock → (v'.ownBlock = v.ownBlock ∨ v'.ownBlock = some w.heap.size) → K (a.put o.dst v') w') :
    if Region.wanted o (yielded ops a.tmps) = true then Oper.wp Tryz.prog o a w K Q else E := by
  have hw : Region.wanted o (yielded ops a.tmps) = true := by simp [Region.wanted, hg]
  rw [if_pos hw]
  obtain ⟨i0, hi, hz0, hz1, hz2⟩ := info_parts info_strF
  obtain ⟨v', w', hr, h2, h3, _, h6⟩ := run_append_own_at (P := Tryz.prog) w base 23 o.type 9 i0 (.string ⟨#[]⟩) 1 16 Tryz.underlying23 hi hz0 hz1 hz2 rfl (by decide) v n (strsV xs) hown ⟨g, 0, none⟩ 1 1 [.string u] rfl (by
    intro j q hj
    match j, hj with
    | 0, hj => simp at hj; subst hj; simpa [Addr.add] using hcell) (by intro q hq; simp at hq; subst hq; rfl) (by unfold maxLen; omega) (by omega) hbase
  unfold Oper.wp execOp
  simp only [ho, resolve, invoke, builtin, Sem.run_bind, Sem.run_pure, Result.andThen_ok, List.map_toArray, List.map_cons, List.map_nil, hs, hx, hr]
  exact h v' w' (by rw [strsV_snoc]; exact h2) h3 h6
/-- what include does at a line's words -/
def IncOk (base B : Nat) (T : Bl → Option Bl) (f : Nat) (op : List Bl) (x : Bl) : Prop :=
  ∀ (many : Nat) (out : List Bl) (r : RR) (p : Option Addr) (c : Nat) (u : World), RSt base B T op many out r u → many ≤ 200 → base ≤ u.heap.size → ML u → NL u p (wordsL x).length c (wb x) →
    Calls Tryz.prog 67 #[.pointer (some ⟨B, 0, none⟩), .slice p (wordsL x).length c] u (ReadPost base B T op out r (incR T f op many out (wordsL x)) u)
theorem wb_len2 (x : Bl) : (wb x).length = (wordsL x).length := List.length_map ..
theorem wb_at (x : Bl) (k : Nat) : (wb x).getD k ByteArray.empty = txt ((wordsL x).getD k []) := by
  unfold wb
  rw [List.getD_eq_getElem?_getD, List.getD_eq_getElem?_getD, List.getElem?_map]
  cases (wordsL x)[k]? <;> rfl
theorem ML.kp {w w' : World} {B : Nat} {a b : Option Nat} (h : ML w) (hK : Kp w w' B a b) (hg : 0 < B) (ha : ∀ k, a = some k → B ≤ k) (hb : ∀ k, b = some k → B ≤ k) : ML w' := by
  have hl := h.lt
  obtain ⟨m, h⟩ := h
  refine ⟨m, ?_⟩
  unfold World.cell? at h ⊢
  rw [hK.block 0 hl (by omega) (fun e => by have := ha _ e.symm; omega) (fun e => by have := hb _ e.symm; omega)]
  exact h
theorem inc_cmp (l : Bl) : ((txt l).toList == ([105, 110, 99, 108, 117, 100, 101] : List UInt8)) = decide (l = incW) := by
  rw [Lib.toList_data, txt_list, Bool.eq_iff_iff, beq_iff_eq, decide_eq_true_iff]
  rfl
theorem joinE_size {s : ByteArray} (h : joinE s = 0) : s.size ≤ 20000 := by
  unfold joinE at h
  split at h
  · cases h
  · omega
set_option maxHeartbeats 8000000 in
set_option maxRecDepth 100000 in
theorem read_ok (base B : Nat) (T : Bl → Option Bl) (f : Nat) (op : List Bl) (many : Nat) (out : List Bl) (r : RR) (s : ByteArray) (w : World) (h : RSt base B T op many out r w) (hbase : base ≤ w.heap.size) (hM : ML w) (hs : s.size ≤ 4611686018427387904) (hm0 : many ≤ 200) (hg : 0 < B)
    (HI : joinE s = 0 → ∀ x ∈ txsL s.data.toList, (wordsL x).getD 0 [] = incW → IncOk base B T f op x) :
    Calls Tryz.prog 29 #[.pointer (some ⟨B, 0, none⟩), .string s] w (ReadPost base B T op out r (readR T f op many out s.data.toList) w) := by
  have HR := Lib.hid h
  have HBS := Lib.hid hbase
  have HML := Lib.hid hM
  have HII := Lib.hid HI
  have hJ := JoinE_ok s (by omega) w hM
  have hBw := h.blt
  have hBb := h.lt
  clear h hM HI
  by_cases hE : joinE s = 0
  · have HE0 := Lib.hid hE
    have hs : s.size ≤ 1048576 := by
      have h0 := hE
      unfold joinE at h0
      split at h0
      · cases h0
      · omega
    have hRR : readR T f op many out s.data.toList = readG T f op (txsL s.data.toList) many out := by rw [readR_eq, ← joinEL_eq, hE]; rfl
    have HRR := Lib.hid hRR
    have hJ2 : Calls Tryz.prog 65 #[.string s] w fun e w' => (∃ po co, e = .returned (.tuple #[.slice po (joinL s.data.toList).length co, .int .i64 0]) ∧ w'.ownsRow w.heap.size 125 2 (.slice po (joinL s.data.toList).length co) (joinL s.data.toList).length (cells2 lF lG (joinL s.data.toList))) ∧ Below w.heap.size w w' := by
      refine hJ.mono ?_
      rintro e w' ⟨h1 | ⟨_, po, co, h2, h3⟩, hb⟩
      · exact absurd hE h1.1
      · exact ⟨⟨po, co, h2, h3⟩, hb⟩
    have HJ := Lib.hid hJ2
    have hln : (joinL s.data.toList).length ≤ 1048576 := by have := joinL_len s.data.toList; rw [ba_len] at this; omega
    have HTL := Lib.hid (txs_len s.data.toList)
    have HTA : Hid (∀ (j : Nat) (x : Ln), (joinL s.data.toList)[j]? = some x → (txsL s.data.toList).getD j [] = x.2 ∧ x.2.length ≤ 1048576 ∧ wordsL x.2 ≠ [] ∧ x.2 ∈ txsL s.data.toList) := by
      show ∀ (j : Nat) (x : Ln), _
      intro j x hx
      have hm := List.mem_of_getElem? hx
      have := joinL_size hm
      rw [ba_len] at this
      have hm2 : x.2 ∈ txsL s.data.toList := List.mem_map.2 ⟨x, hm, rfl⟩
      exact ⟨txs_at hx, by omega, txs_words hm2, hm2⟩
    clear hJ hJ2 hRR hE
    generalize txsL s.data.toList = tx at *
    generalize joinL s.data.toList = L at *
    go_enter Tryz.func29, Tryz.ntmps29
    go_upto_region 4 with (go_at_call 65; refine HJ.out.mono ?_; rintro e w1 ⟨⟨po, co, rfl, hown⟩, hb⟩; have HO := Lib.hid hown; have HB1 := Lib.hid hb; clear hown hb)
    go_wp2_with fail
    go_loopw [21] (fun i wr => ∃ (j m : Nat) (o : List Bl) (r' : RR), j ≤ L.length ∧ m ≤ 200 ∧ i = .int .i64 j ∧ Hid (RSt base B T op m o r' wr) ∧ Hid (readR T f op many out s.data.toList = readG T f op (tx.drop j) m o) ∧ Hid (Kp w wr B (r.o op).ownBlock (r.q out).ownBlock) ∧
      Hid ((r'.o op).ownBlock = (r.o op).ownBlock ∨ ∀ k, (r'.o op).ownBlock = some k → w.heap.size ≤ k) ∧ Hid ((r'.q o).ownBlock = (r.q out).ownBlock ∨ ∀ k, (r'.q o).ownBlock = some k → w.heap.size ≤ k) ∧ Hid (wr.ownsRow w.heap.size 125 2 (.slice po L.length co) L.length (cells2 lF lG L))) (fun i _ => L.length - (intOf i).toNat)
    case atStart => exact ⟨0, many, out, r, Nat.zero_le _, hm0, rfl, HR.out.below HB1.out, by rw [List.drop_zero]; exact HRR.out, Kp.of_below HB1.out, .inl rfl, .inl rfl, HO.out⟩
    case round =>
      obtain ⟨j, m, o, r', hj, hm200, rfl, HS, HG, HK, HFO, HFQ, HL⟩ := hrel
      by_cases hlt : j < L.length
      · obtain ⟨x, hx⟩ : ∃ x, L[j]? = some x := ⟨L[j], List.getElem?_eq_getElem hlt⟩
        obtain ⟨hxt, hxs, hxw, hxm⟩ := HTA.out j x hx
        have hP : P2At lF lG wr po L.length co L := P2At.own HL.out (by omega)
        obtain ⟨bb, ob, rfl, hbb, hca, hcb⟩ := hP.cell hx
        have hcb2 : wr.cell? ⟨bb, ob + j * 2 + 1, none⟩ = some (lG x) := hcb
        have HTD : Hid (tx.drop j = x.2 :: tx.drop (j + 1)) := by
          show _ = _
          have hjt : j < tx.length := by rw [HTL.out]; exact hlt
          rw [List.drop_eq_getElem_cons hjt]
          congr 1
          have : tx.getD j [] = tx[j] := by rw [List.getD_eq_getElem?_getD, List.getElem?_eq_getElem hjt]; rfl
          rw [← this, hxt]
        have HXM := Lib.hid hxm
        have HXW := Lib.hid hxw
        clear hP hcb hxt hxm hxw hx
        obtain ⟨a, x⟩ := x
        simp only [lF, lG] at hca hcb2
        simp only at hxs HTD HXM HXW
        have hBwr : B < wr.heap.size := HS.out.blt
        have hww : w.heap.size ≤ wr.heap.size := HK.out.size
        obtain ⟨X, hX⟩ : ∃ X, X = wr.alloc (.cells #[.int .i64 (a : Int), .string (txt x)] 125) := ⟨_, rfl⟩
        have hbX : Below wr.heap.size wr X := by rw [hX]; exact rb1w _ _
        have hx1 : X.heap[wr.heap.size]? = some (.cells #[.int .i64 (a : Int), .string (txt x)] 125 (0, 0)) := by rw [hX]; exact rb_new _ _
        have HSX := Lib.hid (HS.out.below hbX)
        obtain ⟨⟨c0, c1, c2, c3⟩, c4⟩ := HSX.out.cells
        obtain ⟨Y, hY⟩ : ∃ Y, Y = X.setCell ⟨B, 2, none⟩ (.int .i64 ((m : Int) + 1)) := ⟨_, rfl⟩
        have HSY : Hid (RSt base B T op (m + 1) o r' Y) := by show RSt _ _ _ _ _ _ _ _; rw [hY]; exact HSX.out.count (by omega)
        have hYs : Y.heap.size = X.heap.size := by rw [hY]; simp
        have hXs : X.heap.size = wr.heap.size + 1 := by rw [hX]; simp
        have hy1 : Y.heap[wr.heap.size]? = some (.cells #[.int .i64 (a : Int), .string (txt x)] 125 (0, 0)) := by
          rw [hY, heap_setCell_other X _ _ _ (show wr.heap.size ≠ B by omega)]
          exact hx1
        have HKY : Hid (Kp wr Y B (r'.o op).ownBlock (r'.q o).ownBlock) := by show Kp _ _ _ _ _; rw [hY]; exact (Kp.of_below hbX).set
        have HKW := Lib.hid (HK.out.trans HKY.out HFO.out HFQ.out)
        have HLY := Lib.hid (HKY.out.row HS.out HL.out (by have := HBS.out; omega) (by decide))
        go_upto_region 7 with fail
        rw [← hX]
        clear hX hca hcb2
        go_upto_region 8 with fail
        rw [← hY]
        clear hY c0 c1 c2 c3 c4 hx1 hbX
        obtain ⟨⟨c0, c1, c2, c3⟩, c4⟩ := HSY.out.cells
        have hc2 : Y.cell? ⟨B, 2, none⟩ = some (.int .i64 ((m : Int) + 1)) := c2
        clear c2
        obtain ⟨y0, y1, y2⟩ := rb_cells hy1
        by_cases hm : 200 < m + 1
        · have hd : decide ((200 : Int) < (m : Int) + 1) = true := decide_eq_true (by omega)
          have HE : Hid (readR T f op many out s.data.toList = (m + 1, o, 2)) := by
            show _ = _
            rw [HG.out, HTD.out, readG_cons, if_pos hm]
          go_wp2
          go_ret
          rw [HE.out]
          exact ⟨rfl, ⟨r', HSY.out, HFO.out, HFQ.out⟩, HKW.out, fun e => by cases e⟩
        · have hd : decide ((200 : Int) < (m : Int) + 1) = false := decide_eq_false (by omega)
          have HNM := Lib.hid hm
          have hWd := Words_ok (txt x) Y (by rw [txt_size]; omega)
          rw [txt_list] at hWd
          have HWD := Lib.hid hWd
          clear hWd hm
          have hw0 : 0 < (wordsL x).length := by
            rcases Nat.eq_zero_or_pos (wordsL x).length with e | e
            · exact absurd (List.length_eq_zero_iff.1 e) HXW.out
            · exact e
          go_upto_region 11 with (go_at_call 66; refine HWD.out.mono ?_; rintro e w5 ⟨A, rfl, _, hnl, hb⟩; rw [wb_len2] at hnl ⊢; have HN5 := Lib.hid hnl; have HB5 := Lib.hid hb; clear hnl hb)
          obtain ⟨⟨c0, c1, c2, c3⟩, c4⟩ := (HSY.out.below HB5.out).cells
          obtain ⟨y0, y1, y2⟩ := rb_cells (show w5.heap[wr.heap.size]? = some (.cells #[.int .i64 (a : Int), .string (txt x)] 125 (0, 0)) from by rw [HB5.out.block _ (by omega)]; exact hy1)
          have hwc : w5.cell? ⟨A, 0, none⟩ = some (.string (txt ((wordsL x).getD 0 []))) := by
            have := HN5.out.weak.cellAt 0 (by rw [wb_len2]; exact hw0)
            rw [wb_at] at this
            exact this
          have HS5 := Lib.hid (HSY.out.below HB5.out)
          have HL5 := Lib.hid (own_belowR HLY.out HB5.out)
          have HK5 := Lib.hid (HKW.out.trans (Kp.of_below (B := B) (a := (r.o op).ownBlock) (b := (r.q out).ownBlock) HB5.out) (.inl rfl) (.inl rfl))
          have hsz5 : Y.heap.size ≤ w5.heap.size := HB5.out.size
          clear hy1
          by_cases hinc : (wordsL x).getD 0 [] = incW
          · have HIC := Lib.hid hinc
            rw [hinc] at hwc
            have hcmp : ((txt incW).toList == ([105, 110, 99, 108, 117, 100, 101] : List UInt8)) = true := by rw [inc_cmp]; rfl
            have hml5 : ML w5 := HML.out.kp HK5.out hg (fun k hk => by have := (HR.out.rowO.lt k hk).1; omega) (fun k hk => by have := (HR.out.rowQ.lt k hk).1; omega)
            have hin := HII.out HE0.out x HXM.out hinc (m + 1) o r' (some ⟨A, 0, none⟩) (wordsL x).length w5 HS5.out (by have := HNM.out; omega) (by have := HBS.out; omega) hml5 HN5.out
            have HRI : Hid (readR T f op many out s.data.toList = if (incR T f op (m + 1) o (wordsL x)).2.2 ≠ 0 then incR T f op (m + 1) o (wordsL x) else readG T f op (tx.drop (j + 1)) (incR T f op (m + 1) o (wordsL x)).1 (incR T f op (m + 1) o (wordsL x)).2.1) := by
              show _ = _
              rw [HG.out, HTD.out, readG_cons, if_neg HNM.out, if_neg (fun e => e hinc)]
            unfold ReadPost at hin
            obtain ⟨R, hR⟩ : ∃ R, R = incR T f op (m + 1) o (wordsL x) := ⟨_, rfl⟩
            rw [← hR] at hin HRI
            obtain ⟨m6, o6, E⟩ := R
            simp only at hin HRI
            have HIN := Lib.hid hin
            clear hin hml5 hinc hR
            by_cases hE : E = 0
            · subst hE
              have HRN : Hid (readR T f op many out s.data.toList = readG T f op (tx.drop (j + 1)) m6 o6) := by show _ = _; rw [HRI.out, if_neg (by decide)]
              go_wp2_with (go_at_call 67; refine HIN.out.mono ?_; rintro e w6 ⟨rfl, ⟨r6, hs6, hfo6, hfq6⟩, hk6, hm6⟩; have HS6 := Lib.hid hs6; have HFO6 := Lib.hid hfo6; have HFQ6 := Lib.hid hfq6; have HK6 := Lib.hid hk6; have HM6 := Lib.hid hm6; clear hs6 hfo6 hfq6 hk6 hm6)
              go_roundw
              case rel =>
                have hww5 : w.heap.size ≤ w5.heap.size := by omega
                refine ⟨j + 1, m6, o6, r6, by omega, HM6.out trivial, by go_num, HS6.out, HRN.out, HK5.out.trans HK6.out HFO.out HFQ.out, ?_, ?_, HK6.out.row HS5.out HL5.out (by have := HBS.out; omega) (by decide)⟩
                · show _ ∨ _
                  rcases HFO6.out with e | e
                  · rw [e]; exact HFO.out
                  · exact .inr (fun k hk => Nat.le_trans hww5 (e k hk))
                · show _ ∨ _
                  rcases HFQ6.out with e | e
                  · rw [e]; exact HFQ.out
                  · exact .inr (fun k hk => Nat.le_trans hww5 (e k hk))
              case measure => simp [intOf]; omega
            · obtain ⟨i1, i2⟩ := int_ne' hE
              have HNE := Lib.hid hE
              have HRN : Hid (readR T f op many out s.data.toList = (m6, o6, E)) := by show _ = _; rw [HRI.out, if_pos hE]
              clear hE
              go_wp2_with (go_at_call 67; refine HIN.out.mono ?_; rintro e w6 ⟨rfl, ⟨r6, hs6, hfo6, hfq6⟩, hk6, hm6⟩; have HS6 := Lib.hid hs6; have HFO6 := Lib.hid hfo6; have HFQ6 := Lib.hid hfq6; have HK6 := Lib.hid hk6; clear hs6 hfo6 hfq6 hk6 hm6)
              go_ret
              rw [HRN.out]
              have hww5 : w.heap.size ≤ w5.heap.size := by omega
              refine ⟨rfl, ⟨r6, HS6.out, ?_, ?_⟩, HK5.out.trans HK6.out HFO.out HFQ.out, fun e => absurd e HNE.out⟩
              · rcases HFO6.out with e | e
                · rw [e]; exact HFO.out
                · exact .inr (fun k hk => Nat.le_trans hww5 (e k hk))
              · rcases HFQ6.out with e | e
                · rw [e]; exact HFQ.out
                · exact .inr (fun k hk => Nat.le_trans hww5 (e k hk))
          · have hcmp : ((txt ((wordsL x).getD 0 [])).toList == ([105, 110, 99, 108, 117, 100, 101] : List UInt8)) = false := by rw [inc_cmp]; exact decide_eq_false hinc
            have HRN : Hid (readR T f op many out s.data.toList = readG T f op (tx.drop (j + 1)) (m + 1) (o ++ [x])) := by
              show _ = _
              rw [HG.out, HTD.out, readG_cons, if_neg HNM.out, if_pos hinc]
            clear hinc
            generalize (wordsL x).getD 0 [] = w0 at *
            obtain ⟨XO, hXO⟩ : ∃ XO, XO = Obj.cells #[.string (txt x)] 9 := ⟨_, rfl⟩
            have HSA : Hid (RSt base B T op (m + 1) o r' (w5.alloc XO).drew) := (HS5.out.below (rb1w w5 XO)).drew
            have XC0 : Hid ((w5.alloc XO).drew.cell? ⟨w5.heap.size, 0, none⟩ = some (.string (txt x))) := by show (w5.alloc XO).cell? _ = _; rw [hXO, World.cell?_alloc_at _ _ _ _ rfl]; rfl
            have HBA : Hid (base ≤ (w5.alloc XO).drew.heap.size) := by show base ≤ (w5.alloc XO).heap.size; have := HBS.out; simp; omega
            have HBX : Hid (Below w5.heap.size w5 (w5.alloc XO).drew) := (rb1w w5 XO).drew
            rw [hXO] at HSA XC0 HBA HBX
            clear hXO
            have hB5 : B < w5.heap.size := by omega
            have hwr5 : wr.heap.size < w5.heap.size := by omega
            go_upto_region 12 with fail
            go_region_law (refine step_strL rfl _ _ rfl base _ o.length (o.map txt) rfl HSA.out.rowQ w5.heap.size (txt x) rfl XC0.out (by have := HS.out.lq; omega) HBA.out ?_; intro v' w6 hown6 hgrow6 hlies6; obtain ⟨p6, c6, rfl⟩ := slice_form hown6; have h6 := HSA.out.text hxs hgrow6 (by have := HS.out.lq; omega) hown6 hlies6; have H6 := Lib.hid h6.2; have HG6 := Lib.hid hgrow6; have HL6 := Lib.hid hlies6; obtain ⟨⟨b0, b1, b2, b3⟩, b4⟩ := boxF h6.1; have hblt := (Array.getElem?_eq_some_iff.1 h6.1).1; clear h6 hown6 hgrow6 hlies6)
            all_goals
              go_wp2
              go_roundw
              case rel =>
                have hww5 : w.heap.size ≤ w5.heap.size := by omega
                refine ⟨j + 1, m + 1, o ++ [x], _, by omega, by have := HNM.out; omega, by go_num, H6.out, HRN.out, ?_, HFO.out, ?_, ?_⟩
                · show Kp _ _ _ _ _
                  refine ((HK5.out.trans (Kp.of_below HBX.out) (.inl rfl) (.inl rfl)).grown HG6.out ?_).set
                  rcases HFQ.out with e | e
                  · exact .inr (.inl e)
                  · exact .inr (.inr e)
                · show _ ∨ _
                  have hln : (o ++ [x]).length = o.length + 1 := by simp
                  show (Value.slice p6 (o ++ [x]).length c6).ownBlock = _ ∨ ∀ k, (Value.slice p6 (o ++ [x]).length c6).ownBlock = some k → _
                  rw [hln]
                  rcases HL6.out with e | e
                  · rw [e]; exact HFQ.out
                  · rw [e]; exact .inr (fun k hk => by injection hk with hk; subst hk; show _ ≤ (w5.alloc _).heap.size; simp; omega)
                · show World.ownsRow _ _ _ _ _ _ _
                  have h1 := own_belowR HL5.out HBX.out
                  exact own_step h1 HG6.out (own_apart h1 HSA.out.rowQ (by decide)) (by have := HBS.out; omega)
              case measure => simp [intOf]; omega
      · obtain rfl : j = L.length := by omega
        have HE : Hid (readR T f op many out s.data.toList = (m, o, 0)) := by
          show _ = _
          rw [HG.out, List.drop_of_length_le (by rw [HTL.out]; exact Nat.le_refl _), readG_nil]
        go_wp2
        go_ret
        rw [HE.out]
        exact ⟨rfl, ⟨r', HS.out, HFO.out, HFQ.out⟩, HK.out, fun _ => hm200⟩
  · obtain ⟨i1, i2⟩ := int_ne' hE
    have HNE := Lib.hid hE
    have HE : Hid (readR T f op many out s.data.toList = (many, out, joinE s)) := by show _ = _; rw [readR_eq, ← joinEL_eq, if_pos hE]
    have hJ2 : Calls Tryz.prog 65 #[.string s] w fun e w' => e = .returned (.tuple #[.slice none 0 0, .int .i64 (joinE s)]) ∧ Below w.heap.size w w' := by
      refine hJ.mono ?_
      rintro e w' ⟨h1 | ⟨h0, _⟩, hb⟩
      · exact ⟨h1.2, hb⟩
      · exact absurd h0 hE
    have HJ := Lib.hid hJ2
    clear hJ hJ2 hE
    generalize joinE s = E at *
    go_enter Tryz.func29, Tryz.ntmps29
    go_wp2_with (go_at_call 65; refine HJ.out.mono ?_; rintro e w1 ⟨rfl, hb⟩; have HB1 := Lib.hid hb; clear hb)
    go_ret
    rw [HE.out]
    exact ⟨rfl, ⟨r, HR.out.below HB1.out, .inl rfl, .inl rfl⟩, Kp.of_below HB1.out, fun e => absurd e HNE.out⟩
end Go.Proofs.YtoiolepengcagaaGreatDoor
namespace Go.Proofs.YtoiolepengcagaaGreatDoor
open Go.RowKit Go.Shelf Go.Maps
set_option maxHeartbeats 4000000 in
set_option maxRecDepth 100000 in
/-- where there are no texts, a line that includes is an error -/
theorem inc_none (base B : Nat) (f : Nat) (op : List Bl) (x : Bl) (hx : x.length ≤ 1048576) : IncOk base B (fun _ => none) f op x := by
  intro many out r p c u hR hm hb hML hN
  obtain ⟨W, hW⟩ : ∃ W, W = u.alloc (.cells #[.pointer (some ⟨B, 0, none⟩)] 66) := ⟨_, rfl⟩
  have hBW : Below u.heap.size u W := by rw [hW]; exact rb1w _ _
  have hp : W.cell? ⟨u.heap.size, 0, none⟩ = some (.pointer (some ⟨B, 0, none⟩)) := by rw [hW, World.cell?_alloc_at _ _ _ _ rfl]; rfl
  have HRW := Lib.hid (hR.below hBW)
  have HNW := Lib.hid (hN.below hBW)
  have HKW : Hid (Kp u W B (r.o op).ownBlock (r.q out).ownBlock) := Kp.of_below hBW
  by_cases h2 : (wordsL x).length = 2
  · have hinc : incR (fun _ => none) f op many out (wordsL x) = (many, out, 5) := by unfold incR; rw [if_neg (by rw [h2]; decide)]
    obtain ⟨⟨c0, c1, c2, c3⟩, c4⟩ := HRW.out.cells
    have h12 : 1 < (wordsL x).length := by omega
    obtain ⟨ad, rfl, _, _⟩ := str_at HNW.out.at_.reads h12
    obtain ⟨b, o, rfl, _⟩ := HNW.out.plain ad rfl
    have hwc : W.cell? ⟨b, o + 1, none⟩ = some (.string (txt ((wordsL x).getD 1 []))) := by
      have := HNW.out.weak.cellAt 1 (by rw [wb_len2]; exact h12)
      rw [wb_at] at this
      exact this
    have hsz : (txt ((wordsL x).getD 1 [])).size ≤ maxLen := by
      have h1 := wb_size x (txt ((wordsL x).getD 1 [])) (by rw [← wb_at, List.getD_eq_getElem?_getD, List.getElem?_eq_getElem (by rw [wb_len2]; exact h12)]; exact List.getElem_mem _)
      unfold maxLen
      omega
    have hlk : ∀ q, Sem.run Tryz.prog (Instr.lookup 67 (.map (some r.bm)) (.string (txt ((wordsL x).getD 1 []))) true) (W.drewN q) = .ok (.tuple #[.string ⟨#[]⟩, .bool false]) (W.drewN q) := by
      intro q
      exact (HRW.out.map.below (below_drawsP (Below.refl _ _) q)).look _ hsz
    have hlk0 := hlk 0
    have hlk1 := hlk 1
    have h2i : ((2 : Nat) : Int) = 2 := rfl
    rw [hinc]
    rw [h2]
    clear h12 hsz
    generalize (wordsL x).getD 1 [] = w1 at *
    go_enter_defers Tryz.func67, Tryz.ntmps67
    go_upto_region 1 with fail
    rw [← hW]
    clear hW
    go_upto_region 3 with fail
    go_quiet (fail)
    go_wp2
    exact ⟨_, results_tmp rfl _ _ _, rfl, ⟨r, HRW.out.below (below_drawsP (Below.refl _ _) nq), .inl rfl, .inl rfl⟩, HKW.out.trans (Kp.of_below (below_drawsP (Below.refl _ _) nq)) (.inl rfl) (.inl rfl), fun e => by cases e⟩
  · have hinc : incR (fun _ => none) f op many out (wordsL x) = (many, out, 3) := by unfold incR; rw [if_pos h2]
    have hd : (((wordsL x).length : Int) == 2) = false ∧ (((wordsL x).length : Int) != 2) = true := by
      have : ¬ ((wordsL x).length : Int) = 2 := by omega
      exact ⟨by simpa using this, by simpa using this⟩
    obtain ⟨d1, d2⟩ := hd
    rw [hinc]
    go_enter_defers Tryz.func67, Tryz.ntmps67
    go_upto_region 1 with fail
    rw [← hW]
    clear hW
    go_wp2
    exact ⟨_, results_tmp rfl _ _ _, rfl, ⟨r, HRW.out, .inl rfl, .inl rfl⟩, HKW.out, fun e => by cases e⟩
/-- what Lines answers -/
def LinesPost (w : World) (R : Nat × List Bl × Int) (e : Ending) (w' : World) : Prop :=
  ((R.2.2 ≠ 0 ∧ e = .returned (.tuple #[.slice none 0 0, .int .i64 R.2.2])) ∨ (R.2.2 = 0 ∧ R.2.1.length ≤ 201 ∧ ∃ p c, e = .returned (.tuple #[.slice p R.2.1.length c, .int .i64 0]) ∧ NL w' p R.2.1.length c (R.2.1.map txt))) ∧ Below w.heap.size w w'
theorem MapT.made (w : World) : MapT (w.alloc (.map #[] 0)) w.heap.size 0 (fun _ => none) :=
  ⟨.map [], World.ownsMap_made _ _ _ _, fun _ => rfl, fun s => by simp [Maps.has]⟩
theorem Kp.belowOf {w w' : World} {B lo : Nat} {a b : Option Nat} (h : Kp w w' B a b) (hB : lo ≤ B) (hl : lo ≤ w.heap.size) (ha : ∀ k, a = some k → lo ≤ k) (hb : ∀ k, b = some k → lo ≤ k) : Below lo w w' :=
  ⟨h.os, h.tape, h.output, h.size, fun k hk => h.block k (by omega) (by omega) (fun e => by have := ha k e.symm; omega) (fun e => by have := hb k e.symm; omega)⟩
theorem RSt.start {w : World} {base B : Nat} {T : Bl → Option Bl} {bm nm : Nat} (hb : w.heap[B]? = some (.cells #[.map (some bm), .slice none 0 0, .int .i64 0, .slice none 0 0] 69 (0, 0))) (hl : B < base) (hm : MapT w bm nm T) (hml : bm < B) : RSt base B T [] 0 [] ⟨bm, nm, none, 0, none, 0⟩ w where
  box := hb
  lt := hl
  map := hm
  mlt := hml
  rowO := World.ownsRow_nil _ _ _ _
  rowQ := World.ownsRow_nil _ _ _ _
  apart := .inl rfl
  so := fun x hx => by cases hx
  sq := fun x hx => by cases hx
  lo := by show 0 ≤ _; omega
  lq := Nat.le_refl _
  lm := by omega
theorem RSt.outNL {base B : Nat} {T : Bl → Option Bl} {op : List Bl} {many : Nat} {out : List Bl} {r : RR} {w : World} (h : RSt base B T op many out r w) : NL w r.pq out.length r.cq (out.map txt) :=
  NL_own (by have := h.rowQ; exact this) (fun x hx => by
    obtain ⟨y, hy, rfl⟩ := List.mem_map.1 hx
    have := h.sq y hy
    rw [txt_size]
    omega) (by have := h.lq; have := h.lm; omega)
set_option maxHeartbeats 4000000 in
set_option maxRecDepth 100000 in
theorem LinesN_ok (s : ByteArray) (hs : s.size ≤ 4611686018427387904) (w : World) (hM : ML w) :
    Calls Tryz.prog 8 #[.string s, .slice none 0 0] w (LinesPost w (readR (fun _ => none) 0 [] 0 [] s.data.toList)) := by
  have hmm := @run_makeMap Tryz.prog
  obtain ⟨W1, hW1⟩ : ∃ W1, W1 = w.alloc (.map #[] 0) := ⟨_, rfl⟩
  have hB1 : Below w.heap.size w W1 := by rw [hW1]; exact rb1w _ _
  have hs1 : W1.heap.size = w.heap.size + 1 := by rw [hW1]; simp
  have hm1 : MapT W1 w.heap.size 0 (fun _ => none) := by rw [hW1]; exact MapT.made w
  obtain ⟨W, hW⟩ : ∃ W, W = W1.alloc (.cells #[.map (some w.heap.size), .slice none 0 0, .int .i64 0, .slice none 0 0] 69) := ⟨_, rfl⟩
  have hB2 : Below W1.heap.size W1 W := by rw [hW]; exact rb1w _ _
  have hs2 : W.heap.size = W1.heap.size + 1 := by rw [hW]; simp
  have hz : W.heap[W1.heap.size]? = some (.cells #[.map (some w.heap.size), .slice none 0 0, .int .i64 0, .slice none 0 0] 69 (0, 0)) := by rw [hW]; exact rb_new W1 _
  have HRS : Hid (RSt W.heap.size W1.heap.size (fun _ => none) [] 0 [] ⟨w.heap.size, 0, none, 0, none, 0⟩ W) := RSt.start hz (by omega) (hm1.below hB2) (by omega)
  have HBW : Hid (Below w.heap.size w W) := hB1.trans (hB2.mono hB1.size)
  have hrd := read_ok W.heap.size W1.heap.size (fun _ => none) 0 [] 0 [] _ s W HRS.out (Nat.le_refl _) (hM.below HBW.out) hs (by omega) (by have := hM.lt; omega) (fun h0 x hx _ => inc_none _ _ _ _ _ (by
    obtain ⟨y, hy, rfl⟩ := List.mem_map.1 hx
    have := joinL_size hy
    have := joinE_size h0
    rw [ba_len] at *
    omega))
  unfold ReadPost at hrd
  obtain ⟨R, hR⟩ : ∃ R, R = readR (fun _ => none) 0 [] 0 [] s.data.toList := ⟨_, rfl⟩
  rw [← hR] at hrd ⊢
  obtain ⟨m6, o6, E⟩ := R
  simp only at hrd
  rw [hs1] at hrd
  have HRD : Hid (Calls Tryz.prog 29 #[.pointer (some ⟨w.heap.size + 1, 0, none⟩), .string s] W fun e w' => e = .returned (.int .i64 E) ∧ (∃ r', RSt W.heap.size (w.heap.size + 1) (fun _ => none) [] m6 o6 r' w') ∧ Below w.heap.size w w') := by
    show Calls _ _ _ _ _
    refine hrd.mono ?_
    rintro e w' ⟨h1, ⟨r', h2, _, _⟩, h3, _⟩
    exact ⟨h1, ⟨r', h2⟩, HBW.out.trans (h3.belowOf (by omega) (by omega) (fun k hk => by cases hk) (fun k hk => by cases hk))⟩
  clear hrd hR hB1 hm1 hB2 hz hs1 hs2
  by_cases hE : E = 0
  · subst hE
    go_enter Tryz.func8, Tryz.ntmps8
    go_upto_region 4 with fail
    rw [← hW1, ← hW]
    clear hW hW1
    go_wp2_with fail
    go_loopw [20] (fun i wr => i = .int .i64 0 ∧ wr = W) (fun _ _ => 0)
    case atStart => exact ⟨rfl, rfl⟩
    case round =>
      obtain ⟨rfl, rfl⟩ := hrel
      go_upto_region 17 with (go_at_call 29; refine HRD.out.mono ?_; rintro e w6 ⟨rfl, ⟨r6, hr6⟩, hb6⟩; have HR6 := Lib.hid hr6; have HB6 := Lib.hid hb6; obtain ⟨⟨c0, c1, c2, c3⟩, c4⟩ := hr6.cells; clear hr6 hb6)
      go_wp2
      go_ret2
      exact ⟨.inr ⟨rfl, (by have := HR6.out.lq; have := HR6.out.lm; show o6.length ≤ _; omega), r6.pq, r6.cq, rfl, HR6.out.outNL⟩, HB6.out⟩
  · obtain ⟨i1, i2⟩ := int_ne' hE
    have HNE := Lib.hid hE
    clear hE
    go_enter Tryz.func8, Tryz.ntmps8
    go_upto_region 4 with fail
    rw [← hW1, ← hW]
    clear hW hW1
    go_wp2_with fail
    go_loopw [20] (fun i wr => i = .int .i64 0 ∧ wr = W) (fun _ _ => 0)
    case atStart => exact ⟨rfl, rfl⟩
    case round =>
      obtain ⟨rfl, rfl⟩ := hrel
      go_wp2_with (go_at_call 29; refine HRD.out.mono ?_; rintro e w6 ⟨rfl, _, hb6⟩; have HB6 := Lib.hid hb6; clear hb6)
      go_ret2
      exact ⟨.inl ⟨HNE.out, rfl⟩, HB6.out⟩
end Go.Proofs.YtoiolepengcagaaGreatDoor
