/- Texts joined: EvalFnW, NormRuleW, TwoLW, OneLW, EvalBaseW. Conditions: theirs. -/
import Derived.Test.YteefncohknclcaaGreatDoorEvalAllWM12
import Derived.Test.YteefncohknclcaaGreatDoorEvalAllWM11
import Derived.Test.YteefncohknclcaaGreatDoorEvalAllWM9
import Derived.Test.YteefncohknclcaaGreatDoorNormP
import Derived.Test.YteefncohknclcaaGreatDoorEvalAllWM8
import Derived.Deep.RegionHeld3
namespace Go.Proofs.YteefncohknclcaaGreatDoor
open Go.RowKit Go.Shelf
theorem solve_ok (g : GD) (hG : Good g) (b : Nat) (p : Option Addr) (c : Nat) (ev : Value) (pr : Option Addr) (cr : Nat) (pb : Option Addr) (cb : Nat) : ∀ (t : QT), qchk qpat (qabs t) = 0 → Nmd g (qabs t) →
    ∀ (w : World) (sc : Value) (en : List (Txt × B)), SolAt w g b p c ev pr cr pb cb → QIn w t → Tab w → EnAt w sc en → EnvR g en →
    Calls Tryz.prog 37 #[.pointer (some ⟨b, 0, none⟩), t.v, sc] w (SolvePost g (qabs t) en w) := by
  intro t
  induction t using QT.ind with
  | h k s n pt ct xs ih =>
    intro hchk hnm w sc en hS hQ hT hE hR
    obtain ⟨hnd, hkc⟩ := qchk_zero.1 (show qchk qpat (.mk k s.data.toList n (qabss xs)) = 0 from hchk)
    have hkids : ∀ x ∈ xs, qabs x ∈ qabss xs := fun x hx => by rw [qabss_map]; exact List.mem_map_of_mem hx
    have ihx : ∀ x ∈ xs, ∀ (w : World) (sc : Value) (en : List (Txt × B)), SolAt w g b p c ev pr cr pb cb → QIn w x → Tab w → EnAt w sc en → EnvR g en → Calls Tryz.prog 37 #[.pointer (some ⟨b, 0, none⟩), x.v, sc] w (SolvePost g (qabs x) en w) :=
      fun x hx => ih x hx (hkc _ (hkids x hx)) (hnm.kids _ (hkids x hx))
    have hl : (qabss xs).length = xs.length := qabss_len xs
    match xs, ihx, hl with
    | [], _, _ => exact solve0_ok g hG b p c ev pr cr pb cb k s n pt ct w sc en hS hQ hT hE hR hchk hnm
    | [x], ihx, _ =>
      by_cases h15 : k = 15
      · have hn : n = 1 ∨ n = 2 ∨ n = 3 := by rcases node_cases hnd with h | h | h | h | h | h | h | h | h | h <;> omega
        rcases hn with hn | hn | hn
        · exact solve15A_ok g hG b p c ev pr cr pb cb k s n pt ct h15 hn x (ihx x (by simp)) w sc en hS hQ hT hE hR hchk hnm
        · exact solve15B_ok g hG b p c ev pr cr pb cb k s n pt ct h15 hn x (ihx x (by simp)) w sc en hS hQ hT hE hR hchk hnm
        · exact solve15C_ok g hG b p c ev pr cr pb cb k s n pt ct h15 hn x (ihx x (by simp)) w sc en hS hQ hT hE hR hchk hnm
      · exact solve1_ok g hG b p c ev pr cr pb cb k s n pt ct h15 x (ihx x (by simp)) w sc en hS hQ hT hE hR hchk hnm
    | [x, y], ihx, _ => exact solve2_ok g hG b p c ev pr cr pb cb k s n pt ct x y (ihx x (by simp)) (ihx y (by simp)) w sc en hS hQ hT hE hR hchk hnm
    | x :: y :: z :: r, _, hl =>
      exfalso
      have hl : (qabss (x :: y :: z :: r)).length = r.length + 3 := by rw [hl]; rfl
      rcases node_cases hnd with h | h | h | h | h | h | h | h | h | h <;> omega
/-- the tables that Eval reads -/
structure EvTabs (w : World) : Prop where
  ask : AskTabs w
  tab : Tab w
theorem EvTabs.below {w w' : World} (h : EvTabs w) (hb : Below w.heap.size w w') : EvTabs w' := ⟨h.ask.below hb, h.tab.below hb⟩
/-- what Eval answers -/
def EvalPost (g : GD) (x : QA) (w : World) (e : Ending) (w' : World) : Prop :=
  ((Qev g x ∧ e = .returned (.tuple #[.int .u64 (un (qval g x []) : Int), .int .i64 0])) ∨ (¬ Qev g x ∧ ∃ E : Int, E ≠ 0 ∧ e = .returned (.tuple #[.int .u64 0, .int .i64 E]))) ∧ Below w.heap.size w w'
set_option maxHeartbeats 8000000 in
set_option maxRecDepth 100000 in
theorem Eval_ok (g : GD) (v : Value) (t : QT) (w : World) (hG : GrAt w v g) (hQ : QIn w t) (hT : EvTabs w) (hc : qcnt (qabs t) ≤ 1099511627776) : Calls Tryz.prog 13 #[v, t.v] w (EvalPost g (qabs t) w) := by
  obtain ⟨p, n, c, qe, m, d, hv, hN, hE⟩ := hG.at_
  obtain ⟨W, hW, hBW, hS, hC⟩ := argGA w (.slice p n c) (.slice qe m d) (.int .u64 (un g.phony : Int)) (.int .u64 (un g.made : Int)) (.int .i64 t.kind) (.string t.name) (.int .i64 t.num) (.slice t.p t.xs.length t.cap)
  have HC := Lib.hid hC
  have HBW := Lib.hid hBW
  have HCK := Lib.hid (ECheck_ok g v t W (hG.below hBW) (hQ.below hBW) (hT.ask.below hBW) hc)
  have HNS : Hid (Good g → ∀ u : World, Below W.heap.size W u → Calls Tryz.prog 36 #[v] u (SolverPost g u)) := by
    show _ → _
    exact fun hg u hu => newSolver_ok g hg v u (hG.below (hBW.trans (hu.mono hBW.size))) (hT.tab.below (hBW.trans (hu.mono hBW.size)))
  have HSV : Hid (Qev g (qabs t) → ∀ (u : World) (b : Nat) (p : Option Addr) (c : Nat) (ev : Value) (pr : Option Addr) (cr : Nat) (pb : Option Addr) (cb : Nat), Below W.heap.size W u → SolAt u g b p c ev pr cr pb cb → Calls Tryz.prog 37 #[.pointer (some ⟨b, 0, none⟩), t.v, .pointer none] u (SolvePost g (qabs t) [] u)) := by
    show _ → _
    exact fun hq u b p c ev pr cr pb cb hu hs => solve_ok g hq.good b p c ev pr cr pb cb t hq.chk hq.named u _ [] hs (hQ.below (hBW.trans (hu.mono hBW.size))) (hT.tab.below (hBW.trans (hu.mono hBW.size))) .nil (env0 g)
  obtain ⟨X, hX⟩ : ∃ X, qabs t = X := ⟨_, rfl⟩
  rw [hX] at HCK HSV ⊢
  rw [hv] at HCK HNS ⊢
  unfold SolvePost at HSV
  unfold SolverPost at HNS
  unfold ECheckPost at HCK
  show Calls Tryz.prog 13 #[.agg #[.slice p n c, .slice qe m d, .int .u64 (un g.phony : Int), .int .u64 (un g.made : Int)], .agg #[.int .i64 t.kind, .string t.name, .int .i64 t.num, .slice t.p t.xs.length t.cap]] w _
  obtain ⟨⟨g0, g1, g2, g3⟩, k0, k1, k2, k3⟩ := HC.out W (Below.refl _ _)
  clear hG hQ hT hc hv hN hE hBW hS hC hX
  go_enter Tryz.func13, Tryz.ntmps13
  go_upto_region 1 with fail
  rw [← hW]
  clear hW
  by_cases hq : Qev g X
  · have HQ := Lib.hid hq
    have HNS2 := Lib.hid (HNS.out hq.good)
    have HSV2 := Lib.hid (HSV.out hq)
    clear hq HNS HSV
    go_upto_region 4 with (go_at_call 35; refine HCK.out.mono ?_; rintro e w2 ⟨⟨E, rfl, hE⟩, hb⟩; obtain rfl : E = 0 := hE.2 HQ.out; have HB2 := Lib.hid hb; obtain ⟨⟨u0, u1, u2, u3⟩, y0, y1, y2, y3⟩ := HC.out w2 hb; clear hb hE)
    obtain ⟨R, hR⟩ : ∃ R, qval g X [] = R := ⟨_, rfl⟩
    have HR := Lib.hid hR
    rw [hR] at HSV2
    clear hR g0 g1 g2 g3 k0 k1 k2 k3
    have HSS : Hid (∀ u : World, Below w2.heap.size w2 u → (u.cell? ⟨w.heap.size, 0, none⟩ = some (.slice p n c) ∧ u.cell? ⟨w.heap.size, 1, none⟩ = some (.slice qe m d) ∧ u.cell? ⟨w.heap.size, 2, none⟩ = some (.int .u64 (un g.phony : Int)) ∧ u.cell? ⟨w.heap.size, 3, none⟩ = some (.int .u64 (un g.made : Int))) ∧
        (u.cell? ⟨w.heap.size + 1, 0, none⟩ = some (.int .i64 t.kind) ∧ u.cell? ⟨w.heap.size + 1, 1, none⟩ = some (.string t.name) ∧ u.cell? ⟨w.heap.size + 1, 2, none⟩ = some (.int .i64 t.num) ∧ u.cell? ⟨w.heap.size + 1, 3, none⟩ = some (.slice t.p t.xs.length t.cap))) := by
      show ∀ u : World, _
      exact fun u hu => HC.out u (HB2.out.trans (hu.mono HB2.out.size))
    go_region_held3 (fun u : World => (u.cell? ⟨w.heap.size, 0, none⟩ = some (.slice p n c) ∧ u.cell? ⟨w.heap.size, 1, none⟩ = some (.slice qe m d) ∧ u.cell? ⟨w.heap.size, 2, none⟩ = some (.int .u64 (un g.phony : Int)) ∧ u.cell? ⟨w.heap.size, 3, none⟩ = some (.int .u64 (un g.made : Int))) ∧
        (u.cell? ⟨w.heap.size + 1, 0, none⟩ = some (.int .i64 t.kind) ∧ u.cell? ⟨w.heap.size + 1, 1, none⟩ = some (.string t.name) ∧ u.cell? ⟨w.heap.size + 1, 2, none⟩ = some (.int .i64 t.num) ∧ u.cell? ⟨w.heap.size + 1, 3, none⟩ = some (.slice t.p t.xs.length t.cap)))
      (first | exact HSS.out _ HB4.out | exact HSS.out _ HB3.out | exact HSS.out _ ((Below.refl _ _).drew))
      (first
        | (have h4 := HB3; clear h4; go_at_call 37; refine (HSV2.out w3 _ _ _ _ _ _ _ _ (HB2.out.trans (HB3.out.mono HB2.out.size)) HSA.out).mono ?_; rintro e w4 ⟨rfl, hb⟩; have HB4 := Lib.hid (HB3.out.trans (hb.mono HB3.out.size)); clear hb)
        | (go_at_call 36; refine (HNS2.out _ (HB2.out.trans (((Below.refl w2.heap.size w2).drew).mono HB2.out.size))).mono ?_; rintro e w3 ⟨⟨b, p2, c2, ev, pr, cr, pb, cb, rfl, hs⟩, hb⟩; have HSA := Lib.hid hs; have HB3 := Lib.hid (((Below.refl w2.heap.size w2).drew).trans (hb.mono (Nat.le_refl _))); clear hb hs))
    all_goals
      have HFB := Lib.hid (HBW.out.trans ((HB2.out.trans (HB4.out.mono HB2.out.size)).mono HBW.out.size))
      clear u0 u1 u2 u3 y0 y1 y2 y3
      go_wp2_with fail
      go_ret2
      exact ⟨.inl ⟨HQ.out, by rw [HR.out]; rfl⟩, HFB.out⟩
  · have HQ := Lib.hid hq
    clear hq
    go_upto_region 2 with (go_at_call 35; refine HCK.out.mono ?_; rintro e w2 ⟨⟨E, rfl, hE⟩, hb⟩; have hne : E ≠ 0 := fun h => HQ.out (hE.1 h); have HB2 := Lib.hid hb; clear hb hE)
    obtain ⟨i1, i2⟩ := int_ne' hne
    have HNE : Hid (E ≠ 0) := hne
    clear hne
    go_wp2_with fail
    go_ret2
    exact ⟨.inr ⟨HQ.out, E, HNE.out, rfl⟩, HBW.out.trans (HB2.out.mono HBW.out.size)⟩
/-- the ask for all -/
def allT : QT := .mk 2 ⟨#[]⟩ 0 none 0 []
theorem allT_in (w : World) : QIn w allT := QIn.of (by show 0 ≤ _; omega) (Nat.le_refl _) (by show 0 ≤ _; omega) trivial
theorem all_ev {g : GD} (hG : Good g) : Qev g (qabs allT) ∧ qval g (qabs allT) [] = belowB g.names.length := by
  refine ⟨⟨hG, by decide, rfl, .mk (fun h => by cases h) (fun x hx => by cases hx)⟩, ?_⟩
  show qval g (.mk 2 [] 0 []) [] = _
  rw [val0]; rfl
set_option maxHeartbeats 4000000 in
set_option maxRecDepth 100000 in
theorem answers_ok (w : World) (hT : EvTabs w) : Calls Tryz.prog 23 #[] w fun e w' => e = .returned (.bool true) ∧ Below w.heap.size w w' := by
  have HM := Lib.hid (mill_ok w)
  have HE : Hid (∀ (u : World) (v : Value), Below w.heap.size w u → GrAt u v G0 → Calls Tryz.prog 13 #[v, .agg #[.int .i64 2, .string ⟨#[]⟩, .int .i64 0, .slice none 0 0]] u fun e w' => e = .returned (.tuple #[.int .u64 3, .int .i64 0]) ∧ Below u.heap.size u w') := by
    show ∀ (u : World) (v : Value), _
    intro u v hu hg
    refine (Eval_ok G0 v allT u hg (allT_in u) (hT.below hu) (by decide)).mono ?_
    rintro e w' ⟨h, hb⟩
    refine ⟨?_, hb⟩
    rcases h with ⟨_, h⟩ | ⟨h, _⟩
    · rw [h, (all_ev good0).2]
      have : un (belowB G0.names.length) = 3 := by decide
      rw [this]; rfl
    · exact absurd (all_ev good0).1 h
  clear hT
  go_enter Tryz.func23, Tryz.ntmps23
  go_wp2_with (first
    | (have h4 := HB2; clear h4; go_at_call 13; refine (HE.out _ _ HB2.out HGR.out).mono ?_; rintro e w3 ⟨rfl, hb⟩; have HB3 := Lib.hid (HB2.out.trans (hb.mono HB2.out.size)); clear hb)
    | (go_at_call 46; refine HM.out.mono ?_; rintro e w2 ⟨⟨v, rfl, hg⟩, hb⟩; have HGR := Lib.hid hg; have HB2 := Lib.hid hb; clear hb hg))
  go_ret
  exact ⟨rfl, HB3.out⟩
/-- what evals answers -/
def EvalsPost (g : GD) (l : List QT) (w : World) (e : Ending) (w' : World) : Prop :=
  (((∀ t ∈ l, Qev g (qabs t)) ∧ ∃ (q : Option Addr) (c : Nat), e = .returned (.tuple #[.slice q l.length c, .bool true]) ∧ w'.ownsRow w.heap.size 24 1 (.slice q l.length c) l.length (u64sG (l.map fun t => qval g (qabs t) []))) ∨
    (¬ (∀ t ∈ l, Qev g (qabs t)) ∧ e = .returned (.tuple #[.slice none 0 0, .bool false]))) ∧ Below w.heap.size w w'
set_option maxHeartbeats 4000000 in
set_option maxRecDepth 100000 in
theorem evals_ok (g : GD) (v : Value) (p : Option Addr) (c : Nat) (l : List QT) (w : World) (hG : GrAt w v g) (hL : QsIn w p 0 l) (hT : EvTabs w) (hc : ∀ t ∈ l, qcnt (qabs t) ≤ 1099511627776) (hl : l.length ≤ 100) :
    Calls Tryz.prog 24 #[v, .slice p l.length c] w (EvalsPost g l w) := by
  obtain ⟨pn, n, cn, qe, m, d, hv, hN, hE⟩ := hG.at_
  obtain ⟨W, hW⟩ : ∃ W, W = w.alloc (.cells #[.slice pn n cn, .slice qe m d, .int .u64 (un g.phony : Int), .int .u64 (un g.made : Int)] 26) := ⟨_, rfl⟩
  have hBW : Below w.heap.size w W := by rw [hW]; exact (Below.refl _ _).alloc (Nat.le_refl _) _
  have HS : Hid (w.heap.size < W.heap.size) := by show _ < _; rw [hW]; simp
  have HC : Hid (∀ u : World, Below W.heap.size W u → u.cell? ⟨w.heap.size, 0, none⟩ = some (.slice pn n cn) ∧ u.cell? ⟨w.heap.size, 1, none⟩ = some (.slice qe m d) ∧ u.cell? ⟨w.heap.size, 2, none⟩ = some (.int .u64 (un g.phony : Int)) ∧ u.cell? ⟨w.heap.size, 3, none⟩ = some (.int .u64 (un g.made : Int))) := by
    show ∀ u : World, _ → _
    intro u hu
    rw [hu.cell HS.out, hu.cell HS.out, hu.cell HS.out, hu.cell HS.out, hW]
    refine ⟨?_, ?_, ?_, ?_⟩ <;> (rw [World.cell?_alloc_at _ _ _ _ rfl]; rfl)
  have HBW := Lib.hid hBW
  have HK := Lib.hid (hL.below hBW)
  have HEV : Hid (∀ t ∈ l, ∀ u : World, Below W.heap.size W u → QIn u t → Calls Tryz.prog 13 #[v, t.v] u (EvalPost g (qabs t) u)) := by
    show ∀ t ∈ l, _
    exact fun t ht u hu hq => Eval_ok g v t u (hG.below (hBW.trans (hu.mono hBW.size))) hq (hT.below (hBW.trans (hu.mono hBW.size))) (hc t ht)
  unfold EvalPost at HEV
  rw [hv] at HEV ⊢
  clear hG hL hT hc hv hN hE hBW
  go_enter Tryz.func24, Tryz.ntmps24
  go_upto_region 1 with fail
  rw [← hW]
  clear hW
  go_upto_region 3 with fail
  go_loopw [13, 6] (fun i x wr => ∃ j : Nat, j ≤ l.length ∧ i = .int .i64 j ∧ Hid (∀ t ∈ l.take j, Qev g (qabs t)) ∧ Hid (wr.ownsRow W.heap.size 24 1 x j (u64sG ((l.take j).map fun t => qval g (qabs t) []))) ∧ Hid (Below W.heap.size W wr)) (fun i _ _ => l.length - (intOf i).toNat)
  case atStart => exact ⟨0, Nat.zero_le _, rfl, (show ∀ t ∈ l.take 0, _ from fun t ht => by simp at ht), World.ownsRow_nil W _ _ _, Below.refl _ _⟩
  case round =>
    obtain ⟨j, hj, rfl, HALL, HO, HB⟩ := hrel
    obtain ⟨gv, cv, hx, _⟩ := own_form1 HO.out
    subst hx
    by_cases hlt : j < l.length
    · obtain ⟨x, hx⟩ : ∃ x, l[j]? = some x := ⟨_, List.getElem?_eq_getElem hlt⟩
      obtain ⟨⟨b, o, rfl, hb, hf⟩, hqx⟩ := HK.out.at hx
      obtain ⟨c0, c1, c2, c3⟩ := four_at (hf.below HB.out hb)
      have HCALL := Lib.hid (fun (u : World) (hu : Below wr.heap.size wr u) => HEV.out x (List.mem_of_getElem? hx) u (HB.out.trans (hu.mono HB.out.size)) (hqx.below (HB.out.trans (hu.mono HB.out.size))))
      have HAL : Hid (∀ o, Below wr.heap.size wr (wr.alloc o)) := fun o => (Below.refl _ _).alloc (Nat.le_refl _) o
      have hd := fun ob => HC.out (wr.alloc ob) (HB.out.trans ((HAL.out ob).mono HB.out.size))
      have d0 := fun ob => (hd ob).1
      have d1 := fun ob => (hd ob).2.1
      have d2 := fun ob => (hd ob).2.2.1
      have d3 := fun ob => (hd ob).2.2.2
      have htk : l.take (j + 1) = l.take j ++ [x] := by rw [List.take_add_one, hx]; rfl
      have HXM : Hid (x ∈ l) := List.mem_of_getElem? hx
      have HTK : Hid (u64sG ((l.take (j + 1)).map fun t => qval g (qabs t) []) = u64sG ((l.take j).map fun t => qval g (qabs t) []) ++ [.int .u64 (un (qval g (qabs x) []) : Int)]) := by
        show _ = _
        rw [htk, List.map_append]
        unfold u64sG
        rw [List.map_append]
        rfl
      have HTA : Hid ((∀ t ∈ l.take j, Qev g (qabs t)) → Qev g (qabs x) → ∀ t ∈ l.take (j + 1), Qev g (qabs t)) := by
        show _ → _
        intro h1 h2 t ht
        rw [htk] at ht
        rcases List.mem_append.1 ht with ht | ht
        · exact h1 t ht
        · rw [List.mem_singleton.1 ht]; exact h2
      generalize u64sG ((l.take j).map fun t => qval g (qabs t) []) = U at HO HTK
      generalize qval g (qabs x) [] = R at HCALL HTK
      clear hqx hf hb hx hd htk
      by_cases hq : Qev g (qabs x)
      · have HQ := Lib.hid hq
        clear hq
        have hj100 : j < 100 := by omega
        go_wp2_with (first
          | (go_at_call 13; refine (HCALL.out _ (HAL.out _)).mono ?_; rintro e w5 ⟨hF, hb5⟩; obtain rfl : e = .returned (.tuple #[.int .u64 (un R : Int), .int .i64 0]) := hF.elim (fun h => h.2) (fun h => absurd HQ.out h.1); have HB5 := Lib.hid ((HAL.out _).trans (hb5.mono (HAL.out _).size)); have HO5 := Lib.hid (own_belowF HO.out HB5.out); clear hb5 hF)
          | (at_builtin; refine app_u64 _ rfl _ _ rfl W.heap.size _ j _ rfl (HO5.out.alloc _) _ (.int .u64 (un R : Int)) rfl rfl ?c1 (by omega) ?c2 ?_; rotate_right; intro v' w6 hown6 hgrow6; have HB6 : Hid (Below W.heap.size W w6) := ((HB.out.trans (HB5.out.mono HB.out.size)).alloc (HB.out.trans (HB5.out.mono HB.out.size)).size _).trans (own_grown1 (HO5.out.alloc _) (by have h1 := HB.out.size; have h2 := HB5.out.size; simp; omega) hgrow6); have HO6 : Hid (w6.ownsRow W.heap.size 24 1 v' (j + 1) (u64sG ((l.take (j + 1)).map fun t => qval g (qabs t) []))) := (by show World.ownsRow _ _ _ _ _ _ _; rw [HTK.out]; exact hown6); clear hown6 hgrow6))
        case c1 => rw [World.cell?_alloc_at _ _ _ _ rfl]; rfl
        case c2 => have h1 := HB.out.size; have h2 := HB5.out.size; simp; omega
        go_roundw
        case rel => exact ⟨j + 1, by omega, by go_num, HTA.out HALL.out HQ.out, HO6, HB6⟩
        case measure => simp [intOf]; omega
      · have HQ := Lib.hid hq
        clear hq
        go_upto_region 6 with (go_at_call 13; refine (HCALL.out _ (HAL.out _)).mono ?_; rintro e w5 ⟨hF, hb5⟩; obtain ⟨E, hne, rfl⟩ := (hF.resolve_left (fun h => HQ.out h.1)).2; have HB5 := Lib.hid (HB.out.trans (((HAL.out _).trans (hb5.mono (HAL.out _).size)).mono HB.out.size)); clear hb5 hF)
        obtain ⟨i1, i2⟩ := int_ne' hne
        clear hne
        go_wp2_with fail
        go_ret2
        exact ⟨.inr ⟨fun h => HQ.out (h x HXM.out), rfl⟩, HBW.out.trans (HB5.out.mono HBW.out.size)⟩
    · obtain rfl : j = l.length := by omega
      have HOF := HO
      have HAF := HALL
      rw [List.take_length] at HOF HAF
      go_wp2_with fail
      go_ret2
      refine ⟨.inl ⟨HAF.out, gv, cv, rfl, ?_⟩, HBW.out.trans (HB.out.mono HBW.out.size)⟩
      refine ⟨HOF.out.1, ?_⟩
      rcases HOF.out.2 with h | ⟨g', cap, cur, h1, h2, h3⟩
      · exact .inl h
      · exact .inr ⟨g', cap, cur, h1, Nat.le_trans (Nat.le_of_lt HS.out) h2, h3⟩
end Go.Proofs.YteefncohknclcaaGreatDoor
namespace Go.Proofs.YteefncohknclcaaGreatDoor
open Go.RowKit Go.Shelf
/-- a list of two that was laid anew -/
def NewTwo (t' : QT) (n : Nat) (t : QT) (w0 w w' : World) : Prop :=
  ∃ (k : Int) (nb : Nat) (a b : QT), t' = .mk k ⟨#[]⟩ 0 (some ⟨nb, 0, none⟩) 2 [a, b] ∧ QIn w0 a ∧ QIn w0 b ∧ w.heap.size ≤ nb ∧
    w'.heap[nb]? = some (.cells #[.int .i64 a.kind, .string a.name, .int .i64 a.num, .slice a.p a.xs.length a.cap, .int .i64 b.kind, .string b.name, .int .i64 b.num, .slice b.p b.xs.length b.cap] 29 (0, 0)) ∧ (QOw w0 n t → QOw w0 n a ∧ QOw w0 n b)
/-- what a rule answers: an ask out of those that lay there, or of two of them, and whether a rule fitted -/
def RulePost (t : QT) (n : Nat) (q : QA × Bool) (w0 w : World) (e : Ending) (w' : World) : Prop :=
  (∃ t' : QT, e = .returned (.tuple #[t'.v, .bool q.2]) ∧ qabs t' = q.1 ∧ ((QIn w0 t' ∧ (QOw w0 n t → QOw w0 n t')) ∨ NewTwo t' n t w0 w w')) ∧ Below w.heap.size w w'
theorem rule_out {w0 w u : World} {t t' : QT} {n : Nat} {q : QA × Bool} {b : Bool} (hb : Below w.heap.size w u) (h1 : q = (qabs t', b)) (h3 : QIn w0 t') (h4 : QOw w0 n t → QOw w0 n t') : RulePost t n q w0 w (.returned (.tuple #[t'.v, .bool b])) u := by
  subst h1
  exact ⟨⟨t', rfl, rfl, .inl ⟨h3, h4⟩⟩, hb⟩
theorem rule_new {w0 w u : World} {t t' : QT} {n : Nat} {q : QA × Bool} {b : Bool} (hb : Below w.heap.size w u) (h1 : q = (qabs t', b)) (h : NewTwo t' n t w0 w u) : RulePost t n q w0 w (.returned (.tuple #[t'.v, .bool b])) u := by
  subst h1
  exact ⟨⟨t', rfl, rfl, .inr h⟩, hb⟩
/-- behind a rule, where what lay there and the new list stay -/
theorem NewTwo.there {t' : QT} {n : Nat} {t : QT} {w0 w w' u : World} (h : NewTwo t' n t w0 w w') (hu : Below w0.heap.size w0 u) (hs : w'.heap.size ≤ u.heap.size) (hk : ∀ b, w.heap.size ≤ b → b < w'.heap.size → u.heap[b]? = w'.heap[b]?) :
    QIn u t' ∧ (n ≤ w.heap.size → QOw w0 n t → QOw u n t') := by
  obtain ⟨k, nb, a, b, rfl, ha, hb, hnb, hh, ho⟩ := h
  have hlt := (Array.getElem?_eq_some_iff.1 hh).1
  have hh2 := (hk nb hnb hlt).trans hh
  have hc : ∀ i v, #[Value.int .i64 a.kind, .string a.name, .int .i64 a.num, .slice a.p a.xs.length a.cap, .int .i64 b.kind, .string b.name, .int .i64 b.num, .slice b.p b.xs.length b.cap][i]? = some v → u.cell? ⟨nb, i, none⟩ = some v := by
    intro i v hv
    simp only [World.cell?, hh2]
    exact hv
  refine ⟨QIn.of (by show 0 ≤ _; omega) (by show 2 ≤ 2; omega) (by show 2 ≤ _; omega) (QsIn.mk fun j x hx => ?_), fun hn h => ?_⟩
  · match j, hx with
    | 0, hx =>
      have hx : some a = some x := hx
      injection hx with hx
      subst hx
      exact ⟨⟨nb, 0, rfl, by omega, hc 0 _ rfl, hc 1 _ rfl, hc 2 _ rfl, hc 3 _ rfl⟩, ha.below hu⟩
    | 1, hx =>
      have hx : some b = some x := hx
      injection hx with hx
      subst hx
      exact ⟨⟨nb, 0, rfl, by omega, hc 4 _ rfl, hc 5 _ rfl, hc 6 _ rfl, hc 7 _ rfl⟩, hb.below hu⟩
    | j + 2, hx => exact absurd hx (by show ([] : List QT)[j]? ≠ _; simp)
  · obtain ⟨h1, h2⟩ := ho h
    refine .mk (.inr ⟨nb, _, rfl, by omega, by omega, hh2, rfl, by decide⟩) fun x hx => ?_
    simp at hx
    rcases hx with rfl | rfl
    · exact h1.later hu
    · exact h2.later hu
theorem kid_one {w : World} {k : Int} {s : ByteArray} {n : Int} {p : Option Addr} {c : Nat} {y : QT} (h : QIn w (.mk k s n p c [y])) : ∃ b o, p = some ⟨b, o, none⟩ ∧ b < w.heap.size ∧ Four w b o y ∧ QIn w y := by
  obtain ⟨⟨b, o, h1, h2, h3⟩, h4⟩ := h.kids.at (j := 0) (x := y) rfl
  exact ⟨b, o, h1, h2, by simpa using h3, h4⟩
theorem ibeq {x y : Int} (h : x = y) : (x == y) = true := by rw [beq_iff_eq]; exact h
theorem ibne {x y : Int} (h : x ≠ y) : (x == y) = false := by rw [beq_eq_false_iff_ne]; exact h
set_option maxHeartbeats 8000000 in
set_option maxRecDepth 100000 in
theorem walks_ok (wh pt : Int) (hwp : (wh = 8 ∧ pt = 10) ∨ (wh = 9 ∧ pt = 11)) (k : Int) (hk : k = wh ∨ k = pt) (s : ByteArray) (n : Int) (p : Option Addr) (c : Nat) (y : QT) (w0 w : World) (hw0 : Below w0.heap.size w0 w) (m : Nat) (hq : QIn w0 (.mk k s n p c [y])) (hch : qchk qpat (qabs (.mk k s n p c [y])) = 0) :
    Calls Tryz.prog 85 #[(QT.mk k s n p c [y]).v, .int .i64 wh, .int .i64 pt] w (RulePost (.mk k s n p c [y]) m (qwalks wh pt k s.data.toList n (qabs y)) w0 w) := by
  obtain ⟨hnd, hys⟩ := qchk_zero.1 (show qchk qpat (.mk k s.data.toList n [qabs y]) = 0 from hch)
  have hcy := hys (qabs y) (by simp)
  obtain ⟨b, o, rfl, hb0, hf0, hqy⟩ := kid_one hq
  have hb : b < w.heap.size := Nat.lt_of_lt_of_le hb0 hw0.size
  have hf := hf0.below hw0 hb0
  have HQ := Lib.hid hq
  have HQY := Lib.hid hqy
  have hn : 0 ≤ n ∧ n ≤ 100 := by rcases node_cases hnd with h | h | h | h | h | h | h | h | h | h <;> omega
  obtain ⟨ky, sy, ny, py, cy, ys⟩ := y
  have hyn : ky = pt → 0 ≤ ny ∧ ny ≤ 100 := by
    intro e
    have hnd2 := (qchk_zero.1 (show qchk qpat (.mk ky sy.data.toList ny (qabss ys)) = 0 from hcy)).1
    rcases node_cases hnd2 with h | h | h | h | h | h | h | h | h | h <;> omega
  obtain ⟨W, hW, hBW, hS, hC⟩ := arg2r w (.int .i64 k) (.string s) (.int .i64 n) (.slice (some ⟨b, o, none⟩) 1 c)
  have HC := Lib.hid hC
  have HBW := Lib.hid hBW
  obtain ⟨B0, B1⟩ := HC.out W (Below.refl _ _)
  obtain ⟨k0, k1, k2, k3, _⟩ := box4Q B0
  obtain ⟨c0, c1, c2, c3⟩ : W.cell? ⟨b, o, none⟩ = some (.int .i64 ky) ∧ W.cell? ⟨b, o + 1, none⟩ = some (.string sy) ∧ W.cell? ⟨b, o + 2, none⟩ = some (.int .i64 ny) ∧ W.cell? ⟨b, o + 3, none⟩ = some (.slice py ys.length cy) := hf.below hBW hb
  obtain ⟨V, hV⟩ : ∃ V : World, V = W.alloc (.cells #[.int .i64 ky, .string sy, .int .i64 ny, .slice py ys.length cy] 29) := ⟨_, rfl⟩
  have hBV : Below W.heap.size W V := by rw [hV]; exact (Below.refl _ _).alloc (Nat.le_refl _) _
  have HBV := Lib.hid (HBW.out.trans (hBV.mono HBW.out.size))
  obtain ⟨B2, B3⟩ := HC.out V hBV
  have HB3 := Lib.hid B3
  obtain ⟨v0, v1, v2, v3, _⟩ := box4Q B2
  have B4 : V.heap[w.heap.size + 1 + 1]? = some (.cells #[.int .i64 ky, .string sy, .int .i64 ny, .slice py ys.length cy] 29 (0, 0)) := by
    have := hanQ W (.cells #[.int .i64 ky, .string sy, .int .i64 ny, .slice py ys.length cy] 29)
    rw [hS, ← hV] at this
    exact this
  obtain ⟨y0, y1, y2, y3, _⟩ := box4Q B4
  obtain ⟨r0, r1, r2, r3, r4⟩ := box4Q B3
  show Calls Tryz.prog 85 #[.agg #[.int .i64 k, .string s, .int .i64 n, .slice (some ⟨b, o, none⟩) 1 c], .int .i64 wh, .int .i64 pt] w _
  have hQ : qwalks wh pt k s.data.toList n (qabs (.mk ky sy ny py cy ys)) =
      if k = pt ∧ n = 0 then (qabs (.mk ky sy ny py cy ys), true) else if ky = 2 then (qabs (.mk ky sy ny py cy ys), true)
      else if k = wh ∧ (ky = wh ∨ ky = pt) then (.mk wh [] 0 (qabss ys), true) else if ky = wh then (qabs (.mk ky sy ny py cy ys), true)
      else if ky = pt ∧ n + ny ≤ 100 then (.mk pt [] (n + ny) (qabss ys), true) else (.mk k s.data.toList n [qabs (.mk ky sy ny py cy ys)], false) := rfl
  have HEND : Hid (∀ (t' : QT) (B : Bool), qwalks wh pt k s.data.toList n (qabs (.mk ky sy ny py cy ys)) = (qabs t', B) → QIn w0 t' → (QOw w0 m (.mk k s n (some ⟨b, o, none⟩) c [.mk ky sy ny py cy ys]) → QOw w0 m t') →
      RulePost (.mk k s n (some ⟨b, o, none⟩) c [.mk ky sy ny py cy ys]) m (qwalks wh pt k s.data.toList n (qabs (.mk ky sy ny py cy ys))) w0 w (.returned (.tuple #[t'.v, .bool B]))
        ((((V.setCell ⟨w.heap.size + 1, 0, none⟩ (.int .i64 t'.kind)).setCell ⟨w.heap.size + 1, 1, none⟩ (.string t'.name)).setCell ⟨w.heap.size + 1, 2, none⟩ (.int .i64 t'.num)).setCell ⟨w.heap.size + 1, 3, none⟩ (.slice t'.p t'.xs.length t'.cap))) := by
    show ∀ (t' : QT) (B : Bool), _
    intro t' B h1 h2 h3
    exact rule_out (below_set4Q HBV.out (Nat.le_succ _) _ _ _ _) h1 h2 h3
  have HY : Hid (QOw w0 m (.mk k s n (some ⟨b, o, none⟩) c [.mk ky sy ny py cy ys]) → QOw w0 m (.mk ky sy ny py cy ys)) := fun h => h.kids _ (show _ ∈ [_] by simp)
  have HX : Hid (∀ (k' n' : Int), QIn w0 (.mk k' ⟨#[]⟩ n' py cy ys) ∧ (QOw w0 m (.mk k s n (some ⟨b, o, none⟩) c [.mk ky sy ny py cy ys]) → QOw w0 m (.mk k' ⟨#[]⟩ n' py cy ys))) := by
    show ∀ k' n' : Int, _
    intro k' n'
    have h1 := HQY.out
    refine ⟨QIn.of (by show 0 ≤ _; omega) h1.small.2.1 h1.small.2.2 h1.kids, fun h => ?_⟩
    have h2 := HY.out h
    exact QOw.of h2.place h2.kids
  go_enter Tryz.func85, Tryz.ntmps85
  rw [hW] at k0 k1 k2 k3 c0 c1 c2 c3
  go_upto_region 2 with fail
  rw [← hW, ← hV]
  clear hW hV hq hch hnd hys hcy hqy hf hf0 hb hb0 hBW hC B0 B1 B2 B3 B4 hBV k0 k1 k2 k3 c0 c1 c2 c3 hS HBV HBW HC
  by_cases g1 : k = pt
  · have e1 := ibeq g1
    by_cases g2 : n = 0
    · have e2 := ibeq g2
      have HQE : Hid (qwalks wh pt k s.data.toList n (qabs (.mk ky sy ny py cy ys)) = (qabs (QT.mk ky sy ny py cy ys), true)) := by show _ = _; rw [hQ, if_pos ⟨g1, g2⟩]; try rfl
      clear hQ g1 g2
      go_wp2
      refine bodyPost_ret (v := .tuple #[(QT.mk ky sy ny py cy ys).v, .bool true]) (results_ctQ Tryz.results85 _ _ (w.heap.size + 1) 29 _ (0, 0) _ _ rfl rfl (box4Q_all HB3.out _ _ _ _) Tryz.underlying29 rfl (by kernel_rfl)) rfl (HEND.out (QT.mk ky sy ny py cy ys) true HQE.out (HQY.out) (HY.out))
    have e2 := ibne g2
    have gk : ¬ k = wh := by omega
    have e3 := ibne gk
    by_cases g3 : ky = 2
    · have e4 := ibeq g3
      have HQE : Hid (qwalks wh pt k s.data.toList n (qabs (.mk ky sy ny py cy ys)) = (qabs (QT.mk ky sy ny py cy ys), true)) := by show _ = _; rw [hQ, if_neg (fun h => g2 h.2), if_pos g3]; try rfl
      clear hQ g1 g2 gk g3
      go_wp2
      refine bodyPost_ret (v := .tuple #[(QT.mk ky sy ny py cy ys).v, .bool true]) (results_ctQ Tryz.results85 _ _ (w.heap.size + 1) 29 _ (0, 0) _ _ rfl rfl (box4Q_all HB3.out _ _ _ _) Tryz.underlying29 rfl (by kernel_rfl)) rfl (HEND.out (QT.mk ky sy ny py cy ys) true HQE.out (HQY.out) (HY.out))
    have e4 := ibne g3
    by_cases g4 : ky = wh
    · have e5 := ibeq g4
      have HQE : Hid (qwalks wh pt k s.data.toList n (qabs (.mk ky sy ny py cy ys)) = (qabs (QT.mk ky sy ny py cy ys), true)) := by show _ = _; rw [hQ, if_neg (fun h => g2 h.2), if_neg g3, if_neg (fun h => gk h.1), if_pos g4]; try rfl
      clear hQ g1 g2 gk g3 g4
      go_wp2
      refine bodyPost_ret (v := .tuple #[(QT.mk ky sy ny py cy ys).v, .bool true]) (results_ctQ Tryz.results85 _ _ (w.heap.size + 1) 29 _ (0, 0) _ _ rfl rfl (box4Q_all HB3.out _ _ _ _) Tryz.underlying29 rfl (by kernel_rfl)) rfl (HEND.out (QT.mk ky sy ny py cy ys) true HQE.out (HQY.out) (HY.out))
    have e5 := ibne g4
    by_cases g5 : ky = pt
    · have e6 := ibeq g5
      obtain ⟨l1, l2⟩ := hyn g5
      by_cases g6 : n + ny ≤ 100
      · have hw6 : True := trivial
        have HQE : Hid (qwalks wh pt k s.data.toList n (qabs (.mk ky sy ny py cy ys)) = (qabs (QT.mk pt ⟨#[]⟩ (n + ny) py cy ys), true)) := by show _ = _; rw [hQ, if_neg (fun h => g2 h.2), if_neg g3, if_neg (fun h => gk h.1), if_neg g4, if_pos ⟨g5, g6⟩]; try rfl
        clear hQ g1 g2 gk g3 g4 g5
        go_wp2
        refine bodyPost_ret (v := .tuple #[(QT.mk pt ⟨#[]⟩ (n + ny) py cy ys).v, .bool true]) (results_ctQ Tryz.results85 _ _ (w.heap.size + 1) 29 _ (0, 0) _ _ rfl rfl (box4Q_all HB3.out _ _ _ _) Tryz.underlying29 rfl (by kernel_rfl)) rfl (HEND.out (QT.mk pt ⟨#[]⟩ (n + ny) py cy ys) true HQE.out ((HX.out pt (n + ny)).1) ((HX.out pt (n + ny)).2))
      · have hw6 : True := trivial
        have HQE : Hid (qwalks wh pt k s.data.toList n (qabs (.mk ky sy ny py cy ys)) = (qabs (QT.mk k s n (some ⟨b, o, none⟩) c [QT.mk ky sy ny py cy ys]), false)) := by show _ = _; rw [hQ, if_neg (fun h => g2 h.2), if_neg g3, if_neg (fun h => gk h.1), if_neg g4, if_neg (fun h => g6 h.2)]; try rfl
        clear hQ g1 g2 gk g3 g4 g5
        go_wp2
        refine bodyPost_ret (v := .tuple #[(QT.mk k s n (some ⟨b, o, none⟩) c [QT.mk ky sy ny py cy ys]).v, .bool false]) (results_ctQ Tryz.results85 _ _ (w.heap.size + 1) 29 _ (0, 0) _ _ rfl rfl (box4Q_all HB3.out _ _ _ _) Tryz.underlying29 rfl (by kernel_rfl)) rfl (HEND.out (QT.mk k s n (some ⟨b, o, none⟩) c [QT.mk ky sy ny py cy ys]) false HQE.out (HQ.out) (id))
    · have e6 := ibne g5
      have HQE : Hid (qwalks wh pt k s.data.toList n (qabs (.mk ky sy ny py cy ys)) = (qabs (QT.mk k s n (some ⟨b, o, none⟩) c [QT.mk ky sy ny py cy ys]), false)) := by show _ = _; rw [hQ, if_neg (fun h => g2 h.2), if_neg g3, if_neg (fun h => gk h.1), if_neg g4, if_neg (fun h => g5 h.1)]; try rfl
      clear hQ g1 g2 gk g3 g4 g5
      go_wp2
      refine bodyPost_ret (v := .tuple #[(QT.mk k s n (some ⟨b, o, none⟩) c [QT.mk ky sy ny py cy ys]).v, .bool false]) (results_ctQ Tryz.results85 _ _ (w.heap.size + 1) 29 _ (0, 0) _ _ rfl rfl (box4Q_all HB3.out _ _ _ _) Tryz.underlying29 rfl (by kernel_rfl)) rfl (HEND.out (QT.mk k s n (some ⟨b, o, none⟩) c [QT.mk ky sy ny py cy ys]) false HQE.out (HQ.out) (id))
  · have e1 := ibne g1
    have gk : k = wh := by omega
    have e3 := ibeq gk
    by_cases g3 : ky = 2
    · have e4 := ibeq g3
      have HQE : Hid (qwalks wh pt k s.data.toList n (qabs (.mk ky sy ny py cy ys)) = (qabs (QT.mk ky sy ny py cy ys), true)) := by show _ = _; rw [hQ, if_neg (fun h => g1 h.1), if_pos g3]; try rfl
      clear hQ g1 gk g3
      go_wp2
      refine bodyPost_ret (v := .tuple #[(QT.mk ky sy ny py cy ys).v, .bool true]) (results_ctQ Tryz.results85 _ _ (w.heap.size + 1) 29 _ (0, 0) _ _ rfl rfl (box4Q_all HB3.out _ _ _ _) Tryz.underlying29 rfl (by kernel_rfl)) rfl (HEND.out (QT.mk ky sy ny py cy ys) true HQE.out (HQY.out) (HY.out))
    have e4 := ibne g3
    by_cases g4 : ky = wh
    · have e5 := ibeq g4
      have HQE : Hid (qwalks wh pt k s.data.toList n (qabs (.mk ky sy ny py cy ys)) = (qabs (QT.mk wh ⟨#[]⟩ 0 py cy ys), true)) := by show _ = _; rw [hQ, if_neg (fun h => g1 h.1), if_neg g3, if_pos ⟨gk, .inl g4⟩]; try rfl
      clear hQ g1 gk g3 g4
      go_wp2
      refine bodyPost_ret (v := .tuple #[(QT.mk wh ⟨#[]⟩ 0 py cy ys).v, .bool true]) (results_ctQ Tryz.results85 _ _ (w.heap.size + 1) 29 _ (0, 0) _ _ rfl rfl (box4Q_all HB3.out _ _ _ _) Tryz.underlying29 rfl (by kernel_rfl)) rfl (HEND.out (QT.mk wh ⟨#[]⟩ 0 py cy ys) true HQE.out ((HX.out wh 0).1) ((HX.out wh 0).2))
    have e5 := ibne g4
    by_cases g5 : ky = pt
    · have e6 := ibeq g5
      have HQE : Hid (qwalks wh pt k s.data.toList n (qabs (.mk ky sy ny py cy ys)) = (qabs (QT.mk wh ⟨#[]⟩ 0 py cy ys), true)) := by show _ = _; rw [hQ, if_neg (fun h => g1 h.1), if_neg g3, if_pos ⟨gk, .inr g5⟩]; try rfl
      clear hQ g1 gk g3 g4 g5
      go_wp2
      refine bodyPost_ret (v := .tuple #[(QT.mk wh ⟨#[]⟩ 0 py cy ys).v, .bool true]) (results_ctQ Tryz.results85 _ _ (w.heap.size + 1) 29 _ (0, 0) _ _ rfl rfl (box4Q_all HB3.out _ _ _ _) Tryz.underlying29 rfl (by kernel_rfl)) rfl (HEND.out (QT.mk wh ⟨#[]⟩ 0 py cy ys) true HQE.out ((HX.out wh 0).1) ((HX.out wh 0).2))
    · have e6 := ibne g5
      have HQE : Hid (qwalks wh pt k s.data.toList n (qabs (.mk ky sy ny py cy ys)) = (qabs (QT.mk k s n (some ⟨b, o, none⟩) c [QT.mk ky sy ny py cy ys]), false)) := by show _ = _; rw [hQ, if_neg (fun h => g1 h.1), if_neg g3, if_neg (fun h => h.2.elim g4 g5), if_neg g4, if_neg (fun h => g5 h.1)]; try rfl
      clear hQ g1 gk g3 g4 g5
      go_wp2
      refine bodyPost_ret (v := .tuple #[(QT.mk k s n (some ⟨b, o, none⟩) c [QT.mk ky sy ny py cy ys]).v, .bool false]) (results_ctQ Tryz.results85 _ _ (w.heap.size + 1) 29 _ (0, 0) _ _ rfl rfl (box4Q_all HB3.out _ _ _ _) Tryz.underlying29 rfl (by kernel_rfl)) rfl (HEND.out (QT.mk k s n (some ⟨b, o, none⟩) c [QT.mk ky sy ny py cy ys]) false HQE.out (HQ.out) (id))
end Go.Proofs.YteefncohknclcaaGreatDoor
namespace Go.Proofs.YteefncohknclcaaGreatDoor
open Go.RowKit Go.Shelf
theorem arg3r (w : World) (v0 v1 v2 v3 u0 u1 u2 u3 : Value) : ∃ W, W = ((w.alloc (.cells #[v0, v1, v2, v3] 29)).alloc (.cells #[u0, u1, u2, u3] 29)).alloc (.cells #[.int .i64 0, .string ⟨#[]⟩, .int .i64 0, .slice none 0 0] 29) ∧ Below w.heap.size w W ∧ W.heap.size = w.heap.size + 3 ∧
    ∀ u : World, Below W.heap.size W u → u.heap[w.heap.size]? = some (.cells #[v0, v1, v2, v3] 29 (0, 0)) ∧ u.heap[w.heap.size + 1]? = some (.cells #[u0, u1, u2, u3] 29 (0, 0)) ∧ u.heap[w.heap.size + 2]? = some (.cells #[.int .i64 0, .string ⟨#[]⟩, .int .i64 0, .slice none 0 0] 29 (0, 0)) := by
  obtain ⟨A, hA⟩ : ∃ A, A = w.alloc (.cells #[v0, v1, v2, v3] 29) := ⟨_, rfl⟩
  obtain ⟨B, hB⟩ : ∃ B, B = A.alloc (.cells #[u0, u1, u2, u3] 29) := ⟨_, rfl⟩
  obtain ⟨W, hW⟩ : ∃ W, W = B.alloc (.cells #[.int .i64 0, .string ⟨#[]⟩, .int .i64 0, .slice none 0 0] 29) := ⟨_, rfl⟩
  have sA : A.heap.size = w.heap.size + 1 := by rw [hA]; simp
  have sB : B.heap.size = w.heap.size + 2 := by rw [hB]; simp; omega
  have hs : W.heap.size = w.heap.size + 3 := by rw [hW]; simp; omega
  refine ⟨W, by rw [hW, hB, hA], by rw [hW, hB, hA]; exact (((Below.refl _ _).alloc (Nat.le_refl _) _).alloc (by simp) _).alloc (by simp; omega) _, hs, fun u hu => ?_⟩
  rw [hu.block _ (by omega), hu.block _ (by omega), hu.block _ (by omega)]
  have e0 : A.heap[w.heap.size]? = some (.cells #[v0, v1, v2, v3] 29 (0, 0)) := by rw [hA]; exact hanQ w _
  have e1 : B.heap[w.heap.size + 1]? = some (.cells #[u0, u1, u2, u3] 29 (0, 0)) := by rw [hB, ← sA]; exact hanQ A _
  have e2 : W.heap[w.heap.size + 2]? = some (.cells #[.int .i64 0, .string ⟨#[]⟩, .int .i64 0, .slice none 0 0] 29 (0, 0)) := by rw [hW, ← sB]; exact hanQ B _
  refine ⟨?_, ?_, e2⟩
  · rw [hW, haoQ _ _ _ (by omega), hB, haoQ _ _ _ (by omega)]; exact e0
  · rw [hW, haoQ _ _ _ (by omega)]; exact e1
def TwoPost (k : Int) (x y : QT) (w : World) (e : Ending) (w' : World) : Prop := ∃ t : QT, e = .returned t.v ∧ qabs t = .mk k [] 0 [qabs x, qabs y] ∧ QIn w' t ∧ Below w.heap.size w w'
theorem two_fin (k : Int) {x y : QT} {w W u : World} (hx : QIn w x) (hy : QIn w y) (hBW : Below w.heap.size w W) (hS : W.heap.size = w.heap.size + 3)
    (hu : u = W.alloc (.cells #[.int .i64 x.kind, .string x.name, .int .i64 x.num, .slice x.p x.xs.length x.cap, .int .i64 y.kind, .string y.name, .int .i64 y.num, .slice y.p y.xs.length y.cap] 29)) (u0 u1 u2 u3 : Value) :
    TwoPost k x y w (.returned (QT.mk k ⟨#[]⟩ 0 (some ⟨W.heap.size, 0, none⟩) 2 [x, y]).v) ((((u.setCell ⟨w.heap.size + 2, 0, none⟩ u0).setCell ⟨w.heap.size + 2, 1, none⟩ u1).setCell ⟨w.heap.size + 2, 2, none⟩ u2).setCell ⟨w.heap.size + 2, 3, none⟩ u3) := by
  have hBu : Below w.heap.size w u := by rw [hu]; exact hBW.alloc hBW.size _
  have hB := below_set4Q (b := w.heap.size + 2) hBu (by omega) u0 u1 u2 u3
  have hh : u.heap[W.heap.size]? = some (.cells #[.int .i64 x.kind, .string x.name, .int .i64 x.num, .slice x.p x.xs.length x.cap, .int .i64 y.kind, .string y.name, .int .i64 y.num, .slice y.p y.xs.length y.cap] 29 (0, 0)) := by rw [hu]; exact hanQ W _
  have hh2 := (set4Q_other u (w.heap.size + 2) W.heap.size u0 u1 u2 u3 (by omega)).trans hh
  generalize ((((u.setCell ⟨w.heap.size + 2, 0, none⟩ u0).setCell ⟨w.heap.size + 2, 1, none⟩ u1).setCell ⟨w.heap.size + 2, 2, none⟩ u2).setCell ⟨w.heap.size + 2, 3, none⟩ u3) = z at hB hh2 ⊢
  have hlt := (Array.getElem?_eq_some_iff.1 hh2).1
  have hc : ∀ i v, #[Value.int .i64 x.kind, .string x.name, .int .i64 x.num, .slice x.p x.xs.length x.cap, .int .i64 y.kind, .string y.name, .int .i64 y.num, .slice y.p y.xs.length y.cap][i]? = some v → z.cell? ⟨W.heap.size, i, none⟩ = some v := by
    intro i v hv
    simp only [World.cell?, hh2]
    exact hv
  refine ⟨_, rfl, rfl, QIn.of (by show 0 ≤ _; omega) (by show 2 ≤ 2; omega) (by show 2 ≤ _; omega) (QsIn.mk fun j q hq => ?_), hB⟩
  match j, hq with
  | 0, hq =>
    have hq : some x = some q := hq
    injection hq with hq
    subst hq
    exact ⟨⟨W.heap.size, 0, rfl, hlt, hc 0 _ rfl, hc 1 _ rfl, hc 2 _ rfl, hc 3 _ rfl⟩, hx.below hB⟩
  | 1, hq =>
    have hq : some y = some q := hq
    injection hq with hq
    subst hq
    exact ⟨⟨W.heap.size, 0, rfl, hlt, hc 4 _ rfl, hc 5 _ rfl, hc 6 _ rfl, hc 7 _ rfl⟩, hy.below hB⟩
  | j + 2, hq => exact absurd hq (by show ([] : List QT)[j]? ≠ _; simp)
set_option maxHeartbeats 4000000 in
set_option maxRecDepth 100000 in
theorem twoL_ok (k : Int) (x y : QT) (w : World) (hx : QIn w x) (hy : QIn w y) : Calls Tryz.prog 25 #[.int .i64 k, x.v, y.v] w (TwoPost k x y w) := by
  obtain ⟨kx, sx, nx, px, cx, xs⟩ := x
  obtain ⟨ky, sy, ny, py, cy, ys⟩ := y
  obtain ⟨W, hW, hBW, hS, hC⟩ := arg3r w (.int .i64 kx) (.string sx) (.int .i64 nx) (.slice px xs.length cx) (.int .i64 ky) (.string sy) (.int .i64 ny) (.slice py ys.length cy)
  have HC := Lib.hid hC
  have HF := Lib.hid (fun u hu => two_fin (u := u) k hx hy hBW hS hu)
  have HS := Lib.hid hS
  obtain ⟨B0, B1, B2⟩ := HC.out W (Below.refl _ _)
  obtain ⟨k0, k1, k2, k3, _⟩ := box4Q B0
  obtain ⟨m0, m1, m2, m3, _⟩ := box4Q B1
  have HAL : Hid (∀ o, (W.alloc o).heap[w.heap.size + 2]? = some (.cells #[.int .i64 0, .string ⟨#[]⟩, .int .i64 0, .slice none 0 0] 29 (0, 0))) := by
    show ∀ o, _
    intro o
    rw [haoQ _ _ _ (by omega)]
    exact B2
  obtain ⟨r0, r1, r2, r3, r4⟩ := box4Q (HAL.out (.cells #[.int .i64 kx, .string sx, .int .i64 nx, .slice px xs.length cx, .int .i64 ky, .string sy, .int .i64 ny, .slice py ys.length cy] 29))
  show Calls Tryz.prog 25 #[.int .i64 k, .agg #[.int .i64 kx, .string sx, .int .i64 nx, .slice px xs.length cx], .agg #[.int .i64 ky, .string sy, .int .i64 ny, .slice py ys.length cy]] w _
  clear hx hy hBW hS hC B0 B1 B2
  go_enter Tryz.func25, Tryz.ntmps25
  go_upto_region 1 with fail
  rw [← hW]
  clear hW
  go_wp2_with fail
  refine bodyPost_ret (v := (QT.mk k ⟨#[]⟩ 0 (some ⟨W.heap.size, 0, none⟩) 2 [.mk kx sx nx px cx xs, .mk ky sy ny py cy ys]).v) (results_cell_row Tryz.results25 _ _ (w.heap.size + 2) 29 _ (0, 0) _ rfl (box4Q_all (HAL.out _) _ _ _ _) Tryz.underlying29 rfl (by kernel_rfl)) rfl (HF.out _ rfl _ _ _ _)
end Go.Proofs.YteefncohknclcaaGreatDoor
namespace Go.Proofs.YteefncohknclcaaGreatDoor
open Go.RowKit Go.Shelf
def OnePost (k : Int) (x : QT) (w : World) (e : Ending) (w' : World) : Prop := ∃ t : QT, e = .returned t.v ∧ qabs t = .mk k [] 0 [qabs x] ∧ QIn w' t ∧ Below w.heap.size w w'
/-- an ask of one, in a block that was laid -/
theorem one_fin (k : Int) (s : ByteArray) (n : Int) (hs : s.size ≤ 1048576) {x : QT} {w W u : World} (hx : QIn w x) (hBW : Below w.heap.size w W) {r : Nat} (hr : w.heap.size ≤ r) (hrW : r < W.heap.size)
    (hu : u = W.alloc (.cells #[.int .i64 x.kind, .string x.name, .int .i64 x.num, .slice x.p x.xs.length x.cap] 29)) (u0 u1 u2 u3 : Value) :
    ∃ t : QT, t.v = (QT.mk k s n (some ⟨W.heap.size, 0, none⟩) 1 [x]).v ∧ qabs t = .mk k s.data.toList n [qabs x] ∧ QIn ((((u.setCell ⟨r, 0, none⟩ u0).setCell ⟨r, 1, none⟩ u1).setCell ⟨r, 2, none⟩ u2).setCell ⟨r, 3, none⟩ u3) t ∧ Below w.heap.size w ((((u.setCell ⟨r, 0, none⟩ u0).setCell ⟨r, 1, none⟩ u1).setCell ⟨r, 2, none⟩ u2).setCell ⟨r, 3, none⟩ u3) := by
  have hBu : Below w.heap.size w u := by rw [hu]; exact hBW.alloc hBW.size _
  have hB := below_set4Q (b := r) hBu hr u0 u1 u2 u3
  have hh : u.heap[W.heap.size]? = some (.cells #[.int .i64 x.kind, .string x.name, .int .i64 x.num, .slice x.p x.xs.length x.cap] 29 (0, 0)) := by rw [hu]; exact hanQ W _
  have hh2 := (set4Q_other u r W.heap.size u0 u1 u2 u3 (by omega)).trans hh
  generalize ((((u.setCell ⟨r, 0, none⟩ u0).setCell ⟨r, 1, none⟩ u1).setCell ⟨r, 2, none⟩ u2).setCell ⟨r, 3, none⟩ u3) = z at hB hh2 ⊢
  have hlt := (Array.getElem?_eq_some_iff.1 hh2).1
  have hc : ∀ i v, #[Value.int .i64 x.kind, .string x.name, .int .i64 x.num, .slice x.p x.xs.length x.cap][i]? = some v → z.cell? ⟨W.heap.size, i, none⟩ = some v := by
    intro i v hv
    simp only [World.cell?, hh2]
    exact hv
  refine ⟨.mk k s n (some ⟨W.heap.size, 0, none⟩) 1 [x], rfl, rfl, QIn.of hs (by show 1 ≤ 1; omega) (by show 1 ≤ _; omega) (QsIn.mk fun j q hq => ?_), hB⟩
  match j, hq with
  | 0, hq =>
    have hq : some x = some q := hq
    injection hq with hq
    subst hq
    exact ⟨⟨W.heap.size, 0, rfl, hlt, hc 0 _ rfl, hc 1 _ rfl, hc 2 _ rfl, hc 3 _ rfl⟩, hx.below hB⟩
  | j + 1, hq => exact absurd hq (by show ([] : List QT)[j]? ≠ _; simp)
set_option maxHeartbeats 4000000 in
set_option maxRecDepth 100000 in
theorem oneL_ok (k : Int) (x : QT) (w : World) (hx : QIn w x) : Calls Tryz.prog 26 #[.int .i64 k, x.v] w (OnePost k x w) := by
  obtain ⟨W, hW, hBW, hS, hC⟩ := arg2r w (.int .i64 x.kind) (.string x.name) (.int .i64 x.num) (.slice x.p x.xs.length x.cap)
  have HC := Lib.hid hC
  have HF := Lib.hid (fun u hu => one_fin (u := u) k ⟨#[]⟩ 0 (by show 0 ≤ _; omega) hx hBW (r := w.heap.size + 1) (by omega) (by omega) hu)
  obtain ⟨B0, B1⟩ := HC.out W (Below.refl _ _)
  obtain ⟨k0, k1, k2, k3, _⟩ := box4Q B0
  have HAL : Hid (∀ o, (W.alloc o).heap[w.heap.size + 1]? = some (.cells #[.int .i64 0, .string ⟨#[]⟩, .int .i64 0, .slice none 0 0] 29 (0, 0))) := by
    show ∀ o, _
    intro o
    rw [haoQ _ _ _ (by omega)]
    exact B1
  obtain ⟨r0, r1, r2, r3, r4⟩ := box4Q (HAL.out (.cells #[.int .i64 x.kind, .string x.name, .int .i64 x.num, .slice x.p x.xs.length x.cap] 29))
  show Calls Tryz.prog 26 #[.int .i64 k, .agg #[.int .i64 x.kind, .string x.name, .int .i64 x.num, .slice x.p x.xs.length x.cap]] w _
  clear hx hBW hS hC B0 B1
  go_enter Tryz.func26, Tryz.ntmps26
  go_upto_region 1 with fail
  rw [← hW]
  clear hW
  go_wp2_with fail
  refine bodyPost_ret (v := (QT.mk k ⟨#[]⟩ 0 (some ⟨W.heap.size, 0, none⟩) 1 [x]).v) (results_cell_row Tryz.results26 _ _ (w.heap.size + 1) 29 _ (0, 0) _ rfl (box4Q_all (HAL.out _) _ _ _ _) Tryz.underlying29 rfl (by kernel_rfl)) rfl ?_
  obtain ⟨t, h1, h2, h3, h4⟩ := HF.out _ rfl (.int .i64 k) (.string ⟨#[]⟩) (.int .i64 0) (.slice (some ⟨W.heap.size, 0, none⟩) 1 1)
  exact ⟨t, by rw [h1], h2, h3, h4⟩
/-- a list of asks that was laid -/
theorem qs_list (w : World) (l : List QT) (h : ∀ x ∈ l, QIn w x) : QsIn (w.alloc (.cells (asksC l).toArray 29)) (some ⟨w.heap.size, 0, none⟩) 0 l := by
  have hb : Below w.heap.size w (w.alloc (.cells (asksC l).toArray 29)) := (Below.refl _ _).alloc (Nat.le_refl _) _
  refine QsIn.mk fun j x hx => ⟨⟨w.heap.size, 0, rfl, by simp, ?_⟩, (h x (List.mem_of_getElem? hx)).below hb⟩
  have hc : ∀ i, i < 4 → (w.alloc (.cells (asksC l).toArray 29)).cell? ⟨w.heap.size, j * 4 + i, none⟩ = (askC x)[i]? := fun i hi => by
    rw [World.cell?_alloc_at _ _ _ _ rfl, ← asksC_at hx i hi]
    simp
  rw [show 0 + 4 * (0 + j) = j * 4 by omega]
  exact ⟨hc 0 (by omega), hc 1 (by omega), hc 2 (by omega), hc 3 (by omega)⟩
/-- the cells of a list of sets of the call's own -/
theorem own_sets {w : World} {base n c : Nat} {q : Option Addr} {L : List B} (h : w.ownsRow base 24 1 (.slice q n c) n (L.map fun x : B => Value.int .u64 (un x : Int))) (hn : 0 < n) :
    ∃ b, q = some ⟨b, 0, none⟩ ∧ ∀ (i : Nat) (x : B), L[i]? = some x → w.cell? ⟨b, i, none⟩ = some (.int .u64 (un x : Int)) := by
  have hl : L.length = n := by have := h.1; simpa using this
  obtain ⟨b, cap, hv, _, _⟩ := h.form hn
  have hg : q = some ⟨b, 0, none⟩ := by injection hv
  subst hg
  refine ⟨b, rfl, fun i x hx => ?_⟩
  have hi : i < n := by
    rw [← hl]
    rcases Nat.lt_or_ge i L.length with h1 | h1
    · exact h1
    · rw [List.getElem?_eq_none h1] at hx; cases hx
  rw [h.cellAt i (by omega), List.getElem?_map, hx]
  rfl
end Go.Proofs.YteefncohknclcaaGreatDoor
namespace Go.Proofs.YteefncohknclcaaGreatDoor
open Go.RowKit Go.Shelf
/-- the world in which a law has laid its graph and two asks -/
theorem argGAA (w : World) (g0 g1 g2 g3 : Value) (x y : QT) : ∃ W, W = ((w.alloc (.cells #[g0, g1, g2, g3] 26)).alloc (.cells #[.int .i64 x.kind, .string x.name, .int .i64 x.num, .slice x.p x.xs.length x.cap] 29)).alloc (.cells #[.int .i64 y.kind, .string y.name, .int .i64 y.num, .slice y.p y.xs.length y.cap] 29) ∧ Below w.heap.size w W ∧ W.heap.size = w.heap.size + 3 ∧
    ∀ u : World, Below W.heap.size W u → (u.cell? ⟨w.heap.size, 0, none⟩ = some g0 ∧ u.cell? ⟨w.heap.size, 1, none⟩ = some g1 ∧ u.cell? ⟨w.heap.size, 2, none⟩ = some g2 ∧ u.cell? ⟨w.heap.size, 3, none⟩ = some g3) ∧
      (u.cell? ⟨w.heap.size + 1, 0, none⟩ = some (.int .i64 x.kind) ∧ u.cell? ⟨w.heap.size + 1, 1, none⟩ = some (.string x.name) ∧ u.cell? ⟨w.heap.size + 1, 2, none⟩ = some (.int .i64 x.num) ∧ u.cell? ⟨w.heap.size + 1, 3, none⟩ = some (.slice x.p x.xs.length x.cap)) ∧ (u.cell? ⟨w.heap.size + 2, 0, none⟩ = some (.int .i64 y.kind) ∧ u.cell? ⟨w.heap.size + 2, 1, none⟩ = some (.string y.name) ∧ u.cell? ⟨w.heap.size + 2, 2, none⟩ = some (.int .i64 y.num) ∧ u.cell? ⟨w.heap.size + 2, 3, none⟩ = some (.slice y.p y.xs.length y.cap)) := by
  obtain ⟨A, hA, hBA, hSA, hCA⟩ := argGA w g0 g1 g2 g3 (.int .i64 x.kind) (.string x.name) (.int .i64 x.num) (.slice x.p x.xs.length x.cap)
  obtain ⟨W, hW, hBW, hSW, hCW⟩ := arg1 A (.int .i64 y.kind) (.string y.name) (.int .i64 y.num) (.slice y.p y.xs.length y.cap)
  refine ⟨W, by rw [hW, hA], hBA.trans (hBW.mono hBA.size), by omega, fun u hu => ?_⟩
  obtain ⟨h1, h2⟩ := hCA u (hBW.trans (hu.mono hBW.size))
  refine ⟨h1, h2, ?_⟩
  rw [← hSA]
  exact hCW u hu
theorem two_cnt {t p r : QT} {k : Int} {a b : Nat} (h : qabs t = .mk k [] 0 [qabs p, qabs r]) (h1 : qcnt (qabs p) ≤ a) (h2 : qcnt (qabs r) ≤ b) : qcnt (qabs t) ≤ 1 + (a + b) := by
  rw [h, cnt_mk, cnts_two]; omega
theorem one_cnt {t p : QT} {k : Int} {s : Txt} {n : Int} {a : Nat} (h : qabs t = .mk k s n [qabs p]) (h1 : qcnt (qabs p) ≤ a) : qcnt (qabs t) ≤ 1 + a := by
  rw [h, cnt_mk, cnts_one]; omega
/-- what a call of evals comes to -/
def EvRes (g : GD) (l : List QT) (b : Nat) (sv : Value) (ok : Bool) (w' : World) : Prop :=
  (ok = true ∧ (∀ t ∈ l, Qev g (qabs t)) ∧ ∃ (q : Option Addr) (c : Nat), sv = .slice q l.length c ∧ w'.ownsRow b 24 1 (.slice q l.length c) l.length ((l.map fun t => qval g (qabs t) []).map fun x : B => Value.int .u64 (un x : Int))) ∨ (ok = false ∧ sv = .slice none 0 0)
theorem evals_res {g : GD} {l : List QT} {w w' : World} {e : Ending} (h : EvalsPost g l w e w') : (∃ (sv : Value) (ok : Bool), e = .returned (.tuple #[sv, .bool ok]) ∧ EvRes g l w.heap.size sv ok w') ∧ Below w.heap.size w w' := by
  obtain ⟨h1, h2⟩ := h
  refine ⟨?_, h2⟩
  rcases h1 with ⟨h3, q, c, rfl, h4⟩ | ⟨_, rfl⟩
  · exact ⟨_, true, rfl, .inl ⟨rfl, h3, q, c, rfl, h4⟩⟩
  · exact ⟨_, false, rfl, .inr ⟨rfl, rfl⟩⟩
theorem res_cells {g : GD} {l : List QT} {b : Nat} {sv : Value} {w' : World} (h : EvRes g l b sv true w') (hl : 0 < l.length) : (∀ t ∈ l, Qev g (qabs t)) ∧ ∃ (bq c : Nat), sv = .slice (some ⟨bq, 0, none⟩) l.length c ∧ ∀ (i : Nat) (t : QT), l[i]? = some t → w'.cell? ⟨bq, i, none⟩ = some (.int .u64 (un (qval g (qabs t) []) : Int)) := by
  rcases h with ⟨_, h3, q, c, rfl, h4⟩ | ⟨h, _⟩
  · obtain ⟨bq, rfl, h5⟩ := own_sets h4 hl
    exact ⟨h3, bq, c, rfl, fun i t ht => h5 i _ (by rw [List.getElem?_map, ht]; rfl)⟩
  · cases h
end Go.Proofs.YteefncohknclcaaGreatDoor
