/- Texts joined: StaleW, MillW, StaleLawW, StaleOnlyW. Conditions: theirs. -/
import Derived.Test.YtcgimnokdicmcaaDoorStaleLawsM2
import Derived.Test.YtcgimnokdicmcaaDoorFromW
import Derived.Test.YtcgimnokdicmcaaDoorGraphRowsW
import Derived.Test.YtcgimnokdicmcaaDoorReachClosedW
import Derived.Test.YtcgimnokdicmcaaDoorGoodW
namespace Go.Proofs.YtcgimnokdicmcaaDoor
open Go.RowKit Go.Shelf
/-- the world in which a call has laid its graph and what is seen of it -/
theorem args2 (w : World) (v0 v1 v2 v3 v4 v5 : Value) : ∃ W, W = (w.alloc (.cells #[v0, v1, v2, v3] 26)).alloc (.cells #[v4, v5] 67) ∧ Below w.heap.size w W ∧ W.heap.size = w.heap.size + 2 ∧
    ∀ u : World, Below W.heap.size W u → u.cell? ⟨w.heap.size, 0, none⟩ = some v0 ∧ u.cell? ⟨w.heap.size, 1, none⟩ = some v1 ∧ u.cell? ⟨w.heap.size, 2, none⟩ = some v2 ∧ u.cell? ⟨w.heap.size, 3, none⟩ = some v3 ∧ u.cell? ⟨w.heap.size + 1, 0, none⟩ = some v4 ∧ u.cell? ⟨w.heap.size + 1, 1, none⟩ = some v5 := by
  obtain ⟨W, hW⟩ : ∃ W, W = (w.alloc (.cells #[v0, v1, v2, v3] 26)).alloc (.cells #[v4, v5] 67) := ⟨_, rfl⟩
  have hs : w.heap.size + 1 < W.heap.size := by rw [hW]; simp
  have hs0 : w.heap.size < W.heap.size := by omega
  refine ⟨W, hW, by rw [hW]; exact ((Below.refl _ _).alloc (Nat.le_refl _) _).alloc (by simp) _, by rw [hW]; simp, fun u hu => ?_⟩
  rw [hu.cell hs0, hu.cell hs0, hu.cell hs0, hu.cell hs0, hu.cell hs, hu.cell hs, hW]
  refine ⟨?_, ?_, ?_, ?_, ?_, ?_⟩
  all_goals first
    | (rw [World.cell?_alloc_lt _ _ _ (by simp), World.cell?_alloc_at _ _ _ _ rfl]; rfl)
    | (rw [World.cell?_alloc_at _ _ _ _ (by simp)]; rfl)
/-- what Set answers -/
def SSet (w : World) (g : GD) (x : SD) (e : Ending) (w' : World) : Prop :=
  ((Right g x ∧ ∃ (s : B) (o : List Nat), KOrd (rws g) o 0#64 ∧ Stale g x s ∧ e = .returned (.tuple #[.int .u64 (un s), .int .i64 0])) ∨
    (¬ Fit g x ∧ ∃ E : Int, E ≠ 0 ∧ e = .returned (.tuple #[.int .u64 0, .int .i64 E]))) ∧ Below w.heap.size w w'
set_option maxHeartbeats 2000000 in
theorem Set_ok (v u : Value) (g : GD) (x : SD) (w : World) (h : GrAt w v g) (hx : SnAt w u x) (hT : Tab w) : Calls Tryd.prog 36 #[v, u] w (SSet w g x) := by
  have hGr := h
  have hSn := hx
  obtain ⟨p, n, c, q, m, d, rfl, _, _⟩ := h.at_
  obtain ⟨p2, n2, c2, rfl, _, _, _⟩ := hx.at_
  obtain ⟨W, hW, hBW, hS, hC⟩ := args2 w (.slice p n c) (.slice q m d) (.int .u64 (un g.phony : Int)) (.int .u64 (un g.made : Int)) (.slice p2 n2 c2) (.int .u64 (un x.dirty : Int))
  have HC := Lib.hid hC
  have HGr := Lib.hid (hGr.below hBW)
  have HSn := Lib.hid (hSn.below hBW)
  have HT := Lib.hid (hT.below hBW)
  have HFIN : Hid (∀ u, Below W.heap.size W u → Below w.heap.size w u) := by show ∀ u, _; exact fun u hu => hBW.trans (hu.mono (by omega))
  obtain ⟨k0, k1, k2, k3, k4, k5⟩ := HC.out W (Below.refl _ _)
  rw [hW] at k0 k1 k2 k3 k4 k5
  clear h hx hGr hSn hT hBW hS hC
  go_enter Tryd.func36, Tryd.ntmps36
  go_wp2_with fail
  rw [← hW]
  clear hW k0 k1 k2 k3 k4 k5
  refine (scheck_ok _ _ g x W HGr.out HSn.out HT.out).mono ?_
  rintro e w2 ⟨hcase, hb2⟩
  have HB2 := Lib.hid hb2
  obtain ⟨k0, k1, k2, k3, k4, k5⟩ := HC.out w2 hb2
  clear hb2
  rcases hcase with ⟨hR, pr, qo, cr, co, o, hK, rfl, hRA, hO⟩ | ⟨hnf, E, hE0, rfl⟩
  · have HR := Lib.hid hR
    have HK := Lib.hid hK
    have HRA := Lib.hid hRA
    have HO := Lib.hid hO
    obtain ⟨ol, hol⟩ : ∃ ol, ol = o.length := ⟨_, rfl⟩
    have HOL := Lib.hid hol
    rw [← hol] at HO ⊢
    clear hR hK hRA hO hol
    go_wp2_with fail
    have hol := HOL.out
    subst hol
    refine (sset_ok _ _ g x HR.out o HK.out pr qo cr co w2 (HGr.out.below HB2.out) (HSn.out.below HB2.out) HRA.out HO.out (HT.out.belowB (Tab.lt HT.out) HB2.out)).mono ?_
    rintro e w3 ⟨⟨s, rfl, hS⟩, hb3⟩
    have HS := Lib.hid hS
    have HB3 := Lib.hid (HB2.out.trans (hb3.mono HB2.out.size))
    clear hS hb3
    go_wp2
    go_ret2
    exact ⟨.inl ⟨HR.out, s, o, HK.out, HS.out, rfl⟩, HFIN.out _ HB3.out⟩
  · obtain ⟨i1, i2⟩ := int_ne' hE0
    have HNF := Lib.hid hnf
    clear hnf
    go_wp2
    go_ret2
    exact ⟨.inr ⟨HNF.out, E, hE0, rfl⟩, HFIN.out _ HB2.out⟩
/-- what Only answers -/
def SOnly (w : World) (g : GD) (x : SD) (a : B) (e : Ending) (w' : World) : Prop :=
  ((Fit g x ∧ chks (rws g) [a] = 0 ∧ ∃ s : B, Stale g x s ∧ e = .returned (.tuple #[.int .u64 (un (cls (rws g) a &&& s)), .int .i64 0])) ∨
    (¬ (Fit g x ∧ chks (rws g) [a] = 0) ∧ ∃ E : Int, E ≠ 0 ∧ e = .returned (.tuple #[.int .u64 0, .int .i64 E]))) ∧ Below w.heap.size w w'
set_option maxHeartbeats 2000000 in
theorem Only_ok (v u : Value) (g : GD) (x : SD) (a : B) (w : World) (h : GrAt w v g) (hx : SnAt w u x) (hT : Tab w) : Calls Tryd.prog 38 #[v, u, .int .u64 (un a : Int)] w (SOnly w g x a) := by
  have hGr := h
  have hSn := hx
  obtain ⟨p, n, c, q, m, d, rfl, _, _⟩ := h.at_
  obtain ⟨p2, n2, c2, rfl, _, _, _⟩ := hx.at_
  obtain ⟨W, hW, hBW, hS, hC⟩ := args2 w (.slice p n c) (.slice q m d) (.int .u64 (un g.phony : Int)) (.int .u64 (un g.made : Int)) (.slice p2 n2 c2) (.int .u64 (un x.dirty : Int))
  have HC := Lib.hid hC
  have HGr := Lib.hid (hGr.below hBW)
  have HSn := Lib.hid (hSn.below hBW)
  have HT := Lib.hid (hT.below hBW)
  have HFIN : Hid (∀ u, Below W.heap.size W u → Below w.heap.size w u) := by show ∀ u, _; exact fun u hu => hBW.trans (hu.mono (by omega))
  obtain ⟨k0, k1, k2, k3, k4, k5⟩ := HC.out W (Below.refl _ _)
  rw [hW] at k0 k1 k2 k3 k4 k5
  clear h hx hGr hSn hT hBW hS hC
  go_enter Tryd.func38, Tryd.ntmps38
  go_wp2_with fail
  rw [← hW]
  clear hW k0 k1 k2 k3 k4 k5
  refine (scheck_ok _ _ g x W HGr.out HSn.out HT.out).mono ?_
  rintro e w2 ⟨hcase, hb2⟩
  have HB2 := Lib.hid hb2
  obtain ⟨k0, k1, k2, k3, k4, k5⟩ := HC.out w2 hb2
  clear hb2
  rcases hcase with ⟨hR, pr, qo, cr, co, o, hK, rfl, hRA, hO⟩ | ⟨hnf, E, hE0, rfl⟩
  · have HR := Lib.hid hR
    have HK := Lib.hid hK
    have HRA := Lib.hid hRA
    have HO := Lib.hid hO
    have HT2 := Lib.hid (HT.out.belowB (Tab.lt HT.out) HB2.out)
    obtain ⟨ol, hol⟩ : ∃ ol, ol = o.length := ⟨_, rfl⟩
    have HOL := Lib.hid hol
    rw [← hol] at HO ⊢
    clear hR hK hRA hO hol
    by_cases hch : chks (rws g) [a] = 0
    · have HCH := Lib.hid hch
      clear hch
      go_wp2_with (go_at_call 41; refine (From_yes pr g.names.length cr (rws g) a HCH.out w2 HRA.out HT2.out).mono ?_; rintro e w4 ⟨rfl, hb4⟩; have HB4 := Lib.hid (HB2.out.trans (hb4.mono HB2.out.size)); have HB24 := Lib.hid hb4; obtain ⟨l0, l1, l2, l3, l4, l5⟩ := HC.out w4 HB4.out; clear hb4 k0 k1 k2 k3 k4 k5)
      have hol := HOL.out
      subst hol
      refine (sset_ok _ _ g x HR.out o HK.out pr qo cr co w4 (HGr.out.below HB4.out) (HSn.out.below HB4.out) (HRA.out.below HB24.out) ((HO.out.below HB24.out).more HB24.out.size) (HT2.out.belowB (Tab.lt HT2.out) HB24.out)).mono ?_
      rintro e w3 ⟨⟨s, rfl, hS⟩, hb3⟩
      have HS := Lib.hid hS
      have HB3 := Lib.hid (HB4.out.trans (hb3.mono HB4.out.size))
      clear hS hb3
      go_wp2
      go_ret2
      exact ⟨.inl ⟨⟨HR.out, o, HK.out⟩, HCH.out, s, HS.out, rfl⟩, HFIN.out _ HB3.out⟩
    · obtain ⟨i1, i2⟩ := int_ne hch
      have HCH := Lib.hid hch
      clear hch
      go_wp2_with (go_at_call 41; refine (From_no pr g.names.length cr (rws g) a HCH.out w2 HRA.out).mono ?_; rintro e w4 ⟨rfl, hb4⟩; have HB4 := Lib.hid (HB2.out.trans (hb4.mono HB2.out.size)); clear hb4 k0 k1 k2 k3 k4 k5)
      go_ret2
      exact ⟨.inr ⟨fun h => HCH.out h.2, _, HCH.out, rfl⟩, HFIN.out _ HB4.out⟩
  · obtain ⟨i1, i2⟩ := int_ne' hE0
    have HNF := Lib.hid hnf
    clear hnf
    go_wp2
    go_ret2
    exact ⟨.inr ⟨fun h => HNF.out h.1, E, hE0, rfl⟩, HFIN.out _ HB2.out⟩
end Go.Proofs.YtcgimnokdicmcaaDoor
namespace Go.Proofs.YtcgimnokdicmcaaDoor
open Go.RowKit Go.Shelf
def G0 : GD := ⟨[⟨#[97]⟩, ⟨#[98]⟩], [(0, 1)], 0#64, 1#64⟩
theorem good0 : Good G0 := by
  refine ⟨by decide, ?_, ?_, ?_, ?_, by decide⟩
  · intro j hj
    match j, hj with
    | 0, _ => decide +kernel
    | 1, _ => decide +kernel
  · intro i j hij hj
    have hj2 : j < 2 := hj
    have : i = 0 ∧ j = 1 := by omega
    rw [this.1, this.2]
    decide
  · intro x hx
    have : x = (0, 1) := by simpa [G0] using hx
    subst this
    exact ⟨by decide, by decide, by decide, by decide⟩
  · intro i hi
    have : i + 1 < 1 := hi
    omega
theorem rows0 : rowsE 2 [(0, 1)] = [2#64, 0#64] := by decide
set_option maxHeartbeats 600000 in
theorem mill_ok (w : World) : Calls Tryd.prog 42 #[] w fun e w' => (∃ v, e = .returned v ∧ GrAt w' v G0) ∧ Below w.heap.size w w' := by
  go_enter Tryd.func42, Tryd.ntmps42
  go_wp2
  obtain ⟨A, hA⟩ : ∃ A : Obj, A = .cells #[.slice (some ⟨w.heap.size + 1, 0, none⟩) 2 2, .slice (some ⟨w.heap.size + 1 + 1, 0, none⟩) 1 1, .int .u64 0, .int .u64 1] 26 := ⟨_, rfl⟩
  obtain ⟨D, hD⟩ : ∃ D : Obj, D = .cells #[.int .i64 0, .int .i64 1] 31 := ⟨_, rfl⟩
  rw [← hA, ← hD]
  have hs1 : (w.alloc A).heap.size = w.heap.size + 1 := by simp
  have hs2 : ((w.alloc A).alloc (.cells #[.string ⟨#[97]⟩, .string ⟨#[98]⟩] 9)).heap.size = w.heap.size + 1 + 1 := by simp
  have hN := NL_two (w.alloc A) ⟨#[97]⟩ ⟨#[98]⟩ (by decide) (by decide)
  rw [hs1] at hN
  have hN2 := hN.below ((Below.refl _ _).alloc (Nat.le_refl _) D)
  have hE : EsAt (((w.alloc A).alloc (.cells #[.string ⟨#[97]⟩, .string ⟨#[98]⟩] 9)).alloc D) (some ⟨w.heap.size + 1 + 1, 0, none⟩) 1 1 [(0, 1)] := by
    refine ⟨rfl, fun _ => ⟨w.heap.size + 1 + 1, 0, rfl, by simp, fun k x hx => ?_⟩, by omega⟩
    match k, hx with
    | 0, hx =>
      injection hx with hx
      subst hx
      rw [hD]
      exact ⟨(World.cell?_alloc_at _ _ _ _ hs2.symm).trans rfl, (World.cell?_alloc_at _ _ _ _ hs2.symm).trans rfl⟩
  refine bodyPost_ret (v := .agg #[.slice (some ⟨w.heap.size + 1, 0, none⟩) 2 2, .slice (some ⟨w.heap.size + 1 + 1, 0, none⟩) 1 1, .int .u64 0, .int .u64 1])
    (results_cell_row Tryd.results42 _ _ w.heap.size 26 _ (0, 0) _ rfl ?_ Tryd.underlying26 rfl (by kernel_rfl)) rfl
    ⟨⟨_, rfl, ⟨_, _, _, _, _, _, rfl, hN2, hE⟩⟩, (((Below.refl _ _).alloc (Nat.le_refl _) _).alloc (by rw [hs1]; omega) _).alloc (by rw [hs2]; omega) _⟩
  rw [heap_alloc_old _ _ _ (by rw [hs2]; omega), heap_alloc_old _ _ _ (by rw [hs1]; omega), heap_alloc_new, hA]
theorem ownG_below {w w' : World} {base e n : Nat} {v : Value} {xs : List Value} (h : w.ownsRow base e 1 v n xs) (hb : Below w.heap.size w w') : w'.ownsRow base e 1 v n xs := by
  refine h.kept (row := none) ⟨hb.os, hb.tape, hb.output, hb.size, fun k hk _ => hb.block k hk⟩ ?_
  cases hv : v.ownBlock
  · exact .inl rfl
  · exact .inr (by simp)
end Go.Proofs.YtcgimnokdicmcaaDoor
namespace Go.Proofs.YtcgimnokdicmcaaDoor
open Go.RowKit Go.Shelf
theorem has_ext {s t : B} (h : ∀ n, has s n = has t n) : s = t := BitVec.eq_of_getLsbD_eq fun i _ => h i
def X0 : SD := ⟨[1, 2], 0#64⟩
theorem rws0 : rws G0 = [2#64, 0#64] := rows0
theorem right0 : Right G0 X0 := by
  refine ⟨good0, rfl, ?_, fun k h => (by rw [show X0.dirty = 0#64 from rfl, has_zero] at h; cases h), ?_⟩
  · intro n hn
    have hn2 : n < 2 := hn
    match n, hn2 with
    | 0, _ => decide
    | 1, _ => decide
  · intro n hn
    have hn2 : n < 2 := hn
    match n, hn2 with
    | 0, _ => decide
    | 1, _ => decide
theorem ord0 : KOrd (rws G0) [1, 0] 0#64 := by
  have hv : Valid (rws G0) := valid_rws good0
  have h0 := kord_nil (r := rws G0) (by rw [rws0]; decide)
  have h1 := kord_snoc hv h0 (n := 1) (by rw [rws0]; decide) (by rw [rws0]; decide)
  have h2 := kord_snoc hv h1 (n := 0) (by rw [rws0]; decide) (by rw [rws0]; decide)
  have e : belowB (rws G0).length &&& ~~~(1#64 <<< 1) &&& ~~~(1#64 <<< 0) = 0#64 := by rw [rws0]; decide
  rw [e] at h2
  exact h2
theorem stale0 {s : B} (h : Stale G0 X0 s) : s = 1#64 := by
  refine has_ext fun n => ?_
  have hn := h n
  by_cases h2 : n = 0
  · subst h2
    rw [show has 1#64 0 = true by decide]
    refine hn.2 ⟨by decide, by decide, .inr (.inr ⟨1, by rw [rws0]; decide, .inr (.inr (by decide))⟩)⟩
  · have h1 : has 1#64 n = false := by
      rw [Bool.eq_false_iff]
      intro h3
      have : n < 64 := has_lt h3
      have h4 : ∀ k : Fin 64, has 1#64 k.1 = true → k.1 = 0 := by decide
      exact h2 (h4 ⟨n, this⟩ h3)
    rw [h1, Bool.eq_false_iff]
    intro h3
    have h4 := (hn.1 h3).2.1
    rw [show G0.made ||| G0.phony = 1#64 from by decide, h1] at h4
    cases h4
theorem iv_two (w : World) (a b : Int) : Reads (w.alloc (.cells #[.int .i64 a, .int .i64 b] 2)) (w.heap.size + 1) 1 (some ⟨w.heap.size, 0, none⟩) 2 (iv [a, b]) := by
  refine ⟨by simp [iv], fun _ => ⟨_, rfl, by simp, fun j u hj => ?_⟩⟩
  have hs : (w.alloc (.cells #[.int .i64 a, .int .i64 b] 2)).cell? ⟨w.heap.size, j, none⟩ = (iv [a, b])[j]? := by simp [iv]
  have ha : (⟨w.heap.size, 0, none⟩ : Addr).add j = ⟨w.heap.size, j, none⟩ := by
    unfold Addr.add
    split
    · rename_i h; subst h; rfl
    · simp
  rw [ha, hs, hj]
set_option maxHeartbeats 1000000 in
theorem stales_below (w : World) (hT : Tab w) : Calls Tryd.prog 35 #[] w fun e w' => e = .returned (.bool true) ∧ Below w.heap.size w w' := by
  go_enter Tryd.func35, Tryd.ntmps35
  go_wp2_with fail
  refine (mill_ok w).mono ?_
  rintro e w1 ⟨⟨v, rfl, hv⟩, hb1⟩
  have HV := Lib.hid hv
  have HB1 := Lib.hid hb1
  have HT1 := Lib.hid (hT.belowB (Tab.lt hT) hb1)
  clear hv hb1 hT
  go_wp2_with fail
  have hba : Below w1.heap.size w1 (w1.alloc (.cells #[.int .i64 1, .int .i64 2] 2)) := (Below.refl _ _).alloc (Nat.le_refl _) _
  have hsn : SnAt (w1.alloc (.cells #[.int .i64 1, .int .i64 2] 2)) (.agg #[.slice (some ⟨w1.heap.size, 0, none⟩) 2 2, .int .u64 (un X0.dirty : Int)]) X0 :=
    ⟨_, _, _, rfl, rfl, (iv_two w1 1 2).more (by simp), by omega⟩
  refine (Set_ok _ _ G0 X0 _ (HV.out.below hba) hsn (HT1.out.below hba)).mono ?_
  rintro e w2 ⟨hcase, hb2⟩
  have HB2 := Lib.hid (HB1.out.trans ((hba.trans (hb2.mono (by simp))).mono HB1.out.size))
  rcases hcase with ⟨_, s, o, _, hs, rfl⟩ | ⟨hno, _⟩
  · obtain rfl := stale0 hs
    clear hs hba hsn hb2
    go_wp2
    go_ret
    exact ⟨rfl, HB2.out⟩
  · exact absurd ⟨right0, _, ord0⟩ hno
theorem stale_one {g : GD} {x : SD} {s t : B} {o : List Nat} (ho : KOrd (rws g) o 0#64) (hs : Stale g x s) (ht : Stale g x t) : s = t := by
  have h1 := stale_more ho rfl (fun _ h => h) hs ht
  have h2 := stale_more ho rfl (fun _ h => h) ht hs
  refine has_ext fun n => ?_
  have e1 := eq_zero_iff.1 h1 n
  have e2 := eq_zero_iff.1 h2 n
  by_cases hn : n < 64
  · rw [has_and, has_not _ _ hn] at e1 e2
    cases ha : has s n <;> cases hb : has t n <;> rw [ha, hb] at e1 e2 <;> simp_all
  · rw [Bool.eq_false_iff.2 fun h => hn (has_lt h), Bool.eq_false_iff.2 fun h => hn (has_lt h)]
set_option maxHeartbeats 4000000 in
set_option maxRecDepth 100000 in
theorem staleMore_walk (v u : Value) (g : GD) (x : SD) (dd : B) (w : World) (h : GrAt w v g) (hx : SnAt w u x) (hT : Tab w) :
    Calls Tryd.prog 9 #[v, u, .int .u64 (un dd : Int)] w fun e w' => e = .returned (.bool true) ∧ Below w.heap.size w w' := by
  have hGr := h
  have hSn := hx
  obtain ⟨p, n, c, q, m, d, rfl, _, _⟩ := h.at_
  obtain ⟨p2, n2, c2, rfl, hx1, hx2, hx3⟩ := hx.at_
  obtain ⟨W, hW, hBW, hS, hC⟩ := args2 w (.slice p n c) (.slice q m d) (.int .u64 (un g.phony : Int)) (.int .u64 (un g.made : Int)) (.slice p2 n2 c2) (.int .u64 (un x.dirty : Int))
  have HC := Lib.hid hC
  have HGr := Lib.hid (hGr.below hBW)
  have HSn := Lib.hid (hSn.below hBW)
  have HT := Lib.hid (hT.below hBW)
  have HFIN : Hid (∀ u, Below W.heap.size W u → Below w.heap.size w u) := by show ∀ u, _; exact fun u hu => hBW.trans (hu.mono (by omega))
  have HSM : Hid (∀ u : World, Below W.heap.size W u → SnAt u (.agg #[.slice p2 n2 c2, .int .u64 (un (x.dirty ||| dd) : Int)]) ⟨x.at_, x.dirty ||| dd⟩) := by
    show ∀ u, _
    intro u hu
    exact ⟨_, _, _, rfl, hx1, ((hx2.below hBW).more hBW.size |>.below hu).more hu.size, hx3⟩
  obtain ⟨k0, k1, k2, k3, k4, k5⟩ := HC.out W (Below.refl _ _)
  rw [hW] at k0 k1 k2 k3 k4 k5
  clear h hx hGr hSn hT hBW hS hC hx1 hx2 hx3
  go_enter Tryd.func9, Tryd.ntmps9
  go_wp2_with fail
  rw [← hW]
  clear hW k0 k1 k2 k3 k4 k5
  refine (stales_below W HT.out).mono ?_
  rintro e w1 ⟨rfl, hb1⟩
  have HB1 := Lib.hid hb1
  obtain ⟨k0, k1, k2, k3, k4, k5⟩ := HC.out w1 hb1
  clear hb1
  go_wp2_with fail
  refine (Set_ok _ _ g x w1 (HGr.out.below HB1.out) (HSn.out.below HB1.out) (HT.out.belowB (Tab.lt HT.out) HB1.out)).mono ?_
  rintro e w2 ⟨hcase, hb2⟩
  have HB2 := Lib.hid (HB1.out.trans (hb2.mono HB1.out.size))
  clear hb2 k0 k1 k2 k3 k4 k5
  obtain ⟨s, E, he, hfacts⟩ : ∃ (s : B) (E : Int), e = .returned (.tuple #[.int .u64 (un s), .int .i64 E]) ∧ ((E = 0 ∧ ∃ o, KOrd (rws g) o 0#64 ∧ Stale g x s) ∨ (E ≠ 0 ∧ s = 0#64)) := by
    rcases hcase with ⟨_, s, o, hK, hS, rfl⟩ | ⟨_, E, hE0, rfl⟩
    · exact ⟨s, 0, rfl, .inl ⟨rfl, o, hK, hS⟩⟩
    · exact ⟨0#64, E, rfl, .inr ⟨hE0, rfl⟩⟩
  clear hcase
  subst he
  have HF := Lib.hid hfacts
  clear hfacts
  obtain ⟨k0, k1, k2, k3, k4, k5⟩ := HC.out w2 HB2.out
  have hbA := HB2.out.alloc HB2.out.size (.cells #[.slice p2 n2 c2, .int .u64 (un (x.dirty ||| dd) : Int)] 67)
  obtain ⟨j0, j1, j2, j3, j4, j5⟩ := HC.out _ hbA
  have HBA := Lib.hid hbA
  clear hbA
  go_wp2_with fail
  refine (Set_ok _ _ g ⟨x.at_, x.dirty ||| dd⟩ _ (HGr.out.below HBA.out) (HSM.out _ HBA.out) (HT.out.belowB (Tab.lt HT.out) HBA.out)).mono ?_
  rintro e w3 ⟨hcase, hb3⟩
  have HB3 := Lib.hid (HBA.out.trans (hb3.mono HBA.out.size))
  clear hb3 k0 k1 k2 k3 k4 k5 j0 j1 j2 j3 j4 j5
  rcases HF.out with ⟨rfl, o, hK, hS⟩ | ⟨hE0, rfl⟩
  · have HK := Lib.hid hK
    have HS := Lib.hid hS
    clear hK hS HF
    rcases hcase with ⟨_, t, o2, _, hS2, rfl⟩ | ⟨_, F, hF0, rfl⟩
    · have hz : s &&& ~~~t = 0#64 := stale_more (x := x) (y := ⟨x.at_, x.dirty ||| dd⟩) HK.out rfl (fun k h => by show has (x.dirty ||| dd) k = true; rw [has_or, h]; rfl) HS.out hS2
      have hzz : ((un (s &&& ~~~t) : Int) == 0) = true := by rw [hz]; rfl
      clear hS2 hz
      go_wp2
      go_ret
      exact ⟨rfl, HFIN.out _ HB3.out⟩
    · obtain ⟨i1, i2⟩ := int_ne' hF0
      go_wp2
      go_ret
      exact ⟨rfl, HFIN.out _ HB3.out⟩
  · obtain ⟨i1, i2⟩ := int_ne' hE0
    clear HF
    rcases hcase with ⟨_, t, o2, _, hS2, rfl⟩ | ⟨_, F, hF0, rfl⟩
    · clear hS2
      go_wp2
      go_ret
      exact ⟨rfl, HFIN.out _ HB3.out⟩
    · obtain ⟨i3, i4⟩ := int_ne' hF0
      go_wp2
      go_ret
      exact ⟨rfl, HFIN.out _ HB3.out⟩
end Go.Proofs.YtcgimnokdicmcaaDoor
namespace Go.Proofs.YtcgimnokdicmcaaDoor
open Go.RowKit Go.Shelf
/-- Only's answer, told as one -/
def OFact (g : GD) (x : SD) (a s : B) (E : Int) : Prop :=
  (E = 0 ∧ Fit g x ∧ chks (rws g) [a] = 0 ∧ ∃ t : B, Stale g x t ∧ s = cls (rws g) a &&& t) ∨ (E ≠ 0 ∧ ¬ (Fit g x ∧ chks (rws g) [a] = 0))
theorem only_fact {w : World} {g : GD} {x : SD} {a : B} {e : Ending} {w' : World} (h : SOnly w g x a e w') :
    ∃ (s : B) (E : Int), e = .returned (.tuple #[.int .u64 (un s), .int .i64 E]) ∧ OFact g x a s E := by
  rcases h.1 with ⟨hF, hc, s, hS, rfl⟩ | ⟨hno, E, hE0, rfl⟩
  · exact ⟨_, 0, rfl, .inl ⟨rfl, hF, hc, s, hS, rfl⟩⟩
  · exact ⟨0#64, E, rfl, .inr ⟨hE0, hno⟩⟩
def SFact (g : GD) (x : SD) (s : B) (E : Int) : Prop := (E = 0 ∧ Fit g x ∧ Stale g x s) ∨ (E ≠ 0 ∧ s = 0#64 ∧ ¬ Fit g x)
theorem set_fact {w : World} {g : GD} {x : SD} {e : Ending} {w' : World} (h : SSet w g x e w') :
    ∃ (s : B) (E : Int), e = .returned (.tuple #[.int .u64 (un s), .int .i64 E]) ∧ SFact g x s E := by
  rcases h.1 with ⟨hR, s, o, hK, hS, rfl⟩ | ⟨hno, E, hE0, rfl⟩
  · exact ⟨_, 0, rfl, .inl ⟨rfl, ⟨hR, o, hK⟩, hS⟩⟩
  · exact ⟨0#64, E, rfl, .inr ⟨hE0, rfl, hno⟩⟩
theorem fit_one {g : GD} {x : SD} (hF : Fit g x) {s t : B} (hs : Stale g x s) (ht : Stale g x t) : s = t := by
  obtain ⟨_, o, hK⟩ := hF
  exact stale_one hK hs ht
theorem and_or (a b s : B) : (a ||| b) &&& s = a &&& s ||| b &&& s := by
  refine has_ext fun n => ?_
  rw [has_and, has_or, has_or, has_and, has_and]
  cases has a n <;> cases has b n <;> cases has s n <;> rfl
theorem only_or {g : GD} {x : SD} {a b s p q r : B} (hS : SFact g x s 0) (hp : OFact g x a p 0) (hq : OFact g x b q 0) {F : Int} (hr : OFact g x (a ||| b) r F) : F = 0 ∧ r = p ||| q := by
  rcases hS with ⟨_, hF, hs⟩ | ⟨h, _⟩
  · rcases hp with ⟨_, _, ha, t1, ht1, rfl⟩ | ⟨h, _⟩
    · rcases hq with ⟨_, _, hb, t2, ht2, rfl⟩ | ⟨h, _⟩
      · obtain rfl := fit_one hF hs ht1
        obtain rfl := fit_one hF hs ht2
        rcases hr with ⟨rfl, _, _, t3, ht3, rfl⟩ | ⟨_, hno⟩
        · obtain rfl := fit_one hF hs ht3
          exact ⟨rfl, by rw [cls_or, and_or]⟩
        · exact absurd ⟨hF, chks_or ha hb⟩ hno
      · exact absurd rfl h
    · exact absurd rfl h
  · exact absurd rfl h
theorem only_all {g : GD} {x : SD} {s t : B} (hS : SFact g x s 0) {F : Int} (ht : OFact g x (belowB g.names.length) t F) : F = 0 ∧ t = s := by
  rcases hS with ⟨_, hF, hs⟩ | ⟨h, _⟩
  · have h64 := hF.1.good.names
    rcases ht with ⟨rfl, _, _, t3, ht3, rfl⟩ | ⟨_, hno⟩
    · obtain rfl := fit_one hF hs ht3
      refine ⟨rfl, has_ext fun n => ?_⟩
      rw [has_and]
      cases hn : has s n
      · simp
      · have hlt := ((hs n).1 hn).1
        have : has (cls (rws g) (belowB g.names.length)) n = true := has_cls.2 ⟨n, by rw [has_below _ n (by omega)]; exact decide_eq_true hlt, Rch.refl n⟩
        rw [this]; rfl
    · refine absurd ⟨hF, chks_bits (valid_rws hF.1.good) fun u hu k hk => ?_⟩ hno
      have : u = belowB g.names.length := by simpa using hu
      subst this
      rw [has_below _ k (has_lt hk)] at hk
      rw [rws_len]
      exact of_decide_eq_true hk
  · exact absurd rfl h
set_option maxHeartbeats 4000000 in
set_option maxRecDepth 100000 in
theorem staleOnly_walk (v u : Value) (g : GD) (x : SD) (a b : B) (w : World) (h : GrAt w v g) (hx : SnAt w u x) (hT : Tab w) :
    Calls Tryd.prog 10 #[v, u, .int .u64 (un a : Int), .int .u64 (un b : Int)] w fun e w' => e = .returned (.bool true) ∧ Below w.heap.size w w' := by
  have hGr := h
  have hSn := hx
  obtain ⟨p, n, c, q, m, d, rfl, hN, _⟩ := h.at_
  obtain ⟨p2, n2, c2, rfl, hx1, hx2, hx3⟩ := hx.at_
  have hln := hN.at_.len
  subst hln
  obtain ⟨W, hW, hBW, hS, hC⟩ := args2 w (.slice p g.names.length c) (.slice q m d) (.int .u64 (un g.phony : Int)) (.int .u64 (un g.made : Int)) (.slice p2 n2 c2) (.int .u64 (un x.dirty : Int))
  have HC := Lib.hid hC
  have HGr := Lib.hid (hGr.below hBW)
  have HSn := Lib.hid (hSn.below hBW)
  have HT := Lib.hid (hT.below hBW)
  have HFIN : Hid (∀ u, Below W.heap.size W u → Below w.heap.size w u) := by show ∀ u, _; exact fun u hu => hBW.trans (hu.mono (by omega))
  obtain ⟨k0, k1, k2, k3, k4, k5⟩ := HC.out W (Below.refl _ _)
  rw [hW] at k0 k1 k2 k3 k4 k5
  clear h hx hGr hSn hT hBW hS hC hx1 hx2 hx3 hN
  go_enter Tryd.func10, Tryd.ntmps10
  go_wp2_with fail
  rw [← hW]
  clear hW k0 k1 k2 k3 k4 k5
  refine (stales_below W HT.out).mono ?_
  rintro e w1 ⟨rfl, hb1⟩
  have HB1 := Lib.hid hb1
  obtain ⟨k0, k1, k2, k3, k4, k5⟩ := HC.out w1 hb1
  clear hb1
  go_wp2_with fail
  refine (Set_ok _ _ g x w1 (HGr.out.below HB1.out) (HSn.out.below HB1.out) (HT.out.belowB (Tab.lt HT.out) HB1.out)).mono ?_
  rintro e w2 hcase
  have HB2 := Lib.hid (HB1.out.trans (hcase.2.mono HB1.out.size))
  obtain ⟨s, E, he, hs⟩ := set_fact hcase
  subst he
  have HS := Lib.hid hs
  clear hcase hs k0 k1 k2 k3 k4 k5
  obtain ⟨k0, k1, k2, k3, k4, k5⟩ := HC.out w2 HB2.out
  go_wp2_with fail
  refine (Only_ok _ _ g x a w2 (HGr.out.below HB2.out) (HSn.out.below HB2.out) (HT.out.belowB (Tab.lt HT.out) HB2.out)).mono ?_
  rintro e w3 hcase
  have HB3 := Lib.hid (HB2.out.trans (hcase.2.mono HB2.out.size))
  obtain ⟨pp, F, he, hs⟩ := only_fact hcase
  subst he
  have HPA := Lib.hid hs
  clear hcase hs k0 k1 k2 k3 k4 k5
  obtain ⟨k0, k1, k2, k3, k4, k5⟩ := HC.out w3 HB3.out
  go_wp2_with fail
  refine (Only_ok _ _ g x b w3 (HGr.out.below HB3.out) (HSn.out.below HB3.out) (HT.out.belowB (Tab.lt HT.out) HB3.out)).mono ?_
  rintro e w4 hcase
  have HB4 := Lib.hid (HB3.out.trans (hcase.2.mono HB3.out.size))
  obtain ⟨qq, G, he, hs⟩ := only_fact hcase
  subst he
  have HPB := Lib.hid hs
  clear hcase hs k0 k1 k2 k3 k4 k5
  have hb5 := HB4.out.alloc HB4.out.size (.cells #[.int .i64 E, .int .i64 F, .int .i64 G] 34)
  obtain ⟨k0, k1, k2, k3, k4, k5⟩ := HC.out _ hb5
  have HB5 := Lib.hid hb5
  clear hb5
  cases hok : allOk [E, F, G]
  · have HOK := Lib.hid hok
    clear hok
    go_wp2_with (go_at_call 23; refine (good3 _ _ _ w4).mono ?_; rw [HOK.out]; rintro e w' ⟨rfl, rfl⟩)
    go_ret
    exact ⟨rfl, HFIN.out _ HB5.out⟩
  · have HOK := Lib.hid hok
    have hz : E = 0 ∧ F = 0 ∧ G = 0 := by simpa [allOk] using hok
    obtain ⟨rfl, rfl, rfl⟩ := hz
    clear hok
    go_wp2_with (go_at_call 23; refine (good3 _ _ _ w4).mono ?_; rw [HOK.out]; rintro e w' ⟨rfl, rfl⟩)
    obtain ⟨W5, hW5⟩ : ∃ W5, W5 = w4.alloc (.cells #[.int .i64 0, .int .i64 0, .int .i64 0] 34) := ⟨_, rfl⟩
    rw [← hW5] at HB5 ⊢
    clear hW5 k0 k1 k2 k3 k4 k5
    refine (Only_ok _ _ g x (a ||| b) W5 (HGr.out.below HB5.out) (HSn.out.below HB5.out) (HT.out.belowB (Tab.lt HT.out) HB5.out)).mono ?_
    rintro e w6 hcase
    have HB6 := Lib.hid (HB5.out.trans (hcase.2.mono HB5.out.size))
    obtain ⟨rr, I, he, hs⟩ := only_fact hcase
    subst he
    obtain ⟨rfl, hrr⟩ := only_or HS.out HPA.out HPB.out hs
    have HRR := Lib.hid hrr
    have h64 : g.names.length ≤ 64 := by
      rcases HS.out with ⟨_, hF, _⟩ | ⟨h, _⟩
      · exact hF.1.good.names
      · exact absurd rfl h
    clear hcase hs hrr
    obtain ⟨k0, k1, k2, k3, k4, k5⟩ := HC.out w6 HB6.out
    go_wp2_with (go_at_call 21; refine (Below_ok _ h64 _).mono ?_; rintro e w' ⟨rfl, rfl⟩)
    refine (Only_ok _ _ g x (belowB g.names.length) w6 (HGr.out.below HB6.out) (HSn.out.below HB6.out) (HT.out.belowB (Tab.lt HT.out) HB6.out)).mono ?_
    rintro e w7 hcase
    have HB7 := Lib.hid (HB6.out.trans (hcase.2.mono HB6.out.size))
    obtain ⟨tt, K, he, hs⟩ := only_fact hcase
    subst he
    obtain ⟨rfl, htt⟩ := only_all HS.out hs
    clear hcase hs k0 k1 k2 k3 k4 k5
    have hrr := HRR.out
    subst hrr htt
    have hb8 := HB7.out.alloc HB7.out.size (.cells #[.int .i64 0, .int .i64 0, .int .i64 0] 34)
    have HB8 := Lib.hid hb8
    clear hb8
    go_wp2_with (go_at_call 23; refine (good3 _ _ _ w7).mono ?_; rw [HOK.out]; rintro e w' ⟨rfl, rfl⟩)
    go_ret
    exact ⟨rfl, HFIN.out _ HB8.out⟩
end Go.Proofs.YtcgimnokdicmcaaDoor
