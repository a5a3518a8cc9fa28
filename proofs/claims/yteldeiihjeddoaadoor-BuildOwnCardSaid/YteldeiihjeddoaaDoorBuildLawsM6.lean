/- Texts joined: MillW, StaleLawW, BuildQ, StaleOnlyW, BuildLawW. Conditions: theirs. -/
import Derived.Test.YteldeiihjeddoaaDoorGraphRowsW
import Derived.Test.YteldeiihjeddoaaDoorBuildLawsM5
import Derived.Test.YteldeiihjeddoaaDoorBuildLawsM3
import Derived.Test.YteldeiihjeddoaaDoorBuildLawsM1
import Derived.Test.YteldeiihjeddoaaDoorGoodW
import Derived.BigQuiet
namespace Go.Proofs.YteldeiihjeddoaaDoor
open Go.RowKit Go.Shelf
def G0 : GD := ⟨[⟨#[97]⟩, ⟨#[98]⟩], [(0, 1)], 0#64, 1#64⟩
theorem good0 : Good G0 := by
  refine ⟨by decide, ?_, ?_, ?_, ?_, by decide⟩
  · intro j hj
    match j, hj with
    | 0, _ => decide +kernel
    | 1, _ => decide +kernel
  · intro i j hij hj
    have hj2 : j < 2 := hj
    have : i = 0 ∧ j = 1 := by omega
    rw [this.1, this.2]
    decide
  · intro x hx
    have : x = (0, 1) := by simpa [G0] using hx
    subst this
    exact ⟨by decide, by decide, by decide, by decide⟩
  · intro i hi
    have : i + 1 < 1 := hi
    omega
theorem haoM (w : World) (o : Obj) (i : Nat) (h : i < w.heap.size) : (w.alloc o).heap[i]? = w.heap[i]? := by
  show (w.heap.push o)[i]? = w.heap[i]?
  rw [Array.getElem?_push, if_neg (Nat.ne_of_lt h)]
theorem hanM (w : World) (o : Obj) : (w.alloc o).heap[w.heap.size]? = some o := by
  show (w.heap.push o)[w.heap.size]? = some o
  simp
theorem rows0 : rowsE 2 [(0, 1)] = [2#64, 0#64] := by decide
set_option maxHeartbeats 600000 in
theorem mill_ok (w : World) : Calls Tryd.prog 44 #[] w fun e w' => (∃ v, e = .returned v ∧ GrAt w' v G0) ∧ Below w.heap.size w w' := by
  go_enter Tryd.func44, Tryd.ntmps44
  go_wp2
  obtain ⟨A, hA⟩ : ∃ A : Obj, A = .cells #[.slice (some ⟨w.heap.size + 1, 0, none⟩) 2 2, .slice (some ⟨w.heap.size + 1 + 1, 0, none⟩) 1 1, .int .u64 0, .int .u64 1] 26 := ⟨_, rfl⟩
  obtain ⟨D, hD⟩ : ∃ D : Obj, D = .cells #[.int .i64 0, .int .i64 1] 35 := ⟨_, rfl⟩
  rw [← hA, ← hD]
  have hs1 : (w.alloc A).heap.size = w.heap.size + 1 := by simp
  have hs2 : ((w.alloc A).alloc (.cells #[.string ⟨#[97]⟩, .string ⟨#[98]⟩] 9)).heap.size = w.heap.size + 1 + 1 := by simp
  have hN := NL_two (w.alloc A) ⟨#[97]⟩ ⟨#[98]⟩ (by decide) (by decide)
  rw [hs1] at hN
  have hN2 := hN.below ((Below.refl _ _).alloc (Nat.le_refl _) D)
  have hE : EsAt (((w.alloc A).alloc (.cells #[.string ⟨#[97]⟩, .string ⟨#[98]⟩] 9)).alloc D) (some ⟨w.heap.size + 1 + 1, 0, none⟩) 1 1 [(0, 1)] := by
    refine ⟨rfl, fun _ => ⟨w.heap.size + 1 + 1, 0, rfl, by simp, fun k x hx => ?_⟩, by omega⟩
    match k, hx with
    | 0, hx =>
      injection hx with hx
      subst hx
      rw [hD]
      exact ⟨(World.cell?_alloc_at _ _ _ _ hs2.symm).trans rfl, (World.cell?_alloc_at _ _ _ _ hs2.symm).trans rfl⟩
  refine bodyPost_ret (v := .agg #[.slice (some ⟨w.heap.size + 1, 0, none⟩) 2 2, .slice (some ⟨w.heap.size + 1 + 1, 0, none⟩) 1 1, .int .u64 0, .int .u64 1])
    (results_cell_row Tryd.results44 _ _ w.heap.size 26 _ (0, 0) _ rfl ?_ Tryd.underlying26 rfl (by kernel_rfl)) rfl
    ⟨⟨_, rfl, ⟨_, _, _, _, _, _, rfl, hN2, hE⟩⟩, (((Below.refl _ _).alloc (Nat.le_refl _) _).alloc (by rw [hs1]; omega) _).alloc (by rw [hs2]; omega) _⟩
  rw [haoM _ _ _ (by rw [hs2]; omega), haoM _ _ _ (by rw [hs1]; omega), hanM, hA]
theorem ownG_below {w w' : World} {base e n : Nat} {v : Value} {xs : List Value} (h : w.ownsRow base e 1 v n xs) (hb : Below w.heap.size w w') : w'.ownsRow base e 1 v n xs := by
  refine h.kept (row := none) ⟨hb.os, hb.tape, hb.output, hb.size, fun k hk _ => hb.block k hk⟩ ?_
  cases hv : v.ownBlock
  · exact .inl rfl
  · exact .inr (by simp)
end Go.Proofs.YteldeiihjeddoaaDoor
namespace Go.Proofs.YteldeiihjeddoaaDoor
open Go.RowKit Go.Shelf
theorem has_ext {s t : B} (h : ∀ n, has s n = has t n) : s = t := BitVec.eq_of_getLsbD_eq fun i _ => h i
def X0 : SD := ⟨[1, 2], 0#64⟩
theorem rws0 : rws G0 = [2#64, 0#64] := rows0
theorem right0 : Right G0 X0 := by
  refine ⟨good0, rfl, ?_, fun k h => (by rw [show X0.dirty = 0#64 from rfl, has_zero] at h; cases h), ?_⟩
  · intro n hn
    have hn2 : n < 2 := hn
    match n, hn2 with
    | 0, _ => decide
    | 1, _ => decide
  · intro n hn
    have hn2 : n < 2 := hn
    match n, hn2 with
    | 0, _ => decide
    | 1, _ => decide
theorem ord0 : KOrd (rws G0) [1, 0] 0#64 := by
  have hv : Valid (rws G0) := valid_rws good0
  have h0 := kord_nil (r := rws G0) (by rw [rws0]; decide)
  have h1 := kord_snoc hv h0 (n := 1) (by rw [rws0]; decide) (by rw [rws0]; decide)
  have h2 := kord_snoc hv h1 (n := 0) (by rw [rws0]; decide) (by rw [rws0]; decide)
  have e : belowB (rws G0).length &&& ~~~(1#64 <<< 1) &&& ~~~(1#64 <<< 0) = 0#64 := by rw [rws0]; decide
  rw [e] at h2
  exact h2
theorem stale0 {s : B} (h : Stale G0 X0 s) : s = 1#64 := by
  refine has_ext fun n => ?_
  have hn := h n
  by_cases h2 : n = 0
  · subst h2
    rw [show has 1#64 0 = true by decide]
    refine hn.2 ⟨by decide, by decide, .inr (.inr ⟨1, by rw [rws0]; decide, .inr (.inr (by decide))⟩)⟩
  · have h1 : has 1#64 n = false := by
      rw [Bool.eq_false_iff]
      intro h3
      have : n < 64 := has_lt h3
      have h4 : ∀ k : Fin 64, has 1#64 k.1 = true → k.1 = 0 := by decide
      exact h2 (h4 ⟨n, this⟩ h3)
    rw [h1, Bool.eq_false_iff]
    intro h3
    have h4 := (hn.1 h3).2.1
    rw [show G0.made ||| G0.phony = 1#64 from by decide, h1] at h4
    cases h4
theorem iv_two (w : World) (a b : Int) : Reads (w.alloc (.cells #[.int .i64 a, .int .i64 b] 2)) (w.heap.size + 1) 1 (some ⟨w.heap.size, 0, none⟩) 2 (iv [a, b]) := by
  refine ⟨by simp [iv], fun _ => ⟨_, rfl, by simp, fun j u hj => ?_⟩⟩
  have hs : (w.alloc (.cells #[.int .i64 a, .int .i64 b] 2)).cell? ⟨w.heap.size, j, none⟩ = (iv [a, b])[j]? := by simp [iv]
  have ha : (⟨w.heap.size, 0, none⟩ : Addr).add j = ⟨w.heap.size, j, none⟩ := by
    unfold Addr.add
    split
    · rename_i h; subst h; rfl
    · simp
  rw [ha, hs, hj]
set_option maxHeartbeats 1000000 in
theorem stales_below (w : World) (hT : Tab w) : Calls Tryd.prog 14 #[] w fun e w' => e = .returned (.bool true) ∧ Below w.heap.size w w' := by
  go_enter Tryd.func14, Tryd.ntmps14
  go_wp2_with fail
  refine (mill_ok w).mono ?_
  rintro e w1 ⟨⟨v, rfl, hv⟩, hb1⟩
  have HV := Lib.hid hv
  have HB1 := Lib.hid hb1
  have HT1 := Lib.hid (hT.belowB (Tab.lt hT) hb1)
  clear hv hb1 hT
  go_wp2_with fail
  have hba : Below w1.heap.size w1 (w1.alloc (.cells #[.int .i64 1, .int .i64 2] 2)) := (Below.refl _ _).alloc (Nat.le_refl _) _
  have hsn : SnAt (w1.alloc (.cells #[.int .i64 1, .int .i64 2] 2)) (.agg #[.slice (some ⟨w1.heap.size, 0, none⟩) 2 2, .int .u64 (un X0.dirty : Int)]) X0 :=
    ⟨_, _, _, rfl, rfl, (iv_two w1 1 2).more (by simp), by omega⟩
  refine (Set_ok _ _ G0 X0 _ (HV.out.below hba) hsn (HT1.out.below hba)).mono ?_
  rintro e w2 ⟨hcase, hb2⟩
  have HB2 := Lib.hid (HB1.out.trans ((hba.trans (hb2.mono (by simp))).mono HB1.out.size))
  rcases hcase with ⟨_, s, o, _, hs, rfl⟩ | ⟨hno, _⟩
  · obtain rfl := stale0 hs
    clear hs hba hsn hb2
    go_wp2
    go_ret
    exact ⟨rfl, HB2.out⟩
  · exact absurd ⟨right0, _, ord0⟩ hno
theorem stale_one {g : GD} {x : SD} {s t : B} {o : List Nat} (ho : KOrd (rws g) o 0#64) (hs : Stale g x s) (ht : Stale g x t) : s = t := by
  have h1 := stale_more ho rfl (fun _ h => h) hs ht
  have h2 := stale_more ho rfl (fun _ h => h) ht hs
  refine has_ext fun n => ?_
  have e1 := eq_zero_iff.1 h1 n
  have e2 := eq_zero_iff.1 h2 n
  by_cases hn : n < 64
  · rw [has_and, has_not _ _ hn] at e1 e2
    cases ha : has s n <;> cases hb : has t n <;> rw [ha, hb] at e1 e2 <;> simp_all
  · rw [Bool.eq_false_iff.2 fun h => hn (has_lt h), Bool.eq_false_iff.2 fun h => hn (has_lt h)]
end Go.Proofs.YteldeiihjeddoaaDoor
namespace Go.Proofs.YteldeiihjeddoaaDoor
theorem made_mem {g : GD} {s : B} {o : List Nat} (hs : ∀ n, has s n = true → n < g.names.length) (ho : KOrd (rws g) o 0#64) {n : Nat} : n ∈ mrow o s ↔ has s n = true := by
  rw [mem_mrow]
  exact ⟨fun h => h.2, fun h => ⟨(kord_mem ho).2 (hs n h), h⟩⟩
theorem made_of {g : GD} {s : B} {o : List Nat} (hs : ∀ n, has s n = true → n < g.names.length) (ho : KOrd (rws g) o 0#64) : ofL (mrow o s) = s := by
  refine has_ext fun n => ?_
  rcases Nat.lt_or_ge n 64 with h | h
  · rw [has_ofL _ _ h, Bool.eq_iff_iff, decide_eq_true_iff]
    exact made_mem hs ho
  · rw [has_ge h, has_ge h]
theorem made_cnt {g : GD} {s : B} {o : List Nat} (hs : ∀ n, has s n = true → n < g.names.length) (ho : KOrd (rws g) o 0#64) : (mrow o s).length = cnt s := by
  rw [cnt_lst]
  have h1 : (mrow o s).Nodup := mrow_nodup ho.nodup
  have h2 : (lst s).Nodup := (lst_sorted s).imp fun h => Nat.ne_of_lt h
  have h3 : ∀ n, n ∈ mrow o s ↔ n ∈ lst s := fun n => by rw [made_mem hs ho, mem_lst]
  exact Nat.le_antisymm (h1.length_le_of_subset fun n hn => (h3 n).1 hn) (h2.length_le_of_subset fun n hn => (h3 n).2 hn)
theorem made_lt {g : GD} {s : B} {o : List Nat} (ho : KOrd (rws g) o 0#64) {n : Nat} (hn : n ∈ mrow o s) : n < g.names.length := (kord_mem ho).1 (mem_mrow.1 hn).1
/-- the i-th one made has the i-th time -/
theorem made_time {g : GD} {x : SD} {s : B} {o : List Nat} {now : Int} (hR : Right g x) (ho : KOrd (rws g) o 0#64) {i : Nat} (hi : i < (mrow o s).length) :
    (mrow o s).getD i 0 < g.names.length ∧ (ran x s o now).getD ((mrow o s).getD i 0) 0 = now + i := by
  have e : (mrow o s).getD i 0 = (mrow o s)[i] := by rw [List.getD_eq_getElem?_getD, List.getElem?_eq_getElem hi]; rfl
  rw [e]
  refine ⟨made_lt ho (List.getElem_mem hi), ?_⟩
  exact stamp_in (mrow o s) x.at_ now (mrow_nodup ho.nodup) (fun n hm => by rw [hR.len]; exact made_lt ho hm) i hi
/-- an edge of what is made -/
theorem made_edge {g : GD} {x : SD} {s : B} {o : List Nat} {now : Int} (hR : Right g x) (ho : KOrd (rws g) o 0#64) (hlt : ∀ n, n < g.names.length → x.at_.getD n 0 < now)
    {a b : Nat} (he : ((a : Int), (b : Int)) ∈ g.edges) (ha : has s a = true) : (ran x s o now).getD b 0 < (ran x s o now).getD a 0 := by
  have h1 := (hR.good.edges _ he).2.1
  simp only at h1
  exact ran_need hR ho hlt ha (by omega) ((has_rws hR.good).2 he)
end Go.Proofs.YteldeiihjeddoaaDoor
namespace Go.Proofs.YteldeiihjeddoaaDoor
open Go.RowKit Go.Shelf
/-- Only's answer, told as one -/
def OFact (g : GD) (x : SD) (a s : B) (E : Int) : Prop :=
  (E = 0 ∧ Fit g x ∧ chks (rws g) [a] = 0 ∧ ∃ t : B, Stale g x t ∧ s = cls (rws g) a &&& t) ∨ (E ≠ 0 ∧ ¬ (Fit g x ∧ chks (rws g) [a] = 0))
theorem only_fact {w : World} {g : GD} {x : SD} {a : B} {e : Ending} {w' : World} (h : SOnly w g x a e w') :
    ∃ (s : B) (E : Int), e = .returned (.tuple #[.int .u64 (un s), .int .i64 E]) ∧ OFact g x a s E := by
  rcases h.1 with ⟨hF, hc, s, hS, rfl⟩ | ⟨hno, E, hE0, rfl⟩
  · exact ⟨_, 0, rfl, .inl ⟨rfl, hF, hc, s, hS, rfl⟩⟩
  · exact ⟨0#64, E, rfl, .inr ⟨hE0, hno⟩⟩
def SFact (g : GD) (x : SD) (s : B) (E : Int) : Prop := (E = 0 ∧ Fit g x ∧ Stale g x s) ∨ (E ≠ 0 ∧ s = 0#64 ∧ ¬ Fit g x)
theorem set_fact {w : World} {g : GD} {x : SD} {e : Ending} {w' : World} (h : SSet w g x e w') :
    ∃ (s : B) (E : Int), e = .returned (.tuple #[.int .u64 (un s), .int .i64 E]) ∧ SFact g x s E := by
  rcases h.1 with ⟨hR, s, o, hK, hS, rfl⟩ | ⟨hno, E, hE0, rfl⟩
  · exact ⟨_, 0, rfl, .inl ⟨rfl, ⟨hR, o, hK⟩, hS⟩⟩
  · exact ⟨0#64, E, rfl, .inr ⟨hE0, rfl, hno⟩⟩
theorem fit_one {g : GD} {x : SD} (hF : Fit g x) {s t : B} (hs : Stale g x s) (ht : Stale g x t) : s = t := by
  obtain ⟨_, o, hK⟩ := hF
  exact stale_one hK hs ht
theorem and_or (a b s : B) : (a ||| b) &&& s = a &&& s ||| b &&& s := by
  refine has_ext fun n => ?_
  rw [has_and, has_or, has_or, has_and, has_and]
  cases has a n <;> cases has b n <;> cases has s n <;> rfl
theorem only_or {g : GD} {x : SD} {a b s p q r : B} (hS : SFact g x s 0) (hp : OFact g x a p 0) (hq : OFact g x b q 0) {F : Int} (hr : OFact g x (a ||| b) r F) : F = 0 ∧ r = p ||| q := by
  rcases hS with ⟨_, hF, hs⟩ | ⟨h, _⟩
  · rcases hp with ⟨_, _, ha, t1, ht1, rfl⟩ | ⟨h, _⟩
    · rcases hq with ⟨_, _, hb, t2, ht2, rfl⟩ | ⟨h, _⟩
      · obtain rfl := fit_one hF hs ht1
        obtain rfl := fit_one hF hs ht2
        rcases hr with ⟨rfl, _, _, t3, ht3, rfl⟩ | ⟨_, hno⟩
        · obtain rfl := fit_one hF hs ht3
          exact ⟨rfl, by rw [cls_or, and_or]⟩
        · exact absurd ⟨hF, chks_or ha hb⟩ hno
      · exact absurd rfl h
    · exact absurd rfl h
  · exact absurd rfl h
theorem only_all {g : GD} {x : SD} {s t : B} (hS : SFact g x s 0) {F : Int} (ht : OFact g x (belowB g.names.length) t F) : F = 0 ∧ t = s := by
  rcases hS with ⟨_, hF, hs⟩ | ⟨h, _⟩
  · have h64 := hF.1.good.names
    rcases ht with ⟨rfl, _, _, t3, ht3, rfl⟩ | ⟨_, hno⟩
    · obtain rfl := fit_one hF hs ht3
      refine ⟨rfl, has_ext fun n => ?_⟩
      rw [has_and]
      cases hn : has s n
      · simp
      · have hlt := ((hs n).1 hn).1
        have : has (cls (rws g) (belowB g.names.length)) n = true := has_cls.2 ⟨n, by rw [has_below _ n (by omega)]; exact decide_eq_true hlt, Rch.refl n⟩
        rw [this]; rfl
    · refine absurd ⟨hF, chks_bits (valid_rws hF.1.good) fun u hu k hk => ?_⟩ hno
      have : u = belowB g.names.length := by simpa using hu
      subst this
      rw [has_below _ k (has_lt hk)] at hk
      rw [rws_len]
      exact of_decide_eq_true hk
  · exact absurd rfl h
set_option maxHeartbeats 4000000 in
set_option maxRecDepth 100000 in
theorem staleOnly_walk (v u : Value) (g : GD) (x : SD) (a b : B) (w : World) (h : GrAt w v g) (hx : SnAt w u x) (hT : Tab w) :
    Calls Tryd.prog 4 #[v, u, .int .u64 (un a : Int), .int .u64 (un b : Int)] w fun e w' => e = .returned (.bool true) ∧ Below w.heap.size w w' := by
  have hGr := h
  have hSn := hx
  obtain ⟨p, n, c, q, m, d, rfl, hN, _⟩ := h.at_
  obtain ⟨p2, n2, c2, rfl, hx1, hx2, hx3⟩ := hx.at_
  have hln := hN.at_.len
  subst hln
  obtain ⟨W, hW, hBW, hS, hC⟩ := args2 w (.slice p g.names.length c) (.slice q m d) (.int .u64 (un g.phony : Int)) (.int .u64 (un g.made : Int)) (.slice p2 n2 c2) (.int .u64 (un x.dirty : Int))
  have HC := Lib.hid hC
  have HGr := Lib.hid (hGr.below hBW)
  have HSn := Lib.hid (hSn.below hBW)
  have HT := Lib.hid (hT.below hBW)
  have HFIN : Hid (∀ u, Below W.heap.size W u → Below w.heap.size w u) := by show ∀ u, _; exact fun u hu => hBW.trans (hu.mono (by omega))
  obtain ⟨k0, k1, k2, k3, k4, k5⟩ := HC.out W (Below.refl _ _)
  rw [hW] at k0 k1 k2 k3 k4 k5
  clear h hx hGr hSn hT hBW hS hC hx1 hx2 hx3 hN
  go_enter Tryd.func4, Tryd.ntmps4
  go_wp2_with fail
  rw [← hW]
  clear hW k0 k1 k2 k3 k4 k5
  refine (stales_below W HT.out).mono ?_
  rintro e w1 ⟨rfl, hb1⟩
  have HB1 := Lib.hid hb1
  obtain ⟨k0, k1, k2, k3, k4, k5⟩ := HC.out w1 hb1
  clear hb1
  go_wp2_with fail
  refine (Set_ok _ _ g x w1 (HGr.out.below HB1.out) (HSn.out.below HB1.out) (HT.out.belowB (Tab.lt HT.out) HB1.out)).mono ?_
  rintro e w2 hcase
  have HB2 := Lib.hid (HB1.out.trans (hcase.2.mono HB1.out.size))
  obtain ⟨s, E, he, hs⟩ := set_fact hcase
  subst he
  have HS := Lib.hid hs
  clear hcase hs k0 k1 k2 k3 k4 k5
  obtain ⟨k0, k1, k2, k3, k4, k5⟩ := HC.out w2 HB2.out
  go_wp2_with fail
  refine (Only_ok _ _ g x a w2 (HGr.out.below HB2.out) (HSn.out.below HB2.out) (HT.out.belowB (Tab.lt HT.out) HB2.out)).mono ?_
  rintro e w3 hcase
  have HB3 := Lib.hid (HB2.out.trans (hcase.2.mono HB2.out.size))
  obtain ⟨pp, F, he, hs⟩ := only_fact hcase
  subst he
  have HPA := Lib.hid hs
  clear hcase hs k0 k1 k2 k3 k4 k5
  obtain ⟨k0, k1, k2, k3, k4, k5⟩ := HC.out w3 HB3.out
  go_wp2_with fail
  refine (Only_ok _ _ g x b w3 (HGr.out.below HB3.out) (HSn.out.below HB3.out) (HT.out.belowB (Tab.lt HT.out) HB3.out)).mono ?_
  rintro e w4 hcase
  have HB4 := Lib.hid (HB3.out.trans (hcase.2.mono HB3.out.size))
  obtain ⟨qq, G, he, hs⟩ := only_fact hcase
  subst he
  have HPB := Lib.hid hs
  clear hcase hs k0 k1 k2 k3 k4 k5
  have hb5 := HB4.out.alloc HB4.out.size (.cells #[.int .i64 E, .int .i64 F, .int .i64 G] 31)
  obtain ⟨k0, k1, k2, k3, k4, k5⟩ := HC.out _ hb5
  have HB5 := Lib.hid hb5
  clear hb5
  cases hok : allOk [E, F, G]
  · have HOK := Lib.hid hok
    clear hok
    go_wp2_with (go_at_call 18; refine (good3 _ _ _ w4).mono ?_; rw [HOK.out]; rintro e w' ⟨rfl, rfl⟩)
    go_ret
    exact ⟨rfl, HFIN.out _ HB5.out⟩
  · have HOK := Lib.hid hok
    have hz : E = 0 ∧ F = 0 ∧ G = 0 := by simpa [allOk] using hok
    obtain ⟨rfl, rfl, rfl⟩ := hz
    clear hok
    go_wp2_with (go_at_call 18; refine (good3 _ _ _ w4).mono ?_; rw [HOK.out]; rintro e w' ⟨rfl, rfl⟩)
    obtain ⟨W5, hW5⟩ : ∃ W5, W5 = w4.alloc (.cells #[.int .i64 0, .int .i64 0, .int .i64 0] 31) := ⟨_, rfl⟩
    rw [← hW5] at HB5 ⊢
    clear hW5 k0 k1 k2 k3 k4 k5
    refine (Only_ok _ _ g x (a ||| b) W5 (HGr.out.below HB5.out) (HSn.out.below HB5.out) (HT.out.belowB (Tab.lt HT.out) HB5.out)).mono ?_
    rintro e w6 hcase
    have HB6 := Lib.hid (HB5.out.trans (hcase.2.mono HB5.out.size))
    obtain ⟨rr, I, he, hs⟩ := only_fact hcase
    subst he
    obtain ⟨rfl, hrr⟩ := only_or HS.out HPA.out HPB.out hs
    have HRR := Lib.hid hrr
    have h64 : g.names.length ≤ 64 := by
      rcases HS.out with ⟨_, hF, _⟩ | ⟨h, _⟩
      · exact hF.1.good.names
      · exact absurd rfl h
    clear hcase hs hrr
    obtain ⟨k0, k1, k2, k3, k4, k5⟩ := HC.out w6 HB6.out
    go_wp2_with (go_at_call 19; refine (Below_ok _ h64 _).mono ?_; rintro e w' ⟨rfl, rfl⟩)
    refine (Only_ok _ _ g x (belowB g.names.length) w6 (HGr.out.below HB6.out) (HSn.out.below HB6.out) (HT.out.belowB (Tab.lt HT.out) HB6.out)).mono ?_
    rintro e w7 hcase
    have HB7 := Lib.hid (HB6.out.trans (hcase.2.mono HB6.out.size))
    obtain ⟨tt, K, he, hs⟩ := only_fact hcase
    subst he
    obtain ⟨rfl, htt⟩ := only_all HS.out hs
    clear hcase hs k0 k1 k2 k3 k4 k5
    have hrr := HRR.out
    subst hrr htt
    have hb8 := HB7.out.alloc HB7.out.size (.cells #[.int .i64 0, .int .i64 0, .int .i64 0] 31)
    have HB8 := Lib.hid hb8
    clear hb8
    go_wp2_with (go_at_call 18; refine (good3 _ _ _ w7).mono ?_; rw [HOK.out]; rintro e w' ⟨rfl, rfl⟩)
    go_ret
    exact ⟨rfl, HFIN.out _ HB8.out⟩
end Go.Proofs.YteldeiihjeddoaaDoor
namespace Go.Proofs.YteldeiihjeddoaaDoor
open Go.RowKit Go.Shelf
theorem hasN (s : B) (j : Nat) : hasI s (j : Int) = has s j := by simp [hasI]
theorem hasQ {s : B} {n : Int} {v : Bool} {w : World} {k : Nat} (h : hasI s n = v) : Calls Tryd.prog 16 #[.int .u64 (un s), .int .i64 n] (w.drewN k) fun e w' => e = .returned (.bool v) ∧ ∃ m, w' = w.drewN m :=
  (has_ok s n _).mono fun _ _ ⟨h1, h2⟩ => ⟨by rw [h1, h], k, h2.symm⟩
/-- what was made, in a cell of its own -/
theorem laid_made (w : World) (v0 v1 : Value) : ∃ X, X = w.alloc (.cells #[v0, v1] 60) ∧
    X.heap[w.heap.size]? = some (.cells #[v0, v1] 60 (0, 0)) ∧ Below w.heap.size w X ∧ X.heap.size = w.heap.size + 1 :=
  ⟨_, rfl, han _ _, (Below.refl _ _).alloc (Nat.le_refl _) _, by simp⟩
theorem one_zero {n : Nat} (h : has 1#64 n = true) : n = 0 := by
  have h4 : ∀ k : Fin 64, has 1#64 k.1 = true → k.1 = 0 := by decide
  exact h4 ⟨n, has_lt h⟩ h
theorem mset0 : mset G0 1#64 1#64 = 1#64 := by
  refine has_ext fun n => ?_
  unfold mset
  rw [has_and]
  by_cases h : has 1#64 n = true
  · rw [h, cls_self h]; rfl
  · rw [Bool.not_eq_true] at h; rw [h, Bool.and_false]
theorem made0 {o : List Nat} (ho : KOrd (rws G0) o 0#64) : mrow o 1#64 = [0] := by
  have hs : ∀ n, has 1#64 n = true → n < G0.names.length := fun n h => by rw [one_zero h]; decide
  have hm : ∀ n, n ∈ mrow o 1#64 ↔ n = 0 := fun n => by
    rw [made_mem hs ho]
    exact ⟨one_zero, fun h => by rw [h]; decide⟩
  have hn : (mrow o 1#64).Nodup := mrow_nodup ho.nodup
  generalize mrow o 1#64 = l at hm hn
  match l, hm, hn with
  | [], hm, _ => exact absurd ((hm 0).2 rfl) (by simp)
  | [b], hm, _ => rw [(hm b).1 (by simp)]
  | b :: b2 :: r, hm, hn =>
    have h1 := (hm b).1 (by simp)
    have h2 := (hm b2).1 (by simp)
    rw [h1, h2] at hn
    simp at hn
theorem run_fit0 : RunFit G0 X0 1#64 5 := by
  refine ⟨⟨right0, _, ord0⟩, by rw [rws0]; decide +kernel, by decide, by decide, fun n hn => ?_⟩
  have hn2 : n < 2 := hn
  have : n = 0 ∨ n = 1 := by omega
  rcases this with rfl | rfl <;> decide
set_option maxHeartbeats 4000000 in
set_option maxRecDepth 100000 in
theorem builds_below (w : World) (hT : Tab w) : Calls Tryd.prog 27 #[] w fun e w' => e = .returned (.bool true) ∧ Below w.heap.size w w' := by
  go_enter Tryd.func27, Tryd.ntmps27
  go_wp2_with fail
  refine (mill_ok w).mono ?_
  rintro e w1 ⟨⟨v, rfl, hv⟩, hb1⟩
  have HV := Lib.hid hv
  have HB1 := Lib.hid hb1
  have HT1 := Lib.hid (hT.belowB (Tab.lt hT) hb1)
  clear hv hb1 hT
  go_wp2_with fail
  have hba : Below w1.heap.size w1 (w1.alloc (.cells #[.int .i64 1, .int .i64 2] 2)) := (Below.refl _ _).alloc (Nat.le_refl _) _
  have hsn : SnAt (w1.alloc (.cells #[.int .i64 1, .int .i64 2] 2)) (.agg #[.slice (some ⟨w1.heap.size, 0, none⟩) 2 2, .int .u64 (un X0.dirty : Int)]) X0 :=
    ⟨_, _, _, rfl, rfl, (iv_two w1 1 2).more (by simp), by omega⟩
  refine (Run_ok _ _ G0 X0 1#64 5 _ (HV.out.below hba) hsn (HT1.out.below hba)).mono ?_
  rintro e w2 ⟨hcase, hb2⟩
  have HB2 := Lib.hid (HB1.out.trans ((hba.trans (hb2.mono (by simp))).mono HB1.out.size))
  clear hba hsn hb2
  rcases hcase with ⟨s, o, p, q, c, d, rfl, hR⟩ | ⟨hno, _⟩
  · obtain rfl := stale0 hR.stale
    have hM : mrow o (mset G0 1#64 1#64) = [0] := by rw [mset0]; exact made0 hR.ord
    have hrow := hR.row
    have hl : ([0] : List Nat).length = 1 := rfl
    rw [hM, hl] at hrow ⊢
    obtain ⟨ad, rfl, hlt, hc0⟩ := (Reads.of_own hrow).int_at (k := 0) (by simp)
    have hc1 : w2.cell? ad = some (.int .i64 0) := by simpa [Addr.add] using hc0
    obtain ⟨X, hX, hXH, hXB, hXS⟩ := laid_made w2 (.slice (some ad) 1 c) (.slice q X0.at_.length d)
    have HB3 := Lib.hid (HB2.out.trans (hXB.mono HB2.out.size))
    obtain ⟨z0, z1, _, _⟩ := bx2 hXH
    have z2 : X.cell? ad = some (.int .i64 0) := (hXB.cell hlt).trans hc1
    clear hXB hXS hc0 hc1 hrow hR hM hl
    go_upto_region 2 with fail
    rw [← hX]
    clear hX hXH
    go_wp2
    go_ret
    exact ⟨rfl, HB3.out⟩
  · exact absurd run_fit0 hno
set_option maxHeartbeats 8000000 in
set_option maxRecDepth 100000 in
theorem buildOrder_walk (v u : Value) (g : GD) (x : SD) (a : B) (now : Int) (w : World) (h : GrAt w v g) (hx : SnAt w u x) (hT : Tab w) :
    Calls Tryd.prog 9 #[v, u, .int .u64 (un a : Int), .int .i64 now] w fun e w' => e = .returned (.bool true) ∧ Below w.heap.size w w' := by
  have hGr := h
  have hSn := hx
  obtain ⟨p, n, c, q, m, d, rfl, hN, hE⟩ := h.at_
  obtain ⟨p2, n2, c2, rfl, hx1, hx2, hx3⟩ := hx.at_
  have hln := hN.at_.len
  have hlm := hE.len
  subst hln hlm hx1
  have hbm := hE.big
  obtain ⟨W, hW, hBW, hS, hC⟩ := args2 w (.slice p g.names.length c) (.slice q g.edges.length d) (.int .u64 (un g.phony : Int)) (.int .u64 (un g.made : Int)) (.slice p2 x.at_.length c2) (.int .u64 (un x.dirty : Int))
  have HC := Lib.hid hC
  have HGr := Lib.hid (hGr.below hBW)
  have HSn := Lib.hid (hSn.below hBW)
  have HT := Lib.hid (hT.below hBW)
  have HE := Lib.hid (hE.below hBW)
  have HXR : Hid (Reads W W.heap.size 1 p2 x.at_.length (iv x.at_)) := by show Reads _ _ _ _ _ _; exact (hx2.below hBW).more hBW.size
  have HFIN : Hid (∀ u, Below W.heap.size W u → Below w.heap.size w u) := by show ∀ u, _; exact fun u hu => hBW.trans (hu.mono (by omega))
  obtain ⟨k0, k1, k2, k3, k4, k5⟩ := HC.out W (Below.refl _ _)
  rw [hW] at k0 k1 k2 k3 k4 k5
  clear h hx hGr hSn hT hBW hS hC hx2 hN hE
  go_enter Tryd.func9, Tryd.ntmps9
  go_wp2_with fail
  rw [← hW]
  clear hW k0 k1 k2 k3 k4 k5
  refine (builds_below W HT.out).mono ?_
  rintro e w1 ⟨rfl, hb1⟩
  have HB1 := Lib.hid hb1
  obtain ⟨k0, k1, k2, k3, k4, k5⟩ := HC.out w1 hb1
  clear hb1
  go_wp2_with fail
  refine (Run_ok _ _ g x a now w1 (HGr.out.below HB1.out) (HSn.out.below HB1.out) (HT.out.belowB (Tab.lt HT.out) HB1.out)).mono ?_
  rintro e w2 ⟨hcase, hb2⟩
  have HB2 := Lib.hid (HB1.out.trans (hb2.mono HB1.out.size))
  have HB12 := Lib.hid hb2
  clear hb2 k0 k1 k2 k3 k4 k5
  rcases hcase with ⟨s, o, pr, pa, cr, da, rfl, hR⟩ | ⟨hno, E, hE0, rfl⟩
  · have hF := hR.fit.1
    have h64 := hF.1.good.names
    have hxl := hF.1.len
    have hn0 := hR.fit.2.2.1
    have hn1 := hR.fit.2.2.2.1
    have HFC : Hid (Fit g x ∧ chks (rws g) [a] = 0) := ⟨hF, hR.fit.2.1⟩
    have HSTA := Lib.hid hR.stale
    have HIN : ∀ n, has (mset g a s) n = true → n < g.names.length := fun n hn => by
      unfold mset at hn
      rw [has_and, Bool.and_eq_true] at hn
      exact ((hR.stale n).1 hn.2).1
    have HOF := Lib.hid (made_of HIN hR.ord)
    have HCN := Lib.hid (made_cnt HIN hR.ord)
    have HLT : Hid (∀ n ∈ mrow o (mset g a s), n < 64) := by show ∀ n, _; exact fun n hn => Nat.lt_of_lt_of_le (made_lt hR.ord hn) h64
    have HTM : Hid (∀ i, i < (mrow o (mset g a s)).length → (mrow o (mset g a s)).getD i 0 < x.at_.length ∧ (ran x (mset g a s) o now).getD ((mrow o (mset g a s)).getD i 0) 0 = now + i) := by
      show ∀ i, _
      intro i hi
      have := made_time (now := now) hF.1 hR.ord hi
      exact ⟨by omega, this.2⟩
    have HED : Hid (∀ a1 b1 : Nat, ((a1 : Int), (b1 : Int)) ∈ g.edges → has (mset g a s) a1 = true → (ran x (mset g a s) o now).getD b1 0 < (ran x (mset g a s) o now).getD a1 0) := by
      show ∀ a1 b1 : Nat, _
      exact fun a1 b1 h1 h2 => made_edge hF.1 hR.ord (fun n hn => hR.fit.2.2.2.2 n (by omega)) h1 h2
    have HOUT : Hid (∀ n, has (mset g a s) n = false → (ran x (mset g a s) o now).getD n 0 = x.at_.getD n 0) := by show ∀ n, _; exact fun n hn => ran_out hn
    have HEI : Hid (∀ y ∈ g.edges, EIn g.names.length y) := by show ∀ y, _; exact hF.1.good.edges
    have HROW := Lib.hid hR.row
    have HAT := Lib.hid hR.at_
    have hr64 : (mrow o (mset g a s)).length ≤ 64 := by
      have h1 := mrow_len (s := mset g a s) hF.1.good hR.ord o.length
      rwa [List.take_length] at h1
    obtain ⟨T, hTd⟩ : ∃ T, T = ran x (mset g a s) o now := ⟨_, rfl⟩
    rw [← hTd] at HTM HED HOUT HAT
    obtain ⟨r, hrd⟩ : ∃ r, r = mrow o (mset g a s) := ⟨_, rfl⟩
    rw [← hrd] at HTM HROW HLT HCN HOF hr64 ⊢
    obtain ⟨S, hSd⟩ : ∃ S, S = mset g a s := ⟨_, rfl⟩
    rw [← hSd] at HED HOUT HCN HOF
    have HSD := Lib.hid hSd
    obtain ⟨rl, hrl⟩ : ∃ rl, rl = r.length := ⟨_, rfl⟩
    rw [← hrl] at HTM HROW HCN hr64 ⊢
    have HXL := Lib.hid hxl
    clear hF hR hTd hrd hSd hrl HIN hxl
    obtain ⟨X, hX, hXH, hXB, hXS⟩ := laid_made w2 (.slice pr rl cr) (.slice pa x.at_.length da)
    have HBX : Hid (Below W.heap.size W X) := by show Below _ _ _; exact HB2.out.trans (hXB.mono HB2.out.size)
    have HRX : Hid (Reads X X.heap.size 1 pr rl (ints r)) := by show Reads _ _ _ _ _ _; exact Reads.of_own (own_below HROW.out hXB)
    have HAX : Hid (Reads X X.heap.size 1 pa x.at_.length (iv T)) := by show Reads _ _ _ _ _ _; exact Reads.of_own (own_below HAT.out hXB)
    have HCX : Hid (∀ y : World, Below X.heap.size X y → (y.cell? ⟨w.heap.size, 0, none⟩ = some (.slice p g.names.length c) ∧ y.cell? ⟨w.heap.size, 1, none⟩ = some (.slice q g.edges.length d) ∧ y.cell? ⟨w.heap.size, 2, none⟩ = some (.int .u64 (un g.phony : Int)) ∧ y.cell? ⟨w.heap.size, 3, none⟩ = some (.int .u64 (un g.made : Int)) ∧
        y.cell? ⟨w.heap.size + 1, 0, none⟩ = some (.slice p2 x.at_.length c2) ∧ y.cell? ⟨w.heap.size + 1, 1, none⟩ = some (.int .u64 (un x.dirty : Int))) ∧ y.cell? ⟨w2.heap.size, 0, none⟩ = some (.slice pr rl cr) ∧ y.cell? ⟨w2.heap.size, 1, none⟩ = some (.slice pa x.at_.length da)) := by
      show ∀ y : World, _
      intro y hy
      have hb := (hy.block w2.heap.size (by omega)).trans hXH
      obtain ⟨z0, z1, _, _⟩ := bx2 hb
      exact ⟨HC.out y (HBX.out.trans (hy.mono HBX.out.size)), z0, z1⟩
    obtain ⟨⟨k0, k1, k2, k3, k4, k5⟩, m0, m1⟩ := HCX.out X (Below.refl _ _)
    clear HROW HAT hXB hXS hXH
    go_upto_region 4 with fail
    rw [← hX]
    clear hX
    go_wp2_with fail
    refine (Only_ok _ _ g x a X (HGr.out.below HBX.out) (HSn.out.below HBX.out) (HT.out.belowB (Tab.lt HT.out) HBX.out)).mono ?_
    rintro e w4 hcase
    have HX4 := Lib.hid hcase.2
    obtain ⟨pp, F, he, hs⟩ := only_fact hcase
    subst he
    have hFpp : F = 0 ∧ pp = S := by
      rcases hs with ⟨rfl, hF', _, t, ht, rfl⟩ | ⟨_, hno⟩
      · refine ⟨rfl, ?_⟩
        rw [HSD.out, fit_one hF' ht HSTA.out]
        rfl
      · exact absurd HFC.out hno
    obtain ⟨rfl, rfl⟩ := hFpp
    clear hcase hs k0 k1 k2 k3 k4 k5 m0 m1
    obtain ⟨⟨k0, k1, k2, k3, k4, k5⟩, m0, m1⟩ := HCX.out w4 HX4.out
    have HR4 : Hid (Reads w4 w4.heap.size 1 pr rl (ints r)) := by show Reads _ _ _ _ _ _; exact (HRX.out.below HX4.out).more HX4.out.size
    have HOK : Hid (allOk [0, 0] = true) := by show _ = _; rfl
    go_upto_region 8 with (go_at_call 29; refine (of_ok r HLT.out pr rl cr _ w4 HR4.out (by unfold maxLen; omega)).mono ?_; rw [HOF.out]; rintro e w' ⟨rfl, rfl⟩)
    go_cut [79] (fun out wx => out = .bool false ∧ Hid (Below w4.heap.size w4 wx))
    case first =>
      have HW4 : Hid (Below w4.heap.size w4 w4) := by show Below _ _ _; exact Below.refl _ _
      have HSS : Hid (∀ y : World, Below X.heap.size X y → y.cell? ⟨w2.heap.size, 0, none⟩ = some (.slice pr rl cr) ∧ y.cell? ⟨w2.heap.size, 1, none⟩ = some (.slice pa x.at_.length da) ∧ y.cell? ⟨w.heap.size + 1, 0, none⟩ = some (.slice p2 x.at_.length c2)) := by
        show ∀ y : World, _
        exact fun y hy => ⟨(HCX.out y hy).2.1, (HCX.out y hy).2.2, (HCX.out y hy).1.2.2.2.2.1⟩
      have HGD : Hid (Calls Tryd.prog 18 #[.slice (some ⟨w4.heap.size, 0, none⟩) 2 2] ((w4.alloc (.cells #[.int .i64 0, .int .i64 0] 31)).drew) fun e w' => e = .returned (.bool true) ∧ (w4.alloc (.cells #[.int .i64 0, .int .i64 0] 31)).drew = w') := by
        show Calls _ _ _ _ _
        have := good2 0 0 w4.drew
        rw [HOK.out] at this
        exact this
      go_wp2_with fail
      go_region_held3 (fun y : World => y.cell? ⟨w2.heap.size, 0, none⟩ = some (.slice pr rl cr) ∧ y.cell? ⟨w2.heap.size, 1, none⟩ = some (.slice pa x.at_.length da) ∧ y.cell? ⟨w.heap.size + 1, 0, none⟩ = some (.slice p2 x.at_.length c2))
        (first | exact HSS.out _ HX4.out.drew | exact HSS.out _ (HX4.out.drew.alloc HX4.out.size _) | exact HSS.out _ (HX4.out.alloc HX4.out.size _).drew)
        (first | (go_at_call 18; refine HGD.out.mono ?_; rintro e w' ⟨rfl, rfl⟩) | (go_at_call 30; refine (count_ok _ _).mono ?_; rw [← HCN.out]; rintro e w' ⟨rfl, rfl⟩))
      all_goals
        go_wp2_with fail
        go_meet
        exact ⟨by simp, show Below _ _ _ from (HW4.out.alloc HW4.out.size _).drew⟩
    case rest =>
      obtain ⟨rfl, H4c⟩ := hcut
      have HXc : Hid (Below X.heap.size X wc) := by show Below _ _ _; exact HX4.out.trans (H4c.out.mono HX4.out.size)
      clear k0 k1 k2 k3 k4 k5 m0 m1 HR4
      obtain ⟨⟨k0, k1, k2, k3, k4, k5⟩, m0, m1⟩ := HCX.out wc HXc.out
      have HRc : Hid (Reads wc wc.heap.size 1 pr rl (ints r)) := by show Reads _ _ _ _ _ _; exact (HRX.out.below HXc.out).more HXc.out.size
      have HAc : Hid (Reads wc wc.heap.size 1 pa x.at_.length (iv T)) := by show Reads _ _ _ _ _ _; exact (HAX.out.below HXc.out).more HXc.out.size
      go_wp2_with fail
      go_loop [83] (fun i => ∃ k : Nat, k ≤ rl ∧ i = .int .i64 k) (fun i => rl - (intOf i).toNat)
      case atStart => exact ⟨0, Nat.zero_le _, rfl⟩
      case round =>
        obtain ⟨k, hk, rfl⟩ := hrel
        by_cases hlt : k < rl
        · obtain ⟨adr, rfl, _, hcr⟩ := HRc.out.int_at hlt
          obtain ⟨h1, h2⟩ := HTM.out k hlt
          obtain ⟨ada, rfl, _, hca⟩ := iv_at HAc.out h1
          rw [h2] at hca
          generalize r.getD k 0 = n at *
          have hn2 : (n : Int) < (x.at_.length : Int) := by omega
          clear h2
          go_wp2
          go_round
          case rel => exact ⟨k + 1, by omega, by go_num⟩
          case measure => simp [intOf]; omega
        · have HKE : Hid (k = rl) := by show k = rl; omega
          go_wp2_with fail
          go_loopg [101] g.edges.length (fun k i wr => ∃ j : Nat, k + j = g.edges.length ∧ i = .int .i64 j ∧ Hid (Below X.heap.size X wr))
          case atStart => exact ⟨0, by omega, rfl, HXc⟩
          case round =>
            obtain ⟨j, hj, rfl, HWr⟩ := hrel
            clear k0 k1 k2 k3 k4 k5 m0 m1
            have HWW : Hid (Below W.heap.size W wr) := by show Below _ _ _; exact HBX.out.trans (HWr.out.mono HBX.out.size)
            obtain ⟨⟨k0, k1, k2, k3, k4, k5⟩, m0, m1⟩ := HCX.out wr HWr.out
            by_cases hlt2 : j < g.edges.length
            · obtain ⟨bb, ob, rfl, hbb, hca, hcb⟩ := (HE.out.below HWW.out).cell (getD_some (0, 0) hlt2)
              have hmem : g.edges.getD j (0, 0) ∈ g.edges := by rw [List.getD_eq_getElem?_getD, List.getElem?_eq_getElem hlt2]; exact List.getElem_mem hlt2
              have hin := HEI.out _ hmem
              have HMM := Lib.hid hmem
              clear hmem
              generalize g.edges.getD j (0, 0) = y at *
              obtain ⟨y1, y2⟩ := y
              obtain ⟨h1, h2, h3, h4⟩ := hin
              simp only at h1 h2 h3 h4
              obtain ⟨a1, rfl⟩ := Int.eq_ofNat_of_zero_le h1
              obtain ⟨a2, rfl⟩ := Int.eq_ofNat_of_zero_le h3
              have HL := Lib.hid (HED.out a1 a2 HMM.out)
              clear HMM h1 h3
              simp only [eF, eG] at hca hcb
              have hca2 : wr.cell? ⟨bb, ob + j * 2 + 1, none⟩ = some (.int .i64 (a2 : Int)) := hcb
              have ha1 : a1 < x.at_.length := by have := HXL.out; omega
              have ha2 : a2 < x.at_.length := by have := HXL.out; omega
              have hi1 : (a1 : Int) < (x.at_.length : Int) := by omega
              have hi2 : (a2 : Int) < (x.at_.length : Int) := by omega
              obtain ⟨Z, hZ⟩ : ∃ Z : World, Z = wr.alloc (.cells #[.int .i64 (a1 : Int), .int .i64 (a2 : Int)] 35) := ⟨_, rfl⟩
              have hBZ : Below X.heap.size X Z := by rw [hZ]; exact HWr.out.alloc HWr.out.size _
              have d1 : Z.cell? ⟨wr.heap.size, 0, none⟩ = some (.int .i64 (a1 : Int)) := by rw [hZ, World.cell?_alloc_at _ _ _ _ rfl]; rfl
              have d2 : Z.cell? ⟨wr.heap.size, 1, none⟩ = some (.int .i64 (a2 : Int)) := by rw [hZ, World.cell?_alloc_at _ _ _ _ rfl]; rfl
              go_upto_region 19 with fail
              rw [← hZ]
              clear hZ k0 k1 k2 k3 k4 k5 m0 m1 hca hca2 hcb
              obtain ⟨⟨k0, k1, k2, k3, k4, k5⟩, m0, m1⟩ := HCX.out Z hBZ
              obtain ⟨adz, rfl, _, z1⟩ := iv_at ((HAX.out.below hBZ).more hBZ.size) ha1
              obtain ⟨adz', he', _, z2⟩ := iv_at ((HAX.out.below hBZ).more hBZ.size) ha2
              injection he' with he'
              subst he'
              have HBZ := Lib.hid hBZ
              obtain ⟨t1, ht1⟩ : ∃ t1, t1 = T.getD a1 0 := ⟨_, rfl⟩
              obtain ⟨t2, ht2⟩ : ∃ t2, t2 = T.getD a2 0 := ⟨_, rfl⟩
              rw [← ht1] at z1 HL
              rw [← ht2] at z2 HL
              clear hBZ ht1 ht2
              cases hh : has pp a1
              · have HH : Hid (hasI pp (a1 : Int) = false) := by show _ = _; rw [hasN, hh]
                clear hh HL
                go_quiet ((go_at_call 16; exact hasQ HH.out))
                go_wp2
                go_roundg (g.edges.length - (j + 1))
                case measure => omega
                case rel => exact ⟨j + 1, by omega, by go_num, below_drawsP HBZ.out _⟩
              · have HH : Hid (hasI pp (a1 : Int) = true) := by show _ = _; rw [hasN, hh]
                have hd : decide (t1 ≤ t2) = false := decide_eq_false (by have := HL.out hh; omega)
                clear hh HL
                go_quiet ((go_at_call 16; exact hasQ HH.out))
                go_wp2
                go_roundg (g.edges.length - (j + 1))
                case measure => omega
                case rel => exact ⟨j + 1, by omega, by go_num, below_drawsP HBZ.out _⟩
            · have HJE : Hid (j = g.edges.length) := by show j = _; omega
              go_wp2_with fail
              go_loopg [128] x.at_.length (fun k i wr => ∃ j : Nat, k + j = x.at_.length ∧ i = .int .i64 j ∧ Hid (Below X.heap.size X wr))
              case atStart => exact ⟨0, by omega, rfl, HWr⟩
              case round =>
                obtain ⟨j3, hj3, rfl, HWq⟩ := hrel
                clear k0 k1 k2 k3 k4 k5 m0 m1
                have HWW3 : Hid (Below W.heap.size W wr) := by show Below _ _ _; exact HBX.out.trans (HWq.out.mono HBX.out.size)
                obtain ⟨⟨k0, k1, k2, k3, k4, k5⟩, m0, m1⟩ := HCX.out wr HWq.out
                by_cases hlt3 : j3 < x.at_.length
                · obtain ⟨adz, rfl, _, z1⟩ := iv_at ((HAX.out.below HWq.out).more HWq.out.size) hlt3
                  obtain ⟨adx, rfl, _, z2⟩ := iv_at ((HXR.out.below HWW3.out).more HWW3.out.size) hlt3
                  have HO := Lib.hid (HOUT.out j3)
                  have hi3 : (j3 : Int) < (x.at_.length : Int) := by omega
                  obtain ⟨t1, ht1⟩ : ∃ t1, t1 = T.getD j3 0 := ⟨_, rfl⟩
                  obtain ⟨t2, ht2⟩ : ∃ t2, t2 = x.at_.getD j3 0 := ⟨_, rfl⟩
                  rw [← ht1] at z1 HO
                  rw [← ht2] at z2 HO
                  clear ht1 ht2
                  go_upto_region 25 with fail
                  cases hh : has pp j3
                  · have HH : Hid (hasI pp (j3 : Int) = false) := by show _ = _; rw [hasN, hh]
                    have hd := HO.out hh
                    subst hd
                    clear hh HO
                    go_quiet ((go_at_call 16; exact hasQ HH.out))
                    go_wp2
                    go_roundg (x.at_.length - (j3 + 1))
                    case measure => omega
                    case rel => exact ⟨j3 + 1, by omega, by go_num, below_drawsP HWq.out _⟩
                  · have HH : Hid (hasI pp (j3 : Int) = true) := by show _ = _; rw [hasN, hh]
                    clear hh HO
                    go_quiet ((go_at_call 16; exact hasQ HH.out))
                    go_wp2
                    go_roundg (x.at_.length - (j3 + 1))
                    case measure => omega
                    case rel => exact ⟨j3 + 1, by omega, by go_num, below_drawsP HWq.out _⟩
                · have HJ3 : Hid (j3 = x.at_.length) := by show j3 = _; omega
                  go_wp2
                  go_ret
                  exact ⟨rfl, HFIN.out _ HWW3.out⟩
  · obtain ⟨i1, i2⟩ := int_ne' hE0
    obtain ⟨X, hX, hXH, hXB, hXS⟩ := laid_made w2 (.slice none 0 0) (.slice none 0 0)
    have HBX : Hid (Below W.heap.size W X) := by show Below _ _ _; exact HB2.out.trans (hXB.mono HB2.out.size)
    obtain ⟨m0, m1, _, _⟩ := bx2 hXH
    clear hXB hXS hXH
    go_upto_region 4 with fail
    rw [← hX]
    clear hX
    go_wp2
    go_ret
    exact ⟨by simp, HFIN.out _ HBX.out⟩
end Go.Proofs.YteldeiihjeddoaaDoor
