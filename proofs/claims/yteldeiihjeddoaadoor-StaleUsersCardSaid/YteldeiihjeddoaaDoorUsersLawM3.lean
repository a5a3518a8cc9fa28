/- Texts joined: MillW, StaleLawW, TurnP, UsersP0, UsersP. Conditions: theirs. -/
import Derived.Test.YteldeiihjeddoaaDoorGraphRowsW
import Derived.Test.YteldeiihjeddoaaDoorUsersLawM2
import Derived.Test.YteldeiihjeddoaaDoorGraphP
import Derived.Test.YteldeiihjeddoaaDoorGraphCheckW
namespace Go.Proofs.YteldeiihjeddoaaDoor
open Go.RowKit Go.Shelf
def G0 : GD := ⟨[⟨#[97]⟩, ⟨#[98]⟩], [(0, 1)], 0#64, 1#64⟩
theorem good0 : Good G0 := by
  refine ⟨by decide, ?_, ?_, ?_, ?_, by decide⟩
  · intro j hj
    match j, hj with
    | 0, _ => decide +kernel
    | 1, _ => decide +kernel
  · intro i j hij hj
    have hj2 : j < 2 := hj
    have : i = 0 ∧ j = 1 := by omega
    rw [this.1, this.2]
    decide
  · intro x hx
    have : x = (0, 1) := by simpa [G0] using hx
    subst this
    exact ⟨by decide, by decide, by decide, by decide⟩
  · intro i hi
    have : i + 1 < 1 := hi
    omega
theorem haoM (w : World) (o : Obj) (i : Nat) (h : i < w.heap.size) : (w.alloc o).heap[i]? = w.heap[i]? := by
  show (w.heap.push o)[i]? = w.heap[i]?
  rw [Array.getElem?_push, if_neg (Nat.ne_of_lt h)]
theorem hanM (w : World) (o : Obj) : (w.alloc o).heap[w.heap.size]? = some o := by
  show (w.heap.push o)[w.heap.size]? = some o
  simp
theorem rows0 : rowsE 2 [(0, 1)] = [2#64, 0#64] := by decide
set_option maxHeartbeats 600000 in
theorem mill_ok (w : World) : Calls Tryd.prog 44 #[] w fun e w' => (∃ v, e = .returned v ∧ GrAt w' v G0) ∧ Below w.heap.size w w' := by
  go_enter Tryd.func44, Tryd.ntmps44
  go_wp2
  obtain ⟨A, hA⟩ : ∃ A : Obj, A = .cells #[.slice (some ⟨w.heap.size + 1, 0, none⟩) 2 2, .slice (some ⟨w.heap.size + 1 + 1, 0, none⟩) 1 1, .int .u64 0, .int .u64 1] 26 := ⟨_, rfl⟩
  obtain ⟨D, hD⟩ : ∃ D : Obj, D = .cells #[.int .i64 0, .int .i64 1] 35 := ⟨_, rfl⟩
  rw [← hA, ← hD]
  have hs1 : (w.alloc A).heap.size = w.heap.size + 1 := by simp
  have hs2 : ((w.alloc A).alloc (.cells #[.string ⟨#[97]⟩, .string ⟨#[98]⟩] 9)).heap.size = w.heap.size + 1 + 1 := by simp
  have hN := NL_two (w.alloc A) ⟨#[97]⟩ ⟨#[98]⟩ (by decide) (by decide)
  rw [hs1] at hN
  have hN2 := hN.below ((Below.refl _ _).alloc (Nat.le_refl _) D)
  have hE : EsAt (((w.alloc A).alloc (.cells #[.string ⟨#[97]⟩, .string ⟨#[98]⟩] 9)).alloc D) (some ⟨w.heap.size + 1 + 1, 0, none⟩) 1 1 [(0, 1)] := by
    refine ⟨rfl, fun _ => ⟨w.heap.size + 1 + 1, 0, rfl, by simp, fun k x hx => ?_⟩, by omega⟩
    match k, hx with
    | 0, hx =>
      injection hx with hx
      subst hx
      rw [hD]
      exact ⟨(World.cell?_alloc_at _ _ _ _ hs2.symm).trans rfl, (World.cell?_alloc_at _ _ _ _ hs2.symm).trans rfl⟩
  refine bodyPost_ret (v := .agg #[.slice (some ⟨w.heap.size + 1, 0, none⟩) 2 2, .slice (some ⟨w.heap.size + 1 + 1, 0, none⟩) 1 1, .int .u64 0, .int .u64 1])
    (results_cell_row Tryd.results44 _ _ w.heap.size 26 _ (0, 0) _ rfl ?_ Tryd.underlying26 rfl (by kernel_rfl)) rfl
    ⟨⟨_, rfl, ⟨_, _, _, _, _, _, rfl, hN2, hE⟩⟩, (((Below.refl _ _).alloc (Nat.le_refl _) _).alloc (by rw [hs1]; omega) _).alloc (by rw [hs2]; omega) _⟩
  rw [haoM _ _ _ (by rw [hs2]; omega), haoM _ _ _ (by rw [hs1]; omega), hanM, hA]
theorem ownG_below {w w' : World} {base e n : Nat} {v : Value} {xs : List Value} (h : w.ownsRow base e 1 v n xs) (hb : Below w.heap.size w w') : w'.ownsRow base e 1 v n xs := by
  refine h.kept (row := none) ⟨hb.os, hb.tape, hb.output, hb.size, fun k hk _ => hb.block k hk⟩ ?_
  cases hv : v.ownBlock
  · exact .inl rfl
  · exact .inr (by simp)
end Go.Proofs.YteldeiihjeddoaaDoor
namespace Go.Proofs.YteldeiihjeddoaaDoor
open Go.RowKit Go.Shelf
theorem has_ext {s t : B} (h : ∀ n, has s n = has t n) : s = t := BitVec.eq_of_getLsbD_eq fun i _ => h i
def X0 : SD := ⟨[1, 2], 0#64⟩
theorem rws0 : rws G0 = [2#64, 0#64] := rows0
theorem right0 : Right G0 X0 := by
  refine ⟨good0, rfl, ?_, fun k h => (by rw [show X0.dirty = 0#64 from rfl, has_zero] at h; cases h), ?_⟩
  · intro n hn
    have hn2 : n < 2 := hn
    match n, hn2 with
    | 0, _ => decide
    | 1, _ => decide
  · intro n hn
    have hn2 : n < 2 := hn
    match n, hn2 with
    | 0, _ => decide
    | 1, _ => decide
theorem ord0 : KOrd (rws G0) [1, 0] 0#64 := by
  have hv : Valid (rws G0) := valid_rws good0
  have h0 := kord_nil (r := rws G0) (by rw [rws0]; decide)
  have h1 := kord_snoc hv h0 (n := 1) (by rw [rws0]; decide) (by rw [rws0]; decide)
  have h2 := kord_snoc hv h1 (n := 0) (by rw [rws0]; decide) (by rw [rws0]; decide)
  have e : belowB (rws G0).length &&& ~~~(1#64 <<< 1) &&& ~~~(1#64 <<< 0) = 0#64 := by rw [rws0]; decide
  rw [e] at h2
  exact h2
theorem stale0 {s : B} (h : Stale G0 X0 s) : s = 1#64 := by
  refine has_ext fun n => ?_
  have hn := h n
  by_cases h2 : n = 0
  · subst h2
    rw [show has 1#64 0 = true by decide]
    refine hn.2 ⟨by decide, by decide, .inr (.inr ⟨1, by rw [rws0]; decide, .inr (.inr (by decide))⟩)⟩
  · have h1 : has 1#64 n = false := by
      rw [Bool.eq_false_iff]
      intro h3
      have : n < 64 := has_lt h3
      have h4 : ∀ k : Fin 64, has 1#64 k.1 = true → k.1 = 0 := by decide
      exact h2 (h4 ⟨n, this⟩ h3)
    rw [h1, Bool.eq_false_iff]
    intro h3
    have h4 := (hn.1 h3).2.1
    rw [show G0.made ||| G0.phony = 1#64 from by decide, h1] at h4
    cases h4
theorem iv_two (w : World) (a b : Int) : Reads (w.alloc (.cells #[.int .i64 a, .int .i64 b] 2)) (w.heap.size + 1) 1 (some ⟨w.heap.size, 0, none⟩) 2 (iv [a, b]) := by
  refine ⟨by simp [iv], fun _ => ⟨_, rfl, by simp, fun j u hj => ?_⟩⟩
  have hs : (w.alloc (.cells #[.int .i64 a, .int .i64 b] 2)).cell? ⟨w.heap.size, j, none⟩ = (iv [a, b])[j]? := by simp [iv]
  have ha : (⟨w.heap.size, 0, none⟩ : Addr).add j = ⟨w.heap.size, j, none⟩ := by
    unfold Addr.add
    split
    · rename_i h; subst h; rfl
    · simp
  rw [ha, hs, hj]
set_option maxHeartbeats 1000000 in
theorem stales_below (w : World) (hT : Tab w) : Calls Tryd.prog 14 #[] w fun e w' => e = .returned (.bool true) ∧ Below w.heap.size w w' := by
  go_enter Tryd.func14, Tryd.ntmps14
  go_wp2_with fail
  refine (mill_ok w).mono ?_
  rintro e w1 ⟨⟨v, rfl, hv⟩, hb1⟩
  have HV := Lib.hid hv
  have HB1 := Lib.hid hb1
  have HT1 := Lib.hid (hT.belowB (Tab.lt hT) hb1)
  clear hv hb1 hT
  go_wp2_with fail
  have hba : Below w1.heap.size w1 (w1.alloc (.cells #[.int .i64 1, .int .i64 2] 2)) := (Below.refl _ _).alloc (Nat.le_refl _) _
  have hsn : SnAt (w1.alloc (.cells #[.int .i64 1, .int .i64 2] 2)) (.agg #[.slice (some ⟨w1.heap.size, 0, none⟩) 2 2, .int .u64 (un X0.dirty : Int)]) X0 :=
    ⟨_, _, _, rfl, rfl, (iv_two w1 1 2).more (by simp), by omega⟩
  refine (Set_ok _ _ G0 X0 _ (HV.out.below hba) hsn (HT1.out.below hba)).mono ?_
  rintro e w2 ⟨hcase, hb2⟩
  have HB2 := Lib.hid (HB1.out.trans ((hba.trans (hb2.mono (by simp))).mono HB1.out.size))
  rcases hcase with ⟨_, s, o, _, hs, rfl⟩ | ⟨hno, _⟩
  · obtain rfl := stale0 hs
    clear hs hba hsn hb2
    go_wp2
    go_ret
    exact ⟨rfl, HB2.out⟩
  · exact absurd ⟨right0, _, ord0⟩ hno
theorem stale_one {g : GD} {x : SD} {s t : B} {o : List Nat} (ho : KOrd (rws g) o 0#64) (hs : Stale g x s) (ht : Stale g x t) : s = t := by
  have h1 := stale_more ho rfl (fun _ h => h) hs ht
  have h2 := stale_more ho rfl (fun _ h => h) ht hs
  refine has_ext fun n => ?_
  have e1 := eq_zero_iff.1 h1 n
  have e2 := eq_zero_iff.1 h2 n
  by_cases hn : n < 64
  · rw [has_and, has_not _ _ hn] at e1 e2
    cases ha : has s n <;> cases hb : has t n <;> rw [ha, hb] at e1 e2 <;> simp_all
  · rw [Bool.eq_false_iff.2 fun h => hn (has_lt h), Bool.eq_false_iff.2 fun h => hn (has_lt h)]
end Go.Proofs.YteldeiihjeddoaaDoor
namespace Go.Proofs.YteldeiihjeddoaaDoor
def swapE (x : E2) : E2 := (x.2, x.1)
theorem swap_swap (x : E2) : swapE (swapE x) = x := rfl
theorem elt_trans {a b c : E2} (h : elt a b) (g : elt b c) : elt a c := by unfold elt at *; omega
theorem elt_irr {a : E2} : ¬ elt a a := by unfold elt; omega
theorem elt_tri (a b : E2) : elt a b ∨ a = b ∨ elt b a := by
  obtain ⟨a1, a2⟩ := a
  obtain ⟨b1, b2⟩ := b
  unfold elt
  simp only [Prod.mk.injEq]
  omega
theorem erise_pair {es : List E2} : ERise es ↔ es.Pairwise elt := by
  rw [List.pairwise_iff_getElem]
  have hg : ∀ i (h : i < es.length), es.getD i (0, 0) = es[i] := fun i h => by rw [List.getD_eq_getElem?_getD, List.getElem?_eq_getElem h]; rfl
  constructor
  · intro h i j hi hj hij
    obtain ⟨d, rfl⟩ : ∃ d, j = i + d + 1 := ⟨j - i - 1, by omega⟩
    clear hij
    induction d with
    | zero =>
      have := h i hj
      rw [hg i hi, hg _ hj] at this
      exact this
    | succ d ih =>
      have h1 := ih (by omega)
      have h2 := h (i + d + 1) hj
      rw [hg _ (by omega), hg (i + d + 1 + 1) hj] at h2
      exact elt_trans h1 h2
  · intro h i hi
    rw [hg i (by omega), hg _ hi]
    exact h i (i + 1) (by omega) hi (by omega)
theorem erise_ext : ∀ {l m : List E2}, l.Pairwise elt → m.Pairwise elt → (∀ x, x ∈ l ↔ x ∈ m) → l = m
  | [], [], _, _, _ => rfl
  | [], y :: m, _, _, h => absurd ((h y).2 List.mem_cons_self) (by simp)
  | x :: l, [], _, _, h => absurd ((h x).1 List.mem_cons_self) (by simp)
  | x :: l, y :: m, hl, hm, h => by
    rw [List.pairwise_cons] at hl hm
    have hxy : x = y := by
      rcases List.mem_cons.1 ((h x).1 List.mem_cons_self) with e | e
      · exact e
      · rcases List.mem_cons.1 ((h y).2 List.mem_cons_self) with f | f
        · exact f.symm
        · exact absurd (elt_trans (hl.1 y f) (hm.1 x e)) elt_irr
    subst hxy
    have : l = m := erise_ext hl.2 hm.2 fun z => by
      constructor
      · intro hzl
        rcases List.mem_cons.1 ((h z).1 (List.mem_cons_of_mem _ hzl)) with e | e
        · subst e; exact absurd (hl.1 _ hzl) elt_irr
        · exact e
      · intro hzm
        rcases List.mem_cons.1 ((h z).2 (List.mem_cons_of_mem _ hzm)) with e | e
        · subst e; exact absurd (hm.1 _ hzm) elt_irr
        · exact e
    rw [this]
/-- the edges of a turned graph -/
structure TurnOf (es ts : List E2) : Prop where
  rise : ERise ts
  mem : ∀ x, x ∈ ts ↔ swapE x ∈ es
theorem mem_swap {es : List E2} {x : E2} : x ∈ es.map swapE ↔ swapE x ∈ es := by
  rw [List.mem_map]
  constructor
  · rintro ⟨y, hy, rfl⟩; exact hy
  · intro h; exact ⟨swapE x, h, rfl⟩
theorem turn_of {es ts : List E2} (he : ERise es) (hp : ts.Perm (es.map swapE)) (hs : ts.Pairwise fun a b => ¬ elt b a) : TurnOf es ts := by
  have hnd : ts.Nodup := by
    rw [hp.nodup_iff]
    rw [List.Nodup, List.pairwise_map]
    refine (erise_pair.1 he).imp fun {a b} h e => ?_
    have : a = b := by rw [← swap_swap a, e]; rfl
    subst this
    exact elt_irr h
  refine ⟨erise_pair.2 ?_, fun x => by rw [hp.mem_iff, mem_swap]⟩
  refine (hs.and hnd).imp fun {a b} h => ?_
  rcases elt_tri a b with h1 | h1 | h1
  · exact h1
  · exact absurd h1 h.2
  · exact absurd h1 h.1
theorem turn_twice {es ts us : List E2} (he : ERise es) (h1 : TurnOf es ts) (h2 : TurnOf ts us) : us = es :=
  erise_ext (erise_pair.1 h2.rise) (erise_pair.1 he) fun x => by rw [h2.mem, h1.mem, swap_swap]
end Go.Proofs.YteldeiihjeddoaaDoor
namespace Go.Proofs.YteldeiihjeddoaaDoor
theorem good_turn {g : GD} {ts : List E2} (hG : Good g) (ht : TurnOf g.edges ts) : Good ⟨g.names, ts, g.phony, g.made⟩ :=
  ⟨hG.names, hG.ok, hG.rise, fun x hx => by
    have h := hG.edges _ ((ht.mem x).1 hx)
    exact ⟨h.2.2.1, h.2.2.2, h.1, h.2.1⟩, ht.rise, hG.sets⟩
end Go.Proofs.YteldeiihjeddoaaDoor
namespace Go.Proofs.YteldeiihjeddoaaDoor
theorem row_map {l : List B} {m : B} {v u : Nat} (h : has (row (l.map fun y => y &&& m) v) u = true) : has (row l v) u = true ∧ has m u = true := by
  have hv := row_lt h
  rw [List.length_map] at hv
  unfold row at h
  rw [List.getD_eq_getElem?_getD, List.getElem?_map, List.getElem?_eq_getElem hv] at h
  simp only [Option.map_some, Option.getD_some] at h
  rw [has_and, Bool.and_eq_true] at h
  unfold row
  rw [List.getD_eq_getElem?_getD, List.getElem?_eq_getElem hv]
  exact h
/-- the rows of those that are made, the other way -/
def upR (g : GD) (ts : List E2) : List B := (rowsE g.names.length ts).map fun y => y &&& (g.made ||| g.phony)
theorem upR_len (g : GD) (ts : List E2) : (upR g ts).length = g.names.length := by unfold upR; rw [List.length_map, rowsE_len]
theorem upR_edge {g : GD} {ts : List E2} (hG : Good g) (ht : TurnOf g.edges ts) {v u : Nat} (h : has (row (upR g ts) v) u = true) :
    u < g.names.length ∧ has (g.made ||| g.phony) u = true ∧ has (row (rws g) u) v = true := by
  obtain ⟨h1, h2⟩ := row_map h
  have hT := good_turn hG ht
  have h3 : ((v : Int), (u : Int)) ∈ ts := (has_rws hT).1 h1
  have h4 : ((u : Int), (v : Int)) ∈ g.edges := (ht.mem _).1 h3
  have h5 := hG.edges _ h4
  have := h5.2.1
  simp only at this
  exact ⟨by omega, h2, (has_rws hG).2 h4⟩
theorem valid_upR {g : GD} {ts : List E2} (hG : Good g) (ht : TurnOf g.edges ts) : Valid (upR g ts) :=
  ⟨by rw [upR_len]; exact hG.names, fun i k h => by rw [upR_len]; exact (upR_edge hG ht h).1⟩
theorem users_stale {g : GD} {ts : List E2} {x : SD} {s : B} {n : Nat} (hG : Good g) (ht : TurnOf g.edges ts) (hs : Stale g x s) (hn : has x.dirty n = true) : cls (upR g ts) (row (upR g ts) n) &&& ~~~s = 0#64 := by
  have key : ∀ u, has (cls (upR g ts) (row (upR g ts) n)) u = true → has s u = true := by
    intro u hu
    obtain ⟨a, ha, hr⟩ := has_cls.1 hu
    induction hr with
    | refl =>
      obtain ⟨h1, h2, h3⟩ := upR_edge hG ht ha
      exact (hs _).2 ⟨h1, h2, .inr (.inr ⟨n, h3, .inl hn⟩)⟩
    | tail hab e ih =>
      obtain ⟨h1, h2, h3⟩ := upR_edge hG ht e
      exact (hs _).2 ⟨h1, h2, .inr (.inr ⟨_, h3, .inr (.inl (ih (has_cls.2 ⟨a, ha, hab⟩)))⟩)⟩
  refine eq_zero_iff.2 fun k => ?_
  rw [Bool.eq_false_iff]
  intro h
  rw [has_and, Bool.and_eq_true] at h
  rw [has_not _ _ (has_lt h.1), key k h.1] at h
  simp at h
end Go.Proofs.YteldeiihjeddoaaDoor
