/- Texts joined: MillW, StaleLawW, WhyT, WhyHoldsW, TurnP. Conditions: theirs. -/
import Derived.Test.YteldeiihjeddoaaDoorGraphRowsW
import Derived.Test.YteldeiihjeddoaaDoorWhyLawAM2
import Derived.Deep.LoopGhost
import Derived.Deep.DeepCutAuto
import Derived.Deep.QuietTactic
import Derived.BigQuiet
import Derived.Test.YteldeiihjeddoaaDoorGraphP
namespace Go.Proofs.YteldeiihjeddoaaDoor
open Go.RowKit Go.Shelf
def G0 : GD := ⟨[⟨#[97]⟩, ⟨#[98]⟩], [(0, 1)], 0#64, 1#64⟩
theorem good0 : Good G0 := by
  refine ⟨by decide, ?_, ?_, ?_, ?_, by decide⟩
  · intro j hj
    match j, hj with
    | 0, _ => decide +kernel
    | 1, _ => decide +kernel
  · intro i j hij hj
    have hj2 : j < 2 := hj
    have : i = 0 ∧ j = 1 := by omega
    rw [this.1, this.2]
    decide
  · intro x hx
    have : x = (0, 1) := by simpa [G0] using hx
    subst this
    exact ⟨by decide, by decide, by decide, by decide⟩
  · intro i hi
    have : i + 1 < 1 := hi
    omega
theorem haoM (w : World) (o : Obj) (i : Nat) (h : i < w.heap.size) : (w.alloc o).heap[i]? = w.heap[i]? := by
  show (w.heap.push o)[i]? = w.heap[i]?
  rw [Array.getElem?_push, if_neg (Nat.ne_of_lt h)]
theorem hanM (w : World) (o : Obj) : (w.alloc o).heap[w.heap.size]? = some o := by
  show (w.heap.push o)[w.heap.size]? = some o
  simp
theorem rows0 : rowsE 2 [(0, 1)] = [2#64, 0#64] := by decide
set_option maxHeartbeats 600000 in
theorem mill_ok (w : World) : Calls Tryd.prog 44 #[] w fun e w' => (∃ v, e = .returned v ∧ GrAt w' v G0) ∧ Below w.heap.size w w' := by
  go_enter Tryd.func44, Tryd.ntmps44
  go_wp2
  obtain ⟨A, hA⟩ : ∃ A : Obj, A = .cells #[.slice (some ⟨w.heap.size + 1, 0, none⟩) 2 2, .slice (some ⟨w.heap.size + 1 + 1, 0, none⟩) 1 1, .int .u64 0, .int .u64 1] 26 := ⟨_, rfl⟩
  obtain ⟨D, hD⟩ : ∃ D : Obj, D = .cells #[.int .i64 0, .int .i64 1] 35 := ⟨_, rfl⟩
  rw [← hA, ← hD]
  have hs1 : (w.alloc A).heap.size = w.heap.size + 1 := by simp
  have hs2 : ((w.alloc A).alloc (.cells #[.string ⟨#[97]⟩, .string ⟨#[98]⟩] 9)).heap.size = w.heap.size + 1 + 1 := by simp
  have hN := NL_two (w.alloc A) ⟨#[97]⟩ ⟨#[98]⟩ (by decide) (by decide)
  rw [hs1] at hN
  have hN2 := hN.below ((Below.refl _ _).alloc (Nat.le_refl _) D)
  have hE : EsAt (((w.alloc A).alloc (.cells #[.string ⟨#[97]⟩, .string ⟨#[98]⟩] 9)).alloc D) (some ⟨w.heap.size + 1 + 1, 0, none⟩) 1 1 [(0, 1)] := by
    refine ⟨rfl, fun _ => ⟨w.heap.size + 1 + 1, 0, rfl, by simp, fun k x hx => ?_⟩, by omega⟩
    match k, hx with
    | 0, hx =>
      injection hx with hx
      subst hx
      rw [hD]
      exact ⟨(World.cell?_alloc_at _ _ _ _ hs2.symm).trans rfl, (World.cell?_alloc_at _ _ _ _ hs2.symm).trans rfl⟩
  refine bodyPost_ret (v := .agg #[.slice (some ⟨w.heap.size + 1, 0, none⟩) 2 2, .slice (some ⟨w.heap.size + 1 + 1, 0, none⟩) 1 1, .int .u64 0, .int .u64 1])
    (results_cell_row Tryd.results44 _ _ w.heap.size 26 _ (0, 0) _ rfl ?_ Tryd.underlying26 rfl (by kernel_rfl)) rfl
    ⟨⟨_, rfl, ⟨_, _, _, _, _, _, rfl, hN2, hE⟩⟩, (((Below.refl _ _).alloc (Nat.le_refl _) _).alloc (by rw [hs1]; omega) _).alloc (by rw [hs2]; omega) _⟩
  rw [haoM _ _ _ (by rw [hs2]; omega), haoM _ _ _ (by rw [hs1]; omega), hanM, hA]
theorem ownG_below {w w' : World} {base e n : Nat} {v : Value} {xs : List Value} (h : w.ownsRow base e 1 v n xs) (hb : Below w.heap.size w w') : w'.ownsRow base e 1 v n xs := by
  refine h.kept (row := none) ⟨hb.os, hb.tape, hb.output, hb.size, fun k hk _ => hb.block k hk⟩ ?_
  cases hv : v.ownBlock
  · exact .inl rfl
  · exact .inr (by simp)
end Go.Proofs.YteldeiihjeddoaaDoor
namespace Go.Proofs.YteldeiihjeddoaaDoor
open Go.RowKit Go.Shelf
theorem has_ext {s t : B} (h : ∀ n, has s n = has t n) : s = t := BitVec.eq_of_getLsbD_eq fun i _ => h i
def X0 : SD := ⟨[1, 2], 0#64⟩
theorem rws0 : rws G0 = [2#64, 0#64] := rows0
theorem right0 : Right G0 X0 := by
  refine ⟨good0, rfl, ?_, fun k h => (by rw [show X0.dirty = 0#64 from rfl, has_zero] at h; cases h), ?_⟩
  · intro n hn
    have hn2 : n < 2 := hn
    match n, hn2 with
    | 0, _ => decide
    | 1, _ => decide
  · intro n hn
    have hn2 : n < 2 := hn
    match n, hn2 with
    | 0, _ => decide
    | 1, _ => decide
theorem ord0 : KOrd (rws G0) [1, 0] 0#64 := by
  have hv : Valid (rws G0) := valid_rws good0
  have h0 := kord_nil (r := rws G0) (by rw [rws0]; decide)
  have h1 := kord_snoc hv h0 (n := 1) (by rw [rws0]; decide) (by rw [rws0]; decide)
  have h2 := kord_snoc hv h1 (n := 0) (by rw [rws0]; decide) (by rw [rws0]; decide)
  have e : belowB (rws G0).length &&& ~~~(1#64 <<< 1) &&& ~~~(1#64 <<< 0) = 0#64 := by rw [rws0]; decide
  rw [e] at h2
  exact h2
theorem stale0 {s : B} (h : Stale G0 X0 s) : s = 1#64 := by
  refine has_ext fun n => ?_
  have hn := h n
  by_cases h2 : n = 0
  · subst h2
    rw [show has 1#64 0 = true by decide]
    refine hn.2 ⟨by decide, by decide, .inr (.inr ⟨1, by rw [rws0]; decide, .inr (.inr (by decide))⟩)⟩
  · have h1 : has 1#64 n = false := by
      rw [Bool.eq_false_iff]
      intro h3
      have : n < 64 := has_lt h3
      have h4 : ∀ k : Fin 64, has 1#64 k.1 = true → k.1 = 0 := by decide
      exact h2 (h4 ⟨n, this⟩ h3)
    rw [h1, Bool.eq_false_iff]
    intro h3
    have h4 := (hn.1 h3).2.1
    rw [show G0.made ||| G0.phony = 1#64 from by decide, h1] at h4
    cases h4
theorem iv_two (w : World) (a b : Int) : Reads (w.alloc (.cells #[.int .i64 a, .int .i64 b] 2)) (w.heap.size + 1) 1 (some ⟨w.heap.size, 0, none⟩) 2 (iv [a, b]) := by
  refine ⟨by simp [iv], fun _ => ⟨_, rfl, by simp, fun j u hj => ?_⟩⟩
  have hs : (w.alloc (.cells #[.int .i64 a, .int .i64 b] 2)).cell? ⟨w.heap.size, j, none⟩ = (iv [a, b])[j]? := by simp [iv]
  have ha : (⟨w.heap.size, 0, none⟩ : Addr).add j = ⟨w.heap.size, j, none⟩ := by
    unfold Addr.add
    split
    · rename_i h; subst h; rfl
    · simp
  rw [ha, hs, hj]
set_option maxHeartbeats 1000000 in
theorem stales_below (w : World) (hT : Tab w) : Calls Tryd.prog 14 #[] w fun e w' => e = .returned (.bool true) ∧ Below w.heap.size w w' := by
  go_enter Tryd.func14, Tryd.ntmps14
  go_wp2_with fail
  refine (mill_ok w).mono ?_
  rintro e w1 ⟨⟨v, rfl, hv⟩, hb1⟩
  have HV := Lib.hid hv
  have HB1 := Lib.hid hb1
  have HT1 := Lib.hid (hT.belowB (Tab.lt hT) hb1)
  clear hv hb1 hT
  go_wp2_with fail
  have hba : Below w1.heap.size w1 (w1.alloc (.cells #[.int .i64 1, .int .i64 2] 2)) := (Below.refl _ _).alloc (Nat.le_refl _) _
  have hsn : SnAt (w1.alloc (.cells #[.int .i64 1, .int .i64 2] 2)) (.agg #[.slice (some ⟨w1.heap.size, 0, none⟩) 2 2, .int .u64 (un X0.dirty : Int)]) X0 :=
    ⟨_, _, _, rfl, rfl, (iv_two w1 1 2).more (by simp), by omega⟩
  refine (Set_ok _ _ G0 X0 _ (HV.out.below hba) hsn (HT1.out.below hba)).mono ?_
  rintro e w2 ⟨hcase, hb2⟩
  have HB2 := Lib.hid (HB1.out.trans ((hba.trans (hb2.mono (by simp))).mono HB1.out.size))
  rcases hcase with ⟨_, s, o, _, hs, rfl⟩ | ⟨hno, _⟩
  · obtain rfl := stale0 hs
    clear hs hba hsn hb2
    go_wp2
    go_ret
    exact ⟨rfl, HB2.out⟩
  · exact absurd ⟨right0, _, ord0⟩ hno
theorem stale_one {g : GD} {x : SD} {s t : B} {o : List Nat} (ho : KOrd (rws g) o 0#64) (hs : Stale g x s) (ht : Stale g x t) : s = t := by
  have h1 := stale_more ho rfl (fun _ h => h) hs ht
  have h2 := stale_more ho rfl (fun _ h => h) ht hs
  refine has_ext fun n => ?_
  have e1 := eq_zero_iff.1 h1 n
  have e2 := eq_zero_iff.1 h2 n
  by_cases hn : n < 64
  · rw [has_and, has_not _ _ hn] at e1 e2
    cases ha : has s n <;> cases hb : has t n <;> rw [ha, hb] at e1 e2 <;> simp_all
  · rw [Bool.eq_false_iff.2 fun h => hn (has_lt h), Bool.eq_false_iff.2 fun h => hn (has_lt h)]
end Go.Proofs.YteldeiihjeddoaaDoor
namespace Go.Proofs.YteldeiihjeddoaaDoor
/-- the needs that a cause may have -/
def needsOf (r : B) (c : Nat) : List Nat := if 3 ≤ c then lst r else [0]
/-- one reason, with nothing within -/
def we0 (n c k : Nat) : WE := ⟨n, c, k, none, 0, 0⟩
theorem we0_ok {n c k : Nat} (h1 : 1 ≤ c) (h2 : c < 5) : (we0 n c k).ok = true := by
  unfold WE.ok we0
  simp only [Bool.and_eq_true, decide_eq_true_eq]
  refine ⟨by omega, by omega, ?_⟩
  rw [if_neg (by omega)]; rfl
theorem no_cause {g : GD} {x : SD} {s : B} {n : Nat} (hR : Right g x) (hS : Stale g x s) (hn : has s n = true)
    (h : ∀ c, 1 ≤ c → c < 5 → ∀ k ∈ needsOf (row (rws g) n) c, ¬ Hold1 g x (we0 n c k) 0) : row (rws g) n &&& s ≠ 0#64 := by
  obtain ⟨h1, h2, h3⟩ := (hS n).1 hn
  have hv := valid_rws hR.good
  have mk : ∀ (c k : Nat), 1 ≤ c → c < 5 → k < g.names.length → (3 ≤ c → has (row (rws g) n) k = true) → (c < 3 → k = 0) → (c = 1 → x.at_.getD n 0 < 0) → (c = 2 → has g.phony n = true) → (c = 3 → has x.dirty k = true) → (c = 4 → x.at_.getD n 0 < x.at_.getD k 0) → Hold1 g x (we0 n c k) 0 := by
    intro c k c1 c2 c3 c4 c5 c6 c7 c8 c9
    refine ⟨⟨by show (0 : Int) ≤ (n : Int); omega, by show (n : Int) < _; omega⟩, ⟨by show (0 : Int) ≤ (k : Int); omega, by show (k : Int) < _; omega⟩, h2, fun e => c4 (by have : (3 : Int) ≤ (c : Int) := e; omega), fun e => ?_, fun e => c6 (by have : (c : Int) = 1 := e; omega), fun e => c7 (by have : (c : Int) = 2 := e; omega), fun e => c8 (by have : (c : Int) = 3 := e; omega), fun e => c9 (by have : (c : Int) = 4 := e; omega), fun e => ?_⟩
    · have : (c : Int) < 3 := e
      have hk := c5 (by omega)
      subst hk
      rfl
    · have : (c : Int) = 5 := e
      omega
  rcases h3 with h3 | h3 | ⟨k, h3, h4⟩
  · exact absurd (mk 1 0 (by omega) (by omega) (by omega) (by omega) (fun _ => rfl) (fun _ => h3) (by omega) (by omega) (by omega)) (h 1 (by omega) (by omega) 0 (by simp [needsOf]))
  · exact absurd (mk 2 0 (by omega) (by omega) (by omega) (by omega) (fun _ => rfl) (by omega) (fun _ => h3) (by omega) (by omega)) (h 2 (by omega) (by omega) 0 (by simp [needsOf]))
  · have hk : k < g.names.length := by have := hv.2 n k h3; rwa [rws_len] at this
    have hm : ∀ c, 3 ≤ c → k ∈ needsOf (row (rws g) n) c := fun c hc => by unfold needsOf; rw [if_pos hc]; exact mem_lst.2 h3
    rcases h4 with h4 | h4 | h4
    · exact absurd (mk 3 k (by omega) (by omega) hk (fun _ => h3) (by omega) (by omega) (by omega) (fun _ => h4) (by omega)) (h 3 (by omega) (by omega) k (hm 3 (by omega)))
    · intro e
      have := has_zero k
      rw [← e, has_and, h3, h4] at this
      simp at this
    · exact absurd (mk 4 k (by omega) (by omega) hk (fun _ => h3) (by omega) (by omega) (by omega) (by omega) (fun _ => h4)) (h 4 (by omega) (by omega) k (hm 4 (by omega)))
/-- a reason that holds of another one within it -/
theorem hold_anew {g : GD} {x : SD} {s : B} {n k : Nat} {p : Option Addr} {c : Nat} (hR : Right g x) (hS : Stale g x s) (hn : has s n = true) (hk : has (row (rws g) n) k = true) : Hold1 g x ⟨n, 5, k, p, 1, c⟩ (k : Int) := by
  obtain ⟨h1, h2, _⟩ := (hS n).1 hn
  have hkl : k < g.names.length := by have := (valid_rws hR.good).2 n k hk; rwa [rws_len] at this
  refine ⟨⟨by show (0 : Int) ≤ (n : Int); omega, by show (n : Int) < _; omega⟩, ⟨by show (0 : Int) ≤ (k : Int); omega, by show (k : Int) < _; omega⟩, h2, fun _ => hk, fun e => ?_, fun e => ?_, fun e => ?_, fun e => ?_, fun e => ?_, fun _ => rfl⟩
  all_goals (exfalso; revert e; simp)
/-- what is told at the facts' graph -/
theorem why_fact {w : World} {a : WE} {t : List WE} (hw : WLinks w (a :: t)) (h : HoldsC G0 X0 (a :: t)) (h0 : a.num = 0) : a.cause = 4 ∧ a.need = 1 := by
  obtain ⟨h1, h2, h3⟩ := h
  obtain ⟨c1, c2, c3⟩ := ok_cause h1
  have hn0 : a.num.toNat = 0 := by rw [h0]; rfl
  have hrow : ∀ k, has (row (rws G0) 0) k = true → k = 1 := by
    intro k hk
    have hk2 : has 2#64 k = true := hk
    have h64 := has_lt hk2
    have key : ∀ j : Fin 64, has 2#64 j.1 = true → j.1 = 1 := by decide
    exact key ⟨k, h64⟩ hk2
  have hneed : 3 ≤ a.cause → a.need = 1 := fun hc => by
    have := h2.edge hc
    rw [hn0] at this
    have h4 := hrow _ this
    have := h2.need
    omega
  rcases (by omega : a.cause = 1 ∨ a.cause = 2 ∨ a.cause = 3 ∨ a.cause = 4 ∨ a.cause = 5) with e | e | e | e | e
  · have := h2.gone e
    rw [hn0] at this
    exact absurd this (by decide)
  · have := h2.phony e
    rw [hn0] at this
    exact absurd this (by decide)
  · have := h2.dirty e
    rw [show X0.dirty = 0#64 from rfl, has_zero] at this
    cases this
  · exact ⟨e, hneed (by omega)⟩
  · exfalso
    have hnd := hneed (by omega)
    have han := h2.anew e
    cases t with
    | nil =>
      have hm : a.many = 0 := hw
      rw [hm, if_pos e] at c3
      simp at c3
    | cons b t =>
      have hb : b.num = a.need := han
      obtain ⟨_, h5, _⟩ := h3
      have := h5.made
      rw [hb, hnd] at this
      exact absurd this (by decide)
end Go.Proofs.YteldeiihjeddoaaDoor
namespace Go.Proofs.YteldeiihjeddoaaDoor
open Go.RowKit Go.Shelf
theorem needed_ok (c : Int) (w : World) : Calls Tryd.prog 76 #[.int .i64 c] w fun e w' => e = .returned (.bool (decide (3 ≤ c))) ∧ w = w' := by
  go_enter Tryd.func76, Tryd.ntmps76
  go_wp2
  go_ret
  exact ⟨by first | rfl | simp, rfl⟩
theorem needed_q {c : Int} {b : Bool} (h : decide (3 ≤ c) = b) {w : World} {k : Nat} : Calls Tryd.prog 76 #[.int .i64 c] (w.drewN k) fun e w' => e = .returned (.bool b) ∧ ∃ m, w' = w.drewN m :=
  (needed_ok c _).mono fun _ _ ⟨h1, h2⟩ => ⟨by rw [h1, h], k, h2.symm⟩
/-- the world in which a call has laid its graph, what is seen of it, and a reason -/
theorem args3 (w : World) (v0 v1 v2 v3 v4 v5 a0 a1 a2 a3 : Value) : ∃ W, W = ((w.alloc (.cells #[v0, v1, v2, v3] 26)).alloc (.cells #[v4, v5] 29)).alloc (.cells #[a0, a1, a2, a3] 52) ∧ Below w.heap.size w W ∧ W.heap.size = w.heap.size + 3 ∧
    ∀ u : World, Below W.heap.size W u → u.cell? ⟨w.heap.size, 0, none⟩ = some v0 ∧ u.cell? ⟨w.heap.size, 1, none⟩ = some v1 ∧ u.cell? ⟨w.heap.size, 2, none⟩ = some v2 ∧ u.cell? ⟨w.heap.size, 3, none⟩ = some v3 ∧ u.cell? ⟨w.heap.size + 1, 0, none⟩ = some v4 ∧ u.cell? ⟨w.heap.size + 1, 1, none⟩ = some v5 ∧
      u.cell? ⟨w.heap.size + 1 + 1, 0, none⟩ = some a0 ∧ u.cell? ⟨w.heap.size + 1 + 1, 1, none⟩ = some a1 ∧ u.cell? ⟨w.heap.size + 1 + 1, 2, none⟩ = some a2 ∧ u.cell? ⟨w.heap.size + 1 + 1, 3, none⟩ = some a3 := by
  obtain ⟨W, hW⟩ : ∃ W, W = ((w.alloc (.cells #[v0, v1, v2, v3] 26)).alloc (.cells #[v4, v5] 29)).alloc (.cells #[a0, a1, a2, a3] 52) := ⟨_, rfl⟩
  have hs : W.heap.size = w.heap.size + 3 := by rw [hW]; simp
  refine ⟨W, hW, by rw [hW]; exact (((Below.refl _ _).alloc (Nat.le_refl _) _).alloc (by simp) _).alloc (by simp; omega) _, hs, fun u hu => ?_⟩
  have c0 : ∀ o, u.cell? ⟨w.heap.size, o, none⟩ = W.cell? ⟨w.heap.size, o, none⟩ := fun o => hu.cell (p := ⟨w.heap.size, o, none⟩) (by show w.heap.size < _; omega)
  have c1 : ∀ o, u.cell? ⟨w.heap.size + 1, o, none⟩ = W.cell? ⟨w.heap.size + 1, o, none⟩ := fun o => hu.cell (p := ⟨w.heap.size + 1, o, none⟩) (by show w.heap.size + 1 < _; omega)
  have c2 : ∀ o, u.cell? ⟨w.heap.size + 1 + 1, o, none⟩ = W.cell? ⟨w.heap.size + 1 + 1, o, none⟩ := fun o => hu.cell (p := ⟨w.heap.size + 1 + 1, o, none⟩) (by show w.heap.size + 1 + 1 < _; omega)
  rw [c0, c0, c0, c0, c1, c1, c2, c2, c2, c2, hW]
  refine ⟨?_, ?_, ?_, ?_, ?_, ?_, ?_, ?_, ?_, ?_⟩
  all_goals first
    | (rw [World.cell?_alloc_lt _ _ _ (by simp; omega), World.cell?_alloc_lt _ _ _ (by simp), World.cell?_alloc_at _ _ _ _ rfl]; rfl)
    | (rw [World.cell?_alloc_lt _ _ _ (by simp), World.cell?_alloc_at _ _ _ _ (by simp)]; rfl)
    | (rw [World.cell?_alloc_at _ _ _ _ (by simp)]; rfl)
/-- what holds answers -/
def HoldsPost (w : World) (g : GD) (x : SD) (a : WE) (nx : Int) (e : Ending) (w' : World) : Prop :=
  ((e = .returned (.bool true) ∧ Hold1 g x a nx) ∨ (e = .returned (.bool false) ∧ ¬ Hold1 g x a nx)) ∧ Below w.heap.size w w'
set_option maxHeartbeats 8000000 in
set_option maxRecDepth 100000 in
theorem holds_ok (gv xv : Value) (g : GD) (x : SD) (hR : Right g x) (a : WE) (c1 : 1 ≤ a.cause) (c5 : a.cause ≤ 5) (nx : Int) (pr : Option Addr) (cr : Nat) (w : World)
    (h5 : a.cause = 5 → ∃ k o, a.p = some ⟨k, o, none⟩ ∧ 0 < a.many ∧ k < w.heap.size ∧ w.cell? ⟨k, o, none⟩ = some (.int .i64 nx))
    (h : GrAt w gv g) (hx : SnAt w xv x) (hRA : RowsAt w pr g.names.length (rws g)) :
    Calls Tryd.prog 56 #[gv, xv, .slice pr g.names.length cr, a.v] w (HoldsPost w g x a nx) := by
  obtain ⟨p, n, c, q, m, d, rfl, hN, hE⟩ := h.at_
  obtain ⟨p2, n2, c2, rfl, hx1, hx2, hx3⟩ := hx.at_
  have hln := hN.at_.len
  subst hln hx1
  obtain ⟨num, cause, need, ap, many, cap⟩ := a
  have h64 : g.names.length ≤ 64 := hR.good.names
  have HXL := Lib.hid hR.len
  have HRr := Lib.hid hR
  clear hR
  obtain ⟨W, hW, hBW, hS, hC⟩ := args3 w (.slice p g.names.length c) (.slice q m d) (.int .u64 (un g.phony : Int)) (.int .u64 (un g.made : Int)) (.slice p2 x.at_.length c2) (.int .u64 (un x.dirty : Int)) (.int .i64 num) (.int .i64 cause) (.int .i64 need) (.slice ap many cap)
  have HC := Lib.hid hC
  have HXR : Hid (Reads W W.heap.size 1 p2 x.at_.length (iv x.at_)) := by show Reads _ _ _ _ _ _; exact (hx2.below hBW).more hBW.size
  have HRA := Lib.hid (hRA.below hBW)
  have HBW := Lib.hid hBW
  have H5 : Hid (cause = 5 → ∃ k o, ap = some ⟨k, o, none⟩ ∧ 0 < many ∧ W.cell? ⟨k, o, none⟩ = some (.int .i64 nx)) := by
    show _ → _
    intro e
    obtain ⟨k, o, e1, e2, e3, e4⟩ := h5 e
    exact ⟨k, o, e1, e2, (hBW.cell e3).trans e4⟩
  obtain ⟨k0, k1, k2, k3, k4, k5, a0, a1, a2, a3⟩ := HC.out W (Below.refl _ _)
  clear h hx hRA hBW hS hC hx2 hN hE h5
  show Calls Tryd.prog 56 #[_, _, _, .agg #[.int .i64 num, .int .i64 cause, .int .i64 need, .slice ap many cap]] w _
  have hc1 : 1 ≤ cause := c1
  have hc5 : cause ≤ 5 := c5
  clear c1 c5
  have fin : ∀ b : Bool, (b = true → Hold1 g x ⟨num, cause, need, ap, many, cap⟩ nx) → (b = false → ¬ Hold1 g x ⟨num, cause, need, ap, many, cap⟩ nx) → ∀ k, HoldsPost w g x ⟨num, cause, need, ap, many, cap⟩ nx (.returned (.bool b)) (W.drewN k) := by
    intro b h1 h2 k
    refine ⟨?_, below_drawsP HBW.out k⟩
    cases b
    · exact .inr ⟨rfl, h2 rfl⟩
    · exact .inl ⟨rfl, h1 rfl⟩
  have HF := Lib.hid fin
  clear fin
  rw [hW] at k0 k1 k2 k3 k4 k5 a0 a1 a2 a3
  go_enter Tryd.func56, Tryd.ntmps56
  go_upto_region 1 with fail
  rw [← hW] at k0 k1 k2 k3 k4 k5 a0 a1 a2 a3 ⊢
  clear hW
  by_cases n0 : num < 0
  · go_wp2
    go_ret
    exact HF.out false (fun h => by cases h) (fun _ h => by have : 0 ≤ num := h.num.1; omega) 0
  by_cases n1 : (g.names.length : Int) ≤ num
  · go_wp2
    go_ret
    exact HF.out false (fun h => by cases h) (fun _ h => by have : num < (g.names.length : Int) := h.num.2; omega) 0
  by_cases n2 : need < 0
  · go_wp2
    go_ret
    exact HF.out false (fun h => by cases h) (fun _ h => by have : 0 ≤ need := h.need.1; omega) 0
  by_cases n3 : (g.names.length : Int) ≤ need
  · go_wp2
    go_ret
    exact HF.out false (fun h => by cases h) (fun _ h => by have : need < (g.names.length : Int) := h.need.2; omega) 0
  obtain ⟨i, rfl⟩ := Int.eq_ofNat_of_zero_le (show 0 ≤ num by omega)
  obtain ⟨k, rfl⟩ := Int.eq_ofNat_of_zero_le (show 0 ≤ need by omega)
  have hi : i < g.names.length := by omega
  have hk : k < g.names.length := by omega
  have hbz := bit_zero (g.made ||| g.phony) i
  cases hm : has (g.made ||| g.phony) i
  · rw [hm] at hbz
    have HM := Lib.hid hm
    clear hm
    go_wp2
    go_ret
    exact HF.out false (fun h => by cases h) (fun _ h => by have h1 := h.made; rw [show (Int.toNat (i : Int)) = i from rfl] at h1; rw [HM.out] at h1; cases h1) 0
  · rw [hm] at hbz
    have HM := Lib.hid hm
    clear hm
    obtain ⟨adr, rfl, _, hrow⟩ := HRA.out.cell hi
    obtain ⟨adx, rfl, _, hxi⟩ := iv_at HXR.out (show i < x.at_.length by have := HXL.out; omega)
    obtain ⟨adx2, hadx, _, hxk⟩ := iv_at HXR.out (show k < x.at_.length by have := HXL.out; omega)
    injection hadx with hadx
    subst hadx
    have hxli : (i : Int) < (x.at_.length : Int) := by have := HXL.out; omega
    have hxlk : (k : Int) < (x.at_.length : Int) := by have := HXL.out; omega
    have hrb := bit_zero (row (rws g) i) k
    have hpb := bit_eqS g.phony i
    have hdb := bit_eqS x.dirty k
    have HRow : Hid (∃ y, y = row (rws g) i) := ⟨_, rfl⟩
    have HNum : Hid ((0 : Int) ≤ (i : Int) ∧ (i : Int) < (g.names.length : Int)) := by show _ ∧ _; omega
    have HNeed : Hid ((0 : Int) ≤ (k : Int) ∧ (k : Int) < (g.names.length : Int)) := by show _ ∧ _; omega
    obtain ⟨y, hy⟩ : ∃ y, y = row (rws g) i := ⟨_, rfl⟩
    rw [← hy] at hrow hrb
    have HY := Lib.hid hy
    obtain ⟨ti, hti⟩ : ∃ t, t = x.at_.getD i 0 := ⟨_, rfl⟩
    rw [← hti] at hxi
    have HTI := Lib.hid hti
    obtain ⟨tk, htk⟩ : ∃ t, t = x.at_.getD k 0 := ⟨_, rfl⟩
    rw [← htk] at hxk
    have HTK := Lib.hid htk
    clear hy hti htk HRow
    by_cases c3 : 3 ≤ cause
    · have hd3 : decide (3 ≤ cause) = true := decide_eq_true c3
      cases hrk : has y k
      · rw [hrk] at hrb
        have HRK := Lib.hid hrk
        clear hrk
        go_wp2
        go_quiet ((go_at_call 76; exact needed_q hd3))
        go_wp2
        go_ret
        exact HF.out false (fun h => by cases h) (fun _ h => by have h1 := h.edge c3; rw [show (Int.toNat (i : Int)) = i from rfl, show (Int.toNat (k : Int)) = k from rfl, ← HY.out, HRK.out] at h1; cases h1) _
      · rw [hrk] at hrb
        have HRK := Lib.hid hrk
        clear hrk
        rcases (by omega : cause = 3 ∨ cause = 4 ∨ cause = 5) with rfl | rfl | rfl
        · have HE : Hid (has (row (rws g) i) k = true) := by show _ = _; rw [← HY.out]; exact HRK.out
          have HFF := Lib.hid (HF.out (has x.dirty k) (fun h => ⟨HNum.out, HNeed.out, HM.out, fun _ => HE.out, fun e => absurd e (by simp), fun e => absurd e (by simp), fun e => absurd e (by simp), fun _ => h, fun e => absurd e (by simp), fun e => absurd e (by simp)⟩) (fun h hh => by have h1 : has x.dirty k = true := hh.dirty rfl; rw [h1] at h; cases h))
          generalize has x.dirty k = bb at *
          go_wp2
          go_quiet ((go_at_call 76; exact needed_q hd3))
          go_wp2
          go_ret
          exact HFF.out _
        · have HE : Hid (has (row (rws g) i) k = true) := by show _ = _; rw [← HY.out]; exact HRK.out
          have HFF := Lib.hid (HF.out (decide (ti < tk)) (fun h => ⟨HNum.out, HNeed.out, HM.out, fun _ => HE.out, fun e => absurd e (by simp), fun e => absurd e (by simp), fun e => absurd e (by simp), fun e => absurd e (by simp), fun _ => by have h1 := of_decide_eq_true h; rw [HTI.out, HTK.out] at h1; exact h1, fun e => absurd e (by simp)⟩) (fun h hh => of_decide_eq_false h (by rw [HTI.out, HTK.out]; exact hh.newer rfl)))
          go_wp2
          go_quiet ((go_at_call 76; exact needed_q hd3))
          go_wp2
          go_quiet (fail)
          go_wp2
          go_ret
          rw [drewN_add]
          exact HFF.out _
        · have HE : Hid (has (row (rws g) i) k = true) := by show _ = _; rw [← HY.out]; exact HRK.out
          have HFF := Lib.hid (HF.out (nx == (k : Int)) (fun h => ⟨HNum.out, HNeed.out, HM.out, fun _ => HE.out, fun e => absurd e (by simp), fun e => absurd e (by simp), fun e => absurd e (by simp), fun e => absurd e (by simp), fun e => absurd e (by simp), fun _ => by simpa using h⟩) (fun h hh => by have h1 : nx = (k : Int) := hh.anew rfl; rw [h1] at h; simp at h))
          obtain ⟨k5, o5, rfl, hmany, hnx⟩ := H5.out rfl
          clear H5
          go_wp2
          go_quiet ((go_at_call 76; exact needed_q hd3))
          go_wp2
          go_quiet (fail)
          go_wp2
          go_ret
          rw [drewN_add]
          exact HFF.out _
    · have hd3 : decide (3 ≤ cause) = false := decide_eq_false c3
      by_cases hk0 : k = 0
      · subst hk0
        have hkb : (((0 : Nat) : Int) != 0) = false := rfl
        have hnz : g.names.length ≠ 0 := by omega
        have hnzd : decide ((g.names.length : Int) ≤ 0) = false := by simpa using hnz
        rcases (by omega : cause = 1 ∨ cause = 2) with rfl | rfl
        · have HFF := Lib.hid (HF.out (decide (ti < 0)) (fun h => ⟨HNum.out, HNeed.out, HM.out, fun e => absurd e (by simp), fun _ => rfl, fun _ => by have h1 := of_decide_eq_true h; rw [HTI.out] at h1; exact h1, fun e => absurd e (by simp), fun e => absurd e (by simp), fun e => absurd e (by simp), fun e => absurd e (by simp)⟩) (fun h hh => of_decide_eq_false h (by rw [HTI.out]; exact hh.gone rfl)))
          go_wp2
          go_quiet ((go_at_call 76; exact needed_q hd3))
          go_wp2
          go_ret
          exact HFF.out _
        · have HFF := Lib.hid (HF.out (has g.phony i) (fun h => ⟨HNum.out, HNeed.out, HM.out, fun e => absurd e (by simp), fun _ => rfl, fun e => absurd e (by simp), fun _ => h, fun e => absurd e (by simp), fun e => absurd e (by simp), fun e => absurd e (by simp)⟩) (fun h hh => by have h1 : has g.phony i = true := hh.phony rfl; rw [h1] at h; cases h))
          generalize has g.phony i = bb at *
          go_wp2
          go_quiet ((go_at_call 76; exact needed_q hd3))
          go_wp2
          go_ret
          exact HFF.out _
      · have hkb : ((k : Int) != 0) = true := by rw [bne_iff_ne]; omega
        go_wp2
        go_quiet ((go_at_call 76; exact needed_q hd3))
        go_wp2
        go_ret
        exact HF.out false (fun h => by cases h) (fun _ h => hk0 (by have h1 := h.none_ (by show cause < 3; omega); have h2 : (k : Int) = 0 := h1; omega)) _
end Go.Proofs.YteldeiihjeddoaaDoor
namespace Go.Proofs.YteldeiihjeddoaaDoor
def swapE (x : E2) : E2 := (x.2, x.1)
theorem swap_swap (x : E2) : swapE (swapE x) = x := rfl
theorem elt_trans {a b c : E2} (h : elt a b) (g : elt b c) : elt a c := by unfold elt at *; omega
theorem elt_irr {a : E2} : ¬ elt a a := by unfold elt; omega
theorem elt_tri (a b : E2) : elt a b ∨ a = b ∨ elt b a := by
  obtain ⟨a1, a2⟩ := a
  obtain ⟨b1, b2⟩ := b
  unfold elt
  simp only [Prod.mk.injEq]
  omega
theorem erise_pair {es : List E2} : ERise es ↔ es.Pairwise elt := by
  rw [List.pairwise_iff_getElem]
  have hg : ∀ i (h : i < es.length), es.getD i (0, 0) = es[i] := fun i h => by rw [List.getD_eq_getElem?_getD, List.getElem?_eq_getElem h]; rfl
  constructor
  · intro h i j hi hj hij
    obtain ⟨d, rfl⟩ : ∃ d, j = i + d + 1 := ⟨j - i - 1, by omega⟩
    clear hij
    induction d with
    | zero =>
      have := h i hj
      rw [hg i hi, hg _ hj] at this
      exact this
    | succ d ih =>
      have h1 := ih (by omega)
      have h2 := h (i + d + 1) hj
      rw [hg _ (by omega), hg (i + d + 1 + 1) hj] at h2
      exact elt_trans h1 h2
  · intro h i hi
    rw [hg i (by omega), hg _ hi]
    exact h i (i + 1) (by omega) hi (by omega)
theorem erise_ext : ∀ {l m : List E2}, l.Pairwise elt → m.Pairwise elt → (∀ x, x ∈ l ↔ x ∈ m) → l = m
  | [], [], _, _, _ => rfl
  | [], y :: m, _, _, h => absurd ((h y).2 List.mem_cons_self) (by simp)
  | x :: l, [], _, _, h => absurd ((h x).1 List.mem_cons_self) (by simp)
  | x :: l, y :: m, hl, hm, h => by
    rw [List.pairwise_cons] at hl hm
    have hxy : x = y := by
      rcases List.mem_cons.1 ((h x).1 List.mem_cons_self) with e | e
      · exact e
      · rcases List.mem_cons.1 ((h y).2 List.mem_cons_self) with f | f
        · exact f.symm
        · exact absurd (elt_trans (hl.1 y f) (hm.1 x e)) elt_irr
    subst hxy
    have : l = m := erise_ext hl.2 hm.2 fun z => by
      constructor
      · intro hzl
        rcases List.mem_cons.1 ((h z).1 (List.mem_cons_of_mem _ hzl)) with e | e
        · subst e; exact absurd (hl.1 _ hzl) elt_irr
        · exact e
      · intro hzm
        rcases List.mem_cons.1 ((h z).2 (List.mem_cons_of_mem _ hzm)) with e | e
        · subst e; exact absurd (hm.1 _ hzm) elt_irr
        · exact e
    rw [this]
/-- the edges of a turned graph -/
structure TurnOf (es ts : List E2) : Prop where
  rise : ERise ts
  mem : ∀ x, x ∈ ts ↔ swapE x ∈ es
theorem mem_swap {es : List E2} {x : E2} : x ∈ es.map swapE ↔ swapE x ∈ es := by
  rw [List.mem_map]
  constructor
  · rintro ⟨y, hy, rfl⟩; exact hy
  · intro h; exact ⟨swapE x, h, rfl⟩
theorem turn_of {es ts : List E2} (he : ERise es) (hp : ts.Perm (es.map swapE)) (hs : ts.Pairwise fun a b => ¬ elt b a) : TurnOf es ts := by
  have hnd : ts.Nodup := by
    rw [hp.nodup_iff]
    rw [List.Nodup, List.pairwise_map]
    refine (erise_pair.1 he).imp fun {a b} h e => ?_
    have : a = b := by rw [← swap_swap a, e]; rfl
    subst this
    exact elt_irr h
  refine ⟨erise_pair.2 ?_, fun x => by rw [hp.mem_iff, mem_swap]⟩
  refine (hs.and hnd).imp fun {a b} h => ?_
  rcases elt_tri a b with h1 | h1 | h1
  · exact h1
  · exact absurd h1 h.2
  · exact absurd h1 h.1
theorem turn_twice {es ts us : List E2} (he : ERise es) (h1 : TurnOf es ts) (h2 : TurnOf ts us) : us = es :=
  erise_ext (erise_pair.1 h2.rise) (erise_pair.1 he) fun x => by rw [h2.mem, h1.mem, swap_swap]
end Go.Proofs.YteldeiihjeddoaaDoor
