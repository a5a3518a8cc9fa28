/- Texts joined: CloneTW, RunP, StaleSetW, StaleW, RunW. Conditions: theirs. -/
import Derived.Test.YteldeiihjeddoaaDoorBuildLawsM4
import Derived.Test.YteldeiihjeddoaaDoorBuildLawsM2
import Derived.Lib.SliceRun
import Derived.Test.YteldeiihjeddoaaDoorBuildLawsM3
import Derived.Test.YteldeiihjeddoaaDoorBuildLawsM1
import Derived.Test.YteldeiihjeddoaaDoorFromW
namespace Go.Proofs.YteldeiihjeddoaaDoor
open Go.RowKit
theorem info_i64T : (Tryd.prog.info? 2).map (fun i => (i.zero, i.size, i.bytes)) = some (some (.int .i64 0), 1, 8) := by kernel_rfl
theorem iv_int (l : List Int) : ∀ u ∈ iv l, isInt u := fun u hu => by
  obtain ⟨z, _, rfl⟩ := List.mem_map.1 hu
  exact ⟨z, rfl⟩
theorem iv_one (l : List Int) : ∀ u ∈ iv l, u.oneCell' = true := fun u hu => by
  obtain ⟨z, _, rfl⟩ := List.mem_map.1 hu
  rfl
theorem alloc_all {w : World} {t : TypeId} {Pr : Value → Prop} : AllC (w.alloc (.cells #[] t)) (.slice (some ⟨w.heap.size, 0, none⟩) 0 0) Pr := fun b hb => by
  have hb' : w.heap.size = b := by simpa [Value.ownBlock] using hb
  subst hb'
  exact ⟨_, _, _, han _ _, fun u hu => by simp at hu⟩
set_option maxHeartbeats 1000000 in
set_option maxRecDepth 100000 in
theorem CloneI_any (p : Option Addr) (n c b : Nat) (hn : n ≤ 17592186044416) (l : List Int) (w : World) (hR : Reads w b 1 p n (iv l)) :
    Calls Tryd.prog 31 #[.slice p n c] w fun e w' => ∃ (g : Option Addr) (cg : Nat), e = .returned (.slice g n cg) ∧ w'.ownsRow w.heap.size 2 1 (.slice g n cg) n (iv l) ∧ AllC w' (.slice g n cg) isInt ∧ Below w.heap.size w w' := by
  obtain ⟨i0, hi, hz0, hz1, hz2⟩ := info_parts info_i64T
  have hl : (iv l).length = n * 1 := hR.1
  have q22 : ∀ (w : World) (a : Option Addr) (n c n' c' : Nat), (binOp .eql 27 (.slice a n c) (.slice none n' c')).run Tryd.prog w = .ok (.bool a.isNone) w := fun w a n c n' c' => Lib.run_eql_slice_nil w _ _ a n c n' c' Tryd.underlying27
  cases p with
  | none =>
    have hn0 : n = 0 := by
      rcases Nat.eq_zero_or_pos n with h0 | h0
      · exact h0
      · obtain ⟨ad, e, _⟩ := hR.2 h0
        cases e
    subst hn0
    have hz : iv l = [] := List.length_eq_zero_iff.1 (by omega)
    rw [hz]
    clear hR hl hz hi hz0 hz1 hz2
    go_enter Tryd.func31, Tryd.ntmps31
    go_wp2
    go_ret
    exact ⟨none, 0, rfl, World.ownsRow_nil _ _ _ _, AllC.nil_ _ _, Below.refl _ _⟩
  | some ad =>
    have hc : ∀ j u, (iv l)[j]? = some u → (w.alloc (.cells #[] 2)).cell? (ad.add j) = some u := fun j u hu => by
      have hj : j < n := by have := (List.getElem?_eq_some_iff.1 hu).1; omega
      obtain ⟨ad', e, hb, hcell⟩ := hR.2 (by omega)
      injection e with e
      subst e
      have h1 := hcell j u hu
      rw [World.cell?_alloc_lt _ _ _ (World.block_lt_of_cell? w _ h1)]
      exact h1
    have HC := Lib.hid hc
    have hb1 : Below w.heap.size w (w.alloc (.cells #[] 2)) := (Below.refl _ _).alloc (Nat.le_refl _) _
    clear hR hc
    go_enter Tryd.func31, Tryd.ntmps31
    go_wp2_with (at_builtin; refine wpList_append_all _ rfl _ _ 27 rfl w.heap.size 2 i0 (.int .i64 0) 1 8 Tryd.underlying27 hi hz0 hz1 hz2 rfl (by decide) _ 0 [] rfl (World.ownsRow_made w #[] 0 (Nat.le_refl _) (by decide) rfl) ad n c (iv l) rfl hl HC.out (iv_one l) ?b2 ?b3 ?b4 isInt ?b5 (iv_int l) alloc_all ?_; rotate_right; intro v' w' h1 h2 h3 h4)
    case b2 => unfold maxLen; omega
    case b3 => omega
    case b4 => simp
    case b5 => intro q hq; simp [Value.cells] at hq; subst hq; exact ⟨_, rfl⟩
    rw [Nat.zero_add, List.nil_append] at h1
    obtain ⟨g, cg, rfl, hlt⟩ := own_formT h1
    have hb2 : Below w.heap.size w w' := hb1.grown h2 (by simp) (fun k hk => by have h : some w.heap.size = some k := hk; injection h with h; omega)
    clear HC hb1 h2 h4 hl
    go_wp2
    go_ret
    exact ⟨g, cg, rfl, h1, h3, hb2⟩
end Go.Proofs.YteldeiihjeddoaaDoor
namespace Go.Proofs.YteldeiihjeddoaaDoor
open Go.RowKit Go.Shelf Go.Sort
/-- between two worlds only the blocks told turn -/
structure Keeps (K : Nat → Prop) (w w' : World) : Prop where
  os : w'.os = w.os
  tape : w'.tape = w.tape
  output : w'.output = w.output
  size : w.heap.size ≤ w'.heap.size
  block : ∀ k, k < w.heap.size → ¬ K k → w'.heap[k]? = w.heap[k]?
theorem Keeps.refl (K : Nat → Prop) (w : World) : Keeps K w w := ⟨rfl, rfl, rfl, Nat.le_refl _, fun _ _ _ => rfl⟩
theorem Keeps.step {K : Nat → Prop} {w a b : World} {row : Option Nat} (h : Keeps K w a) (hg : a.grownBy b row) (hr : ∀ k, row = some k → K k ∨ w.heap.size ≤ k) : Keeps K w b :=
  ⟨hg.os.trans h.os, hg.tape.trans h.tape, hg.output.trans h.output, Nat.le_trans h.size hg.size, fun k hk hn => by
    rw [hg.block k (Nat.lt_of_lt_of_le hk h.size) (fun e => by
      rcases hr k e.symm with h1 | h1
      · exact hn h1
      · omega), h.block k hk hn]⟩
theorem Keeps.below {K : Nat → Prop} {w w' : World} (h : Keeps K w w') {B : Nat} (hB : B ≤ w.heap.size) (hK : ∀ k, K k → B ≤ k) : Below B w w' :=
  ⟨h.os, h.tape, h.output, h.size, fun k hk => h.block k (by omega) (fun hc => by have := hK k hc; omega)⟩
theorem Keeps.own {K : Nat → Prop} {w w' : World} (h : Keeps K w w') {base size n : Nat} {e : TypeId} {v : Value} {xs : List Value} (ho : w.ownsRow base e size v n xs) (hv : ∀ k, v.ownBlock = some k → ¬ K k) : w'.ownsRow base e size v n xs := by
  refine ⟨ho.1, ?_⟩
  rcases ho.2 with hn | ⟨g, cap, cur, rfl, hb, hg, rest⟩
  · exact .inl hn
  · exact .inr ⟨g, cap, cur, rfl, hb, by rw [h.block g (Array.getElem?_eq_some_iff.1 hg).1 (hv g rfl)]; exact hg, rest⟩
theorem bx1 {w : World} {b : Nat} {t : TypeId} {v0 : Value} (h : w.heap[b]? = some (.cells #[v0] t (0, 0))) : w.cell? ⟨b, 0, none⟩ = some v0 ∧ w.frozen? ⟨b, 0, none⟩ = false := by
  refine ⟨?_, ?_⟩
  all_goals simp [World.cell?, World.frozen?, h]
theorem bx1_set {w : World} {b : Nat} {t : TypeId} {v0 : Value} (h : w.heap[b]? = some (.cells #[v0] t (0, 0))) (u : Value) : (w.setCell ⟨b, 0, none⟩ u).heap[b]? = some (.cells #[u] t (0, 0)) := by
  rw [setCell_eq]
  simp [mapBlock, onCells, Array.getElem?_modify, h]
theorem bx2 {w : World} {b : Nat} {t : TypeId} {v0 v1 : Value} (h : w.heap[b]? = some (.cells #[v0, v1] t (0, 0))) :
    w.cell? ⟨b, 0, none⟩ = some v0 ∧ w.cell? ⟨b, 1, none⟩ = some v1 ∧ w.frozen? ⟨b, 0, none⟩ = false ∧ w.frozen? ⟨b, 1, none⟩ = false := by
  refine ⟨?_, ?_, ?_, ?_⟩
  all_goals simp [World.cell?, World.frozen?, h]
theorem bx2_set0 {w : World} {b : Nat} {t : TypeId} {v0 v1 : Value} (h : w.heap[b]? = some (.cells #[v0, v1] t (0, 0))) (u : Value) : (w.setCell ⟨b, 0, none⟩ u).heap[b]? = some (.cells #[u, v1] t (0, 0)) := by
  rw [setCell_eq]
  simp [mapBlock, onCells, Array.getElem?_modify, h]
theorem bx2_all {w : World} {b : Nat} {t : TypeId} {v0 v1 : Value} (h : w.heap[b]? = some (.cells #[v0, v1] t (0, 0))) (u0 u1 : Value) : ((w.setCell ⟨b, 0, none⟩ u0).setCell ⟨b, 1, none⟩ u1).heap[b]? = some (.cells #[u0, u1] t (0, 0)) := by
  simp only [setCell_eq]
  simp [mapBlock, onCells, Array.getElem?_modify, h]
theorem set_other {w : World} {a : Addr} {u : Value} {k : Nat} {o : Option Obj} (h : w.heap[k]? = o) (hne : k ≠ a.block) : (w.setCell a u).heap[k]? = o := by
  rw [heap_setCell_other w a k u hne]; exact h
/-- the blocks that a build may write -/
def RunK (bN bM : Nat) (v : Value) : Nat → Prop := fun k => k = bN ∨ k = bM ∨ v.ownBlock = some k
/-- what the loop of a build keeps: r is made -/
structure RInv (wc : World) (B : Nat) (l : List Int) (now : Int) (bN bM : Nat) (q : Option Addr) (n d : Nat) (r : List Nat) (p : Option Addr) (c : Nat) (wr : World) : Prop where
  nbox : wr.heap[bN]? = some (.cells #[.int .i64 (now + r.length)] 2 (0, 0))
  mbox : wr.heap[bM]? = some (.cells #[.slice p r.length c, .slice q n d] 60 (0, 0))
  row : wr.ownsRow wc.heap.size 3 1 (.slice p r.length c) r.length (ints r)
  at_ : wr.ownsRow B 2 1 (.slice q n d) n (iv (stampT l now r))
  all : AllC wr (.slice q n d) isInt
  keep : Keeps (RunK bN bM (.slice q n d)) wc wr
/-- what stays through the loop: where all lies -/
structure RFix (wc : World) (B bN bM : Nat) (q : Option Addr) (n d : Nat) : Prop where
  nlt : bN < wc.heap.size
  mlt : bM < wc.heap.size
  nm : bN ≠ bM
  qlt : ∀ k, (Value.slice q n d).ownBlock = some k → k < wc.heap.size ∧ k ≠ bN ∧ k ≠ bM
section
variable {wc wr : World} {B bN bM n d c : Nat} {l : List Int} {now : Int} {q p : Option Addr} {r : List Nat}
theorem RInv.alloc (h : RInv wc B l now bN bM q n d r p c wr) (hF : RFix wc B bN bM q n d) (o : Obj) : RInv wc B l now bN bM q n d r p c (wr.alloc o) := by
  have hs := h.keep.size
  exact ⟨(hao _ _ _ (by have := hF.nlt; omega)).trans h.nbox, (hao _ _ _ (by have := hF.mlt; omega)).trans h.mbox, h.row.alloc o, h.at_.alloc o, h.all.kept (World.grownBy_alloc _ _ none) (by cases hv : (Value.slice q n d).ownBlock <;> simp), h.keep.step (World.grownBy_alloc _ _ none) (fun k hk => by cases hk)⟩
/-- behind an append to the row -/
theorem RInv.app (h : RInv wc B l now bN bM q n d r p c wr) (hF : RFix wc B bN bM q n d) {w5 : World} (hg : wr.grownBy w5 (Value.slice p r.length c).ownBlock) :
    w5.heap[bN]? = some (.cells #[.int .i64 (now + r.length)] 2 (0, 0)) ∧ w5.heap[bM]? = some (.cells #[.slice p r.length c, .slice q n d] 60 (0, 0)) ∧
    w5.ownsRow B 2 1 (.slice q n d) n (iv (stampT l now r)) ∧ AllC w5 (.slice q n d) isInt ∧ Keeps (RunK bN bM (.slice q n d)) wc w5 := by
  have hs := h.keep.size
  have hne : ∀ k, (Value.slice p r.length c).ownBlock = some k → wc.heap.size ≤ k := fun k hk => (h.row.lt k hk).1
  have hb : ∀ k, k < wc.heap.size → w5.heap[k]? = wr.heap[k]? := fun k hk => hg.block k (by omega) fun e => by have := hne k e.symm; omega
  have hk : (Value.slice q n d).ownBlock = none ∨ (Value.slice q n d).ownBlock ≠ (Value.slice p r.length c).ownBlock := by
    cases hq : (Value.slice q n d).ownBlock with
    | none => exact .inl rfl
    | some k =>
      refine .inr fun e => ?_
      have h1 := hne k e.symm
      have h2 := (hF.qlt k hq).1
      omega
  exact ⟨(hb _ hF.nlt).trans h.nbox, (hb _ hF.mlt).trans h.mbox, h.at_.kept hg hk, h.all.kept hg hk, h.keep.step hg fun k hk => .inr (hne k hk)⟩
theorem AllC.set {w : World} {b m k i : Nat} {Pr : Value → Prop} {u : Value} (h : AllC w (.slice (some ⟨b, 0, none⟩) m k) Pr) (hu : Pr u) : AllC (w.setCell ⟨b, i, none⟩ u) (.slice (some ⟨b, 0, none⟩) m k) Pr := fun j hj => by
  have hj' : b = j := by simpa [Value.ownBlock] using hj
  subst hj'
  obtain ⟨cur, t, fr, h1, h2⟩ := h b rfl
  refine ⟨cur.setIfInBounds i u, t, fr, by simp [World.setCell, Array.getElem?_modify, h1], fun x hx => ?_⟩
  rw [Array.toList_setIfInBounds] at hx
  rcases List.mem_or_eq_of_mem_set hx with hx | rfl
  · exact h2 x hx
  · exact hu
theorem iv_set (l : List Int) (i : Nat) (t : Int) : (iv l).set i (.int .i64 t) = iv (l.set i t) := by unfold iv; rw [List.map_set]
/-- a number is made -/
theorem RInv.made {w5 : World} {p2 : Option Addr} {c2 qb i : Nat} (hF : RFix wc B bN bM (some ⟨qb, 0, none⟩) n d) 
    (h1 : w5.heap[bN]? = some (.cells #[.int .i64 (now + r.length)] 2 (0, 0)))
    (h2 : w5.heap[bM]? = some (.cells #[.slice p r.length c, .slice (some ⟨qb, 0, none⟩) n d] 60 (0, 0)))
    (h3 : w5.ownsRow B 2 1 (.slice (some ⟨qb, 0, none⟩) n d) n (iv (stampT l now r)))
    (ha : AllC w5 (.slice (some ⟨qb, 0, none⟩) n d) isInt)
    (h4 : Keeps (RunK bN bM (.slice (some ⟨qb, 0, none⟩) n d)) wc w5)
    (h5 : w5.ownsRow wc.heap.size 3 1 (.slice p2 (r.length + 1) c2) (r.length + 1) (ints r ++ [.int .i64 (i : Int)])) :
    RInv wc B l now bN bM (some ⟨qb, 0, none⟩) n d (r ++ [i]) p2 c2 (((w5.setCell ⟨bM, 0, none⟩ (.slice p2 (r.length + 1) c2)).setCell ⟨qb, i, none⟩ (.int .i64 (now + r.length))).setCell ⟨bN, 0, none⟩ (.int .i64 (now + r.length + 1))) := by
  obtain ⟨hq1, hq2, hq3⟩ := hF.qlt qb rfl
  have hnm := hF.nm
  have hl : (r ++ [i]).length = r.length + 1 := by simp
  have ht : now + (((r ++ [i]).length : Nat) : Int) = now + r.length + 1 := by rw [hl]; push_cast; omega
  have hrne : ∀ k, (Value.slice p2 (r.length + 1) c2).ownBlock = some k → wc.heap.size ≤ k := fun k hk => (h5.lt k hk).1
  have hk : ∀ (X : World) (b o : Nat) (u : Value), (RunK bN bM (.slice (some ⟨qb, 0, none⟩) n d)) b → Keeps (RunK bN bM (.slice (some ⟨qb, 0, none⟩) n d)) wc X → Keeps (RunK bN bM (.slice (some ⟨qb, 0, none⟩) n d)) wc (X.setCell ⟨b, o, none⟩ u) :=
    fun X b o u hb hX => hX.step (grown_set _ _ _) fun k hk => .inl (by cases hk; exact hb)
  have hrow : ∀ (X : World) (b o : Nat) (u : Value), b < wc.heap.size → X.ownsRow wc.heap.size 3 1 (.slice p2 (r.length + 1) c2) (r.length + 1) (ints r ++ [.int .i64 (i : Int)]) →
      (X.setCell ⟨b, o, none⟩ u).ownsRow wc.heap.size 3 1 (.slice p2 (r.length + 1) c2) (r.length + 1) (ints r ++ [.int .i64 (i : Int)]) :=
    fun X b o u hb hX => hX.kept (grown_set _ _ _) (.inr fun e => by have := hrne b e; omega)
  refine ⟨?_, ?_, ?_, ?_, ?_, ?_⟩
  · rw [ht]
    exact bx1_set (set_other (set_other h1 hnm) (Ne.symm hq2)) _
  · rw [hl]
    exact set_other (set_other (bx2_set0 h2 _) (Ne.symm hq3)) (Ne.symm hnm)
  · rw [hl]
    have e : ints (r ++ [i]) = ints r ++ [.int .i64 (i : Int)] := ints_snoc r i
    rw [e]
    exact hrow _ _ _ _ hF.nlt (hrow _ _ _ _ hq1 (hrow _ _ _ _ hF.mlt h5))
  · have ha := h3.kept (grown_set w5 ⟨bM, 0, none⟩ (.slice p2 (r.length + 1) c2)) (.inr fun e => hq3 (by injection e))
    have hb := (ha.stored i (.int .i64 (now + r.length))).1
    rw [iv_set, ← stamp_snoc] at hb
    exact hb.kept (grown_set _ _ _) (.inr fun e => hq2 (by injection e))
  · have e1 : AllC (w5.setCell ⟨bM, 0, none⟩ (.slice p2 (r.length + 1) c2)) (.slice (some ⟨qb, 0, none⟩) n d) isInt := ha.kept (grown_set _ _ _) (.inr fun e => hq3 (by injection e))
    exact (e1.set ⟨_, rfl⟩).kept (grown_set _ _ _) (.inr fun e => hq2 (by injection e))
  · exact hk _ _ _ _ (.inl rfl) (hk _ _ _ _ (.inr (.inr rfl)) (hk _ _ _ _ (.inr (.inl rfl)) h4))
theorem RInv.start (h1 : wc.heap[bN]? = some (.cells #[.int .i64 now] 2 (0, 0))) (h2 : wc.heap[bM]? = some (.cells #[.slice none 0 0, .slice q n d] 60 (0, 0)))
    (h3 : wc.ownsRow B 2 1 (.slice q n d) n (iv l)) (h4 : AllC wc (.slice q n d) isInt) : RInv wc B l now bN bM q n d [] none 0 wc :=
  ⟨by simpa using h1, h2, World.ownsRow_nil _ _ _ _, h3, h4, Keeps.refl _ _⟩
end
end Go.Proofs.YteldeiihjeddoaaDoor
namespace Go.Proofs.YteldeiihjeddoaaDoor
open Go.RowKit Go.Shelf
theorem bit_eqS (s : B) (a : Nat) : ((un ((s >>> a) &&& 1#64) : Int) == 1) = has s a := by
  have h := bit_zero s a
  have h1 : un (s >>> a &&& 1#64) < 2 := by
    unfold un; rw [BitVec.toNat_and]; exact Nat.lt_of_le_of_lt Nat.and_le_right (by decide)
  cases hh : has s a <;> rw [hh] at h
  · have : (un (s >>> a &&& 1#64) : Int) = 0 := by simpa using h
    rw [this]; rfl
  · have : ¬ (un (s >>> a &&& 1#64) : Int) = 0 := by simpa using h
    have h2 : (un (s >>> a &&& 1#64) : Int) = 1 := by omega
    rw [h2]; rfl
set_option maxHeartbeats 8000000 in
set_option maxRecDepth 100000 in
theorem sset_ok (v u : Value) (g : GD) (x : SD) (hR : Right g x) (o : List Nat) (hK : KOrd (rws g) o 0#64) (pr q2 : Option Addr) (cr d2 : Nat) (w : World) (h : GrAt w v g) (hx : SnAt w u x) (hRA : RowsAt w pr g.names.length (rws g)) (hO : Reads w w.heap.size 1 q2 o.length (ints o)) (hT : Tab w) :
    Calls Tryd.prog 46 #[v, u, .slice pr g.names.length cr, .slice q2 o.length d2] w fun e w' => (∃ s : B, e = .returned (.int .u64 (un s)) ∧ Stale g x s) ∧ Below w.heap.size w w' := by
  obtain ⟨p, n, c, q, m, d, rfl, hN, hE⟩ := h.at_
  obtain ⟨p2, n2, c2, rfl, hx1, hx2, hx3⟩ := hx.at_
  have hln := hN.at_.len
  have hlm := hE.len
  subst hln hlm hx1
  have hbn := hN.at_.big
  have hbm := hE.big
  have h64 := hR.good.names
  have hol : o.length ≤ 64 := kord_len (valid_rws hR.good) hK
  obtain ⟨W, hW⟩ : ∃ W, W = (w.alloc (.cells #[.slice p g.names.length c, .slice q g.edges.length d, .int .u64 (un g.phony : Int), .int .u64 (un g.made : Int)] 26)).alloc (.cells #[.slice p2 x.at_.length c2, .int .u64 (un x.dirty : Int)] 29) := ⟨_, rfl⟩
  have hBW : Below w.heap.size w W := by rw [hW]; exact ((Below.refl _ _).alloc (Nat.le_refl _) _).alloc (by simp) _
  have HS : Hid (w.heap.size + 1 < W.heap.size) := by show _ < _; rw [hW]; simp
  have HS0 : Hid (w.heap.size < W.heap.size) := by show _ < _; rw [hW]; simp; omega
  have HC : Hid (∀ u : World, Below W.heap.size W u → u.cell? ⟨w.heap.size, 0, none⟩ = some (.slice p g.names.length c) ∧ u.cell? ⟨w.heap.size, 1, none⟩ = some (.slice q g.edges.length d) ∧ u.cell? ⟨w.heap.size, 2, none⟩ = some (.int .u64 (un g.phony : Int)) ∧ u.cell? ⟨w.heap.size, 3, none⟩ = some (.int .u64 (un g.made : Int)) ∧
      u.cell? ⟨w.heap.size + 1, 0, none⟩ = some (.slice p2 x.at_.length c2) ∧ u.cell? ⟨w.heap.size + 1, 1, none⟩ = some (.int .u64 (un x.dirty : Int))) := by
    show ∀ u : World, _ → _
    intro u hu
    rw [hu.cell HS0.out, hu.cell HS0.out, hu.cell HS0.out, hu.cell HS0.out, hu.cell HS.out, hu.cell HS.out, hW]
    refine ⟨?_, ?_, ?_, ?_, ?_, ?_⟩
    all_goals first
      | (rw [World.cell?_alloc_lt _ _ _ (by simp), World.cell?_alloc_at _ _ _ _ rfl]; rfl)
      | (rw [World.cell?_alloc_at _ _ _ _ (by simp)]; rfl)
  have HXR : Hid (Reads W W.heap.size 1 p2 x.at_.length (iv x.at_)) := by show Reads _ _ _ _ _ _; exact (hx2.below hBW).more hBW.size
  have HOR : Hid (Reads W W.heap.size 1 q2 o.length (ints o)) := by show Reads _ _ _ _ _ _; exact (hO.below hBW).more hBW.size
  have HRA := Lib.hid (hRA.below hBW)
  have HT := Lib.hid (hT.below hBW)
  have HFIN : Hid (∀ u, Below W.heap.size W u → Below w.heap.size w u) := by show ∀ u, _; exact fun u hu => hBW.trans (hu.mono (Nat.le_of_lt HS0.out))
  have HR := Lib.hid hR
  have HK := Lib.hid hK
  have HXL := Lib.hid hR.len
  obtain ⟨ol, hol2⟩ : ∃ ol, ol = o.length := ⟨_, rfl⟩
  have HOL := Lib.hid hol2
  rw [← hol2] at HOR hol ⊢
  clear hN hE hBW h hx hx2 hT hRA hO hR hK hol2
  go_enter Tryd.func46, Tryd.ntmps46
  go_wp2
  rw [← hW]
  clear hW
  go_loopw [17, 9] (fun i so wr => ∃ (k : Nat) (s : B), k ≤ ol ∧ i = .int .i64 k ∧ so = .int .u64 (un s : Int) ∧ Hid (SInv g x o k s) ∧ Hid (Below W.heap.size W wr)) (fun i _ _ => ol - (intOf i).toNat)
  case atStart => exact ⟨0, 0#64, Nat.zero_le _, rfl, rfl, sinv_nil g x o, show Below _ _ _ from Below.refl _ _⟩
  case round =>
    obtain ⟨k, s, hk, rfl, rfl, HI, HW⟩ := hrel
    by_cases hlt : k < ol
    · obtain ⟨k0, k1, k2, k3, k4, k5⟩ := HC.out wr HW.out
      have hko : k < o.length := by rw [← HOL.out]; exact hlt
      have HORr : Hid (Reads wr wr.heap.size 1 q2 ol (ints o)) := by show Reads _ _ _ _ _ _; exact (HOR.out.below HW.out).more HW.out.size
      obtain ⟨ad, rfl, _, hon⟩ := HORr.out.int_at hlt
      have hnn : o.getD k 0 = o[k] := by rw [List.getD_eq_getElem?_getD, List.getElem?_eq_getElem hko]; rfl
      have hnN : o[k] < g.names.length := by have := HK.out.lt o[k] (List.getElem_mem hko); rwa [rws_len] at this
      have HNext : Hid (∀ (C : Bool), (C = true ↔ has (g.made ||| g.phony) o[k] = true ∧ Why g x s o[k]) → SInv g x o (k + 1) (if C = true then s ||| 1#64 <<< o[k] else s)) := by
        show ∀ C : Bool, _
        exact fun C hC => sinv_step HK.out hko HI.out rfl hC (by omega)
      rw [hnn] at hon
      generalize o[k] = n at *
      clear hnn hko
      have hmz := bit_zero (g.made ||| g.phony) n
      cases hm : has (g.made ||| g.phony) n
      · rw [hm] at hmz
        have HN1 := Lib.hid (HNext.out false ⟨fun h => (by cases h), fun h => (by rw [hm] at h; cases h.1)⟩)
        clear hm
        go_wp2
        go_roundw
        case rel => exact ⟨k + 1, s, by omega, by go_num, rfl, by have := HN1.out; rw [if_neg (by decide)] at this; exact this, HW⟩
        case measure => simp [intOf]; omega
      · rw [hm] at hmz
        have HM := Lib.hid hm
        clear hm
        have hat : ∃ ada, p2 = some ada ∧ wr.cell? (ada.add n) = some (.int .i64 (x.at_.getD n 0)) := by
          obtain ⟨ada, e, _, h2⟩ := iv_at ((HXR.out.below HW.out).more HW.out.size) (show n < x.at_.length by have := HXL.out; omega)
          exact ⟨ada, e, h2⟩
        obtain ⟨ada, rfl, hat⟩ := hat
        obtain ⟨adr, rfl, _, hrow⟩ := (HRA.out.below HW.out).cell hnN
        have hi1 : (n : Int) < (x.at_.length : Int) := by have := HXL.out; omega
        have hi2 : (n : Int) < (g.names.length : Int) := by omega
        have hbp := bit_eqS g.phony n
        obtain ⟨t, ht⟩ : ∃ t, x.at_.getD n 0 = t := ⟨_, rfl⟩
        obtain ⟨R, hRw⟩ : ∃ R, row (rws g) n = R := ⟨_, rfl⟩
        rw [ht] at hat
        rw [hRw] at hrow
        have HTN := Lib.hid ht
        have hc64 := cnt_le R
        have HRN := Lib.hid hRw
        have HTw := Lib.hid (HT.out.belowB (Tab.lt HT.out) HW.out)
        have HAn : Hid (anew1 g x s n = (decide (t < 0) || (has g.phony n || decide (R &&& (x.dirty ||| s) ≠ 0#64)))) := by
          show _ = _
          unfold anew1; rw [ht, hRw]
        clear ht hRw
        by_cases t1 : t < 0
        · have HA1 : Hid (anew1 g x s n = true) := by show _ = _; rw [HAn.out, decide_eq_true t1]; rfl
          clear HAn hbp
          go_wp2
          go_quiet (fail)
          go_wp2_with (go_at_call 37; refine (List_ok R _ (show Tab _ from HT.out.belowB (Tab.lt HT.out) (below_drawsP HW.out _))).mono ?_; rintro e w3 ⟨gl, cl, rfl, hownl, hb2⟩; have HLr := Lib.hid (Reads.of_own hownl); have HB3 := Lib.hid ((below_drawsP HW.out _).trans (hb2.mono HW.out.size)); clear hownl hb2)
          clear k0 k1 k2 k3 k4 k5 hat hrow hon
          go_loopw [62, 12] (fun j an wi => ∃ jj : Nat, jj ≤ cnt R ∧ j = .int .i64 jj ∧ an = .bool (anew2 g x s n jj) ∧ Hid (∃ q, wi = w3.drewN q)) (fun j _ _ => cnt R - (intOf j).toNat)
          case atStart => exact ⟨0, Nat.zero_le _, rfl, by rw [anew2_zero, HA1.out], show ∃ q, w3 = w3.drewN q from ⟨0, rfl⟩⟩
          case round =>
            obtain ⟨jj, hjj, rfl, rfl, HWi⟩ := hrel
            have HBi : Hid (Below W.heap.size W wr) := by
              show Below _ _ _
              obtain ⟨q, hq⟩ := HWi.out
              rw [hq]; exact below_drawsP HB3.out q
            obtain ⟨k0, k1, k2, k3, k4, k5⟩ := HC.out wr HBi.out
            by_cases hjl : jj < cnt R
            · have HLi : Hid (Reads wr wr.heap.size 1 gl (cnt R) (ints (lst R))) := by
                show Reads _ _ _ _ _ _
                obtain ⟨q, hq⟩ := HWi.out
                rw [hq]; exact HLr.out
              obtain ⟨adl, rfl, _, hlc⟩ := HLi.out.int_at hjl
              have hjl2 : jj < (lst (row (rws g) n)).length := by rw [HRN.out, ← cnt_lst]; exact hjl
              have HA2 := Lib.hid (anew2_next (g := g) (x := x) (s := s) hjl2)
              rw [HRN.out, HTN.out] at HA2
              have hkN : (lst R).getD jj 0 < g.names.length := by
                have hjl3 : jj < (lst R).length := by rw [← HRN.out]; exact hjl2
                have hm : (lst R).getD jj 0 ∈ lst R := by rw [List.getD_eq_getElem?_getD, List.getElem?_eq_getElem hjl3]; exact List.getElem_mem hjl3
                have := (valid_rws HR.out.good).2 n _ (by rw [HRN.out]; exact mem_lst.1 hm)
                rwa [rws_len] at this
              have hat2 : wr.cell? (ada.add n) = some (.int .i64 t) ∧ wr.cell? (ada.add ((lst R).getD jj 0)) = some (.int .i64 (x.at_.getD ((lst R).getD jj 0) 0)) := by
                have hxr : Reads wr wr.heap.size 1 (some ada) x.at_.length (iv x.at_) := (HXR.out.below HBi.out).more HBi.out.size
                obtain ⟨a1, e1, _, h1⟩ := iv_at hxr (show n < x.at_.length by have := HXL.out; omega)
                obtain ⟨a2, e2, _, h2⟩ := iv_at hxr (show (lst R).getD jj 0 < x.at_.length by have := HXL.out; omega)
                injection e1 with e1
                injection e2 with e2
                subst e1 e2
                rw [HTN.out] at h1
                exact ⟨h1, h2⟩
              obtain ⟨hat3, hat4⟩ := hat2
              have hi3 : (((lst R).getD jj 0 : Nat) : Int) < (x.at_.length : Int) := by have := HXL.out; omega
              clear hjl2 hkN
              generalize (lst R).getD jj 0 = kk at *
              generalize x.at_.getD kk 0 = tk at *
              have HWn : Hid (∀ k : Nat, ∃ q, wr.drewN k = w3.drewN q) := by
                show ∀ k : Nat, _
                intro k
                obtain ⟨q, hq⟩ := HWi.out
                exact ⟨q + k, by rw [hq, drewN_add]⟩
              cases ha2 : anew2 g x s n jj
              · rw [ha2, Bool.false_or] at HA2
                clear ha2
                by_cases htk : t < tk
                · have HA3 : Hid (anew2 g x s n (jj + 1) = true) := by show _ = _; rw [HA2.out]; exact decide_eq_true htk
                  clear HA2
                  go_wp2
                  go_quiet (fail)
                  go_wp2
                  go_roundw
                  case rel => exact ⟨jj + 1, by omega, by go_num, by rw [HA3.out], HWn.out _⟩
                  case measure => simp [intOf]; omega
                · have HA3 : Hid (anew2 g x s n (jj + 1) = false) := by show _ = _; rw [HA2.out]; exact decide_eq_false htk
                  have hdd : decide (t < tk) = false := decide_eq_false htk
                  clear HA2 htk
                  go_wp2
                  go_quiet (fail)
                  go_wp2
                  go_roundw
                  case rel => exact ⟨jj + 1, by omega, by go_num, by rw [HA3.out], HWn.out _⟩
                  case measure => simp [intOf]; omega
              · rw [ha2, Bool.true_or] at HA2
                clear ha2
                go_wp2
                go_quiet (fail)
                go_wp2
                go_roundw
                case rel => exact ⟨jj + 1, by omega, by go_num, by rw [HA2.out], HWn.out _⟩
                case measure => simp [intOf]; omega
            · obtain rfl : jj = cnt R := by omega
              have HWhy : Hid (anew2 g x s n (cnt R) = true ↔ has (g.made ||| g.phony) n = true ∧ Why g x s n) := by
                show _ ↔ _
                have := anew2_why (g := g) (x := x) (s := s) (n := n)
                rw [HRN.out, ← cnt_lst] at this
                rw [this]
                exact ⟨fun h => ⟨HM.out, h⟩, fun h => h.2⟩
              have HN1 := Lib.hid (HNext.out _ HWhy.out)
              clear HWhy
              cases ha2 : anew2 g x s n (cnt R)
              · rw [ha2, if_neg (by decide)] at HN1
                clear ha2
                go_wp2
                go_roundw
                case rel => exact ⟨k + 1, s, by omega, by go_num, rfl, HN1.out, HBi⟩
                case measure => simp [intOf]; omega
              · rw [ha2, if_pos rfl] at HN1
                clear ha2
                go_wp2
                go_roundw
                case rel => exact ⟨k + 1, _, by omega, by go_num, rfl, HN1.out, HBi⟩
                case measure => simp [intOf]; omega
        have hd1 : decide (t < 0) = false := decide_eq_false t1
        cases hph : has g.phony n
        · rw [hph] at hbp
          by_cases hcz : R &&& (x.dirty ||| s) = 0#64
          · have HA1 : Hid (anew1 g x s n = false) := by show _ = _; rw [HAn.out, hd1, hph, decide_eq_false (fun h => h hcz)]; rfl
            have hcc : (((un (R &&& (x.dirty ||| s)) : Nat) : Int) != 0) = false := by rw [hcz]; rfl
            clear HAn hph hcz t1
            go_wp2
            go_quiet (fail)
            go_wp2_with (go_at_call 37; refine (List_ok R _ (show Tab _ from HT.out.belowB (Tab.lt HT.out) (below_drawsP HW.out _))).mono ?_; rintro e w3 ⟨gl, cl, rfl, hownl, hb2⟩; have HLr := Lib.hid (Reads.of_own hownl); have HB3 := Lib.hid ((below_drawsP HW.out _).trans (hb2.mono HW.out.size)); clear hownl hb2)
            clear k0 k1 k2 k3 k4 k5 hat hrow hon
            go_loopw [62, 12] (fun j an wi => ∃ jj : Nat, jj ≤ cnt R ∧ j = .int .i64 jj ∧ an = .bool (anew2 g x s n jj) ∧ Hid (∃ q, wi = w3.drewN q)) (fun j _ _ => cnt R - (intOf j).toNat)
            case atStart => exact ⟨0, Nat.zero_le _, rfl, by rw [anew2_zero, HA1.out], show ∃ q, w3 = w3.drewN q from ⟨0, rfl⟩⟩
            case round =>
              obtain ⟨jj, hjj, rfl, rfl, HWi⟩ := hrel
              have HBi : Hid (Below W.heap.size W wr) := by
                show Below _ _ _
                obtain ⟨q, hq⟩ := HWi.out
                rw [hq]; exact below_drawsP HB3.out q
              obtain ⟨k0, k1, k2, k3, k4, k5⟩ := HC.out wr HBi.out
              by_cases hjl : jj < cnt R
              · have HLi : Hid (Reads wr wr.heap.size 1 gl (cnt R) (ints (lst R))) := by
                  show Reads _ _ _ _ _ _
                  obtain ⟨q, hq⟩ := HWi.out
                  rw [hq]; exact HLr.out
                obtain ⟨adl, rfl, _, hlc⟩ := HLi.out.int_at hjl
                have hjl2 : jj < (lst (row (rws g) n)).length := by rw [HRN.out, ← cnt_lst]; exact hjl
                have HA2 := Lib.hid (anew2_next (g := g) (x := x) (s := s) hjl2)
                rw [HRN.out, HTN.out] at HA2
                have hkN : (lst R).getD jj 0 < g.names.length := by
                  have hjl3 : jj < (lst R).length := by rw [← HRN.out]; exact hjl2
                  have hm : (lst R).getD jj 0 ∈ lst R := by rw [List.getD_eq_getElem?_getD, List.getElem?_eq_getElem hjl3]; exact List.getElem_mem hjl3
                  have := (valid_rws HR.out.good).2 n _ (by rw [HRN.out]; exact mem_lst.1 hm)
                  rwa [rws_len] at this
                have hat2 : wr.cell? (ada.add n) = some (.int .i64 t) ∧ wr.cell? (ada.add ((lst R).getD jj 0)) = some (.int .i64 (x.at_.getD ((lst R).getD jj 0) 0)) := by
                  have hxr : Reads wr wr.heap.size 1 (some ada) x.at_.length (iv x.at_) := (HXR.out.below HBi.out).more HBi.out.size
                  obtain ⟨a1, e1, _, h1⟩ := iv_at hxr (show n < x.at_.length by have := HXL.out; omega)
                  obtain ⟨a2, e2, _, h2⟩ := iv_at hxr (show (lst R).getD jj 0 < x.at_.length by have := HXL.out; omega)
                  injection e1 with e1
                  injection e2 with e2
                  subst e1 e2
                  rw [HTN.out] at h1
                  exact ⟨h1, h2⟩
                obtain ⟨hat3, hat4⟩ := hat2
                have hi3 : (((lst R).getD jj 0 : Nat) : Int) < (x.at_.length : Int) := by have := HXL.out; omega
                clear hjl2 hkN
                generalize (lst R).getD jj 0 = kk at *
                generalize x.at_.getD kk 0 = tk at *
                have HWn : Hid (∀ k : Nat, ∃ q, wr.drewN k = w3.drewN q) := by
                  show ∀ k : Nat, _
                  intro k
                  obtain ⟨q, hq⟩ := HWi.out
                  exact ⟨q + k, by rw [hq, drewN_add]⟩
                cases ha2 : anew2 g x s n jj
                · rw [ha2, Bool.false_or] at HA2
                  clear ha2
                  by_cases htk : t < tk
                  · have HA3 : Hid (anew2 g x s n (jj + 1) = true) := by show _ = _; rw [HA2.out]; exact decide_eq_true htk
                    clear HA2
                    go_wp2
                    go_quiet (fail)
                    go_wp2
                    go_roundw
                    case rel => exact ⟨jj + 1, by omega, by go_num, by rw [HA3.out], HWn.out _⟩
                    case measure => simp [intOf]; omega
                  · have HA3 : Hid (anew2 g x s n (jj + 1) = false) := by show _ = _; rw [HA2.out]; exact decide_eq_false htk
                    have hdd : decide (t < tk) = false := decide_eq_false htk
                    clear HA2 htk
                    go_wp2
                    go_quiet (fail)
                    go_wp2
                    go_roundw
                    case rel => exact ⟨jj + 1, by omega, by go_num, by rw [HA3.out], HWn.out _⟩
                    case measure => simp [intOf]; omega
                · rw [ha2, Bool.true_or] at HA2
                  clear ha2
                  go_wp2
                  go_quiet (fail)
                  go_wp2
                  go_roundw
                  case rel => exact ⟨jj + 1, by omega, by go_num, by rw [HA2.out], HWn.out _⟩
                  case measure => simp [intOf]; omega
              · obtain rfl : jj = cnt R := by omega
                have HWhy : Hid (anew2 g x s n (cnt R) = true ↔ has (g.made ||| g.phony) n = true ∧ Why g x s n) := by
                  show _ ↔ _
                  have := anew2_why (g := g) (x := x) (s := s) (n := n)
                  rw [HRN.out, ← cnt_lst] at this
                  rw [this]
                  exact ⟨fun h => ⟨HM.out, h⟩, fun h => h.2⟩
                have HN1 := Lib.hid (HNext.out _ HWhy.out)
                clear HWhy
                cases ha2 : anew2 g x s n (cnt R)
                · rw [ha2, if_neg (by decide)] at HN1
                  clear ha2
                  go_wp2
                  go_roundw
                  case rel => exact ⟨k + 1, s, by omega, by go_num, rfl, HN1.out, HBi⟩
                  case measure => simp [intOf]; omega
                · rw [ha2, if_pos rfl] at HN1
                  clear ha2
                  go_wp2
                  go_roundw
                  case rel => exact ⟨k + 1, _, by omega, by go_num, rfl, HN1.out, HBi⟩
                  case measure => simp [intOf]; omega
          · have HA1 : Hid (anew1 g x s n = true) := by show _ = _; rw [HAn.out, hd1, hph, decide_eq_true hcz]; rfl
            have hcc : (((un (R &&& (x.dirty ||| s)) : Nat) : Int) != 0) = true := by
              rw [bne_iff_ne]
              intro e
              exact hcz (un_inj (by rw [show un 0#64 = 0 from rfl]; omega))
            clear HAn hph hcz t1
            go_wp2
            go_quiet (fail)
            go_wp2_with (go_at_call 37; refine (List_ok R _ (show Tab _ from HT.out.belowB (Tab.lt HT.out) (below_drawsP HW.out _))).mono ?_; rintro e w3 ⟨gl, cl, rfl, hownl, hb2⟩; have HLr := Lib.hid (Reads.of_own hownl); have HB3 := Lib.hid ((below_drawsP HW.out _).trans (hb2.mono HW.out.size)); clear hownl hb2)
            clear k0 k1 k2 k3 k4 k5 hat hrow hon
            go_loopw [62, 12] (fun j an wi => ∃ jj : Nat, jj ≤ cnt R ∧ j = .int .i64 jj ∧ an = .bool (anew2 g x s n jj) ∧ Hid (∃ q, wi = w3.drewN q)) (fun j _ _ => cnt R - (intOf j).toNat)
            case atStart => exact ⟨0, Nat.zero_le _, rfl, by rw [anew2_zero, HA1.out], show ∃ q, w3 = w3.drewN q from ⟨0, rfl⟩⟩
            case round =>
              obtain ⟨jj, hjj, rfl, rfl, HWi⟩ := hrel
              have HBi : Hid (Below W.heap.size W wr) := by
                show Below _ _ _
                obtain ⟨q, hq⟩ := HWi.out
                rw [hq]; exact below_drawsP HB3.out q
              obtain ⟨k0, k1, k2, k3, k4, k5⟩ := HC.out wr HBi.out
              by_cases hjl : jj < cnt R
              · have HLi : Hid (Reads wr wr.heap.size 1 gl (cnt R) (ints (lst R))) := by
                  show Reads _ _ _ _ _ _
                  obtain ⟨q, hq⟩ := HWi.out
                  rw [hq]; exact HLr.out
                obtain ⟨adl, rfl, _, hlc⟩ := HLi.out.int_at hjl
                have hjl2 : jj < (lst (row (rws g) n)).length := by rw [HRN.out, ← cnt_lst]; exact hjl
                have HA2 := Lib.hid (anew2_next (g := g) (x := x) (s := s) hjl2)
                rw [HRN.out, HTN.out] at HA2
                have hkN : (lst R).getD jj 0 < g.names.length := by
                  have hjl3 : jj < (lst R).length := by rw [← HRN.out]; exact hjl2
                  have hm : (lst R).getD jj 0 ∈ lst R := by rw [List.getD_eq_getElem?_getD, List.getElem?_eq_getElem hjl3]; exact List.getElem_mem hjl3
                  have := (valid_rws HR.out.good).2 n _ (by rw [HRN.out]; exact mem_lst.1 hm)
                  rwa [rws_len] at this
                have hat2 : wr.cell? (ada.add n) = some (.int .i64 t) ∧ wr.cell? (ada.add ((lst R).getD jj 0)) = some (.int .i64 (x.at_.getD ((lst R).getD jj 0) 0)) := by
                  have hxr : Reads wr wr.heap.size 1 (some ada) x.at_.length (iv x.at_) := (HXR.out.below HBi.out).more HBi.out.size
                  obtain ⟨a1, e1, _, h1⟩ := iv_at hxr (show n < x.at_.length by have := HXL.out; omega)
                  obtain ⟨a2, e2, _, h2⟩ := iv_at hxr (show (lst R).getD jj 0 < x.at_.length by have := HXL.out; omega)
                  injection e1 with e1
                  injection e2 with e2
                  subst e1 e2
                  rw [HTN.out] at h1
                  exact ⟨h1, h2⟩
                obtain ⟨hat3, hat4⟩ := hat2
                have hi3 : (((lst R).getD jj 0 : Nat) : Int) < (x.at_.length : Int) := by have := HXL.out; omega
                clear hjl2 hkN
                generalize (lst R).getD jj 0 = kk at *
                generalize x.at_.getD kk 0 = tk at *
                have HWn : Hid (∀ k : Nat, ∃ q, wr.drewN k = w3.drewN q) := by
                  show ∀ k : Nat, _
                  intro k
                  obtain ⟨q, hq⟩ := HWi.out
                  exact ⟨q + k, by rw [hq, drewN_add]⟩
                cases ha2 : anew2 g x s n jj
                · rw [ha2, Bool.false_or] at HA2
                  clear ha2
                  by_cases htk : t < tk
                  · have HA3 : Hid (anew2 g x s n (jj + 1) = true) := by show _ = _; rw [HA2.out]; exact decide_eq_true htk
                    clear HA2
                    go_wp2
                    go_quiet (fail)
                    go_wp2
                    go_roundw
                    case rel => exact ⟨jj + 1, by omega, by go_num, by rw [HA3.out], HWn.out _⟩
                    case measure => simp [intOf]; omega
                  · have HA3 : Hid (anew2 g x s n (jj + 1) = false) := by show _ = _; rw [HA2.out]; exact decide_eq_false htk
                    have hdd : decide (t < tk) = false := decide_eq_false htk
                    clear HA2 htk
                    go_wp2
                    go_quiet (fail)
                    go_wp2
                    go_roundw
                    case rel => exact ⟨jj + 1, by omega, by go_num, by rw [HA3.out], HWn.out _⟩
                    case measure => simp [intOf]; omega
                · rw [ha2, Bool.true_or] at HA2
                  clear ha2
                  go_wp2
                  go_quiet (fail)
                  go_wp2
                  go_roundw
                  case rel => exact ⟨jj + 1, by omega, by go_num, by rw [HA2.out], HWn.out _⟩
                  case measure => simp [intOf]; omega
              · obtain rfl : jj = cnt R := by omega
                have HWhy : Hid (anew2 g x s n (cnt R) = true ↔ has (g.made ||| g.phony) n = true ∧ Why g x s n) := by
                  show _ ↔ _
                  have := anew2_why (g := g) (x := x) (s := s) (n := n)
                  rw [HRN.out, ← cnt_lst] at this
                  rw [this]
                  exact ⟨fun h => ⟨HM.out, h⟩, fun h => h.2⟩
                have HN1 := Lib.hid (HNext.out _ HWhy.out)
                clear HWhy
                cases ha2 : anew2 g x s n (cnt R)
                · rw [ha2, if_neg (by decide)] at HN1
                  clear ha2
                  go_wp2
                  go_roundw
                  case rel => exact ⟨k + 1, s, by omega, by go_num, rfl, HN1.out, HBi⟩
                  case measure => simp [intOf]; omega
                · rw [ha2, if_pos rfl] at HN1
                  clear ha2
                  go_wp2
                  go_roundw
                  case rel => exact ⟨k + 1, _, by omega, by go_num, rfl, HN1.out, HBi⟩
                  case measure => simp [intOf]; omega
        · rw [hph] at hbp
          have HA1 : Hid (anew1 g x s n = true) := by show _ = _; rw [HAn.out, hd1, hph]; rfl
          clear HAn hph t1
          go_wp2
          go_quiet (fail)
          go_wp2_with (go_at_call 37; refine (List_ok R _ (show Tab _ from HT.out.belowB (Tab.lt HT.out) (below_drawsP HW.out _))).mono ?_; rintro e w3 ⟨gl, cl, rfl, hownl, hb2⟩; have HLr := Lib.hid (Reads.of_own hownl); have HB3 := Lib.hid ((below_drawsP HW.out _).trans (hb2.mono HW.out.size)); clear hownl hb2)
          clear k0 k1 k2 k3 k4 k5 hat hrow hon
          go_loopw [62, 12] (fun j an wi => ∃ jj : Nat, jj ≤ cnt R ∧ j = .int .i64 jj ∧ an = .bool (anew2 g x s n jj) ∧ Hid (∃ q, wi = w3.drewN q)) (fun j _ _ => cnt R - (intOf j).toNat)
          case atStart => exact ⟨0, Nat.zero_le _, rfl, by rw [anew2_zero, HA1.out], show ∃ q, w3 = w3.drewN q from ⟨0, rfl⟩⟩
          case round =>
            obtain ⟨jj, hjj, rfl, rfl, HWi⟩ := hrel
            have HBi : Hid (Below W.heap.size W wr) := by
              show Below _ _ _
              obtain ⟨q, hq⟩ := HWi.out
              rw [hq]; exact below_drawsP HB3.out q
            obtain ⟨k0, k1, k2, k3, k4, k5⟩ := HC.out wr HBi.out
            by_cases hjl : jj < cnt R
            · have HLi : Hid (Reads wr wr.heap.size 1 gl (cnt R) (ints (lst R))) := by
                show Reads _ _ _ _ _ _
                obtain ⟨q, hq⟩ := HWi.out
                rw [hq]; exact HLr.out
              obtain ⟨adl, rfl, _, hlc⟩ := HLi.out.int_at hjl
              have hjl2 : jj < (lst (row (rws g) n)).length := by rw [HRN.out, ← cnt_lst]; exact hjl
              have HA2 := Lib.hid (anew2_next (g := g) (x := x) (s := s) hjl2)
              rw [HRN.out, HTN.out] at HA2
              have hkN : (lst R).getD jj 0 < g.names.length := by
                have hjl3 : jj < (lst R).length := by rw [← HRN.out]; exact hjl2
                have hm : (lst R).getD jj 0 ∈ lst R := by rw [List.getD_eq_getElem?_getD, List.getElem?_eq_getElem hjl3]; exact List.getElem_mem hjl3
                have := (valid_rws HR.out.good).2 n _ (by rw [HRN.out]; exact mem_lst.1 hm)
                rwa [rws_len] at this
              have hat2 : wr.cell? (ada.add n) = some (.int .i64 t) ∧ wr.cell? (ada.add ((lst R).getD jj 0)) = some (.int .i64 (x.at_.getD ((lst R).getD jj 0) 0)) := by
                have hxr : Reads wr wr.heap.size 1 (some ada) x.at_.length (iv x.at_) := (HXR.out.below HBi.out).more HBi.out.size
                obtain ⟨a1, e1, _, h1⟩ := iv_at hxr (show n < x.at_.length by have := HXL.out; omega)
                obtain ⟨a2, e2, _, h2⟩ := iv_at hxr (show (lst R).getD jj 0 < x.at_.length by have := HXL.out; omega)
                injection e1 with e1
                injection e2 with e2
                subst e1 e2
                rw [HTN.out] at h1
                exact ⟨h1, h2⟩
              obtain ⟨hat3, hat4⟩ := hat2
              have hi3 : (((lst R).getD jj 0 : Nat) : Int) < (x.at_.length : Int) := by have := HXL.out; omega
              clear hjl2 hkN
              generalize (lst R).getD jj 0 = kk at *
              generalize x.at_.getD kk 0 = tk at *
              have HWn : Hid (∀ k : Nat, ∃ q, wr.drewN k = w3.drewN q) := by
                show ∀ k : Nat, _
                intro k
                obtain ⟨q, hq⟩ := HWi.out
                exact ⟨q + k, by rw [hq, drewN_add]⟩
              cases ha2 : anew2 g x s n jj
              · rw [ha2, Bool.false_or] at HA2
                clear ha2
                by_cases htk : t < tk
                · have HA3 : Hid (anew2 g x s n (jj + 1) = true) := by show _ = _; rw [HA2.out]; exact decide_eq_true htk
                  clear HA2
                  go_wp2
                  go_quiet (fail)
                  go_wp2
                  go_roundw
                  case rel => exact ⟨jj + 1, by omega, by go_num, by rw [HA3.out], HWn.out _⟩
                  case measure => simp [intOf]; omega
                · have HA3 : Hid (anew2 g x s n (jj + 1) = false) := by show _ = _; rw [HA2.out]; exact decide_eq_false htk
                  have hdd : decide (t < tk) = false := decide_eq_false htk
                  clear HA2 htk
                  go_wp2
                  go_quiet (fail)
                  go_wp2
                  go_roundw
                  case rel => exact ⟨jj + 1, by omega, by go_num, by rw [HA3.out], HWn.out _⟩
                  case measure => simp [intOf]; omega
              · rw [ha2, Bool.true_or] at HA2
                clear ha2
                go_wp2
                go_quiet (fail)
                go_wp2
                go_roundw
                case rel => exact ⟨jj + 1, by omega, by go_num, by rw [HA2.out], HWn.out _⟩
                case measure => simp [intOf]; omega
            · obtain rfl : jj = cnt R := by omega
              have HWhy : Hid (anew2 g x s n (cnt R) = true ↔ has (g.made ||| g.phony) n = true ∧ Why g x s n) := by
                show _ ↔ _
                have := anew2_why (g := g) (x := x) (s := s) (n := n)
                rw [HRN.out, ← cnt_lst] at this
                rw [this]
                exact ⟨fun h => ⟨HM.out, h⟩, fun h => h.2⟩
              have HN1 := Lib.hid (HNext.out _ HWhy.out)
              clear HWhy
              cases ha2 : anew2 g x s n (cnt R)
              · rw [ha2, if_neg (by decide)] at HN1
                clear ha2
                go_wp2
                go_roundw
                case rel => exact ⟨k + 1, s, by omega, by go_num, rfl, HN1.out, HBi⟩
                case measure => simp [intOf]; omega
              · rw [ha2, if_pos rfl] at HN1
                clear ha2
                go_wp2
                go_roundw
                case rel => exact ⟨k + 1, _, by omega, by go_num, rfl, HN1.out, HBi⟩
                case measure => simp [intOf]; omega
    · obtain rfl : k = ol := by omega
      have HSt : Hid (Stale g x s) := by show Stale g x s; exact sinv_all HK.out (by rw [← HOL.out]; exact HI.out)
      go_wp2
      go_ret
      exact ⟨⟨s, rfl, HSt.out⟩, HFIN.out _ HW.out⟩
end Go.Proofs.YteldeiihjeddoaaDoor
namespace Go.Proofs.YteldeiihjeddoaaDoor
open Go.RowKit Go.Shelf
/-- the world in which a call has laid its graph and what is seen of it -/
theorem args2 (w : World) (v0 v1 v2 v3 v4 v5 : Value) : ∃ W, W = (w.alloc (.cells #[v0, v1, v2, v3] 26)).alloc (.cells #[v4, v5] 29) ∧ Below w.heap.size w W ∧ W.heap.size = w.heap.size + 2 ∧
    ∀ u : World, Below W.heap.size W u → u.cell? ⟨w.heap.size, 0, none⟩ = some v0 ∧ u.cell? ⟨w.heap.size, 1, none⟩ = some v1 ∧ u.cell? ⟨w.heap.size, 2, none⟩ = some v2 ∧ u.cell? ⟨w.heap.size, 3, none⟩ = some v3 ∧ u.cell? ⟨w.heap.size + 1, 0, none⟩ = some v4 ∧ u.cell? ⟨w.heap.size + 1, 1, none⟩ = some v5 := by
  obtain ⟨W, hW⟩ : ∃ W, W = (w.alloc (.cells #[v0, v1, v2, v3] 26)).alloc (.cells #[v4, v5] 29) := ⟨_, rfl⟩
  have hs : w.heap.size + 1 < W.heap.size := by rw [hW]; simp
  have hs0 : w.heap.size < W.heap.size := by omega
  refine ⟨W, hW, by rw [hW]; exact ((Below.refl _ _).alloc (Nat.le_refl _) _).alloc (by simp) _, by rw [hW]; simp, fun u hu => ?_⟩
  rw [hu.cell hs0, hu.cell hs0, hu.cell hs0, hu.cell hs0, hu.cell hs, hu.cell hs, hW]
  refine ⟨?_, ?_, ?_, ?_, ?_, ?_⟩
  all_goals first
    | (rw [World.cell?_alloc_lt _ _ _ (by simp), World.cell?_alloc_at _ _ _ _ rfl]; rfl)
    | (rw [World.cell?_alloc_at _ _ _ _ (by simp)]; rfl)
/-- what Set answers -/
def SSet (w : World) (g : GD) (x : SD) (e : Ending) (w' : World) : Prop :=
  ((Right g x ∧ ∃ (s : B) (o : List Nat), KOrd (rws g) o 0#64 ∧ Stale g x s ∧ e = .returned (.tuple #[.int .u64 (un s), .int .i64 0])) ∨
    (¬ Fit g x ∧ ∃ E : Int, E ≠ 0 ∧ e = .returned (.tuple #[.int .u64 0, .int .i64 E]))) ∧ Below w.heap.size w w'
set_option maxHeartbeats 2000000 in
theorem Set_ok (v u : Value) (g : GD) (x : SD) (w : World) (h : GrAt w v g) (hx : SnAt w u x) (hT : Tab w) : Calls Tryd.prog 15 #[v, u] w (SSet w g x) := by
  have hGr := h
  have hSn := hx
  obtain ⟨p, n, c, q, m, d, rfl, _, _⟩ := h.at_
  obtain ⟨p2, n2, c2, rfl, _, _, _⟩ := hx.at_
  obtain ⟨W, hW, hBW, hS, hC⟩ := args2 w (.slice p n c) (.slice q m d) (.int .u64 (un g.phony : Int)) (.int .u64 (un g.made : Int)) (.slice p2 n2 c2) (.int .u64 (un x.dirty : Int))
  have HC := Lib.hid hC
  have HGr := Lib.hid (hGr.below hBW)
  have HSn := Lib.hid (hSn.below hBW)
  have HT := Lib.hid (hT.below hBW)
  have HFIN : Hid (∀ u, Below W.heap.size W u → Below w.heap.size w u) := by show ∀ u, _; exact fun u hu => hBW.trans (hu.mono (by omega))
  obtain ⟨k0, k1, k2, k3, k4, k5⟩ := HC.out W (Below.refl _ _)
  rw [hW] at k0 k1 k2 k3 k4 k5
  clear h hx hGr hSn hT hBW hS hC
  go_enter Tryd.func15, Tryd.ntmps15
  go_wp2_with fail
  rw [← hW]
  clear hW k0 k1 k2 k3 k4 k5
  refine (scheck_ok _ _ g x W HGr.out HSn.out HT.out).mono ?_
  rintro e w2 ⟨hcase, hb2⟩
  have HB2 := Lib.hid hb2
  obtain ⟨k0, k1, k2, k3, k4, k5⟩ := HC.out w2 hb2
  clear hb2
  rcases hcase with ⟨hR, pr, qo, cr, co, o, hK, rfl, hRA, hO⟩ | ⟨hnf, E, hE0, rfl⟩
  · have HR := Lib.hid hR
    have HK := Lib.hid hK
    have HRA := Lib.hid hRA
    have HO := Lib.hid hO
    obtain ⟨ol, hol⟩ : ∃ ol, ol = o.length := ⟨_, rfl⟩
    have HOL := Lib.hid hol
    rw [← hol] at HO ⊢
    clear hR hK hRA hO hol
    go_wp2_with fail
    have hol := HOL.out
    subst hol
    refine (sset_ok _ _ g x HR.out o HK.out pr qo cr co w2 (HGr.out.below HB2.out) (HSn.out.below HB2.out) HRA.out HO.out (HT.out.belowB (Tab.lt HT.out) HB2.out)).mono ?_
    rintro e w3 ⟨⟨s, rfl, hS⟩, hb3⟩
    have HS := Lib.hid hS
    have HB3 := Lib.hid (HB2.out.trans (hb3.mono HB2.out.size))
    clear hS hb3
    go_wp2
    go_ret2
    exact ⟨.inl ⟨HR.out, s, o, HK.out, HS.out, rfl⟩, HFIN.out _ HB3.out⟩
  · obtain ⟨i1, i2⟩ := int_ne' hE0
    have HNF := Lib.hid hnf
    clear hnf
    go_wp2
    go_ret2
    exact ⟨.inr ⟨HNF.out, E, hE0, rfl⟩, HFIN.out _ HB2.out⟩
/-- what Only answers -/
def SOnly (w : World) (g : GD) (x : SD) (a : B) (e : Ending) (w' : World) : Prop :=
  ((Fit g x ∧ chks (rws g) [a] = 0 ∧ ∃ s : B, Stale g x s ∧ e = .returned (.tuple #[.int .u64 (un (cls (rws g) a &&& s)), .int .i64 0])) ∨
    (¬ (Fit g x ∧ chks (rws g) [a] = 0) ∧ ∃ E : Int, E ≠ 0 ∧ e = .returned (.tuple #[.int .u64 0, .int .i64 E]))) ∧ Below w.heap.size w w'
set_option maxHeartbeats 2000000 in
theorem Only_ok (v u : Value) (g : GD) (x : SD) (a : B) (w : World) (h : GrAt w v g) (hx : SnAt w u x) (hT : Tab w) : Calls Tryd.prog 17 #[v, u, .int .u64 (un a : Int)] w (SOnly w g x a) := by
  have hGr := h
  have hSn := hx
  obtain ⟨p, n, c, q, m, d, rfl, _, _⟩ := h.at_
  obtain ⟨p2, n2, c2, rfl, _, _, _⟩ := hx.at_
  obtain ⟨W, hW, hBW, hS, hC⟩ := args2 w (.slice p n c) (.slice q m d) (.int .u64 (un g.phony : Int)) (.int .u64 (un g.made : Int)) (.slice p2 n2 c2) (.int .u64 (un x.dirty : Int))
  have HC := Lib.hid hC
  have HGr := Lib.hid (hGr.below hBW)
  have HSn := Lib.hid (hSn.below hBW)
  have HT := Lib.hid (hT.below hBW)
  have HFIN : Hid (∀ u, Below W.heap.size W u → Below w.heap.size w u) := by show ∀ u, _; exact fun u hu => hBW.trans (hu.mono (by omega))
  obtain ⟨k0, k1, k2, k3, k4, k5⟩ := HC.out W (Below.refl _ _)
  rw [hW] at k0 k1 k2 k3 k4 k5
  clear h hx hGr hSn hT hBW hS hC
  go_enter Tryd.func17, Tryd.ntmps17
  go_wp2_with fail
  rw [← hW]
  clear hW k0 k1 k2 k3 k4 k5
  refine (scheck_ok _ _ g x W HGr.out HSn.out HT.out).mono ?_
  rintro e w2 ⟨hcase, hb2⟩
  have HB2 := Lib.hid hb2
  obtain ⟨k0, k1, k2, k3, k4, k5⟩ := HC.out w2 hb2
  clear hb2
  rcases hcase with ⟨hR, pr, qo, cr, co, o, hK, rfl, hRA, hO⟩ | ⟨hnf, E, hE0, rfl⟩
  · have HR := Lib.hid hR
    have HK := Lib.hid hK
    have HRA := Lib.hid hRA
    have HO := Lib.hid hO
    have HT2 := Lib.hid (HT.out.belowB (Tab.lt HT.out) HB2.out)
    obtain ⟨ol, hol⟩ : ∃ ol, ol = o.length := ⟨_, rfl⟩
    have HOL := Lib.hid hol
    rw [← hol] at HO ⊢
    clear hR hK hRA hO hol
    by_cases hch : chks (rws g) [a] = 0
    · have HCH := Lib.hid hch
      clear hch
      go_wp2_with (go_at_call 23; refine (From_yes pr g.names.length cr (rws g) a HCH.out w2 HRA.out HT2.out).mono ?_; rintro e w4 ⟨rfl, hb4⟩; have HB4 := Lib.hid (HB2.out.trans (hb4.mono HB2.out.size)); have HB24 := Lib.hid hb4; obtain ⟨l0, l1, l2, l3, l4, l5⟩ := HC.out w4 HB4.out; clear hb4 k0 k1 k2 k3 k4 k5)
      have hol := HOL.out
      subst hol
      refine (sset_ok _ _ g x HR.out o HK.out pr qo cr co w4 (HGr.out.below HB4.out) (HSn.out.below HB4.out) (HRA.out.below HB24.out) ((HO.out.below HB24.out).more HB24.out.size) (HT2.out.belowB (Tab.lt HT2.out) HB24.out)).mono ?_
      rintro e w3 ⟨⟨s, rfl, hS⟩, hb3⟩
      have HS := Lib.hid hS
      have HB3 := Lib.hid (HB4.out.trans (hb3.mono HB4.out.size))
      clear hS hb3
      go_wp2
      go_ret2
      exact ⟨.inl ⟨⟨HR.out, o, HK.out⟩, HCH.out, s, HS.out, rfl⟩, HFIN.out _ HB3.out⟩
    · obtain ⟨i1, i2⟩ := int_ne hch
      have HCH := Lib.hid hch
      clear hch
      go_wp2_with (go_at_call 23; refine (From_no pr g.names.length cr (rws g) a HCH.out w2 HRA.out).mono ?_; rintro e w4 ⟨rfl, hb4⟩; have HB4 := Lib.hid (HB2.out.trans (hb4.mono HB2.out.size)); clear hb4 k0 k1 k2 k3 k4 k5)
      go_ret2
      exact ⟨.inr ⟨fun h => HCH.out h.2, _, HCH.out, rfl⟩, HFIN.out _ HB4.out⟩
  · obtain ⟨i1, i2⟩ := int_ne' hE0
    have HNF := Lib.hid hnf
    clear hnf
    go_wp2
    go_ret2
    exact ⟨.inr ⟨fun h => HNF.out h.1, E, hE0, rfl⟩, HFIN.out _ HB2.out⟩
end Go.Proofs.YteldeiihjeddoaaDoor
namespace Go.Proofs.YteldeiihjeddoaaDoor
open Go.RowKit Go.Shelf
/-- what a build asks -/
def RunFit (g : GD) (x : SD) (a : B) (now : Int) : Prop := Fit g x ∧ chks (rws g) [a] = 0 ∧ 0 ≤ now ∧ now ≤ 1099511627712 ∧ LateTo x.at_ now x.at_.length
/-- what is made -/
def mset (g : GD) (a s : B) : B := cls (rws g) a &&& s
structure Ran (w : World) (g : GD) (x : SD) (a : B) (now : Int) (s : B) (o : List Nat) (p q : Option Addr) (c d : Nat) (w' : World) : Prop where
  fit : RunFit g x a now
  ord : KOrd (rws g) o 0#64
  stale : Stale g x s
  row : w'.ownsRow w.heap.size 3 1 (.slice p (mrow o (mset g a s)).length c) (mrow o (mset g a s)).length (ints (mrow o (mset g a s)))
  at_ : w'.ownsRow w.heap.size 2 1 (.slice q x.at_.length d) x.at_.length (iv (ran x (mset g a s) o now))
  all : AllC w' (.slice q x.at_.length d) isInt
/-- what Run answers -/
def RunPost (w : World) (g : GD) (x : SD) (a : B) (now : Int) (e : Ending) (w' : World) : Prop :=
  ((∃ (s : B) (o : List Nat) (p q : Option Addr) (c d : Nat), e = .returned (.tuple #[.agg #[.slice p (mrow o (mset g a s)).length c, .slice q x.at_.length d], .int .i64 0]) ∧ Ran w g x a now s o p q c d w') ∨
    (¬ RunFit g x a now ∧ ∃ E : Int, E ≠ 0 ∧ e = .returned (.tuple #[.agg #[.slice none 0 0, .slice none 0 0], .int .i64 E]))) ∧ Below w.heap.size w w'
theorem below_next' {w w' : World} {o : Obj} (h : Below (w.alloc o).heap.size (w.alloc o) w') : Below w.heap.size w w' := ((Below.refl _ _).alloc (Nat.le_refl _) o).trans (h.mono (by simp))
theorem below_set2 {B b : Nat} {w w' : World} (h : Below B w w') (hb : B ≤ b) (u0 u1 : Value) : Below B w ((w'.setCell ⟨b, 0, none⟩ u0).setCell ⟨b, 1, none⟩ u1) := (h.setCell hb _).setCell hb _
/-- the cut behind the clone -/
structure CutR (w4 : World) (l : List Int) (bN bM : Nat) (q : Option Addr) (n d : Nat) (wc : World) : Prop where
  fix : RFix wc w4.heap.size bN bM q n d
  ge : w4.heap.size ≤ bM
  box : wc.heap[bM]? = some (.cells #[.slice none 0 0, .slice q n d] 60 (0, 0))
  own : wc.ownsRow w4.heap.size 2 1 (.slice q n d) n (iv l)
  all : AllC wc (.slice q n d) isInt
  below : Below w4.heap.size w4 wc
theorem cutR_a {w2 w3 : World} {l : List Int} {bN : Nat} {q : Option Addr} {n d : Nat} (hn : bN < w2.heap.size) (ho : w3.ownsRow w2.heap.size 2 1 (.slice q n d) n (iv l)) (ha : AllC w3 (.slice q n d) isInt) (hb : Below w2.heap.size w2 w3) :
    CutR w2 l bN w3.heap.size q n d (w3.alloc (.cells #[.slice none 0 0, .slice q n d] 60)) := by
  have h3 := hb.size
  exact ⟨⟨by simp <;> omega, by simp, by omega, fun k hk => by have := ho.lt k hk; simp <;> omega⟩, h3, han _ _, ho.alloc _, ha.kept (World.grownBy_alloc _ _ none) (by cases hv : (Value.slice q n d).ownBlock <;> simp), hb.alloc h3 _⟩
theorem cutR_b {w2 w3 : World} {l : List Int} {bN : Nat} {q : Option Addr} {n d B : Nat} {v0 v1 : Value} (hn : bN < w2.heap.size) (hB : w2.heap.size < B) (hs : w2.heap.size < w3.heap.size) (ho : w3.ownsRow B 2 1 (.slice q n d) n (iv l)) (ha : AllC w3 (.slice q n d) isInt) (hb : Below w2.heap.size w2 w3)
    (hx : w3.heap[w2.heap.size]? = some (.cells #[v0, v1] 60 (0, 0))) :
    CutR w2 l bN w2.heap.size q n d ((w3.setCell ⟨w2.heap.size, 0, none⟩ (.slice none 0 0)).setCell ⟨w2.heap.size, 1, none⟩ (.slice q n d)) := by
  have h3 := hb.size
  have hg := (grown_set w3 ⟨w2.heap.size, 0, none⟩ (.slice none 0 0)).trans (grown_set _ ⟨w2.heap.size, 1, none⟩ (.slice q n d))
  have hne : (Value.slice q n d).ownBlock ≠ some w2.heap.size := fun e => by have := (ho.lt _ e).1; omega
  exact ⟨⟨by simp <;> omega, by simp <;> omega, by omega, fun k hk => by have := ho.lt k hk; simp <;> omega⟩, Nat.le_refl _, bx2_all hx _ _, (World.ownsRow.mono ho (by omega)).kept hg (.inr hne), ha.kept hg (.inr hne), (hb.setCell (Nat.le_refl _) _).setCell (Nat.le_refl _) _⟩
set_option maxHeartbeats 8000000 in
set_option maxRecDepth 100000 in
theorem Run_ok (v u : Value) (g : GD) (x : SD) (a : B) (now : Int) (w : World) (h : GrAt w v g) (hx : SnAt w u x) (hT : Tab w) :
    Calls Tryd.prog 28 #[v, u, .int .u64 (un a : Int), .int .i64 now] w (RunPost w g x a now) := by
  have hGr := h
  have hSn := hx
  obtain ⟨p, n, c, q, m, d, rfl, hN, hE⟩ := h.at_
  obtain ⟨p2, n2, c2, rfl, hx1, hx2, hx3⟩ := hx.at_
  have hln := hN.at_.len
  have hlm := hE.len
  subst hln hlm hx1
  obtain ⟨W, hW⟩ : ∃ W, W = (((w.alloc (.cells #[.slice p g.names.length c, .slice q g.edges.length d, .int .u64 (un g.phony : Int), .int .u64 (un g.made : Int)] 26)).alloc (.cells #[.slice p2 x.at_.length c2, .int .u64 (un x.dirty : Int)] 29)).alloc (.cells #[.int .i64 now] 2)).alloc (.cells #[.slice none 0 0, .slice none 0 0] 60) := ⟨_, rfl⟩
  have hBW : Below w.heap.size w W := by rw [hW]; exact ((((Below.refl _ _).alloc (Nat.le_refl _) _).alloc (by simp) _).alloc (by simp <;> omega) _).alloc (by simp <;> omega) _
  have HS : Hid (W.heap.size = w.heap.size + 4) := by show _ = _; rw [hW]; simp
  have HC : Hid (∀ y : World, Below W.heap.size W y → y.heap[w.heap.size]? = some (.cells #[.slice p g.names.length c, .slice q g.edges.length d, .int .u64 (un g.phony : Int), .int .u64 (un g.made : Int)] 26 (0, 0)) ∧
      y.heap[w.heap.size + 1]? = some (.cells #[.slice p2 x.at_.length c2, .int .u64 (un x.dirty : Int)] 29 (0, 0)) ∧ y.heap[w.heap.size + 2]? = some (.cells #[.int .i64 now] 2 (0, 0)) ∧
      y.heap[w.heap.size + 3]? = some (.cells #[.slice none 0 0, .slice none 0 0] 60 (0, 0))) := by
    show ∀ y : World, _ → _
    intro y hy
    have hs := HS.out
    rw [hy.block _ (by omega), hy.block _ (by omega), hy.block _ (by omega), hy.block _ (by omega), hW]
    refine ⟨?_, ?_, ?_, ?_⟩
    · rw [hao _ _ _ (by simp <;> omega), hao _ _ _ (by simp <;> omega), hao _ _ _ (by simp), han]
    · rw [hao _ _ _ (by simp <;> omega), hao _ _ _ (by simp), han2]
    · rw [hao _ _ _ (by simp)]
      have := han2 (w.alloc (.cells #[.slice p g.names.length c, .slice q g.edges.length d, .int .u64 (un g.phony : Int), .int .u64 (un g.made : Int)] 26)) (.cells #[.slice p2 x.at_.length c2, .int .u64 (un x.dirty : Int)] 29) (.cells #[.int .i64 now] 2)
      have e : (w.alloc (.cells #[.slice p g.names.length c, .slice q g.edges.length d, .int .u64 (un g.phony : Int), .int .u64 (un g.made : Int)] 26)).heap.size + 1 = w.heap.size + 2 := by simp
      rwa [e] at this
    · have := han2 ((w.alloc (.cells #[.slice p g.names.length c, .slice q g.edges.length d, .int .u64 (un g.phony : Int), .int .u64 (un g.made : Int)] 26)).alloc (.cells #[.slice p2 x.at_.length c2, .int .u64 (un x.dirty : Int)] 29)) (.cells #[.int .i64 now] 2) (.cells #[.slice none 0 0, .slice none 0 0] 60)
      have e : ((w.alloc (.cells #[.slice p g.names.length c, .slice q g.edges.length d, .int .u64 (un g.phony : Int), .int .u64 (un g.made : Int)] 26)).alloc (.cells #[.slice p2 x.at_.length c2, .int .u64 (un x.dirty : Int)] 29)).heap.size + 1 = w.heap.size + 3 := by simp <;> omega
      rwa [e] at this
  have HGr := Lib.hid (hGr.below hBW)
  have HSn := Lib.hid (hSn.below hBW)
  have HT := Lib.hid (hT.below hBW)
  have HX : Hid (Reads W W.heap.size 1 p2 x.at_.length (iv x.at_) ∧ x.at_.length ≤ 17592186044416) := by show _ ∧ _; exact ⟨(hx2.below hBW).more hBW.size, hx3⟩
  have HFIN : Hid (∀ y, Below W.heap.size W y → Below w.heap.size w y) := by show ∀ y, _; exact fun y hy => hBW.trans (hy.mono (by have := HS.out; omega))
  have HK : Hid (∀ y : World, Below W.heap.size W y → y.cell? ⟨w.heap.size, 0, none⟩ = some (.slice p g.names.length c) ∧ y.cell? ⟨w.heap.size, 1, none⟩ = some (.slice q g.edges.length d) ∧ y.cell? ⟨w.heap.size, 2, none⟩ = some (.int .u64 (un g.phony : Int)) ∧ y.cell? ⟨w.heap.size, 3, none⟩ = some (.int .u64 (un g.made : Int)) ∧
      y.cell? ⟨w.heap.size + 1, 0, none⟩ = some (.slice p2 x.at_.length c2) ∧ y.cell? ⟨w.heap.size + 1, 1, none⟩ = some (.int .u64 (un x.dirty : Int)) ∧ y.cell? ⟨w.heap.size + 2, 0, none⟩ = some (.int .i64 now) ∧ y.frozen? ⟨w.heap.size + 3, 0, none⟩ = false ∧ y.frozen? ⟨w.heap.size + 3, 1, none⟩ = false ∧ y.cell? ⟨w.heap.size + 3, 0, none⟩ = some (.slice none 0 0) ∧ y.cell? ⟨w.heap.size + 3, 1, none⟩ = some (.slice none 0 0)) := by
    show ∀ y : World, _ → _
    intro y hy
    obtain ⟨q0, q1, q2, q3⟩ := HC.out y hy
    obtain ⟨a0, a1, a2, a3, _⟩ := box4 q0
    obtain ⟨b0, b1, _, _⟩ := bx2 q1
    obtain ⟨c0, _⟩ := bx1 q2
    obtain ⟨d0, d1, d2, d3⟩ := bx2 q3
    exact ⟨a0, a1, a2, a3, b0, b1, c0, d2, d3, d0, d1⟩
  obtain ⟨k0, k1, k2, k3, k4, k5, k6, k7, k8, k9, k10⟩ := HK.out W (Below.refl _ _)
  rw [hW] at k0 k1 k2 k3 k4 k5 k6 k7 k8 k9 k10
  clear hN hE hBW h hx hGr hSn hT hx2 hx3
  go_enter Tryd.func28, Tryd.ntmps28
  go_wp2_with fail
  rw [← hW]
  clear hW k0 k1 k2 k3 k4 k5 k6 k7 k8 k9 k10
  refine (Only_ok _ _ g x a W HGr.out HSn.out HT.out).mono ?_
  rintro e w2 ⟨hcase, hb2⟩
  have HB2 := Lib.hid hb2
  obtain ⟨k0, k1, k2, k3, k4, k5, k6, k7, k8, k9, k10⟩ := HK.out w2 hb2
  clear hb2
  rcases hcase with ⟨hF, hch, s, hS, rfl⟩ | ⟨hno, E, hE0, rfl⟩
  · have HF := Lib.hid hF
    have HCH := Lib.hid hch
    have HST := Lib.hid hS
    have h64 := hF.1.good.names
    have HLEN : Hid (x.at_.length = g.names.length) := hF.1.len
    obtain ⟨S, hSd⟩ : ∃ S, S = cls (rws g) a &&& s := ⟨_, rfl⟩
    have HSD := Lib.hid hSd
    rw [← hSd]
    clear hF hch hS hSd
    have HBAD : Hid (∀ y : World, Below W.heap.size W y → ¬ RunFit g x a now → RunPost w g x a now (.returned (.tuple #[.agg #[.slice none 0 0, .slice none 0 0], .int .i64 4])) ((y.setCell ⟨w.heap.size + 3, 0, none⟩ (.slice none 0 0)).setCell ⟨w.heap.size + 3, 1, none⟩ (.slice none 0 0))) := by
      show ∀ y : World, _
      intro y hy hno
      exact ⟨.inr ⟨hno, 4, by decide, rfl⟩, below_set2 (HFIN.out y hy) (by omega) _ _⟩
    have HBOX := Lib.hid (HC.out w2 HB2.out).2.2.2
    by_cases t1 : now < 0
    · have HNO : Hid (¬ RunFit g x a now) := by show ¬ _; exact fun h => by have := h.2.2.1; omega
      go_wp2
      refine bodyPost_ret (v := .tuple #[.agg #[.slice none 0 0, .slice none 0 0], .int .i64 4]) (results_ct Tryd.results28 _ _ (w.heap.size + 3) 60 _ (0, 0) _ _ rfl rfl ?hp1 Tryd.underlying60 rfl (by kernel_rfl)) rfl (HBAD.out _ HB2.out HNO.out)
      case hp1 => exact bx2_all HBOX.out _ _
    by_cases t2 : (1099511627712 : Int) < now
    · have HNO : Hid (¬ RunFit g x a now) := by show ¬ _; exact fun h => by have := h.2.2.2.1; omega
      go_wp2
      refine bodyPost_ret (v := .tuple #[.agg #[.slice none 0 0, .slice none 0 0], .int .i64 4]) (results_ct Tryd.results28 _ _ (w.heap.size + 3) 60 _ (0, 0) _ _ rfl rfl ?hp2 Tryd.underlying60 rfl (by kernel_rfl)) rfl (HBAD.out _ HB2.out HNO.out)
      case hp2 => exact bx2_all HBOX.out _ _
    have HCF : Hid (Calls Tryd.prog 57 #[.slice p2 x.at_.length c2, .func (.func 58) #[] #[.pointer (some ⟨w.heap.size + 2, 0, none⟩)]] w2 fun e w' => (∃ v : Bool, e = .returned (.bool v) ∧ (v = false ↔ LateTo x.at_ now x.at_.length)) ∧ w2 = w') := by
      show Calls _ _ _ _ _
      exact containsLate_ok (w.heap.size + 2) p2 x.at_.length c2 _ x.at_ now w2 ((HX.out.1.below HB2.out).more HB2.out.size) (by rw [HLEN.out]; exact h64) k6
    by_cases hlate : LateTo x.at_ now x.at_.length
    · have HFit : Hid (RunFit g x a now) := by show RunFit _ _ _ _; exact ⟨HF.out, HCH.out, by omega, by omega, hlate⟩
      clear HBAD HBOX
      go_wp2_with (go_at_call 57; refine HCF.out.mono ?_; rintro e w' ⟨⟨v, rfl, hv⟩, rfl⟩; obtain rfl : v = false := hv.2 hlate; clear hv)
      refine (Rows2_ok _ g w2 (HGr.out.below HB2.out)).mono ?_
      rintro e w3 ⟨hcase, hb3⟩
      have HB3 := Lib.hid (HB2.out.trans (hb3.mono HB2.out.size))
      clear hb3
      rcases hcase with ⟨_, pr, cr, rfl, hown⟩ | ⟨hnG, _⟩
      · have HRA := Lib.hid (rows_at hown h64)
        clear hown k0 k1 k2 k3 k4 k5 k6 k7 k8 k9 k10 HCF
        obtain ⟨k0, k1, k2, k3, k4, k5, k6, k7, k8, k9, k10⟩ := HK.out w3 HB3.out
        go_wp2_with fail
        refine (Order_yes pr _ cr (rws g) (chkR_zero.2 (valid_rws HF.out.1.good)) w3 HRA.out (HT.out.belowB (Tab.lt HT.out) HB3.out)).mono ?_
        rintro e w4 hO
        rcases hO with ⟨o, go, co, rfl, hKo, _, hown4, hb4⟩ | ⟨o, left, rfl, hl0, hKo, hSt, _⟩
        · have HKO := Lib.hid hKo
          have HOW := Lib.hid hown4
          have HB4 := Lib.hid (HB3.out.trans (hb4.mono HB3.out.size))
          have hw3s := HB3.out.size
          clear hKo hown4 hb4 k0 k1 k2 k3 k4 k5 k6 k7 k8 k9 k10 HRA
          obtain ⟨k0, k1, k2, k3, k4, k5, k6, k7, k8, k9, k10⟩ := HK.out w4 HB4.out
          have HSS : Hid (∀ y : World, Below W.heap.size W y → y.cell? ⟨w.heap.size + 1, 0, none⟩ = some (.slice p2 x.at_.length c2)) := by
            show ∀ y : World, _ → _
            intro y hy
            exact (HK.out y hy).2.2.2.2.1
          have HCl : Hid (∀ y : World, Below W.heap.size W y → Calls Tryd.prog 31 #[.slice p2 x.at_.length c2] y fun e w' => ∃ (gp : Option Addr) (gc : Nat), e = .returned (.slice gp x.at_.length gc) ∧ Hid (w'.ownsRow y.heap.size 2 1 (.slice gp x.at_.length gc) x.at_.length (iv x.at_)) ∧ Hid (AllC w' (.slice gp x.at_.length gc) isInt) ∧ Hid (Below y.heap.size y w') ∧ Hid (Below W.heap.size W w')) := by
            show ∀ y : World, _
            intro y hy
            refine (CloneI_any p2 _ c2 _ HX.out.2 x.at_ y (HX.out.1.below hy)).mono ?_
            rintro e w' ⟨gp, gc, h1, h2, h3, h4⟩
            exact ⟨gp, gc, h1, h2, h3, h4, hy.trans (h4.mono hy.size)⟩
          have hbN : w.heap.size + 2 < w4.heap.size := by have := HS.out; have := HB4.out.size; omega
          obtain ⟨ol, hol⟩ : ∃ ol, ol = o.length := ⟨_, rfl⟩
          have HOL := Lib.hid hol
          rw [← hol] at HOW ⊢
          clear hol
          go_upto_region 8 with fail
          go_cut [16] (fun out wx => ∃ (bM : Nat) (qa : Option Addr) (da : Nat), out = .pointer (some ⟨bM, 0, none⟩) ∧ Hid (CutR w4 x.at_ (w.heap.size + 2) bM qa x.at_.length da wx))
          case first =>
            go_wp2_with (go_at_call 31; refine (HCl.out _ HB4.out).mono ?_; rintro e w5 ⟨gp, gc, rfl, HO5, HA5, HB45, HB5⟩)
            go_meet
            exact ⟨_, gp, gc, rfl, cutR_a hbN HO5.out HA5.out HB45.out⟩
          case rest =>
            obtain ⟨bM, qa, da, rfl, HCut⟩ := hcut
            have HBc : Hid (Below W.heap.size W wc) := by show Below _ _ _; exact HB4.out.trans (HCut.out.below.mono HB4.out.size)
            have HZ := Lib.hid (HC.out wc HBc.out)
            have HOWc : Hid (wc.ownsRow w3.heap.size 3 1 (.slice go ol co) ol (ints o)) := by show wc.ownsRow _ _ _ _ _ _; exact own_below HOW.out HCut.out.below
            have HgoL : Hid (∀ k, (Value.slice go ol co).ownBlock = some k → ¬ RunK (w.heap.size + 2) bM (.slice qa x.at_.length da) k) := by
              show ∀ k, _
              intro k hk hK
              have h1 := HOW.out.lt k hk
              have h2 := HCut.out.ge
              rcases hK with h | h | h
              · have := HS.out; omega
              · omega
              · have := (HCut.out.own.lt k h).1; omega
            have hol64 : ol ≤ 64 := by rw [HOL.out]; exact kord_len (valid_rws HF.out.1.good) HKO.out
            clear k0 k1 k2 k3 k4 k5 k6 k7 k8 k9 k10 HSS HCl HOW
            go_wp2_with fail
            go_loopg [59] ol (fun k i wr => ∃ (j : Nat) (pe : Option Addr) (ce : Nat), k + j = ol ∧ i = .int .i64 j ∧ Hid (RInv wc w4.heap.size x.at_ now (w.heap.size + 2) bM qa x.at_.length da (mrow (o.take j) S) pe ce wr))
            case atStart => exact ⟨0, none, 0, by omega, rfl, show RInv _ _ _ _ _ _ _ _ _ _ _ _ _ from RInv.start HZ.out.2.2.1 HCut.out.box HCut.out.own HCut.out.all⟩
            case round =>
              obtain ⟨j, pe, ce, hj, rfl, HI⟩ := hrel
              by_cases hlt : j < ol
              · have hko : j < o.length := by rw [← HOL.out]; exact hlt
                have HOr : Hid (Reads wr wr.heap.size 1 go ol (ints o)) := by show Reads _ _ _ _ _ _; exact Reads.of_own (HI.out.keep.own HOWc.out HgoL.out)
                obtain ⟨ad, rfl, _, hon⟩ := HOr.out.int_at hlt
                have hnn : o.getD j 0 = o[j] := by rw [List.getD_eq_getElem?_getD, List.getElem?_eq_getElem hko]; rfl
                have hnN : o[j] < x.at_.length := by have := HKO.out.lt o[j] (List.getElem_mem hko); rw [rws_len] at this; rw [HLEN.out]; exact this
                have hi64 : o[j] < 64 := by have := HLEN.out; omega
                have HNX := Lib.hid (mrow_next (s := S) hko)
                have hrl : (mrow (o.take j) S).length ≤ 64 := mrow_len HF.out.1.good HKO.out j
                have hm := bit_eqS S o[j]
                rw [hnn] at hon
                generalize hr : mrow (o.take j) S = r at *
                generalize o[j] = i at *
                clear hnn hr
                obtain ⟨b, hb⟩ : ∃ b, has S i = b := ⟨_, rfl⟩
                rw [hb] at hm
                have HNX2 : Hid (mrow (o.take (j + 1)) S = r ++ (if b = true then [i] else [])) := by show _ = _; rw [HNX.out, hb]
                clear HNX hb HOr
                cases b
                · go_wp2
                  go_roundg (ol - (j + 1))
                  case measure => omega
                  case rel => exact ⟨j + 1, pe, ce, by omega, by go_num, by rw [HNX2.out]; simpa using HI⟩
                · obtain ⟨n0, _⟩ := bx1 HI.out.nbox
                  obtain ⟨m0, m1, m2, m3⟩ := bx2 HI.out.mbox
                  have hsz : wc.heap.size ≤ wr.heap.size := HI.out.keep.size
                  have HFX := Lib.hid HCut.out.fix
                  go_upto_region 13 with fail
                  go_upto_region 14 with (at_builtin; refine app_int _ rfl _ _ rfl wc.heap.size _ r.length _ rfl (HI.out.row.alloc _) wr.heap.size (.int .i64 (i : Int)) rfl rfl (by rw [World.cell?_alloc_at _ _ _ _ rfl]; rfl) (by omega) (Nat.le_trans hsz (by simp)) ?_; intro v' w5 hown5 hgrow5; obtain ⟨pe2, ce2, rfl, _⟩ := own_form hown5; have h5 := (HI.out.alloc HFX.out _).app HFX.out hgrow5; have HO5 := Lib.hid hown5; obtain ⟨e0, e1, e2, e3⟩ := bx2 h5.2.1; have H5 := Lib.hid h5; clear h5 hown5 hgrow5)
                  obtain ⟨qb, hqa⟩ : ∃ qb, qa = some ⟨qb, 0, none⟩ := by
                    obtain ⟨g', c', hv, _⟩ := H5.out.2.2.1.form (by omega)
                    injection hv with hv
                    exact ⟨g', hv⟩
                  subst hqa
                  obtain ⟨hq1, hq2, hq3⟩ := HFX.out.qlt qb rfl
                  have HMD := Lib.hid (RInv.made (i := i) HFX.out H5.out.1 H5.out.2.1 H5.out.2.2.1 H5.out.2.2.2.1 H5.out.2.2.2.2 HO5.out)
                  obtain ⟨X1, hX1⟩ : ∃ X1 : World, X1 = w5.setCell ⟨bM, 0, none⟩ (.slice pe2 (r.length + 1) ce2) := ⟨_, rfl⟩
                  have HN1 : Hid (X1.heap[w.heap.size + 2]? = some (.cells #[.int .i64 (now + r.length)] 2 (0, 0))) := by
                    show _ = _; rw [hX1]; exact set_other H5.out.1 HFX.out.nm
                  have HA1 : Hid (X1.ownsRow w4.heap.size 2 1 (.slice (some ⟨qb, 0, none⟩) x.at_.length da) x.at_.length (iv (stampT x.at_ now r))) := by
                    show World.ownsRow _ _ _ _ _ _ _
                    rw [hX1]; exact H5.out.2.2.1.kept (grown_set _ _ _) (.inr fun e => hq3 (by injection e))
                  have hM1 : X1.heap[bM]? = some (.cells #[.slice pe2 (r.length + 1) ce2, .slice (some ⟨qb, 0, none⟩) x.at_.length da] 60 (0, 0)) := by
                    rw [hX1]; exact bx2_set0 H5.out.2.1 _
                  rw [← hX1] at HMD ⊢
                  obtain ⟨f0, f1, _, _⟩ := bx2 hM1
                  obtain ⟨g0, g1⟩ := bx1 HN1.out
                  have hc1 : X1.cell? ⟨qb, i, none⟩ = some (.int .i64 ((stampT x.at_ now r).getD i 0)) := by
                    have := HA1.out.cellAt i (by omega)
                    rw [this]
                    unfold iv
                    rw [List.getElem?_map, List.getD_eq_getElem?_getD, List.getElem?_eq_getElem (by rw [stamp_len]; exact hnN)]
                    rfl
                  have hf1 := HA1.out.frozenAt i
                  have hin : (i : Int) < (x.at_.length : Int) := by omega
                  clear hX1 hM1 e0 e1 e2 e3 n0 m0 m1 m2 m3
                  go_upto_region 15 with fail
                  obtain ⟨X2, hX2⟩ : ∃ X2 : World, X2 = X1.setCell ⟨qb, i, none⟩ (.int .i64 (now + r.length)) := ⟨_, rfl⟩
                  have hN2 : X2.heap[w.heap.size + 2]? = some (.cells #[.int .i64 (now + r.length)] 2 (0, 0)) := by
                    rw [hX2]; exact set_other HN1.out (Ne.symm hq2)
                  rw [← hX2] at HMD ⊢
                  obtain ⟨y0, y1⟩ := bx1 hN2
                  clear hX2 hN2 f0 f1 g0 g1 hc1 hf1
                  go_wp2
                  go_roundg (ol - (j + 1))
                  case measure => omega
                  case rel => exact ⟨j + 1, pe2, ce2, by omega, by go_num, by rw [HNX2.out]; simpa using HMD⟩
              · obtain rfl : j = ol := by omega
                have HALL : Hid (mrow (o.take j) S = mrow o S) := by show _ = _; rw [HOL.out, List.take_length]
                rw [HALL.out] at HI
                have hzb : wr.heap[w.heap.size + 3]? = some (.cells #[.slice none 0 0, .slice none 0 0] 60 (0, 0)) := by
                  rw [HI.out.keep.block (w.heap.size + 3) (by have := HS.out; have := HBc.out.size; omega) (fun hK => by
                    have hs := HS.out
                    have h1 := HCut.out.ge
                    have h2 := HB4.out.size
                    rcases hK with h | h | h
                    · omega
                    · omega
                    · have := (HCut.out.own.lt _ h).1; omega)]
                  exact HZ.out.2.2.2
                obtain ⟨n0, n1⟩ := bx1 HI.out.nbox
                obtain ⟨m0, m1, m2, m3⟩ := bx2 HI.out.mbox
                obtain ⟨l0, l1, l2, l3⟩ := bx2 hzb
                have HZB := Lib.hid hzb
                clear hzb
                go_wp2
                refine bodyPost_ret (v := .tuple #[.agg #[.slice pe (mrow o S).length ce, .slice qa x.at_.length da], .int .i64 0]) (results_ct Tryd.results28 _ _ (w.heap.size + 3) 60 _ (0, 0) _ _ rfl rfl ?hp9 Tryd.underlying60 rfl (by kernel_rfl)) rfl ⟨.inl ⟨s, o, pe, qa, ce, da, ?he9, ?hr9⟩, ?hb9⟩
                case hp9 => exact bx2_all HZB.out _ _
                case he9 => rw [HSD.out]; rfl
                case hr9 =>
                  have hs := HS.out
                  have h1 := HBc.out.size
                  have h2 := HB4.out.size
                  have hg := (grown_set wr ⟨w.heap.size + 3, 0, none⟩ (.slice pe (mrow o S).length ce)).trans (grown_set _ ⟨w.heap.size + 3, 1, none⟩ (.slice qa x.at_.length da))
                  have hne1 : (Value.slice pe (mrow o S).length ce).ownBlock ≠ some (w.heap.size + 3) := fun e => by have := (HI.out.row.lt _ e).1; omega
                  have hne2 : (Value.slice qa x.at_.length da).ownBlock ≠ some (w.heap.size + 3) := fun e => by have := (HI.out.at_.lt _ e).1; omega
                  have hSe := HSD.out
                  subst hSe
                  exact ⟨HFit.out, HKO.out, HST.out, (World.ownsRow.mono HI.out.row (by omega)).kept hg (.inr hne1), (World.ownsRow.mono HI.out.at_ (by omega)).kept hg (.inr hne2), HI.out.all.kept hg (.inr hne2)⟩
                case hb9 =>
                  have hs := HS.out
                  have h1 := HBc.out.size
                  have h2 := HB4.out.size
                  have h3 : Below w.heap.size wc wr := HI.out.keep.below (by omega) (fun k hK => by
                    have h4 := HCut.out.ge
                    rcases hK with h | h | h
                    · omega
                    · omega
                    · have := (HCut.out.own.lt _ h).1; omega)
                  exact below_set2 ((HFIN.out _ HBc.out).trans h3) (by omega) _ _
        · exact absurd HF.out (no_order hKo hSt hl0)
      · exact absurd HF.out.1.good hnG
    · have HNO : Hid (¬ RunFit g x a now) := by show ¬ _; exact fun h => hlate h.2.2.2.2
      go_wp2_with (go_at_call 57; refine HCF.out.mono ?_; rintro e w' ⟨⟨v, rfl, hv⟩, rfl⟩; obtain rfl : v = true := (by cases v; exact absurd (hv.1 rfl) hlate; rfl); clear hv)
      refine bodyPost_ret (v := .tuple #[.agg #[.slice none 0 0, .slice none 0 0], .int .i64 4]) (results_ct Tryd.results28 _ _ (w.heap.size + 3) 60 _ (0, 0) _ _ rfl rfl ?hp3 Tryd.underlying60 rfl (by kernel_rfl)) rfl (HBAD.out _ HB2.out HNO.out)
      case hp3 => exact bx2_all HBOX.out _ _
  · obtain ⟨i1, i2⟩ := int_ne' hE0
    have HNO : Hid (¬ RunFit g x a now) := by show ¬ _; exact fun h => hno ⟨h.1, h.2.1⟩
    have HBOX := Lib.hid (HC.out w2 HB2.out).2.2.2
    clear hno
    go_wp2
    refine bodyPost_ret (v := .tuple #[.agg #[.slice none 0 0, .slice none 0 0], .int .i64 E]) (results_ct Tryd.results28 _ _ (w.heap.size + 3) 60 _ (0, 0) _ _ rfl rfl ?hp Tryd.underlying60 rfl (by kernel_rfl)) rfl ⟨.inr ⟨HNO.out, E, hE0, rfl⟩, ?hb⟩
    case hp => exact bx2_all HBOX.out _ _
    case hb => exact below_set2 (HFIN.out _ HB2.out) (by omega) _ _
end Go.Proofs.YteldeiihjeddoaaDoor
