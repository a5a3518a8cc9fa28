/- slices.AppendSeq over slices.Values at strings: the slice's strings, in a slice of the call's own. Conditions: the slice reads as listed. -/
import Derived.Test.YtlhhcgiifgkngaaDoorValuesJ
import Derived.Test.YtlhhcgiifgkngaaDoorSeqLay
import Derived.Test.YtlhhcgiifgkngaaDoorStrs
namespace Go.Proofs.YtlhhcgiifgkngaaDoor
open Go.RowKit Go.Shelf Go.Maps Go.Sort
theorem enc_bytes (s : ByteArray) : encStr s.data.toList = .string s := by cases s; simp [encStr]
set_option maxRecDepth 100000 in
set_option maxHeartbeats 2000000 in
theorem seq_append_in (F : Fence) (n : Nat) (h11 : F.fn 187) (h49 : F.fn 147) (hro : F.round = none) (hn : 2 ≤ n) (Bv b off len cap : Nat) (zs : List ByteArray) (hreach : len * 16 ≤ 140737488351232) (w : World)
    (hBv : Bv < w.heap.size) (hv : w.cell? ⟨Bv, 0, none⟩ = some (.slice (some ⟨b, off, none⟩) len cap)) (hb : b < w.heap.size) (hc : ∀ j, j < len → w.cell? ⟨b, off + j, none⟩ = some (.string (zs[j]?.getD ByteArray.empty))) :
    CallsIn F n Tryd.prog 187 #[.slice none 0 0, .func (.func 147) #[] #[.pointer (some ⟨Bv, 0, none⟩)]] w fun e w' => ∃ v : Value, e = .returned v ∧
      w'.ownsRow w.heap.size 9 1 v ((vs_upto (fun j => zs[j]?.getD ByteArray.empty) len).map fun s : ByteArray => s.data.toList).length (((vs_upto (fun j => zs[j]?.getD ByteArray.empty) len).map fun s : ByteArray => s.data.toList).map encStr) ∧ (v = .slice none 0 0 ↔ ((vs_upto (fun j => zs[j]?.getD ByteArray.empty) len).map fun s : ByteArray => s.data.toList) = []) ∧ Below w.heap.size w w' := by
  have h1 : 1 ≤ n := by omega
  have hN : len ≤ maxLen := by unfold maxLen; omega
  have hNb : len * 16 ≤ 140737488355328 := by omega
  have hFg : F.fn 147 := h49
  have eg : ∀ args w, (callFunc 147 args).run Tryd.prog w = .ok (.enter 147 args) w := enters_of Tryd.func147 (by kernel_rfl) rfl
  obtain ⟨sv, hsv⟩ : ∃ sv : Value, sv = .func (.func 147) #[] #[.pointer (some ⟨Bv, 0, none⟩)] := ⟨_, rfl⟩
  refine callsIn_of_wp_marks Tryd.func187 rfl h11 ?_ hro
  simp only [Tryd.ntmps187, List.size_toArray, List.length_cons, List.length_nil, Nat.reduceAdd, Nat.reduceSub, Array.replicate_succ, Array.replicate_zero, List.push_toArray, List.append_toArray, List.nil_append, List.cons_append]
  gi_wp2
  refine wpIn_rangeFunc ?_
  intro fn hfn
  rw [hro]
  obtain ⟨W0, hW0⟩ : ∃ W0, w.alloc (.cells #[.slice none 0 0] 22) = W0 := ⟨_, rfl⟩
  have hs0 : W0.heap.size = w.heap.size + 1 := by rw [← hW0]; simp
  have hv0 : W0.heap[w.heap.size]? = some (.cells #[.slice none 0 0] 22 (0, 0)) := by rw [← hW0]; exact World.alloc_heap_new w _
  have hb0 : Below w.heap.size w W0 := by rw [← hW0]; exact (Below.refl _ w).alloc (Nat.le_refl _) _
  rw [hW0]
  obtain ⟨W1, hW1⟩ : ∃ W1, (W0.alloc (.deferred (some []))).alloc (.loop (AnyZ.apRec Tryd.laysZ_ren fn sv w.heap.size W0.heap.size .ready none)) = W1 := ⟨_, rfl⟩
  have hold : ∀ k, k < W0.heap.size → W1.heap[k]? = W0.heap[k]? := fun k hk => by
    rw [← hW1]; exact (Below.heap_alloc _ _ k (by simp; omega)).trans (Below.heap_alloc _ _ k hk)
  have hb1 : Below w.heap.size w W1 := by rw [← hW1]; exact (hb0.alloc hb0.size _).alloc (by have := hb0.size; simp; omega) _
  have hs1 : W1.heap.size = W0.heap.size + 2 := by rw [← hW1]; simp
  have hM : AnyZ.ApAt Tryd.laysZ_ren w fn sv w.heap.size (W0.heap.size + 1) W0.heap.size [] W1 :=
    ⟨⟨_, (hold w.heap.size (by omega)).trans hv0, ⟨rfl, .inl ⟨rfl, rfl⟩⟩, by simp⟩,
     by rw [← hW1]; have := World.alloc_heap_new (W0.alloc (.deferred (some []))) (.loop (AnyZ.apRec Tryd.laysZ_ren fn sv w.heap.size W0.heap.size .ready none)); rwa [World.size_alloc] at this,
     by rw [← hW1]; exact (Below.heap_alloc _ _ _ (by simp)).trans (World.alloc_heap_new W0 _), hb1⟩
  refine ⟨W0.heap.size + 1, [{ target := .collected W0.heap.size, args := #[] }], W1, { target := .fn (.func 147) #[.pointer (some ⟨Bv, 0, none⟩)], args := #[.func (.yield (W0.heap.size + 1)) #[] #[]] }, W1, 147,
    #[.func (.yield (W0.heap.size + 1)) #[] #[]] ++ #[.pointer (some ⟨Bv, 0, none⟩)], W1, ?_, ?_, ?_, ?_, fun _ => h1, ?_⟩
  · rw [← hW1, hsv]; exact run_enterLoop_outer _ _ _ _ _
  · simp [resolve, go_sem]
  · intro f' hf'; simp [Target.leads] at hf'; subst hf'; exact hFg
  · simp [invoke, go_sem, eg]
  · refine (vs_values1J_in F (n - 1) h49 hro (by omega) (W0.heap.size + 1) Bv b off len cap zs hreach (fun pre W => AnyZ.ApAt Tryd.laysZ_ren w fn sv w.heap.size (W0.heap.size + 1) W0.heap.size (pre.map fun s : ByteArray => s.data.toList) W)
      (fun pre W hJ j hj => (hJ.below.cell (p := ⟨b, off + j, none⟩) hb).trans (hc j hj))
      (fun pre x W hJ hl => by
        have hy := AnyZ.apYield Tryd.laysZ11 F (n - 1 - 1) w fn hfn sv w.heap.size (W0.heap.size + 1) W0.heap.size (by omega) (by omega) (by omega) (Nat.le_refl _) (by omega) len hN hNb (pre.map fun s : ByteArray => s.data.toList) x.data.toList W hJ (by rw [List.length_map]; exact hl)
        rw [enc_bytes] at hy
        obtain ⟨f1, t1, a1, b1, hy1, hR1⟩ := hy
        refine ⟨f1, t1, a1, b1, hy1, hR1.mono fun e W' h => ⟨h.1, ?_⟩⟩
        rw [List.map_append]; exact h.2.1) W1 ((hb1.cell (p := ⟨Bv, 0, none⟩) hBv).trans hv) hM).mono ?_
    rintro e W2 ⟨⟨v0, rfl⟩, h2⟩
    obtain ⟨v, hv, hrow, hnil⟩ := h2.box
    have hend := run_endLoop (P := Tryd.prog) h2.L (by simp [AnyZ.apRec])
    obtain ⟨W3, hW3⟩ : ∃ W3, W2.putObj (W0.heap.size + 1) (.loop { AnyZ.apRec Tryd.laysZ_ren fn sv w.heap.size W0.heap.size .ready none with state := .exhausted }) = W3 := ⟨_, rfl⟩
    rw [hW3] at hend
    have hg3 : W2.grownBy W3 (some (W0.heap.size + 1)) := by rw [← hW3]; exact grownBy_putObj_a _ _ _
    have hv3 : W3.heap[w.heap.size]? = some (.cells #[v] 22 (0, 0)) := by rw [← hW3]; exact (World.putObj_heap_other (by omega)).trans hv
    have hK3 : W3.heap[W0.heap.size]? = some (.deferred (some [])) := by rw [← hW3]; exact (World.putObj_heap_other (by omega)).trans h2.K
    have hrow3 := hrow.kept hg3 (ownsRow_ne_a hrow h2.L (fun cur e => by cases e))
    have hb3 : Below w.heap.size w W3 := h2.below.grown hg3 h2.below.size (fun k e => by cases e; omega)
    obtain ⟨hc3, hf3⟩ := cell_of_box_a hv3
    clear hW3
    refine ⟨none, W3, hend, ?_⟩
    gi_wp2
    rw [← hs0]
    refine ⟨by simp, .inl ⟨_, _, rfl, run_takeDeferred hK3, ?_⟩⟩
    exact ⟨_, results_tmp rfl _ _ _, v, rfl, hrow3.kept (grownBy_putObj_a _ _ _) (ownsRow_ne_a hrow3 hK3 (fun cur e => by cases e)), hnil, hb3.grown (grownBy_putObj_a _ _ _) hb3.size (fun k e => by cases e; omega)⟩
set_option maxRecDepth 100000 in
set_option maxHeartbeats 2000000 in
theorem seq_append_nil_in (F : Fence) (n : Nat) (h11 : F.fn 187) (h49 : F.fn 147) (hro : F.round = none) (hn : 2 ≤ n) (Bv : Nat) (w : World)
    (hBv : Bv < w.heap.size) (hv : w.cell? ⟨Bv, 0, none⟩ = some (.slice none 0 0)) :
    CallsIn F n Tryd.prog 187 #[.slice none 0 0, .func (.func 147) #[] #[.pointer (some ⟨Bv, 0, none⟩)]] w fun e w' => ∃ v : Value, e = .returned v ∧
      w'.ownsRow w.heap.size 9 1 v (([] : List ByteArray).map fun s : ByteArray => s.data.toList).length ((([] : List ByteArray).map fun s : ByteArray => s.data.toList).map encStr) ∧ (v = .slice none 0 0 ↔ (([] : List ByteArray).map fun s : ByteArray => s.data.toList) = []) ∧ Below w.heap.size w w' := by
  have h1 : 1 ≤ n := by omega
  have hFg : F.fn 147 := h49
  have eg : ∀ args w, (callFunc 147 args).run Tryd.prog w = .ok (.enter 147 args) w := enters_of Tryd.func147 (by kernel_rfl) rfl
  obtain ⟨sv, hsv⟩ : ∃ sv : Value, sv = .func (.func 147) #[] #[.pointer (some ⟨Bv, 0, none⟩)] := ⟨_, rfl⟩
  refine callsIn_of_wp_marks Tryd.func187 rfl h11 ?_ hro
  simp only [Tryd.ntmps187, List.size_toArray, List.length_cons, List.length_nil, Nat.reduceAdd, Nat.reduceSub, Array.replicate_succ, Array.replicate_zero, List.push_toArray, List.append_toArray, List.nil_append, List.cons_append]
  gi_wp2
  refine wpIn_rangeFunc ?_
  intro fn hfn
  rw [hro]
  obtain ⟨W0, hW0⟩ : ∃ W0, w.alloc (.cells #[.slice none 0 0] 22) = W0 := ⟨_, rfl⟩
  have hs0 : W0.heap.size = w.heap.size + 1 := by rw [← hW0]; simp
  have hv0 : W0.heap[w.heap.size]? = some (.cells #[.slice none 0 0] 22 (0, 0)) := by rw [← hW0]; exact World.alloc_heap_new w _
  have hb0 : Below w.heap.size w W0 := by rw [← hW0]; exact (Below.refl _ w).alloc (Nat.le_refl _) _
  rw [hW0]
  obtain ⟨W1, hW1⟩ : ∃ W1, (W0.alloc (.deferred (some []))).alloc (.loop (AnyZ.apRec Tryd.laysZ_ren fn sv w.heap.size W0.heap.size .ready none)) = W1 := ⟨_, rfl⟩
  have hold : ∀ k, k < W0.heap.size → W1.heap[k]? = W0.heap[k]? := fun k hk => by
    rw [← hW1]; exact (Below.heap_alloc _ _ k (by simp; omega)).trans (Below.heap_alloc _ _ k hk)
  have hb1 : Below w.heap.size w W1 := by rw [← hW1]; exact (hb0.alloc hb0.size _).alloc (by have := hb0.size; simp; omega) _
  have hs1 : W1.heap.size = W0.heap.size + 2 := by rw [← hW1]; simp
  have hM : AnyZ.ApAt Tryd.laysZ_ren w fn sv w.heap.size (W0.heap.size + 1) W0.heap.size [] W1 :=
    ⟨⟨_, (hold w.heap.size (by omega)).trans hv0, ⟨rfl, .inl ⟨rfl, rfl⟩⟩, by simp⟩,
     by rw [← hW1]; have := World.alloc_heap_new (W0.alloc (.deferred (some []))) (.loop (AnyZ.apRec Tryd.laysZ_ren fn sv w.heap.size W0.heap.size .ready none)); rwa [World.size_alloc] at this,
     by rw [← hW1]; exact (Below.heap_alloc _ _ _ (by simp)).trans (World.alloc_heap_new W0 _), hb1⟩
  refine ⟨W0.heap.size + 1, [{ target := .collected W0.heap.size, args := #[] }], W1, { target := .fn (.func 147) #[.pointer (some ⟨Bv, 0, none⟩)], args := #[.func (.yield (W0.heap.size + 1)) #[] #[]] }, W1, 147,
    #[.func (.yield (W0.heap.size + 1)) #[] #[]] ++ #[.pointer (some ⟨Bv, 0, none⟩)], W1, ?_, ?_, ?_, ?_, fun _ => h1, ?_⟩
  · rw [← hW1, hsv]; exact run_enterLoop_outer _ _ _ _ _
  · simp [resolve, go_sem]
  · intro f' hf'; simp [Target.leads] at hf'; subst hf'; exact hFg
  · simp [invoke, go_sem, eg]
  · refine (vs_values1_nil_in F (n - 1) h49 hro (W0.heap.size + 1) Bv (fun pre W => AnyZ.ApAt Tryd.laysZ_ren w fn sv w.heap.size (W0.heap.size + 1) W0.heap.size (pre.map fun s : ByteArray => s.data.toList) W) W1 ((hb1.cell (p := ⟨Bv, 0, none⟩) hBv).trans hv) hM).mono ?_
    rintro e W2 ⟨⟨v0, rfl⟩, h2⟩
    obtain ⟨v, hv, hrow, hnil⟩ := h2.box
    have hend := run_endLoop (P := Tryd.prog) h2.L (by simp [AnyZ.apRec])
    obtain ⟨W3, hW3⟩ : ∃ W3, W2.putObj (W0.heap.size + 1) (.loop { AnyZ.apRec Tryd.laysZ_ren fn sv w.heap.size W0.heap.size .ready none with state := .exhausted }) = W3 := ⟨_, rfl⟩
    rw [hW3] at hend
    have hg3 : W2.grownBy W3 (some (W0.heap.size + 1)) := by rw [← hW3]; exact grownBy_putObj_a _ _ _
    have hv3 : W3.heap[w.heap.size]? = some (.cells #[v] 22 (0, 0)) := by rw [← hW3]; exact (World.putObj_heap_other (by omega)).trans hv
    have hK3 : W3.heap[W0.heap.size]? = some (.deferred (some [])) := by rw [← hW3]; exact (World.putObj_heap_other (by omega)).trans h2.K
    have hrow3 := hrow.kept hg3 (ownsRow_ne_a hrow h2.L (fun cur e => by cases e))
    have hb3 : Below w.heap.size w W3 := h2.below.grown hg3 h2.below.size (fun k e => by cases e; omega)
    obtain ⟨hc3, hf3⟩ := cell_of_box_a hv3
    clear hW3
    refine ⟨none, W3, hend, ?_⟩
    gi_wp2
    rw [← hs0]
    refine ⟨by simp, .inl ⟨_, _, rfl, run_takeDeferred hK3, ?_⟩⟩
    exact ⟨_, results_tmp rfl _ _ _, v, rfl, hrow3.kept (grownBy_putObj_a _ _ _) (ownsRow_ne_a hrow3 hK3 (fun cur e => by cases e)), hnil, hb3.grown (grownBy_putObj_a _ _ _) hb3.size (fun k e => by cases e; omega)⟩
theorem vs_all (zs : List ByteArray) (len : Nat) (h : zs.length = len) : vs_upto (fun j => zs[j]?.getD ByteArray.empty) len = zs := by rw [← h]; exact vs_upto_all zs
theorem enc_all (zs : List ByteArray) : (zs.map fun s : ByteArray => s.data.toList).map encStr = strsV zs := by
  unfold strsV; rw [List.map_map]; exact List.map_congr_left fun s _ => enc_bytes s
/-- the strings of a slice, collected into a slice of the call's own -/
def Coll (w : World) (zs : List ByteArray) (e : Ending) (w' : World) : Prop := ∃ v : Value, e = .returned v ∧ w'.ownsRow w.heap.size 9 1 v zs.length (strsV zs) ∧ Below w.heap.size w w'
set_option maxHeartbeats 1000000 in
theorem append_seq (Bv : Nat) (p : Option Addr) (n c : Nat) (zs : List ByteArray) (w : World) (hBv : Bv < w.heap.size) (hS : StrsAt w p n zs) (hv : w.cell? ⟨Bv, 0, none⟩ = some (.slice p n c)) (hp : p = none → c = 0) (hpl : ∀ ad, p = some ad → ∃ b off, ad = ⟨b, off, none⟩ ∧ b < w.heap.size) (hr : n * 16 ≤ 140737488351232) :
    Calls Tryd.prog 187 #[.slice none 0 0, .func (.func 147) #[] #[.pointer (some ⟨Bv, 0, none⟩)]] w (Coll w zs) := by
  have hl := hS.len
  cases p with
  | none =>
    have hn : n = 0 := by
      rcases Nat.eq_zero_or_pos n with h | h
      · exact h
      · obtain ⟨ad, h1, _⟩ := hS.reads.2 h; cases h1
    subst hn
    have hz : zs = [] := List.length_eq_zero_iff.1 hl
    subst hz
    rw [hp rfl] at hv
    refine (callsIn_wide.1 (seq_append_nil_in Fence.wide 2 trivial trivial rfl (Nat.le_refl _) Bv w hBv hv)).mono ?_
    rintro e w' ⟨v, rfl, h1, _, h2⟩
    exact ⟨v, rfl, h1, h2⟩
  | some ad =>
    obtain ⟨b, off, rfl, hb⟩ := hpl ad rfl
    refine (callsIn_wide.1 (seq_append_in Fence.wide 2 trivial trivial rfl (Nat.le_refl _) Bv b off n c zs hr w hBv hv hb (fun j hj => ?_))).mono ?_
    · obtain ⟨ad', had, _, hc⟩ := str_at hS.reads hj
      injection had with had
      subst had
      have e : (⟨b, off, none⟩ : Addr).add j = ⟨b, off + j, none⟩ := by
        unfold Addr.add
        split
        · rename_i h; subst h; rfl
        · rfl
      rw [← e, hc, List.getD_eq_getElem?_getD]
    · rintro e w' ⟨v, rfl, h1, _, h2⟩
      rw [vs_all zs n hl, List.length_map, enc_all] at h1
      exact ⟨v, rfl, h1, h2⟩
end Go.Proofs.YtlhhcgiifgkngaaDoor
