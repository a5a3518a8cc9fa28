/- Texts joined: SortK, SortELay, CloneSLay, TurnW, AppT, AppS. Conditions: theirs. -/
import Derived.Test.YtlhhcgiifgkngaaDoorSortG
import Derived.Test.YtlhhcgiifgkngaaDoorPairs
import Derived.Shelf.SlSortCmp.WholeK
import Derived.Shelf.SlSortCmp.NoneTotal
import Derived.Test.YtlhhcgiifgkngaaDoorProg
import Derived.Shelf.SlicesE.Clone
import Derived.Test.YtlhhcgiifgkngaaDoorGraphPartLawM4
import Derived.Test.YtlhhcgiifgkngaaDoorNamesW
import Derived.Test.YtlhhcgiifgkngaaDoorTurnP
import Derived.Deep.RegionHeld3
import Derived.Deep.Onto
import Derived.Maps.AppendAt
import Derived.Deep.LoopGhost
import Derived.Deep.DeepCutAuto
import Derived.Deep.AppendLies
import Derived.Deep.RegionLaw
namespace Go.Proofs.YtlhhcgiifgkngaaDoor
open Go.Sort Go.Proofs Go.Shelf Go.RowKit
section
variable {α : Type} [Inhabited α] (f g : α → Value)
theorem flat2 (l : List α) : flatK (fun x => [f x, g x]) 2 l.toArray = (cells2 f g l).toArray := by
  apply Array.ext
  · simp [cells2_len]
  · intro t h1 h2
    have ht : t < l.length * 2 := by simpa using h1
    have hk : t / 2 < l.length := by omega
    obtain ⟨c1, c2⟩ := cells2_at f g (List.getElem?_eq_getElem hk)
    have e := get_flatK (fun x => [f x, g x]) 2 l.toArray t (by simpa using ht)
    rw [getElem!_pos _ t h1] at e
    rw [e]
    have e2 : l.toArray[t / 2]! = l[t / 2] := by simp [hk]
    rw [e2, List.getElem_toArray]
    have h3 : (cells2 f g l)[t]? = some (cells2 f g l)[t] := List.getElem?_eq_getElem (by rw [cells2_len]; exact ht)
    rcases Nat.mod_two_eq_zero_or_one t with h0 | h0
    · rw [show t / 2 * 2 = t by omega] at c1
      rw [c1] at h3
      injection h3 with h3
      rw [← h3, h0]; rfl
    · rw [show t / 2 * 2 + 1 = t by omega] at c2
      rw [c2] at h3
      injection h3 with h3
      rw [← h3, h0]; rfl
theorem holds2 {w : World} {b : Nat} {cur : Array Value} {e : TypeId} {ss : List α} (hb : w.heap[b]? = some (.cells cur e (0, 0))) (ht : cur.toList.take (ss.length * 2) = cells2 f g ss) :
    HoldsK (fun x => [f x, g x]) 2 w b 0 ss.toArray := by
  unfold HoldsK
  rw [flat2]
  exact holds_own (enc := id) hb (by rw [cells2_len, ht, List.map_id])
theorem grown2 {w : World} {b n : Nat} {os : Array Obj} (d : List α) : w.grownBy (sortWorldK (fun x => [f x, g x]) 2 w b 0 n d.toArray os) (some b) :=
  grown_sorted (enc := id) (n := n) (os := os) (flatK (fun x => [f x, g x]) 2 d.toArray)
theorem own2 {w : World} {base b cap n : Nat} {e : TypeId} {os : Array Obj} {cur : Array Value} {k : Nat} {ts : List α} (hl : ts.length = k) (hbase : base ≤ b) (hb : w.heap[b]? = some (.cells cur e (0, 0)))
    (h1 : k ≤ cap) (h2 : cap ≤ maxLen) (h3 : cur.size = cap * 2) :
    (sortWorldK (fun x => [f x, g x]) 2 w b 0 n ts.toArray os).ownsRow base e 2 (.slice (some ⟨b, 0, none⟩) k cap) k (cells2 f g ts) := by
  have hh := heap_sortedG (enc := id) (n := n) (os := os) (flatK (fun x => [f x, g x]) 2 ts.toArray) hb
  have ht := take_putG (enc := id) cur (cells2 f g ts) (by rw [cells2_len]; omega)
  rw [cells2_len, List.map_id, ← flat2] at ht
  exact ⟨by rw [cells2_len, hl], .inr ⟨b, cap, _, rfl, hbase, hh, h1, h2, by simp [putCells, h3], by rw [← hl]; exact ht⟩⟩
end
end Go.Proofs.YtlhhcgiifgkngaaDoor
namespace Go.Proofs
open Go.Shelf Go.RowKit
def Tryd.laysE6_ren : Go.Shelf.Ren := ⟨fun | 6 => 67 | 14 => 113 | 15 => 114 | 28 => 157 | 29 => 158 | 20 => 149 | 21 => 150 | 22 => 151 | 23 => 152 | 24 => 153 | 25 => 154 | 26 => 155 | 27 => 156 | 46 => 189 | 47 => 190 | 48 => 191 | 49 => 192 | 50 => 193 | 57 => 216 | n => n, fun | 22 => 23 | 24 => 43 | 25 => 105 | 3 => 3 | 39 => 173 | 0 => 0 | 53 => 211 | 55 => 24 | 4 => 4 | 46 => 205 | 45 => 204 | 50 => 162 | 5 => 5 | 9 => 9 | 66 => 237 | 70 => 241 | 76 => 258 | 77 => 259 | n => n, fun | n => n⟩
theorem Tryd.laysE6 : Go.Proofs.SlLaysF0.n6 Tryd.prog Tryd.laysE6_ren := {
  mixed := by kernel_rfl
  f6 := ⟨Tryd.f67.name, by kernel_rfl, Tryd.func67.trans (congrArg some (by kernel_rfl))⟩
  f14 := ⟨Tryd.f113.name, by kernel_rfl, Tryd.func113.trans (congrArg some (by kernel_rfl))⟩
  f15 := Tryd.func114.trans (congrArg some (by kernel_rfl))
  f20 := ⟨Tryd.f149.name, by kernel_rfl, Tryd.func149.trans (congrArg some (by kernel_rfl))⟩
  f21 := ⟨Tryd.f150.name, by kernel_rfl, Tryd.func150.trans (congrArg some (by kernel_rfl))⟩
  f22 := ⟨Tryd.f151.name, by kernel_rfl, Tryd.func151.trans (congrArg some (by kernel_rfl))⟩
  f23 := ⟨Tryd.f152.name, by kernel_rfl, Tryd.func152.trans (congrArg some (by kernel_rfl))⟩
  f24 := ⟨Tryd.f153.name, by kernel_rfl, Tryd.func153.trans (congrArg some (by kernel_rfl))⟩
  f25 := ⟨Tryd.f154.name, by kernel_rfl, Tryd.func154.trans (congrArg some (by kernel_rfl))⟩
  f26 := ⟨Tryd.f155.name, by kernel_rfl, Tryd.func155.trans (congrArg some (by kernel_rfl))⟩
  f27 := ⟨Tryd.f156.name, by kernel_rfl, Tryd.func156.trans (congrArg some (by kernel_rfl))⟩
  f28 := Tryd.func157.trans (congrArg some (by kernel_rfl))
  f29 := Tryd.func158.trans (congrArg some (by kernel_rfl))
  f46 := ⟨Tryd.f189.name, by kernel_rfl, Tryd.func189.trans (congrArg some (by kernel_rfl))⟩
  f47 := Tryd.func190.trans (congrArg some (by kernel_rfl))
  f48 := Tryd.func191.trans (congrArg some (by kernel_rfl))
  f49 := ⟨Tryd.f192.name, by kernel_rfl, Tryd.func192.trans (congrArg some (by kernel_rfl))⟩
  f50 := ⟨Tryd.f193.name, by kernel_rfl, Tryd.func193.trans (congrArg some (by kernel_rfl))⟩
  f57 := ⟨Tryd.f216.name, by kernel_rfl, Tryd.func216.trans (congrArg some (by kernel_rfl))⟩
  t0 := Tryd.underlying0
  a0 := Tryd.isAgg0
  z0 := Tryd.sizeOf0
  v0 := Tryd.zeroValue0
  t3 := Tryd.underlying3
  a3 := Tryd.isAgg3
  z3 := Tryd.sizeOf3
  v3 := Tryd.zeroValue3
  t4 := Tryd.underlying4
  a4 := Tryd.isAgg4
  z4 := Tryd.sizeOf4
  v4 := Tryd.zeroValue4
  t5 := Tryd.underlying5
  a5 := Tryd.isAgg5
  z5 := Tryd.sizeOf5
  v5 := Tryd.zeroValue5
  t9 := Tryd.underlying9
  a9 := Tryd.isAgg9
  z9 := Tryd.sizeOf9
  v9 := Tryd.zeroValue9
  t22 := Tryd.underlying23
  a22 := Tryd.isAgg23
  z22 := Tryd.sizeOf23
  v22 := Tryd.zeroValue23
  t25 := Tryd.underlying105
  a25 := Tryd.isAgg105
  z25 := Tryd.sizeOf105
  v25 := Tryd.zeroValue105
  t39 := Tryd.underlying173
  a39 := Tryd.isAgg173
  z39 := Tryd.sizeOf173
  v39 := Tryd.zeroValue173
  t45 := Tryd.underlying204
  a45 := Tryd.isAgg204
  z45 := Tryd.sizeOf204
  v45 := Tryd.zeroValue204
  t46 := Tryd.underlying205
  a46 := Tryd.isAgg205
  z46 := Tryd.sizeOf205
  v46 := Tryd.zeroValue205
  t50 := Tryd.underlying162
  a50 := Tryd.isAgg162
  z50 := Tryd.sizeOf162
  v50 := Tryd.zeroValue162
  t53 := Tryd.underlying211
  a53 := Tryd.isAgg211
  z53 := Tryd.sizeOf211
  v53 := Tryd.zeroValue211
  t55 := Tryd.underlying24
  a55 := Tryd.isAgg24
  z55 := Tryd.sizeOf24
  v55 := Tryd.zeroValue24
  t66 := Tryd.underlying237
  a66 := Tryd.isAgg237
  z66 := Tryd.sizeOf237
  v66 := Tryd.zeroValue237
  t70 := Tryd.underlying241
  a70 := Tryd.isAgg241
  z70 := Tryd.sizeOf241
  v70 := Tryd.zeroValue241
  t76 := Tryd.underlying258
  a76 := Tryd.isAgg258
  z76 := Tryd.sizeOf258
  v76 := Tryd.zeroValue258
  t77 := Tryd.underlying259
  a77 := Tryd.isAgg259
  z77 := Tryd.sizeOf259
  v77 := Tryd.zeroValue259 }
end Go.Proofs
namespace Go.Proofs
open Go.Shelf Go.RowKit
def Tryd.laysCloneS_ren : Go.Shelf.Ren := ⟨fun | 41 => 21 | n => n, fun | 22 => 22 | 23 => 9 | 4 => 4 | n => n, fun | n => n⟩
theorem Tryd.laysCloneS : Go.Proofs.SlLaysE0.n41 Tryd.prog Tryd.laysCloneS_ren := {
  mixed := by kernel_rfl
  f41 := ⟨Tryd.f21.name, by kernel_rfl, Tryd.func21.trans (congrArg some (by kernel_rfl))⟩
  t4 := Tryd.underlying4
  a4 := Tryd.isAgg4
  z4 := Tryd.sizeOf4
  v4 := Tryd.zeroValue4
  t22 := Tryd.underlying22
  a22 := Tryd.isAgg22
  z22 := Tryd.sizeOf22
  v22 := Tryd.zeroValue22 }
end Go.Proofs
namespace Go.Proofs.YtlhhcgiifgkngaaDoor
open Go.RowKit Go.Shelf Go.Sort
theorem CloneS_ok (p : Option Addr) (n c : Nat) (zs : List ByteArray) (w : World) (h : NL w p n c zs) :
    Calls Tryd.prog 21 #[.slice p n c] w fun e w' => ∃ (g : Option Addr) (cg : Nat), e = .returned (.slice g n cg) ∧ w'.ownsRow w.heap.size 9 1 (.slice g n cg) n (strsV zs) ∧ Below w.heap.size w w' := by
  have hl := h.at_.len
  have hr := h.reach
  have hb := h.at_.big
  cases p with
  | none =>
    have hn : n = 0 := by
      rcases Nat.eq_zero_or_pos n with h0 | h0
      · exact h0
      · obtain ⟨ad, e, _⟩ := h.at_.reads.2 h0
        cases e
    subst hn
    have hz : zs = [] := List.length_eq_zero_iff.1 hl
    subst hz
    refine (AnyE.slices_Clone_nil Tryd.laysCloneS 0 c w).mono ?_
    rintro e w' ⟨rfl, rfl⟩
    exact ⟨none, 0, rfl, World.ownsRow_nil _ _ _ _, Below.refl _ _⟩
  | some ad =>
    obtain ⟨b, o, rfl, _⟩ := h.plain _ rfl
    obtain ⟨i0, hi, hz0, hz1, hz2⟩ := info_parts info_str
    have hcon := AnyE.slices_Clone Tryd.laysCloneS i0 (.string ⟨#[]⟩) 1 16 hi hz0 hz1 hz2 rfl (by decide) (fun _ => by kernel_rfl) b o n c (strsV zs) w (by simp [strsV, hl]) (by unfold maxLen; omega) (by omega)
      (fun j u hu => by
        have hj : j < zs.length := by
          have := (List.getElem?_eq_some_iff.1 hu).1
          simpa [strsV] using this
        have h0 := h.cellAt j hj
        rw [h0, ← hu]
        unfold strsV
        simp [hj])
      (fun u hu => by
        obtain ⟨x, _, rfl⟩ := List.mem_map.1 hu
        rfl)
    refine hcon.mono ?_
    rintro e w' ⟨v', rfl, hown, _, hbel⟩
    obtain ⟨g, cg, rfl, _⟩ := own_formT hown
    exact ⟨g, cg, rfl, hown, hbel⟩
set_option maxHeartbeats 1000000 in
set_option maxRecDepth 100000 in
theorem eorder_ex (a b : E2) (w : World) : Calls Tryd.prog 61 #[e2V a, e2V b] w fun e w' => e = .returned (.int .i64 (ordE a b)) ∧ ∃ q os, w' = grow (w.drewN q) os := by
  obtain ⟨a1, a2⟩ := a
  obtain ⟨b1, b2⟩ := b
  unfold e2V ordE
  simp only
  obtain ⟨x, hx⟩ : ∃ x, Lib.compareInt a1 b1 = x := ⟨_, rfl⟩
  obtain ⟨y, hy⟩ : ∃ y, Lib.compareInt a2 b2 = y := ⟨_, rfl⟩
  rw [hx, hy]
  have HO := Lib.hid (or_ok x y)
  obtain ⟨v, hv⟩ : ∃ v, (if x ≠ 0 then x else y) = v := ⟨_, rfl⟩
  rw [hv] at HO ⊢
  clear hv
  have HX := Lib.hid (Tryd.cmp_Compare_int a1 b1)
  have HY := Lib.hid (Tryd.cmp_Compare_int a2 b2)
  rw [hx] at HX
  rw [hy] at HY
  clear hx hy
  go_enter Tryd.func61, Tryd.ntmps61
  go_wp2
  obtain ⟨W, hW⟩ : ∃ W, W = (w.alloc (.cells #[.int .i64 a1, .int .i64 a2] 43)).alloc (.cells #[.int .i64 b1, .int .i64 b2] 43) := ⟨_, rfl⟩
  have c1 : W.cell? ⟨w.heap.size, 0, none⟩ = some (.int .i64 a1) := by rw [hW, World.cell?_alloc_lt _ _ _ (by simp), World.cell?_alloc_at _ _ _ _ rfl]; rfl
  have c2 : W.cell? ⟨w.heap.size, 1, none⟩ = some (.int .i64 a2) := by rw [hW, World.cell?_alloc_lt _ _ _ (by simp), World.cell?_alloc_at _ _ _ _ rfl]; rfl
  have c3 : W.cell? ⟨w.heap.size + 1, 0, none⟩ = some (.int .i64 b1) := by rw [hW, World.cell?_alloc_at _ _ _ _ (by simp)]; rfl
  have c4 : W.cell? ⟨w.heap.size + 1, 1, none⟩ = some (.int .i64 b2) := by rw [hW, World.cell?_alloc_at _ _ _ _ (by simp)]; rfl
  have HG : Hid (∃ os, W = grow w os) := by
    show ∃ os, _
    exact ⟨_, by rw [hW, alloc_eq_grow, alloc_eq_grow, grow_grow]⟩
  rw [← hW]
  clear hW
  refine wp_region_still_tail 10 (by kernel_rfl) (by kernel_rfl) ?_
  simp only [List.take_succ_cons, List.take_zero, List.drop_succ_cons, List.drop_zero]
  repeat still_step
  still_call (HX.out _)
  repeat still_step
  still_call (HY.out _)
  repeat still_step
  refine wpStill_nil ?_
  obtain ⟨W2, hW2⟩ : ∃ W2 : World, W2 = { heap := W.heap, tape := W.tape, drawn := W.drawn + 1, os := W.os, output := W.output } := ⟨_, rfl⟩
  have HG2 : Hid (∃ q os, W2 = grow (w.drewN q) os) := by
    show ∃ q os, _
    obtain ⟨os, ho⟩ := HG.out
    exact ⟨1, os, by rw [hW2, ho]; rfl⟩
  rw [← hW2]
  clear hW2 c1 c2 c3 c4 HG
  go_wp2_with (go_at_call 109; refine (HO.out _ _ (by rw [World.cell?_alloc_at _ _ _ _ rfl]; rfl) (by rw [World.cell?_alloc_at _ _ _ _ rfl]; rfl)).mono ?_; rintro e w' ⟨rfl, rfl⟩)
  go_ret
  obtain ⟨q, os, ho⟩ := HG2.out
  exact ⟨rfl, q, _, by rw [alloc_eq_grow, ho, grow_grow]⟩
def encE (x : E2) : List Value := [eF x, eG x]
theorem swoE : SWO (ltOf ordE) := by
  have key : ∀ x y, ltOf ordE x y = decide (elt x y) := fun x y => by
    unfold ltOf
    rw [Bool.eq_iff_iff, decide_eq_true_iff, decide_eq_true_iff, ordE_neg]
  refine ⟨fun x => ?_, fun x y z h1 h2 => ?_, fun x y z h1 h2 => ?_⟩
  · rw [key, decide_eq_false_iff_not]; exact elt_irr
  · rw [key, decide_eq_true_iff] at *; exact elt_trans h1 h2
  · rw [key, decide_eq_false_iff_not] at *
    intro h
    rcases elt_tri x y with h3 | h3 | h3
    · exact h1 h3
    · subst h3; exact h2 h
    · exact h2 (elt_trans h3 h)
/-- the library sorts a slice of edges of the call's own -/
theorem sortE_ok (base : Nat) (p : Option Addr) (n c : Nat) (xs : List E2) (w : World) (h : w.ownsRow base 43 2 (.slice p n c) n (cells2 eF eG xs)) (hbig : n ≤ 8796093022208) :
    Calls Tryd.prog 67 #[.slice p n c, .func (.func 61) #[] #[]] w fun e w' =>
      e = .returned (.tuple #[]) ∧ ∃ ts : List E2, ts.Perm xs ∧ ts.Pairwise (fun a b => ¬ elt b a) ∧ w'.ownsRow base 43 2 (.slice p n c) n (cells2 eF eG ts) ∧ w.grownBy w' (Value.slice p n c).ownBlock := by
  have hxl : xs.length = n := by have := h.1; rw [cells2_len] at this; omega
  rcases h.2 with ⟨hv, hn⟩ | ⟨g, cap, cur, hv, hb, hg, h1, h2, h3, h4⟩
  · injection hv with e1 e2 e3
    subst e1 e3 hn
    refine (AnyF.slices_SortFunc_none Tryd.laysE6 none 0 (.func (.func 61) #[] #[]) w).mono ?_
    rintro e w' ⟨rfl, rfl⟩
    have : xs = [] := List.length_eq_zero_iff.1 hxl
    subst this
    exact ⟨rfl, [], List.Perm.refl _, List.Pairwise.nil, World.ownsRow_nil _ _ _ _, ⟨rfl, rfl, rfl, Nat.le_refl _, fun _ _ _ => rfl⟩⟩
  · injection hv with e1 e2 e3
    subst e1 e3
    have hgl : g < w.heap.size := (Array.getElem?_eq_some_iff.1 hg).1
    have hH : HoldsK encE 2 w g 0 xs.toArray := holds2 eF eG hg (by rw [hxl]; exact h4)
    have hsz : xs.toArray.size = n := by simpa using hxl
    have eg : ∀ args w, (callFunc 61 args).run Tryd.prog w = .ok (.enter 61 args) w := enters_of Tryd.func61 (by kernel_rfl) rfl
    have hcmp : CmpLays Tryd.prog 61 #[] encE 2 ordE g 0 xs.toArray.size w := fun m os dk _ x y => eorder_ex x y _
    have hcon := AnyQ.slices_SortFunc Tryd.laysE6 2 (fun _ => by kernel_rfl) (fun _ => by kernel_rfl) encE (fun _ => rfl) (fun x v hv => by
      simp [encE, eF, eG] at hv
      rcases hv with rfl | rfl <;> rfl) ordE swoE 61 #[] g 0 c xs.toArray w eg hcmp hH hgl (by rw [hsz]; omega)
    rw [hsz] at hcon
    refine hcon.mono ?_
    rintro e w' ⟨rfl, d', nd, os, hp, hso, rfl⟩
    have hds : d'.size = n := by
      have := hp.1
      rw [this]; exact hsz
    have hdl : d'.toList.length = n := by rw [Array.length_toList]; exact hds
    have hpm : d'.toList.Perm xs := by
      have h := hp.2.2
      have e1 : d'.extract 0 n = d' := by rw [← hds]; simp
      have e2 : xs.toArray.extract 0 n = xs.toArray := by rw [← hsz]; simp
      rw [e1, e2] at h
      simpa using h
    refine ⟨rfl, d'.toList, hpm, ?_, ?_, ?_⟩
    · rw [List.pairwise_iff_getElem]
      intro i j hi hj hij
      have := hso i j (Nat.zero_le _) hij (by omega)
      have e1 : d'[i]! = d'.toList[i] := by rw [getElem!_pos d' i (by rw [hds]; omega)]; simp
      have e2 : d'[j]! = d'.toList[j] := by rw [getElem!_pos d' j (by rw [hds]; omega)]; simp
      rw [e1, e2] at this
      unfold ltOf at this
      rw [decide_eq_false_iff_not, ordE_neg] at this
      exact this
    · have := own2 eF eG (n := nd) (os := os) (e := 43) (ts := d'.toList) hdl hb hg h1 h2 h3
      rw [Array.toArray_toList] at this
      exact this
    · have := grown2 eF eG (w := w) (b := g) (n := nd) (os := os) d'.toList
      rw [Array.toArray_toList] at this
      exact this
/-- what Turn answers -/
def TurnPost (w : World) (g : GD) (e : Ending) (w' : World) : Prop :=
  ((Good g ∧ ∃ (p q : Option Addr) (c d : Nat) (ts : List E2), TurnOf g.edges ts ∧ ts.length = g.edges.length ∧
      e = .returned (.tuple #[.agg #[.slice p g.names.length c, .slice q g.edges.length d, .int .u64 (un g.phony : Int), .int .u64 (un g.made : Int)], .int .i64 0]) ∧
      w'.ownsRow w.heap.size 9 1 (.slice p g.names.length c) g.names.length (strsV g.names) ∧ w'.ownsRow w.heap.size 43 2 (.slice q g.edges.length d) g.edges.length (cells2 eF eG ts)) ∨
    (¬ Good g ∧ ∃ E : Int, E ≠ 0 ∧ e = .returned (.tuple #[.agg #[.slice none 0 0, .slice none 0 0, .int .u64 0, .int .u64 0], .int .i64 E]))) ∧ Below w.heap.size w w'
/-- where Turn stands when its new graph is laid -/
structure CutT (W : World) (g : GD) (bx : Nat) (gp : Option Addr) (gc : Nat) (wx : World) : Prop where
  ge : W.heap.size ≤ bx
  lt : bx < wx.heap.size
  below : Below W.heap.size W wx
  box : wx.heap[bx]? = some (.cells #[.slice gp g.names.length gc, .slice none 0 0, .int .u64 (un g.phony : Int), .int .u64 (un g.made : Int)] 26 (0, 0))
  own : wx.ownsRow W.heap.size 9 1 (.slice gp g.names.length gc) g.names.length (strsV g.names)
  ne : (Value.slice gp g.names.length gc).ownBlock ≠ some bx
theorem grown_set4 (w : World) (b : Nat) (u0 u1 u2 u3 : Value) : w.grownBy ((((w.setCell ⟨b, 0, none⟩ u0).setCell ⟨b, 1, none⟩ u1).setCell ⟨b, 2, none⟩ u2).setCell ⟨b, 3, none⟩ u3) (some b) :=
  (((grown_set w ⟨b, 0, none⟩ u0).trans (grown_set _ ⟨b, 1, none⟩ u1)).trans (grown_set _ ⟨b, 2, none⟩ u2)).trans (grown_set _ ⟨b, 3, none⟩ u3)
theorem cutT_a {W w2 w3 : World} {g : GD} {gp : Option Addr} {gc : Nat} (hW2 : Below W.heap.size W w2) (ho : w3.ownsRow w2.heap.size 9 1 (.slice gp g.names.length gc) g.names.length (strsV g.names)) (hb : Below W.heap.size W w3) :
    CutT W g w3.heap.size gp gc (w3.alloc (.cells #[.slice gp g.names.length gc, .slice none 0 0, .int .u64 (un g.phony : Int), .int .u64 (un g.made : Int)] 26)) :=
  ⟨hb.size, by simp, hb.alloc hb.size _, han _ _, (World.ownsRow.mono ho hW2.size).alloc _, fun e => by have := (ho.lt _ e).2; omega⟩
theorem cutT_b {W w2 w3 : World} {g : GD} {gp : Option Addr} {gc B : Nat} {v0 v1 v2 v3 : Value} (hW2 : Below W.heap.size W w2) (hB : w2.heap.size < B) (hs : w2.heap.size < w3.heap.size) (ho : w3.ownsRow B 9 1 (.slice gp g.names.length gc) g.names.length (strsV g.names)) (hb : Below W.heap.size W w3)
    (hx : w3.heap[w2.heap.size]? = some (.cells #[v0, v1, v2, v3] 26 (0, 0))) :
    CutT W g w2.heap.size gp gc ((((w3.setCell ⟨w2.heap.size, 0, none⟩ (.slice gp g.names.length gc)).setCell ⟨w2.heap.size, 1, none⟩ (.slice none 0 0)).setCell ⟨w2.heap.size, 2, none⟩ (.int .u64 (un g.phony : Int))).setCell ⟨w2.heap.size, 3, none⟩ (.int .u64 (un g.made : Int))) := by
  have hne : (Value.slice gp g.names.length gc).ownBlock ≠ some w2.heap.size := fun e => by have := (ho.lt _ e).1; omega
  exact ⟨hW2.size, Nat.lt_of_lt_of_le hs (grown_set4 _ _ _ _ _ _).size, below_set4 hb hW2.size _ _ _ _, box4_all hx _ _ _ _, (World.ownsRow.mono ho (by have := hW2.size; omega)).kept (grown_set4 _ _ _ _ _ _) (.inr hne), hne⟩
/-- what the loop of Turn keeps: j edges are turned -/
structure TInv (wc : World) (g : GD) (bx : Nat) (gp : Option Addr) (gc j : Nat) (pe : Option Addr) (ce : Nat) (wr : World) : Prop where
  box : wr.heap[bx]? = some (.cells #[.slice gp g.names.length gc, .slice pe j ce, .int .u64 (un g.phony : Int), .int .u64 (un g.made : Int)] 26 (0, 0))
  own : wr.ownsRow wc.heap.size 43 2 (.slice pe j ce) j (cells2 eF eG ((g.edges.take j).map swapE))
  grow : wc.grownBy wr (some bx)
theorem TInv.alloc {wc wr : World} {g : GD} {bx gc j ce : Nat} {gp pe : Option Addr} (h : TInv wc g bx gp gc j pe ce wr) (o : Obj) : TInv wc g bx gp gc j pe ce (wr.alloc o) := by
  have hlt : bx < wr.heap.size := (Array.getElem?_eq_some_iff.1 h.box).1
  exact ⟨(hao _ _ _ hlt).trans h.box, h.own.alloc o, h.grow.trans (World.grownBy_alloc _ _ _)⟩
theorem TInv.app {wc X w5 : World} {g : GD} {bx gc j ce : Nat} {gp pe : Option Addr} (h : TInv wc g bx gp gc j pe ce X) (hbx : bx < wc.heap.size) (hg : X.grownBy w5 (Value.slice pe j ce).ownBlock) :
    w5.heap[bx]? = some (.cells #[.slice gp g.names.length gc, .slice pe j ce, .int .u64 (un g.phony : Int), .int .u64 (un g.made : Int)] 26 (0, 0)) ∧ wc.grownBy w5 (some bx) := by
  have hlt : bx < X.heap.size := (Array.getElem?_eq_some_iff.1 h.box).1
  have hne : ∀ k, (Value.slice pe j ce).ownBlock = some k → wc.heap.size ≤ k := fun k hk => (h.own.lt k hk).1
  exact ⟨(hg.block bx hlt fun e => by have := hne bx e.symm; omega).trans h.box, grown_step h.grow hg fun k hk => .inr (hne k hk)⟩
theorem TInv.set {wc w5 : World} {g : GD} {bx gc j ce ce2 : Nat} {gp pe pe2 : Option Addr} (hbx : bx < wc.heap.size)
    (h1 : w5.heap[bx]? = some (.cells #[.slice gp g.names.length gc, .slice pe j ce, .int .u64 (un g.phony : Int), .int .u64 (un g.made : Int)] 26 (0, 0))) (h2 : wc.grownBy w5 (some bx))
    (ho : w5.ownsRow wc.heap.size 43 2 (.slice pe2 (j + 1) ce2) (j + 1) (cells2 eF eG ((g.edges.take (j + 1)).map swapE))) :
    TInv wc g bx gp gc (j + 1) pe2 ce2 (w5.setCell ⟨bx, 1, none⟩ (.slice pe2 (j + 1) ce2)) :=
  ⟨box4_set1 h1 _, ho.kept (grown_set _ _ _) (.inr fun e => by have := (ho.lt bx e).1; omega), h2.trans (grown_set _ _ _)⟩
theorem take_swap {es : List E2} {j : Nat} (h : j < es.length) : (es.take (j + 1)).map swapE = (es.take j).map swapE ++ [swapE (es.getD j (0, 0))] := by
  rw [List.take_succ_eq_append_getElem h, List.map_append, List.getD_eq_getElem?_getD, List.getElem?_eq_getElem h]; rfl
set_option maxHeartbeats 4000000 in
set_option maxRecDepth 100000 in
theorem Turn_ok (v : Value) (g : GD) (w : World) (h : GrAt w v g) : Calls Tryd.prog 20 #[v] w (TurnPost w g) := by
  have hGr := h
  obtain ⟨p, n, c, q, m, d, rfl, hN, hE⟩ := h.at_
  have hln := hN.at_.len
  have hlm := hE.len
  subst hln hlm
  have hbn := hN.at_.big
  have hbm := hE.big
  obtain ⟨W, hW⟩ : ∃ W, W = (w.alloc (.cells #[.slice p g.names.length c, .slice q g.edges.length d, .int .u64 (un g.phony : Int), .int .u64 (un g.made : Int)] 26)).alloc (.cells #[.slice none 0 0, .slice none 0 0, .int .u64 0, .int .u64 0] 26) := ⟨_, rfl⟩
  have hBW : Below w.heap.size w W := by rw [hW]; exact ((Below.refl _ _).alloc (Nat.le_refl _) _).alloc (by simp) _
  have HS : Hid (W.heap.size = w.heap.size + 2) := by show _ = _; rw [hW]; simp
  have HC : Hid (∀ u : World, Below W.heap.size W u → u.heap[w.heap.size]? = some (.cells #[.slice p g.names.length c, .slice q g.edges.length d, .int .u64 (un g.phony : Int), .int .u64 (un g.made : Int)] 26 (0, 0)) ∧ u.heap[w.heap.size + 1]? = some (.cells #[.slice none 0 0, .slice none 0 0, .int .u64 0, .int .u64 0] 26 (0, 0))) := by
    show ∀ u : World, _ → _
    intro u hu
    have hs := HS.out
    rw [hu.block _ (by omega), hu.block _ (by omega), hW]
    exact ⟨by rw [hao _ _ _ (by simp), han], han2 _ _ _⟩
  have HN := Lib.hid (hN.below hBW)
  have HE := Lib.hid (hE.below hBW)
  have HGr := Lib.hid (hGr.below hBW)
  have HFIN : Hid (∀ u, Below W.heap.size W u → Below w.heap.size w u) := by show ∀ u, _; exact fun u hu => hBW.trans (hu.mono (by have := HS.out; omega))
  obtain ⟨hb0, hb1⟩ := HC.out W (Below.refl _ _)
  obtain ⟨k0, k1, k2, k3, _⟩ := box4 hb0
  rw [hW] at k0 k1 k2 k3
  clear hN hE hBW h hGr hb0 hb1
  go_enter Tryd.func20, Tryd.ntmps20
  go_wp2_with fail
  rw [← hW]
  clear hW k0 k1 k2 k3
  refine (CheckG2_ok _ g W HGr.out).mono ?_
  rintro e w2 ⟨⟨E, rfl, hcase⟩, hb2⟩
  have HB2 := Lib.hid hb2
  obtain ⟨hb0, hb1⟩ := HC.out w2 hb2
  obtain ⟨k0, k1, k2, k3, _⟩ := box4 hb0
  obtain ⟨l0, l1, l2, l3, l4⟩ := box4 hb1
  clear hb2
  rcases hcase with ⟨rfl, hG⟩ | ⟨hE0, hG⟩
  · have HG := Lib.hid hG
    have HB := Lib.hid hb0
    have HB1 := Lib.hid hb1
    clear hG hb0 hb1
    have HSS : Hid (∀ u : World, Below W.heap.size W u → u.cell? ⟨w.heap.size, 0, none⟩ = some (.slice p g.names.length c) ∧ u.cell? ⟨w.heap.size, 2, none⟩ = some (.int .u64 (un g.phony : Int)) ∧ u.cell? ⟨w.heap.size, 3, none⟩ = some (.int .u64 (un g.made : Int))) := by
      show ∀ u : World, _ → _
      intro u hu
      obtain ⟨q0, _, q2, q3, _⟩ := box4 (HC.out u hu).1
      exact ⟨q0, q2, q3⟩
    have HCl : Hid (∀ u : World, Below W.heap.size W u → Calls Tryd.prog 21 #[.slice p g.names.length c] u fun e w' => ∃ (gp : Option Addr) (gc : Nat), e = .returned (.slice gp g.names.length gc) ∧ Hid (w'.ownsRow u.heap.size 9 1 (.slice gp g.names.length gc) g.names.length (strsV g.names)) ∧ Hid (Below u.heap.size u w') ∧ Hid (Below W.heap.size W w')) := by
      show ∀ u : World, _
      intro u hu
      refine (CloneS_ok p _ c g.names u (HN.out.below hu)).mono ?_
      rintro e w' ⟨gp, gc, h1, h2, h3⟩
      exact ⟨gp, gc, h1, h2, h3, hu.trans (h3.mono hu.size)⟩
    go_upto_region 5 with fail
    go_cut [5] (fun out wx => ∃ (bx : Nat) (gp : Option Addr) (gc : Nat), out = .pointer (some ⟨bx, 0, none⟩) ∧ Hid (CutT W g bx gp gc wx))
    case first =>
      go_wp2_with fail
      go_region_held3 (fun u : World => u.cell? ⟨w.heap.size, 0, none⟩ = some (.slice p g.names.length c) ∧ u.cell? ⟨w.heap.size, 2, none⟩ = some (.int .u64 (un g.phony : Int)) ∧ u.cell? ⟨w.heap.size, 3, none⟩ = some (.int .u64 (un g.made : Int)))
        (first | exact HSS.out _ HB2.out.drew | exact HSS.out _ HB3.out | exact HSS.out _ (HB2.out.drew.alloc HB2.out.size _) | exact HSS.out _ (HB3.out.alloc HB3.out.size _) | exact HSS.out _ (below_set4 HB3.out HB2.out.size _ _ _ _))
        (first | (go_at_call 21; refine (HCl.out _ HB2.out.drew).mono ?_; rintro e w3 ⟨gp, gc, rfl, HO3, HB23, HB3⟩) | (go_at_call 21; refine (HCl.out _ (HB2.out.drew.alloc HB2.out.size _)).mono ?_; rintro e w3 ⟨gp, gc, rfl, HO3, HB23, HB3⟩; have hbx := (HB23.out.block w2.heap.size (by simp)).trans (han _ _); obtain ⟨z0, z1, z2, z3, z4⟩ := box4 hbx; have HBX := Lib.hid hbx; have z5 := z4 0; have z6 := z4 1; have z7 := z4 2; have z8 := z4 3; clear hbx z4))
      all_goals
        go_wp2_with fail
        go_meet
        first
          | exact ⟨_, gp, gc, rfl, cutT_a HB2.out HO3.out HB3.out⟩
          | exact ⟨_, gp, gc, rfl, cutT_b HB2.out (Nat.lt_of_lt_of_le (Nat.lt_succ_self _) (Nat.le_of_eq (by simp))) (Nat.lt_of_lt_of_le (Nat.lt_of_lt_of_le (Nat.lt_succ_self _) (Nat.le_of_eq (by simp))) HB23.out.size) HO3.out HB3.out HBX.out⟩
    case rest =>
      obtain ⟨bx, gp, gc, rfl, HCut⟩ := hcut
      clear k0 k1 k2 k3 l0 l1 l2 l3 l4 HB HB1 HB2 HCl
      have hk := box4 (HC.out wc HCut.out.below).1
      obtain ⟨k0, k1, k2, k3, _⟩ := hk
      go_wp2_with fail
      go_loopg [25] g.edges.length (fun k i wr => ∃ (j : Nat) (pe : Option Addr) (ce : Nat), k + j = g.edges.length ∧ i = .int .i64 j ∧ Hid (TInv wc g bx gp gc j pe ce wr))
      case atStart => exact ⟨0, none, 0, by omega, rfl, show TInv _ _ _ _ _ _ _ _ _ from ⟨HCut.out.box, World.ownsRow_nil _ _ _ _, ⟨rfl, rfl, rfl, Nat.le_refl _, fun _ _ _ => rfl⟩⟩⟩
      case round =>
        obtain ⟨j, pe, ce, hj, rfl, HI⟩ := hrel
        have HBr : Hid (Below W.heap.size W wr) := by show Below _ _ _; exact HCut.out.below.grown HI.out.grow HCut.out.below.size (fun k hk => by cases hk; exact HCut.out.ge)
        by_cases hlt : j < g.edges.length
        · obtain ⟨b, o, rfl, hbb, hca, hcb⟩ := (HE.out.below HBr.out).cell (getD_some (0, 0) hlt)
          have HTS := Lib.hid (take_swap hlt)
          generalize g.edges.getD j (0, 0) = y at *
          obtain ⟨y1, y2⟩ := y
          simp only [eF, eG] at hca hcb
          have hca2 : wr.cell? ⟨b, o + j * 2 + 1, none⟩ = some (.int .i64 y2) := hcb
          obtain ⟨X, hX⟩ : ∃ X : World, X = wr.alloc (.cells #[.int .i64 y1, .int .i64 y2] 43) := ⟨_, rfl⟩
          have HIX : Hid (TInv wc g bx gp gc j pe ce X) := by show TInv _ _ _ _ _ _ _ _ _; rw [hX]; exact HI.out.alloc _
          have d1 : X.cell? ⟨wr.heap.size, 0, none⟩ = some (.int .i64 y1) := by rw [hX, World.cell?_alloc_at _ _ _ _ rfl]; rfl
          have d2 : X.cell? ⟨wr.heap.size, 1, none⟩ = some (.int .i64 y2) := by rw [hX, World.cell?_alloc_at _ _ _ _ rfl]; rfl
          clear k0 k1 k2 k3 hcb
          go_upto_region 8 with fail
          rw [← hX]
          clear hX hca hca2
          obtain ⟨b0, b1, b2, b3, _⟩ := box4 HIX.out.box
          have HOX := Lib.hid HIX.out.own
          have hsz : wc.heap.size ≤ X.heap.size := HIX.out.grow.size
          have hbxl := HCut.out.lt
          go_wp2_with (at_builtin; refine app_edge _ rfl _ _ rfl wc.heap.size _ j _ rfl (HOX.out.alloc _) X.heap.size (y2, y1) rfl (by rw [World.cell?_alloc_at _ _ _ _ rfl]; rfl) (by rw [World.cell?_alloc_at _ _ _ _ rfl]; rfl) (by omega) ?c2 ?_; rotate_right; intro v' w5 hown5 hgrow5; obtain ⟨pe2, ce2, rfl, _⟩ := own_formT hown5; have h5 := (HIX.out.alloc _).app hbxl hgrow5; have HO5 := Lib.hid hown5; obtain ⟨e0, e1, e2, e3, e4⟩ := box4 h5.1; have e5 := e4 1; have H5 := Lib.hid h5; clear h5 hown5 hgrow5 e4)
          case c2 => simp; omega
          go_roundg (g.edges.length - (j + 1))
          case measure => omega
          case rel => exact ⟨j + 1, pe2, ce2, by omega, by go_num, TInv.set hbxl H5.out.1 H5.out.2 (by rw [HTS.out]; exact HO5.out)⟩
        · obtain rfl : j = g.edges.length := by omega
          have hbb := HI.out.box
          obtain ⟨b0, b1, b2, b3, _⟩ := box4 hbb
          have ho := HI.out.own
          rw [List.take_length] at ho
          have HSo := Lib.hid (sortE_ok wc.heap.size pe _ ce (g.edges.map swapE) wr ho hbm)
          have HBB := Lib.hid hbb
          clear hbb ho k0 k1 k2 k3 hlt
          go_wp2_with (go_at_call 67; refine HSo.out.mono ?_; rintro e w6 ⟨rfl, ts, hp, hs, ho6, hg6⟩; have HTO := Lib.hid (turn_of HG.out.erise hp hs); have HLE := Lib.hid hp.length_eq; have HO6 := Lib.hid ho6; have HG6 := Lib.hid hg6; have hb6 := (hg6.block bx (Array.getElem?_eq_some_iff.1 HBB.out).1 (fun e => by have := (HI.out.own.lt bx e.symm).1; have := HCut.out.lt; omega)).trans HBB.out; obtain ⟨f0, f1, f2, f3, _⟩ := box4 hb6; have HB6 := Lib.hid hb6; have hw6 : Below W.heap.size W w6 := HBr.out.grown hg6 HBr.out.size (fun k hk => Nat.le_trans HCut.out.below.size (HI.out.own.lt k hk).1); have hz6 := (HC.out w6 hw6).2; obtain ⟨l0, l1, l2, l3, l4⟩ := box4 hz6; have l5 := l4 0; have l6 := l4 1; have l7 := l4 2; have l8 := l4 3; have HZ6 := Lib.hid hz6; have HW6 := Lib.hid hw6; clear hp hs ho6 hg6 hb6 hw6 hz6 l4)
          refine bodyPost_ret (v := .tuple #[.agg #[.slice gp g.names.length gc, .slice pe g.edges.length ce, .int .u64 (un g.phony : Int), .int .u64 (un g.made : Int)], .int .i64 0]) (results_ct Tryd.results20 _ _ (w.heap.size + 1) 26 _ (0, 0) _ _ rfl rfl (box4_all HZ6.out _ _ _ _) Tryd.underlying26 rfl (by kernel_rfl)) rfl ⟨.inl ⟨HG.out, gp, pe, gc, ce, ts, HTO.out, ?hl, rfl, ?hn, ?he⟩, below_set4 (HFIN.out _ HW6.out) (by omega) _ _ _ _⟩
          case hl => rw [HLE.out, List.length_map]
          case hn =>
            have hle : w.heap.size + 2 ≤ W.heap.size := by rw [HS.out]; exact Nat.le_refl _
            have hne : (Value.slice gp g.names.length gc).ownBlock ≠ some (w.heap.size + 1) := fun e => by have := (HCut.out.own.lt _ e).1; omega
            have h0 := HCut.out.own
            have h1 := h0.kept HI.out.grow (.inr HCut.out.ne)
            have h2 := h1.kept HG6.out (by
              cases hq : (Value.slice gp g.names.length gc).ownBlock with
              | none => exact .inl rfl
              | some k =>
                refine .inr fun e => ?_
                have h3 := (HI.out.own.lt k e.symm).1
                have h4 := (h0.lt k hq).2
                omega)
            exact (World.ownsRow.mono h2 (by omega)).kept (grown_set4 _ _ _ _ _ _) (.inr hne)
          case he =>
            have hle : w.heap.size + 2 ≤ W.heap.size := by rw [HS.out]; exact Nat.le_refl _
            have hws := HCut.out.below.size
            have hne : (Value.slice pe g.edges.length ce).ownBlock ≠ some (w.heap.size + 1) := fun e => by have := (HO6.out.lt _ e).1; omega
            exact (World.ownsRow.mono HO6.out (by omega)).kept (grown_set4 _ _ _ _ _ _) (.inr hne)
  · have HG := Lib.hid hG
    obtain ⟨i1, i2⟩ := int_ne' hE0
    have HBL := Lib.hid hb1
    clear hG hb0 hb1
    have L4 := Lib.hid l4
    have l5 := L4.out 0
    have l6 := L4.out 1
    have l7 := L4.out 2
    have l8 := L4.out 3
    clear l4
    go_wp2
    refine bodyPost_ret (v := .tuple #[.agg #[.slice none 0 0, .slice none 0 0, .int .u64 0, .int .u64 0], .int .i64 E]) (results_ct Tryd.results20 _ _ (w.heap.size + 1) 26 _ (0, 0) _ _ rfl rfl ?hp Tryd.underlying26 rfl (by kernel_rfl)) rfl ⟨.inr ⟨HG.out, E, hE0, rfl⟩, ?hb⟩
    case hp => exact box4_all HBL.out _ _ _ _
    case hb => exact below_set4 (HFIN.out _ HB2.out) (by omega) _ _ _ _
end Go.Proofs.YtlhhcgiifgkngaaDoor
namespace Go.Proofs.YtlhhcgiifgkngaaDoor
open Go.RowKit
def isStr (u : Value) : Prop := ∃ s : ByteArray, u = .string s ∧ s.size ≤ 100
def isInt (u : Value) : Prop := ∃ z : Int, u = .int .i64 z
theorem app_strT (w : World) {ops : Array Oper} {rest : List Oper} {o : Oper} {a : Act} {Q : Exit → Act → World → Prop} (hgd : o.guard = none) (s x : Operand)
    (ho : o.op = .call { callee := .builtin .append, args := #[s, x], argTypes := #[22, 22] })
    (base : Nat) (v : Value) (n : Nat) (xs : List ByteArray) (hs : a.eval s = v) (hown : w.ownsRow base 9 1 v n (strsV xs))
    (g : Nat) (y : ByteArray) (hx : a.eval x = .slice (some ⟨g, 0, none⟩) 1 1) (hcell : w.cell? ⟨g, 0, none⟩ = some (.string y)) (hy : y.size ≤ 100)
    (hn : n < 8796093022208) (hbase : base ≤ w.heap.size) (hp : AllC w v isStr)
    (h : ∀ v' w', w'.ownsRow base 9 1 v' (n + 1) (strsV (xs ++ [y])) → w.grownBy w' v.ownBlock → AllC w' v' isStr → (v'.ownBlock = v.ownBlock ∨ v'.ownBlock = some w.heap.size) → wpList Tryd.prog ops Q rest (a.put o.dst v') w') : wpList Tryd.prog ops Q (o :: rest) a w := by
  obtain ⟨i0, hi, hz0, hz1, hz2⟩ := info_parts info_str
  refine wpList_append_all w hgd s x 22 ho base 9 i0 (.string ⟨#[]⟩) 1 16 Tryd.underlying22 hi hz0 hz1 hz2 rfl (by decide) v n _ hs hown ⟨g, 0, none⟩ 1 1 [.string y] hx rfl ?_ ?_ (by unfold maxLen; omega) (by omega) hbase isStr ?_ ?_ hp (fun v' w' h1 h2 h3 h4 => h v' w' ?_ h2 h3 h4)
  · intro j q hj
    match j, hj with
    | 0, hj => simp at hj; subst hj; simpa [Addr.add] using hcell
  · intro q hq; simp at hq; subst hq; rfl
  · intro q hq; simp [Value.cells] at hq; subst hq; exact ⟨_, rfl, by decide⟩
  · intro q hq; simp at hq; subst hq; exact ⟨_, rfl, hy⟩
  · rw [strsV_snoc]; exact h1
theorem app_edgeT (w : World) {ops : Array Oper} {rest : List Oper} {o : Oper} {a : Act} {Q : Exit → Act → World → Prop} (hgd : o.guard = none) (s x : Operand)
    (ho : o.op = .call { callee := .builtin .append, args := #[s, x], argTypes := #[23, 23] })
    (base : Nat) (v : Value) (n : Nat) (xs : List E2) (hs : a.eval s = v) (hown : w.ownsRow base 43 2 v n (cells2 eF eG xs))
    (g : Nat) (y : E2) (hx : a.eval x = .slice (some ⟨g, 0, none⟩) 1 1) (hc0 : w.cell? ⟨g, 0, none⟩ = some (.int .i64 y.1)) (hc1 : w.cell? ⟨g, 1, none⟩ = some (.int .i64 y.2))
    (hn : n ≤ 8796093022207) (hbase : base ≤ w.heap.size) (hp : AllC w v isInt)
    (h : ∀ v' w', w'.ownsRow base 43 2 v' (n + 1) (cells2 eF eG (xs ++ [y])) → w.grownBy w' v.ownBlock → AllC w' v' isInt → (v'.ownBlock = v.ownBlock ∨ v'.ownBlock = some w.heap.size) → wpList Tryd.prog ops Q rest (a.put o.dst v') w') : wpList Tryd.prog ops Q (o :: rest) a w := by
  obtain ⟨i0, hi, hz0, hz1, hz2⟩ := info_parts info_edge
  refine wpList_append_all w hgd s x 23 ho base 43 i0 _ 2 16 Tryd.underlying23 hi hz0 hz1 hz2 rfl (by decide) v n _ hs hown ⟨g, 0, none⟩ 1 1 [eF y, eG y] hx rfl ?_ ?_ (by unfold maxLen; omega) (by omega) hbase isInt ?_ ?_ hp (fun v' w' h1 h2 h3 h4 => h v' w' ?_ h2 h3 h4)
  · intro j q hj
    match j, hj with
    | 0, hj => simp at hj; subst hj; simpa [Addr.add, eF] using hc0
    | 1, hj => simp at hj; subst hj; simpa [Addr.add, eG] using hc1
  · intro q hq; simp at hq; rcases hq with rfl | rfl <;> rfl
  · intro q hq; simp [Value.cells] at hq; subst hq; exact ⟨_, rfl⟩
  · intro q hq; simp at hq; rcases hq with rfl | rfl <;> exact ⟨_, rfl⟩
  · rw [cells2_append]; exact h1
end Go.Proofs.YtlhhcgiifgkngaaDoor
namespace Go.Proofs.YtlhhcgiifgkngaaDoor
open Go.RowKit
theorem wp_append_all {P : Program} (w : World) {o : Oper} {a : Act} {K : Act → World → Prop} {Q : Exit → Act → World → Prop} (s x : Operand) (t : TypeId)
    (ho : o.op = .call { callee := .builtin .append, args := #[s, x], argTypes := #[t, t] })
    (base : Nat) (e : TypeId) (i : TypeInfo) (z : Value) (size bytes : Nat) (ht : P.underlying t = some (.slice e)) (hi : P.info? e = some i) (hz : i.zero = some z) (hsize : i.size = size) (hby : i.bytes = bytes) (hzs : z.cells.size = size) (hsz : 0 < size)
    (v : Value) (n : Nat) (xs : List Value) (hs : a.eval s = v) (hown : w.ownsRow base e size v n xs)
    (ad : Addr) (m c : Nat) (news : List Value) (hx : a.eval x = .slice (some ad) m c) (hl : news.length = m * size) (hnews : ∀ j u, news[j]? = some u → w.cell? (ad.add j) = some u) (h1 : ∀ u ∈ news, u.oneCell' = true)
    (h63 : n + m ≤ maxLen) (hbytes : (n + m) * bytes ≤ 140737488355328) (hbase : base ≤ w.heap.size) (Pr : Value → Prop) (pz : ∀ u ∈ z.cells.toList, Pr u) (pn : ∀ u ∈ news, Pr u) (hp : AllC w v Pr)
    (h : ∀ v' w', w'.ownsRow base e size v' (n + m) (xs ++ news) → w.grownBy w' v.ownBlock → AllC w' v' Pr → (v'.ownBlock = v.ownBlock ∨ v'.ownBlock = some w.heap.size) → K (a.put o.dst v') w') : o.wp P a w K Q := by
  subst hsize
  subst hby
  obtain ⟨v', w', hr, h2, h3, _, h6⟩ := run_append_own_at (P := P) w base t o.type e i z i.size i.bytes ht hi hz rfl rfl hzs hsz v n xs hown ad m c news hl hnews h1 h63 hbytes hbase
  have h5 := append_all ht hi hz hown hl hnews h1 h63 hbytes pz pn hp hr
  unfold Oper.wp execOp
  simp only [ho, resolve, invoke, builtin, Sem.run_bind, Sem.run_pure, Result.andThen_ok, List.map_toArray, List.map_cons, List.map_nil, hs, hx, hr]
  exact h v' w' h2 h3 h5 h6
theorem step_strT (w : World) {ops : Array Oper} {o : Oper} {a : Act} {K : Act → World → Prop} {Q : Exit → Act → World → Prop} {E : Prop} (hgd : o.guard = none) (s x : Operand)
    (ho : o.op = .call { callee := .builtin .append, args := #[s, x], argTypes := #[22, 22] })
    (base : Nat) (v : Value) (n : Nat) (xs : List ByteArray) (hs : a.eval s = v) (hown : w.ownsRow base 9 1 v n (strsV xs))
    (g : Nat) (y : ByteArray) (hx : a.eval x = .slice (some ⟨g, 0, none⟩) 1 1) (hcell : w.cell? ⟨g, 0, none⟩ = some (.string y)) (hy : y.size ≤ 100)
    (hn : n < 8796093022208) (hbase : base ≤ w.heap.size) (hp : AllC w v isStr)
    (h : ∀ v' w', w'.ownsRow base 9 1 v' (n + 1) (strsV (xs ++ [y])) → w.grownBy w' v.ownBlock → AllC w' v' isStr → (v'.ownBlock = v.ownBlock ∨ v'.ownBlock = some w.heap.size) → K (a.put o.dst v') w') :
    if Region.wanted o (yielded ops a.tmps) = true then Oper.wp Tryd.prog o a w K Q else E := by
  have hw : Region.wanted o (yielded ops a.tmps) = true := by simp [Region.wanted, hgd]
  rw [if_pos hw]
  obtain ⟨i0, hi, hz0, hz1, hz2⟩ := info_parts info_str
  refine wp_append_all w s x 22 ho base 9 i0 (.string ⟨#[]⟩) 1 16 Tryd.underlying22 hi hz0 hz1 hz2 rfl (by decide) v n _ hs hown ⟨g, 0, none⟩ 1 1 [.string y] hx rfl ?_ ?_ (by unfold maxLen; omega) (by omega) hbase isStr ?_ ?_ hp (fun v' w' h1 h2 h3 h4 => h v' w' ?_ h2 h3 h4)
  · intro j q hj
    match j, hj with
    | 0, hj => simp at hj; subst hj; simpa [Addr.add] using hcell
  · intro q hq; simp at hq; subst hq; rfl
  · intro q hq; simp [Value.cells] at hq; subst hq; exact ⟨_, rfl, by decide⟩
  · intro q hq; simp at hq; subst hq; exact ⟨_, rfl, hy⟩
  · rw [strsV_snoc]; exact h1
theorem step_edgeT (w : World) {ops : Array Oper} {o : Oper} {a : Act} {K : Act → World → Prop} {Q : Exit → Act → World → Prop} {E : Prop} (hgd : o.guard = none) (s x : Operand)
    (ho : o.op = .call { callee := .builtin .append, args := #[s, x], argTypes := #[23, 23] })
    (base : Nat) (v : Value) (n : Nat) (xs : List E2) (hs : a.eval s = v) (hown : w.ownsRow base 43 2 v n (cells2 eF eG xs))
    (g : Nat) (y : E2) (hx : a.eval x = .slice (some ⟨g, 0, none⟩) 1 1) (hc0 : w.cell? ⟨g, 0, none⟩ = some (.int .i64 y.1)) (hc1 : w.cell? ⟨g, 1, none⟩ = some (.int .i64 y.2))
    (hn : n ≤ 8796093022207) (hbase : base ≤ w.heap.size) (hp : AllC w v isInt)
    (h : ∀ v' w', w'.ownsRow base 43 2 v' (n + 1) (cells2 eF eG (xs ++ [y])) → w.grownBy w' v.ownBlock → AllC w' v' isInt → (v'.ownBlock = v.ownBlock ∨ v'.ownBlock = some w.heap.size) → K (a.put o.dst v') w') :
    if Region.wanted o (yielded ops a.tmps) = true then Oper.wp Tryd.prog o a w K Q else E := by
  have hw : Region.wanted o (yielded ops a.tmps) = true := by simp [Region.wanted, hgd]
  rw [if_pos hw]
  obtain ⟨i0, hi, hz0, hz1, hz2⟩ := info_parts info_edge
  refine wp_append_all w s x 23 ho base 43 i0 _ 2 16 Tryd.underlying23 hi hz0 hz1 hz2 rfl (by decide) v n _ hs hown ⟨g, 0, none⟩ 1 1 [eF y, eG y] hx rfl ?_ ?_ (by unfold maxLen; omega) (by omega) hbase isInt ?_ ?_ hp (fun v' w' h1 h2 h3 h4 => h v' w' ?_ h2 h3 h4)
  · intro j q hj
    match j, hj with
    | 0, hj => simp at hj; subst hj; simpa [Addr.add, eF] using hc0
    | 1, hj => simp at hj; subst hj; simpa [Addr.add, eG] using hc1
  · intro q hq; simp at hq; rcases hq with rfl | rfl <;> rfl
  · intro q hq; simp [Value.cells] at hq; subst hq; exact ⟨_, rfl⟩
  · intro q hq; simp at hq; rcases hq with rfl | rfl <;> exact ⟨_, rfl⟩
  · rw [cells2_append]; exact h1
end Go.Proofs.YtlhhcgiifgkngaaDoor
