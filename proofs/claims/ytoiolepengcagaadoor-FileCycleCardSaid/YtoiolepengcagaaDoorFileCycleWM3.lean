/- Texts joined: NLSetW, GrowLay, ConcatW, JoinW, GoodP, LinePartsW. Conditions: theirs. -/
import Derived.Test.YtoiolepengcagaaDoorFileCycleWM1
import Derived.Test.YtoiolepengcagaaDoorFileCycleWM2
import Derived.Shelf.Spec.SlicesGrow
import Derived.Test.YtoiolepengcagaaDoorProg
import Derived.Test.YtoiolepengcagaaDoorRows
import Derived.Test.YtoiolepengcagaaDoorMem
import Derived.WalkKit
import Derived.OpenShut
import Derived.Laws.StructEq
import Derived.Deep.QuietTactic
import Derived.BigQuiet
namespace Go.Proofs.YtoiolepengcagaaDoor
open Go.RowKit Go.Shelf
theorem mem_byt {zs : List ByteArray} {x : ByteArray} : x.data.toList ∈ byt zs ↔ x ∈ zs := by
  unfold byt
  rw [List.mem_map]
  constructor
  · rintro ⟨y, hy, e⟩
    have : y = x := by
      cases x; cases y
      congr 1
      exact Array.toList_inj.1 e
    rwa [this] at hy
  · intro h; exact ⟨x, h, rfl⟩
theorem mem_bz {bs : List (List UInt8)} {x : ByteArray} : x ∈ bz bs ↔ x.data.toList ∈ bs := by
  rw [← mem_byt, byt_bz]
theorem sortN_mem_bz {zs : List ByteArray} {x : ByteArray} : x ∈ bz (sortN zs) ↔ x ∈ zs := by
  rw [mem_bz, sortN_mem, mem_byt]
theorem sort_again (zs : List ByteArray) : sortN (bz (sortN zs)) = sortN zs :=
  strict_ext (sortN_strict _) (sortN_strict _) fun x => by rw [sortN_mem, byt_bz]
theorem sort_ext {zs ys : List ByteArray} (h : ∀ x, x ∈ zs ↔ x ∈ ys) : sortN zs = sortN ys :=
  strict_ext (sortN_strict _) (sortN_strict _) fun l => by
    rw [sortN_mem, sortN_mem]
    have := h ⟨l.toArray⟩
    rw [← mem_byt, ← mem_byt] at this
    exact this
theorem sortN_len (zs : List ByteArray) : (sortN zs).length ≤ zs.length := by
  unfold sortN
  refine Nat.le_trans (Lib.compact_length_le _) ?_
  rw [List.length_mergeSort, byt_len]; exact Nat.le_refl _
theorem okN_mem {zs : List ByteArray} {n : Nat} (hl : zs.length = n) : okN zs n ↔ ∀ s ∈ zs, nameE s = 0 := by
  subst hl
  constructor
  · intro h s hs
    obtain ⟨j, hj, e⟩ := List.mem_iff_getElem.1 hs
    have := h j hj
    rw [List.getD_eq_getElem?_getD, List.getElem?_eq_getElem hj] at this
    rw [← e]; exact this
  · intro h j hj
    refine h _ ?_
    rw [List.getD_eq_getElem?_getD, List.getElem?_eq_getElem hj]; exact List.getElem_mem hj
theorem okN_again {zs : List ByteArray} {n : Nat} (hl : zs.length = n) (h : okN zs n) : okN (bz (sortN zs)) (sortN zs).length := by
  rw [okN_mem (bz_len _)]
  rw [okN_mem hl] at h
  exact fun s hs => h s (sortN_mem_bz.1 hs)
theorem nameE_size {s : ByteArray} (h : nameE s = 0) : s.size ≤ 40 := by
  unfold nameE at h
  split at h
  · cases h
  · omega
/-- what Sort answers, as a slice of strings -/
theorem NL_sorted {w : World} {n : Nat} {zs : List ByteArray} {g : Option Addr} {c b : Nat} (hl : zs.length = n) (hok : okN zs n) (hn : n * 16 ≤ 140737488351232)
    (h : w.ownsRow b 9 1 (.slice g (sortN zs).length c) (sortN zs).length ((sortN zs).map encStr)) : NL w g (sortN zs).length c (bz (sortN zs)) := by
  rw [← bz_strs] at h
  refine NL_own h (fun s hs => ?_) ?_
  · have h1 := (okN_mem hl).1 hok s (sortN_mem_bz.1 hs)
    have h2 := nameE_size h1
    omega
  · have := sortN_len zs
    rw [hl] at this
    omega
theorem NL.cellAt {w : World} {n c b o : Nat} {zs : List ByteArray} (h : NL w (some ⟨b, o, none⟩) n c zs) : ∀ j, j < zs.length → w.cell? ⟨b, o + j, none⟩ = some (.string (zs.getD j ByteArray.empty)) := by
  intro j hj
  have hl := h.at_.len
  obtain ⟨ad, e, _, hc⟩ := str_at h.at_.reads (show j < n by omega)
  injection e with e
  subst e
  rwa [Addr.add_lit] at hc
theorem nl_contains {w : World} {p : Option Addr} {n c : Nat} {zs : List ByteArray} (h : NL w p n c zs) (x : ByteArray) :
    Calls Tryd.prog 22 #[.slice p n c, .string x] w fun e w' => e = .returned (.bool (Lib.containsS zs x)) ∧ w' = w := by
  have hl := h.at_.len
  have hb := h.at_.big
  subst hl
  rcases Nat.eq_zero_or_pos zs.length with h0 | h0
  · have : zs = [] := List.length_eq_zero_iff.1 h0
    subst this
    exact Tryd.slices_Contains_string_empty p c x w
  · obtain ⟨ad, rfl, _⟩ := h.at_.reads.2 h0
    obtain ⟨b, o, rfl, _⟩ := h.plain _ rfl
    have := Tryd.slices_Contains_string b o zs.length c zs x w (Nat.le_refl _) (by omega) h.cellAt
    rw [List.take_length] at this
    exact this
theorem has_iff {zs : List ByteArray} {x : ByteArray} : Lib.containsS zs x = true ↔ x ∈ zs := Lib.containsS_iff ..
theorem nl_equal {w : World} {p q : Option Addr} {n c d : Nat} {zs : List ByteArray} (h : NL w p n c zs) (h2 : NL w q n d zs) :
    Calls Tryd.prog 14 #[.slice p n c, .slice q n d] w fun e w' => e = .returned (.bool true) ∧ ∃ k, w' = w.drewN k := by
  have hl := h.at_.len
  have hb := h.at_.big
  subst hl
  rcases Nat.eq_zero_or_pos zs.length with h0 | h0
  · have : zs = [] := List.length_eq_zero_iff.1 h0
    subst this
    refine (Tryd.slices_Equal_string_empty p q c 0 d w (by omega)).mono ?_
    rintro e w' ⟨he, rfl⟩
    exact ⟨by simpa using he, 0, rfl⟩
  · obtain ⟨ad, rfl, _⟩ := h.at_.reads.2 h0
    obtain ⟨b, o, rfl, _⟩ := h.plain _ rfl
    obtain ⟨ad, rfl, _⟩ := h2.at_.reads.2 h0
    obtain ⟨b2, o2, rfl, _⟩ := h2.plain _ rfl
    refine (Tryd.slices_Equal_string b o zs.length c b2 o2 zs.length d zs zs w (Nat.le_refl _) (Nat.le_refl _) (by omega) (by omega) h.cellAt h2.cellAt).mono ?_
    rintro e w' ⟨he, hw⟩
    exact ⟨by simpa using he, hw⟩
theorem NL.drew {w : World} {p : Option Addr} {n c : Nat} {zs : List ByteArray} (h : NL w p n c zs) (k : Nat) : NL (w.drewN k) p n c zs := h.below (below_drawsP (Below.refl _ _) k)
end Go.Proofs.YtoiolepengcagaaDoor
namespace Go.Proofs
open Go.Shelf Go.RowKit
def Tryd.laysGs_ren : Go.Shelf.Ren := ⟨fun | 4 => 53 | n => n, fun | 0 => 0 | 3 => 3 | 4 => 4 | 9 => 9 | 20 => 20 | 22 => 28 | 25 => 9 | n => n, fun | n => n⟩
theorem Tryd.laysGs : Go.Proofs.Lays8.n4 Tryd.prog Tryd.laysGs_ren := {
  mixed := by kernel_rfl
  f4 := ⟨Tryd.f53.name, by kernel_rfl, Tryd.func53.trans (congrArg some (by kernel_rfl))⟩
  t0 := Tryd.underlying0
  a0 := Tryd.isAgg0
  z0 := Tryd.sizeOf0
  v0 := Tryd.zeroValue0
  t3 := Tryd.underlying3
  a3 := Tryd.isAgg3
  z3 := Tryd.sizeOf3
  v3 := Tryd.zeroValue3
  t4 := Tryd.underlying4
  a4 := Tryd.isAgg4
  z4 := Tryd.sizeOf4
  v4 := Tryd.zeroValue4
  t9 := Tryd.underlying9
  a9 := Tryd.isAgg9
  z9 := Tryd.sizeOf9
  v9 := Tryd.zeroValue9
  t20 := Tryd.underlying20
  a20 := Tryd.isAgg20
  z20 := Tryd.sizeOf20
  v20 := Tryd.zeroValue20
  t22 := Tryd.underlying28
  a22 := Tryd.isAgg28
  z22 := Tryd.sizeOf28
  v22 := Tryd.zeroValue28 }
end Go.Proofs
namespace Go.Proofs.YtoiolepengcagaaDoor
open Go.RowKit Go.Shelf
theorem run_append_nil_x {P : Program} (w : World) (base : Nat) (t ty e : TypeId) (i : TypeInfo) (ht : P.underlying t = some (.slice e)) (hi : P.info? e = some i)
    (v : Value) (k : Nat) (xs : List Value) (hown : w.ownsRow base e i.size v k xs) (c : Nat) :
    (Builtin.append_ #[t, t] ty #[v, .slice none 0 c]).run P w = .ok v w := by
  rcases hown.2 with ⟨rfl, rfl⟩ | ⟨g, cap, cur, rfl, hbg, hg, hnc, hcm, hcs, htake⟩
  · simp [Builtin.append_, run_underlying ht, sizeOf, typeInfo, hi, Builtin.lenOf, Builtin.firstCells]
  · simp [Builtin.append_, run_underlying ht, sizeOf, typeInfo, hi, Builtin.lenOf, Builtin.firstCells, hnc, storeCells]
/-- a slice of strings that the call can read; an empty one may point anywhere -/
structure NLw (w : World) (p : Option Addr) (n c : Nat) (zs : List ByteArray) : Prop where
  at_ : StrsAt w p n zs
  plain : 0 < n → ∀ ad, p = some ad → ∃ b off, ad = ⟨b, off, none⟩ ∧ b < w.heap.size
  reach : n * 16 ≤ 140737488351232
theorem NL.weak {w : World} {p : Option Addr} {n c : Nat} {zs : List ByteArray} (h : NL w p n c zs) : NLw w p n c zs := ⟨h.at_, fun _ => h.plain, h.reach⟩
theorem NLw.below {w w' : World} {p : Option Addr} {n c : Nat} {zs : List ByteArray} (h : NLw w p n c zs) (hb : Below w.heap.size w w') : NLw w' p n c zs :=
  ⟨h.at_.below hb, fun h0 ad ha => by
    obtain ⟨b, off, e, hlt⟩ := h.plain h0 ad ha
    exact ⟨b, off, e, Nat.lt_of_lt_of_le hlt hb.size⟩, h.reach⟩
theorem NLw.cellAt {w : World} {n c b o : Nat} {zs : List ByteArray} (h : NLw w (some ⟨b, o, none⟩) n c zs) : ∀ j, j < zs.length → w.cell? ⟨b, o + j, none⟩ = some (.string (zs.getD j ByteArray.empty)) := by
  intro j hj
  have hl := h.at_.len
  obtain ⟨ad, e, _, hc⟩ := str_at h.at_.reads (show j < n by omega)
  injection e with e
  subst e
  rwa [Addr.add_lit] at hc
theorem nlw_contains {w : World} {p : Option Addr} {n c : Nat} {zs : List ByteArray} (h : NLw w p n c zs) (x : ByteArray) :
    Calls Tryd.prog 22 #[.slice p n c, .string x] w fun e w' => e = .returned (.bool (Lib.containsS zs x)) ∧ w' = w := by
  have hl := h.at_.len
  have hb := h.at_.big
  subst hl
  rcases Nat.eq_zero_or_pos zs.length with h0 | h0
  · have : zs = [] := List.length_eq_zero_iff.1 h0
    subst this
    exact Tryd.slices_Contains_string_empty p c x w
  · obtain ⟨ad, rfl, _⟩ := h.at_.reads.2 h0
    obtain ⟨b, o, rfl, _⟩ := h.plain h0 _ rfl
    have := Tryd.slices_Contains_string b o zs.length c zs x w (Nat.le_refl _) (by omega) h.cellAt
    rw [List.take_length] at this
    exact this
theorem nlw_equal {w : World} {p q : Option Addr} {n c d : Nat} {zs : List ByteArray} (h : NLw w p n c zs) (h2 : NLw w q n d zs) :
    Calls Tryd.prog 14 #[.slice p n c, .slice q n d] w fun e w' => e = .returned (.bool true) ∧ ∃ k, w' = w.drewN k := by
  have hl := h.at_.len
  have hb := h.at_.big
  subst hl
  rcases Nat.eq_zero_or_pos zs.length with h0 | h0
  · have : zs = [] := List.length_eq_zero_iff.1 h0
    subst this
    refine (Tryd.slices_Equal_string_empty p q c 0 d w (by omega)).mono ?_
    rintro e w' ⟨he, rfl⟩
    exact ⟨by simpa using he, 0, rfl⟩
  · obtain ⟨ad, rfl, _⟩ := h.at_.reads.2 h0
    obtain ⟨b, o, rfl, _⟩ := h.plain h0 _ rfl
    obtain ⟨ad, rfl, _⟩ := h2.at_.reads.2 h0
    obtain ⟨b2, o2, rfl, _⟩ := h2.plain h0 _ rfl
    refine (Tryd.slices_Equal_string b o zs.length c b2 o2 zs.length d zs zs w (Nat.le_refl _) (Nat.le_refl _) (by omega) (by omega) h.cellAt h2.cellAt).mono ?_
    rintro e w' ⟨he, hw⟩
    exact ⟨by simpa using he, hw⟩
theorem NLw.drew {w : World} {p : Option Addr} {n c : Nat} {zs : List ByteArray} (h : NLw w p n c zs) (k : Nat) : NLw (w.drewN k) p n c zs := h.below (below_drawsP (Below.refl _ _) k)
theorem app_nl (w : World) {ops : Array Oper} {rest : List Oper} {o : Oper} {a : Act} {Q : Exit → Act → World → Prop} (hgd : o.guard = none) (s x : Operand)
    (ho : o.op = .call { callee := .builtin .append, args := #[s, x], argTypes := #[28, 28] })
    (base : Nat) (v : Value) (k : Nat) (xs : List Value) (hs : a.eval s = v) (hown : w.ownsRow base 9 1 v k xs)
    (q : Option Addr) (m d : Nat) (ys : List ByteArray) (hx : a.eval x = .slice q m d) (hN : NLw w q m d ys)
    (hn : k + m ≤ 8796093022208) (hbase : base ≤ w.heap.size)
    (h : ∀ v' w', w'.ownsRow base 9 1 v' (k + m) (xs ++ strsV ys) → w.grownBy w' v.ownBlock → wpList Tryd.prog ops Q rest (a.put o.dst v') w') : wpList Tryd.prog ops Q (o :: rest) a w := by
  obtain ⟨i0, hi, hz0, hz1, hz2⟩ := info_parts info_str
  have hl := hN.at_.len
  subst hl
  cases q with
  | none =>
    have h0 : ys.length = 0 := by
      rcases Nat.eq_zero_or_pos ys.length with h | h
      · exact h
      · obtain ⟨ad, h1, _⟩ := hN.at_.reads.2 h; cases h1
    have hy : ys = [] := List.length_eq_zero_iff.1 h0
    subst hy
    have hrun := run_append_nil_x w base 28 o.type 9 i0 Tryd.underlying28 hi v k xs (by rw [hz1]; exact hown) d
    refine wpList_plain hgd fun K hK' => ?_
    unfold Oper.wp
    simp only [execOp, ho, resolve, invoke, builtin, Sem.run_bind, Sem.run_pure, Result.andThen_ok, List.map_toArray, List.map_cons, List.map_nil, hs, hx]
    rw [show ([] : List ByteArray).length = 0 from rfl, hrun]
    exact hK' _ _ (h v w (by simpa [strsV] using hown) ⟨rfl, rfl, rfl, Nat.le_refl _, fun _ _ _ => rfl⟩)
  | some ad =>
    refine wpList_append_own w hgd s x 28 ho base 9 i0 (.string ⟨#[]⟩) 1 16 Tryd.underlying28 hi hz0 hz1 hz2 rfl (by decide) v k xs hs hown ad ys.length d (strsV ys) hx (by simp [strsV]) ?_ ?_ (by unfold maxLen; omega) (by omega) hbase (fun v' w' h1 h2 _ => h v' w' h1 h2)
    · intro j u hj
      unfold strsV at hj
      rw [List.getElem?_map, Option.map_eq_some_iff] at hj
      obtain ⟨y, hy, rfl⟩ := hj
      have hjl := (List.getElem?_eq_some_iff.1 hy).1
      obtain ⟨ad', had, _, hc⟩ := str_at hN.at_.reads hjl
      obtain rfl := Option.some.inj had
      rw [hc, List.getD_eq_getElem?_getD, hy]; rfl
    · intro u hu
      obtain ⟨y, _, rfl⟩ := List.mem_map.1 hu
      rfl
/-- a slice with room, of no element -/
theorem grow_ok (k : Nat) (w : World) (hk : k ≤ 8796093022208) :
    Calls Tryd.prog 53 #[.slice none 0 0, .int .i64 k] w fun e w' => (∃ (g : Option Addr) (c : Nat), e = .returned (.slice g 0 c) ∧ w'.ownsRow w.heap.size 9 1 (.slice g 0 c) 0 []) ∧ Below w.heap.size w w' := by
  rcases Nat.eq_zero_or_pos k with rfl | h0
  · refine (Any8.slices_Grow_room Tryd.laysGs none 0 0 0 w (Nat.le_refl _) (by omega) (by omega) (by omega)).mono ?_
    rintro e w' ⟨rfl, rfl⟩
    exact ⟨⟨none, 0, rfl, World.ownsRow_nil _ _ _ _⟩, Below.refl _ _⟩
  · obtain ⟨i0, hi, hz0, hz1, hz2⟩ := info_parts info_str
    refine (Any8.slices_Grow_grow Tryd.laysGs i0 (.string ⟨#[]⟩) hi hz0 (by rw [hz1]; decide) none 0 0 k [] w (Nat.le_refl _) (by omega) (by rw [hz2]; omega) (by omega) (by simp) (fun _ => rfl) (fun a h => by cases h)).mono ?_
    rintro e w' ⟨rfl, rfl⟩
    have hge := grownCap_ge w (0 + k) 0 9
    have hcm : grownCap w (0 + k) 0 9 ≤ maxLen := grownCap_le_maxLen w _ _ _ (by unfold maxLen; omega)
    refine ⟨⟨_, _, rfl, World.ownsRow_made w.drew _ _ (Nat.le_refl _) hcm ?_⟩, ((Below.refl _ _).drew).alloc (Nat.le_refl _) _⟩
    simp only [List.size_toArray, Array.size_append, size_zeroCells, List.length_nil]
    rw [show (Value.cells (.string ⟨#[]⟩)).size = 1 from rfl]
    show 0 + (0 + k - 0) * 1 + (grownCap w (0 + k) 0 9 - (0 + k)) * 1 = grownCap w (0 + k) 0 9 * 1
    omega
/-- what Concat answers -/
def CatPost (w : World) (zs : List ByteArray) (e : Ending) (w' : World) : Prop := ∃ (g : Option Addr) (c : Nat), e = .returned (.slice g zs.length c) ∧ w'.ownsRow w.heap.size 9 1 (.slice g zs.length c) zs.length (strsV zs) ∧ Below w.heap.size w w'
set_option maxHeartbeats 4000000 in
theorem concat_ok (B : Nat) (p q : Option Addr) (n c m d : Nat) (zs ys : List ByteArray) (w : World) (h1 : NL w p n c zs) (h2 : NL w q m d ys) (hsum : n + m ≤ 8796093022208) (hB : B < w.heap.size)
    (c1 : w.cell? ⟨B, 0, none⟩ = some (.slice p n c)) (c2 : w.cell? ⟨B, 1, none⟩ = some (.slice q m d)) :
    Calls Tryd.prog 34 #[.slice (some ⟨B, 0, none⟩) 2 2] w (CatPost w (zs ++ ys)) := by
  have hl1 := h1.at_.len
  have hl2 := h2.at_.len
  subst hl1 hl2
  have H1 := Lib.hid h1
  have H2 := Lib.hid h2
  clear h1 h2
  go_enter Tryd.func34, Tryd.ntmps34
  go_wp2
  go_loop [11, 3] (fun i s => (i = .int .i64 0 ∧ s = .int .i64 0) ∨ (i = .int .i64 1 ∧ s = .int .i64 (zs.length : Int)) ∨ (i = .int .i64 2 ∧ s = .int .i64 ((zs.length + ys.length : Nat) : Int))) (fun i _ => 2 - (intOf i).toNat)
  case atStart => exact .inl ⟨rfl, rfl⟩
  case round =>
    rcases hrel with ⟨rfl, rfl⟩ | ⟨rfl, rfl⟩ | ⟨rfl, rfl⟩
    · go_wp2
      go_round
      case rel => exact .inr (.inl ⟨by go_num, by go_num⟩)
      case measure => simp [intOf]
    · go_wp2
      go_round
      case rel => exact .inr (.inr ⟨by go_num, by go_num⟩)
      case measure => simp [intOf]
    · go_wp2_with fail
      refine (grow_ok (zs.length + ys.length) _ hsum).mono ?_
      rintro e w1 ⟨⟨g, cg, rfl, hown⟩, hb1⟩
      have HB1 := Lib.hid hb1
      have HO1 := Lib.hid hown
      have c1' : w1.cell? ⟨B, 0, none⟩ = some (.slice p zs.length c) := by rw [hb1.cell hB]; exact c1
      have c2' : w1.cell? ⟨B, 1, none⟩ = some (.slice q ys.length d) := by rw [hb1.cell hB]; exact c2
      clear hown hb1 c1 c2
      go_wp2
      go_loopw [27, 6] (fun i s wr => Below w.heap.size w wr ∧ ((i = .int .i64 0 ∧ wr = w1 ∧ s = .slice g 0 cg) ∨ (i = .int .i64 1 ∧ ∃ g' c', s = .slice g' zs.length c' ∧ Hid (wr.ownsRow w.heap.size 9 1 s zs.length (strsV zs))) ∨ (i = .int .i64 2 ∧ ∃ g' c', s = .slice g' (zs ++ ys).length c' ∧ Hid (wr.ownsRow w.heap.size 9 1 s (zs ++ ys).length (strsV (zs ++ ys)))))) (fun i _ _ => 2 - (intOf i).toNat)
      case atStart => exact ⟨HB1.out, .inl ⟨rfl, rfl, rfl⟩⟩
      case round =>
        obtain ⟨hb, hrel⟩ := hrel
        have HB := Lib.hid hb
        clear hb
        rcases hrel with ⟨rfl, rfl, rfl⟩ | ⟨rfl, g', c', rfl, HO⟩ | ⟨rfl, g', c', rfl, HO⟩
        · go_wp2_with (at_builtin; refine app_nl _ rfl _ _ rfl w.heap.size _ 0 [] rfl HO1.out p zs.length c zs rfl (H1.out.below HB1.out).weak (by omega) HB.out.size ?_; intro v' w2 h1 h2; have HX := Lib.hid h1; have HG := Lib.hid h2; clear h1 h2)
          obtain ⟨g', c', rfl⟩ := str_own HX.out
          go_roundw
          case rel =>
            refine ⟨HB.out.grown HG.out HB.out.size (fun k hk => (HO1.out.lt k hk).1), .inr (.inl ⟨by go_num, g', c', by rw [Nat.zero_add], ?_⟩)⟩
            have := HX.out
            rw [Nat.zero_add, List.nil_append] at this
            rw [Nat.zero_add]
            exact this
          case measure => simp [intOf]
        · have c2'' : wr.cell? ⟨B, 1, none⟩ = some (.slice q ys.length d) := by rw [HB.out.cell hB, ← HB1.out.cell hB]; exact c2'
          go_wp2_with (at_builtin; refine app_nl _ rfl _ _ rfl w.heap.size _ zs.length (strsV zs) rfl HO.out q ys.length d ys rfl (H2.out.below HB.out).weak (by omega) HB.out.size ?_; intro v' w2 h1 h2; have HX := Lib.hid h1; have HG := Lib.hid h2; clear h1 h2)
          obtain ⟨g2, c2, rfl⟩ := str_own HX.out
          go_roundw
          case rel =>
            refine ⟨HB.out.grown HG.out HB.out.size (fun k hk => (HO.out.lt k hk).1), .inr (.inr ⟨by go_num, g2, c2, by rw [List.length_append], ?_⟩)⟩
            have := HX.out
            rw [List.length_append]
            unfold strsV at *
            rw [List.map_append]
            exact this
          case measure => simp [intOf]
        · go_wp2
          go_ret
          exact ⟨g', c', rfl, HO.out, HB.out⟩
end Go.Proofs.YtoiolepengcagaaDoor
namespace Go.Proofs.YtoiolepengcagaaDoor
open Go.RowKit Go.Shelf
abbrev Ln := Nat × Bl
def lF (x : Ln) : Value := .int .i64 (x.1 : Int)
def lG (x : Ln) : Value := .string (txt x.2)
theorem info_line : (Tryd.prog.info? 81).map (fun i => (i.zero, i.size, i.bytes)) = some (some (.agg #[.int .i64 0, .string ⟨#[]⟩]), 2, 24) := by kernel_rfl
theorem app_line (w : World) {ops : Array Oper} {rest : List Oper} {o : Oper} {a : Act} {Q : Exit → Act → World → Prop} (hgd : o.guard = none) (s x : Operand)
    (ho : o.op = .call { callee := .builtin .append, args := #[s, x], argTypes := #[77, 77] })
    (base : Nat) (v : Value) (n : Nat) (xs : List Ln) (hs : a.eval s = v) (hown : w.ownsRow base 81 2 v n (cells2 lF lG xs))
    (g : Nat) (y : Ln) (hx : a.eval x = .slice (some ⟨g, 0, none⟩) 1 1) (hc0 : w.cell? ⟨g, 0, none⟩ = some (.int .i64 (y.1 : Int))) (hc1 : w.cell? ⟨g, 1, none⟩ = some (.string (txt y.2)))
    (hn : n ≤ 1000000) (hbase : base ≤ w.heap.size)
    (h : ∀ v' w', w'.ownsRow base 81 2 v' (n + 1) (cells2 lF lG (xs ++ [y])) → w.grownBy w' v.ownBlock → wpList Tryd.prog ops Q rest (a.put o.dst v') w') : wpList Tryd.prog ops Q (o :: rest) a w := by
  obtain ⟨i0, hi, hz0, hz1, hz2⟩ := info_parts info_line
  refine wpList_append_own w hgd s x 77 ho base 81 i0 _ 2 24 Tryd.underlying77 hi hz0 hz1 hz2 rfl (by decide) v n _ hs hown ⟨g, 0, none⟩ 1 1 [lF y, lG y] hx rfl ?_ ?_ (by unfold maxLen; omega) (by omega) hbase (fun v' w' h1 h2 _ => h v' w' ?_ h2)
  · intro j q hj
    match j, hj with
    | 0, hj => simp at hj; subst hj; simpa [Addr.add, lF] using hc0
    | 1, hj => simp at hj; subst hj; simpa [Addr.add, lG] using hc1
  · intro q hq; simp at hq; rcases hq with rfl | rfl <;> rfl
  · rw [cells2_append]; exact h1
theorem cutnl_ok (l : Bl) (hl : l.length ≤ 1048576) (w : World) (hM : ML w) : Calls Tryd.prog 74 #[.string (txt l), .string ⟨#[10]⟩] w fun e w' => (∃ b : Bool, e = .returned (.tuple #[.string (txt (nl l).1), .string (txt (nl l).2), .bool b])) ∧ ∃ n, w' = w.drewN n := by
  obtain ⟨m, hm⟩ := hM
  refine (Tryd.strings_Cut (txt l) ⟨#[10]⟩ m w (by rw [txt_size]; omega) hm).mono ?_
  rintro e w1 ⟨he, hw⟩
  rw [txt_list, show (⟨#[10]⟩ : ByteArray).data.toList = [10] from rfl, nl_cut] at he
  exact ⟨⟨_, he⟩, hw⟩
theorem trimL_ok (l : Bl) (w : World) : Calls Tryd.prog 75 #[.string (txt l), .string ⟨#[32, 9]⟩] w fun e w' => e = .returned (.string (txt (Lib.trimLeftS l [32, 9]))) ∧ Below w.heap.size w w' := by
  have := Any.strings_TrimLeft_laid Tryd.lays161 (by kernel_rfl) (txt l) ⟨#[32, 9]⟩ w (by decide) (ascii_of_all (by decide))
  rw [txt_list] at this
  exact this
theorem cutsuf_ok (l : Bl) (w : World) (hl : l.length ≤ 1048576) : Calls Tryd.prog 76 #[.string (txt l), .string ⟨#[92]⟩] w fun e w' => e = .returned (.tuple #[.string (txt (Lib.trimSuffix l [92])), .bool (Lib.hasSuffix l [92])]) ∧ w' = w := by
  have := Tryd.strings_CutSuffix (txt l) ⟨#[92]⟩ w (by rw [txt_size]; omega)
  rw [txt_list] at this
  exact this
theorem cutl_len (l : Bl) : (cutL l).length ≤ l.length := by
  have hh : ∀ (l : Bl) p, (hcut p l).length ≤ l.length := by
    intro l
    induction l with
    | nil => intro p; exact Nat.le_refl _
    | cons c l ih =>
      intro p
      rw [hcut]
      split
      · simp
      · have := ih c; simp only [List.length_cons]; omega
  unfold cutL
  have h1 := trimR_len (une (hcut 0 l)) [32, 9]
  have h2 := une_len _ (hcut 0 l) (Nat.le_refl _)
  have h3 := hh l 0
  omega
theorem onl_len (text one : Bl) : (onl text one).length ≤ one.length := by
  unfold onl
  split
  · exact Nat.le_refl _
  · unfold Lib.trimLeftS
    exact (List.dropWhile_sublist _).length_le
theorem trimSuf_len (l p : Bl) : (Lib.trimSuffix l p).length ≤ l.length := by
  unfold Lib.trimSuffix
  split
  · rw [List.length_take]; omega
  · exact Nat.le_refl _
theorem txt_eq (l m : Bl) : ((txt l).toList == (txt m).toList) = decide (l = m) := by
  rw [Lib.toList_data, Lib.toList_data, txt_list, txt_list, Bool.eq_iff_iff, beq_iff_eq, decide_eq_true_iff]
theorem txt_app (l m : Bl) : txt l ++ txt m = txt (l ++ m) := by
  refine (list_txt (txt l ++ txt m)).symm.trans ?_
  rw [ByteArray.data_append, Array.toList_append, txt_list, txt_list]
theorem txt_none (l : Bl) : ((txt l).toList == ([] : List UInt8)) = decide (l = []) := by
  rw [Lib.toList_data, txt_list, Bool.eq_iff_iff, beq_iff_eq, decide_eq_true_iff]
theorem txt_none2 (l : Bl) : ((txt l).toList == (⟨#[]⟩ : ByteArray).toList) = decide (l = []) := by
  rw [Lib.toList_data (⟨#[]⟩ : ByteArray)]; exact txt_none l
theorem bx_set1 {w : World} {b : Nat} {t : TypeId} {v0 v1 : Value} (h : w.heap[b]? = some (.cells #[v0, v1] t (0, 0))) (u : Value) :
    (w.setCell ⟨b, 1, none⟩ u).heap[b]? = some (.cells #[v0, u] t (0, 0)) := by
  rw [Go.Sort.setCell_eq]
  simp [Go.Sort.mapBlock, Go.Sort.onCells, Array.getElem?_modify, h]
/-- the line that is being read, in its block -/
structure JI (wo : World) (a1 : Int) (text : Bl) (wr : World) : Prop where
  grow : (wo.alloc (.cells #[.int .i64 a1, .string ⟨#[]⟩] 81)).grownBy wr (some wo.heap.size)
  box : wr.heap[wo.heap.size]? = some (.cells #[.int .i64 a1, .string (txt text)] 81 (0, 0))
theorem JI.start (wo : World) (a1 : Int) : JI wo a1 [] (wo.alloc (.cells #[.int .i64 a1, .string ⟨#[]⟩] 81)) :=
  ⟨World.grownBy.refl _ _, rb_new wo _⟩
theorem JI.below {wo : World} {a1 : Int} {text : Bl} {wr w' : World} (h : JI wo a1 text wr) (hb : Below wr.heap.size wr w') : JI wo a1 text w' := by
  have hlt : wo.heap.size < wr.heap.size := (Array.getElem?_eq_some_iff.1 h.box).1
  exact ⟨h.grow.trans ⟨hb.os, hb.tape, hb.output, hb.size, fun k hk _ => hb.block k hk⟩, (hb.block _ hlt).trans h.box⟩
theorem JI.set {wo : World} {a1 : Int} {text : Bl} {wr : World} (h : JI wo a1 text wr) (text' : Bl) : JI wo a1 text' (wr.setCell ⟨wo.heap.size, 1, none⟩ (.string (txt text'))) :=
  ⟨h.grow.trans ⟨rfl, rfl, rfl, by simp, fun k _ hk => heap_setCell_other wr _ k _ (fun e => hk (by rw [e]))⟩, bx_set1 h.box _⟩
theorem JI.far {wo : World} {a1 : Int} {text : Bl} {wr w : World} (h : JI wo a1 text wr) (hb : Below w.heap.size w wo) : Below w.heap.size w wr :=
  ((hb.alloc hb.size _)).grown h.grow (by have := hb.size; simp; omega) (fun k hk => by injection hk with hk; have := hb.size; omega)
theorem JI.lt {wo : World} {a1 : Int} {text : Bl} {wr : World} (h : JI wo a1 text wr) : wo.heap.size < wr.heap.size := (Array.getElem?_eq_some_iff.1 h.box).1
theorem own_sl {w : World} {base e n size : Nat} {v : Value} {xs : List Value} (h : w.ownsRow base e size v n xs) : ∃ (p : Option Addr) (c : Nat), v = .slice p n c := by
  rcases h.2 with ⟨rfl, rfl⟩ | ⟨g, cap, cur, rfl, _⟩
  · exact ⟨none, 0, rfl⟩
  · exact ⟨_, cap, rfl⟩
theorem JI.own {wo : World} {a1 : Int} {text : Bl} {wr : World} (h : JI wo a1 text wr) {base e n size : Nat} {v : Value} {xs : List Value} (ho : wo.ownsRow base e size v n xs) : wr.ownsRow base e size v n xs := by
  refine (ho.alloc _).kept h.grow ?_
  cases hq : v.ownBlock with
  | none => exact .inl rfl
  | some k => exact .inr (fun e => by injection e with e; have := (ho.lt k hq).2; omega)
theorem cutT_ok (l : Bl) (hl : l.length ≤ 1048576) (w : World) (hM : ML w) : Calls Tryd.prog 77 #[.string (txt l)] w fun e w' => e = .returned (.string (txt (cutL l))) ∧ Below w.heap.size w w' := by
  have := cut_ok (txt l) (by rw [txt_size]; exact hl) w hM
  rw [txt_list] at this
  exact this
set_option maxHeartbeats 16000000 in
set_option maxRecDepth 100000 in
theorem join_ok (s : ByteArray) (hs : s.size ≤ 20000) (w : World) (hM : ML w) :
    Calls Tryd.prog 48 #[.string s] w fun e w' => (∃ po co, e = .returned (.slice po (joinL s.data.toList).length co) ∧ w'.ownsRow w.heap.size 81 2 (.slice po (joinL s.data.toList).length co) (joinL s.data.toList).length (cells2 lF lG (joinL s.data.toList))) ∧ Below w.heap.size w w' := by
  have HM := Lib.hid hM
  obtain ⟨l, hl⟩ : ∃ l, l = s.data.toList := ⟨_, rfl⟩
  have hsl : s = txt l := by rw [hl, list_txt]
  have hln : l.length ≤ 20000 := by rw [hl, ← Lib.size_eq]; exact hs
  rw [← hl]
  subst hsl
  clear hl hs hM
  go_enter Tryd.func48, Tryd.ntmps48
  go_wp2
  go_loopg [0, 3, 4] l.length (fun g s0 o a wr => ∃ (rest : Bl) (at_ : Nat) (done : List Ln) (po : Option Addr) (co : Nat), rest.length ≤ g ∧ at_ + rest.length ≤ l.length ∧ done.length ≤ at_ ∧ s0 = .string (txt rest) ∧ a = .int .i64 at_ ∧ o = .slice po done.length co ∧ Below w.heap.size w wr ∧ Hid (joinL l = done ++ jg rest at_) ∧ Hid (wr.ownsRow w.heap.size 81 2 (.slice po done.length co) done.length (cells2 lF lG done)))
  case atStart => exact ⟨l, 0, [], none, 0, Nat.le_refl _, by omega, Nat.le_refl _, rfl, rfl, rfl, Below.refl _ _, rfl, World.ownsRow_nil _ _ _ _⟩
  case round =>
    obtain ⟨rest, at_, done, po, co, hg, hal, hda, rfl, rfl, rfl, hbr, HK, HO⟩ := hrel
    have HBR := Lib.hid hbr
    by_cases hr : rest = []
    · have z1 : ((txt rest).toList == ([] : List UInt8)) = true := by rw [txt_none]; exact decide_eq_true hr
      have z2 : ((txt rest).toList == (⟨#[]⟩ : ByteArray).toList) = true := by rw [txt_none2]; exact decide_eq_true hr
      have HV : Hid (joinL l = done) := by show _ = _; rw [HK.out, hr, jg_nil, List.append_nil]
      clear hbr hr
      go_wp2
      go_ret
      exact ⟨⟨po, co, by rw [HV.out]; rfl, by rw [HV.out]; exact HO.out⟩, HBR.out⟩
    · have z1 : ((txt rest).toList == ([] : List UInt8)) = false := by rw [txt_none]; exact decide_eq_false hr
      have z2 : ((txt rest).toList == (⟨#[]⟩ : ByteArray).toList) = false := by rw [txt_none2]; exact decide_eq_false hr
      have HRN := Lib.hid hr
      obtain ⟨wo, hwo⟩ : ∃ wo, wo = wr := ⟨_, rfl⟩
      rw [← hwo] at HBR HO ⊢
      clear hbr hr hwo
      have HML := Lib.hid (fun u (hu : Below w.heap.size w u) => HM.out.below hu)
      go_wp2
      go_loopg [0, 4, 6] (rest.length + 1) (fun g s0 a m wr => ∃ (text r2 : Bl) (a2 : Nat) (mo : Bool), s0 = .string (txt r2) ∧ a = .int .i64 a2 ∧ m = .bool mo ∧ Hid (JI wo (at_ + 1 : Nat) text wr) ∧ text.length + r2.length ≤ rest.length ∧ r2.length + (if mo = true then 1 else 0) ≤ g ∧
        Hid (mo = true → lg [] rest (at_ + 1) = lg text r2 a2) ∧ (mo = true → r2 ≠ [] ∧ a2 + r2.length ≤ at_ + 1 + rest.length) ∧ Hid (mo = false → lg [] rest (at_ + 1) = (text, r2, a2)) ∧ (mo = false → r2.length < rest.length ∧ a2 + r2.length ≤ at_ + rest.length ∧ at_ < a2) ∧ (mo = true → at_ < a2))
      case atStart => exact ⟨[], rest, at_ + 1, true, rfl, by go_num, rfl, JI.start wo _, by simp, by simp, fun _ => rfl, fun _ => ⟨HRN.out, Nat.le_refl _⟩, (fun h => by cases h), (fun h => by cases h), fun _ => Nat.lt_succ_self _⟩
      case round =>
        obtain ⟨text, r2, a2, mo, rfl, rfl, rfl, HJ, hlen, hg2, H1, h2, H3, h4, h5⟩ := hrel
        obtain ⟨k0, k1, k2⟩ := rb_cells HJ.out.box
        cases mo with
        | false =>
          obtain ⟨b1, b2, b3⟩ := h4 rfl
          have HL := Lib.hid (H3.out rfl)
          have HCT := Lib.hid (fun u (hu : Below w.heap.size w u) => cutT_ok text (by omega) u (HML.out u hu))
          have hcl := cutl_len text
          clear H1 h2 H3 h4 h5
          have HV : Hid (jg rest at_ = (if cutL text = [] then [] else [(at_ + 1, cutL text)]) ++ jg r2 a2) := by show _ = _; rw [jg_eq HRN.out, HL.out]
          obtain ⟨c, hc⟩ : ∃ c, c = cutL text := ⟨_, rfl⟩
          rw [← hc] at HCT HV hcl
          clear hc HL
          by_cases hce : c = []
          · have c1 : ((txt c).toList == ([] : List UInt8)) = true := by rw [txt_none]; exact decide_eq_true hce
            have c2 : ((txt c).toList == (⟨#[]⟩ : ByteArray).toList) = true := by rw [txt_none2]; exact decide_eq_true hce
            have HW : Hid (joinL l = done ++ jg r2 a2) := by show _ = _; rw [HK.out, HV.out, if_pos hce]; rfl
            clear hce HV
            go_wp2_with (go_at_call 77; refine (HCT.out _ (HJ.out.far HBR.out)).mono ?_; rintro e w1 ⟨rfl, hb⟩; have HJ1 := Lib.hid (HJ.out.below hb); clear hb k0 k1 k2; obtain ⟨k0, k1, k2⟩ := rb_cells HJ1.out.box)
            go_roundg r2.length
            case measure => omega
            case rel => exact ⟨r2, a2, done, po, co, Nat.le_refl _, by omega, by omega, rfl, rfl, rfl, (HJ1.out.set c).far HBR.out, HW.out, (HJ1.out.set c).own HO.out⟩
          · have c1 : ((txt c).toList == ([] : List UInt8)) = false := by rw [txt_none]; exact decide_eq_false hce
            have c2 : ((txt c).toList == (⟨#[]⟩ : ByteArray).toList) = false := by rw [txt_none2]; exact decide_eq_false hce
            have HW : Hid (joinL l = (done ++ [(at_ + 1, c)]) ++ jg r2 a2) := by show _ = _; rw [HK.out, HV.out, if_neg hce, List.append_assoc]
            clear hce HV
            go_wp2_with (first
              | (go_at_call 77; refine (HCT.out _ (HJ.out.far HBR.out)).mono ?_; rintro e w1 ⟨rfl, hb⟩; have HJ1 := Lib.hid (HJ.out.below hb); clear hb k0 k1 k2; obtain ⟨k0, k1, k2⟩ := rb_cells HJ1.out.box; have hwb := (HJ1.out.far HBR.out).size)
              | (at_builtin; refine app_line _ rfl _ _ rfl w.heap.size _ done.length done rfl (((HJ1.out.set c).own HO.out).alloc _) w1.heap.size (at_ + 1, c) rfl (by rw [World.cell?_alloc_at _ _ _ _ (by simp)]; rfl) (by rw [World.cell?_alloc_at _ _ _ _ (by simp)]; rfl) (by omega) (by simp; omega) ?_; intro v' w2 h1 h2; have HX := Lib.hid h1; have HG := Lib.hid h2; clear h1 h2))
            obtain ⟨po2, co2, rfl⟩ := own_sl HX.out
            go_roundg r2.length
            case measure => omega
            case rel =>
              refine ⟨r2, a2, done ++ [(at_ + 1, c)], po2, co2, Nat.le_refl _, by omega, by rw [List.length_append]; simp; omega, rfl, rfl, by rw [List.length_append]; rfl, ?_, HW.out, by rw [List.length_append]; exact HX.out⟩
              refine (((HJ1.out.set c).far HBR.out).alloc (by simp; omega) _).grown HG.out (by simp; omega) (fun k hk => ?_)
              exact (HO.out.lt k hk).1
        | true =>
          obtain ⟨hne, ha2⟩ := h2 rfl
          have ha3 := h5 rfl
          have hLG := H1.out rfl
          rw [lg_eq text r2] at hLG
          have hnl := nl_len r2
          have hnl2 := hnl.2 hne
          have hsf : Lib.hasSuffix (onl text (nl r2).1) [92] = true → (Lib.trimSuffix (onl text (nl r2).1) [92]).length + 1 = (onl text (nl r2).1).length := by
            intro h
            unfold Lib.trimSuffix
            rw [if_pos h, List.length_take]
            unfold Lib.hasSuffix at h
            rw [List.isSuffixOf_iff_suffix] at h
            have := h.length_le
            simp at this ⊢
            omega
          have hol := onl_len text (nl r2).1
          have hts := trimSuf_len (onl text (nl r2).1) [92]
          have HLG := Lib.hid hLG
          clear hLG H1 H3 h2 h4 h5
          obtain ⟨one, hone⟩ : ∃ one, one = (nl r2).1 := ⟨_, rfl⟩
          obtain ⟨r3, hr3⟩ : ∃ r3, r3 = (nl r2).2 := ⟨_, rfl⟩
          have HC := Lib.hid (fun u (hu : Below w.heap.size w u) => cutnl_ok r2 (by omega) u (HML.out u hu))
          rw [← hone] at HC HLG hnl hol hts hsf
          rw [← hr3] at HC HLG hnl hnl2
          clear hone hr3
          obtain ⟨x, hx⟩ : ∃ x, x = onl text one := ⟨_, rfl⟩
          obtain ⟨y, hy⟩ : ∃ y, y = Lib.trimSuffix x [92] := ⟨_, rfl⟩
          rw [← hx] at HLG hol hts hsf
          rw [← hy] at HLG hts hsf
          have HX := Lib.hid hx
          have HCS := Lib.hid (fun u => cutsuf_ok x u (by omega))
          rw [← hy] at HCS
          clear hx hy
          have ap1 : txt text ++ txt y = txt (text ++ y) := txt_app _ _
          have ap2 : txt (text ++ y) ++ (⟨#[32]⟩ : ByteArray) = txt (text ++ y ++ [32]) := txt_app _ [32]
          have no1 : ¬ (9223372036854775807 < (txt text).size + (txt y).size) := by rw [txt_size, txt_size]; omega
          have no2 : ¬ (9223372036854775807 < (txt (text ++ y)).size + 1) := by rw [txt_size, List.length_append]; omega
          have q1 : ((txt r3).toList == ([] : List UInt8)) = decide (r3 = []) := txt_none _
          have q2 : ((txt r3).toList == (⟨#[]⟩ : ByteArray).toList) = decide (r3 = []) := txt_none2 _
          by_cases ht : text = []
          · have t1 : ((txt text).toList == ([] : List UInt8)) = true := by rw [txt_none]; exact decide_eq_true ht
            have t2 : ((txt text).toList == (⟨#[]⟩ : ByteArray).toList) = true := by rw [txt_none2]; exact decide_eq_true ht
            have HX1 : Hid (x = one) := by show _ = _; rw [HX.out]; unfold onl; rw [if_pos ht]
            clear HX ht
            cases hsx : Lib.hasSuffix x [92]
            · rw [hsx] at HCS
              have HLG2 : Hid (lg [] rest (at_ + 1) = (text ++ y, r3, a2)) := by show _ = _; rw [HLG.out, if_neg (by rw [hsx]; simp)]
              have hx1 := HX1.out
              subst hx1
              clear HLG hsx hsf
              go_wp2_with (first
                              | (go_at_call 74; refine (HC.out _ (HJ.out.far HBR.out)).mono ?_; rintro e w1 ⟨⟨b, rfl⟩, n1, rfl⟩; have HJ1 := Lib.hid (HJ.out.below (below_drawsP (Below.refl _ _) n1)))
                              | (go_at_call 76; refine (HCS.out _).mono ?_; rintro e w3 ⟨rfl, rfl⟩))
              go_roundg r3.length
              case measure => simp at hg2; omega
              case rel => exact ⟨text ++ y, r3, a2, false, rfl, rfl, rfl, HJ1.out.set _, by rw [List.length_append]; omega, by simp, (fun h => by cases h), (fun h => by cases h), fun _ => HLG2.out, fun _ => ⟨by omega, by omega, ha3⟩, fun h => by cases h⟩
            · rw [hsx] at HCS
              have hsf2 := hsf hsx
              by_cases h3 : r3 = []
              · rw [decide_eq_true h3] at q1 q2
                have HLG2 : Hid (lg [] rest (at_ + 1) = (text ++ y, r3, a2)) := by show _ = _; rw [HLG.out, if_neg (fun h => h.2 h3)]
                have hx1 := HX1.out
                subst hx1
                clear HLG hsx hsf h3
                go_wp2_with (first
                                | (go_at_call 74; refine (HC.out _ (HJ.out.far HBR.out)).mono ?_; rintro e w1 ⟨⟨b, rfl⟩, n1, rfl⟩; have HJ1 := Lib.hid (HJ.out.below (below_drawsP (Below.refl _ _) n1)))
                                | (go_at_call 76; refine (HCS.out _).mono ?_; rintro e w3 ⟨rfl, rfl⟩))
                go_roundg r3.length
                case measure => simp at hg2; omega
                case rel => exact ⟨text ++ y, r3, a2, false, rfl, rfl, rfl, HJ1.out.set _, by rw [List.length_append]; omega, by simp, (fun h => by cases h), (fun h => by cases h), fun _ => HLG2.out, fun _ => ⟨by omega, by omega, ha3⟩, fun h => by cases h⟩
              · rw [decide_eq_false h3] at q1 q2
                have HR3 := Lib.hid h3
                have HLG2 : Hid (lg [] rest (at_ + 1) = lg (text ++ (y ++ [32])) r3 (a2 + 1)) := by show _ = _; rw [HLG.out, if_pos ⟨hsx, h3⟩, List.append_assoc]
                have hx1 := HX1.out
                subst hx1
                clear HLG hsx hsf h3
                go_wp2_with (first
                                | (go_at_call 74; refine (HC.out _ (HJ.out.far HBR.out)).mono ?_; rintro e w1 ⟨⟨b, rfl⟩, n1, rfl⟩; have HJ1 := Lib.hid (HJ.out.below (below_drawsP (Below.refl _ _) n1)))
                                | (go_at_call 76; refine (HCS.out _).mono ?_; rintro e w3 ⟨rfl, rfl⟩))
                go_roundg (r3.length + 1)
                case measure => simp at hg2; omega
                case rel => exact ⟨text ++ (y ++ [32]), r3, a2 + 1, true, rfl, by go_num, rfl, (HJ1.out.set _).set _, by rw [List.length_append, List.length_append, List.length_singleton]; omega, by simp, fun _ => HLG2.out, fun _ => ⟨HR3.out, by omega⟩, (fun h => by cases h), (fun h => by cases h), fun _ => by omega⟩
          · have t1 : ((txt text).toList == ([] : List UInt8)) = false := by rw [txt_none]; exact decide_eq_false ht
            have t2 : ((txt text).toList == (⟨#[]⟩ : ByteArray).toList) = false := by rw [txt_none2]; exact decide_eq_false ht
            have HX1 : Hid (x = Lib.trimLeftS one [32, 9]) := by show _ = _; rw [HX.out]; unfold onl; rw [if_neg ht]
            clear HX ht
            cases hsx : Lib.hasSuffix x [92]
            · rw [hsx] at HCS
              have HLG2 : Hid (lg [] rest (at_ + 1) = (text ++ y, r3, a2)) := by show _ = _; rw [HLG.out, if_neg (by rw [hsx]; simp)]
              have hx1 := HX1.out
              rw [hx1] at HCS
              clear HLG hsx hsf
              go_wp2_with (first
                              | (go_at_call 74; refine (HC.out _ (HJ.out.far HBR.out)).mono ?_; rintro e w1 ⟨⟨b, rfl⟩, n1, rfl⟩; have HJ0 := Lib.hid (HJ.out.below (below_drawsP (Below.refl _ _) n1)))
                              | (go_at_call 75; refine (trimL_ok one _).mono ?_; rintro e w2 ⟨rfl, hb⟩; have HJ1 := Lib.hid (HJ0.out.below hb); clear hb k0 k1 k2; obtain ⟨k0, k1, k2⟩ := rb_cells HJ1.out.box)
                              | (go_at_call 76; refine (HCS.out _).mono ?_; rintro e w3 ⟨rfl, rfl⟩))
              go_roundg r3.length
              case measure => simp at hg2; omega
              case rel => exact ⟨text ++ y, r3, a2, false, rfl, rfl, rfl, HJ1.out.set _, by rw [List.length_append]; omega, by simp, (fun h => by cases h), (fun h => by cases h), fun _ => HLG2.out, fun _ => ⟨by omega, by omega, ha3⟩, fun h => by cases h⟩
            · rw [hsx] at HCS
              have hsf2 := hsf hsx
              by_cases h3 : r3 = []
              · rw [decide_eq_true h3] at q1 q2
                have HLG2 : Hid (lg [] rest (at_ + 1) = (text ++ y, r3, a2)) := by show _ = _; rw [HLG.out, if_neg (fun h => h.2 h3)]
                have hx1 := HX1.out
                rw [hx1] at HCS
                clear HLG hsx hsf h3
                go_wp2_with (first
                                | (go_at_call 74; refine (HC.out _ (HJ.out.far HBR.out)).mono ?_; rintro e w1 ⟨⟨b, rfl⟩, n1, rfl⟩; have HJ0 := Lib.hid (HJ.out.below (below_drawsP (Below.refl _ _) n1)))
                                | (go_at_call 75; refine (trimL_ok one _).mono ?_; rintro e w2 ⟨rfl, hb⟩; have HJ1 := Lib.hid (HJ0.out.below hb); clear hb k0 k1 k2; obtain ⟨k0, k1, k2⟩ := rb_cells HJ1.out.box)
                                | (go_at_call 76; refine (HCS.out _).mono ?_; rintro e w3 ⟨rfl, rfl⟩))
                go_roundg r3.length
                case measure => simp at hg2; omega
                case rel => exact ⟨text ++ y, r3, a2, false, rfl, rfl, rfl, HJ1.out.set _, by rw [List.length_append]; omega, by simp, (fun h => by cases h), (fun h => by cases h), fun _ => HLG2.out, fun _ => ⟨by omega, by omega, ha3⟩, fun h => by cases h⟩
              · rw [decide_eq_false h3] at q1 q2
                have HR3 := Lib.hid h3
                have HLG2 : Hid (lg [] rest (at_ + 1) = lg (text ++ (y ++ [32])) r3 (a2 + 1)) := by show _ = _; rw [HLG.out, if_pos ⟨hsx, h3⟩, List.append_assoc]
                have hx1 := HX1.out
                rw [hx1] at HCS
                clear HLG hsx hsf h3
                go_wp2_with (first
                                | (go_at_call 74; refine (HC.out _ (HJ.out.far HBR.out)).mono ?_; rintro e w1 ⟨⟨b, rfl⟩, n1, rfl⟩; have HJ0 := Lib.hid (HJ.out.below (below_drawsP (Below.refl _ _) n1)))
                                | (go_at_call 75; refine (trimL_ok one _).mono ?_; rintro e w2 ⟨rfl, hb⟩; have HJ1 := Lib.hid (HJ0.out.below hb); clear hb k0 k1 k2; obtain ⟨k0, k1, k2⟩ := rb_cells HJ1.out.box)
                                | (go_at_call 76; refine (HCS.out _).mono ?_; rintro e w3 ⟨rfl, rfl⟩))
                go_roundg (r3.length + 1)
                case measure => simp at hg2; omega
                case rel => exact ⟨text ++ (y ++ [32]), r3, a2 + 1, true, rfl, by go_num, rfl, (HJ1.out.set _).set _, by rw [List.length_append, List.length_append, List.length_singleton]; omega, by simp, fun _ => HLG2.out, fun _ => ⟨HR3.out, by omega⟩, (fun h => by cases h), (fun h => by cases h), fun _ => by omega⟩
end Go.Proofs.YtoiolepengcagaaDoor
namespace Go.Proofs.YtoiolepengcagaaDoor
open Go.RowKit
def errs (es : List Int) : List Value := es.map fun e => Value.int .i64 e
def allOk (es : List Int) : Bool := es.all fun x => decide (x = 0)
def errIdx (es : List Int) : Nat → Nat → Int
  | _, 0 => -1
  | k, f + 1 => if es.getD k 0 = 0 then errIdx es (k + 1) f else (k : Int)
/-- the first error's index, or -1 -/
def firstErr (es : List Int) : Int := errIdx es 0 es.length
theorem errIdx_sign (es : List Int) (f k : Nat) (hk : k + f = es.length) : decide (0 ≤ errIdx es k f) = !((es.drop k).all fun x => decide (x = 0)) := by
  induction f generalizing k with
  | zero =>
    have : es.drop k = [] := List.drop_eq_nil_of_le (by omega)
    rw [this]; simp [errIdx]
  | succ f ih =>
    have hl : k < es.length := by omega
    rw [List.drop_eq_getElem_cons hl, List.all_cons]
    unfold errIdx
    have hg : es.getD k 0 = es[k] := by simp [hl]
    rw [hg]
    by_cases h : es[k] = 0
    · rw [if_pos h, ih (k + 1) (by omega)]; simp [h]
    · rw [if_neg h]; simp [h]
theorem firstErr_sign (es : List Int) : decide (0 ≤ firstErr es) = !allOk es := by
  have := errIdx_sign es es.length 0 (by omega)
  rw [List.drop_zero] at this
  exact this
theorem errs_reads (w : World) (es : List Int) (t : TypeId) : Reads (w.alloc (.cells (errs es).toArray t)) (w.heap.size + 1) 1 (some ⟨w.heap.size, 0, none⟩) es.length (errs es) := by
  refine ⟨by simp [errs], fun _ => ⟨_, rfl, by simp, fun j u hj => ?_⟩⟩
  have hs : (w.alloc (.cells (errs es).toArray t)).cell? ⟨w.heap.size, j, none⟩ = (errs es)[j]? := by simp
  have ha : (⟨w.heap.size, 0, none⟩ : Addr).add j = ⟨w.heap.size, j, none⟩ := by
    unfold Addr.add
    split
    · rename_i h; subst h; rfl
    · simp
  rw [ha, hs, hj]
end Go.Proofs.YtoiolepengcagaaDoor
namespace Go.Proofs.YtoiolepengcagaaDoor
open Go.RowKit Go.Shelf
/-- the error of Join -/
def joinE (s : ByteArray) : Int := if 20000 < s.size then 2 else if badB s.data.toList = true then 3 else 0
theorem joinE_len {s : ByteArray} (h : joinE s = 0) : s.size ≤ 20000 ∧ badB s.data.toList = false := by
  unfold joinE at h
  split at h
  · cases h
  · rename_i h1
    split at h
    · cases h
    · rename_i h2
      exact ⟨by omega, by simpa using h2⟩
/-- what Join answers -/
def JoinPost (s : ByteArray) (w : World) (e : Ending) (w' : World) : Prop :=
  ((joinE s ≠ 0 ∧ e = .returned (.tuple #[.slice none 0 0, .int .i64 (joinE s)])) ∨ (joinE s = 0 ∧ ∃ po co, e = .returned (.tuple #[.slice po (joinL s.data.toList).length co, .int .i64 0]) ∧
    w'.ownsRow w.heap.size 81 2 (.slice po (joinL s.data.toList).length co) (joinL s.data.toList).length (cells2 lF lG (joinL s.data.toList)))) ∧ Below w.heap.size w w'
set_option maxHeartbeats 1000000 in
theorem JoinE_ok (s : ByteArray) (hs : s.size ≤ 4611686018427387904) (w : World) (hM : ML w) : Calls Tryd.prog 30 #[.string s] w (JoinPost s w) := by
  by_cases h1 : 20000 < s.size
  · have HE : Hid (joinE s = 2) := by show _ = _; unfold joinE; rw [if_pos h1]
    go_enter Tryd.func30, Tryd.ntmps30
    go_wp2
    go_ret2
    exact ⟨.inl ⟨by rw [HE.out]; decide, by rw [HE.out]; rfl⟩, Below.refl _ _⟩
  · cases h2 : badB s.data.toList
    · have HE : Hid (joinE s = 0) := by show _ = _; unfold joinE; rw [if_neg h1, h2]; rfl
      have HJ := Lib.hid (join_ok s (by omega) w hM)
      have HB := Lib.hid h2
      clear h2
      generalize hlj : joinL s.data.toList = L at HJ
      have HLJ := Lib.hid hlj
      clear hlj
      go_enter Tryd.func30, Tryd.ntmps30
      go_wp2_with (first
        | (go_at_call 47; refine (bad_ok s hs _).mono ?_; rw [HB.out]; rintro e w1 ⟨rfl, rfl⟩)
        | (go_at_call 48; refine HJ.out.mono ?_; rintro e w1 ⟨⟨po, co, rfl, hown⟩, hb⟩; have HO := Lib.hid hown; have HBL := Lib.hid hb; clear hown hb))
      go_ret2
      refine ⟨.inr ⟨HE.out, ?_⟩, HBL.out⟩
      rw [HLJ.out]
      exact ⟨po, co, rfl, HO.out⟩
    · have HE : Hid (joinE s = 3) := by show _ = _; unfold joinE; rw [if_neg h1, if_pos h2]
      have HB := Lib.hid h2
      clear h2
      go_enter Tryd.func30, Tryd.ntmps30
      go_wp2_with (go_at_call 47; refine (bad_ok s hs _).mono ?_; rw [HB.out]; rintro e w1 ⟨rfl, rfl⟩)
      go_ret2
      exact ⟨.inl ⟨by rw [HE.out]; decide, by rw [HE.out]; rfl⟩, Below.refl _ _⟩
abbrev LnH := Int × ByteArray
def hF (x : LnH) : Value := .int .i64 x.1
def hG (x : LnH) : Value := .string x.2
theorem run_neqL_same (x1 : Int) (x2 : ByteArray) (u : World) : (binOp .neq 81 (.agg #[.int .i64 x1, .string x2]) (.agg #[.int .i64 x1, .string x2])).run Tryd.prog u = .ok (.bool false) u := by
  have ht := Tryd.underlying81
  have hu : Tryd.prog.underlying 81 = some (.struct (Tryd.prog.fieldsOf 81)) := by unfold Program.fieldsOf; rw [ht]
  have hs : Tryd.prog.stoodInHeld 81 = false := by kernel_rfl
  rw [run_neq_struct, run_equalIn_agg u 9999 81 _ _ hu hs]
  simp only [Program.fieldsOf, ht]
  simp [Op.eqFields, part, run_equalIn_int, run_equalIn_string, Tryd.underlying3, Tryd.underlying9]
theorem getD_at {α : Type} {l : List α} {k : Nat} (d : α) (h : k < l.length) : l[k]? = some (l.getD k d) := by
  rw [List.getD_eq_getElem?_getD, List.getElem?_eq_getElem h]; rfl
theorem drewN_sum (w : World) (a b : Nat) : (w.drewN a).drewN b = w.drewN (a + b) := by
  induction b with
  | zero => rfl
  | succ b ih => rw [← Nat.add_assoc]; show ((w.drewN a).drewN b).drew = (w.drewN (a + b)).drew; rw [ih]
theorem p2_map {α β : Type} {f g : α → Value} {f' g' : β → Value} (φ : α → β) (hf : ∀ x, f' (φ x) = f x) (hg : ∀ x, g' (φ x) = g x) {w : World} {p : Option Addr} {n c : Nat} {l : List α} (h : P2At f g w p n c l) : P2At f' g' w p n c (l.map φ) := by
  refine ⟨by rw [List.length_map]; exact h.len, fun h0 => ?_, h.big⟩
  obtain ⟨b, o, e, h1, h2⟩ := h.at_ h0
  refine ⟨b, o, e, h1, fun k x hx => ?_⟩
  rw [List.getElem?_map, Option.map_eq_some_iff] at hx
  obtain ⟨y, hy, rfl⟩ := hx
  rw [hf, hg]
  exact h2 k y hy
def toH (x : Ln) : LnH := ((x.1 : Int), txt x.2)
theorem own_H {w : World} {base n c : Nat} {e : TypeId} {p : Option Addr} {l : List Ln} (h : w.ownsRow base e 2 (.slice p n c) n (cells2 lF lG l)) (hbig : n ≤ 8796093022208) : P2At hF hG w p n c (l.map toH) :=
  p2_map toH (fun _ => rfl) (fun _ => rfl) (P2At.own h hbig)
theorem joinL_len (s : Bl) : (joinL s).length ≤ s.length := by
  have key : ∀ n s at_, s.length ≤ n → (jg s at_).length ≤ s.length := by
    intro n
    induction n with
    | zero =>
      intro s at_ h
      have : s = [] := List.length_eq_zero_iff.1 (by omega)
      subst this
      rw [jg_nil]; exact Nat.le_refl _
    | succ n ih =>
      intro s at_ h
      by_cases hs : s = []
      · subst hs; rw [jg_nil]; exact Nat.le_refl _
      · have hl := lg_len _ [] s (at_ + 1) (Nat.le_refl _) hs
        have := ih (lg [] s (at_ + 1)).2.1 (lg [] s (at_ + 1)).2.2 (by omega)
        rw [jg_eq hs, List.length_append]
        split
        · simp; omega
        · simp only [List.length_singleton]; omega
  exact key _ s 0 (Nat.le_refl _)
theorem a_line : joinL [97, 10] = [(1, [97])] := by decide
theorem a_E : joinE ⟨#[97, 10]⟩ = 0 := by decide
end Go.Proofs.YtoiolepengcagaaDoor
