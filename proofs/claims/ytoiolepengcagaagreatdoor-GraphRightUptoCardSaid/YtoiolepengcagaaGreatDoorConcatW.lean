/- The walk of slices.Concat at two slices of strings. Conditions: the slices read as listed; together of 2^43 elements at most. -/
import Derived.Test.YtoiolepengcagaaGreatDoorNLSetW
import Derived.Test.YtoiolepengcagaaGreatDoorGrowLay
namespace Go.Proofs.YtoiolepengcagaaGreatDoor
open Go.RowKit Go.Shelf
theorem run_append_nil_x {P : Program} (w : World) (base : Nat) (t ty e : TypeId) (i : TypeInfo) (ht : P.underlying t = some (.slice e)) (hi : P.info? e = some i)
    (v : Value) (k : Nat) (xs : List Value) (hown : w.ownsRow base e i.size v k xs) (c : Nat) :
    (Builtin.append_ #[t, t] ty #[v, .slice none 0 c]).run P w = .ok v w := by
  rcases hown.2 with ⟨rfl, rfl⟩ | ⟨g, cap, cur, rfl, hbg, hg, hnc, hcm, hcs, htake⟩
  · simp [Builtin.append_, run_underlying ht, sizeOf, typeInfo, hi, Builtin.lenOf, Builtin.firstCells]
  · simp [Builtin.append_, run_underlying ht, sizeOf, typeInfo, hi, Builtin.lenOf, Builtin.firstCells, hnc, storeCells]
/-- a slice of strings that the call can read; an empty one may point anywhere -/
structure NLw (w : World) (p : Option Addr) (n c : Nat) (zs : List ByteArray) : Prop where
  at_ : StrsAt w p n zs
  plain : 0 < n → ∀ ad, p = some ad → ∃ b off, ad = ⟨b, off, none⟩ ∧ b < w.heap.size
  reach : n * 16 ≤ 140737488351232
theorem NL.weak {w : World} {p : Option Addr} {n c : Nat} {zs : List ByteArray} (h : NL w p n c zs) : NLw w p n c zs := ⟨h.at_, fun _ => h.plain, h.reach⟩
theorem NLw.below {w w' : World} {p : Option Addr} {n c : Nat} {zs : List ByteArray} (h : NLw w p n c zs) (hb : Below w.heap.size w w') : NLw w' p n c zs :=
  ⟨h.at_.below hb, fun h0 ad ha => by
    obtain ⟨b, off, e, hlt⟩ := h.plain h0 ad ha
    exact ⟨b, off, e, Nat.lt_of_lt_of_le hlt hb.size⟩, h.reach⟩
theorem NLw.cellAt {w : World} {n c b o : Nat} {zs : List ByteArray} (h : NLw w (some ⟨b, o, none⟩) n c zs) : ∀ j, j < zs.length → w.cell? ⟨b, o + j, none⟩ = some (.string (zs.getD j ByteArray.empty)) := by
  intro j hj
  have hl := h.at_.len
  obtain ⟨ad, e, _, hc⟩ := str_at h.at_.reads (show j < n by omega)
  injection e with e
  subst e
  rwa [Addr.add_lit] at hc
theorem nlw_contains {w : World} {p : Option Addr} {n c : Nat} {zs : List ByteArray} (h : NLw w p n c zs) (x : ByteArray) :
    Calls Tryz.prog 78 #[.slice p n c, .string x] w fun e w' => e = .returned (.bool (Lib.containsS zs x)) ∧ w' = w := by
  have hl := h.at_.len
  have hb := h.at_.big
  subst hl
  rcases Nat.eq_zero_or_pos zs.length with h0 | h0
  · have : zs = [] := List.length_eq_zero_iff.1 h0
    subst this
    exact Tryz.slices_Contains_string_empty p c x w
  · obtain ⟨ad, rfl, _⟩ := h.at_.reads.2 h0
    obtain ⟨b, o, rfl, _⟩ := h.plain h0 _ rfl
    have := Tryz.slices_Contains_string b o zs.length c zs x w (Nat.le_refl _) (by omega) h.cellAt
    rw [List.take_length] at this
    exact this
theorem nlw_equal {w : World} {p q : Option Addr} {n c d : Nat} {zs : List ByteArray} (h : NLw w p n c zs) (h2 : NLw w q n d zs) :
    Calls Tryz.prog 10 #[.slice p n c, .slice q n d] w fun e w' => e = .returned (.bool true) ∧ ∃ k, w' = w.drewN k := by
  have hl := h.at_.len
  have hb := h.at_.big
  subst hl
  rcases Nat.eq_zero_or_pos zs.length with h0 | h0
  · have : zs = [] := List.length_eq_zero_iff.1 h0
    subst this
    refine (Tryz.slices_Equal_string_empty p q c 0 d w (by omega)).mono ?_
    rintro e w' ⟨he, rfl⟩
    exact ⟨by simpa using he, 0, rfl⟩
  · obtain ⟨ad, rfl, _⟩ := h.at_.reads.2 h0
    obtain ⟨b, o, rfl, _⟩ := h.plain h0 _ rfl
    obtain ⟨ad, rfl, _⟩ := h2.at_.reads.2 h0
    obtain ⟨b2, o2, rfl, _⟩ := h2.plain h0 _ rfl
    refine (Tryz.slices_Equal_string b o zs.length c b2 o2 zs.length d zs zs w (Nat.le_refl _) (Nat.le_refl _) (by omega) (by omega) h.cellAt h2.cellAt).mono ?_
    rintro e w' ⟨he, hw⟩
    exact ⟨by simpa using he, hw⟩
theorem NLw.drew {w : World} {p : Option Addr} {n c : Nat} {zs : List ByteArray} (h : NLw w p n c zs) (k : Nat) : NLw (w.drewN k) p n c zs := h.below (below_drawsP (Below.refl _ _) k)
theorem app_nl (w : World) {ops : Array Oper} {rest : List Oper} {o : Oper} {a : Act} {Q : Exit → Act → World → Prop} (hgd : o.guard = none) (s x : Operand)
    (ho : o.op = .call { callee := .builtin .append, args := #[s, x], argTypes := #[23, 23] })
    (base : Nat) (v : Value) (k : Nat) (xs : List Value) (hs : a.eval s = v) (hown : w.ownsRow base 9 1 v k xs)
    (q : Option Addr) (m d : Nat) (ys : List ByteArray) (hx : a.eval x = .slice q m d) (hN : NLw w q m d ys)
    (hn : k + m ≤ 8796093022208) (hbase : base ≤ w.heap.size)
    (h : ∀ v' w', w'.ownsRow base 9 1 v' (k + m) (xs ++ strsV ys) → w.grownBy w' v.ownBlock → wpList Tryz.prog ops Q rest (a.put o.dst v') w') : wpList Tryz.prog ops Q (o :: rest) a w := by
  obtain ⟨i0, hi, hz0, hz1, hz2⟩ := info_parts info_str
  have hl := hN.at_.len
  subst hl
  cases q with
  | none =>
    have h0 : ys.length = 0 := by
      rcases Nat.eq_zero_or_pos ys.length with h | h
      · exact h
      · obtain ⟨ad, h1, _⟩ := hN.at_.reads.2 h; cases h1
    have hy : ys = [] := List.length_eq_zero_iff.1 h0
    subst hy
    have hrun := run_append_nil_x w base 23 o.type 9 i0 Tryz.underlying23 hi v k xs (by rw [hz1]; exact hown) d
    refine wpList_plain hgd fun K hK' => ?_
    unfold Oper.wp
    simp only [execOp, ho, resolve, invoke, builtin, Sem.run_bind, Sem.run_pure, Result.andThen_ok, List.map_toArray, List.map_cons, List.map_nil, hs, hx]
    rw [show ([] : List ByteArray).length = 0 from rfl, hrun]
    exact hK' _ _ (h v w (by simpa [strsV] using hown) ⟨rfl, rfl, rfl, Nat.le_refl _, fun _ _ _ => rfl⟩)
  | some ad =>
    refine wpList_append_own w hgd s x 23 ho base 9 i0 (.string ⟨#[]⟩) 1 16 Tryz.underlying23 hi hz0 hz1 hz2 rfl (by decide) v k xs hs hown ad ys.length d (strsV ys) hx (by simp [strsV]) ?_ ?_ (by unfold maxLen; omega) (by omega) hbase (fun v' w' h1 h2 _ => h v' w' h1 h2)
    · intro j u hj
      unfold strsV at hj
      rw [List.getElem?_map, Option.map_eq_some_iff] at hj
      obtain ⟨y, hy, rfl⟩ := hj
      have hjl := (List.getElem?_eq_some_iff.1 hy).1
      obtain ⟨ad', had, _, hc⟩ := str_at hN.at_.reads hjl
      obtain rfl := Option.some.inj had
      rw [hc, List.getD_eq_getElem?_getD, hy]; rfl
    · intro u hu
      obtain ⟨y, _, rfl⟩ := List.mem_map.1 hu
      rfl
/-- a slice with room, of no element -/
theorem grow_ok (k : Nat) (w : World) (hk : k ≤ 8796093022208) :
    Calls Tryz.prog 32 #[.slice none 0 0, .int .i64 k] w fun e w' => (∃ (g : Option Addr) (c : Nat), e = .returned (.slice g 0 c) ∧ w'.ownsRow w.heap.size 9 1 (.slice g 0 c) 0 []) ∧ Below w.heap.size w w' := by
  rcases Nat.eq_zero_or_pos k with rfl | h0
  · refine (Any8.slices_Grow_room Tryz.laysGs none 0 0 0 w (Nat.le_refl _) (by omega) (by omega) (by omega)).mono ?_
    rintro e w' ⟨rfl, rfl⟩
    exact ⟨⟨none, 0, rfl, World.ownsRow_nil _ _ _ _⟩, Below.refl _ _⟩
  · obtain ⟨i0, hi, hz0, hz1, hz2⟩ := info_parts info_str
    refine (Any8.slices_Grow_grow Tryz.laysGs i0 (.string ⟨#[]⟩) hi hz0 (by rw [hz1]; decide) none 0 0 k [] w (Nat.le_refl _) (by omega) (by rw [hz2]; omega) (by omega) (by simp) (fun _ => rfl) (fun a h => by cases h)).mono ?_
    rintro e w' ⟨rfl, rfl⟩
    have hge := grownCap_ge w (0 + k) 0 9
    have hcm : grownCap w (0 + k) 0 9 ≤ maxLen := grownCap_le_maxLen w _ _ _ (by unfold maxLen; omega)
    refine ⟨⟨_, _, rfl, World.ownsRow_made w.drew _ _ (Nat.le_refl _) hcm ?_⟩, ((Below.refl _ _).drew).alloc (Nat.le_refl _) _⟩
    simp only [List.size_toArray, Array.size_append, size_zeroCells, List.length_nil]
    rw [show (Value.cells (.string ⟨#[]⟩)).size = 1 from rfl]
    show 0 + (0 + k - 0) * 1 + (grownCap w (0 + k) 0 9 - (0 + k)) * 1 = grownCap w (0 + k) 0 9 * 1
    omega
/-- what Concat answers -/
def CatPost (w : World) (zs : List ByteArray) (e : Ending) (w' : World) : Prop := ∃ (g : Option Addr) (c : Nat), e = .returned (.slice g zs.length c) ∧ w'.ownsRow w.heap.size 9 1 (.slice g zs.length c) zs.length (strsV zs) ∧ Below w.heap.size w w'
set_option maxHeartbeats 4000000 in
theorem concat_ok (B : Nat) (p q : Option Addr) (n c m d : Nat) (zs ys : List ByteArray) (w : World) (h1 : NL w p n c zs) (h2 : NL w q m d ys) (hsum : n + m ≤ 8796093022208) (hB : B < w.heap.size)
    (c1 : w.cell? ⟨B, 0, none⟩ = some (.slice p n c)) (c2 : w.cell? ⟨B, 1, none⟩ = some (.slice q m d)) :
    Calls Tryz.prog 11 #[.slice (some ⟨B, 0, none⟩) 2 2] w (CatPost w (zs ++ ys)) := by
  have hl1 := h1.at_.len
  have hl2 := h2.at_.len
  subst hl1 hl2
  have H1 := Lib.hid h1
  have H2 := Lib.hid h2
  clear h1 h2
  go_enter Tryz.func11, Tryz.ntmps11
  go_wp2
  go_loop [11, 3] (fun i s => (i = .int .i64 0 ∧ s = .int .i64 0) ∨ (i = .int .i64 1 ∧ s = .int .i64 (zs.length : Int)) ∨ (i = .int .i64 2 ∧ s = .int .i64 ((zs.length + ys.length : Nat) : Int))) (fun i _ => 2 - (intOf i).toNat)
  case atStart => exact .inl ⟨rfl, rfl⟩
  case round =>
    rcases hrel with ⟨rfl, rfl⟩ | ⟨rfl, rfl⟩ | ⟨rfl, rfl⟩
    · go_wp2
      go_round
      case rel => exact .inr (.inl ⟨by go_num, by go_num⟩)
      case measure => simp [intOf]
    · go_wp2
      go_round
      case rel => exact .inr (.inr ⟨by go_num, by go_num⟩)
      case measure => simp [intOf]
    · go_wp2_with fail
      refine (grow_ok (zs.length + ys.length) _ hsum).mono ?_
      rintro e w1 ⟨⟨g, cg, rfl, hown⟩, hb1⟩
      have HB1 := Lib.hid hb1
      have HO1 := Lib.hid hown
      have c1' : w1.cell? ⟨B, 0, none⟩ = some (.slice p zs.length c) := by rw [hb1.cell hB]; exact c1
      have c2' : w1.cell? ⟨B, 1, none⟩ = some (.slice q ys.length d) := by rw [hb1.cell hB]; exact c2
      clear hown hb1 c1 c2
      go_wp2
      go_loopw [27, 6] (fun i s wr => Below w.heap.size w wr ∧ ((i = .int .i64 0 ∧ wr = w1 ∧ s = .slice g 0 cg) ∨ (i = .int .i64 1 ∧ ∃ g' c', s = .slice g' zs.length c' ∧ Hid (wr.ownsRow w.heap.size 9 1 s zs.length (strsV zs))) ∨ (i = .int .i64 2 ∧ ∃ g' c', s = .slice g' (zs ++ ys).length c' ∧ Hid (wr.ownsRow w.heap.size 9 1 s (zs ++ ys).length (strsV (zs ++ ys)))))) (fun i _ _ => 2 - (intOf i).toNat)
      case atStart => exact ⟨HB1.out, .inl ⟨rfl, rfl, rfl⟩⟩
      case round =>
        obtain ⟨hb, hrel⟩ := hrel
        have HB := Lib.hid hb
        clear hb
        rcases hrel with ⟨rfl, rfl, rfl⟩ | ⟨rfl, g', c', rfl, HO⟩ | ⟨rfl, g', c', rfl, HO⟩
        · go_wp2_with (at_builtin; refine app_nl _ rfl _ _ rfl w.heap.size _ 0 [] rfl HO1.out p zs.length c zs rfl (H1.out.below HB1.out).weak (by omega) HB.out.size ?_; intro v' w2 h1 h2; have HX := Lib.hid h1; have HG := Lib.hid h2; clear h1 h2)
          obtain ⟨g', c', rfl⟩ := str_own HX.out
          go_roundw
          case rel =>
            refine ⟨HB.out.grown HG.out HB.out.size (fun k hk => (HO1.out.lt k hk).1), .inr (.inl ⟨by go_num, g', c', by rw [Nat.zero_add], ?_⟩)⟩
            have := HX.out
            rw [Nat.zero_add, List.nil_append] at this
            rw [Nat.zero_add]
            exact this
          case measure => simp [intOf]
        · have c2'' : wr.cell? ⟨B, 1, none⟩ = some (.slice q ys.length d) := by rw [HB.out.cell hB, ← HB1.out.cell hB]; exact c2'
          go_wp2_with (at_builtin; refine app_nl _ rfl _ _ rfl w.heap.size _ zs.length (strsV zs) rfl HO.out q ys.length d ys rfl (H2.out.below HB.out).weak (by omega) HB.out.size ?_; intro v' w2 h1 h2; have HX := Lib.hid h1; have HG := Lib.hid h2; clear h1 h2)
          obtain ⟨g2, c2, rfl⟩ := str_own HX.out
          go_roundw
          case rel =>
            refine ⟨HB.out.grown HG.out HB.out.size (fun k hk => (HO.out.lt k hk).1), .inr (.inr ⟨by go_num, g2, c2, by rw [List.length_append], ?_⟩)⟩
            have := HX.out
            rw [List.length_append]
            unfold strsV at *
            rw [List.map_append]
            exact this
          case measure => simp [intOf]
        · go_wp2
          go_ret
          exact ⟨g', c', rfl, HO.out, HB.out⟩
end Go.Proofs.YtoiolepengcagaaGreatDoor
