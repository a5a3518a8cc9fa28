/- The law LineParts. Conditions: texts of at most 2^48 bytes; the machine's MaxLen is laid. -/
import Derived.Test.YtchjogcdenkhcaaDoorLinePartsW
namespace Go.Proofs.YtchjogcdenkhcaaDoor
open Go.RowKit Go.Shelf
theorem JoinS_ok (s : ByteArray) (hs : s.size ≤ 4611686018427387904) (w : World) (hM : ML w) : Calls Tryd.prog 7 #[.string s] w fun e w' => (∃ p n c, e = .returned (.tuple #[.slice p n c, .int .i64 (joinE s)]) ∧ (joinE s = 0 → n = (joinL s.data.toList).length ∧
    w'.ownsRow w.heap.size 30 2 (.slice p n c) n (cells2 lF lG (joinL s.data.toList))) ∧ (joinE s ≠ 0 → n = 0)) ∧ Below w.heap.size w w' := by
  refine (JoinE_ok s hs w hM).mono ?_
  rintro e w' ⟨⟨h, rfl⟩ | ⟨h, po, co, rfl, ho⟩, hb⟩
  · exact ⟨⟨none, 0, 0, rfl, fun h' => absurd h' h, fun _ => rfl⟩, hb⟩
  · exact ⟨⟨po, _, co, by rw [h], fun _ => ⟨rfl, ho⟩, fun h' => absurd h h'⟩, hb⟩
theorem app_lines (w : World) {ops : Array Oper} {rest : List Oper} {o : Oper} {a : Act} {Q : Exit → Act → World → Prop} (hgd : o.guard = none) (s x : Operand)
    (ho : o.op = .call { callee := .builtin .append, args := #[s, x], argTypes := #[23, 23] })
    (base base2 : Nat) (v : Value) (n : Nat) (xs ys : List Ln) (hs : a.eval s = v) (hown : w.ownsRow base 30 2 v n (cells2 lF lG xs))
    (q : Option Addr) (m d : Nat) (hx : a.eval x = .slice q m d) (hown2 : w.ownsRow base2 30 2 (.slice q m d) m (cells2 lF lG ys))
    (hn : n + m ≤ 1000000) (hbase : base ≤ w.heap.size)
    (h : ∀ v' w', w'.ownsRow base 30 2 v' (n + m) (cells2 lF lG (xs ++ ys)) → w.grownBy w' v.ownBlock → wpList Tryd.prog ops Q rest (a.put o.dst v') w') : wpList Tryd.prog ops Q (o :: rest) a w := by
  obtain ⟨i0, hi, hz0, hz1, hz2⟩ := info_parts info_line
  have hl : ys.length = m := by have := hown2.1; rw [cells2_len] at this; omega
  rcases hown2.2 with ⟨e1, e2⟩ | ⟨b, cap, cur, e1, _⟩
  · injection e1 with e1 e3 e4
    subst e1 e4
    have hm : m = 0 := by omega
    subst hm
    have hy : ys = [] := List.length_eq_zero_iff.1 hl
    subst hy
    have hrun := run_append_nil_x w base 23 o.type 30 i0 Tryd.underlying23 hi v n _ (by rw [hz1]; exact hown) 0
    refine wpList_plain hgd fun K hK' => ?_
    unfold Oper.wp
    simp only [execOp, ho, resolve, invoke, builtin, Sem.run_bind, Sem.run_pure, Result.andThen_ok, List.map_toArray, List.map_cons, List.map_nil, hs, hx]
    rw [hrun]
    exact hK' _ _ (h v w (by simpa using hown) ⟨rfl, rfl, rfl, Nat.le_refl _, fun _ _ _ => rfl⟩)
  · injection e1 with e1 e3 e4
    subst e1 e4
    have hc := hown2.cells (g := b) rfl
    refine wpList_append_own w hgd s x 23 ho base 30 i0 _ 2 24 Tryd.underlying23 hi hz0 hz1 hz2 rfl (by decide) v n _ hs hown ⟨b, 0, none⟩ m d (cells2 lF lG ys) hx (by rw [cells2_len]; omega) (fun j u hu => hc j u hu) ?_ (by unfold maxLen; omega) (by omega) hbase (fun v' w' h1 h2 _ => h v' w' (by rw [cells2_append]; exact h1) h2)
    intro u hu
    obtain ⟨j, hj, e⟩ := List.mem_iff_getElem.1 hu
    obtain ⟨k, y, _, h4 | h4⟩ := cells2_of lF lG (show (cells2 lF lG ys)[j]? = some u by rw [List.getElem?_eq_getElem hj, e])
    · rw [h4.2]; rfl
    · rw [h4.2]; rfl
theorem own_below {w w' : World} (hb : Below w.heap.size w w') {base e n size : Nat} {v : Value} {xs : List Value} (ho : w.ownsRow base e size v n xs) : w'.ownsRow base e size v n xs :=
  ho.kept (row := none) ⟨hb.os, hb.tape, hb.output, hb.size, fun k hk _ => hb.block k hk⟩ (by
    cases hq : v.ownBlock with
    | none => exact .inl rfl
    | some k => exact .inr (fun e => by cases e))
theorem set_mid {α : Type} : ∀ (A : List α) (z u : α) (R : List α), (A ++ z :: R).set A.length u = A ++ u :: R
  | [], _, _, _ => rfl
  | a :: A, z, u, R => by simp [set_mid A z u R]
/-- the first k numbers moved on -/
def mvd (n k : Nat) (l : List Ln) : List Ln := moved n (l.take k) ++ l.drop k
theorem mvd_zero (n : Nat) (l : List Ln) : mvd n 0 l = l := by unfold mvd moved; simp
theorem mvd_all (n : Nat) (l : List Ln) : mvd n l.length l = moved n l := by unfold mvd; simp
theorem mvd_len (n k : Nat) (l : List Ln) : (mvd n k l).length = l.length := by
  unfold mvd moved
  rw [List.length_append, List.length_map, List.length_take, List.length_drop]
  omega
theorem mvd_at {n k : Nat} {l : List Ln} {x : Ln} (h : l[k]? = some x) : (mvd n k l)[k]? = some x := by
  have hk := (List.getElem?_eq_some_iff.1 h).1
  have hln : (moved n (l.take k)).length = k := by unfold moved; rw [List.length_map, List.length_take]; omega
  unfold mvd
  rw [List.getElem?_append_right (by omega), hln, Nat.sub_self, List.getElem?_drop, Nat.add_zero]
  exact h
theorem mvd_set {n k : Nat} {l : List Ln} {x : Ln} (h : l[k]? = some x) : (cells2 lF lG (mvd n k l)).set (k * 2) (.int .i64 ((x.1 + n : Nat) : Int)) = cells2 lF lG (mvd n (k + 1) l) := by
  have hk := (List.getElem?_eq_some_iff.1 h).1
  have he := (List.getElem?_eq_some_iff.1 h).2
  have e1 : mvd n k l = moved n (l.take k) ++ x :: l.drop (k + 1) := by
    unfold mvd
    rw [List.drop_eq_getElem_cons hk, he]
  have e2 : mvd n (k + 1) l = moved n (l.take k) ++ (x.1 + n, x.2) :: l.drop (k + 1) := by
    unfold mvd moved
    rw [List.take_add_one, h, List.map_append]
    simp
  have hln : (cells2 lF lG (moved n (l.take k))).length = k * 2 := by
    rw [cells2_len]
    unfold moved
    rw [List.length_map, List.length_take]
    have : min k l.length = k := by omega
    rw [this]
  rw [e1, e2, cells2_append, cells2_append, cells2_cons, cells2_cons]
  have := set_mid (cells2 lF lG (moved n (l.take k))) (lF x) (Value.int .i64 ((x.1 + n : Nat) : Int)) (lG x :: cells2 lF lG (l.drop (k + 1)))
  rw [hln] at this
  exact this
set_option maxHeartbeats 8000000 in
set_option maxRecDepth 100000 in
theorem lineParts_walk (s t : ByteArray) (w : World) (hM : ML w) (hs : s.size ≤ 140737488351232) (ht : t.size ≤ 140737488351232) :
    Calls Tryd.prog 3 #[.string s, .string t] w fun e w' => e = .returned (.bool true) ∧ Below w.heap.size w w' := by
  have HM := Lib.hid (fun u (hu : Below w.heap.size w u) => hM.below hu)
  obtain ⟨s', hs'⟩ : ∃ s', s' = s ++ (⟨#[46, 10]⟩ : ByteArray) := ⟨_, rfl⟩
  obtain ⟨u', hu'⟩ : ∃ u', u' = s' ++ t := ⟨_, rfl⟩
  have hss : s'.size = s.size + 2 := by rw [hs', ByteArray.size_append]; rfl
  have hus : u'.size = s'.size + t.size := by rw [hu', ByteArray.size_append]
  have hdot : Dotted s'.data.toList := ⟨s.data.toList, by rw [hs', ByteArray.data_append, Array.toList_append]⟩
  have hul : u'.data.toList = s'.data.toList ++ t.data.toList := by rw [hu', ByteArray.data_append, Array.toList_append]
  have HJB := Lib.hid (join_behind s'.data.toList t.data.toList hdot)
  rw [← hul] at HJB
  have no1 : ¬ (9223372036854775807 < s.size + 2) := by omega
  have no2 : ¬ (9223372036854775807 < s'.size + t.size) := by omega
  have cat1 := hs'.symm
  have cat2 := hu'.symm
  have HJ1 := Lib.hid (fun u (hu : Below w.heap.size w u) => JoinS_ok s' (by omega) u (hM.below hu))
  have HJ2 := Lib.hid (fun u (hu : Below w.heap.size w u) => JoinS_ok t (by omega) u (hM.below hu))
  have HJ3 := Lib.hid (fun u (hu : Below w.heap.size w u) => JoinS_ok u' (by omega) u (hM.below hu))
  have hb1 := fun h => (joinE_len (s := s') h).1
  have hb2 := fun h => (joinE_len (s := t) h).1
  have HL1 := Lib.hid (joinL_len s'.data.toList)
  have HL2 := Lib.hid (joinL_len t.data.toList)
  have HF2 := Lib.hid ((jg_facts _ t.data.toList 0 (Nat.le_refl _)).1)
  have hcs : s'.data.toList.count 10 ≤ s'.size := by rw [Lib.size_eq]; exact List.count_le_length
  have hct : t.data.toList.count 10 ≤ t.size := by rw [Lib.size_eq]; exact List.count_le_length
  have hz1 : s'.data.toList.length = s'.size := (Lib.size_eq _).symm
  have hz2 : t.data.toList.length = t.size := (Lib.size_eq _).symm
  rw [hz1] at HL1
  rw [hz2] at HL2
  have HB1 := Lib.hid hb1
  have HB2 := Lib.hid hb2
  have HCN : Hid (∀ u, Calls Tryd.prog 9 #[.string s', .string ⟨#[10]⟩] u fun e w' => e = .returned (.int .i64 ((s'.data.toList.count 10 : Nat) : Int)) ∧ w' = u) := fun u => Tryd.strings_Count_one s' 10 u
  clear hs' hu' hdot hul hM hb1 hb2 hz1 hz2
  generalize hn : s'.data.toList.count 10 = n at *
  clear hn
  obtain ⟨la, hla⟩ : ∃ la, la = joinL s'.data.toList := ⟨_, rfl⟩
  obtain ⟨lb, hlb⟩ : ∃ lb, lb = joinL t.data.toList := ⟨_, rfl⟩
  obtain ⟨lc, hlc⟩ : ∃ lc, lc = joinL u'.data.toList := ⟨_, rfl⟩
  rw [← hla] at HJ1 HL1 HJB
  rw [← hlb] at HJ2 HL2 HJB
  rw [← hlc] at HJ3 HJB
  have HF3 : Hid (∀ x ∈ lb, x.1 ≤ t.size + 1) := by
    show ∀ x ∈ lb, _
    intro x hx
    rw [hlb] at hx
    have := (HF2.out x hx).2.1
    omega
  clear HF2 hla hlb hlc hct
  generalize joinE s' = e1 at *
  generalize joinE t = e2 at *
  generalize joinE u' = e3 at *
  go_enter Tryd.func3, Tryd.ntmps3
  go_wp2_with fail
  refine (lines_below _ (HM.out w (Below.refl _ _))).mono ?_
  rintro e w1 ⟨rfl, hb⟩
  have HW1 := Lib.hid hb
  clear hb
  go_wp2_with fail
  refine (HJ1.out _ HW1.out).mono ?_
  rintro e w2 ⟨⟨pa, na, ca, rfl, ha, _⟩, hb⟩
  have HA := Lib.hid ha
  have HW12 := Lib.hid hb
  have HW2 := Lib.hid (HW1.out.trans (hb.mono HW1.out.size))
  clear hb ha
  go_wp2_with fail
  refine (HJ2.out _ HW2.out).mono ?_
  rintro e w3 ⟨⟨pb, nb, cb, rfl, hb0, _⟩, hb⟩
  have HB := Lib.hid hb0
  have HW23 := Lib.hid hb
  have HW3 := Lib.hid (HW2.out.trans (hb.mono HW2.out.size))
  clear hb hb0
  go_wp2_with fail
  refine (HJ3.out _ HW3.out).mono ?_
  rintro e w4 ⟨⟨pc, nc, cc, rfl, hc0, _⟩, hb⟩
  have HCc := Lib.hid hc0
  have HW34 := Lib.hid hb
  have HW4 := Lib.hid (HW3.out.trans (hb.mono HW3.out.size))
  clear hb hc0
  cases hok : allOk [e1, e2, e3]
  · have HOK := Lib.hid hok
    clear hok
    go_wp2_with fail
    refine (good3 _ _ _ _).mono ?_
    rw [HOK.out]
    rintro e w5 ⟨rfl, rfl⟩
    go_wp2
    go_ret
    exact ⟨rfl, HW4.out.alloc HW4.out.size _⟩
  · have HOK := Lib.hid hok
    have hz : e1 = 0 ∧ e2 = 0 ∧ e3 = 0 := by simpa [allOk] using hok
    obtain ⟨z1, z2, z3⟩ := hz
    have hs2 := HB1.out z1
    have ht2 := HB2.out z2
    obtain ⟨n1, o1⟩ := HA.out z1
    obtain ⟨n2, o2⟩ := HB.out z2
    obtain ⟨n3, o3⟩ := HCc.out z3
    have HO1 := Lib.hid o1
    have HO2 := Lib.hid o2
    have HO3 := Lib.hid o3
    clear HA HB HCc hok o1 o2 o3 HB1 HB2
    subst z1 z2 z3
    subst n1 n2 n3
    have hl1 := HL1.out
    have hl2 := HL2.out
    clear HL1 HL2
    go_wp2_with fail
    refine (good3 _ _ _ _).mono ?_
    rw [HOK.out]
    rintro e w5 ⟨rfl, hw5⟩
    rw [← hw5]
    have HW5 : Hid (Below w4.heap.size w4 (w4.alloc (.cells #[.int .i64 0, .int .i64 0, .int .i64 0] 24))) := (Below.refl _ _).alloc (Nat.le_refl _) _
    clear hw5 HOK
    go_wp2_with fail
    refine (HCN.out _).mono ?_
    rintro e w6 ⟨rfl, hw6⟩
    rw [hw6]
    clear hw6
    obtain ⟨w5, hw5⟩ : ∃ w5, w5 = w4.alloc (.cells #[.int .i64 0, .int .i64 0, .int .i64 0] 24) := ⟨_, rfl⟩
    rw [← hw5] at HW5 ⊢
    clear hw5
    have HA5 := Lib.hid (own_below HW5.out (own_below HW34.out (own_below HW23.out HO1.out)))
    have HB5 := Lib.hid (own_below HW5.out (own_below HW34.out HO2.out))
    have HC5 := Lib.hid (own_below HW5.out HO3.out)
    have HWW5 : Hid (Below w.heap.size w w5) := HW4.out.trans (HW5.out.mono HW4.out.size)
    have hsz1 := HW1.out.size
    have hsz2 := HW12.out.size
    have hsz3 := HW23.out.size
    have hsz4 := HW34.out.size
    have hsz5 := HW5.out.size
    clear HJ1 HJ2 HJ3 HM HCN
    go_wp2
    go_loopw [44] (fun i wr => ∃ k : Nat, k ≤ lb.length ∧ i = .int .i64 k ∧ Hid (wr.ownsRow w2.heap.size 30 2 (.slice pb lb.length cb) lb.length (cells2 lF lG (mvd n k lb))) ∧ Hid (w5.grownBy wr (Value.slice pb lb.length cb).ownBlock)) (fun i _ => lb.length - (intOf i).toNat)
    case atStart => exact ⟨0, Nat.zero_le _, rfl, by rw [mvd_zero]; exact HB5, World.grownBy.refl _ _⟩
    case round =>
      obtain ⟨k, hk, rfl, HK, HG⟩ := hrel
      by_cases hlt : k < lb.length
      · have hel := List.getElem?_eq_getElem hlt
        obtain ⟨x, hx⟩ : ∃ x, x = lb[k] := ⟨_, rfl⟩
        rw [← hx] at hel
        have hxm : x ∈ lb := by rw [hx]; exact List.getElem_mem hlt
        have hx1 := HF3.out x hxm
        have HSET := Lib.hid (mvd_set (n := n) hel)
        have HAT := Lib.hid (mvd_at (n := n) hel)
        obtain ⟨g, cap, hv, _, _⟩ := HK.out.form (by omega)
        injection hv with hv1 hv2 hv3
        subst hv1 hv3
        obtain ⟨c1, _⟩ := cells2_at lF lG HAT.out
        have hc1 := HK.out.cells (g := g) rfl _ _ c1
        rw [Addr.add_lit] at hc1
        have hc2 : wr.cell? ⟨g, k * 2, none⟩ = some (.int .i64 (x.1 : Int)) := by simpa [lF] using hc1
        have hfz : wr.frozen? ⟨g, k * 2, none⟩ = false := HK.out.frozenAt _
        have HST := Lib.hid (HK.out.stored (k * 2) (.int .i64 ((x.1 + n : Nat) : Int)))
        clear hx hel hxm c1 hc1
        go_wp2
        go_roundw
        case rel => exact ⟨k + 1, by omega, by go_num, by rw [← HSET.out]; exact HST.out.1, HG.out.trans HST.out.2⟩
        case measure => simp [intOf]; omega
      · obtain rfl : k = lb.length := by omega
        rw [mvd_all] at HK
        have HAr : Hid (wr.ownsRow w1.heap.size 30 2 (.slice pa la.length ca) la.length (cells2 lF lG la)) := by
          refine HA5.out.kept HG.out ?_
          cases hq : (Value.slice pa la.length ca).ownBlock with
          | none => exact .inl rfl
          | some k1 => exact .inr (fun e => by have := (HO1.out.lt k1 hq).2; have := (HO2.out.lt k1 e.symm).1; omega)
        have HCr : Hid (wr.ownsRow w3.heap.size 30 2 (.slice pc lc.length cc) lc.length (cells2 lF lG lc)) := by
          refine HC5.out.kept HG.out ?_
          cases hq : (Value.slice pc lc.length cc).ownBlock with
          | none => exact .inl rfl
          | some k1 => exact .inr (fun e => by have := (HO3.out.lt k1 hq).1; have := (HO2.out.lt k1 e.symm).2; omega)
        have HBr : Hid (Below w.heap.size w wr) := HWW5.out.grown HG.out HWW5.out.size (fun k1 e => by have := (HO2.out.lt k1 e).1; omega)
        have hszr := HG.out.size
        have hlc : lc.length = la.length + lb.length := by rw [HJB.out, List.length_append]; unfold moved; rw [List.length_map]
        go_wp2_with (first
          | (at_builtin; refine app_lines _ rfl _ _ rfl w1.heap.size w2.heap.size _ la.length la (moved n lb) rfl HAr.out pb lb.length cb rfl HK.out (by omega) (by omega) ?_; intro v' w6 h1 h2; have HX := Lib.hid h1; have HG6 := Lib.hid h2; clear h1 h2; obtain ⟨p6, c6, rfl⟩ := own_sl HX.out)
          | (go_at_call 10; refine (equalL_same pc p6 _ cc c6 (lc.map toH) w6 ?hP ?hQ).mono ?_; rotate_left 2; rintro e w7 ⟨rfl, hb⟩; have HB7 := Lib.hid hb; clear hb))
        case hP =>
          have hbc : (la.length + lb.length) ≤ 8796093022208 := by omega
          rw [← hlc]
          refine own_H (HCr.out.kept HG6.out ?_) (by omega)
          cases hq : (Value.slice pc lc.length cc).ownBlock with
          | none => exact .inl rfl
          | some k1 => exact .inr (fun e => by have := (HCr.out.lt k1 hq).1; have := (HO1.out.lt k1 e.symm).2; omega)
        case hQ =>
          rw [HJB.out]
          exact own_H HX.out (by omega)
        all_goals go_ret
        all_goals exact ⟨rfl, (HBr.out.grown HG6.out HBr.out.size (fun k1 e => by have := (HAr.out.lt k1 e).1; omega)).trans (HB7.out.mono (Nat.le_trans HBr.out.size HG6.out.size))⟩
end Go.Proofs.YtchjogcdenkhcaaDoor
