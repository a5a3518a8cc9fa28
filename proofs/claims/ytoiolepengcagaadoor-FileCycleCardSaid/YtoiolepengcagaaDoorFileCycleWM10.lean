/- Texts joined: MacroFlW, FilePW, ReadStW, ReadW, LinesW, IncW. Conditions: theirs. -/
import Derived.Test.YtoiolepengcagaaDoorFileCycleWM9
import Derived.Deep.CutRange
import Derived.Laws.ResultCell
import Derived.Test.YtoiolepengcagaaDoorFileCycleWM4
import Derived.Test.YtoiolepengcagaaDoorFileCycleWM2
import Derived.Test.YtoiolepengcagaaDoorFileCycleWM3
import Derived.Maps.OwnSet
import Derived.Deep.RegionLaw
import Derived.Deep.AppendLies
import Derived.Defers
import Derived.Deep.QuietTactic
import Derived.BigQuiet
import Derived.StillTailTactics
import Derived.IntWalk
namespace Go.Proofs.YtoiolepengcagaaDoor
open Go.RowKit Go.Shelf Go.Maps
/-- what Flat answers -/
def FlatPost (w : World) (l : List Mac) (e : Ending) (w' : World) : Prop :=
  (∃ v, e = .returned (.tuple #[v, .int .i64 (flatsE okM l)]) ∧ ((flatsE okM l ≠ 0 ∧ v = .slice none 0 0) ∨ (flatsE okM l = 0 ∧ w'.ownsRow w.heap.size 67 2 v l.length (cells2 mF mG (flatL okM l))))) ∧ Below w.heap.size w w'
set_option maxHeartbeats 8000000 in
set_option maxRecDepth 100000 in
theorem Flat_ok (p : Option Addr) (n c : Nat) (l : List Mac) (w : World) (hR : MacsIn w p n c l) (hM : MLm w) : Calls Tryd.prog 26 #[.slice p n c] w (FlatPost w l) := by
  have hln := hR.at_.len
  subst hln
  have HFl := Lib.hid (flats_ok p l.length c l w hR hM)
  have HN := Lib.hid (fun u (hu : Below w.heap.size w u) => hR.at_.below hu)
  clear hR hM
  by_cases hE : flatsE okM l = 0
  rotate_left
  · have HE : Hid (flatsE okM l ≠ 0) := hE
    have HF2 : Hid (Calls Tryd.prog 41 #[.slice p l.length c] w fun e w' => (∃ v, e = .returned (.tuple #[v, .int .i64 (flatsE okM l)])) ∧ Below w.heap.size w w') := by
      show Calls _ _ _ _ _
      refine HFl.out.mono ?_
      rintro e w' ⟨⟨v, rfl, _⟩, hb⟩
      exact ⟨⟨v, rfl⟩, hb⟩
    have HP : Hid (∀ fe w', fe = flatsE okM l → Below w.heap.size w w' → FlatPost w l (.returned (.tuple #[.slice none 0 0, .int .i64 fe])) w') := fun fe w' h hb => ⟨⟨.slice none 0 0, by rw [h], .inl ⟨HE.out, rfl⟩⟩, hb⟩
    obtain ⟨e1, e2⟩ := int_ne' hE
    have HQ : Hid (∀ w', Below w.heap.size w w' → FlatPost w l (.returned (.tuple #[.slice none 0 0, .int .i64 (flatsE okM l)])) w') := fun w' hb => HP.out _ w' rfl hb
    clear HFl hE HP HE
    generalize flatsE okM l = fe at *
    go_enter Tryd.func26, Tryd.ntmps26
    go_wp2_with (go_at_call 41; refine HF2.out.mono ?_; rintro e w1 ⟨⟨v, rfl⟩, hb⟩; have HB := Lib.hid hb; clear hb)
    go_ret2
    exact HQ.out _ HB.out
  have HF2 : Hid (Calls Tryd.prog 41 #[.slice p l.length c] w fun e w' => (∃ B eb uv st, e = .returned (.tuple #[.map (some B), .int .i64 0]) ∧ TabW w' B w.heap.size l eb uv st ∧ ∀ n ∈ namesM l, st n = 2) ∧ Below w.heap.size w w') := by
    show Calls _ _ _ _ _
    refine HFl.out.mono ?_
    rintro e w' ⟨⟨v, rfl, hv⟩, hb⟩
    rw [hE] at hv ⊢
    obtain ⟨_, B, eb, uv, st, rfl, h1, h2⟩ := hv.resolve_left (fun h => h.1 rfl)
    exact ⟨⟨B, eb, uv, st, rfl, h1, h2⟩, hb⟩
  have HTO := Lib.hid (flatsE_zero.1 hE).1
  have hfew := (flatsE_zero.1 hE).1.few
  have HFin : Hid (∀ (v : Value) (w' : World), w'.ownsRow w.heap.size 67 2 v l.length (cells2 mF mG (flatL okM l)) → Below w.heap.size w w' → FlatPost w l (.returned (.tuple #[v, .int .i64 0])) w') := fun v w' h hb => ⟨⟨v, by rw [hE], .inr ⟨hE, h⟩⟩, hb⟩
  have HFL : Hid (flatL okM l = l.map fun m => (m.1, (flatF okM l m.1).getD [])) := rfl
  clear HFl hE
  go_enter Tryd.func26, Tryd.ntmps26
  go_wp2_with (go_at_call 41; refine HF2.out.mono ?_; rintro e w1 ⟨⟨B, eb, uv, st, rfl, h1, h2⟩, hb⟩; have HT := Lib.hid h1; have HS := Lib.hid h2; have HB := Lib.hid hb; clear hb h1 h2)
  go_loopw [19, 6] (fun i o wr => ∃ (j : Nat) (g : Option Addr) (cg : Nat), j ≤ l.length ∧ i = .int .i64 j ∧ o = .slice g j cg ∧ Hid (Below w1.heap.size w1 wr) ∧ Hid (wr.ownsRow w1.heap.size 67 2 (.slice g j cg) j (cells2 mF mG ((flatL okM l).take j)))) (fun i _ _ => l.length - (intOf i).toNat)
  case atStart => exact ⟨0, none, 0, Nat.zero_le _, rfl, rfl, Below.refl _ _, World.ownsRow_nil _ _ _ _⟩
  case round =>
    obtain ⟨j, g, cg, hj, rfl, rfl, HBr, HO⟩ := hrel
    by_cases hlt : j < l.length
    · have hel := List.getElem?_eq_getElem hlt
      obtain ⟨b, o, rfl, hb, c1, c2⟩ := (HN.out _ (HB.out.trans (HBr.out.mono HB.out.size))).cell hel
      have hmem := List.getElem_mem hlt
      have HTK : Hid ((flatL okM l).take (j + 1) = (flatL okM l).take j ++ [(l[j].1, (flatF okM l l[j].1).getD [])]) := by
        show _ = _
        rw [List.take_add_one, HFL.out, List.getElem?_map, hel]; rfl
      rw [← Nat.add_assoc] at c2
      clear hel
      generalize l[j] = m at *
      obtain ⟨m1, m2⟩ := m
      have hmn : m1 ∈ namesM l := List.mem_map.2 ⟨(m1, m2), hmem, rfl⟩
      simp only [mF, mG] at c1 c2 HTK
      have hji : (j : Int) < (l.length : Int) := by omega
      have hxm : (txt m1).size ≤ maxLen := by have := okM_few (HTO.out.right _ hmem).1; rw [txt_size]; unfold maxLen; simp only at this; omega
      obtain ⟨W0, hW0⟩ : ∃ W0, W0 = wr.alloc (.cells #[.string (txt m1), .string (txt m2)] 67) := ⟨_, rfl⟩
      have hb0 : Below wr.heap.size wr W0 := by rw [hW0]; exact mb1 wr _
      have k1 : W0.cell? ⟨wr.heap.size, 0, none⟩ = some (.string (txt m1)) := by rw [hW0, World.cell?_alloc_at _ _ _ _ rfl]; rfl
      have HB0 : Hid (Below w1.heap.size w1 W0) := HBr.out.trans (hb0.mono HBr.out.size)
      have HO0 : Hid (W0.ownsRow w1.heap.size 67 2 (.slice g j cg) j (cells2 mF mG ((flatL okM l).take j))) := own_none HO.out (mgrown_below hb0)
      have hT0 := HT.out.below HB0.out
      obtain ⟨⟨Nn, hmp⟩, hht⟩ := hT0.look hmn
      have hlk : Sem.run Tryd.prog (Instr.lookup 92 (.map (some B)) (.string (txt m1)) false) W0.drew = .ok (.pointer (some ⟨eb m1, 0, none⟩)) W0.drew := by
        rw [← hht]
        exact look_run (hmp.kept (row := none) (w' := W0.drew) ⟨rfl, rfl, rfl, Nat.le_refl _, fun _ _ _ => rfl⟩ (by simp)) (txt m1) hxm
      have hent := hT0.ent _ hmem
      rw [HS.out m1 hmn] at hent
      have hent2 : W0.heap[eb m1]? = some (.cells #[.string (txt m2), uv m1, .int .i64 2, .string (txt ((flatF okM l m1).getD [])), .bool (flatF okM l m1).isNone] 96 (0, 0)) := hent
      obtain ⟨_, _, _, q3, _, _⟩ := mx5 hent2
      generalize (flatF okM l m1).getD [] = fv at *
      obtain ⟨XO, hXO⟩ : ∃ XO, XO = Obj.cells #[.string (txt m1), .string (txt fv)] 67 := ⟨_, rfl⟩
      have HOA : Hid ((W0.alloc XO).drew.ownsRow w1.heap.size 67 2 (.slice g j cg) j (cells2 mF mG ((flatL okM l).take j))) := own_drew (own_none HO0.out (World.grownBy_alloc _ _ _))
      have XC0 : Hid ((W0.alloc XO).drew.cell? ⟨W0.heap.size, 0, none⟩ = some (mF (m1, fv))) := by show (W0.alloc XO).cell? _ = _; rw [hXO, World.cell?_alloc_at _ _ _ _ rfl]; rfl
      have XC1 : Hid ((W0.alloc XO).drew.cell? ⟨W0.heap.size, 1, none⟩ = some (mG (m1, fv))) := by show (W0.alloc XO).cell? _ = _; rw [hXO, World.cell?_alloc_at _ _ _ _ rfl]; rfl
      have HBA : Hid (Below w1.heap.size w1 (W0.alloc XO).drew) := (HB0.out.alloc HB0.out.size _).drew
      have hjb : j ≤ 4398046511103 := by omega
      rw [hXO] at HOA XC0 XC1 HBA
      clear hmp hT0 hent hent2 hb0 hmem hmn hXO
      go_upto_region 8 with fail
      rw [← hW0]
      clear hW0
      go_region_law (refine step_mac rfl _ _ rfl w1.heap.size _ j _ rfl HOA.out W0.heap.size (m1, fv) rfl XC0.out XC1.out hjb HBA.out.size ?_; intro v' w5 h1 h2; have HG5 := Lib.hid (HBA.out.grown h2 HBA.out.size (fun k hk => (HOA.out.lt k hk).1)); obtain ⟨g5, c5, rfl⟩ := mown_form h1; have HO5 := Lib.hid h1; clear h1 h2)
      all_goals
        go_wp2
        go_roundw
        case rel =>
          refine ⟨j + 1, g5, c5, by omega, by go_num, rfl, HG5, ?_⟩
          show World.ownsRow _ _ _ _ _ _ _
          rw [HTK.out]
          exact HO5.out
        case measure => simp [intOf]; omega
    · obtain rfl : j = l.length := by omega
      have htk : (flatL okM l).take l.length = flatL okM l := List.take_of_length_le (by rw [HFL.out, List.length_map]; exact Nat.le_refl _)
      rw [htk] at HO
      clear htk
      go_wp2
      go_ret2
      exact HFin.out _ _ (own_low HO.out HB.out.size) (HB.out.trans (HBr.out.mono HB.out.size))
end Go.Proofs.YtoiolepengcagaaDoor
namespace Go.Proofs.YtoiolepengcagaaDoor
open Go.RowKit Go.Shelf
theorem results_ctt {P : Program} {fn : Func} {p u v : Tmp} {ty : TypeId} (h : fn.results = #[.cell p ty, .tmp u, .tmp v]) (tmps : Array Value) (w : World) (g : Nat) (t : TypeId) (cs : Array Value) (fr : Nat × Nat) (d : TypeDesc) (x y : Value)
    (hp : tmps.getD p undef = .pointer (some ⟨g, 0, none⟩)) (hx : tmps.getD u undef = x) (hy : tmps.getD v undef = y) (hg : w.heap[g]? = some (.cells cs t fr))
    (hu : P.underlying ty = some d) (hd : (match d with | .struct _ | .array _ _ => true | _ => false) = true) (hi : (P.info? ty).map (·.size) = some cs.size) :
    (results fn tmps).run P w = .ok (.tuple #[.agg cs, x, y]) w := by
  have hp' : tmps[p]?.getD undef = .pointer (some ⟨g, 0, none⟩) := by simpa using hp
  have hx' : tmps[u]?.getD undef = x := by simpa using hx
  have hy' : tmps[v]?.getD undef = y := by simpa using hy
  simp only [results, h]
  simp [Result.andThen, hp', hx', hy', asAddr, run_loadVar_row w g t ty cs fr d hg hu hd hi]
theorem boxF_all {w : World} {b : Nat} {t : TypeId} {v0 v1 v2 v3 : Value} (h : w.heap[b]? = some (.cells #[v0, v1, v2, v3] t (0, 0))) (u0 u1 u2 u3 : Value) :
    ((((w.setCell ⟨b, 0, none⟩ u0).setCell ⟨b, 1, none⟩ u1).setCell ⟨b, 2, none⟩ u2).setCell ⟨b, 3, none⟩ u3).heap[b]? = some (.cells #[u0, u1, u2, u3] t (0, 0)) := by
  simp only [Go.Sort.setCell_eq]
  simp [Go.Sort.mapBlock, Go.Sort.onCells, Array.getElem?_modify, h]
theorem below_setF {B b : Nat} {w w' : World} (h : Below B w w') (hb : B ≤ b) (u0 u1 u2 u3 : Value) : Below B w ((((w'.setCell ⟨b, 0, none⟩ u0).setCell ⟨b, 1, none⟩ u1).setCell ⟨b, 2, none⟩ u2).setCell ⟨b, 3, none⟩ u3) :=
  (((h.setCell hb _).setCell hb _).setCell hb _).setCell hb _
theorem app_macL (w : World) {ops : Array Oper} {rest : List Oper} {o : Oper} {a : Act} {Q : Exit → Act → World → Prop} (hgd : o.guard = none) (s x : Operand)
    (ho : o.op = .call { callee := .builtin .append, args := #[s, x], argTypes := #[45, 45] })
    (base : Nat) (v : Value) (n : Nat) (l : List Mac) (hs : a.eval s = v) (hown : w.ownsRow base 67 2 v n (cells2 mF mG l))
    (g : Nat) (m : Mac) (hx : a.eval x = .slice (some ⟨g, 0, none⟩) 1 1) (c0 : w.cell? ⟨g, 0, none⟩ = some (mF m)) (c1 : w.cell? ⟨g, 1, none⟩ = some (mG m)) (hn : n ≤ 1000000) (hbase : base ≤ w.heap.size)
    (h : ∀ v' w', w'.ownsRow base 67 2 v' (n + 1) (cells2 mF mG (l ++ [m])) → w.grownBy w' v.ownBlock → wpList Tryd.prog ops Q rest (a.put o.dst v') w') : wpList Tryd.prog ops Q (o :: rest) a w := by
  obtain ⟨i0, hi, hz0, hz1, hz2⟩ := info_parts info_mac
  refine wpList_append_own w hgd s x 45 ho base 67 i0 _ 2 32 Tryd.underlying45 hi hz0 hz1 hz2 rfl (by decide) v n _ hs hown ⟨g, 0, none⟩ 1 1 [mF m, mG m] hx rfl ?_ ?_ (by unfold maxLen; omega) (by omega) hbase (fun v' w' h1 h2 _ => h v' w' ?_ h2)
  · intro j q hj
    match j, hj with
    | 0, hj => simp at hj; subst hj; simpa [Addr.add] using c0
    | 1, hj => simp at hj; subst hj; simpa [Addr.add] using c1
  · intro q hq; simp at hq; rcases hq with rfl | rfl <;> rfl
  · rw [cells2_append]; exact h1
def nilFile : Value := .agg #[.slice none 0 0, .slice none 0 0, .slice none 0 0, .slice none 0 0]
/-- a file in memory, as Parse answers it -/
def FileAt (w : World) (lo : Nat) (v : Value) (F : FileV) : Prop := ∃ base B s rl, lo ≤ B ∧ FSt base B F s rl [] w ∧ v = .agg #[s.m F, s.p F, s.i F, s.r F]
/-- what Parse answers -/
def ParsePF (w : World) (l : List Bs) (e : Ending) (w' : World) : Prop :=
  (∃ v, e = .returned (.tuple #[v, .int .i64 ((parseF l).2.1 : Int), .int .i64 (parseF l).2.2]) ∧ (((parseF l).2.2 ≠ 0 ∧ v = nilFile) ∨ ((parseF l).2.2 = 0 ∧ FileAt w' w.heap.size v (parseF l).1))) ∧ Below w.heap.size w w'
theorem parseF_l {l : List Bs} (h : 200 < l.length) : parseF l = (file0, 0, 2) := by unfold parseF; rw [if_pos h]
theorem parseF_m {l : List Bs} (h : ¬ 200 < l.length) (h2 : flatsE okM (macsF l) ≠ 0) : parseF l = (file0, 0, flatsE okM (macsF l)) := by unfold parseF; rw [if_neg h, if_pos h2]
theorem parseF_g {l : List Bs} (h : ¬ 200 < l.length) (h2 : flatsE okM (macsF l) = 0) : parseF l = parseGo (macsF l) l 0 { file0 with ms := macsF l } := by unfold parseF; rw [if_neg h, if_neg (by rw [h2]; decide)]
theorem macsF_next {l : List Bs} {k : Nat} {x : Bs} (h : l[k]? = some x) : macsF (l.take (k + 1)) = macsF (l.take k) ++ (if defB x = true then [defM x] else []) := by
  unfold macsF
  rw [take_snoc h, List.filter_append, List.map_append]
  congr 1
  cases hd : defB x with
  | true => rw [List.filter_cons_of_pos hd]; rfl
  | false => rw [List.filter_cons_of_neg (by simp [hd])]; rfl
theorem macsF_len (l : List Bs) : (macsF l).length ≤ l.length := by
  unfold macsF
  rw [List.length_map]
  exact List.length_filter_le _ _
theorem defM_size (s : Bs) : (defM s).1.length ≤ s.length ∧ (defM s).2.length ≤ s.length := by
  have h : ∀ l : Bs, (Lib.trimS l [32, 9]).length ≤ l.length := fun l => by
    have := trm_size (txt l)
    rw [txt_size] at this
    unfold trm at this
    rwa [txt_size, txt_list] at this
  unfold defM
  constructor
  · exact Nat.le_trans (h _) (by rw [List.length_take]; omega)
  · exact Nat.le_trans (h _) (by rw [List.length_drop]; omega)
theorem lst_at {zs : List ByteArray} {k : Nat} (h : k < zs.length) : (lsB zs)[k]? = some (zs.getD k ByteArray.empty).data.toList := by
  unfold lsB
  rw [List.getElem?_map, List.getElem?_eq_getElem h, List.getD_eq_getElem?_getD, List.getElem?_eq_getElem h]
  rfl
theorem lsB_len (zs : List ByteArray) : (lsB zs).length = zs.length := List.length_map ..
theorem parseGo_def {ms : List Mac} {l : List Bs} {k : Nat} {x : Bs} {F : FileV} (h : l[k]? = some x) (hd : defB x = true) : parseGo ms (l.drop k) k F = parseGo ms (l.drop (k + 1)) (k + 1) F := by
  have hk := (List.getElem?_eq_some_iff.1 h).1
  have e : l[k] = x := (List.getElem?_eq_some_iff.1 h).2
  rw [List.drop_eq_getElem_cons hk, e, parseGo, if_pos hd]
theorem parseGo_bad {ms : List Mac} {l : List Bs} {k : Nat} {x : Bs} {F : FileV} (h : l[k]? = some x) (hd : defB x = false) (hE : (lineF ms x F).2 ≠ 0) : parseGo ms (l.drop k) k F = (file0, k + 1, (lineF ms x F).2) := by
  have hk := (List.getElem?_eq_some_iff.1 h).1
  have e : l[k] = x := (List.getElem?_eq_some_iff.1 h).2
  rw [List.drop_eq_getElem_cons hk, e, parseGo, hd, if_neg (by decide), if_pos hE]
theorem parseGo_good {ms : List Mac} {l : List Bs} {k : Nat} {x : Bs} {F : FileV} (h : l[k]? = some x) (hd : defB x = false) (hE : (lineF ms x F).2 = 0) : parseGo ms (l.drop k) k F = parseGo ms (l.drop (k + 1)) (k + 1) (lineF ms x F).1 := by
  have hk := (List.getElem?_eq_some_iff.1 h).1
  have e : l[k] = x := (List.getElem?_eq_some_iff.1 h).2
  rw [List.drop_eq_getElem_cons hk, e, parseGo, hd, if_neg (by decide), if_neg (by rw [hE]; decide)]
theorem lineF_e {ms : List Mac} {x : Bs} {F : FileV} (h : (expandE okM ms x).1 ≠ 0) : lineF ms x F = (F, (expandE okM ms x).1) := by unfold lineF; rw [if_pos h]
theorem lineF_p {ms : List Mac} {x : Bs} {F : FileV} (h : (expandE okM ms x).1 = 0) (h2 : parseE (expandE okM ms x).2 ≠ 0) : lineF ms x F = (F, parseE (expandE okM ms x).2) := by unfold lineF; rw [if_neg (by rw [h]; decide), if_pos h2]
theorem lineF_a {ms : List Mac} {x : Bs} {F : FileV} (h : (expandE okM ms x).1 = 0) (h2 : parseE (expandE okM ms x).2 = 0) : lineF ms x F = addF F (parseT (expandE okM ms x).2) (parseN (expandE okM ms x).2) := by unfold lineF; rw [if_neg (by rw [h]; decide), if_neg (by rw [h2]; decide)]
theorem parse_rule {s : Bs} (h : parseE s = 0) : RuleOk (parseT s) (parseN s) := by
  unfold parseE at h
  split at h
  · cases h
  · exact ruleE_zero.1 h
/-- what is expanded is short -/
theorem expand_short {ms : List Mac} {x : Bs} (h : (expandE okM ms x).1 = 0) : (expandE okM ms x).2.length ≤ 2000 := by
  obtain ⟨h1, h2⟩ := expandE_zero.1 h
  rw [expandE_at h1]
  unfold expandR at h2 ⊢
  split at h2
  · cases h2
  · rename_i a
    split at h2
    · cases h2
    · rename_i b
      split at h2
      · cases h2
      · rename_i c
        rw [if_neg a, if_neg b, if_neg c]
        show (evalT _ _).length ≤ 2000
        unfold lrg at c
        rw [Bool.or_eq_true, not_or, decide_eq_true_iff] at c
        omega
/-- the bounds of a file while it is filled -/
structure FBd (F : FileV) (k : Nat) : Prop where
  p : F.ph.length ≤ 20
  i : F.inf.length ≤ k
  r : F.rs.length ≤ 100
theorem addF_bd {F : FileV} {T N : List ByteArray} {k : Nat} (h : FBd F k) (hE : (addF F T N).2 = 0) : FBd (addF F T N).1 (k + 1) ∧ (addF F T N).1.ms = F.ms := by
  unfold addF at hE ⊢
  split at hE
  · rename_i a
    split at hE
    · cases hE
    · rename_i b
      rw [if_pos a, if_neg b]
      refine ⟨⟨?_, Nat.le_succ_of_le h.i, h.r⟩, rfl⟩
      simp only at hE
      split at hE
      · cases hE
      · show (addP F.ph N).length ≤ 20; omega
  · rename_i a
    split at hE
    · rename_i b
      rw [if_neg a, if_pos b]
      refine ⟨⟨h.p, ?_, h.r⟩, rfl⟩
      have := h.i
      simp only
      split
      · omega
      · rw [List.length_append]; simp; omega
    · rename_i b
      rw [if_neg a, if_neg b]
      refine ⟨⟨h.p, Nat.le_succ_of_le h.i, ?_⟩, rfl⟩
      simp only at hE
      split at hE
      · cases hE
      · show (F.rs ++ [(T, N)]).length ≤ 100; omega
theorem FSt.start {w : World} {base B : Nat} (hb : w.heap[B]? = some (.cells #[.slice none 0 0, .slice none 0 0, .slice none 0 0, .slice none 0 0] 48 (0, 0))) (hl : B < base) : FSt base B file0 ⟨none, 0, none, 0, none, 0, none, 0⟩ [] [] w where
  box := hb
  lt := hl
  ms := World.ownsRow_nil _ _ _ _
  ph := World.ownsRow_nil _ _ _ _
  inf := World.ownsRow_nil _ _ _ _
  rs := World.ownsRow_nil _ _ _ _
  same := rfl
  own := fun r hr => by cases hr
  sm := fun m hm => by cases hm
  sp := fun m hm => by cases hm
  si := fun m hm => by cases hm
/-- a store in another block below -/
theorem FSt.other {base B b i : Nat} {F : FileV} {s : FV} {rl xl : List RV} {w : World} {u : Value} (h : FSt base B F s rl xl w) (hb : b < base) (hne : b ≠ B) : FSt base B F s rl xl (w.setCell ⟨b, i, none⟩ u) where
  box := by rw [heap_setCell_other w _ _ _ (fun e => hne e.symm)]; exact h.box
  lt := h.lt
  ms := own_set h.ms hb
  ph := own_set h.ph hb
  inf := own_set h.inf hb
  rs := own_set h.rs hb
  same := h.same
  own := fun r hr => ⟨(h.own r hr).1.grown (grown_setF w _ _) (fun e => by injection e with e; have h1 := (h.own r hr).1.lt.1; have h2 : b = r.g1 := e; omega), (h.own r hr).2.1.grown (grown_setF w _ _) (fun e => by injection e with e; have h1 := (h.own r hr).2.1.lt.1; have h2 : b = r.g2 := e; omega), (h.own r hr).2.2⟩
  sm := h.sm
  sp := h.sp
  si := h.si
theorem FSt.macs {base B : Nat} {F : FileV} {s : FV} {rl xl : List RV} {w : World} (h : FSt base B F s rl xl w) (hn : F.ms.length ≤ 1000000) : MacsIn w s.pm F.ms.length s.cm F.ms := MacsIn.own h.ms (by omega) h.sm
theorem FSt.pbl {base B : Nat} {F : FileV} {s : FV} {rl xl : List RV} {w : World} (h : FSt base B F s rl xl w) {g : Nat} (hg : w.heap.size ≤ g) : (s.p F).ownBlock ≠ some g := fun e => by have := (h.ph.lt g e).2; omega
end Go.Proofs.YtoiolepengcagaaDoor
namespace Go.Proofs.YtoiolepengcagaaDoor
open Go.RowKit Go.Shelf Go.Maps Go.WideMaps
/-! ### what a line does, plainly -/
section
variable {T : Bl → Option Bl}
/-- a line that includes: how many lines, what is told, the error -/
def incR (T : Bl → Option Bl) (f : Nat) (op : List Bl) (many : Nat) (out : List Bl) (ws : List Bl) : Nat × List Bl × Int :=
  if ws.length ≠ 2 then (many, out, 3) else match T (ws.getD 1 []) with
    | none => (many, out, 5)
    | some t => if ws.getD 1 [] ∈ op then (many, out, 8) else match f with
      | 0 => (many, out, 8)
      | f + 1 => readR T f (op ++ [ws.getD 1 []]) many out t
theorem readG_cons (f : Nat) (op : List Bl) (x : Bl) (l : List Bl) (many : Nat) (out : List Bl) : readG T f op (x :: l) many out =
    if 200 < many + 1 then (many + 1, out, 2) else if (wordsL x).getD 0 [] ≠ incW then readG T f op l (many + 1) (out ++ [x])
    else if (incR T f op (many + 1) out (wordsL x)).2.2 ≠ 0 then incR T f op (many + 1) out (wordsL x) else readG T f op l (incR T f op (many + 1) out (wordsL x)).1 (incR T f op (many + 1) out (wordsL x)).2.1 := by
  rw [readG]
  by_cases h1 : 200 < many + 1
  · rw [if_pos h1, if_pos h1]
  · rw [if_neg h1, if_neg h1]
    by_cases h2 : (wordsL x).getD 0 [] ≠ incW
    · rw [if_pos h2, if_pos h2]
    · rw [if_neg h2, if_neg h2]
      unfold incR
      by_cases h3 : (wordsL x).length ≠ 2
      · simp only [if_pos h3]
        exact (if_pos (show (3 : Int) ≠ 0 by decide)).symm
      · simp only [if_neg h3]
        cases hT : T ((wordsL x).getD 1 []) with
        | none => exact (if_pos (show (5 : Int) ≠ 0 by decide)).symm
        | some t =>
          simp only
          by_cases h4 : (wordsL x).getD 1 [] ∈ op
          · simp only [if_pos h4]
            exact (if_pos (show (8 : Int) ≠ 0 by decide)).symm
          · simp only [if_neg h4]
            cases f with
            | zero => exact (if_pos (show (8 : Int) ≠ 0 by decide)).symm
            | succ f => rfl
theorem txs_drop {s : Bl} {k : Nat} (h : k < (txsL s).length) : (txsL s).drop k = (txsL s).getD k [] :: (txsL s).drop (k + 1) := by
  rw [List.drop_eq_getElem_cons h, List.getD_eq_getElem?_getD, List.getElem?_eq_getElem h]; rfl
theorem blk_sp {c : UInt8} (h : blk c = true) : ([32, 9] : List UInt8).contains c = true := by rw [blk_has]; exact h
/-- a line that is told bears a word -/
theorem trimR_words {l : Bl} (h : Lib.trimRightS l [32, 9] ≠ []) : wordsL (Lib.trimRightS l [32, 9]) ≠ [] := by
  intro e
  rw [words_empty] at e
  unfold Lib.trimRightS at h e
  apply h
  rw [List.reverse_eq_nil_iff]
  cases hd : l.reverse.dropWhile (fun x => ([32, 9] : List UInt8).contains x) with
  | nil => rfl
  | cons c r =>
    exfalso
    have h1 := List.head?_dropWhile_not (p := fun x => ([32, 9] : List UInt8).contains x) (l := l.reverse)
    rw [hd] at h1 e
    have h2 := e c (by simp)
    have h3 : ([32, 9] : List UInt8).contains c = true := blk_sp h2
    rw [List.head?_cons] at h1
    rw [h1] at h3
    cases h3
theorem jg_words : ∀ n s at_, s.length ≤ n → ∀ x ∈ jg s at_, wordsL x.2 ≠ [] := by
  intro n
  induction n with
  | zero =>
    intro s at_ h x hx
    have : s = [] := List.length_eq_zero_iff.1 (by omega)
    subst this
    cases hx
  | succ n ih =>
    intro s at_ h x hx
    by_cases hs : s = []
    · subst hs; cases hx
    · have hl := lg_len _ [] s (at_ + 1) (Nat.le_refl _) hs
      rw [jg_eq hs] at hx
      rcases List.mem_append.1 hx with hx | hx
      · split at hx
        · cases hx
        · rename_i hc
          rw [List.mem_singleton.1 hx]
          exact trimR_words hc
      · exact ih _ _ (by omega) x hx
theorem txs_words {s x : Bl} (h : x ∈ txsL s) : wordsL x ≠ [] := by
  obtain ⟨y, hy, rfl⟩ := List.mem_map.1 h
  exact jg_words _ s 0 (Nat.le_refl _) y hy
theorem txs_len (s : Bl) : (txsL s).length = (joinL s).length := List.length_map ..
end
/-! ### in memory -/
theorem lawT : Keyed Tryd.prog 9 := string_keyed Tryd.underlying9
def rawT (v : Value) : Option (DataW Value × List MemPlace) := some (.held v, [])
/-- the texts that can be included -/
def MapT (w : World) (b n : Nat) (T : Bl → Option Bl) : Prop :=
  ∃ D : DataW Value, w.ownsMap Tryd.prog 9 rawT b n D ∧ (∀ s, D.atKey (.string s) (.held (.string ⟨#[]⟩)) = .held (.string (txt ((T s).getD [])))) ∧ ∀ s, has D (.string s) = (T s).isSome
theorem MapT.kept {w w' : World} {b n : Nat} {T : Bl → Option Bl} (h : MapT w b n T) {row : Option Nat} (hg : w.grownBy w' row) (hne : some b ≠ row) : MapT w' b n T := by
  obtain ⟨D, h1, h2, h3⟩ := h
  exact ⟨D, h1.kept hg hne, h2, h3⟩
theorem MapT.lt {w : World} {b n : Nat} {T : Bl → Option Bl} (h : MapT w b n T) : b < w.heap.size := by
  obtain ⟨D, h1, _⟩ := h
  exact h1.lt
theorem MapT.below {w w' : World} {b n : Nat} {T : Bl → Option Bl} (h : MapT w b n T) (hb : Below w.heap.size w w') : MapT w' b n T :=
  h.kept (row := none) ⟨hb.os, hb.tape, hb.output, hb.size, fun k hk _ => hb.block k hk⟩ (by simp)
theorem MapT.set {w : World} {b n B i : Nat} {T : Bl → Option Bl} {u : Value} (h : MapT w b n T) (hne : b ≠ B) : MapT (w.setCell ⟨B, i, none⟩ u) b n T :=
  h.kept (grown_setF w _ _) (fun e => by injection e with e; exact hne e)
theorem MapT.look {w : World} {b n : Nat} {T : Bl → Option Bl} (h : MapT w b n T) (s : ByteArray) (hs : s.size ≤ maxLen) :
    Sem.run Tryd.prog (Instr.lookup 53 (.map (some b)) (.string s) true) w = .ok (.tuple #[.string (txt ((T s.data.toList).getD [])), .bool (T s.data.toList).isSome]) w := by
  obtain ⟨D, h1, h2, h3⟩ := h
  obtain ⟨v, ps, hrun, hat⟩ := h1.look_ok lawT Tryd.underlying53 (Tryd.zeroValue9 w) (zd := .held (.string ⟨#[]⟩)) (zp := []) rfl (keyOf_string_mk Tryd.underlying9 hs)
  rw [h2] at hat
  have hv : v = .string (txt ((T s.data.toList).getD [])) := by
    have h4 : (DataW.held v : DataW Value) = .held _ := congrArg Prod.fst (Option.some.inj hat)
    exact DataW.held.inj h4
  subst hv
  rw [h3] at hrun
  exact hrun
/-- where the reader's rows lie -/
structure RR where
  bm : Nat
  nm : Nat
  po : Option Addr
  co : Nat
  pq : Option Addr
  cq : Nat
def RR.o (r : RR) (op : List Bl) : Value := .slice r.po op.length r.co
def RR.q (r : RR) (out : List Bl) : Value := .slice r.pq out.length r.cq
structure RSt (base B : Nat) (T : Bl → Option Bl) (op : List Bl) (many : Nat) (out : List Bl) (r : RR) (w : World) : Prop where
  box : w.heap[B]? = some (.cells #[.map (some r.bm), r.o op, .int .i64 (many : Int), r.q out] 55 (0, 0))
  lt : B < base
  map : MapT w r.bm r.nm T
  mlt : r.bm < B
  rowO : w.ownsRow base 9 1 (r.o op) op.length (strsV (op.map txt))
  rowQ : w.ownsRow base 9 1 (r.q out) out.length (strsV (out.map txt))
  apart : (r.o op).ownBlock = none ∨ (r.o op).ownBlock ≠ (r.q out).ownBlock
  so : ∀ x ∈ op, x.length ≤ 1048576
  sq : ∀ x ∈ out, x.length ≤ 1048576
  lo : op.length ≤ 1000
  lq : out.length ≤ many
  lm : many ≤ 201
/-- what a call keeps: all blocks but the box and two rows -/
structure Kp (w w' : World) (B : Nat) (a b : Option Nat) : Prop where
  os : w'.os = w.os
  tape : w'.tape = w.tape
  output : w'.output = w.output
  size : w.heap.size ≤ w'.heap.size
  block : ∀ k, k < w.heap.size → k ≠ B → some k ≠ a → some k ≠ b → w'.heap[k]? = w.heap[k]?
theorem Kp.refl (w : World) (B : Nat) (a b : Option Nat) : Kp w w B a b := ⟨rfl, rfl, rfl, Nat.le_refl _, fun _ _ _ _ _ => rfl⟩
theorem Kp.of_below {w w' : World} {B : Nat} {a b : Option Nat} (h : Below w.heap.size w w') : Kp w w' B a b := ⟨h.os, h.tape, h.output, h.size, fun k hk _ _ _ => h.block k hk⟩
theorem Kp.trans {w w1 w2 : World} {B : Nat} {a b a1 b1 : Option Nat} (h : Kp w w1 B a b) (h2 : Kp w1 w2 B a1 b1) (ha : a1 = a ∨ ∀ k, a1 = some k → w.heap.size ≤ k) (hb : b1 = b ∨ ∀ k, b1 = some k → w.heap.size ≤ k) : Kp w w2 B a b :=
  ⟨h2.os.trans h.os, h2.tape.trans h.tape, h2.output.trans h.output, Nat.le_trans h.size h2.size, fun k hk h0 h3 h4 => by
    rw [h2.block k (Nat.lt_of_lt_of_le hk h.size) h0 (fun e => by
      rcases ha with rfl | ha
      · exact h3 e
      · have := ha k e.symm; omega) (fun e => by
      rcases hb with rfl | hb
      · exact h4 e
      · have := hb k e.symm; omega)]
    exact h.block k hk h0 h3 h4⟩
theorem Kp.grown {w u z : World} {B : Nat} {a b r : Option Nat} (h : Kp w u B a b) (g : u.grownBy z r) (hr : r = a ∨ r = b ∨ ∀ k, r = some k → w.heap.size ≤ k) : Kp w z B a b :=
  ⟨g.os.trans h.os, g.tape.trans h.tape, g.output.trans h.output, Nat.le_trans h.size g.size, fun k hk h0 h3 h4 => by
    rw [g.block k (Nat.lt_of_lt_of_le hk h.size) (fun e => by
      rcases hr with rfl | rfl | hr
      · exact h3 e
      · exact h4 e
      · have := hr k e.symm; omega)]
    exact h.block k hk h0 h3 h4⟩
theorem Kp.set {w u : World} {B i : Nat} {a b : Option Nat} {x : Value} (h : Kp w u B a b) : Kp w (u.setCell ⟨B, i, none⟩ x) B a b :=
  ⟨h.os, h.tape, h.output, by simp; exact h.size, fun k hk h0 h3 h4 => by rw [heap_setCell_other u _ _ _ h0]; exact h.block k hk h0 h3 h4⟩
/-- a row of another kind stays -/
theorem Kp.row {w w' : World} {B base lo e k n : Nat} {T : Bl → Option Bl} {op : List Bl} {many : Nat} {out : List Bl} {r : RR} {v : Value} {xs : List Value} (h : Kp w w' B (r.o op).ownBlock (r.q out).ownBlock) (hR : RSt base B T op many out r w)
    (hv : w.ownsRow lo e k v n xs) (hlo : B < lo) (he : 9 ≠ e) : w'.ownsRow lo e k v n xs := by
  refine ⟨hv.1, ?_⟩
  rcases hv.2 with h1 | ⟨g, cap, cur, rfl, h2, h3, h4⟩
  · exact .inl h1
  · refine .inr ⟨g, cap, cur, rfl, h2, ?_, h4⟩
    have ho := own_apart (v' := .slice (some ⟨g, 0, none⟩) n cap) hR.rowO ⟨hv.1, .inr ⟨g, cap, cur, rfl, h2, h3, h4⟩⟩ he
    have hq := own_apart (v' := .slice (some ⟨g, 0, none⟩) n cap) hR.rowQ ⟨hv.1, .inr ⟨g, cap, cur, rfl, h2, h3, h4⟩⟩ he
    rw [h.block g (Array.getElem?_eq_some_iff.1 h3).1 (by omega) (fun e => by
      rcases ho with ho | ho
      · rw [ho] at e; cases e
      · exact ho e.symm) (fun e => by
      rcases hq with hq | hq
      · rw [hq] at e; cases e
      · exact hq e.symm)]
    exact h3
section
variable {base B : Nat} {T : Bl → Option Bl} {op : List Bl} {many : Nat} {out : List Bl} {r : RR} {w w5 : World}
theorem RSt.blt (h : RSt base B T op many out r w) : B < w.heap.size := (Array.getElem?_eq_some_iff.1 h.box).1
theorem RSt.below (h : RSt base B T op many out r w) (hb : Below w.heap.size w w5) : RSt base B T op many out r w5 :=
  { h with box := by rw [hb.block B h.blt]; exact h.box
           map := h.map.below hb
           rowO := own_belowR h.rowO hb
           rowQ := own_belowR h.rowQ hb }
theorem RSt.drew (h : RSt base B T op many out r w) : RSt base B T op many out r w.drew := h.below ((Below.refl _ _).drew)
theorem RSt.boxAt (h : RSt base B T op many out r w) {x : Option Nat} (hg : w.grownBy w5 x) (hr : ∀ k, x = some k → base ≤ k) : w5.heap[B]? = some (.cells #[.map (some r.bm), r.o op, .int .i64 (many : Int), r.q out] 55 (0, 0)) := by
  rw [hg.block B h.blt (fun e => by have := hr B e.symm; have := h.lt; omega)]
  exact h.box
/-- one line more is counted -/
theorem RSt.count (h : RSt base B T op many out r w) (hm : many + 1 ≤ 201) : RSt base B T op (many + 1) out r (w.setCell ⟨B, 2, none⟩ (.int .i64 ((many : Int) + 1))) where
  box := (boxF_set h.box (.int .i64 ((many : Int) + 1))).2.2.1
  lt := h.lt
  map := h.map.set (by have := h.mlt; omega)
  mlt := h.mlt
  rowO := own_set h.rowO h.lt
  rowQ := own_set h.rowQ h.lt
  apart := h.apart
  so := h.so
  sq := h.sq
  lo := h.lo
  lq := Nat.le_succ_of_le h.lq
  lm := hm
/-- a text more is told -/
theorem RSt.text (h : RSt base B T op many out r w) {x : Bl} {p : Option Addr} {c : Nat} (hx : x.length ≤ 1048576) (hg : w.grownBy w5 (r.q out).ownBlock) (hl : out.length + 1 ≤ many)
    (ho : w5.ownsRow base 9 1 (.slice p (out.length + 1) c) (out.length + 1) (strsV (out.map txt ++ [txt x])))
    (hlies : (Value.slice p (out.length + 1) c).ownBlock = (r.q out).ownBlock ∨ (Value.slice p (out.length + 1) c).ownBlock = some w.heap.size) :
    w5.heap[B]? = some (.cells #[.map (some r.bm), r.o op, .int .i64 (many : Int), r.q out] 55 (0, 0)) ∧ RSt base B T op many (out ++ [x]) { r with pq := p, cq := c } (w5.setCell ⟨B, 3, none⟩ (.slice p (out.length + 1) c)) := by
  have hb := h.boxAt hg (fun k hk => (h.rowQ.lt k hk).1)
  have hln : (out ++ [x]).length = out.length + 1 := by simp
  refine ⟨hb, ⟨?_, h.lt, ?_, h.mlt, ?_, ?_, ?_, h.so, ?_, h.lo, by rw [hln]; exact hl, h.lm⟩⟩
  · have := (boxF_set hb (.slice p (out.length + 1) c)).2.2.2
    rw [this]
    unfold RR.q
    rw [hln]
    rfl
  · exact (h.map.kept hg (fun e => by have := (h.rowQ.lt _ e.symm).1; have := h.mlt; have := h.lt; omega)).set (by have := h.mlt; show r.bm ≠ B; omega)
  · exact own_step h.rowO hg h.apart h.lt
  · have := own_set (i := 3) (u := .slice p (out.length + 1) c) ho h.lt
    unfold RR.q
    rw [hln, List.map_append]
    exact this
  · show (r.o op).ownBlock = none ∨ (r.o op).ownBlock ≠ _
    unfold RR.q
    rw [hln]
    rcases hlies with e | e
    · rw [e]; exact h.apart
    · rw [e]
      right
      intro e2
      have := (h.rowO.lt _ e2).2
      omega
  · intro y hy
    rcases List.mem_append.1 hy with hy | hy
    · exact h.sq y hy
    · rw [List.mem_singleton.1 hy]; exact hx
end
/-- what a call of read or include leaves -/
def ReadPost (base B : Nat) (T : Bl → Option Bl) (op : List Bl) (out : List Bl) (r : RR) (R : Nat × List Bl × Int) (w : World) (e : Ending) (w' : World) : Prop :=
  e = .returned (.int .i64 R.2.2) ∧ (∃ r', RSt base B T op R.1 R.2.1 r' w' ∧ ((r'.o op).ownBlock = (r.o op).ownBlock ∨ ∀ k, (r'.o op).ownBlock = some k → w.heap.size ≤ k) ∧ ((r'.q R.2.1).ownBlock = (r.q out).ownBlock ∨ ∀ k, (r'.q R.2.1).ownBlock = some k → w.heap.size ≤ k)) ∧ Kp w w' B (r.o op).ownBlock (r.q out).ownBlock ∧ (R.2.2 = 0 → R.1 ≤ 200)
end Go.Proofs.YtoiolepengcagaaDoor
namespace Go.Proofs.YtoiolepengcagaaDoor
open Go.RowKit Go.Shelf Go.Maps
theorem nl_sum (s : Bl) : (nl s).1.length + (nl s).2.length ≤ s.length := by
  induction s with
  | nil => exact Nat.le_refl _
  | cons c s ih =>
    unfold nl
    split
    · simp
    · simp only [List.length_cons]; omega
theorem trimSuf_lt {l : Bl} (h : Lib.hasSuffix l [92] = true) : (Lib.trimSuffix l [92]).length + 1 ≤ l.length := by
  have h1 : 1 ≤ l.length := by
    obtain ⟨a, rfl⟩ := (suf_iff l).1 h
    simp
  unfold Lib.trimSuffix
  rw [if_pos h, List.length_take]
  simp only [List.length_singleton]
  omega
theorem lg_size : ∀ n text s at_, s.length ≤ n → (lg text s at_).1.length + (lg text s at_).2.1.length ≤ text.length + s.length := by
  intro n
  induction n with
  | zero =>
    intro text s at_ h
    have : s = [] := List.length_eq_zero_iff.1 (by omega)
    subst this
    show text.length + 0 ≤ _
    omega
  | succ n ih =>
    intro text s at_ h
    have h1 := nl_sum s
    have h2 := onl_len text (nl s).1
    rw [lg_eq]
    split
    · rename_i hc
      have h3 := trimSuf_lt hc.1
      have hne : s ≠ [] := fun e => by subst e; exact hc.2 rfl
      have h4 : (nl s).2.length < s.length := by
        have : (nl s).2.length + 1 ≤ s.length := by
          have := (suf_iff _).1 hc.1
          obtain ⟨a, ha⟩ := this
          have : 1 ≤ (onl text (nl s).1).length := by rw [ha]; simp
          omega
        omega
      have := ih (text ++ Lib.trimSuffix (onl text (nl s).1) [92] ++ [32]) (nl s).2 (at_ + 1) (by omega)
      rw [List.length_append, List.length_append] at this
      simp only [List.length_singleton] at this
      omega
    · have h3 := trimSuf_len (onl text (nl s).1) [92]
      simp only [List.length_append]
      omega
theorem jg_size : ∀ n s at_, s.length ≤ n → ∀ x ∈ jg s at_, x.2.length ≤ s.length := by
  intro n
  induction n with
  | zero =>
    intro s at_ h x hx
    have : s = [] := List.length_eq_zero_iff.1 (by omega)
    subst this
    cases hx
  | succ n ih =>
    intro s at_ h x hx
    by_cases hs : s = []
    · subst hs; cases hx
    · have hl := lg_len _ [] s (at_ + 1) (Nat.le_refl _) hs
      have hz := lg_size _ [] s (at_ + 1) (Nat.le_refl _)
      rw [jg_eq hs] at hx
      rcases List.mem_append.1 hx with hx | hx
      · split at hx
        · cases hx
        · rw [List.mem_singleton.1 hx]
          have := cutl_len (lg [] s (at_ + 1)).1
          simp only at this ⊢
          simp only [List.length_nil] at hz
          omega
      · have := ih _ _ (by omega) x hx
        omega
theorem joinL_size {s : Bl} {x : Ln} (h : x ∈ joinL s) : x.2.length ≤ s.length := jg_size _ s 0 (Nat.le_refl _) x h
theorem joinEL_eq (s : ByteArray) : joinE s = joinEL s.data.toList := by
  unfold joinE joinEL
  rw [ba_len]
theorem txs_at {s : Bl} {j : Nat} {x : Ln} (h : (joinL s)[j]? = some x) : (txsL s).getD j [] = x.2 := by
  unfold txsL
  rw [List.getD_eq_getElem?_getD, List.getElem?_map, h]
  rfl
theorem RSt.cells {base B : Nat} {T : Bl → Option Bl} {op : List Bl} {many : Nat} {out : List Bl} {r : RR} {w : World} (h : RSt base B T op many out r w) :
    (w.cell? ⟨B, 0, none⟩ = some (.map (some r.bm)) ∧ w.cell? ⟨B, 1, none⟩ = some (.slice r.po op.length r.co) ∧ w.cell? ⟨B, 2, none⟩ = some (.int .i64 (many : Int)) ∧ w.cell? ⟨B, 3, none⟩ = some (.slice r.pq out.length r.cq)) ∧ ∀ o, w.frozen? ⟨B, o, none⟩ = false := boxF h.box
/-- append of one string, as one step of a region that draws -/
theorem step_strL {ops : Array Oper} {o : Oper} {a : Act} {w : World} {K : Act → World → Prop} {Q : Exit → Act → World → Prop} {E : Prop} (hg : o.guard = none) (s x : Operand)
    (ho : o.op = .call { callee := .builtin .append, args := #[s, x], argTypes := #[28, 28] })
    (base : Nat) (v : Value) (n : Nat) (xs : List ByteArray) (hs : a.eval s = v) (hown : w.ownsRow base 9 1 v n (strsV xs))
    (g : Nat) (u : ByteArray) (hx : a.eval x = .slice (some ⟨g, 0, none⟩) 1 1) (hcell : w.cell? ⟨g, 0, none⟩ = some (.string u))
    (hn : n < 8796093022208) (hbase : base ≤ w.heap.size)
    (h : ∀ v' w', w'.ownsRow base 9 1 v' (n + 1) (strsV (xs ++ [u])) → w.grownBy w' v.ownBlock → (v'.ownBlock = v.ownBlock ∨ v'.ownBlock = some w.heap.size) → K (a.put o.dst v') w') :
    if Region.wanted o (yielded ops a.tmps) = true then Oper.wp Tryd.prog o a w K Q else E := by
  have hw : Region.wanted o (yielded ops a.tmps) = true := by simp [Region.wanted, hg]
  rw [if_pos hw]
  obtain ⟨i0, hi, hz0, hz1, hz2⟩ := info_parts info_strF
  obtain ⟨v', w', hr, h2, h3, _, h6⟩ := run_append_own_at (P := Tryd.prog) w base 28 o.type 9 i0 (.string ⟨#[]⟩) 1 16 Tryd.underlying28 hi hz0 hz1 hz2 rfl (by decide) v n (strsV xs) hown ⟨g, 0, none⟩ 1 1 [.string u] rfl (by
    intro j q hj
    match j, hj with
    | 0, hj => simp at hj; subst hj; simpa [Addr.add] using hcell) (by intro q hq; simp at hq; subst hq; rfl) (by unfold maxLen; omega) (by omega) hbase
  unfold Oper.wp execOp
  simp only [ho, resolve, invoke, builtin, Sem.run_bind, Sem.run_pure, Result.andThen_ok, List.map_toArray, List.map_cons, List.map_nil, hs, hx, hr]
  exact h v' w' (by rw [strsV_snoc]; exact h2) h3 h6
/-- what include does at a line's words -/
def IncOk (base B : Nat) (T : Bl → Option Bl) (f : Nat) (op : List Bl) (x : Bl) : Prop :=
  ∀ (many : Nat) (out : List Bl) (r : RR) (p : Option Addr) (c : Nat) (u : World), RSt base B T op many out r u → many ≤ 200 → base ≤ u.heap.size → ML u → NL u p (wordsL x).length c (wb x) →
    Calls Tryd.prog 32 #[.pointer (some ⟨B, 0, none⟩), .slice p (wordsL x).length c] u (ReadPost base B T op out r (incR T f op many out (wordsL x)) u)
theorem wb_len2 (x : Bl) : (wb x).length = (wordsL x).length := List.length_map ..
theorem wb_at (x : Bl) (k : Nat) : (wb x).getD k ByteArray.empty = txt ((wordsL x).getD k []) := by
  unfold wb
  rw [List.getD_eq_getElem?_getD, List.getD_eq_getElem?_getD, List.getElem?_map]
  cases (wordsL x)[k]? <;> rfl
theorem ML.kp {w w' : World} {B : Nat} {a b : Option Nat} (h : ML w) (hK : Kp w w' B a b) (hg : 0 < B) (ha : ∀ k, a = some k → B ≤ k) (hb : ∀ k, b = some k → B ≤ k) : ML w' := by
  have hl := h.lt
  obtain ⟨m, h⟩ := h
  refine ⟨m, ?_⟩
  unfold World.cell? at h ⊢
  rw [hK.block 0 hl (by omega) (fun e => by have := ha _ e.symm; omega) (fun e => by have := hb _ e.symm; omega)]
  exact h
theorem inc_cmp (l : Bl) : ((txt l).toList == ([105, 110, 99, 108, 117, 100, 101] : List UInt8)) = decide (l = incW) := by
  rw [Lib.toList_data, txt_list, Bool.eq_iff_iff, beq_iff_eq, decide_eq_true_iff]
  rfl
theorem joinE_size {s : ByteArray} (h : joinE s = 0) : s.size ≤ 20000 := by
  unfold joinE at h
  split at h
  · cases h
  · omega
set_option maxHeartbeats 8000000 in
set_option maxRecDepth 100000 in
theorem read_ok (base B : Nat) (T : Bl → Option Bl) (f : Nat) (op : List Bl) (many : Nat) (out : List Bl) (r : RR) (s : ByteArray) (w : World) (h : RSt base B T op many out r w) (hbase : base ≤ w.heap.size) (hM : ML w) (hs : s.size ≤ 4611686018427387904) (hm0 : many ≤ 200) (hg : 0 < B)
    (HI : joinE s = 0 → ∀ x ∈ txsL s.data.toList, (wordsL x).getD 0 [] = incW → IncOk base B T f op x) :
    Calls Tryd.prog 19 #[.pointer (some ⟨B, 0, none⟩), .string s] w (ReadPost base B T op out r (readR T f op many out s.data.toList) w) := by
  have HR := Lib.hid h
  have HBS := Lib.hid hbase
  have HML := Lib.hid hM
  have HII := Lib.hid HI
  have hJ := JoinE_ok s (by omega) w hM
  have hBw := h.blt
  have hBb := h.lt
  clear h hM HI
  by_cases hE : joinE s = 0
  · have HE0 := Lib.hid hE
    have hs : s.size ≤ 1048576 := by
      have h0 := hE
      unfold joinE at h0
      split at h0
      · cases h0
      · omega
    have hRR : readR T f op many out s.data.toList = readG T f op (txsL s.data.toList) many out := by rw [readR_eq, ← joinEL_eq, hE]; rfl
    have HRR := Lib.hid hRR
    have hJ2 : Calls Tryd.prog 30 #[.string s] w fun e w' => (∃ po co, e = .returned (.tuple #[.slice po (joinL s.data.toList).length co, .int .i64 0]) ∧ w'.ownsRow w.heap.size 81 2 (.slice po (joinL s.data.toList).length co) (joinL s.data.toList).length (cells2 lF lG (joinL s.data.toList))) ∧ Below w.heap.size w w' := by
      refine hJ.mono ?_
      rintro e w' ⟨h1 | ⟨_, po, co, h2, h3⟩, hb⟩
      · exact absurd hE h1.1
      · exact ⟨⟨po, co, h2, h3⟩, hb⟩
    have HJ := Lib.hid hJ2
    have hln : (joinL s.data.toList).length ≤ 1048576 := by have := joinL_len s.data.toList; rw [ba_len] at this; omega
    have HTL := Lib.hid (txs_len s.data.toList)
    have HTA : Hid (∀ (j : Nat) (x : Ln), (joinL s.data.toList)[j]? = some x → (txsL s.data.toList).getD j [] = x.2 ∧ x.2.length ≤ 1048576 ∧ wordsL x.2 ≠ [] ∧ x.2 ∈ txsL s.data.toList) := by
      show ∀ (j : Nat) (x : Ln), _
      intro j x hx
      have hm := List.mem_of_getElem? hx
      have := joinL_size hm
      rw [ba_len] at this
      have hm2 : x.2 ∈ txsL s.data.toList := List.mem_map.2 ⟨x, hm, rfl⟩
      exact ⟨txs_at hx, by omega, txs_words hm2, hm2⟩
    clear hJ hJ2 hRR hE
    generalize txsL s.data.toList = tx at *
    generalize joinL s.data.toList = L at *
    go_enter Tryd.func19, Tryd.ntmps19
    go_upto_region 4 with (go_at_call 30; refine HJ.out.mono ?_; rintro e w1 ⟨⟨po, co, rfl, hown⟩, hb⟩; have HO := Lib.hid hown; have HB1 := Lib.hid hb; clear hown hb)
    go_wp2_with fail
    go_loopw [21] (fun i wr => ∃ (j m : Nat) (o : List Bl) (r' : RR), j ≤ L.length ∧ m ≤ 200 ∧ i = .int .i64 j ∧ Hid (RSt base B T op m o r' wr) ∧ Hid (readR T f op many out s.data.toList = readG T f op (tx.drop j) m o) ∧ Hid (Kp w wr B (r.o op).ownBlock (r.q out).ownBlock) ∧
      Hid ((r'.o op).ownBlock = (r.o op).ownBlock ∨ ∀ k, (r'.o op).ownBlock = some k → w.heap.size ≤ k) ∧ Hid ((r'.q o).ownBlock = (r.q out).ownBlock ∨ ∀ k, (r'.q o).ownBlock = some k → w.heap.size ≤ k) ∧ Hid (wr.ownsRow w.heap.size 81 2 (.slice po L.length co) L.length (cells2 lF lG L))) (fun i _ => L.length - (intOf i).toNat)
    case atStart => exact ⟨0, many, out, r, Nat.zero_le _, hm0, rfl, HR.out.below HB1.out, by rw [List.drop_zero]; exact HRR.out, Kp.of_below HB1.out, .inl rfl, .inl rfl, HO.out⟩
    case round =>
      obtain ⟨j, m, o, r', hj, hm200, rfl, HS, HG, HK, HFO, HFQ, HL⟩ := hrel
      by_cases hlt : j < L.length
      · obtain ⟨x, hx⟩ : ∃ x, L[j]? = some x := ⟨L[j], List.getElem?_eq_getElem hlt⟩
        obtain ⟨hxt, hxs, hxw, hxm⟩ := HTA.out j x hx
        have hP : P2At lF lG wr po L.length co L := P2At.own HL.out (by omega)
        obtain ⟨bb, ob, rfl, hbb, hca, hcb⟩ := hP.cell hx
        have hcb2 : wr.cell? ⟨bb, ob + j * 2 + 1, none⟩ = some (lG x) := hcb
        have HTD : Hid (tx.drop j = x.2 :: tx.drop (j + 1)) := by
          show _ = _
          have hjt : j < tx.length := by rw [HTL.out]; exact hlt
          rw [List.drop_eq_getElem_cons hjt]
          congr 1
          have : tx.getD j [] = tx[j] := by rw [List.getD_eq_getElem?_getD, List.getElem?_eq_getElem hjt]; rfl
          rw [← this, hxt]
        have HXM := Lib.hid hxm
        have HXW := Lib.hid hxw
        clear hP hcb hxt hxm hxw hx
        obtain ⟨a, x⟩ := x
        simp only [lF, lG] at hca hcb2
        simp only at hxs HTD HXM HXW
        have hBwr : B < wr.heap.size := HS.out.blt
        have hww : w.heap.size ≤ wr.heap.size := HK.out.size
        obtain ⟨X, hX⟩ : ∃ X, X = wr.alloc (.cells #[.int .i64 (a : Int), .string (txt x)] 81) := ⟨_, rfl⟩
        have hbX : Below wr.heap.size wr X := by rw [hX]; exact rb1w _ _
        have hx1 : X.heap[wr.heap.size]? = some (.cells #[.int .i64 (a : Int), .string (txt x)] 81 (0, 0)) := by rw [hX]; exact rb_new _ _
        have HSX := Lib.hid (HS.out.below hbX)
        obtain ⟨⟨c0, c1, c2, c3⟩, c4⟩ := HSX.out.cells
        obtain ⟨Y, hY⟩ : ∃ Y, Y = X.setCell ⟨B, 2, none⟩ (.int .i64 ((m : Int) + 1)) := ⟨_, rfl⟩
        have HSY : Hid (RSt base B T op (m + 1) o r' Y) := by show RSt _ _ _ _ _ _ _ _; rw [hY]; exact HSX.out.count (by omega)
        have hYs : Y.heap.size = X.heap.size := by rw [hY]; simp
        have hXs : X.heap.size = wr.heap.size + 1 := by rw [hX]; simp
        have hy1 : Y.heap[wr.heap.size]? = some (.cells #[.int .i64 (a : Int), .string (txt x)] 81 (0, 0)) := by
          rw [hY, heap_setCell_other X _ _ _ (show wr.heap.size ≠ B by omega)]
          exact hx1
        have HKY : Hid (Kp wr Y B (r'.o op).ownBlock (r'.q o).ownBlock) := by show Kp _ _ _ _ _; rw [hY]; exact (Kp.of_below hbX).set
        have HKW := Lib.hid (HK.out.trans HKY.out HFO.out HFQ.out)
        have HLY := Lib.hid (HKY.out.row HS.out HL.out (by have := HBS.out; omega) (by decide))
        go_upto_region 7 with fail
        rw [← hX]
        clear hX hca hcb2
        go_upto_region 8 with fail
        rw [← hY]
        clear hY c0 c1 c2 c3 c4 hx1 hbX
        obtain ⟨⟨c0, c1, c2, c3⟩, c4⟩ := HSY.out.cells
        have hc2 : Y.cell? ⟨B, 2, none⟩ = some (.int .i64 ((m : Int) + 1)) := c2
        clear c2
        obtain ⟨y0, y1, y2⟩ := rb_cells hy1
        by_cases hm : 200 < m + 1
        · have hd : decide ((200 : Int) < (m : Int) + 1) = true := decide_eq_true (by omega)
          have HE : Hid (readR T f op many out s.data.toList = (m + 1, o, 2)) := by
            show _ = _
            rw [HG.out, HTD.out, readG_cons, if_pos hm]
          go_wp2
          go_ret
          rw [HE.out]
          exact ⟨rfl, ⟨r', HSY.out, HFO.out, HFQ.out⟩, HKW.out, fun e => by cases e⟩
        · have hd : decide ((200 : Int) < (m : Int) + 1) = false := decide_eq_false (by omega)
          have HNM := Lib.hid hm
          have hWd := Words_ok (txt x) Y (by rw [txt_size]; omega)
          rw [txt_list] at hWd
          have HWD := Lib.hid hWd
          clear hWd hm
          have hw0 : 0 < (wordsL x).length := by
            rcases Nat.eq_zero_or_pos (wordsL x).length with e | e
            · exact absurd (List.length_eq_zero_iff.1 e) HXW.out
            · exact e
          go_upto_region 11 with (go_at_call 31; refine HWD.out.mono ?_; rintro e w5 ⟨A, rfl, _, hnl, hb⟩; rw [wb_len2] at hnl ⊢; have HN5 := Lib.hid hnl; have HB5 := Lib.hid hb; clear hnl hb)
          obtain ⟨⟨c0, c1, c2, c3⟩, c4⟩ := (HSY.out.below HB5.out).cells
          obtain ⟨y0, y1, y2⟩ := rb_cells (show w5.heap[wr.heap.size]? = some (.cells #[.int .i64 (a : Int), .string (txt x)] 81 (0, 0)) from by rw [HB5.out.block _ (by omega)]; exact hy1)
          have hwc : w5.cell? ⟨A, 0, none⟩ = some (.string (txt ((wordsL x).getD 0 []))) := by
            have := HN5.out.weak.cellAt 0 (by rw [wb_len2]; exact hw0)
            rw [wb_at] at this
            exact this
          have HS5 := Lib.hid (HSY.out.below HB5.out)
          have HL5 := Lib.hid (own_belowR HLY.out HB5.out)
          have HK5 := Lib.hid (HKW.out.trans (Kp.of_below (B := B) (a := (r.o op).ownBlock) (b := (r.q out).ownBlock) HB5.out) (.inl rfl) (.inl rfl))
          have hsz5 : Y.heap.size ≤ w5.heap.size := HB5.out.size
          clear hy1
          by_cases hinc : (wordsL x).getD 0 [] = incW
          · have HIC := Lib.hid hinc
            rw [hinc] at hwc
            have hcmp : ((txt incW).toList == ([105, 110, 99, 108, 117, 100, 101] : List UInt8)) = true := by rw [inc_cmp]; rfl
            have hml5 : ML w5 := HML.out.kp HK5.out hg (fun k hk => by have := (HR.out.rowO.lt k hk).1; omega) (fun k hk => by have := (HR.out.rowQ.lt k hk).1; omega)
            have hin := HII.out HE0.out x HXM.out hinc (m + 1) o r' (some ⟨A, 0, none⟩) (wordsL x).length w5 HS5.out (by have := HNM.out; omega) (by have := HBS.out; omega) hml5 HN5.out
            have HRI : Hid (readR T f op many out s.data.toList = if (incR T f op (m + 1) o (wordsL x)).2.2 ≠ 0 then incR T f op (m + 1) o (wordsL x) else readG T f op (tx.drop (j + 1)) (incR T f op (m + 1) o (wordsL x)).1 (incR T f op (m + 1) o (wordsL x)).2.1) := by
              show _ = _
              rw [HG.out, HTD.out, readG_cons, if_neg HNM.out, if_neg (fun e => e hinc)]
            unfold ReadPost at hin
            obtain ⟨R, hR⟩ : ∃ R, R = incR T f op (m + 1) o (wordsL x) := ⟨_, rfl⟩
            rw [← hR] at hin HRI
            obtain ⟨m6, o6, E⟩ := R
            simp only at hin HRI
            have HIN := Lib.hid hin
            clear hin hml5 hinc hR
            by_cases hE : E = 0
            · subst hE
              have HRN : Hid (readR T f op many out s.data.toList = readG T f op (tx.drop (j + 1)) m6 o6) := by show _ = _; rw [HRI.out, if_neg (by decide)]
              go_wp2_with (go_at_call 32; refine HIN.out.mono ?_; rintro e w6 ⟨rfl, ⟨r6, hs6, hfo6, hfq6⟩, hk6, hm6⟩; have HS6 := Lib.hid hs6; have HFO6 := Lib.hid hfo6; have HFQ6 := Lib.hid hfq6; have HK6 := Lib.hid hk6; have HM6 := Lib.hid hm6; clear hs6 hfo6 hfq6 hk6 hm6)
              go_roundw
              case rel =>
                have hww5 : w.heap.size ≤ w5.heap.size := by omega
                refine ⟨j + 1, m6, o6, r6, by omega, HM6.out trivial, by go_num, HS6.out, HRN.out, HK5.out.trans HK6.out HFO.out HFQ.out, ?_, ?_, HK6.out.row HS5.out HL5.out (by have := HBS.out; omega) (by decide)⟩
                · show _ ∨ _
                  rcases HFO6.out with e | e
                  · rw [e]; exact HFO.out
                  · exact .inr (fun k hk => Nat.le_trans hww5 (e k hk))
                · show _ ∨ _
                  rcases HFQ6.out with e | e
                  · rw [e]; exact HFQ.out
                  · exact .inr (fun k hk => Nat.le_trans hww5 (e k hk))
              case measure => simp [intOf]; omega
            · obtain ⟨i1, i2⟩ := int_ne' hE
              have HNE := Lib.hid hE
              have HRN : Hid (readR T f op many out s.data.toList = (m6, o6, E)) := by show _ = _; rw [HRI.out, if_pos hE]
              clear hE
              go_wp2_with (go_at_call 32; refine HIN.out.mono ?_; rintro e w6 ⟨rfl, ⟨r6, hs6, hfo6, hfq6⟩, hk6, hm6⟩; have HS6 := Lib.hid hs6; have HFO6 := Lib.hid hfo6; have HFQ6 := Lib.hid hfq6; have HK6 := Lib.hid hk6; clear hs6 hfo6 hfq6 hk6 hm6)
              go_ret
              rw [HRN.out]
              have hww5 : w.heap.size ≤ w5.heap.size := by omega
              refine ⟨rfl, ⟨r6, HS6.out, ?_, ?_⟩, HK5.out.trans HK6.out HFO.out HFQ.out, fun e => absurd e HNE.out⟩
              · rcases HFO6.out with e | e
                · rw [e]; exact HFO.out
                · exact .inr (fun k hk => Nat.le_trans hww5 (e k hk))
              · rcases HFQ6.out with e | e
                · rw [e]; exact HFQ.out
                · exact .inr (fun k hk => Nat.le_trans hww5 (e k hk))
          · have hcmp : ((txt ((wordsL x).getD 0 [])).toList == ([105, 110, 99, 108, 117, 100, 101] : List UInt8)) = false := by rw [inc_cmp]; exact decide_eq_false hinc
            have HRN : Hid (readR T f op many out s.data.toList = readG T f op (tx.drop (j + 1)) (m + 1) (o ++ [x])) := by
              show _ = _
              rw [HG.out, HTD.out, readG_cons, if_neg HNM.out, if_pos hinc]
            clear hinc
            generalize (wordsL x).getD 0 [] = w0 at *
            obtain ⟨XO, hXO⟩ : ∃ XO, XO = Obj.cells #[.string (txt x)] 9 := ⟨_, rfl⟩
            have HSA : Hid (RSt base B T op (m + 1) o r' (w5.alloc XO).drew) := (HS5.out.below (rb1w w5 XO)).drew
            have XC0 : Hid ((w5.alloc XO).drew.cell? ⟨w5.heap.size, 0, none⟩ = some (.string (txt x))) := by show (w5.alloc XO).cell? _ = _; rw [hXO, World.cell?_alloc_at _ _ _ _ rfl]; rfl
            have HBA : Hid (base ≤ (w5.alloc XO).drew.heap.size) := by show base ≤ (w5.alloc XO).heap.size; have := HBS.out; simp; omega
            have HBX : Hid (Below w5.heap.size w5 (w5.alloc XO).drew) := (rb1w w5 XO).drew
            rw [hXO] at HSA XC0 HBA HBX
            clear hXO
            have hB5 : B < w5.heap.size := by omega
            have hwr5 : wr.heap.size < w5.heap.size := by omega
            go_upto_region 12 with fail
            go_region_law (refine step_strL rfl _ _ rfl base _ o.length (o.map txt) rfl HSA.out.rowQ w5.heap.size (txt x) rfl XC0.out (by have := HS.out.lq; omega) HBA.out ?_; intro v' w6 hown6 hgrow6 hlies6; obtain ⟨p6, c6, rfl⟩ := slice_form hown6; have h6 := HSA.out.text hxs hgrow6 (by have := HS.out.lq; omega) hown6 hlies6; have H6 := Lib.hid h6.2; have HG6 := Lib.hid hgrow6; have HL6 := Lib.hid hlies6; obtain ⟨⟨b0, b1, b2, b3⟩, b4⟩ := boxF h6.1; have hblt := (Array.getElem?_eq_some_iff.1 h6.1).1; clear h6 hown6 hgrow6 hlies6)
            all_goals
              go_wp2
              go_roundw
              case rel =>
                have hww5 : w.heap.size ≤ w5.heap.size := by omega
                refine ⟨j + 1, m + 1, o ++ [x], _, by omega, by have := HNM.out; omega, by go_num, H6.out, HRN.out, ?_, HFO.out, ?_, ?_⟩
                · show Kp _ _ _ _ _
                  refine ((HK5.out.trans (Kp.of_below HBX.out) (.inl rfl) (.inl rfl)).grown HG6.out ?_).set
                  rcases HFQ.out with e | e
                  · exact .inr (.inl e)
                  · exact .inr (.inr e)
                · show _ ∨ _
                  have hln : (o ++ [x]).length = o.length + 1 := by simp
                  show (Value.slice p6 (o ++ [x]).length c6).ownBlock = _ ∨ ∀ k, (Value.slice p6 (o ++ [x]).length c6).ownBlock = some k → _
                  rw [hln]
                  rcases HL6.out with e | e
                  · rw [e]; exact HFQ.out
                  · rw [e]; exact .inr (fun k hk => by injection hk with hk; subst hk; show _ ≤ (w5.alloc _).heap.size; simp; omega)
                · show World.ownsRow _ _ _ _ _ _ _
                  have h1 := own_belowR HL5.out HBX.out
                  exact own_step h1 HG6.out (own_apart h1 HSA.out.rowQ (by decide)) (by have := HBS.out; omega)
              case measure => simp [intOf]; omega
      · obtain rfl : j = L.length := by omega
        have HE : Hid (readR T f op many out s.data.toList = (m, o, 0)) := by
          show _ = _
          rw [HG.out, List.drop_of_length_le (by rw [HTL.out]; exact Nat.le_refl _), readG_nil]
        go_wp2
        go_ret
        rw [HE.out]
        exact ⟨rfl, ⟨r', HS.out, HFO.out, HFQ.out⟩, HK.out, fun _ => hm200⟩
  · obtain ⟨i1, i2⟩ := int_ne' hE
    have HNE := Lib.hid hE
    have HE : Hid (readR T f op many out s.data.toList = (many, out, joinE s)) := by show _ = _; rw [readR_eq, ← joinEL_eq, if_pos hE]
    have hJ2 : Calls Tryd.prog 30 #[.string s] w fun e w' => e = .returned (.tuple #[.slice none 0 0, .int .i64 (joinE s)]) ∧ Below w.heap.size w w' := by
      refine hJ.mono ?_
      rintro e w' ⟨h1 | ⟨h0, _⟩, hb⟩
      · exact ⟨h1.2, hb⟩
      · exact absurd h0 hE
    have HJ := Lib.hid hJ2
    clear hJ hJ2 hE
    generalize joinE s = E at *
    go_enter Tryd.func19, Tryd.ntmps19
    go_wp2_with (go_at_call 30; refine HJ.out.mono ?_; rintro e w1 ⟨rfl, hb⟩; have HB1 := Lib.hid hb; clear hb)
    go_ret
    rw [HE.out]
    exact ⟨rfl, ⟨r, HR.out.below HB1.out, .inl rfl, .inl rfl⟩, Kp.of_below HB1.out, fun e => absurd e HNE.out⟩
end Go.Proofs.YtoiolepengcagaaDoor
namespace Go.Proofs.YtoiolepengcagaaDoor
open Go.RowKit Go.Shelf Go.Maps
set_option maxHeartbeats 4000000 in
set_option maxRecDepth 100000 in
/-- where there are no texts, a line that includes is an error -/
theorem inc_none (base B : Nat) (f : Nat) (op : List Bl) (x : Bl) (hx : x.length ≤ 1048576) : IncOk base B (fun _ => none) f op x := by
  intro many out r p c u hR hm hb hML hN
  obtain ⟨W, hW⟩ : ∃ W, W = u.alloc (.cells #[.pointer (some ⟨B, 0, none⟩)] 52) := ⟨_, rfl⟩
  have hBW : Below u.heap.size u W := by rw [hW]; exact rb1w _ _
  have hp : W.cell? ⟨u.heap.size, 0, none⟩ = some (.pointer (some ⟨B, 0, none⟩)) := by rw [hW, World.cell?_alloc_at _ _ _ _ rfl]; rfl
  have HRW := Lib.hid (hR.below hBW)
  have HNW := Lib.hid (hN.below hBW)
  have HKW : Hid (Kp u W B (r.o op).ownBlock (r.q out).ownBlock) := Kp.of_below hBW
  by_cases h2 : (wordsL x).length = 2
  · have hinc : incR (fun _ => none) f op many out (wordsL x) = (many, out, 5) := by unfold incR; rw [if_neg (by rw [h2]; decide)]
    obtain ⟨⟨c0, c1, c2, c3⟩, c4⟩ := HRW.out.cells
    have h12 : 1 < (wordsL x).length := by omega
    obtain ⟨ad, rfl, _, _⟩ := str_at HNW.out.at_.reads h12
    obtain ⟨b, o, rfl, _⟩ := HNW.out.plain ad rfl
    have hwc : W.cell? ⟨b, o + 1, none⟩ = some (.string (txt ((wordsL x).getD 1 []))) := by
      have := HNW.out.weak.cellAt 1 (by rw [wb_len2]; exact h12)
      rw [wb_at] at this
      exact this
    have hsz : (txt ((wordsL x).getD 1 [])).size ≤ maxLen := by
      have h1 := wb_size x (txt ((wordsL x).getD 1 [])) (by rw [← wb_at, List.getD_eq_getElem?_getD, List.getElem?_eq_getElem (by rw [wb_len2]; exact h12)]; exact List.getElem_mem _)
      unfold maxLen
      omega
    have hlk : ∀ q, Sem.run Tryd.prog (Instr.lookup 53 (.map (some r.bm)) (.string (txt ((wordsL x).getD 1 []))) true) (W.drewN q) = .ok (.tuple #[.string ⟨#[]⟩, .bool false]) (W.drewN q) := by
      intro q
      exact (HRW.out.map.below (below_drawsP (Below.refl _ _) q)).look _ hsz
    have hlk0 := hlk 0
    have hlk1 := hlk 1
    have h2i : ((2 : Nat) : Int) = 2 := rfl
    rw [hinc]
    rw [h2]
    clear h12 hsz
    generalize (wordsL x).getD 1 [] = w1 at *
    go_enter_defers Tryd.func32, Tryd.ntmps32
    go_upto_region 1 with fail
    rw [← hW]
    clear hW
    go_upto_region 3 with fail
    go_quiet (fail)
    go_wp2
    exact ⟨_, results_tmp rfl _ _ _, rfl, ⟨r, HRW.out.below (below_drawsP (Below.refl _ _) nq), .inl rfl, .inl rfl⟩, HKW.out.trans (Kp.of_below (below_drawsP (Below.refl _ _) nq)) (.inl rfl) (.inl rfl), fun e => by cases e⟩
  · have hinc : incR (fun _ => none) f op many out (wordsL x) = (many, out, 3) := by unfold incR; rw [if_pos h2]
    have hd : (((wordsL x).length : Int) == 2) = false ∧ (((wordsL x).length : Int) != 2) = true := by
      have : ¬ ((wordsL x).length : Int) = 2 := by omega
      exact ⟨by simpa using this, by simpa using this⟩
    obtain ⟨d1, d2⟩ := hd
    rw [hinc]
    go_enter_defers Tryd.func32, Tryd.ntmps32
    go_upto_region 1 with fail
    rw [← hW]
    clear hW
    go_wp2
    exact ⟨_, results_tmp rfl _ _ _, rfl, ⟨r, HRW.out, .inl rfl, .inl rfl⟩, HKW.out, fun e => by cases e⟩
/-- what Lines answers -/
def LinesPost (w : World) (R : Nat × List Bl × Int) (e : Ending) (w' : World) : Prop :=
  ((R.2.2 ≠ 0 ∧ e = .returned (.tuple #[.slice none 0 0, .int .i64 R.2.2])) ∨ (R.2.2 = 0 ∧ R.2.1.length ≤ 201 ∧ ∃ p c, e = .returned (.tuple #[.slice p R.2.1.length c, .int .i64 0]) ∧ NL w' p R.2.1.length c (R.2.1.map txt))) ∧ Below w.heap.size w w'
theorem MapT.made (w : World) : MapT (w.alloc (.map #[] 0)) w.heap.size 0 (fun _ => none) :=
  ⟨.map [], World.ownsMap_made _ _ _ _, fun _ => rfl, fun s => by simp [has]⟩
theorem Kp.belowOf {w w' : World} {B lo : Nat} {a b : Option Nat} (h : Kp w w' B a b) (hB : lo ≤ B) (hl : lo ≤ w.heap.size) (ha : ∀ k, a = some k → lo ≤ k) (hb : ∀ k, b = some k → lo ≤ k) : Below lo w w' :=
  ⟨h.os, h.tape, h.output, h.size, fun k hk => h.block k (by omega) (by omega) (fun e => by have := ha k e.symm; omega) (fun e => by have := hb k e.symm; omega)⟩
theorem RSt.start {w : World} {base B : Nat} {T : Bl → Option Bl} {bm nm : Nat} (hb : w.heap[B]? = some (.cells #[.map (some bm), .slice none 0 0, .int .i64 0, .slice none 0 0] 55 (0, 0))) (hl : B < base) (hm : MapT w bm nm T) (hml : bm < B) : RSt base B T [] 0 [] ⟨bm, nm, none, 0, none, 0⟩ w where
  box := hb
  lt := hl
  map := hm
  mlt := hml
  rowO := World.ownsRow_nil _ _ _ _
  rowQ := World.ownsRow_nil _ _ _ _
  apart := .inl rfl
  so := fun x hx => by cases hx
  sq := fun x hx => by cases hx
  lo := by show 0 ≤ _; omega
  lq := Nat.le_refl _
  lm := by omega
theorem RSt.outNL {base B : Nat} {T : Bl → Option Bl} {op : List Bl} {many : Nat} {out : List Bl} {r : RR} {w : World} (h : RSt base B T op many out r w) : NL w r.pq out.length r.cq (out.map txt) :=
  NL_own (by have := h.rowQ; exact this) (fun x hx => by
    obtain ⟨y, hy, rfl⟩ := List.mem_map.1 hx
    have := h.sq y hy
    rw [txt_size]
    omega) (by have := h.lq; have := h.lm; omega)
set_option maxHeartbeats 4000000 in
set_option maxRecDepth 100000 in
theorem LinesN_ok (s : ByteArray) (hs : s.size ≤ 4611686018427387904) (w : World) (hM : ML w) :
    Calls Tryd.prog 7 #[.string s, .slice none 0 0] w (LinesPost w (readR (fun _ => none) 0 [] 0 [] s.data.toList)) := by
  have hmm := @run_makeMap Tryd.prog
  obtain ⟨W1, hW1⟩ : ∃ W1, W1 = w.alloc (.map #[] 0) := ⟨_, rfl⟩
  have hB1 : Below w.heap.size w W1 := by rw [hW1]; exact rb1w _ _
  have hs1 : W1.heap.size = w.heap.size + 1 := by rw [hW1]; simp
  have hm1 : MapT W1 w.heap.size 0 (fun _ => none) := by rw [hW1]; exact MapT.made w
  obtain ⟨W, hW⟩ : ∃ W, W = W1.alloc (.cells #[.map (some w.heap.size), .slice none 0 0, .int .i64 0, .slice none 0 0] 55) := ⟨_, rfl⟩
  have hB2 : Below W1.heap.size W1 W := by rw [hW]; exact rb1w _ _
  have hs2 : W.heap.size = W1.heap.size + 1 := by rw [hW]; simp
  have hz : W.heap[W1.heap.size]? = some (.cells #[.map (some w.heap.size), .slice none 0 0, .int .i64 0, .slice none 0 0] 55 (0, 0)) := by rw [hW]; exact rb_new W1 _
  have HRS : Hid (RSt W.heap.size W1.heap.size (fun _ => none) [] 0 [] ⟨w.heap.size, 0, none, 0, none, 0⟩ W) := RSt.start hz (by omega) (hm1.below hB2) (by omega)
  have HBW : Hid (Below w.heap.size w W) := hB1.trans (hB2.mono hB1.size)
  have hrd := read_ok W.heap.size W1.heap.size (fun _ => none) 0 [] 0 [] _ s W HRS.out (Nat.le_refl _) (hM.below HBW.out) hs (by omega) (by have := hM.lt; omega) (fun h0 x hx _ => inc_none _ _ _ _ _ (by
    obtain ⟨y, hy, rfl⟩ := List.mem_map.1 hx
    have := joinL_size hy
    have := joinE_size h0
    rw [ba_len] at *
    omega))
  unfold ReadPost at hrd
  obtain ⟨R, hR⟩ : ∃ R, R = readR (fun _ => none) 0 [] 0 [] s.data.toList := ⟨_, rfl⟩
  rw [← hR] at hrd ⊢
  obtain ⟨m6, o6, E⟩ := R
  simp only at hrd
  rw [hs1] at hrd
  have HRD : Hid (Calls Tryd.prog 19 #[.pointer (some ⟨w.heap.size + 1, 0, none⟩), .string s] W fun e w' => e = .returned (.int .i64 E) ∧ (∃ r', RSt W.heap.size (w.heap.size + 1) (fun _ => none) [] m6 o6 r' w') ∧ Below w.heap.size w w') := by
    show Calls _ _ _ _ _
    refine hrd.mono ?_
    rintro e w' ⟨h1, ⟨r', h2, _, _⟩, h3, _⟩
    exact ⟨h1, ⟨r', h2⟩, HBW.out.trans (h3.belowOf (by omega) (by omega) (fun k hk => by cases hk) (fun k hk => by cases hk))⟩
  clear hrd hR hB1 hm1 hB2 hz hs1 hs2
  by_cases hE : E = 0
  · subst hE
    go_enter Tryd.func7, Tryd.ntmps7
    go_upto_region 4 with fail
    rw [← hW1, ← hW]
    clear hW hW1
    go_wp2_with fail
    go_loopw [20] (fun i wr => i = .int .i64 0 ∧ wr = W) (fun _ _ => 0)
    case atStart => exact ⟨rfl, rfl⟩
    case round =>
      obtain ⟨rfl, rfl⟩ := hrel
      go_upto_region 17 with (go_at_call 19; refine HRD.out.mono ?_; rintro e w6 ⟨rfl, ⟨r6, hr6⟩, hb6⟩; have HR6 := Lib.hid hr6; have HB6 := Lib.hid hb6; obtain ⟨⟨c0, c1, c2, c3⟩, c4⟩ := hr6.cells; clear hr6 hb6)
      go_wp2
      go_ret2
      exact ⟨.inr ⟨rfl, (by have := HR6.out.lq; have := HR6.out.lm; show o6.length ≤ _; omega), r6.pq, r6.cq, rfl, HR6.out.outNL⟩, HB6.out⟩
  · obtain ⟨i1, i2⟩ := int_ne' hE
    have HNE := Lib.hid hE
    clear hE
    go_enter Tryd.func7, Tryd.ntmps7
    go_upto_region 4 with fail
    rw [← hW1, ← hW]
    clear hW hW1
    go_wp2_with fail
    go_loopw [20] (fun i wr => i = .int .i64 0 ∧ wr = W) (fun _ _ => 0)
    case atStart => exact ⟨rfl, rfl⟩
    case round =>
      obtain ⟨rfl, rfl⟩ := hrel
      go_wp2_with (go_at_call 19; refine HRD.out.mono ?_; rintro e w6 ⟨rfl, _, hb6⟩; have HB6 := Lib.hid hb6; clear hb6)
      go_ret2
      exact ⟨.inl ⟨HNE.out, rfl⟩, HB6.out⟩
end Go.Proofs.YtoiolepengcagaaDoor
namespace Go.Proofs.YtoiolepengcagaaDoor
open Go.RowKit Go.Shelf Go.Maps
section
variable {base B : Nat} {T : Bl → Option Bl} {op : List Bl} {many : Nat} {out : List Bl} {r : RR} {w w5 : World}
theorem RSt.push (h : RSt base B T op many out r w) {x : Bl} {p : Option Addr} {c : Nat} (hx : x.length ≤ 1048576) (hg : w.grownBy w5 (r.o op).ownBlock) (hl : op.length + 1 ≤ 1000)
    (ho : w5.ownsRow base 9 1 (.slice p (op.length + 1) c) (op.length + 1) (strsV (op.map txt ++ [txt x])))
    (hlies : (Value.slice p (op.length + 1) c).ownBlock = (r.o op).ownBlock ∨ (Value.slice p (op.length + 1) c).ownBlock = some w.heap.size) :
    w5.heap[B]? = some (.cells #[.map (some r.bm), r.o op, .int .i64 (many : Int), r.q out] 55 (0, 0)) ∧ RSt base B T (op ++ [x]) many out { r with po := p, co := c } (w5.setCell ⟨B, 1, none⟩ (.slice p (op.length + 1) c)) := by
  have hb := h.boxAt hg (fun k hk => (h.rowO.lt k hk).1)
  have hln : (op ++ [x]).length = op.length + 1 := by simp
  refine ⟨hb, ⟨?_, h.lt, ?_, h.mlt, ?_, ?_, ?_, ?_, h.sq, by rw [hln]; exact hl, h.lq, h.lm⟩⟩
  · have := (boxF_set hb (.slice p (op.length + 1) c)).2.1
    rw [this]
    unfold RR.o
    rw [hln]
    rfl
  · exact (h.map.kept hg (fun e => by have := (h.rowO.lt _ e.symm).1; have := h.mlt; have := h.lt; omega)).set (by have := h.mlt; show r.bm ≠ B; omega)
  · have := own_set (i := 1) (u := .slice p (op.length + 1) c) ho h.lt
    unfold RR.o
    rw [hln, List.map_append]
    exact this
  · refine own_step h.rowQ hg ?_ h.lt
    show (r.q out).ownBlock = none ∨ (r.q out).ownBlock ≠ (r.o op).ownBlock
    rcases h.apart with e | e
    · rcases hq : (r.q out).ownBlock with _ | k
      · exact .inl rfl
      · exact .inr (by rw [e]; simp)
    · exact .inr e.symm
  · show _ = none ∨ _ ≠ (r.q out).ownBlock
    unfold RR.o
    rw [hln]
    rcases hlies with e | e
    · rw [e]; exact h.apart
    · rw [e]
      right
      intro e2
      have := (h.rowQ.lt _ e2.symm).2
      omega
  · intro y hy
    rcases List.mem_append.1 hy with hy | hy
    · exact h.so y hy
    · rw [List.mem_singleton.1 hy]; exact hx
theorem RSt.pop {x : Bl} (h : RSt base B T (op ++ [x]) many out r w) : RSt base B T op many out r (w.setCell ⟨B, 1, none⟩ (.slice r.po op.length r.co)) ∧ (r.o op).ownBlock = (r.o (op ++ [x])).ownBlock := by
  have hln : (op ++ [x]).length = op.length + 1 := by simp
  have hO := h.rowO
  unfold RR.o at hO
  rw [hln] at hO
  obtain ⟨g, c, e, h1, h2⟩ := hO.form (by omega)
  injection e with e1 e2 e3
  have hrow : w.ownsRow base 9 1 (r.o op) op.length (strsV (op.map txt)) := by
    unfold RR.o
    rw [e1] at hO ⊢
    have := own_prefix (m := op.length) hO (by omega)
    rw [List.map_append] at this
    unfold strsV at this ⊢
    rw [List.map_append, List.take_append_of_le_length (by simp), List.take_of_length_le (by simp)] at this
    exact this
  have hb : (r.o op).ownBlock = (r.o (op ++ [x])).ownBlock := by
    unfold RR.o
    rw [e1]
    rfl
  refine ⟨⟨?_, h.lt, h.map.set (by have := h.mlt; omega), h.mlt, own_set hrow h.lt, own_set h.rowQ h.lt, by rw [hb]; exact h.apart, fun y hy => h.so y (List.mem_append_left _ hy), h.sq, by have := h.lo; omega, h.lq, h.lm⟩, hb⟩
  exact (boxF_set h.box (.slice r.po op.length r.co)).2.1
end
set_option maxHeartbeats 1000000 in
set_option maxRecDepth 100000 in
/-- the closure that leaves a text -/
theorem close_ok {base B b0 : Nat} {T : Bl → Option Bl} {op : List Bl} {many : Nat} {out : List Bl} {r : RR} {x : Bl} {w : World} (h : RSt base B T (op ++ [x]) many out r w) (hp : w.cell? ⟨b0, 0, none⟩ = some (.pointer (some ⟨B, 0, none⟩))) (u : FrameMode) :
    CallsD Tryd.prog 51 #[.pointer (some ⟨b0, 0, none⟩)] u w fun e u' w' => u' = u ∧ (e = .returned (.tuple #[]) ∧ ∃ n, w' = (w.drewN n).setCell ⟨B, 1, none⟩ (.slice r.po op.length r.co)) := by
  obtain ⟨⟨_, c1, _, _⟩, c4⟩ := h.cells
  have hln : (op ++ [x]).length = op.length + 1 := by simp
  rw [hln] at c1
  have hO := h.rowO
  unfold RR.o at hO
  rw [hln] at hO
  obtain ⟨g, c, e, h1, h2⟩ := hO.form (by omega)
  have hcap : op.length + 1 ≤ c ∧ c ≤ maxLen := by
    rcases hO.2 with ⟨hv, _⟩ | ⟨g', cap', cur', hv, _, _, h3, h4, _⟩
    · injection hv with _ hv _; omega
    · injection hv with _ _ hv
      injection e with _ _ e
      omega
  injection e with e1 e2 e3
  clear e2
  rw [e1, e3] at c1
  rw [e1, e3]
  clear e1 e3
  have hlo := h.lo
  rw [hln] at hlo
  obtain ⟨n, hn⟩ : ∃ n, n = op.length := ⟨_, rfl⟩
  rw [← hn] at c1 hcap hlo ⊢
  clear hn h hO hln
  obtain ⟨hc1, hc2⟩ := hcap
  unfold maxLen at hc2
  have hs1 : ((n + 1 : Nat) : Int) - 1 = (n : Int) := by omega
  have hs2 : IntKind.i64.wrap (n : Int) = (n : Int) := IntWalk.i64_in _ (by omega)
  go_enter_d Tryd.func51, Tryd.ntmps51
  have hn0 : (0 : Int) ≤ (n : Int) := by omega
  have hnc : (n : Int) ≤ (c : Int) := by omega
  have hnc2 : n ≤ c := by omega
  go_still_tail 14, (by kernel_rfl)
  change wpList _ _ _ _ _ w.drew
  go_wp2
  go_end0
  exact ⟨rfl, 1, rfl⟩
/-- a statement that only ends as it should -/
theorem wp_only {P : Program} {s : Code} {K : Act → World → Prop} {Q' : Exit → Act → World → Prop} {a : Act} {w : World} (h : s.wp P (Exit.then K (fun _ _ _ => False)) a w) : s.wp P (Exit.then K Q') a w := by
  refine wp_mono h ?_
  intro e a' w' hq
  cases e with
  | normal => exact hq
  | exit id => exact hq.elim
  | goto l => exact hq.elim
  | ret => exact hq.elim
  | panic ch => exact hq.elim
  | outgrown => exact hq.elim
def incT (T : Bl → Option Bl) (f : Nat) (op : List Bl) (many : Nat) (out : List Bl) (n : Bl) : Nat × List Bl × Int :=
  match T n with
  | none => (many, out, 5)
  | some t => if n ∈ op then (many, out, 8) else match f with
    | 0 => (many, out, 8)
    | f' + 1 => readR T f' (op ++ [n]) many out t
theorem incR_two (T : Bl → Option Bl) (f : Nat) (op : List Bl) (many : Nat) (out : List Bl) {ws : List Bl} (h : ws.length = 2) : incR T f op many out ws = incT T f op many out (ws.getD 1 []) := by
  unfold incR incT
  rw [if_neg (fun e => e h)]
  all_goals (cases T (ws.getD 1 []) <;> (try rfl))
  all_goals (cases f <;> rfl)
theorem nodup_len {op Ns : List Bl} {x : Bl} (h : op.Nodup) (hs : ∀ y ∈ op, y ∈ Ns) (hx : x ∈ Ns) (hn : x ∉ op) : op.length + 1 ≤ Ns.length := by
  have h1 : (x :: op).Nodup := List.nodup_cons.2 ⟨hn, h⟩
  have h2 : (x :: op) ⊆ Ns := fun y hy => by
    rcases List.mem_cons.1 hy with rfl | hy
    · exact hx
    · exact hs y hy
  have := h1.length_le_of_subset h2
  simpa using this
set_option maxHeartbeats 8000000 in
set_option maxRecDepth 100000 in
/-- a line that includes, where the lines of the text that is included are served -/
theorem inc_step (base B : Nat) (T : Bl → Option Bl) (Ns : List Bl) (hTN : ∀ n, (T n).isSome = true → n ∈ Ns) (hTs : ∀ n t, T n = some t → t.length ≤ 4611686018427387904) (hNs : Ns.length ≤ 900) (hg : 0 < B) (f : Nat)
    (ih : ∀ f', f = f' + 1 → ∀ (op : List Bl) (x : Bl), op.Nodup → (∀ y ∈ op, y ∈ Ns) → Ns.length ≤ f' + op.length → x.length ≤ 1048576 → IncOk base B T f' op x)
    (op : List Bl) (x : Bl) (hnd : op.Nodup) (hsub : ∀ y ∈ op, y ∈ Ns) (hlen : Ns.length ≤ f + op.length) (hx : x.length ≤ 1048576) : IncOk base B T f op x := by
  intro many out r p c u hR hm hb hML hN
  obtain ⟨W, hW⟩ : ∃ W, W = u.alloc (.cells #[.pointer (some ⟨B, 0, none⟩)] 52) := ⟨_, rfl⟩
  have hBW : Below u.heap.size u W := by rw [hW]; exact rb1w _ _
  have hWs : W.heap.size = u.heap.size + 1 := by rw [hW]; simp
  have hpw : W.heap[u.heap.size]? = some (.cells #[.pointer (some ⟨B, 0, none⟩)] 52 (0, 0)) := by rw [hW]; exact rb_new u _
  have HP : Hid (∀ V : World, Below W.heap.size W V → V.cell? ⟨u.heap.size, 0, none⟩ = some (.pointer (some ⟨B, 0, none⟩))) := by
    show ∀ V : World, _
    intro V hV
    unfold World.cell?
    rw [hV.block _ (show u.heap.size < W.heap.size by omega), hpw]
    rfl
  have HRW := Lib.hid (hR.below hBW)
  have HNW := Lib.hid (hN.below hBW)
  have HRU := Lib.hid hR
  have HMU := Lib.hid hML
  have HBU := Lib.hid hb
  have HWS := Lib.hid hWs
  have HBW := Lib.hid hBW
  by_cases h2 : (wordsL x).length = 2
  · have h12 : 1 < (wordsL x).length := by omega
    obtain ⟨ad, rfl, _, _⟩ := str_at hN.at_.reads h12
    obtain ⟨b, o, rfl, hbw⟩ := hN.plain ad rfl
    have HWC : Hid (∀ V : World, Below W.heap.size W V → V.cell? ⟨b, o + 1, none⟩ = some (.string (txt ((wordsL x).getD 1 [])))) := by
      show ∀ V : World, _
      intro V hV
      have := (HNW.out.below hV).weak.cellAt 1 (by rw [wb_len2]; exact h12)
      rw [wb_at] at this
      exact this
    have hw1 : ((wordsL x).getD 1 []).length ≤ 1048576 := by
      have h1 := wb_size x (txt ((wordsL x).getD 1 [])) (by rw [← wb_at, List.getD_eq_getElem?_getD, List.getElem?_eq_getElem (by rw [wb_len2]; exact h12)]; exact List.getElem_mem _)
      rw [txt_size] at h1
      omega
    have hinc := incR_two T f op many out h2
    obtain ⟨R, hRR⟩ : ∃ R, R = incR T f op many out (wordsL x) := ⟨_, rfl⟩
    have HR2 := Lib.hid (hRR.trans hinc)
    rw [← hRR]
    rw [h2]
    have h2i : ((2 : Nat) : Int) = 2 := rfl
    clear hinc hRR h12 hpw hR hML hN
    generalize (wordsL x).getD 1 [] = w1 at *
    have hsz : (txt w1).size ≤ maxLen := by
      rw [txt_size]
      unfold maxLen
      omega
    have hlk : ∀ q, Sem.run Tryd.prog (Instr.lookup 53 (.map (some r.bm)) (.string (txt w1)) true) (W.drewN q) = .ok (.tuple #[.string (txt ((T w1).getD [])), .bool (T w1).isSome]) (W.drewN q) := by
      intro q
      have := (HRW.out.map.below (below_drawsP (Below.refl _ _) q)).look _ hsz
      rw [txt_list] at this
      exact this
    clear hsz
    obtain ⟨⟨c0, c1, c2, c3⟩, c4⟩ := HRW.out.cells
    have hp := HP.out W (Below.refl _ _)
    have hwc := HWC.out W (Below.refl _ _)
    cases hT : T w1 with
    | none =>
      have HT := Lib.hid hT
      rw [hT] at hlk
      simp only [Option.isSome_none, Option.getD_none] at hlk
      have hlk0 := hlk 0
      have hlk1 := hlk 1
      clear hT
      go_enter_defers Tryd.func32, Tryd.ntmps32
      go_upto_region 1 with fail
      rw [← hW]
      clear hW
      go_upto_region 3 with fail
      go_quiet (fail)
      go_wp2
      have hRE : R = (many, out, 5) := by rw [HR2.out]; unfold incT; rw [HT.out]
      rw [hRE]
      exact ⟨_, results_tmp rfl _ _ _, rfl, ⟨r, HRW.out.below (below_drawsP (Below.refl _ _) nq), .inl rfl, .inl rfl⟩, Kp.of_below (HBW.out.trans ((below_drawsP (Below.refl _ _) nq).mono HBW.out.size)), fun e => by cases e⟩
    | some t =>
      have HT := Lib.hid hT
      rw [hT] at hlk
      simp only [Option.isSome_some, Option.getD_some] at hlk
      have hlk0 := hlk 0
      have hlk1 := hlk 1
      have HTL := Lib.hid (hTs w1 t hT)
      have hmem : w1 ∈ Ns := hTN w1 (by rw [hT]; rfl)
      clear hT
      go_enter_defers Tryd.func32, Tryd.ntmps32
      go_upto_region 1 with fail
      rw [← hW]
      clear hW
      go_upto_region 3 with fail
      go_quiet (fail)
      obtain ⟨V, hV⟩ : ∃ V, V = W.drewN nq := ⟨_, rfl⟩
      have hBV : Below W.heap.size W V := by rw [hV]; exact below_drawsP (Below.refl _ _) nq
      rw [← hV]
      clear hV hlk hlk0 hlk1 c0 c1 c2 c3 c4 hp hwc
      have HBV := Lib.hid hBV
      have HRV := Lib.hid (HRW.out.below hBV)
      obtain ⟨⟨c0, c1, c2, c3⟩, c4⟩ := HRV.out.cells
      have hp := HP.out V hBV
      have hwc := HWC.out V hBV
      have hNO : NL V r.po op.length r.co (op.map txt) := NL_own (by have := HRV.out.rowO; exact this) (fun y hy => by
        obtain ⟨z, hz, rfl⟩ := List.mem_map.1 hy
        have := HRV.out.so z hz
        rw [txt_size]
        omega) (by have := HRV.out.lo; omega)
      have hmi : txt w1 ∈ op.map txt ↔ w1 ∈ op := by
        rw [List.mem_map]
        constructor
        · rintro ⟨y, hy, e⟩
          have := congrArg (fun z : ByteArray => z.data.toList) e
          simp only [txt_list] at this
          rw [← this]; exact hy
        · intro h; exact ⟨w1, h, rfl⟩
      by_cases hin : w1 ∈ op
      · have HCN : Hid (∀ n, Calls Tryd.prog 22 #[.slice r.po op.length r.co, .string (txt w1)] (V.drewN n) fun e w' => e = .returned (.bool true) ∧ w' = V.drewN n) := by
          show ∀ n, _
          intro n
          have := nl_contains (hNO.drew n) (txt w1)
          rw [has_iff.2 (hmi.2 hin)] at this
          exact this
        have hRE : Hid (R = (many, out, 8)) := by show _ = _; rw [HR2.out]; unfold incT; rw [HT.out]; simp only; rw [if_pos hin]
        clear hNO hmi hin hBV
        go_upto_region 6 with fail
        go_quiet ((go_at_call 22; exact Calls.quiet_of_same (HCN.out _)))
        go_wp2
        rw [hRE.out]
        exact ⟨_, results_tmp rfl _ _ _, rfl, ⟨r, HRV.out.below (below_drawsP (Below.refl _ _) nq), .inl rfl, .inl rfl⟩, Kp.of_below (HBW.out.trans ((HBV.out.trans ((below_drawsP (Below.refl _ _) nq).mono HBV.out.size)).mono HBW.out.size)), fun e => by cases e⟩
      · have hnc : Lib.containsS (op.map txt) (txt w1) = false := by
          rw [← Bool.not_eq_true, has_iff, hmi]; exact hin
        have HCN : Hid (∀ n, Calls Tryd.prog 22 #[.slice r.po op.length r.co, .string (txt w1)] (V.drewN n) fun e w' => e = .returned (.bool false) ∧ w' = V.drewN n) := by
          show ∀ n, _
          intro n
          have := nl_contains (hNO.drew n) (txt w1)
          rw [hnc] at this
          exact this
        have hol := nodup_len hnd hsub hmem hin
        obtain ⟨f', rfl⟩ : ∃ f', f = f' + 1 := ⟨f - 1, by omega⟩
        have HRE : Hid (R = readR T f' (op ++ [w1]) many out t) := by show _ = _; rw [HR2.out]; unfold incT; rw [HT.out]; simp only; rw [if_neg hin]
        have HIH : Hid (∀ y, y.length ≤ 1048576 → IncOk base B T f' (op ++ [w1]) y) := by
          show ∀ y, _
          intro y hy
          refine ih f' rfl (op ++ [w1]) y (List.nodup_append.2 ⟨hnd, by simp, fun a ha b hb => ?_⟩) (fun z hz => ?_) (by rw [List.length_append, List.length_singleton]; omega) hy
          · rw [List.mem_singleton.1 hb]; intro e; subst e; exact hin ha
          · rcases List.mem_append.1 hz with hz | hz
            · exact hsub z hz
            · rw [List.mem_singleton.1 hz]; exact hmem
        have HOL := Lib.hid hol
        clear hNO hmi hin hBV hnc hol hnd hsub hlen hx ih hmem HR2
        go_upto_region 6 with fail
        go_quiet ((go_at_call 22; exact Calls.quiet_of_same (HCN.out _)))
        obtain ⟨V2, hV2⟩ : ∃ V2, V2 = V.drewN nq := ⟨_, rfl⟩
        have hBV2 : Below V.heap.size V V2 := by rw [hV2]; exact below_drawsP (Below.refl _ _) nq
        rw [← hV2]
        clear hV2 c0 c1 c2 c3 c4 hp hwc HCN h2i h2
        have HB2 := Lib.hid (HBV.out.trans (hBV2.mono HBV.out.size))
        have HU2 := Lib.hid (HBW.out.trans (HB2.out.mono HBW.out.size))
        have HR2 := Lib.hid (HRV.out.below hBV2)
        obtain ⟨⟨c0, c1, c2, c3⟩, c4⟩ := HR2.out.cells
        have hp := HP.out V2 HB2.out
        have hwc := HWC.out V2 HB2.out
        have hsz2 : u.heap.size < V2.heap.size := by have := HB2.out.size; have := HWS.out; omega
        have hBlt : B < V2.heap.size := HR2.out.blt
        have hblt : b < V2.heap.size := by omega
        obtain ⟨XO, hXO⟩ : ∃ XO, XO = Obj.cells #[.string (txt w1)] 9 := ⟨_, rfl⟩
        have HSA : Hid (RSt base B T op many out r (V2.alloc XO).drew) := (HR2.out.below (rb1w V2 XO)).drew
        have XC0 : Hid ((V2.alloc XO).drew.cell? ⟨V2.heap.size, 0, none⟩ = some (.string (txt w1))) := by show (V2.alloc XO).cell? _ = _; rw [hXO, World.cell?_alloc_at _ _ _ _ rfl]; rfl
        have HBX : Hid (Below V2.heap.size V2 (V2.alloc XO).drew) := (rb1w V2 XO).drew
        have HBA : Hid (base ≤ (V2.alloc XO).drew.heap.size) := by show base ≤ _; have := HBX.out.size; have := HBU.out; omega
        have hro : ∀ k, (r.o op).ownBlock = some k → k < u.heap.size := fun k hk => (HRU.out.rowO.lt k hk).2
        have HPX : Hid (∀ w6, (V2.alloc XO).drew.grownBy w6 (r.o op).ownBlock → w6.cell? ⟨u.heap.size, 0, none⟩ = some (.pointer (some ⟨B, 0, none⟩)) ∧ w6.frozen? ⟨u.heap.size, 0, none⟩ = w6.frozen? ⟨u.heap.size, 0, none⟩) := by
          show ∀ w6, _
          intro w6 hg6
          refine ⟨?_, rfl⟩
          have h1 := hg6.block u.heap.size (Nat.lt_of_lt_of_le hsz2 HBX.out.size) (fun e => by have := hro _ e.symm; omega)
          have h2 := HBX.out.block u.heap.size hsz2
          unfold World.cell? at hp ⊢
          simp only at hp ⊢
          rw [h1, h2]
          exact hp
        rw [hXO] at HSA XC0 HBA HBX HPX
        have HNB : Hid (B < u.heap.size) := HRU.out.blt
        clear hXO hro hBV2
        have hmf : ∀ (fn : Fn) (first cap : Array Value) (w : World), (Instr.makeFunc fn first cap).run Tryd.prog w = .ok (.func fn first cap) w := fun _ _ _ _ => rfl
        go_upto_region 8 with fail
        go_cut [] from 33 (fun wx => ∃ (p6 : Option Addr) (c6 : Nat), Hid (RSt base B T (op ++ [w1]) many out { r with po := p6, co := c6 } wx) ∧ Hid (wx.cell? ⟨u.heap.size, 0, none⟩ = some (.pointer (some ⟨B, 0, none⟩))) ∧ Hid (Kp u wx B (r.o op).ownBlock (r.q out).ownBlock) ∧
          Hid ((Value.slice p6 (op.length + 1) c6).ownBlock = (r.o op).ownBlock ∨ ∀ k, (Value.slice p6 (op.length + 1) c6).ownBlock = some k → u.heap.size < k))
        case first =>
          refine wp_only ?_
          go_region_law (refine step_strL rfl _ _ rfl base _ op.length (op.map txt) rfl HSA.out.rowO V2.heap.size (txt w1) rfl XC0.out (by have := HSA.out.lo; omega) HBA.out ?_; intro v' w6 hown6 hgrow6 hlies6; obtain ⟨p6, c6, rfl⟩ := slice_form hown6; have h6 := HSA.out.push hw1 hgrow6 (by have := HOL.out; omega) hown6 hlies6; have H6 := Lib.hid h6.2; have HG6 := Lib.hid hgrow6; have HL6 := Lib.hid hlies6; have hp6 := (HPX.out w6 hgrow6).1; obtain ⟨⟨b0, b1, b2, b3⟩, b4⟩ := boxF h6.1; have hblt6 := (Array.getElem?_eq_some_iff.1 h6.1).1; clear h6 hown6 hgrow6 hlies6)
          all_goals
            go_wp2_with fail
            go_meet
            case rel =>
              refine ⟨p6, c6, H6.out, ?_, ?_, ?_⟩
              · show _ = _
                rw [World.cell?_setCell_other _ _ _ _ (fun e => by injection e with e; have := HNB.out; omega)]
                exact hp6
              · show Kp _ _ _ _ _
                exact ((Kp.of_below (HU2.out.trans (HBX.out.mono HU2.out.size))).grown HG6.out (.inl rfl)).set
              · show _ ∨ _
                rcases HL6.out with e | e
                · exact .inl e
                · rw [e]
                  right
                  intro k hk
                  injection hk with hk
                  subst hk
                  have := HU2.out.size
                  show u.heap.size < (World.alloc _ _).drew.heap.size
                  have := HBX.out.size
                  omega
        case rest =>
          obtain ⟨p6, c6, H6, HP6, HK6, HL6⟩ := hcut
          have HL7 : Hid ((({ r with po := p6, co := c6 } : RR).o (op ++ [w1])).ownBlock = (r.o op).ownBlock ∨ ∀ k, (({ r with po := p6, co := c6 } : RR).o (op ++ [w1])).ownBlock = some k → u.heap.size < k) := by
            show _ ∨ _
            have hrel : (({ r with po := p6, co := c6 } : RR).o (op ++ [w1])).ownBlock = (Value.slice p6 (op.length + 1) c6).ownBlock := by cases p6 <;> rfl
            rw [hrel]
            exact HL6.out
          clear HL6
          clear c0 c1 c2 c3 c4 hp hwc hsz2 hBlt hblt HSA XC0 HBX HBA HPX
          have hp6 := HP6.out
          have hsz6 := HK6.out.size
          have hb6 : base ≤ wc.heap.size := Nat.le_trans HBU.out hsz6
          have hml6 : ML wc := HMU.out.kp HK6.out hg (fun k hk => by have := (HRU.out.rowO.lt k hk).1; have := HRU.out.lt; omega) (fun k hk => by have := (HRU.out.rowQ.lt k hk).1; have := HRU.out.lt; omega)
          have hrd := read_ok base B T f' (op ++ [w1]) many out _ (txt t) wc H6.out hb6 hml6 (by rw [txt_size]; exact HTL.out) hm hg (fun h0 y hy _ => HIH.out y (by
            rw [txt_list] at hy
            obtain ⟨z, hz, rfl⟩ := List.mem_map.1 hy
            have h1 := joinL_size hz
            have h2 := joinE_size h0
            rw [txt_size] at h2
            omega))
          rw [txt_list] at hrd
          unfold ReadPost at hrd
          rw [← HRE.out] at hrd
          obtain ⟨m8, o8, E8⟩ := R
          simp only at hrd
          have HRD := Lib.hid hrd
          have HSZ6 : Hid (u.heap.size < wc.heap.size) := World.block_lt_of_cell? wc _ hp6
          clear hrd hml6 hb6 hsz6 HRE HIH HTL HWC HR2 HU2 HB2 HRV HBV HP
          go_wp2_with (go_at_call 19; refine HRD.out.mono ?_; rintro e w8 ⟨rfl, ⟨r8, hs8, hfo8, hfq8⟩, hk8, hm8⟩; have HS8 := Lib.hid hs8; have HFO8 := Lib.hid hfo8; have HFQ8 := Lib.hid hfq8; have HK8 := Lib.hid hk8; have HM8 := Lib.hid hm8; clear hs8 hfo8 hfq8 hk8 hm8)
          have hp8 : w8.cell? ⟨u.heap.size, 0, none⟩ = some (.pointer (some ⟨B, 0, none⟩)) := by
            unfold World.cell?
            simp only
            rw [HK8.out.block u.heap.size HSZ6.out (fun e => by have := HNB.out; omega) (fun e => by
              rcases HL7.out with e2 | e2
              · have := (HRU.out.rowO.lt u.heap.size (e2.symm.trans e.symm)).2
                omega
              · have := e2 u.heap.size e.symm
                omega) (fun e => by have := (HRU.out.rowQ.lt u.heap.size e.symm).2; omega)]
            exact hp6
          refine leaves_cons (f := 51) (args := #[.pointer (some ⟨u.heap.size, 0, none⟩)]) (by simp) (by simp [go_sem]) ?_
          refine (close_ok HS8.out hp8 .returning).mono ?_
          rintro e u' w9 ⟨rfl, rfl, n9, rfl⟩
          obtain ⟨hpop, hpb⟩ := (HS8.out.below (below_drawsP (Below.refl _ _) n9)).pop
          refine ⟨_, results_tmp rfl _ _ _, rfl, ⟨r8, hpop, ?_, ?_⟩, ?_, HM8.out⟩
          · rw [hpb]
            rcases HFO8.out with e | e
            · rw [e]
              rcases HL7.out with e2 | e2
              · exact .inl e2
              · exact .inr (fun k hk => Nat.le_of_lt (e2 k hk))
            · exact .inr (fun k hk => Nat.le_trans HK6.out.size (e k hk))
          · rcases HFQ8.out with e | e
            · exact .inl e
            · exact .inr (fun k hk => Nat.le_trans HK6.out.size (e k hk))
          · refine ((HK6.out.trans HK8.out ?_ (.inl rfl)).trans (Kp.of_below (below_drawsP (Below.refl _ _) n9)) (.inl rfl) (.inl rfl)).set
            rcases HL7.out with e2 | e2
            · exact .inl e2
            · exact .inr (fun k hk => Nat.le_of_lt (e2 k hk))
  · have hinc : incR T f op many out (wordsL x) = (many, out, 3) := by unfold incR; rw [if_pos h2]
    have hd : (((wordsL x).length : Int) == 2) = false ∧ (((wordsL x).length : Int) != 2) = true := by
      have : ¬ ((wordsL x).length : Int) = 2 := by omega
      exact ⟨by simpa using this, by simpa using this⟩
    obtain ⟨d1, d2⟩ := hd
    rw [hinc]
    have hp := HP.out W (Below.refl _ _)
    clear hpw hR hML hN hx hsub hnd hlen hinc
    go_enter_defers Tryd.func32, Tryd.ntmps32
    go_upto_region 1 with fail
    rw [← hW]
    clear hW
    go_wp2
    exact ⟨_, results_tmp rfl _ _ _, rfl, ⟨r, HRW.out, .inl rfl, .inl rfl⟩, Kp.of_below HBW.out, fun e => by cases e⟩
set_option maxHeartbeats 400000 in
theorem inc_ok (base B : Nat) (T : Bl → Option Bl) (Ns : List Bl) (hTN : ∀ n, (T n).isSome = true → n ∈ Ns) (hTs : ∀ n t, T n = some t → t.length ≤ 4611686018427387904) (hNs : Ns.length ≤ 900) (hg : 0 < B) :
    ∀ (f : Nat) (op : List Bl) (x : Bl), op.Nodup → (∀ y ∈ op, y ∈ Ns) → Ns.length ≤ f + op.length → x.length ≤ 1048576 → IncOk base B T f op x := by
  intro f
  induction f with
  | zero => exact fun op x h1 h2 h3 h4 => inc_step base B T Ns hTN hTs hNs hg 0 (fun f' h => by omega) op x h1 h2 h3 h4
  | succ f ih => exact fun op x h1 h2 h3 h4 => inc_step base B T Ns hTN hTs hNs hg (f + 1) (fun f' h => by obtain rfl : f' = f := (by omega); exact ih) op x h1 h2 h3 h4
end Go.Proofs.YtoiolepengcagaaDoor
