/- Texts joined: FilePW, FileParseW, LineP, LineQ, LineW, JoinW. Conditions: theirs. -/
import Derived.Test.YtoiolepengcagaaGreatDoorGraphRightLWM8
import Derived.Laws.ResultCell
import Derived.Test.YtoiolepengcagaaGreatDoorWordsP
import Derived.Lib.Replace
import Derived.Lib.CountLaws
import Derived.Lib.IndexLaws
import Derived.Test.YtoiolepengcagaaGreatDoorWordsW
import Derived.Test.YtoiolepengcagaaGreatDoorStemW
import Derived.Test.YtoiolepengcagaaGreatDoorPairs
import Derived.Test.YtoiolepengcagaaGreatDoorBox2
import Derived.Test.YtoiolepengcagaaGreatDoorConcatW
namespace Go.Proofs.YtoiolepengcagaaGreatDoor
open Go.RowKit Go.Shelf
theorem results_ctt {P : Program} {fn : Func} {p u v : Tmp} {ty : TypeId} (h : fn.results = #[.cell p ty, .tmp u, .tmp v]) (tmps : Array Value) (w : World) (g : Nat) (t : TypeId) (cs : Array Value) (fr : Nat × Nat) (d : TypeDesc) (x y : Value)
    (hp : tmps.getD p undef = .pointer (some ⟨g, 0, none⟩)) (hx : tmps.getD u undef = x) (hy : tmps.getD v undef = y) (hg : w.heap[g]? = some (.cells cs t fr))
    (hu : P.underlying ty = some d) (hd : (match d with | .struct _ | .array _ _ => true | _ => false) = true) (hi : (P.info? ty).map (·.size) = some cs.size) :
    (results fn tmps).run P w = .ok (.tuple #[.agg cs, x, y]) w := by
  have hp' : tmps[p]?.getD undef = .pointer (some ⟨g, 0, none⟩) := by simpa using hp
  have hx' : tmps[u]?.getD undef = x := by simpa using hx
  have hy' : tmps[v]?.getD undef = y := by simpa using hy
  simp only [results, h]
  simp [Result.andThen, hp', hx', hy', asAddr, run_loadVar_row w g t ty cs fr d hg hu hd hi]
theorem boxF_all {w : World} {b : Nat} {t : TypeId} {v0 v1 v2 v3 : Value} (h : w.heap[b]? = some (.cells #[v0, v1, v2, v3] t (0, 0))) (u0 u1 u2 u3 : Value) :
    ((((w.setCell ⟨b, 0, none⟩ u0).setCell ⟨b, 1, none⟩ u1).setCell ⟨b, 2, none⟩ u2).setCell ⟨b, 3, none⟩ u3).heap[b]? = some (.cells #[u0, u1, u2, u3] t (0, 0)) := by
  simp only [Go.Sort.setCell_eq]
  simp [Go.Sort.mapBlock, Go.Sort.onCells, Array.getElem?_modify, h]
theorem below_setF {B b : Nat} {w w' : World} (h : Below B w w') (hb : B ≤ b) (u0 u1 u2 u3 : Value) : Below B w ((((w'.setCell ⟨b, 0, none⟩ u0).setCell ⟨b, 1, none⟩ u1).setCell ⟨b, 2, none⟩ u2).setCell ⟨b, 3, none⟩ u3) :=
  (((h.setCell hb _).setCell hb _).setCell hb _).setCell hb _
theorem app_macL (w : World) {ops : Array Oper} {rest : List Oper} {o : Oper} {a : Act} {Q : Exit → Act → World → Prop} (hgd : o.guard = none) (s x : Operand)
    (ho : o.op = .call { callee := .builtin .append, args := #[s, x], argTypes := #[39, 39] })
    (base : Nat) (v : Value) (n : Nat) (l : List Mac) (hs : a.eval s = v) (hown : w.ownsRow base 86 2 v n (cells2 mF mG l))
    (g : Nat) (m : Mac) (hx : a.eval x = .slice (some ⟨g, 0, none⟩) 1 1) (c0 : w.cell? ⟨g, 0, none⟩ = some (mF m)) (c1 : w.cell? ⟨g, 1, none⟩ = some (mG m)) (hn : n ≤ 1000000) (hbase : base ≤ w.heap.size)
    (h : ∀ v' w', w'.ownsRow base 86 2 v' (n + 1) (cells2 mF mG (l ++ [m])) → w.grownBy w' v.ownBlock → wpList Tryz.prog ops Q rest (a.put o.dst v') w') : wpList Tryz.prog ops Q (o :: rest) a w := by
  obtain ⟨i0, hi, hz0, hz1, hz2⟩ := info_parts info_mac
  refine wpList_append_own w hgd s x 39 ho base 86 i0 _ 2 32 Tryz.underlying39 hi hz0 hz1 hz2 rfl (by decide) v n _ hs hown ⟨g, 0, none⟩ 1 1 [mF m, mG m] hx rfl ?_ ?_ (by unfold maxLen; omega) (by omega) hbase (fun v' w' h1 h2 _ => h v' w' ?_ h2)
  · intro j q hj
    match j, hj with
    | 0, hj => simp at hj; subst hj; simpa [Addr.add] using c0
    | 1, hj => simp at hj; subst hj; simpa [Addr.add] using c1
  · intro q hq; simp at hq; rcases hq with rfl | rfl <;> rfl
  · rw [cells2_append]; exact h1
def nilFile : Value := .agg #[.slice none 0 0, .slice none 0 0, .slice none 0 0, .slice none 0 0]
/-- a file in memory, as Parse answers it -/
def FileAt (w : World) (lo : Nat) (v : Value) (F : FileV) : Prop := ∃ base B s rl, lo ≤ B ∧ FSt base B F s rl [] w ∧ v = .agg #[s.m F, s.p F, s.i F, s.r F]
/-- what Parse answers -/
def ParsePF (w : World) (l : List Bs) (e : Ending) (w' : World) : Prop :=
  (∃ v, e = .returned (.tuple #[v, .int .i64 ((parseF l).2.1 : Int), .int .i64 (parseF l).2.2]) ∧ (((parseF l).2.2 ≠ 0 ∧ v = nilFile) ∨ ((parseF l).2.2 = 0 ∧ FileAt w' w.heap.size v (parseF l).1))) ∧ Below w.heap.size w w'
theorem parseF_l {l : List Bs} (h : 200 < l.length) : parseF l = (file0, 0, 2) := by unfold parseF; rw [if_pos h]
theorem parseF_m {l : List Bs} (h : ¬ 200 < l.length) (h2 : flatsE okM (macsF l) ≠ 0) : parseF l = (file0, 0, flatsE okM (macsF l)) := by unfold parseF; rw [if_neg h, if_pos h2]
theorem parseF_g {l : List Bs} (h : ¬ 200 < l.length) (h2 : flatsE okM (macsF l) = 0) : parseF l = parseGo (macsF l) l 0 { file0 with ms := macsF l } := by unfold parseF; rw [if_neg h, if_neg (by rw [h2]; decide)]
theorem macsF_next {l : List Bs} {k : Nat} {x : Bs} (h : l[k]? = some x) : macsF (l.take (k + 1)) = macsF (l.take k) ++ (if defB x = true then [defM x] else []) := by
  unfold macsF
  rw [take_snoc h, List.filter_append, List.map_append]
  congr 1
  cases hd : defB x with
  | true => rw [List.filter_cons_of_pos hd]; rfl
  | false => rw [List.filter_cons_of_neg (by simp [hd])]; rfl
theorem macsF_len (l : List Bs) : (macsF l).length ≤ l.length := by
  unfold macsF
  rw [List.length_map]
  exact List.length_filter_le _ _
theorem defM_size (s : Bs) : (defM s).1.length ≤ s.length ∧ (defM s).2.length ≤ s.length := by
  have h : ∀ l : Bs, (Lib.trimS l [32, 9]).length ≤ l.length := fun l => by
    have := trm_size (txt l)
    rw [txt_size] at this
    unfold trm at this
    rwa [txt_size, txt_list] at this
  unfold defM
  constructor
  · exact Nat.le_trans (h _) (by rw [List.length_take]; omega)
  · exact Nat.le_trans (h _) (by rw [List.length_drop]; omega)
theorem lst_at {zs : List ByteArray} {k : Nat} (h : k < zs.length) : (lsB zs)[k]? = some (zs.getD k ByteArray.empty).data.toList := by
  unfold lsB
  rw [List.getElem?_map, List.getElem?_eq_getElem h, List.getD_eq_getElem?_getD, List.getElem?_eq_getElem h]
  rfl
theorem lsB_len (zs : List ByteArray) : (lsB zs).length = zs.length := List.length_map ..
theorem parseGo_def {ms : List Mac} {l : List Bs} {k : Nat} {x : Bs} {F : FileV} (h : l[k]? = some x) (hd : defB x = true) : parseGo ms (l.drop k) k F = parseGo ms (l.drop (k + 1)) (k + 1) F := by
  have hk := (List.getElem?_eq_some_iff.1 h).1
  have e : l[k] = x := (List.getElem?_eq_some_iff.1 h).2
  rw [List.drop_eq_getElem_cons hk, e, parseGo, if_pos hd]
theorem parseGo_bad {ms : List Mac} {l : List Bs} {k : Nat} {x : Bs} {F : FileV} (h : l[k]? = some x) (hd : defB x = false) (hE : (lineF ms x F).2 ≠ 0) : parseGo ms (l.drop k) k F = (file0, k + 1, (lineF ms x F).2) := by
  have hk := (List.getElem?_eq_some_iff.1 h).1
  have e : l[k] = x := (List.getElem?_eq_some_iff.1 h).2
  rw [List.drop_eq_getElem_cons hk, e, parseGo, hd, if_neg (by decide), if_pos hE]
theorem parseGo_good {ms : List Mac} {l : List Bs} {k : Nat} {x : Bs} {F : FileV} (h : l[k]? = some x) (hd : defB x = false) (hE : (lineF ms x F).2 = 0) : parseGo ms (l.drop k) k F = parseGo ms (l.drop (k + 1)) (k + 1) (lineF ms x F).1 := by
  have hk := (List.getElem?_eq_some_iff.1 h).1
  have e : l[k] = x := (List.getElem?_eq_some_iff.1 h).2
  rw [List.drop_eq_getElem_cons hk, e, parseGo, hd, if_neg (by decide), if_neg (by rw [hE]; decide)]
theorem lineF_e {ms : List Mac} {x : Bs} {F : FileV} (h : (expandE okM ms x).1 ≠ 0) : lineF ms x F = (F, (expandE okM ms x).1) := by unfold lineF; rw [if_pos h]
theorem lineF_p {ms : List Mac} {x : Bs} {F : FileV} (h : (expandE okM ms x).1 = 0) (h2 : parseE (expandE okM ms x).2 ≠ 0) : lineF ms x F = (F, parseE (expandE okM ms x).2) := by unfold lineF; rw [if_neg (by rw [h]; decide), if_pos h2]
theorem lineF_a {ms : List Mac} {x : Bs} {F : FileV} (h : (expandE okM ms x).1 = 0) (h2 : parseE (expandE okM ms x).2 = 0) : lineF ms x F = addF F (parseT (expandE okM ms x).2) (parseN (expandE okM ms x).2) := by unfold lineF; rw [if_neg (by rw [h]; decide), if_neg (by rw [h2]; decide)]
theorem parse_rule {s : Bs} (h : parseE s = 0) : RuleOk (parseT s) (parseN s) := by
  unfold parseE at h
  split at h
  · cases h
  · exact ruleE_zero.1 h
/-- what is expanded is short -/
theorem expand_short {ms : List Mac} {x : Bs} (h : (expandE okM ms x).1 = 0) : (expandE okM ms x).2.length ≤ 2000 := by
  obtain ⟨h1, h2⟩ := expandE_zero.1 h
  rw [expandE_at h1]
  unfold expandR at h2 ⊢
  split at h2
  · cases h2
  · rename_i a
    split at h2
    · cases h2
    · rename_i b
      split at h2
      · cases h2
      · rename_i c
        rw [if_neg a, if_neg b, if_neg c]
        show (evalT _ _).length ≤ 2000
        unfold lrg at c
        rw [Bool.or_eq_true, not_or, decide_eq_true_iff] at c
        omega
/-- the bounds of a file while it is filled -/
structure FBd (F : FileV) (k : Nat) : Prop where
  p : F.ph.length ≤ 20
  i : F.inf.length ≤ k
  r : F.rs.length ≤ 100
theorem addF_bd {F : FileV} {T N : List ByteArray} {k : Nat} (h : FBd F k) (hE : (addF F T N).2 = 0) : FBd (addF F T N).1 (k + 1) ∧ (addF F T N).1.ms = F.ms := by
  unfold addF at hE ⊢
  split at hE
  · rename_i a
    split at hE
    · cases hE
    · rename_i b
      rw [if_pos a, if_neg b]
      refine ⟨⟨?_, Nat.le_succ_of_le h.i, h.r⟩, rfl⟩
      simp only at hE
      split at hE
      · cases hE
      · show (addP F.ph N).length ≤ 20; omega
  · rename_i a
    split at hE
    · rename_i b
      rw [if_neg a, if_pos b]
      refine ⟨⟨h.p, ?_, h.r⟩, rfl⟩
      have := h.i
      simp only
      split
      · omega
      · rw [List.length_append]; simp; omega
    · rename_i b
      rw [if_neg a, if_neg b]
      refine ⟨⟨h.p, Nat.le_succ_of_le h.i, ?_⟩, rfl⟩
      simp only at hE
      split at hE
      · cases hE
      · show (F.rs ++ [(T, N)]).length ≤ 100; omega
theorem FSt.start {w : World} {base B : Nat} (hb : w.heap[B]? = some (.cells #[.slice none 0 0, .slice none 0 0, .slice none 0 0, .slice none 0 0] 43 (0, 0))) (hl : B < base) : FSt base B file0 ⟨none, 0, none, 0, none, 0, none, 0⟩ [] [] w where
  box := hb
  lt := hl
  ms := World.ownsRow_nil _ _ _ _
  ph := World.ownsRow_nil _ _ _ _
  inf := World.ownsRow_nil _ _ _ _
  rs := World.ownsRow_nil _ _ _ _
  same := rfl
  own := fun r hr => by cases hr
  sm := fun m hm => by cases hm
  sp := fun m hm => by cases hm
  si := fun m hm => by cases hm
/-- a store in another block below -/
theorem FSt.other {base B b i : Nat} {F : FileV} {s : FV} {rl xl : List RV} {w : World} {u : Value} (h : FSt base B F s rl xl w) (hb : b < base) (hne : b ≠ B) : FSt base B F s rl xl (w.setCell ⟨b, i, none⟩ u) where
  box := by rw [heap_setCell_other w _ _ _ (fun e => hne e.symm)]; exact h.box
  lt := h.lt
  ms := own_set h.ms hb
  ph := own_set h.ph hb
  inf := own_set h.inf hb
  rs := own_set h.rs hb
  same := h.same
  own := fun r hr => ⟨(h.own r hr).1.grown (grown_setF w _ _) (fun e => by injection e with e; have h1 := (h.own r hr).1.lt.1; have h2 : b = r.g1 := e; omega), (h.own r hr).2.1.grown (grown_setF w _ _) (fun e => by injection e with e; have h1 := (h.own r hr).2.1.lt.1; have h2 : b = r.g2 := e; omega), (h.own r hr).2.2⟩
  sm := h.sm
  sp := h.sp
  si := h.si
theorem FSt.macs {base B : Nat} {F : FileV} {s : FV} {rl xl : List RV} {w : World} (h : FSt base B F s rl xl w) (hn : F.ms.length ≤ 1000000) : MacsIn w s.pm F.ms.length s.cm F.ms := MacsIn.own h.ms (by omega) h.sm
theorem FSt.pbl {base B : Nat} {F : FileV} {s : FV} {rl xl : List RV} {w : World} (h : FSt base B F s rl xl w) {g : Nat} (hg : w.heap.size ≤ g) : (s.p F).ownBlock ≠ some g := fun e => by have := (h.ph.lt g e).2; omega
end Go.Proofs.YtoiolepengcagaaGreatDoor
namespace Go.Proofs.YtoiolepengcagaaGreatDoor
open Go.RowKit Go.Shelf
set_option maxHeartbeats 16000000 in
set_option maxRecDepth 100000 in
theorem ParseF_ok (p : Option Addr) (n c : Nat) (zs : List ByteArray) (w : World) (h : NLw w p n c zs) (hM : MLm w) (hs : ∀ z ∈ zs, z.size ≤ 1048600) :
    Calls Tryz.prog 18 #[.slice p n c] w (ParsePF w (lsB zs)) := by
  have hl := h.at_.len
  subst hl
  have hbig := h.at_.big
  obtain ⟨W0, hW0⟩ : ∃ W0, W0 = w.alloc (.cells #[.slice none 0 0, .slice none 0 0, .slice none 0 0, .slice none 0 0] 43) := ⟨_, rfl⟩
  have hB0 : Below w.heap.size w W0 := by rw [hW0]; exact (Below.refl _ _).alloc (Nat.le_refl _) _
  have hs0 : W0.heap.size = w.heap.size + 1 := by rw [hW0]; simp
  have hz0 : W0.heap[w.heap.size]? = some (.cells #[.slice none 0 0, .slice none 0 0, .slice none 0 0, .slice none 0 0] 43 (0, 0)) := by rw [hW0]; exact rb_new w _
  have hlt0 : w.heap.size < W0.heap.size := by omega
  have HB0 := Lib.hid hB0
  have HS0 := Lib.hid hs0
  have HZ0 := Lib.hid hz0
  by_cases h200 : 200 < zs.length
  · have HE := Lib.hid (parseF_l (l := lsB zs) (by rw [lsB_len]; exact h200))
    have hd : decide ((200 : Int) < (zs.length : Int)) = true := decide_eq_true (by omega)
    obtain ⟨⟨b0, b1, b2, b3⟩, b4⟩ := boxF hz0
    clear h hM hs hB0 hs0 hz0
    go_enter Tryz.func18, Tryz.ntmps18
    go_upto_region 1 with fail
    rw [← hW0]
    clear hW0
    go_wp2
    refine bodyPost_ret (v := .tuple #[nilFile, .int .i64 0, .int .i64 2]) (results_ctt Tryz.results18 _ _ w.heap.size 43 _ (0, 0) _ _ _ rfl rfl rfl (boxF_all HZ0.out _ _ _ _) Tryz.underlying43 rfl (by kernel_rfl)) rfl ⟨⟨nilFile, by rw [HE.out]; rfl, .inl ⟨by rw [HE.out]; decide, rfl⟩⟩, below_setF HB0.out (Nat.le_refl _) _ _ _ _⟩
  · have H200 := Lib.hid h200
    have hd : decide ((200 : Int) < (zs.length : Int)) = false := decide_eq_false (by omega)
    have hn200 : zs.length ≤ 200 := by omega
    obtain ⟨W, hW⟩ : ∃ W, W = W0.alloc (.cells #[.slice none 0 0, .slice none 0 0, .slice none 0 0, .slice none 0 0] 43) := ⟨_, rfl⟩
    have hB1 : Below W0.heap.size W0 W := by rw [hW]; exact (Below.refl _ _).alloc (Nat.le_refl _) _
    have hs1 : W.heap.size = W0.heap.size + 1 := by rw [hW]; simp
    have hz1 : W.heap[W0.heap.size]? = some (.cells #[.slice none 0 0, .slice none 0 0, .slice none 0 0, .slice none 0 0] 43 (0, 0)) := by rw [hW]; exact rb_new W0 _
    have HS1 := Lib.hid hs1
    have HBW : Hid (Below w.heap.size w W) := hB0.trans (hB1.mono hB0.size)
    have HNW := Lib.hid (h.below HBW.out)
    have HMW := Lib.hid (hM.below HBW.out)
    have HZW : Hid (∀ u : World, Below W0.heap.size W u → u.heap[w.heap.size]? = some (.cells #[.slice none 0 0, .slice none 0 0, .slice none 0 0, .slice none 0 0] 43 (0, 0)) ∧ Below w.heap.size w u ∧ NLw u p zs.length c zs ∧ MLm u) := by
      show ∀ u : World, _
      intro u hu
      have h1 := HS0.out
      refine ⟨?_, HBW.out.trans (hu.mono (by omega)), h.below (HBW.out.trans (hu.mono (by omega))), hM.below (HBW.out.trans (hu.mono (by omega)))⟩
      rw [hu.block _ (by omega), hB1.block _ (by omega)]
      exact hz0
    have HSZ := Lib.hid hs
    have HF0 : Hid (FSt W.heap.size W0.heap.size { file0 with ms := macsF ((lsB zs).take 0) } ⟨none, 0, none, 0, none, 0, none, 0⟩ [] [] W) := FSt.start hz1 (by omega)
    clear h hM hs hB0 hs0 hz0 hB1 hs1 hz1 h200 HNW HMW HZ0
    go_enter Tryz.func18, Tryz.ntmps18
    go_upto_region 1 with fail
    rw [← hW0]
    clear hW0
    go_upto_region 4 with fail
    rw [← hW]
    clear hW
    go_wp2_with fail
    go_loopw [25] (fun i wr => ∃ (k : Nat) (s : FV), k ≤ zs.length ∧ i = .int .i64 k ∧ Hid (FSt W.heap.size W0.heap.size { file0 with ms := macsF ((lsB zs).take k) } s [] [] wr) ∧ Hid (Below W0.heap.size W wr)) (fun i _ => zs.length - (intOf i).toNat)
    case atStart => exact ⟨0, _, Nat.zero_le _, rfl, HF0.out, Below.refl _ _⟩
    case round =>
      obtain ⟨k, s, hk, rfl, HF, HB⟩ := hrel
      by_cases hlt : k < zs.length
      · obtain ⟨hz, hbw, hnl, hml⟩ := HZW.out wr HB.out
        obtain ⟨ad, rfl, _, hc⟩ := str_at hnl.at_.reads hlt
        have hzs : (zs.getD k ByteArray.empty).size ≤ 1048600 := HSZ.out _ (by rw [List.getD_eq_getElem?_getD, List.getElem?_eq_getElem hlt]; exact List.getElem_mem hlt)
        have HMN := Lib.hid (macsF_next (lst_at hlt))
        have hml1 : (macsF ((lsB zs).take k)).length ≤ k := by have := macsF_len ((lsB zs).take k); rw [List.length_take] at this; omega
        have HDS := Lib.hid (defM_size (zs.getD k ByteArray.empty).data.toList)
        have HZS : Hid ((zs.getD k ByteArray.empty).data.toList.length ≤ 1048600) := by show _ ≤ _; rw [ba_len]; exact hzs
        have HD := Lib.hid (fun u => defines_ok (zs.getD k ByteArray.empty) hzs u)
        have hsz0 : W0.heap.size < wr.heap.size := HF.out.blt
        clear hz hbw hnl hml hzs
        generalize macsF ((lsB zs).take k) = ms at *
        generalize zs.getD k ByteArray.empty = z at *
        cases hdf : defB z.data.toList with
        | true =>
          have hdv : defV z.data.toList = .agg #[.string (txt (defM z.data.toList).1), .string (txt (defM z.data.toList).2)] := by unfold defV; rw [hdf]; rfl
          rw [hdf, hdv] at HD
          have HMN2 : Hid (macsF ((lsB zs).take (k + 1)) = ms ++ [defM z.data.toList]) := by show _ = _; rw [HMN.out, if_pos hdf]
          clear hdf hdv HMN
          generalize defM z.data.toList = m at *
          obtain ⟨m1, m2⟩ := m
          go_upto_region 8 with (go_at_call 39; refine (HD.out _).mono ?_; rintro e w1 ⟨rfl, hb⟩; have HB1 := Lib.hid hb; clear hb)
          obtain ⟨X, hX⟩ : ∃ X, X = w1.alloc (.cells #[.string (txt m1), .string (txt m2)] 86) := ⟨_, rfl⟩
          have hbX : Below wr.heap.size wr X := by rw [hX]; exact HB1.out.alloc HB1.out.size _
          have hx1 : X.heap[w1.heap.size]? = some (.cells #[.string (txt m1), .string (txt m2)] 86 (0, 0)) := by rw [hX]; exact rb_new _ _
          obtain ⟨x1, x2, x3⟩ := rb_cells hx1
          rw [← hX]
          clear hX hx1
          have HFX := Lib.hid (HF.out.below hbX)
          have e0 : X.cell? ⟨W0.heap.size, 0, none⟩ = some (.slice s.pm ms.length s.cm) := (boxF HFX.out.box).1.1
          have HBX := Lib.hid (HB.out.trans (hbX.mono (Nat.le_of_lt hsz0)))
          have HFA : Hid (FSt W.heap.size W0.heap.size { file0 with ms := ms } s [] [] (X.alloc (.cells #[.string (txt m1), .string (txt m2)] 86))) := HFX.out.below (rb1w X _)
          have HXS : Hid (W.heap.size ≤ (X.alloc (.cells #[.string (txt m1), .string (txt m2)] 86)).heap.size) := by show _ ≤ _; have := HBX.out.size; have := HS1.out; have := hbX.size; simp; omega
          clear hbX
          go_wp2_with (at_builtin; refine app_macL _ rfl _ _ rfl W.heap.size _ ms.length ms rfl HFA.out.ms X.heap.size (m1, m2) rfl ?c1 ?c2 (by omega) HXS.out ?_; rotate_right; intro v' w5 hown5 hgrow5; obtain ⟨p5, c5, rfl⟩ := slice_form hown5; have h5 := HFA.out.macro ⟨Nat.le_trans HDS.out.1 HZS.out, Nat.le_trans HDS.out.2 HZS.out⟩ hgrow5 hown5; have H5 := Lib.hid h5.2; have HG5 := Lib.hid hgrow5; obtain ⟨⟨b0, b1, b2, b3⟩, b4⟩ := boxF h5.1; have hblt := (Array.getElem?_eq_some_iff.1 h5.1).1; clear h5 hown5 hgrow5)
          case c1 => rfl
          case c2 => rfl
          go_roundw
          case rel => exact ⟨k + 1, _, by omega, by go_num, by rw [HMN2.out]; exact H5, below_app (HBX.out.alloc (by have := HBX.out.size; have := HS1.out; omega) _) HG5.out (by have := HXS.out; have := HS1.out; omega) (fun j hj => by have := (HFA.out.ms.lt j hj).1; have := HS1.out; omega) (Nat.le_refl _)⟩
          case measure => simp [intOf]; omega
        | false =>
          have hdv : defV z.data.toList = .agg #[.string ⟨#[]⟩, .string ⟨#[]⟩] := by unfold defV; rw [hdf]; rfl
          rw [hdf, hdv] at HD
          have HMN2 : Hid (macsF ((lsB zs).take (k + 1)) = ms) := by show _ = _; rw [HMN.out, if_neg (by rw [hdf]; decide), List.append_nil]
          clear hdf hdv HMN
          go_wp2_with (go_at_call 39; refine (HD.out _).mono ?_; rintro e w1 ⟨rfl, hb⟩; have HB1 := Lib.hid hb; clear hb)
          have hbX : Hid (∀ o, Below wr.heap.size wr (w1.alloc o)) := by show ∀ o, _; exact fun o => HB1.out.alloc HB1.out.size o
          go_roundw
          case rel => exact ⟨k + 1, s, by omega, by go_num, by rw [HMN2.out]; exact HF.out.below (hbX.out _), HB.out.trans ((hbX.out _).mono (Nat.le_of_lt hsz0))⟩
          case measure => simp [intOf]; omega
      · obtain rfl : k = zs.length := by omega
        rw [List.take_of_length_le (by rw [lsB_len]; exact Nat.le_refl _)] at HF
        have hml1 : (macsF (lsB zs)).length ≤ 200 := by have := macsF_len (lsB zs); rw [lsB_len] at this; omega
        have e0 : wr.cell? ⟨W0.heap.size, 0, none⟩ = some (.slice s.pm (macsF (lsB zs)).length s.cm) := (boxF HF.out.box).1.1
        have HFl : Hid (Calls Tryz.prog 40 #[.slice s.pm (macsF (lsB zs)).length s.cm] wr fun e w' => (∃ v, e = .returned (.tuple #[v, .int .i64 (flatsE okM (macsF (lsB zs)))])) ∧ Below wr.heap.size wr w') :=
          (Flat_ok s.pm (macsF (lsB zs)).length s.cm (macsF (lsB zs)) wr (HF.out.macs (by show (macsF (lsB zs)).length ≤ _; omega)) (HZW.out wr HB.out).2.2.2).mono (fun e w' hh => ⟨hh.1.elim fun v hv => ⟨v, hv.1⟩, hh.2⟩)
        obtain ⟨ms, hms⟩ : ∃ ms, ms = macsF (lsB zs) := ⟨_, rfl⟩
        rw [← hms] at HF hml1 e0 HFl
        have HMS := Lib.hid hms
        clear hms
        have hsz0 : W0.heap.size < wr.heap.size := HF.out.blt
        by_cases hE : flatsE okM ms = 0
        · have HR0 := Lib.hid (parseF_g (l := lsB zs) (by rw [lsB_len]; exact H200.out) (by rw [← HMS.out]; exact hE))
          rw [hE] at HFl
          clear hE
          go_upto_region 12 with (go_at_call 40; refine HFl.out.mono ?_; rintro e w2 ⟨⟨v, rfl⟩, hb⟩; have HB2 := Lib.hid (HB.out.trans (hb.mono (Nat.le_of_lt hsz0))); have HF2 := Lib.hid (HF.out.below hb); clear hb)
          obtain ⟨F0, hF0⟩ : ∃ F0 : FileV, F0 = { file0 with ms := ms } := ⟨_, rfl⟩
          have HBD0 : Hid (FBd F0 0) := by show FBd F0 0; rw [hF0]; exact ⟨Nat.zero_le _, Nat.zero_le _, Nat.zero_le _⟩
          have HMS0 : Hid (F0.ms = ms) := by show _ = _; rw [hF0]
          rw [← HMS.out, ← hF0] at HR0
          rw [← hF0] at HF2
          clear hF0 e0
          go_wp2_with fail
          go_loopw [54] (fun i wr => ∃ (k : Nat) (Fk : FileV) (s : FV) (rl : List RV), k ≤ zs.length ∧ i = .int .i64 k ∧ Hid (FSt W.heap.size W0.heap.size Fk s rl [] wr) ∧ Hid (FBd Fk k) ∧ Hid (Fk.ms = ms) ∧ Hid (parseF (lsB zs) = parseGo ms ((lsB zs).drop k) k Fk) ∧ Hid (Below W0.heap.size W wr)) (fun i _ => zs.length - (intOf i).toNat)
          case atStart => exact ⟨0, F0, s, [], Nat.zero_le _, rfl, HF2.out, HBD0.out, HMS0.out, by rw [List.drop_zero]; exact HR0.out, HB2.out⟩
          case round =>
            clear hk HF HB hml1 HFl hsz0 HF2 HB2 HBD0 HMS0 HR0 hlt
            obtain ⟨k, Fk, s, rl, hk, rfl, HF, HBD, HMK, HGO, HB⟩ := hrel
            by_cases hlt : k < zs.length
            · obtain ⟨hz, hbw, hnl, hml⟩ := HZW.out wr HB.out
              obtain ⟨ad, rfl, _, hc⟩ := str_at hnl.at_.reads hlt
              have hzs : (zs.getD k ByteArray.empty).size ≤ 1048600 := HSZ.out _ (by rw [List.getD_eq_getElem?_getD, List.getElem?_eq_getElem hlt]; exact List.getElem_mem hlt)
              have HLA := Lib.hid (lst_at hlt)
              have HD := Lib.hid (fun u => defines_ok (zs.getD k ByteArray.empty) hzs u)
              have hsz0 : W0.heap.size < wr.heap.size := HF.out.blt
              have hml1 : Fk.ms.length ≤ 200 := by rw [HMK.out, HMS.out]; have := macsF_len (lsB zs); rw [lsB_len] at this; omega
              have HZS : Hid ((zs.getD k ByteArray.empty).data.toList.length ≤ 1048600) := by show _ ≤ _; rw [ba_len]; exact hzs
              clear hz hbw hnl hml hzs
              generalize zs.getD k ByteArray.empty = z at *
              cases hdf : defB z.data.toList with
              | true =>
                have hdv : defV z.data.toList = .agg #[.string (txt (defM z.data.toList).1), .string (txt (defM z.data.toList).2)] := by unfold defV; rw [hdf]; rfl
                rw [hdf, hdv] at HD
                have HGN := Lib.hid (parseGo_def (ms := ms) (F := Fk) HLA.out hdf)
                clear hdf hdv
                generalize defM z.data.toList = m at *
                obtain ⟨m1, m2⟩ := m
                go_wp2_with (go_at_call 39; refine (HD.out _).mono ?_; rintro e w1 ⟨rfl, hb⟩; have HB1 := Lib.hid hb; clear hb)
                have hbX : Hid (∀ o, Below wr.heap.size wr (w1.alloc o)) := by show ∀ o, _; exact fun o => HB1.out.alloc HB1.out.size o
                go_roundw
                case rel => exact ⟨k + 1, Fk, s, rl, by omega, by go_num, HF.out.below (hbX.out _), ⟨HBD.out.p, Nat.le_succ_of_le HBD.out.i, HBD.out.r⟩, HMK.out, by rw [← HGN.out]; exact HGO.out, HB.out.trans ((hbX.out _).mono (Nat.le_of_lt hsz0))⟩
                case measure => simp [intOf]; omega
              | false =>
                have hdv : defV z.data.toList = .agg #[.string ⟨#[]⟩, .string ⟨#[]⟩] := by unfold defV; rw [hdf]; rfl
                rw [hdf, hdv] at HD
                have HDF := Lib.hid hdf
                clear hdf hdv
                go_upto_region 18 with (go_at_call 39; refine (HD.out _).mono ?_; rintro e w1 ⟨rfl, hb⟩; have HB1 := Lib.hid hb; clear hb)
                obtain ⟨X, hX⟩ : ∃ X, X = w1.alloc (.cells #[.string ⟨#[]⟩, .string ⟨#[]⟩] 86) := ⟨_, rfl⟩
                have hbX : Below wr.heap.size wr X := by rw [hX]; exact HB1.out.alloc HB1.out.size _
                rw [← hX]
                clear hX
                have HFX := Lib.hid (HF.out.below hbX)
                have HBX := Lib.hid (HB.out.trans (hbX.mono (Nat.le_of_lt hsz0)))
                have e0 : X.cell? ⟨W0.heap.size, 0, none⟩ = some (.slice s.pm Fk.ms.length s.cm) := (boxF HFX.out.box).1.1
                have hex := Expand_ok s.pm Fk.ms.length s.cm Fk.ms z.data.toList X (HFX.out.macs (by omega)) (HZW.out X HBX.out).2.2.2 HZS.out
                rw [list_txt, HMK.out] at hex
                rw [HMK.out] at e0
                have HEX := Lib.hid hex
                clear hex hbX hc
                by_cases hE1 : (expandE okM ms z.data.toList).1 = 0
                · have HSH := Lib.hid (expand_short hE1)
                  rw [hE1] at HEX
                  have HE1 := Lib.hid hE1
                  clear hE1
                  have hpr := fun u => ParseRO_ok (txt (expandE okM ms z.data.toList).2) u (by rw [txt_size]; have := HSH.out; omega)
                  rw [txt_list] at hpr
                  have HPR := Lib.hid hpr
                  clear hpr
                  obtain ⟨t, ht⟩ : ∃ t, t = (expandE okM ms z.data.toList).2 := ⟨_, rfl⟩
                  rw [← ht] at HEX HSH HPR
                  have HT := Lib.hid ht
                  clear ht
                  by_cases hE2 : parseE t = 0
                  · have HE2 := Lib.hid hE2
                    have HRO := Lib.hid (parse_rule hE2)
                    have HLF : Hid (lineF ms z.data.toList Fk = addF Fk (parseT t) (parseN t)) := by
                      show _ = _
                      rw [lineF_a HE1.out (by rw [← HT.out]; exact hE2), ← HT.out]
                    have HPRY : Hid (∀ u : World, Calls Tryz.prog 42 #[.string (txt t)] u fun e w' => (∃ g1 g2, e = .returned (.tuple #[.agg #[.slice (some ⟨g1, 0, none⟩) (parseT t).length (parseT t).length, .slice (some ⟨g2, 0, none⟩) (parseN t).length (parseN t).length], .int .i64 0]) ∧ RowS w' u.heap.size g1 (parseT t) ∧ RowS w' u.heap.size g2 (parseN t)) ∧ Below u.heap.size u w') := by
                      show ∀ u : World, _
                      intro u
                      refine (HPR.out u).mono ?_
                      rintro e w' ⟨⟨v, rfl, hv⟩, hb⟩
                      rcases hv with ⟨hv, _⟩ | ⟨_, g1, g2, rfl, h1, h2, _⟩
                      · exact absurd hE2 hv
                      · exact ⟨⟨g1, g2, by rw [hE2], h1, h2⟩, hb⟩
                    clear hE2 HPR
                    generalize parseT t = RT at *
                    generalize parseN t = RN at *
                    go_upto_region 23 with (first
                      | (go_at_call 41; refine HEX.out.mono ?_; rintro e w2 ⟨rfl, hb⟩; have HX2 := Lib.hid hb; clear hb)
                      | (go_at_call 42; refine (HPRY.out _).mono ?_; rintro e w3 ⟨⟨g1, g2, rfl, hr1, hr2⟩, hb⟩; have HX3 := Lib.hid hb; have HR1 := Lib.hid hr1; have HR2 := Lib.hid hr2; clear hb hr1 hr2))
                    have HBX2 := Lib.hid (HBX.out.trans (HX2.out.mono (by have := HBX.out.size; have := HS1.out; omega)))
                    have HBX3 := Lib.hid (HBX2.out.trans (HX3.out.mono (by have := HBX2.out.size; have := HS1.out; omega)))
                    have HFY := Lib.hid (HFX.out.below HX2.out)
                    have HFZ := Lib.hid (HFY.out.below HX3.out)
                    obtain ⟨V, hV⟩ : ∃ V, V = w3.alloc (.cells #[.slice (some ⟨g1, 0, none⟩) RT.length RT.length, .slice (some ⟨g2, 0, none⟩) RN.length RN.length] 61) := ⟨_, rfl⟩
                    have hbV : Below w3.heap.size w3 V := by rw [hV]; exact rb1w _ _
                    obtain ⟨x1, x2, x3⟩ := rb_cells (show V.heap[w3.heap.size]? = some (.cells #[.slice (some ⟨g1, 0, none⟩) RT.length RT.length, .slice (some ⟨g2, 0, none⟩) RN.length RN.length] 61 (0, 0)) from by rw [hV]; exact rb_new _ _)
                    rw [← hV]
                    clear hV
                    have HBV := Lib.hid (HBX3.out.trans (hbV.mono (by have := HBX3.out.size; have := HS1.out; omega)))
                    have hWY : W.heap.size ≤ w2.heap.size := HBX2.out.size
                    have HFV : Hid (FSt W.heap.size W0.heap.size Fk s rl [⟨g1, g2, RT, RN⟩] V) := (HFZ.out.below hbV).with ((HR1.out.below hbV).weaken hWY) ((HR2.out.below hbV).weaken hWY) (HFY.out.pbl HR1.out.lt.1) (HFY.out.pbl HR2.out.lt.1)
                    have HAD := Lib.hid (add_ok W.heap.size W0.heap.size Fk s rl ⟨g1, g2, RT, RN⟩ V HFV.out (HZW.out V HBV.out).2.2.2 HBV.out.size HRO.out HBD.out.p (by have := HBD.out.i; omega) (by have := HBD.out.r; omega))
                    have HBD2 := Lib.hid (fun hE => addF_bd (T := RT) (N := RN) HBD.out hE)
                    have HGB := Lib.hid (fun hE => (HGO.out).trans (parseGo_bad (ms := ms) (F := Fk) HLA.out HDF.out hE))
                    have HGG := Lib.hid (fun hE => (HGO.out).trans (parseGo_good (ms := ms) (F := Fk) HLA.out HDF.out hE))
                    rw [HLF.out] at HGB HGG
                    unfold AddPost at HAD
                    obtain ⟨af, haf⟩ : ∃ af, af = addF Fk RT RN := ⟨_, rfl⟩
                    simp only [← haf] at HAD HBD2 HGB HGG
                    clear haf hbV hWY
                    obtain ⟨F3, E⟩ := af
                    simp only at HAD HBD2 HGB HGG
                    have HADC : Hid (Calls Tryz.prog 43 #[.pointer (some ⟨W0.heap.size, 0, none⟩), .agg #[.slice (some ⟨g1, 0, none⟩) RT.length RT.length, .slice (some ⟨g2, 0, none⟩) RN.length RN.length]] V fun e w' => e = .returned (.int .i64 E) ∧ (∃ s rl, FSt W.heap.size W0.heap.size F3 s rl [] w') ∧ Below W0.heap.size V w' ∧ V.heap.size ≤ w'.heap.size) := HAD.out
                    clear HAD
                    by_cases hE3 : E = 0
                    · subst hE3
                      obtain ⟨hbd, hmk⟩ := HBD2.out rfl
                      have HBDN := Lib.hid hbd
                      have HMKN := Lib.hid (hmk.trans HMK.out)
                      have HGN := Lib.hid (HGG.out rfl)
                      clear hbd hmk
                      go_wp2_with (go_at_call 43; refine HADC.out.mono ?_; rintro e w5 ⟨rfl, ⟨s5, rl5, hf5⟩, hb5, hs5⟩; have HF5 := Lib.hid hf5; have HB5 := Lib.hid hb5; clear hf5 hb5 hs5)
                      go_roundw
                      case rel => exact ⟨k + 1, F3, s5, rl5, by omega, by go_num, HF5.out, HBDN.out, HMKN.out, HGN.out, HBV.out.trans HB5.out⟩
                      case measure => simp [intOf]; omega
                    · obtain ⟨i1, i2⟩ := int_ne' hE3
                      have HNE := Lib.hid hE3
                      have HR := Lib.hid (HGB.out hE3)
                      clear hE3
                      go_upto_region 26 with (go_at_call 43; refine HADC.out.mono ?_; rintro e w5 ⟨rfl, _, hb5, _⟩; have HB5 := Lib.hid (HBV.out.trans hb5); clear hb5)
                      obtain ⟨hz, hbw, _, _⟩ := HZW.out w5 HB5.out
                      obtain ⟨⟨b0, b1, b2, b3⟩, b4⟩ := boxF hz
                      have hlt2 : w.heap.size < w5.heap.size := (Array.getElem?_eq_some_iff.1 hz).1
                      have HZ := Lib.hid hz
                      have HBF := Lib.hid hbw
                      clear hz hbw
                      go_wp2
                      refine bodyPost_ret (v := .tuple #[nilFile, .int .i64 ((k : Int) + 1), .int .i64 E]) (results_ctt Tryz.results18 _ _ w.heap.size 43 _ (0, 0) _ _ _ rfl rfl rfl (boxF_all HZ.out _ _ _ _) Tryz.underlying43 rfl (by kernel_rfl)) rfl ⟨⟨nilFile, by rw [HR.out]; rfl, .inl ⟨by rw [HR.out]; exact HNE.out, rfl⟩⟩, below_setF HBF.out (Nat.le_refl _) _ _ _ _⟩
                  · obtain ⟨E, hE⟩ : ∃ E, E = parseE t := ⟨_, rfl⟩
                    have HLF : Hid (lineF ms z.data.toList Fk = (Fk, E)) := by
                      show _ = _
                      rw [lineF_p HE1.out (by rw [← HT.out]; exact hE2), ← HT.out, ← hE]
                    have HGB := Lib.hid (fun hE => (HGO.out).trans (parseGo_bad (ms := ms) (F := Fk) HLA.out HDF.out hE))
                    rw [HLF.out] at HGB
                    unfold ParsePostO at HPR
                    rw [← hE] at HPR hE2
                    obtain ⟨i1, i2⟩ := int_ne' hE2
                    have HNE := Lib.hid hE2
                    have HR := Lib.hid (HGB.out hE2)
                    have HPRN : Hid (∀ u : World, Calls Tryz.prog 42 #[.string (txt t)] u fun e w' => e = .returned (.tuple #[.agg #[.slice none 0 0, .slice none 0 0], .int .i64 E]) ∧ Below u.heap.size u w') := by
                      show ∀ u : World, _
                      intro u
                      refine (HPR.out u).mono ?_
                      rintro e w' ⟨⟨v, rfl, hv⟩, hb⟩
                      rcases hv with ⟨_, rfl⟩ | ⟨hv, _⟩
                      · exact ⟨rfl, hb⟩
                      · exact absurd hv HNE.out
                    clear hE2 hE HPR HGB
                    go_upto_region 26 with (first
                      | (go_at_call 41; refine HEX.out.mono ?_; rintro e w2 ⟨rfl, hb⟩; have HX2 := Lib.hid hb; clear hb)
                      | (go_at_call 42; refine (HPRN.out _).mono ?_; rintro e w3 ⟨rfl, hb⟩; have HX3 := Lib.hid hb; clear hb))
                    have HBX2 := Lib.hid (HBX.out.trans (HX2.out.mono (by have := HBX.out.size; have := HS1.out; omega)))
                    have HBX3 := Lib.hid (HBX2.out.trans (HX3.out.mono (by have := HBX2.out.size; have := HS1.out; omega)))
                    obtain ⟨V, hV⟩ : ∃ V, V = w3.alloc (.cells #[.slice none 0 0, .slice none 0 0] 61) := ⟨_, rfl⟩
                    have HBV : Hid (Below W0.heap.size W V) := by show Below _ _ _; rw [hV]; exact HBX3.out.alloc (by have := HBX3.out.size; have := HS1.out; omega) _
                    rw [← hV]
                    clear hV
                    obtain ⟨hz, hbw, _, _⟩ := HZW.out V HBV.out
                    obtain ⟨⟨b0, b1, b2, b3⟩, b4⟩ := boxF hz
                    have hlt2 : w.heap.size < V.heap.size := (Array.getElem?_eq_some_iff.1 hz).1
                    have HZ := Lib.hid hz
                    have HBF := Lib.hid hbw
                    clear hz hbw
                    go_wp2
                    refine bodyPost_ret (v := .tuple #[nilFile, .int .i64 ((k : Int) + 1), .int .i64 E]) (results_ctt Tryz.results18 _ _ w.heap.size 43 _ (0, 0) _ _ _ rfl rfl rfl (boxF_all HZ.out _ _ _ _) Tryz.underlying43 rfl (by kernel_rfl)) rfl ⟨⟨nilFile, by rw [HR.out]; rfl, .inl ⟨by rw [HR.out]; exact HNE.out, rfl⟩⟩, below_setF HBF.out (Nat.le_refl _) _ _ _ _⟩
                · obtain ⟨E, hE⟩ : ∃ E, E = (expandE okM ms z.data.toList).1 := ⟨_, rfl⟩
                  have HLF : Hid (lineF ms z.data.toList Fk = (Fk, E)) := by
                    show _ = _
                    rw [lineF_e hE1, ← hE]
                  have HGB := Lib.hid (fun hE => (HGO.out).trans (parseGo_bad (ms := ms) (F := Fk) HLA.out HDF.out hE))
                  rw [HLF.out] at HGB
                  rw [← hE] at HEX hE1
                  obtain ⟨i1, i2⟩ := int_ne' hE1
                  have HNE := Lib.hid hE1
                  have HR := Lib.hid (HGB.out hE1)
                  clear hE1 hE HGB
                  go_upto_region 21 with (go_at_call 41; refine HEX.out.mono ?_; rintro e w2 ⟨rfl, hb⟩; have HX2 := Lib.hid hb; clear hb)
                  have HBX2 := Lib.hid (HBX.out.trans (HX2.out.mono (by have := HBX.out.size; have := HS1.out; omega)))
                  obtain ⟨hz, hbw, _, _⟩ := HZW.out w2 HBX2.out
                  obtain ⟨⟨b0, b1, b2, b3⟩, b4⟩ := boxF hz
                  have hlt2 : w.heap.size < w2.heap.size := (Array.getElem?_eq_some_iff.1 hz).1
                  have HZ := Lib.hid hz
                  have HBF := Lib.hid hbw
                  clear hz hbw
                  go_wp2
                  refine bodyPost_ret (v := .tuple #[nilFile, .int .i64 ((k : Int) + 1), .int .i64 E]) (results_ctt Tryz.results18 _ _ w.heap.size 43 _ (0, 0) _ _ _ rfl rfl rfl (boxF_all HZ.out _ _ _ _) Tryz.underlying43 rfl (by kernel_rfl)) rfl ⟨⟨nilFile, by rw [HR.out]; rfl, .inl ⟨by rw [HR.out]; exact HNE.out, rfl⟩⟩, below_setF HBF.out (Nat.le_refl _) _ _ _ _⟩
            · obtain rfl : k = zs.length := by omega
              have HR : Hid (parseF (lsB zs) = (Fk, 0, 0)) := by
                show _ = _
                rw [HGO.out, List.drop_of_length_le (by rw [lsB_len]; exact Nat.le_refl _)]
                rfl
              have e0 : wr.cell? ⟨W0.heap.size, 0, none⟩ = some (.slice s.pm Fk.ms.length s.cm) := (boxF HF.out.box).1.1
              have e1 : wr.cell? ⟨W0.heap.size, 1, none⟩ = some (.slice s.pp Fk.ph.length s.cp) := (boxF HF.out.box).1.2.1
              have e2 : wr.cell? ⟨W0.heap.size, 2, none⟩ = some (.slice s.pi Fk.inf.length s.ci) := (boxF HF.out.box).1.2.2.1
              have e3 : wr.cell? ⟨W0.heap.size, 3, none⟩ = some (.slice s.pr Fk.rs.length s.cr) := (boxF HF.out.box).1.2.2.2
              obtain ⟨hz, hbw, _, _⟩ := HZW.out wr HB.out
              obtain ⟨⟨b0, b1, b2, b3⟩, b4⟩ := boxF hz
              have hlt2 : w.heap.size < wr.heap.size := (Array.getElem?_eq_some_iff.1 hz).1
              have HZ := Lib.hid hz
              have HBF := Lib.hid hbw
              clear hz hbw
              go_wp2
              have hlw : w.heap.size < W.heap.size := by have := HS0.out; have := HS1.out; omega
              have hnw : w.heap.size ≠ W0.heap.size := by have := HS0.out; omega
              refine bodyPost_ret (v := .tuple #[.agg #[.slice s.pm Fk.ms.length s.cm, .slice s.pp Fk.ph.length s.cp, .slice s.pi Fk.inf.length s.ci, .slice s.pr Fk.rs.length s.cr], .int .i64 0, .int .i64 0]) (results_ctt Tryz.results18 _ _ w.heap.size 43 _ (0, 0) _ _ _ rfl rfl rfl (boxF_all HZ.out _ _ _ _) Tryz.underlying43 rfl (by kernel_rfl)) rfl ⟨⟨_, by rw [HR.out]; rfl, .inr ⟨by rw [HR.out], ?_⟩⟩, below_setF HBF.out (Nat.le_refl _) _ _ _ _⟩
              rw [HR.out]
              exact ⟨W.heap.size, W0.heap.size, s, rl, by have := HS0.out; omega, (((HF.out.other hlw hnw).other hlw hnw).other hlw hnw).other hlw hnw, rfl⟩
        · obtain ⟨i1, i2⟩ := int_ne' hE
          have HE0 := Lib.hid hE
          have HE := Lib.hid (parseF_m (l := lsB zs) (by rw [lsB_len]; exact H200.out) (by rw [← HMS.out]; exact hE))
          rw [← HMS.out] at HE
          clear hE
          generalize flatsE okM ms = E at *
          go_upto_region 13 with (go_at_call 40; refine HFl.out.mono ?_; rintro e w2 ⟨⟨v, rfl⟩, hb⟩; have HB2 := Lib.hid (HB.out.trans (hb.mono (Nat.le_of_lt hsz0))); clear hb)
          obtain ⟨hz, hbw, _, _⟩ := HZW.out w2 HB2.out
          obtain ⟨⟨b0, b1, b2, b3⟩, b4⟩ := boxF hz
          have hlt2 : w.heap.size < w2.heap.size := (Array.getElem?_eq_some_iff.1 hz).1
          have HZ := Lib.hid hz
          have HBF := Lib.hid hbw
          clear hz hbw
          go_wp2
          refine bodyPost_ret (v := .tuple #[nilFile, .int .i64 0, .int .i64 E]) (results_ctt Tryz.results18 _ _ w.heap.size 43 _ (0, 0) _ _ _ rfl rfl rfl (boxF_all HZ.out _ _ _ _) Tryz.underlying43 rfl (by kernel_rfl)) rfl ⟨⟨nilFile, by rw [HE.out]; rfl, .inl ⟨by rw [HE.out]; exact HE0.out, rfl⟩⟩, below_setF HBF.out (Nat.le_refl _) _ _ _ _⟩
end Go.Proofs.YtoiolepengcagaaGreatDoor
namespace Go.Proofs.YtoiolepengcagaaGreatDoor
abbrev Bl := List UInt8
/-! ### strings.ReplaceAll, byte by byte -/
theorem repl_cons (old new : Bl) (hold : old ≠ []) (hne : (old == new) = false) (c : UInt8) (l : Bl) :
    Lib.replaceAll (c :: l) old new = if old.isPrefixOf (c :: l) = true then new ++ Lib.replaceAll ((c :: l).drop old.length) old new else c :: Lib.replaceAll l old new := by
  have hR : ∀ s, Lib.replaceAll s old new = Lib.replaceK old new (Lib.count s old) s := by
    intro s
    unfold Lib.replaceAll Lib.replace Lib.replaceNum
    rw [hne, if_neg (by decide), if_pos (.inl (by decide))]
  rw [hR, hR, hR]
  have hi : Lib.index (c :: l) old = if old.isPrefixOf (c :: l) = true then 0 else if (Lib.index l old == -1) = true then -1 else Lib.index l old + 1 := by
    rw [Lib.index]
  by_cases hp : old.isPrefixOf (c :: l) = true
  · rw [if_pos hp] at hi ⊢
    have h0 : Lib.index (c :: l) old = ((0 : Nat) : Int) := hi
    have q1 := Lib.count_hit hold h0
    rw [Nat.add_comm 1] at q1
    rw [q1, Lib.replaceK_hit _ _ _ _ _ h0]
    simp
  · rw [if_neg hp] at hi ⊢
    by_cases hm : (Lib.index l old == -1) = true
    · rw [if_pos hm] at hi
      rw [Lib.count_miss hi, Lib.count_miss (eq_of_beq hm)]
      rfl
    · rw [if_neg hm] at hi
      have hge := Lib.index_ge l old
      obtain ⟨i, hii⟩ : ∃ i : Nat, Lib.index l old = i := ⟨(Lib.index l old).toNat, by
        have : Lib.index l old ≠ -1 := fun e => hm (by rw [e]; rfl)
        omega⟩
      have h1 : Lib.index (c :: l) old = ((i + 1 : Nat) : Int) := by rw [hi, hii]; omega
      have q1 := Lib.count_hit hold h1
      rw [Nat.add_comm 1] at q1
      have q2 := Lib.count_hit hold hii
      rw [Nat.add_comm 1] at q2
      rw [q1, Lib.replaceK_hit _ _ _ _ _ h1, q2, Lib.replaceK_hit _ _ _ _ _ hii]
      have e : (c :: l).drop (i + 1 + old.length) = l.drop (i + old.length) := by rw [show i + 1 + old.length = (i + old.length) + 1 by omega]; rfl
      rw [e]
      rfl
theorem repl_nil (old new : Bl) (hold : old ≠ []) : Lib.replaceAll [] old new = [] := by
  unfold Lib.replaceAll Lib.replace
  split
  · rfl
  · have : Lib.index [] old = -1 := by
      rw [Lib.index]
      cases old with
      | nil => exact absurd rfl hold
      | cons _ _ => rfl
    unfold Lib.replaceNum
    rw [if_pos (.inl (by decide)), Lib.count_miss this]
    rfl
/-- with the sign ahead of every hash -/
def shw (l : Bl) : Bl := Lib.replaceAll l [35] [92, 35]
/-- without it -/
def une (l : Bl) : Bl := Lib.replaceAll l [92, 35] [35]
theorem shw_cons (c : UInt8) (l : Bl) : shw (c :: l) = if c = 35 then 92 :: 35 :: shw l else c :: shw l := by
  unfold shw
  rw [repl_cons _ _ (by simp) (by decide)]
  by_cases h : c = 35
  · subst h
    rw [if_pos rfl, if_pos (by simp [List.isPrefixOf])]
    rfl
  · rw [if_neg h, if_neg (by
      simp [List.isPrefixOf]
      exact fun e => h e.symm)]
theorem shw_nil : shw [] = [] := repl_nil _ _ (by simp)
theorem une_nil : une [] = [] := repl_nil _ _ (by simp)
theorem une_hash (l : Bl) : une (92 :: 35 :: l) = 35 :: une l := by
  unfold une
  rw [repl_cons _ _ (by simp) (by decide), if_pos (by simp [List.isPrefixOf])]
  rfl
theorem une_cons {c : UInt8} {l : Bl} (h : c ≠ 92 ∨ ∀ m, l ≠ 35 :: m) : une (c :: l) = c :: une l := by
  unfold une
  rw [repl_cons _ _ (by simp) (by decide), if_neg]
  intro hp
  cases l with
  | nil => simp [List.isPrefixOf] at hp
  | cons d m =>
    simp [List.isPrefixOf] at hp
    obtain ⟨h1, h2⟩ := hp
    rcases h with h | h
    · exact h h1.symm
    · exact h m (by rw [← h2])
theorem shw_head (l : Bl) : ∀ m, shw l ≠ 35 :: m := by
  intro m h
  cases l with
  | nil => rw [shw_nil] at h; cases h
  | cons c l =>
    rw [shw_cons] at h
    split at h
    · injection h with h _; exact absurd h (by decide)
    · rename_i hc; injection h with h _; exact hc h
theorem une_shw (l : Bl) : une (shw l) = l := by
  induction l with
  | nil => rw [shw_nil, une_nil]
  | cons c l ih =>
    rw [shw_cons]
    split
    · rename_i h; subst h; rw [une_hash, ih]
    · rw [une_cons (.inr (shw_head l)), ih]
/-- up to what is said aside -/
def hcut : UInt8 → Bl → Bl
  | _, [] => []
  | p, c :: l => if c = 35 ∧ p ≠ 92 then [] else c :: hcut c l
theorem hcut_shw (l : Bl) : ∀ p, hcut p (shw l) = shw l := by
  induction l with
  | nil => intro p; rw [shw_nil]; rfl
  | cons c l ih =>
    intro p
    rw [shw_cons]
    split
    · rename_i h
      show (if (92 : UInt8) = 35 ∧ p ≠ 92 then [] else 92 :: (if (35 : UInt8) = 35 ∧ (92 : UInt8) ≠ 92 then [] else 35 :: hcut 35 (shw l))) = _
      rw [if_neg (fun e => absurd e.1 (by decide)), if_neg (fun e => e.2 rfl), ih]
    · rename_i h
      show (if c = 35 ∧ p ≠ 92 then [] else c :: hcut c (shw l)) = _
      rw [if_neg (fun e => h e.1), ih]
/-- a line as it is told -/
def cutL (l : Bl) : Bl := Lib.trimRightS (une (hcut 0 l)) [32, 9]
theorem cutL_shw (l : Bl) : cutL (shw l) = Lib.trimRightS l [32, 9] := by unfold cutL; rw [hcut_shw, une_shw]
/-! ### the first line -/
def nl : Bl → Bl × Bl
  | [] => ([], [])
  | c :: l => if c = 10 then ([], l) else (c :: (nl l).1, (nl l).2)
theorem nl_no {l : Bl} (h : (10 : UInt8) ∉ l) : nl l = (l, []) := by
  induction l with
  | nil => rfl
  | cons c l ih =>
    have hc : c ≠ 10 := fun e => h (e ▸ List.mem_cons_self)
    rw [nl, if_neg hc, ih (fun e => h (List.mem_cons_of_mem _ e))]
theorem nl_yes {u : Bl} (h : (10 : UInt8) ∉ u) (v : Bl) : nl (u ++ 10 :: v) = (u, v) := by
  induction u with
  | nil => rfl
  | cons c u ih =>
    have hc : c ≠ 10 := fun e => h (e ▸ List.mem_cons_self)
    rw [List.cons_append, nl, if_neg hc, ih (fun e => h (List.mem_cons_of_mem _ e))]
theorem nl_split (l : Bl) : ((10 : UInt8) ∉ l ∧ nl l = (l, [])) ∨ ∃ u v, l = u ++ 10 :: v ∧ (10 : UInt8) ∉ u ∧ nl l = (u, v) := by
  induction l with
  | nil => exact .inl ⟨by simp, rfl⟩
  | cons c l ih =>
    by_cases hc : c = 10
    · subst hc
      exact .inr ⟨[], l, rfl, by simp, rfl⟩
    · rw [nl, if_neg hc]
      rcases ih with ⟨h1, h2⟩ | ⟨u, v, h1, h2, h3⟩
      · exact .inl ⟨by simp [h1]; exact fun e => hc e.symm, by rw [h2]⟩
      · exact .inr ⟨c :: u, v, by rw [h1]; rfl, by simp [h2]; exact fun e => hc e.symm, by rw [h3]⟩
theorem nl_cut (l : Bl) : Lib.cut l [10] = ((nl l).1, (nl l).2, decide ((10 : UInt8) ∈ l)) := by
  unfold Lib.cut
  rcases nl_split l with ⟨h1, h2⟩ | ⟨u, v, h1, h2, h3⟩
  · have hi : Lib.index l [10] = -1 := by
      clear h2
      induction l with
      | nil => rfl
      | cons c l ih =>
        rw [Lib.index, ih (fun e => h1 (List.mem_cons_of_mem _ e))]
        have hc : c ≠ 10 := fun e => h1 (e ▸ List.mem_cons_self)
        rw [if_neg (by simp [List.isPrefixOf]; exact fun e => hc e.symm)]
        rfl
    rw [hi, if_neg (by decide), h2, decide_eq_false h1]
  · have hi : Lib.index l [10] = u.length := by
      rw [h1]
      clear h1 h3
      induction u with
      | nil => rw [List.nil_append, Lib.index, if_pos (by simp [List.isPrefixOf])]; rfl
      | cons c u ih =>
        have hc : c ≠ 10 := fun e => h2 (e ▸ List.mem_cons_self)
        rw [List.cons_append, Lib.index, ih (fun e => h2 (List.mem_cons_of_mem _ e)), if_neg (by simp [List.isPrefixOf]; exact fun e => hc e.symm)]
        rw [if_neg (by simp)]
        simp
    rw [hi, if_pos (by omega), h3, decide_eq_true (by rw [h1]; simp)]
    simp only [Int.toNat_natCast]
    rw [h1, List.take_left' rfl, ← List.drop_drop, List.drop_left' rfl]
    rfl
theorem nl_len (l : Bl) : (nl l).1.length + (nl l).2.length ≤ l.length ∧ (l ≠ [] → (nl l).2.length < l.length) := by
  rcases nl_split l with ⟨h1, h2⟩ | ⟨u, v, h1, h2, h3⟩
  · rw [h2]
    refine ⟨by simp, fun h => ?_⟩
    have := List.length_pos_iff.2 h
    simpa using this
  · rw [h3, h1]
    simp only [List.length_append, List.length_cons]
    exact ⟨by omega, fun _ => by omega⟩
/-! ### lines that go on -/
/-- a line as it is read on: without blanks ahead -/
def onl (text one : Bl) : Bl := if text = [] then one else Lib.trimLeftS one [32, 9]
def lgo : Nat → Bl → Bl → Nat → Bl × Bl × Nat
  | 0, text, s, at_ => (text, s, at_)
  | f + 1, text, s, at_ =>
    if Lib.hasSuffix (onl text (nl s).1) [92] = true ∧ (nl s).2 ≠ [] then
      lgo f (text ++ Lib.trimSuffix (onl text (nl s).1) [92] ++ [32]) (nl s).2 (at_ + 1)
    else (text ++ Lib.trimSuffix (onl text (nl s).1) [92], (nl s).2, at_)
theorem lgo_succ (f : Nat) (text s : Bl) (at_ : Nat) : lgo (f + 1) text s at_ = if Lib.hasSuffix (onl text (nl s).1) [92] = true ∧ (nl s).2 ≠ [] then lgo f (text ++ Lib.trimSuffix (onl text (nl s).1) [92] ++ [32]) (nl s).2 (at_ + 1) else (text ++ Lib.trimSuffix (onl text (nl s).1) [92], (nl s).2, at_) := by rw [lgo]
theorem lgo_fuel : ∀ f text s at_, s.length ≤ f → lgo (f + 1) text s at_ = lgo f text s at_ := by
  intro f
  induction f with
  | zero =>
    intro text s at_ h
    have : s = [] := List.length_eq_zero_iff.1 (by omega)
    subst this
    have h1 : onl text (nl []).1 = [] := by unfold onl; split <;> rfl
    have h3 : Lib.trimSuffix ([] : Bl) [92] = [] := rfl
    rw [lgo, lgo, if_neg (fun g => g.2 rfl), h1, h3, List.append_nil]
    rfl
  | succ f ih =>
    intro text s at_ h
    rw [lgo_succ (f + 1) text s at_, lgo_succ f text s at_]
    split
    · rename_i hc
      have hs : s ≠ [] := fun e => by subst e; exact hc.2 rfl
      rw [ih _ _ _ (by have := (nl_len s).2 hs; omega)]
    · rfl
theorem lgo_more (k : Nat) : ∀ f text s at_, s.length ≤ f → lgo (f + k) text s at_ = lgo f text s at_ := by
  induction k with
  | zero => intro f text s at_ _; rfl
  | succ k ih => intro f text s at_ h; rw [← Nat.add_assoc, lgo_fuel _ _ _ _ (by omega), ih _ _ _ _ h]
def lg (text s : Bl) (at_ : Nat) : Bl × Bl × Nat := lgo s.length text s at_
theorem lg_eq (text s : Bl) (at_ : Nat) : lg text s at_ = if Lib.hasSuffix (onl text (nl s).1) [92] = true ∧ (nl s).2 ≠ [] then lg (text ++ Lib.trimSuffix (onl text (nl s).1) [92] ++ [32]) (nl s).2 (at_ + 1) else (text ++ Lib.trimSuffix (onl text (nl s).1) [92], (nl s).2, at_) := by
  have h : lg text s at_ = lgo (s.length + 1) text s at_ := (lgo_fuel _ _ _ _ (Nat.le_refl _)).symm
  rw [h, lgo]
  split
  · rename_i hc
    have hs : s ≠ [] := fun e => by subst e; exact hc.2 rfl
    have hl := (nl_len s).2 hs
    unfold lg
    obtain ⟨k, hk⟩ : ∃ k, s.length = (nl s).2.length + k := ⟨s.length - (nl s).2.length, by omega⟩
    rw [hk, lgo_more k _ _ _ _ (Nat.le_refl _)]
  · rfl
theorem lg_len : ∀ n text s at_, s.length ≤ n → s ≠ [] → (lg text s at_).2.1.length < s.length := by
  intro n
  induction n with
  | zero => intro text s at_ h hs; exact absurd (List.length_eq_zero_iff.1 (by omega)) hs
  | succ n ih =>
    intro text s at_ h hs
    have hl := (nl_len s).2 hs
    rw [lg_eq]
    split
    · rename_i hc
      have := ih (text ++ Lib.trimSuffix (onl text (nl s).1) [92] ++ [32]) (nl s).2 (at_ + 1) (by omega) hc.2
      omega
    · exact hl
/-! ### all lines -/
def jgo : Nat → Bl → Nat → List (Nat × Bl)
  | 0, _, _ => []
  | f + 1, s, at_ => if s = [] then [] else (if cutL (lg [] s (at_ + 1)).1 = [] then [] else [(at_ + 1, cutL (lg [] s (at_ + 1)).1)]) ++ jgo f (lg [] s (at_ + 1)).2.1 (lg [] s (at_ + 1)).2.2
theorem jgo_succ (f : Nat) (s : Bl) (at_ : Nat) : jgo (f + 1) s at_ = if s = [] then [] else (if cutL (lg [] s (at_ + 1)).1 = [] then [] else [(at_ + 1, cutL (lg [] s (at_ + 1)).1)]) ++ jgo f (lg [] s (at_ + 1)).2.1 (lg [] s (at_ + 1)).2.2 := by rw [jgo]
theorem jgo_fuel : ∀ f s at_, s.length ≤ f → jgo (f + 1) s at_ = jgo f s at_ := by
  intro f
  induction f with
  | zero =>
    intro s at_ h
    have : s = [] := List.length_eq_zero_iff.1 (by omega)
    subst this
    rw [jgo, jgo, if_pos rfl]
  | succ f ih =>
    intro s at_ h
    rw [jgo_succ (f + 1) s at_, jgo_succ f s at_]
    split
    · rfl
    · rename_i hs
      rw [ih _ _ (by have := lg_len _ [] s (at_ + 1) (Nat.le_refl _) hs; omega)]
theorem jgo_more (k : Nat) : ∀ f s at_, s.length ≤ f → jgo (f + k) s at_ = jgo f s at_ := by
  induction k with
  | zero => intro f s at_ _; rfl
  | succ k ih => intro f s at_ h; rw [← Nat.add_assoc, jgo_fuel _ _ _ (by omega), ih _ _ _ h]
def jg (s : Bl) (at_ : Nat) : List (Nat × Bl) := jgo s.length s at_
theorem jg_nil (at_ : Nat) : jg [] at_ = [] := rfl
theorem jg_eq {s : Bl} (hs : s ≠ []) (at_ : Nat) : jg s at_ = (if cutL (lg [] s (at_ + 1)).1 = [] then [] else [(at_ + 1, cutL (lg [] s (at_ + 1)).1)]) ++ jg (lg [] s (at_ + 1)).2.1 (lg [] s (at_ + 1)).2.2 := by
  have h : jg s at_ = jgo (s.length + 1) s at_ := (jgo_fuel _ _ _ (Nat.le_refl _)).symm
  rw [h, jgo, if_neg hs]
  have hl := lg_len _ [] s (at_ + 1) (Nat.le_refl _) hs
  unfold jg
  obtain ⟨k, hk⟩ : ∃ k, s.length = (lg [] s (at_ + 1)).2.1.length + k := ⟨s.length - (lg [] s (at_ + 1)).2.1.length, by omega⟩
  have := jgo_more k _ (lg [] s (at_ + 1)).2.1 (lg [] s (at_ + 1)).2.2 (Nat.le_refl _)
  rw [← hk] at this
  rw [this]
def joinL (s : Bl) : List (Nat × Bl) := jg s 0
/-- the numbers moved on -/
def moved (k : Nat) (l : List (Nat × Bl)) : List (Nat × Bl) := l.map fun x => (x.1 + k, x.2)
theorem lg_moved (k : Nat) : ∀ n text s at_, s.length ≤ n → lg text s (at_ + k) = ((lg text s at_).1, (lg text s at_).2.1, (lg text s at_).2.2 + k) := by
  intro n
  induction n with
  | zero =>
    intro text s at_ h
    have : s = [] := List.length_eq_zero_iff.1 (by omega)
    subst this
    rfl
  | succ n ih =>
    intro text s at_ h
    rw [lg_eq, lg_eq text s at_]
    split
    · rename_i hc
      have hs : s ≠ [] := fun e => by subst e; exact hc.2 rfl
      have hl := (nl_len s).2 hs
      rw [show at_ + k + 1 = (at_ + 1) + k by omega]
      exact ih _ _ _ (by omega)
    · rfl
theorem jg_moved (k : Nat) : ∀ n s at_, s.length ≤ n → jg s (at_ + k) = moved k (jg s at_) := by
  intro n
  induction n with
  | zero =>
    intro s at_ h
    have : s = [] := List.length_eq_zero_iff.1 (by omega)
    subst this
    rfl
  | succ n ih =>
    intro s at_ h
    by_cases hs : s = []
    · subst hs; rfl
    · have hl := lg_len _ [] s (at_ + 1) (Nat.le_refl _) hs
      rw [jg_eq hs, jg_eq hs, show at_ + k + 1 = (at_ + 1) + k by omega, lg_moved k _ _ _ _ (Nat.le_refl _)]
      simp only
      rw [ih _ _ (by omega)]
      unfold moved
      rw [List.map_append]
      congr 1
      split <;> rfl
/-! ### a text behind another one -/
/-- ends with a point and a line's end -/
def Dotted (w : Bl) : Prop := ∃ v, w = v ++ [46, 10]
theorem nl_dotted {w : Bl} (h : Dotted w) : (∃ v, nl w = (v ++ [46], []) ∧ w = v ++ [46, 10] ∧ (10 : UInt8) ∉ v) ∨ ∃ u r, nl w = (u, r) ∧ w = u ++ 10 :: r ∧ (10 : UInt8) ∉ u ∧ Dotted r := by
  obtain ⟨v, rfl⟩ := h
  rcases nl_split v with ⟨h1, _⟩ | ⟨u, r, h1, h2, _⟩
  · left
    refine ⟨v, ?_, rfl, h1⟩
    have : v ++ [46, 10] = (v ++ [46]) ++ 10 :: [] := by simp
    rw [this, nl_yes (by simp [h1])]
  · right
    refine ⟨u, r ++ [46, 10], ?_, by rw [h1]; simp, h2, r, rfl⟩
    rw [h1, List.append_assoc, List.cons_append, nl_yes h2]
theorem suffix_dot (v : Bl) : Lib.hasSuffix (v ++ [46]) [92] = false := by
  unfold Lib.hasSuffix
  rw [← Bool.not_eq_true, List.isSuffixOf_iff_suffix]
  intro h
  have h1 := List.IsSuffix.getLast h (by simp)
  simp at h1
theorem trimLeft_dot (v : Bl) : ∃ v', Lib.trimLeftS (v ++ [46]) [32, 9] = v' ++ [46] := by
  unfold Lib.trimLeftS
  induction v with
  | nil => exact ⟨[], rfl⟩
  | cons c v ih =>
    rw [List.cons_append, List.dropWhile_cons]
    split
    · exact ih
    · exact ⟨c :: v, rfl⟩
theorem onl_dot (text v : Bl) : Lib.hasSuffix (onl text (v ++ [46])) [92] = false := by
  unfold onl
  split
  · exact suffix_dot v
  · obtain ⟨v', e⟩ := trimLeft_dot v
    rw [e]
    exact suffix_dot v'
theorem lg_behind : ∀ n text w t at_, w.length ≤ n → Dotted w → lg text (w ++ t) at_ = ((lg text w at_).1, (lg text w at_).2.1 ++ t, (lg text w at_).2.2) ∧
    ((lg text w at_).2.1 = [] ∨ Dotted (lg text w at_).2.1) ∧ (lg text w at_).2.2 + (lg text w at_).2.1.count 10 + 1 = at_ + w.count 10 := by
  intro n
  induction n with
  | zero =>
    intro text w t at_ h hw
    obtain ⟨v, rfl⟩ := hw
    simp at h
  | succ n ih =>
    intro text w t at_ h hw
    rcases nl_dotted hw with ⟨v, h1, h2, h3⟩ | ⟨u, r, h1, h2, h3, h4⟩
    · have e : nl (w ++ t) = (v ++ [46], t) := by
        rw [h2, show v ++ [46, 10] ++ t = (v ++ [46]) ++ 10 :: t by simp, nl_yes (by simp [h3])]
      rw [lg_eq text (w ++ t), lg_eq text w, e, h1]
      simp only [onl_dot]
      rw [if_neg (by simp), if_neg (by simp)]
      refine ⟨rfl, .inl rfl, ?_⟩
      have hc : v.count 10 = 0 := List.count_eq_zero.2 h3
      rw [h2, List.count_append, hc]
      simp
    · have e : nl (w ++ t) = (u, r ++ t) := by rw [h2, List.append_assoc, List.cons_append, nl_yes h3]
      have hr : r ≠ [] := by obtain ⟨v, rfl⟩ := h4; simp
      have hrt : r ++ t ≠ [] := by simp [hr]
      have hcw : w.count 10 = r.count 10 + 1 := by
        have hc : u.count 10 = 0 := List.count_eq_zero.2 h3
        rw [h2, List.count_append, hc]
        simp
      rw [lg_eq text (w ++ t), lg_eq text w, e, h1]
      by_cases hs : Lib.hasSuffix (onl text u) [92] = true
      · rw [if_pos ⟨hs, hrt⟩, if_pos ⟨hs, hr⟩]
        have hlr : r.length ≤ n := by rw [h2] at h; simp at h; omega
        obtain ⟨i1, i2, i3⟩ := ih (text ++ Lib.trimSuffix (onl text u) [92] ++ [32]) r t (at_ + 1) hlr h4
        exact ⟨i1, i2, by rw [hcw]; simp only; omega⟩
      · rw [if_neg (fun g => hs g.1), if_neg (fun g => hs g.1)]
        exact ⟨rfl, .inr h4, by rw [hcw]; show at_ + r.count 10 + 1 = _; omega⟩
theorem jg_behind (t : Bl) : ∀ n w at_, w.length ≤ n → (w = [] ∨ Dotted w) → jg (w ++ t) at_ = jg w at_ ++ jg t (at_ + w.count 10) := by
  intro n
  induction n with
  | zero =>
    intro w at_ h hw
    have : w = [] := List.length_eq_zero_iff.1 (by omega)
    subst this
    rw [jg_nil]; rfl
  | succ n ih =>
    intro w at_ h hw
    rcases hw with rfl | hw
    · rw [jg_nil]; rfl
    · have hne : w ≠ [] := by obtain ⟨v, rfl⟩ := hw; simp
      have hnt : w ++ t ≠ [] := by simp [hne]
      obtain ⟨i1, i2, i3⟩ := lg_behind _ [] w t (at_ + 1) (Nat.le_refl _) hw
      have hl := lg_len _ [] w (at_ + 1) (Nat.le_refl _) hne
      rw [jg_eq hnt, jg_eq hne, i1]
      simp only
      rw [ih _ _ (by omega) i2, List.append_assoc, show (lg [] w (at_ + 1)).2.2 + (lg [] w (at_ + 1)).2.1.count 10 = at_ + w.count 10 by omega]
theorem join_behind (w t : Bl) (h : Dotted w) : joinL (w ++ t) = joinL w ++ moved (w.count 10) (joinL t) := by
  unfold joinL
  rw [jg_behind t _ _ _ (Nat.le_refl _) (.inr h), jg_moved _ _ _ _ (Nat.le_refl _)]
end Go.Proofs.YtoiolepengcagaaGreatDoor
namespace Go.Proofs.YtoiolepengcagaaGreatDoor
theorem mem_hcut {c : UInt8} : ∀ (l : Bl) (p : UInt8), c ∈ hcut p l → c ∈ l := by
  intro l
  induction l with
  | nil => intro p h; exact h
  | cons d l ih =>
    intro p h
    rw [hcut] at h
    split at h
    · cases h
    · rcases List.mem_cons.1 h with rfl | h
      · exact List.mem_cons_self
      · exact List.mem_cons_of_mem _ (ih _ h)
theorem mem_une {c : UInt8} : ∀ (n : Nat) (l : Bl), l.length ≤ n → c ∈ une l → c ∈ l := by
  intro n
  induction n with
  | zero =>
    intro l hn h
    have : l = [] := List.length_eq_zero_iff.1 (by omega)
    subst this
    rw [une_nil] at h
    exact h
  | succ n ih =>
    intro l hn h
    match l, hn, h with
    | [], _, h => rw [une_nil] at h; exact h
    | [d], _, h =>
      rw [une_cons (.inr (fun m e => by cases e)), une_nil] at h
      exact h
    | d :: e :: m, hn, h =>
      by_cases hde : d = 92 ∧ e = 35
      · obtain ⟨rfl, rfl⟩ := hde
        rw [une_hash] at h
        simp only [List.length_cons] at hn
        rcases List.mem_cons.1 h with rfl | h
        · simp
        · exact List.mem_cons_of_mem _ (List.mem_cons_of_mem _ (ih m (by omega) h))
      · rw [une_cons (by
          by_cases h1 : d = 92
          · refine .inr (fun m' e' => ?_)
            injection e' with e1 _
            exact hde ⟨h1, e1⟩
          · exact .inl h1)] at h
        simp only [List.length_cons] at hn
        rcases List.mem_cons.1 h with rfl | h
        · exact List.mem_cons_self
        · exact List.mem_cons_of_mem _ (ih _ (by simp only [List.length_cons]; omega) h)
theorem mem_trimR {c : UInt8} {l cs : Bl} (h : c ∈ Lib.trimRightS l cs) : c ∈ l := by
  unfold Lib.trimRightS at h
  rw [List.mem_reverse] at h
  have := (List.dropWhile_sublist (fun x => cs.contains x)).mem h
  exact List.mem_reverse.1 this
theorem mem_trimL {c : UInt8} {l cs : Bl} (h : c ∈ Lib.trimLeftS l cs) : c ∈ l := (List.dropWhile_sublist (fun x => cs.contains x)).mem h
theorem mem_trimSuf {c : UInt8} {l p : Bl} (h : c ∈ Lib.trimSuffix l p) : c ∈ l := by
  unfold Lib.trimSuffix at h
  split at h
  · exact List.mem_of_mem_take h
  · exact h
theorem mem_cutL {c : UInt8} {l : Bl} (h : c ∈ cutL l) : c ∈ l := mem_hcut _ _ (mem_une _ _ (Nat.le_refl _) (mem_trimR h))
theorem nl_no10 (s : Bl) : (10 : UInt8) ∉ (nl s).1 := by
  rcases nl_split s with ⟨h1, h2⟩ | ⟨u, v, h1, h2, h3⟩
  · rw [h2]; exact h1
  · rw [h3]; exact h2
theorem onl_no10 (text s : Bl) : (10 : UInt8) ∉ Lib.trimSuffix (onl text (nl s).1) [92] := by
  intro h
  have := mem_trimSuf h
  unfold onl at this
  split at this
  · exact nl_no10 s this
  · exact nl_no10 s (mem_trimL this)
theorem nl_count (s : Bl) : (nl s).2.count 10 ≤ s.count 10 ∧ ((nl s).2 ≠ [] → (nl s).2.count 10 + 1 = s.count 10) := by
  rcases nl_split s with ⟨h1, h2⟩ | ⟨u, v, h1, h2, h3⟩
  · rw [h2]; exact ⟨by simp, fun h => absurd rfl h⟩
  · have hc : u.count 10 = 0 := List.count_eq_zero.2 h2
    rw [h3, h1, List.count_append, hc]
    simp
theorem lg_facts : ∀ n text s at_, s.length ≤ n → (10 : UInt8) ∉ text → (10 : UInt8) ∉ (lg text s at_).1 ∧ at_ ≤ (lg text s at_).2.2 ∧ (lg text s at_).2.2 + (lg text s at_).2.1.count 10 ≤ at_ + s.count 10 ∧
    ((lg text s at_).2.1 ≠ [] → (lg text s at_).2.2 + (lg text s at_).2.1.count 10 + 1 ≤ at_ + s.count 10) := by
  intro n
  induction n with
  | zero =>
    intro text s at_ h ht
    have : s = [] := List.length_eq_zero_iff.1 (by omega)
    subst this
    exact ⟨ht, Nat.le_refl _, by show at_ + 0 ≤ _; simp, fun h => absurd rfl h⟩
  | succ n ih =>
    intro text s at_ h ht
    obtain ⟨c1, c2⟩ := nl_count s
    rw [lg_eq]
    split
    · rename_i hc
      have hs : s ≠ [] := fun e => by subst e; exact hc.2 rfl
      have hl := (nl_len s).2 hs
      have hc2 := c2 hc.2
      obtain ⟨i1, i2, i3, i4⟩ := ih (text ++ Lib.trimSuffix (onl text (nl s).1) [92] ++ [32]) (nl s).2 (at_ + 1) (by omega) (by
        intro g
        rcases List.mem_append.1 g with g | g
        · rcases List.mem_append.1 g with g | g
          · exact ht g
          · exact onl_no10 _ _ g
        · simp at g)
      exact ⟨i1, by omega, by omega, fun g => by have := i4 g; omega⟩
    · refine ⟨fun g => ?_, Nat.le_refl _, by simp only; omega, fun g => by simp only at g ⊢; have := c2 g; omega⟩
      rcases List.mem_append.1 g with g | g
      · exact ht g
      · exact onl_no10 _ _ g
theorem jg_facts : ∀ n s at_, s.length ≤ n → (∀ x ∈ jg s at_, at_ < x.1 ∧ x.1 ≤ at_ + s.count 10 + 1 ∧ x.2 ≠ [] ∧ (10 : UInt8) ∉ x.2) ∧ (jg s at_).Pairwise (fun x y => x.1 < y.1) := by
  intro n
  induction n with
  | zero =>
    intro s at_ h
    have : s = [] := List.length_eq_zero_iff.1 (by omega)
    subst this
    rw [jg_nil]
    exact ⟨fun x hx => (by cases hx), List.Pairwise.nil⟩
  | succ n ih =>
    intro s at_ h
    by_cases hs : s = []
    · subst hs
      rw [jg_nil]
      exact ⟨fun x hx => (by cases hx), List.Pairwise.nil⟩
    · have hl := lg_len _ [] s (at_ + 1) (Nat.le_refl _) hs
      obtain ⟨f1, f2, f3, f4⟩ := lg_facts _ [] s (at_ + 1) (Nat.le_refl _) (by simp)
      obtain ⟨i1, i2⟩ := ih (lg [] s (at_ + 1)).2.1 (lg [] s (at_ + 1)).2.2 (by omega)
      rw [jg_eq hs]
      have hrest : ∀ x ∈ jg (lg [] s (at_ + 1)).2.1 (lg [] s (at_ + 1)).2.2, at_ + 1 < x.1 ∧ x.1 ≤ at_ + s.count 10 + 1 ∧ x.2 ≠ [] ∧ (10 : UInt8) ∉ x.2 := by
        intro x hx
        obtain ⟨j1, j2, j3, j4⟩ := i1 x hx
        have hr : (lg [] s (at_ + 1)).2.1 ≠ [] := fun e => by rw [e, jg_nil] at hx; cases hx
        have := f4 hr
        exact ⟨by omega, by omega, j3, j4⟩
      split
      · refine ⟨fun x hx => ?_, i2⟩
        obtain ⟨k1, k2, k3, k4⟩ := hrest x hx
        exact ⟨by omega, k2, k3, k4⟩
      · rename_i hc
        refine ⟨fun x hx => ?_, ?_⟩
        · rcases List.mem_append.1 hx with hx | hx
          · have : x = (at_ + 1, cutL (lg [] s (at_ + 1)).1) := by simpa using hx
            subst this
            exact ⟨by simp, by simp only; omega, hc, fun g => f1 (mem_cutL g)⟩
          · obtain ⟨k1, k2, k3, k4⟩ := hrest x hx
            exact ⟨by omega, k2, k3, k4⟩
        · rw [List.singleton_append, List.pairwise_cons]
          exact ⟨fun x hx => by have := (hrest x hx).1; exact this, i2⟩
/-! ### printed -/
theorem shw_flat (l : Bl) : shw l = l.flatMap fun c => if c = 35 then [92, 35] else [c] := by
  induction l with
  | nil => rw [shw_nil]; rfl
  | cons c l ih =>
    rw [shw_cons, List.flatMap_cons, ← ih]
    split <;> rfl
theorem shw_app (a b : Bl) : shw (a ++ b) = shw a ++ shw b := by rw [shw_flat, shw_flat, shw_flat, List.flatMap_append]
theorem mem_shw {c : UInt8} {l : Bl} (h : c ∈ shw l) : c ∈ l ∨ c = 92 := by
  rw [shw_flat, List.mem_flatMap] at h
  obtain ⟨d, hd, hc⟩ := h
  split at hc
  · rename_i e
    subst e
    simp at hc
    rcases hc with rfl | rfl
    · exact .inr rfl
    · exact .inl hd
  · have : c = d := by simpa using hc
    subst this
    exact .inl hd
/-- a text of a line that is joined as it was printed -/
def PlainL (x : Bl) : Prop := ∃ k, joinL (shw x) = [(k, x)]
theorem trimR_len (l cs : Bl) : (Lib.trimRightS l cs).length ≤ l.length := by
  unfold Lib.trimRightS
  rw [List.length_reverse]
  have := (List.dropWhile_sublist (l := l.reverse) (fun x => cs.contains x)).length_le
  rwa [List.length_reverse] at this
theorem plain_facts {x : Bl} (h : PlainL x) : x ≠ [] ∧ (10 : UInt8) ∉ x ∧ Lib.hasSuffix (shw x) [92] = false ∧ cutL (shw x) = x := by
  obtain ⟨k, hk⟩ := h
  obtain ⟨_, _, hne, h10⟩ := (jg_facts _ (shw x) 0 (Nat.le_refl _)).1 (k, x) (by show _ ∈ joinL _; rw [hk]; simp)
  simp only at hne h10
  have hs10 : (10 : UInt8) ∉ shw x := by
    intro g
    rcases mem_shw g with g | g
    · exact h10 g
    · exact absurd g (by decide)
  have hsn : shw x ≠ [] := by
    intro g
    cases x with
    | nil => exact hne rfl
    | cons c l => rw [shw_cons] at g; split at g <;> cases g
  have hlg : lg [] (shw x) 1 = (Lib.trimSuffix (shw x) [92], [], 1) := by
    rw [lg_eq, nl_no hs10, if_neg (fun g => g.2 rfl)]
    rfl
  have hx : cutL (Lib.trimSuffix (shw x) [92]) = x := by
    unfold joinL at hk
    rw [jg_eq hsn, hlg] at hk
    simp only [jg_nil, List.append_nil] at hk
    split at hk
    · cases hk
    · injection hk with hk _
      injection hk with _ hk
  have hsuf : Lib.hasSuffix (shw x) [92] = false := by
    rw [← Bool.not_eq_true]
    intro g
    have g2 := g
    unfold Lib.hasSuffix at g
    rw [List.isSuffixOf_iff_suffix] at g
    rcases List.eq_nil_or_concat x with e | ⟨x', c, e⟩
    · exact hne e
    · rw [List.concat_eq_append] at e
      have hsx : shw x = shw x' ++ (if c = 35 then [92, 35] else [c]) := by
        rw [e, shw_app]
        congr 1
        rw [shw_flat]
        simp
      by_cases hc : c = 35
      · rw [if_pos hc] at hsx
        rw [hsx] at g
        have := List.IsSuffix.getLast g (by simp)
        simp at this
      · rw [if_neg hc] at hsx
        rw [hsx] at g
        have h92 := List.IsSuffix.getLast g (by simp)
        simp at h92
        have ht : Lib.trimSuffix (shw x) [92] = shw x' := by
          unfold Lib.trimSuffix
          rw [if_pos g2, hsx]
          simp
        rw [ht, cutL_shw] at hx
        have := trimR_len x' [32, 9]
        rw [hx, e] at this
        simp at this
        omega
  refine ⟨hne, h10, hsuf, ?_⟩
  have ht : Lib.trimSuffix (shw x) [92] = shw x := by
    unfold Lib.trimSuffix
    rw [hsuf]
    rfl
  rw [ht] at hx
  exact hx
theorem jg_empty (s : Bl) (at_ : Nat) : jg (10 :: s) at_ = jg s (at_ + 1) := by
  have h : lg [] (10 :: s) (at_ + 1) = ([], s, at_ + 1) := by
    rw [lg_eq]
    rfl
  rw [jg_eq (by simp), h]
  rfl
theorem jg_empties (s : Bl) : ∀ k at_, jg (List.replicate k 10 ++ s) at_ = jg s (at_ + k) := by
  intro k
  induction k with
  | zero => intro at_; rfl
  | succ k ih =>
    intro at_
    rw [List.replicate_succ, List.cons_append, jg_empty, ih]
    congr 1
    omega
theorem jg_plain {x : Bl} (h : PlainL x) (s : Bl) (at_ : Nat) : jg (shw x ++ 10 :: s) at_ = (at_ + 1, x) :: jg s (at_ + 1) := by
  obtain ⟨h1, h2, h3, h4⟩ := plain_facts h
  have hs10 : (10 : UInt8) ∉ shw x := by
    intro g
    rcases mem_shw g with g | g
    · exact h2 g
    · exact absurd g (by decide)
  have ht : Lib.trimSuffix (shw x) [92] = shw x := by
    unfold Lib.trimSuffix
    rw [h3]
    rfl
  have hlg : lg [] (shw x ++ 10 :: s) (at_ + 1) = (shw x, s, at_ + 1) := by
    rw [lg_eq, nl_yes hs10]
    have ho : onl [] (shw x) = shw x := rfl
    simp only [ho, h3]
    rw [if_neg (by simp), ht]
    rfl
  rw [jg_eq (by simp), hlg]
  simp only
  rw [h4, if_neg h1]
  rfl
/-- the printed lines -/
def prn : List (Nat × Bl) → Nat → Bl
  | [], _ => []
  | (a, x) :: l, at_ => List.replicate (a - at_ - 1) 10 ++ (shw x ++ 10 :: prn l a)
/-- lines that can be printed -/
def PrOk : List (Nat × Bl) → Nat → Prop
  | [], _ => True
  | (a, x) :: l, at_ => at_ < a ∧ PlainL x ∧ PrOk l a
theorem join_prn : ∀ l at_, PrOk l at_ → jg (prn l at_) at_ = l := by
  intro l
  induction l with
  | nil => intro at_ _; exact jg_nil at_
  | cons y l ih =>
    obtain ⟨a, x⟩ := y
    intro at_ h
    obtain ⟨h1, h2, h3⟩ := h
    show jg (List.replicate (a - at_ - 1) 10 ++ (shw x ++ 10 :: prn l a)) at_ = _
    rw [jg_empties, jg_plain h2, show at_ + (a - at_ - 1) + 1 = a by omega, ih a h3]
end Go.Proofs.YtoiolepengcagaaGreatDoor
namespace Go.Proofs.YtoiolepengcagaaGreatDoor
open Go.RowKit Go.Shelf
/-- MaxLen's cell holds a number -/
def ML (w : World) : Prop := ∃ m : Int, w.cell? ⟨0, 0, none⟩ = some (.int .i64 m)
theorem ML.lt {w : World} (h : ML w) : 0 < w.heap.size := by
  obtain ⟨m, h⟩ := h
  exact World.block_lt_of_cell? w _ h
theorem ML.below {w w' : World} (h : ML w) (hb : Below w.heap.size w w') : ML w' := by
  have hl := h.lt
  obtain ⟨m, h⟩ := h
  exact ⟨m, (hb.cell hl).trans h⟩
theorem ML.of {w : World} (h : w.ShapedOpen Tryz.prog) : ML w := Tryz.laysM219.s1_3 w h
def badC (c : UInt8) : Bool := decide (126 < c.toNat) || (decide (c.toNat < 32) && (c.toNat != 9) && (c.toNat != 10))
def badB (l : Bl) : Bool := l.any badC
theorem byte_at {s : ByteArray} {k : Nat} (h : k < s.size) : s.data.toList.take (k + 1) = s.data.toList.take k ++ [s[k]] := by
  rw [List.take_add_one, ba_at h]; rfl
set_option maxHeartbeats 2000000 in
theorem bad_ok (s : ByteArray) (hs : s.size ≤ 4611686018427387904) (w : World) : Calls Tryz.prog 100 #[.string s] w fun e w' => e = .returned (.bool (badB s.data.toList)) ∧ w' = w := by
  go_enter Tryz.func100, Tryz.ntmps100
  go_wp2
  go_loop [7] (fun i => ∃ k : Nat, k ≤ s.size ∧ i = .int .i64 k ∧ Hid ((s.data.toList.take k).any badC = false)) (fun i => s.size - (intOf i).toNat)
  case atStart => exact ⟨0, Nat.zero_le _, rfl, rfl⟩
  case round =>
    obtain ⟨k, hk, rfl, HK⟩ := hrel
    by_cases hlt : k < s.size
    · obtain ⟨c, hc⟩ : ∃ c, s[k] = c := ⟨_, rfl⟩
      have hct := c.toNat_lt
      have hnx : (s.data.toList.take (k + 1)).any badC = badC c := by
        rw [byte_at hlt, List.any_append, HK.out, hc]
        simp
      have HNX := Lib.hid hnx
      have hbm : badC c = true → badB s.data.toList = true := by
        intro h
        unfold badB
        rw [List.any_eq_true]
        refine ⟨c, ?_, h⟩
        have := ba_at hlt
        rw [hc] at this
        exact List.mem_of_getElem? this
      have HBM := Lib.hid hbm
      clear hnx hbm
      by_cases h1 : 126 < c.toNat
      · have HV : Hid (badB s.data.toList = true) := HBM.out (by unfold badC; rw [decide_eq_true h1]; rfl)
        have e1 : decide ((126 : Int) < (c.toNat : Int)) = true := decide_eq_true (by omega)
        go_wp2
        go_ret
        exact ⟨by rw [HV.out]; rfl, rfl⟩
      · have e1 : decide ((126 : Int) < (c.toNat : Int)) = false := decide_eq_false (by omega)
        by_cases h2 : c.toNat < 32
        · have e2 : decide ((c.toNat : Int) < 32) = true := decide_eq_true (by omega)
          by_cases h3 : c.toNat = 9
          · have HV : Hid ((s.data.toList.take (k + 1)).any badC = false) := by show _ = _; rw [HNX.out]; unfold badC; rw [h3]; decide
            have e3 : ((c.toNat : Int) != 9) = false := by rw [h3]; rfl
            go_wp2
            go_round
            case rel => exact ⟨k + 1, by omega, by go_num, HV.out⟩
            case measure => simp [intOf]; omega
          · have e3 : ((c.toNat : Int) != 9) = true := by rw [bne_iff_ne]; omega
            by_cases h4 : c.toNat = 10
            · have HV : Hid ((s.data.toList.take (k + 1)).any badC = false) := by show _ = _; rw [HNX.out]; unfold badC; rw [h4]; decide
              have e4 : ((c.toNat : Int) != 10) = false := by rw [h4]; rfl
              go_wp2
              go_round
              case rel => exact ⟨k + 1, by omega, by go_num, HV.out⟩
              case measure => simp [intOf]; omega
            · have e4 : ((c.toNat : Int) != 10) = true := by rw [bne_iff_ne]; omega
              have HV : Hid (badB s.data.toList = true) := HBM.out (by
                unfold badC
                have g3 : (c.toNat != 9) = true := by rw [bne_iff_ne]; exact h3
                have g4 : (c.toNat != 10) = true := by rw [bne_iff_ne]; exact h4
                rw [decide_eq_true h2, g3, g4]; simp)
              go_wp2
              go_ret
              exact ⟨by rw [HV.out]; rfl, rfl⟩
        · have HV : Hid ((s.data.toList.take (k + 1)).any badC = false) := by show _ = _; rw [HNX.out]; unfold badC; rw [decide_eq_false h1, decide_eq_false h2]; rfl
          have e2 : decide ((c.toNat : Int) < 32) = false := decide_eq_false (by omega)
          go_wp2
          go_round
          case rel => exact ⟨k + 1, by omega, by go_num, HV.out⟩
          case measure => simp [intOf]; omega
    · obtain rfl : k = s.size := by omega
      have HV : Hid (badB s.data.toList = false) := by
        show _ = _
        have := HK.out
        rwa [List.take_of_length_le (by rw [← Lib.size_eq]; exact Nat.le_refl _)] at this
      go_wp2
      go_ret
      exact ⟨by rw [HV.out]; rfl, rfl⟩
theorem cntL_le (s sub : ByteArray) : Lib.countB s sub ≤ s.size + 1 := by
  have := Lib.count_le s.data.toList sub.data.toList
  rw [← Lib.size_eq] at this
  exact this
/-- the byte ahead of a place -/
def prv (l : Bl) : Nat → UInt8
  | 0 => 0
  | k + 1 => l.getD k 0
theorem hcut_at {l : Bl} {k : Nat} {c : UInt8} (hc : l[k]? = some c) : hcut (prv l k) (l.drop k) = if c = 35 ∧ prv l k ≠ 92 then [] else c :: hcut (prv l (k + 1)) (l.drop (k + 1)) := by
  have hk := (List.getElem?_eq_some_iff.1 hc).1
  have e : l[k] = c := (List.getElem?_eq_some_iff.1 hc).2
  rw [List.drop_eq_getElem_cons hk, e, hcut]
  have e2 : prv l (k + 1) = c := by show l.getD k 0 = c; rw [List.getD_eq_getElem?_getD, hc]; rfl
  rw [e2]
theorem une_len : ∀ n (x : Bl), x.length ≤ n → (une x).length ≤ x.length := by
  intro n
  induction n with
  | zero =>
    intro x h
    have : x = [] := List.length_eq_zero_iff.1 (by omega)
    subst this
    rw [une_nil]; exact Nat.le_refl _
  | succ n ih =>
    intro x h
    match x, h with
    | [], _ => rw [une_nil]; exact Nat.le_refl _
    | [d], _ => rw [une_cons (.inr (fun m e => by cases e)), une_nil]; exact Nat.le_refl _
    | d :: e :: m, h =>
      simp only [List.length_cons] at h
      by_cases hde : d = 92 ∧ e = 35
      · obtain ⟨rfl, rfl⟩ := hde
        rw [une_hash]
        have := ih m (by omega)
        simp only [List.length_cons]; omega
      · rw [une_cons (by
          by_cases h1 : d = 92
          · refine .inr (fun m' e' => ?_)
            injection e' with e1 _
            exact hde ⟨h1, e1⟩
          · exact .inl h1)]
        have := ih (e :: m) (by simp only [List.length_cons]; omega)
        simp only [List.length_cons] at this ⊢; omega
set_option maxHeartbeats 4000000 in
theorem cut_ok (s : ByteArray) (hs : s.size ≤ 1048576) (w : World) (hM : ML w) : Calls Tryz.prog 134 #[.string s] w fun e w' => e = .returned (.string (txt (cutL s.data.toList))) ∧ Below w.heap.size w w' := by
  obtain ⟨l, hl⟩ : ∃ l, l = s.data.toList := ⟨_, rfl⟩
  rw [← hl]
  have HL := Lib.hid hl
  clear hl
  have hfin : ∀ s' : ByteArray, s'.size ≤ 1048576 → Calls Tryz.prog 156 #[.string s', .string ⟨#[92, 35]⟩, .string ⟨#[35]⟩] w fun e w' => (∃ x : ByteArray, e = .returned (.string x) ∧ x.data.toList = une s'.data.toList ∧ x.size ≤ 9223372036854775807) ∧ Below w.heap.size w w' := by
    intro s' hs'
    obtain ⟨m, hm⟩ := hM
    have hcl := cntL_le s' ⟨#[92, 35]⟩
    refine (Tryz.strings_ReplaceAll s' ⟨#[92, 35]⟩ ⟨#[35]⟩ m w (by omega) hm (by decide) (by show s'.size + _ * 1 ≤ _; omega)).mono ?_
    rintro e w1 ⟨rfl, hb⟩
    refine ⟨⟨_, rfl, ?_, ?_⟩, hb⟩
    · show (txt _).data.toList = _
      rw [txt_list]
      rfl
    · show (txt _).size ≤ _
      rw [txt_size]
      have := une_len _ s'.data.toList (Nat.le_refl _)
      rw [← Lib.size_eq] at this
      show (une s'.data.toList).length ≤ _
      omega
  have htr : ∀ (x : ByteArray) (u : World), x.size ≤ 9223372036854775807 → Calls Tryz.prog 155 #[.string x, .string ⟨#[32, 9]⟩] u fun e w' => e = .returned (.string (txt (Lib.trimRightS x.data.toList [32, 9]))) ∧ Below u.heap.size u w' :=
    fun x u hx => Any.strings_TrimRight_laid Tryz.lays162 (by kernel_rfl) x ⟨#[32, 9]⟩ u hx (by decide) (ascii_of_all (by decide))
  have HF := Lib.hid hfin
  have HT := Lib.hid htr
  clear hfin htr hM
  go_enter Tryz.func134, Tryz.ntmps134
  go_wp2
  go_loop [0, 6] (fun t0 i => t0 = .string s ∧ ∃ k : Nat, k ≤ s.size ∧ i = .int .i64 k ∧ Hid (hcut 0 l = l.take k ++ hcut (prv l k) (l.drop k))) (fun _ i => s.size - (intOf i).toNat)
  case atStart => exact ⟨rfl, 0, Nat.zero_le _, rfl, rfl⟩
  case round =>
    obtain ⟨rfl, k, hk, rfl, HK⟩ := hrel
    by_cases hlt : k < s.size
    · obtain ⟨c, hc⟩ : ∃ c, s[k] = c := ⟨_, rfl⟩
      have hck : l[k]? = some c := by rw [HL.out, ba_at hlt, hc]
      have HA := Lib.hid (hcut_at hck)
      have HTK : Hid (l.take (k + 1) = l.take k ++ [c]) := by show _ = _; rw [List.take_add_one, hck]; rfl
      have hskip : ¬ (c = 35 ∧ prv l k ≠ 92) → hcut 0 l = l.take (k + 1) ++ hcut (prv l (k + 1)) (l.drop (k + 1)) := by
        intro h
        rw [HK.out, HA.out, if_neg h, HTK.out, List.append_assoc]
        rfl
      have HSK := Lib.hid hskip
      have hstop : c = 35 ∧ prv l k ≠ 92 → cutL l = Lib.trimRightS (une (s.extract 0 k).data.toList) [32, 9] := by
        intro h
        unfold cutL
        rw [HK.out, HA.out, if_pos h, List.append_nil, Lib.extract_from_zero, HL.out]
      have HST := Lib.hid hstop
      clear hskip hstop hck
      by_cases h35 : c = 35
      · have e1 : ((c.toNat : Int) == 35) = true := by rw [h35]; rfl
        cases k with
        | zero =>
          have hv := HST.out ⟨h35, by show (0 : UInt8) ≠ 92; decide⟩
          have h00 : (s.extract 0 0).data.toList = ByteArray.empty.data.toList := by rw [Lib.extract_from_zero]; rfl
          rw [h00] at hv
          have HV := Lib.hid hv
          clear hv h00
          clear HK HA HTK HSK HST
          go_wp2_with (first
            | (go_at_call 156; refine (HF.out _ (by decide)).mono ?_; rintro e w1 ⟨⟨x, rfl, hx, hxs⟩, hb⟩; have HB := Lib.hid hb; have HX := Lib.hid hx; clear hb hx)
            | (go_at_call 155; refine (HT.out _ _ hxs).mono ?_; rintro e w2 ⟨rfl, hb⟩; have HB2 := Lib.hid (HB.out.trans (hb.mono HB.out.size)); clear hb))
          go_ret
          exact ⟨by rw [HV.out, ← HX.out]; rfl, HB2.out⟩
        | succ j =>
          obtain ⟨d, hd⟩ : ∃ d, s[j]'(by omega) = d := ⟨_, rfl⟩
          have hpv : prv l (j + 1) = d := by
            show l.getD j 0 = d
            rw [HL.out, List.getD_eq_getElem?_getD, ba_at (by omega), hd]; rfl
          have e0 : (((j : Int) + 1) == 0) = false := by rw [beq_eq_false_iff_ne]; omega
          have e5 : IntKind.i64.wrap ((j : Int) + 1 - 1) = (j : Int) := by rw [IntKind.wrap_i64]; omega
          by_cases h92 : d = 92
          · have e2 : ((d.toNat : Int) != 92) = false := by rw [h92]; rfl
            have HV := Lib.hid (HSK.out (by rw [hpv]; exact fun h => h.2 h92))
            clear HK HA HTK HSK HST
            go_wp2
            go_round
            case rel => exact ⟨rfl, j + 1 + 1, by omega, by go_num, HV.out⟩
            case measure => simp [intOf]; omega
          · have e2 : ((d.toNat : Int) != 92) = true := by
              rw [bne_iff_ne]
              intro e
              exact h92 (UInt8.toNat_inj.1 (by show d.toNat = 92; omega))
            have HV := Lib.hid (HST.out ⟨h35, by rw [hpv]; exact h92⟩)
            clear HK HA HTK HSK HST
            go_wp2_with (first
              | (go_at_call 156; refine (HF.out _ (by rw [ByteArray.size_extract]; omega)).mono ?_; rintro e w1 ⟨⟨x, rfl, hx, hxs⟩, hb⟩; have HB := Lib.hid hb; have HX := Lib.hid hx; clear hb hx)
              | (go_at_call 155; refine (HT.out _ _ hxs).mono ?_; rintro e w2 ⟨rfl, hb⟩; have HB2 := Lib.hid (HB.out.trans (hb.mono HB.out.size)); clear hb))
            go_ret
            exact ⟨by rw [HV.out, ← HX.out]; rfl, HB2.out⟩
      · have e1 : ((c.toNat : Int) == 35) = false := by
          rw [beq_eq_false_iff_ne]
          intro e
          exact h35 (UInt8.toNat_inj.1 (by show c.toNat = 35; omega))
        have HV := Lib.hid (HSK.out (fun h => h35 h.1))
        clear HK HA HTK HSK HST
        go_wp2
        go_round
        case rel => exact ⟨rfl, k + 1, by omega, by go_num, HV.out⟩
        case measure => simp [intOf]; omega
    · obtain rfl : k = s.size := by omega
      have HV : Hid (cutL l = Lib.trimRightS (une s.data.toList) [32, 9]) := by
        show _ = _
        have hln : l.length = s.size := by rw [HL.out, ← Lib.size_eq]
        unfold cutL
        rw [HK.out, List.take_of_length_le (by omega), List.drop_eq_nil_of_le (by omega), HL.out]
        show Lib.trimRightS (une (s.data.toList ++ [])) _ = _
        rw [List.append_nil]
      clear HK
      go_wp2_with (first
        | (go_at_call 156; refine (HF.out _ hs).mono ?_; rintro e w1 ⟨⟨x, rfl, hx, hxs⟩, hb⟩; have HB := Lib.hid hb; have HX := Lib.hid hx; clear hb hx)
        | (go_at_call 155; refine (HT.out _ _ hxs).mono ?_; rintro e w2 ⟨rfl, hb⟩; have HB2 := Lib.hid (HB.out.trans (hb.mono HB.out.size)); clear hb))
      go_ret
      exact ⟨by rw [HV.out, ← HX.out]; rfl, HB2.out⟩
end Go.Proofs.YtoiolepengcagaaGreatDoor
namespace Go.Proofs.YtoiolepengcagaaGreatDoor
open Go.RowKit Go.Shelf
abbrev Ln := Nat × Bl
def lF (x : Ln) : Value := .int .i64 (x.1 : Int)
def lG (x : Ln) : Value := .string (txt x.2)
theorem info_line : (Tryz.prog.info? 125).map (fun i => (i.zero, i.size, i.bytes)) = some (some (.agg #[.int .i64 0, .string ⟨#[]⟩]), 2, 24) := by kernel_rfl
theorem app_line (w : World) {ops : Array Oper} {rest : List Oper} {o : Oper} {a : Act} {Q : Exit → Act → World → Prop} (hgd : o.guard = none) (s x : Operand)
    (ho : o.op = .call { callee := .builtin .append, args := #[s, x], argTypes := #[121, 121] })
    (base : Nat) (v : Value) (n : Nat) (xs : List Ln) (hs : a.eval s = v) (hown : w.ownsRow base 125 2 v n (cells2 lF lG xs))
    (g : Nat) (y : Ln) (hx : a.eval x = .slice (some ⟨g, 0, none⟩) 1 1) (hc0 : w.cell? ⟨g, 0, none⟩ = some (.int .i64 (y.1 : Int))) (hc1 : w.cell? ⟨g, 1, none⟩ = some (.string (txt y.2)))
    (hn : n ≤ 1000000) (hbase : base ≤ w.heap.size)
    (h : ∀ v' w', w'.ownsRow base 125 2 v' (n + 1) (cells2 lF lG (xs ++ [y])) → w.grownBy w' v.ownBlock → wpList Tryz.prog ops Q rest (a.put o.dst v') w') : wpList Tryz.prog ops Q (o :: rest) a w := by
  obtain ⟨i0, hi, hz0, hz1, hz2⟩ := info_parts info_line
  refine wpList_append_own w hgd s x 121 ho base 125 i0 _ 2 24 Tryz.underlying121 hi hz0 hz1 hz2 rfl (by decide) v n _ hs hown ⟨g, 0, none⟩ 1 1 [lF y, lG y] hx rfl ?_ ?_ (by unfold maxLen; omega) (by omega) hbase (fun v' w' h1 h2 _ => h v' w' ?_ h2)
  · intro j q hj
    match j, hj with
    | 0, hj => simp at hj; subst hj; simpa [Addr.add, lF] using hc0
    | 1, hj => simp at hj; subst hj; simpa [Addr.add, lG] using hc1
  · intro q hq; simp at hq; rcases hq with rfl | rfl <;> rfl
  · rw [cells2_append]; exact h1
theorem cutnl_ok (l : Bl) (hl : l.length ≤ 1048576) (w : World) (hM : ML w) : Calls Tryz.prog 131 #[.string (txt l), .string ⟨#[10]⟩] w fun e w' => (∃ b : Bool, e = .returned (.tuple #[.string (txt (nl l).1), .string (txt (nl l).2), .bool b])) ∧ ∃ n, w' = w.drewN n := by
  obtain ⟨m, hm⟩ := hM
  refine (Tryz.strings_Cut (txt l) ⟨#[10]⟩ m w (by rw [txt_size]; omega) hm).mono ?_
  rintro e w1 ⟨he, hw⟩
  rw [txt_list, show (⟨#[10]⟩ : ByteArray).data.toList = [10] from rfl, nl_cut] at he
  exact ⟨⟨_, he⟩, hw⟩
theorem trimL_ok (l : Bl) (w : World) : Calls Tryz.prog 132 #[.string (txt l), .string ⟨#[32, 9]⟩] w fun e w' => e = .returned (.string (txt (Lib.trimLeftS l [32, 9]))) ∧ Below w.heap.size w w' := by
  have := Any.strings_TrimLeft_laid Tryz.lays161 (by kernel_rfl) (txt l) ⟨#[32, 9]⟩ w (by decide) (ascii_of_all (by decide))
  rw [txt_list] at this
  exact this
theorem cutsuf_ok (l : Bl) (w : World) (hl : l.length ≤ 1048576) : Calls Tryz.prog 133 #[.string (txt l), .string ⟨#[92]⟩] w fun e w' => e = .returned (.tuple #[.string (txt (Lib.trimSuffix l [92])), .bool (Lib.hasSuffix l [92])]) ∧ w' = w := by
  have := Tryz.strings_CutSuffix (txt l) ⟨#[92]⟩ w (by rw [txt_size]; omega)
  rw [txt_list] at this
  exact this
theorem cutl_len (l : Bl) : (cutL l).length ≤ l.length := by
  have hh : ∀ (l : Bl) p, (hcut p l).length ≤ l.length := by
    intro l
    induction l with
    | nil => intro p; exact Nat.le_refl _
    | cons c l ih =>
      intro p
      rw [hcut]
      split
      · simp
      · have := ih c; simp only [List.length_cons]; omega
  unfold cutL
  have h1 := trimR_len (une (hcut 0 l)) [32, 9]
  have h2 := une_len _ (hcut 0 l) (Nat.le_refl _)
  have h3 := hh l 0
  omega
theorem onl_len (text one : Bl) : (onl text one).length ≤ one.length := by
  unfold onl
  split
  · exact Nat.le_refl _
  · unfold Lib.trimLeftS
    exact (List.dropWhile_sublist _).length_le
theorem trimSuf_len (l p : Bl) : (Lib.trimSuffix l p).length ≤ l.length := by
  unfold Lib.trimSuffix
  split
  · rw [List.length_take]; omega
  · exact Nat.le_refl _
theorem txt_eq (l m : Bl) : ((txt l).toList == (txt m).toList) = decide (l = m) := by
  rw [Lib.toList_data, Lib.toList_data, txt_list, txt_list, Bool.eq_iff_iff, beq_iff_eq, decide_eq_true_iff]
theorem txt_app (l m : Bl) : txt l ++ txt m = txt (l ++ m) := by
  refine (list_txt (txt l ++ txt m)).symm.trans ?_
  rw [ByteArray.data_append, Array.toList_append, txt_list, txt_list]
theorem txt_none (l : Bl) : ((txt l).toList == ([] : List UInt8)) = decide (l = []) := by
  rw [Lib.toList_data, txt_list, Bool.eq_iff_iff, beq_iff_eq, decide_eq_true_iff]
theorem txt_none2 (l : Bl) : ((txt l).toList == (⟨#[]⟩ : ByteArray).toList) = decide (l = []) := by
  rw [Lib.toList_data (⟨#[]⟩ : ByteArray)]; exact txt_none l
theorem bx_set1 {w : World} {b : Nat} {t : TypeId} {v0 v1 : Value} (h : w.heap[b]? = some (.cells #[v0, v1] t (0, 0))) (u : Value) :
    (w.setCell ⟨b, 1, none⟩ u).heap[b]? = some (.cells #[v0, u] t (0, 0)) := by
  rw [Go.Sort.setCell_eq]
  simp [Go.Sort.mapBlock, Go.Sort.onCells, Array.getElem?_modify, h]
/-- the line that is being read, in its block -/
structure JI (wo : World) (a1 : Int) (text : Bl) (wr : World) : Prop where
  grow : (wo.alloc (.cells #[.int .i64 a1, .string ⟨#[]⟩] 125)).grownBy wr (some wo.heap.size)
  box : wr.heap[wo.heap.size]? = some (.cells #[.int .i64 a1, .string (txt text)] 125 (0, 0))
theorem JI.start (wo : World) (a1 : Int) : JI wo a1 [] (wo.alloc (.cells #[.int .i64 a1, .string ⟨#[]⟩] 125)) :=
  ⟨World.grownBy.refl _ _, rb_new wo _⟩
theorem JI.below {wo : World} {a1 : Int} {text : Bl} {wr w' : World} (h : JI wo a1 text wr) (hb : Below wr.heap.size wr w') : JI wo a1 text w' := by
  have hlt : wo.heap.size < wr.heap.size := (Array.getElem?_eq_some_iff.1 h.box).1
  exact ⟨h.grow.trans ⟨hb.os, hb.tape, hb.output, hb.size, fun k hk _ => hb.block k hk⟩, (hb.block _ hlt).trans h.box⟩
theorem JI.set {wo : World} {a1 : Int} {text : Bl} {wr : World} (h : JI wo a1 text wr) (text' : Bl) : JI wo a1 text' (wr.setCell ⟨wo.heap.size, 1, none⟩ (.string (txt text'))) :=
  ⟨h.grow.trans ⟨rfl, rfl, rfl, by simp, fun k _ hk => heap_setCell_other wr _ k _ (fun e => hk (by rw [e]))⟩, bx_set1 h.box _⟩
theorem JI.far {wo : World} {a1 : Int} {text : Bl} {wr w : World} (h : JI wo a1 text wr) (hb : Below w.heap.size w wo) : Below w.heap.size w wr :=
  ((hb.alloc hb.size _)).grown h.grow (by have := hb.size; simp; omega) (fun k hk => by injection hk with hk; have := hb.size; omega)
theorem JI.lt {wo : World} {a1 : Int} {text : Bl} {wr : World} (h : JI wo a1 text wr) : wo.heap.size < wr.heap.size := (Array.getElem?_eq_some_iff.1 h.box).1
theorem own_sl {w : World} {base e n size : Nat} {v : Value} {xs : List Value} (h : w.ownsRow base e size v n xs) : ∃ (p : Option Addr) (c : Nat), v = .slice p n c := by
  rcases h.2 with ⟨rfl, rfl⟩ | ⟨g, cap, cur, rfl, _⟩
  · exact ⟨none, 0, rfl⟩
  · exact ⟨_, cap, rfl⟩
theorem JI.own {wo : World} {a1 : Int} {text : Bl} {wr : World} (h : JI wo a1 text wr) {base e n size : Nat} {v : Value} {xs : List Value} (ho : wo.ownsRow base e size v n xs) : wr.ownsRow base e size v n xs := by
  refine (ho.alloc _).kept h.grow ?_
  cases hq : v.ownBlock with
  | none => exact .inl rfl
  | some k => exact .inr (fun e => by injection e with e; have := (ho.lt k hq).2; omega)
theorem cutT_ok (l : Bl) (hl : l.length ≤ 1048576) (w : World) (hM : ML w) : Calls Tryz.prog 134 #[.string (txt l)] w fun e w' => e = .returned (.string (txt (cutL l))) ∧ Below w.heap.size w w' := by
  have := cut_ok (txt l) (by rw [txt_size]; exact hl) w hM
  rw [txt_list] at this
  exact this
set_option maxHeartbeats 16000000 in
set_option maxRecDepth 100000 in
theorem join_ok (s : ByteArray) (hs : s.size ≤ 20000) (w : World) (hM : ML w) :
    Calls Tryz.prog 101 #[.string s] w fun e w' => (∃ po co, e = .returned (.slice po (joinL s.data.toList).length co) ∧ w'.ownsRow w.heap.size 125 2 (.slice po (joinL s.data.toList).length co) (joinL s.data.toList).length (cells2 lF lG (joinL s.data.toList))) ∧ Below w.heap.size w w' := by
  have HM := Lib.hid hM
  obtain ⟨l, hl⟩ : ∃ l, l = s.data.toList := ⟨_, rfl⟩
  have hsl : s = txt l := by rw [hl, list_txt]
  have hln : l.length ≤ 20000 := by rw [hl, ← Lib.size_eq]; exact hs
  rw [← hl]
  subst hsl
  clear hl hs hM
  go_enter Tryz.func101, Tryz.ntmps101
  go_wp2
  go_loopg [0, 3, 4] l.length (fun g s0 o a wr => ∃ (rest : Bl) (at_ : Nat) (done : List Ln) (po : Option Addr) (co : Nat), rest.length ≤ g ∧ at_ + rest.length ≤ l.length ∧ done.length ≤ at_ ∧ s0 = .string (txt rest) ∧ a = .int .i64 at_ ∧ o = .slice po done.length co ∧ Below w.heap.size w wr ∧ Hid (joinL l = done ++ jg rest at_) ∧ Hid (wr.ownsRow w.heap.size 125 2 (.slice po done.length co) done.length (cells2 lF lG done)))
  case atStart => exact ⟨l, 0, [], none, 0, Nat.le_refl _, by omega, Nat.le_refl _, rfl, rfl, rfl, Below.refl _ _, rfl, World.ownsRow_nil _ _ _ _⟩
  case round =>
    obtain ⟨rest, at_, done, po, co, hg, hal, hda, rfl, rfl, rfl, hbr, HK, HO⟩ := hrel
    have HBR := Lib.hid hbr
    by_cases hr : rest = []
    · have z1 : ((txt rest).toList == ([] : List UInt8)) = true := by rw [txt_none]; exact decide_eq_true hr
      have z2 : ((txt rest).toList == (⟨#[]⟩ : ByteArray).toList) = true := by rw [txt_none2]; exact decide_eq_true hr
      have HV : Hid (joinL l = done) := by show _ = _; rw [HK.out, hr, jg_nil, List.append_nil]
      clear hbr hr
      go_wp2
      go_ret
      exact ⟨⟨po, co, by rw [HV.out]; rfl, by rw [HV.out]; exact HO.out⟩, HBR.out⟩
    · have z1 : ((txt rest).toList == ([] : List UInt8)) = false := by rw [txt_none]; exact decide_eq_false hr
      have z2 : ((txt rest).toList == (⟨#[]⟩ : ByteArray).toList) = false := by rw [txt_none2]; exact decide_eq_false hr
      have HRN := Lib.hid hr
      obtain ⟨wo, hwo⟩ : ∃ wo, wo = wr := ⟨_, rfl⟩
      rw [← hwo] at HBR HO ⊢
      clear hbr hr hwo
      have HML := Lib.hid (fun u (hu : Below w.heap.size w u) => HM.out.below hu)
      go_wp2
      go_loopg [0, 4, 6] (rest.length + 1) (fun g s0 a m wr => ∃ (text r2 : Bl) (a2 : Nat) (mo : Bool), s0 = .string (txt r2) ∧ a = .int .i64 a2 ∧ m = .bool mo ∧ Hid (JI wo (at_ + 1 : Nat) text wr) ∧ text.length + r2.length ≤ rest.length ∧ r2.length + (if mo = true then 1 else 0) ≤ g ∧
        Hid (mo = true → lg [] rest (at_ + 1) = lg text r2 a2) ∧ (mo = true → r2 ≠ [] ∧ a2 + r2.length ≤ at_ + 1 + rest.length) ∧ Hid (mo = false → lg [] rest (at_ + 1) = (text, r2, a2)) ∧ (mo = false → r2.length < rest.length ∧ a2 + r2.length ≤ at_ + rest.length ∧ at_ < a2) ∧ (mo = true → at_ < a2))
      case atStart => exact ⟨[], rest, at_ + 1, true, rfl, by go_num, rfl, JI.start wo _, by simp, by simp, fun _ => rfl, fun _ => ⟨HRN.out, Nat.le_refl _⟩, (fun h => by cases h), (fun h => by cases h), fun _ => Nat.lt_succ_self _⟩
      case round =>
        obtain ⟨text, r2, a2, mo, rfl, rfl, rfl, HJ, hlen, hg2, H1, h2, H3, h4, h5⟩ := hrel
        obtain ⟨k0, k1, k2⟩ := rb_cells HJ.out.box
        cases mo with
        | false =>
          obtain ⟨b1, b2, b3⟩ := h4 rfl
          have HL := Lib.hid (H3.out rfl)
          have HCT := Lib.hid (fun u (hu : Below w.heap.size w u) => cutT_ok text (by omega) u (HML.out u hu))
          have hcl := cutl_len text
          clear H1 h2 H3 h4 h5
          have HV : Hid (jg rest at_ = (if cutL text = [] then [] else [(at_ + 1, cutL text)]) ++ jg r2 a2) := by show _ = _; rw [jg_eq HRN.out, HL.out]
          obtain ⟨c, hc⟩ : ∃ c, c = cutL text := ⟨_, rfl⟩
          rw [← hc] at HCT HV hcl
          clear hc HL
          by_cases hce : c = []
          · have c1 : ((txt c).toList == ([] : List UInt8)) = true := by rw [txt_none]; exact decide_eq_true hce
            have c2 : ((txt c).toList == (⟨#[]⟩ : ByteArray).toList) = true := by rw [txt_none2]; exact decide_eq_true hce
            have HW : Hid (joinL l = done ++ jg r2 a2) := by show _ = _; rw [HK.out, HV.out, if_pos hce]; rfl
            clear hce HV
            go_wp2_with (go_at_call 134; refine (HCT.out _ (HJ.out.far HBR.out)).mono ?_; rintro e w1 ⟨rfl, hb⟩; have HJ1 := Lib.hid (HJ.out.below hb); clear hb k0 k1 k2; obtain ⟨k0, k1, k2⟩ := rb_cells HJ1.out.box)
            go_roundg r2.length
            case measure => omega
            case rel => exact ⟨r2, a2, done, po, co, Nat.le_refl _, by omega, by omega, rfl, rfl, rfl, (HJ1.out.set c).far HBR.out, HW.out, (HJ1.out.set c).own HO.out⟩
          · have c1 : ((txt c).toList == ([] : List UInt8)) = false := by rw [txt_none]; exact decide_eq_false hce
            have c2 : ((txt c).toList == (⟨#[]⟩ : ByteArray).toList) = false := by rw [txt_none2]; exact decide_eq_false hce
            have HW : Hid (joinL l = (done ++ [(at_ + 1, c)]) ++ jg r2 a2) := by show _ = _; rw [HK.out, HV.out, if_neg hce, List.append_assoc]
            clear hce HV
            go_wp2_with (first
              | (go_at_call 134; refine (HCT.out _ (HJ.out.far HBR.out)).mono ?_; rintro e w1 ⟨rfl, hb⟩; have HJ1 := Lib.hid (HJ.out.below hb); clear hb k0 k1 k2; obtain ⟨k0, k1, k2⟩ := rb_cells HJ1.out.box; have hwb := (HJ1.out.far HBR.out).size)
              | (at_builtin; refine app_line _ rfl _ _ rfl w.heap.size _ done.length done rfl (((HJ1.out.set c).own HO.out).alloc _) w1.heap.size (at_ + 1, c) rfl (by rw [World.cell?_alloc_at _ _ _ _ (by simp)]; rfl) (by rw [World.cell?_alloc_at _ _ _ _ (by simp)]; rfl) (by omega) (by simp; omega) ?_; intro v' w2 h1 h2; have HX := Lib.hid h1; have HG := Lib.hid h2; clear h1 h2))
            obtain ⟨po2, co2, rfl⟩ := own_sl HX.out
            go_roundg r2.length
            case measure => omega
            case rel =>
              refine ⟨r2, a2, done ++ [(at_ + 1, c)], po2, co2, Nat.le_refl _, by omega, by rw [List.length_append]; simp; omega, rfl, rfl, by rw [List.length_append]; rfl, ?_, HW.out, by rw [List.length_append]; exact HX.out⟩
              refine (((HJ1.out.set c).far HBR.out).alloc (by simp; omega) _).grown HG.out (by simp; omega) (fun k hk => ?_)
              exact (HO.out.lt k hk).1
        | true =>
          obtain ⟨hne, ha2⟩ := h2 rfl
          have ha3 := h5 rfl
          have hLG := H1.out rfl
          rw [lg_eq text r2] at hLG
          have hnl := nl_len r2
          have hnl2 := hnl.2 hne
          have hsf : Lib.hasSuffix (onl text (nl r2).1) [92] = true → (Lib.trimSuffix (onl text (nl r2).1) [92]).length + 1 = (onl text (nl r2).1).length := by
            intro h
            unfold Lib.trimSuffix
            rw [if_pos h, List.length_take]
            unfold Lib.hasSuffix at h
            rw [List.isSuffixOf_iff_suffix] at h
            have := h.length_le
            simp at this ⊢
            omega
          have hol := onl_len text (nl r2).1
          have hts := trimSuf_len (onl text (nl r2).1) [92]
          have HLG := Lib.hid hLG
          clear hLG H1 H3 h2 h4 h5
          obtain ⟨one, hone⟩ : ∃ one, one = (nl r2).1 := ⟨_, rfl⟩
          obtain ⟨r3, hr3⟩ : ∃ r3, r3 = (nl r2).2 := ⟨_, rfl⟩
          have HC := Lib.hid (fun u (hu : Below w.heap.size w u) => cutnl_ok r2 (by omega) u (HML.out u hu))
          rw [← hone] at HC HLG hnl hol hts hsf
          rw [← hr3] at HC HLG hnl hnl2
          clear hone hr3
          obtain ⟨x, hx⟩ : ∃ x, x = onl text one := ⟨_, rfl⟩
          obtain ⟨y, hy⟩ : ∃ y, y = Lib.trimSuffix x [92] := ⟨_, rfl⟩
          rw [← hx] at HLG hol hts hsf
          rw [← hy] at HLG hts hsf
          have HX := Lib.hid hx
          have HCS := Lib.hid (fun u => cutsuf_ok x u (by omega))
          rw [← hy] at HCS
          clear hx hy
          have ap1 : txt text ++ txt y = txt (text ++ y) := txt_app _ _
          have ap2 : txt (text ++ y) ++ (⟨#[32]⟩ : ByteArray) = txt (text ++ y ++ [32]) := txt_app _ [32]
          have no1 : ¬ (9223372036854775807 < (txt text).size + (txt y).size) := by rw [txt_size, txt_size]; omega
          have no2 : ¬ (9223372036854775807 < (txt (text ++ y)).size + 1) := by rw [txt_size, List.length_append]; omega
          have q1 : ((txt r3).toList == ([] : List UInt8)) = decide (r3 = []) := txt_none _
          have q2 : ((txt r3).toList == (⟨#[]⟩ : ByteArray).toList) = decide (r3 = []) := txt_none2 _
          by_cases ht : text = []
          · have t1 : ((txt text).toList == ([] : List UInt8)) = true := by rw [txt_none]; exact decide_eq_true ht
            have t2 : ((txt text).toList == (⟨#[]⟩ : ByteArray).toList) = true := by rw [txt_none2]; exact decide_eq_true ht
            have HX1 : Hid (x = one) := by show _ = _; rw [HX.out]; unfold onl; rw [if_pos ht]
            clear HX ht
            cases hsx : Lib.hasSuffix x [92]
            · rw [hsx] at HCS
              have HLG2 : Hid (lg [] rest (at_ + 1) = (text ++ y, r3, a2)) := by show _ = _; rw [HLG.out, if_neg (by rw [hsx]; simp)]
              have hx1 := HX1.out
              subst hx1
              clear HLG hsx hsf
              go_wp2_with (first
                              | (go_at_call 131; refine (HC.out _ (HJ.out.far HBR.out)).mono ?_; rintro e w1 ⟨⟨b, rfl⟩, n1, rfl⟩; have HJ1 := Lib.hid (HJ.out.below (below_drawsP (Below.refl _ _) n1)))
                              | (go_at_call 133; refine (HCS.out _).mono ?_; rintro e w3 ⟨rfl, rfl⟩))
              go_roundg r3.length
              case measure => simp at hg2; omega
              case rel => exact ⟨text ++ y, r3, a2, false, rfl, rfl, rfl, HJ1.out.set _, by rw [List.length_append]; omega, by simp, (fun h => by cases h), (fun h => by cases h), fun _ => HLG2.out, fun _ => ⟨by omega, by omega, ha3⟩, fun h => by cases h⟩
            · rw [hsx] at HCS
              have hsf2 := hsf hsx
              by_cases h3 : r3 = []
              · rw [decide_eq_true h3] at q1 q2
                have HLG2 : Hid (lg [] rest (at_ + 1) = (text ++ y, r3, a2)) := by show _ = _; rw [HLG.out, if_neg (fun h => h.2 h3)]
                have hx1 := HX1.out
                subst hx1
                clear HLG hsx hsf h3
                go_wp2_with (first
                                | (go_at_call 131; refine (HC.out _ (HJ.out.far HBR.out)).mono ?_; rintro e w1 ⟨⟨b, rfl⟩, n1, rfl⟩; have HJ1 := Lib.hid (HJ.out.below (below_drawsP (Below.refl _ _) n1)))
                                | (go_at_call 133; refine (HCS.out _).mono ?_; rintro e w3 ⟨rfl, rfl⟩))
                go_roundg r3.length
                case measure => simp at hg2; omega
                case rel => exact ⟨text ++ y, r3, a2, false, rfl, rfl, rfl, HJ1.out.set _, by rw [List.length_append]; omega, by simp, (fun h => by cases h), (fun h => by cases h), fun _ => HLG2.out, fun _ => ⟨by omega, by omega, ha3⟩, fun h => by cases h⟩
              · rw [decide_eq_false h3] at q1 q2
                have HR3 := Lib.hid h3
                have HLG2 : Hid (lg [] rest (at_ + 1) = lg (text ++ (y ++ [32])) r3 (a2 + 1)) := by show _ = _; rw [HLG.out, if_pos ⟨hsx, h3⟩, List.append_assoc]
                have hx1 := HX1.out
                subst hx1
                clear HLG hsx hsf h3
                go_wp2_with (first
                                | (go_at_call 131; refine (HC.out _ (HJ.out.far HBR.out)).mono ?_; rintro e w1 ⟨⟨b, rfl⟩, n1, rfl⟩; have HJ1 := Lib.hid (HJ.out.below (below_drawsP (Below.refl _ _) n1)))
                                | (go_at_call 133; refine (HCS.out _).mono ?_; rintro e w3 ⟨rfl, rfl⟩))
                go_roundg (r3.length + 1)
                case measure => simp at hg2; omega
                case rel => exact ⟨text ++ (y ++ [32]), r3, a2 + 1, true, rfl, by go_num, rfl, (HJ1.out.set _).set _, by rw [List.length_append, List.length_append, List.length_singleton]; omega, by simp, fun _ => HLG2.out, fun _ => ⟨HR3.out, by omega⟩, (fun h => by cases h), (fun h => by cases h), fun _ => by omega⟩
          · have t1 : ((txt text).toList == ([] : List UInt8)) = false := by rw [txt_none]; exact decide_eq_false ht
            have t2 : ((txt text).toList == (⟨#[]⟩ : ByteArray).toList) = false := by rw [txt_none2]; exact decide_eq_false ht
            have HX1 : Hid (x = Lib.trimLeftS one [32, 9]) := by show _ = _; rw [HX.out]; unfold onl; rw [if_neg ht]
            clear HX ht
            cases hsx : Lib.hasSuffix x [92]
            · rw [hsx] at HCS
              have HLG2 : Hid (lg [] rest (at_ + 1) = (text ++ y, r3, a2)) := by show _ = _; rw [HLG.out, if_neg (by rw [hsx]; simp)]
              have hx1 := HX1.out
              rw [hx1] at HCS
              clear HLG hsx hsf
              go_wp2_with (first
                              | (go_at_call 131; refine (HC.out _ (HJ.out.far HBR.out)).mono ?_; rintro e w1 ⟨⟨b, rfl⟩, n1, rfl⟩; have HJ0 := Lib.hid (HJ.out.below (below_drawsP (Below.refl _ _) n1)))
                              | (go_at_call 132; refine (trimL_ok one _).mono ?_; rintro e w2 ⟨rfl, hb⟩; have HJ1 := Lib.hid (HJ0.out.below hb); clear hb k0 k1 k2; obtain ⟨k0, k1, k2⟩ := rb_cells HJ1.out.box)
                              | (go_at_call 133; refine (HCS.out _).mono ?_; rintro e w3 ⟨rfl, rfl⟩))
              go_roundg r3.length
              case measure => simp at hg2; omega
              case rel => exact ⟨text ++ y, r3, a2, false, rfl, rfl, rfl, HJ1.out.set _, by rw [List.length_append]; omega, by simp, (fun h => by cases h), (fun h => by cases h), fun _ => HLG2.out, fun _ => ⟨by omega, by omega, ha3⟩, fun h => by cases h⟩
            · rw [hsx] at HCS
              have hsf2 := hsf hsx
              by_cases h3 : r3 = []
              · rw [decide_eq_true h3] at q1 q2
                have HLG2 : Hid (lg [] rest (at_ + 1) = (text ++ y, r3, a2)) := by show _ = _; rw [HLG.out, if_neg (fun h => h.2 h3)]
                have hx1 := HX1.out
                rw [hx1] at HCS
                clear HLG hsx hsf h3
                go_wp2_with (first
                                | (go_at_call 131; refine (HC.out _ (HJ.out.far HBR.out)).mono ?_; rintro e w1 ⟨⟨b, rfl⟩, n1, rfl⟩; have HJ0 := Lib.hid (HJ.out.below (below_drawsP (Below.refl _ _) n1)))
                                | (go_at_call 132; refine (trimL_ok one _).mono ?_; rintro e w2 ⟨rfl, hb⟩; have HJ1 := Lib.hid (HJ0.out.below hb); clear hb k0 k1 k2; obtain ⟨k0, k1, k2⟩ := rb_cells HJ1.out.box)
                                | (go_at_call 133; refine (HCS.out _).mono ?_; rintro e w3 ⟨rfl, rfl⟩))
                go_roundg r3.length
                case measure => simp at hg2; omega
                case rel => exact ⟨text ++ y, r3, a2, false, rfl, rfl, rfl, HJ1.out.set _, by rw [List.length_append]; omega, by simp, (fun h => by cases h), (fun h => by cases h), fun _ => HLG2.out, fun _ => ⟨by omega, by omega, ha3⟩, fun h => by cases h⟩
              · rw [decide_eq_false h3] at q1 q2
                have HR3 := Lib.hid h3
                have HLG2 : Hid (lg [] rest (at_ + 1) = lg (text ++ (y ++ [32])) r3 (a2 + 1)) := by show _ = _; rw [HLG.out, if_pos ⟨hsx, h3⟩, List.append_assoc]
                have hx1 := HX1.out
                rw [hx1] at HCS
                clear HLG hsx hsf h3
                go_wp2_with (first
                                | (go_at_call 131; refine (HC.out _ (HJ.out.far HBR.out)).mono ?_; rintro e w1 ⟨⟨b, rfl⟩, n1, rfl⟩; have HJ0 := Lib.hid (HJ.out.below (below_drawsP (Below.refl _ _) n1)))
                                | (go_at_call 132; refine (trimL_ok one _).mono ?_; rintro e w2 ⟨rfl, hb⟩; have HJ1 := Lib.hid (HJ0.out.below hb); clear hb k0 k1 k2; obtain ⟨k0, k1, k2⟩ := rb_cells HJ1.out.box)
                                | (go_at_call 133; refine (HCS.out _).mono ?_; rintro e w3 ⟨rfl, rfl⟩))
                go_roundg (r3.length + 1)
                case measure => simp at hg2; omega
                case rel => exact ⟨text ++ (y ++ [32]), r3, a2 + 1, true, rfl, by go_num, rfl, (HJ1.out.set _).set _, by rw [List.length_append, List.length_append, List.length_singleton]; omega, by simp, fun _ => HLG2.out, fun _ => ⟨HR3.out, by omega⟩, (fun h => by cases h), (fun h => by cases h), fun _ => by omega⟩
end Go.Proofs.YtoiolepengcagaaGreatDoor
