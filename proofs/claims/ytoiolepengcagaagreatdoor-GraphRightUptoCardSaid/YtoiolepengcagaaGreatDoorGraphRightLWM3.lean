/- Texts joined: ShelfS, MacroFW, MacroGW, MacroTW, MacroNW, MacroLW. Conditions: theirs. -/
import Derived.Shelf.Strings.BuilderK
import Derived.Shelf.Strings.Builder1
import Derived.Test.YtoiolepengcagaaGreatDoorProg
import Derived.Test.YtoiolepengcagaaGreatDoorGraphRightLWM2
import Derived.StillTailTactics
import Derived.Deep.QuietTactic
import Derived.BigQuiet
import Derived.Deep.RegionWith
import Derived.Test.YtoiolepengcagaaGreatDoorPairs
namespace Go.Proofs
open Go.Shelf Go.RowKit
def Tryz.lays166b_ren : Go.Shelf.Ren := ⟨fun | 166 => 113 | 240 => 144 | 276 => 161 | n => n, fun | 0 => 0 | 3 => 3 | 4 => 4 | 5 => 5 | 9 => 9 | 20 => 20 | 37 => 172 | 70 => 171 | 72 => 174 | 75 => 177 | 80 => 180 | 164 => 206 | n => n, fun | n => n⟩
theorem Tryz.lays166b : Go.Proofs.Lays.n166 Tryz.prog Tryz.lays166b_ren := {
  mixed := by kernel_rfl
  f166 := Tryz.func113.trans (congrArg some (by kernel_rfl))
  f240 := Tryz.func144.trans (congrArg some (by kernel_rfl))
  f276 := Tryz.func161.trans (congrArg some (by kernel_rfl))
  t0 := Tryz.underlying0
  a0 := Tryz.isAgg0
  z0 := Tryz.sizeOf0
  v0 := Tryz.zeroValue0
  t3 := Tryz.underlying3
  a3 := Tryz.isAgg3
  z3 := Tryz.sizeOf3
  v3 := Tryz.zeroValue3
  t4 := Tryz.underlying4
  a4 := Tryz.isAgg4
  z4 := Tryz.sizeOf4
  v4 := Tryz.zeroValue4
  t9 := Tryz.underlying9
  a9 := Tryz.isAgg9
  z9 := Tryz.sizeOf9
  v9 := Tryz.zeroValue9
  t20 := Tryz.underlying20
  a20 := Tryz.isAgg20
  z20 := Tryz.sizeOf20
  v20 := Tryz.zeroValue20
  t37 := Tryz.underlying172
  a37 := Tryz.isAgg172
  z37 := Tryz.sizeOf172
  v37 := Tryz.zeroValue172
  t70 := Tryz.underlying171
  a70 := Tryz.isAgg171
  z70 := Tryz.sizeOf171
  v70 := Tryz.zeroValue171
  t72 := Tryz.underlying174
  a72 := Tryz.isAgg174
  z72 := Tryz.sizeOf174
  v72 := Tryz.zeroValue174
  t75 := Tryz.underlying177
  a75 := Tryz.isAgg177
  z75 := Tryz.sizeOf177
  v75 := Tryz.zeroValue177
  t164 := Tryz.underlying206
  a164 := Tryz.isAgg206
  z164 := Tryz.sizeOf206
  v164 := Tryz.zeroValue206 }
theorem Tryz.Builder_Extra_166b : Builder.Extra Tryz.prog Tryz.lays166b_ren := {
  sizeBuilder := by kernel_rfl
  liesBuilder := by kernel_rfl
  t5 := Tryz.underlying5
  a5 := Tryz.isAgg5
  z5 := Tryz.sizeOf5
  v5 := Tryz.zeroValue5
  infoByte := by kernel_rfl
  cellsByte := by kernel_rfl
  sizeByte := by kernel_rfl
  neB5 := by decide }
theorem Tryz.Builder_WriteString_b (B b : Nat) (bs : List Value) (s : ByteArray) (w : World) (h : Lib.IsBuilderF 174 5 B b bs w) (hlen : bs.length + s.size ≤ 140737488355328) (hBw : B ≤ w.heap.size) :
    Calls Tryz.prog 113 #[.pointer (some ⟨b, 0, none⟩), .string s] w fun e w' => e = .returned (.tuple #[.int .i64 s.size, .nilIface]) ∧ (Lib.BuilderAtF 174 5 B b (.pointer (some ⟨b, 0, none⟩)) (bs ++ Lib.strCells s) w' ∧ Below B w w' ∧ Lib.OthersKept 5 (some b) w w') := Any.Builder_WriteString_k Tryz.lays166b Tryz.Builder_Extra_166b B b bs s w h hlen hBw
end Go.Proofs
namespace Go.Proofs.YtoiolepengcagaaGreatDoor
open Go.RowKit Go.Shelf
/-- what is put together so far: lg: it is too large -/
structure FlatS (base ob lb : Nat) (lg : Bool) (bs : Bs) (W : World) : Prop where
  flag : W.heap[lb]? = some (.cells #[.bool lg] 4 (0, 0))
  bld : lg = false → Lib.IsBuilderF 174 5 base ob (Lib.byteCells bs) W
  few : lg = false → bs.length ≤ 2000
theorem mbld_below {T e : TypeId} {B b : Nat} {bs : List Value} {w w' : World} (h : Lib.IsBuilderF T e B b bs w) (hb : Below w.heap.size w w') : Lib.IsBuilderF T e B b bs w' := by
  have key : ∀ p, Lib.BuilderAtF T e B b p bs w → Lib.BuilderAtF T e B b p bs w' := by
    rintro p ⟨h1, v, h2, h3, h4⟩
    refine ⟨h1, v, (hb.block b (mlt h2)).trans h2, ?_, h4⟩
    obtain ⟨h5, h6⟩ := h3
    refine ⟨h5, ?_⟩
    rcases h6 with h6 | ⟨g, cap, cur, fz, e1, e2, e3, rest⟩
    · exact .inl h6
    · exact .inr ⟨g, cap, cur, fz, e1, e2, (hb.block g (mlt e3)).trans e3, rest⟩
  exact h.elim (fun x => .inl (key _ x)) (fun x => .inr (key _ x))
theorem mbld_set {T e : TypeId} {B b lb : Nat} {bs : List Value} {w : World} {u v0 : Value} {t : TypeId} (h : Lib.IsBuilderF T e B b bs w) (hl : w.heap[lb]? = some (.cells #[v0] t (0, 0))) (hne : lb ≠ b) (ht : t ≠ e) : Lib.IsBuilderF T e B b bs (w.setCell ⟨lb, 0, none⟩ u) := by
  have key : ∀ p, Lib.BuilderAtF T e B b p bs w → Lib.BuilderAtF T e B b p bs (w.setCell ⟨lb, 0, none⟩ u) := by
    rintro p ⟨h1, v, h2, h3, h4⟩
    refine ⟨h1, v, mset_other h2 (fun e => hne e.symm), ?_, h4⟩
    obtain ⟨h5, h6⟩ := h3
    refine ⟨h5, ?_⟩
    rcases h6 with h6 | ⟨g, cap, cur, fz, e1, e2, e3, rest⟩
    · exact .inl h6
    · refine .inr ⟨g, cap, cur, fz, e1, e2, mset_other e3 (fun e4 => ?_), rest⟩
      have e5 : g = lb := e4
      subst e5
      rw [hl] at e3
      simp only [Option.some.injEq, Obj.cells.injEq] at e3
      exact ht e3.2.1
  exact h.elim (fun x => .inl (key _ x)) (fun x => .inr (key _ x))
/-- what a put leaves alone -/
def PutKept (base ob lb : Nat) (W W' : World) : Prop := Below base W W' ∧ ∀ k o, W.heap[k]? = some o → k ≠ ob → k ≠ lb → (∀ c fz, o ≠ .cells c 5 fz) → W'.heap[k]? = some o
set_option maxHeartbeats 2000000 in
theorem put_ok (base ob lb : Nat) (lg : Bool) (bs x : Bs) (w : World) (h : FlatS base ob lb lg bs w) (hlb : base ≤ lb) (hne : lb ≠ ob) :
    Calls Tryz.prog 111 (#[.string (txt x)] ++ #[.pointer (some ⟨lb, 0, none⟩), .pointer (some ⟨ob, 0, none⟩)]) w fun e w' => e = .returned (.tuple #[]) ∧ FlatS base ob lb (lg || decide (2000 < (bs ++ x).length)) (bs ++ x) w' ∧ PutKept base ob lb w w' := by
  obtain ⟨c1, f1⟩ := mx1 h.flag
  have HS := Lib.hid h
  have hsz := mlt h.flag
  have hxs : (txt x).size = x.length := txt_size x
  show Calls _ _ #[.string (txt x), .pointer (some ⟨lb, 0, none⟩), .pointer (some ⟨ob, 0, none⟩)] _ _
  have HK : Hid (∀ (W : World) (u : Value), Below base w W → (∀ k o, w.heap[k]? = some o → k ≠ ob → k ≠ lb → (∀ c fz, o ≠ .cells c 5 fz) → W.heap[k]? = some o) → PutKept base ob lb w (W.setCell ⟨lb, 0, none⟩ u)) := by
    show ∀ _ _, _
    intro W u h1 h2
    exact ⟨h1.setCell hlb _, fun k o hk n1 n2 n3 => mset_other (h2 k o hk n1 n2 n3) n2⟩
  cases lg
  · have hfew := h.few rfl
    have HL : Hid (Calls Tryz.prog 112 #[.pointer (some ⟨ob, 0, none⟩)] w fun e w' => e = .returned (.int .i64 bs.length) ∧ w' = w) := by
      show Calls _ _ _ _ _
      have := Tryz.Builder_Len_f _ _ _ _ (h.bld rfl)
      rwa [Lib.byteCells_length] at this
    have hw : IntKind.i64.wrap (2000 - (bs.length : Int)) = 2000 - (bs.length : Int) := IntWalk.i64_in _ (by omega)
    clear h
    by_cases hg : 2000 < bs.length + x.length
    · have hgt : (2000 - (bs.length : Int)) < (x.length : Int) := by omega
      have hgd : decide ((2000 - (bs.length : Int)) < (x.length : Int)) = true := decide_eq_true hgt
      have HD : Hid (decide (2000 < (bs ++ x).length) = true) := by show _ = _; rw [List.length_append]; exact decide_eq_true hg
      go_enter Tryz.func111, Tryz.ntmps111
      go_wp2_with (go_at_call 112; refine HL.out.mono ?_; rintro e w1 ⟨rfl, hw1⟩; rw [hw1]; clear hw1)
      first | (refine bodyPost_ret (results_none rfl _ _ _) rfl ?_) | (refine bodyPost_end (results_none rfl _ _ _) rfl ?_)
      refine ⟨rfl, ?_, HK.out w _ (Below.refl _ _) (fun k o hk _ _ _ => hk)⟩
      rw [HD.out]
      exact ⟨mx1_set HS.out.flag _, fun h => (by cases h), fun h => (by cases h)⟩
    · have hgt : ¬ ((2000 - (bs.length : Int)) < (x.length : Int)) := by omega
      have hgd : decide ((2000 - (bs.length : Int)) < (x.length : Int)) = false := decide_eq_false hgt
      have HD : Hid (decide (2000 < (bs ++ x).length) = false) := by show _ = _; rw [List.length_append]; exact decide_eq_false (by omega)
      obtain ⟨W1, hW1⟩ : ∃ W1, W1 = w.setCell ⟨lb, 0, none⟩ (.bool false) := ⟨_, rfl⟩
      have HF1 : Hid (W1.heap[lb]? = some (.cells #[.bool false] 4 (0, 0))) := by show _ = _; rw [hW1]; exact mx1_set HS.out.flag _
      have HB1 : Hid (Lib.IsBuilderF 174 5 base ob (Lib.byteCells bs) W1) := by show Lib.IsBuilderF _ _ _ _ _ _; rw [hW1]; exact mbld_set (HS.out.bld rfl) HS.out.flag hne (by decide)
      have HW1 : Hid (Below base w W1) := by show Below _ _ _; rw [hW1]; exact (Below.refl _ _).setCell hlb _
      have HP1 : Hid (PutKept base ob lb w W1) := by show PutKept _ _ _ _ _; rw [hW1]; exact HK.out w _ (Below.refl _ _) (fun k o hk _ _ _ => hk)
      have c2 := (mx1 HF1.out).1
      have HWS : Hid (Calls Tryz.prog 113 #[.pointer (some ⟨ob, 0, none⟩), .string (txt x)] W1 fun e w' => (∃ v, e = .returned v) ∧ FlatS base ob lb false (bs ++ x) w' ∧ PutKept base ob lb w w') := by
        show Calls _ _ _ _ _
        have hsz1 := HW1.out.size
        refine (Tryz.Builder_WriteString_b base ob (Lib.byteCells bs) (txt x) W1 HB1.out (by rw [Lib.byteCells_length, hxs]; omega) (by have := mlt HF1.out; omega)).mono ?_
        rintro e w' ⟨rfl, h2, h3, h4⟩
        refine ⟨⟨_, rfl⟩, ⟨h4 lb _ HF1.out (fun e => by injection e with e; exact hne e) (fun c fz e => by cases e), fun _ => .inr ?_, fun _ => ?_⟩, HP1.out.1.trans h3, fun k o hk n1 n2 n3 => h4 k o (HP1.out.2 k o hk n1 n2 n3) (fun e => by injection e with e; exact n1 e) n3⟩
        · rw [Lib.byteCells_append]
          rw [Lib.strCells_eq, txt_list] at h2
          exact h2
        · rw [List.length_append]; omega
      go_enter Tryz.func111, Tryz.ntmps111
      go_upto_region 1 with (go_at_call 112; refine HL.out.mono ?_; rintro e w1 ⟨rfl, hw1⟩; rw [hw1]; clear hw1)
      rw [← hW1]
      clear hW1
      go_wp2_with (go_at_call 113; refine HWS.out.mono ?_; rintro e w2 ⟨⟨v, rfl⟩, h1, h2⟩; have H1 := Lib.hid h1; have H2 := Lib.hid h2; clear h1 h2)
      first | (refine bodyPost_ret (results_none rfl _ _ _) rfl ?_) | (refine bodyPost_end (results_none rfl _ _ _) rfl ?_)
      refine ⟨rfl, ?_, H2.out⟩
      rw [HD.out]
      exact H1.out
  · clear h
    go_enter Tryz.func111, Tryz.ntmps111
    go_wp2
    first | (refine bodyPost_ret (results_none rfl _ _ _) rfl ?_) | (refine bodyPost_end (results_none rfl _ _ _) rfl ?_)
    refine ⟨rfl, ?_, HK.out w _ (Below.refl _ _) (fun k o hk _ _ _ => hk)⟩
    exact ⟨mx1_set HS.out.flag _, fun h => (by cases h), fun h => (by cases h)⟩
theorem FlatS.below {base ob lb : Nat} {lg : Bool} {bs : Bs} {w w' : World} (h : FlatS base ob lb lg bs w) (hb : Below w.heap.size w w') : FlatS base ob lb lg bs w' :=
  ⟨(hb.block lb (mlt h.flag)).trans h.flag, fun e => mbld_below (h.bld e) hb, h.few⟩
theorem map_ne {w : World} {B N lb : Nat} {ks : List Bs} {hh : Bs → Value} {cs : Array Value} {t : TypeId} {fz : Nat × Nat} (hm : MapP w B N ks hh) (h : w.heap[lb]? = some (.cells cs t fz)) : B ≠ lb := by
  rintro rfl
  obtain ⟨D, ⟨es, clock, hb, _⟩, _⟩ := hm
  rw [h] at hb
  cases hb
set_option maxHeartbeats 4000000 in
set_option maxRecDepth 100000 in
theorem callF_ok (base ob lb tb pb B eb N : Nat) (ks : List Bs) (hh : Bs → Value) (lg : Bool) (bs n : Bs) (v : Option Bs) (w : World) (h : FlatS base ob lb lg bs w) (hlb : base ≤ lb) (hne : lb ≠ ob)
    (ht : w.heap[tb]? = some (.cells #[.map (some B)] 137 (0, 0))) (hp : w.heap[pb]? = some (.cells #[.func (.func 111) #[] #[.pointer (some ⟨lb, 0, none⟩), .pointer (some ⟨ob, 0, none⟩)]] 170 (0, 0)))
    (hm : MapP w B N ks hh) (he : hh n = .pointer (some ⟨eb, 0, none⟩)) (c3 : w.cell? ⟨eb, 3, none⟩ = some (.string (txt (v.getD [])))) (c4 : w.cell? ⟨eb, 4, none⟩ = some (.bool v.isNone)) (heb : eb ≠ lb) (htb : tb ≠ lb) (hpb : pb ≠ lb) (hn : n.length ≤ 40) :
    Calls Tryz.prog 114 (#[.string (txt n)] ++ #[.pointer (some ⟨lb, 0, none⟩), .pointer (some ⟨tb, 0, none⟩), .pointer (some ⟨pb, 0, none⟩)]) w fun e w' => e = .returned (.tuple #[]) ∧ FlatS base ob lb ((lg || v.isNone) || decide (2000 < (bs ++ v.getD []).length)) (bs ++ v.getD []) w' ∧ PutKept base ob lb w w' := by
  obtain ⟨c1, f1⟩ := mx1 h.flag
  have ct := (mx1 ht).1
  have cp := (mx1 hp).1
  have hBl := map_ne hm h.flag
  generalize hvv : v.getD [] = x at *
  generalize v.isNone = z at *
  obtain ⟨b, hb⟩ : ∃ b, b = (lg || z) := ⟨_, rfl⟩
  rw [← hb]
  obtain ⟨W1, hW1⟩ : ∃ W1, W1 = w.setCell ⟨lb, 0, none⟩ (.bool b) := ⟨_, rfl⟩
  have HS1 : Hid (FlatS base ob lb b bs W1) := by
    show FlatS _ _ _ _ _ _
    have hlf : b = false → lg = false := by rw [hb]; cases lg <;> simp
    rw [hW1]
    exact ⟨mx1_set h.flag _, fun e => mbld_set (h.bld (hlf e)) h.flag hne (by decide), fun e => h.few (hlf e)⟩
  have HP1 : Hid (PutKept base ob lb w W1) := by
    show PutKept _ _ _ _ _
    rw [hW1]
    exact ⟨(Below.refl _ _).setCell hlb _, fun k o hk _ n2 _ => mset_other hk n2⟩
  have HM := Lib.hid hm
  have HM1 : Hid (MapP W1 B N ks hh) := by
    show MapP _ _ _ _ _
    rw [hW1]
    exact hm.kept (mgrown_set w ⟨lb, 0, none⟩ _) (fun e => by injection e with e; exact hBl e)
  have ct1 : W1.cell? ⟨tb, 0, none⟩ = some (.map (some B)) := by rw [hW1]; exact (mx1 (mset_other ht htb)).1
  have cp1 : W1.cell? ⟨pb, 0, none⟩ = some (.func (.func 111) #[] #[.pointer (some ⟨lb, 0, none⟩), .pointer (some ⟨ob, 0, none⟩)]) := by rw [hW1]; exact (mx1 (mset_other hp hpb)).1
  have c31 : W1.cell? ⟨eb, 3, none⟩ = some (.string (txt x)) := by
    rw [hW1]
    have := heap_setCell_other w ⟨lb, 0, none⟩ eb (.bool b) heb
    simp only [World.cell?, this] at c3 ⊢
    exact c3
  have hxm : (txt n).size ≤ maxLen := by rw [txt_size]; unfold maxLen; omega
  have hht : hh (txt n).data.toList = .pointer (some ⟨eb, 0, none⟩) := by rw [txt_list]; exact he
  have HPut : Hid (∀ k, Calls Tryz.prog 111 #[.string (txt x), .pointer (some ⟨lb, 0, none⟩), .pointer (some ⟨ob, 0, none⟩)] (W1.drewN k) fun e w' => e = .returned (.tuple #[]) ∧ FlatS base ob lb (b || decide (2000 < (bs ++ x).length)) (bs ++ x) w' ∧ PutKept base ob lb w w') := by
    show ∀ k, _
    intro k
    refine (put_ok base ob lb b bs x (W1.drewN k) (HS1.out.below (below_drawsP (Below.refl _ _) k)) hlb hne).mono ?_
    rintro e w' ⟨h1, h2, h3⟩
    exact ⟨h1, h2, (below_drawsP HP1.out.1 k).trans h3.1, fun i o hi n1 n2 n3 => h3.2 i o (HP1.out.2 i o hi n1 n2 n3) n1 n2 n3⟩
  show Calls _ _ #[.string (txt n), .pointer (some ⟨lb, 0, none⟩), .pointer (some ⟨tb, 0, none⟩), .pointer (some ⟨pb, 0, none⟩)] _ _
  clear h ht hp hm he c3
  cases lg
  case' false =>
    have hbz : b = z := by simpa using hb
    subst hbz
    clear hb
    go_enter Tryz.func114, Tryz.ntmps114
    go_upto_region 1 with (at_lookup; refine look_pg _ rfl _ _ rfl rfl HM.out (txt n) rfl hxm ?_; rw [hht])
  case' true =>
    have hbz : b = true := by simpa using hb
    subst hbz
    clear hb
    go_enter Tryz.func114, Tryz.ntmps114
    go_upto_region 1 with (at_lookup; refine look_p _ rfl _ _ rfl rfl HM.out (txt n) rfl hxm ?_; rw [hht])
  all_goals
    rw [← hW1]
    clear hW1
    have HMd : Hid (∀ k, MapP (W1.drewN k) B N ks hh) := fun k => HM1.out.kept (row := none) ⟨rfl, rfl, rfl, Nat.le_refl _, fun _ _ _ => rfl⟩ (by simp)
    have hlk : Sem.run Tryz.prog (Instr.lookup 137 (.map (some B)) (.string (txt n)) false) W1.drew = .ok (.pointer (some ⟨eb, 0, none⟩)) W1.drew := by
      rw [← hht]
      exact look_run (HMd.out 1) (txt n) hxm
    go_region_with (first
      | (go_at_call 111; refine (HPut.out _).mono ?_; rintro e w2 ⟨rfl, h1, h2⟩; have H1 := Lib.hid h1; have H2 := Lib.hid h2; clear h1 h2))
    all_goals
      go_wp2
      first | (refine bodyPost_ret (results_none rfl _ _ _) rfl ?_) | (refine bodyPost_end (results_none rfl _ _ _) rfl ?_)
      exact ⟨rfl, H1.out, H2.out⟩
end Go.Proofs.YtoiolepengcagaaGreatDoor
namespace Go.Proofs.YtoiolepengcagaaGreatDoor
open Go.RowKit Go.Shelf
theorem run_store_func (P : Program) (w : World) (a : Addr) (m : Mode) (f : Fn) (x y : Array Value) : (store a (.func f x y) m).run P w = stored P w a (.func f x y) m := run_store P w a _ m rfl
attribute [go_sem] run_store_func
theorem evalT_t (F : Bs → Option Bs) (l : List Tok) (s : Bs) : evalT F (l ++ [.t s]) = evalT F l ++ s := by rw [evalT_app]; simp [evalT, pieceM]
theorem evalT_c (F : Bs → Option Bs) (l : List Tok) (n : Bs) : evalT F (l ++ [.c n]) = evalT F l ++ (F n).getD [] := by rw [evalT_app]; simp [evalT, pieceM]
theorem or_more (z : Bool) {a b : Nat} (h : a ≤ b) : (z || decide (2000 < b)) = ((z || decide (2000 < a)) || decide (2000 < b)) := by
  cases z
  · by_cases h1 : 2000 < a
    · rw [decide_eq_true h1, decide_eq_true (show 2000 < b by omega)]; rfl
    · rw [decide_eq_false h1]; rfl
  · rfl
theorem lrg_t (F : Bs → Option Bs) (l : List Tok) (s : Bs) : lrg F (l ++ [.t s]) = (lrg F l || decide (2000 < (evalT F l ++ s).length)) := by
  unfold lrg
  rw [evalT_t, noneT_app, show noneT F [.t s] = false from rfl, Bool.or_false]
  exact or_more _ (by rw [List.length_append]; omega)
theorem lrg_c (F : Bs → Option Bs) (l : List Tok) (n : Bs) : lrg F (l ++ [.c n]) = ((lrg F l || (F n).isNone) || decide (2000 < (evalT F l ++ (F n).getD []).length)) := by
  unfold lrg
  rw [evalT_c, noneT_app, show noneT F [.c n] = (F n).isNone from by simp [noneT]]
  rw [or_more _ (show (evalT F l).length ≤ (evalT F l ++ (F n).getD []).length by rw [List.length_append]; omega)]
  cases noneT F l <;> cases (F n).isNone <;> simp
/-- what a text calls for is in the table B, worked out -/
def FlatOn (w : World) (B : Nat) (F : Bs → Option Bs) (cs : List Bs) : Prop :=
  ∃ N ks hh, MapP w B N ks hh ∧ ∀ n ∈ cs, ∃ eb, hh n = .pointer (some ⟨eb, 0, none⟩) ∧ w.cell? ⟨eb, 3, none⟩ = some (.string (txt ((F n).getD []))) ∧ w.cell? ⟨eb, 4, none⟩ = some (.bool (F n).isNone)
theorem FlatOn.below {w w' : World} {B : Nat} {F : Bs → Option Bs} {cs : List Bs} (h : FlatOn w B F cs) (hb : Below w.heap.size w w') : FlatOn w' B F cs := by
  obtain ⟨N, ks, hh, h1, h2⟩ := h
  refine ⟨N, ks, hh, h1.below hb, fun n hn => ?_⟩
  obtain ⟨eb, e1, e2, e3⟩ := h2 n hn
  exact ⟨eb, e1, (hb.cell (World.block_lt_of_cell? w _ e2)).trans e2, (hb.cell (World.block_lt_of_cell? w _ e3)).trans e3⟩
def putV (lb ob : Nat) : Value := .func (.func 111) #[] #[.pointer (some ⟨lb, 0, none⟩), .pointer (some ⟨ob, 0, none⟩)]
structure FlatJ (w : World) (B : Nat) (F : Bs → Option Bs) (pre : List Tok) (W : World) : Prop where
  st : FlatS w.heap.size (w.heap.size + 1) (w.heap.size + 1 + 1) (lrg F pre) (evalT F pre) W
  tb : W.heap[w.heap.size]? = some (.cells #[.map (some B)] 137 (0, 0))
  pb : W.heap[w.heap.size + 1 + 1 + 1]? = some (.cells #[putV (w.heap.size + 1 + 1) (w.heap.size + 1)] 170 (0, 0))
  below : Below w.heap.size w W
  ml : MLm W
theorem FlatJ.put {w : World} {B : Nat} {F : Bs → Option Bs} {pre pre' : List Tok} {W W' : World} (h : FlatJ w B F pre W) (hs : FlatS w.heap.size (w.heap.size + 1) (w.heap.size + 1 + 1) (lrg F pre') (evalT F pre') W') (hp : PutKept w.heap.size (w.heap.size + 1) (w.heap.size + 1 + 1) W W') (hM : MLm w) : FlatJ w B F pre' W' :=
  ⟨hs, hp.2 _ _ h.tb (by omega) (by omega) (fun c fz e => by injection e with _ e _; revert e; decide), hp.2 _ _ h.pb (by omega) (by omega) (fun c fz e => by injection e with _ e _; revert e; decide), h.below.trans (hp.1.mono (Nat.le_refl _)), hM.below (h.below.trans hp.1)⟩
theorem flat_feeds {w : World} {B : Nat} {F : Bs → Option Bs} {s : Bs} (hF : FlatOn w B F (callsOf (prs okM s).1)) (hM : MLm w) :
    Feeds s (FlatJ w B F) 111 #[.pointer (some ⟨w.heap.size + 1 + 1, 0, none⟩), .pointer (some ⟨w.heap.size + 1, 0, none⟩)] 114 #[.pointer (some ⟨w.heap.size + 1 + 1, 0, none⟩), .pointer (some ⟨w.heap.size, 0, none⟩), .pointer (some ⟨w.heap.size + 1 + 1 + 1, 0, none⟩)] := by
  refine ⟨enters_of Tryz.func111 (by kernel_rfl) rfl, enters_of Tryz.func114 (by kernel_rfl) rfl, ?_, ?_, fun pre W h => h.ml, ?_⟩
  · intro pre x W h _
    refine (put_ok _ _ _ _ _ x W h.st (by omega) (by omega)).mono ?_
    rintro e w' ⟨rfl, h1, h2⟩
    exact ⟨rfl, h.put (by rw [lrg_t, evalT_t]; exact h1) h2 hM⟩
  · intro pre n W h hn hok
    obtain ⟨N, ks, hh, h1, h2⟩ := hF
    obtain ⟨eb, e1, e2, e3⟩ := h2 n (callsOf_mem.2 hn)
    have hlt := World.block_lt_of_cell? w _ e2
    simp only at hlt
    refine (callF_ok w.heap.size _ _ w.heap.size (w.heap.size + 1 + 1 + 1) B eb N ks hh _ _ n (F n) W h.st (by omega) (by omega) h.tb h.pb (h1.below h.below) e1 ((h.below.cell hlt).trans e2) ((h.below.cell hlt).trans e3) (by omega) (by omega) (by omega) (okM_few hok)).mono ?_
    rintro e w' ⟨rfl, g1, g2⟩
    exact ⟨rfl, h.put (by rw [lrg_c, evalT_c]; exact g1) g2 hM⟩
  · intro pre W n h
    have hb := below_drawsP (Below.refl W.heap.size W) n
    exact ⟨h.st.below hb, h.tb, h.pb, below_drawsP h.below n, h.ml.drew n⟩
set_option maxHeartbeats 4000000 in
set_option maxRecDepth 100000 in
theorem flat_ok (B : Nat) (F : Bs → Option Bs) (s : Bs) (w : World) (hs : s.length ≤ 1048600) (hM : MLm w) (hF : FlatOn w B F (callsOf (prs okM s).1)) :
    Calls Tryz.prog 76 #[.map (some B), .string (txt s)] w fun e w' => e = .returned (.tuple #[.string (txt ((cmb F (prs okM s).1).getD [])), .bool (cmb F (prs okM s).1).isNone]) ∧ Below w.heap.size w w' := by
  have hfd := flat_feeds hF hM
  obtain ⟨W1, hW1⟩ : ∃ W1, W1 = w.alloc (.cells #[.map (some B)] 137) := ⟨_, rfl⟩
  obtain ⟨W2, hW2⟩ : ∃ W2, W2 = W1.alloc (.cells #[.pointer none, .slice none 0 0] 174) := ⟨_, rfl⟩
  obtain ⟨W3, hW3⟩ : ∃ W3, W3 = W2.alloc (.cells #[.bool false] 4) := ⟨_, rfl⟩
  obtain ⟨W4, hW4⟩ : ∃ W4, W4 = W3.alloc (.cells #[putV (w.heap.size + 1 + 1) (w.heap.size + 1)] 170) := ⟨_, rfl⟩
  have z1 : W1.heap.size = w.heap.size + 1 := by rw [hW1]; simp
  have z2 : W2.heap.size = w.heap.size + 1 + 1 := by rw [hW2]; simp [z1]
  have z3 : W3.heap.size = w.heap.size + 1 + 1 + 1 := by rw [hW3]; simp [z2]
  have b1 : Below w.heap.size w W1 := by rw [hW1]; exact (Below.refl _ _).alloc (Nat.le_refl _) _
  have b2 : Below w.heap.size w W2 := by rw [hW2]; exact b1.alloc (by omega) _
  have b3 : Below w.heap.size w W3 := by rw [hW3]; exact b2.alloc (by omega) _
  have b4 : Below w.heap.size w W4 := by rw [hW4]; exact b3.alloc (by omega) _
  have h0 : FlatJ w B F [] W4 := by
    have l0 : lrg F [] = false := rfl
    have e0 : evalT F [] = [] := rfl
    have g1 : W1.heap[w.heap.size]? = some (.cells #[.map (some B)] 137 (0, 0)) := by rw [hW1]; exact mhan _ _
    have g2 : W2.heap[w.heap.size + 1]? = some (.cells #[.pointer none, .slice none 0 0] 174 (0, 0)) := by rw [hW2, ← z1]; exact mhan _ _
    have g3 : W3.heap[w.heap.size + 1 + 1]? = some (.cells #[.bool false] 4 (0, 0)) := by rw [hW3, ← z2]; exact mhan _ _
    have g4 : W4.heap[w.heap.size + 1 + 1 + 1]? = some (.cells #[putV (w.heap.size + 1 + 1) (w.heap.size + 1)] 170 (0, 0)) := by rw [hW4, ← z3]; exact mhan _ _
    refine ⟨⟨?_, fun _ => ?_, fun _ => by rw [e0]; simp⟩, ?_, g4, b4, hM.below b4⟩
    · rw [hW4, mhao _ _ _ (by omega), l0]; exact g3
    · rw [e0]
      refine .inl ⟨by omega, .slice none 0 0, ?_, ⟨rfl, .inl ⟨rfl, rfl⟩⟩, by simp [Value.ownBlock]⟩
      rw [hW4, mhao _ _ _ (by omega), hW3, mhao _ _ _ (by omega)]; exact g2
    · rw [hW4, mhao _ _ _ (by omega), hW3, mhao _ _ _ (by omega), hW2, mhao _ _ _ (by omega)]; exact g1
  have HP := Lib.hid (parseM_ok s _ _ _ _ _ hfd hs W4 h0)
  have k4 := (mx1 h0.pb).1
  unfold putV at k4
  clear hfd h0 b1 b2 b3 b4 hF hM
  rw [hW1] at hW2
  rw [hW2] at hW3
  rw [hW3] at hW4
  unfold putV at hW4
  cases hl : lrg F (prs okM s).1
  · have HE : Hid (cmb F (prs okM s).1 = some (evalT F (prs okM s).1)) := by show _ = _; unfold cmb; rw [hl]; rfl
    have HL := Lib.hid hl
    clear hl
    go_enter Tryz.func76, Tryz.ntmps76
    go_upto_region 4 with fail
    rw [← hW4]
    clear hW1 hW2 hW3 hW4
    go_wp2_with (first
      | (go_at_call 108; refine HP.out.mono ?_; rintro e w2 ⟨rfl, hj⟩; have c1 := (mx1 hj.st.flag).1; rw [HL.out] at c1; have HB := Lib.hid hj.below; have HS := Lib.hid (Tryz.Builder_String_any_k _ _ _ _ (hj.st.bld HL.out) hj.below.size); clear hj)
      | (go_at_call 115; refine HS.out.mono ?_; rintro e w3 ⟨rfl, _, hb, _⟩; have HB3 := Lib.hid hb; clear hb))
    go_ret2
    exact ⟨by rw [HE.out]; rfl, HB.out.trans (HB3.out.mono (Nat.le_refl _))⟩
  · have HE : Hid (cmb F (prs okM s).1 = none) := by show _ = _; unfold cmb; rw [hl]; rfl
    have HL := Lib.hid hl
    clear hl
    go_enter Tryz.func76, Tryz.ntmps76
    go_upto_region 4 with fail
    rw [← hW4]
    clear hW1 hW2 hW3 hW4
    go_wp2_with (go_at_call 108; refine HP.out.mono ?_; rintro e w2 ⟨rfl, hj⟩; have c1 := (mx1 hj.st.flag).1; rw [HL.out] at c1; have HB := Lib.hid hj.below; clear hj)
    go_ret2
    exact ⟨by rw [HE.out]; rfl, HB.out⟩
end Go.Proofs.YtoiolepengcagaaGreatDoor
namespace Go.Proofs.YtoiolepengcagaaGreatDoor
open Go.RowKit Go.Shelf
theorem mx5 {w : World} {b : Nat} {t : TypeId} {v0 v1 v2 v3 v4 : Value} (h : w.heap[b]? = some (.cells #[v0, v1, v2, v3, v4] t (0, 0))) :
    w.cell? ⟨b, 0, none⟩ = some v0 ∧ w.cell? ⟨b, 1, none⟩ = some v1 ∧ w.cell? ⟨b, 2, none⟩ = some v2 ∧ w.cell? ⟨b, 3, none⟩ = some v3 ∧ w.cell? ⟨b, 4, none⟩ = some v4 ∧ ∀ o, w.frozen? ⟨b, o, none⟩ = false := by
  refine ⟨?_, ?_, ?_, ?_, ?_, fun o => ?_⟩
  all_goals simp [World.cell?, World.frozen?, h]
theorem mx5_set2 {w : World} {b : Nat} {t : TypeId} {v0 v1 v2 v3 v4 : Value} (h : w.heap[b]? = some (.cells #[v0, v1, v2, v3, v4] t (0, 0))) (u : Value) : (w.setCell ⟨b, 2, none⟩ u).heap[b]? = some (.cells #[v0, v1, u, v3, v4] t (0, 0)) := by
  rw [heap_setCell_same w b 2 _ t u h]; rfl
theorem mx5_set3 {w : World} {b : Nat} {t : TypeId} {v0 v1 v2 v3 v4 : Value} (h : w.heap[b]? = some (.cells #[v0, v1, v2, v3, v4] t (0, 0))) (u : Value) : (w.setCell ⟨b, 3, none⟩ u).heap[b]? = some (.cells #[v0, v1, v2, u, v4] t (0, 0)) := by
  rw [heap_setCell_same w b 3 _ t u h]; rfl
theorem mx5_set4 {w : World} {b : Nat} {t : TypeId} {v0 v1 v2 v3 v4 : Value} (h : w.heap[b]? = some (.cells #[v0, v1, v2, v3, v4] t (0, 0))) (u : Value) : (w.setCell ⟨b, 4, none⟩ u).heap[b]? = some (.cells #[v0, v1, v2, v3, u] t (0, 0)) := by
  rw [heap_setCell_same w b 4 _ t u h]; rfl
theorem mgrown_then {W w w' : World} {b : Nat} {row : Option Nat} (h : W.grownBy w (some b)) (hg : w.grownBy w' row) (hr : row = none ∨ row = some b) : W.grownBy w' (some b) :=
  ⟨hg.os.trans h.os, hg.tape.trans h.tape, hg.output.trans h.output, Nat.le_trans h.size hg.size, fun k hk hne => by
    rw [hg.block k (Nat.lt_of_lt_of_le hk h.size) (fun e => by
      rcases hr with h1 | h1
      · rw [h1] at e; cases e
      · rw [h1] at e; exact hne e), h.block k hk hne]⟩
theorem mgrown_below {w w' : World} (h : Below w.heap.size w w') : w.grownBy w' none := ⟨h.os, h.tape, h.output, h.size, fun k hk _ => h.block k hk⟩
/-- the cells of an entry: a value, what it calls for, and what it is flat if it is done -/
def entC (v : Bs) (u : Value) (st : Nat) (f : Option Bs) : Array Value :=
  #[.string (txt v), u, .int .i64 (st : Int), .string (txt (if st = 2 then f.getD [] else [])), .bool (if st = 2 then f.isNone else false)]
def ptrAt (ks : List Bs) (eb : Bs → Nat) (n : Bs) : Value := if n ∈ ks then .pointer (some ⟨eb n, 0, none⟩) else nilP
/-- the table: l: the macros; st: how far each is -/
structure TabW (w : World) (B lo : Nat) (l : List Mac) (eb : Bs → Nat) (uv : Bs → Value) (st : Bs → Nat) : Prop where
  map : ∃ N, MapP w B N (namesM l) (ptrAt (namesM l) eb) ∧ N ≤ l.length
  ent : ∀ m ∈ l, w.heap[eb m.1]? = some (.cells (entC m.2 (uv m.1) (st m.1) (flatF okM l m.1)) 141 (0, 0))
  uses : ∀ m ∈ l, w.ownsRow lo 9 1 (uv m.1) (usesM (prs okM m.2).1).length (strsV (usesM (prs okM m.2).1))
  low : ∀ m ∈ l, lo ≤ eb m.1
  inj : ∀ m ∈ l, ∀ m' ∈ l, eb m.1 = eb m'.1 → m.1 = m'.1
theorem ent_ne {w : World} {lo b : Nat} {v : Value} {n : Nat} {xs : List Value} {cs : Array Value} {fz : Nat × Nat} (h : w.ownsRow lo 9 1 v n xs) (hb : w.heap[b]? = some (.cells cs 141 fz)) : v.ownBlock ≠ some b := by
  rcases h.2 with ⟨rfl, _⟩ | ⟨g, cap, cur, rfl, _, hg, _⟩
  · simp [Value.ownBlock]
  · intro e
    simp only [Value.ownBlock, Option.some.injEq] at e
    subst e
    rw [hg] at hb
    simp only [Option.some.injEq, Obj.cells.injEq] at hb
    exact absurd hb.2.1 (by decide)
theorem names_inj {l : List Mac} (hnd : (namesM l).Nodup) {m m' : Mac} (hm : m ∈ l) (hm' : m' ∈ l) (e : m'.1 = m.1) : m' = m := by
  induction l with
  | nil => cases hm
  | cons x l ih =>
    unfold namesM at hnd
    rw [List.map_cons, List.nodup_cons] at hnd
    rcases List.mem_cons.1 hm with g1 | g1
    · rcases List.mem_cons.1 hm' with g2 | g2
      · rw [g1, g2]
      · exact absurd (by rw [← g1, ← e]; exact List.mem_map_of_mem g2) hnd.1
    · rcases List.mem_cons.1 hm' with g2 | g2
      · exact absurd (by rw [← g2, e]; exact List.mem_map_of_mem g1) hnd.1
      · exact ih hnd.2 g1 g2
theorem TabW.turn {w w' : World} {B lo : Nat} {l : List Mac} {eb : Bs → Nat} {uv : Bs → Value} {st st' : Bs → Nat} (h : TabW w B lo l eb uv st) (hnd : (namesM l).Nodup) {m : Mac} (hm : m ∈ l) (hg : w.grownBy w' (some (eb m.1)))
    (he : w'.heap[eb m.1]? = some (.cells (entC m.2 (uv m.1) (st' m.1) (flatF okM l m.1)) 141 (0, 0))) (hs : ∀ n, n ≠ m.1 → st' n = st n) : TabW w' B lo l eb uv st' := by
  have same : ∀ m' ∈ l, m'.1 = m.1 → m' = m := fun m' hm' e => names_inj hnd hm hm' e
  refine ⟨?_, fun m' hm' => ?_, fun m' hm' => ?_, h.low, h.inj⟩
  · obtain ⟨N, h1, h2⟩ := h.map
    exact ⟨N, h1.kept hg (fun e => by injection e with e; exact map_ne h1 (h.ent m hm) e), h2⟩
  · by_cases e : m'.1 = m.1
    · rw [same m' hm' e]; exact he
    · rw [hs _ e, hg.block _ (mlt (h.ent m' hm')) (fun e2 => by injection e2 with e2; exact e (h.inj m' hm' m hm e2))]
      exact h.ent m' hm'
  · refine (h.uses m' hm').kept hg ?_
    cases hq : (uv m'.1).ownBlock with
    | none => exact .inl rfl
    | some k => exact .inr (fun e => ent_ne (h.uses m' hm') (h.ent m hm) (by rw [hq]; exact e))
theorem TabW.below {w w' : World} {B lo : Nat} {l : List Mac} {eb : Bs → Nat} {uv : Bs → Value} {st : Bs → Nat} (h : TabW w B lo l eb uv st) (hb : Below w.heap.size w w') : TabW w' B lo l eb uv st := by
  refine ⟨?_, fun m hm => (hb.block _ (mlt (h.ent m hm))).trans (h.ent m hm), fun m hm => own_none (h.uses m hm) (mgrown_below hb), h.low, h.inj⟩
  obtain ⟨N, h1, h2⟩ := h.map
  exact ⟨N, h1.below hb, h2⟩
/-- how many are not looked at yet -/
def count0 (l : List Mac) (st : Bs → Nat) : Nat := ((namesM l).filter fun n => st n == 0).length
theorem count0_less {l : List Mac} {st : Bs → Nat} {n : Bs} (hn : n ∈ namesM l) (h0 : st n = 0) : count0 l (updM st n 1) + 1 ≤ count0 l st := by
  unfold count0
  generalize namesM l = ks at *
  induction ks with
  | nil => cases hn
  | cons k ks ih =>
    have mono : ∀ ls : List Bs, (ls.filter fun n' => updM st n 1 n' == 0).length ≤ (ls.filter fun n' => st n' == 0).length := by
      intro ls
      induction ls with
      | nil => exact Nat.le_refl _
      | cons a ls ih2 =>
        by_cases e : a = n
        · subst e
          rw [List.filter_cons, List.filter_cons, updM_same, h0]
          simp
          omega
        · rw [List.filter_cons, List.filter_cons, updM_other _ _ e]
          split
          · simp only [List.length_cons]; omega
          · exact ih2
    by_cases e : k = n
    · subst e
      rw [List.filter_cons, List.filter_cons, updM_same, h0]
      have := mono ks
      simp
      omega
    · rw [List.filter_cons, List.filter_cons, updM_other _ _ e]
      have hn' : n ∈ ks := by
        rcases List.mem_cons.1 hn with h | h
        · exact absurd h.symm e
        · exact h
      have := ih hn'
      split
      · simp only [List.length_cons]; omega
      · exact this
theorem count0_mono {l : List Mac} {st st' : Bs → Nat} (h : ∀ n, st n ≠ 0 → st' n ≠ 0) : count0 l st' ≤ count0 l st := by
  unfold count0
  generalize namesM l = ks
  induction ks with
  | nil => exact Nat.le_refl _
  | cons a ks ih =>
    rw [List.filter_cons, List.filter_cons]
    by_cases e : st a = 0
    · rw [e]
      rw [if_pos (show ((0 : Nat) == 0) = true from rfl), List.length_cons]
      split
      · rw [List.length_cons]; omega
      · omega
    · have e' := h a e
      rw [show (st a == 0) = false from by simpa using e, show (st' a == 0) = false from by simpa using e']
      exact ih
/-- what is done is right -/
def DoneM (l : List Mac) (st : Bs → Nat) : Prop := (∀ n ∈ namesM l, st n = 2 → Flt (tabT okM l) n (flatF okM l n)) ∧ ∀ n, st n ≤ 2
/-- what work answers -/
def WorkPost (w : World) (B lo : Nat) (l : List Mac) (eb : Bs → Nat) (uv : Bs → Value) (st : Bs → Nat) (n : Bs) (e : Ending) (w' : World) : Prop :=
  ((∃ st', e = .returned (.bool true) ∧ TabW w' B lo l eb uv st' ∧ DoneM l st' ∧ st' n = 2 ∧ (∀ y, st y = 2 → st' y = 2) ∧ (∀ y, st' y = 1 ↔ st y = 1)) ∨ (e = .returned (.bool false) ∧ ∃ y ∈ namesM l, Lead (tabT okM l) y y)) ∧ Below lo w w'
theorem MLm.low {w w' : World} {lo : Nat} (h : MLm w) (hl : 0 < lo) (hb : Below lo w w') : MLm w' := by
  obtain ⟨m, hm⟩ := h
  exact ⟨m, (hb.cell (p := ⟨0, 0, none⟩) hl).trans hm⟩
theorem TabW.look {w : World} {B lo : Nat} {l : List Mac} {eb : Bs → Nat} {uv : Bs → Value} {st : Bs → Nat} (h : TabW w B lo l eb uv st) {n : Bs} (hn : n ∈ namesM l) :
    (∃ N, MapP w B N (namesM l) (ptrAt (namesM l) eb)) ∧ ptrAt (namesM l) eb (txt n).data.toList = .pointer (some ⟨eb n, 0, none⟩) := by
  obtain ⟨N, h1, _⟩ := h.map
  refine ⟨⟨N, h1⟩, ?_⟩
  rw [txt_list]
  unfold ptrAt
  rw [if_pos hn]
set_option maxHeartbeats 1000000 in
theorem work_seen (B lo : Nat) (l : List Mac) (eb : Bs → Nat) (uv : Bs → Value) (hnm : ∀ n ∈ namesM l, n.length ≤ 40) (st : Bs → Nat) (n : Bs) (w : World) (h0 : st n ≠ 0) (hn : n ∈ namesM l) (hT : TabW w B lo l eb uv st) (hD : DoneM l st) (hL : ∀ y ∈ namesM l, st y = 1 → Lead (tabT okM l) y n) :
    Calls Tryz.prog 142 #[.map (some B), .string (txt n)] w (WorkPost w B lo l eb uv st n) := by
  obtain ⟨m, hm, hmn⟩ := List.mem_map.1 hn
  have he := hT.ent m hm
  rw [hmn] at he
  obtain ⟨c0, c1, c2, c3, c4, f⟩ := mx5 he
  obtain ⟨⟨N, hM⟩, hht⟩ := hT.look hn
  have hxm : (txt n).size ≤ maxLen := by have := hnm n hn; rw [txt_size]; unfold maxLen; omega
  have HM := Lib.hid hM
  have HT := Lib.hid hT
  have HD := Lib.hid hD
  have HL := Lib.hid hL
  have h2 := hD.2 n
  clear hT hD hL hM c0 c1 c3 c4
  rcases (show st n = 1 ∨ st n = 2 by omega) with h1 | h1
  · have H1 := Lib.hid h1
    rw [h1] at c2
    clear h1 h0 h2
    go_enter Tryz.func142, Tryz.ntmps142
    go_wp2_with (at_lookup; refine look_p _ rfl _ _ rfl rfl HM.out (txt n) rfl hxm ?_; rw [hht])
    go_ret
    exact ⟨.inr ⟨rfl, n, hn, HL.out n hn H1.out⟩, Below.refl _ _⟩
  · have H1 := Lib.hid h1
    rw [h1] at c2
    clear h1 h0 h2
    go_enter Tryz.func142, Tryz.ntmps142
    go_wp2_with (at_lookup; refine look_p _ rfl _ _ rfl rfl HM.out (txt n) rfl hxm ?_; rw [hht])
    go_ret
    exact ⟨.inl ⟨st, rfl, HT.out, HD.out, H1.out, fun _ h => h, fun _ => Iff.rfl⟩, Below.refl _ _⟩
set_option maxHeartbeats 8000000 in
set_option maxRecDepth 100000 in
theorem work_ok (B lo : Nat) (l : List Mac) (eb : Bs → Nat) (uv : Bs → Value) (hnd : (namesM l).Nodup) (hth : ∀ m ∈ l, ∀ u ∈ callsOf (prs okM m.2).1, u ∈ namesM l) (hv : ∀ m ∈ l, m.2.length ≤ 1048600) (hnm : ∀ n ∈ namesM l, n.length ≤ 40) (hgl : 0 < lo) :
    ∀ (k : Nat) (st : Bs → Nat) (n : Bs) (w : World), count0 l st ≤ k → n ∈ namesM l → TabW w B lo l eb uv st → DoneM l st → (∀ y ∈ namesM l, st y = 1 → Lead (tabT okM l) y n) → MLm w → lo ≤ w.heap.size →
      Calls Tryz.prog 142 #[.map (some B), .string (txt n)] w (WorkPost w B lo l eb uv st n) := by
  intro k
  induction k with
  | zero =>
    intro st n w hk hn hT hD hL hM hlo
    exact work_seen B lo l eb uv hnm st n w (fun e => by have := count0_less hn e; omega) hn hT hD hL
  | succ k ih =>
    intro st n w hk hn hT hD hL hM hlo
    by_cases h0 : st n = 0
    rotate_left
    · exact work_seen B lo l eb uv hnm st n w h0 hn hT hD hL
    obtain ⟨m, hm, hmn⟩ := List.mem_map.1 hn
    have he := hT.ent m hm
    rw [hmn] at he
    rw [h0] at he
    have he2 : w.heap[eb n]? = some (.cells #[.string (txt m.2), uv n, .int .i64 0, .string (txt []), .bool false] 141 (0, 0)) := he
    obtain ⟨c0, c1, c2, c3, c4, f⟩ := mx5 he2
    obtain ⟨⟨N, hMp⟩, hht⟩ := hT.look hn
    have hxm : (txt n).size ≤ maxLen := by have := hnm n hn; rw [txt_size]; unfold maxLen; omega
    -- at work
    obtain ⟨W1, hW1⟩ : ∃ W1, W1 = w.setCell ⟨eb n, 2, none⟩ (.int .i64 1) := ⟨_, rfl⟩
    have hg1 : w.grownBy W1 (some (eb n)) := by rw [hW1]; exact mgrown_set w ⟨eb n, 2, none⟩ _
    have he3 : W1.heap[eb n]? = some (.cells #[.string (txt m.2), uv n, .int .i64 1, .string (txt []), .bool false] 141 (0, 0)) := by rw [hW1]; exact mx5_set2 he2 _
    have hT1 : TabW W1 B lo l eb uv (updM st n 1) := by
      refine hT.turn hnd hm (by rw [hmn]; exact hg1) ?_ (fun x hx => updM_other _ _ (by rw [← hmn]; exact hx))
      rw [hmn, updM_same]
      exact he3
    have hb1 : Below lo w W1 := by rw [hW1]; exact (Below.refl _ _).setCell (by have := hT.low m hm; rw [hmn] at this; exact this) _
    have htt := tabT_mem (ok := okM) hnd hm
    rw [hmn] at htt
    have hus := hT.uses m hm
    rw [hmn] at hus
    have hul := usesM_len m.2
    have hvl := hv m hm
    have hmem : ∀ z ∈ usesM (prs okM m.2).1, ∃ u, z = txt u ∧ u ∈ callsOf (prs okM m.2).1 := fun z hz => usesM_txt hz
    have hall : ∀ u ∈ callsOf (prs okM m.2).1, txt u ∈ usesM (prs okM m.2).1 := fun u hu => usesM_mem.2 hu
    have hthm := hth m hm
    have HFO := Lib.hid (fun (W : World) hs hM hF => flat_ok B (flatF okM l) m.2 W hs hM hF)
    have HMEM := Lib.hid hmem
    have HALL := Lib.hid hall
    have HTH := Lib.hid hthm
    have HTT := Lib.hid htt
    generalize hU : usesM (prs okM m.2).1 = U at *
    obtain ⟨g, c, hgc⟩ := mown_form hus
    have d1 : W1.cell? ⟨eb n, 1, none⟩ = some (.slice g U.length c) := by rw [(mx5 he3).2.1, hgc]
    have HU : Hid (∀ (W : World) st', TabW W B lo l eb uv st' → W.ownsRow lo 9 1 (.slice g U.length c) U.length (strsV U)) := by
      show ∀ W st', _
      intro W st' h
      have := h.uses m hm
      rw [hmn, hU, hgc] at this
      exact this
    have HMp := Lib.hid hMp
    have HT1 := Lib.hid hT1
    have HB1 := Lib.hid hb1
    have HD := Lib.hid hD
    have HL := Lib.hid hL
    have hfr := f 2
    have HMB : Hid (∀ W, Below lo w W → MLm W) := fun W hb => hM.low hgl hb
    have HD1 : Hid (DoneM l (updM st n 1)) := by
      show DoneM _ _
      refine ⟨fun y hy h2 => ?_, fun y => ?_⟩
      · by_cases e : y = n
        · rw [e, updM_same] at h2; omega
        · rw [updM_other _ _ e] at h2; exact hD.1 y hy h2
      · by_cases e : y = n
        · rw [e, updM_same]; omega
        · rw [updM_other _ _ e]; exact hD.2 y
    have HC1 : Hid (count0 l (updM st n 1) ≤ k) := by show _ ≤ _; have := count0_less hn h0; omega
    have H0 := Lib.hid h0
    clear hT he he2 hT1 hb1 hD hL hM hus htt hmem hall hthm hMp c0 c1 c3 c4 f hg1 h0 hgc
    go_enter Tryz.func142, Tryz.ntmps142
    go_upto_region 5 with (at_lookup; refine look_p _ rfl _ _ rfl rfl HMp.out (txt n) rfl hxm ?_; rw [hht])
    rw [← hW1]
    clear hW1
    go_wp2
    go_loopw [29] (fun i wr => ∃ (j : Nat) (st' : Bs → Nat), j ≤ U.length ∧ i = .int .i64 j ∧ Hid (TabW wr B lo l eb uv st') ∧ Hid (DoneM l st') ∧ Hid (∀ y, st' y = 1 ↔ updM st n 1 y = 1) ∧ Hid (∀ y, st y = 2 → st' y = 2) ∧ Hid (∀ i z, i < j → U[i]? = some z → st' z.data.toList = 2) ∧ Hid (Below lo w wr)) (fun i _ => U.length - (intOf i).toNat)
    case atStart => exact ⟨0, updM st n 1, Nat.zero_le _, rfl, HT1, HD1, fun _ => Iff.rfl, fun y hy => by rw [updM_other _ _ (fun e => by rw [e, H0.out] at hy; cases hy)]; exact hy, fun i z h => by omega, HB1⟩
    case round =>
      obtain ⟨j, st', hj, rfl, HTj, HDj, HOj, HPj, HSj, HBj⟩ := hrel
      by_cases hlt : j < U.length
      · have hel := List.getElem?_eq_getElem hlt
        have hrow := HU.out _ _ HTj.out
        have hg : ∃ gb, g = some ⟨gb, 0, none⟩ := by
          rcases hrow.2 with ⟨_, h⟩ | ⟨gb, cap, cur, e, _⟩
          · omega
          · injection e with e1 _ _
            exact ⟨gb, e1⟩
        obtain ⟨gb, rfl⟩ := hg
        have hcell := hrow.cells (g := gb) rfl j (.string U[j]) (by unfold strsV; rw [List.getElem?_map, hel]; rfl)
        rw [Addr.add_lit, Nat.zero_add] at hcell
        obtain ⟨u, hzu, hu⟩ := HMEM.out U[j] (List.getElem_mem hlt)
        have HEL : Hid (U[j]? = some (txt u)) := by show _ = _; rw [hel, hzu]
        rw [hzu] at hcell
        have hun := HTH.out u hu
        have hlr := (HBj.out.size)
        have hcall := ih st' u wr (by
          refine Nat.le_trans (count0_mono (st := updM st n 1) (fun y hy => ?_)) HC1.out
          by_cases h1 : updM st n 1 y = 1
          · rw [(HOj.out y).2 h1]; decide
          · have hyn : y ≠ n := fun e => h1 (by rw [e, updM_same])
            rw [updM_other _ _ hyn] at hy h1
            have := HD.out.2 y
            rw [HPj.out y (by omega)]; decide) hun HTj.out HDj.out (fun y hy h1 => by
          have h2 := (HOj.out y).1 h1
          by_cases e : y = n
          · rw [e]; exact .one HTT.out hu
          · rw [updM_other _ _ e] at h2
            exact (HL.out y hy h2).trans (.one HTT.out hu)) (HMB.out _ HBj.out) (by omega)
        have HCall := Lib.hid hcall
        clear hcall hrow hel hzu hu hun
        have hlti : (j : Int) < (U.length : Int) := by omega
        go_wp2_with fail
        refine HCall.out.mono ?_
        rintro e w2 ⟨hres, hb⟩
        have HB2 := Lib.hid (HBj.out.trans (hb.mono (Nat.le_refl _)))
        clear hb
        rcases hres with ⟨st2, rfl, h1, h2, h3, h4, h5⟩ | ⟨rfl, hcy⟩
        · have HT2 := Lib.hid h1
          have HD2 := Lib.hid h2
          have HO2 : Hid (∀ y, st2 y = 1 ↔ updM st n 1 y = 1) := fun y => (h5 y).trans (HOj.out y)
          have HP2 : Hid (∀ y, st y = 2 → st2 y = 2) := fun y hy => h4 y (HPj.out y hy)
          have HS2 : Hid (∀ i z, i < j + 1 → U[i]? = some z → st2 z.data.toList = 2) := by
            show ∀ i z, _
            intro i z hi hz
            rcases Nat.lt_or_ge i j with g1 | g1
            · exact h4 _ (HSj.out i z g1 hz)
            · have : i = j := by omega
              subst this
              rw [HEL.out] at hz
              injection hz with hz
              rw [← hz, txt_list]
              exact h3
          clear h1 h2 h3 h4 h5
          go_wp2
          go_roundw
          case rel => exact ⟨j + 1, st2, by omega, by go_num, HT2, HD2, HO2, HP2, HS2, HB2⟩
          case measure => simp [intOf]; omega
        · have HCy := Lib.hid hcy
          clear hcy
          go_wp2
          go_ret
          exact ⟨.inr ⟨rfl, HCy.out⟩, HB2.out⟩
      · obtain rfl : j = U.length := by omega
        have htn := HTj.out.ent m hm
        have hst1 : st' n = 1 := (HOj.out n).2 (updM_same _ _ _)
        rw [hmn, hst1] at htn
        have htn2 : wr.heap[eb n]? = some (.cells #[.string (txt m.2), uv n, .int .i64 1, .string (txt []), .bool false] 141 (0, 0)) := htn
        obtain ⟨e0, e1, e2, e3, e4, ef⟩ := mx5 htn2
        have efr := ef 2
        have hle : lo ≤ eb n := by have := HTj.out.low m hm; rwa [hmn] at this
        obtain ⟨W5, hW5⟩ : ∃ W5, W5 = wr.setCell ⟨eb n, 2, none⟩ (.int .i64 2) := ⟨_, rfl⟩
        have g5 : wr.grownBy W5 (some (eb n)) := by rw [hW5]; exact mgrown_set wr ⟨eb n, 2, none⟩ _
        have htn5 : W5.heap[eb n]? = some (.cells #[.string (txt m.2), uv n, .int .i64 2, .string (txt []), .bool false] 141 (0, 0)) := by rw [hW5]; exact mx5_set2 htn2 _
        have b5 : Below lo w W5 := by rw [hW5]; exact HBj.out.setCell hle _
        have hdone : ∀ u ∈ callsOf (prs okM m.2).1, st' u = 2 := by
          intro u hu
          have hin := HALL.out u hu
          obtain ⟨i, hi, hiu⟩ := List.getElem_of_mem hin
          have := HSj.out i (txt u) hi (by rw [List.getElem?_eq_getElem hi, hiu])
          rwa [txt_list] at this
        have hFO : FlatOn W5 B (flatF okM l) (callsOf (prs okM m.2).1) := by
          obtain ⟨N', hN, _⟩ := HTj.out.map
          refine ⟨N', namesM l, ptrAt (namesM l) eb, hN.kept g5 (fun e => by injection e with e; exact map_ne hN htn2 e), fun u hu => ?_⟩
          have hun := HTH.out u hu
          obtain ⟨mu, hmu, hmue⟩ := List.mem_map.1 hun
          have h2 := hdone u hu
          have heu := HTj.out.ent mu hmu
          rw [hmue, h2] at heu
          have hne : eb u ≠ eb n := by
            intro e
            have := HTj.out.inj mu hmu m hm (by rw [hmue, hmn]; exact e)
            rw [hmue, hmn] at this
            rw [this, hst1] at h2
            cases h2
          have heu5 : W5.heap[eb u]? = _ := (g5.block _ (mlt heu) (fun e => by injection e with e; exact hne e)).trans heu
          have heu6 : W5.heap[eb u]? = some (.cells #[.string (txt mu.2), uv u, .int .i64 2, .string (txt ((flatF okM l u).getD [])), .bool (flatF okM l u).isNone] 141 (0, 0)) := heu5
          obtain ⟨_, _, _, k3, k4, _⟩ := mx5 heu6
          exact ⟨eb u, by unfold ptrAt; rw [if_pos hun], k3, k4⟩
        have hFlt : Flt (tabT okM l) n (cmb (flatF okM l) (prs okM m.2).1) := .mk HTT.out (flatF okM l) (fun u hu => HDj.out.1 u (HTH.out u hu) (hdone u hu))
        have hFn : flatF okM l n = cmb (flatF okM l) (prs okM m.2).1 := flatF_is hFlt
        have HCall := Lib.hid (HFO.out W5 hvl (HMB.out _ b5) hFO)
        have HFn := Lib.hid hFn
        have HFlt := Lib.hid hFlt
        have HG5 := Lib.hid g5
        have HB5 := Lib.hid b5
        have HX5 := Lib.hid htn5
        have k0 := (mx5 htn5).1
        rw [← hFn] at HCall
        clear hFO hFlt hFn g5 b5 htn5 hdone htn htn2 e0 e1 e3 e4 ef
        generalize hfn : flatF okM l n = fn at *
        have HFE := Lib.hid hfn
        clear hfn
        go_upto_region 12 with fail
        rw [← hW5]
        clear hW5
        go_wp2_with (go_at_call 76; refine HCall.out.mono ?_; rintro e w6 ⟨rfl, hb⟩; have hx6 := (hb.block _ (mlt HX5.out)).trans HX5.out; obtain ⟨_, _, _, q3, q4, qf⟩ := mx5 hx6; have qf3 := qf 3; have qf4 := qf 4; have HX6 := Lib.hid hx6; have HB6 := Lib.hid hb; clear hb hx6 qf)
        go_ret
        have g6 : wr.grownBy w6 (some (eb n)) := mgrown_then HG5.out (mgrown_below HB6.out) (.inl rfl)
        have g7 := mgrown_then (mgrown_then g6 (mgrown_set w6 ⟨eb n, 3, none⟩ (.string (txt (fn.getD [])))) (.inr rfl)) (mgrown_set (w6.setCell ⟨eb n, 3, none⟩ (.string (txt (fn.getD [])))) ⟨eb n, 4, none⟩ (.bool fn.isNone)) (.inr rfl)
        have x7 := mx5_set4 (mx5_set3 HX6.out (.string (txt (fn.getD [])))) (.bool fn.isNone)
        refine ⟨.inl ⟨updM st' n 2, rfl, ?_, ⟨fun y hy h2 => ?_, fun y => ?_⟩, updM_same _ _ _, fun y hy => ?_, fun y => ?_⟩, ?_⟩
        · refine HTj.out.turn hnd hm (by rw [hmn]; exact g7) ?_ (fun x hx => updM_other _ _ (by rw [← hmn]; exact hx))
          rw [hmn, updM_same, HFE.out]
          exact x7
        · by_cases e : y = n
          · rw [e, HFE.out, HFn.out]; exact HFlt.out
          · rw [updM_other _ _ e] at h2; exact HDj.out.1 y hy h2
        · by_cases e : y = n
          · rw [e, updM_same]; exact Nat.le_refl _
          · rw [updM_other _ _ e]; exact HDj.out.2 y
        · by_cases e : y = n
          · rw [e, updM_same]
          · rw [updM_other _ _ e]; exact HPj.out y hy
        · by_cases e : y = n
          · rw [e, updM_same, H0.out]; decide
          · rw [updM_other _ _ e]
            refine (HOj.out y).trans ?_
            rw [updM_other _ _ e]
        · exact ((HB5.out.trans (HB6.out.mono (by have := HB5.out.size; omega))).setCell hle _).setCell hle _
end Go.Proofs.YtoiolepengcagaaGreatDoor
namespace Go.Proofs.YtoiolepengcagaaGreatDoor
open Go.RowKit Go.Shelf Go.Maps
def mF (m : Mac) : Value := .string (txt m.1)
def mG (m : Mac) : Value := .string (txt m.2)
/-- macros that the call can read -/
structure MacsIn (w : World) (p : Option Addr) (n c : Nat) (l : List Mac) : Prop where
  at_ : P2At mF mG w p n c l
  small : ∀ m ∈ l, m.1.length ≤ 1048600 ∧ m.2.length ≤ 1048600
theorem MacsIn.below {w w' : World} {p : Option Addr} {n c : Nat} {l : List Mac} (h : MacsIn w p n c l) (hb : Below w.heap.size w w') : MacsIn w' p n c l := ⟨h.at_.below hb, h.small⟩
/-- what newTable answers -/
def NewPost (w : World) (l : List Mac) (e : Ending) (w' : World) : Prop :=
  (∃ v, e = .returned (.tuple #[v, .int .i64 (tabE okM l)]) ∧ ((tabE okM l ≠ 0 ∧ v = .map none) ∨ (tabE okM l = 0 ∧ ∃ B eb uv st, v = .map (some B) ∧ TabW w' B w.heap.size l eb uv st ∧ ∀ n ∈ namesM l, st n = 2))) ∧ Below w.heap.size w w'
theorem namesM_snoc (l : List Mac) (m : Mac) : namesM (l ++ [m]) = namesM l ++ [m.1] := by unfold namesM; rw [List.map_append]; rfl
theorem mb1 (w : World) (o : Obj) : Below w.heap.size w (w.alloc o) := (Below.refl _ _).alloc (Nat.le_refl _) _
/-- one entry more -/
theorem TabW.more {w w' w2 : World} {B lo : Nat} {l : List Mac} {eb : Bs → Nat} {uv : Bs → Value} {m : Mac} (h : TabW w B lo l eb uv (fun _ => 0)) (hno : m.1 ∉ namesM l) (hlo : lo ≤ w.heap.size) {v : Value}
    (hw' : w' = w.alloc (.cells (entC m.2 v 0 none) 141)) (hown : w.ownsRow lo 9 1 v (usesM (prs okM m.2).1).length (strsV (usesM (prs okM m.2).1)))
    (hg : w'.grownBy w2 (some B)) (hm : ∃ N, MapP w2 B N (m.1 :: namesM l) (updM (ptrAt (namesM l) eb) m.1 (.pointer (some ⟨w.heap.size, 0, none⟩))) ∧ N ≤ l.length + 1) :
    TabW w2 B lo (l ++ [m]) (updM eb m.1 w.heap.size) (updM uv m.1 v) (fun _ => 0) := by
  have hBm : ∀ {b : Nat} {cs : Array Value} {t : TypeId} {fz : Nat × Nat}, w.heap[b]? = some (.cells cs t fz) → B ≠ b := by
    intro b cs t fz hb
    obtain ⟨N, h1, _⟩ := h.map
    exact map_ne h1 hb
  have hBlt : B < w.heap.size := by
    obtain ⟨N, h1, _⟩ := h.map
    exact h1.lt
  have hal : w.grownBy w' none := by rw [hw']; exact World.grownBy_alloc _ _ _
  have hx : ∀ x ∈ l, x.1 ≠ m.1 := fun x hx e => hno (e ▸ List.mem_map_of_mem hx)
  have hnew : w2.heap[w.heap.size]? = some (.cells (entC m.2 v 0 none) 141 (0, 0)) := by
    rw [hg.block _ (by rw [hw']; simp) (fun e => by injection e with e; omega), hw']
    exact mhan _ _
  refine ⟨?_, fun x hx' => ?_, fun x hx' => ?_, fun x hx' => ?_, fun x hx' y hy' e => ?_⟩
  · obtain ⟨N, h1, h2⟩ := hm
    refine ⟨N, ?_, by rw [List.length_append]; exact h2⟩
    obtain ⟨D, d1, d2, d3⟩ := h1
    refine ⟨D, d1, fun s => ?_, fun s => ?_⟩
    · rw [d2]
      congr 1
      unfold ptrAt
      by_cases e : s = m.1
      · rw [e, updM_same, updM_same, if_pos (by rw [namesM_snoc]; simp)]
      · rw [updM_other _ _ e, updM_other _ _ e, namesM_snoc]
        simp only [List.mem_append, List.mem_singleton, e, or_false]
    · rw [d3, namesM_snoc]
      simp [or_comm]
  · rcases List.mem_append.1 hx' with g1 | g1
    · rw [updM_other _ _ (hx x g1), updM_other _ _ (hx x g1)]
      have h1 := h.ent x g1
      rw [hg.block _ (Nat.lt_of_lt_of_le (mlt h1) hal.size) (fun e => by injection e with e; exact hBm h1 e.symm), hal.block _ (mlt h1) (by simp), h1]
      rfl
    · rw [List.mem_singleton.1 g1, updM_same, updM_same]
      exact hnew
  · rcases List.mem_append.1 hx' with g1 | g1
    · rw [updM_other _ _ (hx x g1)]
      have h1 := own_none (h.uses x g1) hal
      refine h1.kept hg ?_
      cases hq : (uv x.1).ownBlock with
      | none => exact .inl rfl
      | some k =>
        refine .inr (fun e => ?_)
        rcases (h.uses x g1).2 with ⟨e2, _⟩ | ⟨g, cap, cur, e2, _, hgb, _⟩
        · rw [e2] at hq; cases hq
        · rw [e2] at hq
          simp only [Value.ownBlock, Option.some.injEq] at hq e
          exact hBm hgb (by omega)
    · rw [List.mem_singleton.1 g1, updM_same]
      have h1 := own_none hown hal
      refine h1.kept hg ?_
      cases hq : v.ownBlock with
      | none => exact .inl rfl
      | some k =>
        refine .inr (fun e => ?_)
        rcases hown.2 with ⟨e2, _⟩ | ⟨g, cap, cur, e2, _, hgb, _⟩
        · rw [e2] at hq; cases hq
        · rw [e2] at hq
          simp only [Value.ownBlock, Option.some.injEq] at hq e
          exact hBm hgb (by omega)
  · rcases List.mem_append.1 hx' with g1 | g1
    · rw [updM_other _ _ (hx x g1)]; exact h.low x g1
    · rw [List.mem_singleton.1 g1, updM_same]; exact hlo
  · rcases List.mem_append.1 hx' with g1 | g1
    · rcases List.mem_append.1 hy' with g2 | g2
      · rw [updM_other _ _ (hx x g1), updM_other _ _ (hx y g2)] at e
        exact h.inj x g1 y g2 e
      · rw [List.mem_singleton.1 g2, updM_same, updM_other _ _ (hx x g1)] at e
        have := mlt (h.ent x g1)
        omega
    · rcases List.mem_append.1 hy' with g2 | g2
      · rw [List.mem_singleton.1 g1, updM_same, updM_other _ _ (hx y g2)] at e
        have := mlt (h.ent y g2)
        omega
      · rw [List.mem_singleton.1 g1, List.mem_singleton.1 g2]
theorem TabW.made (w : World) (lo : Nat) : TabW (w.alloc (.map #[] 0)) w.heap.size lo [] (fun _ => 0) (fun _ => nilP) (fun _ => 0) := by
  refine ⟨⟨0, ?_, Nat.le_refl _⟩, fun _ h => (by cases h), fun _ h => (by cases h), fun _ h => (by cases h), fun _ h => (by cases h)⟩
  exact MapP.made w
end Go.Proofs.YtoiolepengcagaaGreatDoor
namespace Go.Proofs.YtoiolepengcagaaGreatDoor
open Go.RowKit Go.Shelf Go.Maps
theorem loop1_at {l : List Mac} {k : Nat} {m : Mac} (h : l[k]? = some m) (seen : List Bs) : loop1 okM seen (l.drop k) = if okM m.1 = false ∨ (prs okM m.2).2 = false then 3 else if m.1 ∈ seen then 6 else loop1 okM (m.1 :: seen) (l.drop (k + 1)) := by
  obtain ⟨hk, e⟩ := List.getElem?_eq_some_iff.1 h
  rw [List.drop_eq_getElem_cons hk, e, loop1]
theorem take_snoc {α : Type} {l : List α} {k : Nat} {m : α} (h : l[k]? = some m) : l.take (k + 1) = l.take k ++ [m] := by rw [List.take_add_one, h]; rfl
theorem tabE_1 {l : List Mac} (h : ¬ 40 < l.length) (h1 : loop1 okM [] l ≠ 0) : tabE okM l = loop1 okM [] l := by unfold tabE; rw [if_neg h, if_pos h1]
theorem tabE_5 {l : List Mac} (h : ¬ 40 < l.length) (h1 : loop1 okM [] l = 0) (h2 : Lacks okM l) : tabE okM l = 5 := by unfold tabE; rw [if_neg h, if_neg (by rw [h1]; decide), if_pos h2]
theorem tabE_8 {l : List Mac} (h : ¬ 40 < l.length) (h1 : loop1 okM [] l = 0) (h2 : ¬ Lacks okM l) (h3 : Rings okM l) : tabE okM l = 8 := by unfold tabE; rw [if_neg h, if_neg (by rw [h1]; decide), if_neg h2, if_pos h3]
theorem okM_bad {n : Bs} (h : okM n = false) : nameE (txt n) = 3 := by
  rcases nameE_cases (txt n) with h1 | h1
  · unfold okM at h; rw [h1] at h; cases h
  · exact h1
theorem okM_good {n : Bs} (h : okM n = true) : nameE (txt n) = 0 := by unfold okM at h; simpa using h
theorem prsF_call {f : Nat} : ∀ {s u : Bs}, Tok.c u ∈ (prsF okM f s).1 → okM u = true := by
  induction f with
  | zero => intro s u h; simp [prsF] at h
  | succ f ih =>
    intro s u h
    rw [prsF] at h
    split at h
    · simp at h
    · simp at h
    · split at h
      · simp only [List.mem_cons, reduceCtorEq, false_or] at h; exact ih h
      · split at h
        · split at h
          · simp at h
          · rename_i n r' _
            split at h
            · rename_i hok
              simp only [List.mem_cons, reduceCtorEq, false_or] at h
              rcases h with h | h
              · injection h with h; rw [h]; exact hok
              · exact ih h
            · simp at h
        · simp at h
theorem prs_ok_call {s u : Bs} (h : u ∈ callsOf (prs okM s).1) : okM u = true := prsF_call (callsOf_mem.1 h)
set_option maxHeartbeats 8000000 in
set_option maxRecDepth 100000 in
theorem newTable_ok (p : Option Addr) (n c : Nat) (l : List Mac) (w : World) (hR : MacsIn w p n c l) (hM : MLm w) : Calls Tryz.prog 107 #[.slice p n c] w (NewPost w l) := by
  have hl := hR.at_.len
  subst hl
  have hgl : 0 < w.heap.size := by obtain ⟨q, hq⟩ := hM; exact World.block_lt_of_cell? w _ hq
  have HN := Lib.hid (fun u (hu : Below w.heap.size w u) => hR.at_.below hu)
  have HMB := Lib.hid (fun u (hu : Below w.heap.size w u) => hM.below hu)
  have HSM := Lib.hid hR.small
  clear hR hM
  by_cases h40 : 40 < l.length
  · have HE : Hid (tabE okM l = 2) := by show _ = _; unfold tabE; rw [if_pos h40]
    have h40i : (40 : Int) < (l.length : Int) := by omega
    go_enter Tryz.func107, Tryz.ntmps107
    go_wp2
    go_ret2
    exact ⟨⟨.map none, by rw [HE.out]; rfl, .inl ⟨by rw [HE.out]; decide, rfl⟩⟩, Below.refl _ _⟩
  have h40i : ¬ (40 : Int) < (l.length : Int) := by omega
  have hmk := @run_makeMap Tryz.prog
  have HTM := Lib.hid (TabW.made w w.heap.size)
  have HW1 : Hid (Below w.heap.size w (w.alloc (.map #[] 0))) := mb1 w _
  go_enter Tryz.func107, Tryz.ntmps107
  go_wp2
  go_loopw [21] (fun i wr => ∃ (j : Nat) (eb : Bs → Nat) (uv : Bs → Value), j ≤ l.length ∧ i = .int .i64 j ∧ Hid (Below w.heap.size w wr) ∧ Hid (TabW wr w.heap.size w.heap.size (l.take j) eb uv (fun _ => 0)) ∧
    Hid (loop1 okM [] l = loop1 okM (namesM (l.take j)).reverse (l.drop j))) (fun i _ => l.length - (intOf i).toNat)
  case atStart => exact ⟨0, _, _, Nat.zero_le _, rfl, HW1, HTM, rfl⟩
  case round =>
    obtain ⟨j, eb, uv, hj, rfl, HB, HT, HL1⟩ := hrel
    by_cases hlt : j < l.length
    · have hel := List.getElem?_eq_getElem hlt
      obtain ⟨b, o, rfl, hb, c1, c2⟩ := (HN.out _ HB.out).cell hel
      have hsm := HSM.out _ (List.getElem_mem hlt)
      have HL2 := HL1.out
      rw [loop1_at hel] at HL2
      have HL3 := Lib.hid HL2
      have HTK := Lib.hid (take_snoc hel)
      rw [← Nat.add_assoc] at c2
      clear hel HL2
      generalize l[j] = m at *
      obtain ⟨m1, m2⟩ := m
      simp only [mF, mG] at c1 c2 hsm HL3 HTK
      have hji : (j : Int) < (l.length : Int) := by omega
      obtain ⟨W0, hW0⟩ : ∃ W0, W0 = wr.alloc (.cells #[.string (txt m1), .string (txt m2)] 86) := ⟨_, rfl⟩
      have hb0 : Below wr.heap.size wr W0 := by rw [hW0]; exact mb1 wr _
      have k1 : W0.cell? ⟨wr.heap.size, 0, none⟩ = some (.string (txt m1)) := by rw [hW0, World.cell?_alloc_at _ _ _ _ rfl]; rfl
      have k2 : W0.cell? ⟨wr.heap.size, 1, none⟩ = some (.string (txt m2)) := by rw [hW0, World.cell?_alloc_at _ _ _ _ rfl]; rfl
      have hs0 : wr.heap.size < W0.heap.size := by rw [hW0]; simp
      have HB0 : Hid (Below w.heap.size w W0) := HB.out.trans (hb0.mono HB.out.size)
      have HT0 := Lib.hid (HT.out.below hb0)
      have HU := Lib.hid (Uses_ok m2 hsm.2 W0 (HMB.out _ HB0.out))
      have HCK := Lib.hid (CheckN_ok (txt m1) (by rw [txt_size]; omega))
      have hwr0 := HB.out.size
      clear hb0 HT
      by_cases hok : okM m1 = true ∧ (prs okM m2).2 = true
      · obtain ⟨hok1, hok2⟩ := hok
        have HNE := Lib.hid (okM_good hok1)
        have HU2 : Hid (Calls Tryz.prog 75 #[.string (txt m2)] W0 fun e w' => (∃ v, e = .returned (.tuple #[v, .int .i64 0]) ∧ w'.ownsRow W0.heap.size 9 1 v (usesM (prs okM m2).1).length (strsV (usesM (prs okM m2).1))) ∧ Below W0.heap.size W0 w') := by
          show Calls _ _ _ _ _
          refine HU.out.mono ?_
          rintro e w' ⟨⟨v, rfl, hv⟩, hb⟩
          have hue : usesE m2 = 0 := by unfold usesE; rw [if_pos hok2]
          rw [hue] at hv ⊢
          exact ⟨⟨v, rfl, (hv.resolve_right (fun h => absurd rfl h.1)).2⟩, hb⟩
        clear HU
        have hxm : (txt m1).size ≤ maxLen := by have := okM_few hok1; rw [txt_size]; unfold maxLen; omega
        have HL4 : Hid (loop1 okM [] l = if m1 ∈ (namesM (l.take j)).reverse then 6 else loop1 okM (m1 :: (namesM (l.take j)).reverse) (l.drop (j + 1))) := by
          show _ = _
          rw [HL3.out, if_neg]
          rw [hok1, hok2]
          simp
        by_cases hin : m1 ∈ namesM (l.take j)
        · have HE : Hid (tabE okM l = 6) := by
            show _ = _
            have h6 : loop1 okM [] l = 6 := by rw [HL4.out, if_pos (List.mem_reverse.2 hin)]
            rw [tabE_1 h40 (by rw [h6]; decide), h6]
          have HIN := Lib.hid hin
          clear hok1 hok2 hin
          go_upto_region 7 with fail
          rw [← hW0]
          clear hW0
          go_wp2_with (first
            | (go_at_call 75; refine HU2.out.mono ?_; rintro e w1 ⟨⟨v, rfl, hv⟩, hb⟩; have k11 := (hb.cell (p := ⟨wr.heap.size, 0, none⟩) hs0).trans k1; obtain ⟨⟨Nn, hmp⟩, hht⟩ := (HT0.out.below hb).look HIN.out; have HMp := Lib.hid hmp; have HB1 := Lib.hid hb; clear hb hv hmp)
            | (go_at_call 28; refine (HCK.out _).mono ?_; rw [HNE.out]; rintro e w2 ⟨rfl, rfl⟩)
            | (at_lookup; refine look_p _ rfl _ _ rfl rfl HMp.out (txt m1) rfl hxm ?_; rw [hht]))
          go_ret2
          exact ⟨⟨.map none, by rw [HE.out]; rfl, .inl ⟨by rw [HE.out]; decide, rfl⟩⟩, HB0.out.trans (HB1.out.mono HB0.out.size)⟩
        · have HNI := Lib.hid hin
          have HL5 : Hid (loop1 okM [] l = loop1 okM (namesM (l.take (j + 1))).reverse (l.drop (j + 1))) := by
            show _ = _
            rw [HL4.out, if_neg (fun h => hin (List.mem_reverse.1 h)), HTK.out, namesM_snoc, List.reverse_append]
            rfl
          have hht : ptrAt (namesM (l.take j)) eb (txt m1).data.toList = nilP := by rw [txt_list]; unfold ptrAt; rw [if_neg hin]
          have hnil : nilP = .pointer none := rfl
          clear hok1 hok2 hin
          go_upto_region 7 with fail
          rw [← hW0]
          clear hW0
          go_upto_region 12 with (first
            | (go_at_call 75; refine HU2.out.mono ?_; rintro e w1 ⟨⟨v, rfl, hv⟩, hb⟩; have k11 := (hb.cell (p := ⟨wr.heap.size, 0, none⟩) hs0).trans k1; have k12 := (hb.cell (p := ⟨wr.heap.size, 1, none⟩) hs0).trans k2; have ht1 := HT0.out.below hb; obtain ⟨Nn, hmp, hnn⟩ := ht1.map; have HMp := Lib.hid hmp; have HT1 := Lib.hid ht1; have HB1 := Lib.hid hb; obtain ⟨gv, cv, rfl⟩ := mown_form hv; have HV := Lib.hid hv; clear hb hv hmp ht1)
            | (go_at_call 28; refine (HCK.out _).mono ?_; rw [HNE.out]; rintro e w2 ⟨rfl, rfl⟩)
            | (at_lookup; refine look_p _ rfl _ _ rfl rfl HMp.out (txt m1) rfl hxm ?_; rw [hht, hnil]))
          have HMA : Hid (∀ o, MapP (w1.alloc o) w.heap.size Nn (namesM (l.take j)) (ptrAt (namesM (l.take j)) eb)) := fun o => HMp.out.kept (World.grownBy_alloc _ _ none) (by simp)
          have hnl : Nn ≤ j := by rw [List.length_take] at hnn; omega
          have hnm : Nn < maxLen := by unfold maxLen; omega
          go_wp2_with (at_mapUpdate; refine store_p _ rfl _ _ _ rfl rfl (HMA.out _) hnm (txt m1) rfl hxm _ rfl ?_; intro w5 h1 h2; have HM5 := Lib.hid h1; have HG5 := Lib.hid h2; clear h1 h2)
          go_roundw
          case rel =>
            refine ⟨j + 1, updM eb m1 w1.heap.size, updM uv m1 (.slice gv (usesM (prs okM m2).1).length cv), by omega, by go_num, ?_, ?_, HL5⟩
            · have h1 := HB0.out.trans (HB1.out.mono HB0.out.size)
              exact (h1.alloc h1.size _).grown HG5.out (by have := (h1.alloc h1.size (.cells (entC m2 (.slice gv (usesM (prs okM m2).1).length cv) 0 none) 141)).size; exact this) (fun k hk => by cases hk; exact Nat.le_refl _)
            · show TabW _ _ _ _ _ _ _
              rw [HTK.out]
              have h1 := HB0.out.trans (HB1.out.mono HB0.out.size)
              refine HT1.out.more (m := (m1, m2)) HNI.out h1.size rfl (own_low HV.out HB0.out.size) HG5.out ⟨Nn + 1, ?_, by rw [List.length_take] at hnn ⊢; omega⟩
              have := HM5.out
              rw [txt_list] at this
              exact this
          case measure => simp [intOf]; omega
      · have HE : Hid (tabE okM l = 3) := by
          show _ = _
          have h3 : loop1 okM [] l = 3 := by
            rw [HL3.out, if_pos]
            by_cases h1 : okM m1 = true
            · exact .inr (by
                have : ¬ (prs okM m2).2 = true := fun h2 => hok ⟨h1, h2⟩
                simpa using this)
            · exact .inl (by simpa using h1)
          rw [tabE_1 h40 (by rw [h3]; decide), h3]
        by_cases h1 : okM m1 = true
        · have HNE := Lib.hid (okM_good h1)
          have HUE : Hid (usesE m2 = 3) := by show _ = _; unfold usesE; rw [if_neg (fun h2 => hok ⟨h1, h2⟩)]
          have HU2 : Hid (Calls Tryz.prog 75 #[.string (txt m2)] W0 fun e w' => (∃ v, e = .returned (.tuple #[v, .int .i64 3]) ∧ v = .slice none 0 0) ∧ Below W0.heap.size W0 w') := by
            show Calls _ _ _ _ _
            refine HU.out.mono ?_
            rintro e w' ⟨⟨v, rfl, hv⟩, hb⟩
            rw [HUE.out] at hv ⊢
            exact ⟨⟨v, rfl, (hv.resolve_left (fun h => absurd h.1 (by decide))).2⟩, hb⟩
          clear HU
          clear hok h1
          go_upto_region 7 with fail
          rw [← hW0]
          clear hW0
          go_wp2_with (first
            | (go_at_call 75; refine HU2.out.mono ?_; rintro e w1 ⟨⟨v, rfl, hv⟩, hb⟩; have k11 := (hb.cell (p := ⟨wr.heap.size, 0, none⟩) hs0).trans k1; have HB1 := Lib.hid hb; clear hb hv)
            | (go_at_call 28; refine (HCK.out _).mono ?_; rw [HNE.out]; rintro e w2 ⟨rfl, rfl⟩))
          go_ret2
          exact ⟨⟨.map none, by rw [HE.out]; rfl, .inl ⟨by rw [HE.out]; decide, rfl⟩⟩, HB0.out.trans (HB1.out.mono HB0.out.size)⟩
        · have HNE := Lib.hid (okM_bad (by simpa using h1))
          clear hok h1
          generalize usesE m2 = ue at *
          go_upto_region 7 with fail
          rw [← hW0]
          clear hW0
          go_wp2_with (first
            | (go_at_call 75; refine HU.out.mono ?_; rintro e w1 ⟨⟨v, rfl, hv⟩, hb⟩; have k11 := (hb.cell (p := ⟨wr.heap.size, 0, none⟩) hs0).trans k1; have HB1 := Lib.hid hb; clear hb hv)
            | (go_at_call 28; refine (HCK.out _).mono ?_; rw [HNE.out]; rintro e w2 ⟨rfl, rfl⟩))
          go_ret2
          exact ⟨⟨.map none, by rw [HE.out]; rfl, .inl ⟨by rw [HE.out]; decide, rfl⟩⟩, HB0.out.trans (HB1.out.mono HB0.out.size)⟩
    · obtain rfl : j = l.length := by omega
      have HZ : Hid (loop1 okM [] l = 0) := by show _ = _; rw [HL1.out, List.drop_length]; rfl
      rw [List.take_length] at HT
      have hz := (loop1_zero (ok := okM) l []).1 HZ.out
      have HR := Lib.hid hz.1
      have hnd := hz.2.1
      have HND := Lib.hid hnd
      clear hz HL1 hlt hj hmk HTM HW1 hnd
      have hba := HB.out.size
      generalize wr = wa at *
      go_wp2
      go_loopw [57] (fun i wr => ∃ (j : Nat), j ≤ l.length ∧ i = .int .i64 j ∧ Hid (Below wa.heap.size wa wr) ∧ Hid (∀ i m, i < j → l[i]? = some m → ∀ u ∈ callsOf (prs okM m.2).1, u ∈ namesM l)) (fun i _ => l.length - (intOf i).toNat)
      case atStart => exact ⟨0, Nat.zero_le _, rfl, Below.refl _ _, fun i m h => by omega⟩
      case round =>
        obtain ⟨j, hj, rfl, HBr, HS⟩ := hrel
        by_cases hlt : j < l.length
        · have hel := List.getElem?_eq_getElem hlt
          obtain ⟨b, o, rfl, hb, c1, c2⟩ := (HN.out _ (HB.out.trans (HBr.out.mono HB.out.size))).cell hel
          have hmem := List.getElem_mem hlt
          have HEL := Lib.hid hel
          rw [← Nat.add_assoc] at c2
          clear hel
          generalize l[j] = m at *
          obtain ⟨m1, m2⟩ := m
          have hmn : m1 ∈ namesM l := List.mem_map.2 ⟨(m1, m2), hmem, rfl⟩
          simp only [mF, mG] at c1 c2
          have hji : (j : Int) < (l.length : Int) := by omega
          have hok1 : okM m1 = true := (HR.out _ hmem).1
          have hxm : (txt m1).size ≤ maxLen := by have := okM_few hok1; rw [txt_size]; unfold maxLen; omega
          obtain ⟨W0, hW0⟩ : ∃ W0, W0 = wr.alloc (.cells #[.string (txt m1), .string (txt m2)] 86) := ⟨_, rfl⟩
          have hb0 : Below wr.heap.size wr W0 := by rw [hW0]; exact mb1 wr _
          have k1 : W0.cell? ⟨wr.heap.size, 0, none⟩ = some (.string (txt m1)) := by rw [hW0, World.cell?_alloc_at _ _ _ _ rfl]; rfl
          have HB0 : Hid (Below wa.heap.size wa W0) := HBr.out.trans (hb0.mono HBr.out.size)
          have hT0 := HT.out.below HB0.out
          obtain ⟨⟨Nn, hmp⟩, hht⟩ := hT0.look hmn
          have HMp := Lib.hid hmp
          have hent := hT0.ent _ hmem
          have hent2 : W0.heap[eb m1]? = some (.cells #[.string (txt m2), uv m1, .int .i64 0, .string (txt []), .bool false] 141 (0, 0)) := hent
          have hrow := hT0.uses _ hmem
          simp only at hrow
          obtain ⟨_, q1, _⟩ := mx5 hent2
          have HMEM := Lib.hid (fun z (hz : z ∈ usesM (prs okM m2).1) => usesM_txt hz)
          have HALL := Lib.hid (fun u (hu : u ∈ callsOf (prs okM m2).1) => usesM_mem.2 hu)
          have hul := usesM_len m2
          have hsm := (HSM.out _ hmem).2
          simp only at hsm
          have HSH : Hid (∀ u ∈ callsOf (prs okM m2).1, u ∈ namesM l ∨ u ∉ namesM l) := fun u _ => Classical.em _
          generalize hU : usesM (prs okM m2).1 = U at *
          obtain ⟨g, cv, hgc⟩ := mown_form hrow
          rw [hgc] at q1 hrow
          have HRow := Lib.hid hrow
          have HME := Lib.hid hmem
          clear hgc hrow hent hent2 hmp hT0 hb0 hmem hmn
          go_upto_region 17 with fail
          rw [← hW0]
          clear hW0
          go_wp2_with (at_lookup; refine look_p _ rfl _ _ rfl rfl HMp.out (txt m1) rfl hxm ?_; rw [hht])
          go_loopw [69] (fun i wq => ∃ (q : Nat), q ≤ U.length ∧ i = .int .i64 q ∧ wq = W0 ∧ Hid (∀ i z, i < q → U[i]? = some z → z.data.toList ∈ namesM l)) (fun i _ => U.length - (intOf i).toNat)
          case atStart => exact ⟨0, Nat.zero_le _, rfl, rfl, fun i z h => by omega⟩
          case round =>
            obtain ⟨q, hq, rfl, rfl, HQ⟩ := hrel
            by_cases hqt : q < U.length
            · have heq := List.getElem?_eq_getElem hqt
              have hrow := HRow.out
              have hg : ∃ gb, g = some ⟨gb, 0, none⟩ := by
                rcases hrow.2 with ⟨_, h⟩ | ⟨gb, cap, cur, e, _⟩
                · omega
                · injection e with e1 _ _
                  exact ⟨gb, e1⟩
              obtain ⟨gb, rfl⟩ := hg
              have hcell := hrow.cells (g := gb) rfl q (.string U[q]) (by unfold strsV; rw [List.getElem?_map, heq]; rfl)
              rw [Addr.add_lit, Nat.zero_add] at hcell
              obtain ⟨u, hzu, hu⟩ := HMEM.out U[q] (List.getElem_mem hqt)
              rw [hzu] at hcell heq
              have HEQ := Lib.hid heq
              have HUU := Lib.hid hu
              have hum : (txt u).size ≤ maxLen := by
                have h1 := HRow.out
                have := prs_ok_call hu
                have := okM_few this
                rw [txt_size]; unfold maxLen; omega
              have hqi : (q : Int) < (U.length : Int) := by omega
              clear hrow heq hzu hu
              by_cases hin : u ∈ namesM l
              · have HIN := Lib.hid hin
                have hh2 : ptrAt (namesM l) eb (txt u).data.toList = .pointer (some ⟨eb u, 0, none⟩) := by rw [txt_list]; unfold ptrAt; rw [if_pos hin]
                clear hin
                go_wp2_with (at_lookup; refine look_p _ rfl _ _ rfl rfl HMp.out (txt u) rfl hum ?_; rw [hh2])
                go_roundw
                case rel =>
                  refine ⟨q + 1, by omega, by go_num, by first | exact trivial | rfl, ?_⟩
                  show ∀ i z, _
                  intro i z hi hz
                  rcases Nat.lt_or_ge i q with g1 | g1
                  · exact HQ.out i z g1 hz
                  · have : i = q := by omega
                    subst this
                    rw [HEQ.out] at hz
                    injection hz with hz
                    rw [← hz, txt_list]; exact HIN.out
                case measure => simp [intOf]; omega
              · have HE : Hid (tabE okM l = 5) := tabE_5 h40 HZ.out ⟨(m1, m2), HME.out, u, HUU.out, hin⟩
                have hh2 : ptrAt (namesM l) eb (txt u).data.toList = .pointer none := by rw [txt_list]; unfold ptrAt; rw [if_neg hin]; rfl
                clear hin
                go_wp2_with (at_lookup; refine look_p _ rfl _ _ rfl rfl HMp.out (txt u) rfl hum ?_; rw [hh2])
                go_ret2
                exact ⟨⟨.map none, by rw [HE.out]; rfl, .inl ⟨by rw [HE.out]; decide, rfl⟩⟩, HB.out.trans (HB0.out.mono HB.out.size)⟩
            · obtain rfl : q = U.length := by omega
              go_wp2
              go_roundw
              case rel =>
                refine ⟨j + 1, by omega, by go_num, HB0, ?_⟩
                show ∀ i m, _
                intro i m hi hm u hu
                rcases Nat.lt_or_ge i j with g1 | g1
                · exact HS.out i m g1 hm u hu
                · have : i = j := by omega
                  subst this
                  rw [HEL.out] at hm
                  injection hm with hm
                  subst hm
                  obtain ⟨z, hz, hze⟩ := List.getElem_of_mem (HALL.out u hu)
                  have := HQ.out z (txt u) hz (by rw [List.getElem?_eq_getElem hz, hze])
                  rwa [txt_list] at this
              case measure => simp [intOf]; omega
        · obtain rfl : j = l.length := by omega
          have hth : ∀ m ∈ l, ∀ u ∈ callsOf (prs okM m.2).1, u ∈ namesM l := fun m hm u hu => by
            obtain ⟨i, hi, rfl⟩ := List.getElem_of_mem hm
            exact HS.out i _ hi (List.getElem?_eq_getElem hi) u hu
          have hnl : ¬ Lacks okM l := by
            rintro ⟨m, hm, u, hu, hn⟩
            exact hn (hth m hm u hu)
          have HTH := Lib.hid hth
          have HNL := Lib.hid hnl
          have HT2 := Lib.hid (HT.out.below HBr.out)
          have HB2 := Lib.hid (HB.out.trans (HBr.out.mono HB.out.size))
          have hwork := work_ok w.heap.size w.heap.size l eb uv HND.out hth (fun m hm => (HSM.out m hm).2) (fun x hx => by
            obtain ⟨m, hm, rfl⟩ := List.mem_map.1 hx
            exact okM_few (HR.out m hm).1) hgl
          have HWK := Lib.hid hwork
          clear hwork hth hnl HT HS HB HBr hlt hj
          generalize wr = wd at *
          go_wp2
          go_loopw [81] (fun i wr => ∃ (j : Nat) (st : Bs → Nat), j ≤ l.length ∧ i = .int .i64 j ∧ Hid (Below w.heap.size w wr) ∧ Hid (TabW wr w.heap.size w.heap.size l eb uv st) ∧ Hid (DoneM l st) ∧ Hid (∀ y, st y ≠ 1) ∧ Hid (∀ i m, i < j → l[i]? = some m → st m.1 = 2)) (fun i _ => l.length - (intOf i).toNat)
          case atStart => exact ⟨0, fun _ => 0, Nat.zero_le _, rfl, HB2, HT2, ⟨fun n _ h => (by cases h), fun _ => Nat.zero_le _⟩, fun y h => (by cases h), fun i m h => absurd h (Nat.not_lt_zero _)⟩
          case round =>
            obtain ⟨j, st, hj, rfl, HBj, HTj, HDj, HOj, HSj⟩ := hrel
            by_cases hlt : j < l.length
            · have hel := List.getElem?_eq_getElem hlt
              obtain ⟨b, o, rfl, hb, c1, c2⟩ := (HN.out _ HBj.out).cell hel
              have hmem := List.getElem_mem hlt
              have HEL := Lib.hid hel
              rw [← Nat.add_assoc] at c2
              clear hel
              generalize l[j] = m at *
              obtain ⟨m1, m2⟩ := m
              have hmn : m1 ∈ namesM l := List.mem_map.2 ⟨(m1, m2), hmem, rfl⟩
              simp only [mF, mG] at c1 c2
              have hji : (j : Int) < (l.length : Int) := by omega
              obtain ⟨W0, hW0⟩ : ∃ W0, W0 = wr.alloc (.cells #[.string (txt m1), .string (txt m2)] 86) := ⟨_, rfl⟩
              have hb0 : Below wr.heap.size wr W0 := by rw [hW0]; exact mb1 wr _
              have k1 : W0.cell? ⟨wr.heap.size, 0, none⟩ = some (.string (txt m1)) := by rw [hW0, World.cell?_alloc_at _ _ _ _ rfl]; rfl
              have HB0 : Hid (Below w.heap.size w W0) := HBj.out.trans (hb0.mono HBj.out.size)
              have HCall := Lib.hid (HWK.out (count0 l st) st m1 W0 (Nat.le_refl _) hmn (HTj.out.below hb0) HDj.out (fun y _ h => absurd h (HOj.out y)) (HMB.out _ HB0.out) HB0.out.size)
              clear hb0 hmem hmn
              go_upto_region 27 with fail
              rw [← hW0]
              clear hW0
              go_wp2_with fail
              refine HCall.out.mono ?_
              rintro e w2 ⟨hres, hbb⟩
              have HB2' := Lib.hid (HB0.out.trans (hbb.mono (Nat.le_refl _)))
              clear hbb
              rcases hres with ⟨st2, rfl, h1, h2, h3, h4, h5⟩ | ⟨rfl, y, hy, hyy⟩
              · have HT3 := Lib.hid h1
                have HD3 := Lib.hid h2
                have HO3 : Hid (∀ y, st2 y ≠ 1) := fun y h => HOj.out y ((h5 y).1 h)
                have HS3 : Hid (∀ i m, i < j + 1 → l[i]? = some m → st2 m.1 = 2) := by
                  show ∀ i m, _
                  intro i m hi hm
                  rcases Nat.lt_or_ge i j with g1 | g1
                  · exact h4 _ (HSj.out i m g1 hm)
                  · have : i = j := by omega
                    subst this
                    rw [HEL.out] at hm
                    injection hm with hm
                    subst hm
                    exact h3
                clear h1 h2 h3 h4 h5
                go_wp2
                go_roundw
                case rel => exact ⟨j + 1, st2, by omega, by go_num, HB2', HT3, HD3, HO3, HS3⟩
                case measure => simp [intOf]; omega
              · have HE : Hid (tabE okM l = 8) := by
                  refine tabE_8 h40 HZ.out HNL.out ?_
                  obtain ⟨m, hm, rfl⟩ := List.mem_map.1 hy
                  exact ⟨m, hm, fun ⟨a, ha⟩ => ha.no_ring hyy⟩
                clear hyy hy
                go_wp2
                go_ret2
                exact ⟨⟨.map none, by rw [HE.out]; rfl, .inl ⟨by rw [HE.out]; decide, rfl⟩⟩, HB2'.out⟩
            · obtain rfl : j = l.length := by omega
              have hall : ∀ x ∈ namesM l, st x = 2 := fun x hx => by
                obtain ⟨m, hm, rfl⟩ := List.mem_map.1 hx
                obtain ⟨i, hi, rfl⟩ := List.getElem_of_mem hm
                exact HSj.out i _ hi (List.getElem?_eq_getElem hi)
              have HE : Hid (tabE okM l = 0) := tabE_zero.2 ⟨by omega, HR.out, HND.out, HTH.out, fun m hm => ⟨_, HDj.out.1 m.1 (List.mem_map_of_mem hm) (hall _ (List.mem_map_of_mem hm))⟩⟩
              have HALL := Lib.hid hall
              clear hall
              go_wp2
              go_ret2
              exact ⟨⟨.map (some w.heap.size), by rw [HE.out]; rfl, .inr ⟨HE.out, w.heap.size, eb, uv, st, rfl, HTj.out, HALL.out⟩⟩, HBj.out⟩
end Go.Proofs.YtoiolepengcagaaGreatDoor
