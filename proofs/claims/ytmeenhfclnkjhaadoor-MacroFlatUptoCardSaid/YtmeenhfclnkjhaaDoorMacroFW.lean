/- The walk of (macro.table).flat. Conditions: the text is at most 2^20 bytes; what it calls for is in the table, worked out. -/
import Derived.Test.YtmeenhfclnkjhaaDoorMapP
import Derived.Test.YtmeenhfclnkjhaaDoorShelfS
import Derived.StillTailTactics
import Derived.Deep.QuietTactic
import Derived.BigQuiet
import Derived.Deep.RegionWith
namespace Go.Proofs.YtmeenhfclnkjhaaDoor
open Go.RowKit Go.Shelf
/-- what is put together so far: lg: it is too large -/
structure FlatS (base ob lb : Nat) (lg : Bool) (bs : Bs) (W : World) : Prop where
  flag : W.heap[lb]? = some (.cells #[.bool lg] 4 (0, 0))
  bld : lg = false → Lib.IsBuilderF 93 5 base ob (Lib.byteCells bs) W
  few : lg = false → bs.length ≤ 2000
theorem mbld_below {T e : TypeId} {B b : Nat} {bs : List Value} {w w' : World} (h : Lib.IsBuilderF T e B b bs w) (hb : Below w.heap.size w w') : Lib.IsBuilderF T e B b bs w' := by
  have key : ∀ p, Lib.BuilderAtF T e B b p bs w → Lib.BuilderAtF T e B b p bs w' := by
    rintro p ⟨h1, v, h2, h3, h4⟩
    refine ⟨h1, v, (hb.block b (mlt h2)).trans h2, ?_, h4⟩
    obtain ⟨h5, h6⟩ := h3
    refine ⟨h5, ?_⟩
    rcases h6 with h6 | ⟨g, cap, cur, fz, e1, e2, e3, rest⟩
    · exact .inl h6
    · exact .inr ⟨g, cap, cur, fz, e1, e2, (hb.block g (mlt e3)).trans e3, rest⟩
  exact h.elim (fun x => .inl (key _ x)) (fun x => .inr (key _ x))
theorem mbld_set {T e : TypeId} {B b lb : Nat} {bs : List Value} {w : World} {u v0 : Value} {t : TypeId} (h : Lib.IsBuilderF T e B b bs w) (hl : w.heap[lb]? = some (.cells #[v0] t (0, 0))) (hne : lb ≠ b) (ht : t ≠ e) : Lib.IsBuilderF T e B b bs (w.setCell ⟨lb, 0, none⟩ u) := by
  have key : ∀ p, Lib.BuilderAtF T e B b p bs w → Lib.BuilderAtF T e B b p bs (w.setCell ⟨lb, 0, none⟩ u) := by
    rintro p ⟨h1, v, h2, h3, h4⟩
    refine ⟨h1, v, mset_other h2 (fun e => hne e.symm), ?_, h4⟩
    obtain ⟨h5, h6⟩ := h3
    refine ⟨h5, ?_⟩
    rcases h6 with h6 | ⟨g, cap, cur, fz, e1, e2, e3, rest⟩
    · exact .inl h6
    · refine .inr ⟨g, cap, cur, fz, e1, e2, mset_other e3 (fun e4 => ?_), rest⟩
      have e5 : g = lb := e4
      subst e5
      rw [hl] at e3
      simp only [Option.some.injEq, Obj.cells.injEq] at e3
      exact ht e3.2.1
  exact h.elim (fun x => .inl (key _ x)) (fun x => .inr (key _ x))
/-- what a put leaves alone -/
def PutKept (base ob lb : Nat) (W W' : World) : Prop := Below base W W' ∧ ∀ k o, W.heap[k]? = some o → k ≠ ob → k ≠ lb → (∀ c fz, o ≠ .cells c 5 fz) → W'.heap[k]? = some o
set_option maxHeartbeats 2000000 in
theorem put_ok (base ob lb : Nat) (lg : Bool) (bs x : Bs) (w : World) (h : FlatS base ob lb lg bs w) (hlb : base ≤ lb) (hne : lb ≠ ob) :
    Calls Tryd.prog 53 (#[.string (txt x)] ++ #[.pointer (some ⟨lb, 0, none⟩), .pointer (some ⟨ob, 0, none⟩)]) w fun e w' => e = .returned (.tuple #[]) ∧ FlatS base ob lb (lg || decide (2000 < (bs ++ x).length)) (bs ++ x) w' ∧ PutKept base ob lb w w' := by
  obtain ⟨c1, f1⟩ := mx1 h.flag
  have HS := Lib.hid h
  have hsz := mlt h.flag
  have hxs : (txt x).size = x.length := txt_size x
  show Calls _ _ #[.string (txt x), .pointer (some ⟨lb, 0, none⟩), .pointer (some ⟨ob, 0, none⟩)] _ _
  have HK : Hid (∀ (W : World) (u : Value), Below base w W → (∀ k o, w.heap[k]? = some o → k ≠ ob → k ≠ lb → (∀ c fz, o ≠ .cells c 5 fz) → W.heap[k]? = some o) → PutKept base ob lb w (W.setCell ⟨lb, 0, none⟩ u)) := by
    show ∀ _ _, _
    intro W u h1 h2
    exact ⟨h1.setCell hlb _, fun k o hk n1 n2 n3 => mset_other (h2 k o hk n1 n2 n3) n2⟩
  cases lg
  · have hfew := h.few rfl
    have HL : Hid (Calls Tryd.prog 54 #[.pointer (some ⟨ob, 0, none⟩)] w fun e w' => e = .returned (.int .i64 bs.length) ∧ w' = w) := by
      show Calls _ _ _ _ _
      have := Tryd.Builder_Len_f _ _ _ _ (h.bld rfl)
      rwa [Lib.byteCells_length] at this
    have hw : IntKind.i64.wrap (2000 - (bs.length : Int)) = 2000 - (bs.length : Int) := IntWalk.i64_in _ (by omega)
    clear h
    by_cases hg : 2000 < bs.length + x.length
    · have hgt : (2000 - (bs.length : Int)) < (x.length : Int) := by omega
      have hgd : decide ((2000 - (bs.length : Int)) < (x.length : Int)) = true := decide_eq_true hgt
      have HD : Hid (decide (2000 < (bs ++ x).length) = true) := by show _ = _; rw [List.length_append]; exact decide_eq_true hg
      go_enter Tryd.func53, Tryd.ntmps53
      go_wp2_with (go_at_call 54; refine HL.out.mono ?_; rintro e w1 ⟨rfl, hw1⟩; rw [hw1]; clear hw1)
      first | (refine bodyPost_ret (results_none rfl _ _ _) rfl ?_) | (refine bodyPost_end (results_none rfl _ _ _) rfl ?_)
      refine ⟨rfl, ?_, HK.out w _ (Below.refl _ _) (fun k o hk _ _ _ => hk)⟩
      rw [HD.out]
      exact ⟨mx1_set HS.out.flag _, fun h => (by cases h), fun h => (by cases h)⟩
    · have hgt : ¬ ((2000 - (bs.length : Int)) < (x.length : Int)) := by omega
      have hgd : decide ((2000 - (bs.length : Int)) < (x.length : Int)) = false := decide_eq_false hgt
      have HD : Hid (decide (2000 < (bs ++ x).length) = false) := by show _ = _; rw [List.length_append]; exact decide_eq_false (by omega)
      obtain ⟨W1, hW1⟩ : ∃ W1, W1 = w.setCell ⟨lb, 0, none⟩ (.bool false) := ⟨_, rfl⟩
      have HF1 : Hid (W1.heap[lb]? = some (.cells #[.bool false] 4 (0, 0))) := by show _ = _; rw [hW1]; exact mx1_set HS.out.flag _
      have HB1 : Hid (Lib.IsBuilderF 93 5 base ob (Lib.byteCells bs) W1) := by show Lib.IsBuilderF _ _ _ _ _ _; rw [hW1]; exact mbld_set (HS.out.bld rfl) HS.out.flag hne (by decide)
      have HW1 : Hid (Below base w W1) := by show Below _ _ _; rw [hW1]; exact (Below.refl _ _).setCell hlb _
      have HP1 : Hid (PutKept base ob lb w W1) := by show PutKept _ _ _ _ _; rw [hW1]; exact HK.out w _ (Below.refl _ _) (fun k o hk _ _ _ => hk)
      have c2 := (mx1 HF1.out).1
      have HWS : Hid (Calls Tryd.prog 55 #[.pointer (some ⟨ob, 0, none⟩), .string (txt x)] W1 fun e w' => (∃ v, e = .returned v) ∧ FlatS base ob lb false (bs ++ x) w' ∧ PutKept base ob lb w w') := by
        show Calls _ _ _ _ _
        have hsz1 := HW1.out.size
        refine (Tryd.Builder_WriteString_b base ob (Lib.byteCells bs) (txt x) W1 HB1.out (by rw [Lib.byteCells_length, hxs]; omega) (by have := mlt HF1.out; omega)).mono ?_
        rintro e w' ⟨rfl, h2, h3, h4⟩
        refine ⟨⟨_, rfl⟩, ⟨h4 lb _ HF1.out (fun e => by injection e with e; exact hne e) (fun c fz e => by cases e), fun _ => .inr ?_, fun _ => ?_⟩, HP1.out.1.trans h3, fun k o hk n1 n2 n3 => h4 k o (HP1.out.2 k o hk n1 n2 n3) (fun e => by injection e with e; exact n1 e) n3⟩
        · rw [Lib.byteCells_append]
          rw [Lib.strCells_eq, txt_list] at h2
          exact h2
        · rw [List.length_append]; omega
      go_enter Tryd.func53, Tryd.ntmps53
      go_upto_region 1 with (go_at_call 54; refine HL.out.mono ?_; rintro e w1 ⟨rfl, hw1⟩; rw [hw1]; clear hw1)
      rw [← hW1]
      clear hW1
      go_wp2_with (go_at_call 55; refine HWS.out.mono ?_; rintro e w2 ⟨⟨v, rfl⟩, h1, h2⟩; have H1 := Lib.hid h1; have H2 := Lib.hid h2; clear h1 h2)
      first | (refine bodyPost_ret (results_none rfl _ _ _) rfl ?_) | (refine bodyPost_end (results_none rfl _ _ _) rfl ?_)
      refine ⟨rfl, ?_, H2.out⟩
      rw [HD.out]
      exact H1.out
  · clear h
    go_enter Tryd.func53, Tryd.ntmps53
    go_wp2
    first | (refine bodyPost_ret (results_none rfl _ _ _) rfl ?_) | (refine bodyPost_end (results_none rfl _ _ _) rfl ?_)
    refine ⟨rfl, ?_, HK.out w _ (Below.refl _ _) (fun k o hk _ _ _ => hk)⟩
    exact ⟨mx1_set HS.out.flag _, fun h => (by cases h), fun h => (by cases h)⟩
theorem FlatS.below {base ob lb : Nat} {lg : Bool} {bs : Bs} {w w' : World} (h : FlatS base ob lb lg bs w) (hb : Below w.heap.size w w') : FlatS base ob lb lg bs w' :=
  ⟨(hb.block lb (mlt h.flag)).trans h.flag, fun e => mbld_below (h.bld e) hb, h.few⟩
theorem map_ne {w : World} {B N lb : Nat} {ks : List Bs} {hh : Bs → Value} {cs : Array Value} {t : TypeId} {fz : Nat × Nat} (hm : MapP w B N ks hh) (h : w.heap[lb]? = some (.cells cs t fz)) : B ≠ lb := by
  rintro rfl
  obtain ⟨D, ⟨es, clock, hb, _⟩, _⟩ := hm
  rw [h] at hb
  cases hb
set_option maxHeartbeats 4000000 in
set_option maxRecDepth 100000 in
theorem callF_ok (base ob lb tb pb B eb N : Nat) (ks : List Bs) (hh : Bs → Value) (lg : Bool) (bs n : Bs) (v : Option Bs) (w : World) (h : FlatS base ob lb lg bs w) (hlb : base ≤ lb) (hne : lb ≠ ob)
    (ht : w.heap[tb]? = some (.cells #[.map (some B)] 60 (0, 0))) (hp : w.heap[pb]? = some (.cells #[.func (.func 53) #[] #[.pointer (some ⟨lb, 0, none⟩), .pointer (some ⟨ob, 0, none⟩)]] 89 (0, 0)))
    (hm : MapP w B N ks hh) (he : hh n = .pointer (some ⟨eb, 0, none⟩)) (c3 : w.cell? ⟨eb, 3, none⟩ = some (.string (txt (v.getD [])))) (c4 : w.cell? ⟨eb, 4, none⟩ = some (.bool v.isNone)) (heb : eb ≠ lb) (htb : tb ≠ lb) (hpb : pb ≠ lb) (hn : n.length ≤ 40) :
    Calls Tryd.prog 56 (#[.string (txt n)] ++ #[.pointer (some ⟨lb, 0, none⟩), .pointer (some ⟨tb, 0, none⟩), .pointer (some ⟨pb, 0, none⟩)]) w fun e w' => e = .returned (.tuple #[]) ∧ FlatS base ob lb ((lg || v.isNone) || decide (2000 < (bs ++ v.getD []).length)) (bs ++ v.getD []) w' ∧ PutKept base ob lb w w' := by
  obtain ⟨c1, f1⟩ := mx1 h.flag
  have ct := (mx1 ht).1
  have cp := (mx1 hp).1
  have hBl := map_ne hm h.flag
  generalize hvv : v.getD [] = x at *
  generalize v.isNone = z at *
  obtain ⟨b, hb⟩ : ∃ b, b = (lg || z) := ⟨_, rfl⟩
  rw [← hb]
  obtain ⟨W1, hW1⟩ : ∃ W1, W1 = w.setCell ⟨lb, 0, none⟩ (.bool b) := ⟨_, rfl⟩
  have HS1 : Hid (FlatS base ob lb b bs W1) := by
    show FlatS _ _ _ _ _ _
    have hlf : b = false → lg = false := by rw [hb]; cases lg <;> simp
    rw [hW1]
    exact ⟨mx1_set h.flag _, fun e => mbld_set (h.bld (hlf e)) h.flag hne (by decide), fun e => h.few (hlf e)⟩
  have HP1 : Hid (PutKept base ob lb w W1) := by
    show PutKept _ _ _ _ _
    rw [hW1]
    exact ⟨(Below.refl _ _).setCell hlb _, fun k o hk _ n2 _ => mset_other hk n2⟩
  have HM := Lib.hid hm
  have HM1 : Hid (MapP W1 B N ks hh) := by
    show MapP _ _ _ _ _
    rw [hW1]
    exact hm.kept (mgrown_set w ⟨lb, 0, none⟩ _) (fun e => by injection e with e; exact hBl e)
  have ct1 : W1.cell? ⟨tb, 0, none⟩ = some (.map (some B)) := by rw [hW1]; exact (mx1 (mset_other ht htb)).1
  have cp1 : W1.cell? ⟨pb, 0, none⟩ = some (.func (.func 53) #[] #[.pointer (some ⟨lb, 0, none⟩), .pointer (some ⟨ob, 0, none⟩)]) := by rw [hW1]; exact (mx1 (mset_other hp hpb)).1
  have c31 : W1.cell? ⟨eb, 3, none⟩ = some (.string (txt x)) := by
    rw [hW1]
    have := heap_setCell_other w ⟨lb, 0, none⟩ eb (.bool b) heb
    simp only [World.cell?, this] at c3 ⊢
    exact c3
  have hxm : (txt n).size ≤ maxLen := by rw [txt_size]; unfold maxLen; omega
  have hht : hh (txt n).data.toList = .pointer (some ⟨eb, 0, none⟩) := by rw [txt_list]; exact he
  have HPut : Hid (∀ k, Calls Tryd.prog 53 #[.string (txt x), .pointer (some ⟨lb, 0, none⟩), .pointer (some ⟨ob, 0, none⟩)] (W1.drewN k) fun e w' => e = .returned (.tuple #[]) ∧ FlatS base ob lb (b || decide (2000 < (bs ++ x).length)) (bs ++ x) w' ∧ PutKept base ob lb w w') := by
    show ∀ k, _
    intro k
    refine (put_ok base ob lb b bs x (W1.drewN k) (HS1.out.below (below_drawsP (Below.refl _ _) k)) hlb hne).mono ?_
    rintro e w' ⟨h1, h2, h3⟩
    exact ⟨h1, h2, (below_drawsP HP1.out.1 k).trans h3.1, fun i o hi n1 n2 n3 => h3.2 i o (HP1.out.2 i o hi n1 n2 n3) n1 n2 n3⟩
  show Calls _ _ #[.string (txt n), .pointer (some ⟨lb, 0, none⟩), .pointer (some ⟨tb, 0, none⟩), .pointer (some ⟨pb, 0, none⟩)] _ _
  clear h ht hp hm he c3
  cases lg
  case' false =>
    have hbz : b = z := by simpa using hb
    subst hbz
    clear hb
    go_enter Tryd.func56, Tryd.ntmps56
    go_upto_region 1 with (at_lookup; refine look_pg _ rfl _ _ rfl rfl HM.out (txt n) rfl hxm ?_; rw [hht])
  case' true =>
    have hbz : b = true := by simpa using hb
    subst hbz
    clear hb
    go_enter Tryd.func56, Tryd.ntmps56
    go_upto_region 1 with (at_lookup; refine look_p _ rfl _ _ rfl rfl HM.out (txt n) rfl hxm ?_; rw [hht])
  all_goals
    rw [← hW1]
    clear hW1
    have HMd : Hid (∀ k, MapP (W1.drewN k) B N ks hh) := fun k => HM1.out.kept (row := none) ⟨rfl, rfl, rfl, Nat.le_refl _, fun _ _ _ => rfl⟩ (by simp)
    have hlk : Sem.run Tryd.prog (Instr.lookup 60 (.map (some B)) (.string (txt n)) false) W1.drew = .ok (.pointer (some ⟨eb, 0, none⟩)) W1.drew := by
      rw [← hht]
      exact look_run (HMd.out 1) (txt n) hxm
    go_region_with (first
      | (go_at_call 53; refine (HPut.out _).mono ?_; rintro e w2 ⟨rfl, h1, h2⟩; have H1 := Lib.hid h1; have H2 := Lib.hid h2; clear h1 h2))
    all_goals
      go_wp2
      first | (refine bodyPost_ret (results_none rfl _ _ _) rfl ?_) | (refine bodyPost_end (results_none rfl _ _ _) rfl ?_)
      exact ⟨rfl, H1.out, H2.out⟩
end Go.Proofs.YtmeenhfclnkjhaaDoor
