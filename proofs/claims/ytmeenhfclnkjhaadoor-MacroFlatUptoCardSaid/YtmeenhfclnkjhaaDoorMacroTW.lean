/- The table of macros in memory; the walk of (macro.table).work. Conditions: the values are at most 2^20 bytes. -/
import Derived.Test.YtmeenhfclnkjhaaDoorMacroGW
namespace Go.Proofs.YtmeenhfclnkjhaaDoor
open Go.RowKit Go.Shelf
theorem mx5 {w : World} {b : Nat} {t : TypeId} {v0 v1 v2 v3 v4 : Value} (h : w.heap[b]? = some (.cells #[v0, v1, v2, v3, v4] t (0, 0))) :
    w.cell? ⟨b, 0, none⟩ = some v0 ∧ w.cell? ⟨b, 1, none⟩ = some v1 ∧ w.cell? ⟨b, 2, none⟩ = some v2 ∧ w.cell? ⟨b, 3, none⟩ = some v3 ∧ w.cell? ⟨b, 4, none⟩ = some v4 ∧ ∀ o, w.frozen? ⟨b, o, none⟩ = false := by
  refine ⟨?_, ?_, ?_, ?_, ?_, fun o => ?_⟩
  all_goals simp [World.cell?, World.frozen?, h]
theorem mx5_set2 {w : World} {b : Nat} {t : TypeId} {v0 v1 v2 v3 v4 : Value} (h : w.heap[b]? = some (.cells #[v0, v1, v2, v3, v4] t (0, 0))) (u : Value) : (w.setCell ⟨b, 2, none⟩ u).heap[b]? = some (.cells #[v0, v1, u, v3, v4] t (0, 0)) := by
  rw [heap_setCell_same w b 2 _ t u h]; rfl
theorem mx5_set3 {w : World} {b : Nat} {t : TypeId} {v0 v1 v2 v3 v4 : Value} (h : w.heap[b]? = some (.cells #[v0, v1, v2, v3, v4] t (0, 0))) (u : Value) : (w.setCell ⟨b, 3, none⟩ u).heap[b]? = some (.cells #[v0, v1, v2, u, v4] t (0, 0)) := by
  rw [heap_setCell_same w b 3 _ t u h]; rfl
theorem mx5_set4 {w : World} {b : Nat} {t : TypeId} {v0 v1 v2 v3 v4 : Value} (h : w.heap[b]? = some (.cells #[v0, v1, v2, v3, v4] t (0, 0))) (u : Value) : (w.setCell ⟨b, 4, none⟩ u).heap[b]? = some (.cells #[v0, v1, v2, v3, u] t (0, 0)) := by
  rw [heap_setCell_same w b 4 _ t u h]; rfl
theorem mgrown_then {W w w' : World} {b : Nat} {row : Option Nat} (h : W.grownBy w (some b)) (hg : w.grownBy w' row) (hr : row = none ∨ row = some b) : W.grownBy w' (some b) :=
  ⟨hg.os.trans h.os, hg.tape.trans h.tape, hg.output.trans h.output, Nat.le_trans h.size hg.size, fun k hk hne => by
    rw [hg.block k (Nat.lt_of_lt_of_le hk h.size) (fun e => by
      rcases hr with h1 | h1
      · rw [h1] at e; cases e
      · rw [h1] at e; exact hne e), h.block k hk hne]⟩
theorem mgrown_below {w w' : World} (h : Below w.heap.size w w') : w.grownBy w' none := ⟨h.os, h.tape, h.output, h.size, fun k hk _ => h.block k hk⟩
/-- the cells of an entry: a value, what it calls for, and what it is flat if it is done -/
def entC (v : Bs) (u : Value) (st : Nat) (f : Option Bs) : Array Value :=
  #[.string (txt v), u, .int .i64 (st : Int), .string (txt (if st = 2 then f.getD [] else [])), .bool (if st = 2 then f.isNone else false)]
def ptrAt (ks : List Bs) (eb : Bs → Nat) (n : Bs) : Value := if n ∈ ks then .pointer (some ⟨eb n, 0, none⟩) else nilP
/-- the table: l: the macros; st: how far each is -/
structure TabW (w : World) (B lo : Nat) (l : List Mac) (eb : Bs → Nat) (uv : Bs → Value) (st : Bs → Nat) : Prop where
  map : ∃ N, MapP w B N (namesM l) (ptrAt (namesM l) eb) ∧ N ≤ l.length
  ent : ∀ m ∈ l, w.heap[eb m.1]? = some (.cells (entC m.2 (uv m.1) (st m.1) (flatF okM l m.1)) 64 (0, 0))
  uses : ∀ m ∈ l, w.ownsRow lo 9 1 (uv m.1) (usesM (prs okM m.2).1).length (strsV (usesM (prs okM m.2).1))
  low : ∀ m ∈ l, lo ≤ eb m.1
  inj : ∀ m ∈ l, ∀ m' ∈ l, eb m.1 = eb m'.1 → m.1 = m'.1
theorem ent_ne {w : World} {lo b : Nat} {v : Value} {n : Nat} {xs : List Value} {cs : Array Value} {fz : Nat × Nat} (h : w.ownsRow lo 9 1 v n xs) (hb : w.heap[b]? = some (.cells cs 64 fz)) : v.ownBlock ≠ some b := by
  rcases h.2 with ⟨rfl, _⟩ | ⟨g, cap, cur, rfl, _, hg, _⟩
  · simp [Value.ownBlock]
  · intro e
    simp only [Value.ownBlock, Option.some.injEq] at e
    subst e
    rw [hg] at hb
    simp only [Option.some.injEq, Obj.cells.injEq] at hb
    exact absurd hb.2.1 (by decide)
theorem names_inj {l : List Mac} (hnd : (namesM l).Nodup) {m m' : Mac} (hm : m ∈ l) (hm' : m' ∈ l) (e : m'.1 = m.1) : m' = m := by
  induction l with
  | nil => cases hm
  | cons x l ih =>
    unfold namesM at hnd
    rw [List.map_cons, List.nodup_cons] at hnd
    rcases List.mem_cons.1 hm with g1 | g1
    · rcases List.mem_cons.1 hm' with g2 | g2
      · rw [g1, g2]
      · exact absurd (by rw [← g1, ← e]; exact List.mem_map_of_mem g2) hnd.1
    · rcases List.mem_cons.1 hm' with g2 | g2
      · exact absurd (by rw [← g2, e]; exact List.mem_map_of_mem g1) hnd.1
      · exact ih hnd.2 g1 g2
theorem TabW.turn {w w' : World} {B lo : Nat} {l : List Mac} {eb : Bs → Nat} {uv : Bs → Value} {st st' : Bs → Nat} (h : TabW w B lo l eb uv st) (hnd : (namesM l).Nodup) {m : Mac} (hm : m ∈ l) (hg : w.grownBy w' (some (eb m.1)))
    (he : w'.heap[eb m.1]? = some (.cells (entC m.2 (uv m.1) (st' m.1) (flatF okM l m.1)) 64 (0, 0))) (hs : ∀ n, n ≠ m.1 → st' n = st n) : TabW w' B lo l eb uv st' := by
  have same : ∀ m' ∈ l, m'.1 = m.1 → m' = m := fun m' hm' e => names_inj hnd hm hm' e
  refine ⟨?_, fun m' hm' => ?_, fun m' hm' => ?_, h.low, h.inj⟩
  · obtain ⟨N, h1, h2⟩ := h.map
    exact ⟨N, h1.kept hg (fun e => by injection e with e; exact map_ne h1 (h.ent m hm) e), h2⟩
  · by_cases e : m'.1 = m.1
    · rw [same m' hm' e]; exact he
    · rw [hs _ e, hg.block _ (mlt (h.ent m' hm')) (fun e2 => by injection e2 with e2; exact e (h.inj m' hm' m hm e2))]
      exact h.ent m' hm'
  · refine (h.uses m' hm').kept hg ?_
    cases hq : (uv m'.1).ownBlock with
    | none => exact .inl rfl
    | some k => exact .inr (fun e => ent_ne (h.uses m' hm') (h.ent m hm) (by rw [hq]; exact e))
theorem TabW.below {w w' : World} {B lo : Nat} {l : List Mac} {eb : Bs → Nat} {uv : Bs → Value} {st : Bs → Nat} (h : TabW w B lo l eb uv st) (hb : Below w.heap.size w w') : TabW w' B lo l eb uv st := by
  refine ⟨?_, fun m hm => (hb.block _ (mlt (h.ent m hm))).trans (h.ent m hm), fun m hm => own_none (h.uses m hm) (mgrown_below hb), h.low, h.inj⟩
  obtain ⟨N, h1, h2⟩ := h.map
  exact ⟨N, h1.below hb, h2⟩
/-- how many are not looked at yet -/
def count0 (l : List Mac) (st : Bs → Nat) : Nat := ((namesM l).filter fun n => st n == 0).length
theorem count0_less {l : List Mac} {st : Bs → Nat} {n : Bs} (hn : n ∈ namesM l) (h0 : st n = 0) : count0 l (updM st n 1) + 1 ≤ count0 l st := by
  unfold count0
  generalize namesM l = ks at *
  induction ks with
  | nil => cases hn
  | cons k ks ih =>
    have mono : ∀ ls : List Bs, (ls.filter fun n' => updM st n 1 n' == 0).length ≤ (ls.filter fun n' => st n' == 0).length := by
      intro ls
      induction ls with
      | nil => exact Nat.le_refl _
      | cons a ls ih2 =>
        by_cases e : a = n
        · subst e
          rw [List.filter_cons, List.filter_cons, updM_same, h0]
          simp
          omega
        · rw [List.filter_cons, List.filter_cons, updM_other _ _ e]
          split
          · simp only [List.length_cons]; omega
          · exact ih2
    by_cases e : k = n
    · subst e
      rw [List.filter_cons, List.filter_cons, updM_same, h0]
      have := mono ks
      simp
      omega
    · rw [List.filter_cons, List.filter_cons, updM_other _ _ e]
      have hn' : n ∈ ks := by
        rcases List.mem_cons.1 hn with h | h
        · exact absurd h.symm e
        · exact h
      have := ih hn'
      split
      · simp only [List.length_cons]; omega
      · exact this
theorem count0_mono {l : List Mac} {st st' : Bs → Nat} (h : ∀ n, st n ≠ 0 → st' n ≠ 0) : count0 l st' ≤ count0 l st := by
  unfold count0
  generalize namesM l = ks
  induction ks with
  | nil => exact Nat.le_refl _
  | cons a ks ih =>
    rw [List.filter_cons, List.filter_cons]
    by_cases e : st a = 0
    · rw [e]
      rw [if_pos (show ((0 : Nat) == 0) = true from rfl), List.length_cons]
      split
      · rw [List.length_cons]; omega
      · omega
    · have e' := h a e
      rw [show (st a == 0) = false from by simpa using e, show (st' a == 0) = false from by simpa using e']
      exact ih
/-- what is done is right -/
def DoneM (l : List Mac) (st : Bs → Nat) : Prop := (∀ n ∈ namesM l, st n = 2 → Flt (tabT okM l) n (flatF okM l n)) ∧ ∀ n, st n ≤ 2
/-- what work answers -/
def WorkPost (w : World) (B lo : Nat) (l : List Mac) (eb : Bs → Nat) (uv : Bs → Value) (st : Bs → Nat) (n : Bs) (e : Ending) (w' : World) : Prop :=
  ((∃ st', e = .returned (.bool true) ∧ TabW w' B lo l eb uv st' ∧ DoneM l st' ∧ st' n = 2 ∧ (∀ y, st y = 2 → st' y = 2) ∧ (∀ y, st' y = 1 ↔ st y = 1)) ∨ (e = .returned (.bool false) ∧ ∃ y ∈ namesM l, Lead (tabT okM l) y y)) ∧ Below lo w w'
theorem MLm.low {w w' : World} {lo : Nat} (h : MLm w) (hl : 0 < lo) (hb : Below lo w w') : MLm w' := by
  obtain ⟨m, hm⟩ := h
  exact ⟨m, (hb.cell (p := ⟨0, 0, none⟩) hl).trans hm⟩
theorem TabW.look {w : World} {B lo : Nat} {l : List Mac} {eb : Bs → Nat} {uv : Bs → Value} {st : Bs → Nat} (h : TabW w B lo l eb uv st) {n : Bs} (hn : n ∈ namesM l) :
    (∃ N, MapP w B N (namesM l) (ptrAt (namesM l) eb)) ∧ ptrAt (namesM l) eb (txt n).data.toList = .pointer (some ⟨eb n, 0, none⟩) := by
  obtain ⟨N, h1, _⟩ := h.map
  refine ⟨⟨N, h1⟩, ?_⟩
  rw [txt_list]
  unfold ptrAt
  rw [if_pos hn]
set_option maxHeartbeats 1000000 in
theorem work_seen (B lo : Nat) (l : List Mac) (eb : Bs → Nat) (uv : Bs → Value) (hnm : ∀ n ∈ namesM l, n.length ≤ 40) (st : Bs → Nat) (n : Bs) (w : World) (h0 : st n ≠ 0) (hn : n ∈ namesM l) (hT : TabW w B lo l eb uv st) (hD : DoneM l st) (hL : ∀ y ∈ namesM l, st y = 1 → Lead (tabT okM l) y n) :
    Calls Tryd.prog 72 #[.map (some B), .string (txt n)] w (WorkPost w B lo l eb uv st n) := by
  obtain ⟨m, hm, hmn⟩ := List.mem_map.1 hn
  have he := hT.ent m hm
  rw [hmn] at he
  obtain ⟨c0, c1, c2, c3, c4, f⟩ := mx5 he
  obtain ⟨⟨N, hM⟩, hht⟩ := hT.look hn
  have hxm : (txt n).size ≤ maxLen := by have := hnm n hn; rw [txt_size]; unfold maxLen; omega
  have HM := Lib.hid hM
  have HT := Lib.hid hT
  have HD := Lib.hid hD
  have HL := Lib.hid hL
  have h2 := hD.2 n
  clear hT hD hL hM c0 c1 c3 c4
  rcases (show st n = 1 ∨ st n = 2 by omega) with h1 | h1
  · have H1 := Lib.hid h1
    rw [h1] at c2
    clear h1 h0 h2
    go_enter Tryd.func72, Tryd.ntmps72
    go_wp2_with (at_lookup; refine look_p _ rfl _ _ rfl rfl HM.out (txt n) rfl hxm ?_; rw [hht])
    go_ret
    exact ⟨.inr ⟨rfl, n, hn, HL.out n hn H1.out⟩, Below.refl _ _⟩
  · have H1 := Lib.hid h1
    rw [h1] at c2
    clear h1 h0 h2
    go_enter Tryd.func72, Tryd.ntmps72
    go_wp2_with (at_lookup; refine look_p _ rfl _ _ rfl rfl HM.out (txt n) rfl hxm ?_; rw [hht])
    go_ret
    exact ⟨.inl ⟨st, rfl, HT.out, HD.out, H1.out, fun _ h => h, fun _ => Iff.rfl⟩, Below.refl _ _⟩
set_option maxHeartbeats 8000000 in
set_option maxRecDepth 100000 in
theorem work_ok (B lo : Nat) (l : List Mac) (eb : Bs → Nat) (uv : Bs → Value) (hnd : (namesM l).Nodup) (hth : ∀ m ∈ l, ∀ u ∈ callsOf (prs okM m.2).1, u ∈ namesM l) (hv : ∀ m ∈ l, m.2.length ≤ 1048576) (hnm : ∀ n ∈ namesM l, n.length ≤ 40) (hgl : 0 < lo) :
    ∀ (k : Nat) (st : Bs → Nat) (n : Bs) (w : World), count0 l st ≤ k → n ∈ namesM l → TabW w B lo l eb uv st → DoneM l st → (∀ y ∈ namesM l, st y = 1 → Lead (tabT okM l) y n) → MLm w → lo ≤ w.heap.size →
      Calls Tryd.prog 72 #[.map (some B), .string (txt n)] w (WorkPost w B lo l eb uv st n) := by
  intro k
  induction k with
  | zero =>
    intro st n w hk hn hT hD hL hM hlo
    exact work_seen B lo l eb uv hnm st n w (fun e => by have := count0_less hn e; omega) hn hT hD hL
  | succ k ih =>
    intro st n w hk hn hT hD hL hM hlo
    by_cases h0 : st n = 0
    rotate_left
    · exact work_seen B lo l eb uv hnm st n w h0 hn hT hD hL
    obtain ⟨m, hm, hmn⟩ := List.mem_map.1 hn
    have he := hT.ent m hm
    rw [hmn] at he
    rw [h0] at he
    have he2 : w.heap[eb n]? = some (.cells #[.string (txt m.2), uv n, .int .i64 0, .string (txt []), .bool false] 64 (0, 0)) := he
    obtain ⟨c0, c1, c2, c3, c4, f⟩ := mx5 he2
    obtain ⟨⟨N, hMp⟩, hht⟩ := hT.look hn
    have hxm : (txt n).size ≤ maxLen := by have := hnm n hn; rw [txt_size]; unfold maxLen; omega
    -- at work
    obtain ⟨W1, hW1⟩ : ∃ W1, W1 = w.setCell ⟨eb n, 2, none⟩ (.int .i64 1) := ⟨_, rfl⟩
    have hg1 : w.grownBy W1 (some (eb n)) := by rw [hW1]; exact mgrown_set w ⟨eb n, 2, none⟩ _
    have he3 : W1.heap[eb n]? = some (.cells #[.string (txt m.2), uv n, .int .i64 1, .string (txt []), .bool false] 64 (0, 0)) := by rw [hW1]; exact mx5_set2 he2 _
    have hT1 : TabW W1 B lo l eb uv (updM st n 1) := by
      refine hT.turn hnd hm (by rw [hmn]; exact hg1) ?_ (fun x hx => updM_other _ _ (by rw [← hmn]; exact hx))
      rw [hmn, updM_same]
      exact he3
    have hb1 : Below lo w W1 := by rw [hW1]; exact (Below.refl _ _).setCell (by have := hT.low m hm; rw [hmn] at this; exact this) _
    have htt := tabT_mem (ok := okM) hnd hm
    rw [hmn] at htt
    have hus := hT.uses m hm
    rw [hmn] at hus
    have hul := usesM_len m.2
    have hvl := hv m hm
    have hmem : ∀ z ∈ usesM (prs okM m.2).1, ∃ u, z = txt u ∧ u ∈ callsOf (prs okM m.2).1 := fun z hz => usesM_txt hz
    have hall : ∀ u ∈ callsOf (prs okM m.2).1, txt u ∈ usesM (prs okM m.2).1 := fun u hu => usesM_mem.2 hu
    have hthm := hth m hm
    have HFO := Lib.hid (fun (W : World) hs hM hF => flat_ok B (flatF okM l) m.2 W hs hM hF)
    have HMEM := Lib.hid hmem
    have HALL := Lib.hid hall
    have HTH := Lib.hid hthm
    have HTT := Lib.hid htt
    generalize hU : usesM (prs okM m.2).1 = U at *
    obtain ⟨g, c, hgc⟩ := mown_form hus
    have d1 : W1.cell? ⟨eb n, 1, none⟩ = some (.slice g U.length c) := by rw [(mx5 he3).2.1, hgc]
    have HU : Hid (∀ (W : World) st', TabW W B lo l eb uv st' → W.ownsRow lo 9 1 (.slice g U.length c) U.length (strsV U)) := by
      show ∀ W st', _
      intro W st' h
      have := h.uses m hm
      rw [hmn, hU, hgc] at this
      exact this
    have HMp := Lib.hid hMp
    have HT1 := Lib.hid hT1
    have HB1 := Lib.hid hb1
    have HD := Lib.hid hD
    have HL := Lib.hid hL
    have hfr := f 2
    have HMB : Hid (∀ W, Below lo w W → MLm W) := fun W hb => hM.low hgl hb
    have HD1 : Hid (DoneM l (updM st n 1)) := by
      show DoneM _ _
      refine ⟨fun y hy h2 => ?_, fun y => ?_⟩
      · by_cases e : y = n
        · rw [e, updM_same] at h2; omega
        · rw [updM_other _ _ e] at h2; exact hD.1 y hy h2
      · by_cases e : y = n
        · rw [e, updM_same]; omega
        · rw [updM_other _ _ e]; exact hD.2 y
    have HC1 : Hid (count0 l (updM st n 1) ≤ k) := by show _ ≤ _; have := count0_less hn h0; omega
    have H0 := Lib.hid h0
    clear hT he he2 hT1 hb1 hD hL hM hus htt hmem hall hthm hMp c0 c1 c3 c4 f hg1 h0 hgc
    go_enter Tryd.func72, Tryd.ntmps72
    go_upto_region 5 with (at_lookup; refine look_p _ rfl _ _ rfl rfl HMp.out (txt n) rfl hxm ?_; rw [hht])
    rw [← hW1]
    clear hW1
    go_wp2
    go_loopw [29] (fun i wr => ∃ (j : Nat) (st' : Bs → Nat), j ≤ U.length ∧ i = .int .i64 j ∧ Hid (TabW wr B lo l eb uv st') ∧ Hid (DoneM l st') ∧ Hid (∀ y, st' y = 1 ↔ updM st n 1 y = 1) ∧ Hid (∀ y, st y = 2 → st' y = 2) ∧ Hid (∀ i z, i < j → U[i]? = some z → st' z.data.toList = 2) ∧ Hid (Below lo w wr)) (fun i _ => U.length - (intOf i).toNat)
    case atStart => exact ⟨0, updM st n 1, Nat.zero_le _, rfl, HT1, HD1, fun _ => Iff.rfl, fun y hy => by rw [updM_other _ _ (fun e => by rw [e, H0.out] at hy; cases hy)]; exact hy, fun i z h => by omega, HB1⟩
    case round =>
      obtain ⟨j, st', hj, rfl, HTj, HDj, HOj, HPj, HSj, HBj⟩ := hrel
      by_cases hlt : j < U.length
      · have hel := List.getElem?_eq_getElem hlt
        have hrow := HU.out _ _ HTj.out
        have hg : ∃ gb, g = some ⟨gb, 0, none⟩ := by
          rcases hrow.2 with ⟨_, h⟩ | ⟨gb, cap, cur, e, _⟩
          · omega
          · injection e with e1 _ _
            exact ⟨gb, e1⟩
        obtain ⟨gb, rfl⟩ := hg
        have hcell := hrow.cells (g := gb) rfl j (.string U[j]) (by unfold strsV; rw [List.getElem?_map, hel]; rfl)
        rw [Addr.add_lit, Nat.zero_add] at hcell
        obtain ⟨u, hzu, hu⟩ := HMEM.out U[j] (List.getElem_mem hlt)
        have HEL : Hid (U[j]? = some (txt u)) := by show _ = _; rw [hel, hzu]
        rw [hzu] at hcell
        have hun := HTH.out u hu
        have hlr := (HBj.out.size)
        have hcall := ih st' u wr (by
          refine Nat.le_trans (count0_mono (st := updM st n 1) (fun y hy => ?_)) HC1.out
          by_cases h1 : updM st n 1 y = 1
          · rw [(HOj.out y).2 h1]; decide
          · have hyn : y ≠ n := fun e => h1 (by rw [e, updM_same])
            rw [updM_other _ _ hyn] at hy h1
            have := HD.out.2 y
            rw [HPj.out y (by omega)]; decide) hun HTj.out HDj.out (fun y hy h1 => by
          have h2 := (HOj.out y).1 h1
          by_cases e : y = n
          · rw [e]; exact .one HTT.out hu
          · rw [updM_other _ _ e] at h2
            exact (HL.out y hy h2).trans (.one HTT.out hu)) (HMB.out _ HBj.out) (by omega)
        have HCall := Lib.hid hcall
        clear hcall hrow hel hzu hu hun
        have hlti : (j : Int) < (U.length : Int) := by omega
        go_wp2_with fail
        refine HCall.out.mono ?_
        rintro e w2 ⟨hres, hb⟩
        have HB2 := Lib.hid (HBj.out.trans (hb.mono (Nat.le_refl _)))
        clear hb
        rcases hres with ⟨st2, rfl, h1, h2, h3, h4, h5⟩ | ⟨rfl, hcy⟩
        · have HT2 := Lib.hid h1
          have HD2 := Lib.hid h2
          have HO2 : Hid (∀ y, st2 y = 1 ↔ updM st n 1 y = 1) := fun y => (h5 y).trans (HOj.out y)
          have HP2 : Hid (∀ y, st y = 2 → st2 y = 2) := fun y hy => h4 y (HPj.out y hy)
          have HS2 : Hid (∀ i z, i < j + 1 → U[i]? = some z → st2 z.data.toList = 2) := by
            show ∀ i z, _
            intro i z hi hz
            rcases Nat.lt_or_ge i j with g1 | g1
            · exact h4 _ (HSj.out i z g1 hz)
            · have : i = j := by omega
              subst this
              rw [HEL.out] at hz
              injection hz with hz
              rw [← hz, txt_list]
              exact h3
          clear h1 h2 h3 h4 h5
          go_wp2
          go_roundw
          case rel => exact ⟨j + 1, st2, by omega, by go_num, HT2, HD2, HO2, HP2, HS2, HB2⟩
          case measure => simp [intOf]; omega
        · have HCy := Lib.hid hcy
          clear hcy
          go_wp2
          go_ret
          exact ⟨.inr ⟨rfl, HCy.out⟩, HB2.out⟩
      · obtain rfl : j = U.length := by omega
        have htn := HTj.out.ent m hm
        have hst1 : st' n = 1 := (HOj.out n).2 (updM_same _ _ _)
        rw [hmn, hst1] at htn
        have htn2 : wr.heap[eb n]? = some (.cells #[.string (txt m.2), uv n, .int .i64 1, .string (txt []), .bool false] 64 (0, 0)) := htn
        obtain ⟨e0, e1, e2, e3, e4, ef⟩ := mx5 htn2
        have efr := ef 2
        have hle : lo ≤ eb n := by have := HTj.out.low m hm; rwa [hmn] at this
        obtain ⟨W5, hW5⟩ : ∃ W5, W5 = wr.setCell ⟨eb n, 2, none⟩ (.int .i64 2) := ⟨_, rfl⟩
        have g5 : wr.grownBy W5 (some (eb n)) := by rw [hW5]; exact mgrown_set wr ⟨eb n, 2, none⟩ _
        have htn5 : W5.heap[eb n]? = some (.cells #[.string (txt m.2), uv n, .int .i64 2, .string (txt []), .bool false] 64 (0, 0)) := by rw [hW5]; exact mx5_set2 htn2 _
        have b5 : Below lo w W5 := by rw [hW5]; exact HBj.out.setCell hle _
        have hdone : ∀ u ∈ callsOf (prs okM m.2).1, st' u = 2 := by
          intro u hu
          have hin := HALL.out u hu
          obtain ⟨i, hi, hiu⟩ := List.getElem_of_mem hin
          have := HSj.out i (txt u) hi (by rw [List.getElem?_eq_getElem hi, hiu])
          rwa [txt_list] at this
        have hFO : FlatOn W5 B (flatF okM l) (callsOf (prs okM m.2).1) := by
          obtain ⟨N', hN, _⟩ := HTj.out.map
          refine ⟨N', namesM l, ptrAt (namesM l) eb, hN.kept g5 (fun e => by injection e with e; exact map_ne hN htn2 e), fun u hu => ?_⟩
          have hun := HTH.out u hu
          obtain ⟨mu, hmu, hmue⟩ := List.mem_map.1 hun
          have h2 := hdone u hu
          have heu := HTj.out.ent mu hmu
          rw [hmue, h2] at heu
          have hne : eb u ≠ eb n := by
            intro e
            have := HTj.out.inj mu hmu m hm (by rw [hmue, hmn]; exact e)
            rw [hmue, hmn] at this
            rw [this, hst1] at h2
            cases h2
          have heu5 : W5.heap[eb u]? = _ := (g5.block _ (mlt heu) (fun e => by injection e with e; exact hne e)).trans heu
          have heu6 : W5.heap[eb u]? = some (.cells #[.string (txt mu.2), uv u, .int .i64 2, .string (txt ((flatF okM l u).getD [])), .bool (flatF okM l u).isNone] 64 (0, 0)) := heu5
          obtain ⟨_, _, _, k3, k4, _⟩ := mx5 heu6
          exact ⟨eb u, by unfold ptrAt; rw [if_pos hun], k3, k4⟩
        have hFlt : Flt (tabT okM l) n (cmb (flatF okM l) (prs okM m.2).1) := .mk HTT.out (flatF okM l) (fun u hu => HDj.out.1 u (HTH.out u hu) (hdone u hu))
        have hFn : flatF okM l n = cmb (flatF okM l) (prs okM m.2).1 := flatF_is hFlt
        have HCall := Lib.hid (HFO.out W5 hvl (HMB.out _ b5) hFO)
        have HFn := Lib.hid hFn
        have HFlt := Lib.hid hFlt
        have HG5 := Lib.hid g5
        have HB5 := Lib.hid b5
        have HX5 := Lib.hid htn5
        have k0 := (mx5 htn5).1
        rw [← hFn] at HCall
        clear hFO hFlt hFn g5 b5 htn5 hdone htn htn2 e0 e1 e3 e4 ef
        generalize hfn : flatF okM l n = fn at *
        have HFE := Lib.hid hfn
        clear hfn
        go_upto_region 12 with fail
        rw [← hW5]
        clear hW5
        go_wp2_with (go_at_call 35; refine HCall.out.mono ?_; rintro e w6 ⟨rfl, hb⟩; have hx6 := (hb.block _ (mlt HX5.out)).trans HX5.out; obtain ⟨_, _, _, q3, q4, qf⟩ := mx5 hx6; have qf3 := qf 3; have qf4 := qf 4; have HX6 := Lib.hid hx6; have HB6 := Lib.hid hb; clear hb hx6 qf)
        go_ret
        have g6 : wr.grownBy w6 (some (eb n)) := mgrown_then HG5.out (mgrown_below HB6.out) (.inl rfl)
        have g7 := mgrown_then (mgrown_then g6 (mgrown_set w6 ⟨eb n, 3, none⟩ (.string (txt (fn.getD [])))) (.inr rfl)) (mgrown_set (w6.setCell ⟨eb n, 3, none⟩ (.string (txt (fn.getD [])))) ⟨eb n, 4, none⟩ (.bool fn.isNone)) (.inr rfl)
        have x7 := mx5_set4 (mx5_set3 HX6.out (.string (txt (fn.getD [])))) (.bool fn.isNone)
        refine ⟨.inl ⟨updM st' n 2, rfl, ?_, ⟨fun y hy h2 => ?_, fun y => ?_⟩, updM_same _ _ _, fun y hy => ?_, fun y => ?_⟩, ?_⟩
        · refine HTj.out.turn hnd hm (by rw [hmn]; exact g7) ?_ (fun x hx => updM_other _ _ (by rw [← hmn]; exact hx))
          rw [hmn, updM_same, HFE.out]
          exact x7
        · by_cases e : y = n
          · rw [e, HFE.out, HFn.out]; exact HFlt.out
          · rw [updM_other _ _ e] at h2; exact HDj.out.1 y hy h2
        · by_cases e : y = n
          · rw [e, updM_same]; exact Nat.le_refl _
          · rw [updM_other _ _ e]; exact HDj.out.2 y
        · by_cases e : y = n
          · rw [e, updM_same]
          · rw [updM_other _ _ e]; exact HPj.out y hy
        · by_cases e : y = n
          · rw [e, updM_same, H0.out]; decide
          · rw [updM_other _ _ e]
            refine (HOj.out y).trans ?_
            rw [updM_other _ _ e]
        · exact ((HB5.out.trans (HB6.out.mono (by have := HB5.out.size; omega))).setCell hle _).setCell hle _
end Go.Proofs.YtmeenhfclnkjhaaDoor
