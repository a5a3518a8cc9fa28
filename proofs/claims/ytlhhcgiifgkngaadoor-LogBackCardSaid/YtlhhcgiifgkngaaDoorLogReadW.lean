/- The walk of log.read. Conditions: the line is of at most 2^20 bytes; the tables and the two errors' variables read as listed. -/
import Derived.Test.YtlhhcgiifgkngaaDoorLogPrintW
import Derived.Test.YtlhhcgiifgkngaaDoorParHex2W
import Derived.Lib.AtoiErrMem
import Derived.BigRegion
import Derived.Deep.QuietTactic
import Derived.BigQuiet
namespace Go.Proofs.YtlhhcgiifgkngaaDoor
open Go.RowKit Go.Shelf Go.Sort
theorem results_ctL {P : Program} {fn : Func} {p u : Tmp} {ty : TypeId} (h : fn.results = #[.cell p ty, .tmp u]) (tmps : Array Value) (w : World) (g : Nat) (t : TypeId) (cs : Array Value) (fr : Nat × Nat) (d : TypeDesc) (x : Value)
    (hp : tmps.getD p undef = .pointer (some ⟨g, 0, none⟩)) (hx : tmps.getD u undef = x) (hg : w.heap[g]? = some (.cells cs t fr))
    (hu : P.underlying ty = some d) (hd : (match d with | .struct _ | .array _ _ => true | _ => false) = true) (hi : (P.info? ty).map (·.size) = some cs.size) :
    (results fn tmps).run P w = .ok (.tuple #[.agg cs, x]) w := by
  have hp' : tmps[p]?.getD undef = .pointer (some ⟨g, 0, none⟩) := by simpa using hp
  have hx' : tmps[u]?.getD undef = x := by simpa using hx
  rw [results_cell_tmp h]
  simp [hp', hx', asAddr, run_loadVar_row w g t ty cs fr d hg hu hd hi, Result.andThen]
/-- strconv.ParseInt at base 10 and 64 bits, at every string -/
theorem parInt_ok (s : ByteArray) (hs : s.size ≤ 1048576) (w : World) (hE : EVs w) :
    Calls Tryd.prog 136 #[.string s, .int .i64 10, .int .i64 64] w fun e w' => (∃ v er, e = .returned (.tuple #[.int .i64 v, er]) ∧ (-9223372036854775808 ≤ v ∧ v ≤ 9223372036854775807) ∧ ((er = .nilIface ∧ Lib.parseIntB 64 s.data.toList = .ok v) ∨ ((∃ T p, er = .iface T p) ∧ ∀ u, Lib.parseIntB 64 s.data.toList ≠ .ok u))) ∧ Below w.heap.size w w' := by
  obtain ⟨e1, h1, h1'⟩ := hE.syn
  obtain ⟨e2, h2, h2'⟩ := hE.ran
  cases h : Lib.parseIntB 64 s.data.toList with
  | ok v =>
    refine (Any.strconv_ParseInt_10_at64_ok Tryd.laysC174 s (by omega) v h w).mono ?_
    rintro e w' ⟨rfl, hw⟩
    have hb := Lib.parseIntB_bounds h
    have e63 : ((2 ^ (64 - 1) : Nat) : Int) = 9223372036854775808 := by decide
    rw [e63] at hb
    refine ⟨⟨v, _, rfl, ⟨hb.1, by omega⟩, .inl ⟨rfl, rfl⟩⟩, ?_⟩
    rcases hw with rfl | ⟨t, rfl⟩
    · exact Below.refl _ _
    · exact Lib.bytesWorld_below _ _ _
  | range =>
    refine (Any.strconv_ParseInt_10_at64_range Tryd.laysC174 s (by omega) h e2 w h2 h2').mono ?_
    rintro e w' ⟨N, rfl, _, _, hb⟩
    refine ⟨⟨_, _, rfl, ?_, .inr ⟨⟨_, _, rfl⟩, fun u hu => by cases hu⟩⟩, hb⟩
    unfold Lib.intSat
    split <;> decide
  | _ =>
    refine (Any.strconv_ParseInt_10_at64_syntax Tryd.laysC174 s (by omega) h e1 w h1 h1').mono ?_
    rintro e w' ⟨N, rfl, _, _, hb⟩
    exact ⟨⟨_, _, rfl, by omega, .inr ⟨⟨_, _, rfl⟩, fun u hu => by cases hu⟩⟩, hb⟩
/-! ### the pieces of a line -/
def trB (s : ByteArray) : ByteArray := ⟨(Lib.trimSuffix s.data.toList [10]).toArray⟩
theorem trB_list (s : ByteArray) : (trB s).data.toList = Lib.trimSuffix s.data.toList [10] := by unfold trB; simp
theorem trim_end (y : List UInt8) : Lib.trimSuffix (y ++ [10]) [10] = y := by
  unfold Lib.trimSuffix Lib.hasSuffix
  rw [if_pos (by simp [List.isSuffixOf_iff_suffix])]
  simp
theorem trB_size (s : ByteArray) : (trB s).size ≤ s.size := by
  rw [Lib.size_eq, trB_list, Lib.size_eq]
  unfold Lib.trimSuffix
  split
  · rw [List.length_take]; omega
  · exact Nat.le_refl _
/-- a line that tells a stamp has these three pieces -/
theorem pieces_of {s : ByteArray} {y : StP} (hy : WfS y) (h : txB y = s) : (cutB (trB s)).map (·.data.toList) = [y.1.data.toList, Lib.decDigits y.2.1.toNat, txtH y.2.2] := by
  obtain ⟨b, h1, _, h3⟩ := txS_body hy
  have e : (trB s).data.toList = b := by
    rw [trB_list, ← h, txB_list, h1, trim_end]
  rw [cutB_list, e, h3]
theorem cutB_sizes (s : ByteArray) : ∀ x ∈ cutB s, x.size ≤ s.size := by
  have key : ∀ (k : Nat) (s : ByteArray), ∀ x ∈ Lib.splitB ⟨#[32]⟩ 0 k s, x.size ≤ s.size := by
    intro k
    induction k with
    | zero => intro s x hx; rw [Lib.splitB_zero, List.mem_singleton] at hx; rw [hx]; exact Nat.le_refl _
    | succ k ih =>
      intro s x hx
      unfold Lib.splitB at hx
      split at hx
      · rw [List.mem_singleton.1 hx]; exact Nat.le_refl _
      · rcases List.mem_cons.1 hx with rfl | hx
        · rw [ByteArray.size_extract]; omega
        · have := ih _ x hx
          rw [ByteArray.size_extract] at this
          omega
  exact key _ s
theorem cutB_len (s : ByteArray) : (cutB s).length = Lib.countB s ⟨#[32]⟩ + 1 := Lib.splitB_all ⟨#[32]⟩ (by decide) 0 _ s rfl
/-- what read answers: a stamp, and whether the line tells just it -/
def ReadL (s : ByteArray) (e : Ending) : Prop :=
  ∃ (x : StP) (b : Bool), e = .returned (.tuple #[.agg #[.string x.1, .int .i64 x.2.1, .float .f64 x.2.2], .bool b]) ∧ (x.1.size ≤ s.size ∧ x.2.2 < 2 ^ 64) ∧ (b = true → txB x = s) ∧ ∀ y, WfS y → txB y = s → x = y ∧ b = true
/-- strings.Split wants this variable to be there -/
def MLL (w : World) : Prop := ∃ m : Int, w.cell? ⟨5, 0, none⟩ = some (.int .i64 m)
theorem MLL.below {w w' : World} (h : MLL w) (hb : Below w.heap.size w w') : MLL w' := by
  obtain ⟨m, h⟩ := h
  exact ⟨m, (hb.cell (World.block_lt_of_cell? w _ h)).trans h⟩
theorem MLL.of {w : World} (h : w.ShapedOpen Tryd.prog) : MLL w := Tryd.laysM146.s1_3 w h
theorem box3 {w : World} {b : Nat} {t : TypeId} {v0 v1 v2 : Value} (h : w.heap[b]? = some (.cells #[v0, v1, v2] t (0, 0))) :
    w.cell? ⟨b, 0, none⟩ = some v0 ∧ w.cell? ⟨b, 1, none⟩ = some v1 ∧ w.cell? ⟨b, 2, none⟩ = some v2 ∧ w.frozen? ⟨b, 0, none⟩ = false ∧ w.frozen? ⟨b, 1, none⟩ = false ∧ w.frozen? ⟨b, 2, none⟩ = false := by
  refine ⟨?_, ?_, ?_, ?_, ?_, ?_⟩
  all_goals simp [World.cell?, World.frozen?, h]
theorem box3_all {w : World} {b : Nat} {t : TypeId} {v0 v1 v2 : Value} (h : w.heap[b]? = some (.cells #[v0, v1, v2] t (0, 0))) (u0 u1 u2 : Value) :
    (((w.setCell ⟨b, 0, none⟩ u0).setCell ⟨b, 1, none⟩ u1).setCell ⟨b, 2, none⟩ u2).heap[b]? = some (.cells #[u0, u1, u2] t (0, 0)) := by
  simp only [setCell_eq]
  simp [mapBlock, onCells, Array.getElem?_modify, h]
theorem below_set3 {B b : Nat} {w w' : World} (h : Below B w w') (hb : B ≤ b) (u0 u1 u2 : Value) : Below B w (((w'.setCell ⟨b, 0, none⟩ u0).setCell ⟨b, 1, none⟩ u1).setCell ⟨b, 2, none⟩ u2) := ((h.setCell hb _).setCell hb _).setCell hb _
theorem cell_set3 {w : World} {b c : Nat} (h : b ≠ c) (u0 u1 u2 : Value) (k : Nat) : (((w.setCell ⟨b, 0, none⟩ u0).setCell ⟨b, 1, none⟩ u1).setCell ⟨b, 2, none⟩ u2).cell? ⟨c, k, none⟩ = w.cell? ⟨c, k, none⟩ := by
  rw [World.cell?_setCell_other _ _ _ _ (fun e => h (by injection e)), World.cell?_setCell_other _ _ _ _ (fun e => h (by injection e)), World.cell?_setCell_other _ _ _ _ (fun e => h (by injection e))]
set_option maxHeartbeats 8000000 in
set_option maxRecDepth 100000 in
theorem LogRead_ok (s : ByteArray) (hs : s.size ≤ 1048576) (w : World) (hE : EVs w) (hT : Tab w) (hP : PowT w) (hM : MLL w) :
    Calls Tryd.prog 93 #[.string s] w fun e w' => ReadL s e ∧ Below w.heap.size w w' := by
  obtain ⟨W, hW⟩ : ∃ W, W = w.alloc (.cells #[.string ⟨#[]⟩, .int .i64 0, .float .f64 0] 73) := ⟨_, rfl⟩
  have hBW : Below w.heap.size w W := by rw [hW]; exact lbL w _
  have hWs : W.heap.size = w.heap.size + 1 := by rw [hW]; simp
  have hz : W.heap[w.heap.size]? = some (.cells #[.string ⟨#[]⟩, .int .i64 0, .float .f64 0] 73 (0, 0)) := by rw [hW]; exact heap_alloc_new _ _
  have HTR : Hid (Calls Tryd.prog 135 #[.string s, .string ⟨#[10]⟩] W fun e w' => e = .returned (.string (trB s)) ∧ W = w') := (Tryd.strings_TrimSuffix s ⟨#[10]⟩ W (by omega)).mono fun _ _ h => ⟨h.1, h.2.symm⟩
  have hts := trB_size s
  obtain ⟨m, hm⟩ := hM.below hBW
  have hSp := Tryd.strings_Split (trB s) ⟨#[32]⟩ m W (by omega) hm (by decide)
  rw [show Lib.splitB ⟨#[32]⟩ 0 (Lib.countB (trB s) ⟨#[32]⟩) (trB s) = cutB (trB s) from rfl, ← cutB_len] at hSp
  obtain ⟨V, hV⟩ : ∃ V, V = W.alloc (.cells ((cutB (trB s)).map Value.string).toArray 9) := ⟨_, rfl⟩
  have hBV : Below W.heap.size W V := by rw [hV]; exact lbL W _
  rw [← hV] at hSp
  have HSp := Lib.hid (hSp.mono (R' := fun e w' => e = .returned (.slice (some ⟨W.heap.size, 0, none⟩) (cutB (trB s)).length (cutB (trB s)).length) ∧ V = w') fun _ _ h => ⟨h.1, h.2.symm⟩)
  have HZ : Hid (∀ u, Below V.heap.size V u → u.heap[w.heap.size]? = some (.cells #[.string ⟨#[]⟩, .int .i64 0, .float .f64 0] 73 (0, 0))) := by
    show ∀ u, _
    intro u hu
    have hvs := hBV.size
    rw [hu.block _ (by omega), hBV.block _ (by omega)]
    exact hz
  have hBwV : Below w.heap.size w V := hBW.trans (hBV.mono hBW.size)
  have HBW : Hid (∀ u, Below V.heap.size V u → Below w.heap.size w u) := by show ∀ u, _; exact fun u hu => hBwV.trans (hu.mono hBwV.size)
  have HPC := Lib.hid (fun (y : StP) (hy : WfS y) (h : txB y = s) => pieces_of hy h)
  have HSZ := Lib.hid (cutB_sizes (trB s))
  have HTS := Lib.hid hts
  by_cases h3 : (cutB (trB s)).length = 3
  · obtain ⟨p0, p1, p2, hp⟩ : ∃ p0 p1 p2, cutB (trB s) = [p0, p1, p2] := by
      match hq : cutB (trB s), h3 with
      | [p0, p1, p2], _ => exact ⟨p0, p1, p2, rfl⟩
    have d0 : V.cell? ⟨W.heap.size, 0, none⟩ = some (.string p0) := by rw [hV, World.cell?_alloc_at _ _ _ _ rfl, hp]; rfl
    have d1 : V.cell? ⟨W.heap.size, 1, none⟩ = some (.string p1) := by rw [hV, World.cell?_alloc_at _ _ _ _ rfl, hp]; rfl
    have d2 : V.cell? ⟨W.heap.size, 2, none⟩ = some (.string p2) := by rw [hV, World.cell?_alloc_at _ _ _ _ rfl, hp]; rfl
    have hWV : W.heap.size < V.heap.size := by rw [hV]; simp
    rw [hWs] at d0 d1 d2 hWV
    have HDD : Hid (∀ u, Below V.heap.size V u → u.cell? ⟨w.heap.size + 1, 0, none⟩ = some (.string p0) ∧ u.cell? ⟨w.heap.size + 1, 1, none⟩ = some (.string p1) ∧ u.cell? ⟨w.heap.size + 1, 2, none⟩ = some (.string p2)) := by
      show ∀ u, _
      intro u hu
      rw [hu.cell hWV, hu.cell hWV, hu.cell hWV]
      exact ⟨d0, d1, d2⟩
    have z0 : p0.size ≤ s.size := Nat.le_trans (HSZ.out p0 (by rw [hp]; simp)) HTS.out
    have z1 : p1.size ≤ s.size := Nat.le_trans (HSZ.out p1 (by rw [hp]; simp)) HTS.out
    have z2 : p2.size ≤ s.size := Nat.le_trans (HSZ.out p2 (by rw [hp]; simp)) HTS.out
    rw [h3] at HSp
    rw [hp] at HPC
    have HPI : Hid (∀ u, Below V.heap.size V u → Calls Tryd.prog 136 #[.string p1, .int .i64 10, .int .i64 64] u fun e w' => (∃ v er, e = .returned (.tuple #[.int .i64 v, er]) ∧ (-9223372036854775808 ≤ v ∧ v ≤ 9223372036854775807) ∧ ((er = .nilIface ∧ Lib.parseIntB 64 p1.data.toList = .ok v) ∨ ((∃ T p, er = .iface T p) ∧ ∀ u, Lib.parseIntB 64 p1.data.toList ≠ .ok u))) ∧ Hid (Below V.heap.size V w')) := by
      show ∀ u, _
      intro u hu
      refine (parInt_ok p1 (by omega) u (hE.below (HBW.out u hu))).mono ?_
      rintro e w' ⟨h1, hb⟩
      exact ⟨h1, hu.trans (hb.mono hu.size)⟩
    have HSR : Hid (∀ u, Below V.heap.size V u → Calls Tryd.prog 37 #[.string p2] u fun e w' => ReadPost p2 e ∧ Hid (Below V.heap.size V w')) := by
      show ∀ u, _
      intro u hu
      refine (spanRead_ok p2 (by omega) u (hE.below (HBW.out u hu)) (hT.below (HBW.out u hu))).mono ?_
      rintro e w' ⟨h1, hb⟩
      exact ⟨h1, hu.trans (hb.mono hu.size)⟩
    have HTX : Hid (∀ (v : Int) (x : Nat) u, (-9223372036854775808 ≤ v ∧ v ≤ 9223372036854775807) → x < 2 ^ 64 → Below V.heap.size V u → Calls Tryd.prog 95 #[.agg #[.string p0, .int .i64 v, .float .f64 x]] u fun e w' => e = .returned (.string (txB (p0, v, x))) ∧ Hid (Below V.heap.size V w') ∧ Hid (Below u.heap.size u w')) := by
      show ∀ v x u, _
      intro v x u hv hx hu
      refine (logText_ok (p0, v, x) ⟨by show p0.size ≤ _; omega, hv, hx⟩ u (hT.below (HBW.out u hu)) (hP.below (HBW.out u hu))).mono ?_
      rintro e w' ⟨h1, hb⟩
      exact ⟨h1, hu.trans (hb.mono hu.size), hb⟩
    have HFR : Hid (Below V.heap.size V V) := Below.refl _ _
    have HZ0 := Lib.hid z0
    clear hSp hBV hz hBwV hm hBW h3 hp hts hWV z0 z1 z2 hE hT hP hM hV HTS HSZ hs
    go_enter Tryd.func93, Tryd.ntmps93
    go_upto_region 1 with fail
    rw [← hW]
    clear hW
    go_upto_region 4 with (first
      | (go_at_call 134; refine HSp.out.mono ?_; rintro e w1 ⟨rfl, rfl⟩)
      | (go_at_call 135; refine HTR.out.mono ?_; rintro e w1 ⟨rfl, rfl⟩))
    go_wp2_with fail
    refine (HPI.out _ HFR.out).mono ?_
    rintro e w2 ⟨⟨v, er, rfl, hv, hcase⟩, HB2⟩
    obtain ⟨d0, d1, d2⟩ := HDD.out _ HB2.out
    have HVV := Lib.hid hv
    clear hv
    rcases hcase with ⟨rfl, hpi⟩ | ⟨⟨T, q, rfl⟩, hpi⟩
    · have HPIV := Lib.hid hpi
      clear hpi HPI
      go_wp2_with fail
      refine (HSR.out _ HB2.out).mono ?_
      rintro e w3 ⟨hcase, HB3⟩
      obtain ⟨d0, d1, d2⟩ := HDD.out _ HB3.out
      have hz3 := HZ.out _ HB3.out
      have hwl : w.heap.size < w3.heap.size := (Array.getElem?_eq_some_iff.1 hz3).1
      rcases hcase with ⟨x, hx, hx2, rfl⟩ | ⟨hno, rfl⟩
      · have HXX := Lib.hid (And.intro hx hx2)
        clear hx hx2
        obtain ⟨X, hX⟩ : ∃ X : World, X = w3.alloc (.cells #[.string p0, .int .i64 v, .float .f64 x] 73) := ⟨_, rfl⟩
        have e0 : X.cell? ⟨w3.heap.size, 0, none⟩ = some (.string p0) := by rw [hX, World.cell?_alloc_at _ _ _ _ rfl]; rfl
        have e1 : X.cell? ⟨w3.heap.size, 1, none⟩ = some (.int .i64 v) := by rw [hX, World.cell?_alloc_at _ _ _ _ rfl]; rfl
        have e2 : X.cell? ⟨w3.heap.size, 2, none⟩ = some (.float .f64 x) := by rw [hX, World.cell?_alloc_at _ _ _ _ rfl]; rfl
        have hbx : Below w3.heap.size w3 X := by rw [hX]; exact lbL w3 _
        have hxs : w3.heap.size < X.heap.size := by rw [hX]; simp
        have HBX : Hid (Below V.heap.size V X) := by show Below _ _ _; exact HB3.out.trans (hbx.mono HB3.out.size)
        have HEE : Hid (∀ u, Below X.heap.size X u → u.cell? ⟨w3.heap.size, 0, none⟩ = some (.string p0) ∧ u.cell? ⟨w3.heap.size, 1, none⟩ = some (.int .i64 v) ∧ u.cell? ⟨w3.heap.size, 2, none⟩ = some (.float .f64 x)) := by
          show ∀ u, _
          intro u hu
          rw [hu.cell hxs, hu.cell hxs, hu.cell hxs]
          exact ⟨e0, e1, e2⟩
        have HTU : Hid (∀ u, Below V.heap.size V u → Calls Tryd.prog 95 #[.agg #[.string p0, .int .i64 v, .float .f64 x]] u fun e w' => e = .returned (.string (txB (p0, v, x))) ∧ Hid (Below V.heap.size V w') ∧ Hid (Below u.heap.size u w')) := by
          show ∀ u, _
          exact fun u hu => HTX.out v x u HVV.out HXX.out.1 hu
        have HFB : Hid (∀ b : Bool, b = decide (txB (p0, v, x) = s) → ReadL s (.returned (.tuple #[.agg #[.string p0, .int .i64 v, .float .f64 x], .bool b]))) := by
          show ∀ b, _
          intro b hb
          refine ⟨(p0, v, x), b, rfl, ⟨HZ0.out, HXX.out.1⟩, fun h => ?_, fun y hy hys => ?_⟩
          · rw [hb] at h; exact of_decide_eq_true h
          · have hpc := HPC.out y hy hys
            simp only [List.map_cons, List.map_nil] at hpc
            injection hpc with q1 q2
            injection q2 with q2 q3
            injection q3 with q3 _
            have f1 : p0 = y.1 := ba_ext q1
            have f2 : v = y.2.1 := by
              have h1 := HPIV.out
              have hy2 := hy.2.1
              rw [q2, parse_dec _ (by omega)] at h1
              injection h1 with h1
              omega
            have f3 : x = y.2.2 := by
              have h1 := HXX.out.2
              have h2 : p2.data.toList = txtH x := by rw [h1]
              rw [q3] at h2
              have h3 := par_txt hy.2.2
              rw [h2, par_txt HXX.out.1] at h3
              injection h3
            have f4 : ((p0, v, x) : StP) = y := Prod.ext f1 (Prod.ext f2 f3)
            exact ⟨f4, hb.trans (decide_eq_true ((congrArg txB f4).trans hys))⟩
        obtain ⟨tx, htx⟩ : ∃ tx, tx = txB (p0, v, x) := ⟨_, rfl⟩
        rw [← htx] at HTU HFB
        clear HPIV HXX HPC htx HTX hbx HSR HZ0 HVV
        have HZX : Hid (∀ u, Below X.heap.size X u → u.heap[w.heap.size]? = some (.cells #[.string ⟨#[]⟩, .int .i64 0, .float .f64 0] 73 (0, 0))) := by
          show ∀ u, _
          intro u hu
          exact HZ.out u (HBX.out.trans (hu.mono HBX.out.size))
        have HBD : Hid (Below X.heap.size X X.drew) := by show Below _ _ _; exact (Below.refl _ _).drew
        clear HZ hz3 HDD
        go_upto_region 7 with fail
        rw [← hX]
        clear hX
        have HNE : Hid (w.heap.size ≠ w3.heap.size) := by show _ ≠ _; omega
        obtain ⟨b, hb⟩ : ∃ b, b = decide (tx = s) := ⟨_, rfl⟩
        have hbe : (tx.toList == s.toList) = b := by
          rw [hb]
          by_cases heq : tx = s
          · subst heq; simp
          · rw [decide_eq_false heq, beq_eq_false_iff_ne]
            intro e
            rw [Lib.toList_data, Lib.toList_data] at e
            exact heq (ba_ext e)
        have HFB2 := Lib.hid (HFB.out b hb)
        clear HFB hb
        go_region_held3 (fun u : World => u.cell? ⟨w3.heap.size, 0, none⟩ = some (.string p0) ∧ u.cell? ⟨w3.heap.size, 1, none⟩ = some (.int .i64 v) ∧ u.cell? ⟨w3.heap.size, 2, none⟩ = some (.float .f64 x))
          (first | exact HEE.out _ HBD.out | exact HEE.out _ HB5.out | exact ⟨(cell_set3 HNE.out _ _ _ _).trans (HEE.out _ HB5.out).1, (cell_set3 HNE.out _ _ _ _).trans (HEE.out _ HB5.out).2.1, (cell_set3 HNE.out _ _ _ _).trans (HEE.out _ HB5.out).2.2⟩)
          (first | (go_at_call 95; refine (HTU.out _ (HBX.out.trans (HBD.out.mono HBX.out.size))).mono ?_; rintro e w5 ⟨rfl, _, hb5⟩; have HB5 : Hid (Below X.heap.size X w5) := HBD.out.trans (hb5.out.mono HBD.out.size); clear hb5; obtain ⟨y0, y1, y2, y3, y4, y5⟩ := box3 (HZX.out w5 HB5.out)))
        all_goals
          go_wp2
          refine bodyPost_ret (v := .tuple #[.agg #[.string p0, .int .i64 v, .float .f64 x], .bool b]) (results_ctL Tryd.results93 _ _ w.heap.size 73 _ (0, 0) _ _ rfl rfl (box3_all (HZX.out w5 HB5.out) _ _ _) Tryd.underlying73 rfl (by kernel_rfl)) rfl ⟨HFB2.out, below_set3 (HBW.out _ (HBX.out.trans (HB5.out.mono HBX.out.size))) (Nat.le_refl _) _ _ _⟩
      · have HNO : Hid (ReadL s (.returned (.tuple #[.agg #[.string p0, .int .i64 v, .float .f64 0], .bool false]))) := by
          refine ⟨(p0, v, 0), false, rfl, ⟨HZ0.out, by show 0 < 2 ^ 64; omega⟩, (fun h => by cases h), fun y hy hys => ?_⟩
          have hpc := HPC.out y hy hys
          simp only [List.map_cons, List.map_nil] at hpc
          injection hpc with q1 q2
          injection q2 with q2 q3
          injection q3 with q3 _
          exact absurd (ba_ext (by rw [q3])) (hno y.2.2 hy.2.2)
        clear hno
        obtain ⟨X, hX⟩ : ∃ X : World, X = w3.alloc (.cells #[.string p0, .int .i64 v, .float .f64 0] 73) := ⟨_, rfl⟩
        have e0 : X.cell? ⟨w3.heap.size, 0, none⟩ = some (.string p0) := by rw [hX, World.cell?_alloc_at _ _ _ _ rfl]; rfl
        have e1 : X.cell? ⟨w3.heap.size, 1, none⟩ = some (.int .i64 v) := by rw [hX, World.cell?_alloc_at _ _ _ _ rfl]; rfl
        have e2 : X.cell? ⟨w3.heap.size, 2, none⟩ = some (.float .f64 0) := by rw [hX, World.cell?_alloc_at _ _ _ _ rfl]; rfl
        have hbx : Below w3.heap.size w3 X := by rw [hX]; exact lbL w3 _
        have HBX : Hid (Below V.heap.size V X) := by show Below _ _ _; exact HB3.out.trans (hbx.mono HB3.out.size)
        have HZX := Lib.hid (HZ.out X HBX.out)
        obtain ⟨y0, y1, y2, y3, y4, y5⟩ := box3 HZX.out
        clear HPC HTX hbx HSR HZ0 HVV HZ hz3 HDD
        go_upto_region 7 with fail
        rw [← hX]
        clear hX
        go_region
        all_goals
          go_wp2
          refine bodyPost_ret (v := .tuple #[.agg #[.string p0, .int .i64 v, .float .f64 0], .bool false]) (results_ctL Tryd.results93 _ _ w.heap.size 73 _ (0, 0) _ _ rfl rfl (box3_all HZX.out _ _ _) Tryd.underlying73 rfl (by kernel_rfl)) rfl ⟨HNO.out, below_set3 (HBW.out _ HBX.out).drew (Nat.le_refl _) _ _ _⟩
    · have HNI : Hid (∀ (x : Nat), x < 2 ^ 64 → ReadL s (.returned (.tuple #[.agg #[.string p0, .int .i64 v, .float .f64 x], .bool false]))) := by
        show ∀ x, _
        intro x hx
        refine ⟨(p0, v, x), false, rfl, ⟨HZ0.out, hx⟩, (fun h => by cases h), fun y hy hys => ?_⟩
        have hpc := HPC.out y hy hys
        simp only [List.map_cons, List.map_nil] at hpc
        injection hpc with q1 q2
        injection q2 with q2 q3
        have := parse_dec y.2.1.toNat (by have := hy.2.1; omega)
        rw [← q2] at this
        exact absurd this (hpi _)
      clear hpi HPI
      go_wp2_with fail
      refine (HSR.out _ HB2.out).mono ?_
      rintro e w3 ⟨hcase, HB3⟩
      obtain ⟨d0, d1, d2⟩ := HDD.out _ HB3.out
      have hz3 := HZ.out _ HB3.out
      have hwl : w.heap.size < w3.heap.size := (Array.getElem?_eq_some_iff.1 hz3).1
      rcases hcase with ⟨x, hx, hx2, rfl⟩ | ⟨hno, rfl⟩
      · have HNO := Lib.hid (HNI.out x hx)
        clear hx hx2
        obtain ⟨X, hX⟩ : ∃ X : World, X = w3.alloc (.cells #[.string p0, .int .i64 v, .float .f64 x] 73) := ⟨_, rfl⟩
        have e0 : X.cell? ⟨w3.heap.size, 0, none⟩ = some (.string p0) := by rw [hX, World.cell?_alloc_at _ _ _ _ rfl]; rfl
        have e1 : X.cell? ⟨w3.heap.size, 1, none⟩ = some (.int .i64 v) := by rw [hX, World.cell?_alloc_at _ _ _ _ rfl]; rfl
        have e2 : X.cell? ⟨w3.heap.size, 2, none⟩ = some (.float .f64 x) := by rw [hX, World.cell?_alloc_at _ _ _ _ rfl]; rfl
        have hbx : Below w3.heap.size w3 X := by rw [hX]; exact lbL w3 _
        have HBX : Hid (Below V.heap.size V X) := by show Below _ _ _; exact HB3.out.trans (hbx.mono HB3.out.size)
        have HZX := Lib.hid (HZ.out X HBX.out)
        obtain ⟨y0, y1, y2, y3, y4, y5⟩ := box3 HZX.out
        clear HPC HTX hbx HSR HZ0 HVV HZ hz3 HDD
        go_upto_region 7 with fail
        rw [← hX]
        clear hX
        go_region
        all_goals
          go_wp2
          refine bodyPost_ret (v := .tuple #[.agg #[.string p0, .int .i64 v, .float .f64 x], .bool false]) (results_ctL Tryd.results93 _ _ w.heap.size 73 _ (0, 0) _ _ rfl rfl (box3_all HZX.out _ _ _) Tryd.underlying73 rfl (by kernel_rfl)) rfl ⟨HNO.out, below_set3 (HBW.out _ HBX.out).drew (Nat.le_refl _) _ _ _⟩
      · have HNO := Lib.hid (HNI.out 0 (by omega))
        clear hno
        obtain ⟨X, hX⟩ : ∃ X : World, X = w3.alloc (.cells #[.string p0, .int .i64 v, .float .f64 0] 73) := ⟨_, rfl⟩
        have e0 : X.cell? ⟨w3.heap.size, 0, none⟩ = some (.string p0) := by rw [hX, World.cell?_alloc_at _ _ _ _ rfl]; rfl
        have e1 : X.cell? ⟨w3.heap.size, 1, none⟩ = some (.int .i64 v) := by rw [hX, World.cell?_alloc_at _ _ _ _ rfl]; rfl
        have e2 : X.cell? ⟨w3.heap.size, 2, none⟩ = some (.float .f64 0) := by rw [hX, World.cell?_alloc_at _ _ _ _ rfl]; rfl
        have hbx : Below w3.heap.size w3 X := by rw [hX]; exact lbL w3 _
        have HBX : Hid (Below V.heap.size V X) := by show Below _ _ _; exact HB3.out.trans (hbx.mono HB3.out.size)
        have HZX := Lib.hid (HZ.out X HBX.out)
        obtain ⟨y0, y1, y2, y3, y4, y5⟩ := box3 HZX.out
        clear HPC HTX hbx HSR HZ0 HVV HZ hz3 HDD
        go_upto_region 7 with fail
        rw [← hX]
        clear hX
        go_region
        all_goals
          go_wp2
          refine bodyPost_ret (v := .tuple #[.agg #[.string p0, .int .i64 v, .float .f64 0], .bool false]) (results_ctL Tryd.results93 _ _ w.heap.size 73 _ (0, 0) _ _ rfl rfl (box3_all HZX.out _ _ _) Tryd.underlying73 rfl (by kernel_rfl)) rfl ⟨HNO.out, below_set3 (HBW.out _ HBX.out).drew (Nat.le_refl _) _ _ _⟩
  · have HNO : Hid (ReadL s (.returned (.tuple #[.agg #[.string ⟨#[]⟩, .int .i64 0, .float .f64 0], .bool false]))) := by
      refine ⟨(⟨#[]⟩, 0, 0), false, rfl, ⟨Nat.zero_le _, by show 0 < 2 ^ 64; omega⟩, (fun h => by cases h), fun y hy hys => ?_⟩
      have hpc := congrArg List.length (HPC.out y hy hys)
      rw [List.length_map] at hpc
      exact absurd hpc h3
    have hz3 := HZ.out V (Below.refl _ _)
    have HZ3 := Lib.hid hz3
    obtain ⟨y0, y1, y2, y3, y4, y5⟩ := box3 hz3
    have HBV := Lib.hid (HBW.out V (Below.refl _ _))
    obtain ⟨n, hn⟩ : ∃ n, n = (cutB (trB s)).length := ⟨_, rfl⟩
    rw [← hn] at HSp h3
    have h3i : ¬ (n : Int) = 3 := by omega
    clear hSp hBV hz hBwV hm hBW h3 hts hE hT hP hM hV HTS HSZ hs hn HZ hz3
    go_enter Tryd.func93, Tryd.ntmps93
    go_upto_region 1 with fail
    rw [← hW]
    clear hW
    go_wp2_with (first
      | (go_at_call 134; refine HSp.out.mono ?_; rintro e w1 ⟨rfl, rfl⟩)
      | (go_at_call 135; refine HTR.out.mono ?_; rintro e w1 ⟨rfl, rfl⟩))
    refine bodyPost_ret (v := .tuple #[.agg #[.string ⟨#[]⟩, .int .i64 0, .float .f64 0], .bool false]) (results_ctL Tryd.results93 _ _ w.heap.size 73 _ (0, 0) _ _ rfl rfl (box3_all HZ3.out _ _ _) Tryd.underlying73 rfl (by kernel_rfl)) rfl ⟨HNO.out, below_set3 HBV.out (Nat.le_refl _) _ _ _⟩
end Go.Proofs.YtlhhcgiifgkngaaDoor
