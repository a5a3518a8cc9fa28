/- The walks of package cost: check, times. Conditions: the rows and the durations read as listed. -/
import Derived.Test.YtlhomgbibhacoaaDoorSpanSumLawW
import Derived.Test.YtlhomgbibhacoaaDoorKnotW
import Derived.Test.YtlhomgbibhacoaaDoorGoodW
import Derived.Test.YtlhomgbibhacoaaDoorBackW
import Derived.Test.YtlhomgbibhacoaaDoorCost
import Derived.Test.YtlhomgbibhacoaaDoorWhole
import Derived.RegionTactic
namespace Go.Proofs.YtlhomgbibhacoaaDoor
open Go.RowKit
set_option maxHeartbeats 400000 in
theorem badC_ok (x : B) (w : World) : Calls Tryd.prog 51 #[.float .f64 (un x)] w fun e w' => e = .returned (.bool (!rightN (un x))) ∧ w = w' := by
  go_enter Tryd.func51, Tryd.ntmps51
  go_wp2_with (go_at_call 13; refine (right_ok _ _).mono ?_; rintro e w' ⟨rfl, rfl⟩)
  go_ret
  exact ⟨rfl, rfl⟩
set_option maxHeartbeats 1000000 in
theorem indexBadC_ok (l : List B) (p : Option Addr) (n c : Nat) (w : World) (hr : FltsAt w p n l) :
    Calls Tryd.prog 75 #[.slice p n c, .func (.func 51) #[] #[]] w fun e w' => (∃ i : Int, e = .returned (.int .i64 i) ∧ BadAt l i) ∧ w = w' := by
  have hl := hr.len
  subst hl
  have hbig := hr.big
  go_enter Tryd.func75, Tryd.ntmps75
  go_wp2
  go_loop [8] (fun i => ∃ k : Nat, k ≤ l.length ∧ i = .int .i64 k ∧ AllR l k) (fun i => l.length - (intOf i).toNat)
  case atStart => exact ⟨0, Nat.zero_le _, rfl, fun x hx => by simp at hx⟩
  case round =>
    obtain ⟨k, hk, rfl, hA⟩ := hrel
    have HA := Lib.hid hA
    clear hA
    by_cases hlt : k < l.length
    · obtain ⟨ad, rfl, _, hcell⟩ := hr.cell hlt
      clear hr
      have K1 : Hid (rightN (un (l.getD k 0#64)) = true → AllR l (k + 1)) := by show _ → _; exact allr_step hlt HA.out
      have K2 : Hid (rightN (un (l.getD k 0#64)) = false → BadAt l k) := by
        show _ → _
        exact fun h => .inr ⟨by omega, _, getD_mem hlt, fun h2 => by rw [(rightN_iff _).2 h2] at h; cases h⟩
      generalize l.getD k 0#64 = x at *
      cases hx : rightN (un x)
      · have HX := Lib.hid hx
        clear hx
        go_wp2_with (go_at_call 51; refine (badC_ok _ _).mono ?_; rintro e w' ⟨rfl, rfl⟩; rw [HX.out])
        go_ret
        exact ⟨⟨_, rfl, K2.out HX.out⟩, rfl⟩
      · have HX := Lib.hid hx
        clear hx
        go_wp2_with (go_at_call 51; refine (badC_ok _ _).mono ?_; rintro e w' ⟨rfl, rfl⟩; rw [HX.out])
        go_round
        case rel => exact ⟨k + 1, by omega, by go_num, K1.out HX.out⟩
        case measure => simp [intOf]; omega
    · have hke : k = l.length := by omega
      subst hke
      go_wp2
      go_ret
      exact ⟨⟨_, rfl, .inl ⟨rfl, fun x hx => HA.out x (by rw [List.take_length]; exact hx)⟩⟩, rfl⟩
set_option maxHeartbeats 400000 in
theorem containsBadC_ok (l : List B) (p : Option Addr) (n c : Nat) (w : World) (hr : FltsAt w p n l) :
    Calls Tryd.prog 50 #[.slice p n c, .func (.func 51) #[] #[]] w fun e w' => (∃ b : Bool, e = .returned (.bool b) ∧ BadB l b) ∧ w = w' := by
  go_enter Tryd.func50, Tryd.ntmps50
  go_wp2_with (go_at_call 75; refine (indexBadC_ok l _ _ _ _ hr).mono ?_; rintro e w' ⟨⟨i, rfl, hi⟩, rfl⟩; have HI := Lib.hid hi; clear hi)
  go_ret
  refine ⟨⟨_, rfl, ?_⟩, rfl⟩
  rcases HI.out with ⟨h1, h2⟩ | ⟨h1, h2⟩
  · exact .inl ⟨by simp; omega, h2⟩
  · exact .inr ⟨by simp; omega, h2⟩
theorem run_store_float (P : Program) (w : World) (a : Addr) (m : Mode) (k : FloatKind) (b : Nat) : (store a (.float k b) m).run P w = stored P w a (.float k b) m := run_store P w a _ m rfl
attribute [go_sem] run_store_float
def fv (T : List Nat) : List Value := T.map (Value.float .f64)
theorem flts_fv (l : List B) : flts l = fv (l.map un) := by unfold flts fv; rw [List.map_map]; rfl
theorem fv_set (T : List Nat) (k x : Nat) : (fv T).set k (.float .f64 x) = fv (T.set k x) := by unfold fv; rw [List.map_set]
theorem made_zero_f (n : Nat) : (madeCells (Value.float .f64 0).cells (n * 1)).toList = fv (List.replicate n 0) := by
  unfold madeCells fv
  apply List.ext_getElem
  · simp
  · intro i h1 h2
    simp [Value.cells, Nat.mod_one]
theorem own_f_at {w : World} {base b n c : Nat} {T : List Nat} (h : w.ownsRow base 22 1 (.slice (some ⟨b, 0, none⟩) n c) n (fv T)) {k : Nat} (hk : k < n) : w.cell? ⟨b, k, none⟩ = some (.float .f64 (T.getD k 0)) := by
  rw [h.cellAt k (by omega)]
  have hl : T.length = n := by have := h.1; simpa [fv] using this
  unfold fv
  rw [List.getElem?_map, List.getD_eq_getElem?_getD, List.getElem?_eq_getElem (by omega)]
  rfl
theorem f_at {w : World} {b n : Nat} {p : Option Addr} {D : List Nat} (h : Reads w b 1 p n (fv D)) {k : Nat} (hk : k < n) : ∃ ad, p = some ad ∧ ad.block < b ∧ w.cell? (ad.add k) = some (.float .f64 (D.getD k 0)) := by
  obtain ⟨ad, u, rfl, hb, hu, hc⟩ := h.at_ hk
  refine ⟨ad, rfl, hb, ?_⟩
  have hl : k < D.length := by have := h.1; simp [fv] at this; omega
  rw [hc, ← hu]
  unfold fv
  rw [List.getElem?_map, List.getD_eq_getElem?_getD, List.getElem?_eq_getElem hl]
  rfl
theorem run_maxf (ts : Array TypeId) (t : TypeId) (x y : Nat) (hx : x ≤ INF) (hy : y ≤ INF) (w : World) : (Builtin.max_ ts t #[.float .f64 x, .float .f64 y]).run Tryd.prog w = .ok (.float .f64 (max x y)) w := by
  have ho : FloatKind.f64.format.order x y = some (compare x y) := order_pos hx hy
  have hI : INF < SG := by decide
  have hS : SG < 18446744073709551616 := by decide
  have hn : (FloatKind.f64.decode x).neg = false := by
    have sx : sgn x = false := sgn_pos (by omega)
    rcases Nat.lt_or_ge x INF with h1 | h1
    · obtain ⟨m, k, e1, _⟩ := read_fin (x := x) (by omega) (by rw [show rung x = x from Nat.mod_eq_of_lt (by omega)]; omega)
      show (Ieee.double.read x).neg = false
      rw [e1, sx]; rfl
    · have e1 := read_inf (x := x) (by omega) (by rw [show rung x = x from Nat.mod_eq_of_lt (by omega)]; omega)
      show (Ieee.double.read x).neg = false
      rw [e1, sx]; rfl
  unfold Builtin.max_
  simp only [List.foldlM, Builtin.max2]
  rw [ho]
  rcases Nat.lt_trichotomy x y with h | h | h
  · rw [Nat.compare_eq_lt.2 h, Nat.max_eq_right (by omega)]; rfl
  · subst h
    rw [Nat.compare_eq_eq.2 rfl, Nat.max_self]
    simp [hn]
  · rw [Nat.compare_eq_gt.2 h, Nat.max_eq_left (by omega)]; rfl
theorem run_addn (x y : Nat) (hx : x ≤ INF) (hy : y ≤ INF) : ∀ w : World, (binOp .add 22 (.float .f64 x) (.float .f64 y)).run Tryd.prog w = .ok (.float .f64 (plus x y)) w := fun w => run_addf x y hx hy w
set_option maxRecDepth 100000 in
set_option maxHeartbeats 4000000 in
theorem times_ok (p : Option Addr) (n c : Nat) (r : List B) (hv : Valid r) (q : Option Addr) (cq : Nat) (D : List Nat) (hI : ∀ n, D.getD n 0 ≤ INF) (g : Option Addr) (cg : Nat) (o : List Nat) (left : B) (hO : KOrd r o left) (w : World)
    (hR : RowsAt w p n r) (hD : Reads w w.heap.size 1 q n (fv D)) (hQ : Reads w w.heap.size 1 g o.length (ints o)) (hT : Tab w) :
    Calls Tryd.prog 26 #[.slice p n c, .slice q n cq, .slice g o.length cg] w fun e w' => ∃ (T : List Nat), e = .returned (.slice (some ⟨w.heap.size, 0, none⟩) n n) ∧ Stage r D o o.length T ∧ w'.ownsRow w.heap.size 22 1 (.slice (some ⟨w.heap.size, 0, none⟩) n n) n (fv T) ∧ Below w.heap.size w w' := by
  have hl := hR.len
  subst hl
  have h64 := hv.1
  have ho64 := kord_len hv hO
  have HO := Lib.hid hO
  have HV := Lib.hid hv
  have HI := Lib.hid hI
  have HS0 := Lib.hid (stage_zero r D o)
  obtain ⟨i0, hi, hz0, hz1, hz2⟩ := info_parts info_f64
  clear hO hI hv
  go_enter Tryd.func26, Tryd.ntmps26
  go_wp2_with (at_make; refine wpList_make_full _ rfl _ _ 32 rfl w.heap.size 22 i0 (.float .f64 0) 1 Tryd.underlying32 hi hz0 hz1 .i64 .i64 (r.length : Int) (r.length : Int) r.length rfl rfl rfl rfl ?b2 ?b3 (Nat.le_refl _) ?_; rotate_right; intro w2 hown2 hgrow)
  case b2 => rw [hz2]; omega
  case b3 => unfold maxLen; omega
  rw [made_zero_f] at hown2
  have hb2 : Below w.heap.size w w2 := (Below.refl _ _).grown hgrow (Nat.le_refl _) (fun k hk => by cases hk)
  clear hgrow
  go_wp2
  go_loopw [18] (fun i wr => ∃ (k : Nat) (T : List Nat), k ≤ o.length ∧ i = .int .i64 k ∧ Hid (Stage r D o k T) ∧ wr.ownsRow w.heap.size 22 1 (.slice (some ⟨w.heap.size, 0, none⟩) r.length r.length) r.length (fv T) ∧ Below w.heap.size w wr)
    (fun i _ => o.length - (intOf i).toNat)
  case atStart => exact ⟨0, _, Nat.zero_le _, rfl, HS0.out, hown2, hb2⟩
  case round =>
    obtain ⟨k, T, hk, rfl, HB, hownr, hbr⟩ := hrel
    obtain ⟨wo, rfl⟩ : ∃ wo : World, wo = wr := ⟨_, rfl⟩
    clear hown2 hb2
    by_cases hlt : k < o.length
    · have hRr := hR.below hbr
      have hTr := hT.below hbr
      obtain ⟨ado, rfl, _, hco⟩ := ((hQ.below hbr).more hbr.size).int_at hlt
      have hnr : o.getD k 0 < r.length := HO.out.lt _ (by simp [hlt])
      have hnx0 : Stage r D o (k + 1) (T.set (o.getD k 0) (plus (mxk T (lst (row r (o.getD k 0)))) (D.getD (o.getD k 0) 0))) := by
        have := stage_step HO.out HB.out hlt
        have e : o.getD k 0 = o[k] := by simp [hlt]
        rw [e]; exact this
      obtain ⟨j, hj⟩ : ∃ j, j = o.getD k 0 := ⟨_, rfl⟩
      rw [← hj] at hnr hco hnx0
      obtain ⟨adr, rfl, _, hc⟩ := hRr.cell hnr
      obtain ⟨adq, rfl, _, hcd⟩ := f_at ((hD.below hbr).more hbr.size) hnr
      obtain ⟨x, hx⟩ : ∃ x, x = row r j := ⟨_, rfl⟩
      have HXK := Lib.hid (fun q hq => by rw [hx] at hq; exact HV.out.2 j q hq : ∀ q, has x q = true → q < r.length)
      rw [← hx] at hc hnx0
      have HNX := Lib.hid hnx0
      clear hnx0 hj hx
      have hdI := HI.out j
      generalize D.getD j 0 = dj at *
      have HTI := Lib.hid HB.out.le
      have hownv := hownr
      have HBR := Lib.hid hbr
      have hszr := hbr.size
      go_wp2_with (go_at_call 17; refine (List_ok x _ hTr).mono ?_; rintro e w3 ⟨gl, cl, rfl, hownl, hb3⟩)
      have hownw := own_below hownr hb3
      have HB3 := Lib.hid hb3
      have hsz3 := hb3.size
      have hlx := Lib.hid (cnt_lst x)
      have hcx := cnt_le x
      have hcqw : w3.cell? (adq.add j) = some (.float .f64 dj) := by
        rw [hb3.cell (by rw [block_of_add]; assumption)]; exact hcd
      have HL := Lib.hid hownl
      clear hownr hownv hownl hRr hTr hc hcd hco hbr hb3 HB
      go_loop [10, 28] (fun b i => ∃ j : Nat, j ≤ cnt x ∧ i = .int .i64 j ∧ b = .float .f64 (mxk T ((lst x).take j))) (fun _ i => cnt x - (intOf i).toNat)
      case atStart => exact ⟨0, Nat.zero_le _, rfl, by rw [List.take_zero, mxk_nil]⟩
      case round =>
        obtain ⟨i, hi', rfl, rfl⟩ := hrel
        by_cases hil : i < cnt x
        · obtain ⟨al, rfl, hal, hcl⟩ := (Reads.of_own HL.out).int_at hil
          have hil' : i < (lst x).length := by rw [← hlx.out]; exact hil
          have HSN : Hid (mxk T ((lst x).take (i + 1)) = max (mxk T ((lst x).take i)) (T.getD ((lst x).getD i 0) 0)) := by
            refine Lib.hid ?_
            rw [List.take_succ_eq_append_getElem hil', mxk_snoc]
            simp [hil']
          have hmr : (lst x).getD i 0 < r.length := HXK.out _ (by
            rw [List.getD_eq_getElem?_getD, List.getElem?_eq_getElem hil']
            exact mem_lst.1 (List.getElem_mem hil'))
          have hcm := own_f_at hownw hmr
          have hmx := run_maxf #[22, 22] 22 (mxk T ((lst x).take i)) (T.getD ((lst x).getD i 0) 0) (mxk_inf HTI.out) (HTI.out _) w3
          generalize T.getD ((lst x).getD i 0) 0 = tq at *
          generalize (lst x).getD i 0 = q at *
          have HW := Lib.hid hownw
          clear hownw
          go_wp2
          go_round
          case rel => exact ⟨i + 1, by omega, by go_num, by rw [HSN.out]⟩
          case measure => simp [intOf]; omega
        · obtain rfl : i = cnt x := by omega
          have hall : (lst x).take (cnt x) = lst x := by rw [hlx.out, List.take_length]
          rw [hall]
          have hadd := run_addn (mxk T (lst x)) dj (mxk_inf HTI.out) hdI
          have hfr := hownw.frozenAt j
          have hcj := own_f_at hownw hnr
          have hst1 := hownw.stored j (.float .f64 (plus (mxk T (lst x)) dj))
          rw [fv_set] at hst1
          have hst : Hid ((w3.setCell ⟨w.heap.size, j, none⟩ (.float .f64 (plus (mxk T (lst x)) dj))).ownsRow w.heap.size 22 1 (.slice (some ⟨w.heap.size, 0, none⟩) r.length r.length) r.length (fv (T.set j (plus (mxk T (lst x)) dj))) ∧
              w3.grownBy (w3.setCell ⟨w.heap.size, j, none⟩ (.float .f64 (plus (mxk T (lst x)) dj))) (some w.heap.size)) :=
            hst1
          have HW := Lib.hid hownw
          have HBW := Lib.hid (below_next HBR.out HB3.out)
          clear hownw hst1 hall HL
          generalize mxk T (lst x) = mb at *
          generalize T.getD j 0 = told at *
          go_wp2
          go_roundw
          case rel => exact ⟨k + 1, _, by omega, by go_num, HNX.out, hst.out.1, HBW.out.grown hst.out.2 HBW.out.size (fun b hb => by cases hb; exact Nat.le_refl _)⟩
          case measure => simp [intOf]; omega
    · obtain rfl : k = o.length := by omega
      have HOW := Lib.hid hownr
      clear hownr
      go_wp2
      go_ret
      exact ⟨T, rfl, HB.out, HOW.out, hbr⟩
end Go.Proofs.YtlhomgbibhacoaaDoor
