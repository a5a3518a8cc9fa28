/- Texts joined: Box4W, Door, PopW, LowW, ListW, MakeW. Conditions: theirs. -/
import Derived.Test.YtoiolepengcagaaGreatDoorGraphRightLWM6
import Derived.Deep.Onto
import Derived.Maps.AppendAt
import Derived.Sort.Row
import Derived.Test.YtoiolepengcagaaGreatDoorRows
import Derived.Test.YtoiolepengcagaaGreatDoorShelf
import Derived.Test.YtoiolepengcagaaGreatDoorMem
import Derived.Test.YtoiolepengcagaaGreatDoorGraphRightLWM4
import Derived.WalkKit
import Derived.ProofKit
import Derived.LaidMore
import Derived.OpenShut
import Derived.Stop.Joined
import Derived.Lib.LaidTab
import Derived.FnData
import Derived.Shelf.Spec.TrailingZeros
import Derived.Lib.Split
import Derived.Test.YtoiolepengcagaaGreatDoorGraphRightLWM5
import Derived.Test.YtoiolepengcagaaGreatDoorGraphRightLWM13
import Derived.Deep.RegionHeld3
namespace Go.Proofs.YtoiolepengcagaaGreatDoor
open Go.RowKit Go.Shelf Go.Sort
theorem hao (w : World) (o : Obj) (i : Nat) (h : i < w.heap.size) : (w.alloc o).heap[i]? = w.heap[i]? := by
  show (w.heap.push o)[i]? = w.heap[i]?
  rw [Array.getElem?_push, if_neg (Nat.ne_of_lt h)]
theorem han (w : World) (o : Obj) : (w.alloc o).heap[w.heap.size]? = some o := by
  show (w.heap.push o)[w.heap.size]? = some o
  simp
theorem han2 (w : World) (a b : Obj) : ((w.alloc a).alloc b).heap[w.heap.size + 1]? = some b := by
  have h := han (w.alloc a) b
  have e : (w.alloc a).heap.size = w.heap.size + 1 := by simp
  rwa [e] at h
theorem grown_set (w : World) (a : Addr) (u : Value) : w.grownBy (w.setCell a u) (some a.block) :=
  ⟨rfl, rfl, rfl, by simp, fun k _ hk => heap_setCell_other w a k u (fun e => hk (by rw [e]))⟩
/-- whoever grows behind a world, but for one block of it -/
theorem grown_step {W w w' : World} {row : Option Nat} {bx : Nat} (h : W.grownBy w (some bx)) (hg : w.grownBy w' row) (hr : ∀ k, row = some k → k = bx ∨ W.heap.size ≤ k) : W.grownBy w' (some bx) :=
  ⟨hg.os.trans h.os, hg.tape.trans h.tape, hg.output.trans h.output, Nat.le_trans h.size hg.size, fun k hk hne => by
    rw [hg.block k (Nat.lt_of_lt_of_le hk h.size) (fun e => by
      rcases hr k e.symm with h1 | h1
      · exact hne (by rw [h1])
      · omega), h.block k hk hne]⟩
theorem box4 {w : World} {b : Nat} {t : TypeId} {v0 v1 v2 v3 : Value} (h : w.heap[b]? = some (.cells #[v0, v1, v2, v3] t (0, 0))) :
    w.cell? ⟨b, 0, none⟩ = some v0 ∧ w.cell? ⟨b, 1, none⟩ = some v1 ∧ w.cell? ⟨b, 2, none⟩ = some v2 ∧ w.cell? ⟨b, 3, none⟩ = some v3 ∧ ∀ o, w.frozen? ⟨b, o, none⟩ = false := by
  refine ⟨?_, ?_, ?_, ?_, fun o => ?_⟩
  all_goals simp [World.cell?, World.frozen?, h]
theorem box4_set1 {w : World} {b : Nat} {t : TypeId} {v0 v1 v2 v3 : Value} (h : w.heap[b]? = some (.cells #[v0, v1, v2, v3] t (0, 0))) (u : Value) :
    (w.setCell ⟨b, 1, none⟩ u).heap[b]? = some (.cells #[v0, u, v2, v3] t (0, 0)) := by
  rw [setCell_eq]
  simp [mapBlock, onCells, Array.getElem?_modify, h]
theorem box4_all {w : World} {b : Nat} {t : TypeId} {v0 v1 v2 v3 : Value} (h : w.heap[b]? = some (.cells #[v0, v1, v2, v3] t (0, 0))) (u0 u1 u2 u3 : Value) :
    ((((w.setCell ⟨b, 0, none⟩ u0).setCell ⟨b, 1, none⟩ u1).setCell ⟨b, 2, none⟩ u2).setCell ⟨b, 3, none⟩ u3).heap[b]? = some (.cells #[u0, u1, u2, u3] t (0, 0)) := by
  simp only [setCell_eq]
  simp [mapBlock, onCells, Array.getElem?_modify, h]
theorem below_set4 {B b : Nat} {w w' : World} (h : Below B w w') (hb : B ≤ b) (u0 u1 u2 u3 : Value) :
    Below B w ((((w'.setCell ⟨b, 0, none⟩ u0).setCell ⟨b, 1, none⟩ u1).setCell ⟨b, 2, none⟩ u2).setCell ⟨b, 3, none⟩ u3) :=
  (((h.setCell hb _).setCell hb _).setCell hb _).setCell hb _
theorem own_formT {w : World} {base e n size : Nat} {v : Value} {xs : List Value} (h : w.ownsRow base e size v n xs) : ∃ (g : Option Addr) (c : Nat), v = .slice g n c ∧ ∀ b, v.ownBlock = some b → base ≤ b ∧ b < w.heap.size := by
  rcases h.2 with ⟨rfl, rfl⟩ | ⟨g, cap, cur, rfl, hb, hh, _⟩
  · exact ⟨none, 0, rfl, fun b hb => by cases hb⟩
  · exact ⟨_, cap, rfl, fun b hb' => h.lt b hb'⟩
theorem info_edge : (Tryz.prog.info? 59).map (fun i => (i.zero, i.size, i.bytes)) = some (some (.agg #[.int .i64 0, .int .i64 0]), 2, 16) := by kernel_rfl
theorem app_edge (w : World) {ops : Array Oper} {rest : List Oper} {o : Oper} {a : Act} {Q : Exit → Act → World → Prop} (hgd : o.guard = none) (s x : Operand)
    (ho : o.op = .call { callee := .builtin .append, args := #[s, x], argTypes := #[51, 51] })
    (base : Nat) (v : Value) (n : Nat) (xs : List E2) (hs : a.eval s = v) (hown : w.ownsRow base 59 2 v n (cells2 eF eG xs))
    (g : Nat) (y : E2) (hx : a.eval x = .slice (some ⟨g, 0, none⟩) 1 1) (hc0 : w.cell? ⟨g, 0, none⟩ = some (.int .i64 y.1)) (hc1 : w.cell? ⟨g, 1, none⟩ = some (.int .i64 y.2))
    (hn : n ≤ 8796093022207) (hbase : base ≤ w.heap.size)
    (h : ∀ v' w', w'.ownsRow base 59 2 v' (n + 1) (cells2 eF eG (xs ++ [y])) → w.grownBy w' v.ownBlock → wpList Tryz.prog ops Q rest (a.put o.dst v') w') : wpList Tryz.prog ops Q (o :: rest) a w := by
  obtain ⟨i0, hi, hz0, hz1, hz2⟩ := info_parts info_edge
  refine wpList_append_own w hgd s x 51 ho base 59 i0 _ 2 16 Tryz.underlying51 hi hz0 hz1 hz2 rfl (by decide) v n _ hs hown ⟨g, 0, none⟩ 1 1 [eF y, eG y] hx rfl ?_ ?_ (by unfold maxLen; omega) (by omega) hbase (fun v' w' h1 h2 _ => h v' w' ?_ h2)
  · intro j q hj
    match j, hj with
    | 0, hj => simp at hj; subst hj; simpa [Addr.add, eF] using hc0
    | 1, hj => simp at hj; subst hj; simpa [Addr.add, eG] using hc1
  · intro q hq; simp at hq; rcases hq with rfl | rfl <;> rfl
  · rw [cells2_append]; exact h1
theorem results_ct {P : Program} {fn : Func} {p u : Tmp} {ty : TypeId} (h : fn.results = #[.cell p ty, .tmp u]) (tmps : Array Value) (w : World) (g : Nat) (t : TypeId) (cs : Array Value) (fr : Nat × Nat) (d : TypeDesc) (x : Value)
    (hp : tmps.getD p undef = .pointer (some ⟨g, 0, none⟩)) (hx : tmps.getD u undef = x) (hg : w.heap[g]? = some (.cells cs t fr))
    (hu : P.underlying ty = some d) (hd : (match d with | .struct _ | .array _ _ => true | _ => false) = true) (hi : (P.info? ty).map (·.size) = some cs.size) :
    (results fn tmps).run P w = .ok (.tuple #[.agg cs, x]) w := by
  have hp' : tmps[p]?.getD undef = .pointer (some ⟨g, 0, none⟩) := by simpa using hp
  have hx' : tmps[u]?.getD undef = x := by simpa using hx
  rw [results_cell_tmp h]
  simp [hp', hx', asAddr, run_loadVar_row w g t ty cs fr d hg hu hd hi, Result.andThen]
end Go.Proofs.YtoiolepengcagaaGreatDoor
namespace Go.Proofs.YtoiolepengcagaaGreatDoor
open Go.ChangeShapes Go.WideShapes Go.ChangeAt Go.RowKit
def laidL : List (String × DataW Unit) := Rows.graphRightRow.laid
def tabName : String := "math/bits.deBruijn64tab"
def tabInts : List Int := Lib.deBruijn64tab.map Int.ofNat
theorem ownK : ownKnob Tryz.prog.godebug = none := by kernel_rfl
theorem laidOutK : laidOutB Tryz.prog = true := by kernel_rfl
theorem tabG : Tryz.prog.globalNamed tabName = some 1 := by kernel_rfl
theorem tabTD : (Tryz.prog.globals[1]?).map (·.type) = some 201 := by kernel_rfl
theorem tabCE : Tryz.prog.cellsOf 5 = 1 := by kernel_rfl
theorem tabCT : Tryz.prog.cellsOf 201 = 64 := by kernel_rfl
theorem laid_one {P : Program} {w : World} : ∀ {l : List (String × DataW Unit)} {ps : List MemPlace}, DataW.LaidVars P w l ps → ∀ x ∈ l, ∃ g t cs fuel p, P.globalNamed x.1 = some g ∧ (P.globals[g]?).map (·.type) = some t ∧ w.var? P x.1 = some cs ∧ DataW.trod (fun _ => ()) P w 0 (fun _ => true) false fuel t cs.toList = some (x.2, p) := by
  intro l
  induction l with
  | nil => intro ps _ x hx; cases hx
  | cons y l ih =>
    intro ps h x hx
    obtain ⟨n, d⟩ := y
    obtain ⟨g, t, cs, fuel, p, q, h1, h2, h3, h4, h5, _⟩ := h
    rcases List.mem_cons.1 hx with rfl | hx
    · exact ⟨g, t, cs, fuel, p, h1, h2, h3, h4⟩
    · exact ih h5 x hx
/-- a table of numbers that is on the list reads as listed -/
theorem laid_tab {w : World} (h : laidMetH Tryz.prog laidL w) {name : String} {k : IntKind} {zs : List Int} {g : Nat} {t e : TypeId} {n : Nat} (hm : (name, (Lib.tabData k zs : DataW Unit)) ∈ laidL)
    (hg : Tryz.prog.globalNamed name = some g) (hty : (Tryz.prog.globals[g]?).map (·.type) = some t) (ht : Tryz.prog.underlying t = some (.array n e)) (he : Tryz.prog.underlying e = some (.int k)) (hce : Tryz.prog.cellsOf e = 1) (hct : Tryz.prog.cellsOf t = n) : Lib.TabIs Tryz.prog w name k zs := by
  rw [MakeChecks.laidMetH_plain _ _ _ (by kernel_rfl)] at h
  obtain ⟨ps, hl, _⟩ := h
  obtain ⟨g', t', cs, fuel, p, hg', ht', hvar, hd⟩ := laid_one hl _ hm
  obtain rfl := Option.some.inj (hg.symm.trans hg')
  obtain rfl := Option.some.inj (hty.symm.trans ht')
  unfold Lib.TabIs
  rw [hvar, ← Lib.cells_of_tab ht he hce hct hd]
/-- the table's cells -/
def Tab (w : World) : Prop := TabAt 1 Lib.deBruijn64tab w
theorem tab_of {w : World} (h : laidMetH Tryz.prog laidL w) : Tab w := by
  have hT := laid_tab h (name := tabName) (k := .u8) (zs := tabInts) (by show _ ∈ [_, _, _]; repeat (first | exact List.Mem.head _ | apply List.Mem.tail)) tabG tabTD Tryz.underlying201 Tryz.underlying5 tabCE tabCT
  intro j hj
  have hc := hT.cell tabG j (by simpa [tabInts] using hj)
  rw [hc]
  have e : tabInts.getD j 0 = ((Lib.deBruijn64tab.getD j 0 : Nat) : Int) := by
    unfold tabInts
    rw [List.getD_eq_getElem?_getD, List.getD_eq_getElem?_getD, List.getElem?_map]
    cases Lib.deBruijn64tab[j]? <;> rfl
  rw [e]
theorem Tab.keep {w w' : World} (h : Tab w) (hk : ∀ j : Nat, w'.cell? ⟨1, j, none⟩ = w.cell? ⟨1, j, none⟩) : Tab w' :=
  fun j hj => (hk j).trans (h j hj)
theorem Tab.lt {w : World} (h : Tab w) : 1 < w.heap.size := by
  have := h 0 (by decide)
  rcases Nat.lt_or_ge 1 w.heap.size with hlt | hge
  · exact hlt
  · unfold World.cell? at this
    simp [Array.getElem?_eq_none hge] at this
theorem Tab.below {w w' : World} (h : Tab w) (hb : Below w.heap.size w w') : Tab w' := h.keep fun _ => hb.cell h.lt
theorem Tab.belowB {w w' : World} {b : Nat} (h : Tab w) (hg : 1 < b) (hb : Below b w w') : Tab w' := h.keep fun _ => hb.cell hg
theorem Tab.alloc {w : World} (h : Tab w) (o : Obj) : Tab (w.alloc o) := h.keep fun _ => World.cell?_alloc_lt w o _ h.lt
theorem Tab.drew {w : World} (h : Tab w) : Tab w.drew := h
theorem Tab.drewN {w : World} (h : Tab w) (n : Nat) : Tab (w.drewN n) := h
end Go.Proofs.YtoiolepengcagaaGreatDoor
namespace Go.Proofs.YtoiolepengcagaaGreatDoor
open Go.RowKit
theorem and_lit (a m : Nat) (ha : a < 18446744073709551616) (hm : m < 18446744073709551616) (k : Int) (hk : (m : Int) = k) : bits .and .u64 (a : Int) k = ((a &&& m : Nat) : Int) := by
  subst hk; exact u64_and_nat a m ha hm
theorem i64_and_lit (a m : Nat) (ha : a < 9223372036854775808) (hm : m < 9223372036854775808) : bits .and .i64 (a : Int) (m : Int) = ((a &&& m : Nat) : Int) := by
  have hx : a &&& m < 2 ^ 63 := Nat.and_lt_two_pow _ (by omega)
  show IntKind.i64.wrap ((BitVec.ofInt 64 (a : Int) &&& BitVec.ofInt 64 (m : Int)).toNat : Int) = _
  rw [BitVec.toNat_and, ofInt_u64 a (by omega), ofInt_u64 m (by omega), IntKind.wrap_i64]
  omega
set_option maxHeartbeats 1000000 in
theorem ones_nat (x : Nat) (hx : x < 18446744073709551616) (w : World) : Calls Tryz.prog 128 #[.int .u64 (x : Int)] w fun e w' => e = .returned (.int .i64 (pop 64 x : Int)) ∧ w = w' := by
  have m5 : mask 0x55 8 = 6148914691236517205 := rfl
  have m3 : mask 0x33 8 = 3689348814741910323 := rfl
  have m0 : mask 0x0f 8 = 1085102592571150095 := rfl
  have eA : pA 8 (x) = (x / 2 &&& 6148914691236517205) + (x &&& 6148914691236517205) := by unfold pA; rw [m5]
  have h1 := and_lit (x / 2) 6148914691236517205 (by omega) (by omega) 6148914691236517205 rfl
  have h2 := and_lit (x) 6148914691236517205 (by omega) (by omega) 6148914691236517205 rfl
  have b1 : x / 2 &&& 6148914691236517205 ≤ 6148914691236517205 := Nat.and_le_right
  have b2 : x &&& 6148914691236517205 ≤ 6148914691236517205 := Nat.and_le_right
  have hfin := ones_eq (x)
  unfold onesGo at hfin
  rw [eA] at hfin
  rw [Int.natCast_ediv] at h1
  replace h1 : bits .and .u64 ((x : Int) / 2) 6148914691236517205 = ((x / 2 &&& 6148914691236517205 : Nat) : Int) := h1
  generalize x / 2 &&& 6148914691236517205 = a1 at *
  generalize x &&& 6148914691236517205 = a2 at *
  have eB : pB 8 (a1 + a2) = ((a1 + a2) / 4 &&& 3689348814741910323) + ((a1 + a2) &&& 3689348814741910323) := by unfold pB; rw [m3]
  have h3 := and_lit ((a1 + a2) / 4) 3689348814741910323 (by omega) (by omega) 3689348814741910323 rfl
  have h4 := and_lit (a1 + a2) 3689348814741910323 (by omega) (by omega) 3689348814741910323 rfl
  have b3 : (a1 + a2) / 4 &&& 3689348814741910323 ≤ 3689348814741910323 := Nat.and_le_right
  have b4 : (a1 + a2) &&& 3689348814741910323 ≤ 3689348814741910323 := Nat.and_le_right
  rw [eB] at hfin
  rw [Int.natCast_ediv, Int.natCast_add] at h3
  replace h3 : bits .and .u64 (((a1 : Int) + (a2 : Int)) / 4) 3689348814741910323 = (((a1 + a2) / 4 &&& 3689348814741910323 : Nat) : Int) := h3
  rw [Int.natCast_add] at h4
  generalize (a1 + a2) / 4 &&& 3689348814741910323 = a3 at *
  generalize (a1 + a2) &&& 3689348814741910323 = a4 at *
  have eC : pC 8 (a3 + a4) = ((a3 + a4) / 16 + (a3 + a4)) &&& 1085102592571150095 := by unfold pC; rw [m0]
  have h5 := and_lit ((a3 + a4) / 16 + (a3 + a4)) 1085102592571150095 (by omega) (by omega) 1085102592571150095 rfl
  have b5 : ((a3 + a4) / 16 + (a3 + a4)) &&& 1085102592571150095 ≤ 1085102592571150095 := Nat.and_le_right
  rw [eC] at hfin
  rw [Int.natCast_add, Int.natCast_ediv, Int.natCast_add] at h5
  replace h5 : bits .and .u64 (((a3 : Int) + (a4 : Int)) / 16 + ((a3 : Int) + (a4 : Int))) 1085102592571150095 = (((a3 + a4) / 16 + (a3 + a4) &&& 1085102592571150095 : Nat) : Int) := h5
  generalize ((a3 + a4) / 16 + (a3 + a4)) &&& 1085102592571150095 = y at *
  have h6 := i64_and_lit (y + y / 256 + (y + y / 256) / 65536 + (y + y / 256 + (y + y / 256) / 65536) / 4294967296) 127 (by omega) (by omega)
  rw [show ∀ a, a &&& 127 = a % 128 from fun a => nat_mask7 a, hfin] at h6
  simp only [Int.natCast_add, Int.natCast_ediv] at h6
  replace h6 : bits .and .i64 ((y : Int) + (y : Int) / 256 + ((y : Int) + (y : Int) / 256) / 65536 + ((y : Int) + (y : Int) / 256 + ((y : Int) + (y : Int) / 256) / 65536) / 4294967296) 127 = (pop 64 x : Int) := h6
  clear hfin eA eB eC m5 m3 m0
  generalize pop 64 (x) = q at *
  go_enter Tryz.func128, Tryz.ntmps128
  go_wp2
  go_ret
  exact ⟨rfl, rfl⟩
theorem ones_ok (s : B) (w : World) : Calls Tryz.prog 128 #[.int .u64 (un s)] w fun e w' => e = .returned (.int .i64 (cnt s : Int)) ∧ w = w' :=
  (ones_nat (un s) (un_lt s) w).mono fun _ _ ⟨h1, h2⟩ => ⟨by rw [cnt_eq]; exact h1, h2⟩
set_option maxHeartbeats 1000000 in
theorem count_ok (s : B) (w : World) : Calls Tryz.prog 92 #[.int .u64 (un s)] w fun e w' => e = .returned (.int .i64 (cnt s : Int)) ∧ w = w' := by
  go_enter Tryz.func92, Tryz.ntmps92
  go_wp2_with (go_at_call 128; refine (ones_ok _ _).mono ?_; rintro e w' ⟨rfl, rfl⟩)
  go_ret
  exact ⟨rfl, rfl⟩
end Go.Proofs.YtoiolepengcagaaGreatDoor
namespace Go.Proofs.YtoiolepengcagaaGreatDoor
open Go.RowKit
set_option maxHeartbeats 1000000 in
theorem tz_core (x k idx : Nat) (w : World) (hx0 : ((x : Int) == 0) = false)
    (key : IntKind.u64.wrap (bits BinOp.and IntKind.u64 (x : Int) (IntKind.u64.wrap (-(x : Int))) * 285870213051353865) / 288230376151711744 = (idx : Int))
    (hi : idx < 64) (hk : k < 64) (hcell : w.cell? ⟨1, idx, none⟩ = some (.int .u8 k)) :
    Calls Tryz.prog 129 #[.int .u64 x] w fun e w' => e = .returned (.int .i64 k) ∧ w = w' := by
  go_enter Tryz.func129, Tryz.ntmps129
  go_wp2_with (simp only [key])
  go_ret
  exact ⟨rfl, rfl⟩
set_option maxHeartbeats 1000000 in
/-- the least number of a set that has some -/
theorem tz_ok (s : B) (hs : s ≠ 0#64) (w : World) (hT : Tab w) : Calls Tryz.prog 129 #[.int .u64 (un s)] w fun e w' => e = .returned (.int .i64 (low s : Int)) ∧ w = w' := by
  have hx0 : un s ≠ 0 := fun e => hs (un_inj (by rw [e]; rfl))
  have hx := un_lt s
  obtain ⟨hlow, hk⟩ := Lib.lowest_bit 64 (un s) hx0 hx
  obtain ⟨hi, htab⟩ := Lib.deBruijn64_at _ hk
  have hcell := hT _ hi
  rw [htab] at hcell
  exact tz_core (un s) _ _ w (by simp; omega) (tz64_key (un s) _ hx hx0 hlow) hi hk hcell
set_option maxHeartbeats 1000000 in
theorem least_ok (s : B) (hs : s ≠ 0#64) (w : World) (hT : Tab w) : Calls Tryz.prog 93 #[.int .u64 (un s)] w fun e w' => e = .returned (.int .i64 (low s : Int)) ∧ w = w' := by
  go_enter Tryz.func93, Tryz.ntmps93
  go_wp2_with (go_at_call 129; refine (tz_ok _ hs _ hT).mono ?_; rintro e w' ⟨rfl, rfl⟩)
  go_ret
  exact ⟨rfl, rfl⟩
theorem un_zero_int {s : B} (h : s = 0#64) : (un s : Int) = 0 := by rw [h]; rfl
theorem un_ne0 {s : B} (h : s ≠ 0#64) : ((un s : Int) == 0) = false := by
  have : un s ≠ 0 := fun e => h (un_inj (by rw [e]; rfl))
  simpa using this
theorem un_ne1 {s : B} (h : s ≠ 0#64) : ((un s : Int) != 0) = true := by
  have : un s ≠ 0 := fun e => h (un_inj (by rw [e]; rfl))
  simpa using this
/-- what Next answers -/
def nextV (s : B) (m : Nat) : Value := if frm s m = 0#64 then .tuple #[.int .i64 0, .bool false] else .tuple #[.int .i64 (low (frm s m) : Int), .bool true]
theorem frm_big {s : B} {m : Nat} (h : 64 ≤ m) : frm s m = 0#64 := eq_zero_iff.2 fun n => by
  rw [has_frm]
  rcases Nat.lt_or_ge n 64 with h1 | h1
  · have : ¬ m ≤ n := by omega
    simp [this]
  · rw [has_ge h1]; simp
theorem lst_ne {t : B} (h : lst t ≠ []) : t ≠ 0#64 := fun e => h (by rw [e, lst_zero])
/-- the k-th number -/
def nth (s : B) (k : Nat) : Nat := (lst s).getD k 0
theorem lst_drop {s t : B} {j : Nat} (h : lst t = (lst s).drop j) (hj : j < (lst s).length) : t ≠ 0#64 ∧ lst (t &&& (t - 1#64)) = (lst s).drop (j + 1) ∧ low t = nth s j := by
  have hn : nth s j = (lst s)[j] := by unfold nth; simp [hj]
  rw [hn]
  have hd : (lst s).drop j = (lst s)[j] :: (lst s).drop (j + 1) := List.drop_eq_getElem_cons hj
  have h0 : t ≠ 0#64 := lst_ne (by rw [h, hd]; exact List.cons_ne_nil _ _)
  rw [lst_step h0, hd] at h
  injection h with h1 h2
  exact ⟨h0, h2, h1⟩
end Go.Proofs.YtoiolepengcagaaGreatDoor
namespace Go.Proofs.YtoiolepengcagaaGreatDoor
open Go.RowKit
theorem info_int : (Tryz.prog.info? 3).map (fun i => (i.zero, i.size, i.bytes)) = some (some (.int .i64 0), 1, 8) := by kernel_rfl
theorem ints_snoc (xs : List Nat) (x : Nat) : ints (xs ++ [x]) = ints xs ++ [.int .i64 (x : Int)] := by simp [ints]
theorem take_lst {s x : B} {j : Nat} (h : lst x = (lst s).drop j) (hj : j < (lst s).length) : ints ((lst s).take (j + 1)) = ints ((lst s).take j) ++ [.int .i64 (low x : Int)] := by
  obtain ⟨_, _, h3⟩ := lst_drop h hj
  have hn : nth s j = (lst s)[j] := by unfold nth; simp [hj]
  rw [List.take_succ_eq_append_getElem hj, ints_snoc, h3, hn]
theorem app_int (w : World) {ops : Array Oper} {rest : List Oper} {o : Oper} {a : Act} {Q : Exit → Act → World → Prop} (hgd : o.guard = none) (s x : Operand)
    (ho : o.op = .call { callee := .builtin .append, args := #[s, x], argTypes := #[111, 111] })
    (base : Nat) (v : Value) (n : Nat) (xs : List Value) (hs : a.eval s = v) (hown : w.ownsRow base 3 1 v n xs)
    (g : Nat) (u : Value) (hu : u.oneCell' = true) (hx : a.eval x = .slice (some ⟨g, 0, none⟩) 1 1) (hcell : w.cell? ⟨g, 0, none⟩ = some u)
    (hn : n ≤ 1099511627776) (hbase : base ≤ w.heap.size)
    (h : ∀ v' w', w'.ownsRow base 3 1 v' (n + 1) (xs ++ [u]) → w.grownBy w' v.ownBlock → wpList Tryz.prog ops Q rest (a.put o.dst v') w') : wpList Tryz.prog ops Q (o :: rest) a w := by
  obtain ⟨i0, hi, hz0, hz1, hz2⟩ := info_parts info_int
  refine wpList_append_own w hgd s x 111 ho base 3 i0 (.int .i64 0) 1 8 Tryz.underlying111 hi hz0 hz1 hz2 rfl (by decide) v n xs hs hown ⟨g, 0, none⟩ 1 1 [u] hx rfl ?_ ?_ (by unfold maxLen; omega) (by omega) hbase (fun v' w' h1 h2 _ => h v' w' h1 h2)
  · intro j q hj
    match j, hj with
    | 0, hj => simp at hj; subst hj; simpa [Addr.add] using hcell
  · intro q hq; simp at hq; subst hq; exact hu
theorem own_form {w : World} {base e n : Nat} {v : Value} {xs : List Value} (h : w.ownsRow base e 1 v n xs) : ∃ (g : Option Addr) (c : Nat), v = .slice g n c ∧ ∀ b, v.ownBlock = some b → base ≤ b ∧ b < w.heap.size := by
  rcases h.2 with ⟨rfl, rfl⟩ | ⟨g, cap, cur, rfl, hb, hh, _⟩
  · exact ⟨none, 0, rfl, fun b hb => by cases hb⟩
  · refine ⟨_, cap, rfl, fun b hb' => ?_⟩
    have : g = b := by simpa [Value.ownBlock] using hb'
    subst this
    exact ⟨hb, by
      rcases Nat.lt_or_ge g w.heap.size with h1 | h1
      · exact h1
      · rw [Array.getElem?_eq_none h1] at hh; cases hh⟩
theorem drop_lt {t : B} (h : t ≠ 0#64) : un (t &&& (t - 1#64)) < un t := by
  have h0 : un t ≠ 0 := fun e => h (un_inj (by rw [e]; rfl))
  have h1 : un (t - 1#64) = un t - 1 := by
    unfold un at h0 ⊢
    rw [BitVec.toNat_sub_of_le]
    · rfl
    · rw [BitVec.le_def]; show 1 ≤ t.toNat; omega
  have h2 : un (t &&& (t - 1#64)) ≤ un (t - 1#64) := by unfold un; rw [BitVec.toNat_and]; exact Nat.and_le_right
  omega
set_option maxRecDepth 100000 in
set_option maxHeartbeats 2000000 in
theorem List_ok (s : B) (w : World) (hT : Tab w) : Calls Tryz.prog 54 #[.int .u64 (un s)] w
    fun e w' => ∃ (g : Option Addr) (c : Nat), e = .returned (.slice g (cnt s) c) ∧ w'.ownsRow w.heap.size 3 1 (.slice g (cnt s) c) (cnt s) (ints (lst s)) ∧ Below w.heap.size w w' := by
  have hc64 := cnt_le s
  have hcl := cnt_lst s
  have HC := Lib.hid hcl
  clear hcl
  obtain ⟨i0, hi, hz0, hz1, hz2⟩ := info_parts info_int
  go_enter Tryz.func54, Tryz.ntmps54
  go_wp2_with (first | (go_at_call 92; refine (count_ok _ _).mono ?_; rintro e w' ⟨rfl, rfl⟩) | (at_make; refine wpList_make_own _ rfl _ _ 111 rfl w.heap.size 3 i0 (.int .i64 0) 1 Tryz.underlying111 hi hz0 hz1 .i64 .i64 (cnt s : Int) (cnt s) rfl rfl rfl ?b2 ?b3 (Nat.le_refl _) ?_; rotate_right; intro w1 hown hgrow))
  case b2 => rw [hz2]; omega
  case b3 => unfold maxLen; omega
  have hb1 : Below w.heap.size w w1 := (Below.refl _ _).grown hgrow (Nat.le_refl _) (fun k hk => by cases hk)
  have hT1 := hT.below hb1
  clear hgrow
  go_loopw [0, 3] (fun x v wr => ∃ (j : Nat) (t : B), j ≤ cnt s ∧ x = .int .u64 (un t) ∧ Hid (lst t = (lst s).drop j) ∧ wr.ownsRow w.heap.size 3 1 v j (ints ((lst s).take j)) ∧ Below w.heap.size w wr)
    (fun x _ _ => (intOf x).toNat)
  case atStart => exact ⟨0, s, by omega, rfl, by show lst s = _; simp, hown, hb1⟩
  case round =>
    obtain ⟨j, t, hj, rfl, HX, hownr, hbr⟩ := hrel
    have hTr := hT.below hbr
    by_cases hlt : j < cnt s
    · have hjl : j < (lst s).length := by rw [← HC.out]; exact hlt
      have HD := Lib.hid (lst_drop HX.out hjl)
      have HT := Lib.hid (take_lst HX.out hjl)
      have e0 := un_ne0 HD.out.1
      have HL := Lib.hid (drop_lt HD.out.1)
      clear HX hjl
      obtain ⟨g, c, rfl, hfb⟩ := own_form hownr
      have hsz := hbr.size
      go_wp2_with (first | (go_at_call 93; refine (least_ok t HD.out.1 _ hTr).mono ?_; rintro e w' ⟨rfl, rfl⟩) | (at_builtin; refine app_int _ rfl _ _ rfl w.heap.size _ j _ rfl (hownr.alloc _) wr.heap.size (.int .i64 (low t : Int)) rfl rfl ?c1 (by omega) ?c2 ?_; rotate_right; intro v' w2 hown2 hgrow2))
      case c1 => simp
      case c2 => simp; omega
      rw [← HT.out] at hown2
      have hb2 : Below w.heap.size w w2 := (hbr.alloc hsz _).grown hgrow2 (by simp; omega) (fun k hk => (hfb k hk).1)
      clear hown hb1 hownr hgrow2 hbr hfb hTr hT1
      go_wp2
      go_roundw
      case rel => exact ⟨j + 1, _, by omega, rfl, HD.out.2.1, hown2, hb2⟩
      case measure => simp [intOf]; exact HL.out
    · obtain rfl : j = cnt s := by omega
      have ht0 : t = 0#64 := by
        have h1 : lst t = [] := by rw [HX.out, HC.out]; simp
        by_cases h0 : t = 0#64
        · exact h0
        · rw [lst_step h0] at h1; cases h1
      have e0 : (un t : Int) = 0 := un_zero_int ht0
      have hall : (lst s).take (cnt s) = lst s := by rw [HC.out]; exact List.take_length
      rw [hall] at hownr
      clear ht0 hall HX
      obtain ⟨g, c, rfl, hfb⟩ := own_form hownr
      go_wp2
      go_ret
      exact ⟨g, c, rfl, hownr, hbr⟩
end Go.Proofs.YtoiolepengcagaaGreatDoor
namespace Go.Proofs.YtoiolepengcagaaGreatDoor
open Go.RowKit Go.Shelf Go.Maps Go.Sort
def nilG : Value := .agg #[.slice none 0 0, .slice none 0 0, .int .u64 0, .int .u64 0]
def MakePost (w : World) (F : FileV) (zs : List ByteArray) (e : Ending) (w' : World) : Prop :=
  (∃ v, e = .returned (.tuple #[v, .int .i64 (makeE F zs)]) ∧ (makeE F zs ≠ 0 → v = nilG) ∧ (makeE F zs = 0 → GrAt w' v (makeG F zs))) ∧ Below w.heap.size w w'
theorem MakePost.err {w w' : World} {F : FileV} {zs : List ByteArray} {E : Int} (h : makeE F zs = E) (h0 : E ≠ 0) (hb : Below w.heap.size w w') : MakePost w F zs (.returned (.tuple #[nilG, .int .i64 E])) w' :=
  ⟨⟨nilG, by rw [h], fun _ => rfl, fun e => absurd (h.symm.trans e) h0⟩, hb⟩
/-- append at edges; where the new row lies -/
theorem app_edgeA (w : World) {ops : Array Oper} {rest : List Oper} {o : Oper} {a : Act} {Q : Exit → Act → World → Prop} (hgd : o.guard = none) (s x : Operand)
    (ho : o.op = .call { callee := .builtin .append, args := #[s, x], argTypes := #[51, 51] })
    (base : Nat) (v : Value) (n : Nat) (xs : List E2) (hs : a.eval s = v) (hown : w.ownsRow base 59 2 v n (cells2 eF eG xs))
    (g : Nat) (y : E2) (hx : a.eval x = .slice (some ⟨g, 0, none⟩) 1 1) (hc0 : w.cell? ⟨g, 0, none⟩ = some (.int .i64 y.1)) (hc1 : w.cell? ⟨g, 1, none⟩ = some (.int .i64 y.2))
    (hn : n ≤ 8796093022207) (hbase : base ≤ w.heap.size)
    (h : ∀ v' w', w'.ownsRow base 59 2 v' (n + 1) (cells2 eF eG (xs ++ [y])) → w.grownBy w' v.ownBlock → (v'.ownBlock = v.ownBlock ∨ v'.ownBlock = some w.heap.size) → wpList Tryz.prog ops Q rest (a.put o.dst v') w') : wpList Tryz.prog ops Q (o :: rest) a w := by
  obtain ⟨i0, hi, hz0, hz1, hz2⟩ := info_parts info_edge
  refine wpList_append_own_at w hgd s x 51 ho base 59 i0 _ 2 16 Tryz.underlying51 hi hz0 hz1 hz2 rfl (by decide) v n _ hs hown ⟨g, 0, none⟩ 1 1 [eF y, eG y] hx rfl ?_ ?_ (by unfold maxLen; omega) (by omega) hbase (fun v' w' h1 h2 _ h4 => h v' w' ?_ h2 h4)
  · intro j q hj
    match j, hj with
    | 0, hj => simp at hj; subst hj; simpa [Addr.add, eF] using hc0
    | 1, hj => simp at hj; subst hj; simpa [Addr.add, eG] using hc1
  · intro q hq; simp at hq; rcases hq with rfl | rfl <;> rfl
  · rw [cells2_append]; exact h1
/-- a newer row stays while an older one grows -/
theorem own_apartM {w w' w'' : World} {B lo e k n e2 k2 m : Nat} {v v2 : Value} {xs ys : List Value} (h1 : w'.ownsRow B e k v n xs) (h2 : w.ownsRow lo e2 k2 v2 m ys) (hB : w.heap.size ≤ B) (hg : w'.grownBy w'' v2.ownBlock) : w''.ownsRow B e k v n xs := by
  refine h1.kept hg ?_
  cases hq : v.ownBlock with
  | none => exact .inl rfl
  | some b =>
    refine .inr fun e => ?_
    have g1 := (h1.lt b hq).1
    have g2 := (h2.lt b e.symm).2
    omega
theorem Reads.int_atM {w : World} {b n : Nat} {p : Option Addr} {xs : List Nat} (h : Reads w b 1 p n (ints xs)) {k : Nat} (hk : k < n) : ∃ ad, p = some ad ∧ ad.block < b ∧ w.cell? (ad.add k) = some (.int .i64 (xs.getD k 0 : Int)) := by
  obtain ⟨ad, u, rfl, hb, hu, hc⟩ := h.at_ hk
  refine ⟨ad, rfl, hb, ?_⟩
  have hl : k < xs.length := by have := h.1; simp [ints] at this; omega
  rw [hc, ← hu]
  simp [ints, hl]
theorem row_neM {v : Value} {bx : Nat} (h : ∀ b, v.ownBlock = some b → b ≠ bx) : v.ownBlock = none ∨ v.ownBlock ≠ some bx := by
  cases hq : v.ownBlock with
  | none => exact .inl rfl
  | some b => exact .inr fun e => h b hq (by injection e)
theorem row_neR {v : Value} {r : Option Nat} (h : ∀ b, v.ownBlock = some b → r ≠ some b) : v.ownBlock = none ∨ v.ownBlock ≠ r := by
  cases hq : v.ownBlock with
  | none => exact .inl rfl
  | some b => exact .inr fun e => h b hq e.symm
theorem box4_set0 {w : World} {b : Nat} {t : TypeId} {v0 v1 v2 v3 : Value} (h : w.heap[b]? = some (.cells #[v0, v1, v2, v3] t (0, 0))) (u : Value) :
    (w.setCell ⟨b, 0, none⟩ u).heap[b]? = some (.cells #[u, v1, v2, v3] t (0, 0)) := by
  rw [setCell_eq]
  simp [mapBlock, onCells, Array.getElem?_modify, h]
/-- the graph while its edges are laid -/
structure MInv (wb : World) (bx : Nat) (pn : Option Addr) (nn cn : Nat) (es : List E2) (pe : Option Addr) (ce : Nat) (wr : World) : Prop where
  box : wr.heap[bx]? = some (.cells #[.slice pn nn cn, .slice pe es.length ce, .int .u64 0, .int .u64 0] 54 (0, 0))
  ownE : wr.ownsRow wb.heap.size 59 2 (.slice pe es.length ce) es.length (cells2 eF eG es)
  grow : wb.grownBy wr (some bx)
section
variable {wb wr : World} {bx : Nat} {pn : Option Addr} {nn cn : Nat} {es : List E2} {pe : Option Addr} {ce : Nat}
theorem MInv.lt (h : MInv wb bx pn nn cn es pe ce wr) : bx < wr.heap.size := (Array.getElem?_eq_some_iff.1 h.box).1
theorem MInv.below {w' : World} (h : MInv wb bx pn nn cn es pe ce wr) (hb : Below wr.heap.size wr w') : MInv wb bx pn nn cn es pe ce w' :=
  ⟨(hb.block bx h.lt).trans h.box, own_belowR h.ownE hb, grown_step h.grow (grown_any (r := none) hb) (fun k hk => by cases hk)⟩
/-- an edge more -/
theorem MInv.edge {w5 : World} {x : E2} {pe2 : Option Addr} {ce2 : Nat} (h : MInv wb bx pn nn cn es pe ce wr) (hbx : bx < wb.heap.size) (hg : wr.grownBy w5 (Value.slice pe es.length ce).ownBlock)
    (ho : w5.ownsRow wb.heap.size 59 2 (.slice pe2 (es.length + 1) ce2) (es.length + 1) (cells2 eF eG (es ++ [x]))) :
    w5.heap[bx]? = some (.cells #[.slice pn nn cn, .slice pe es.length ce, .int .u64 0, .int .u64 0] 54 (0, 0)) ∧
      MInv wb bx pn nn cn (es ++ [x]) pe2 ce2 (w5.setCell ⟨bx, 1, none⟩ (.slice pe2 (es.length + 1) ce2)) := by
  have hne : ∀ k, (Value.slice pe es.length ce).ownBlock = some k → wb.heap.size ≤ k := fun k hk => (h.ownE.lt k hk).1
  have hb5 := (hg.block bx h.lt fun e => by have := hne bx e.symm; omega).trans h.box
  have hl : (es ++ [x]).length = es.length + 1 := by simp
  have hn2 : (Value.slice pe2 (es.length + 1) ce2).ownBlock ≠ some bx := fun e => by have := (ho.lt bx e).1; omega
  refine ⟨hb5, ⟨?_, ?_, ?_⟩⟩
  · rw [hl]; exact box4_set1 hb5 _
  · rw [hl]; exact ho.kept (grown_set _ _ _) (.inr hn2)
  · exact (grown_step h.grow hg fun k hk => .inr (hne k hk)).trans (grown_set _ _ _)
end
theorem grown_set4M (w : World) (b : Nat) (u0 u1 u2 u3 : Value) : w.grownBy ((((w.setCell ⟨b, 0, none⟩ u0).setCell ⟨b, 1, none⟩ u1).setCell ⟨b, 2, none⟩ u2).setCell ⟨b, 3, none⟩ u3) (some b) :=
  (((grown_set w ⟨b, 0, none⟩ u0).trans (grown_set _ ⟨b, 1, none⟩ u1)).trans (grown_set _ ⟨b, 2, none⟩ u2)).trans (grown_set _ ⟨b, 3, none⟩ u3)
theorem box4_set2 {w : World} {b : Nat} {t : TypeId} {v0 v1 v2 v3 : Value} (h : w.heap[b]? = some (.cells #[v0, v1, v2, v3] t (0, 0))) (u : Value) :
    (w.setCell ⟨b, 2, none⟩ u).heap[b]? = some (.cells #[v0, v1, u, v3] t (0, 0)) := by
  rw [setCell_eq]
  simp [mapBlock, onCells, Array.getElem?_modify, h]
theorem box4_set3 {w : World} {b : Nat} {t : TypeId} {v0 v1 v2 v3 : Value} (h : w.heap[b]? = some (.cells #[v0, v1, v2, v3] t (0, 0))) (u : Value) :
    (w.setCell ⟨b, 3, none⟩ u).heap[b]? = some (.cells #[v0, v1, v2, u] t (0, 0)) := by
  rw [setCell_eq]
  simp [mapBlock, onCells, Array.getElem?_modify, h]
set_option maxHeartbeats 16000000 in
set_option maxRecDepth 100000 in
theorem Make_ok (F : FileV) (v : Value) (s : Option Addr) (t f : Nat) (zs : List ByteArray) (w : World) (h : FIv w F v) (hM : MLm w) (hz : ∀ x ∈ linesF F, x.length ≤ 1048600) (hT : Tab w) (hZ : NL w s t f zs) (hzb : t ≤ 1048576) (hci : ∀ a b p n c d, v = .agg #[a, b, .slice p n c, d] → n ≤ c) :
    Calls Tryz.prog 23 #[v, .slice s t f] w (MakePost w F zs) := by
  have hF := h
  obtain ⟨pm, nm, cm, pp, np, cp, pi, ni, ci, pr, nr, cr, hl, rfl, hin, hcp, _, _⟩ := h
  have hci := hci _ _ _ _ _ _ rfl
  have HIS : Hid (∀ u, P2At iF iG u pi ni ci F.inf → InfsIn u pi ni ci F.inf) := by
    show ∀ u, _
    intro u hu
    refine ⟨hu, fun x hx => ?_, hci⟩
    have := hz (x.1.data.toList ++ x.2.data.toList ++ [32, 58]) (by unfold linesF; simp only [List.mem_append, List.mem_map]; exact .inl (.inr ⟨x, hx, rfl⟩))
    simp only [List.length_append] at this
    rw [Lib.size_eq, Lib.size_eq]
    omega
  obtain ⟨W, hW⟩ : ∃ W, W = (w.alloc (.cells #[.slice pm nm cm, .slice pp np cp, .slice pi ni ci, .slice pr nr cr] 43)).alloc (.cells #[.slice none 0 0, .slice none 0 0, .int .u64 0, .int .u64 0] 54) := ⟨_, rfl⟩
  have hBW : Below w.heap.size w W := by rw [hW]; exact ((Below.refl _ _).alloc (Nat.le_refl _) _).alloc (by simp) _
  have HS : Hid (W.heap.size = w.heap.size + 2) := by show _ = _; rw [hW]; simp
  have HC : Hid (∀ u : World, Below W.heap.size W u → u.heap[w.heap.size]? = some (.cells #[.slice pm nm cm, .slice pp np cp, .slice pi ni ci, .slice pr nr cr] 43 (0, 0)) ∧ u.heap[w.heap.size + 1]? = some (.cells #[.slice none 0 0, .slice none 0 0, .int .u64 0, .int .u64 0] 54 (0, 0))) := by
    show ∀ u : World, _ → _
    intro u hu
    have hs := HS.out
    rw [hu.block _ (by omega), hu.block _ (by omega), hW]
    exact ⟨by rw [hao _ _ _ (by simp), han], han2 _ _ _⟩
  have HI := Lib.hid (fun u (hu : Below W.heap.size W u) => (hin.below hBW).below hu)
  have HZ := Lib.hid (fun u (hu : Below W.heap.size W u) => (hZ.below hBW).below hu)
  have HT := Lib.hid (fun u (hu : Below W.heap.size W u) => (hT.below hBW).belowB (Tab.lt (hT.below hBW)) hu)
  have HCk := Lib.hid (CheckF_ok F _ _ _ _ W (hF.below hBW) (hM.below hBW) hz)
  have HFIN : Hid (∀ u, Below W.heap.size W u → Below w.heap.size w u) := by show ∀ u, _; exact fun u hu => hBW.trans (hu.mono (by have := HS.out; omega))
  have HZB := Lib.hid hzb
  obtain ⟨hb0, hb1⟩ := HC.out W (Below.refl _ _)
  obtain ⟨k0, k1, k2, k3, _⟩ := box4 hb0
  rw [hW] at k0 k1 k2 k3
  clear hF hin hcp hci hBW hM hz hT hZ hzb hb0 hb1
  go_enter Tryz.func23, Tryz.ntmps23
  go_wp2_with fail
  rw [← hW]
  clear hW k0 k1 k2 k3
  refine HCk.out.mono ?_
  rintro e w2 ⟨rfl, hb2⟩
  have HB2 := Lib.hid hb2
  obtain ⟨hb0, hb1⟩ := HC.out w2 hb2
  obtain ⟨k0, k1, k2, k3, _⟩ := box4 hb0
  obtain ⟨l0, l1, l2, l3, l4⟩ := box4 hb1
  have l5 := l4 0
  have l6 := l4 1
  have l7 := l4 2
  have l8 := l4 3
  have HBL := Lib.hid hb1
  clear hb2 hb0 hb1 l4 HCk
  by_cases h0 : checkF F = 0
  case neg =>
    have HE : Hid (makeE F zs = checkF F) := by show _ = _; unfold makeE; rw [if_pos h0]
    obtain ⟨i1, i2⟩ := int_ne' h0
    have HNE := Lib.hid h0
    clear h0
    generalize checkF F = E at *
    go_wp2
    refine bodyPost_ret (v := .tuple #[nilG, .int .i64 E]) (results_ct Tryz.results23 _ _ (w.heap.size + 1) 54 _ (0, 0) _ _ rfl rfl ?hp Tryz.underlying54 rfl (by kernel_rfl)) rfl (MakePost.err HE.out HNE.out ?hb)
    case hp => exact box4_all HBL.out _ _ _ _
    case hb => exact below_set4 (HFIN.out _ HB2.out) (by omega) _ _ _ _
  case pos =>
  have HN := Lib.hid (file_n h0)
  have HCE := Lib.hid h0
  rw [h0]
  clear h0
  by_cases hf : fillE F.rs F.inf zs = 0
  case neg =>
    have HE : Hid (makeE F zs = fillE F.rs F.inf zs) := by show _ = _; unfold makeE; rw [if_neg (fun e => e HCE.out), if_pos hf]
    have HFl : Hid (Calls Tryz.prog 52 #[.slice pr nr cr, .slice pi ni ci, .slice s t f] w2 fun e w' => e = .returned (.tuple #[.slice none 0 0, .int .i64 (fillE F.rs F.inf zs)]) ∧ Below w2.heap.size w2 w') := by
      have hi := HI.out w2 HB2.out
      have := Fill_ok pr pi s nr cr ni ci t f hl F.inf zs w2 hi.rs (HIS.out _ hi.inf) (HZ.out w2 HB2.out) HZB.out
      rw [hi.same] at this
      refine this.mono ?_
      rintro e w' ⟨⟨v, rfl, hv, _⟩, hb⟩
      rw [hv hf]
      exact ⟨rfl, hb⟩
    obtain ⟨i1, i2⟩ := int_ne' hf
    have HNE := Lib.hid hf
    clear hf
    generalize fillE F.rs F.inf zs = E at *
    go_wp2_with (go_at_call 52; refine HFl.out.mono ?_; rintro e w3 ⟨rfl, hb3⟩; have HB3 := Lib.hid (HB2.out.trans (hb3.mono HB2.out.size)); obtain ⟨l0, l1, l2, l3, l4⟩ := box4 (HC.out w3 HB3.out).2; have l5 := l4 0; have l6 := l4 1; have l7 := l4 2; have l8 := l4 3; clear hb3 l4)
    refine bodyPost_ret (v := .tuple #[nilG, .int .i64 E]) (results_ct Tryz.results23 _ _ (w.heap.size + 1) 54 _ (0, 0) _ _ rfl rfl ?hp Tryz.underlying54 rfl (by kernel_rfl)) rfl (MakePost.err HE.out HNE.out ?hb)
    case hp => exact box4_all (HC.out w3 HB3.out).2 _ _ _ _
    case hb => exact below_set4 (HFIN.out _ HB3.out) (by omega) _ _ _ _
  case pos =>
  have HFE := Lib.hid hf
  obtain ⟨hj, _, _, _⟩ := fillE_zero hf
  have HJ := Lib.hid hj
  have HM4 := Lib.hid (endK_len (l := F.inf) (there := zs) hj)
  have HFl : Hid (Calls Tryz.prog 52 #[.slice pr nr cr, .slice pi ni ci, .slice s t f] w2 fun e w' => (∃ (p : Option Addr) (c : Nat) (l' : List (Hd × Hd)), e = .returned (.tuple #[.slice p (rowsM F zs).length c, .int .i64 0]) ∧ RulesIn w' p (rowsM F zs).length c l' ∧ l'.map rl = (rowsM F zs).map fun u => ([txt u], needM F zs u)) ∧ Below w2.heap.size w2 w') := by
    have hi := HI.out w2 HB2.out
    have := Fill_ok pr pi s nr cr ni ci t f hl F.inf zs w2 hi.rs (HIS.out _ hi.inf) (HZ.out w2 HB2.out) HZB.out
    rw [hi.same] at this
    refine this.mono ?_
    rintro e w' ⟨⟨v, rfl, _, hv⟩, hb⟩
    obtain ⟨p, c, l', rfl, h1, h2⟩ := hv hf
    rw [hf]
    exact ⟨⟨p, c, l', rfl, h1, h2⟩, hb⟩
  clear hf hj l0 l1 l2 l3 l5 l6 l7 l8
  obtain ⟨M, hMM⟩ : ∃ M, M = (rowsM F zs).length := ⟨_, rfl⟩
  rw [← hMM] at HFl
  have hm4 : M ≤ 4224 := by rw [hMM]; exact HM4.out
  have HMM := Lib.hid hMM
  clear hMM
  go_wp2_with (first
    | (go_at_call 52; refine HFl.out.mono ?_; rintro e w3 ⟨⟨qr, dr, l', rfl, hri, hrl⟩, hb3⟩; have HB3 := Lib.hid (HB2.out.trans (hb3.mono HB2.out.size)); have HRI := Lib.hid hri; have HRL := Lib.hid hrl; obtain ⟨j0, j1, j2, j3, _⟩ := box4 (HC.out w3 HB3.out).1; clear hb3 hri hrl k0 k1 k2 k3)
    | (go_at_call 16; refine (clone_nlw pp np cp F.ph w3 (HI.out w3 HB3.out).ph (by have := (HI.out w3 HB3.out).ph.reach; omega)).mono ?_; rintro e w4 ⟨⟨qa, da, rfl, hown4⟩, hb4⟩; have HO4 := Lib.hid hown4; have HB34 := Lib.hid hb4; have HB4 := Lib.hid (HB3.out.trans (hb4.mono HB3.out.size)); clear hown4 hb4 j0 j1 j2 j3))
  go_loopw [44, 9, 10] (fun i all made wr => ∃ (k : Nat) (qa : Option Addr) (da : Nat) (qm : Option Addr) (dm : Nat), k ≤ M ∧ i = .int .i64 k ∧ all = .slice qa (allTo F zs k).length da ∧ made = .slice qm k dm ∧ Hid (Below w3.heap.size w3 wr) ∧
      Hid (wr.ownsRow w3.heap.size 9 1 (.slice qa (allTo F zs k).length da) (allTo F zs k).length (strsV (allTo F zs k))) ∧ Hid (wr.ownsRow w3.heap.size 9 1 (.slice qm k dm) k (strsV (madeTo F zs k)))) (fun i _ _ _ => M - (intOf i).toNat)
  case atStart =>
    have hlp : F.ph.length = np := (HI.out w3 HB3.out).ph.at_.len
    have e0 : allTo F zs 0 = F.ph := by unfold allTo; simp
    exact ⟨0, qa, da, none, 0, Nat.zero_le _, rfl, by rw [e0, hlp], rfl, HB34.out, by rw [e0, hlp]; exact HO4.out, World.ownsRow_nil _ _ _ _⟩
  case round =>
    obtain ⟨k, qa, da, qm, dm, hk, rfl, rfl, rfl, HW, HO, HMD⟩ := hrel
    have HNA : Hid (NLw wr qa (allTo F zs k).length da (allTo F zs k)) := by
      show NLw _ _ _ _ _
      refine nlw_own HO.out (fun x hx => ?_) (by have := allTo_len (there := zs) HN.out HJ.out k; omega)
      have := nameE_size (allTo_names HN.out HFE.out k x hx)
      omega
    by_cases hlt : k < M
    · have hkl : k < l'.length := by rw [HRI.out.at_.len]; exact hlt
      obtain ⟨u, hu⟩ : ∃ u, (rowsM F zs)[k]? = some u := ⟨_, List.getElem?_eq_getElem (by rw [← HMM.out]; exact hlt)⟩
      have hel := List.getElem?_eq_getElem hkl
      have hry : rl l'[k] = ([txt u], needM F zs u) := by
        have := congrArg (fun x => x[k]?) HRL.out
        simp only [List.getElem?_map, hel, hu, Option.map_some] at this
        exact Option.some.inj this
      have hR := HRI.out.below HW.out
      obtain ⟨b, o, rfl, hb, c1, c2⟩ := hR.at_.cell hel
      have hok := hR.ok _ (List.getElem_mem hkl)
      have HNX := Lib.hid (allTo_next (there := zs) hu)
      have HMX := Lib.hid (madeTo_next (there := zs) hu)
      have HLK := Lib.hid (allTo_len (there := zs) HN.out HJ.out (k + 1))
      rw [← Nat.add_assoc] at c2
      clear hel hR
      generalize l'[k] = y at *
      obtain ⟨⟨p1, n1, cc1, T⟩, ⟨p2, n2, cc2, nd⟩⟩ := y
      simp only [rF, rG, rl, Hd.v] at c1 c2 hry
      obtain ⟨rfl, rfl⟩ := Prod.mk.inj hry
      obtain ⟨⟨k1, _⟩, ⟨k3, _⟩⟩ := hok
      simp only at k1 k3
      obtain rfl : 1 = n1 := k1.at_.len
      have l2 := k3.at_.len
      subst l2
      obtain ⟨nd, hnd⟩ : ∃ nd, nd = needM F zs u := ⟨_, rfl⟩
      rw [← hnd] at k3 c2 HNX
      clear hnd hry
      have hk1 : (k : Int) < (M : Int) := by omega
      obtain ⟨W0, hW0⟩ : ∃ W0, W0 = wr.alloc (.cells #[.slice p1 1 cc1, .slice p2 nd.length cc2] 61) := ⟨_, rfl⟩
      have hb0 : Below wr.heap.size wr W0 := by rw [hW0]; exact rb1 wr _
      have hs0 : W0.heap.size = wr.heap.size + 1 := by rw [hW0]; simp
      have cx0 : W0.cell? ⟨wr.heap.size, 0, none⟩ = some (.slice p1 1 cc1) := by rw [hW0]; simp
      have cx1 : W0.cell? ⟨wr.heap.size, 1, none⟩ = some (.slice p2 nd.length cc2) := by rw [hW0]; simp
      obtain ⟨A, hA⟩ : ∃ A, A = allTo F zs k := ⟨_, rfl⟩
      rw [← hA] at HNA HNX HO ⊢
      clear hA
      obtain ⟨W1, hW1⟩ : ∃ W1, W1 = W0.alloc (.cells #[.slice qa A.length da, .slice p1 1 cc1, .slice p2 nd.length cc2] 23) := ⟨_, rfl⟩
      have hb1 : Below W0.heap.size W0 W1 := by rw [hW1]; exact rb1 W0 _
      have hs1 : W1.heap.size = wr.heap.size + 2 := by rw [hW1]; simp [hs0]
      have hb01 : Below wr.heap.size wr W1 := hb0.trans (hb1.mono hb0.size)
      have HCc : Hid (Calls Tryz.prog 11 #[.slice (some ⟨wr.heap.size + 1, 0, none⟩) 3 3] W1 (CatPost W1 (allTo F zs (k + 1)))) := by
        show Calls _ _ _ _ _
        have := concat3w (HNA.out.below hb01) (k1.below hb01) (k3.below hb01) (by have := HLK.out; rw [HNX.out] at this; simp only [List.length_append, List.length_singleton] at this; omega) (B := W0.heap.size) (by rw [hW1]; simp) (by rw [hW1]; simp) (by rw [hW1]; simp) (by rw [hW1]; simp)
        rw [← HNX.out, hs0] at this
        exact this
      have HB01 := Lib.hid hb01
      have HK1 := Lib.hid k1
      have HCX : Hid (W1.cell? ⟨wr.heap.size, 0, none⟩ = some (.slice p1 1 cc1)) := by
        show _ = _
        rw [hb1.cell (by show wr.heap.size < W0.heap.size; omega)]
        exact cx0
      have HS1 := Lib.hid hs1
      clear k1 k3 hb01 hb1 hb0 hs1
      go_upto_region 12 with fail
      rw [← hW0]
      clear hW0 c1 c2
      go_wp2_with (first
        | (go_at_call 11; rw [← hW1]; refine HCc.out.mono ?_; rintro e w5 ⟨q2, d2, rfl, hown, hb5⟩; have HO5 := Lib.hid hown; have HB5 := Lib.hid hb5; have cy := (hb5.cell (p := ⟨wr.heap.size, 0, none⟩) (by show wr.heap.size < W1.heap.size; have := HS1.out; omega)).trans HCX.out; have HB15 := Lib.hid (HB01.out.trans (hb5.mono HB01.out.size)); clear hown hb5 cx0 cx1)
        | (at_builtin; refine app_nl _ rfl _ _ rfl w3.heap.size _ k (strsV (madeTo F zs k)) rfl (own_belowR HMD.out HB15.out) p1 1 cc1 [txt u] rfl (HK1.out.below HB15.out) (by omega) (by have := HW.out.size; have := HB15.out.size; omega) ?_; intro v' w6 hown6 hgrow6; obtain ⟨qm2, dm2, rfl⟩ := str_own hown6; have HO6 := Lib.hid hown6; have HG6 := Lib.hid hgrow6; clear hown6 hgrow6))
      go_roundw
      case rel =>
        refine ⟨k + 1, q2, d2, qm2, dm2, by omega, by go_num, rfl, rfl, ?_, ?_, ?_⟩
        · exact (HW.out.trans (HB15.out.mono HW.out.size)).grown HG6.out (by have := HW.out.size; have := HB15.out.size; omega) (fun b hb => (HMD.out.lt b hb).1)
        · exact World.ownsRow.mono (own_apartM HO5.out HMD.out (by have := HS1.out; omega) HG6.out) (by have := HW.out.size; have := HS1.out; omega)
        · show World.ownsRow _ _ _ _ _ _ _
          rw [HMX.out, strsV_app]
          exact HO6.out
      case measure => simp [intOf]; omega
    · obtain rfl : k = M := by omega
      have e1 : allTo F zs k = allM F zs := by rw [HMM.out]; exact allTo_all
      have e2 : madeTo F zs k = (rowsM F zs).map txt := by rw [HMM.out]; exact madeTo_all
      rw [e1] at HO HNA ⊢
      rw [e2] at HMD
      clear e1 e2 hlt
      obtain ⟨V, hV⟩ : ∃ V, V = wr.alloc (.cells #[.slice none 0 0, .slice none 0 0, .int .u64 0, .int .u64 0] 54) := ⟨_, rfl⟩
      obtain ⟨bx, hbx⟩ : ∃ bx, bx = wr.heap.size := ⟨_, rfl⟩
      have hbV : Below wr.heap.size wr V := by rw [hV]; exact rb1 wr _
      have hVs : V.heap.size = bx + 1 := by rw [hV, hbx]; simp
      have hVb : V.heap[bx]? = some (.cells #[.slice none 0 0, .slice none 0 0, .int .u64 0, .int .u64 0] 54 (0, 0)) := by rw [hV, hbx]; exact han _ _
      have HBV : Hid (Below w3.heap.size w3 V) := HW.out.trans (hbV.mono HW.out.size)
      have HMV : Hid (V.ownsRow w3.heap.size 9 1 (.slice qm k dm) k (strsV ((rowsM F zs).map txt))) := own_belowR HMD.out hbV
      have HWS : Hid (w3.heap.size ≤ bx) := by show _ ≤ _; rw [hbx]; exact HW.out.size
      have HQM : Hid (∀ b, (Value.slice qm k dm).ownBlock = some b → b < bx) := by show ∀ b, _; intro b hb; rw [hbx]; exact (HMD.out.lt b hb).2
      have HSo : Hid (Calls Tryz.prog 53 #[.slice qa (allM F zs).length da] V (SortPost V (allM F zs))) := by
        show Calls _ _ _ _ _
        refine Sort_yes qa _ da (allM F zs) V ?_ ((okN_mem rfl).2 ?_)
        · refine NL_own (own_belowR HO.out hbV) (fun x hx => ?_) HNA.out.reach
          have := allTo_names HN.out HFE.out (rowsM F zs).length x (by rw [allTo_all]; exact hx)
          have := nameE_size this
          omega
        · intro x hx
          exact allTo_names HN.out HFE.out (rowsM F zs).length x (by rw [allTo_all]; exact hx)
      have HVS := Lib.hid hVs
      have HVB := Lib.hid hVb
      clear HO HNA HMD hbV
      go_upto_region 16 with fail
      rw [← hV, ← hbx]
      clear hV hbx HW
      obtain ⟨x0, x1, x2, x3, x4⟩ := box4 hVb
      have x5 := x4 0
      have x6 := x4 1
      clear x4 hVb hVs
      go_upto_region 17 with (go_at_call 53; refine HSo.out.mono ?_; rintro e w5 ⟨gn, cn, rfl, hown5, hb5⟩; have HO5 := Lib.hid hown5; have HB5 := Lib.hid hb5; obtain ⟨x0, x1, x2, x3, x4⟩ := box4 ((hb5.block bx (by have := HVS.out; omega)).trans HVB.out); have x5 := x4 0; have x6 := x4 1; clear x4 hown5 hb5)
      obtain ⟨N, hN⟩ : ∃ N, N = namesK F zs := ⟨_, rfl⟩
      have hsn : sortN (allM F zs) = N := hN.symm
      rw [hsn] at HO5 ⊢
      have HNN := Lib.hid hN
      have hNs : N.Pairwise (· < ·) := by rw [hN]; exact namesM_strict
      have HNS := Lib.hid hNs
      have HNZ : Hid (∀ x ∈ bz N, x.size ≤ 4611686018427387904) := by
        show ∀ x ∈ bz N, _
        intro x hx
        rw [hN] at hx
        have := allTo_names HN.out HFE.out (rowsM F zs).length x (by rw [allTo_all]; exact sortN_mem_bz.1 hx)
        have := nameE_size this
        omega
      have hnl : N.length ≤ 300000 := by
        rw [hN]
        have := sortN_len (allM F zs)
        have h2 := allTo_len (there := zs) HN.out HJ.out (rowsM F zs).length
        rw [allTo_all] at h2
        unfold namesK
        omega
      clear hsn hNs hN
      obtain ⟨Z, hZ⟩ : ∃ Z, Z = w5.setCell ⟨bx, 0, none⟩ (.slice gn N.length cn) := ⟨_, rfl⟩
      have hbZ : Below bx w5 Z := by rw [hZ]; exact Below.setCell (p := ⟨bx, 0, none⟩) (Below.refl bx w5) (Nat.le_refl bx) _
      have hzb : Z.heap[bx]? = some (.cells #[.slice gn N.length cn, .slice none 0 0, .int .u64 0, .int .u64 0] 54 (0, 0)) := by
        rw [hZ]; exact box4_set0 ((HB5.out.block bx (by have := HVS.out; omega)).trans HVB.out) _
      have HOZ : Hid (Z.ownsRow (bx + 1) 9 1 (.slice gn N.length cn) N.length (N.map encStr)) := by
        show World.ownsRow _ _ _ _ _ _ _
        have h1 := HO5.out
        rw [HVS.out] at h1
        rw [hZ]
        exact h1.kept (grown_set _ _ _) (row_neM fun b hq => by have := (h1.lt b hq).1; show b ≠ bx; omega)
      have HMZ : Hid (Z.ownsRow w3.heap.size 9 1 (.slice qm k dm) k (strsV ((rowsM F zs).map txt))) := by
        show World.ownsRow _ _ _ _ _ _ _
        have h1 := own_belowR HMV.out HB5.out
        rw [hZ]
        exact h1.kept (grown_set _ _ _) (row_neM fun b hq => by have := HQM.out b hq; show b ≠ bx; omega)
      have HBZ : Hid (Below w3.heap.size w3 Z) := by
        show Below _ _ _
        exact (HBV.out.trans ((HB5.out).mono (by have := HVS.out; have := HWS.out; omega))).trans (hbZ.mono HWS.out)
      have HZB := Lib.hid hzb
      rw [← hZ]
      clear hZ hbZ x0 x1 x2 x3 x5 x6 HO5 HB5 HSo
      obtain ⟨x0, x1, x2, x3, x4⟩ := box4 hzb
      clear x4 hzb
      have HBWZ : Hid (Below W.heap.size W Z) := HB3.out.trans (HBZ.out.mono HB3.out.size)
      by_cases h64 : N.length ≤ 64
      case neg =>
        have HE : Hid (makeE F zs = 2) := by show _ = _; unfold makeE; rw [if_neg (fun e => e HCE.out), if_neg (fun e => e HFE.out), if_pos (by rw [← HNN.out]; omega)]
        have hgt : (64 : Int) < (N.length : Int) := by omega
        have hb1 := (HC.out Z HBWZ.out).2
        obtain ⟨l0, l1, l2, l3, l4⟩ := box4 hb1
        have l5 := l4 0
        have l6 := l4 1
        have l7 := l4 2
        have l8 := l4 3
        have HBL := Lib.hid hb1
        clear l4 hb1
        go_wp2
        refine bodyPost_ret (v := .tuple #[nilG, .int .i64 2]) (results_ct Tryz.results23 _ _ (w.heap.size + 1) 54 _ (0, 0) _ _ rfl rfl ?hp Tryz.underlying54 rfl (by kernel_rfl)) rfl (MakePost.err HE.out (by decide) ?hb)
        case hp => exact box4_all HBL.out _ _ _ _
        case hb => exact below_set4 (HFIN.out _ HBWZ.out) (by omega) _ _ _ _
      case pos =>
      have hle : ¬ (64 : Int) < (N.length : Int) := by omega
      have HWr : Hid (∀ u, Z.grownBy u (some bx) → Below w3.heap.size w3 u) := by
        show ∀ u, _
        intro u hg
        exact HBZ.out.grown hg HBZ.out.size (fun b hb => by cases hb; exact HWS.out)
      have HNr : Hid (∀ u, Z.grownBy u (some bx) → NL u gn N.length cn (bz N)) := by
        show ∀ u, _
        intro u hg
        have h1 := HOZ.out.kept hg (row_neM fun b hq => by have := (HOZ.out.lt b hq).1; omega)
        rw [← bz_strs] at h1
        exact NL_own h1 HNZ.out (by omega)
      have HSet : Hid (∀ (u : World) (q : Option Addr) (d : Nat) (ns : List ByteArray), Z.grownBy u (some bx) → NLw u q ns.length d ns → Calls Tryz.prog 55 #[.slice gn N.length cn, .slice q ns.length d] u fun e w' => e = .returned (.int .u64 (un (setM N ns) : Int)) ∧ ∃ m, w' = u.drewN m) := by
        show ∀ u q d ns, _
        intro u q d ns hg hq
        have h1 := HNr.out u hg
        rw [← bz_len N] at h1 ⊢
        exact gset_ok h1 HNS.out hq
      have hbxZ : bx < Z.heap.size := (Array.getElem?_eq_some_iff.1 HZB.out).1
      go_wp2_with fail
      go_loopw [74] (fun i wr => ∃ (m : Nat) (pe : Option Addr) (ce : Nat), m ≤ k ∧ i = .int .i64 m ∧ Hid (MInv Z bx gn N.length cn (edgesTo F zs m) pe ce wr)) (fun i _ => k - (intOf i).toNat)
      case atStart =>
        refine ⟨0, none, 0, Nat.zero_le _, rfl, ?_⟩
        have e0 : edgesTo F zs 0 = [] := by unfold edgesTo; simp
        rw [e0]
        exact ⟨HZB.out, World.ownsRow_nil _ _ _ _, ⟨rfl, rfl, rfl, Nat.le_refl _, fun _ _ _ => rfl⟩⟩
      case round =>
        obtain ⟨m, pe, ce, hm, rfl, HI2⟩ := hrel
        clear x0 x1 x2 x3
        by_cases hlt : m < k
        · have hkl : m < l'.length := by rw [HRI.out.at_.len]; exact hlt
          obtain ⟨u, hu⟩ : ∃ u, (rowsM F zs)[m]? = some u := ⟨_, List.getElem?_eq_getElem (by rw [← HMM.out]; exact hlt)⟩
          have hel := List.getElem?_eq_getElem hkl
          have hry : rl l'[m] = ([txt u], needM F zs u) := by
            have := congrArg (fun x => x[m]?) HRL.out
            simp only [List.getElem?_map, hel, hu, Option.map_some] at this
            exact Option.some.inj this
          have hR := HRI.out.below (HWr.out wr HI2.out.grow)
          obtain ⟨b, o, rfl, hb, c1, c2⟩ := hR.at_.cell hel
          have hok := hR.ok _ (List.getElem_mem hkl)
          have HEX := Lib.hid (edgesTo_next (there := zs) hu)
          have HEL := Lib.hid (edgesTo_len (there := zs) HJ.out m)
          have huN : (txt u).data.toList ∈ N := by
            rw [txt_list, HNN.out]
            exact row_in (List.mem_of_getElem? hu)
          rw [← Nat.add_assoc] at c2
          clear hel hR
          generalize l'[m] = y at *
          obtain ⟨⟨p1, n1, cc1, T⟩, ⟨p2, n2, cc2, nd⟩⟩ := y
          simp only [rF, rG, rl, Hd.v] at c1 c2 hry
          obtain ⟨rfl, rfl⟩ := Prod.mk.inj hry
          obtain ⟨⟨k1, _⟩, ⟨k3, _⟩⟩ := hok
          simp only at k1 k3
          obtain rfl : 1 = n1 := k1.at_.len
          have l2 := k3.at_.len
          subst l2
          rw [← HNN.out] at HEX
          obtain ⟨nd, hnd⟩ : ∃ nd, nd = needM F zs u := ⟨_, rfl⟩
          rw [← hnd] at k3 c2 HEX
          clear hnd hry
          have hk1 : (m : Int) < (k : Int) := by omega
          obtain ⟨adt, hadt, _, hct⟩ := str_at k1.at_.reads (by omega : 0 < 1)
          obtain ⟨bt, ot, hat, hbt⟩ := k1.plain (by omega) adt hadt
          subst hat
          subst hadt
          obtain ⟨W0, hW0⟩ : ∃ W0, W0 = wr.alloc (.cells #[.slice (some ⟨bt, ot, none⟩) 1 cc1, .slice p2 nd.length cc2] 61) := ⟨_, rfl⟩
          have hb0 : Below wr.heap.size wr W0 := by rw [hW0]; exact rb1 wr _
          have hs0 : W0.heap.size = wr.heap.size + 1 := by rw [hW0]; simp
          have cx0 : W0.cell? ⟨wr.heap.size, 0, none⟩ = some (.slice (some ⟨bt, ot, none⟩) 1 cc1) := by rw [hW0]; simp
          have cx1 : W0.cell? ⟨wr.heap.size, 1, none⟩ = some (.slice p2 nd.length cc2) := by rw [hW0]; simp
          have cxt : W0.cell? ⟨bt, ot, none⟩ = some (.string (txt u)) := by
            rw [Addr.add_lit] at hct
            rw [hb0.cell (by show bt < wr.heap.size; exact hbt)]
            simpa using hct
          have HI0 : Hid (MInv Z bx gn N.length cn (edgesTo F zs m) pe ce W0) := HI2.out.below hb0
          have HFQ : Hid (∀ q, Calls Tryz.prog 25 #[.slice gn N.length cn, .string (txt u)] (W0.drewN q) fun e w' => e = .returned (.tuple #[.int .i64 (N.idxOf u : Nat), .bool true]) ∧ ∃ q', w' = W0.drewN q') := by
            show ∀ q, _
            intro q
            have h1 := (HNr.out W0 HI0.out.grow).drew q
            rw [← bz_len N] at h1
            have h2 := find_at h1 HNS.out huN
            rw [bz_len N, txt_list] at h2
            refine h2.mono ?_
            rintro e w' ⟨rfl, q2, rfl⟩
            exact ⟨rfl, q + q2, by simp [World.drewN, Nat.add_assoc]⟩
          have HK3 : Hid (NLw W0 p2 nd.length cc2 nd) := k3.below hb0
          obtain ⟨r, hr⟩ : ∃ r, r = N.idxOf u := ⟨_, rfl⟩
          rw [← hr] at HFQ
          have HRr := Lib.hid hr
          clear hr k1 k3 hct hbt huN
          go_upto_region 22 with fail
          rw [← hW0]
          clear hW0 c1 c2
          obtain ⟨x0, x1, x2, x3, x4⟩ := box4 HI0.out.box
          clear x4
          go_quiet ((go_at_call 25; exact HFQ.out _))
          go_upto_region 23 with fail
          obtain ⟨Y, hY⟩ : ∃ Y, Y = W0.drewN nq := ⟨_, rfl⟩
          have hbY : Below W0.heap.size W0 Y := by rw [hY]; exact below_drawsP (Below.refl _ _) _
          have HIY : Hid (MInv Z bx gn N.length cn (edgesTo F zs m) pe ce Y) := HI0.out.below hbY
          have cy1 : Y.cell? ⟨wr.heap.size, 1, none⟩ = some (.slice p2 nd.length cc2) := by rw [hY]; exact cx1
          have HKY : Hid (NLw Y p2 nd.length cc2 nd) := HK3.out.below hbY
          obtain ⟨y0, y1, y2, y3, y4⟩ := box4 HIY.out.box
          rw [← hY]
          clear hY x0 x1 x2 x3 cx0 cx1 cxt y4
          have HTY : Hid (∀ j, Tab (Y.drewN j)) := by
            show ∀ j, _
            intro j
            refine HT.out _ (HB3.out.trans ((HWr.out Y HIY.out.grow).mono HB3.out.size) |>.trans ?_)
            exact below_drawsP (Below.refl _ _) j
          have HST := Lib.hid (HSet.out Y p2 cc2 nd HIY.out.grow HKY.out)
          obtain ⟨S, hS⟩ : ∃ S, S = setM N nd := ⟨_, rfl⟩
          rw [← hS] at HST
          have HSS := Lib.hid hS
          clear hS
          have hcn := cnt_le S
          go_wp2_with (first
            | (go_at_call 55; refine HST.out.mono ?_; rintro e wa ⟨rfl, ja, rfl⟩)
            | (go_at_call 54; refine (List_ok S _ (HTY.out ja)).mono ?_; rintro e wl ⟨gl, cl, rfl, hown, hbl⟩; have HLL := Lib.hid hown; have HBL := Lib.hid hbl; clear hown hbl))
          have HBYl : Hid (Below Y.heap.size Y wl) := by
            show Below _ _ _
            exact (below_drawsP (Below.refl Y.heap.size Y) ja).trans HBL.out
          have HIl : Hid (MInv Z bx gn N.length cn (edgesTo F zs m) pe ce wl) := HIY.out.below HBYl.out
          obtain ⟨y0, y1, y2, y3, y4⟩ := box4 HIl.out.box
          have HE0 : Hid (edgesTo F zs m ++ (rowM N u nd).take 0 = edgesTo F zs m) := by show _ = _; simp
          have HNE : Hid (∀ b, (Value.slice pe (edgesTo F zs m).length ce).ownBlock = some b → (Value.slice gl (cnt S) cl).ownBlock ≠ some b) := by
            show ∀ b, _
            intro b hb e
            have h1 := (HIY.out.ownE.lt b hb).2
            have h2 := (HLL.out.lt b e).1
            have h3 : Y.heap.size = (Y.drewN ja).heap.size := rfl
            omega
          obtain ⟨E0, hE0⟩ : ∃ E0, E0 = edgesTo F zs m := ⟨_, rfl⟩
          rw [← hE0] at HIl HE0 HEX HEL HNE
          have hwl : Z.heap.size ≤ wl.heap.size := HIl.out.grow.size
          have HZY : Hid (Z.heap.size ≤ Y.heap.size) := HIY.out.grow.size
          clear hE0 y4 HIY HI0 HI2 hbY HKY HK3 HFQ HST HTY
          go_loopw [95] (fun i wr2 => ∃ (j : Nat) (pe : Option Addr) (ce : Nat), j ≤ cnt S ∧ i = .int .i64 j ∧ Hid (MInv Z bx gn N.length cn (E0 ++ (rowM N u nd).take j) pe ce wr2) ∧
            Hid (wr2.ownsRow Z.heap.size 3 1 (.slice gl (cnt S) cl) (cnt S) (ints (lst S))) ∧ Hid (∀ b, (Value.slice pe (E0 ++ (rowM N u nd).take j).length ce).ownBlock = some b → (Value.slice gl (cnt S) cl).ownBlock ≠ some b)) (fun i _ => cnt S - (intOf i).toNat)
          case atStart =>
            refine ⟨0, pe, ce, Nat.zero_le _, rfl, ?_, ?_, ?_⟩
            · rw [HE0.out]; exact HIl
            · exact World.ownsRow.mono HLL.out (by have := HZY.out; exact this)
            · rw [HE0.out]; exact HNE
          case round =>
            obtain ⟨j, pe, ce, hj, rfl, HI3, HL3, HN3⟩ := hrel
            clear y0 y1 y2 y3
            by_cases hlt3 : j < cnt S
            · have HLr : Hid (Reads wr wr.heap.size 1 gl (cnt S) (ints (lst S))) := Reads.of_own HL3.out
              obtain ⟨ad, rfl, _, hon⟩ := HLr.out.int_atM hlt3
              have hxj : (lst S)[j]? = some ((lst S).getD j 0) := by
                rw [List.getD_eq_getElem?_getD, List.getElem?_eq_getElem (by have := cnt_lst S; omega)]; rfl
              have HRM : Hid ((rowM N u nd).take (j + 1) = (rowM N u nd).take j ++ [((r : Int), (((lst S).getD j 0 : Nat) : Int))]) := by
                show _ = _
                rw [HRr.out]
                exact rowM_take (by rw [← HSS.out]; exact hxj)
              generalize (lst S).getD j 0 = x at *
              have hrl : (rowM N u nd).length ≤ 64 := by rw [rowM_len, ← HSS.out]; have := cnt_lst S; omega
              have hel3 : (E0 ++ (rowM N u nd).take j).length ≤ 300064 := by
                rw [List.length_append, List.length_take]
                have := HEL.out
                omega
              obtain ⟨es, hes⟩ : ∃ es, es = E0 ++ (rowM N u nd).take j := ⟨_, rfl⟩
              have HES : Hid (E0 ++ (rowM N u nd).take (j + 1) = es ++ [((r : Int), (x : Int))]) := by show _ = _; rw [HRM.out, hes, List.append_assoc]
              rw [← hes] at HI3 HN3 hel3
              clear hes HRM hxj HLr
              obtain ⟨A, hA⟩ : ∃ A, A = wr.alloc (.cells #[.int .i64 (r : Int), .int .i64 (x : Int)] 59) := ⟨_, rfl⟩
              have HIA : Hid (MInv Z bx gn N.length cn es pe ce A) := by show MInv _ _ _ _ _ _ _ _ _; rw [hA]; exact HI3.out.below (rb1 wr _)
              have HA0 : Hid (A.cell? ⟨wr.heap.size, 0, none⟩ = some (.int .i64 (r : Int))) := by show _ = _; rw [hA, World.cell?_alloc_at _ _ _ _ rfl]; rfl
              have HA1 : Hid (A.cell? ⟨wr.heap.size, 1, none⟩ = some (.int .i64 (x : Int))) := by show _ = _; rw [hA, World.cell?_alloc_at _ _ _ _ rfl]; rfl
              have HAL : Hid (A.ownsRow Z.heap.size 3 1 (.slice (some ad) (cnt S) cl) (cnt S) (ints (lst S))) := by show World.ownsRow _ _ _ _ _ _ _; rw [hA]; exact HL3.out.alloc _
              have HAs : Hid (wr.heap.size + 1 = A.heap.size) := by show _ = _; rw [hA]; simp
              have HAz : Hid (Z.heap.size ≤ A.heap.size) := HIA.out.grow.size
              obtain ⟨y0, y1, y2, y3, y4⟩ := box4 HI3.out.box
              have hk3 : (j : Int) < (cnt S : Int) := by omega
              clear y4
              go_wp2_with (at_builtin; rw [← hA]; refine app_edgeA _ rfl _ _ rfl Z.heap.size _ es.length es rfl HIA.out.ownE wr.heap.size ((r : Int), (x : Int)) rfl HA0.out HA1.out (by omega) HAz.out ?_; intro v' w6 hown6 hgrow6 hlies6; obtain ⟨pe2, ce2, rfl, _⟩ := own_formT hown6; have h5 := HIA.out.edge hbxZ hgrow6 hown6; have H5 := Lib.hid h5.2; have HG6 := Lib.hid hgrow6; have HO6 := Lib.hid hown6; have HL6 := Lib.hid hlies6; obtain ⟨e0, e1, e2, e3, e4⟩ := box4 h5.1; have e5 := e4 1; clear h5 hown6 hgrow6 hlies6 e4)
              go_roundw
              case rel =>
                have hll : (es ++ [((r : Int), (x : Int))]).length = es.length + 1 := by simp
                refine ⟨j + 1, pe2, ce2, by omega, by go_num, ?_, ?_, ?_⟩
                · rw [HES.out]; exact H5
                · have h1 := HAL.out.kept HG6.out (row_neR fun b hq e => HN3.out b e hq)
                  exact h1.kept (grown_set _ _ _) (row_neM fun b hq => by have := (HAL.out.lt b hq).1; show b ≠ bx; omega)
                · rw [HES.out, hll]
                  show ∀ b, _
                  intro b hb e
                  rcases HL6.out with g | g
                  · rw [g] at hb; exact HN3.out b hb e
                  · rw [g] at hb
                    injection hb with hb
                    have := (HAL.out.lt b e).2
                    omega
              case measure => simp [intOf]; omega
            · obtain rfl : j = cnt S := by omega
              have hrl : (rowM N u nd).take (cnt S) = rowM N u nd := List.take_of_length_le (by rw [rowM_len, ← HSS.out]; have := cnt_lst S; omega)
              rw [hrl, ← HEX.out] at HI3
              go_wp2
              go_roundw
              case rel => exact ⟨m + 1, pe, ce, by omega, by go_num, HI3⟩
              case measure => simp [intOf]; omega
        · obtain rfl : m = k := by omega
          have e1 : edgesTo F zs m = edgesM F zs := by rw [HMM.out]; exact edgesTo_all
          rw [e1] at HI2
          clear e1
          obtain ⟨es, hes⟩ : ∃ es, es = edgesM F zs := ⟨_, rfl⟩
          rw [← hes] at HI2
          have HES := Lib.hid hes
          have hbr := HB3.out.trans ((HWr.out wr HI2.out.grow).mono HB3.out.size)
          have HBR := Lib.hid hbr
          obtain ⟨f0, f1, f2, f3, _⟩ := box4 (HC.out wr hbr).1
          have hph := (HI.out wr hbr).ph
          have hlp : F.ph.length = np := hph.at_.len
          subst hlp
          have hmr := HMZ.out.kept HI2.out.grow (row_neM fun b hq => by have := HQM.out b hq; omega)
          have hml : ((rowsM F zs).map txt).length = m := by rw [List.length_map, HMM.out]
          have hmn : NLw wr qm m dm ((rowsM F zs).map txt) := by
            refine nlw_own hmr (fun x hx => ?_) (by omega)
            obtain ⟨u, hu, rfl⟩ := List.mem_map.1 hx
            have h1 := allTo_names (there := zs) HN.out HFE.out (rowsM F zs).length (txt u) (by rw [allTo_all]; exact List.mem_append_right _ (List.mem_flatMap.2 ⟨u, hu, List.mem_cons_self⟩))
            have := nameE_size h1
            omega
          have HS1 : Hid (∀ W9, (∃ j, W9 = wr.drewN j) → Calls Tryz.prog 55 #[.slice gn N.length cn, .slice pp F.ph.length cp] W9 fun e w' => e = .returned (.int .u64 (un (setM N F.ph) : Int)) ∧ ∃ q, w' = wr.drewN q) := by
            show ∀ W9, _
            rintro W9 ⟨j, rfl⟩
            refine (HSet.out (wr.drewN j) pp cp F.ph (grown_step HI2.out.grow (grown_any (r := none) (below_drawsP (Below.refl _ _) j)) (fun k hk => by cases hk)) (hph.drew j)).mono ?_
            rintro e w' ⟨rfl, q, rfl⟩
            exact ⟨rfl, j + q, by simp [World.drewN, Nat.add_assoc]⟩
          have HS2 : Hid (∀ W9, (∃ j, W9 = wr.drewN j) → Calls Tryz.prog 55 #[.slice gn N.length cn, .slice qm m dm] W9 fun e w' => e = .returned (.int .u64 (un (setM N ((rowsM F zs).map txt)) : Int)) ∧ ∃ q, w' = wr.drewN q) := by
            show ∀ W9, _
            rintro W9 ⟨j, rfl⟩
            have h1 := HSet.out (wr.drewN j) qm dm ((rowsM F zs).map txt) (grown_step HI2.out.grow (grown_any (r := none) (below_drawsP (Below.refl _ _) j)) (fun k hk => by cases hk)) (by rw [hml]; exact hmn.drew j)
            rw [hml] at h1
            refine h1.mono ?_
            rintro e w' ⟨rfl, q, rfl⟩
            exact ⟨rfl, j + q, by simp [World.drewN, Nat.add_assoc]⟩
          clear hbr hph hmr hmn hes
          obtain ⟨sp, hsp⟩ : ∃ sp, sp = setM N F.ph := ⟨_, rfl⟩
          obtain ⟨sm, hsm⟩ : ∃ sm, sm = setM N ((rowsM F zs).map txt) := ⟨_, rfl⟩
          rw [← hsp] at HS1
          rw [← hsm] at HS2
          have HSP := Lib.hid hsp
          have HSM := Lib.hid hsm
          obtain ⟨y0, y1, y2, y3, y4⟩ := box4 HI2.out.box
          clear hsp hsm y2 y3 y4 hml
          go_upto_region 29 with fail
          have HBB : Hid (∀ W9, (∃ j, W9 = wr.drewN j) → W9.heap[bx]? = some (.cells #[.slice gn N.length cn, .slice pe es.length ce, .int .u64 0, .int .u64 0] 54 (0, 0))) := by
            show ∀ W9, _
            rintro W9 ⟨j, rfl⟩
            exact HI2.out.box
          have hlb : w.heap.size < bx := by have := HWS.out; have := HB3.out.size; have := HS.out; omega
          have HP : Hid (∀ W9, (∃ j, W9 = wr.drewN j) → W9.cell? ⟨bx, 0, none⟩ = some (.slice gn N.length cn) ∧ W9.cell? ⟨w.heap.size, 1, none⟩ = some (.slice pp F.ph.length cp)) := by
            show ∀ W9, _
            rintro W9 ⟨j, rfl⟩
            exact ⟨y0, f1⟩
          have HPS : Hid (∀ W9, (∃ j, W9 = wr.drewN j) → ∀ u : Value, (W9.setCell ⟨bx, 2, none⟩ u).cell? ⟨bx, 0, none⟩ = some (.slice gn N.length cn) ∧ (W9.setCell ⟨bx, 2, none⟩ u).cell? ⟨w.heap.size, 1, none⟩ = some (.slice pp F.ph.length cp)) := by
            show ∀ W9, _
            intro W9 h9 u
            exact ⟨(box4 (box4_set2 (HBB.out _ h9) u)).1, (World.cell?_of_block (heap_setCell_other _ _ _ _ (by show w.heap.size ≠ bx; omega))).trans (HP.out _ h9).2⟩
          have HPT : Hid (∀ W9, (∃ j, W9 = wr.drewN j) → ∀ u v : Value, ((W9.setCell ⟨bx, 2, none⟩ u).setCell ⟨bx, 3, none⟩ v).cell? ⟨bx, 0, none⟩ = some (.slice gn N.length cn) ∧ ((W9.setCell ⟨bx, 2, none⟩ u).setCell ⟨bx, 3, none⟩ v).cell? ⟨w.heap.size, 1, none⟩ = some (.slice pp F.ph.length cp)) := by
            show ∀ W9, _
            intro W9 h9 u v
            exact ⟨(box4 (box4_set3 (box4_set2 (HBB.out _ h9) u) v)).1, (World.cell?_of_block (heap_setCell_other _ _ _ _ (by show w.heap.size ≠ bx; omega))).trans (HPS.out _ h9 u).2⟩
          have HD1 : Hid (∃ j, wr.drew = wr.drewN j) := ⟨1, rfl⟩
          go_region_held3 (fun u : World => u.cell? ⟨bx, 0, none⟩ = some (.slice gn N.length cn) ∧ u.cell? ⟨w.heap.size, 1, none⟩ = some (.slice pp F.ph.length cp))
            (first | exact HPT.out _ HW2.out _ _ | exact HPS.out _ HW2.out _ | exact HP.out _ HW2.out | exact HP.out _ HW1.out | exact HP.out _ HD1.out)
            (first
            | (have h4 := HW1; clear h4; go_at_call 55; refine (HS2.out _ HW1.out).mono ?_; rintro e wb ⟨rfl, hj⟩; have HW2 := Lib.hid hj; have hq := HBB.out _ hj; obtain ⟨_, _, q2, q3, q4⟩ := box4 hq; have q5 := q4 2; have q6 := q4 3; have q7 := box4 (box4_set2 hq (.int .u64 (un sp : Int))); obtain ⟨_, _, _, q8, q9⟩ := q7; have qa := q9 3; clear hj hq q4 q9)
            | (go_at_call 55; refine (HS1.out _ HD1.out).mono ?_; rintro e wa ⟨rfl, hj⟩; have HW1 := Lib.hid hj; clear hj))
          all_goals
            obtain ⟨jj, hjj⟩ := HW2.out
            subst hjj
            have hB := box4_set3 (box4_set2 (HBB.out _ ⟨jj, rfl⟩) (.int .u64 (un sp : Int))) (.int .u64 (un sm : Int))
            obtain ⟨V, hV⟩ : ∃ V, V = ((wr.drewN jj).setCell ⟨bx, 2, none⟩ (.int .u64 (un sp : Int))).setCell ⟨bx, 3, none⟩ (.int .u64 (un sm : Int)) := ⟨_, rfl⟩
            have hgV : (wr.drewN jj).grownBy V (some bx) := by rw [hV]; exact (grown_set _ ⟨bx, 2, none⟩ _).trans (grown_set _ ⟨bx, 3, none⟩ _)
            have hgD : wr.grownBy (wr.drewN jj) none := grown_any (below_drawsP (Below.refl _ _) jj)
            have HGZ : Hid (Z.grownBy V (some bx)) := grown_step (grown_step HI2.out.grow hgD (fun b hb => by cases hb)) hgV (fun b hb => .inl (by injection hb with hb; exact hb.symm))
            have HBV2 : Hid (Below W.heap.size W V) := HB3.out.trans ((HWr.out V HGZ.out).mono HB3.out.size)
            have HOE : Hid (V.ownsRow Z.heap.size 59 2 (.slice pe es.length ce) es.length (cells2 eF eG es)) := by
              show World.ownsRow _ _ _ _ _ _ _
              exact (HI2.out.ownE.kept hgD (row_neR fun b hb e => by cases e)).kept hgV (row_neM fun b hb => by have := (HI2.out.ownE.lt b hb).1; omega)
            have HON : Hid (V.ownsRow (bx + 1) 9 1 (.slice gn N.length cn) N.length (N.map encStr)) := HOZ.out.kept HGZ.out (row_neM fun b hb => by have := (HOZ.out.lt b hb).1; omega)
            rw [← hV] at hB ⊢
            obtain ⟨z0, z1, z2, z3, _⟩ := box4 hB
            have hb1 := (HC.out V HBV2.out).2
            obtain ⟨l0, l1, l2, l3, l4⟩ := box4 hb1
            have l5 := l4 0
            have l6 := l4 1
            have l7 := l4 2
            have l8 := l4 3
            have HBL := Lib.hid hb1
            have hsl : es.length ≤ 300000 := by
              rw [HES.out, ← edgesTo_all]
              exact edgesTo_len HJ.out _
            have HSL := Lib.hid hsl
            clear hB hb1 l4 hV hgV hgD hsl
            go_wp2
            have he : makeE F zs = 0 := by unfold makeE; rw [if_neg (fun e => e HCE.out), if_neg (fun e => e HFE.out), if_neg (by rw [← HNN.out]; omega)]
            have hs2 := HS.out
            have hs3 := HB3.out.size
            have hs4 := HWS.out
            refine bodyPost_ret (v := .tuple #[.agg #[.slice gn N.length cn, .slice pe es.length ce, .int .u64 (un sp : Int), .int .u64 (un sm : Int)], .int .i64 0]) (results_ct Tryz.results23 _ _ (w.heap.size + 1) 54 _ (0, 0) _ _ rfl rfl ?hp Tryz.underlying54 rfl (by kernel_rfl)) rfl ⟨⟨_, by rw [he], fun h => absurd he h, fun _ => ?hg⟩, ?hb⟩
            case hp => exact box4_all HBL.out _ _ _ _
            case hb => exact below_set4 (HFIN.out _ HBV2.out) (by omega) _ _ _ _
            case hg =>
              refine ⟨gn, N.length, cn, pe, es.length, ce, ?_, ?_, ?_⟩
              · show _ = Value.agg #[_, _, .int .u64 (un (setM (namesK F zs) F.ph) : Int), .int .u64 (un (setM (namesK F zs) ((rowsM F zs).map txt)) : Int)]
                rw [← HNN.out, HSP.out, HSM.out]
              · show NL _ gn N.length cn (bz (namesK F zs))
                rw [← HNN.out]
                have h1 := HON.out.kept (grown_set4M V (w.heap.size + 1) (.slice gn N.length cn) (.slice pe es.length ce) (.int .u64 (un sp : Int)) (.int .u64 (un sm : Int))) (row_neM fun b hb => by have := (HON.out.lt b hb).1; omega)
                rw [← bz_strs] at h1
                exact NL_own h1 HNZ.out (by omega)
              · show EsAt _ pe es.length ce (edgesM F zs)
                rw [← HES.out]
                have h1 := HOE.out.kept (grown_set4M V (w.heap.size + 1) (.slice gn N.length cn) (.slice pe es.length ce) (.int .u64 (un sp : Int)) (.int .u64 (un sm : Int))) (row_neM fun b hb => by have := (HOE.out.lt b hb).1; omega)
                exact P2At.own h1 (by have := HSL.out; omega)
end Go.Proofs.YtoiolepengcagaaGreatDoor
