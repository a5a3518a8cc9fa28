/- Texts joined: Door, PopW, LowW, Rows64, ReachW, BitsRankW. Conditions: theirs. -/
import Derived.Test.YtlhhcgiifgkngaaDoorRows
import Derived.Test.YtlhhcgiifgkngaaDoorShelf
import Derived.Test.YtlhhcgiifgkngaaDoorMem
import Derived.Test.YtlhhcgiifgkngaaDoorUn
import Derived.WalkKit
import Derived.ProofKit
import Derived.LaidMore
import Derived.OpenShut
import Derived.Stop.Joined
import Derived.Lib.LaidTab
import Derived.FnData
import Derived.Shelf.Spec.TrailingZeros
import Derived.Lib.Split
import Derived.Test.YtlhhcgiifgkngaaDoorPop
import Derived.Test.YtlhhcgiifgkngaaDoorBitsW
import Derived.Test.YtlhhcgiifgkngaaDoorSets
import Derived.Test.YtlhhcgiifgkngaaDoorReach
namespace Go.Proofs.YtlhhcgiifgkngaaDoor
open Go.ChangeShapes Go.WideShapes Go.ChangeAt Go.RowKit
def laidL : List (String × DataW Unit) := Rows.graphPartRow.laid
def tabName : String := "math/bits.deBruijn64tab"
def tabInts : List Int := Lib.deBruijn64tab.map Int.ofNat
theorem ownK : ownKnob Tryd.prog.godebug = none := by kernel_rfl
theorem laidOutK : laidOutB Tryd.prog = true := by kernel_rfl
theorem tabG : Tryd.prog.globalNamed tabName = some 1 := by kernel_rfl
theorem tabTD : (Tryd.prog.globals[1]?).map (·.type) = some 202 := by kernel_rfl
theorem tabCE : Tryd.prog.cellsOf 5 = 1 := by kernel_rfl
theorem tabCT : Tryd.prog.cellsOf 202 = 64 := by kernel_rfl
theorem laid_one {P : Program} {w : World} : ∀ {l : List (String × DataW Unit)} {ps : List MemPlace}, DataW.LaidVars P w l ps → ∀ x ∈ l, ∃ g t cs fuel p, P.globalNamed x.1 = some g ∧ (P.globals[g]?).map (·.type) = some t ∧ w.var? P x.1 = some cs ∧ DataW.trod (fun _ => ()) P w 0 (fun _ => true) false fuel t cs.toList = some (x.2, p) := by
  intro l
  induction l with
  | nil => intro ps _ x hx; cases hx
  | cons y l ih =>
    intro ps h x hx
    obtain ⟨n, d⟩ := y
    obtain ⟨g, t, cs, fuel, p, q, h1, h2, h3, h4, h5, _⟩ := h
    rcases List.mem_cons.1 hx with rfl | hx
    · exact ⟨g, t, cs, fuel, p, h1, h2, h3, h4⟩
    · exact ih h5 x hx
/-- a table of numbers that is on the list reads as listed -/
theorem laid_tab {w : World} (h : laidMetH Tryd.prog laidL w) {name : String} {k : IntKind} {zs : List Int} {g : Nat} {t e : TypeId} {n : Nat} (hm : (name, (Lib.tabData k zs : DataW Unit)) ∈ laidL)
    (hg : Tryd.prog.globalNamed name = some g) (hty : (Tryd.prog.globals[g]?).map (·.type) = some t) (ht : Tryd.prog.underlying t = some (.array n e)) (he : Tryd.prog.underlying e = some (.int k)) (hce : Tryd.prog.cellsOf e = 1) (hct : Tryd.prog.cellsOf t = n) : Lib.TabIs Tryd.prog w name k zs := by
  rw [MakeChecks.laidMetH_plain _ _ _ (by kernel_rfl)] at h
  obtain ⟨ps, hl, _⟩ := h
  obtain ⟨g', t', cs, fuel, p, hg', ht', hvar, hd⟩ := laid_one hl _ hm
  obtain rfl := Option.some.inj (hg.symm.trans hg')
  obtain rfl := Option.some.inj (hty.symm.trans ht')
  unfold Lib.TabIs
  rw [hvar, ← Lib.cells_of_tab ht he hce hct hd]
/-- the table's cells -/
def Tab (w : World) : Prop := TabAt 1 Lib.deBruijn64tab w
theorem tab_of {w : World} (h : laidMetH Tryd.prog laidL w) : Tab w := by
  have hT := laid_tab h (name := tabName) (k := .u8) (zs := tabInts) (by show _ ∈ [_]; repeat (first | exact List.Mem.head _ | apply List.Mem.tail)) tabG tabTD Tryd.underlying202 Tryd.underlying5 tabCE tabCT
  intro j hj
  have hc := hT.cell tabG j (by simpa [tabInts] using hj)
  rw [hc]
  have e : tabInts.getD j 0 = ((Lib.deBruijn64tab.getD j 0 : Nat) : Int) := by
    unfold tabInts
    rw [List.getD_eq_getElem?_getD, List.getD_eq_getElem?_getD, List.getElem?_map]
    cases Lib.deBruijn64tab[j]? <;> rfl
  rw [e]
theorem Tab.keep {w w' : World} (h : Tab w) (hk : ∀ j : Nat, w'.cell? ⟨1, j, none⟩ = w.cell? ⟨1, j, none⟩) : Tab w' :=
  fun j hj => (hk j).trans (h j hj)
theorem Tab.lt {w : World} (h : Tab w) : 1 < w.heap.size := by
  have := h 0 (by decide)
  rcases Nat.lt_or_ge 1 w.heap.size with hlt | hge
  · exact hlt
  · unfold World.cell? at this
    simp [Array.getElem?_eq_none hge] at this
theorem Tab.below {w w' : World} (h : Tab w) (hb : Below w.heap.size w w') : Tab w' := h.keep fun _ => hb.cell h.lt
theorem Tab.belowB {w w' : World} {b : Nat} (h : Tab w) (hg : 1 < b) (hb : Below b w w') : Tab w' := h.keep fun _ => hb.cell hg
theorem Tab.alloc {w : World} (h : Tab w) (o : Obj) : Tab (w.alloc o) := h.keep fun _ => World.cell?_alloc_lt w o _ h.lt
theorem Tab.drew {w : World} (h : Tab w) : Tab w.drew := h
theorem Tab.drewN {w : World} (h : Tab w) (n : Nat) : Tab (w.drewN n) := h
end Go.Proofs.YtlhhcgiifgkngaaDoor
namespace Go.Proofs.YtlhhcgiifgkngaaDoor
open Go.RowKit
theorem and_lit (a m : Nat) (ha : a < 18446744073709551616) (hm : m < 18446744073709551616) (k : Int) (hk : (m : Int) = k) : bits .and .u64 (a : Int) k = ((a &&& m : Nat) : Int) := by
  subst hk; exact u64_and_nat a m ha hm
theorem i64_and_lit (a m : Nat) (ha : a < 9223372036854775808) (hm : m < 9223372036854775808) : bits .and .i64 (a : Int) (m : Int) = ((a &&& m : Nat) : Int) := by
  have hx : a &&& m < 2 ^ 63 := Nat.and_lt_two_pow _ (by omega)
  show IntKind.i64.wrap ((BitVec.ofInt 64 (a : Int) &&& BitVec.ofInt 64 (m : Int)).toNat : Int) = _
  rw [BitVec.toNat_and, ofInt_u64 a (by omega), ofInt_u64 m (by omega), IntKind.wrap_i64]
  omega
set_option maxHeartbeats 1000000 in
theorem ones_nat (x : Nat) (hx : x < 18446744073709551616) (w : World) : Calls Tryd.prog 73 #[.int .u64 (x : Int)] w fun e w' => e = .returned (.int .i64 (pop 64 x : Int)) ∧ w = w' := by
  have m5 : mask 0x55 8 = 6148914691236517205 := rfl
  have m3 : mask 0x33 8 = 3689348814741910323 := rfl
  have m0 : mask 0x0f 8 = 1085102592571150095 := rfl
  have eA : pA 8 (x) = (x / 2 &&& 6148914691236517205) + (x &&& 6148914691236517205) := by unfold pA; rw [m5]
  have h1 := and_lit (x / 2) 6148914691236517205 (by omega) (by omega) 6148914691236517205 rfl
  have h2 := and_lit (x) 6148914691236517205 (by omega) (by omega) 6148914691236517205 rfl
  have b1 : x / 2 &&& 6148914691236517205 ≤ 6148914691236517205 := Nat.and_le_right
  have b2 : x &&& 6148914691236517205 ≤ 6148914691236517205 := Nat.and_le_right
  have hfin := ones_eq (x)
  unfold onesGo at hfin
  rw [eA] at hfin
  rw [Int.natCast_ediv] at h1
  replace h1 : bits .and .u64 ((x : Int) / 2) 6148914691236517205 = ((x / 2 &&& 6148914691236517205 : Nat) : Int) := h1
  generalize x / 2 &&& 6148914691236517205 = a1 at *
  generalize x &&& 6148914691236517205 = a2 at *
  have eB : pB 8 (a1 + a2) = ((a1 + a2) / 4 &&& 3689348814741910323) + ((a1 + a2) &&& 3689348814741910323) := by unfold pB; rw [m3]
  have h3 := and_lit ((a1 + a2) / 4) 3689348814741910323 (by omega) (by omega) 3689348814741910323 rfl
  have h4 := and_lit (a1 + a2) 3689348814741910323 (by omega) (by omega) 3689348814741910323 rfl
  have b3 : (a1 + a2) / 4 &&& 3689348814741910323 ≤ 3689348814741910323 := Nat.and_le_right
  have b4 : (a1 + a2) &&& 3689348814741910323 ≤ 3689348814741910323 := Nat.and_le_right
  rw [eB] at hfin
  rw [Int.natCast_ediv, Int.natCast_add] at h3
  replace h3 : bits .and .u64 (((a1 : Int) + (a2 : Int)) / 4) 3689348814741910323 = (((a1 + a2) / 4 &&& 3689348814741910323 : Nat) : Int) := h3
  rw [Int.natCast_add] at h4
  generalize (a1 + a2) / 4 &&& 3689348814741910323 = a3 at *
  generalize (a1 + a2) &&& 3689348814741910323 = a4 at *
  have eC : pC 8 (a3 + a4) = ((a3 + a4) / 16 + (a3 + a4)) &&& 1085102592571150095 := by unfold pC; rw [m0]
  have h5 := and_lit ((a3 + a4) / 16 + (a3 + a4)) 1085102592571150095 (by omega) (by omega) 1085102592571150095 rfl
  have b5 : ((a3 + a4) / 16 + (a3 + a4)) &&& 1085102592571150095 ≤ 1085102592571150095 := Nat.and_le_right
  rw [eC] at hfin
  rw [Int.natCast_add, Int.natCast_ediv, Int.natCast_add] at h5
  replace h5 : bits .and .u64 (((a3 : Int) + (a4 : Int)) / 16 + ((a3 : Int) + (a4 : Int))) 1085102592571150095 = (((a3 + a4) / 16 + (a3 + a4) &&& 1085102592571150095 : Nat) : Int) := h5
  generalize ((a3 + a4) / 16 + (a3 + a4)) &&& 1085102592571150095 = y at *
  have h6 := i64_and_lit (y + y / 256 + (y + y / 256) / 65536 + (y + y / 256 + (y + y / 256) / 65536) / 4294967296) 127 (by omega) (by omega)
  rw [show ∀ a, a &&& 127 = a % 128 from fun a => nat_mask7 a, hfin] at h6
  simp only [Int.natCast_add, Int.natCast_ediv] at h6
  replace h6 : bits .and .i64 ((y : Int) + (y : Int) / 256 + ((y : Int) + (y : Int) / 256) / 65536 + ((y : Int) + (y : Int) / 256 + ((y : Int) + (y : Int) / 256) / 65536) / 4294967296) 127 = (pop 64 x : Int) := h6
  clear hfin eA eB eC m5 m3 m0
  generalize pop 64 (x) = q at *
  go_enter Tryd.func73, Tryd.ntmps73
  go_wp2
  go_ret
  exact ⟨rfl, rfl⟩
theorem ones_ok (s : B) (w : World) : Calls Tryd.prog 73 #[.int .u64 (un s)] w fun e w' => e = .returned (.int .i64 (cnt s : Int)) ∧ w = w' :=
  (ones_nat (un s) (un_lt s) w).mono fun _ _ ⟨h1, h2⟩ => ⟨by rw [cnt_eq]; exact h1, h2⟩
set_option maxHeartbeats 1000000 in
theorem count_ok (s : B) (w : World) : Calls Tryd.prog 32 #[.int .u64 (un s)] w fun e w' => e = .returned (.int .i64 (cnt s : Int)) ∧ w = w' := by
  go_enter Tryd.func32, Tryd.ntmps32
  go_wp2_with (go_at_call 73; refine (ones_ok _ _).mono ?_; rintro e w' ⟨rfl, rfl⟩)
  go_ret
  exact ⟨rfl, rfl⟩
end Go.Proofs.YtlhhcgiifgkngaaDoor
namespace Go.Proofs.YtlhhcgiifgkngaaDoor
open Go.RowKit
set_option maxHeartbeats 1000000 in
theorem tz_core (x k idx : Nat) (w : World) (hx0 : ((x : Int) == 0) = false)
    (key : IntKind.u64.wrap (bits BinOp.and IntKind.u64 (x : Int) (IntKind.u64.wrap (-(x : Int))) * 285870213051353865) / 288230376151711744 = (idx : Int))
    (hi : idx < 64) (hk : k < 64) (hcell : w.cell? ⟨1, idx, none⟩ = some (.int .u8 k)) :
    Calls Tryd.prog 112 #[.int .u64 x] w fun e w' => e = .returned (.int .i64 k) ∧ w = w' := by
  go_enter Tryd.func112, Tryd.ntmps112
  go_wp2_with (simp only [key])
  go_ret
  exact ⟨rfl, rfl⟩
set_option maxHeartbeats 1000000 in
/-- the least number of a set that has some -/
theorem tz_ok (s : B) (hs : s ≠ 0#64) (w : World) (hT : Tab w) : Calls Tryd.prog 112 #[.int .u64 (un s)] w fun e w' => e = .returned (.int .i64 (low s : Int)) ∧ w = w' := by
  have hx0 : un s ≠ 0 := fun e => hs (un_inj (by rw [e]; rfl))
  have hx := un_lt s
  obtain ⟨hlow, hk⟩ := Lib.lowest_bit 64 (un s) hx0 hx
  obtain ⟨hi, htab⟩ := Lib.deBruijn64_at _ hk
  have hcell := hT _ hi
  rw [htab] at hcell
  exact tz_core (un s) _ _ w (by simp; omega) (tz64_key (un s) _ hx hx0 hlow) hi hk hcell
set_option maxHeartbeats 1000000 in
theorem least_ok (s : B) (hs : s ≠ 0#64) (w : World) (hT : Tab w) : Calls Tryd.prog 66 #[.int .u64 (un s)] w fun e w' => e = .returned (.int .i64 (low s : Int)) ∧ w = w' := by
  go_enter Tryd.func66, Tryd.ntmps66
  go_wp2_with (go_at_call 112; refine (tz_ok _ hs _ hT).mono ?_; rintro e w' ⟨rfl, rfl⟩)
  go_ret
  exact ⟨rfl, rfl⟩
theorem un_zero_int {s : B} (h : s = 0#64) : (un s : Int) = 0 := by rw [h]; rfl
theorem un_ne0 {s : B} (h : s ≠ 0#64) : ((un s : Int) == 0) = false := by
  have : un s ≠ 0 := fun e => h (un_inj (by rw [e]; rfl))
  simpa using this
theorem un_ne1 {s : B} (h : s ≠ 0#64) : ((un s : Int) != 0) = true := by
  have : un s ≠ 0 := fun e => h (un_inj (by rw [e]; rfl))
  simpa using this
/-- what Next answers -/
def nextV (s : B) (m : Nat) : Value := if frm s m = 0#64 then .tuple #[.int .i64 0, .bool false] else .tuple #[.int .i64 (low (frm s m) : Int), .bool true]
theorem frm_big {s : B} {m : Nat} (h : 64 ≤ m) : frm s m = 0#64 := eq_zero_iff.2 fun n => by
  rw [has_frm]
  rcases Nat.lt_or_ge n 64 with h1 | h1
  · have : ¬ m ≤ n := by omega
    simp [this]
  · rw [has_ge h1]; simp
set_option maxHeartbeats 1000000 in
theorem Next_ok (s : B) (n : Int) (w : World) (hT : Tab w) : Calls Tryd.prog 160 #[.int .u64 (un s), .int .i64 n] w fun e w' => e = .returned (nextV s n.toNat) ∧ w = w' := by
  by_cases hb : 64 ≤ n
  · have HV : Hid (nextV s n.toNat = .tuple #[.int .i64 0, .bool false]) := by show nextV _ _ = _; unfold nextV; rw [if_pos (frm_big (by omega))]
    go_enter Tryd.func160, Tryd.ntmps160
    go_wp2
    go_ret2
    exact ⟨by rw [HV.out]; rfl, rfl⟩
  · obtain ⟨m, hm, hmm, hmx⟩ : ∃ m : Nat, m = n.toNat ∧ m ≤ 63 ∧ max n 0 = (m : Int) := ⟨n.toNat, rfl, by omega, by omega⟩
    rw [← hm]
    clear hm
    by_cases h0 : frm s m = 0#64
    · have HV : Hid (nextV s m = .tuple #[.int .i64 0, .bool false]) := by show nextV _ _ = _; unfold nextV; rw [if_pos h0]
      have e0 : (un (s &&& ~~~belowB m) : Int) = 0 := un_zero_int h0
      clear h0
      go_enter Tryd.func160, Tryd.ntmps160
      go_wp2_with (go_at_call 56; refine (below_ok m (by omega) _).mono ?_; rintro e w' ⟨rfl, rfl⟩)
      go_ret2
      exact ⟨by rw [HV.out]; rfl, rfl⟩
    · have HV : Hid (nextV s m = .tuple #[.int .i64 (low (frm s m) : Int), .bool true]) := by show nextV _ _ = _; unfold nextV; rw [if_neg h0]
      have e0 := un_ne0 h0
      have H0 := Lib.hid h0
      have hfr : frm s m = s &&& ~~~belowB m := rfl
      rw [hfr] at e0
      clear h0 hfr
      go_enter Tryd.func160, Tryd.ntmps160
      go_wp2_with (first | (go_at_call 56; refine (below_ok m (by omega) _).mono ?_; rintro e w' ⟨rfl, rfl⟩) | (go_at_call 66; refine (least_ok (s &&& ~~~belowB m) H0.out _ hT).mono ?_; rintro e w' ⟨rfl, rfl⟩))
      go_ret2
      exact ⟨by rw [HV.out]; rfl, rfl⟩
set_option maxHeartbeats 1000000 in
theorem Rank_ok (s : B) (n : Int) (w : World) : Calls Tryd.prog 63 #[.int .u64 (un s), .int .i64 n] w fun e w' => e = .returned (.int .i64 (rnk s n.toNat : Int)) ∧ w = w' := by
  have hmx : min (max n 0) 64 = ((min n.toNat 64 : Nat) : Int) := by omega
  have HR : Hid (rnk s n.toNat = cnt (s &&& belowB (min n.toNat 64))) := by
    show rnk s n.toNat = _
    unfold rnk
    congr 1
    apply set_ext
    intro k hk
    rw [has_and, has_and, has_below _ _ hk, has_below _ _ hk]
    have : (k < n.toNat) ↔ k < min n.toNat 64 := by omega
    simp only [this]
  have hm : min n.toNat 64 ≤ 64 := by omega
  generalize min n.toNat 64 = m at *
  rw [HR.out]
  clear HR
  go_enter Tryd.func63, Tryd.ntmps63
  go_wp2_with (first | (go_at_call 56; refine (below_ok m (by omega) _).mono ?_; rintro e w' ⟨rfl, rfl⟩) | (go_at_call 32; refine (count_ok _ _).mono ?_; rintro e w' ⟨rfl, rfl⟩))
  go_ret
  exact ⟨rfl, rfl⟩
theorem lst_ne {t : B} (h : lst t ≠ []) : t ≠ 0#64 := fun e => h (by rw [e, lst_zero])
/-- the k-th number -/
def nth (s : B) (k : Nat) : Nat := (lst s).getD k 0
theorem lst_drop {s t : B} {j : Nat} (h : lst t = (lst s).drop j) (hj : j < (lst s).length) : t ≠ 0#64 ∧ lst (t &&& (t - 1#64)) = (lst s).drop (j + 1) ∧ low t = nth s j := by
  have hn : nth s j = (lst s)[j] := by unfold nth; simp [hj]
  rw [hn]
  have hd : (lst s).drop j = (lst s)[j] :: (lst s).drop (j + 1) := List.drop_eq_getElem_cons hj
  have h0 : t ≠ 0#64 := lst_ne (by rw [h, hd]; exact List.cons_ne_nil _ _)
  rw [lst_step h0, hd] at h
  injection h with h1 h2
  exact ⟨h0, h2, h1⟩
end Go.Proofs.YtlhhcgiifgkngaaDoor
namespace Go.Proofs.YtlhhcgiifgkngaaDoor
open Go.RowKit
def u64s (r : List B) : List Value := r.map fun x : B => Value.int .u64 (un x : Int)
/-- the slice at p with n elements reads as r -/
structure RowsAt (w : World) (p : Option Addr) (n : Nat) (r : List B) : Prop where
  reads : Reads w w.heap.size 1 p n (u64s r)
  len : r.length = n
  big : n ≤ maxLen
theorem RowsAt.below {w w' : World} {p : Option Addr} {n : Nat} {r : List B} (h : RowsAt w p n r) (hb : Below w.heap.size w w') : RowsAt w' p n r :=
  ⟨(h.reads.below hb).more hb.size, h.len, h.big⟩
theorem RowsAt.drewN {w : World} {p : Option Addr} {n : Nat} {r : List B} (h : RowsAt w p n r) (k : Nat) : RowsAt (w.drewN k) p n r := ⟨h.reads, h.len, h.big⟩
theorem RowsAt.alloc {w : World} {p : Option Addr} {n : Nat} {r : List B} (h : RowsAt w p n r) (o : Obj) : RowsAt (w.alloc o) p n r :=
  h.below ((Below.refl _ _).alloc (Nat.le_refl _) o)
theorem RowsAt.cell {w : World} {p : Option Addr} {n : Nat} {r : List B} (h : RowsAt w p n r) {k : Nat} (hk : k < n) : ∃ ad, p = some ad ∧ ad.block < w.heap.size ∧ w.cell? (ad.add k) = some (.int .u64 (un (row r k) : Int)) := by
  obtain ⟨ad, u, rfl, hb, hu, hc⟩ := h.reads.at_ hk
  refine ⟨ad, rfl, hb, ?_⟩
  have hl : k < r.length := by rw [h.len]; exact hk
  rw [hc, ← hu]
  unfold u64s row
  simp [hl]
theorem below_next {w w1 w2 : World} (h : Below w.heap.size w w1) (h2 : Below w1.heap.size w1 w2) : Below w.heap.size w w2 := h.trans (h2.mono h.size)
theorem below_draws {b : Nat} {w w1 : World} (h : Below b w w1) (k : Nat) : Below b w (w1.drewN k) := ⟨h.os, h.tape, h.output, h.size, h.block⟩
/-- from a list of numbers that fit uint64 to sets -/
theorem sets_of (zs : List Int) (h : ∀ n ∈ zs, (Lit.int .u64 n).wf = true) : ∃ r : List B, zs = r.map (fun x : B => (un x : Int)) := by
  induction zs with
  | nil => exact ⟨[], rfl⟩
  | cons z zs ih =>
    obtain ⟨r, hr⟩ := ih (fun n hn => h n (List.mem_cons_of_mem _ hn))
    obtain ⟨x, hx⟩ := un_of (h z List.mem_cons_self)
    exact ⟨x :: r, by rw [List.map_cons, ← hx, ← hr]⟩
/-- what the shell of a law tells of a slice of uint64 -/
theorem rows_of {w : World} {a : Option Addr} {len cap : Nat} {zs : List Int}
    (h : (a = none ∧ len = 0 ∧ cap = 0 ∧ zs = []) ∨
      ∃ x, a = some x ∧ len ≤ cap ∧ cap ≤ maxLen ∧ zs.length = cap ∧ (∀ i, i < zs.length → w.cell? (x.add i) = some (.int .u64 (zs.getD i 0))) ∧ ∀ n ∈ zs, (Lit.int .u64 n).wf = true) :
    ∃ r : List B, RowsAt w a len r := by
  rcases h with ⟨rfl, rfl, rfl, rfl⟩ | ⟨x, rfl, hl, hm, hz, hc, hw⟩
  · exact ⟨[], Reads.none_, rfl, Nat.zero_le _⟩
  · obtain ⟨r, rfl⟩ := sets_of zs hw
    have hrl : r.length = cap := by simpa using hz
    refine ⟨r.take len, ⟨?_, fun hn => ⟨x, rfl, ?_, fun j u hj => ?_⟩⟩, ?_, by omega⟩
    · simp [u64s]; omega
    · have h0 := hc 0 (by simp; omega)
      have hb : (x.add 0).block = x.block := block_of_add x 0
      rw [← hb]
      rcases Nat.lt_or_ge (x.add 0).block w.heap.size with h1 | h1
      · exact h1
      · unfold World.cell? at h0
        rw [Array.getElem?_eq_none h1] at h0
        cases h0
    · have hjl : j < len := by
        have := (List.getElem?_eq_some_iff.1 hj).1
        simp [u64s] at this; omega
      rw [hc j (by simp; omega), ← hj]
      have hjr : j < r.length := by omega
      simp [u64s, hjl, hjr]
    · simp; omega
end Go.Proofs.YtlhhcgiifgkngaaDoor
namespace Go.Proofs.YtlhhcgiifgkngaaDoor
open Go.RowKit
set_option maxHeartbeats 1000000 in
theorem rcheck_ok (q : Option Addr) (n cq : Nat) (hn : n ≤ 64) (p : Option Addr) (m cp : Nat) (ss : List B) (w : World) (hS : RowsAt w p m ss) :
    Calls Tryd.prog 116 #[.slice q n cq, .slice p m cp] w fun e w' => e = .returned (.int .i64 (chkN n ss)) ∧ w = w' := by
  have hm := hS.big
  unfold maxLen at hm
  have hl := hS.len
  subst hl
  go_enter Tryd.func116, Tryd.ntmps116
  go_wp2_with (go_at_call 14; refine (Below_ok n hn _).mono ?_; rintro e w' ⟨rfl, rfl⟩)
  go_loop [17] (fun i => ∃ k : Nat, k ≤ ss.length ∧ i = .int .i64 k ∧ Hid (okSets n (ss.take k) = true)) (fun i => ss.length - (intOf i).toNat)
  case atStart => exact ⟨0, Nat.zero_le _, rfl, by show okSets n (ss.take 0) = true; simp [okSets]⟩
  case round =>
    obtain ⟨k, hk, rfl, HK⟩ := hrel
    by_cases hlt : k < ss.length
    · obtain ⟨ad, rfl, hb, hc⟩ := hS.cell hlt
      have hrow : row ss k = ss[k] := by unfold row; simp [hlt]
      have HT : Hid (okSets n (ss.take (k + 1)) = inB n (row ss k)) := by
        show okSets _ _ = _
        have h1 : okSets n (ss.take k) = true := HK.out
        unfold okSets at h1 ⊢
        rw [List.take_succ_eq_append_getElem hlt, List.all_append, h1, hrow]; simp
      have HA : Hid (inB n (row ss k) = false → okSets n ss = false) := by
        show _ → _
        intro h
        unfold okSets
        rw [Bool.eq_false_iff]
        intro h2
        have := List.all_eq_true.1 h2 _ (List.getElem_mem hlt)
        rw [← hrow, h] at this; cases this
      clear hS hb hrow HK
      generalize row ss k = x at *
      by_cases hx : x &&& ~~~belowB n = 0#64
      · have e0 : (un (x &&& ~~~belowB n) : Int) = 0 := un_zero_int hx
        have HX : Hid (inB n x = true) := by show inB n x = true; unfold inB; simpa using hx
        clear hx
        go_wp2
        go_round
        case rel => exact ⟨k + 1, by omega, by go_num, by show _ = true; rw [HT.out, HX.out]⟩
        case measure => simp [intOf]; omega
      · have e0 := un_ne0 hx
        have HX : Hid (inB n x = false) := by show inB n x = false; unfold inB; simpa using hx
        clear hx
        go_wp2
        go_ret
        exact ⟨by unfold chkN; rw [HA.out HX.out]; rfl, rfl⟩
    · have hall : ss.take k = ss := List.take_of_length_le (by omega)
      rw [hall] at HK
      clear hall
      go_wp2
      go_ret
      exact ⟨by unfold chkN; rw [HK.out]; rfl, rfl⟩
set_option maxHeartbeats 1000000 in
theorem Check_ok (p : Option Addr) (n c : Nat) (r : List B) (w : World) (hR : RowsAt w p n r) :
    Calls Tryd.prog 70 #[.slice p n c] w fun e w' => e = .returned (.int .i64 (chkR r)) ∧ w = w' := by
  have hl := hR.len
  subst hl
  have hbig := hR.big
  unfold maxLen at hbig
  by_cases h : 64 < r.length
  · have HC : Hid (chkR r = 2) := by show chkR r = 2; unfold chkR; rw [if_pos h]
    go_enter Tryd.func70, Tryd.ntmps70
    go_wp2
    go_ret
    exact ⟨by rw [HC.out]; rfl, rfl⟩
  · have HC : Hid (chkR r = chkN r.length r) := by show chkR r = _; unfold chkR; rw [if_neg h]
    have h64 : r.length ≤ 64 := by omega
    clear h
    go_enter Tryd.func70, Tryd.ntmps70
    go_wp2_with (go_at_call 116; refine (rcheck_ok _ _ _ h64 _ _ _ r _ hR).mono ?_; rintro e w' ⟨rfl, rfl⟩)
    go_ret
    exact ⟨by rw [HC.out]; rfl, rfl⟩
set_option maxHeartbeats 1000000 in
theorem checks_ok (p : Option Addr) (n c : Nat) (r : List B) (q : Option Addr) (m cq : Nat) (ss : List B) (w : World) (hR : RowsAt w p n r) (hS : RowsAt w q m ss) :
    Calls Tryd.prog 74 #[.slice p n c, .slice q m cq] w fun e w' => e = .returned (.int .i64 (chks r ss)) ∧ w = w' := by
  have hl := hR.len
  subst hl
  have hbig := hR.big
  unfold maxLen at hbig
  by_cases h : chkR r = 0
  · have hv := (chkR_zero.1 h).1
    have HC : Hid (chks r ss = chkN r.length ss) := by show chks r ss = _; unfold chks; rw [h]; simp
    go_enter Tryd.func74, Tryd.ntmps74
    go_wp2_with (first | (go_at_call 70; refine (Check_ok _ _ _ r _ hR).mono ?_; rintro e w' ⟨rfl, rfl⟩) | (go_at_call 116; refine (rcheck_ok _ _ _ hv _ _ _ ss _ hS).mono ?_; rintro e w' ⟨rfl, rfl⟩))
    go_ret
    exact ⟨by rw [HC.out]; rfl, rfl⟩
  · have HC : Hid (chks r ss = chkR r) := by show chks r ss = _; unfold chks; rw [if_pos h]
    have h0 : (chkR r == 0) = false := by simpa using h
    have h1 : (chkR r != 0) = true := by simpa using h
    clear h
    go_enter Tryd.func74, Tryd.ntmps74
    go_wp2_with (go_at_call 70; refine (Check_ok _ _ _ r _ hR).mono ?_; rintro e w' ⟨rfl, rfl⟩)
    go_ret
    exact ⟨by rw [HC.out]; rfl, rfl⟩
/-- what Next answers, part by part -/
def nextI (s : B) (m : Nat) : Int := if frm s m = 0#64 then 0 else (low (frm s m) : Int)
def nextB (s : B) (m : Nat) : Bool := decide (frm s m ≠ 0#64)
theorem nextV_parts (s : B) (m : Nat) : nextV s m = .tuple #[.int .i64 (nextI s m), .bool (nextB s m)] := by
  unfold nextV nextI nextB
  by_cases h : frm s m = 0#64 <;> simp [h]
theorem next_true {s : B} {m : Nat} (h : nextB s m = true) : ∃ j : Nat, nextI s m = (j : Int) ∧ m ≤ j ∧ j < 64 ∧ has s j = true ∧ ∀ i, m ≤ i → i < j → has s i = false := by
  have h0 : frm s m ≠ 0#64 := by unfold nextB at h; simpa using h
  obtain ⟨h1, h2, h3, h4⟩ := low_frm h0
  exact ⟨low (frm s m), by unfold nextI; rw [if_neg h0], h2, h4, h1, h3⟩
theorem next_false {s : B} {m : Nat} (h : nextB s m = false) : ∀ i, m ≤ i → has s i = false := by
  have h0 : frm s m = 0#64 := by unfold nextB at h; simpa using h
  intro i hi
  have := eq_zero_iff.1 h0 i
  rw [has_frm] at this
  simpa [hi] using this
def muIs : Value → Value → Nat
  | .int _ q, .bool true => 64 - q.toNat
  | _, _ => 0
theorem mu_next (s : B) (j : Nat) (hj : j < 64) : muIs (.int .i64 (nextI s (j + 1))) (.bool (nextB s (j + 1))) < muIs (.int .i64 (j : Int)) (.bool true) := by
  cases h : nextB s (j + 1)
  · show 0 < 64 - (j : Int).toNat; omega
  · obtain ⟨i, h1, h2, h3, _⟩ := next_true h
    rw [h1]
    show 64 - (i : Int).toNat < 64 - (j : Int).toNat
    omega
set_option maxHeartbeats 1000000 in
theorem step_ok (p : Option Addr) (n c : Nat) (r : List B) (s : B) (hs : ∀ k, has s k = true → k < r.length) (w : World) (hR : RowsAt w p n r) (hT : Tab w) :
    Calls Tryd.prog 118 #[.slice p n c, .int .u64 (un s)] w fun e w' => e = .returned (.int .u64 (un (stp r s))) ∧ w = w' := by
  have hl := hR.len
  subst hl
  have hbig := hR.big
  unfold maxLen at hbig
  have HS := Lib.hid hs
  clear hs
  go_enter Tryd.func118, Tryd.ntmps118
  go_wp2_with (go_at_call 160; refine (Next_ok _ _ _ hT).mono ?_; rw [nextV_parts]; rintro e w' ⟨rfl, rfl⟩)
  go_loop [5, 6, 7] (fun x i b => ∃ (m : Nat) (a : B), m ≤ 64 ∧ x = .int .u64 (un a) ∧ i = .int .i64 (nextI s m) ∧ b = .bool (nextB s m) ∧ Hid (∀ k, has a k = true ↔ ∃ n, n < m ∧ has s n = true ∧ has (row r n) k = true)) (fun _ i b => muIs i b)
  case atStart => exact ⟨0, 0#64, by omega, rfl, rfl, rfl, by show ∀ k, _; intro k; rw [has_zero]; simp⟩
  case round =>
    obtain ⟨m, a, hm, rfl, rfl, rfl, HA⟩ := hrel
    cases hnb : nextB s m
    · have HF : Hid (stp r s = a) := by
        show stp r s = a
        apply eq_of_iff
        intro k
        rw [has_stp, HA.out k]
        constructor
        · rintro ⟨i, h1, h2⟩
          refine ⟨i, ?_, h1, h2⟩
          rcases Nat.lt_or_ge i m with h3 | h3
          · exact h3
          · rw [next_false hnb i h3] at h1; cases h1
        · rintro ⟨i, _, h1, h2⟩; exact ⟨i, h1, h2⟩
      clear hnb HA
      go_wp2
      go_ret
      exact ⟨by rw [HF.out]; rfl, rfl⟩
    · obtain ⟨j, hj, hmj, hj64, hsj, hno⟩ := next_true hnb
      have hjr : j < r.length := HS.out j hsj
      obtain ⟨ad, rfl, hb, hc⟩ := hR.cell hjr
      have HN : Hid (∀ k, has (a ||| row r j) k = true ↔ ∃ n, n < j + 1 ∧ has s n = true ∧ has (row r n) k = true) := by
        show ∀ k, _
        intro k
        rw [has_or, Bool.or_eq_true, HA.out k]
        constructor
        · rintro (⟨i, h1, h2, h3⟩ | h)
          · exact ⟨i, by omega, h2, h3⟩
          · exact ⟨j, by omega, hsj, h⟩
        · rintro ⟨i, h1, h2, h3⟩
          rcases Nat.lt_or_ge i m with h4 | h4
          · exact .inl ⟨i, h4, h2, h3⟩
          · rcases Nat.lt_or_ge i j with h5 | h5
            · rw [hno i h4 h5] at h2; cases h2
            · have : i = j := by omega
              subst this; exact .inr h3
      have HM := Lib.hid (mu_next s j hj64)
      rw [hj]
      clear HA hno hsj hj hb
      generalize row r j = x at *
      have e1 : ((j : Int) + 1).toNat = j + 1 := by omega
      have HE := Lib.hid e1
      clear e1 hnb
      go_wp2_with (go_at_call 160; refine (Next_ok _ _ _ hT).mono ?_; rw [HE.out, nextV_parts]; rintro e w' ⟨rfl, rfl⟩)
      go_round
      case rel => exact ⟨j + 1, a ||| x, by omega, rfl, rfl, rfl, HN.out⟩
      case measure => exact HM.out
end Go.Proofs.YtlhhcgiifgkngaaDoor
namespace Go.Proofs.YtlhhcgiifgkngaaDoor
open Go.RowKit
theorem shr_bit (s : B) (a : Nat) : (un (s >>> a &&& 1#64) : Int) = if has s a = true then 1 else 0 := by
  have e : un (s >>> a &&& 1#64) = un (s >>> a) % 2 := by
    unfold un; rw [BitVec.toNat_and]; exact Nat.and_one_is_mod _
  have e2 : un (s >>> a) = un s / 2 ^ a := by unfold un; rw [BitVec.toNat_ushiftRight, Nat.shiftRight_eq_div_pow]
  rw [e, e2, has_un, Nat.testBit_eq_decide_div_mod_eq]
  rcases Nat.mod_two_eq_zero_or_one (un s / 2 ^ a) with h | h <;> simp [h]
theorem nextV_none {s : B} {m : Nat} (h : frm s m = 0#64) : nextV s m = .tuple #[.int .i64 0, .bool false] := by unfold nextV; rw [if_pos h]
theorem nextV_some {s : B} {m : Nat} (h : frm s m ≠ 0#64) : nextV s m = .tuple #[.int .i64 (low (frm s m) : Int), .bool true] := by unfold nextV; rw [if_neg h]
end Go.Proofs.YtlhhcgiifgkngaaDoor
