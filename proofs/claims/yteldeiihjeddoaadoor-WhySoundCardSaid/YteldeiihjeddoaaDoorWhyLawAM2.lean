/- Texts joined: WhyP, StaleCheckW, StaleSetP, StaleSetW, StaleW. Conditions: theirs. -/
import Derived.Test.YteldeiihjeddoaaDoorWhyLawAM1
import Derived.Test.YteldeiihjeddoaaDoorListW
import Derived.Test.YteldeiihjeddoaaDoorFromW
namespace Go.Proofs.YteldeiihjeddoaaDoor
open Go.RowKit
/-- one reason of a chain: its number, its cause, its need, and the slice of those within -/
structure WE where
  num : Int
  cause : Int
  need : Int
  p : Option Addr
  many : Nat
  cap : Nat
def WE.v (a : WE) : Value := .agg #[.int .i64 a.num, .int .i64 a.cause, .int .i64 a.need, .slice a.p a.many a.cap]
/-- right in form -/
def WE.ok (a : WE) : Bool := decide (1 ≤ a.cause) && (decide (a.cause ≤ 5) && decide ((a.many : Int) = if a.cause = 5 then 1 else 0))
/-- the cells of a reason -/
def WCells (w : World) (b o : Nat) (a : WE) : Prop :=
  w.cell? ⟨b, o, none⟩ = some (.int .i64 a.num) ∧ w.cell? ⟨b, o + 1, none⟩ = some (.int .i64 a.cause) ∧ w.cell? ⟨b, o + 2, none⟩ = some (.int .i64 a.need) ∧ w.cell? ⟨b, o + 3, none⟩ = some (.slice a.p a.many a.cap)
/-- a chain that the call can read, from the outside in -/
def WLinks (w : World) : List WE → Prop
  | [] => False
  | [a] => a.many = 0
  | a :: b :: t => 0 < a.many ∧ (∃ k o, a.p = some ⟨k, o, none⟩ ∧ k < w.heap.size ∧ WCells w k o b) ∧ WLinks w (b :: t)
theorem WCells.below {w w' : World} {b o : Nat} {a : WE} (h : WCells w b o a) (hb : Below w.heap.size w w') (hlt : b < w.heap.size) : WCells w' b o a :=
  ⟨(hb.cell hlt).trans h.1, (hb.cell hlt).trans h.2.1, (hb.cell hlt).trans h.2.2.1, (hb.cell hlt).trans h.2.2.2⟩
theorem WLinks.below {w w' : World} : ∀ {l : List WE}, WLinks w l → Below w.heap.size w w' → WLinks w' l
  | [], h, _ => h
  | [_], h, _ => h
  | _ :: _ :: _, ⟨h1, ⟨k, o, h2, h3, h4⟩, h5⟩, hb => ⟨h1, ⟨k, o, h2, Nat.lt_of_lt_of_le h3 hb.size, h4.below hb h3⟩, WLinks.below h5 hb⟩
/-- one reason holds, but for what is within: next is the number of that -/
structure Hold1 (g : GD) (x : SD) (a : WE) (next : Int) : Prop where
  num : 0 ≤ a.num ∧ a.num < g.names.length
  need : 0 ≤ a.need ∧ a.need < g.names.length
  made : has (g.made ||| g.phony) a.num.toNat = true
  edge : 3 ≤ a.cause → has (row (rws g) a.num.toNat) a.need.toNat = true
  none_ : a.cause < 3 → a.need = 0
  gone : a.cause = 1 → x.at_.getD a.num.toNat 0 < 0
  phony : a.cause = 2 → has g.phony a.num.toNat = true
  dirty : a.cause = 3 → has x.dirty a.need.toNat = true
  newer : a.cause = 4 → x.at_.getD a.num.toNat 0 < x.at_.getD a.need.toNat 0
  anew : a.cause = 5 → next = a.need
def nextN : List WE → Int
  | [] => 0
  | b :: _ => b.num
/-- a chain holds -/
def HoldsC (g : GD) (x : SD) : List WE → Prop
  | [] => True
  | a :: t => a.ok = true ∧ Hold1 g x a (nextN t) ∧ HoldsC g x t
theorem ok_cause {a : WE} (h : a.ok = true) : 1 ≤ a.cause ∧ a.cause ≤ 5 ∧ (a.many : Int) = if a.cause = 5 then 1 else 0 := by
  unfold WE.ok at h
  simp only [Bool.and_eq_true, decide_eq_true_eq] at h
  exact h
/-- what holds tells of a stale number -/
theorem holds_stale {g : GD} {x : SD} {s : B} (hs : Stale g x s) {w : World} : ∀ {t : List WE} {a : WE}, WLinks w (a :: t) → HoldsC g x (a :: t) → has s a.num.toNat = true
  | [], a, hw, ⟨h1, h2, _⟩ => by
    have hm : a.many = 0 := hw
    obtain ⟨c1, c2, c3⟩ := ok_cause h1
    rw [hm] at c3
    have c5 : a.cause ≠ 5 := by intro e; rw [if_pos e] at c3; simp at c3
    have := h2.num
    refine (hs _).2 ⟨by omega, h2.made, ?_⟩
    rcases (by omega : a.cause = 1 ∨ a.cause = 2 ∨ a.cause = 3 ∨ a.cause = 4) with e | e | e | e
    · exact .inl (h2.gone e)
    · exact .inr (.inl (h2.phony e))
    · exact .inr (.inr ⟨_, h2.edge (by omega), .inl (h2.dirty e)⟩)
    · exact .inr (.inr ⟨_, h2.edge (by omega), .inr (.inr (h2.newer e))⟩)
  | b :: t, a, ⟨hm, _, hw⟩, ⟨h1, h2, h3⟩ => by
    obtain ⟨c1, c2, c3⟩ := ok_cause h1
    have c5 : a.cause = 5 := by
      by_cases e : a.cause = 5
      · exact e
      · rw [if_neg e] at c3; omega
    have hb := holds_stale hs hw h3
    have hn : b.num = a.need := h2.anew c5
    have := h2.num
    refine (hs _).2 ⟨by omega, h2.made, .inr (.inr ⟨_, h2.edge (by omega), .inr (.inl ?_)⟩)⟩
    rw [← hn]; exact hb
/-- the numbers of a chain -/
def nums (l : List WE) : List Nat := l.map fun a => a.num.toNat
end Go.Proofs.YteldeiihjeddoaaDoor
namespace Go.Proofs.YteldeiihjeddoaaDoor
open Go.RowKit Go.Shelf
/-- what check answers -/
def SCheck (w : World) (g : GD) (x : SD) (e : Ending) (w' : World) : Prop :=
  ((Right g x ∧ ∃ (p q : Option Addr) (c d : Nat) (o : List Nat), KOrd (rws g) o 0#64 ∧ e = .returned (.tuple #[.slice p g.names.length c, .slice q o.length d, .int .i64 0]) ∧ RowsAt w' p g.names.length (rws g) ∧ Reads w' w'.heap.size 1 q o.length (ints o)) ∨
    (¬ Fit g x ∧ ∃ E : Int, E ≠ 0 ∧ e = .returned (.tuple #[.slice none 0 0, .slice none 0 0, .int .i64 E]))) ∧ Below w.heap.size w w'
theorem rows_at {w : World} {base c n : Nat} {p : Option Addr} {r : List B} (h : w.ownsRow base 24 1 (.slice p n c) n (u64sG r)) (hn : n ≤ 64) : RowsAt w p n r := by
  have hl : r.length = n := by have := h.1; simpa [u64sG] using this
  exact ⟨Reads.of_own h, hl, by unfold maxLen; omega⟩
def RTo (x : SD) (k : Nat) : Prop := ∀ n, n < k → -1 ≤ x.at_.getD n 0 ∧ x.at_.getD n 0 ≤ 1099511627776
theorem rto_next {x : SD} {k : Nat} (h : RTo x k) (hk : -1 ≤ x.at_.getD k 0 ∧ x.at_.getD k 0 ≤ 1099511627776) : RTo x (k + 1) := fun n hn => by
  rcases Nat.lt_or_ge n k with h1 | h1
  · exact h n h1
  · obtain rfl : n = k := by omega
    exact hk
theorem no_order {g : GD} {x : SD} {o : List Nat} {left : B} (h : KOrd (rws g) o left) (hs : Stuck (rws g) left) (h0 : left ≠ 0#64) : ¬ Fit g x := by
  rintro ⟨_, o2, h2⟩
  exact h0 ((stuck_zero_iff h hs h2 (fun n hn => by simp [has_zero] at hn)).2 rfl)
def ThereTo (g : GD) (x : SD) (k : Nat) : Prop := ∀ n, n < k → x.at_.getD n 0 < 0 → has (g.made ||| g.phony) n = true
theorem there_next {g : GD} {x : SD} {k : Nat} (h : ThereTo g x k) (hk : x.at_.getD k 0 < 0 → has (g.made ||| g.phony) k = true) : ThereTo g x (k + 1) := fun n hn ht => by
  rcases Nat.lt_or_ge n k with h1 | h1
  · exact h n h1 ht
  · obtain rfl : n = k := by omega
    exact hk ht
theorem bit_zero (s : B) (a : Nat) : ((un ((s >>> a) &&& 1#64) : Int) == 0) = !has s a := by
  have e : un (s >>> a &&& 1#64) = un (s >>> a) % 2 := by
    unfold un; rw [BitVec.toNat_and]; exact Nat.and_one_is_mod _
  have e2 : un (s >>> a) = un s / 2 ^ a := by unfold un; rw [BitVec.toNat_ushiftRight, Nat.shiftRight_eq_div_pow]
  rw [e, e2, has_un, Nat.testBit_eq_decide_div_mod_eq]
  rcases Nat.mod_two_eq_zero_or_one (un s / 2 ^ a) with h | h <;> simp [h]
set_option maxHeartbeats 4000000 in
set_option maxRecDepth 100000 in
theorem scheck_ok (v u : Value) (g : GD) (x : SD) (w : World) (h : GrAt w v g) (hx : SnAt w u x) (hT : Tab w) : Calls Tryd.prog 45 #[v, u] w (SCheck w g x) := by
  have hGr := h
  obtain ⟨p, n, c, q, m, d, rfl, hN, hE⟩ := h.at_
  obtain ⟨p2, n2, c2, rfl, hx1, hx2, hx3⟩ := hx.at_
  have hln := hN.at_.len
  have hlm := hE.len
  subst hln hlm hx1
  have hbn := hN.at_.big
  have hbm := hE.big
  obtain ⟨W, hW⟩ : ∃ W, W = (w.alloc (.cells #[.slice p g.names.length c, .slice q g.edges.length d, .int .u64 (un g.phony : Int), .int .u64 (un g.made : Int)] 26)).alloc (.cells #[.slice p2 x.at_.length c2, .int .u64 (un x.dirty : Int)] 29) := ⟨_, rfl⟩
  have hBW : Below w.heap.size w W := by rw [hW]; exact ((Below.refl _ _).alloc (Nat.le_refl _) _).alloc (by simp) _
  have HS : Hid (w.heap.size + 1 < W.heap.size) := by show _ < _; rw [hW]; simp
  have HS0 : Hid (w.heap.size < W.heap.size) := by show _ < _; rw [hW]; simp; omega
  have HC : Hid (∀ u : World, Below W.heap.size W u → u.cell? ⟨w.heap.size, 0, none⟩ = some (.slice p g.names.length c) ∧ u.cell? ⟨w.heap.size, 1, none⟩ = some (.slice q g.edges.length d) ∧ u.cell? ⟨w.heap.size, 2, none⟩ = some (.int .u64 (un g.phony : Int)) ∧ u.cell? ⟨w.heap.size, 3, none⟩ = some (.int .u64 (un g.made : Int)) ∧
      u.cell? ⟨w.heap.size + 1, 0, none⟩ = some (.slice p2 x.at_.length c2) ∧ u.cell? ⟨w.heap.size + 1, 1, none⟩ = some (.int .u64 (un x.dirty : Int))) := by
    show ∀ u : World, _ → _
    intro u hu
    rw [hu.cell HS0.out, hu.cell HS0.out, hu.cell HS0.out, hu.cell HS0.out, hu.cell HS.out, hu.cell HS.out, hW]
    refine ⟨?_, ?_, ?_, ?_, ?_, ?_⟩
    all_goals first
      | (rw [World.cell?_alloc_lt _ _ _ (by simp), World.cell?_alloc_at _ _ _ _ rfl]; rfl)
      | (rw [World.cell?_alloc_at _ _ _ _ (by simp)]; rfl)
  have HRows := Lib.hid (Rows2_ok _ g W (hGr.below hBW))
  have HBW := Lib.hid hBW
  have HXR : Hid (Reads W W.heap.size 1 p2 x.at_.length (iv x.at_)) := by show Reads _ _ _ _ _ _; exact (hx2.below hBW).more hBW.size
  have HT := Lib.hid (hT.below hBW)
  have HFIN : Hid (∀ u, Below W.heap.size W u → Below w.heap.size w u) := by show ∀ u, _; exact fun u hu => HBW.out.trans (hu.mono (Nat.le_of_lt HS0.out))
  obtain ⟨k0, k1, k2, k3, k4, k5⟩ := HC.out W (Below.refl _ _)
  rw [hW] at k0 k1 k2 k3 k4 k5
  clear hN hE hBW h hGr hx hx2 hT
  go_enter Tryd.func45, Tryd.ntmps45
  go_wp2_with fail
  rw [← hW]
  clear hW k0 k1 k2 k3 k4 k5
  refine HRows.out.mono ?_
  rintro e w2 ⟨hcase, hb2⟩
  have HB2 := Lib.hid hb2
  obtain ⟨k0, k1, k2, k3, k4, k5⟩ := HC.out w2 hb2
  clear hb2
  rcases hcase with ⟨hG, pr, cr, rfl, hown⟩ | ⟨hnG, E, hE0, rfl⟩
  · have HG := Lib.hid hG
    have h64 := hG.names
    have HRA := Lib.hid (rows_at hown hG.names)
    clear hown hG
    by_cases g1 : x.at_.length = g.names.length
    · have hb1 : ((x.at_.length : Int) != (g.names.length : Int)) = false := by rw [g1]; simp
      have HG1 := Lib.hid g1
      clear g1
      have HXR2 : Hid (Reads w2 w2.heap.size 1 p2 x.at_.length (iv x.at_)) := by show Reads _ _ _ _ _ _; exact (HXR.out.below HB2.out).more HB2.out.size
      go_wp2
      go_loop [35] (fun i => ∃ k : Nat, k ≤ x.at_.length ∧ i = .int .i64 k ∧ Hid (RTo x k)) (fun i => x.at_.length - (intOf i).toNat)
      case atStart => exact ⟨0, Nat.zero_le _, rfl, show RTo x 0 from fun n hn => by omega⟩
      case round =>
        obtain ⟨k, hk, rfl, HRT⟩ := hrel
        by_cases hlt : k < x.at_.length
        · obtain ⟨ad, rfl, _, hcx⟩ := iv_at HXR2.out hlt
          have HRn := Lib.hid (rto_next HRT.out)
          have HER : Hid (x.at_.getD k 0 < -1 ∨ 1099511627776 < x.at_.getD k 0 → ¬ Fit g x) := by
            show _ → _
            intro h hf
            have := hf.1.range k (by rw [← HG1.out]; exact hlt)
            omega
          generalize x.at_.getD k 0 = t at *
          by_cases t1 : t < -1
          · go_wp2
            go_ret3
            exact ⟨.inr ⟨HER.out (.inl t1), 4, by decide, rfl⟩, HFIN.out _ HB2.out⟩
          by_cases t2 : (1099511627776 : Int) < t
          · go_wp2
            go_ret3
            exact ⟨.inr ⟨HER.out (.inr t2), 4, by decide, rfl⟩, HFIN.out _ HB2.out⟩
          have HRT2 := Lib.hid (HRn.out ⟨by omega, by omega⟩)
          clear HRn HER HRT
          go_wp2
          go_round
          case rel => exact ⟨k + 1, by omega, by go_num, HRT2.out⟩
          case measure => simp [intOf]; omega
        · obtain rfl : k = x.at_.length := by omega
          by_cases hz : x.dirty &&& ~~~belowB g.names.length = 0#64
          · have HD : Hid (∀ k, has x.dirty k = true → k < g.names.length) := by
              show ∀ k, _ → _
              exact inB_iff.1 (by unfold inB; exact decide_eq_true hz)
            have hzz : (((un (x.dirty &&& ~~~belowB g.names.length) : Nat) : Int) != 0) = false := by rw [hz]; rfl
            clear hz
            go_wp2_with (first
              | (go_at_call 19; refine (Below_ok _ h64 _).mono ?_; rintro e w' ⟨rfl, rfl⟩)
              | fail)
            refine (Order_yes pr g.names.length cr (rws g) (chkR_zero.2 (valid_rws HG.out)) _ HRA.out (HT.out.belowB (Tab.lt HT.out) HB2.out)).mono ?_
            rintro e w3 hO
            rcases hO with ⟨o, go, co, rfl, hK, _, hown, hb3⟩ | ⟨o, left, rfl, hl0, hKo, hSt, hb3⟩
            · have HK := Lib.hid hK
              have HOR := Lib.hid (Reads.of_own hown)
              have HB3 := Lib.hid (HB2.out.trans (hb3.mono HB2.out.size))
              have HRA3 := Lib.hid (HRA.out.below hb3)
              have HXR3 : Hid (Reads w3 w3.heap.size 1 p2 x.at_.length (iv x.at_)) := by show Reads _ _ _ _ _ _; exact (HXR2.out.below hb3).more hb3.size
              clear k0 k1 k2 k3 k4 k5 hown hb3 hK
              obtain ⟨k0, k1, k2, k3, k4, k5⟩ := HC.out w3 HB3.out
              obtain ⟨ol, hol⟩ : ∃ ol, ol = o.length := ⟨_, rfl⟩
              rw [← hol] at HOR ⊢
              have HOL := Lib.hid hol
              clear hol
              go_wp2
              go_loop [68] (fun i => ∃ k : Nat, k ≤ x.at_.length ∧ i = .int .i64 k ∧ Hid (ThereTo g x k)) (fun i => x.at_.length - (intOf i).toNat)
              case atStart => exact ⟨0, Nat.zero_le _, rfl, show ThereTo g x 0 from fun n hn => by omega⟩
              case round =>
                obtain ⟨k, hk, rfl, HTh⟩ := hrel
                by_cases hlt : k < x.at_.length
                · obtain ⟨ad, rfl, _, hcx⟩ := iv_at HXR3.out hlt
                  have HNx := Lib.hid (there_next HTh.out)
                  have HER : Hid (x.at_.getD k 0 < 0 → has (g.made ||| g.phony) k = false → ¬ Fit g x) := by
                    show _ → _ → _
                    intro h h2 hf
                    have := hf.1.there k (by rw [← HG1.out]; exact hlt) h
                    rw [h2] at this
                    cases this
                  generalize x.at_.getD k 0 = t at *
                  by_cases t1 : t < 0
                  · have hbz := bit_zero (g.made ||| g.phony) k
                    cases hh : has (g.made ||| g.phony) k
                    · rw [hh] at hbz
                      have HNF := Lib.hid (HER.out t1 hh)
                      clear hh HNx
                      go_wp2
                      go_ret3
                      exact ⟨.inr ⟨HNF.out, 5, by decide, rfl⟩, HFIN.out _ HB3.out⟩
                    · rw [hh] at hbz
                      have HNy := Lib.hid (HNx.out fun _ => hh)
                      clear hh HNx
                      go_wp2
                      go_round
                      case rel => exact ⟨k + 1, by omega, by go_num, HNy.out⟩
                      case measure => simp [intOf]; omega
                  · have HNy := Lib.hid (HNx.out fun h => absurd h t1)
                    clear HNx
                    go_wp2
                    go_round
                    case rel => exact ⟨k + 1, by omega, by go_num, HNy.out⟩
                    case measure => simp [intOf]; omega
                · obtain rfl : k = x.at_.length := by omega
                  go_wp2
                  go_ret3
                  have hol := HOL.out
                  subst hol
                  exact ⟨.inl ⟨⟨HG.out, HG1.out, fun n hn => HRT.out n (by rw [HG1.out]; exact hn), HD.out, fun n hn => HTh.out n (by rw [HG1.out]; exact hn)⟩, pr, go, cr, co, o, HK.out, rfl, HRA3.out, HOR.out⟩, HFIN.out _ HB3.out⟩
            · have HB3 := Lib.hid (HB2.out.trans (hb3.mono HB2.out.size))
              have HNF : Hid (¬ Fit g x) := by show ¬ _; exact no_order hKo hSt hl0
              clear hl0 hKo hSt
              go_wp2
              go_ret3
              exact ⟨.inr ⟨HNF.out, 8, by decide, rfl⟩, HFIN.out _ HB3.out⟩
          · have hzz : (((un (x.dirty &&& ~~~belowB g.names.length) : Nat) : Int) != 0) = true := by
              rw [bne_iff_ne]
              intro e
              exact hz (un_inj (by rw [show un 0#64 = 0 from rfl]; omega))
            have HNF : Hid (¬ Fit g x) := by
              show ¬ _
              intro hf
              have := inB_iff.2 hf.1.dirty
              unfold inB at this
              exact hz (of_decide_eq_true this)
            clear hz
            go_wp2_with (go_at_call 19; refine (Below_ok _ h64 _).mono ?_; rintro e w' ⟨rfl, rfl⟩)
            go_ret3
            exact ⟨.inr ⟨HNF.out, 4, by decide, rfl⟩, HFIN.out _ HB2.out⟩
    · have hb1 : ((x.at_.length : Int) != (g.names.length : Int)) = true := by rw [bne_iff_ne]; omega
      have HNF : Hid (¬ Fit g x) := by show ¬ _; exact fun hf => g1 hf.1.len
      go_wp2
      go_ret3
      exact ⟨.inr ⟨HNF.out, 1, by decide, rfl⟩, HFIN.out _ HB2.out⟩
  · obtain ⟨i1, i2⟩ := int_ne' hE0
    have HNF : Hid (¬ Fit g x) := by show ¬ _; exact fun hf => hnG hf.1.good
    clear hnG
    go_wp2
    go_ret3
    exact ⟨.inr ⟨HNF.out, E, hE0, rfl⟩, HFIN.out _ HB2.out⟩
end Go.Proofs.YteldeiihjeddoaaDoor
namespace Go.Proofs.YteldeiihjeddoaaDoor
/-- what the set holds when the first k of the order are through -/
structure SInv (g : GD) (x : SD) (o : List Nat) (k : Nat) (s : B) : Prop where
  only : ∀ n, has s n = true → n ∈ o.take k
  iff : ∀ n ∈ o.take k, has s n = true ↔ has (g.made ||| g.phony) n = true ∧ Why g x s n
theorem sinv_nil (g : GD) (x : SD) (o : List Nat) : SInv g x o 0 0#64 := ⟨fun n h => (by rw [has_zero] at h; cases h), fun n h => (by simp at h)⟩
theorem why_same {g : GD} {x : SD} {s t : B} {n : Nat} (h : ∀ k, has (row (rws g) n) k = true → (has s k = true ↔ has t k = true)) : Why g x s n ↔ Why g x t n := by
  unfold Why
  constructor
  · rintro (h1 | h1 | ⟨k, h1, h2⟩)
    · exact .inl h1
    · exact .inr (.inl h1)
    · exact .inr (.inr ⟨k, h1, by rw [← h k h1]; exact h2⟩)
  · rintro (h1 | h1 | ⟨k, h1, h2⟩)
    · exact .inl h1
    · exact .inr (.inl h1)
    · exact .inr (.inr ⟨k, h1, by rw [h k h1]; exact h2⟩)
theorem take_mono {l : List Nat} {i k x : Nat} (h : i ≤ k) (hx : x ∈ l.take i) : x ∈ l.take k := by
  have e : l.take i = (l.take k).take i := by rw [List.take_take, Nat.min_eq_left h]
  rw [e] at hx
  exact List.mem_of_mem_take hx
theorem sinv_step {g : GD} {x : SD} {o : List Nat} (ho : KOrd (rws g) o 0#64) {k : Nat} (hk : k < o.length) {s t : B} (h : SInv g x o k s)
    {C : Bool} (ht : t = if C = true then s ||| 1#64 <<< o[k] else s) (hc : C = true ↔ has (g.made ||| g.phony) o[k] = true ∧ Why g x s o[k]) (hn64 : o[k] < 64) : SInv g x o (k + 1) t := by
  have htk : o.take (k + 1) = o.take k ++ [o[k]] := List.take_succ_eq_append_getElem hk
  have hnot : o[k] ∉ o.take k := by
    intro hm
    obtain ⟨j, hj, e⟩ := List.mem_iff_getElem.1 hm
    rw [List.getElem_take] at e
    have hjl : j < k := by rw [List.length_take] at hj; omega
    exact List.pairwise_iff_getElem.1 ho.nodup j k (by omega) hk hjl e
  have hso : has s o[k] = false := by
    rw [Bool.eq_false_iff]; exact fun h1 => hnot (h.only _ h1)
  have hsame : ∀ j, j ≠ o[k] → has t j = has s j := by
    intro j hj
    rw [ht]
    split
    · rcases Nat.lt_or_ge j 64 with h64 | h64
      · rw [has_or, has_one _ _ h64, decide_eq_false hj, Bool.or_false]
      · rw [has_ge h64, has_ge h64]
    · rfl
  have hw : ∀ n ∈ o.take (k + 1), Why g x t n ↔ Why g x s n := by
    intro n hn
    refine (why_same fun j hj => ?_).symm
    have hjk : j ∈ o.take k := by
      obtain ⟨i, hi, e⟩ := List.mem_iff_getElem.1 hn
      rw [List.getElem_take] at e
      rw [List.length_take] at hi
      have := ho.needs i (by omega) j (by rw [e]; exact hj)
      exact take_mono (by omega) this
    rw [hsame j (fun e => hnot (by rw [← e]; exact hjk))]
  refine ⟨fun n hn => ?_, fun n hn => ?_⟩
  · rw [htk, List.mem_append, List.mem_singleton]
    by_cases e : n = o[k]
    · exact .inr e
    · exact .inl (h.only n (by rw [← hsame n e]; exact hn))
  · rw [hw n hn]
    rw [htk, List.mem_append, List.mem_singleton] at hn
    rcases hn with hn | rfl
    · rw [hsame n (fun e => hnot (by rw [← e]; exact hn))]
      exact h.iff n hn
    · rw [← hc, ht]
      cases C
      · rw [if_neg (by decide), hso]
      · rw [if_pos rfl, has_or, has_one _ _ hn64, decide_eq_true rfl, Bool.or_true]
theorem sinv_all {g : GD} {x : SD} {o : List Nat} (ho : KOrd (rws g) o 0#64) {s : B} (h : SInv g x o o.length s) : Stale g x s := by
  have hall : ∀ n, n ∈ o ↔ n < g.names.length := by
    intro n
    have hiff := ho.left_iff n
    rw [has_zero, rws_len] at hiff
    constructor
    · intro hn; have := ho.lt n hn; rwa [rws_len] at this
    · intro hn
      by_cases hm : n ∈ o
      · exact hm
      · exact absurd (hiff.2 ⟨hn, hm⟩) (by simp)
  have hi := h.iff
  have ho2 := h.only
  rw [List.take_length] at hi
  intro n
  constructor
  · intro hn
    have hm : n ∈ o := by have := ho2 n hn; rwa [List.take_length] at this
    exact ⟨(hall n).1 hm, (hi n hm).1 hn⟩
  · rintro ⟨h1, h2⟩
    exact (hi n ((hall n).2 h1)).2 h2
/-- the first part of the test -/
def anew1 (g : GD) (x : SD) (s : B) (n : Nat) : Bool := decide (x.at_.getD n 0 < 0) || (has g.phony n || decide (row (rws g) n &&& (x.dirty ||| s) ≠ 0#64))
def anew2 (g : GD) (x : SD) (s : B) (n j : Nat) : Bool := anew1 g x s n || ((lst (row (rws g) n)).take j).any fun k => decide (x.at_.getD n 0 < x.at_.getD k 0)
theorem anew2_zero (g : GD) (x : SD) (s : B) (n : Nat) : anew2 g x s n 0 = anew1 g x s n := by unfold anew2; simp
theorem anew2_next {g : GD} {x : SD} {s : B} {n j : Nat} (hj : j < (lst (row (rws g) n)).length) :
    anew2 g x s n (j + 1) = (anew2 g x s n j || decide (x.at_.getD n 0 < x.at_.getD ((lst (row (rws g) n)).getD j 0) 0)) := by
  unfold anew2
  rw [List.take_succ_eq_append_getElem hj, List.any_append, Bool.or_assoc]
  simp [List.getD_eq_getElem?_getD, List.getElem?_eq_getElem hj]
theorem anew2_why {g : GD} {x : SD} {s : B} {n : Nat} : anew2 g x s n (lst (row (rws g) n)).length = true ↔ Why g x s n := by
  unfold anew2 anew1 Why
  rw [List.take_length, Bool.or_eq_true, Bool.or_eq_true, Bool.or_eq_true, decide_eq_true_iff, decide_eq_true_iff, List.any_eq_true]
  constructor
  · rintro ((h | h | h) | ⟨k, h1, h2⟩)
    · exact .inl h
    · exact .inr (.inl h)
    · obtain ⟨k, hk⟩ := exists_of_ne h
      rw [has_and, has_or, Bool.and_eq_true, Bool.or_eq_true] at hk
      rcases hk.2 with h3 | h3
      · exact .inr (.inr ⟨k, hk.1, .inl h3⟩)
      · exact .inr (.inr ⟨k, hk.1, .inr (.inl h3)⟩)
    · exact .inr (.inr ⟨k, mem_lst.1 h1, .inr (.inr (of_decide_eq_true h2))⟩)
  · rintro (h | h | ⟨k, h1, h2⟩)
    · exact .inl (.inl h)
    · exact .inl (.inr (.inl h))
    · rcases h2 with h2 | h2 | h2
      · refine .inl (.inr (.inr fun e => ?_))
        have := has_zero k
        rw [← e, has_and, has_or, h1, h2] at this
        simp at this
      · refine .inl (.inr (.inr fun e => ?_))
        have := has_zero k
        rw [← e, has_and, has_or, h1, h2] at this
        simp at this
      · exact .inr ⟨k, mem_lst.2 h1, decide_eq_true h2⟩
end Go.Proofs.YteldeiihjeddoaaDoor
namespace Go.Proofs.YteldeiihjeddoaaDoor
open Go.RowKit Go.Shelf
theorem bit_eqS (s : B) (a : Nat) : ((un ((s >>> a) &&& 1#64) : Int) == 1) = has s a := by
  have h := bit_zero s a
  have h1 : un (s >>> a &&& 1#64) < 2 := by
    unfold un; rw [BitVec.toNat_and]; exact Nat.lt_of_le_of_lt Nat.and_le_right (by decide)
  cases hh : has s a <;> rw [hh] at h
  · have : (un (s >>> a &&& 1#64) : Int) = 0 := by simpa using h
    rw [this]; rfl
  · have : ¬ (un (s >>> a &&& 1#64) : Int) = 0 := by simpa using h
    have h2 : (un (s >>> a &&& 1#64) : Int) = 1 := by omega
    rw [h2]; rfl
set_option maxHeartbeats 8000000 in
set_option maxRecDepth 100000 in
theorem sset_ok (v u : Value) (g : GD) (x : SD) (hR : Right g x) (o : List Nat) (hK : KOrd (rws g) o 0#64) (pr q2 : Option Addr) (cr d2 : Nat) (w : World) (h : GrAt w v g) (hx : SnAt w u x) (hRA : RowsAt w pr g.names.length (rws g)) (hO : Reads w w.heap.size 1 q2 o.length (ints o)) (hT : Tab w) :
    Calls Tryd.prog 46 #[v, u, .slice pr g.names.length cr, .slice q2 o.length d2] w fun e w' => (∃ s : B, e = .returned (.int .u64 (un s)) ∧ Stale g x s) ∧ Below w.heap.size w w' := by
  obtain ⟨p, n, c, q, m, d, rfl, hN, hE⟩ := h.at_
  obtain ⟨p2, n2, c2, rfl, hx1, hx2, hx3⟩ := hx.at_
  have hln := hN.at_.len
  have hlm := hE.len
  subst hln hlm hx1
  have hbn := hN.at_.big
  have hbm := hE.big
  have h64 := hR.good.names
  have hol : o.length ≤ 64 := kord_len (valid_rws hR.good) hK
  obtain ⟨W, hW⟩ : ∃ W, W = (w.alloc (.cells #[.slice p g.names.length c, .slice q g.edges.length d, .int .u64 (un g.phony : Int), .int .u64 (un g.made : Int)] 26)).alloc (.cells #[.slice p2 x.at_.length c2, .int .u64 (un x.dirty : Int)] 29) := ⟨_, rfl⟩
  have hBW : Below w.heap.size w W := by rw [hW]; exact ((Below.refl _ _).alloc (Nat.le_refl _) _).alloc (by simp) _
  have HS : Hid (w.heap.size + 1 < W.heap.size) := by show _ < _; rw [hW]; simp
  have HS0 : Hid (w.heap.size < W.heap.size) := by show _ < _; rw [hW]; simp; omega
  have HC : Hid (∀ u : World, Below W.heap.size W u → u.cell? ⟨w.heap.size, 0, none⟩ = some (.slice p g.names.length c) ∧ u.cell? ⟨w.heap.size, 1, none⟩ = some (.slice q g.edges.length d) ∧ u.cell? ⟨w.heap.size, 2, none⟩ = some (.int .u64 (un g.phony : Int)) ∧ u.cell? ⟨w.heap.size, 3, none⟩ = some (.int .u64 (un g.made : Int)) ∧
      u.cell? ⟨w.heap.size + 1, 0, none⟩ = some (.slice p2 x.at_.length c2) ∧ u.cell? ⟨w.heap.size + 1, 1, none⟩ = some (.int .u64 (un x.dirty : Int))) := by
    show ∀ u : World, _ → _
    intro u hu
    rw [hu.cell HS0.out, hu.cell HS0.out, hu.cell HS0.out, hu.cell HS0.out, hu.cell HS.out, hu.cell HS.out, hW]
    refine ⟨?_, ?_, ?_, ?_, ?_, ?_⟩
    all_goals first
      | (rw [World.cell?_alloc_lt _ _ _ (by simp), World.cell?_alloc_at _ _ _ _ rfl]; rfl)
      | (rw [World.cell?_alloc_at _ _ _ _ (by simp)]; rfl)
  have HXR : Hid (Reads W W.heap.size 1 p2 x.at_.length (iv x.at_)) := by show Reads _ _ _ _ _ _; exact (hx2.below hBW).more hBW.size
  have HOR : Hid (Reads W W.heap.size 1 q2 o.length (ints o)) := by show Reads _ _ _ _ _ _; exact (hO.below hBW).more hBW.size
  have HRA := Lib.hid (hRA.below hBW)
  have HT := Lib.hid (hT.below hBW)
  have HFIN : Hid (∀ u, Below W.heap.size W u → Below w.heap.size w u) := by show ∀ u, _; exact fun u hu => hBW.trans (hu.mono (Nat.le_of_lt HS0.out))
  have HR := Lib.hid hR
  have HK := Lib.hid hK
  have HXL := Lib.hid hR.len
  obtain ⟨ol, hol2⟩ : ∃ ol, ol = o.length := ⟨_, rfl⟩
  have HOL := Lib.hid hol2
  rw [← hol2] at HOR hol ⊢
  clear hN hE hBW h hx hx2 hT hRA hO hR hK hol2
  go_enter Tryd.func46, Tryd.ntmps46
  go_wp2
  rw [← hW]
  clear hW
  go_loopw [17, 9] (fun i so wr => ∃ (k : Nat) (s : B), k ≤ ol ∧ i = .int .i64 k ∧ so = .int .u64 (un s : Int) ∧ Hid (SInv g x o k s) ∧ Hid (Below W.heap.size W wr)) (fun i _ _ => ol - (intOf i).toNat)
  case atStart => exact ⟨0, 0#64, Nat.zero_le _, rfl, rfl, sinv_nil g x o, show Below _ _ _ from Below.refl _ _⟩
  case round =>
    obtain ⟨k, s, hk, rfl, rfl, HI, HW⟩ := hrel
    by_cases hlt : k < ol
    · obtain ⟨k0, k1, k2, k3, k4, k5⟩ := HC.out wr HW.out
      have hko : k < o.length := by rw [← HOL.out]; exact hlt
      have HORr : Hid (Reads wr wr.heap.size 1 q2 ol (ints o)) := by show Reads _ _ _ _ _ _; exact (HOR.out.below HW.out).more HW.out.size
      obtain ⟨ad, rfl, _, hon⟩ := HORr.out.int_at hlt
      have hnn : o.getD k 0 = o[k] := by rw [List.getD_eq_getElem?_getD, List.getElem?_eq_getElem hko]; rfl
      have hnN : o[k] < g.names.length := by have := HK.out.lt o[k] (List.getElem_mem hko); rwa [rws_len] at this
      have HNext : Hid (∀ (C : Bool), (C = true ↔ has (g.made ||| g.phony) o[k] = true ∧ Why g x s o[k]) → SInv g x o (k + 1) (if C = true then s ||| 1#64 <<< o[k] else s)) := by
        show ∀ C : Bool, _
        exact fun C hC => sinv_step HK.out hko HI.out rfl hC (by omega)
      rw [hnn] at hon
      generalize o[k] = n at *
      clear hnn hko
      have hmz := bit_zero (g.made ||| g.phony) n
      cases hm : has (g.made ||| g.phony) n
      · rw [hm] at hmz
        have HN1 := Lib.hid (HNext.out false ⟨fun h => (by cases h), fun h => (by rw [hm] at h; cases h.1)⟩)
        clear hm
        go_wp2
        go_roundw
        case rel => exact ⟨k + 1, s, by omega, by go_num, rfl, by have := HN1.out; rw [if_neg (by decide)] at this; exact this, HW⟩
        case measure => simp [intOf]; omega
      · rw [hm] at hmz
        have HM := Lib.hid hm
        clear hm
        have hat : ∃ ada, p2 = some ada ∧ wr.cell? (ada.add n) = some (.int .i64 (x.at_.getD n 0)) := by
          obtain ⟨ada, e, _, h2⟩ := iv_at ((HXR.out.below HW.out).more HW.out.size) (show n < x.at_.length by have := HXL.out; omega)
          exact ⟨ada, e, h2⟩
        obtain ⟨ada, rfl, hat⟩ := hat
        obtain ⟨adr, rfl, _, hrow⟩ := (HRA.out.below HW.out).cell hnN
        have hi1 : (n : Int) < (x.at_.length : Int) := by have := HXL.out; omega
        have hi2 : (n : Int) < (g.names.length : Int) := by omega
        have hbp := bit_eqS g.phony n
        obtain ⟨t, ht⟩ : ∃ t, x.at_.getD n 0 = t := ⟨_, rfl⟩
        obtain ⟨R, hRw⟩ : ∃ R, row (rws g) n = R := ⟨_, rfl⟩
        rw [ht] at hat
        rw [hRw] at hrow
        have HTN := Lib.hid ht
        have hc64 := cnt_le R
        have HRN := Lib.hid hRw
        have HTw := Lib.hid (HT.out.belowB (Tab.lt HT.out) HW.out)
        have HAn : Hid (anew1 g x s n = (decide (t < 0) || (has g.phony n || decide (R &&& (x.dirty ||| s) ≠ 0#64)))) := by
          show _ = _
          unfold anew1; rw [ht, hRw]
        clear ht hRw
        by_cases t1 : t < 0
        · have HA1 : Hid (anew1 g x s n = true) := by show _ = _; rw [HAn.out, decide_eq_true t1]; rfl
          clear HAn hbp
          go_wp2
          go_quiet (fail)
          go_wp2_with (go_at_call 37; refine (List_ok R _ (show Tab _ from HT.out.belowB (Tab.lt HT.out) (below_drawsP HW.out _))).mono ?_; rintro e w3 ⟨gl, cl, rfl, hownl, hb2⟩; have HLr := Lib.hid (Reads.of_own hownl); have HB3 := Lib.hid ((below_drawsP HW.out _).trans (hb2.mono HW.out.size)); clear hownl hb2)
          clear k0 k1 k2 k3 k4 k5 hat hrow hon
          go_loopw [62, 12] (fun j an wi => ∃ jj : Nat, jj ≤ cnt R ∧ j = .int .i64 jj ∧ an = .bool (anew2 g x s n jj) ∧ Hid (∃ q, wi = w3.drewN q)) (fun j _ _ => cnt R - (intOf j).toNat)
          case atStart => exact ⟨0, Nat.zero_le _, rfl, by rw [anew2_zero, HA1.out], show ∃ q, w3 = w3.drewN q from ⟨0, rfl⟩⟩
          case round =>
            obtain ⟨jj, hjj, rfl, rfl, HWi⟩ := hrel
            have HBi : Hid (Below W.heap.size W wr) := by
              show Below _ _ _
              obtain ⟨q, hq⟩ := HWi.out
              rw [hq]; exact below_drawsP HB3.out q
            obtain ⟨k0, k1, k2, k3, k4, k5⟩ := HC.out wr HBi.out
            by_cases hjl : jj < cnt R
            · have HLi : Hid (Reads wr wr.heap.size 1 gl (cnt R) (ints (lst R))) := by
                show Reads _ _ _ _ _ _
                obtain ⟨q, hq⟩ := HWi.out
                rw [hq]; exact HLr.out
              obtain ⟨adl, rfl, _, hlc⟩ := HLi.out.int_at hjl
              have hjl2 : jj < (lst (row (rws g) n)).length := by rw [HRN.out, ← cnt_lst]; exact hjl
              have HA2 := Lib.hid (anew2_next (g := g) (x := x) (s := s) hjl2)
              rw [HRN.out, HTN.out] at HA2
              have hkN : (lst R).getD jj 0 < g.names.length := by
                have hjl3 : jj < (lst R).length := by rw [← HRN.out]; exact hjl2
                have hm : (lst R).getD jj 0 ∈ lst R := by rw [List.getD_eq_getElem?_getD, List.getElem?_eq_getElem hjl3]; exact List.getElem_mem hjl3
                have := (valid_rws HR.out.good).2 n _ (by rw [HRN.out]; exact mem_lst.1 hm)
                rwa [rws_len] at this
              have hat2 : wr.cell? (ada.add n) = some (.int .i64 t) ∧ wr.cell? (ada.add ((lst R).getD jj 0)) = some (.int .i64 (x.at_.getD ((lst R).getD jj 0) 0)) := by
                have hxr : Reads wr wr.heap.size 1 (some ada) x.at_.length (iv x.at_) := (HXR.out.below HBi.out).more HBi.out.size
                obtain ⟨a1, e1, _, h1⟩ := iv_at hxr (show n < x.at_.length by have := HXL.out; omega)
                obtain ⟨a2, e2, _, h2⟩ := iv_at hxr (show (lst R).getD jj 0 < x.at_.length by have := HXL.out; omega)
                injection e1 with e1
                injection e2 with e2
                subst e1 e2
                rw [HTN.out] at h1
                exact ⟨h1, h2⟩
              obtain ⟨hat3, hat4⟩ := hat2
              have hi3 : (((lst R).getD jj 0 : Nat) : Int) < (x.at_.length : Int) := by have := HXL.out; omega
              clear hjl2 hkN
              generalize (lst R).getD jj 0 = kk at *
              generalize x.at_.getD kk 0 = tk at *
              have HWn : Hid (∀ k : Nat, ∃ q, wr.drewN k = w3.drewN q) := by
                show ∀ k : Nat, _
                intro k
                obtain ⟨q, hq⟩ := HWi.out
                exact ⟨q + k, by rw [hq, drewN_add]⟩
              cases ha2 : anew2 g x s n jj
              · rw [ha2, Bool.false_or] at HA2
                clear ha2
                by_cases htk : t < tk
                · have HA3 : Hid (anew2 g x s n (jj + 1) = true) := by show _ = _; rw [HA2.out]; exact decide_eq_true htk
                  clear HA2
                  go_wp2
                  go_quiet (fail)
                  go_wp2
                  go_roundw
                  case rel => exact ⟨jj + 1, by omega, by go_num, by rw [HA3.out], HWn.out _⟩
                  case measure => simp [intOf]; omega
                · have HA3 : Hid (anew2 g x s n (jj + 1) = false) := by show _ = _; rw [HA2.out]; exact decide_eq_false htk
                  have hdd : decide (t < tk) = false := decide_eq_false htk
                  clear HA2 htk
                  go_wp2
                  go_quiet (fail)
                  go_wp2
                  go_roundw
                  case rel => exact ⟨jj + 1, by omega, by go_num, by rw [HA3.out], HWn.out _⟩
                  case measure => simp [intOf]; omega
              · rw [ha2, Bool.true_or] at HA2
                clear ha2
                go_wp2
                go_quiet (fail)
                go_wp2
                go_roundw
                case rel => exact ⟨jj + 1, by omega, by go_num, by rw [HA2.out], HWn.out _⟩
                case measure => simp [intOf]; omega
            · obtain rfl : jj = cnt R := by omega
              have HWhy : Hid (anew2 g x s n (cnt R) = true ↔ has (g.made ||| g.phony) n = true ∧ Why g x s n) := by
                show _ ↔ _
                have := anew2_why (g := g) (x := x) (s := s) (n := n)
                rw [HRN.out, ← cnt_lst] at this
                rw [this]
                exact ⟨fun h => ⟨HM.out, h⟩, fun h => h.2⟩
              have HN1 := Lib.hid (HNext.out _ HWhy.out)
              clear HWhy
              cases ha2 : anew2 g x s n (cnt R)
              · rw [ha2, if_neg (by decide)] at HN1
                clear ha2
                go_wp2
                go_roundw
                case rel => exact ⟨k + 1, s, by omega, by go_num, rfl, HN1.out, HBi⟩
                case measure => simp [intOf]; omega
              · rw [ha2, if_pos rfl] at HN1
                clear ha2
                go_wp2
                go_roundw
                case rel => exact ⟨k + 1, _, by omega, by go_num, rfl, HN1.out, HBi⟩
                case measure => simp [intOf]; omega
        have hd1 : decide (t < 0) = false := decide_eq_false t1
        cases hph : has g.phony n
        · rw [hph] at hbp
          by_cases hcz : R &&& (x.dirty ||| s) = 0#64
          · have HA1 : Hid (anew1 g x s n = false) := by show _ = _; rw [HAn.out, hd1, hph, decide_eq_false (fun h => h hcz)]; rfl
            have hcc : (((un (R &&& (x.dirty ||| s)) : Nat) : Int) != 0) = false := by rw [hcz]; rfl
            clear HAn hph hcz t1
            go_wp2
            go_quiet (fail)
            go_wp2_with (go_at_call 37; refine (List_ok R _ (show Tab _ from HT.out.belowB (Tab.lt HT.out) (below_drawsP HW.out _))).mono ?_; rintro e w3 ⟨gl, cl, rfl, hownl, hb2⟩; have HLr := Lib.hid (Reads.of_own hownl); have HB3 := Lib.hid ((below_drawsP HW.out _).trans (hb2.mono HW.out.size)); clear hownl hb2)
            clear k0 k1 k2 k3 k4 k5 hat hrow hon
            go_loopw [62, 12] (fun j an wi => ∃ jj : Nat, jj ≤ cnt R ∧ j = .int .i64 jj ∧ an = .bool (anew2 g x s n jj) ∧ Hid (∃ q, wi = w3.drewN q)) (fun j _ _ => cnt R - (intOf j).toNat)
            case atStart => exact ⟨0, Nat.zero_le _, rfl, by rw [anew2_zero, HA1.out], show ∃ q, w3 = w3.drewN q from ⟨0, rfl⟩⟩
            case round =>
              obtain ⟨jj, hjj, rfl, rfl, HWi⟩ := hrel
              have HBi : Hid (Below W.heap.size W wr) := by
                show Below _ _ _
                obtain ⟨q, hq⟩ := HWi.out
                rw [hq]; exact below_drawsP HB3.out q
              obtain ⟨k0, k1, k2, k3, k4, k5⟩ := HC.out wr HBi.out
              by_cases hjl : jj < cnt R
              · have HLi : Hid (Reads wr wr.heap.size 1 gl (cnt R) (ints (lst R))) := by
                  show Reads _ _ _ _ _ _
                  obtain ⟨q, hq⟩ := HWi.out
                  rw [hq]; exact HLr.out
                obtain ⟨adl, rfl, _, hlc⟩ := HLi.out.int_at hjl
                have hjl2 : jj < (lst (row (rws g) n)).length := by rw [HRN.out, ← cnt_lst]; exact hjl
                have HA2 := Lib.hid (anew2_next (g := g) (x := x) (s := s) hjl2)
                rw [HRN.out, HTN.out] at HA2
                have hkN : (lst R).getD jj 0 < g.names.length := by
                  have hjl3 : jj < (lst R).length := by rw [← HRN.out]; exact hjl2
                  have hm : (lst R).getD jj 0 ∈ lst R := by rw [List.getD_eq_getElem?_getD, List.getElem?_eq_getElem hjl3]; exact List.getElem_mem hjl3
                  have := (valid_rws HR.out.good).2 n _ (by rw [HRN.out]; exact mem_lst.1 hm)
                  rwa [rws_len] at this
                have hat2 : wr.cell? (ada.add n) = some (.int .i64 t) ∧ wr.cell? (ada.add ((lst R).getD jj 0)) = some (.int .i64 (x.at_.getD ((lst R).getD jj 0) 0)) := by
                  have hxr : Reads wr wr.heap.size 1 (some ada) x.at_.length (iv x.at_) := (HXR.out.below HBi.out).more HBi.out.size
                  obtain ⟨a1, e1, _, h1⟩ := iv_at hxr (show n < x.at_.length by have := HXL.out; omega)
                  obtain ⟨a2, e2, _, h2⟩ := iv_at hxr (show (lst R).getD jj 0 < x.at_.length by have := HXL.out; omega)
                  injection e1 with e1
                  injection e2 with e2
                  subst e1 e2
                  rw [HTN.out] at h1
                  exact ⟨h1, h2⟩
                obtain ⟨hat3, hat4⟩ := hat2
                have hi3 : (((lst R).getD jj 0 : Nat) : Int) < (x.at_.length : Int) := by have := HXL.out; omega
                clear hjl2 hkN
                generalize (lst R).getD jj 0 = kk at *
                generalize x.at_.getD kk 0 = tk at *
                have HWn : Hid (∀ k : Nat, ∃ q, wr.drewN k = w3.drewN q) := by
                  show ∀ k : Nat, _
                  intro k
                  obtain ⟨q, hq⟩ := HWi.out
                  exact ⟨q + k, by rw [hq, drewN_add]⟩
                cases ha2 : anew2 g x s n jj
                · rw [ha2, Bool.false_or] at HA2
                  clear ha2
                  by_cases htk : t < tk
                  · have HA3 : Hid (anew2 g x s n (jj + 1) = true) := by show _ = _; rw [HA2.out]; exact decide_eq_true htk
                    clear HA2
                    go_wp2
                    go_quiet (fail)
                    go_wp2
                    go_roundw
                    case rel => exact ⟨jj + 1, by omega, by go_num, by rw [HA3.out], HWn.out _⟩
                    case measure => simp [intOf]; omega
                  · have HA3 : Hid (anew2 g x s n (jj + 1) = false) := by show _ = _; rw [HA2.out]; exact decide_eq_false htk
                    have hdd : decide (t < tk) = false := decide_eq_false htk
                    clear HA2 htk
                    go_wp2
                    go_quiet (fail)
                    go_wp2
                    go_roundw
                    case rel => exact ⟨jj + 1, by omega, by go_num, by rw [HA3.out], HWn.out _⟩
                    case measure => simp [intOf]; omega
                · rw [ha2, Bool.true_or] at HA2
                  clear ha2
                  go_wp2
                  go_quiet (fail)
                  go_wp2
                  go_roundw
                  case rel => exact ⟨jj + 1, by omega, by go_num, by rw [HA2.out], HWn.out _⟩
                  case measure => simp [intOf]; omega
              · obtain rfl : jj = cnt R := by omega
                have HWhy : Hid (anew2 g x s n (cnt R) = true ↔ has (g.made ||| g.phony) n = true ∧ Why g x s n) := by
                  show _ ↔ _
                  have := anew2_why (g := g) (x := x) (s := s) (n := n)
                  rw [HRN.out, ← cnt_lst] at this
                  rw [this]
                  exact ⟨fun h => ⟨HM.out, h⟩, fun h => h.2⟩
                have HN1 := Lib.hid (HNext.out _ HWhy.out)
                clear HWhy
                cases ha2 : anew2 g x s n (cnt R)
                · rw [ha2, if_neg (by decide)] at HN1
                  clear ha2
                  go_wp2
                  go_roundw
                  case rel => exact ⟨k + 1, s, by omega, by go_num, rfl, HN1.out, HBi⟩
                  case measure => simp [intOf]; omega
                · rw [ha2, if_pos rfl] at HN1
                  clear ha2
                  go_wp2
                  go_roundw
                  case rel => exact ⟨k + 1, _, by omega, by go_num, rfl, HN1.out, HBi⟩
                  case measure => simp [intOf]; omega
          · have HA1 : Hid (anew1 g x s n = true) := by show _ = _; rw [HAn.out, hd1, hph, decide_eq_true hcz]; rfl
            have hcc : (((un (R &&& (x.dirty ||| s)) : Nat) : Int) != 0) = true := by
              rw [bne_iff_ne]
              intro e
              exact hcz (un_inj (by rw [show un 0#64 = 0 from rfl]; omega))
            clear HAn hph hcz t1
            go_wp2
            go_quiet (fail)
            go_wp2_with (go_at_call 37; refine (List_ok R _ (show Tab _ from HT.out.belowB (Tab.lt HT.out) (below_drawsP HW.out _))).mono ?_; rintro e w3 ⟨gl, cl, rfl, hownl, hb2⟩; have HLr := Lib.hid (Reads.of_own hownl); have HB3 := Lib.hid ((below_drawsP HW.out _).trans (hb2.mono HW.out.size)); clear hownl hb2)
            clear k0 k1 k2 k3 k4 k5 hat hrow hon
            go_loopw [62, 12] (fun j an wi => ∃ jj : Nat, jj ≤ cnt R ∧ j = .int .i64 jj ∧ an = .bool (anew2 g x s n jj) ∧ Hid (∃ q, wi = w3.drewN q)) (fun j _ _ => cnt R - (intOf j).toNat)
            case atStart => exact ⟨0, Nat.zero_le _, rfl, by rw [anew2_zero, HA1.out], show ∃ q, w3 = w3.drewN q from ⟨0, rfl⟩⟩
            case round =>
              obtain ⟨jj, hjj, rfl, rfl, HWi⟩ := hrel
              have HBi : Hid (Below W.heap.size W wr) := by
                show Below _ _ _
                obtain ⟨q, hq⟩ := HWi.out
                rw [hq]; exact below_drawsP HB3.out q
              obtain ⟨k0, k1, k2, k3, k4, k5⟩ := HC.out wr HBi.out
              by_cases hjl : jj < cnt R
              · have HLi : Hid (Reads wr wr.heap.size 1 gl (cnt R) (ints (lst R))) := by
                  show Reads _ _ _ _ _ _
                  obtain ⟨q, hq⟩ := HWi.out
                  rw [hq]; exact HLr.out
                obtain ⟨adl, rfl, _, hlc⟩ := HLi.out.int_at hjl
                have hjl2 : jj < (lst (row (rws g) n)).length := by rw [HRN.out, ← cnt_lst]; exact hjl
                have HA2 := Lib.hid (anew2_next (g := g) (x := x) (s := s) hjl2)
                rw [HRN.out, HTN.out] at HA2
                have hkN : (lst R).getD jj 0 < g.names.length := by
                  have hjl3 : jj < (lst R).length := by rw [← HRN.out]; exact hjl2
                  have hm : (lst R).getD jj 0 ∈ lst R := by rw [List.getD_eq_getElem?_getD, List.getElem?_eq_getElem hjl3]; exact List.getElem_mem hjl3
                  have := (valid_rws HR.out.good).2 n _ (by rw [HRN.out]; exact mem_lst.1 hm)
                  rwa [rws_len] at this
                have hat2 : wr.cell? (ada.add n) = some (.int .i64 t) ∧ wr.cell? (ada.add ((lst R).getD jj 0)) = some (.int .i64 (x.at_.getD ((lst R).getD jj 0) 0)) := by
                  have hxr : Reads wr wr.heap.size 1 (some ada) x.at_.length (iv x.at_) := (HXR.out.below HBi.out).more HBi.out.size
                  obtain ⟨a1, e1, _, h1⟩ := iv_at hxr (show n < x.at_.length by have := HXL.out; omega)
                  obtain ⟨a2, e2, _, h2⟩ := iv_at hxr (show (lst R).getD jj 0 < x.at_.length by have := HXL.out; omega)
                  injection e1 with e1
                  injection e2 with e2
                  subst e1 e2
                  rw [HTN.out] at h1
                  exact ⟨h1, h2⟩
                obtain ⟨hat3, hat4⟩ := hat2
                have hi3 : (((lst R).getD jj 0 : Nat) : Int) < (x.at_.length : Int) := by have := HXL.out; omega
                clear hjl2 hkN
                generalize (lst R).getD jj 0 = kk at *
                generalize x.at_.getD kk 0 = tk at *
                have HWn : Hid (∀ k : Nat, ∃ q, wr.drewN k = w3.drewN q) := by
                  show ∀ k : Nat, _
                  intro k
                  obtain ⟨q, hq⟩ := HWi.out
                  exact ⟨q + k, by rw [hq, drewN_add]⟩
                cases ha2 : anew2 g x s n jj
                · rw [ha2, Bool.false_or] at HA2
                  clear ha2
                  by_cases htk : t < tk
                  · have HA3 : Hid (anew2 g x s n (jj + 1) = true) := by show _ = _; rw [HA2.out]; exact decide_eq_true htk
                    clear HA2
                    go_wp2
                    go_quiet (fail)
                    go_wp2
                    go_roundw
                    case rel => exact ⟨jj + 1, by omega, by go_num, by rw [HA3.out], HWn.out _⟩
                    case measure => simp [intOf]; omega
                  · have HA3 : Hid (anew2 g x s n (jj + 1) = false) := by show _ = _; rw [HA2.out]; exact decide_eq_false htk
                    have hdd : decide (t < tk) = false := decide_eq_false htk
                    clear HA2 htk
                    go_wp2
                    go_quiet (fail)
                    go_wp2
                    go_roundw
                    case rel => exact ⟨jj + 1, by omega, by go_num, by rw [HA3.out], HWn.out _⟩
                    case measure => simp [intOf]; omega
                · rw [ha2, Bool.true_or] at HA2
                  clear ha2
                  go_wp2
                  go_quiet (fail)
                  go_wp2
                  go_roundw
                  case rel => exact ⟨jj + 1, by omega, by go_num, by rw [HA2.out], HWn.out _⟩
                  case measure => simp [intOf]; omega
              · obtain rfl : jj = cnt R := by omega
                have HWhy : Hid (anew2 g x s n (cnt R) = true ↔ has (g.made ||| g.phony) n = true ∧ Why g x s n) := by
                  show _ ↔ _
                  have := anew2_why (g := g) (x := x) (s := s) (n := n)
                  rw [HRN.out, ← cnt_lst] at this
                  rw [this]
                  exact ⟨fun h => ⟨HM.out, h⟩, fun h => h.2⟩
                have HN1 := Lib.hid (HNext.out _ HWhy.out)
                clear HWhy
                cases ha2 : anew2 g x s n (cnt R)
                · rw [ha2, if_neg (by decide)] at HN1
                  clear ha2
                  go_wp2
                  go_roundw
                  case rel => exact ⟨k + 1, s, by omega, by go_num, rfl, HN1.out, HBi⟩
                  case measure => simp [intOf]; omega
                · rw [ha2, if_pos rfl] at HN1
                  clear ha2
                  go_wp2
                  go_roundw
                  case rel => exact ⟨k + 1, _, by omega, by go_num, rfl, HN1.out, HBi⟩
                  case measure => simp [intOf]; omega
        · rw [hph] at hbp
          have HA1 : Hid (anew1 g x s n = true) := by show _ = _; rw [HAn.out, hd1, hph]; rfl
          clear HAn hph t1
          go_wp2
          go_quiet (fail)
          go_wp2_with (go_at_call 37; refine (List_ok R _ (show Tab _ from HT.out.belowB (Tab.lt HT.out) (below_drawsP HW.out _))).mono ?_; rintro e w3 ⟨gl, cl, rfl, hownl, hb2⟩; have HLr := Lib.hid (Reads.of_own hownl); have HB3 := Lib.hid ((below_drawsP HW.out _).trans (hb2.mono HW.out.size)); clear hownl hb2)
          clear k0 k1 k2 k3 k4 k5 hat hrow hon
          go_loopw [62, 12] (fun j an wi => ∃ jj : Nat, jj ≤ cnt R ∧ j = .int .i64 jj ∧ an = .bool (anew2 g x s n jj) ∧ Hid (∃ q, wi = w3.drewN q)) (fun j _ _ => cnt R - (intOf j).toNat)
          case atStart => exact ⟨0, Nat.zero_le _, rfl, by rw [anew2_zero, HA1.out], show ∃ q, w3 = w3.drewN q from ⟨0, rfl⟩⟩
          case round =>
            obtain ⟨jj, hjj, rfl, rfl, HWi⟩ := hrel
            have HBi : Hid (Below W.heap.size W wr) := by
              show Below _ _ _
              obtain ⟨q, hq⟩ := HWi.out
              rw [hq]; exact below_drawsP HB3.out q
            obtain ⟨k0, k1, k2, k3, k4, k5⟩ := HC.out wr HBi.out
            by_cases hjl : jj < cnt R
            · have HLi : Hid (Reads wr wr.heap.size 1 gl (cnt R) (ints (lst R))) := by
                show Reads _ _ _ _ _ _
                obtain ⟨q, hq⟩ := HWi.out
                rw [hq]; exact HLr.out
              obtain ⟨adl, rfl, _, hlc⟩ := HLi.out.int_at hjl
              have hjl2 : jj < (lst (row (rws g) n)).length := by rw [HRN.out, ← cnt_lst]; exact hjl
              have HA2 := Lib.hid (anew2_next (g := g) (x := x) (s := s) hjl2)
              rw [HRN.out, HTN.out] at HA2
              have hkN : (lst R).getD jj 0 < g.names.length := by
                have hjl3 : jj < (lst R).length := by rw [← HRN.out]; exact hjl2
                have hm : (lst R).getD jj 0 ∈ lst R := by rw [List.getD_eq_getElem?_getD, List.getElem?_eq_getElem hjl3]; exact List.getElem_mem hjl3
                have := (valid_rws HR.out.good).2 n _ (by rw [HRN.out]; exact mem_lst.1 hm)
                rwa [rws_len] at this
              have hat2 : wr.cell? (ada.add n) = some (.int .i64 t) ∧ wr.cell? (ada.add ((lst R).getD jj 0)) = some (.int .i64 (x.at_.getD ((lst R).getD jj 0) 0)) := by
                have hxr : Reads wr wr.heap.size 1 (some ada) x.at_.length (iv x.at_) := (HXR.out.below HBi.out).more HBi.out.size
                obtain ⟨a1, e1, _, h1⟩ := iv_at hxr (show n < x.at_.length by have := HXL.out; omega)
                obtain ⟨a2, e2, _, h2⟩ := iv_at hxr (show (lst R).getD jj 0 < x.at_.length by have := HXL.out; omega)
                injection e1 with e1
                injection e2 with e2
                subst e1 e2
                rw [HTN.out] at h1
                exact ⟨h1, h2⟩
              obtain ⟨hat3, hat4⟩ := hat2
              have hi3 : (((lst R).getD jj 0 : Nat) : Int) < (x.at_.length : Int) := by have := HXL.out; omega
              clear hjl2 hkN
              generalize (lst R).getD jj 0 = kk at *
              generalize x.at_.getD kk 0 = tk at *
              have HWn : Hid (∀ k : Nat, ∃ q, wr.drewN k = w3.drewN q) := by
                show ∀ k : Nat, _
                intro k
                obtain ⟨q, hq⟩ := HWi.out
                exact ⟨q + k, by rw [hq, drewN_add]⟩
              cases ha2 : anew2 g x s n jj
              · rw [ha2, Bool.false_or] at HA2
                clear ha2
                by_cases htk : t < tk
                · have HA3 : Hid (anew2 g x s n (jj + 1) = true) := by show _ = _; rw [HA2.out]; exact decide_eq_true htk
                  clear HA2
                  go_wp2
                  go_quiet (fail)
                  go_wp2
                  go_roundw
                  case rel => exact ⟨jj + 1, by omega, by go_num, by rw [HA3.out], HWn.out _⟩
                  case measure => simp [intOf]; omega
                · have HA3 : Hid (anew2 g x s n (jj + 1) = false) := by show _ = _; rw [HA2.out]; exact decide_eq_false htk
                  have hdd : decide (t < tk) = false := decide_eq_false htk
                  clear HA2 htk
                  go_wp2
                  go_quiet (fail)
                  go_wp2
                  go_roundw
                  case rel => exact ⟨jj + 1, by omega, by go_num, by rw [HA3.out], HWn.out _⟩
                  case measure => simp [intOf]; omega
              · rw [ha2, Bool.true_or] at HA2
                clear ha2
                go_wp2
                go_quiet (fail)
                go_wp2
                go_roundw
                case rel => exact ⟨jj + 1, by omega, by go_num, by rw [HA2.out], HWn.out _⟩
                case measure => simp [intOf]; omega
            · obtain rfl : jj = cnt R := by omega
              have HWhy : Hid (anew2 g x s n (cnt R) = true ↔ has (g.made ||| g.phony) n = true ∧ Why g x s n) := by
                show _ ↔ _
                have := anew2_why (g := g) (x := x) (s := s) (n := n)
                rw [HRN.out, ← cnt_lst] at this
                rw [this]
                exact ⟨fun h => ⟨HM.out, h⟩, fun h => h.2⟩
              have HN1 := Lib.hid (HNext.out _ HWhy.out)
              clear HWhy
              cases ha2 : anew2 g x s n (cnt R)
              · rw [ha2, if_neg (by decide)] at HN1
                clear ha2
                go_wp2
                go_roundw
                case rel => exact ⟨k + 1, s, by omega, by go_num, rfl, HN1.out, HBi⟩
                case measure => simp [intOf]; omega
              · rw [ha2, if_pos rfl] at HN1
                clear ha2
                go_wp2
                go_roundw
                case rel => exact ⟨k + 1, _, by omega, by go_num, rfl, HN1.out, HBi⟩
                case measure => simp [intOf]; omega
    · obtain rfl : k = ol := by omega
      have HSt : Hid (Stale g x s) := by show Stale g x s; exact sinv_all HK.out (by rw [← HOL.out]; exact HI.out)
      go_wp2
      go_ret
      exact ⟨⟨s, rfl, HSt.out⟩, HFIN.out _ HW.out⟩
end Go.Proofs.YteldeiihjeddoaaDoor
namespace Go.Proofs.YteldeiihjeddoaaDoor
open Go.RowKit Go.Shelf
/-- the world in which a call has laid its graph and what is seen of it -/
theorem args2 (w : World) (v0 v1 v2 v3 v4 v5 : Value) : ∃ W, W = (w.alloc (.cells #[v0, v1, v2, v3] 26)).alloc (.cells #[v4, v5] 29) ∧ Below w.heap.size w W ∧ W.heap.size = w.heap.size + 2 ∧
    ∀ u : World, Below W.heap.size W u → u.cell? ⟨w.heap.size, 0, none⟩ = some v0 ∧ u.cell? ⟨w.heap.size, 1, none⟩ = some v1 ∧ u.cell? ⟨w.heap.size, 2, none⟩ = some v2 ∧ u.cell? ⟨w.heap.size, 3, none⟩ = some v3 ∧ u.cell? ⟨w.heap.size + 1, 0, none⟩ = some v4 ∧ u.cell? ⟨w.heap.size + 1, 1, none⟩ = some v5 := by
  obtain ⟨W, hW⟩ : ∃ W, W = (w.alloc (.cells #[v0, v1, v2, v3] 26)).alloc (.cells #[v4, v5] 29) := ⟨_, rfl⟩
  have hs : w.heap.size + 1 < W.heap.size := by rw [hW]; simp
  have hs0 : w.heap.size < W.heap.size := by omega
  refine ⟨W, hW, by rw [hW]; exact ((Below.refl _ _).alloc (Nat.le_refl _) _).alloc (by simp) _, by rw [hW]; simp, fun u hu => ?_⟩
  rw [hu.cell hs0, hu.cell hs0, hu.cell hs0, hu.cell hs0, hu.cell hs, hu.cell hs, hW]
  refine ⟨?_, ?_, ?_, ?_, ?_, ?_⟩
  all_goals first
    | (rw [World.cell?_alloc_lt _ _ _ (by simp), World.cell?_alloc_at _ _ _ _ rfl]; rfl)
    | (rw [World.cell?_alloc_at _ _ _ _ (by simp)]; rfl)
/-- what Set answers -/
def SSet (w : World) (g : GD) (x : SD) (e : Ending) (w' : World) : Prop :=
  ((Right g x ∧ ∃ (s : B) (o : List Nat), KOrd (rws g) o 0#64 ∧ Stale g x s ∧ e = .returned (.tuple #[.int .u64 (un s), .int .i64 0])) ∨
    (¬ Fit g x ∧ ∃ E : Int, E ≠ 0 ∧ e = .returned (.tuple #[.int .u64 0, .int .i64 E]))) ∧ Below w.heap.size w w'
set_option maxHeartbeats 2000000 in
theorem Set_ok (v u : Value) (g : GD) (x : SD) (w : World) (h : GrAt w v g) (hx : SnAt w u x) (hT : Tab w) : Calls Tryd.prog 15 #[v, u] w (SSet w g x) := by
  have hGr := h
  have hSn := hx
  obtain ⟨p, n, c, q, m, d, rfl, _, _⟩ := h.at_
  obtain ⟨p2, n2, c2, rfl, _, _, _⟩ := hx.at_
  obtain ⟨W, hW, hBW, hS, hC⟩ := args2 w (.slice p n c) (.slice q m d) (.int .u64 (un g.phony : Int)) (.int .u64 (un g.made : Int)) (.slice p2 n2 c2) (.int .u64 (un x.dirty : Int))
  have HC := Lib.hid hC
  have HGr := Lib.hid (hGr.below hBW)
  have HSn := Lib.hid (hSn.below hBW)
  have HT := Lib.hid (hT.below hBW)
  have HFIN : Hid (∀ u, Below W.heap.size W u → Below w.heap.size w u) := by show ∀ u, _; exact fun u hu => hBW.trans (hu.mono (by omega))
  obtain ⟨k0, k1, k2, k3, k4, k5⟩ := HC.out W (Below.refl _ _)
  rw [hW] at k0 k1 k2 k3 k4 k5
  clear h hx hGr hSn hT hBW hS hC
  go_enter Tryd.func15, Tryd.ntmps15
  go_wp2_with fail
  rw [← hW]
  clear hW k0 k1 k2 k3 k4 k5
  refine (scheck_ok _ _ g x W HGr.out HSn.out HT.out).mono ?_
  rintro e w2 ⟨hcase, hb2⟩
  have HB2 := Lib.hid hb2
  obtain ⟨k0, k1, k2, k3, k4, k5⟩ := HC.out w2 hb2
  clear hb2
  rcases hcase with ⟨hR, pr, qo, cr, co, o, hK, rfl, hRA, hO⟩ | ⟨hnf, E, hE0, rfl⟩
  · have HR := Lib.hid hR
    have HK := Lib.hid hK
    have HRA := Lib.hid hRA
    have HO := Lib.hid hO
    obtain ⟨ol, hol⟩ : ∃ ol, ol = o.length := ⟨_, rfl⟩
    have HOL := Lib.hid hol
    rw [← hol] at HO ⊢
    clear hR hK hRA hO hol
    go_wp2_with fail
    have hol := HOL.out
    subst hol
    refine (sset_ok _ _ g x HR.out o HK.out pr qo cr co w2 (HGr.out.below HB2.out) (HSn.out.below HB2.out) HRA.out HO.out (HT.out.belowB (Tab.lt HT.out) HB2.out)).mono ?_
    rintro e w3 ⟨⟨s, rfl, hS⟩, hb3⟩
    have HS := Lib.hid hS
    have HB3 := Lib.hid (HB2.out.trans (hb3.mono HB2.out.size))
    clear hS hb3
    go_wp2
    go_ret2
    exact ⟨.inl ⟨HR.out, s, o, HK.out, HS.out, rfl⟩, HFIN.out _ HB3.out⟩
  · obtain ⟨i1, i2⟩ := int_ne' hE0
    have HNF := Lib.hid hnf
    clear hnf
    go_wp2
    go_ret2
    exact ⟨.inr ⟨HNF.out, E, hE0, rfl⟩, HFIN.out _ HB2.out⟩
/-- what Only answers -/
def SOnly (w : World) (g : GD) (x : SD) (a : B) (e : Ending) (w' : World) : Prop :=
  ((Fit g x ∧ chks (rws g) [a] = 0 ∧ ∃ s : B, Stale g x s ∧ e = .returned (.tuple #[.int .u64 (un (cls (rws g) a &&& s)), .int .i64 0])) ∨
    (¬ (Fit g x ∧ chks (rws g) [a] = 0) ∧ ∃ E : Int, E ≠ 0 ∧ e = .returned (.tuple #[.int .u64 0, .int .i64 E]))) ∧ Below w.heap.size w w'
set_option maxHeartbeats 2000000 in
theorem Only_ok (v u : Value) (g : GD) (x : SD) (a : B) (w : World) (h : GrAt w v g) (hx : SnAt w u x) (hT : Tab w) : Calls Tryd.prog 17 #[v, u, .int .u64 (un a : Int)] w (SOnly w g x a) := by
  have hGr := h
  have hSn := hx
  obtain ⟨p, n, c, q, m, d, rfl, _, _⟩ := h.at_
  obtain ⟨p2, n2, c2, rfl, _, _, _⟩ := hx.at_
  obtain ⟨W, hW, hBW, hS, hC⟩ := args2 w (.slice p n c) (.slice q m d) (.int .u64 (un g.phony : Int)) (.int .u64 (un g.made : Int)) (.slice p2 n2 c2) (.int .u64 (un x.dirty : Int))
  have HC := Lib.hid hC
  have HGr := Lib.hid (hGr.below hBW)
  have HSn := Lib.hid (hSn.below hBW)
  have HT := Lib.hid (hT.below hBW)
  have HFIN : Hid (∀ u, Below W.heap.size W u → Below w.heap.size w u) := by show ∀ u, _; exact fun u hu => hBW.trans (hu.mono (by omega))
  obtain ⟨k0, k1, k2, k3, k4, k5⟩ := HC.out W (Below.refl _ _)
  rw [hW] at k0 k1 k2 k3 k4 k5
  clear h hx hGr hSn hT hBW hS hC
  go_enter Tryd.func17, Tryd.ntmps17
  go_wp2_with fail
  rw [← hW]
  clear hW k0 k1 k2 k3 k4 k5
  refine (scheck_ok _ _ g x W HGr.out HSn.out HT.out).mono ?_
  rintro e w2 ⟨hcase, hb2⟩
  have HB2 := Lib.hid hb2
  obtain ⟨k0, k1, k2, k3, k4, k5⟩ := HC.out w2 hb2
  clear hb2
  rcases hcase with ⟨hR, pr, qo, cr, co, o, hK, rfl, hRA, hO⟩ | ⟨hnf, E, hE0, rfl⟩
  · have HR := Lib.hid hR
    have HK := Lib.hid hK
    have HRA := Lib.hid hRA
    have HO := Lib.hid hO
    have HT2 := Lib.hid (HT.out.belowB (Tab.lt HT.out) HB2.out)
    obtain ⟨ol, hol⟩ : ∃ ol, ol = o.length := ⟨_, rfl⟩
    have HOL := Lib.hid hol
    rw [← hol] at HO ⊢
    clear hR hK hRA hO hol
    by_cases hch : chks (rws g) [a] = 0
    · have HCH := Lib.hid hch
      clear hch
      go_wp2_with (go_at_call 23; refine (From_yes pr g.names.length cr (rws g) a HCH.out w2 HRA.out HT2.out).mono ?_; rintro e w4 ⟨rfl, hb4⟩; have HB4 := Lib.hid (HB2.out.trans (hb4.mono HB2.out.size)); have HB24 := Lib.hid hb4; obtain ⟨l0, l1, l2, l3, l4, l5⟩ := HC.out w4 HB4.out; clear hb4 k0 k1 k2 k3 k4 k5)
      have hol := HOL.out
      subst hol
      refine (sset_ok _ _ g x HR.out o HK.out pr qo cr co w4 (HGr.out.below HB4.out) (HSn.out.below HB4.out) (HRA.out.below HB24.out) ((HO.out.below HB24.out).more HB24.out.size) (HT2.out.belowB (Tab.lt HT2.out) HB24.out)).mono ?_
      rintro e w3 ⟨⟨s, rfl, hS⟩, hb3⟩
      have HS := Lib.hid hS
      have HB3 := Lib.hid (HB4.out.trans (hb3.mono HB4.out.size))
      clear hS hb3
      go_wp2
      go_ret2
      exact ⟨.inl ⟨⟨HR.out, o, HK.out⟩, HCH.out, s, HS.out, rfl⟩, HFIN.out _ HB3.out⟩
    · obtain ⟨i1, i2⟩ := int_ne hch
      have HCH := Lib.hid hch
      clear hch
      go_wp2_with (go_at_call 23; refine (From_no pr g.names.length cr (rws g) a HCH.out w2 HRA.out).mono ?_; rintro e w4 ⟨rfl, hb4⟩; have HB4 := Lib.hid (HB2.out.trans (hb4.mono HB2.out.size)); clear hb4 k0 k1 k2 k3 k4 k5)
      go_ret2
      exact ⟨.inr ⟨fun h => HCH.out h.2, _, HCH.out, rfl⟩, HFIN.out _ HB4.out⟩
  · obtain ⟨i1, i2⟩ := int_ne' hE0
    have HNF := Lib.hid hnf
    clear hnf
    go_wp2
    go_ret2
    exact ⟨.inr ⟨fun h => HNF.out h.1, E, hE0, rfl⟩, HFIN.out _ HB2.out⟩
end Go.Proofs.YteldeiihjeddoaaDoor
