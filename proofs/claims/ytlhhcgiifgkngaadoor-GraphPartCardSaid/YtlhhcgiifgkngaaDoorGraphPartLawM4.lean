/- Texts joined: StaleP, UsersP, NthP, PartP, Typed, Box4W. Conditions: theirs. -/
import Derived.Test.YtlhhcgiifgkngaaDoorGraphRowsW
import Derived.Test.YtlhhcgiifgkngaaDoorGraphPartLawM3
import Derived.Test.YtlhhcgiifgkngaaDoorUsersP0
import Derived.Test.YtlhhcgiifgkngaaDoorOf
import Derived.Laws.OwnMore
import Derived.Maps.AppendAt
import Derived.Test.YtlhhcgiifgkngaaDoorProg
import Derived.Test.YtlhhcgiifgkngaaDoorGraphCheckW
import Derived.Deep.Onto
import Derived.Sort.Row
namespace Go.Proofs.YtlhhcgiifgkngaaDoor
open Go.RowKit
/-- what is seen of a graph -/
structure SD where
  at_ : List Int
  dirty : B
def iv (l : List Int) : List Value := l.map (Value.int .i64)
/-- it as the call can read it -/
structure SnAt (w : World) (v : Value) (x : SD) : Prop where
  at_ : ∃ (p : Option Addr) (n c : Nat), v = .agg #[.slice p n c, .int .u64 (un x.dirty : Int)] ∧ x.at_.length = n ∧ Reads w w.heap.size 1 p n (iv x.at_) ∧ n ≤ 17592186044416
theorem SnAt.below {w w' : World} {v : Value} {x : SD} (h : SnAt w v x) (hb : Below w.heap.size w w') : SnAt w' v x := by
  obtain ⟨p, n, c, h1, h2, h3, h4⟩ := h.at_
  exact ⟨p, n, c, h1, h2, (h3.below hb).more hb.size, h4⟩
theorem iv_at {w : World} {b n : Nat} {p : Option Addr} {l : List Int} (h : Reads w b 1 p n (iv l)) {k : Nat} (hk : k < n) : ∃ ad, p = some ad ∧ ad.block < b ∧ w.cell? (ad.add k) = some (.int .i64 (l.getD k 0)) := by
  obtain ⟨ad, u, rfl, hb, hu, hc⟩ := h.at_ hk
  refine ⟨ad, rfl, hb, ?_⟩
  have hl : k < l.length := by have := h.1; simp [iv] at this; omega
  rw [hc, ← hu]
  unfold iv
  rw [List.getElem?_map, List.getD_eq_getElem?_getD, List.getElem?_eq_getElem hl]
  rfl
def rws (g : GD) : List B := rowsE g.names.length g.edges
theorem rws_len (g : GD) : (rws g).length = g.names.length := rowsE_len _ _
theorem row_rws {g : GD} {a : Nat} (h : a < g.names.length) : row (rws g) a = rowE g.edges a := rowsE_get _ h
theorem has_rws {g : GD} (hg : Good g) {a b : Nat} : has (row (rws g) a) b = true ↔ ((a : Int), (b : Int)) ∈ g.edges := by
  constructor
  · intro h
    have ha : a < g.names.length := by have := row_lt h; rwa [rws_len] at this
    have hb := has_lt h
    rw [row_rws ha, has_rowE hb (fun x hx => ⟨(hg.edges x hx).2.2.1, by have := (hg.edges x hx).2.2.2; have := hg.names; omega⟩)] at h
    exact of_decide_eq_true h
  · intro h
    have h1 := hg.edges _ h
    have ha : a < g.names.length := by have := h1.2.1; simp only at this; omega
    have hb : b < 64 := by have := h1.2.2.2; have := hg.names; simp only at *; omega
    rw [row_rws ha, has_rowE hb (fun x hx => ⟨(hg.edges x hx).2.2.1, by have := (hg.edges x hx).2.2.2; have := hg.names; omega⟩)]
    exact decide_eq_true h
theorem valid_rws {g : GD} (hg : Good g) : Valid (rws g) := by
  refine ⟨by rw [rws_len]; exact hg.names, fun i k h => ?_⟩
  rw [rws_len]
  have := hg.edges _ ((has_rws hg).1 h)
  have := this.2.2.2
  simp only at this
  omega
/-- why a number is stale, where s tells of the others -/
def Why (g : GD) (x : SD) (s : B) (n : Nat) : Prop :=
  x.at_.getD n 0 < 0 ∨ has g.phony n = true ∨ ∃ k, has (row (rws g) n) k = true ∧ (has x.dirty k = true ∨ has s k = true ∨ x.at_.getD n 0 < x.at_.getD k 0)
/-- the stale numbers -/
def Stale (g : GD) (x : SD) (s : B) : Prop := ∀ n, has s n = true ↔ n < g.names.length ∧ has (g.made ||| g.phony) n = true ∧ Why g x s n
/-- what stale.check lets pass -/
structure Right (g : GD) (x : SD) : Prop where
  good : Good g
  len : x.at_.length = g.names.length
  range : ∀ n, n < g.names.length → -1 ≤ x.at_.getD n 0 ∧ x.at_.getD n 0 ≤ 1099511627776
  dirty : ∀ k, has x.dirty k = true → k < g.names.length
  there : ∀ n, n < g.names.length → x.at_.getD n 0 < 0 → has (g.made ||| g.phony) n = true
/-- right, and without a cycle -/
def Fit (g : GD) (x : SD) : Prop := Right g x ∧ ∃ o, KOrd (rws g) o 0#64
/-- along an order, one more dirty set makes no less stale -/
theorem stale_more {g : GD} {x y : SD} {s t : B} {o : List Nat} (ho : KOrd (rws g) o 0#64) (hat : x.at_ = y.at_) (hd : ∀ k, has x.dirty k = true → has y.dirty k = true) (hs : Stale g x s) (ht : Stale g y t) : s &&& ~~~t = 0#64 := by
  have key : ∀ i, i ≤ o.length → ∀ n ∈ o.take i, has s n = true → has t n = true := by
    intro i
    induction i with
    | zero => intro _ n hn; simp at hn
    | succ i ih =>
      intro hi n hn hsn
      rw [List.take_succ_eq_append_getElem (by omega)] at hn
      rcases List.mem_append.1 hn with hn | hn
      · exact ih (by omega) n hn hsn
      · have hne : n = o[i] := List.mem_singleton.1 hn
        obtain ⟨h1, h2, h3⟩ := (hs n).1 hsn
        refine (ht n).2 ⟨h1, h2, ?_⟩
        rcases h3 with h3 | h3 | ⟨k, h3, h4⟩
        · exact .inl (by rw [← hat]; exact h3)
        · exact .inr (.inl h3)
        · refine .inr (.inr ⟨k, h3, ?_⟩)
          rcases h4 with h4 | h4 | h4
          · exact .inl (hd k h4)
          · have hk := ho.needs i (by omega) k (by rw [← hne]; exact h3)
            exact .inr (.inl (ih (by omega) k hk h4))
          · exact .inr (.inr (by rw [← hat]; exact h4))
  refine eq_zero_iff.2 fun n => ?_
  rw [Bool.eq_false_iff]
  intro h
  have hn := has_lt h
  rw [has_and, has_not _ _ hn, Bool.and_eq_true] at h
  have hlt := ((hs n).1 h.1).1
  have hmem : n ∈ o := by
    have hiff := ho.left_iff n
    rw [has_zero, rws_len] at hiff
    by_cases hm : n ∈ o
    · exact hm
    · exact absurd (hiff.2 ⟨hlt, hm⟩) (by simp)
  have := key o.length (Nat.le_refl _) n (by rw [List.take_length]; exact hmem) h.1
  rw [this] at h
  simp at h
end Go.Proofs.YtlhhcgiifgkngaaDoor
namespace Go.Proofs.YtlhhcgiifgkngaaDoor
theorem row_map {l : List B} {m : B} {v u : Nat} (h : has (row (l.map fun y => y &&& m) v) u = true) : has (row l v) u = true ∧ has m u = true := by
  have hv := row_lt h
  rw [List.length_map] at hv
  unfold row at h
  rw [List.getD_eq_getElem?_getD, List.getElem?_map, List.getElem?_eq_getElem hv] at h
  simp only [Option.map_some, Option.getD_some] at h
  rw [has_and, Bool.and_eq_true] at h
  unfold row
  rw [List.getD_eq_getElem?_getD, List.getElem?_eq_getElem hv]
  exact h
/-- the rows of those that are made, the other way -/
def upR (g : GD) (ts : List E2) : List B := (rowsE g.names.length ts).map fun y => y &&& (g.made ||| g.phony)
theorem upR_len (g : GD) (ts : List E2) : (upR g ts).length = g.names.length := by unfold upR; rw [List.length_map, rowsE_len]
theorem upR_edge {g : GD} {ts : List E2} (hG : Good g) (ht : TurnOf g.edges ts) {v u : Nat} (h : has (row (upR g ts) v) u = true) :
    u < g.names.length ∧ has (g.made ||| g.phony) u = true ∧ has (row (rws g) u) v = true := by
  obtain ⟨h1, h2⟩ := row_map h
  have hT := good_turn hG ht
  have h3 : ((v : Int), (u : Int)) ∈ ts := (has_rws hT).1 h1
  have h4 : ((u : Int), (v : Int)) ∈ g.edges := (ht.mem _).1 h3
  have h5 := hG.edges _ h4
  have := h5.2.1
  simp only at this
  exact ⟨by omega, h2, (has_rws hG).2 h4⟩
theorem valid_upR {g : GD} {ts : List E2} (hG : Good g) (ht : TurnOf g.edges ts) : Valid (upR g ts) :=
  ⟨by rw [upR_len]; exact hG.names, fun i k h => by rw [upR_len]; exact (upR_edge hG ht h).1⟩
theorem users_stale {g : GD} {ts : List E2} {x : SD} {s : B} {n : Nat} (hG : Good g) (ht : TurnOf g.edges ts) (hs : Stale g x s) (hn : has x.dirty n = true) : cls (upR g ts) (row (upR g ts) n) &&& ~~~s = 0#64 := by
  have key : ∀ u, has (cls (upR g ts) (row (upR g ts) n)) u = true → has s u = true := by
    intro u hu
    obtain ⟨a, ha, hr⟩ := has_cls.1 hu
    induction hr with
    | refl =>
      obtain ⟨h1, h2, h3⟩ := upR_edge hG ht ha
      exact (hs _).2 ⟨h1, h2, .inr (.inr ⟨n, h3, .inl hn⟩)⟩
    | tail hab e ih =>
      obtain ⟨h1, h2, h3⟩ := upR_edge hG ht e
      exact (hs _).2 ⟨h1, h2, .inr (.inr ⟨_, h3, .inr (.inl (ih (has_cls.2 ⟨a, ha, hab⟩)))⟩)⟩
  refine eq_zero_iff.2 fun k => ?_
  rw [Bool.eq_false_iff]
  intro h
  rw [has_and, Bool.and_eq_true] at h
  rw [has_not _ _ (has_lt h.1), key k h.1] at h
  simp at h
end Go.Proofs.YtlhhcgiifgkngaaDoor
namespace Go.Proofs.YtlhhcgiifgkngaaDoor
/-- the i-th number of a set -/
def nthN (s : B) (i : Nat) : Nat := (lst s).getD i 0
theorem nth_mem {s : B} {i : Nat} (h : i < (lst s).length) : has s (nthN s i) = true := by
  unfold nthN
  rw [List.getD_eq_getElem?_getD, List.getElem?_eq_getElem h]
  exact mem_lst.1 (List.getElem_mem h)
theorem nth_lt {s : B} {i j : Nat} (hij : i < j) (hj : j < (lst s).length) : nthN s i < nthN s j := by
  unfold nthN
  rw [List.getD_eq_getElem?_getD, List.getElem?_eq_getElem (by omega), List.getD_eq_getElem?_getD, List.getElem?_eq_getElem hj]
  exact List.pairwise_iff_getElem.1 (lst_sorted s) i j (by omega) hj hij
theorem rnk_nthN {s : B} {i : Nat} (h : i < (lst s).length) : rnk s (nthN s i) = i := by
  unfold nthN
  rw [List.getD_eq_getElem?_getD, List.getElem?_eq_getElem h]
  exact rnk_nth s i h
theorem exists_nth {s : B} {a : Nat} (h : has s a = true) : ∃ i, i < (lst s).length ∧ nthN s i = a := by
  obtain ⟨i, hi, e⟩ := List.mem_iff_getElem.1 (mem_lst.2 h)
  exact ⟨i, hi, by unfold nthN; rw [List.getD_eq_getElem?_getD, List.getElem?_eq_getElem hi]; exact e⟩
theorem nth_rnk {s : B} {a : Nat} (h : has s a = true) : rnk s a < (lst s).length ∧ nthN s (rnk s a) = a := by
  obtain ⟨i, hi, rfl⟩ := exists_nth h
  rw [rnk_nthN hi]
  exact ⟨hi, rfl⟩
theorem rnk_lt {s : B} {a b : Nat} (ha : has s a = true) (hb : has s b = true) : rnk s a < rnk s b ↔ a < b := by
  obtain ⟨i, hi, rfl⟩ := exists_nth ha
  obtain ⟨j, hj, rfl⟩ := exists_nth hb
  rw [rnk_nthN hi, rnk_nthN hj]
  constructor
  · intro h; exact nth_lt h hj
  · intro h
    rcases Nat.lt_trichotomy i j with h1 | h1 | h1
    · exact h1
    · subst h1; omega
    · have := nth_lt h1 hi; omega
theorem rnk_inj {s : B} {a b : Nat} (ha : has s a = true) (hb : has s b = true) (h : rnk s a = rnk s b) : a = b := by
  have h1 := (nth_rnk ha).2
  have h2 := (nth_rnk hb).2
  rw [h] at h1
  omega
/-- a set squeezed to its places in another one: as far as k places -/
def sqTo (t s : B) : Nat → B
  | 0 => 0#64
  | k + 1 => sqTo t s k ||| ((t >>> nthN s k &&& 1#64) <<< k)
def sq (t s : B) : B := sqTo t s (cnt s)
theorem has_bitk (t : B) (n k i : Nat) (hk : k < 64) : has ((t >>> n &&& 1#64) <<< k) i = (decide (i = k) && has t n) := by
  unfold has
  rw [BitVec.getLsbD_shiftLeft, BitVec.getLsbD_and, BitVec.getLsbD_ushiftRight]
  rcases Nat.lt_trichotomy i k with h | h | h
  · simp [h, Nat.ne_of_lt h]
  · subst h; simp [hk]
  · rcases Nat.lt_or_ge i 64 with h64 | h64
    · have h1 : ¬ i < k := by omega
      have h2 : i ≠ k := by omega
      have h3 : (1#64).getLsbD (i - k) = false := by
        have := has_one 0 (i - k) (by omega)
        unfold has at this
        rw [show (1#64 <<< 0 : B) = 1#64 by simp] at this
        rw [this]; simp; omega
      simp [h1, h2, h3]
    · have h2 : i ≠ k := by omega
      simp [h2]; omega
theorem has_sqTo (t s : B) : ∀ (k i : Nat), k ≤ 64 → has (sqTo t s k) i = (decide (i < k) && has t (nthN s i))
  | 0, i, _ => by unfold sqTo; rw [has_zero]; simp
  | k + 1, i, hk => by
    unfold sqTo
    rw [has_or, has_sqTo t s k i (by omega), has_bitk _ _ _ _ (by omega)]
    by_cases h : i = k
    · subst h; simp
    · have : decide (i < k + 1) = decide (i < k) := by rw [decide_eq_decide]; omega
      rw [this, decide_eq_false h]; simp
theorem has_sq (t s : B) (i : Nat) : has (sq t s) i = (decide (i < (lst s).length) && has t (nthN s i)) := by
  unfold sq
  rw [has_sqTo t s _ i (cnt_le s), cnt_lst]
/-- two rising lists of the same numbers -/
theorem rise_ext : ∀ {l m : List Nat}, l.Pairwise (· < ·) → m.Pairwise (· < ·) → (∀ x, x ∈ l ↔ x ∈ m) → l = m
  | [], [], _, _, _ => rfl
  | [], y :: m, _, _, h => absurd ((h y).2 List.mem_cons_self) (by simp)
  | x :: l, [], _, _, h => absurd ((h x).1 List.mem_cons_self) (by simp)
  | x :: l, y :: m, hl, hm, h => by
    rw [List.pairwise_cons] at hl hm
    have hxy : x = y := by
      rcases List.mem_cons.1 ((h x).1 List.mem_cons_self) with e | e
      · exact e
      · rcases List.mem_cons.1 ((h y).2 List.mem_cons_self) with f | f
        · exact f.symm
        · have h1 := hl.1 y f
          have h2 := hm.1 x e
          omega
    subst hxy
    have : l = m := rise_ext hl.2 hm.2 fun z => by
      constructor
      · intro hzl
        rcases List.mem_cons.1 ((h z).1 (List.mem_cons_of_mem _ hzl)) with e | e
        · subst e; have := hl.1 _ hzl; omega
        · exact e
      · intro hzm
        rcases List.mem_cons.1 ((h z).2 (List.mem_cons_of_mem _ hzm)) with e | e
        · subst e; have := hm.1 _ hzm; omega
        · exact e
    rw [this]
/-- the numbers of both, by way of their places -/
theorem lst_and (s t : B) : lst (s &&& t) = (lst (sq t s)).map (nthN s) := by
  refine rise_ext (lst_sorted _) ?_ fun x => ?_
  · rw [List.pairwise_map]
    refine (lst_sorted (sq t s)).imp_of_mem fun {a b} ha hb h => nth_lt h ?_
    have := mem_lst.1 hb
    rw [has_sq, Bool.and_eq_true, decide_eq_true_iff] at this
    exact this.1
  · rw [mem_lst, has_and, Bool.and_eq_true, List.mem_map]
    constructor
    · rintro ⟨h1, h2⟩
      obtain ⟨i, hi, rfl⟩ := exists_nth h1
      exact ⟨i, mem_lst.2 (by rw [has_sq, decide_eq_true hi, h2]; rfl), rfl⟩
    · rintro ⟨i, hi, rfl⟩
      rw [mem_lst, has_sq, Bool.and_eq_true, decide_eq_true_iff] at hi
      exact ⟨nth_mem hi.1, hi.2⟩
theorem rnk_and {s t : B} {a : Nat} (ha : has s a = true) : rnk (s &&& t) a = rnk (sq t s) (rnk s a) := by
  rw [rnk_eq, rnk_eq, lst_and, List.filter_map, List.length_map]
  congr 1
  refine List.filter_congr fun i hi => ?_
  rw [mem_lst, has_sq, Bool.and_eq_true, decide_eq_true_iff] at hi
  show decide (nthN s i < a) = decide (i < rnk s a)
  rw [decide_eq_decide]
  have := rnk_lt (nth_mem hi.1) ha
  rw [rnk_nthN hi.1] at this
  exact this.symm
end Go.Proofs.YtlhhcgiifgkngaaDoor
namespace Go.Proofs.YtlhhcgiifgkngaaDoor
/-- a part of a graph -/
def partE (s : B) (x : E2) : E2 := ((rnk s x.1.toNat : Int), (rnk s x.2.toNat : Int))
def inE (s : B) (x : E2) : Bool := has s x.1.toNat && has s x.2.toNat
def partG (g : GD) (s : B) : GD := ⟨(lst s).map fun n => g.names.getD n ByteArray.empty, (g.edges.filter (inE s)).map (partE s), sq g.phony s, sq g.made s⟩
theorem part_len (g : GD) (s : B) : (partG g s).names.length = (lst s).length := by unfold partG; simp
theorem part_name {g : GD} {s : B} {i : Nat} (h : i < (lst s).length) : (partG g s).names.getD i ByteArray.empty = g.names.getD (nthN s i) ByteArray.empty := by
  unfold partG nthN
  simp only
  rw [List.getD_eq_getElem?_getD, List.getElem?_map, List.getElem?_eq_getElem h, List.getD_eq_getElem?_getD (l := lst s), List.getElem?_eq_getElem h]
  rfl
def InN (n : Nat) (s : B) : Prop := ∀ k, has s k = true → k < n
theorem sets_in {n : Nat} {s : B} : s &&& ~~~belowB n = 0#64 ↔ InN n s := by
  have := @inB_iff n s
  unfold inB at this
  rw [decide_eq_true_iff] at this
  exact this
theorem partE_elt {s : B} {x y : E2} {n : Nat} (hx : EIn n x) (hy : EIn n y) (ix : inE s x = true) (iy : inE s y = true) : elt (partE s x) (partE s y) ↔ elt x y := by
  obtain ⟨x1, x2⟩ := x
  obtain ⟨y1, y2⟩ := y
  unfold EIn at hx hy
  unfold inE at ix iy
  simp only [Bool.and_eq_true] at hx hy ix iy
  obtain ⟨a1, rfl⟩ := Int.eq_ofNat_of_zero_le hx.1
  obtain ⟨a2, rfl⟩ := Int.eq_ofNat_of_zero_le hx.2.2.1
  obtain ⟨b1, rfl⟩ := Int.eq_ofNat_of_zero_le hy.1
  obtain ⟨b2, rfl⟩ := Int.eq_ofNat_of_zero_le hy.2.2.1
  simp only [Int.toNat_natCast] at ix iy
  unfold partE elt
  simp only [Int.toNat_natCast]
  have h1 := rnk_lt ix.1 iy.1
  have h2 := rnk_lt ix.2 iy.2
  have h3 : rnk s a1 = rnk s b1 ↔ a1 = b1 := ⟨fun h => rnk_inj ix.1 iy.1 h, fun h => by rw [h]⟩
  omega
theorem part_rise {g : GD} (hG : Good g) (s : B) : ERise (partG g s).edges := by
  rw [erise_pair]
  unfold partG
  rw [List.pairwise_map]
  have h0 := (erise_pair.1 hG.erise).filter (inE s)
  refine h0.imp_of_mem fun {a b} ha hb h => ?_
  rw [List.mem_filter] at ha hb
  exact (partE_elt (hG.edges a ha.1) (hG.edges b hb.1) ha.2 hb.2).2 h
theorem good_part {g : GD} (hG : Good g) {s : B} (hs : InN g.names.length s) : Good (partG g s) := by
  have hl := part_len g s
  refine ⟨by rw [hl]; exact lst_len s, ?_, ?_, ?_, part_rise hG s, ?_⟩
  · intro j hj
    rw [hl] at hj
    rw [part_name hj]
    exact hG.ok _ (hs _ (nth_mem hj))
  · intro i j hij hj
    rw [hl] at hj
    rw [part_name (by omega), part_name hj]
    exact hG.rise _ _ (nth_lt hij hj) (hs _ (nth_mem hj))
  · intro x hx
    rw [hl]
    obtain ⟨y, hy, rfl⟩ := List.mem_map.1 hx
    rw [List.mem_filter] at hy
    unfold inE at hy
    rw [Bool.and_eq_true] at hy
    have h1 := (nth_rnk hy.2.1).1
    have h2 := (nth_rnk hy.2.2).1
    unfold partE EIn
    simp only
    omega
  · rw [hl, sets_in]
    intro k hk
    unfold partG at hk
    simp only at hk
    rw [has_or, Bool.or_eq_true, has_sq, has_sq, Bool.and_eq_true, Bool.and_eq_true, decide_eq_true_iff] at hk
    omega
theorem lst_below {n : Nat} (h : n ≤ 64) : lst (belowB n) = List.range n := by
  refine rise_ext (lst_sorted _) List.pairwise_lt_range fun x => ?_
  rw [mem_lst, List.mem_range]
  constructor
  · intro hx
    rw [has_below _ _ (has_lt hx)] at hx
    exact of_decide_eq_true hx
  · intro hx
    rw [has_below _ _ (by omega)]
    exact decide_eq_true hx
theorem nth_below {n i : Nat} (h : n ≤ 64) (hi : i < n) : nthN (belowB n) i = i := by
  unfold nthN
  rw [lst_below h, List.getD_eq_getElem?_getD, List.getElem?_range hi]; rfl
theorem rnk_below {n i : Nat} (h : n ≤ 64) (hi : i < n) : rnk (belowB n) i = i := by
  have := rnk_nthN (s := belowB n) (i := i) (by rw [lst_below h, List.length_range]; exact hi)
  rwa [nth_below h hi] at this
theorem sq_below {n : Nat} {t : B} (h : n ≤ 64) (ht : InN n t) : sq t (belowB n) = t := by
  refine eq_of_iff fun k => ?_
  rw [has_sq, lst_below h, List.length_range, Bool.and_eq_true, decide_eq_true_iff]
  constructor
  · rintro ⟨h1, h2⟩
    rwa [nth_below h h1] at h2
  · intro hk
    have := ht k hk
    exact ⟨this, by rw [nth_below h this]; exact hk⟩
theorem gd_ext {a b : GD} (h1 : a.names = b.names) (h2 : a.edges = b.edges) (h3 : a.phony = b.phony) (h4 : a.made = b.made) : a = b := by
  cases a; cases b; simp_all
theorem part_all {g : GD} (hG : Good g) : partG g (belowB g.names.length) = g := by
  have h64 := hG.names
  have hset := sets_in.1 hG.sets
  refine gd_ext ?_ ?_ ?_ ?_
  · unfold partG
    simp only
    rw [lst_below h64]
    apply List.ext_getElem
    · simp
    · intro i h1 h2
      simp [List.getD_eq_getElem?_getD, h2]
  · unfold partG
    simp only
    have hin : ∀ x ∈ g.edges, inE (belowB g.names.length) x = true ∧ partE (belowB g.names.length) x = x := by
      intro x hx
      obtain ⟨x1, x2⟩ := x
      have he := hG.edges _ hx
      unfold EIn at he
      simp only at he
      obtain ⟨a1, rfl⟩ := Int.eq_ofNat_of_zero_le he.1
      obtain ⟨a2, rfl⟩ := Int.eq_ofNat_of_zero_le he.2.2.1
      unfold inE partE
      simp only [Int.toNat_natCast]
      rw [has_below _ _ (by omega), has_below _ _ (by omega), rnk_below h64 (by omega), rnk_below h64 (by omega)]
      simp
      omega
    rw [List.filter_eq_self.2 fun x hx => (hin x hx).1]
    rw [List.map_congr_left fun x hx => (hin x hx).2]
    simp
  · exact sq_below h64 fun k hk => hset k (by rw [has_or, hk]; rfl)
  · exact sq_below h64 fun k hk => hset k (by rw [has_or, hk, Bool.or_true])
theorem sq_sq {t u s : B} : sq (sq u s) (sq t s) = sq u (s &&& t) := by
  refine eq_of_iff fun k => ?_
  have hl : (lst (s &&& t)).length = (lst (sq t s)).length := by rw [lst_and, List.length_map]
  rw [has_sq, has_sq, has_sq, hl]
  by_cases hk : k < (lst (sq t s)).length
  · have hn : nthN (s &&& t) k = nthN s (nthN (sq t s) k) := by
      unfold nthN
      rw [lst_and, List.getD_eq_getElem?_getD, List.getElem?_map, List.getElem?_eq_getElem hk, List.getD_eq_getElem?_getD (l := lst (sq t s)), List.getElem?_eq_getElem hk]
      rfl
    have hm := nth_mem hk
    rw [has_sq, Bool.and_eq_true, decide_eq_true_iff] at hm
    rw [hn]
    simp [hk, hm.1]
  · simp [hk]
theorem part_part {g : GD} {s t : B} : partG (partG g s) (sq t s) = partG g (s &&& t) := by
  refine gd_ext ?_ ?_ ?_ ?_
  · show (lst (sq t s)).map (fun n => (partG g s).names.getD n ByteArray.empty) = (lst (s &&& t)).map fun n => g.names.getD n ByteArray.empty
    rw [lst_and, List.map_map]
    refine List.map_congr_left fun i hi => ?_
    rw [mem_lst, has_sq, Bool.and_eq_true, decide_eq_true_iff] at hi
    exact part_name hi.1
  · show (((g.edges.filter (inE s)).map (partE s)).filter (inE (sq t s))).map (partE (sq t s)) = (g.edges.filter (inE (s &&& t))).map (partE (s &&& t))
    rw [List.filter_map, List.map_map, List.filter_filter]
    have hiff : ∀ x ∈ g.edges, ((inE (sq t s) ∘ partE s) x && inE s x) = inE (s &&& t) x := by
      intro x _
      unfold inE partE
      simp only [Function.comp, Int.toNat_natCast]
      rw [has_and, has_and]
      cases h1 : has s x.1.toNat <;> cases h2 : has s x.2.toNat
      · simp
      · simp
      · simp
      · have e1 := nth_rnk h1
        have e2 := nth_rnk h2
        rw [has_sq, has_sq, e1.2, e2.2, decide_eq_true e1.1, decide_eq_true e2.1]
        simp
    rw [List.filter_congr hiff]
    refine List.map_congr_left fun x hx => ?_
    rw [List.mem_filter] at hx
    have hi := hx.2
    unfold inE at hi
    rw [has_and, has_and] at hi
    simp only [Bool.and_eq_true] at hi
    unfold partE
    simp only [Function.comp, Int.toNat_natCast]
    rw [rnk_and hi.1.1, rnk_and hi.2.1]
  · exact sq_sq
  · exact sq_sq
theorem part_turn {g : GD} (hG : Good g) {ts : List E2} (ht : TurnOf g.edges ts) {s : B} : TurnOf (partG g s).edges (partG ⟨g.names, ts, g.phony, g.made⟩ s).edges := by
  refine ⟨part_rise (good_turn hG ht) s, fun x => ?_⟩
  unfold partG
  simp only [List.mem_map, List.mem_filter]
  constructor
  · rintro ⟨y, ⟨h1, h2⟩, rfl⟩
    exact ⟨swapE y, ⟨(ht.mem y).1 h1, by unfold inE at *; rw [Bool.and_comm]; exact h2⟩, rfl⟩
  · rintro ⟨y, ⟨h1, h2⟩, h3⟩
    refine ⟨swapE y, ⟨(ht.mem _).2 h1, by unfold inE at *; rw [Bool.and_comm]; exact h2⟩, ?_⟩
    rw [← swap_swap x, ← h3]
    rfl
end Go.Proofs.YtlhhcgiifgkngaaDoor
namespace Go.Proofs.YtlhhcgiifgkngaaDoor
open Go
/-- all cells of the block at which a slice begins are so -/
def AllC (w : World) (v : Value) (Pr : Value → Prop) : Prop := ∀ b, v.ownBlock = some b → ∃ cur t fr, w.heap[b]? = some (.cells cur t fr) ∧ ∀ u ∈ cur.toList, Pr u
theorem AllC.nil_ (w : World) (Pr : Value → Prop) : AllC w (.slice none 0 0) Pr := fun b h => by simp [Value.ownBlock] at h
theorem AllC.kept {w w' : World} {v : Value} {Pr : Value → Prop} {row : Option Nat} (h : AllC w v Pr) (hg : w.grownBy w' row) (hne : v.ownBlock = none ∨ v.ownBlock ≠ row) : AllC w' v Pr := fun b hb => by
  obtain ⟨cur, t, fr, h1, h2⟩ := h b hb
  refine ⟨cur, t, fr, ?_, h2⟩
  rw [hg.block b (Array.getElem?_eq_some_iff.1 h1).1 ?_]
  · exact h1
  · rcases hne with h3 | h3
    · rw [h3] at hb; cases hb
    · rw [← hb]; exact h3
theorem zero_all {z : Array Value} {n : Nat} {Pr : Value → Prop} (hz : ∀ u ∈ z.toList, Pr u) : ∀ u ∈ (Builtin.zeroCells z n).toList, Pr u := by
  intro u hu
  unfold Builtin.zeroCells at hu
  simp only [Array.toList_map, List.mem_map, Array.toList_range, List.mem_range] at hu
  obtain ⟨i, hi, rfl⟩ := hu
  have h0 : 0 < z.size := by
    rcases Nat.eq_zero_or_pos z.size with h | h
    · rw [h] at hi; simp at hi
    · exact h
  have hm := Nat.mod_lt i h0
  rw [getElem!_pos z _ hm]
  exact hz _ (by simp)
theorem append_all {P : Program} {w : World} {base : Nat} {t ty e : TypeId} {i : TypeInfo} {z : Value} (ht : P.underlying t = some (.slice e)) (hi : P.info? e = some i) (hz : i.zero = some z)
    {v : Value} {n : Nat} {xs : List Value} (hown : w.ownsRow base e i.size v n xs)
    {a : Addr} {m c : Nat} {news : List Value} (hl : news.length = m * i.size) (hnews : ∀ j u, news[j]? = some u → w.cell? (a.add j) = some u) (h1 : ∀ u ∈ news, u.oneCell' = true)
    (h63 : n + m ≤ maxLen) (hbytes : (n + m) * i.bytes ≤ 140737488355328) {Pr : Value → Prop} (pz : ∀ u ∈ z.cells.toList, Pr u) (pn : ∀ u ∈ news, Pr u) (hp : AllC w v Pr)
    {v' : Value} {w' : World} (hr : (Builtin.append_ #[t, t] ty #[v, .slice (some a) m c]).run P w = .ok v' w') : AllC w' v' Pr := by
  have hsmall : n + m ≤ 9223372036854775807 := by simp only [maxLen] at h63; omega
  have hall : ∀ l : List Value, (∀ u ∈ l, Pr u) → ∀ k, AllC (w.drew.alloc (.cells (l.toArray ++ news.toArray ++ Builtin.zeroCells z.cells k) e)) (.slice (some ⟨w.heap.size, 0, none⟩) (n + m) (grownCap w (n + m) 0 e)) Pr := by
    intro l hl k b hb
    have hb' : w.heap.size = b := by simpa [Value.ownBlock] using hb
    subst hb'
    refine ⟨_, _, _, heap_alloc_new w.drew _, fun u hu => ?_⟩
    simp only [Array.toList_append, List.mem_append] at hu
    rcases hu with (hu | hu) | hu
    · exact hl u hu
    · exact pn u hu
    · exact zero_all pz u hu
  rcases hown.2 with ⟨rfl, rfl⟩ | ⟨g, cap, cur, rfl, hbg, hg, hnc, hcm, hcs, htake⟩
  · by_cases hm : m = 0
    · subst hm
      have hn : news = [] := List.eq_nil_of_length_eq_zero (by simpa using hl)
      subst hn
      have h0 : (Builtin.append_ #[t, t] ty #[.slice none 0 0, .slice (some a) 0 c]).run P w = .ok (.slice none 0 0) w := by
        simp [Builtin.append_, run_underlying ht, sizeOf, typeInfo, hi, Builtin.lenOf, Builtin.firstCells, loadCells, loadCellsFrom]
      rw [h0] at hr
      injection hr with e1 e2
      subst e1 e2
      exact AllC.nil_ _ _
    · have h0 := run_append_nil (P := P) w t ty e i z ht hi hz a m c news hl hnews (by omega) (by omega) (by have hb := hbytes; simp only [Nat.zero_add] at hb; omega)
      rw [h0] at hr
      injection hr with e1 e2
      subst e1 e2
      intro b hb
      have hb' : w.heap.size = b := by simpa [Value.ownBlock] using hb
      subst hb'
      have := hall [] (fun u hu => by cases hu) (grownCap w m 0 e - m) w.heap.size (by simp [Value.ownBlock])
      simpa using this
  · have hcur : ∀ u ∈ cur.toList, Pr u := by
      obtain ⟨cur', t', fr', h2, h3⟩ := hp g (by simp [Value.ownBlock])
      rw [hg] at h2
      injection h2 with h2
      injection h2 with h2
      subst h2
      exact h3
    have hxs : ∀ u ∈ xs, Pr u := fun u hu => hcur u (by rw [← htake] at hu; exact List.mem_of_mem_take hu)
    by_cases hroom : n + m ≤ cap
    · have hfit : n * i.size + news.length ≤ cur.size := by rw [hl, hcs, ← Nat.add_mul]; exact Nat.mul_le_mul_right _ hroom
      have h0 := run_append_room (P := P) w t ty e i ht hi g n cap cur hg a m c news hl hnews h1 hroom hfit
      rw [h0] at hr
      injection hr with e1 e2
      subst e1 e2
      intro b hb
      have hb' : g = b := by simpa [Value.ownBlock] using hb
      subst hb'
      refine ⟨_, _, _, setRow_heap w g cur _ e _ hg, fun u hu => ?_⟩
      simp only [List.mem_append] at hu
      rcases hu with (hu | hu) | hu
      · exact hcur u (List.mem_of_mem_take hu)
      · exact pn u hu
      · exact hcur u (List.mem_of_mem_drop hu)
    · have holds : ∀ j u, xs[j]? = some u → w.cell? ((⟨g, 0, none⟩ : Addr).add j) = some u := hown.cells (g := g) rfl
      have h0 := run_append_grow (P := P) w t ty e i z ht hi hz ⟨g, 0, none⟩ n cap xs hown.1 holds a m c news hl hnews (by omega) (by omega) (growslice_fits (by omega) hbytes)
      rw [h0] at hr
      injection hr with e1 e2
      subst e1 e2
      intro b hb
      have hb' : w.heap.size = b := by simpa [Value.ownBlock] using hb
      subst hb'
      exact hall xs hxs _ w.heap.size (by simp [Value.ownBlock])
/-- append to a slice of the call's own, with what all its cells are -/
theorem wpList_append_all {P : Program} (w : World) {ops : Array Oper} {rest : List Oper} {o : Oper} {a : Act} {Q : Exit → Act → World → Prop} (hgd : o.guard = none) (s x : Operand) (t : TypeId)
    (ho : o.op = .call { callee := .builtin .append, args := #[s, x], argTypes := #[t, t] })
    (base : Nat) (e : TypeId) (i : TypeInfo) (z : Value) (size bytes : Nat) (ht : P.underlying t = some (.slice e)) (hi : P.info? e = some i) (hz : i.zero = some z) (hsize : i.size = size) (hby : i.bytes = bytes) (hzs : z.cells.size = size) (hsz : 0 < size)
    (v : Value) (n : Nat) (xs : List Value) (hs : a.eval s = v) (hown : w.ownsRow base e size v n xs)
    (ad : Addr) (m c : Nat) (news : List Value) (hx : a.eval x = .slice (some ad) m c) (hl : news.length = m * size) (hnews : ∀ j u, news[j]? = some u → w.cell? (ad.add j) = some u) (h1 : ∀ u ∈ news, u.oneCell' = true)
    (h63 : n + m ≤ maxLen) (hbytes : (n + m) * bytes ≤ 140737488355328) (hbase : base ≤ w.heap.size) (Pr : Value → Prop) (pz : ∀ u ∈ z.cells.toList, Pr u) (pn : ∀ u ∈ news, Pr u) (hp : AllC w v Pr)
    (h : ∀ v' w', w'.ownsRow base e size v' (n + m) (xs ++ news) → w.grownBy w' v.ownBlock → AllC w' v' Pr → (v'.ownBlock = v.ownBlock ∨ v'.ownBlock = some w.heap.size) → wpList P ops Q rest (a.put o.dst v') w') : wpList P ops Q (o :: rest) a w := by
  subst hsize
  subst hby
  refine wpList_plain hgd fun K hK => ?_
  obtain ⟨v', w', hr, h2, h3, _, h6⟩ := run_append_own_at (P := P) w base t o.type e i z i.size i.bytes ht hi hz rfl rfl hzs hsz v n xs hown ad m c news hl hnews h1 h63 hbytes hbase
  have h5 := append_all ht hi hz hown hl hnews h1 h63 hbytes pz pn hp hr
  unfold Oper.wp execOp
  simp only [ho, resolve, invoke, builtin, Sem.run_bind, Sem.run_pure, Result.andThen_ok, List.map_toArray, List.map_cons, List.map_nil, hs, hx, hr]
  exact hK _ _ (h v' w' h2 h3 h5 h6)
end Go.Proofs.YtlhhcgiifgkngaaDoor
namespace Go.Proofs.YtlhhcgiifgkngaaDoor
open Go.RowKit Go.Shelf Go.Sort
theorem hao (w : World) (o : Obj) (i : Nat) (h : i < w.heap.size) : (w.alloc o).heap[i]? = w.heap[i]? := by
  show (w.heap.push o)[i]? = w.heap[i]?
  rw [Array.getElem?_push, if_neg (Nat.ne_of_lt h)]
theorem han (w : World) (o : Obj) : (w.alloc o).heap[w.heap.size]? = some o := by
  show (w.heap.push o)[w.heap.size]? = some o
  simp
theorem han2 (w : World) (a b : Obj) : ((w.alloc a).alloc b).heap[w.heap.size + 1]? = some b := by
  have h := han (w.alloc a) b
  have e : (w.alloc a).heap.size = w.heap.size + 1 := by simp
  rwa [e] at h
theorem grown_set (w : World) (a : Addr) (u : Value) : w.grownBy (w.setCell a u) (some a.block) :=
  ⟨rfl, rfl, rfl, by simp, fun k _ hk => heap_setCell_other w a k u (fun e => hk (by rw [e]))⟩
/-- whoever grows behind a world, but for one block of it -/
theorem grown_step {W w w' : World} {row : Option Nat} {bx : Nat} (h : W.grownBy w (some bx)) (hg : w.grownBy w' row) (hr : ∀ k, row = some k → k = bx ∨ W.heap.size ≤ k) : W.grownBy w' (some bx) :=
  ⟨hg.os.trans h.os, hg.tape.trans h.tape, hg.output.trans h.output, Nat.le_trans h.size hg.size, fun k hk hne => by
    rw [hg.block k (Nat.lt_of_lt_of_le hk h.size) (fun e => by
      rcases hr k e.symm with h1 | h1
      · exact hne (by rw [h1])
      · omega), h.block k hk hne]⟩
theorem box4 {w : World} {b : Nat} {t : TypeId} {v0 v1 v2 v3 : Value} (h : w.heap[b]? = some (.cells #[v0, v1, v2, v3] t (0, 0))) :
    w.cell? ⟨b, 0, none⟩ = some v0 ∧ w.cell? ⟨b, 1, none⟩ = some v1 ∧ w.cell? ⟨b, 2, none⟩ = some v2 ∧ w.cell? ⟨b, 3, none⟩ = some v3 ∧ ∀ o, w.frozen? ⟨b, o, none⟩ = false := by
  refine ⟨?_, ?_, ?_, ?_, fun o => ?_⟩
  all_goals simp [World.cell?, World.frozen?, h]
theorem box4_set1 {w : World} {b : Nat} {t : TypeId} {v0 v1 v2 v3 : Value} (h : w.heap[b]? = some (.cells #[v0, v1, v2, v3] t (0, 0))) (u : Value) :
    (w.setCell ⟨b, 1, none⟩ u).heap[b]? = some (.cells #[v0, u, v2, v3] t (0, 0)) := by
  rw [setCell_eq]
  simp [mapBlock, onCells, Array.getElem?_modify, h]
theorem box4_all {w : World} {b : Nat} {t : TypeId} {v0 v1 v2 v3 : Value} (h : w.heap[b]? = some (.cells #[v0, v1, v2, v3] t (0, 0))) (u0 u1 u2 u3 : Value) :
    ((((w.setCell ⟨b, 0, none⟩ u0).setCell ⟨b, 1, none⟩ u1).setCell ⟨b, 2, none⟩ u2).setCell ⟨b, 3, none⟩ u3).heap[b]? = some (.cells #[u0, u1, u2, u3] t (0, 0)) := by
  simp only [setCell_eq]
  simp [mapBlock, onCells, Array.getElem?_modify, h]
theorem below_set4 {B b : Nat} {w w' : World} (h : Below B w w') (hb : B ≤ b) (u0 u1 u2 u3 : Value) :
    Below B w ((((w'.setCell ⟨b, 0, none⟩ u0).setCell ⟨b, 1, none⟩ u1).setCell ⟨b, 2, none⟩ u2).setCell ⟨b, 3, none⟩ u3) :=
  (((h.setCell hb _).setCell hb _).setCell hb _).setCell hb _
theorem own_formT {w : World} {base e n size : Nat} {v : Value} {xs : List Value} (h : w.ownsRow base e size v n xs) : ∃ (g : Option Addr) (c : Nat), v = .slice g n c ∧ ∀ b, v.ownBlock = some b → base ≤ b ∧ b < w.heap.size := by
  rcases h.2 with ⟨rfl, rfl⟩ | ⟨g, cap, cur, rfl, hb, hh, _⟩
  · exact ⟨none, 0, rfl, fun b hb => by cases hb⟩
  · exact ⟨_, cap, rfl, fun b hb' => h.lt b hb'⟩
theorem info_edge : (Tryd.prog.info? 43).map (fun i => (i.zero, i.size, i.bytes)) = some (some (.agg #[.int .i64 0, .int .i64 0]), 2, 16) := by kernel_rfl
theorem app_edge (w : World) {ops : Array Oper} {rest : List Oper} {o : Oper} {a : Act} {Q : Exit → Act → World → Prop} (hgd : o.guard = none) (s x : Operand)
    (ho : o.op = .call { callee := .builtin .append, args := #[s, x], argTypes := #[23, 23] })
    (base : Nat) (v : Value) (n : Nat) (xs : List E2) (hs : a.eval s = v) (hown : w.ownsRow base 43 2 v n (cells2 eF eG xs))
    (g : Nat) (y : E2) (hx : a.eval x = .slice (some ⟨g, 0, none⟩) 1 1) (hc0 : w.cell? ⟨g, 0, none⟩ = some (.int .i64 y.1)) (hc1 : w.cell? ⟨g, 1, none⟩ = some (.int .i64 y.2))
    (hn : n ≤ 8796093022207) (hbase : base ≤ w.heap.size)
    (h : ∀ v' w', w'.ownsRow base 43 2 v' (n + 1) (cells2 eF eG (xs ++ [y])) → w.grownBy w' v.ownBlock → wpList Tryd.prog ops Q rest (a.put o.dst v') w') : wpList Tryd.prog ops Q (o :: rest) a w := by
  obtain ⟨i0, hi, hz0, hz1, hz2⟩ := info_parts info_edge
  refine wpList_append_own w hgd s x 23 ho base 43 i0 _ 2 16 Tryd.underlying23 hi hz0 hz1 hz2 rfl (by decide) v n _ hs hown ⟨g, 0, none⟩ 1 1 [eF y, eG y] hx rfl ?_ ?_ (by unfold maxLen; omega) (by omega) hbase (fun v' w' h1 h2 _ => h v' w' ?_ h2)
  · intro j q hj
    match j, hj with
    | 0, hj => simp at hj; subst hj; simpa [Addr.add, eF] using hc0
    | 1, hj => simp at hj; subst hj; simpa [Addr.add, eG] using hc1
  · intro q hq; simp at hq; rcases hq with rfl | rfl <;> rfl
  · rw [cells2_append]; exact h1
theorem results_ct {P : Program} {fn : Func} {p u : Tmp} {ty : TypeId} (h : fn.results = #[.cell p ty, .tmp u]) (tmps : Array Value) (w : World) (g : Nat) (t : TypeId) (cs : Array Value) (fr : Nat × Nat) (d : TypeDesc) (x : Value)
    (hp : tmps.getD p undef = .pointer (some ⟨g, 0, none⟩)) (hx : tmps.getD u undef = x) (hg : w.heap[g]? = some (.cells cs t fr))
    (hu : P.underlying ty = some d) (hd : (match d with | .struct _ | .array _ _ => true | _ => false) = true) (hi : (P.info? ty).map (·.size) = some cs.size) :
    (results fn tmps).run P w = .ok (.tuple #[.agg cs, x]) w := by
  have hp' : tmps[p]?.getD undef = .pointer (some ⟨g, 0, none⟩) := by simpa using hp
  have hx' : tmps[u]?.getD undef = x := by simpa using hx
  rw [results_cell_tmp h]
  simp [hp', hx', asAddr, run_loadVar_row w g t ty cs fr d hg hu hd hi, Result.andThen]
end Go.Proofs.YtlhhcgiifgkngaaDoor
