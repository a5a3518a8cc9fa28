/- Texts joined: GraphP, Pairs, OrderW, GraphW, GraphCheckW. Conditions: theirs. -/
import Derived.Test.YteefncohknclcaaGreatDoorEvalAllWM1
import Derived.Test.YteefncohknclcaaGreatDoorMem
import Derived.Deep.SlicePairs
import Derived.WideShapes
import Derived.SizedLaws
import Derived.RegionTactic
import Derived.ChangeAlike
import Derived.Deep.QuietTactic
import Derived.BigQuiet
import Derived.StillTailTactics
namespace Go.Proofs.YteefncohknclcaaGreatDoor
abbrev E2 := Int × Int
/-- an edge ahead of another one -/
def elt (a b : E2) : Prop := a.1 < b.1 ∨ (a.1 = b.1 ∧ a.2 < b.2)
instance (a b : E2) : Decidable (elt a b) := inferInstanceAs (Decidable (_ ∨ _))
def EIn (n : Nat) (x : E2) : Prop := 0 ≤ x.1 ∧ x.1 < n ∧ 0 ≤ x.2 ∧ x.2 < n
def ERise (es : List E2) : Prop := ∀ i, i + 1 < es.length → elt (es.getD i (0, 0)) (es.getD (i + 1) (0, 0))
/-- a row with an edge more -/
def put1 (s : B) (a : Nat) (x : E2) : B := if x.1 = (a : Int) then s ||| (1#64 <<< x.2.toNat) else s
def rowE (es : List E2) (a : Nat) : B := es.foldl (fun s x => put1 s a x) 0#64
def rowsE (n : Nat) (es : List E2) : List B := (List.range n).map (rowE es)
theorem rowE_snoc (es : List E2) (x : E2) (a : Nat) : rowE (es ++ [x]) a = put1 (rowE es a) a x := by
  unfold rowE; rw [List.foldl_append]; rfl
theorem rowE_nil (a : Nat) : rowE [] a = 0#64 := rfl
theorem rowsE_len (n : Nat) (es : List E2) : (rowsE n es).length = n := by unfold rowsE; simp
theorem rowsE_get {n a : Nat} (es : List E2) (h : a < n) : (rowsE n es).getD a 0#64 = rowE es a := by
  unfold rowsE
  rw [List.getD_eq_getElem?_getD, List.getElem?_map, List.getElem?_range h]; rfl
theorem rowsE_at {n i : Nat} (es : List E2) (h : i < (rowsE n es).length) : (rowsE n es)[i] = rowE es i := by
  have hn : i < n := by rw [rowsE_len] at h; exact h
  have := rowsE_get es hn
  rw [List.getD_eq_getElem?_getD, List.getElem?_eq_getElem h] at this
  exact this
theorem rowsE_nil (n : Nat) : rowsE n [] = List.replicate n 0#64 := by
  apply List.ext_getElem
  · rw [rowsE_len]; simp
  · intro i h1 h2
    rw [List.getElem_replicate, rowsE_at]
    rfl
theorem rowsE_snoc {n a b : Nat} (es : List E2) (h : a < n) : rowsE n (es ++ [((a : Int), (b : Int))]) = (rowsE n es).set a ((rowsE n es).getD a 0#64 ||| (1#64 <<< b)) := by
  apply List.ext_getElem
  · rw [List.length_set, rowsE_len, rowsE_len]
  · intro i h1 h2
    have h1' : i < n := by rw [rowsE_len] at h1; exact h1
    rw [List.getElem_set, rowsE_at, rowE_snoc]
    unfold put1
    by_cases hi : a = i
    · subst hi
      rw [if_pos rfl, if_pos rfl, rowsE_get es h]; simp
    · rw [if_neg (show ¬ ((a : Int) = (i : Int)) by omega), if_neg hi, rowsE_at]
theorem has_put1 {s : B} {a b : Nat} {x : E2} (hx : 0 ≤ x.2 ∧ x.2 < 64) (hb : b < 64) : has (put1 s a x) b = (has s b || decide (x = ((a : Int), (b : Int)))) := by
  obtain ⟨x1, x2⟩ := x
  unfold put1
  simp only at hx ⊢
  obtain ⟨k, rfl⟩ := Int.eq_ofNat_of_zero_le hx.1
  by_cases h : x1 = (a : Int)
  · subst h
    rw [if_pos rfl, has_or, Int.toNat_natCast, has_one _ _ hb]
    congr 1
    rw [decide_eq_decide]
    constructor
    · rintro rfl; rfl
    · intro e; injection e with _ e; omega
  · rw [if_neg h, decide_eq_false (fun e => h (by injection e)), Bool.or_false]
theorem has_fold {a b : Nat} (hb : b < 64) : ∀ (es : List E2) (s : B), (∀ x ∈ es, 0 ≤ x.2 ∧ x.2 < 64) → has (es.foldl (fun s x => put1 s a x) s) b = (has s b || decide (((a : Int), (b : Int)) ∈ es))
  | [], s, _ => by simp
  | x :: es, s, h => by
    rw [List.foldl_cons, has_fold hb es _ (fun y hy => h y (List.mem_cons_of_mem _ hy)), has_put1 (h x List.mem_cons_self) hb, Bool.or_assoc]
    congr 1
    rw [Bool.eq_iff_iff, Bool.or_eq_true, decide_eq_true_iff, decide_eq_true_iff, decide_eq_true_iff, List.mem_cons]
    exact or_congr eq_comm Iff.rfl
theorem has_rowE {es : List E2} {a b : Nat} (hb : b < 64) (h : ∀ x ∈ es, 0 ≤ x.2 ∧ x.2 < 64) : has (rowE es a) b = decide (((a : Int), (b : Int)) ∈ es) := by
  unfold rowE
  rw [has_fold hb es _ h, has_zero, Bool.false_or]
end Go.Proofs.YteefncohknclcaaGreatDoor
namespace Go.Proofs.YteefncohknclcaaGreatDoor
open Go.RowKit Go.ChangeShapes
theorem list_of {α : Type} (n : Nat) (Q : Nat → α → Prop) (h : ∀ i, i < n → ∃ a, Q i a) : ∃ l : List α, l.length = n ∧ ∀ i a, l[i]? = some a → Q i a := by
  induction n with
  | zero => exact ⟨[], rfl, fun i a h => by cases h⟩
  | succ n ih =>
    obtain ⟨l, h1, h2⟩ := ih fun i hi => h i (by omega)
    obtain ⟨a, ha⟩ := h n (by omega)
    refine ⟨l ++ [a], by simp [h1], fun i b hb => ?_⟩
    rcases Nat.lt_or_ge i n with hi | hi
    · rw [List.getElem?_append_left (by omega)] at hb; exact h2 i b hb
    · have hi2 : i < (l ++ [a]).length := (List.getElem?_eq_some_iff.1 hb).1
      have : i = n := by simp [h1] at hi2; omega
      subst this
      rw [List.getElem?_append_right (by omega), h1, Nat.sub_self] at hb
      injection hb with hb
      subst hb; exact ha
section
variable {α : Type} (f g : α → Value)
/-- the cells of pairs -/
def cells2 (l : List α) : List Value := l.flatMap fun x => [f x, g x]
theorem cells2_cons (x : α) (l : List α) : cells2 f g (x :: l) = f x :: g x :: cells2 f g l := rfl
theorem cells2_append (l m : List α) : cells2 f g (l ++ m) = cells2 f g l ++ cells2 f g m := by unfold cells2; simp
theorem cells2_len (l : List α) : (cells2 f g l).length = l.length * 2 := by
  induction l with
  | nil => rfl
  | cons x l ih => rw [cells2_cons, List.length_cons, List.length_cons, ih, List.length_cons]; omega
theorem cells2_at {l : List α} {k : Nat} {x : α} (h : l[k]? = some x) : (cells2 f g l)[k * 2]? = some (f x) ∧ (cells2 f g l)[k * 2 + 1]? = some (g x) := by
  induction l generalizing k with
  | nil => cases h
  | cons y l ih =>
    rw [cells2_cons]
    cases k with
    | zero => simp at h; subst h; exact ⟨rfl, rfl⟩
    | succ k =>
      have := ih (k := k) (by simpa using h)
      rw [show (k + 1) * 2 = k * 2 + 1 + 1 from by omega]
      simpa using this
theorem cells2_of {l : List α} {j : Nat} {u : Value} (h : (cells2 f g l)[j]? = some u) : ∃ k x, l[k]? = some x ∧ ((j = k * 2 ∧ u = f x) ∨ (j = k * 2 + 1 ∧ u = g x)) := by
  have hj := (List.getElem?_eq_some_iff.1 h).1
  rw [cells2_len] at hj
  have hk : j / 2 < l.length := by omega
  obtain ⟨h1, h2⟩ := cells2_at f g (List.getElem?_eq_getElem hk)
  refine ⟨j / 2, l[j / 2], List.getElem?_eq_getElem hk, ?_⟩
  rcases Nat.mod_two_eq_zero_or_one j with e | e
  · rw [show j / 2 * 2 = j from by omega, h] at h1
    injection h1 with h1
    exact .inl ⟨by omega, h1⟩
  · rw [show j / 2 * 2 + 1 = j from by omega, h] at h2
    injection h2 with h2
    exact .inr ⟨by omega, h2⟩
/-- a slice of pairs that the call can read -/
structure P2At (w : World) (p : Option Addr) (n c : Nat) (l : List α) : Prop where
  len : l.length = n
  at_ : 0 < n → ∃ b o, p = some ⟨b, o, none⟩ ∧ b < w.heap.size ∧ ∀ k x, l[k]? = some x → w.cell? ⟨b, o + k * 2, none⟩ = some (f x) ∧ w.cell? ⟨b, o + (k * 2 + 1), none⟩ = some (g x)
  big : n ≤ 8796093022208
variable {f g}
theorem P2At.below {w w' : World} {p : Option Addr} {n c : Nat} {l : List α} (h : P2At f g w p n c l) (hb : Below w.heap.size w w') : P2At f g w' p n c l :=
  ⟨h.len, fun hn => by
    obtain ⟨b, o, e, h1, h2⟩ := h.at_ hn
    refine ⟨b, o, e, Nat.lt_of_lt_of_le h1 hb.size, fun k x hx => ?_⟩
    obtain ⟨h3, h4⟩ := h2 k x hx
    exact ⟨(hb.cell h1).trans h3, (hb.cell h1).trans h4⟩, h.big⟩
theorem P2At.cell {w : World} {p : Option Addr} {n c : Nat} {l : List α} (h : P2At f g w p n c l) {k : Nat} {x : α} (hx : l[k]? = some x) :
    ∃ b o, p = some ⟨b, o, none⟩ ∧ b < w.heap.size ∧ w.cell? ⟨b, o + k * 2, none⟩ = some (f x) ∧ w.cell? ⟨b, o + (k * 2 + 1), none⟩ = some (g x) := by
  have hk := (List.getElem?_eq_some_iff.1 hx).1
  have := h.len
  obtain ⟨b, o, e, h1, h2⟩ := h.at_ (by omega)
  exact ⟨b, o, e, h1, h2 k x hx⟩
theorem P2At.own {w : World} {base n c : Nat} {e : TypeId} {p : Option Addr} {l : List α} (h : w.ownsRow base e 2 (.slice p n c) n (cells2 f g l)) (hbig : n ≤ 8796093022208) : P2At f g w p n c l := by
  have hl : l.length = n := by have := h.1; rw [cells2_len] at this; omega
  refine ⟨hl, fun hn => ?_, hbig⟩
  obtain ⟨b, cap, hv, _, _⟩ := h.form hn
  injection hv with e1 e2 e3
  subst e1 e3
  have hlt := h.lt b rfl
  refine ⟨b, 0, rfl, hlt.2, fun k x hx => ?_⟩
  obtain ⟨h1, h2⟩ := cells2_at f g hx
  have c1 := h.cells (g := b) rfl _ _ h1
  have c2 := h.cells (g := b) rfl _ _ h2
  rw [Addr.add_lit] at c1 c2
  exact ⟨c1, c2⟩
end
/-- the slice of pairs that a law is handed -/
theorem p2_arg {A B H : Type} {enc : TypeId × Value → H} {P : Program} {W : World} {fuel len cap : Nat} {a : Option Addr} {d : DataW H} {p : List MemPlace} {t e : TypeId} {f0 f1 : Field} (F : A → Value) (G : B → Value)
    (ht : P.underlying t = some (.slice e)) (he : P.underlying e = some (.struct #[f0, f1])) (ce : P.cellsOf e = 2) (o0 : f0.offset = 0) (o1 : f1.offset = 1) (c0 : P.cellsOf f0.type = 1) (c1 : P.cellsOf f1.type = 1)
    (hF : ∀ n v x, DataW.trod enc P W 0 (fun _ => true) true n f0.type [v] = some x → ∃ a, v = F a) (hG : ∀ n v x, DataW.trod enc P W 0 (fun _ => true) true n f1.type [v] = some x → ∃ b, v = G b)
    (hby : 16 ≤ P.bytesOf e) (hf : DataW.trod enc P W 0 (fun _ => true) true fuel t [.slice a len cap] = some (d, p)) (hsz : ∀ n, n ∈ d.weights P t → n ≤ reachBytes) :
    ∃ l : List (A × B), P2At (fun x => F x.1) (fun x => G x.2) W a len cap l := by
  rcases Go.Deep.open_slice_pairs ht he ce o0 o1 c0 c1 hf with ⟨h1, _⟩ | ⟨ad, ln, cp, m, n, V0, V1, D0, D1, P0, P1, h1, _, h3, _, h5, h6, h7⟩
  · injection h1 with h1 _
    injection h1 with e1 e2 e3
    subst e1 e2 e3
    exact ⟨[], rfl, fun h => by omega, by omega⟩
  · injection h1 with h1 _
    injection h1 with e1 e2 e3
    subst e1 e2 e3
    simp only [if_true] at h5
    subst h5
    have hex : ∀ i, i < len → ∃ q : A × B, W.cell? (ad.add (i * 2)) = some (F q.1) ∧ W.cell? (ad.add (i * 2 + 1)) = some (G q.2) := by
      intro i hi
      obtain ⟨k1, k2, k3, k4⟩ := h7 i (by omega)
      obtain ⟨x, hx⟩ := hF _ _ _ k3
      obtain ⟨y, hy⟩ := hG _ _ _ k4
      exact ⟨(x, y), by rw [k1, hx], by rw [k2, hy]⟩
    obtain ⟨l, hl, hq⟩ := list_of len _ hex
    injection h6 with h6 _
    have hb := hsz ((len + (m - len)) * P.bytesOf e) (by
      rw [h6, DataW.weights, ht]
      simp)
    have hrb : reachBytes < 2 ^ 47 := reachBytes_lt
    have hmul : (len + (m - len)) * 16 ≤ (len + (m - len)) * P.bytesOf e := Nat.mul_le_mul_left _ hby
    refine ⟨l, hl, fun hn => ?_, by omega⟩
    obtain ⟨b, o, s⟩ := ad
    have hs : s = none := by
      have h0 := (h7 0 (by omega)).1
      simpa [Addr.add] using World.cell?_spot h0
    subst hs
    refine ⟨b, o, rfl, ?_, fun k x hx => ?_⟩
    · have := World.block_lt_of_cell? W _ (h7 0 (by omega)).1
      rwa [block_of_add] at this
    · have := hq k x hx
      rw [Addr.add_lit, Addr.add_lit] at this
      exact this
end Go.Proofs.YteefncohknclcaaGreatDoor
namespace Go.Proofs.YteefncohknclcaaGreatDoor
open Go.RowKit Go.Shelf
def cmpS (x y : ByteArray) : Int := if x.data.toList < y.data.toList then -1 else if y.data.toList < x.data.toList then 1 else 0
theorem cmpS_neg {x y : ByteArray} : cmpS x y < 0 ↔ x.data.toList < y.data.toList := by
  unfold cmpS
  by_cases h : x.data.toList < y.data.toList
  · rw [if_pos h]; simp [h]
  · rw [if_neg h]
    split
    · simp [h]
    · simp [h]
theorem run_gtr_str {x y : ByteArray} {b c : Bool} (h : Op.bytesLess x.toList y.toList = b) (h2 : (x.toList == y.toList) = c) (w : World) : (binOp .gtr 9 (.string x) (.string y)).run Tryz.prog w = .ok (.bool (!(b || c))) w := by
  simp [binOp, Op.stringOp, h, h2]
theorem bytesLess_of (x y : ByteArray) : Op.bytesLess x.toList y.toList = decide (x.data.toList < y.data.toList) := by rw [Proofs.bytesLess_eq, Lib.toList_data, Lib.toList_data]
set_option maxHeartbeats 400000 in
theorem isNaNs_ok (x : ByteArray) (w : World) : Calls Tryz.prog 111 #[.string x] w fun e w' => e = .returned (.bool false) ∧ w' = w := by
  go_enter Tryz.func111, Tryz.ntmps111
  go_wp2
  go_ret
  exact ⟨by simp, rfl⟩
set_option maxHeartbeats 1000000 in
theorem cmpS_ok (x y : ByteArray) (w : World) : Calls Tryz.prog 77 #[.string x, .string y] w fun e w' => e = .returned (.int .i64 (cmpS x y)) ∧ w' = w := by
  by_cases h : x.data.toList < y.data.toList
  · have hv : cmpS x y = -1 := by unfold cmpS; rw [if_pos h]
    have h1 := (bytesLess_of x y).trans (decide_eq_true h)
    rw [hv]
    clear hv h
    go_enter Tryz.func77, Tryz.ntmps77
    go_wp2_with (go_at_call 111; refine (isNaNs_ok _ _).mono ?_; rintro e w' ⟨rfl, rfl⟩)
    go_ret
    exact ⟨rfl, rfl⟩
  · have h1 := (bytesLess_of x y).trans (decide_eq_false h)
    by_cases h2 : y.data.toList < x.data.toList
    · have hv : cmpS x y = 1 := by unfold cmpS; rw [if_neg h, if_pos h2]
      have hne : (x.toList == y.toList) = false := by
        rw [Lib.toList_data, Lib.toList_data, beq_eq_false_iff_ne]
        intro e
        rw [e] at h2
        exact lt_irr h2
      have h3 := run_gtr_str ((bytesLess_of x y).trans (decide_eq_false h)) hne
      rw [hv]
      clear hv h h2 hne
      go_enter Tryz.func77, Tryz.ntmps77
      go_wp2_with (go_at_call 111; refine (isNaNs_ok _ _).mono ?_; rintro e w' ⟨rfl, rfl⟩)
      go_ret
      exact ⟨rfl, rfl⟩
    · have hv : cmpS x y = 0 := by unfold cmpS; rw [if_neg h, if_neg h2]
      have hne : (x.toList == y.toList) = true := by
        rw [Lib.toList_data, Lib.toList_data, beq_iff_eq]
        exact List.le_antisymm (List.not_lt.1 h2) (List.not_lt.1 h)
      have h3 := run_gtr_str ((bytesLess_of x y).trans (decide_eq_false h)) hne
      rw [hv]
      clear hv h h2 hne
      go_enter Tryz.func77, Tryz.ntmps77
      go_wp2_with (go_at_call 111; refine (isNaNs_ok _ _).mono ?_; rintro e w' ⟨rfl, rfl⟩)
      go_ret
      exact ⟨rfl, rfl⟩
theorem drewN_add (w : World) (a b : Nat) : (w.drewN a).drewN b = w.drewN (a + b) := by simp [World.drewN, Nat.add_assoc]
/-- each name below the next one -/
def RiseTo (zs : List ByteArray) (k : Nat) : Prop := ∀ i, i < k → (zs.getD i ByteArray.empty).data.toList < (zs.getD (i + 1) ByteArray.empty).data.toList
theorem rise_to {zs : List ByteArray} : RiseTo zs (zs.length - 1) ↔ Rise zs := by
  constructor
  · intro h i j hij hj
    obtain ⟨d, rfl⟩ : ∃ d, j = i + d + 1 := ⟨j - i - 1, by omega⟩
    induction d with
    | zero => exact h i (by omega)
    | succ d ih => exact List.lt_trans (ih (by omega) (by omega)) (h (i + d + 1) (by omega))
  · intro h i hi
    exact h i (i + 1) (by omega) (by omega)
theorem rise_next {zs : List ByteArray} {k : Nat} (h : RiseTo zs k) (hk : cmpS (zs.getD k ByteArray.empty) (zs.getD (k + 1) ByteArray.empty) < 0) : RiseTo zs (k + 1) := fun i hi => by
  rcases Nat.lt_or_ge i k with h1 | h1
  · exact h i h1
  · rw [show i = k from by omega]; exact cmpS_neg.1 hk
set_option maxHeartbeats 1000000 in
theorem risesS_ok (p : Option Addr) (n c : Nat) (zs : List ByteArray) (w : World) (h : NL w p n c zs) :
    Calls Tryz.prog 76 #[.slice p n c, .func (.func 77) #[] #[]] w fun e w' => ((e = .returned (.bool true) ∧ Rise zs) ∨ (e = .returned (.bool false) ∧ ¬ Rise zs)) ∧ ∃ q, w' = w.drewN q := by
  have hl := h.at_.len
  have hbig := h.at_.big
  subst hl
  have HN := Lib.hid h
  clear h
  go_enter Tryz.func76, Tryz.ntmps76
  go_wp2
  go_loopw [9] (fun i wr => ∃ k : Nat, i = .int .i64 k ∧ (k = 0 ∨ k < zs.length) ∧ Hid (RiseTo zs k) ∧ Hid (∃ q, wr = w.drewN q)) (fun i _ => zs.length - (intOf i).toNat)
  case atStart => exact ⟨0, rfl, .inl rfl, show RiseTo zs 0 from fun i hi => by omega, show ∃ q, w = w.drewN q from ⟨0, rfl⟩⟩
  case round =>
    obtain ⟨k, rfl, hk, HR, HW⟩ := hrel
    by_cases hlt : (k : Int) < (zs.length : Int) - 1
    · have HNw : Hid (NL wr p zs.length c zs) := by
        show NL _ _ _ _ _
        obtain ⟨q, hq⟩ := HW.out
        rw [hq]; exact HN.out.drew q
      obtain ⟨ad, rfl, _⟩ := HN.out.at_.reads.2 (by omega)
      obtain ⟨b, o, rfl, _⟩ := HN.out.plain _ rfl
      have hc1 := HNw.out.cellAt k (by omega)
      have hc2 := HNw.out.cellAt (k + 1) (by omega)
      have HX : Hid (cmpS (zs.getD k ByteArray.empty) (zs.getD (k + 1) ByteArray.empty) < 0 → RiseTo zs (k + 1)) := by show _ → _; exact rise_next HR.out
      have HY : Hid (¬ cmpS (zs.getD k ByteArray.empty) (zs.getD (k + 1) ByteArray.empty) < 0 → ¬ Rise zs) := by
        show _ → _
        intro h1 h2
        exact h1 (cmpS_neg.2 (h2 k (k + 1) (by omega) (by omega)))
      generalize zs.getD k ByteArray.empty = x at *
      generalize zs.getD (k + 1) ByteArray.empty = y at *
      obtain ⟨z, hz⟩ : ∃ z, cmpS x y = z := ⟨_, rfl⟩
      rw [hz] at HX HY
      have HZ := Lib.hid hz
      clear hz
      by_cases h0 : (0 : Int) ≤ z
      · go_wp2
        go_quiet ((go_at_call 77; refine (cmpS_ok x y _).mono ?_; rintro e w'' ⟨he, hw⟩; rw [HZ.out] at he; exact ⟨he, _, hw⟩))
        go_wp2
        go_ret
        refine ⟨.inr ⟨rfl, HY.out (by omega)⟩, ?_⟩
        obtain ⟨q, hq⟩ := HW.out
        exact ⟨_, by rw [hq, drewN_add]⟩
      · go_wp2
        go_quiet ((go_at_call 77; refine (cmpS_ok x y _).mono ?_; rintro e w'' ⟨he, hw⟩; rw [HZ.out] at he; exact ⟨he, _, hw⟩))
        go_wp2
        go_roundw
        case rel =>
          refine ⟨k + 1, by go_num, by omega, HX.out (by omega), ?_⟩
          obtain ⟨q, hq⟩ := HW.out
          exact ⟨_, by rw [hq, drewN_add]⟩
        case measure => simp [intOf]; omega
    · go_wp2
      go_ret
      refine ⟨.inl ⟨rfl, ?_⟩, HW.out⟩
      rw [← rise_to]
      have : zs.length - 1 = k := by omega
      rw [this]; exact HR.out
theorem cell_drew (w : World) (a : Addr) : w.drew.cell? a = w.cell? a := rfl
def ordE (a b : E2) : Int := if Lib.compareInt a.1 b.1 ≠ 0 then Lib.compareInt a.1 b.1 else Lib.compareInt a.2 b.2
def e2V (x : E2) : Value := .agg #[.int .i64 x.1, .int .i64 x.2]
set_option maxHeartbeats 1000000 in
theorem or_ok (x y : Int) (b : Nat) (w : World) (h1 : w.cell? ⟨b, 0, none⟩ = some (.int .i64 x)) (h2 : w.cell? ⟨b, 1, none⟩ = some (.int .i64 y)) :
    Calls Tryz.prog 80 #[.slice (some ⟨b, 0, none⟩) 2 2] w fun e w' => e = .returned (.int .i64 (if x ≠ 0 then x else y)) ∧ w' = w := by
  go_enter Tryz.func80, Tryz.ntmps80
  go_wp2
  go_loop [8] (fun i => i = .int .i64 0 ∨ (i = .int .i64 1 ∧ x = 0) ∨ (i = .int .i64 2 ∧ x = 0 ∧ y = 0)) (fun i => 2 - (intOf i).toNat)
  case atStart => exact .inl rfl
  case round =>
    rcases hrel with rfl | ⟨rfl, rfl⟩ | ⟨rfl, rfl, rfl⟩
    · by_cases hx : x = 0
      · subst hx
        go_wp2
        go_round
        case rel => exact .inr (.inl ⟨by go_num, trivial⟩)
        case measure => simp [intOf]
      · have hb : (x != 0) = true := by simpa using hx
        go_wp2
        go_ret
        exact ⟨by first | rfl | (rw [if_pos hx]; rfl), rfl⟩
    · by_cases hy : y = 0
      · subst hy
        go_wp2
        go_round
        case rel => exact .inr (.inr ⟨by go_num, trivial, trivial⟩)
        case measure => simp [intOf]
      · have hb : (y != 0) = true := by simpa using hy
        go_wp2
        go_ret
        exact ⟨by simp, rfl⟩
    · go_wp2
      go_ret
      exact ⟨by simp, rfl⟩
set_option maxHeartbeats 1000000 in
set_option maxRecDepth 100000 in
theorem eorder_ok (a b : E2) (w : World) : Calls Tryz.prog 51 #[e2V a, e2V b] w fun e w' => e = .returned (.int .i64 (ordE a b)) ∧ Below w.heap.size w w' := by
  obtain ⟨a1, a2⟩ := a
  obtain ⟨b1, b2⟩ := b
  unfold e2V ordE
  simp only
  obtain ⟨x, hx⟩ : ∃ x, Lib.compareInt a1 b1 = x := ⟨_, rfl⟩
  obtain ⟨y, hy⟩ : ∃ y, Lib.compareInt a2 b2 = y := ⟨_, rfl⟩
  rw [hx, hy]
  have HO := Lib.hid (or_ok x y)
  obtain ⟨v, hv⟩ : ∃ v, (if x ≠ 0 then x else y) = v := ⟨_, rfl⟩
  rw [hv] at HO ⊢
  clear hv
  have HX := Lib.hid (Tryz.cmp_Compare_int a1 b1)
  have HY := Lib.hid (Tryz.cmp_Compare_int a2 b2)
  rw [hx] at HX
  rw [hy] at HY
  clear hx hy
  go_enter Tryz.func51, Tryz.ntmps51
  go_wp2
  obtain ⟨W, hW⟩ : ∃ W, W = (w.alloc (.cells #[.int .i64 a1, .int .i64 a2] 85)).alloc (.cells #[.int .i64 b1, .int .i64 b2] 85) := ⟨_, rfl⟩
  have c1 : W.cell? ⟨w.heap.size, 0, none⟩ = some (.int .i64 a1) := by rw [hW, World.cell?_alloc_lt _ _ _ (by simp), World.cell?_alloc_at _ _ _ _ rfl]; rfl
  have c2 : W.cell? ⟨w.heap.size, 1, none⟩ = some (.int .i64 a2) := by rw [hW, World.cell?_alloc_lt _ _ _ (by simp), World.cell?_alloc_at _ _ _ _ rfl]; rfl
  have c3 : W.cell? ⟨w.heap.size + 1, 0, none⟩ = some (.int .i64 b1) := by rw [hW, World.cell?_alloc_at _ _ _ _ (by simp)]; rfl
  have c4 : W.cell? ⟨w.heap.size + 1, 1, none⟩ = some (.int .i64 b2) := by rw [hW, World.cell?_alloc_at _ _ _ _ (by simp)]; rfl
  have HB : Hid (Below w.heap.size w W) := by
    show Below _ _ _
    rw [hW]; exact ((Below.refl _ _).alloc (Nat.le_refl _) _).alloc (by simp) _
  rw [← hW]
  clear hW
  refine wp_region_still_tail 10 (by kernel_rfl) (by kernel_rfl) ?_
  simp only [List.take_succ_cons, List.take_zero, List.drop_succ_cons, List.drop_zero]
  repeat still_step
  still_call (HX.out _)
  repeat still_step
  still_call (HY.out _)
  repeat still_step
  refine wpStill_nil ?_
  obtain ⟨W2, hW2⟩ : ∃ W2 : World, W2 = { heap := W.heap, tape := W.tape, drawn := W.drawn + 1, os := W.os, output := W.output } := ⟨_, rfl⟩
  have HB2 : Hid (Below w.heap.size w W2) := by
    show Below _ _ _
    rw [hW2]; exact HB.out.drew
  rw [← hW2]
  clear hW2 c1 c2 c3 c4 HB
  go_wp2_with (go_at_call 80; refine (HO.out _ _ (by rw [World.cell?_alloc_at _ _ _ _ rfl]; rfl) (by rw [World.cell?_alloc_at _ _ _ _ rfl]; rfl)).mono ?_; rintro e w' ⟨rfl, rfl⟩)
  go_ret
  exact ⟨rfl, HB2.out.alloc HB2.out.size _⟩
end Go.Proofs.YteefncohknclcaaGreatDoor
namespace Go.Proofs.YteefncohknclcaaGreatDoor
open Go.RowKit Go.Shelf
def eF (x : E2) : Value := .int .i64 x.1
def eG (x : E2) : Value := .int .i64 x.2
abbrev EsAt (w : World) (p : Option Addr) (n c : Nat) (es : List E2) : Prop := P2At eF eG w p n c es
theorem ordE_neg {a b : E2} : ordE a b < 0 ↔ elt a b := by
  have key : ∀ x y : Int, (x < y ∧ Lib.compareInt x y = -1) ∨ (x = y ∧ Lib.compareInt x y = 0) ∨ (y < x ∧ Lib.compareInt x y = 1) := by
    intro x y
    unfold Lib.compareInt
    rcases Int.lt_trichotomy x y with h | h | h
    · exact .inl ⟨h, if_pos h⟩
    · exact .inr (.inl ⟨h, by rw [if_neg (by omega), if_neg (by omega)]⟩)
    · exact .inr (.inr ⟨h, by rw [if_neg (by omega), if_pos h]⟩)
  unfold ordE elt
  rcases key a.1 b.1 with ⟨h, e⟩ | ⟨h, e⟩ | ⟨h, e⟩
  · rw [e, if_pos (by decide)]; omega
  · rw [e, if_neg (by decide)]
    rcases key a.2 b.2 with ⟨g, f⟩ | ⟨g, f⟩ | ⟨g, f⟩ <;> rw [f] <;> omega
  · rw [e, if_pos (by decide)]; omega
def ERiseTo (es : List E2) (k : Nat) : Prop := ∀ i, i < k → elt (es.getD i (0, 0)) (es.getD (i + 1) (0, 0))
theorem erise_next {es : List E2} {k : Nat} (h : ERiseTo es k) (hk : ordE (es.getD k (0, 0)) (es.getD (k + 1) (0, 0)) < 0) : ERiseTo es (k + 1) := fun i hi => by
  rcases Nat.lt_or_ge i k with h1 | h1
  · exact h i h1
  · rw [show i = k from by omega]; exact ordE_neg.1 hk
theorem getD_some {α : Type} {l : List α} {k : Nat} (d : α) (h : k < l.length) : l[k]? = some (l.getD k d) := by
  rw [List.getD_eq_getElem?_getD, List.getElem?_eq_getElem h]; rfl
set_option maxHeartbeats 1000000 in
set_option maxRecDepth 100000 in
theorem risesE_ok (p : Option Addr) (n c : Nat) (es : List E2) (w : World) (h : EsAt w p n c es) :
    Calls Tryz.prog 78 #[.slice p n c, .func (.func 51) #[] #[]] w fun e w' => ((e = .returned (.bool true) ∧ ERise es) ∨ (e = .returned (.bool false) ∧ ¬ ERise es)) ∧ Below w.heap.size w w' := by
  have hl := h.len
  have hbig := h.big
  subst hl
  have HN := Lib.hid h
  clear h
  go_enter Tryz.func78, Tryz.ntmps78
  go_wp2
  go_loopw [9] (fun i wr => ∃ k : Nat, i = .int .i64 k ∧ (k = 0 ∨ k < es.length) ∧ Hid (ERiseTo es k) ∧ Hid (Below w.heap.size w wr)) (fun i _ => es.length - (intOf i).toNat)
  case atStart => exact ⟨0, rfl, .inl rfl, show ERiseTo es 0 from fun i hi => by omega, show Below _ _ _ from Below.refl _ _⟩
  case round =>
    obtain ⟨k, rfl, hk, HR, HW⟩ := hrel
    by_cases hlt : (k : Int) < (es.length : Int) - 1
    · have HNw := Lib.hid (HN.out.below HW.out)
      obtain ⟨b, o, rfl, hb, hca, hcb⟩ := HNw.out.cell (getD_some (0, 0) (show k < es.length by omega))
      obtain ⟨b', o', hbo, _, hcc, hcd⟩ := HNw.out.cell (getD_some (0, 0) (show k + 1 < es.length by omega))
      injection hbo with hbo
      injection hbo with e1 e2
      subst e1 e2
      have HX : Hid (ordE (es.getD k (0, 0)) (es.getD (k + 1) (0, 0)) < 0 → ERiseTo es (k + 1)) := by show _ → _; exact erise_next HR.out
      have HY : Hid (¬ ordE (es.getD k (0, 0)) (es.getD (k + 1) (0, 0)) < 0 → ¬ ERise es) := by
        show _ → _
        intro h1 h2
        exact h1 (ordE_neg.2 (h2 k (by omega)))
      generalize es.getD k (0, 0) = x at *
      generalize es.getD (k + 1) (0, 0) = y at *
      have HO := Lib.hid (eorder_ok x y)
      obtain ⟨z, hz⟩ : ∃ z, ordE x y = z := ⟨_, rfl⟩
      rw [hz] at HX HY HO
      clear hz
      obtain ⟨x1, x2⟩ := x
      obtain ⟨y1, y2⟩ := y
      simp only [eF, eG] at hca hcb hcc hcd
      have hl1 : (k : Int) < (es.length : Int) := by omega
      have hl2 : (k : Int) + 1 < (es.length : Int) := by omega
      have hl3 : (0 : Int) ≤ (k : Int) + 1 := by omega
      have htn : ((k : Int) + 1).toNat = k + 1 := by omega
      have hwr : IntKind.i64.wrap ((k : Int) + 1) = (k : Int) + 1 := by rw [IntKind.wrap_i64]; omega
      go_wp2
      refine wp_region_still_tail 10 (by kernel_rfl) (by kernel_rfl) ?_
      simp only [List.take_succ_cons, List.take_zero, List.drop_succ_cons, List.drop_zero]
      obtain ⟨W2, hW2⟩ : ∃ W2 : World, W2 = { heap := wr.heap, tape := wr.tape, drawn := wr.drawn + 1, os := wr.os, output := wr.output } := ⟨_, rfl⟩
      have HB2 : Hid (Below w.heap.size w W2) := by
        show Below _ _ _
        rw [hW2]; exact HW.out.drew
      have d1 : W2.cell? ⟨b, o + k * 2, none⟩ = some (.int .i64 x1) := by rw [hW2]; exact hca
      have d2 : W2.cell? ⟨b, o + k * 2 + 1, none⟩ = some (.int .i64 x2) := by rw [hW2]; exact hcb
      have d3 : W2.cell? ⟨b, o + (k + 1) * 2, none⟩ = some (.int .i64 y1) := by rw [hW2]; exact hcc
      have d4 : W2.cell? ⟨b, o + (k + 1) * 2 + 1, none⟩ = some (.int .i64 y2) := by rw [hW2]; exact hcd
      rw [← hW2]
      clear hW2 hca hcb hcc hcd
      repeat still_step
      refine wpStill_nil ?_
      clear d1 d2 d3 d4
      unfold e2V at HO
      by_cases h0 : (0 : Int) ≤ z
      · go_wp2_with (go_at_call 51; refine (HO.out _).mono ?_; rintro e w' ⟨rfl, hb'⟩; have HB3 := Lib.hid (HB2.out.trans (hb'.mono HB2.out.size)); clear hb')
        go_ret
        exact ⟨.inr ⟨rfl, HY.out (by omega)⟩, HB3.out⟩
      · go_wp2_with (go_at_call 51; refine (HO.out _).mono ?_; rintro e w' ⟨rfl, hb'⟩; have HB3 := Lib.hid (HB2.out.trans (hb'.mono HB2.out.size)); clear hb')
        go_roundw
        case rel => exact ⟨k + 1, by go_num, by omega, HX.out (by omega), HB3.out⟩
        case measure => simp [intOf]; omega
    · go_wp2
      go_ret
      refine ⟨.inl ⟨rfl, fun i hi => HR.out i (by omega)⟩, HW.out⟩
end Go.Proofs.YteefncohknclcaaGreatDoor
namespace Go.Proofs.YteefncohknclcaaGreatDoor
open Go.RowKit Go.Shelf
/-- what a graph holds -/
structure GD where
  names : List ByteArray
  edges : List E2
  phony : B
  made : B
/-- a graph that Check lets pass -/
structure Good (g : GD) : Prop where
  names : g.names.length ≤ 64
  ok : okN g.names g.names.length
  rise : Rise g.names
  edges : ∀ x ∈ g.edges, EIn g.names.length x
  erise : ERise g.edges
  sets : (g.phony ||| g.made) &&& ~~~belowB g.names.length = 0#64
/-- a graph as the call can read it -/
structure GrAt (w : World) (v : Value) (g : GD) : Prop where
  at_ : ∃ (p : Option Addr) (n c : Nat) (q : Option Addr) (m d : Nat), v = .agg #[.slice p n c, .slice q m d, .int .u64 (un g.phony : Int), .int .u64 (un g.made : Int)] ∧ NL w p n c g.names ∧ EsAt w q m d g.edges
theorem GrAt.below {w w' : World} {v : Value} {g : GD} (h : GrAt w v g) (hb : Below w.heap.size w w') : GrAt w' v g := by
  obtain ⟨p, n, c, q, m, d, h1, h2, h3⟩ := h.at_
  exact ⟨p, n, c, q, m, d, h1, h2.below hb, h3.below hb⟩
def EAll (g : GD) (k : Nat) : Prop := ∀ x ∈ g.edges.take k, EIn g.names.length x
theorem eall_next {g : GD} {k : Nat} (hk : k < g.edges.length) (h : EAll g k) (hx : EIn g.names.length (g.edges.getD k (0, 0))) : EAll g (k + 1) := by
  intro x hm
  rw [List.take_succ_eq_append_getElem hk] at hm
  rcases List.mem_append.1 hm with hm | hm
  · exact h x hm
  · rw [List.mem_singleton.1 hm]
    rw [List.getD_eq_getElem?_getD, List.getElem?_eq_getElem hk] at hx
    exact hx
theorem eall_no {g : GD} {k : Nat} (hk : k < g.edges.length) (hx : ¬ EIn g.names.length (g.edges.getD k (0, 0))) : ¬ Good g := fun h => hx (h.edges _ (by
  rw [List.getD_eq_getElem?_getD, List.getElem?_eq_getElem hk]; exact List.getElem_mem hk))
set_option maxHeartbeats 4000000 in
set_option maxRecDepth 100000 in
theorem CheckG2_ok (v : Value) (g : GD) (w : World) (h : GrAt w v g) :
    Calls Tryz.prog 48 #[v] w fun e w' => (∃ E : Int, e = .returned (.int .i64 E) ∧ ((E = 0 ∧ Good g) ∨ (E ≠ 0 ∧ ¬ Good g))) ∧ Below w.heap.size w w' := by
  obtain ⟨p, n, c, q, m, d, rfl, hN, hE⟩ := h.at_
  have hln := hN.at_.len
  have hlm := hE.len
  subst hln hlm
  have hbn := hN.at_.big
  have hbm := hE.big
  obtain ⟨W, hW⟩ : ∃ W, W = w.alloc (.cells #[.slice p g.names.length c, .slice q g.edges.length d, .int .u64 (un g.phony : Int), .int .u64 (un g.made : Int)] 26) := ⟨_, rfl⟩
  have hBW : Below w.heap.size w W := by rw [hW]; exact (Below.refl _ _).alloc (Nat.le_refl _) _
  have HS : Hid (w.heap.size < W.heap.size) := by show _ < _; rw [hW]; simp
  have HC : Hid (∀ u : World, Below W.heap.size W u → u.cell? ⟨w.heap.size, 0, none⟩ = some (.slice p g.names.length c) ∧ u.cell? ⟨w.heap.size, 1, none⟩ = some (.slice q g.edges.length d) ∧ u.cell? ⟨w.heap.size, 2, none⟩ = some (.int .u64 (un g.phony : Int)) ∧ u.cell? ⟨w.heap.size, 3, none⟩ = some (.int .u64 (un g.made : Int))) := by
    show ∀ u : World, _ → _
    intro u hu
    rw [hu.cell HS.out, hu.cell HS.out, hu.cell HS.out, hu.cell HS.out, hW]
    refine ⟨?_, ?_, ?_, ?_⟩ <;> (rw [World.cell?_alloc_at _ _ _ _ rfl]; rfl)
  have HN := Lib.hid (hN.below hBW)
  have HE := Lib.hid (hE.below hBW)
  have HBW := Lib.hid hBW
  obtain ⟨k0, k1, k2, k3⟩ := HC.out W (Below.refl _ _)
  rw [hW] at k0 k1 k2 k3
  clear hN hE hBW h
  by_cases h64 : g.names.length ≤ 64
  · by_cases hok : okN g.names g.names.length
    · go_enter Tryz.func48, Tryz.ntmps48
      go_wp2_with fail
      rw [← hW]
      clear hW k0 k1 k2 k3
      refine (Sort_yes _ _ _ g.names _ HN.out hok).mono ?_
      rintro e w2 ⟨gg, cg, rfl, _, hb2⟩
      have HB2 := Lib.hid hb2
      obtain ⟨k0, k1, k2, k3⟩ := HC.out w2 hb2
      clear hb2
      go_wp2_with fail
      refine (risesS_ok _ _ _ g.names _ (HN.out.below HB2.out)).mono ?_
      rintro e w3 ⟨hcase, qq, rfl⟩
      rcases hcase with ⟨rfl, hr⟩ | ⟨rfl, hr⟩
      · have HR := Lib.hid hr
        have HB3 : Hid (Below W.heap.size W (w2.drewN qq)) := by show Below _ _ _; exact below_drawsP HB2.out qq
        clear hr
        obtain ⟨w3, hw3⟩ : ∃ w3, w3 = w2.drewN qq := ⟨_, rfl⟩
        rw [← hw3] at HB3 ⊢
        clear hw3 HB2 k0 k1 k2 k3
        obtain ⟨k0, k1, k2, k3⟩ := HC.out w3 HB3.out
        generalize (sortN g.names).length = sl at *
        have HH : Hid (g.names.length ≤ 64 ∧ okN g.names g.names.length) := by show _ ∧ _; exact ⟨h64, hok⟩
        clear hok
        go_wp2
        go_loopw [31] (fun i wr => ∃ k : Nat, k ≤ g.edges.length ∧ i = .int .i64 k ∧ Hid (EAll g k) ∧ Hid (Below W.heap.size W wr)) (fun i _ => g.edges.length - (intOf i).toNat)
        case atStart => exact ⟨0, Nat.zero_le _, rfl, show EAll g 0 from fun x hx => by simp at hx, HB3⟩
        case round =>
          clear k0 k1 k2 k3
          obtain ⟨k, hk, rfl, HA, HW⟩ := hrel
          have HFIN : Hid (∀ u, Below W.heap.size W u → Below w.heap.size w u) := by show ∀ u, _; exact fun u hu => HBW.out.trans (hu.mono (Nat.le_of_lt HS.out))
          by_cases hlt : k < g.edges.length
          · obtain ⟨b, o, rfl, hb, hca, hcb⟩ := (HE.out.below HW.out).cell (getD_some (0, 0) hlt)
            have HX := Lib.hid (eall_next hlt HA.out)
            have HY := Lib.hid (eall_no (g := g) hlt)
            generalize g.edges.getD k (0, 0) = x at *
            obtain ⟨x1, x2⟩ := x
            simp only [eF, eG] at hca hcb
            have hca2 : wr.cell? ⟨b, o + k * 2 + 1, none⟩ = some (.int .i64 x2) := hcb
            have HB4 : Hid (Below W.heap.size W (wr.alloc (.cells #[.int .i64 x1, .int .i64 x2] 85))) := by show Below _ _ _; exact HW.out.alloc HW.out.size _
            clear hcb
            by_cases g1 : x1 < 0
            · have HN4 := Lib.hid (HY.out (fun h => by have := h.1; simp only at this; omega))
              clear HX HY
              go_wp2
              go_ret
              exact ⟨⟨4, rfl, .inr ⟨by decide, HN4.out⟩⟩, HFIN.out _ HB4.out⟩
            by_cases g2 : (g.names.length : Int) ≤ x1
            · have HN4 := Lib.hid (HY.out (fun h => by have := h.2.1; simp only at this; omega))
              clear HX HY
              go_wp2
              go_ret
              exact ⟨⟨4, rfl, .inr ⟨by decide, HN4.out⟩⟩, HFIN.out _ HB4.out⟩
            by_cases g3 : x2 < 0
            · have HN4 := Lib.hid (HY.out (fun h => by have := h.2.2.1; simp only at this; omega))
              clear HX HY
              go_wp2
              go_ret
              exact ⟨⟨4, rfl, .inr ⟨by decide, HN4.out⟩⟩, HFIN.out _ HB4.out⟩
            by_cases g4 : (g.names.length : Int) ≤ x2
            · have HN4 := Lib.hid (HY.out (fun h => by have := h.2.2.2; simp only at this; omega))
              clear HX HY
              go_wp2
              go_ret
              exact ⟨⟨4, rfl, .inr ⟨by decide, HN4.out⟩⟩, HFIN.out _ HB4.out⟩
            have HN4 := Lib.hid (HX.out ⟨by simp only; omega, by simp only; omega, by simp only; omega, by simp only; omega⟩)
            clear HX HY
            go_wp2
            go_roundw
            case rel => exact ⟨k + 1, by omega, by go_num, HN4.out, HB4.out⟩
            case measure => simp [intOf]; omega
          · obtain rfl : k = g.edges.length := by omega
            obtain ⟨k0, k1, k2, k3⟩ := HC.out wr HW.out
            have HAll : Hid (∀ x ∈ g.edges, EIn g.names.length x) := by
              show ∀ x ∈ g.edges, _
              have := HA.out
              unfold EAll at this
              rw [List.take_length] at this
              exact this
            go_wp2_with fail
            refine (risesE_ok _ _ _ g.edges _ (HE.out.below HW.out)).mono ?_
            rintro e w5 ⟨hcase, hb5⟩
            have HB5 := Lib.hid (HW.out.trans (hb5.mono HW.out.size))
            clear hb5 k0 k1 k2 k3
            obtain ⟨k0, k1, k2, k3⟩ := HC.out w5 HB5.out
            rcases hcase with ⟨rfl, hr⟩ | ⟨rfl, hr⟩
            · have HR5 := Lib.hid hr
              clear hr
              by_cases hz : (g.phony ||| g.made) &&& ~~~belowB g.names.length = 0#64
              · have HG : Hid (Good g) := by show Good g; exact ⟨HH.out.1, HH.out.2, HR.out, HAll.out, HR5.out, hz⟩
                have hzz : (((un ((g.phony ||| g.made) &&& ~~~belowB g.names.length) : Nat) : Int) != 0) = false := by rw [hz]; rfl
                clear hz
                go_wp2_with (go_at_call 60; refine (Below_ok _ h64 _).mono ?_; rintro e w' ⟨rfl, rfl⟩)
                go_ret
                exact ⟨⟨0, rfl, .inl ⟨rfl, HG.out⟩⟩, HFIN.out _ HB5.out⟩
              · have HG : Hid (¬ Good g) := by show ¬ _; exact fun h => hz h.sets
                have hzz : (((un ((g.phony ||| g.made) &&& ~~~belowB g.names.length) : Nat) : Int) != 0) = true := by
                  rw [bne_iff_ne]
                  intro e
                  exact hz (un_inj (by rw [show un 0#64 = 0 from rfl]; omega))
                clear hz
                go_wp2_with (go_at_call 60; refine (Below_ok _ h64 _).mono ?_; rintro e w' ⟨rfl, rfl⟩)
                go_ret
                exact ⟨⟨4, rfl, .inr ⟨by decide, HG.out⟩⟩, HFIN.out _ HB5.out⟩
            · have HG : Hid (¬ Good g) := by show ¬ _; exact fun h => hr h.erise
              clear hr
              go_wp2
              go_ret
              exact ⟨⟨3, rfl, .inr ⟨by decide, HG.out⟩⟩, HFIN.out _ HB5.out⟩
      · have HG : Hid (¬ Good g) := by show ¬ _; exact fun h => hr h.rise
        clear hr
        go_wp2
        go_ret
        exact ⟨⟨3, rfl, .inr ⟨by decide, HG.out⟩⟩, HBW.out.trans ((below_drawsP HB2.out qq).mono (Nat.le_of_lt HS.out))⟩
    · have HG : Hid (¬ Good g) := by show ¬ _; exact fun h => hok h.ok
      go_enter Tryz.func48, Tryz.ntmps48
      go_wp2_with fail
      rw [← hW]
      clear hW k0 k1 k2 k3
      refine (Sort_no _ _ _ g.names _ HN.out.at_ hok).mono ?_
      rintro e w2 ⟨rfl, rfl⟩
      go_wp2
      go_ret
      exact ⟨⟨3, rfl, .inr ⟨by decide, HG.out⟩⟩, HBW.out⟩
  · have HG : Hid (¬ Good g) := by show ¬ _; exact fun h => h64 h.names
    go_enter Tryz.func48, Tryz.ntmps48
    go_wp2
    go_ret
    rw [← hW]
    exact ⟨⟨2, rfl, .inr ⟨by decide, HG.out⟩⟩, HBW.out⟩
end Go.Proofs.YteefncohknclcaaGreatDoor
