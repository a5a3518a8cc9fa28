/- The walk of log.Check. Conditions: the stamps read as listed. -/
import Derived.Test.YtlhhcgiifgkngaaDoorStamps
import Derived.Test.YtlhhcgiifgkngaaDoorNameW
import Derived.Test.YtlhhcgiifgkngaaDoorSpanW
import Derived.Deep.LoopGhost
import Derived.Deep.Cut
import Derived.Deep.QuietTactic
import Derived.BigQuiet
namespace Go.Proofs.YtlhhcgiifgkngaaDoor
open Go.RowKit Go.Shelf
/-- a stamp that passes -/
def stOk (x : StP) : Prop := nameE x.1 = 0 ∧ (0 ≤ x.2.1 ∧ x.2.1 ≤ 1099511627776) ∧ rightN x.2.2 = true
def leS (x y : StP) : Prop := x.2.1 ≤ y.2.1
/-- stamps that the call can take -/
def stWf (x : StP) : Prop := x.1.size ≤ 4611686018427387904 ∧ x.2.2 < 2 ^ 64
/-- what Check lets pass -/
def ChkS (l : List StP) : Prop := l.length ≤ 200 ∧ OkL stOk leS l
theorem right_w {a : Nat} (ha : a < 2 ^ 64) (w : World) : Calls Tryd.prog 130 #[.float .f64 a] w fun e w' => e = .returned (.bool (rightN a)) ∧ w = w' := by
  have : a = un (BitVec.ofNat 64 a) := by unfold un; rw [BitVec.toNat_ofNat]; omega
  rw [this]
  exact right_ok _ w
theorem get_D {l : List StP} {k : Nat} (h : k < l.length) : l[k]? = some (l.getD k default) := by
  rw [List.getD_eq_getElem?_getD, List.getElem?_eq_getElem h]; rfl
theorem chk_not {l : List StP} {k : Nat} (h : k < l.length) (hx : ¬ stOk (l.getD k default)) : ¬ ChkS l := fun hc => hx (hc.2.1 _ (List.mem_of_getElem? (get_D h)))
theorem take_all {l : List StP} {k : Nat} {P : StP → Prop} (h : ∀ x ∈ l.take k, P x) (hk : k < l.length) (hx : P (l.getD k default)) : ∀ x ∈ l.take (k + 1), P x := by
  intro x hm
  have e := get_D hk
  rw [List.take_add_one, e] at hm
  rcases List.mem_append.1 hm with hm | hm
  · exact h x hm
  · simp at hm; rw [hm]; simpa using hx
set_option maxHeartbeats 4000000 in
set_option maxRecDepth 100000 in
theorem LogCheck_ok (p : Option Addr) (n c : Nat) (l : List StP) (w : World) (h : StAt w p n c l) (hw : ∀ x ∈ l, stWf x) :
    Calls Tryd.prog 82 #[.slice p n c] w fun e w' => (∃ E : Int, e = .returned (.int .i64 E) ∧ ((E = 0 ∧ ChkS l) ∨ (E ≠ 0 ∧ ¬ ChkS l))) ∧ Below w.heap.size w w' := by
  have hl := h.len
  subst hl
  have hbig := h.big
  by_cases h2 : l.length ≤ 200
  · have H := Lib.hid h
    have HW := Lib.hid hw
    have h2i : ¬ (200 : Int) < (l.length : Int) := by omega
    clear h hw
    go_enter Tryd.func82, Tryd.ntmps82
    go_wp2_with fail
    go_loopw [11] (fun i wr => ∃ k : Nat, k ≤ l.length ∧ i = .int .i64 k ∧ Hid (∀ x ∈ l.take k, stOk x) ∧ Hid (Below w.heap.size w wr)) (fun i _ => l.length - (intOf i).toNat)
    case atStart => exact ⟨0, Nat.zero_le _, rfl, show ∀ x ∈ l.take 0, stOk x from by simp, Below.refl _ _⟩
    case round =>
      obtain ⟨k, hk, rfl, HA, HB⟩ := hrel
      by_cases hlt : k < l.length
      · obtain ⟨b, o, rfl, hbb, hc0, hc1, hc2⟩ := (H.out.below HB.out).cell (get_D hlt)
        have HX := Lib.hid (get_D hlt)
        have hwx := HW.out _ (List.mem_of_getElem? (get_D hlt))
        have HN := Lib.hid (chk_not hlt)
        have HT := Lib.hid (take_all HA.out hlt)
        generalize l.getD k default = x at *
        obtain ⟨s, at_, t⟩ := x
        simp only [sN, sA, sT] at hc0 hc1 hc2
        obtain ⟨X, hX⟩ : ∃ X : World, X = wr.alloc (.cells #[.string s, .int .i64 at_, .float .f64 t] 73) := ⟨_, rfl⟩
        have d0 : X.cell? ⟨wr.heap.size, 0, none⟩ = some (.string s) := by rw [hX, World.cell?_alloc_at _ _ _ _ rfl]; rfl
        have d1 : X.cell? ⟨wr.heap.size, 1, none⟩ = some (.int .i64 at_) := by rw [hX, World.cell?_alloc_at _ _ _ _ rfl]; rfl
        have d2 : X.cell? ⟨wr.heap.size, 2, none⟩ = some (.float .f64 t) := by rw [hX, World.cell?_alloc_at _ _ _ _ rfl]; rfl
        have HBX : Hid (Below w.heap.size w X) := by show Below _ _ _; rw [hX]; exact HB.out.alloc HB.out.size _
        have hki : (k : Int) < (l.length : Int) := by omega
        have HCN := Lib.hid (CheckN_ok s hwx.1 X)
        have HCR := Lib.hid (right_w hwx.2 X)
        have HNS : Hid (∀ hx : ¬ stOk (s, at_, t), ∀ E : Int, E ≠ 0 → (∃ E' : Int, (Ending.returned (.int .i64 E) : Ending) = .returned (.int .i64 E') ∧ ((E' = 0 ∧ ChkS l) ∨ (E' ≠ 0 ∧ ¬ ChkS l))) ∧ Below w.heap.size w X) := by
          show ∀ _, _
          exact fun hx E hE => ⟨⟨E, rfl, .inr ⟨hE, HN.out hx⟩⟩, HBX.out⟩
        clear hwx
        go_upto_region 6 with fail
        rw [← hX]
        clear hX hc0 hc1 hc2
        by_cases hn : nameE s = 0
        · have HNE := Lib.hid hn
          clear hn
          go_upto_region 8 with (go_at_call 104; refine HCN.out.mono ?_; rw [HNE.out]; rintro e w' ⟨rfl, rfl⟩)
          by_cases ha : at_ < 0
          · have g1 : decide (at_ < 0) = true := decide_eq_true ha
            have HST : Hid (¬ stOk (s, at_, t)) := by
              show ¬ _
              rintro ⟨_, ⟨q, _⟩, _⟩
              exact absurd q (by show ¬ (0 ≤ at_); omega)
            go_wp2_with fail
            go_ret
            exact HNS.out HST.out 4 (by decide)
          · have g1 : decide (at_ < 0) = false := decide_eq_false ha
            by_cases ha2 : 1099511627776 < at_
            · have HST : Hid (¬ stOk (s, at_, t)) := by
                show ¬ _
                rintro ⟨_, ⟨_, q⟩, _⟩
                exact absurd q (by show ¬ (at_ ≤ 1099511627776); omega)
              go_wp2_with fail
              go_ret
              exact HNS.out HST.out 4 (by decide)
            · cases hr : rightN t with
              | false =>
                have HST : Hid (¬ stOk (s, at_, t)) := by
                  show ¬ _
                  rintro ⟨_, _, q⟩
                  rw [hr] at q
                  cases q
                have HRE := Lib.hid hr
                clear hr
                go_wp2_with (go_at_call 130; refine HCR.out.mono ?_; rw [HRE.out]; rintro e w' ⟨rfl, rfl⟩)
                go_ret
                exact HNS.out HST.out 1 (by decide)
              | true =>
                have HST : Hid (stOk (s, at_, t)) := by
                  show _ ∧ _
                  exact ⟨HNE.out, ⟨by show 0 ≤ at_; omega, by show at_ ≤ _; omega⟩, hr⟩
                have HRE := Lib.hid hr
                clear hr
                go_wp2_with (go_at_call 130; refine HCR.out.mono ?_; rw [HRE.out]; rintro e w' ⟨rfl, rfl⟩)
                go_roundw
                case rel => exact ⟨k + 1, by omega, by go_num, HT.out HST.out, HBX.out⟩
                case measure => simp [intOf]; omega
        · have HST : Hid (¬ stOk (s, at_, t)) := by
            show ¬ _
            rintro ⟨q, _⟩
            exact hn q
          obtain ⟨N, hN⟩ : ∃ N, N = nameE s := ⟨_, rfl⟩
          rw [← hN] at HCN hn
          obtain ⟨i1, i2⟩ := int_ne' hn
          clear hN hn
          go_wp2_with (go_at_call 104; refine HCN.out.mono ?_; rintro e w' ⟨rfl, rfl⟩)
          go_ret
          exact HNS.out HST.out 3 (by decide)
      · obtain rfl : k = l.length := by omega
        have HAA : Hid (∀ x ∈ l, stOk x) := by
          show ∀ x ∈ l, _
          have := HA.out
          rw [List.take_length] at this
          exact this
        clear HA hlt
        have hmx : IntKind.i64.wrap ((l.length : Int) - 1) = (l.length : Int) - 1 := by rw [IntKind.wrap_i64]; omega
        go_wp2_with fail
        go_loopw [39, 5] (fun i _ wr2 => ∃ j : Nat, (j = 0 ∨ j + 1 ≤ l.length) ∧ i = .int .i64 j ∧ Hid (∀ i x y, i < j → l[i]? = some x → l[i + 1]? = some y → leS x y) ∧ Hid (Below w.heap.size w wr2)) (fun i _ _ => l.length - (intOf i).toNat)
        case atStart => exact ⟨0, .inl rfl, rfl, fun i x y h => absurd h (Nat.not_lt_zero _), HB.out⟩
        case round =>
          clear HB
          obtain ⟨j, hj, rfl, HR, HB⟩ := hrel
          by_cases hj1 : j + 1 < l.length
          · have e1 := get_D (show j < l.length by omega)
            have e2 := get_D hj1
            obtain ⟨b, o, rfl, hbb, hc0, hc1, hc2⟩ := (H.out.below HB.out).cell e1
            obtain ⟨b', o', e, _, hd0, hd1, hd2⟩ := (H.out.below HB.out).cell e2
            injection e with e
            injection e with q1 q2
            subst q1 q2
            have HE := Lib.hid (And.intro e1 e2)
            generalize l.getD j default = x at *
            generalize l.getD (j + 1) default = y at *
            simp only [sA] at hc1 hd1
            obtain ⟨xa, hxa⟩ : ∃ xa, xa = x.2.1 := ⟨_, rfl⟩
            obtain ⟨ya, hya⟩ : ∃ ya, ya = y.2.1 := ⟨_, rfl⟩
            rw [← hxa] at hc1
            rw [← hya] at hd1
            have HXY := Lib.hid (And.intro hxa hya)
            have hlt1 : (j : Int) < max ((l.length : Int) - 1) 0 := by omega
            have hlt2 : (j : Int) < (l.length : Int) := by omega
            have hlt3 : (j : Int) + 1 < (l.length : Int) := by omega
            clear e1 e2 hc0 hc2 hd0 hd2 hxa hya
            by_cases hle : ya < xa
            · go_wp2
              go_region
              all_goals go_wp2
              go_ret
              refine ⟨⟨3, rfl, .inr ⟨by decide, fun hc => ?_⟩⟩, HB.out.drew⟩
              have h4 := hc.2.2 j x y HE.out.1 HE.out.2
              have h5 : x.2.1 ≤ y.2.1 := h4
              rw [← HXY.out.1, ← HXY.out.2] at h5
              omega
            · go_wp2
              go_region
              all_goals go_wp2
              go_roundw
              case rel =>
                refine ⟨j + 1, .inr (by omega), by go_num, ?_, HB.out.drew⟩
                show ∀ i x y, _
                intro i x' y' hi h1 h2
                rcases Nat.lt_or_ge i j with hij | hij
                · exact HR.out i x' y' hij h1 h2
                · have : i = j := by omega
                  subst this
                  rw [HE.out.1] at h1
                  rw [HE.out.2] at h2
                  injection h1 with h1
                  injection h2 with h2
                  rw [← h1, ← h2]
                  show x.2.1 ≤ y.2.1
                  rw [← HXY.out.1, ← HXY.out.2]
                  omega
              case measure => simp [intOf]; omega
          · have hlt1 : ¬ (j : Int) < max ((l.length : Int) - 1) 0 := by omega
            go_wp2
            go_ret
            refine ⟨⟨0, rfl, .inl ⟨rfl, h2, HAA.out, fun i x y h1 h2 => HR.out i x y ?_ h1 h2⟩⟩, HB.out⟩
            have := (List.getElem?_eq_some_iff.1 h2).1
            omega
  · have h2i : (200 : Int) < (l.length : Int) := by omega
    clear h hw
    go_enter Tryd.func82, Tryd.ntmps82
    go_wp2_with fail
    go_ret
    exact ⟨⟨2, rfl, .inr ⟨by decide, fun hc => h2 hc.1⟩⟩, Below.refl _ _⟩
end Go.Proofs.YtlhhcgiifgkngaaDoor
