/- Texts joined: FileW, PairInfW, RuleLOW, Bulk2, MacroFactW, MacroArg. Conditions: theirs. -/
import Derived.Test.YtoiolepengcagaaGreatDoorGraphRightLWM4
import Derived.Test.YtoiolepengcagaaGreatDoorGraphRightLWM6
import Derived.Test.YtoiolepengcagaaGreatDoorBox2
import Derived.Lib.SplitLaws
import Derived.Deep.QuietTactic
import Derived.BigQuiet
import Derived.StillTailTactics
import Derived.Test.YtoiolepengcagaaGreatDoorGraphRightLWM1
import Derived.Test.YtoiolepengcagaaGreatDoorNamesW
import Derived.Test.YtoiolepengcagaaGreatDoorRows
import Derived.Test.YtoiolepengcagaaGreatDoorPairs
namespace Go.Proofs.YtoiolepengcagaaGreatDoor
open Go.RowKit Go.Shelf
theorem fst2_first {s : ByteArray} {x y : UInt8} {k : Nat} (h : fst2 x y s.data.toList = some k) : First2 s x y k := by
  obtain ⟨⟨c, h1, h2⟩, h3⟩ := fst2_some h
  have hk : k < s.size := by have := (List.getElem?_eq_some_iff.1 h1).1; rwa [← Lib.size_eq] at this
  have hc : s[k] = c := by have := ba_at hk; rw [h1] at this; injection this with this; exact this.symm
  exact ⟨hk, ⟨hk, by rw [hc]; exact h2⟩, fun j hj hl => h3 j hj _ (ba_at hl)⟩
theorem fst2_free {s : ByteArray} {x y : UInt8} (h : fst2 x y s.data.toList = none) : Free2 s x y := fun c hc => fst2_none.1 h c hc
theorem boxk {w w1 : World} {o : Obj} (hb : Below (w.alloc o).heap.size (w.alloc o) w1) : w1.heap[w.heap.size]? = some o := by
  rw [hb.block _ (by simp), rb_new]
def noTwo : Value := .agg #[.string ⟨#[]⟩, .string ⟨#[]⟩]
def defV (s : Bs) : Value := if defB s = true then .agg #[mF (defM s), mG (defM s)] else noTwo
set_option maxHeartbeats 2000000 in
theorem defines_ok (s : ByteArray) (hs : s.size ≤ 1048600) (w : World) :
    Calls Tryz.prog 39 #[.string s] w fun e w' => e = .returned (.tuple #[defV s.data.toList, .bool (defB s.data.toList)]) ∧ Below w.heap.size w w' := by
  have HB0 : Hid (∀ o, Below w.heap.size w (w.alloc o)) := fun o => (Below.refl _ _).alloc (Nat.le_refl _) _
  cases hf : fst2 61 58 s.data.toList with
  | none =>
    have HE : Hid (defB s.data.toList = false) := by show _ = _; unfold defB; rw [hf]
    have HI := Lib.hid (fun u => indexAny_none s 61 58 (by decide) (by decide) (by omega) (fst2_free hf) u)
    clear hf
    go_enter Tryz.func39, Tryz.ntmps39
    go_wp2_with (go_at_call 14; refine (HI.out _).mono ?_; rintro e w1 ⟨rfl, hb⟩; have hz := boxk hb; obtain ⟨c1, c2, c3⟩ := rb_cells hz; have hlt := hb.size; have HZ := Lib.hid hz; have HB1 := Lib.hid ((HB0.out _).trans (hb.mono (HB0.out _).size)); clear hb hz)
    refine bodyPost_ret (v := .tuple #[noTwo, .bool false]) (rb_ct Tryz.results39 _ _ w.heap.size 86 _ (0, 0) _ _ rfl rfl (rb_all HZ.out _ _) Tryz.underlying86 rfl (by kernel_rfl)) rfl ⟨by unfold defV; rw [HE.out]; rfl, rb_below HB1.out (Nat.le_refl _) _ _⟩
  | some k =>
    have h1 := fst2_first hf
    have hk := h1.1
    have HI := Lib.hid (fun u => indexAny_some s 61 58 (by decide) (by decide) (by omega) k h1 u)
    have hat := h1.here
    obtain ⟨c, hc⟩ : ∃ c, s[k] = c := ⟨_, rfl⟩
    have hck : s.data.toList[k]? = some c := by rw [ba_at hk, hc]
    have hk63 : (k : Int) ≤ 1048600 := by omega
    by_cases h58 : c = 58
    · have HE : Hid (defB s.data.toList = false) := by show _ = _; unfold defB; rw [hf]; simp only [hck, h58]; decide
      subst h58
      clear hf h1 hat hck
      go_enter Tryz.func39, Tryz.ntmps39
      go_wp2_with (go_at_call 14; refine (HI.out _).mono ?_; rintro e w1 ⟨rfl, hb⟩; have hz := boxk hb; obtain ⟨c1, c2, c3⟩ := rb_cells hz; have hlt := hb.size; have HZ := Lib.hid hz; have HB1 := Lib.hid ((HB0.out _).trans (hb.mono (HB0.out _).size)); clear hb hz)
      refine bodyPost_ret (v := .tuple #[noTwo, .bool false]) (rb_ct Tryz.results39 _ _ w.heap.size 86 _ (0, 0) _ _ rfl rfl (rb_all HZ.out _ _) Tryz.underlying86 rfl (by kernel_rfl)) rfl ⟨by unfold defV; rw [HE.out]; rfl, rb_below HB1.out (Nat.le_refl _) _ _⟩
    · have h61 : c = 61 := by
        rcases hat with e | e
        · rw [hc] at e; exact e
        · rw [hc] at e; exact absurd e h58
      have hb1 : defB s.data.toList = true := by unfold defB; rw [hf]; simp only [hck, h61]; decide
      have hix : Lib.indexByte s.data.toList 61 = k := by
        obtain ⟨k', g1, _, g3⟩ := defB_at hb1
        rw [hf] at g1
        injection g1 with g1
        rw [g3, g1]
      have HE := Lib.hid hb1
      have HM : Hid (Value.string (trm (s.extract 0 k)) = mF (defM s.data.toList) ∧ Value.string (trm (s.extract (k + 1) s.size)) = mG (defM s.data.toList)) := by
        show _ ∧ _
        unfold mF mG defM trm
        rw [hix, Int.toNat_natCast, Lib.extract_from_zero, Lib.extract_to_end]
        exact ⟨rfl, rfl⟩
      have HS := Lib.hid (fun u => Split_yes s 61 u k hix hk (by omega))
      subst h61
      clear hf h1 hat hck hix hb1 h58
      go_enter Tryz.func39, Tryz.ntmps39
      go_wp2_with (first
        | (go_at_call 14; refine (HI.out _).mono ?_; rintro e w1 ⟨rfl, hb⟩; have HX1 := Lib.hid hb; clear hb)
        | (go_at_call 73; refine (HS.out _).mono ?_; rintro e w2 ⟨rfl, hb⟩; have hb2 := HX1.out.trans (hb.mono HX1.out.size); have hz := boxk hb2; obtain ⟨c1, c2, c3⟩ := rb_cells hz; have hlt := hb2.size; have HZ := Lib.hid hz; have HB1 := Lib.hid ((HB0.out _).trans (hb2.mono (HB0.out _).size)); clear hb hb2 hz))
      refine bodyPost_ret (v := .tuple #[.agg #[.string (trm (s.extract 0 k)), .string (trm (s.extract (k + 1) s.size))], .bool true]) (rb_ct Tryz.results39 _ _ w.heap.size 86 _ (0, 0) _ _ rfl rfl (rb_all HZ.out _ _) Tryz.underlying86 rfl (by kernel_rfl)) rfl ⟨by unfold defV; rw [HE.out, HM.out.1, HM.out.2]; rfl, rb_below HB1.out (Nat.le_refl _) _ _⟩
end Go.Proofs.YtoiolepengcagaaGreatDoor
namespace Go.Proofs.YtoiolepengcagaaGreatDoor
open Go.RowKit Go.Shelf
theorem parts_len (s : ByteArray) : (partsB s).length = Lib.countB s ⟨#[46]⟩ + 1 := Lib.splitB_all ⟨#[46]⟩ (by decide) 0 _ s rfl
def pairV (s : ByteArray) : Value := if pairB s = true then .agg #[.string (pairI s).1, .string (pairI s).2] else noTwo
theorem pairB_3 {s : ByteArray} (h : (partsB s).length ≠ 3) : pairB s = false := by
  unfold pairB
  rw [decide_eq_false h]
  rfl
theorem pairB_of {s p0 p1 p2 : ByteArray} (h : partsB s = [p0, p1, p2]) : pairB s = (p0.toList.isEmpty && !p1.toList.isEmpty && !p2.toList.isEmpty && !Lib.contains s.data.toList [47]) ∧ pairI s = ((⟨#[46]⟩ : ByteArray) ++ p1, (⟨#[46]⟩ : ByteArray) ++ p2) := by
  unfold pairB pairI
  rw [h]
  exact ⟨by simp, rfl⟩
theorem splitB_size (sep : ByteArray) : ∀ (k : Nat) (s : ByteArray), ∀ x ∈ Lib.splitB sep 0 k s, x.size ≤ s.size := by
  intro k
  induction k with
  | zero => intro s x hx; rw [Lib.splitB_zero, List.mem_singleton] at hx; rw [hx]; exact Nat.le_refl _
  | succ k ih =>
    intro s x hx
    unfold Lib.splitB at hx
    split at hx
    · rw [List.mem_singleton.1 hx]; exact Nat.le_refl _
    · rcases List.mem_cons.1 hx with rfl | hx
      · rw [ByteArray.size_extract]; omega
      · have := ih _ x hx
        rw [ByteArray.size_extract] at this
        omega
theorem cat_run2 {P : Program} (a b : ByteArray) (h : a.size + b.size ≤ 4611686018427387904) : ∃ A : ByteArray, A = a ++ b ∧ ∀ w : World, (Op.stringOp .add a b).run P w = .ok (.string A) w := by
  refine ⟨a ++ b, rfl, fun w => ?_⟩
  have hm : IntKind.i64.max = 9223372036854775807 := rfl
  have : ¬ (((a.size + b.size : Nat) : Int) > IntKind.i64.max) := by rw [hm]; omega
  simp only [Op.stringOp]
  rw [if_neg this]
  rfl
set_option maxHeartbeats 4000000 in
set_option maxRecDepth 100000 in
theorem pair_ok (s : ByteArray) (hs : s.size ≤ 1048600) (w : World) (hM : MLm w) :
    Calls Tryz.prog 79 #[.string s] w fun e w' => e = .returned (.tuple #[pairV s, .bool (pairB s)]) ∧ Below w.heap.size w w' := by
  obtain ⟨W, hW⟩ : ∃ W, W = w.alloc (.cells #[.string ⟨#[]⟩, .string ⟨#[]⟩] 100) := ⟨_, rfl⟩
  have hBW : Below w.heap.size w W := by rw [hW]; exact (Below.refl _ _).alloc (Nat.le_refl _) _
  have hWs : W.heap.size = w.heap.size + 1 := by rw [hW]; simp
  have hz : W.heap[w.heap.size]? = some (.cells #[.string ⟨#[]⟩, .string ⟨#[]⟩] 100 (0, 0)) := by rw [hW]; exact rb_new w _
  obtain ⟨m, hm⟩ := hM.below hBW
  have hSp := Tryz.strings_Split s ⟨#[46]⟩ m W (by omega) hm (by decide)
  rw [show Lib.splitB ⟨#[46]⟩ 0 (Lib.countB s ⟨#[46]⟩) s = partsB s from rfl, ← parts_len] at hSp
  have HCT : Hid (∀ u, Below W.heap.size W u → Calls Tryz.prog 119 #[.string s, .string ⟨#[47]⟩] u fun e w' => e = .returned (.bool (Lib.contains s.data.toList [47])) ∧ u = w') := by
    show ∀ u, _
    intro u hu
    refine (Tryz.strings_Contains s ⟨#[47]⟩ m u (by omega) ((hu.cell (World.block_lt_of_cell? W _ hm)).trans hm)).mono ?_
    rintro e w' ⟨h1, h2⟩
    exact ⟨h1, h2.symm⟩
  obtain ⟨V, hV⟩ : ∃ V, V = W.alloc (.cells ((partsB s).map Value.string).toArray 9) := ⟨_, rfl⟩
  have hBV : Below W.heap.size W V := by rw [hV]; exact (Below.refl _ _).alloc (Nat.le_refl _) _
  rw [← hV] at hSp
  have HSp := Lib.hid hSp
  have hzV : V.heap[w.heap.size]? = some (.cells #[.string ⟨#[]⟩, .string ⟨#[]⟩] 100 (0, 0)) := by rw [hBV.block _ (by omega)]; exact hz
  obtain ⟨c1, c2, c3⟩ := rb_cells hzV
  have hlt : w.heap.size < V.heap.size := by have := hBV.size; omega
  have HZ := Lib.hid hzV
  have HB := Lib.hid (hBW.trans (hBV.mono hBW.size))
  have HBV := Lib.hid hBV
  have HWs := Lib.hid hWs
  by_cases h3 : (partsB s).length = 3
  · obtain ⟨p0, p1, p2, hp⟩ : ∃ p0 p1 p2, partsB s = [p0, p1, p2] := by
      match hq : partsB s, h3 with
      | [p0, p1, p2], _ => exact ⟨p0, p1, p2, rfl⟩
    have d0 : V.cell? ⟨W.heap.size, 0, none⟩ = some (.string p0) := by rw [hV, World.cell?_alloc_at _ _ _ _ rfl, hp]; rfl
    have d1 : V.cell? ⟨W.heap.size, 1, none⟩ = some (.string p1) := by rw [hV, World.cell?_alloc_at _ _ _ _ rfl, hp]; rfl
    have d2 : V.cell? ⟨W.heap.size, 2, none⟩ = some (.string p2) := by rw [hV, World.cell?_alloc_at _ _ _ _ rfl, hp]; rfl
    obtain ⟨hpb, hpi⟩ := pairB_of hp
    obtain ⟨A1, a1, r1⟩ := cat_run2 (P := Tryz.prog) ⟨#[46]⟩ p1 (by have := splitB_size ⟨#[46]⟩ _ s p1 (by show p1 ∈ partsB s; rw [hp]; simp); show 1 + _ ≤ _; omega)
    obtain ⟨A2, a2, r2⟩ := cat_run2 (P := Tryz.prog) ⟨#[46]⟩ p2 (by have := splitB_size ⟨#[46]⟩ _ s p2 (by show p2 ∈ partsB s; rw [hp]; simp); show 1 + _ ≤ _; omega)
    rw [← a1, ← a2] at hpi
    clear a1 a2
    rw [h3] at HSp
    have HPI := Lib.hid hpi
    obtain ⟨gb, hgb⟩ : ∃ gb, gb = Lib.contains s.data.toList [47] := ⟨_, rfl⟩
    rw [← hgb] at hpb HCT
    have HPB := Lib.hid hpb
    clear hpb
    clear hpi hp hSp hBV hV hz hzV hgb hWs hm hBW h3
    have HFN : Hid (∀ (hB : pairB s = false), (Ending.returned (.tuple #[noTwo, .bool false]) : Ending) = .returned (.tuple #[pairV s, .bool (pairB s)])) := fun hB => by unfold pairV; rw [hB]; rfl
    cases e0 : p0.toList.isEmpty with
    | false =>
      go_enter Tryz.func79, Tryz.ntmps79
      go_upto_region 1 with fail
      rw [← hW]
      clear hW
      go_upto_region 2 with (go_at_call 118; refine HSp.out.mono ?_; rintro e w1 ⟨rfl, rfl⟩)
      go_wp2_with (fail)
      refine bodyPost_ret (v := .tuple #[noTwo, .bool false]) (rb_ct Tryz.results79 _ _ w.heap.size 100 _ (0, 0) _ _ rfl rfl (rb_all HZ.out _ _) Tryz.underlying100 rfl (by kernel_rfl)) rfl ⟨HFN.out ?he, rb_below HB.out (Nat.le_refl _) _ _⟩
      case he => rw [HPB.out]; simp [*]
    | true =>
      cases e1 : p1.toList.isEmpty with
      | true =>
        go_enter Tryz.func79, Tryz.ntmps79
        go_upto_region 1 with fail
        rw [← hW]
        clear hW
        go_upto_region 2 with (go_at_call 118; refine HSp.out.mono ?_; rintro e w1 ⟨rfl, rfl⟩)
        go_wp2_with (fail)
        refine bodyPost_ret (v := .tuple #[noTwo, .bool false]) (rb_ct Tryz.results79 _ _ w.heap.size 100 _ (0, 0) _ _ rfl rfl (rb_all HZ.out _ _) Tryz.underlying100 rfl (by kernel_rfl)) rfl ⟨HFN.out ?he, rb_below HB.out (Nat.le_refl _) _ _⟩
        case he => rw [HPB.out]; simp [*]
      | false =>
        cases e2 : p2.toList.isEmpty with
        | true =>
          go_enter Tryz.func79, Tryz.ntmps79
          go_upto_region 1 with fail
          rw [← hW]
          clear hW
          go_upto_region 2 with (go_at_call 118; refine HSp.out.mono ?_; rintro e w1 ⟨rfl, rfl⟩)
          go_wp2_with (fail)
          refine bodyPost_ret (v := .tuple #[noTwo, .bool false]) (rb_ct Tryz.results79 _ _ w.heap.size 100 _ (0, 0) _ _ rfl rfl (rb_all HZ.out _ _) Tryz.underlying100 rfl (by kernel_rfl)) rfl ⟨HFN.out ?he, rb_below HB.out (Nat.le_refl _) _ _⟩
          case he => rw [HPB.out]; simp [*]
        | false =>
          cases gb with
          | true =>
            go_enter Tryz.func79, Tryz.ntmps79
            go_upto_region 1 with fail
            rw [← hW]
            clear hW
            go_upto_region 2 with (go_at_call 118; refine HSp.out.mono ?_; rintro e w1 ⟨rfl, rfl⟩)
            go_wp2_with (go_at_call 119; refine (HCT.out _ HBV.out).mono ?_; rintro e w' ⟨rfl, rfl⟩)
            refine bodyPost_ret (v := .tuple #[noTwo, .bool false]) (rb_ct Tryz.results79 _ _ w.heap.size 100 _ (0, 0) _ _ rfl rfl (rb_all HZ.out _ _) Tryz.underlying100 rfl (by kernel_rfl)) rfl ⟨HFN.out ?he, rb_below HB.out (Nat.le_refl _) _ _⟩
            case he => rw [HPB.out]; simp [*]
          | false =>
            go_enter Tryz.func79, Tryz.ntmps79
            go_upto_region 1 with fail
            rw [← hW]
            clear hW
            go_upto_region 2 with (go_at_call 118; refine HSp.out.mono ?_; rintro e w1 ⟨rfl, rfl⟩)
            go_wp2_with (go_at_call 119; refine (HCT.out _ HBV.out).mono ?_; rintro e w' ⟨rfl, rfl⟩)
            have hyes : pairB s = true := by rw [HPB.out, e0, e1, e2]; rfl
            have HYES := Lib.hid hyes
            clear e0 e1 e2 HCT HPB HFN HSp HBV hyes
            go_still_tail 9, (by kernel_rfl)
            go_wp2
            refine bodyPost_ret (v := .tuple #[.agg #[.string A1, .string A2], .bool true]) (rb_ct Tryz.results79 _ _ w.heap.size 100 _ (0, 0) _ _ rfl rfl (rb_all HZ.out _ _) Tryz.underlying100 rfl (by kernel_rfl)) rfl ⟨?he, (rb_below HB.out (Nat.le_refl _) _ _).drew⟩
            case he => unfold pairV; rw [HYES.out, HPI.out]; rfl
  · have hne : ((((partsB s).length : Nat) : Int) == 3) = false ∧ ((((partsB s).length : Nat) : Int) != 3) = true := by
      have : ¬ (((partsB s).length : Nat) : Int) = 3 := by omega
      exact ⟨by simpa using this, by simpa using this⟩
    have HE := Lib.hid (pairB_3 h3)
    obtain ⟨i1, i2⟩ := hne
    generalize (partsB s).length = nn at *
    clear hSp hBV hV hz hzV hWs hm hBW h3
    go_enter Tryz.func79, Tryz.ntmps79
    go_upto_region 1 with fail
    rw [← hW]
    clear hW
    go_wp2_with (go_at_call 118; refine HSp.out.mono ?_; rintro e w1 ⟨rfl, rfl⟩)
    refine bodyPost_ret (v := .tuple #[noTwo, .bool false]) (rb_ct Tryz.results79 _ _ w.heap.size 100 _ (0, 0) _ _ rfl rfl (rb_all HZ.out _ _) Tryz.underlying100 rfl (by kernel_rfl)) rfl ⟨by unfold pairV; rw [HE.out]; rfl, rb_below HB.out (Nat.le_refl _) _ _⟩
end Go.Proofs.YtoiolepengcagaaGreatDoor
namespace Go.Proofs.YtoiolepengcagaaGreatDoor
open Go.RowKit Go.Shelf
theorem own_belowR {w w' : World} {base e n k : Nat} {v : Value} {xs : List Value} (h : w.ownsRow base e k v n xs) (hb : Below w.heap.size w w') : w'.ownsRow base e k v n xs := by
  refine h.kept (row := none) ⟨hb.os, hb.tape, hb.output, hb.size, fun k hk _ => hb.block k hk⟩ ?_
  cases hv : v.ownBlock
  · exact .inl rfl
  · exact .inr (by simp)
/-- a row of strings of the call's own, at its block -/
def RowS (w : World) (base g : Nat) (T : List ByteArray) : Prop := w.ownsRow base 9 1 (.slice (some ⟨g, 0, none⟩) T.length T.length) T.length (strsV T) ∧ (∀ s ∈ T, s.size ≤ 4611686018427387904) ∧ T.length ≤ 1048577
theorem RowS.nl {w : World} {base g : Nat} {T : List ByteArray} (h : RowS w base g T) : NL w (some ⟨g, 0, none⟩) T.length T.length T := NL_own h.1 h.2.1 (by have := h.2.2; omega)
theorem RowS.lt {w : World} {base g : Nat} {T : List ByteArray} (h : RowS w base g T) : base ≤ g ∧ g < w.heap.size := h.1.lt g rfl
theorem RowS.grown {w w' : World} {base g : Nat} {T : List ByteArray} {row : Option Nat} (h : RowS w base g T) (hg : w.grownBy w' row) (hr : row ≠ some g) : RowS w' base g T :=
  ⟨h.1.kept hg (.inr (fun e => hr e.symm)), h.2⟩
theorem RowS.below {w w' : World} {base g : Nat} {T : List ByteArray} (h : RowS w base g T) (hb : Below w.heap.size w w') : RowS w' base g T := ⟨own_belowR h.1 hb, h.2⟩
theorem RowS.weaken {w : World} {base b g : Nat} {T : List ByteArray} (h : RowS w base g T) (hb : b ≤ base) : RowS w b g T := by
  refine ⟨⟨h.1.1, ?_⟩, h.2⟩
  rcases h.1.2 with h1 | ⟨g', cap, cur, h1, h2, h3⟩
  · exact .inl h1
  · exact .inr ⟨g', cap, cur, h1, Nat.le_trans hb h2, h3⟩
/-- what Parse answers, and whose it is -/
def ParsePostO (w : World) (s : Bs) (e : Ending) (w' : World) : Prop :=
  (∃ v, e = .returned (.tuple #[v, .int .i64 (parseE s)]) ∧ ((parseE s ≠ 0 ∧ v = nilRule) ∨ (parseE s = 0 ∧ ∃ g1 g2, v = .agg #[.slice (some ⟨g1, 0, none⟩) (parseT s).length (parseT s).length, .slice (some ⟨g2, 0, none⟩) (parseN s).length (parseN s).length] ∧ RowS w' w.heap.size g1 (parseT s) ∧ RowS w' w.heap.size g2 (parseN s) ∧ g1 ≠ g2))) ∧ Below w.heap.size w w'
theorem RowS.move {w w' : World} {base g : Nat} {T : List ByteArray} (h : RowS w base g T) (hc : w'.heap[g]? = w.heap[g]?) : RowS w' base g T := by
  refine ⟨⟨h.1.1, ?_⟩, h.2⟩
  rcases h.1.2 with h1 | ⟨g', cap, cur, h1, h2, h3, h4⟩
  · exact .inl h1
  · injection h1 with e1 e2 e3
    injection e1 with e1
    injection e1 with e1
    subst e1
    exact .inr ⟨g, cap, cur, by rw [e3], h2, hc.trans h3, h4⟩
set_option maxHeartbeats 4000000 in
theorem ParseRO_ok (s : ByteArray) (w : World) (hs : s.size ≤ 1048576) : Calls Tryz.prog 42 #[.string s] w (ParsePostO w s.data.toList) := by
  have HB0 : Hid (∀ o, Below w.heap.size w (w.alloc o)) := fun o => (Below.refl _ _).alloc (Nat.le_refl _) _
  have hz0 : (w.alloc (.cells #[.slice none 0 0, .slice none 0 0] 61)).heap[w.heap.size]? = some (.cells #[.slice none 0 0, .slice none 0 0] 61 (0, 0)) := rb_new w _
  have HZ0 := Lib.hid hz0
  clear hz0
  rcases Int.lt_or_le (Lib.indexByte s.data.toList 58) 0 with hi | hi
  · have hi1 : Lib.indexByte s.data.toList 58 = -1 := by have := (indexByte_ge s.data.toList 58).1; omega
    have HE : Hid (parseE s.data.toList = 3) := by show _ = _; unfold parseE; rw [if_pos hi]
    have HS := Lib.hid (fun u => Split_no s 58 u hi1)
    clear hi hi1
    go_enter Tryz.func42, Tryz.ntmps42
    go_wp2_with (go_at_call 73; refine (HS.out _).mono ?_; rintro e w1 ⟨rfl, rfl⟩)
    refine bodyPost_ret (v := .tuple #[.agg #[.slice none 0 0, .slice none 0 0], .int .i64 3]) (rb_ct Tryz.results42 _ _ w.heap.size 61 _ (0, 0) _ _ rfl rfl HZ0.out Tryz.underlying61 rfl (by kernel_rfl)) rfl ⟨⟨nilRule, by rw [HE.out]; rfl, .inl ⟨by rw [HE.out]; decide, rfl⟩⟩, HB0.out _⟩
  · obtain ⟨k, hk⟩ := Int.eq_ofNat_of_zero_le hi
    have hks : k < s.size := by have := index_lt hk; rwa [← Lib.size_eq] at this
    have hkn : (Lib.indexByte s.data.toList 58).toNat = k := by omega
    have HE : Hid (parseE s.data.toList = ruleE (parseT s.data.toList) (parseN s.data.toList)) := by show _ = _; unfold parseE; rw [if_neg (by omega)]
    have eT : wb (trm (s.extract 0 k)).data.toList = parseT s.data.toList := by rw [wb_trm]; unfold parseT; rw [hkn, Lib.extract_from_zero]
    have eN : wb (trm (s.extract (k + 1) s.size)).data.toList = parseN s.data.toList := by rw [wb_trm]; unfold parseN; rw [hkn, Lib.extract_to_end]
    have sT : (trm (s.extract 0 k)).size ≤ 1048576 := by have := trm_size (s.extract 0 k); rw [ByteArray.size_extract] at this; omega
    have sN : (trm (s.extract (k + 1) s.size)).size ≤ 1048576 := by have := trm_size (s.extract (k + 1) s.size); rw [ByteArray.size_extract] at this; omega
    have HS := Lib.hid (fun u => Split_yes s 58 u k hk hks (by omega))
    have HWT := Lib.hid (fun u => Words_ok _ u sT)
    have HWN := Lib.hid (fun u => Words_ok _ u sN)
    rw [eT] at HWT
    rw [eN] at HWN
    have HLT := Lib.hid (show (parseT s.data.toList).length ≤ 1048577 from by rw [← eT]; have := wb_len (trm (s.extract 0 k)).data.toList; rw [ba_len] at this; omega)
    have HLN := Lib.hid (show (parseN s.data.toList).length ≤ 1048577 from by rw [← eN]; have := wb_len (trm (s.extract (k + 1) s.size)).data.toList; rw [ba_len] at this; omega)
    clear sT sN eT eN hk hkn hi
    generalize trm (s.extract 0 k) = a at *
    generalize trm (s.extract (k + 1) s.size) = b at *
    obtain ⟨T, hT⟩ : ∃ T, T = parseT s.data.toList := ⟨_, rfl⟩
    obtain ⟨N, hN⟩ : ∃ N, N = parseN s.data.toList := ⟨_, rfl⟩
    rw [← hT] at HLT
    rw [← hN] at HLN
    rw [← hT, ← hN] at HE
    rw [← hT] at HWT
    rw [← hN] at HWN
    have HQT := Lib.hid hT
    have HQN := Lib.hid hN
    clear hT hN
    generalize s.data.toList = sl at *
    clear hs hks
    by_cases he : ruleE T N = 0
    · have HE0 := Lib.hid he
      clear he
      go_enter Tryz.func42, Tryz.ntmps42
      go_wp2_with (first
        | (go_at_call 73; refine (HS.out _).mono ?_; rintro e w1 ⟨rfl, hb⟩; have HB1 := Lib.hid ((HB0.out _).trans (hb.mono (HB0.out _).size)); have HX1 := Lib.hid hb; clear hb)
        | (go_at_call 66; (first
            | (have hq := HWT.out; clear HWT; refine (hq _).mono ?_; clear hq; rintro e w2 ⟨g, rfl, hown, hnl, hb⟩; have hg := hown.lt g rfl; have HN2 := Lib.hid hnl; have HR2 := Lib.hid (show RowS w2 _ g T from ⟨hown, hnl.at_.size, HLT.out⟩); have HB2 := Lib.hid (HB1.out.trans (hb.mono HB1.out.size)); have HX2 := Lib.hid (HX1.out.trans (hb.mono HX1.out.size)); have HW12 := Lib.hid hb; clear hown hnl hb)
            | (refine (HWN.out _).mono ?_; rintro e w3 ⟨g3, rfl, hown, hnl, hb⟩; have hg3 := hown.lt g3 rfl; have HN3 := Lib.hid hnl; have HR3 := Lib.hid (show RowS w3 _ g3 N from ⟨hown, hnl.at_.size, HLN.out⟩); have HR23 := Lib.hid (HR2.out.below hb); have HB3 := Lib.hid (HB2.out.trans (hb.mono HB2.out.size)); have HX3 := Lib.hid (HX2.out.trans (hb.mono HX2.out.size)); have HN23 := Lib.hid (HN2.out.below hb); clear hown hnl hb; have HC := Lib.hid (fun o => CheckR_ok (some ⟨g, 0, none⟩) (some ⟨g3, 0, none⟩) T.length T.length N.length N.length T N (w3.alloc o) (HN23.out.below ((Below.refl _ _).alloc (Nat.le_refl _) o)).weak (HN3.out.below ((Below.refl _ _).alloc (Nat.le_refl _) o)).weak (Nat.le_refl _) (Nat.le_refl _)))))
        | (go_at_call 77; refine (HC.out _).mono ?_; rw [HE0.out]; rintro e w4 ⟨rfl, hb⟩; have HB4 := Lib.hid hb; obtain ⟨hz, hy⟩ := rb_far HX3.out hb; obtain ⟨c1, c2, c3⟩ := rb_cells hz; obtain ⟨d1, d2, d3⟩ := rb_cells hy; have HZ4 := Lib.hid hz; have hlt := HB3.out.size; clear hb hz hy d3))
      go_wp2
      refine bodyPost_ret (v := .tuple #[.agg #[.slice (some ⟨g, 0, none⟩) T.length T.length, .slice (some ⟨g3, 0, none⟩) N.length N.length], .int .i64 0]) (rb_ct Tryz.results42 _ _ w.heap.size 61 _ (0, 0) _ _ rfl rfl (rb_all HZ4.out _ _) Tryz.underlying61 rfl (by kernel_rfl)) rfl ?_
      have hb4 : Below w3.heap.size w3 w4 := ((Below.refl _ _).alloc (Nat.le_refl _) _).trans (HB4.out.mono (by simp))
      have hb5 : Below w.heap.size w w4 := HB3.out.trans (hb4.mono HB3.out.size)
      have hz1 := HX1.out.size
      simp only [World.size_alloc] at hz1
      have hz2 := HW12.out.size
      have hz3 := HX3.out.size
      have hz4 := hb4.size
      have hq : ∀ k, k ≠ w.heap.size → k < w3.heap.size → ((w4.setCell ⟨w.heap.size, 0, none⟩ (.slice (some ⟨g, 0, none⟩) T.length T.length)).setCell ⟨w.heap.size, 1, none⟩ (.slice (some ⟨g3, 0, none⟩) N.length N.length)).heap[k]? = w3.heap[k]? := fun k hk hl => by
        rw [heap_setCell_other _ _ _ _ hk, heap_setCell_other _ _ _ _ hk]
        exact hb4.block k hl
      refine ⟨⟨_, by rw [HE.out, HE0.out], .inr ⟨by rw [HE.out]; exact HE0.out, g, g3, ?_⟩⟩, rb_below hb5 (Nat.le_refl _) _ _⟩
      rw [← HQT.out, ← HQN.out]
      exact ⟨rfl, (HR23.out.move (hq g (by omega) (by omega))).weaken (by omega), (HR3.out.move (hq g3 (by omega) (by omega))).weaken (by omega), by omega⟩
    · obtain ⟨E, hE⟩ : ∃ E, E = ruleE T N := ⟨_, rfl⟩
      rw [← hE] at he HE
      obtain ⟨i1, i2⟩ := int_ne' he
      have HNE := Lib.hid he
      have HEE := Lib.hid hE
      clear he hE
      go_enter Tryz.func42, Tryz.ntmps42
      go_wp2_with (first
        | (go_at_call 73; refine (HS.out _).mono ?_; rintro e w1 ⟨rfl, hb⟩; have HB1 := Lib.hid ((HB0.out _).trans (hb.mono (HB0.out _).size)); have HX1 := Lib.hid hb; clear hb)
        | (go_at_call 66; (first
            | (have hq := HWT.out; clear HWT; refine (hq _).mono ?_; clear hq; rintro e w2 ⟨g, rfl, hown, hnl, hb⟩; have hg := hown.lt g rfl; have HN2 := Lib.hid hnl; have HR2 := Lib.hid (show RowS w2 _ g T from ⟨hown, hnl.at_.size, HLT.out⟩); have HB2 := Lib.hid (HB1.out.trans (hb.mono HB1.out.size)); have HX2 := Lib.hid (HX1.out.trans (hb.mono HX1.out.size)); have HW12 := Lib.hid hb; clear hown hnl hb)
            | (refine (HWN.out _).mono ?_; rintro e w3 ⟨g3, rfl, hown, hnl, hb⟩; have hg3 := hown.lt g3 rfl; have HN3 := Lib.hid hnl; have HR3 := Lib.hid (show RowS w3 _ g3 N from ⟨hown, hnl.at_.size, HLN.out⟩); have HR23 := Lib.hid (HR2.out.below hb); have HB3 := Lib.hid (HB2.out.trans (hb.mono HB2.out.size)); have HX3 := Lib.hid (HX2.out.trans (hb.mono HX2.out.size)); have HN23 := Lib.hid (HN2.out.below hb); clear hown hnl hb; have HC := Lib.hid (fun o => CheckR_ok (some ⟨g, 0, none⟩) (some ⟨g3, 0, none⟩) T.length T.length N.length N.length T N (w3.alloc o) (HN23.out.below ((Below.refl _ _).alloc (Nat.le_refl _) o)).weak (HN3.out.below ((Below.refl _ _).alloc (Nat.le_refl _) o)).weak (Nat.le_refl _) (Nat.le_refl _)))))
        | (go_at_call 77; refine (HC.out _).mono ?_; rw [← HEE.out]; rintro e w4 ⟨rfl, hb⟩; have HB4 := Lib.hid hb; obtain ⟨hz, hy⟩ := rb_far HX3.out hb; obtain ⟨c1, c2, c3⟩ := rb_cells hz; obtain ⟨d1, d2, d3⟩ := rb_cells hy; have HZ4 := Lib.hid hz; have hlt := HB3.out.size; clear hb hz hy d3))
      go_wp2
      refine bodyPost_ret (v := .tuple #[.agg #[.slice none 0 0, .slice none 0 0], .int .i64 E]) (rb_ct Tryz.results42 _ _ w.heap.size 61 _ (0, 0) _ _ rfl rfl (rb_all HZ4.out _ _) Tryz.underlying61 rfl (by kernel_rfl)) rfl ⟨⟨nilRule, by rw [HE.out]; rfl, .inl ⟨by rw [HE.out]; exact HNE.out, rfl⟩⟩, ?_⟩
      have hb4 : Below w3.heap.size w3 w4 := ((Below.refl _ _).alloc (Nat.le_refl _) _).trans (HB4.out.mono (by simp))
      exact rb_below (HB3.out.trans (hb4.mono HB3.out.size)) (Nat.le_refl _) _ _
end Go.Proofs.YtoiolepengcagaaGreatDoor
namespace Go.Proofs.YtoiolepengcagaaGreatDoor
open Go.ChangeShapes Go.RowKit Go.WideShapes
theorem bulk_sum {A H : Type} (wt : A → Nat) : ∀ (l : List A) (ds : List (DataW H)), l.length = ds.length → (∀ (i : Nat) (q : A) (d : DataW H), l[i]? = some q → ds[i]? = some d → wt q ≤ Rows.uptoBulk d) → (l.map wt).sum ≤ Rows.uptoBulkAll ds
  | [], _, _, _ => by simp
  | q :: l, [], h, _ => by simp at h
  | q :: l, d :: ds, h, hb => by
    have h1 := hb 0 q d rfl rfl
    have h2 := bulk_sum wt l ds (by simpa using h) (fun i q' d' e1 e2 => hb (i + 1) q' d' (by simpa using e1) (by simpa using e2))
    simp only [List.map_cons, List.sum_cons, Rows.uptoBulkAll]
    omega
theorem sum_mem {A : Type} (wt : A → Nat) {l : List A} {x : A} (h : x ∈ l) : wt x ≤ (l.map wt).sum := by
  induction l with
  | nil => cases h
  | cons y l ih =>
    simp only [List.map_cons, List.sum_cons]
    rcases List.mem_cons.1 h with rfl | h
    · omega
    · have := ih h; omega
theorem sum_len {A : Type} (wt : A → Nat) {l : List A} (h : ∀ x, 1 ≤ wt x) : l.length ≤ (l.map wt).sum := by
  induction l with
  | nil => simp
  | cons y l ih =>
    simp only [List.map_cons, List.sum_cons, List.length_cons]
    have := h y
    omega
/-- the slice of pairs that a law is handed, and its bulk -/
theorem p2_bulk {A B H : Type} {enc : TypeId × Value → H} {P : Program} {W : World} {fuel len cap : Nat} {a : Option Addr} {d : DataW H} {p : List MemPlace} {t e : TypeId} {f0 f1 : Field} (F : A → Value) (G : B → Value) (wf : A → Nat) (wg : B → Nat)
    (ht : P.underlying t = some (.slice e)) (he : P.underlying e = some (.struct #[f0, f1])) (ce : P.cellsOf e = 2) (o0 : f0.offset = 0) (o1 : f1.offset = 1) (c0 : P.cellsOf f0.type = 1) (c1 : P.cellsOf f1.type = 1)
    (hF : ∀ n v x, DataW.trod enc P W 0 (fun _ => true) true n f0.type [v] = some x → ∃ a, v = F a ∧ wf a ≤ Rows.uptoBulk x.1) (hG : ∀ n v x, DataW.trod enc P W 0 (fun _ => true) true n f1.type [v] = some x → ∃ b, v = G b ∧ wg b ≤ Rows.uptoBulk x.1)
    (hby : 16 ≤ P.bytesOf e) (hf : DataW.trod enc P W 0 (fun _ => true) true fuel t [.slice a len cap] = some (d, p)) (hsz : ∀ n, n ∈ d.weights P t → n ≤ reachBytes) :
    ∃ l : List (A × B), P2At (fun x => F x.1) (fun x => G x.2) W a len cap l ∧ (l.map fun x => wf x.1 + wg x.2 + 1).sum ≤ Rows.uptoBulk d := by
  rcases Go.Deep.open_slice_pairs ht he ce o0 o1 c0 c1 hf with ⟨h1, h2⟩ | ⟨ad, ln, cp, m, n, V0, V1, D0, D1, P0, P1, h1, _, h3, _, h5, h6, h7⟩
  · injection h1 with h1 _
    injection h1 with e1 e2 e3
    subst e1 e2 e3
    exact ⟨[], ⟨rfl, fun h => by omega, by omega⟩, by simp⟩
  · injection h1 with h1 _
    injection h1 with e1 e2 e3
    subst e1 e2 e3
    simp only [if_true] at h5
    subst h5
    have hex : ∀ i, i < len → ∃ q : A × B, (W.cell? (ad.add (i * 2)) = some (F q.1) ∧ W.cell? (ad.add (i * 2 + 1)) = some (G q.2)) ∧ wf q.1 ≤ Rows.uptoBulk (D0 i) ∧ wg q.2 ≤ Rows.uptoBulk (D1 i) := by
      intro i hi
      obtain ⟨k1, k2, k3, k4⟩ := h7 i (by omega)
      obtain ⟨x, hx, wx⟩ := hF _ _ _ k3
      obtain ⟨y, hy, wy⟩ := hG _ _ _ k4
      exact ⟨(x, y), ⟨by rw [k1, hx], by rw [k2, hy]⟩, wx, wy⟩
    obtain ⟨l, hl, hq⟩ := list_of len _ hex
    injection h6 with h6 _
    have hb := hsz ((len + (m - len)) * P.bytesOf e) (by
      rw [h6, DataW.weights, ht]
      simp)
    have hrb : reachBytes < 2 ^ 47 := reachBytes_lt
    have hmul : (len + (m - len)) * 16 ≤ (len + (m - len)) * P.bytesOf e := Nat.mul_le_mul_left _ hby
    refine ⟨l, ⟨hl, fun hn => ?_, by omega⟩, ?_⟩
    · obtain ⟨b, o, s⟩ := ad
      have hs : s = none := by
        have h0 := (h7 0 (by omega)).1
        simpa [Addr.add] using World.cell?_spot h0
      subst hs
      refine ⟨b, o, rfl, ?_, fun k x hx => ?_⟩
      · have := World.block_lt_of_cell? W _ (h7 0 (by omega)).1
        rwa [block_of_add] at this
      · have := (hq k x hx).1
        rw [Addr.add_lit, Addr.add_lit] at this
        exact this
    · have hsum := bulk_sum (fun x : A × B => wf x.1 + wg x.2 + 1) l ((List.range len).map fun i => DataW.agg [D0 i, D1 i]) (by simp [hl]) (fun i q d' e1 e2 => by
        have hi : i < len := by have := (List.getElem?_eq_some_iff.1 e1).1; omega
        rw [List.getElem?_map, List.getElem?_range hi] at e2
        have e3 : DataW.agg [D0 i, D1 i] = d' := by simpa using e2
        subst e3
        obtain ⟨_, w1, w2⟩ := hq i q e1
        simp only [Rows.uptoBulk, Rows.uptoBulkAll]
        omega)
      rw [h6]
      simp only [Rows.uptoBulk]
      omega
end Go.Proofs.YtoiolepengcagaaGreatDoor
namespace Go.Proofs.YtoiolepengcagaaGreatDoor
open Go.RowKit Go.Shelf Go.Maps
theorem mill_macro : expandE okM [(([97] : Bs), ([98] : Bs))] [36, 40, 97, 41] = (0, [98]) := by
  have hok : okM [97] = true := by decide
  have h1 : prs okM [98] = ([.t [98]], true) := prs_last (by decide)
  have h2 : prs okM [36, 40, 97, 41] = ([.t [], .c [97], .t []], true) := by
    have := prs_call (ok := okM) (a := []) (n := [97]) (by decide) (by decide) []
    rw [if_pos hok, prs_last (s := []) (by decide)] at this
    exact this
  have ht : tabT okM [(([97] : Bs), ([98] : Bs))] [97] = some [.t [98]] := by
    unfold tabT
    simp [h1]
  have hf : Flt (tabT okM [(([97] : Bs), ([98] : Bs))]) [97] (cmb (fun _ => none) [.t [98]]) := .mk ht _ (fun m hm => by simp [callsOf] at hm)
  have hc : cmb (fun _ => none) [.t [98]] = some [98] := by decide
  rw [hc] at hf
  have hF := flatF_is hf
  have hT : TabOk okM [(([97] : Bs), ([98] : Bs))] := by
    refine ⟨by simp, fun m hm => ?_, by simp [namesM], fun m hm u hu => ?_, fun m hm => ?_⟩
    · rw [List.mem_singleton.1 hm]; exact ⟨hok, by rw [h1]⟩
    · rw [List.mem_singleton.1 hm] at hu
      simp [h1, callsOf] at hu
    · rw [List.mem_singleton.1 hm]; exact ⟨_, hf⟩
  have hL : ¬ Larges okM [(([97] : Bs), ([98] : Bs))] := by
    rintro ⟨m, hm, e⟩
    rw [List.mem_singleton.1 hm, hF] at e
    cases e
  rw [expandE_at ⟨hT, hL⟩]
  have hz : (expandR okM (namesM [(([97] : Bs), ([98] : Bs))]) (flatF okM [(([97] : Bs), ([98] : Bs))]) [36, 40, 97, 41]).1 = 0 := by
    rw [expandR_zero, h2]
    refine ⟨rfl, fun u hu => ?_, ?_⟩
    · have : u = [97] := by simpa [callsOf] using hu
      rw [this]; simp [namesM]
    · simp [lrg, noneT, evalT, pieceM, hF]
  refine Prod.ext hz ?_
  rw [expandR_text, if_pos hz, h2]
  simp [evalT, pieceM, hF]
end Go.Proofs.YtoiolepengcagaaGreatDoor
namespace Go.Proofs.YtoiolepengcagaaGreatDoor
open Go.RowKit Go.Shelf Go.Maps Go.ChangeShapes Go.WideShapes
def MacsAt (w : World) (v : Value) (_ : Unit) : Prop := ∃ p n c l, v = .slice p n c ∧ MacsIn w p n c l ∧ (p = none → c = 0) ∧ n ≤ 1048576 ∧ ∀ ad, p = some ad → ad.spot = none
def MacAt (_w : World) (v : Value) (_ : Unit) : Prop := ∃ m : Mac, v = .agg #[mF m, mG m] ∧ m.1.length ≤ 1048576 ∧ m.2.length ≤ 1048576
theorem strb {H : Type} {enc : TypeId × Value → H} {W : World} : ∀ n v x, DataW.trod enc Tryz.prog W 0 (fun _ => true) true n 9 [v] = some x → ∃ a : ByteArray, v = Value.string a ∧ a.size ≤ Rows.uptoBulk x.1 := by
  intro n v x h
  obtain ⟨s, e, hx, hs⟩ := DataW.trod_string Tryz.underlying9 h
  injection e with e _
  refine ⟨s, e, ?_⟩
  rw [hx, Lib.size_eq]
  simp only [Rows.uptoBulk]
  omega
theorem mslice_cap {P : Program} {W : World} {b0 : Nat} {r : Reach} {a : Option Addr} {len cap : Nat} {t e : TypeId} (ht : P.underlying t = some (.slice e)) (h : Value.okWide P W r b0 t (.slice a len cap)) : len ≤ cap ∧ (a = none → cap = 0) ∧ ∀ ad, a = some ad → ad.spot = none := by
  simp only [Value.okWide, ht, Cell.okWide] at h
  unfold Cell.ok at h
  rw [ht] at h
  cases a with
  | none =>
    revert h
    cases len <;> cases cap <;> simp
  | some ad => exact ⟨h.1, fun e => (by cases e), fun ad' e => by injection e with e; subst e; exact h.2.2.2.1⟩
set_option maxRecDepth 100000 in
theorem macs_arg_upto {H : Type} {enc : TypeId × Value → H} {W : World} {r : Reach} {b0 : Nat} {v : Value} {d : DataW H} {p : List MemPlace}
    (hok : Value.okWide Tryz.prog W r b0 39 v) (hf : DataW.Trod enc Tryz.prog W 0 (fun _ => true) true 39 v d p)
    (hsz : ∀ n, n ∈ d.weights Tryz.prog 39 → n ≤ reachBytes) (hbk : Rows.uptoBulk d ≤ 1048576) : ∃ g, MacsAt W v g := by
  obtain ⟨a0, n0, c0, rfl⟩ := Go.WideShapes.okWide_slice Tryz.underlying39 hok
  obtain ⟨fuel, hf⟩ := hf
  obtain ⟨l, hE, hB⟩ := p2_bulk (A := ByteArray) (B := ByteArray) (fun a => Value.string a) (fun a => Value.string a) (fun a => a.size) (fun a => a.size) Tryz.underlying39 Tryz.underlying86 (by kernel_rfl) rfl rfl (by kernel_rfl) (by kernel_rfl) strb strb (by decide +kernel) hf hsz
  obtain ⟨_, h2, h3⟩ := mslice_cap Tryz.underlying39 hok
  have hlen : n0 ≤ 1048576 := by
    have h1 := sum_len (fun x : ByteArray × ByteArray => x.1.size + x.2.size + 1) (l := l) (fun x => by omega)
    have h2 := hE.len
    omega
  refine ⟨(), a0, n0, c0, l.map (fun x => (x.1.data.toList, x.2.data.toList)), rfl, ⟨⟨by rw [List.length_map]; exact hE.len, fun h0 => ?_, hE.big⟩, fun m hm => ?_⟩, h2, hlen, h3⟩
  · obtain ⟨b, o, e, hb, hc⟩ := hE.at_ h0
    refine ⟨b, o, e, hb, fun k x hx => ?_⟩
    rw [List.getElem?_map, Option.map_eq_some_iff] at hx
    obtain ⟨y, hy, rfl⟩ := hx
    have := hc k y hy
    unfold mF mG
    simp only [list_txt]
    exact this
  · obtain ⟨y, hy, rfl⟩ := List.mem_map.1 hm
    have := sum_mem (fun x : ByteArray × ByteArray => x.1.size + x.2.size + 1) hy
    simp only at this ⊢
    rw [← Lib.size_eq, ← Lib.size_eq]
    omega
set_option maxRecDepth 100000 in
theorem mac_arg_upto {H : Type} {enc : TypeId × Value → H} {W : World} {r : Reach} {b0 : Nat} {v : Value} {d : DataW H} {p : List MemPlace}
    (hok : Value.okWide Tryz.prog W r b0 86 v) (hf : DataW.Trod enc Tryz.prog W 0 (fun _ => true) true 86 v d p)
    (_hsz : ∀ n, n ∈ d.weights Tryz.prog 86 → n ≤ reachBytes) (hbk : Rows.uptoBulk d ≤ 1048576) : ∃ g, MacAt W v g := by
  have ht := Tryz.underlying86
  have hok2 := hok
  simp only [Value.okWide, ht] at hok2
  obtain ⟨cs, rfl, hcs, ts, hts, _, hcell⟩ := hok2
  have hc4 : cs.size = 2 := by rw [hcs]; kernel_rfl
  obtain ⟨fuel, hf⟩ := hf
  obtain ⟨xs, k, _, hxy, hlen, hxl, hff⟩ := DataW.trod_struct ht hf
  obtain ⟨l, rfl⟩ : ∃ l : List Value, cs = l.toArray := ⟨cs.toList, by simp⟩
  have hl4 : l.length = 2 := by simpa using hc4
  match l, hl4, xs, hxl with
  | [v0, v1], _, [y0, y1], _ =>
    have s0 : Tryz.prog.cellsOf 9 = 1 := by kernel_rfl
    have g0 := hff 0 _ rfl
    have g1 := hff 1 _ rfl
    simp [s0, Value.cells] at g0 g1
    injection hxy with hd _
    obtain ⟨a, rfl, ha⟩ := strb _ _ _ g0
    obtain ⟨b, rfl, hb⟩ := strb _ _ _ g1
    rw [hd] at hbk
    simp only [List.map_cons, List.map_nil, Rows.uptoBulk, Rows.uptoBulkAll] at hbk
    refine ⟨(), (a.data.toList, b.data.toList), ?_, ?_, ?_⟩
    · unfold mF mG; simp only [list_txt]
    · show a.data.toList.length ≤ _
      rw [← Lib.size_eq]; omega
    · show b.data.toList.length ≤ _
      rw [← Lib.size_eq]; omega
end Go.Proofs.YtoiolepengcagaaGreatDoor
