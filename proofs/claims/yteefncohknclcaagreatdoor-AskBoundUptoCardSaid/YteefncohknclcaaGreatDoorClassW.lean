/- The walks through glob.odd and glob.class. Conditions: none. -/
import Derived.Test.YteefncohknclcaaGreatDoorPieceW
import Derived.Test.YteefncohknclcaaGreatDoorStr
import Derived.Test.YteefncohknclcaaGreatDoorShelf
import Derived.Deep.QuietTactic
import Derived.BigQuiet
namespace Go.Proofs.YteefncohknclcaaGreatDoor
open Go.RowKit
theorem odd_mem (c : UInt8) : decide (0 ≤ Lib.indexByte [91, 93, 92, 45, 33] c) = oddC c := by
  have h := (indexByte_ge [91, 93, 92, 45, 33] c).2
  unfold oddC
  rw [Bool.eq_iff_iff]
  simp only [decide_eq_true_eq, h, List.mem_cons, List.not_mem_nil, or_false, Bool.or_eq_true, beq_iff_eq]
  constructor
  · rintro (h | h | h | h | h) <;> simp [h]
  · rintro ((((h | h) | h) | h) | h) <;> simp [h]
set_option maxHeartbeats 1000000 in
theorem odd_ok (c : UInt8) (w : World) : Calls Tryz.prog 170 #[.int .u8 (c.toNat : Int)] w fun e w' => e = .returned (.bool (oddC c)) ∧ w = w' := by
  have HO := Lib.hid (odd_mem c)
  have HB := Lib.hid (byte_back c)
  go_enter Tryz.func170, Tryz.ntmps170
  go_wp2_with (go_at_call 152; refine (Tryz.strings_IndexByte _ _ _).mono ?_; rw [HB.out]; rintro e w' ⟨rfl, rfl⟩)
  go_ret
  exact ⟨by rw [← HO.out]; rfl, rfl⟩
theorem clsN_more {f g : Nat} {S : List B} {b : Bool} {s : Txt} (hf : s.length + 1 ≤ f) (hg : s.length + 1 ≤ g) : clsN f S b s = clsN g S b s := by
  induction f generalizing g S b s with
  | zero => omega
  | succ f ih =>
    obtain ⟨g, rfl⟩ : ∃ k, g = k + 1 := ⟨g - 1, by omega⟩
    cases s with
    | nil => rfl
    | cons c s =>
      unfold clsN
      split
      · rfl
      · simp only
        split
        · rfl
        · have := rngOf_le c s
          simp at hf hg
          exact ih (by omega) (by omega)
/-- a class, read on -/
def clsR (S : List B) (b : Bool) (s : Txt) : Option (List B × Txt) := clsN (s.length + 1) S b s
theorem clsR_nil (S : List B) (b : Bool) : clsR S b [] = none := rfl
theorem clsR_end (S : List B) (b : Bool) (s : Txt) : clsR S b (93 :: s) = if b then some (S, s) else none := by unfold clsR clsN; rfl
theorem clsR_cons (S : List B) (b : Bool) (c : UInt8) (s : Txt) (h : c ≠ 93) : clsR S b (c :: s) = if (oddC c || oddC (rngOf c s).1 || decide ((rngOf c s).1 < c)) = true then none else clsR (setN S c.toNat ((rngOf c s).1.toNat + 1 - c.toNat)) true (rngOf c s).2 := by
  show clsN (s.length + 1 + 1) S b (c :: s) = _
  unfold clsN
  rw [if_neg h]
  simp only
  split
  · rfl
  · unfold clsR
    have := rngOf_le c s
    exact clsN_more (by omega) (Nat.le_refl _)
theorem clsOf_not (s : Txt) : clsOf (33 :: s) = (clsR pc0.set false s).map fun x => (setTurn x.1, x.2) := rfl
theorem clsOf_plain {s : Txt} (h : ∀ t, s ≠ 33 :: t) : clsOf s = clsR pc0.set false s := by
  unfold clsOf
  split
  · rename_i t; exact absurd rfl (h t)
  · rfl
/-- what class answers -/
def ClassPost (s : Txt) (w : World) (e : Ending) (w' : World) : Prop :=
  Below w.heap.size w w' ∧ ((∃ (S : List B) (r : Txt) (x : ByteArray), clsOf s = some (S, r) ∧ x.data.toList = r ∧ e = .returned (.tuple #[pcV ⟨false, S⟩, .string x, .bool true])) ∨
  (clsOf s = none ∧ ∃ s1 s2 s3 s4 : B, e = .returned (.tuple #[.agg #[.bool false, .int .u64 (un s1 : Int), .int .u64 (un s2 : Int), .int .u64 (un s3 : Int), .int .u64 (un s4 : Int)], .string ⟨#[]⟩, .bool false])))
theorem byte_eq {c : UInt8} {n : Nat} (hn : n < 256) : (c = UInt8.ofNat n) ↔ c.toNat = n := by
  constructor
  · intro h; rw [h]; simp; omega
  · intro h; rw [← h]; simp
theorem byte_is (c : UInt8) : ((c.toNat : Int) == 93) = decide (c = 93) ∧ ((c.toNat : Int) != 93) = !decide (c = 93) ∧ ((c.toNat : Int) == 45) = decide (c = 45) ∧ ((c.toNat : Int) != 45) = !decide (c = 45) := by
  have h1 := byte_eq (c := c) (n := 93) (by omega)
  have h2 := byte_eq (c := c) (n := 45) (by omega)
  have e1 : ((c.toNat : Int) == 93) = decide (c = 93) := by
    rw [Bool.eq_iff_iff]; simp only [beq_iff_eq, decide_eq_true_eq]
    rw [show (93 : UInt8) = UInt8.ofNat 93 from rfl, h1]; omega
  have e2 : ((c.toNat : Int) == 45) = decide (c = 45) := by
    rw [Bool.eq_iff_iff]; simp only [beq_iff_eq, decide_eq_true_eq]
    rw [show (45 : UInt8) = UInt8.ofNat 45 from rfl, h2]; omega
  exact ⟨e1, by simp only [bne, e1], e2, by simp only [bne, e2]⟩
theorem PcOwn.drewN {w : World} {base b : Nat} {a : Bool} {S : List B} (h : PcOwn w base b a S) (k : Nat) : PcOwn (w.drewN k) base b a S := ⟨h.len, h.own⟩
theorem below_drewN {b : Nat} {w w1 : World} (h : Below b w w1) (k : Nat) : Below b w (w1.drewN k) := ⟨h.os, h.tape, h.output, h.size, h.block⟩
def strSize : Value → Nat
  | .string x => x.size
  | _ => 0
theorem str_full {x : ByteArray} {c : UInt8} {l : Txt} (h : x.data.toList = c :: l) : x.toList.isEmpty = false := by
  rw [Lib.toList_data, h]; rfl
theorem str_void {x : ByteArray} (h : x.data.toList = []) : x.toList.isEmpty = true := by
  rw [Lib.toList_data, h]; rfl
/-- how the range begins that stands behind its first byte -/
theorem rng_cases (c : UInt8) (y : ByteArray) : (∃ (t : UInt8) (z : ByteArray), 2 ≤ y.size ∧ (∃ h0 : 0 < y.size, y[0] = 45) ∧ (∃ h1 : 1 < y.size, y[1] = t) ∧ y.extract 2 y.size = z ∧ rngOf c y.data.toList = (t, z.data.toList) ∧ z.size + 2 = y.size) ∨
    (y.size < 2 ∧ rngOf c y.data.toList = (c, y.data.toList)) ∨ (∃ d : UInt8, 2 ≤ y.size ∧ (∃ h0 : 0 < y.size, y[0] = d) ∧ d ≠ 45 ∧ rngOf c y.data.toList = (c, y.data.toList)) := by
  have hl := ba_len y
  match hy : y.data.toList with
  | [] => right; left; rw [hy] at hl; simp at hl; exact ⟨by omega, rfl⟩
  | [a] =>
    right; left; rw [hy] at hl; simp at hl
    refine ⟨by omega, ?_⟩
    unfold rngOf
    split
    · rename_i h; simp at h
    · rfl
  | a :: b :: l =>
    rw [hy] at hl
    simp at hl
    have h0 : 0 < y.size := by omega
    have h1 : 1 < y.size := by omega
    have ha : y[0] = a := ba_get h0 (by rw [hy]; rfl)
    have hb : y[1] = b := ba_get h1 (by rw [hy]; rfl)
    by_cases h45 : a = 45
    · left
      subst h45
      refine ⟨b, _, by omega, ⟨h0, ha⟩, ⟨h1, hb⟩, rfl, ?_, ?_⟩
      · rw [ba_drop, hy]; rfl
      · rw [← ba_len, ba_drop, hy]; simp; omega
    · right; right
      refine ⟨a, by omega, ⟨h0, ha⟩, h45, ?_⟩
      unfold rngOf
      split
      · rename_i h; simp at h; exact absurd h.1 h45
      · rfl
theorem trim_not (s : ByteArray) : (Lib.hasPrefix s.data.toList [33] = true ∧ s.data.toList = 33 :: Lib.trimPrefix s.data.toList [33]) ∨ (Lib.hasPrefix s.data.toList [33] = false ∧ Lib.trimPrefix s.data.toList [33] = s.data.toList ∧ ∀ t, s.data.toList ≠ 33 :: t) := by
  unfold Lib.trimPrefix Lib.hasPrefix
  match hs : s.data.toList with
  | [] => right; exact ⟨rfl, rfl, fun t h => by cases h⟩
  | c :: l =>
    by_cases h : c = 33
    · subst h; left; exact ⟨by simp, by simp⟩
    · right
      have e : (33 == c) = false := by simpa using fun h2 : (33 : UInt8) = c => h h2.symm
      have e2 : List.isPrefixOf [33] (c :: l) = false := by simp [List.isPrefixOf, e]
      exact ⟨e2, by rw [e2]; rfl, fun t h2 => by injection h2 with h3 _; exact h h3⟩
theorem PcOwn.five {w : World} {base b : Nat} {a : Bool} {S : List B} (h : PcOwn w base b a S) :
    w.cell? ⟨b, 0, none⟩ = some (.bool a) ∧ w.cell? ⟨b, 1, none⟩ = some (.int .u64 (un (wd S 0) : Int)) ∧ w.cell? ⟨b, 2, none⟩ = some (.int .u64 (un (wd S 1) : Int)) ∧ w.cell? ⟨b, 3, none⟩ = some (.int .u64 (un (wd S 2) : Int)) ∧ w.cell? ⟨b, 4, none⟩ = some (.int .u64 (un (wd S 3) : Int)) :=
  ⟨h.cell0, h.cell (j := 0) (by omega), h.cell (j := 1) (by omega), h.cell (j := 2) (by omega), h.cell (j := 3) (by omega)⟩
theorem cls_join (s : ByteArray) {s0 : ByteArray} (h0 : s0.data.toList = Lib.trimPrefix s.data.toList [33]) :
    clsOf s.data.toList = if Lib.hasPrefix s.data.toList [33] = true then (clsR pc0.set false s0.data.toList).map (fun x => (setTurn x.1, x.2)) else clsR pc0.set false s0.data.toList := by
  rcases trim_not s with ⟨h1, h2⟩ | ⟨h1, h2, h3⟩
  · rw [if_pos h1, h0]
    conv => lhs; rw [h2]
    exact clsOf_not _
  · rw [if_neg (by rw [h1]; simp), h0, h2]
    exact clsOf_plain h3
theorem cls_fail (s : ByteArray) {s0 : ByteArray} (h0 : s0.data.toList = Lib.trimPrefix s.data.toList [33]) (hn : clsR pc0.set false s0.data.toList = none) : clsOf s.data.toList = none := by
  rw [cls_join s h0, hn]
  split <;> rfl
theorem below_five {b base : Nat} {w w1 : World} (h : Below base w w1) (hb : base ≤ b) (v0 v1 v2 v3 v4 : Value) :
    Below base w (((((w1.setCell ⟨b, 0, none⟩ v0).setCell ⟨b, 1, none⟩ v1).setCell ⟨b, 2, none⟩ v2).setCell ⟨b, 3, none⟩ v3).setCell ⟨b, 4, none⟩ v4) :=
  ((((h.setCell hb v0).setCell hb v1).setCell hb v2).setCell hb v3).setCell hb v4
set_option maxRecDepth 100000 in
set_option maxHeartbeats 8000000 in
theorem class_ok (s : ByteArray) (hs : s.size ≤ 100000) (w : World) : Calls Tryz.prog 156 #[.string s] w (ClassPost s.data.toList w) := by
  have HTR := Lib.hid (trim_not s)
  have hol : (w.alloc (.cells #[.bool false, .int .u64 0, .int .u64 0, .int .u64 0, .int .u64 0] 172)).ownsRow w.heap.size 172 1 (.slice (some ⟨w.heap.size, 0, none⟩) 5 5) (0 + 5) (pcL false pc0.set) := World.ownsRow_lit (size := 1) w #[.bool false, .int .u64 0, .int .u64 0, .int .u64 0, .int .u64 0] 5 (Nat.le_refl _) (by decide) rfl
  have hP0 : PcOwn (w.alloc (.cells #[.bool false, .int .u64 0, .int .u64 0, .int .u64 0, .int .u64 0] 172)) w.heap.size w.heap.size false pc0.set := ⟨rfl, hol⟩
  have hb0 : Below w.heap.size w (w.alloc (.cells #[.bool false, .int .u64 0, .int .u64 0, .int .u64 0, .int .u64 0] 172)) := (Below.refl _ _).alloc (Nat.le_refl _) _
  go_enter Tryz.func156, Tryz.ntmps156
  go_wp2_with (go_at_call 169; refine (Tryz.strings_CutPrefix _ _ _).mono ?_; rintro e w' ⟨rfl, rfl⟩)
  obtain ⟨s0, hs0⟩ : ∃ s0 : ByteArray, s0 = ⟨(Lib.trimPrefix s.data.toList [33]).toArray⟩ := ⟨_, rfl⟩
  have hs00 : s0.data.toList = Lib.trimPrefix s.data.toList [33] := by rw [hs0]
  have hs0s : s0.size ≤ 100000 := by
    rw [← ba_len, hs00]
    have := ba_len s
    rcases HTR.out with ⟨_, h⟩ | ⟨_, h, _⟩
    · rw [h] at this; simp at this; omega
    · rw [h, this]; exact hs
  have HS0 := Lib.hid hs00
  rw [show ({ data := (Lib.trimPrefix s.data.toList [33]).toArray } : ByteArray) = s0 from hs0.symm]
  clear hs0 hs00 hol
  go_loopw [0, 6] (fun v0 v6 wr => ∃ (x : ByteArray) (S : List B) (k : Nat), v0 = .string x ∧ v6 = .int .i64 k ∧ k + x.size ≤ 100000 ∧ Hid (clsR S (decide (0 < k)) x.data.toList = clsR pc0.set false s0.data.toList) ∧ PcOwn wr w.heap.size w.heap.size false S ∧ Below w.heap.size w wr) (fun v0 _ _ => strSize v0)
  case atStart => exact ⟨s0, pc0.set, 0, rfl, rfl, by omega, rfl, hP0, hb0⟩
  case round =>
    obtain ⟨x, S, k, rfl, rfl, hkx, HR, hP, hbr⟩ := hrel
    clear hP0 hb0
    match hx : x.data.toList with
    | [] =>
      have hE := str_void hx
      have HN : Hid (clsR pc0.set false s0.data.toList = none) := by show _ = none; rw [← HR.out, hx]; rfl
      obtain ⟨q0, q1, q2, q3, q4⟩ := hP.five
      have f0 := hP.own.frozenAt 0
      have f1 := hP.own.frozenAt 1
      have f2 := hP.own.frozenAt 2
      have f3 := hP.own.frozenAt 3
      have f4 := hP.own.frozenAt 4
      have hsz := hP.own
      have hx0 := ba_nil hx
      have HP := Lib.hid hP
      clear hx HR hP hsz
      generalize wd S 0 = s1 at *
      generalize wd S 1 = s2 at *
      generalize wd S 2 = s3 at *
      generalize wd S 3 = s4 at *
      go_wp2
      refine bodyPost_ret (v := .tuple #[.agg #[.bool false, .int .u64 (un s1 : Int), .int .u64 (un s2 : Int), .int .u64 (un s3 : Int), .int .u64 (un s4 : Int)], .string ⟨#[]⟩, .bool false]) (by simp [results, Tryz.results156, go_sem, q0, q1, q2, q3, q4]) rfl ⟨below_five hbr (Nat.le_refl _) _ _ _ _ _, .inr ⟨cls_fail s HS0.out HN.out, _, _, _, _, rfl⟩⟩
    | c :: l =>
      obtain ⟨h0, hx0, y, hy, hyl, hys⟩ := ba_cons hx
      have hE := str_full hx
      have hl2 := HR.out
      rw [hx] at hl2
      have HR2 := Lib.hid hl2
      obtain ⟨hb1, hb2, _, _⟩ := byte_is c
      by_cases h93 : c = 93
      · have HC : Hid (clsR S (decide (0 < k)) (c :: l) = if decide (0 < k) then some (S, l) else none) := by show _ = _; rw [h93]; exact clsR_end S _ l
        rw [decide_eq_true h93] at hb1 hb2
        have hk0 : k = 0 ∨ 0 < k := by omega
        have HYL := Lib.hid hyl
        obtain ⟨q0, q1, q2, q3, q4⟩ := hP.five
        have f0 := hP.own.frozenAt 0
        have f1 := hP.own.frozenAt 1
        have f2 := hP.own.frozenAt 2
        have f3 := hP.own.frozenAt 3
        have f4 := hP.own.frozenAt 4
        have HP := Lib.hid hP
        clear hx HR hl2 h93 hyl
        rcases hk0 with hk0 | hk0
        · have HN : Hid (clsR pc0.set false s0.data.toList = none) := by show _ = none; rw [← HR2.out, HC.out, if_neg (by simp [hk0])]
          subst hk0
          clear hP
          generalize wd S 0 = s1 at *
          generalize wd S 1 = s2 at *
          generalize wd S 2 = s3 at *
          generalize wd S 3 = s4 at *
          go_wp2
          refine bodyPost_ret (v := .tuple #[.agg #[.bool false, .int .u64 (un s1 : Int), .int .u64 (un s2 : Int), .int .u64 (un s3 : Int), .int .u64 (un s4 : Int)], .string ⟨#[]⟩, .bool false]) (by simp [results, Tryz.results156, go_sem, q0, q1, q2, q3, q4]) rfl ⟨below_five hbr (Nat.le_refl _) _ _ _ _ _, .inr ⟨cls_fail s HS0.out HN.out, _, _, _, _, rfl⟩⟩
        · have HY : Hid (clsR pc0.set false s0.data.toList = some (S, y.data.toList)) := by show _ = some _; rw [← HR2.out, HC.out, if_pos (by simpa using hk0), HYL.out]
          have hkb : ((k : Int) == 0) = false := by simp; omega
          cases hpf : Lib.hasPrefix s.data.toList [33]
          · have HCL : Hid (clsOf s.data.toList = some (S, y.data.toList)) := by show _ = _; rw [cls_join s HS0.out, hpf, HY.out]; rfl
            have HPV : Hid (pcV ⟨false, S⟩ = .agg #[.bool false, .int .u64 (un (wd S 0) : Int), .int .u64 (un (wd S 1) : Int), .int .u64 (un (wd S 2) : Int), .int .u64 (un (wd S 3) : Int)]) := rfl
            clear hP
            generalize wd S 0 = s1 at *
            generalize wd S 1 = s2 at *
            generalize wd S 2 = s3 at *
            generalize wd S 3 = s4 at *
            have i1 : (1 : Int) ≤ (x.size : Int) := by omega
            go_wp2
            go_region
            go_wp2
            refine bodyPost_ret (v := .tuple #[.agg #[.bool false, .int .u64 (un s1 : Int), .int .u64 (un s2 : Int), .int .u64 (un s3 : Int), .int .u64 (un s4 : Int)], .string y, .bool true]) (by simp [results, Tryz.results156, go_sem, q0, q1, q2, q3, q4]) rfl ⟨(below_five hbr (Nat.le_refl _) _ _ _ _ _).drew, .inl ⟨S, _, y, HCL.out, rfl, by rw [HPV.out]⟩⟩
          · have HCL : Hid (clsOf s.data.toList = some (setTurn S, y.data.toList)) := by show _ = _; rw [cls_join s HS0.out, hpf, HY.out]; rfl
            have i1 : (1 : Int) ≤ (x.size : Int) := by omega
            clear q0 q1 q2 q3 q4 f0 f1 f2 f3 f4
            go_wp2_with fail
            refine (turn_pc _ _ _ _ _ hP).mono ?_
            rintro e w2 ⟨rfl, hP2, hg2⟩
            have hbr2 := hbr.grown hg2 hbr.size (fun b hb => by cases hb; exact Nat.le_refl _)
            have HPV : Hid (pcV ⟨false, setTurn S⟩ = .agg #[.bool false, .int .u64 (un (wd (setTurn S) 0) : Int), .int .u64 (un (wd (setTurn S) 1) : Int), .int .u64 (un (wd (setTurn S) 2) : Int), .int .u64 (un (wd (setTurn S) 3) : Int)]) := rfl
            obtain ⟨q0, q1, q2, q3, q4⟩ := hP2.five
            have f0 := hP2.own.frozenAt 0
            have f1 := hP2.own.frozenAt 1
            have f2 := hP2.own.frozenAt 2
            have f3 := hP2.own.frozenAt 3
            have f4 := hP2.own.frozenAt 4
            clear hP hP2 hg2 hbr HP
            generalize wd (setTurn S) 0 = s1 at *
            generalize wd (setTurn S) 1 = s2 at *
            generalize wd (setTurn S) 2 = s3 at *
            generalize wd (setTurn S) 3 = s4 at *
            go_wp2
            go_region
            go_wp2
            refine bodyPost_ret (v := .tuple #[.agg #[.bool false, .int .u64 (un s1 : Int), .int .u64 (un s2 : Int), .int .u64 (un s3 : Int), .int .u64 (un s4 : Int)], .string y, .bool true]) (by simp [results, Tryz.results156, go_sem, q0, q1, q2, q3, q4]) rfl ⟨(below_five hbr2 (Nat.le_refl _) _ _ _ _ _).drew, .inl ⟨setTurn S, _, y, HCL.out, rfl, by rw [HPV.out]⟩⟩
      · rw [decide_eq_false h93] at hb1 hb2
        have HCN := Lib.hid (clsR_cons S (decide (0 < k)) c l h93)
        have HYL := Lib.hid hyl
        have hrc := rng_cases c y
        have hct := c.toNat_lt
        clear hx HR hl2 h93 hyl
        rcases hrc with ⟨t, z, hy2, ⟨hy0, hyc⟩, ⟨hy1, hyt⟩, hz, hrg, hzs⟩ | ⟨hy2, hrg⟩ | ⟨d, hy2, ⟨hy0, hyd⟩, hd, hrg⟩
        · skip
          have htt := t.toNat_lt
          have HRG := Lib.hid hrg
          clear hrg
          cases ho1 : oddC c
          · cases ho2 : oddC t
            · by_cases hlt : t.toNat < c.toNat
              · have HN : Hid (clsR pc0.set false s0.data.toList = none) := by show _ = none; rw [← HR2.out, HCN.out, ← HYL.out, HRG.out, if_pos (by simp only [ho1, ho2, Bool.false_or, decide_eq_true_eq]; exact UInt8.lt_iff_toNat_lt.2 hlt)]
                obtain ⟨q0, q1, q2, q3, q4⟩ := hP.five
                have f0 := hP.own.frozenAt 0
                have f1 := hP.own.frozenAt 1
                have f2 := hP.own.frozenAt 2
                have f3 := hP.own.frozenAt 3
                have f4 := hP.own.frozenAt 4
                clear hP HYL HRG HCN HR2
                generalize wd S 0 = s1 at *
                generalize wd S 1 = s2 at *
                generalize wd S 2 = s3 at *
                generalize wd S 3 = s4 at *
                go_wp2
                go_quiet (fail)
                go_wp2_with (first | (go_at_call 170; refine (odd_ok c _).mono ?_; rw [ho1]; rintro e w' ⟨rfl, rfl⟩) | (go_at_call 170; refine (odd_ok t _).mono ?_; rw [ho2]; rintro e w' ⟨rfl, rfl⟩))
                refine bodyPost_ret (v := .tuple #[.agg #[.bool false, .int .u64 (un s1 : Int), .int .u64 (un s2 : Int), .int .u64 (un s3 : Int), .int .u64 (un s4 : Int)], .string ⟨#[]⟩, .bool false]) (by simp [results, Tryz.results156, go_sem, q0, q1, q2, q3, q4]) rfl ⟨below_five (below_drewN hbr _) (Nat.le_refl _) _ _ _ _ _, .inr ⟨cls_fail s HS0.out HN.out, _, _, _, _, rfl⟩⟩
              · have hle : c.toNat ≤ t.toNat := by omega
                have HRN : Hid (clsR (setN S c.toNat (t.toNat + 1 - c.toNat)) (decide (0 < k + 1)) z.data.toList = clsR pc0.set false s0.data.toList) := by
                  show _ = _
                  rw [← HR2.out, HCN.out, ← HYL.out, HRG.out, if_neg (by simp only [ho1, ho2, Bool.false_or, decide_eq_true_eq]; exact fun h => absurd (UInt8.lt_iff_toNat_lt.1 h) (by omega))]
                  simp
                have hPd := fun q => hP.drewN q
                have HPD := Lib.hid hPd
                have HBD := Lib.hid hbr
                clear hP hPd HYL HRG HCN HR2 hbr hlt
                go_wp2
                go_quiet (fail)
                go_wp2_with (first | (go_at_call 170; refine (odd_ok c _).mono ?_; rw [ho1]; rintro e w' ⟨rfl, rfl⟩) | (go_at_call 170; refine (odd_ok t _).mono ?_; rw [ho2]; rintro e w' ⟨rfl, rfl⟩) | (go_at_call 157; refine (add_pc _ _ _ _ c.toNat t.toNat hct htt (by omega) _ (HPD.out _)).mono ?_; rintro e w2 ⟨rfl, hP2, hg2⟩))
                go_roundw
                case rel => exact ⟨z, _, k + 1, rfl, by go_num, by omega, HRN.out, hP2, (below_drewN HBD.out _).grown hg2 HBD.out.size (fun b hb => by cases hb; exact Nat.le_refl _)⟩
                case measure => simp [strSize]; omega
            · have HN : Hid (clsR pc0.set false s0.data.toList = none) := by show _ = none; rw [← HR2.out, HCN.out, ← HYL.out, HRG.out, if_pos (by simp [ho2])]
              obtain ⟨q0, q1, q2, q3, q4⟩ := hP.five
              have f0 := hP.own.frozenAt 0
              have f1 := hP.own.frozenAt 1
              have f2 := hP.own.frozenAt 2
              have f3 := hP.own.frozenAt 3
              have f4 := hP.own.frozenAt 4
              clear hP HYL HRG HCN HR2
              generalize wd S 0 = s1 at *
              generalize wd S 1 = s2 at *
              generalize wd S 2 = s3 at *
              generalize wd S 3 = s4 at *
              go_wp2
              go_quiet (fail)
              go_wp2_with (first | (go_at_call 170; refine (odd_ok c _).mono ?_; rw [ho1]; rintro e w' ⟨rfl, rfl⟩) | (go_at_call 170; refine (odd_ok t _).mono ?_; rw [ho2]; rintro e w' ⟨rfl, rfl⟩))
              refine bodyPost_ret (v := .tuple #[.agg #[.bool false, .int .u64 (un s1 : Int), .int .u64 (un s2 : Int), .int .u64 (un s3 : Int), .int .u64 (un s4 : Int)], .string ⟨#[]⟩, .bool false]) (by simp [results, Tryz.results156, go_sem, q0, q1, q2, q3, q4]) rfl ⟨below_five (below_drewN hbr _) (Nat.le_refl _) _ _ _ _ _, .inr ⟨cls_fail s HS0.out HN.out, _, _, _, _, rfl⟩⟩
          · have HN : Hid (clsR pc0.set false s0.data.toList = none) := by show _ = none; rw [← HR2.out, HCN.out, if_pos (by simp [ho1])]
            obtain ⟨q0, q1, q2, q3, q4⟩ := hP.five
            have f0 := hP.own.frozenAt 0
            have f1 := hP.own.frozenAt 1
            have f2 := hP.own.frozenAt 2
            have f3 := hP.own.frozenAt 3
            have f4 := hP.own.frozenAt 4
            clear hP HYL HRG HCN HR2
            generalize wd S 0 = s1 at *
            generalize wd S 1 = s2 at *
            generalize wd S 2 = s3 at *
            generalize wd S 3 = s4 at *
            go_wp2
            go_quiet (fail)
            go_wp2_with (go_at_call 170; refine (odd_ok c _).mono ?_; rw [ho1]; rintro e w' ⟨rfl, rfl⟩)
            refine bodyPost_ret (v := .tuple #[.agg #[.bool false, .int .u64 (un s1 : Int), .int .u64 (un s2 : Int), .int .u64 (un s3 : Int), .int .u64 (un s4 : Int)], .string ⟨#[]⟩, .bool false]) (by simp [results, Tryz.results156, go_sem, q0, q1, q2, q3, q4]) rfl ⟨below_five (below_drewN hbr _) (Nat.le_refl _) _ _ _ _ _, .inr ⟨cls_fail s HS0.out HN.out, _, _, _, _, rfl⟩⟩
        · skip
          have HRG := Lib.hid hrg
          clear hrg
          cases ho1 : oddC c
          · have HRN : Hid (clsR (setN S c.toNat (c.toNat + 1 - c.toNat)) (decide (0 < k + 1)) y.data.toList = clsR pc0.set false s0.data.toList) := by
              show _ = _
              rw [← HR2.out, HCN.out, ← HYL.out, HRG.out, if_neg (by simp [ho1])]
              simp
            have hPd := fun q => hP.drewN q
            have HPD := Lib.hid hPd
            have HBD := Lib.hid hbr
            clear hP hPd HYL HRG HCN HR2 hbr
            go_wp2
            go_quiet (fail)
            go_wp2_with (first | (go_at_call 170; refine (odd_ok c _).mono ?_; rw [ho1]; rintro e w' ⟨rfl, rfl⟩) | (go_at_call 157; refine (add_pc _ _ _ _ c.toNat c.toNat hct hct (by omega) _ (HPD.out _)).mono ?_; rintro e w2 ⟨rfl, hP2, hg2⟩))
            go_roundw
            case rel => exact ⟨y, _, k + 1, rfl, by go_num, by omega, HRN.out, hP2, (below_drewN HBD.out _).grown hg2 HBD.out.size (fun b hb => by cases hb; exact Nat.le_refl _)⟩
            case measure => simp [strSize]; omega
          · have HN : Hid (clsR pc0.set false s0.data.toList = none) := by show _ = none; rw [← HR2.out, HCN.out, if_pos (by simp [ho1])]
            obtain ⟨q0, q1, q2, q3, q4⟩ := hP.five
            have f0 := hP.own.frozenAt 0
            have f1 := hP.own.frozenAt 1
            have f2 := hP.own.frozenAt 2
            have f3 := hP.own.frozenAt 3
            have f4 := hP.own.frozenAt 4
            clear hP HYL HRG HCN HR2
            generalize wd S 0 = s1 at *
            generalize wd S 1 = s2 at *
            generalize wd S 2 = s3 at *
            generalize wd S 3 = s4 at *
            go_wp2
            go_quiet (fail)
            go_wp2_with (go_at_call 170; refine (odd_ok c _).mono ?_; rw [ho1]; rintro e w' ⟨rfl, rfl⟩)
            refine bodyPost_ret (v := .tuple #[.agg #[.bool false, .int .u64 (un s1 : Int), .int .u64 (un s2 : Int), .int .u64 (un s3 : Int), .int .u64 (un s4 : Int)], .string ⟨#[]⟩, .bool false]) (by simp [results, Tryz.results156, go_sem, q0, q1, q2, q3, q4]) rfl ⟨below_five (below_drewN hbr _) (Nat.le_refl _) _ _ _ _ _, .inr ⟨cls_fail s HS0.out HN.out, _, _, _, _, rfl⟩⟩
        · have hd45 := (byte_is d).2.2
          rw [decide_eq_false hd] at hd45
          obtain ⟨hd1, hd2⟩ := hd45
          clear hd
          have HRG := Lib.hid hrg
          clear hrg
          cases ho1 : oddC c
          · have HRN : Hid (clsR (setN S c.toNat (c.toNat + 1 - c.toNat)) (decide (0 < k + 1)) y.data.toList = clsR pc0.set false s0.data.toList) := by
              show _ = _
              rw [← HR2.out, HCN.out, ← HYL.out, HRG.out, if_neg (by simp [ho1])]
              simp
            have hPd := fun q => hP.drewN q
            have HPD := Lib.hid hPd
            have HBD := Lib.hid hbr
            clear hP hPd HYL HRG HCN HR2 hbr
            go_wp2
            go_quiet (fail)
            go_wp2_with (first | (go_at_call 170; refine (odd_ok c _).mono ?_; rw [ho1]; rintro e w' ⟨rfl, rfl⟩) | (go_at_call 157; refine (add_pc _ _ _ _ c.toNat c.toNat hct hct (by omega) _ (HPD.out _)).mono ?_; rintro e w2 ⟨rfl, hP2, hg2⟩))
            go_roundw
            case rel => exact ⟨y, _, k + 1, rfl, by go_num, by omega, HRN.out, hP2, (below_drewN HBD.out _).grown hg2 HBD.out.size (fun b hb => by cases hb; exact Nat.le_refl _)⟩
            case measure => simp [strSize]; omega
          · have HN : Hid (clsR pc0.set false s0.data.toList = none) := by show _ = none; rw [← HR2.out, HCN.out, if_pos (by simp [ho1])]
            obtain ⟨q0, q1, q2, q3, q4⟩ := hP.five
            have f0 := hP.own.frozenAt 0
            have f1 := hP.own.frozenAt 1
            have f2 := hP.own.frozenAt 2
            have f3 := hP.own.frozenAt 3
            have f4 := hP.own.frozenAt 4
            clear hP HYL HRG HCN HR2
            generalize wd S 0 = s1 at *
            generalize wd S 1 = s2 at *
            generalize wd S 2 = s3 at *
            generalize wd S 3 = s4 at *
            go_wp2
            go_quiet (fail)
            go_wp2_with (go_at_call 170; refine (odd_ok c _).mono ?_; rw [ho1]; rintro e w' ⟨rfl, rfl⟩)
            refine bodyPost_ret (v := .tuple #[.agg #[.bool false, .int .u64 (un s1 : Int), .int .u64 (un s2 : Int), .int .u64 (un s3 : Int), .int .u64 (un s4 : Int)], .string ⟨#[]⟩, .bool false]) (by simp [results, Tryz.results156, go_sem, q0, q1, q2, q3, q4]) rfl ⟨below_five (below_drewN hbr _) (Nat.le_refl _) _ _ _ _ _, .inr ⟨cls_fail s HS0.out HN.out, _, _, _, _, rfl⟩⟩
end Go.Proofs.YteefncohknclcaaGreatDoor
