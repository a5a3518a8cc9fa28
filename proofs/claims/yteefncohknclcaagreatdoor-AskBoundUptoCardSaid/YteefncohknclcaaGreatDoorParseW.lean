/- The walks through glob.parse, pieces and Check. Conditions: none. -/
import Derived.Test.YteefncohknclcaaGreatDoorClassW
import Derived.Deep.LoopGhost
namespace Go.Proofs.YteefncohknclcaaGreatDoor
open Go.RowKit
/-- the cells of a list of pieces -/
def pcsL (l : List Pc) : List Value := l.flatMap fun p => pcL p.any p.set
theorem pcsL_snoc (l : List Pc) (p : Pc) : pcsL (l ++ [p]) = pcsL l ++ pcL p.any p.set := by unfold pcsL; simp
theorem info_pc : (Tryz.prog.info? 172).map (fun i => (i.zero, i.size, i.bytes)) = some (some (.agg #[.bool false, .int .u64 0, .int .u64 0, .int .u64 0, .int .u64 0]), 5, 40) := by kernel_rfl
theorem app_pc (w : World) {ops : Array Oper} {rest : List Oper} {o : Oper} {a : Act} {Q : Exit → Act → World → Prop} (hgd : o.guard = none) (s x : Operand)
    (ho : o.op = .call { callee := .builtin .append, args := #[s, x], argTypes := #[140, 140] })
    (base : Nat) (v : Value) (n : Nat) (xs : List Value) (hs : a.eval s = v) (hown : w.ownsRow base 172 5 v n xs)
    (g : Nat) (b : Bool) (S : List B) (hS : S.length = 4) (hx : a.eval x = .slice (some ⟨g, 0, none⟩) 1 1) (hcell : ∀ j u, (pcL b S)[j]? = some u → w.cell? ⟨g, j, none⟩ = some u)
    (hn : n ≤ 1000000) (hbase : base ≤ w.heap.size)
    (h : ∀ v' w', w'.ownsRow base 172 5 v' (n + 1) (xs ++ pcL b S) → w.grownBy w' v.ownBlock → wpList Tryz.prog ops Q rest (a.put o.dst v') w') : wpList Tryz.prog ops Q (o :: rest) a w := by
  obtain ⟨i0, hi, hz0, hz1, hz2⟩ := info_parts info_pc
  refine wpList_append_own w hgd s x 140 ho base 172 i0 _ 5 40 Tryz.underlying140 hi hz0 hz1 hz2 rfl (by decide) v n xs hs hown ⟨g, 0, none⟩ 1 1 (pcL b S) hx (by simp [pcL, hS]) ?_ ?_ (by unfold maxLen; omega) (by omega) hbase (fun v' w' h1 h2 _ => h v' w' h1 h2)
  · intro j q hj
    have e : (⟨g, 0, none⟩ : Addr).add j = ⟨g, j, none⟩ := by
      unfold Addr.add
      split
      · rename_i h; subst h; rfl
      · simp
    rw [e]; exact hcell j q hj
  · intro q hq
    rw [pcL_four b hS] at hq
    simp only [List.mem_cons, List.not_mem_nil, or_false] at hq
    rcases hq with rfl | rfl | rfl | rfl | rfl <;> rfl
theorem own_any {w : World} {base e n size : Nat} {v : Value} {xs : List Value} (h : w.ownsRow base e size v n xs) : ∃ (g : Option Addr) (c : Nat), v = .slice g n c ∧ ∀ b, v.ownBlock = some b → base ≤ b ∧ b < w.heap.size := by
  rcases h.2 with ⟨rfl, rfl⟩ | ⟨g, cap, cur, rfl, hb, hh, _⟩
  · exact ⟨none, 0, rfl, fun b hb => by cases hb⟩
  · refine ⟨_, cap, rfl, fun b hb' => ?_⟩
    have : g = b := by simpa [Value.ownBlock] using hb'
    subst this
    exact ⟨hb, by
      rcases Nat.lt_or_ge g w.heap.size with h1 | h1
      · exact h1
      · rw [Array.getElem?_eq_none h1] at hh; cases hh⟩
theorem own_keep {w w' : World} {base e n size : Nat} {v : Value} {xs : List Value} (h : w.ownsRow base e size v n xs) (hb : Below w.heap.size w w') : w'.ownsRow base e size v n xs := by
  refine h.kept (row := none) ⟨hb.os, hb.tape, hb.output, hb.size, fun k hk _ => hb.block k hk⟩ ?_
  cases hv : v.ownBlock
  · exact .inl rfl
  · exact .inr (by simp)
theorem clsN_len {f : Nat} {S : List B} {b : Bool} {s : Txt} {x : List B × Txt} (hS : S.length = 4) (h : clsN f S b s = some x) : x.1.length = 4 := by
  induction f generalizing S b s with
  | zero => cases h
  | succ f ih =>
    cases s with
    | nil => cases h
    | cons c s =>
      unfold clsN at h
      split at h
      · split at h
        · injection h with h; subst h; exact hS
        · cases h
      · simp only at h
        split at h
        · cases h
        · exact ih (by rw [setN_len, hS]) h
theorem clsOf_len {s : Txt} {x : List B × Txt} (h : clsOf s = some x) : x.1.length = 4 := by
  unfold clsOf at h
  split at h
  · rw [Option.map_eq_some_iff] at h
    obtain ⟨y, h1, rfl⟩ := h
    have := clsN_len rfl h1
    show (setTurn y.1).length = 4
    unfold setTurn; rw [List.length_map]; exact this
  · exact clsN_len rfl h
/-- a new block that holds a piece -/
theorem pc_new (w : World) (a : Bool) (S : List B) (hS : S.length = 4) : PcOwn (w.alloc (.cells #[.bool a, .int .u64 (un (wd S 0) : Int), .int .u64 (un (wd S 1) : Int), .int .u64 (un (wd S 2) : Int), .int .u64 (un (wd S 3) : Int)] 172)) w.heap.size w.heap.size a S :=
  ⟨hS, by
    have h := World.ownsRow_lit (e := 172) (size := 1) w #[.bool a, .int .u64 (un (wd S 0) : Int), .int .u64 (un (wd S 1) : Int), .int .u64 (un (wd S 2) : Int), .int .u64 (un (wd S 3) : Int)] 5 (Nat.le_refl _) (by decide) rfl
    rw [pcL_four a hS]; exact h⟩
theorem PcOwn.put5 {w : World} {base b : Nat} {a : Bool} {S : List B} (h : PcOwn w base b a S) (a' : Bool) {S' : List B} (hS : S'.length = 4) :
    PcOwn (((((w.setCell ⟨b, 0, none⟩ (.bool a')).setCell ⟨b, 1, none⟩ (.int .u64 (un (wd S' 0) : Int))).setCell ⟨b, 2, none⟩ (.int .u64 (un (wd S' 1) : Int))).setCell ⟨b, 3, none⟩ (.int .u64 (un (wd S' 2) : Int))).setCell ⟨b, 4, none⟩ (.int .u64 (un (wd S' 3) : Int))) base b a' S' := by
  refine ⟨hS, ?_⟩
  have h0 := (h.own.stored 0 (.bool a')).1
  have h1 := (h0.stored 1 (.int .u64 (un (wd S' 0) : Int))).1
  have h2 := (h1.stored 2 (.int .u64 (un (wd S' 1) : Int))).1
  have h3 := (h2.stored 3 (.int .u64 (un (wd S' 2) : Int))).1
  have h4 := (h3.stored 4 (.int .u64 (un (wd S' 3) : Int))).1
  have e : pcL a S = [.bool a, .int .u64 (un (wd S 0) : Int), .int .u64 (un (wd S 1) : Int), .int .u64 (un (wd S 2) : Int), .int .u64 (un (wd S 3) : Int)] := pcL_four a h.len
  rw [e] at h4
  rw [pcL_four a' hS]
  exact h4
theorem pc_cells {w : World} {base b : Nat} {a : Bool} {S : List B} (h : PcOwn w base b a S) : ∀ j u, (pcL a S)[j]? = some u → w.cell? ⟨b, j, none⟩ = some u := by
  intro j u hj
  have hl : j < 5 := by
    have := (List.getElem?_eq_some_iff.1 hj).1
    rw [pcL_four a h.len] at this
    simpa using this
  rw [h.own.cellAt j (by omega)]
  exact hj
theorem prs_step {s0 : Option (List Pc)} {c : UInt8} {l : Txt} {out : List Pc} {q : Pc} {z : Txt} (h : s0 = (prs (c :: l)).map (out ++ ·)) (h1 : onePc c l = some (q, z)) : s0 = (prs z).map ((out ++ [q]) ++ ·) := by
  rw [h, prs_cons, h1]
  show ((prs z).map (q :: ·)).map _ = _
  cases prs z <;> simp
theorem prs_bad {s0 : Option (List Pc)} {c : UInt8} {l : Txt} {out : List Pc} (h : s0 = (prs (c :: l)).map (out ++ ·)) (h1 : onePc c l = none) : s0 = none := by
  rw [h, prs_cons, h1]; rfl
/-- what parse answers -/
def ParsePost (s : Txt) (w : World) (e : Ending) (w' : World) : Prop :=
  Below w.heap.size w w' ∧ ((∃ (l : List Pc) (g : Option Addr) (c : Nat), prs s = some l ∧ l.length ≤ s.length ∧ e = .returned (.tuple #[.slice g l.length c, .bool true]) ∧ w'.ownsRow w.heap.size 172 5 (.slice g l.length c) l.length (pcsL l)) ∨
  (prs s = none ∧ e = .returned (.tuple #[.slice none 0 0, .bool false])))
theorem byte_sw (c : UInt8) (n : Nat) (hn : n < 256) : ((c.toNat : Int) == (n : Int)) = decide (c = UInt8.ofNat n) ∧ ((c.toNat : Int) != (n : Int)) = !decide (c = UInt8.ofNat n) := by
  have h1 := byte_eq (c := c) (n := n) hn
  have e1 : ((c.toNat : Int) == (n : Int)) = decide (c = UInt8.ofNat n) := by
    rw [Bool.eq_iff_iff]; simp only [beq_iff_eq, decide_eq_true_eq]
    rw [h1]; omega
  exact ⟨e1, by simp only [bne, e1]⟩
set_option maxRecDepth 100000 in
set_option maxHeartbeats 8000000 in
theorem parse_ok (s : ByteArray) (hs : s.size ≤ 10000) (w : World) : Calls Tryz.prog 131 #[.string s] w (ParsePost s.data.toList w) := by
  go_enter Tryz.func131, Tryz.ntmps131
  go_wp2
  go_loopw [0, 2] (fun v0 v wr => ∃ (x : ByteArray) (out : List Pc), v0 = .string x ∧ out.length + x.size ≤ s.size ∧ Hid (prs s.data.toList = (prs x.data.toList).map (out ++ ·)) ∧ wr.ownsRow w.heap.size 172 5 v out.length (pcsL out) ∧ Below w.heap.size w wr) (fun v0 _ _ => strSize v0)
  case atStart => exact ⟨s, [], rfl, by simp, by show _ = _; cases prs s.data.toList <;> rfl, World.ownsRow_nil _ _ _ _, Below.refl _ _⟩
  case round =>
    obtain ⟨x, out, rfl, hox, HR, hown, hbr⟩ := hrel
    obtain ⟨wo, rfl⟩ : ∃ wo : World, wo = wr := ⟨_, rfl⟩
    obtain ⟨g, cg, rfl, hfb⟩ := own_any hown
    have hsl : s.data.toList.length = s.size := ba_len s
    match hx : x.data.toList with
    | [] =>
      have hE := str_void hx
      have HN : Hid (prs s.data.toList = some out) := by show _ = some out; rw [HR.out, hx, prs_nil]; simp
      have HSL := Lib.hid hsl
      clear hx HR hsl
      go_wp2
      go_ret2
      exact ⟨hbr, .inl ⟨out, g, cg, HN.out, by rw [HSL.out]; omega, rfl, hown⟩⟩
    | c :: l =>
      obtain ⟨h0, hx0, y, hy, hyl, hys⟩ := ba_cons hx
      have hE := str_full hx
      have hr2 := HR.out
      rw [hx] at hr2
      have HR2 := Lib.hid hr2
      have HYL := Lib.hid hyl
      have hszr := hbr.size
      have a1 : ((c.toNat : Int) == 42) = decide (c = 42) := (byte_sw c 42 (by omega)).1
      have a2 : ((c.toNat : Int) == 63) = decide (c = 63) := (byte_sw c 63 (by omega)).1
      have a3 : ((c.toNat : Int) == 91) = decide (c = 91) := (byte_sw c 91 (by omega)).1
      have a4 : ((c.toNat : Int) == 93) = decide (c = 93) := (byte_sw c 93 (by omega)).1
      have a5 : ((c.toNat : Int) == 92) = decide (c = 92) := (byte_sw c 92 (by omega)).1
      have hct := c.toNat_lt
      have hP0 : PcOwn (wo.alloc (.cells #[.bool false, .int .u64 0, .int .u64 0, .int .u64 0, .int .u64 0] 172)) wo.heap.size wo.heap.size false pc0.set := pc_new wo false pc0.set rfl
      have hbw0 : Below wo.heap.size wo (wo.alloc (.cells #[.bool false, .int .u64 0, .int .u64 0, .int .u64 0, .int .u64 0] 172)) := (Below.refl _ _).alloc (Nat.le_refl _) _
      clear hx HR hr2 hyl hsl
      by_cases h42 : c = 42
      · have HC := Lib.hid h42
        rw [decide_eq_true h42] at a1
        rw [decide_eq_false (by rw [h42]; decide)] at a2
        rw [decide_eq_false (by rw [h42]; decide)] at a3
        rw [decide_eq_false (by rw [h42]; decide)] at a4
        rw [decide_eq_false (by rw [h42]; decide)] at a5
        clear h42
        have HN : Hid (prs s.data.toList = (prs y.data.toList).map ((out ++ [⟨true, pc0.set⟩]) ++ ·)) := prs_step HR2.out (by rw [HC.out, HYL.out]; rfl)
        have hbW : Below wo.heap.size wo (wo.alloc (.cells #[.bool true, .int .u64 0, .int .u64 0, .int .u64 0, .int .u64 0] 172)) := (Below.refl _ _).alloc (Nat.le_refl _) _
        have hP : PcOwn (wo.alloc (.cells #[.bool true, .int .u64 0, .int .u64 0, .int .u64 0, .int .u64 0] 172)) wo.heap.size wo.heap.size true pc0.set := pc_new wo true pc0.set rfl
        clear hP0 hbw0
        have hownW := own_keep hown hbW
        have hszW := hbW.size
        have hbb := hbr.trans (hbW.mono hszr)
        obtain ⟨_, _, _, hfw⟩ := own_any hownW
        have HOW := Lib.hid hownW
        have HBB := Lib.hid hbb
        have HFW := Lib.hid hfw
        have HSL := Lib.hid (show pc0.set.length = 4 from rfl)
        have HPS := Lib.hid (pcsL_snoc out ⟨true, pc0.set⟩)
        have HPN : Hid (∀ j u, (pcL true pc0.set)[j]? = some u → ((wo.alloc (.cells #[.bool true, .int .u64 0, .int .u64 0, .int .u64 0, .int .u64 0] 172)).alloc (.cells #[.bool true, .int .u64 0, .int .u64 0, .int .u64 0, .int .u64 0] 172)).cell? ⟨(wo.heap.size + 1), j, none⟩ = some u) := by
          have h := pc_cells (pc_new (wo.alloc (.cells #[.bool true, .int .u64 0, .int .u64 0, .int .u64 0, .int .u64 0] 172)) true pc0.set (show pc0.set.length = 4 from rfl))
          rw [show (wo.alloc (.cells #[.bool true, .int .u64 0, .int .u64 0, .int .u64 0, .int .u64 0] 172)).heap.size = (wo.heap.size + 1) by simp] at h
          exact h
        obtain ⟨q0, q1, q2, q3, q4⟩ := hP.five
        clear hown hbr hownW hbb hfw hbW hP
        go_wp2_with (at_builtin; refine app_pc _ rfl _ _ rfl w.heap.size _ out.length _ rfl (HOW.out.alloc _) (wo.heap.size + 1) true pc0.set HSL.out rfl ?c1 (by omega) ?c2 ?_; rotate_right; intro v' w4 hown4 hgrow4)
        case c1 => first | exact HPN.out | (intro j u hj; exact hj)
        case c2 => have := HBB.out.size; simp; omega
        rw [← HPS.out] at hown4
        have hb4 : Below w.heap.size w w4 := (HBB.out.alloc HBB.out.size _).grown hgrow4 (by have := HBB.out.size; simp; omega) (fun k hk => (HFW.out k hk).1)
        clear hgrow4 q0 q1 q2 q3 q4
        go_wp2
        go_roundw
        case rel => exact ⟨y, out ++ [⟨true, pc0.set⟩], rfl, by simp; omega, HN, by simpa using hown4, hb4⟩
        case measure => simp [strSize]; omega
      · rw [decide_eq_false h42] at a1
        by_cases h63 : c = 63
        · have HC := Lib.hid h63
          rw [decide_eq_true h63] at a2
          rw [decide_eq_false (by rw [h63]; decide)] at a3
          rw [decide_eq_false (by rw [h63]; decide)] at a4
          rw [decide_eq_false (by rw [h63]; decide)] at a5
          clear h63
          have HN : Hid (prs s.data.toList = (prs y.data.toList).map ((out ++ [⟨false, setTurn pc0.set⟩]) ++ ·)) := prs_step HR2.out (by rw [HC.out, HYL.out]; rfl)
          go_wp2_with fail
          refine (turn_pc _ _ _ _ _ hP0).mono ?_
          rintro e W ⟨rfl, hP, hg⟩
          have hbW := hbw0.grown hg hbw0.size (fun b hb => by cases hb; exact Nat.le_refl _)
          have hownW := own_keep hown hbW
          have hszW := hbW.size
          have hbb := hbr.trans (hbW.mono hszr)
          obtain ⟨_, _, _, hfw⟩ := own_any hownW
          have HOW := Lib.hid hownW
          have HBB := Lib.hid hbb
          have HFW := Lib.hid hfw
          have HSL := Lib.hid hP.len
          have HPS := Lib.hid (pcsL_snoc out ⟨false, (setTurn pc0.set)⟩)
          have HPN := Lib.hid (pc_cells (pc_new W false (setTurn pc0.set) hP.len))
          obtain ⟨q0, q1, q2, q3, q4⟩ := hP.five
          clear hown hbr hownW hbb hfw hP hP0 hg hbw0 hbW
          go_wp2_with (at_builtin; refine app_pc _ rfl _ _ rfl w.heap.size _ out.length _ rfl (HOW.out.alloc _) W.heap.size false (setTurn pc0.set) HSL.out rfl ?c1 (by omega) ?c2 ?_; rotate_right; intro v' w4 hown4 hgrow4)
          case c1 => first | exact HPN.out | (intro j u hj; exact hj)
          case c2 => have := HBB.out.size; simp; omega
          rw [← HPS.out] at hown4
          have hb4 : Below w.heap.size w w4 := (HBB.out.alloc HBB.out.size _).grown hgrow4 (by have := HBB.out.size; simp; omega) (fun k hk => (HFW.out k hk).1)
          clear hgrow4 q0 q1 q2 q3 q4
          go_wp2
          go_roundw
          case rel => exact ⟨y, out ++ [⟨false, (setTurn pc0.set)⟩], rfl, by simp; omega, HN, by simpa using hown4, hb4⟩
          case measure => simp [strSize]; omega
        · rw [decide_eq_false h63] at a2
          by_cases h91 : c = 91
          · have HC := Lib.hid h91
            rw [decide_eq_true h91] at a3
            rw [decide_eq_false (by rw [h91]; decide)] at a4
            rw [decide_eq_false (by rw [h91]; decide)] at a5
            clear h91
            go_wp2_with fail
            refine (class_ok y (by omega) _).mono ?_
            rintro e W0 ⟨hbc, ⟨S, rr, z, hcl, hz, rfl⟩ | ⟨hcl, s1, s2, s3, s4, rfl⟩⟩
            · have hSl := clsOf_len hcl
              have hzs : z.size ≤ y.size := by
                have := clsOf_le hcl
                rw [← hz, ba_len, ba_len] at this
                exact this
              have HN : Hid (prs s.data.toList = (prs z.data.toList).map ((out ++ [⟨false, S⟩]) ++ ·)) := prs_step HR2.out (by
                rw [HC.out, ← HYL.out, hz]
                show (clsOf y.data.toList).map _ = _
                rw [hcl]; rfl)
              have hPW : PcOwn W0 wo.heap.size wo.heap.size false pc0.set := ⟨rfl, own_keep hP0.own hbc⟩
              have hbW0 := below_five (hbw0.trans (hbc.mono hbw0.size)) (Nat.le_refl _) (.bool false) (.int .u64 (un (wd S 0) : Int)) (.int .u64 (un (wd S 1) : Int)) (.int .u64 (un (wd S 2) : Int)) (.int .u64 (un (wd S 3) : Int))
              have hP := hPW.put5 false hSl
              obtain ⟨k0, k1, k2, k3, k4⟩ := hPW.five
              have f0 := hPW.own.frozenAt 0
              have f1 := hPW.own.frozenAt 1
              have f2 := hPW.own.frozenAt 2
              have f3 := hPW.own.frozenAt 3
              have f4 := hPW.own.frozenAt 4
              have HPV : Hid (pcV ⟨false, S⟩ = .agg #[.bool false, .int .u64 (un (wd S 0) : Int), .int .u64 (un (wd S 1) : Int), .int .u64 (un (wd S 2) : Int), .int .u64 (un (wd S 3) : Int)]) := rfl
              rw [HPV.out]
              have hW0s : w.heap.size ≤ W0.heap.size := by
                have := hbc.size
                have := hbw0.size
                omega
              have hWs : W0.heap.size = (((((W0.setCell ⟨wo.heap.size, 0, none⟩ (.bool false)).setCell ⟨wo.heap.size, 1, none⟩ (.int .u64 (un (wd S 0) : Int))).setCell ⟨wo.heap.size, 2, none⟩ (.int .u64 (un (wd S 1) : Int))).setCell ⟨wo.heap.size, 3, none⟩ (.int .u64 (un (wd S 2) : Int))).setCell ⟨wo.heap.size, 4, none⟩ (.int .u64 (un (wd S 3) : Int))).heap.size := by simp
              have hownW := own_keep hown hbW0
              have hszW := hbW0.size
              have hbb := hbr.trans (hbW0.mono hszr)
              obtain ⟨_, _, _, hfw⟩ := own_any hownW
              have HOW := Lib.hid hownW
              have HBB := Lib.hid hbb
              have HFW := Lib.hid hfw
              have HSL := Lib.hid hSl
              have HPS := Lib.hid (pcsL_snoc out ⟨false, S⟩)
              have HPN : Hid (∀ j u, (pcL false S)[j]? = some u → ((((((W0.setCell ⟨wo.heap.size, 0, none⟩ (.bool false)).setCell ⟨wo.heap.size, 1, none⟩ (.int .u64 (un (wd S 0) : Int))).setCell ⟨wo.heap.size, 2, none⟩ (.int .u64 (un (wd S 1) : Int))).setCell ⟨wo.heap.size, 3, none⟩ (.int .u64 (un (wd S 2) : Int))).setCell ⟨wo.heap.size, 4, none⟩ (.int .u64 (un (wd S 3) : Int))).alloc (.cells #[.bool false, .int .u64 (un (wd S 0) : Int), .int .u64 (un (wd S 1) : Int), .int .u64 (un (wd S 2) : Int), .int .u64 (un (wd S 3) : Int)] 172)).cell? ⟨W0.heap.size, j, none⟩ = some u) := by rw [hWs]; exact (pc_cells (pc_new (((((W0.setCell ⟨wo.heap.size, 0, none⟩ (.bool false)).setCell ⟨wo.heap.size, 1, none⟩ (.int .u64 (un (wd S 0) : Int))).setCell ⟨wo.heap.size, 2, none⟩ (.int .u64 (un (wd S 1) : Int))).setCell ⟨wo.heap.size, 3, none⟩ (.int .u64 (un (wd S 2) : Int))).setCell ⟨wo.heap.size, 4, none⟩ (.int .u64 (un (wd S 3) : Int))) false S hSl))
              obtain ⟨q0, q1, q2, q3, q4⟩ := hP.five
              clear hown hbr hownW hbb hfw hP hP0 hPW hbw0 hbW0 hbc hcl hz hWs
              go_wp2_with (at_builtin; refine app_pc _ rfl _ _ rfl w.heap.size _ out.length _ rfl (HOW.out.alloc _) W0.heap.size false S HSL.out rfl ?c1 (by omega) ?c2 ?_; rotate_right; intro v' w4 hown4 hgrow4)
              case c1 => first | exact HPN.out | (intro j u hj; exact hj)
              case c2 => have := HBB.out.size; simp; omega
              rw [← HPS.out] at hown4
              have hb4 : Below w.heap.size w w4 := (HBB.out.alloc HBB.out.size _).grown hgrow4 (by have := HBB.out.size; simp; omega) (fun k hk => (HFW.out k hk).1)
              clear hgrow4 q0 q1 q2 q3 q4
              go_wp2
              go_roundw
              case rel => exact ⟨z, out ++ [⟨false, S⟩], rfl, by simp; omega, HN, by simpa using hown4, hb4⟩
              case measure => simp [strSize]; omega
            · have HN : Hid (prs s.data.toList = none) := prs_bad HR2.out (by
                rw [HC.out, ← HYL.out]
                show (clsOf y.data.toList).map _ = _
                rw [hcl]; rfl)
              have hPW : PcOwn W0 wo.heap.size wo.heap.size false pc0.set := ⟨rfl, own_keep hP0.own hbc⟩
              obtain ⟨k0, k1, k2, k3, k4⟩ := hPW.five
              have f0 := hPW.own.frozenAt 0
              have f1 := hPW.own.frozenAt 1
              have f2 := hPW.own.frozenAt 2
              have f3 := hPW.own.frozenAt 3
              have f4 := hPW.own.frozenAt 4
              have hbb := hbr.trans ((below_five (hbw0.trans (hbc.mono hbw0.size)) (Nat.le_refl _) (.bool false) (.int .u64 (un s1 : Int)) (.int .u64 (un s2 : Int)) (.int .u64 (un s3 : Int)) (.int .u64 (un s4 : Int))).mono hszr)
              clear hP0 hPW
              go_wp2
              go_ret2
              exact ⟨hbb, .inr ⟨HN.out, rfl⟩⟩
          · rw [decide_eq_false h91] at a3
            by_cases h93 : c = 93
            · have HC := Lib.hid h93
              rw [decide_eq_true h93] at a4
              rw [decide_eq_false (by rw [h93]; decide)] at a5
              clear h93
              have HN : Hid (prs s.data.toList = none) := prs_bad HR2.out (by rw [HC.out]; rfl)
              clear hP0
              go_wp2
              go_ret2
              exact ⟨hbr.trans (hbw0.mono hszr), .inr ⟨HN.out, rfl⟩⟩
            · rw [decide_eq_false h93] at a4
              by_cases h92 : c = 92
              · have HC := Lib.hid h92
                rw [decide_eq_true h92] at a5
                clear h92
                match hyd : y.data.toList with
                | [] =>
                  have hE2 := str_void hyd
                  have HN : Hid (prs s.data.toList = none) := prs_bad HR2.out (by rw [HC.out, ← HYL.out, hyd]; rfl)
                  clear hP0 hyd
                  go_wp2
                  go_ret2
                  exact ⟨hbr.trans (hbw0.mono hszr), .inr ⟨HN.out, rfl⟩⟩
                | d :: l2 =>
                  obtain ⟨k0, hy0, z, hz, hzl, hzs⟩ := ba_cons hyd
                  have hE2 := str_full hyd
                  have hdt := d.toNat_lt
                  have HZL := Lib.hid hzl
                  have HYD := Lib.hid hyd
                  clear hyd hzl
                  have HN : Hid (prs s.data.toList = (prs z.data.toList).map ((out ++ [⟨false, setN pc0.set d.toNat 1⟩]) ++ ·)) := prs_step HR2.out (by rw [HC.out, ← HYL.out, HYD.out, HZL.out]; rfl)
                  go_wp2_with fail
                  refine (add_pc _ _ _ _ d.toNat d.toNat (by omega) (by omega) (by omega) _ hP0).mono ?_
                  rintro e W ⟨rfl, hP, hg⟩
                  rw [show d.toNat + 1 - d.toNat = 1 by omega] at hP
                  have hbW := hbw0.grown hg hbw0.size (fun b hb => by cases hb; exact Nat.le_refl _)
                  have hownW := own_keep hown hbW
                  have hszW := hbW.size
                  have hbb := hbr.trans (hbW.mono hszr)
                  obtain ⟨_, _, _, hfw⟩ := own_any hownW
                  have HOW := Lib.hid hownW
                  have HBB := Lib.hid hbb
                  have HFW := Lib.hid hfw
                  have HSL := Lib.hid hP.len
                  have HPS := Lib.hid (pcsL_snoc out ⟨false, (setN pc0.set d.toNat 1)⟩)
                  have HPN := Lib.hid (pc_cells (pc_new W false (setN pc0.set d.toNat 1) hP.len))
                  obtain ⟨q0, q1, q2, q3, q4⟩ := hP.five
                  clear hown hbr hownW hbb hfw hP hP0 hg hbw0 hbW
                  go_wp2_with (at_builtin; refine app_pc _ rfl _ _ rfl w.heap.size _ out.length _ rfl (HOW.out.alloc _) W.heap.size false (setN pc0.set d.toNat 1) HSL.out rfl ?c1 (by omega) ?c2 ?_; rotate_right; intro v' w4 hown4 hgrow4)
                  case c1 => first | exact HPN.out | (intro j u hj; exact hj)
                  case c2 => have := HBB.out.size; simp; omega
                  rw [← HPS.out] at hown4
                  have hb4 : Below w.heap.size w w4 := (HBB.out.alloc HBB.out.size _).grown hgrow4 (by have := HBB.out.size; simp; omega) (fun k hk => (HFW.out k hk).1)
                  clear hgrow4 q0 q1 q2 q3 q4
                  go_wp2
                  go_roundw
                  case rel => exact ⟨z, out ++ [⟨false, (setN pc0.set d.toNat 1)⟩], rfl, by simp; omega, HN, by simpa using hown4, hb4⟩
                  case measure => simp [strSize]; omega
              · rw [decide_eq_false h92] at a5
                have h42' := Lib.hid h42
                have h63' := Lib.hid h63
                have h91' := Lib.hid h91
                have h93' := Lib.hid h93
                have h92' := Lib.hid h92
                clear h42 h63 h91 h93 h92
                have HN : Hid (prs s.data.toList = (prs y.data.toList).map ((out ++ [⟨false, setN pc0.set c.toNat 1⟩]) ++ ·)) := prs_step HR2.out (by rw [HYL.out]; unfold onePc; rw [if_neg h42'.out, if_neg h63'.out, if_neg h91'.out, if_neg h93'.out, if_neg h92'.out]; rfl)
                go_wp2_with fail
                refine (add_pc _ _ _ _ c.toNat c.toNat (by omega) (by omega) (by omega) _ hP0).mono ?_
                rintro e W ⟨rfl, hP, hg⟩
                rw [show c.toNat + 1 - c.toNat = 1 by omega] at hP
                have hbW := hbw0.grown hg hbw0.size (fun b hb => by cases hb; exact Nat.le_refl _)
                have hownW := own_keep hown hbW
                have hszW := hbW.size
                have hbb := hbr.trans (hbW.mono hszr)
                obtain ⟨_, _, _, hfw⟩ := own_any hownW
                have HOW := Lib.hid hownW
                have HBB := Lib.hid hbb
                have HFW := Lib.hid hfw
                have HSL := Lib.hid hP.len
                have HPS := Lib.hid (pcsL_snoc out ⟨false, (setN pc0.set c.toNat 1)⟩)
                have HPN := Lib.hid (pc_cells (pc_new W false (setN pc0.set c.toNat 1) hP.len))
                obtain ⟨q0, q1, q2, q3, q4⟩ := hP.five
                clear hown hbr hownW hbb hfw hP hP0 hg hbw0 hbW
                go_wp2_with (at_builtin; refine app_pc _ rfl _ _ rfl w.heap.size _ out.length _ rfl (HOW.out.alloc _) W.heap.size false (setN pc0.set c.toNat 1) HSL.out rfl ?c1 (by omega) ?c2 ?_; rotate_right; intro v' w4 hown4 hgrow4)
                case c1 => first | exact HPN.out | (intro j u hj; exact hj)
                case c2 => have := HBB.out.size; simp; omega
                rw [← HPS.out] at hown4
                have hb4 : Below w.heap.size w w4 := (HBB.out.alloc HBB.out.size _).grown hgrow4 (by have := HBB.out.size; simp; omega) (fun k hk => (HFW.out k hk).1)
                clear hgrow4 q0 q1 q2 q3 q4
                go_wp2
                go_roundw
                case rel => exact ⟨y, out ++ [⟨false, (setN pc0.set c.toNat 1)⟩], rfl, by simp; omega, HN, by simpa using hown4, hb4⟩
                case measure => simp [strSize]; omega
end Go.Proofs.YteefncohknclcaaGreatDoor
