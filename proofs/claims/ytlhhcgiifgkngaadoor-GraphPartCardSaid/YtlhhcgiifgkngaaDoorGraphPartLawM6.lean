/- Texts joined: PartW, SameW, UsersG, GraphPartLW, GraphArg, GraphPartLaw. Conditions: theirs. -/
import Derived.Test.YtlhhcgiifgkngaaDoorGraphPartLawM4
import Derived.Test.YtlhhcgiifgkngaaDoorGraphPartLawM5
import Derived.Test.YtlhhcgiifgkngaaDoorGraphPartLawM2
import Derived.Deep.CutRange
import Derived.Test.YtlhhcgiifgkngaaDoorGraphNumW
import Derived.Test.YtlhhcgiifgkngaaDoorUsersP0
import Derived.Test.YtlhhcgiifgkngaaDoorNLSetW
import Derived.Test.YtlhhcgiifgkngaaDoorGraphLawW
import Derived.Test.YtlhhcgiifgkngaaDoorGraphW
import Derived.Test.YtlhhcgiifgkngaaDoorGraphCheckW
import Derived.Test.YtlhhcgiifgkngaaDoorNLArg
import Derived.ChangeArms
namespace Go.Proofs.YtlhhcgiifgkngaaDoor
open Go.RowKit Go.Shelf Go.Sort
theorem wp_as_then {P : Program} {s : Code} {Q : Exit → Act → World → Prop} {a : Act} {w : World} (h : ∀ K : Act → World → Prop, (∀ a w, Q .normal a w → K a w) → s.wp P (Exit.then K Q) a w) : s.wp P Q a w := by
  refine wp_mono (h (fun a w => Q .normal a w) (fun _ _ h => h)) ?_
  intro e a' w' hq
  cases e <;> exact hq
set_option maxHeartbeats 1000000 in
theorem squeeze_ok (t s : B) (w : World) (hT : Tab w) : Calls Tryd.prog 62 #[.int .u64 (un t : Int), .int .u64 (un s : Int)] w fun e w' => e = .returned (.int .u64 (un (sq t s) : Int)) ∧ Below w.heap.size w w' := by
  have hcl := cnt_le s
  go_enter Tryd.func62, Tryd.ntmps62
  go_wp2_with (go_at_call 19; refine (List_ok s _ hT).mono ?_; rintro e w2 ⟨gl, cl, rfl, hown, hb2⟩)
  have HLr := Lib.hid (Reads.of_own hown)
  have HB2 := Lib.hid hb2
  clear hown hb2 hT
  go_loop [11, 5] (fun i o => ∃ k : Nat, k ≤ cnt s ∧ i = .int .i64 k ∧ o = .int .u64 (un (sqTo t s k) : Int)) (fun i _ => cnt s - (intOf i).toNat)
  case atStart => exact ⟨0, Nat.zero_le _, rfl, rfl⟩
  case round =>
    obtain ⟨k, hk, rfl, rfl⟩ := hrel
    by_cases hlt : k < cnt s
    · obtain ⟨ad, rfl, _, hc⟩ := HLr.out.int_at hlt
      have HN : Hid (sqTo t s (k + 1) = sqTo t s k ||| ((t >>> (lst s).getD k 0 &&& 1#64) <<< k)) := rfl
      have hn64 : (lst s).getD k 0 < 64 := has_lt (nth_mem (s := s) (i := k) (by rw [← cnt_lst]; exact hlt))
      generalize (lst s).getD k 0 = nn at *
      obtain ⟨cur, hcur⟩ : ∃ cur, cur = sqTo t s k := ⟨_, rfl⟩
      rw [← hcur] at HN ⊢
      clear hcur
      go_wp2
      go_round
      case rel => exact ⟨k + 1, by omega, by go_num, by rw [HN.out]⟩
      case measure => simp [intOf]; omega
    · obtain rfl : k = cnt s := by omega
      go_wp2
      go_ret
      exact ⟨rfl, HB2.out⟩
/-- what Part answers -/
def PartPost (w : World) (g : GD) (s : B) (e : Ending) (w' : World) : Prop :=
  ((Good g ∧ InN g.names.length s ∧ ∃ (p q : Option Addr) (c d : Nat),
      e = .returned (.tuple #[.agg #[.slice p (cnt s) c, .slice q (partG g s).edges.length d, .int .u64 (un (sq g.phony s) : Int), .int .u64 (un (sq g.made s) : Int)], .int .i64 0]) ∧
      w'.ownsRow w.heap.size 9 1 (.slice p (cnt s) c) (cnt s) (strsV (partG g s).names) ∧ w'.ownsRow w.heap.size 43 2 (.slice q (partG g s).edges.length d) (partG g s).edges.length (cells2 eF eG (partG g s).edges) ∧
      AllC w' (.slice p (cnt s) c) isStr ∧ AllC w' (.slice q (partG g s).edges.length d) isInt) ∨
    (¬ (Good g ∧ InN g.names.length s) ∧ ∃ E : Int, E ≠ 0 ∧ e = .returned (.tuple #[.agg #[.slice none 0 0, .slice none 0 0, .int .u64 0, .int .u64 0], .int .i64 E]))) ∧ Below w.heap.size w w'
/-- where Part stands when its new graph is laid -/
structure CutP (W : World) (a b : B) (bx : Nat) (wx : World) : Prop where
  ge : W.heap.size ≤ bx
  lt : bx < wx.heap.size
  below : Below W.heap.size W wx
  box : wx.heap[bx]? = some (.cells #[.slice none 0 0, .slice none 0 0, .int .u64 (un a : Int), .int .u64 (un b : Int)] 26 (0, 0))
theorem cutP_a {W w3 : World} {a b : B} (hb : Below W.heap.size W w3) : CutP W a b w3.heap.size (w3.alloc (.cells #[.slice none 0 0, .slice none 0 0, .int .u64 (un a : Int), .int .u64 (un b : Int)] 26)) :=
  ⟨hb.size, by simp, hb.alloc hb.size _, han _ _⟩
theorem cutP_b {W w3 : World} {a b : B} {bx : Nat} {v0 v1 v2 v3 : Value} (hb : Below W.heap.size W w3) (hx : w3.heap[bx]? = some (.cells #[v0, v1, v2, v3] 26 (0, 0))) (hg : W.heap.size ≤ bx) :
    CutP W a b bx ((((w3.setCell ⟨bx, 0, none⟩ (.slice none 0 0)).setCell ⟨bx, 1, none⟩ (.slice none 0 0)).setCell ⟨bx, 2, none⟩ (.int .u64 (un a : Int))).setCell ⟨bx, 3, none⟩ (.int .u64 (un b : Int))) :=
  ⟨hg, Nat.lt_of_lt_of_le (Array.getElem?_eq_some_iff.1 hx).1 (grown_set4 _ _ _ _ _ _).size, below_set4 hb hg _ _ _ _, box4_all hx _ _ _ _⟩
/-- what the loops of Part keep: k names, and the edges es -/
structure PInv (wb : World) (bx : Nat) (a b : B) (zs : List ByteArray) (pn : Option Addr) (cn : Nat) (es : List E2) (pe : Option Addr) (ce : Nat) (wr : World) : Prop where
  box : wr.heap[bx]? = some (.cells #[.slice pn zs.length cn, .slice pe es.length ce, .int .u64 (un a : Int), .int .u64 (un b : Int)] 26 (0, 0))
  own : wr.ownsRow wb.heap.size 9 1 (.slice pn zs.length cn) zs.length (strsV zs)
  ownE : wr.ownsRow wb.heap.size 43 2 (.slice pe es.length ce) es.length (cells2 eF eG es)
  grow : wb.grownBy wr (some bx)
  all : AllC wr (.slice pn zs.length cn) isStr
  allE : AllC wr (.slice pe es.length ce) isInt
  ne : ∀ k, (Value.slice pn zs.length cn).ownBlock = some k → (Value.slice pe es.length ce).ownBlock ≠ some k
section
variable {wb wr : World} {bx : Nat} {a b : B} {zs : List ByteArray} {pn : Option Addr} {cn : Nat} {es : List E2} {pe : Option Addr} {ce : Nat}
theorem PInv.keep {w' : World} {row : Option Nat} (h : PInv wb bx a b zs pn cn es pe ce wr) (hbx : bx < wb.heap.size) (hg : wr.grownBy w' row) (h0 : row = none ∨ ∃ k, row = some k ∧ wb.heap.size ≤ k ∧ (Value.slice pn zs.length cn).ownBlock ≠ some k ∧ (Value.slice pe es.length ce).ownBlock ≠ some k) : PInv wb bx a b zs pn cn es pe ce w' := by
  have hlt : bx < wr.heap.size := (Array.getElem?_eq_some_iff.1 h.box).1
  rcases h0 with rfl | ⟨k, rfl, h1, h2, h3⟩
  · refine ⟨(hg.block bx hlt (by simp)).trans h.box, h.own.kept hg ?_, h.ownE.kept hg ?_, grown_step h.grow hg (fun k hk => by cases hk), h.all.kept hg ?_, h.allE.kept hg ?_, h.ne⟩
    all_goals (cases hv : Value.ownBlock _ <;> simp)
  · exact ⟨(hg.block bx hlt (by simp; omega)).trans h.box, h.own.kept hg (.inr h2), h.ownE.kept hg (.inr h3), grown_step h.grow hg (fun j hj => by cases hj; exact .inr h1), h.all.kept hg (.inr h2), h.allE.kept hg (.inr h3), h.ne⟩
theorem PInv.alloc (h : PInv wb bx a b zs pn cn es pe ce wr) (hbx : bx < wb.heap.size) (o : Obj) : PInv wb bx a b zs pn cn es pe ce (wr.alloc o) := h.keep hbx (World.grownBy_alloc _ _ none) (.inl rfl)
theorem PInv.drew (h : PInv wb bx a b zs pn cn es pe ce wr) (hbx : bx < wb.heap.size) : PInv wb bx a b zs pn cn es pe ce wr.drew := h.keep hbx (row := none) ⟨rfl, rfl, rfl, Nat.le_refl _, fun _ _ _ => rfl⟩ (.inl rfl)
/-- a name more -/
theorem PInv.name {w5 : World} {x : ByteArray} {pn2 : Option Addr} {cn2 : Nat} (h : PInv wb bx a b zs pn cn [] none 0 wr) (hbx : bx < wb.heap.size) (hg : wr.grownBy w5 (Value.slice pn zs.length cn).ownBlock)
    (ho : w5.ownsRow wb.heap.size 9 1 (.slice pn2 (zs.length + 1) cn2) (zs.length + 1) (strsV (zs ++ [x]))) (hp : AllC w5 (.slice pn2 (zs.length + 1) cn2) isStr) :
    w5.heap[bx]? = some (.cells #[.slice pn zs.length cn, .slice none 0 0, .int .u64 (un a : Int), .int .u64 (un b : Int)] 26 (0, 0)) ∧
      PInv wb bx a b (zs ++ [x]) pn2 cn2 [] none 0 (w5.setCell ⟨bx, 0, none⟩ (.slice pn2 (zs.length + 1) cn2)) := by
  have hlt : bx < wr.heap.size := (Array.getElem?_eq_some_iff.1 h.box).1
  have hne : ∀ k, (Value.slice pn zs.length cn).ownBlock = some k → wb.heap.size ≤ k := fun k hk => (h.own.lt k hk).1
  have hb5 : w5.heap[bx]? = some (.cells #[.slice pn zs.length cn, .slice none 0 0, .int .u64 (un a : Int), .int .u64 (un b : Int)] 26 (0, 0)) := (hg.block bx hlt fun e => by have := hne bx e.symm; omega).trans h.box
  have hl : (zs ++ [x]).length = zs.length + 1 := by simp
  have hn2 : (Value.slice pn2 (zs.length + 1) cn2).ownBlock ≠ some bx := fun e => by have := (ho.lt bx e).1; omega
  refine ⟨hb5, ⟨?_, ?_, World.ownsRow_nil _ _ _ _, ?_, ?_, AllC.nil_ _ _, fun k _ => by simp [Value.ownBlock]⟩⟩
  · rw [hl, setCell_eq]
    simp [mapBlock, onCells, Array.getElem?_modify, hb5]
  · rw [hl]; exact ho.kept (grown_set _ _ _) (.inr hn2)
  · exact (grown_step h.grow hg fun k hk => .inr (hne k hk)).trans (grown_set _ _ _)
  · rw [hl]; exact hp.kept (grown_set _ _ _) (.inr hn2)
/-- an edge more -/
theorem PInv.edge {w5 : World} {x : E2} {pe2 : Option Addr} {ce2 : Nat} (h : PInv wb bx a b zs pn cn es pe ce wr) (hbx : bx < wb.heap.size) (hg : wr.grownBy w5 (Value.slice pe es.length ce).ownBlock)
    (ho : w5.ownsRow wb.heap.size 43 2 (.slice pe2 (es.length + 1) ce2) (es.length + 1) (cells2 eF eG (es ++ [x]))) (hp : AllC w5 (.slice pe2 (es.length + 1) ce2) isInt)
    (hlies : (Value.slice pe2 (es.length + 1) ce2).ownBlock = (Value.slice pe es.length ce).ownBlock ∨ (Value.slice pe2 (es.length + 1) ce2).ownBlock = some wr.heap.size) :
    w5.heap[bx]? = some (.cells #[.slice pn zs.length cn, .slice pe es.length ce, .int .u64 (un a : Int), .int .u64 (un b : Int)] 26 (0, 0)) ∧
      PInv wb bx a b zs pn cn (es ++ [x]) pe2 ce2 (w5.setCell ⟨bx, 1, none⟩ (.slice pe2 (es.length + 1) ce2)) := by
  have hlt : bx < wr.heap.size := (Array.getElem?_eq_some_iff.1 h.box).1
  have hne : ∀ k, (Value.slice pe es.length ce).ownBlock = some k → wb.heap.size ≤ k := fun k hk => (h.ownE.lt k hk).1
  have hnn : ∀ k, (Value.slice pn zs.length cn).ownBlock = some k → wb.heap.size ≤ k ∧ k < wr.heap.size := fun k hk => h.own.lt k hk
  have hb5 := (hg.block bx hlt fun e => by have := hne bx e.symm; omega).trans h.box
  have hl : (es ++ [x]).length = es.length + 1 := by simp
  have hn2 : (Value.slice pe2 (es.length + 1) ce2).ownBlock ≠ some bx := fun e => by have := (ho.lt bx e).1; omega
  have hn3 : (Value.slice pn zs.length cn).ownBlock ≠ some bx := fun e => by have := (hnn bx e).1; omega
  have hkn : (Value.slice pn zs.length cn).ownBlock = none ∨ (Value.slice pn zs.length cn).ownBlock ≠ (Value.slice pe es.length ce).ownBlock := by
    cases hv : (Value.slice pn zs.length cn).ownBlock with
    | none => exact .inl rfl
    | some k => exact .inr fun e => h.ne k hv e.symm
  refine ⟨hb5, ⟨?_, ?_, ?_, ?_, ?_, ?_, ?_⟩⟩
  · rw [hl]; exact box4_set1 hb5 _
  · exact (h.own.kept hg hkn).kept (grown_set _ _ _) (.inr hn3)
  · rw [hl]; exact ho.kept (grown_set _ _ _) (.inr hn2)
  · exact (grown_step h.grow hg fun k hk => .inr (hne k hk)).trans (grown_set _ _ _)
  · exact (h.all.kept hg hkn).kept (grown_set _ _ _) (.inr hn3)
  · rw [hl]; exact hp.kept (grown_set _ _ _) (.inr hn2)
  · intro k hk
    rw [hl]
    rcases hlies with e | e
    · rw [e]; exact h.ne k hk
    · rw [e]
      intro e2
      injection e2 with e2
      have := (hnn k hk).2
      omega
end
theorem bit2 (s : B) (a b : Nat) : ((un (((s >>> a) &&& (s >>> b)) &&& 1#64) : Int) == 1) = (has s a && has s b) := by
  have e : un (((s >>> a) &&& (s >>> b)) &&& 1#64) = un ((s >>> a) &&& (s >>> b)) % 2 := by
    unfold un; rw [BitVec.toNat_and]; exact Nat.and_one_is_mod _
  have e1 : (un ((s >>> a) &&& (s >>> b))).testBit 0 = (has s a && has s b) := by
    show ((s >>> a) &&& (s >>> b)).getLsbD 0 = _
    rw [BitVec.getLsbD_and, BitVec.getLsbD_ushiftRight, BitVec.getLsbD_ushiftRight]
    rfl
  rw [Nat.testBit_zero] at e1
  rw [e, ← e1]
  rcases Nat.mod_two_eq_zero_or_one (un ((s >>> a) &&& (s >>> b))) with h | h <;> simp [h]
theorem part_take {g : GD} {s : B} {j : Nat} (h : j < (lst s).length) : ((lst s).take (j + 1)).map (fun n => g.names.getD n ByteArray.empty) = ((lst s).take j).map (fun n => g.names.getD n ByteArray.empty) ++ [g.names.getD ((lst s).getD j 0) ByteArray.empty] := by
  rw [List.take_succ_eq_append_getElem h, List.map_append, List.getD_eq_getElem?_getD (l := lst s), List.getElem?_eq_getElem h]; rfl
/-- the part's edges of the first ones -/
def partT (g : GD) (s : B) (j : Nat) : List E2 := ((g.edges.take j).filter (inE s)).map (partE s)
theorem partT_next {g : GD} {s : B} {j : Nat} (h : j < g.edges.length) : partT g s (j + 1) = partT g s j ++ (if inE s (g.edges.getD j (0, 0)) = true then [partE s (g.edges.getD j (0, 0))] else []) := by
  unfold partT
  rw [List.take_succ_eq_append_getElem h, List.filter_append, List.map_append, List.getD_eq_getElem?_getD, List.getElem?_eq_getElem h]
  congr 1
  by_cases hi : inE s g.edges[j] = true
  · simp [hi]
  · simp [hi]
theorem partT_all (g : GD) (s : B) : partT g s g.edges.length = (partG g s).edges := by unfold partT partG; rw [List.take_length]
theorem partT_len (g : GD) (s : B) (j : Nat) : (partT g s j).length ≤ j := by
  unfold partT
  rw [List.length_map]
  have h1 := List.length_filter_le (inE s) (g.edges.take j)
  rw [List.length_take] at h1
  omega
set_option maxHeartbeats 40000000 in
set_option maxRecDepth 100000 in
theorem Part_ok (v : Value) (g : GD) (s : B) (w : World) (h : GrAt w v g) (hT : Tab w) : Calls Tryd.prog 16 #[v, .int .u64 (un s : Int)] w (PartPost w g s) := by
  have hGr := h
  obtain ⟨p, n, c, q, m, d, rfl, hN, hE⟩ := h.at_
  have hln := hN.at_.len
  have hlm := hE.len
  subst hln hlm
  have hbn := hN.at_.big
  have hbm := hE.big
  obtain ⟨W, hW⟩ : ∃ W, W = (w.alloc (.cells #[.slice p g.names.length c, .slice q g.edges.length d, .int .u64 (un g.phony : Int), .int .u64 (un g.made : Int)] 26)).alloc (.cells #[.slice none 0 0, .slice none 0 0, .int .u64 0, .int .u64 0] 26) := ⟨_, rfl⟩
  have hBW : Below w.heap.size w W := by rw [hW]; exact ((Below.refl _ _).alloc (Nat.le_refl _) _).alloc (by simp) _
  have HS : Hid (W.heap.size = w.heap.size + 2) := by show _ = _; rw [hW]; simp
  have HC : Hid (∀ u : World, Below W.heap.size W u → u.heap[w.heap.size]? = some (.cells #[.slice p g.names.length c, .slice q g.edges.length d, .int .u64 (un g.phony : Int), .int .u64 (un g.made : Int)] 26 (0, 0)) ∧ u.heap[w.heap.size + 1]? = some (.cells #[.slice none 0 0, .slice none 0 0, .int .u64 0, .int .u64 0] 26 (0, 0))) := by
    show ∀ u : World, _ → _
    intro u hu
    have hs := HS.out
    rw [hu.block _ (by omega), hu.block _ (by omega), hW]
    exact ⟨by rw [hao _ _ _ (by simp), han], han2 _ _ _⟩
  have HN := Lib.hid (hN.below hBW)
  have HE := Lib.hid (hE.below hBW)
  have HGr := Lib.hid (hGr.below hBW)
  have HT := Lib.hid (hT.below hBW)
  have HFIN : Hid (∀ u, Below W.heap.size W u → Below w.heap.size w u) := by show ∀ u, _; exact fun u hu => hBW.trans (hu.mono (by have := HS.out; omega))
  obtain ⟨hb0, hb1⟩ := HC.out W (Below.refl _ _)
  obtain ⟨k0, k1, k2, k3, _⟩ := box4 hb0
  rw [hW] at k0 k1 k2 k3
  clear hN hE hBW h hGr hb0 hb1 hT
  go_enter Tryd.func16, Tryd.ntmps16
  go_wp2_with fail
  rw [← hW]
  clear hW k0 k1 k2 k3
  refine (CheckG2_ok _ g W HGr.out).mono ?_
  rintro e w2 ⟨⟨E, rfl, hcase⟩, hb2⟩
  have HB2 := Lib.hid hb2
  obtain ⟨hb0, hb1⟩ := HC.out w2 hb2
  obtain ⟨k0, k1, k2, k3, _⟩ := box4 hb0
  obtain ⟨l0, l1, l2, l3, l4⟩ := box4 hb1
  have l5 := l4 0
  have l6 := l4 1
  have l7 := l4 2
  have l8 := l4 3
  have HBL := Lib.hid hb1
  clear hb2 hb0 hb1 l4
  rcases hcase with ⟨rfl, hG⟩ | ⟨hE0, hG⟩
  · have HG := Lib.hid hG
    have h64 := hG.names
    clear hG
    by_cases hz : s &&& ~~~belowB g.names.length = 0#64
    · have HIN := Lib.hid (sets_in.1 hz)
      have hzz : (((un (s &&& ~~~belowB g.names.length) : Nat) : Int) != 0) = false := by rw [hz]; rfl
      clear hz
      have HSS : Hid (∀ u : World, Below W.heap.size W u → u.cell? ⟨w.heap.size, 2, none⟩ = some (.int .u64 (un g.phony : Int)) ∧ u.cell? ⟨w.heap.size, 3, none⟩ = some (.int .u64 (un g.made : Int))) := by
        show ∀ u : World, _ → _
        intro u hu
        obtain ⟨_, _, q2, q3, _⟩ := box4 (HC.out u hu).1
        exact ⟨q2, q3⟩
      have HSq : Hid (∀ (t : B) (u : World), Below W.heap.size W u → Calls Tryd.prog 62 #[.int .u64 (un t : Int), .int .u64 (un s : Int)] u fun e w' => e = .returned (.int .u64 (un (sq t s) : Int)) ∧ Hid (Below u.heap.size u w') ∧ Hid (Below W.heap.size W w')) := by
        show ∀ (t : B) (u : World), _
        intro t u hu
        refine (squeeze_ok t s u (HT.out.belowB (Tab.lt HT.out) hu)).mono ?_
        rintro e w' ⟨h1, h2⟩
        exact ⟨h1, h2, hu.trans (h2.mono hu.size)⟩
      go_wp2_with (go_at_call 14; refine (Below_ok _ h64 _).mono ?_; rintro e w' ⟨rfl, rfl⟩)
      go_upto_region 7 with fail
      go_cut [9] (fun out wx => ∃ bx : Nat, out = .pointer (some ⟨bx, 0, none⟩) ∧ Hid (CutP W (sq g.phony s) (sq g.made s) bx wx))
      case first =>
        go_wp2_with fail
        go_region_held3 (fun u : World => u.cell? ⟨w.heap.size, 2, none⟩ = some (.int .u64 (un g.phony : Int)) ∧ u.cell? ⟨w.heap.size, 3, none⟩ = some (.int .u64 (un g.made : Int)))
          (first | exact HSS.out _ HB2.out.drew | exact HSS.out _ (HB2.out.drew.alloc HB2.out.size _) | exact HSS.out _ HB5.out | exact HSS.out _ HB3.out | exact HSS.out _ (HB3.out.alloc HB3.out.size _) | exact HSS.out _ (HB5.out.alloc HB5.out.size _) | exact HSS.out _ (below_set4 HB5.out HB2.out.size _ _ _ _) | exact HSS.out _ (below_set4 HB5.out HB3.out.size _ _ _ _))
          (first
            | (go_at_call 62; refine (HSq.out _ _ (HB3.out.alloc HB3.out.size _)).mono ?_; rintro e w5 ⟨rfl, HB35, HB5⟩; have hbx := (HB35.out.block w3.heap.size (by simp)).trans (han _ _); obtain ⟨z0, z1, z2, z3, z4⟩ := box4 hbx; have z5 := z4 0; have z6 := z4 1; have z7 := z4 2; have z8 := z4 3; have HBX := Lib.hid hbx; clear hbx z4)
            | (go_at_call 62; refine (HSq.out _ _ HB3.out).mono ?_; rintro e w5 ⟨rfl, HB35, HB5⟩; have hbx := (HB35.out.block w2.heap.size (by have := (Array.getElem?_eq_some_iff.1 HBX3.out).1; omega)).trans HBX3.out; obtain ⟨z0, z1, z2, z3, z4⟩ := box4 hbx; have z5 := z4 0; have z6 := z4 1; have z7 := z4 2; have z8 := z4 3; have HBX := Lib.hid hbx; clear hbx z4)
            | (go_at_call 62; refine (HSq.out _ _ HB3.out).mono ?_; rintro e w5 ⟨rfl, HB35, HB5⟩)
            | (go_at_call 62; refine (HSq.out _ _ HB2.out.drew).mono ?_; rintro e w3 ⟨rfl, HB23, HB3⟩)
            | (go_at_call 62; refine (HSq.out _ _ (HB2.out.drew.alloc HB2.out.size _)).mono ?_; rintro e w3 ⟨rfl, HB23, HB3⟩; have hbx := (HB23.out.block w2.heap.size (by simp)).trans (han _ _); have HBX3 := Lib.hid hbx; clear hbx))
        all_goals
          go_wp2_with fail
          go_meet
          first
            | exact ⟨_, rfl, cutP_a HB5.out⟩
            | exact ⟨_, rfl, cutP_b HB5.out HBX.out HB2.out.size⟩
            | exact ⟨_, rfl, cutP_b HB5.out HBX.out HB3.out.size⟩
      case rest =>
        obtain ⟨bx, rfl, HCut⟩ := hcut
        clear k0 k1 k2 k3 l0 l1 l2 l3 l5 l6 l7 l8 HSq HSS HBL
        have hcn := cnt_le s
        go_wp2_with (go_at_call 19; refine (List_ok s wc (HT.out.belowB (Tab.lt HT.out) HCut.out.below)).mono ?_; rintro e wb ⟨gl, cl, rfl, hown, hbb⟩; have HOL := Lib.hid hown; have HBB := Lib.hid hbb; clear hown hbb)
        have HBWb : Hid (Below W.heap.size W wb) := by show Below _ _ _; exact HCut.out.below.trans (HBB.out.mono HCut.out.below.size)
        have hbx : bx < wb.heap.size := Nat.lt_of_lt_of_le HCut.out.lt HBB.out.size
        have HB0 : Hid (PInv wb bx (sq g.phony s) (sq g.made s) [] none 0 [] none 0 wb) := by
          show PInv _ _ _ _ _ _ _ _ _ _ _
          exact ⟨(HBB.out.block bx HCut.out.lt).trans HCut.out.box, World.ownsRow_nil _ _ _ _, World.ownsRow_nil _ _ _ _, ⟨rfl, rfl, rfl, Nat.le_refl _, fun _ _ _ => rfl⟩, AllC.nil_ _ _, AllC.nil_ _ _, fun k hk => by simp [Value.ownBlock] at hk⟩
        go_loopg [44] (cnt s) (fun k i wr => ∃ (j : Nat) (zs : List ByteArray) (pn : Option Addr) (cn : Nat), k + j = cnt s ∧ i = .int .i64 j ∧ Hid (zs = ((lst s).take j).map fun n => g.names.getD n ByteArray.empty) ∧ Hid (PInv wb bx (sq g.phony s) (sq g.made s) zs pn cn [] none 0 wr))
        case atStart => exact ⟨0, [], none, 0, by omega, rfl, show ([] : List ByteArray) = _ from by simp, HB0⟩
        case round =>
          obtain ⟨j, zs, pn, cn, hj, rfl, HZS, HI⟩ := hrel
          have HBWr : Hid (Below W.heap.size W wr) := by show Below _ _ _; exact HBWb.out.grown HI.out.grow HBWb.out.size (fun k hk => by cases hk; exact HCut.out.ge)
          obtain ⟨k0, k1, k2, k3, _⟩ := box4 (HC.out wr HBWr.out).1
          obtain ⟨m0, m1, m2, m3, m4⟩ := box4 HI.out.box
          have m5 := m4 0
          have m6 := m4 1
          have hll : (lst s).length = cnt s := (cnt_lst s).symm
          by_cases hlt : j < cnt s
          · have HLr : Hid (Reads wr wr.heap.size 1 gl (cnt s) (ints (lst s))) := by
              show Reads _ _ _ _ _ _
              exact Reads.of_own (HOL.out.kept HI.out.grow (.inr fun e => by have := (HOL.out.lt bx e).1; have := HCut.out.lt; omega))
            obtain ⟨ad, rfl, _, hon⟩ := HLr.out.int_at hlt
            have hnm : (lst s).getD j 0 < g.names.length := HIN.out _ (nth_mem (by omega))
            obtain ⟨adn, hpn, _, hcn2⟩ := str_at (HN.out.below HBWr.out).at_.reads hnm
            have hzn : nameE (g.names.getD ((lst s).getD j 0) ByteArray.empty) = 0 := HG.out.ok _ hnm
            have hz100 := nameE_size hzn
            have HTK := Lib.hid (part_take (g := g) (s := s) (j := j) (by omega))
            have HZ2 : Hid (zs ++ [g.names.getD ((lst s).getD j 0) ByteArray.empty] = ((lst s).take (j + 1)).map fun n => g.names.getD n ByteArray.empty) := by show _ = _; rw [HTK.out, HZS.out]
            have hzl : zs.length ≤ 64 := by
              rw [HZS.out, List.length_map, List.length_take]; omega
            subst hpn
            have HNM : Hid (∀ u : World, Below W.heap.size W u → u.cell? (adn.add ((lst s).getD j 0)) = some (.string (g.names.getD ((lst s).getD j 0) ByteArray.empty))) := by
              show ∀ u : World, _
              intro u hu
              obtain ⟨adn', he', _, hc'⟩ := str_at (HN.out.below hu).at_.reads hnm
              injection he' with he'
              subst he'
              exact hc'
            generalize g.names.getD ((lst s).getD j 0) ByteArray.empty = y at *
            generalize (lst s).getD j 0 = nn at *
            have hnn : (nn : Int) < (g.names.length : Int) := by omega
            have hsz : wb.heap.size ≤ wr.heap.size := HI.out.grow.size
            clear HTK hzn HLr
            go_upto_region 11 with fail
            obtain ⟨A, hA⟩ : ∃ A : World, A = (wr.alloc (.cells #[.string y] 9)).drew := ⟨_, rfl⟩
            have HIA : Hid (PInv wb bx (sq g.phony s) (sq g.made s) zs pn cn [] none 0 A) := by show PInv _ _ _ _ _ _ _ _ _ _ _; rw [hA]; exact (HI.out.alloc hbx _).drew hbx
            have HAc : Hid (A.cell? ⟨wr.heap.size, 0, none⟩ = some (.string y)) := by
              show _ = _; rw [hA]
              show (wr.alloc _).cell? _ = _
              rw [World.cell?_alloc_at _ _ _ _ rfl]; rfl
            have HAz : Hid (wb.heap.size ≤ A.heap.size) := by show _ ≤ _; rw [hA]; exact Nat.le_trans hsz (by simp)
            have HWA : Hid (Below W.heap.size W A) := by show Below _ _ _; rw [hA]; exact (HBWr.out.alloc HBWr.out.size _).drew
            have hba := (box4 (HI.out.alloc hbx (.cells #[.string y] 9)).box).1
            have hbb := (box4 (HC.out _ (HBWr.out.alloc HBWr.out.size (.cells #[.string y] 9))).1).1
            have hbc := HNM.out _ (HBWr.out.alloc HBWr.out.size (.cells #[.string y] 9))
            have hbxr : bx < wr.heap.size := by omega
            rw [hA] at HIA HAc HAz HWA
            clear hA
            go_region_law (refine step_strT _ rfl _ _ rfl wb.heap.size _ zs.length _ rfl HIA.out.own wr.heap.size y rfl HAc.out (by omega) (by omega) HAz.out HIA.out.all ?_; intro v' w5 hown5 hgrow5 hall5 hlies5; obtain ⟨pn2, cn2, rfl, _⟩ := own_formT hown5; have h5 := HIA.out.name hbx hgrow5 hown5 hall5; have H5 := Lib.hid h5.2; obtain ⟨e0, e1, e2, e3, e4⟩ := box4 h5.1; have e5 := e4 0; clear h5 hown5 hgrow5 hall5 hlies5 e4)
            all_goals
              go_wp2
              go_roundg (cnt s - (j + 1))
              case measure => omega
              case rel => exact ⟨j + 1, zs ++ [y], pn2, cn2, by omega, by go_num, HZ2, by simpa using H5⟩
          · obtain rfl : j = cnt s := by omega
            have hzn : zs = (partG g s).names := by
              rw [HZS.out, List.take_of_length_le (by omega)]
              rfl
            subst hzn
            have hzl : (partG g s).names.length ≤ 64 := by rw [part_len]; omega
            clear HZS
            go_wp2_with fail
            go_loopg [62] g.edges.length (fun k i wi => ∃ (j : Nat) (es : List E2) (pe : Option Addr) (ce : Nat), k + j = g.edges.length ∧ i = .int .i64 j ∧ Hid (es = partT g s j) ∧ Hid (PInv wb bx (sq g.phony s) (sq g.made s) (partG g s).names pn cn es pe ce wi))
            case atStart => exact ⟨0, [], none, 0, by omega, rfl, show ([] : List E2) = _ from by simp [partT], HI⟩
            case round =>
              obtain ⟨j, es, pe, ce, hj, rfl, HES, HIe⟩ := hrel
              clear k0 k1 k2 k3 m0 m1 m2 m3 m4 m5 m6
              have HBWe : Hid (Below W.heap.size W wr) := by show Below _ _ _; exact HBWb.out.grown HIe.out.grow HBWb.out.size (fun k hk => by cases hk; exact HCut.out.ge)
              obtain ⟨k0, k1, k2, k3, _⟩ := box4 (HC.out wr HBWe.out).1
              have hel : es.length ≤ j := by rw [HES.out]; exact partT_len g s j
              by_cases hlt2 : j < g.edges.length
              · obtain ⟨bb, ob, rfl, hbb, hca, hcb⟩ := (HE.out.below HBWe.out).cell (getD_some (0, 0) hlt2)
                have hin : EIn g.names.length (g.edges.getD j (0, 0)) := HG.out.edges _ (by rw [List.getD_eq_getElem?_getD, List.getElem?_eq_getElem hlt2]; exact List.getElem_mem hlt2)
                have HPN := Lib.hid (partT_next (s := s) hlt2)
                generalize g.edges.getD j (0, 0) = y at *
                obtain ⟨y1, y2⟩ := y
                obtain ⟨h1, h2, h3, h4⟩ := hin
                simp only at h1 h2 h3 h4
                obtain ⟨a1, rfl⟩ := Int.eq_ofNat_of_zero_le h1
                obtain ⟨a2, rfl⟩ := Int.eq_ofNat_of_zero_le h3
                have HPM : Hid (partT g s (j + 1) = es ++ (if (has s a1 && has s a2) = true then [((rnk s a1 : Int), (rnk s a2 : Int))] else [])) := by
                  show _ = _
                  rw [HPN.out, HES.out]
                  unfold inE partE
                  simp only [Int.toNat_natCast]
                clear HPN h1 h3
                simp only [eF, eG] at hca hcb
                have hca2 : wr.cell? ⟨bb, ob + j * 2 + 1, none⟩ = some (.int .i64 (a2 : Int)) := hcb
                have ha1 : a1 < 64 := by omega
                have ha2 : a2 < 64 := by omega
                obtain ⟨Z, hZ⟩ : ∃ Z : World, Z = wr.alloc (.cells #[.int .i64 (a1 : Int), .int .i64 (a2 : Int)] 43) := ⟨_, rfl⟩
                have HIZ : Hid (PInv wb bx (sq g.phony s) (sq g.made s) (partG g s).names pn cn es pe ce Z) := by show PInv _ _ _ _ _ _ _ _ _ _ _; rw [hZ]; exact HIe.out.alloc hbx _
                have d1 : Z.cell? ⟨wr.heap.size, 0, none⟩ = some (.int .i64 (a1 : Int)) := by rw [hZ, World.cell?_alloc_at _ _ _ _ rfl]; rfl
                have d2 : Z.cell? ⟨wr.heap.size, 1, none⟩ = some (.int .i64 (a2 : Int)) := by rw [hZ, World.cell?_alloc_at _ _ _ _ rfl]; rfl
                have hbt := bit2 s a1 a2
                go_upto_region 16 with fail
                rw [← hZ]
                clear hZ k0 k1 k2 k3 hca hca2 hcb
                obtain ⟨bv, hbv⟩ : ∃ bv, bv = (has s a1 && has s a2) := ⟨_, rfl⟩
                rw [← hbv] at hbt HPM
                clear hbv
                cases bv
                · go_quiet (fail)
                  go_wp2
                  go_roundg (g.edges.length - (j + 1))
                  case measure => omega
                  case rel => exact ⟨j + 1, es, pe, ce, by omega, by go_num, by show es = _; rw [HPM.out]; simp, by show PInv _ _ _ _ _ _ _ _ _ _ _; exact HIZ.out.keep hbx (row := none) ⟨rfl, rfl, rfl, Nat.le_refl _, fun _ _ _ => rfl⟩ (.inl rfl)⟩
                · go_quiet (fail)
                  go_upto_region 17 with fail
                  obtain ⟨Y, hY⟩ : ∃ Y : World, Y = Z.drewN nq := ⟨_, rfl⟩
                  have HIY : Hid (PInv wb bx (sq g.phony s) (sq g.made s) (partG g s).names pn cn es pe ce Y) := by
                    show PInv _ _ _ _ _ _ _ _ _ _ _; rw [hY]; exact HIZ.out.keep hbx (row := none) ⟨rfl, rfl, rfl, Nat.le_refl _, fun _ _ _ => rfl⟩ (.inl rfl)
                  have c1 : Y.cell? ⟨wr.heap.size, 0, none⟩ = some (.int .i64 (a1 : Int)) := by rw [hY]; exact d1
                  have c2 : Y.cell? ⟨wr.heap.size, 1, none⟩ = some (.int .i64 (a2 : Int)) := by rw [hY]; exact d2
                  have hYs : wr.heap.size < Y.heap.size := World.block_lt_of_cell? Y _ c1
                  have hYb : wb.heap.size ≤ Y.heap.size := HIY.out.grow.size
                  have HPM2 : Hid (es ++ [((rnk s a1 : Int), (rnk s a2 : Int))] = partT g s (j + 1)) := by show _ = _; rw [HPM.out]; rfl
                  have hrk : ∀ (k : Nat) (u : World), Calls Tryd.prog 63 #[.int .u64 (un s), .int .i64 (k : Int)] u fun e w' => e = .returned (.int .i64 (rnk s k : Int)) ∧ u = w' := by
                    intro k u
                    have := Rank_ok s (k : Int) u
                    rwa [Int.toNat_natCast] at this
                  have HRk1 := Lib.hid (hrk a1)
                  have HRk2 := Lib.hid (hrk a2)
                  clear hrk
                  rw [← hY]
                  clear hY HIZ d1 d2 HPM hbt
                  generalize rnk s a1 = r1 at *
                  generalize rnk s a2 = r2 at *
                  obtain ⟨A, hA⟩ : ∃ A : World, A = (Y.alloc (.cells #[.int .i64 (r1 : Int), .int .i64 (r2 : Int)] 43)).drew := ⟨_, rfl⟩
                  have HIA : Hid (PInv wb bx (sq g.phony s) (sq g.made s) (partG g s).names pn cn es pe ce A) := by show PInv _ _ _ _ _ _ _ _ _ _ _; rw [hA]; exact (HIY.out.alloc hbx _).drew hbx
                  have HA0 : Hid (A.cell? ⟨Y.heap.size, 0, none⟩ = some (.int .i64 (r1 : Int))) := by
                    show _ = _; rw [hA]
                    show (Y.alloc _).cell? _ = _
                    rw [World.cell?_alloc_at _ _ _ _ rfl]; rfl
                  have HA1 : Hid (A.cell? ⟨Y.heap.size, 1, none⟩ = some (.int .i64 (r2 : Int))) := by
                    show _ = _; rw [hA]
                    show (Y.alloc _).cell? _ = _
                    rw [World.cell?_alloc_at _ _ _ _ rfl]; rfl
                  have HAz : Hid (wb.heap.size ≤ A.heap.size) := by show _ ≤ _; rw [hA]; exact Nat.le_trans hYb (by simp)
                  have HC1 : Hid (A.cell? ⟨wr.heap.size, 0, none⟩ = some (.int .i64 (a1 : Int)) ∧ A.cell? ⟨wr.heap.size, 1, none⟩ = some (.int .i64 (a2 : Int))) := by
                    show _ ∧ _; rw [hA]
                    constructor
                    · show (Y.alloc _).cell? _ = _
                      rw [World.cell?_alloc_lt _ _ _ hYs]; exact c1
                    · show (Y.alloc _).cell? _ = _
                      rw [World.cell?_alloc_lt _ _ _ hYs]; exact c2
                  have HCY : Hid (Y.cell? ⟨wr.heap.size, 0, none⟩ = some (.int .i64 (a1 : Int)) ∧ Y.cell? ⟨wr.heap.size, 1, none⟩ = some (.int .i64 (a2 : Int))) := ⟨c1, c2⟩
                  have HPB : Hid (∀ k, (Value.slice pe es.length ce).ownBlock = some k → k ≠ wr.heap.size) := by show ∀ k, _; exact fun k hk => by have := (HIe.out.ownE.lt k hk).2; omega
                  have HAs : Hid (wr.heap.size < A.heap.size) := by show _ < _; rw [hA]; show _ < (Y.alloc _).heap.size; simp; omega
                  rw [hA] at HIA HA0 HA1 HAz HC1 HAs
                  clear hA
                  obtain ⟨y0, y1, y2, y3, y4⟩ := box4 HIY.out.box
                  have hba := (box4 (HIY.out.alloc hbx (.cells #[.int .i64 (r1 : Int), .int .i64 (r2 : Int)] 43)).box).2.1
                  clear y4
                  have HBW9 : Hid (wr.heap.size ≠ bx) := by show _ ≠ _; have := HIe.out.grow.size; omega
                  refine wp_as_then (fun K9 hK9 => ?_)
                  go_cut [] from 77 to 90 (fun wx => ∃ (pe2 : Option Addr) (ce2 : Nat), Hid (PInv wb bx (sq g.phony s) (sq g.made s) (partG g s).names pn cn (es ++ [((r1 : Int), (r2 : Int))]) pe2 ce2 wx))
                  case first =>
                    obtain ⟨hc1, hc2⟩ := HC1.out
                    go_region_law
                      (first
                        | (have h4 := HM2; clear h4; refine step_edgeT _ rfl _ _ rfl wb.heap.size (.slice pe es.length ce) es.length es rfl HIA.out.ownE Y.heap.size ((r1 : Int), (r2 : Int)) rfl HA0.out HA1.out (by omega) HAz.out HIA.out.allE ?_; intro v' w5 hown5 hgrow5 hall5 hlies5; obtain ⟨pe2, ce2, rfl, _⟩ := own_formT hown5; have h5 := HIA.out.edge hbx hgrow5 hown5 hall5 hlies5; have H5 := Lib.hid h5.2; obtain ⟨e0, e1, e2, e3, e4⟩ := box4 h5.1; have e5 := e4 1; clear h5 hown5 hgrow5 hall5 hlies5 e4)
                        | (have h4 := HM1; clear h4; go_simp; go_at_call 63; refine (HRk2.out _).mono ?_; rintro e w' ⟨rfl, rfl⟩; have HM2 : Hid (1 = 1) := rfl)
                        | (go_simp; go_at_call 63; refine (HRk1.out _).mono ?_; rintro e w' ⟨rfl, rfl⟩; have HM1 : Hid (0 = 0) := rfl))
                    all_goals
                      go_wp2_with fail
                      go_meet
                      case rel => exact ⟨pe2, ce2, H5⟩
                  case rest =>
                    obtain ⟨pe2, ce2, H5⟩ := hcut
                    refine hK9 _ _ ?_
                    go_wp2
                    go_roundg (g.edges.length - (j + 1))
                    case measure => omega
                    case rel => exact ⟨j + 1, es ++ [((r1 : Int), (r2 : Int))], pe2, ce2, by omega, by go_num, HPM2, by simpa using H5⟩
              · obtain rfl : j = g.edges.length := by omega
                have hee : es = (partG g s).edges := by rw [HES.out, partT_all]
                subst hee
                have hze : wr.heap[w.heap.size + 1]? = some (.cells #[.slice none 0 0, .slice none 0 0, .int .u64 0, .int .u64 0] 26 (0, 0)) := (HC.out wr HBWe.out).2
                obtain ⟨l0, l1, l2, l3, l4⟩ := box4 hze
                have l5 := l4 0
                have l6 := l4 1
                have l7 := l4 2
                have l8 := l4 3
                obtain ⟨y0, y1, y2, y3, _⟩ := box4 HIe.out.box
                have HZE := Lib.hid hze
                have hnl : (partG g s).names.length = cnt s := by rw [part_len]; omega
                have HNL := Lib.hid hnl
                clear hze l4 hnl
                go_wp2
                refine bodyPost_ret (v := .tuple #[.agg #[.slice pn (partG g s).names.length cn, .slice pe (partG g s).edges.length ce, .int .u64 (un (sq g.phony s) : Int), .int .u64 (un (sq g.made s) : Int)], .int .i64 0]) (results_ct Tryd.results16 _ _ (w.heap.size + 1) 26 _ (0, 0) _ _ rfl rfl ?hp9 Tryd.underlying26 rfl (by kernel_rfl)) rfl ⟨.inl ⟨HG.out, HIN.out, pn, pe, cn, ce, ?he9, ?hn9, ?hm9, ?ha9, ?hb9⟩, ?hw9⟩
                case hp9 => exact box4_all HZE.out _ _ _ _
                case he9 => rw [HNL.out]
                case hn9 =>
                  have hs := HS.out
                  have h1 := HBWb.out.size
                  rw [← HNL.out]
                  exact (World.ownsRow.mono HIe.out.own (by omega)).kept (grown_set4 _ _ _ _ _ _) (.inr fun e => by have := (HIe.out.own.lt _ e).1; omega)
                case hm9 =>
                  have hs := HS.out
                  have h1 := HBWb.out.size
                  exact (World.ownsRow.mono HIe.out.ownE (by omega)).kept (grown_set4 _ _ _ _ _ _) (.inr fun e => by have := (HIe.out.ownE.lt _ e).1; omega)
                case ha9 =>
                  have hs := HS.out
                  have h1 := HBWb.out.size
                  rw [← HNL.out]
                  exact HIe.out.all.kept (grown_set4 _ _ _ _ _ _) (.inr fun e => by have := (HIe.out.own.lt _ e).1; omega)
                case hb9 =>
                  have hs := HS.out
                  have h1 := HBWb.out.size
                  exact HIe.out.allE.kept (grown_set4 _ _ _ _ _ _) (.inr fun e => by have := (HIe.out.ownE.lt _ e).1; omega)
                case hw9 =>
                  have hs := HS.out
                  exact below_set4 (HFIN.out _ HBWe.out) (by omega) _ _ _ _
    · have HZ := Lib.hid hz
      have hzz : (((un (s &&& ~~~belowB g.names.length) : Nat) : Int) != 0) = true := by
        have h0 : un (s &&& ~~~belowB g.names.length) ≠ 0 := fun e => hz (un_inj (by rw [e]; rfl))
        simpa using h0
      clear hz
      go_wp2_with (go_at_call 14; refine (Below_ok _ h64 _).mono ?_; rintro e w' ⟨rfl, rfl⟩)
      refine bodyPost_ret (v := .tuple #[.agg #[.slice none 0 0, .slice none 0 0, .int .u64 0, .int .u64 0], .int .i64 4]) (results_ct Tryd.results16 _ _ (w.heap.size + 1) 26 _ (0, 0) _ _ rfl rfl ?hp Tryd.underlying26 rfl (by kernel_rfl)) rfl ⟨.inr ⟨fun h => HZ.out (sets_in.2 h.2), 4, by decide, rfl⟩, ?hb⟩
      case hp => exact box4_all HBL.out _ _ _ _
      case hb => exact below_set4 (HFIN.out _ HB2.out) (by omega) _ _ _ _
  · have HG := Lib.hid hG
    obtain ⟨i1, i2⟩ := int_ne' hE0
    clear hG
    go_wp2
    refine bodyPost_ret (v := .tuple #[.agg #[.slice none 0 0, .slice none 0 0, .int .u64 0, .int .u64 0], .int .i64 E]) (results_ct Tryd.results16 _ _ (w.heap.size + 1) 26 _ (0, 0) _ _ rfl rfl ?hp Tryd.underlying26 rfl (by kernel_rfl)) rfl ⟨.inr ⟨fun h => HG.out h.1, E, hE0, rfl⟩, ?hb⟩
    case hp => exact box4_all HBL.out _ _ _ _
    case hb => exact below_set4 (HFIN.out _ HB2.out) (by omega) _ _ _ _
end Go.Proofs.YtlhhcgiifgkngaaDoor
namespace Go.Proofs.YtlhhcgiifgkngaaDoor
open Go.RowKit Go.Shelf
theorem run_neqE_same (x1 x2 : Int) (u : World) : (binOp .neq 43 (.agg #[.int .i64 x1, .int .i64 x2]) (.agg #[.int .i64 x1, .int .i64 x2])).run Tryd.prog u = .ok (.bool false) u := by
  have ht := Tryd.underlying43
  have hu : Tryd.prog.underlying 43 = some (.struct (Tryd.prog.fieldsOf 43)) := by unfold Program.fieldsOf; rw [ht]
  have hs : Tryd.prog.stoodInHeld 43 = false := by kernel_rfl
  rw [run_neq_struct, run_equalIn_agg u 9999 43 _ _ hu hs]
  simp only [Program.fieldsOf, ht]
  simp [Op.eqFields, part, run_equalIn_int, Tryd.underlying3]
set_option maxHeartbeats 1000000 in
theorem equalE_same (p q : Option Addr) (n c d : Nat) (es : List E2) (w : World) (h : EsAt w p n c es) (h2 : EsAt w q n d es) :
    Calls Tryd.prog 25 #[.slice p n c, .slice q n d] w fun e w' => e = .returned (.bool true) ∧ ∃ k, w' = w.drewN k := by
  have hl := h.len
  have hbig := h.big
  subst hl
  have HN := Lib.hid h
  have HM := Lib.hid h2
  clear h h2
  go_enter Tryd.func25, Tryd.ntmps25
  go_wp2
  go_loopw [13] (fun i wr => ∃ k : Nat, k ≤ es.length ∧ i = .int .i64 k ∧ Hid (∃ q, wr = w.drewN q)) (fun i _ => es.length - (intOf i).toNat)
  case atStart => exact ⟨0, Nat.zero_le _, rfl, show ∃ q, w = w.drewN q from ⟨0, rfl⟩⟩
  case round =>
    obtain ⟨k, hk, rfl, HW⟩ := hrel
    by_cases hlt : k < es.length
    · have HNr : Hid (EsAt wr p es.length c es) := by
        show P2At _ _ _ _ _ _ _
        obtain ⟨q, hq⟩ := HW.out
        rw [hq]; exact HN.out.below (below_drawsP (Below.refl _ _) q)
      have HMr : Hid (EsAt wr q es.length d es) := by
        show P2At _ _ _ _ _ _ _
        obtain ⟨q, hq⟩ := HW.out
        rw [hq]; exact HM.out.below (below_drawsP (Below.refl _ _) q)
      obtain ⟨b, o, rfl, hb, hca, hcb⟩ := HNr.out.cell (getD_some (0, 0) hlt)
      obtain ⟨b2, o2, rfl, hb2, hcc, hcd⟩ := HMr.out.cell (getD_some (0, 0) hlt)
      generalize es.getD k (0, 0) = y at *
      obtain ⟨y1, y2⟩ := y
      simp only [eF, eG] at hca hcb hcc hcd
      have hcb2 : wr.cell? ⟨b, o + k * 2 + 1, none⟩ = some (.int .i64 y2) := hcb
      have hcd2 : wr.cell? ⟨b2, o2 + k * 2 + 1, none⟩ = some (.int .i64 y2) := hcd
      have hl1 : (k : Int) < (es.length : Int) := by omega
      clear hcb hcd
      have hrun := run_neqE_same y1 y2
      have hgd : Tryd.prog.eqGuardType Tryd.prog.depth 43 = false := by kernel_rfl
      go_wp2
      go_quiet (fail)
      go_wp2
      go_roundw
      case rel =>
        refine ⟨k + 1, by omega, by go_num, ?_⟩
        obtain ⟨q, hq⟩ := HW.out
        exact ⟨_, by rw [hq, drewN_add]⟩
      case measure => simp [intOf]; omega
    · obtain rfl : k = es.length := by omega
      go_wp2
      go_ret
      exact ⟨rfl, HW.out⟩
set_option maxHeartbeats 1000000 in
set_option maxRecDepth 100000 in
theorem sameG_ok (v u : Value) (g : GD) (w : World) (h : GrAt w v g) (h2 : GrAt w u g) :
    Calls Tryd.prog 18 #[v, u] w fun e w' => e = .returned (.bool true) ∧ Below w.heap.size w w' := by
  obtain ⟨p, n, c, q, m, d, rfl, hN, hE⟩ := h.at_
  obtain ⟨p2, n2, c2, q2, m2, d2, rfl, hN2, hE2⟩ := h2.at_
  have hln := hN.at_.len
  have hlm := hE.len
  have hln2 := hN2.at_.len
  have hlm2 := hE2.len
  subst hln hlm hln2 hlm2
  obtain ⟨W, hW⟩ : ∃ W, W = (w.alloc (.cells #[.slice p g.names.length c, .slice q g.edges.length d, .int .u64 (un g.phony : Int), .int .u64 (un g.made : Int)] 26)).alloc (.cells #[.slice p2 g.names.length c2, .slice q2 g.edges.length d2, .int .u64 (un g.phony : Int), .int .u64 (un g.made : Int)] 26) := ⟨_, rfl⟩
  have hBW : Below w.heap.size w W := by rw [hW]; exact ((Below.refl _ _).alloc (Nat.le_refl _) _).alloc (by simp) _
  have k0 : W.cell? ⟨w.heap.size, 0, none⟩ = some (.slice p g.names.length c) := by rw [hW, World.cell?_alloc_lt _ _ _ (by simp), World.cell?_alloc_at _ _ _ _ rfl]; rfl
  have k1 : W.cell? ⟨w.heap.size, 1, none⟩ = some (.slice q g.edges.length d) := by rw [hW, World.cell?_alloc_lt _ _ _ (by simp), World.cell?_alloc_at _ _ _ _ rfl]; rfl
  have k2 : W.cell? ⟨w.heap.size, 2, none⟩ = some (.int .u64 (un g.phony : Int)) := by rw [hW, World.cell?_alloc_lt _ _ _ (by simp), World.cell?_alloc_at _ _ _ _ rfl]; rfl
  have k3 : W.cell? ⟨w.heap.size, 3, none⟩ = some (.int .u64 (un g.made : Int)) := by rw [hW, World.cell?_alloc_lt _ _ _ (by simp), World.cell?_alloc_at _ _ _ _ rfl]; rfl
  have l0 : W.cell? ⟨w.heap.size + 1, 0, none⟩ = some (.slice p2 g.names.length c2) := by rw [hW, World.cell?_alloc_at _ _ _ _ (by simp)]; rfl
  have l1 : W.cell? ⟨w.heap.size + 1, 1, none⟩ = some (.slice q2 g.edges.length d2) := by rw [hW, World.cell?_alloc_at _ _ _ _ (by simp)]; rfl
  have l2 : W.cell? ⟨w.heap.size + 1, 2, none⟩ = some (.int .u64 (un g.phony : Int)) := by rw [hW, World.cell?_alloc_at _ _ _ _ (by simp)]; rfl
  have l3 : W.cell? ⟨w.heap.size + 1, 3, none⟩ = some (.int .u64 (un g.made : Int)) := by rw [hW, World.cell?_alloc_at _ _ _ _ (by simp)]; rfl
  have HNE := Lib.hid (nl_equal (hN.below hBW) (hN2.below hBW))
  have HEE : Hid (∀ k, Calls Tryd.prog 25 #[.slice q g.edges.length d, .slice q2 g.edges.length d2] (W.drewN k) fun e w' => e = .returned (.bool true) ∧ ∃ k, w' = W.drewN k) := by
    show ∀ k, _
    intro k
    have hb := below_drawsP (Below.refl W.heap.size W) k
    refine (equalE_same q q2 _ d d2 g.edges (W.drewN k) ((hE.below hBW).below hb) ((hE2.below hBW).below hb)).mono ?_
    rintro e w' ⟨he, j, hj⟩
    exact ⟨he, _, by rw [hj, drewN_add]⟩
  have HBW := Lib.hid hBW
  clear hN hN2 hE hE2 h h2 hBW
  go_enter Tryd.func18, Tryd.ntmps18
  rw [hW] at k0 k1 k2 k3 l0 l1 l2 l3
  go_wp2_with fail
  rw [← hW] at k0 k1 k2 k3 l0 l1 l2 l3 ⊢
  clear hW
  refine HNE.out.mono ?_
  rintro e w1 ⟨rfl, j, rfl⟩
  go_wp2_with (go_at_call 25; refine (HEE.out _).mono ?_; rintro e w2 ⟨rfl, j2, rfl⟩)
  go_ret
  exact ⟨by simp, below_drawsP HBW.out _⟩
end Go.Proofs.YtlhhcgiifgkngaaDoor
namespace Go.Proofs.YtlhhcgiifgkngaaDoor
open Go.RowKit Go.Shelf
/-- the empty graph -/
def G00 : GD := ⟨[], [], 0#64, 0#64⟩
theorem grat_zero (w : World) : GrAt w (.agg #[.slice none 0 0, .slice none 0 0, .int .u64 0, .int .u64 0]) G00 :=
  ⟨none, 0, 0, none, 0, 0, rfl, ⟨⟨rfl, Reads.none_, fun s hs => (by cases hs), by omega⟩, fun _ => rfl, fun ad h => (by cases h), by omega⟩, ⟨rfl, fun h => absurd h (by omega), by omega⟩⟩
theorem good_sizes {g : GD} (hG : Good g) : ∀ s ∈ g.names, s.size ≤ 4611686018427387904 := fun s hs => by
  have h1 := (okN_mem rfl).1 hG.ok s hs
  have h2 := nameE_size h1
  omega
/-- a graph of a call's own, as it can be read -/
theorem grat_own {w : World} {b1 b2 n m : Nat} {g : GD} {p q : Option Addr} {c d : Nat} (hG : Good g) (hb : m ≤ 8796093022208)
    (ho : w.ownsRow b1 9 1 (.slice p n c) n (strsV g.names)) (he : w.ownsRow b2 43 2 (.slice q m d) m (cells2 eF eG g.edges)) :
    GrAt w (.agg #[.slice p n c, .slice q m d, .int .u64 (un g.phony : Int), .int .u64 (un g.made : Int)]) g := by
  have hl : g.names.length = n := by have := ho.1; simpa [strsV] using this
  have h64 := hG.names
  exact ⟨p, _, c, q, _, d, rfl, NL_own ho (good_sizes hG) (by omega), P2At.own he hb⟩
end Go.Proofs.YtlhhcgiifgkngaaDoor
namespace Go.Proofs.YtlhhcgiifgkngaaDoor
open Go.RowKit Go.Shelf
/-- a graph's value -/
def gv (p : Option Addr) (n c : Nat) (q : Option Addr) (m d : Nat) (ph ma : B) : Value := .agg #[.slice p n c, .slice q m d, .int .u64 (un ph : Int), .int .u64 (un ma : Int)]
theorem part_edges_le (g : GD) (s : B) : (partG g s).edges.length ≤ g.edges.length := by
  unfold partG
  simp only [List.length_map]
  exact List.length_filter_le _ _
theorem Part_good (v : Value) (g : GD) (s : B) (w : World) (hG : Good g) (hs : InN g.names.length s) (hb : g.edges.length ≤ 8796093022208) (h : GrAt w v g) (hT : Tab w) :
    Calls Tryd.prog 16 #[v, .int .u64 (un s : Int)] w fun e w' => ∃ (p : Option Addr) (n c : Nat) (q : Option Addr) (m d : Nat), e = .returned (.tuple #[.agg #[.slice p n c, .slice q m d, .int .u64 (un (sq g.phony s) : Int), .int .u64 (un (sq g.made s) : Int)], .int .i64 0]) ∧
      GrAt w' (.agg #[.slice p n c, .slice q m d, .int .u64 (un (sq g.phony s) : Int), .int .u64 (un (sq g.made s) : Int)]) (partG g s) ∧ Below w.heap.size w w' := by
  refine (Part_ok v g s w h hT).mono ?_
  rintro e w' ⟨⟨_, _, p, q, c, d, rfl, hn, he, _, _⟩ | ⟨hno, _⟩, hbl⟩
  · refine ⟨p, _, c, q, _, d, rfl, ?_, hbl⟩
    exact grat_own (g := partG g s) (good_part hG hs) (Nat.le_trans (part_edges_le g s) hb) hn he
  · exact absurd ⟨hG, hs⟩ hno
theorem Turn_good (v : Value) (g : GD) (w : World) (hG : Good g) (hb : g.edges.length ≤ 8796093022208) (h : GrAt w v g) :
    Calls Tryd.prog 20 #[v] w fun e w' => ∃ (p : Option Addr) (n c : Nat) (q : Option Addr) (m d : Nat) (ts : List E2), e = .returned (.tuple #[.agg #[.slice p n c, .slice q m d, .int .u64 (un g.phony : Int), .int .u64 (un g.made : Int)], .int .i64 0]) ∧ TurnOf g.edges ts ∧ ts.length = g.edges.length ∧
      GrAt w' (.agg #[.slice p n c, .slice q m d, .int .u64 (un g.phony : Int), .int .u64 (un g.made : Int)]) ⟨g.names, ts, g.phony, g.made⟩ ∧ Below w.heap.size w w' := by
  refine (Turn_ok v g w h).mono ?_
  rintro e w' ⟨⟨_, p, q, c, d, ts, ht, hl, rfl, hn, he⟩ | ⟨hno, _⟩, hbl⟩
  · exact ⟨p, _, c, q, _, d, ts, rfl, ht, hl, grat_own (g := ⟨g.names, ts, g.phony, g.made⟩) (good_turn hG ht) hb hn he, hbl⟩
  · exact absurd hG hno
theorem turn_uniq {es a b : List E2} (h : TurnOf es a) (h2 : TurnOf es b) : a = b :=
  erise_ext (erise_pair.1 h.rise) (erise_pair.1 h2.rise) fun x => by rw [h.mem, h2.mem]
/-- a graph is laid into a block of its own -/
theorem boxG (w : World) (v0 v1 v2 v3 : Value) : ∃ X, X = w.alloc (.cells #[v0, v1, v2, v3] 26) ∧ Below w.heap.size w X ∧ X.heap.size = w.heap.size + 1 ∧
    ∀ u : World, Below X.heap.size X u → u.cell? ⟨w.heap.size, 0, none⟩ = some v0 ∧ u.cell? ⟨w.heap.size, 1, none⟩ = some v1 ∧ u.cell? ⟨w.heap.size, 2, none⟩ = some v2 ∧ u.cell? ⟨w.heap.size, 3, none⟩ = some v3 := by
  refine ⟨_, rfl, (Below.refl _ _).alloc (Nat.le_refl _) _, by simp, fun u hu => ?_⟩
  have hs : w.heap.size < (w.alloc (.cells #[v0, v1, v2, v3] 26)).heap.size := by simp
  rw [hu.cell (p := ⟨w.heap.size, 0, none⟩) hs, hu.cell (p := ⟨w.heap.size, 1, none⟩) hs, hu.cell (p := ⟨w.heap.size, 2, none⟩) hs, hu.cell (p := ⟨w.heap.size, 3, none⟩) hs]
  refine ⟨?_, ?_, ?_, ?_⟩ <;> (rw [World.cell?_alloc_at _ _ _ _ rfl]; rfl)
theorem Below_noP (n : Nat) (hn : 64 < n) (w : World) : Calls Tryd.prog 14 #[.int .i64 (n : Int)] w fun e w' => e = .returned (.tuple #[.int .u64 0, .int .i64 4]) ∧ w = w' := by
  have h1 : (64 : Int) < (n : Int) := by omega
  go_enter Tryd.func14, Tryd.ntmps14
  go_wp2
  go_ret2
  exact ⟨rfl, rfl⟩
theorem inN_and {n : Nat} (s : B) (_hn : n ≤ 64) : InN n (s &&& belowB n) := by
  intro k hk
  rw [has_and, Bool.and_eq_true] at hk
  have := hk.2
  rw [has_below _ _ (has_lt this)] at this
  exact of_decide_eq_true this
theorem inN_below (n : Nat) : InN n (belowB n) := by
  intro k hk
  rw [has_below _ _ (has_lt hk)] at hk
  exact of_decide_eq_true hk
theorem inN_sq (g : GD) (t s : B) : InN (partG g s).names.length (sq t s) := by
  intro k hk
  rw [has_sq, Bool.and_eq_true, decide_eq_true_iff] at hk
  rw [part_len]; exact hk.1
theorem and_swap (s t b : B) : (s &&& t) &&& b = (s &&& b) &&& t := eq_of_iff fun k => by
  simp only [has_and, Bool.and_eq_true]
  constructor
  · rintro ⟨⟨h1, h2⟩, h3⟩; exact ⟨⟨h1, h3⟩, h2⟩
  · rintro ⟨⟨h1, h2⟩, h3⟩; exact ⟨⟨h1, h3⟩, h2⟩
set_option maxHeartbeats 8000000 in
set_option maxRecDepth 100000 in
theorem graphPart_walk (v : Value) (g : GD) (s t : B) (w : World) (h : GrAt w v g) (hT : Tab w) :
    Calls Tryd.prog 3 #[v, .int .u64 (un s : Int), .int .u64 (un t : Int)] w fun e w' => e = .returned (.bool true) ∧ Below w.heap.size w w' := by
  have hGr := h
  obtain ⟨p, n, c, q, m, d, rfl, hN, hE⟩ := h.at_
  have hln := hN.at_.len
  have hlm := hE.len
  subst hln hlm
  have hbm := hE.big
  obtain ⟨W, hW, hBW, hWs, hC⟩ := boxG w (.slice p g.names.length c) (.slice q g.edges.length d) (.int .u64 (un g.phony : Int)) (.int .u64 (un g.made : Int))
  have HC := Lib.hid hC
  have HGr := Lib.hid (hGr.below hBW)
  have HT := Lib.hid (hT.below hBW)
  have HFIN : Hid (∀ u, Below W.heap.size W u → Below w.heap.size w u) := by show ∀ u, _; exact fun u hu => below_next hBW hu
  have HBM := Lib.hid hbm
  obtain ⟨k0, k1, k2, k3⟩ := HC.out W (Below.refl _ _)
  rw [hW] at k0 k1 k2 k3
  clear hN hE h hGr hC hBW hT hWs hbm
  go_enter Tryd.func3, Tryd.ntmps3
  go_wp2_with fail
  rw [← hW]
  clear hW k0 k1 k2 k3
  refine (graphs_below W).mono ?_
  rintro e w1 ⟨rfl, hb1⟩
  have HB1 := Lib.hid hb1
  obtain ⟨k0, k1, k2, k3⟩ := HC.out w1 hb1
  clear hb1
  by_cases hn64 : 64 < g.names.length
  · go_wp2_with (go_at_call 14; refine (Below_noP _ hn64 _).mono ?_; rintro e w' ⟨rfl, rfl⟩)
    go_ret
    exact ⟨rfl, HFIN.out _ HB1.out⟩
  have h64 : g.names.length ≤ 64 := by omega
  clear hn64
  go_wp2_with (go_at_call 14; refine (Below_ok _ h64 _).mono ?_; rintro e w' ⟨rfl, rfl⟩)
  refine (CheckG2_ok _ g w1 (HGr.out.below HB1.out)).mono ?_
  rintro e w2 ⟨⟨E, rfl, hE⟩, hb2⟩
  have HB2 := Lib.hid (below_next HB1.out hb2)
  clear hb2 k0 k1 k2 k3
  obtain ⟨k0, k1, k2, k3⟩ := HC.out w2 HB2.out
  rcases hE with ⟨rfl, hG⟩ | ⟨hE0, _⟩
  rotate_left
  · obtain ⟨i1, i2⟩ := int_ne' hE0
    go_wp2
    go_ret
    exact ⟨rfl, HFIN.out _ HB2.out⟩
  have HG := Lib.hid hG
  obtain ⟨S, hS⟩ : ∃ S, S = s &&& belowB g.names.length := ⟨_, rfl⟩
  have HS := Lib.hid hS
  have HSI : Hid (InN g.names.length S) := by show InN _ _; rw [hS]; exact inN_and s h64
  have HGP := Lib.hid (good_part hG HSI.out)
  clear hG hS
  go_wp2_with fail
  refine (Part_good _ g (belowB g.names.length) w2 HG.out (inN_below _) HBM.out (HGr.out.below HB2.out) (HT.out.below HB2.out)).mono ?_
  rintro e w3 ⟨pa, na, ca, qa, ma, da, rfl, hGa, hb3⟩
  rw [part_all HG.out] at hGa
  have HB3 := Lib.hid (below_next HB2.out hb3)
  clear hb3
  clear k0 k1 k2 k3 
  obtain ⟨Xa, hXa, hBa, hsa, hCa⟩ := boxG w3 (.slice pa na ca) (.slice qa ma da) (.int .u64 (un (sq g.phony (belowB g.names.length)) : Int)) (.int .u64 (un (sq g.made (belowB g.names.length)) : Int))
  have HCa := Lib.hid hCa
  have HXa : Hid (Below W.heap.size W Xa) := by show Below _ _ _; exact below_next HB3.out hBa
  have HGa := Lib.hid (hGa.below hBa)
  have HSa := Lib.hid hsa
  clear hCa hGa hBa hsa
  obtain ⟨k0, k1, k2, k3⟩ := HC.out Xa HXa.out
  rw [hXa] at k0 k1 k2 k3
  go_wp2_with fail
  rw [← hXa]
  clear k0 k1 k2 k3 hXa
  rw [← HS.out]
  refine (Part_good _ g S Xa HG.out HSI.out HBM.out (HGr.out.below HXa.out) (HT.out.below HXa.out)).mono ?_
  rintro e w4 ⟨pp, np, cp, qp, mp, dp, rfl, hGp, hb4⟩
  have HB4 := Lib.hid (below_next HXa.out hb4)
  have HA4 := Lib.hid hb4
  clear hb4
  obtain ⟨Xp, hXp, hBp, hsp, hCp⟩ := boxG w4 (.slice pp np cp) (.slice qp mp dp) (.int .u64 (un (sq g.phony S) : Int)) (.int .u64 (un (sq g.made S) : Int))
  have HCp := Lib.hid hCp
  have HXp : Hid (Below W.heap.size W Xp) := by show Below _ _ _; exact below_next HB4.out hBp
  have HGp := Lib.hid (hGp.below hBp)
  have HSp := Lib.hid hsp
  clear hCp hGp hBp hsp
  have HAp : Hid (Below Xa.heap.size Xa Xp) := by show Below _ _ _; have := (Below.refl w4.heap.size w4).alloc (Nat.le_refl _) (.cells #[.slice pp np cp, .slice qp mp dp, .int .u64 (un (sq g.phony S) : Int), .int .u64 (un (sq g.made S) : Int)] 26); rw [← hXp] at this; exact below_next HA4.out this
  have HOK : Hid (allOk [(0 : Int), 0] = true) := by show _ = _; rfl
  have HGD : Hid (Calls Tryd.prog 17 #[.slice (some ⟨w4.heap.size + 1, 0, none⟩) 2 2] (Xp.alloc (.cells #[.int .i64 0, .int .i64 0] 28)) fun e w' => e = .returned (.bool true) ∧ Xp.alloc (.cells #[.int .i64 0, .int .i64 0] 28) = w') := by
    show Calls _ _ _ _ _
    have hg := good2 0 0 Xp
    rw [HSp.out, HOK.out] at hg
    exact hg
  go_wp2_with fail
  rw [← hXp]
  clear hXp
  refine HGD.out.mono ?_
  rintro e w' ⟨rfl, rfl⟩
  obtain ⟨E1, hE1⟩ : ∃ E1 : World, E1 = Xp.alloc (.cells #[.int .i64 0, .int .i64 0] 28) := ⟨_, rfl⟩
  have hPE : Below Xp.heap.size Xp E1 := by rw [hE1]; exact (Below.refl _ _).alloc (Nat.le_refl _) _
  have HPE := Lib.hid hPE
  have HAE : Hid (Below Xa.heap.size Xa E1) := by show Below _ _ _; exact below_next HAp.out hPE
  have HWE : Hid (Below W.heap.size W E1) := by show Below _ _ _; exact below_next HXp.out hPE
  rw [← hE1]
  clear hE1 hPE
  obtain ⟨k0, k1, k2, k3⟩ := HC.out E1 HWE.out
  obtain ⟨a0, a1, a2, a3⟩ := HCa.out E1 HAE.out
  go_wp2_with fail
  refine (sameG_ok _ _ g E1 (HGa.out.below HAE.out) (HGr.out.below HWE.out)).mono ?_
  rintro e w5 ⟨rfl, hb5⟩
  have HP5 := Lib.hid (below_next HPE.out hb5)
  clear hb5 k0 k1 k2 k3 a0 a1 a2 a3
  obtain ⟨k0, k1, k2, k3⟩ := HCp.out w5 HP5.out
  go_wp2_with fail
  refine (CheckG2_ok _ (partG g S) w5 (HGp.out.below HP5.out)).mono ?_
  rintro e w6 ⟨⟨E, rfl, hE⟩, hb6⟩
  have HP6 := Lib.hid (below_next HP5.out hb6)
  clear hb6 k0 k1 k2 k3
  rcases hE with ⟨rfl, _⟩ | ⟨_, hno⟩
  rotate_left
  · exact absurd HGP.out hno
  have HB6 : Hid (Below W.heap.size W w6) := by show Below _ _ _; exact below_next HXp.out HP6.out
  have HT6 := HT.out.below HB6.out
  have hcl := cnt_le S
  go_wp2_with fail
  rw [← HS.out]
  refine (List_ok S w6 HT6).mono ?_
  rintro e w7 ⟨gl, cl, rfl, hown, hb7⟩
  have HLr := Lib.hid (Reads.of_own hown)
  have HB7 := Lib.hid (below_next HB6.out hb7)
  have HP7 := Lib.hid (below_next HP6.out hb7)
  clear hown hb7
  go_wp2
  go_loop [77, 13] (fun i o => ∃ k : Nat, k ≤ cnt S ∧ i = .int .i64 k ∧ o = .int .u64 (un (sqTo t S k) : Int)) (fun i _ => cnt S - (intOf i).toNat)
  case atStart => exact ⟨0, Nat.zero_le _, rfl, rfl⟩
  case round =>
    obtain ⟨k, hk, rfl, rfl⟩ := hrel
    by_cases hlt : k < cnt S
    · obtain ⟨ad, rfl, _, hc⟩ := HLr.out.int_at hlt
      have HN : Hid (sqTo t S (k + 1) = sqTo t S k ||| ((t >>> (lst S).getD k 0 &&& 1#64) <<< k)) := rfl
      have hn64 : (lst S).getD k 0 < 64 := has_lt (nth_mem (s := S) (i := k) (by rw [← cnt_lst]; exact hlt))
      generalize (lst S).getD k 0 = nn at *
      obtain ⟨cur, hcur⟩ : ∃ cur, cur = sqTo t S k := ⟨_, rfl⟩
      rw [← hcur] at HN ⊢
      clear hcur
      go_wp2
      go_round
      case rel => exact ⟨k + 1, by omega, by go_num, by rw [HN.out]⟩
      case measure => simp [intOf]; omega
    · obtain rfl : k = cnt S := by omega
      obtain ⟨a0, a1, a2, a3⟩ := HCp.out w7 HP7.out
      go_wp2_with fail
      refine (Part_good _ (partG g S) (sq t S) w7 HGP.out (inN_sq g t S) (Nat.le_trans (part_edges_le g S) HBM.out) (HGp.out.below HP7.out) (HT.out.below HB7.out)).mono ?_
      rintro e w8 ⟨pq, nq, cq, qq, mq, dq, rfl, hGq, hb8⟩
      rw [part_part] at hGq
      have HB8 := Lib.hid (below_next HB7.out hb8)
      have HP8 := Lib.hid (below_next HP7.out hb8)
      clear a0 a1 a2 a3 hb8
      go_upto_region 17 with fail
      obtain ⟨Xq, hXq, hBq, _, hCq⟩ := boxG w8 (.slice pq nq cq) (.slice qq mq dq) (.int .u64 (un (sq (partG g S).phony (sq t S)) : Int)) (.int .u64 (un (sq (partG g S).made (sq t S)) : Int))
      have HCq := Lib.hid hCq
      have HWq := Lib.hid (below_next HB8.out hBq)
      have HPq := Lib.hid (below_next HP8.out hBq)
      have HGq := Lib.hid (hGq.below hBq)
      rw [← hXq]
      clear hXq hBq hCq hGq
      obtain ⟨k0, k1, k2, k3⟩ := HC.out Xq HWq.out
      go_upto_region 18 with (go_at_call 16; refine (Part_good _ g ((s &&& t) &&& belowB g.names.length) Xq HG.out (inN_and (s &&& t) h64) HBM.out (HGr.out.below HWq.out) (HT.out.below HWq.out)).mono ?_; rintro e w9 ⟨pr, nr, cr, qr, mr, dr, rfl, hG9, hb9⟩)
      obtain ⟨Xr, hXr, hBr, _, hCr⟩ := boxG w9 (.slice pr nr cr) (.slice qr mr dr) (.int .u64 (un (sq g.phony ((s &&& t) &&& belowB g.names.length)) : Int)) (.int .u64 (un (sq g.made ((s &&& t) &&& belowB g.names.length)) : Int))
      have HCr := Lib.hid hCr
      have HWr := Lib.hid (below_next (below_next HWq.out hb9) hBr)
      have HPr := Lib.hid (below_next (below_next HPq.out hb9) hBr)
      have HQr := Lib.hid (below_next (below_next (Below.refl _ Xq) hb9) hBr)
      have HGr9 := Lib.hid (hG9.below hBr)
      rw [← hXr]
      clear hXr hBr hCr hG9 hb9 k0 k1 k2 k3
      obtain ⟨k0, k1, k2, k3⟩ := HC.out Xr HWr.out
      go_upto_region 19 with (go_at_call 20; refine (Turn_good _ g Xr HG.out HBM.out (HGr.out.below HWr.out)).mono ?_; rintro e w10 ⟨pt, nt, ct, qt, mt, dt, ts, rfl, ht, htl, hGt, hb10⟩)
      obtain ⟨Xt, hXt, hBt, _, hCt⟩ := boxG w10 (.slice pt nt ct) (.slice qt mt dt) (.int .u64 (un g.phony : Int)) (.int .u64 (un g.made : Int))
      have HCt := Lib.hid hCt
      have HWt := Lib.hid (below_next (below_next HWr.out hb10) hBt)
      have HPt := Lib.hid (below_next (below_next HPr.out hb10) hBt)
      have HQt := Lib.hid (below_next (below_next HQr.out hb10) hBt)
      have HRt := Lib.hid (below_next (below_next (Below.refl _ Xr) hb10) hBt)
      have HGt := Lib.hid (hGt.below hBt)
      have HTO := Lib.hid ht
      have HTL := Lib.hid htl
      rw [← hXt]
      clear hXt hBt hCt hGt hb10 ht htl k0 k1 k2 k3
      obtain ⟨k0, k1, k2, k3⟩ := HCt.out Xt (Below.refl _ _)
      go_upto_region 20 with (go_at_call 16; rw [← HS.out]; refine (Part_good _ ⟨g.names, ts, g.phony, g.made⟩ S Xt (good_turn HG.out HTO.out) HSI.out (by rw [HTL.out]; exact HBM.out) HGt.out (HT.out.below HWt.out)).mono ?_; rintro e w11 ⟨px, nx, cx, qx, mx, dx, rfl, hGx, hb11⟩)
      obtain ⟨Xx, hXx, hBx, _, hCx⟩ := boxG w11 (.slice px nx cx) (.slice qx mx dx) (.int .u64 (un (sq g.phony S) : Int)) (.int .u64 (un (sq g.made S) : Int))
      have HCx := Lib.hid hCx
      have HWx := Lib.hid (below_next (below_next HWt.out hb11) hBx)
      have HPx := Lib.hid (below_next (below_next HPt.out hb11) hBx)
      have HQx := Lib.hid (below_next (below_next HQt.out hb11) hBx)
      have HRx := Lib.hid (below_next (below_next HRt.out hb11) hBx)
      have HGx := Lib.hid (hGx.below hBx)
      rw [← hXx]
      clear hXx hBx hCx hGx hb11 k0 k1 k2 k3
      obtain ⟨k0, k1, k2, k3⟩ := HCp.out Xx HPx.out
      go_upto_region 21 with (go_at_call 20; refine (Turn_good _ (partG g S) Xx HGP.out (Nat.le_trans (part_edges_le g S) HBM.out) (HGp.out.below HPx.out)).mono ?_; rintro e w12 ⟨py, ny, cy, qy, my, dy, ys, rfl, hty, hyl, hGy, hb12⟩)
      obtain ⟨Xy, hXy, hBy, hsy, hCy⟩ := boxG w12 (.slice py ny cy) (.slice qy my dy) (.int .u64 (un (partG g S).phony : Int)) (.int .u64 (un (partG g S).made : Int))
      have HCy := Lib.hid hCy
      have HWy := Lib.hid (below_next (below_next HWx.out hb12) hBy)
      have HQy := Lib.hid (below_next (below_next HQx.out hb12) hBy)
      have HRy := Lib.hid (below_next (below_next HRx.out hb12) hBy)
      have HXy := Lib.hid (below_next (below_next (Below.refl _ Xx) hb12) hBy)
      have HGy := Lib.hid (hGy.below hBy)
      have HSy := Lib.hid hsy
      have hee : partG ⟨g.names, ts, g.phony, g.made⟩ S = ⟨(partG g S).names, ys, (partG g S).phony, (partG g S).made⟩ := gd_ext rfl (turn_uniq (part_turn HG.out HTO.out) hty) rfl rfl
      have HEE := Lib.hid hee
      rw [← hXy]
      clear hXy hBy hCy hGy hb12 k0 k1 k2 k3 hee hsy hty hyl
      obtain ⟨E2, hE2⟩ : ∃ E2 : World, E2 = Xy.alloc (.cells #[.int .i64 0, .int .i64 0, .int .i64 0, .int .i64 0, .int .i64 0] 28) := ⟨_, rfl⟩
      have hye : Below Xy.heap.size Xy E2 := by rw [hE2]; exact (Below.refl _ _).alloc (Nat.le_refl _) _
      have HOK5 : Hid (allOk [(0 : Int), 0, 0, 0, 0] = true) := by show _ = _; rfl
      have HG5 : Hid (Calls Tryd.prog 17 #[.slice (some ⟨Xy.heap.size, 0, none⟩) 5 5] E2 fun e w' => e = .returned (.bool true) ∧ E2 = w') := by
        show Calls _ _ _ _ _
        have hg := good5 0 0 0 0 0 Xy
        rw [HOK5.out, ← hE2] at hg
        exact hg
      have HWe := Lib.hid (below_next HWy.out hye)
      have HQe := Lib.hid (below_next HQy.out hye)
      have HRe := Lib.hid (below_next HRy.out hye)
      have HXe := Lib.hid (below_next HXy.out hye)
      have HYe := Lib.hid hye
      have hqr : partG g ((s &&& t) &&& belowB g.names.length) = partG g (S &&& t) := by rw [and_swap, ← HS.out]
      have hr2 := HGr9.out.below HRe.out
      rw [hqr] at hr2
      have hx2 := HGx.out.below HXe.out
      rw [HEE.out] at hx2
      have HS1 := Lib.hid (sameG_ok _ _ (partG g (S &&& t)) E2 (HGq.out.below HQe.out) hr2)
      have HS2 := Lib.hid (fun u (hu : Below E2.heap.size E2 u) => sameG_ok _ _ _ u (hx2.below hu) ((HGy.out.below HYe.out).below hu))
      obtain ⟨a0, a1, a2, a3⟩ := HCq.out E2 HQe.out
      obtain ⟨b0, b1, b2, b3⟩ := HCr.out E2 HRe.out
      have HSzy := Lib.hid hE2
      clear hye hqr hr2 hx2 hE2
      go_wp2_with (first
        | (have h4 := HM2; clear h4; go_at_call 18; refine (HS2.out _ HB13.out).mono ?_; rintro e w14 ⟨rfl, hb14⟩; have HB14 := Lib.hid (below_next HB13.out hb14); clear hb14)
        | (have h4 := HM1; clear h4; go_at_call 18; refine HS1.out.mono ?_; rintro e w13 ⟨rfl, hb13⟩; have HB13 := Lib.hid hb13; obtain ⟨c0, c1, c2, c3⟩ := HCx.out w13 (below_next HXe.out hb13); obtain ⟨d0, d1, d2, d3⟩ := HCy.out w13 (below_next HYe.out hb13); have HM2 : Hid (0 = 0) := rfl; clear hb13 a0 a1 a2 a3 b0 b1 b2 b3)
        | (go_at_call 17; rw [← HSzy.out]; refine HG5.out.mono ?_; rintro e w' ⟨rfl, rfl⟩; have HM1 : Hid (0 = 0) := rfl))
      go_ret
      exact ⟨rfl, HFIN.out _ (below_next HWe.out HB14.out)⟩
end Go.Proofs.YtlhhcgiifgkngaaDoor
namespace Go.Proofs.YtlhhcgiifgkngaaDoor
open Go.RowKit Go.ChangeShapes Go.WideShapes
set_option maxRecDepth 100000 in
theorem graph_arg {H : Type} {enc : TypeId × Value → H} {W : World} {r : Reach} {b0 : Nat} {v : Value} {d : DataW H} {p : List MemPlace}
    (hok : Value.okWide Tryd.prog W r b0 26 v) (hf : DataW.Trod enc Tryd.prog W 0 (fun _ => true) true 26 v d p)
    (hsz : ∀ n, n ∈ d.weights Tryd.prog 26 → n ≤ reachBytes) : ∃ g, GrAt W v g := by
  have ht := Tryd.underlying26
  have hok2 := hok
  simp only [Value.okWide, ht] at hok2
  obtain ⟨cs, rfl, hcs, ts, hts, _, hcell⟩ := hok2
  have hc4 : cs.size = 4 := by rw [hcs]; kernel_rfl
  have hts4 : Tryd.prog.cellTypes Tryd.prog.depth 26 = some [22, 23, 24, 24] := by kernel_rfl
  rw [hts] at hts4
  injection hts4 with hts4
  subst hts4
  obtain ⟨fuel, hf⟩ := hf
  obtain ⟨xs, k, _, hxy, hlen, hxl, hff⟩ := DataW.trod_struct ht hf
  obtain ⟨l, rfl⟩ : ∃ l : List Value, cs = l.toArray := ⟨cs.toList, by simp⟩
  have hl4 : l.length = 4 := by simpa using hc4
  match l, hl4, xs, hxl with
  | [v0, v1, v2, v3], _, [y0, y1, y2, y3], _ =>
    have s0 : Tryd.prog.cellsOf 22 = 1 := by kernel_rfl
    have s1 : Tryd.prog.cellsOf 23 = 1 := by kernel_rfl
    have s2 : Tryd.prog.cellsOf 24 = 1 := by kernel_rfl
    have g0 := hff 0 _ rfl
    have g1 := hff 1 _ rfl
    have g2 := hff 2 _ rfl
    have g3 := hff 3 _ rfl
    simp [s0, s1, s2, Value.cells] at g0 g1 g2 g3
    obtain ⟨u0, hu0, o0⟩ := hcell 0 v0 rfl
    obtain ⟨u1, hu1, o1⟩ := hcell 1 v1 rfl
    injection hu0 with hu0
    injection hu1 with hu1
    subst hu0 hu1
    obtain ⟨z2, e2, _, w2⟩ := DataW.trod_int Tryd.underlying24 g2
    obtain ⟨z3, e3, _, w3⟩ := DataW.trod_int Tryd.underlying24 g3
    injection e2 with e2 _
    injection e3 with e3 _
    subst e2 e3
    obtain ⟨m2, rfl⟩ := un_of w2
    obtain ⟨m3, rfl⟩ := un_of w3
    injection hxy with hd _
    have hwt : ∀ n, (n ∈ y0.1.weights Tryd.prog 22 ∨ n ∈ y1.1.weights Tryd.prog 23) → n ≤ reachBytes := by
      intro n hn
      refine hsz n ?_
      rw [hd]
      simp only [DataW.weights, ht, List.map_cons, List.map_nil, DataW.weightsEach, List.mem_append]
      rcases hn with hn | hn
      · exact .inl hn
      · exact .inr (.inl hn)
    obtain ⟨d0, p0⟩ := y0
    obtain ⟨d1, p1⟩ := y1
    have ok0 : Value.okWide Tryd.prog W r b0 22 v0 := by
      simp only [Value.okWide, Tryd.underlying22]; exact o0
    have ok1 : Value.okWide Tryd.prog W r b0 23 v1 := by
      simp only [Value.okWide, Tryd.underlying23]; exact o1
    obtain ⟨a0, n0, c0, rfl⟩ := okWide_slice Tryd.underlying22 ok0
    obtain ⟨a1, n1, c1, rfl⟩ := okWide_slice Tryd.underlying23 ok1
    obtain ⟨zs, hN⟩ := nl_arg ok0 Tryd.underlying22 Tryd.underlying9 (by kernel_rfl) g0 (fun n hn => hwt n (.inl hn))
    have hI : ∀ n v x, DataW.trod enc Tryd.prog W 0 (fun _ => true) true n 3 [v] = some x → ∃ a : Int, v = Value.int .i64 a := by
      intro n v x h
      obtain ⟨z, e, _⟩ := DataW.trod_int Tryd.underlying3 h
      injection e with e _
      exact ⟨z, e⟩
    obtain ⟨es, hE⟩ := p2_arg (Value.int .i64) (Value.int .i64) Tryd.underlying23 Tryd.underlying43 (by kernel_rfl) rfl rfl (by kernel_rfl) (by kernel_rfl) hI hI (by decide +kernel) g1 (fun n hn => hwt n (.inr hn))
    exact ⟨⟨zs, es, m2, m3⟩, ⟨a0, n0, c0, a1, n1, c1, rfl, hN, hE⟩⟩
end Go.Proofs.YtlhhcgiifgkngaaDoor
namespace Go.Proofs.YtlhhcgiifgkngaaDoor
open Go.RowKit
theorem graphPart_law (v : Value) (s t : B) (w : World) (h : ∃ g, GrAt w v g) (hT : Tab w) :
    Calls Tryd.prog 3 #[v, .int .u64 (un s : Int), .int .u64 (un t : Int)] w fun e w' => e = .returned (.bool true) ∧ Below w.heap.size w w' := by
  obtain ⟨g, hg⟩ := h
  exact graphPart_walk v g s t w hg hT
end Go.Proofs.YtlhhcgiifgkngaaDoor
