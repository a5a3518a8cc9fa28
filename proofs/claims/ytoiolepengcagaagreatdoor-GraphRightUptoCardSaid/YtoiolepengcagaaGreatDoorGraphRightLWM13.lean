/- Texts joined: GraphNumW, AskedW, MakeSW, FillW, FileCkW, DelAnyW. Conditions: theirs. -/
import Derived.Test.YtoiolepengcagaaGreatDoorGraphRightLWM12
import Derived.Laws.StructEq
import Derived.Test.YtoiolepengcagaaGreatDoorGraphRightLWM1
import Derived.Test.YtoiolepengcagaaGreatDoorRuleW
import Derived.Deep.Onto
import Derived.Test.YtoiolepengcagaaGreatDoorGraphRightLWM7
import Derived.StillTailTactics
import Derived.Test.YtoiolepengcagaaGreatDoorNLSetW
import Derived.Lib.SliceRun
import Derived.Sort.Walk0
namespace Go.Proofs.YtoiolepengcagaaGreatDoor
open Go.RowKit Go.Shelf
theorem rise_inj {ls : List ByteArray} (h : Rise ls) {i j : Nat} (hi : i < ls.length) (hj : j < ls.length) (e : ls.getD i ByteArray.empty = ls.getD j ByteArray.empty) : i = j := by
  rcases Nat.lt_trichotomy i j with g | g | g
  · have := h i j g hj; rw [e] at this; exact absurd this lt_irr
  · exact g
  · have := h j i g hi; rw [e] at this; exact absurd this lt_irr
theorem run_eqlE (x1 x2 y1 y2 : Int) (u : World) : (binOp .eql 59 (.agg #[.int .i64 x1, .int .i64 x2]) (.agg #[.int .i64 y1, .int .i64 y2])).run Tryz.prog u = .ok (.bool (x1 == y1 && x2 == y2)) u := by
  have ht := Tryz.underlying59
  have hu : Tryz.prog.underlying 59 = some (.struct (Tryz.prog.fieldsOf 59)) := by unfold Program.fieldsOf; rw [ht]
  have hs : Tryz.prog.stoodInHeld 59 = false := by kernel_rfl
  rw [run_eql_struct, run_equalIn_agg u 9999 59 _ _ hu hs]
  simp only [Program.fieldsOf, ht]
  cases h1 : (x1 == y1)
  · simp [Op.eqFields, part, h1, run_equalIn_int, Tryz.underlying3]
  · simp [Op.eqFields, part, h1, run_equalIn_int, Tryz.underlying3]
    by_cases h : x2 = y2 <;> simp [h]
def eqE (x y : E2) : Bool := x.1 == y.1 && x.2 == y.2
theorem eqE_iff {x y : E2} : eqE x y = true ↔ x = y := by
  obtain ⟨x1, x2⟩ := x
  obtain ⟨y1, y2⟩ := y
  simp [eqE]
set_option maxHeartbeats 400000 in
theorem indexE_ok (p : Option Addr) (n c : Nat) (es : List E2) (x : E2) (w : World) (h : EsAt w p n c es) :
    Calls Tryz.prog 58 #[.slice p n c, e2V x] w fun e w' => (∃ z : Int, e = .returned (.int .i64 z) ∧ (0 ≤ z ↔ x ∈ es)) ∧ Below w.heap.size w w' := by
  have hl := h.len
  have hbig := h.big
  subst hl
  have HN := Lib.hid h
  clear h
  obtain ⟨x1, x2⟩ := x
  unfold e2V
  go_enter Tryz.func58, Tryz.ntmps58
  obtain ⟨W, hW⟩ : ∃ W, W = w.alloc (.cells #[.int .i64 x1, .int .i64 x2] 59) := ⟨_, rfl⟩
  have hBW : Below w.heap.size w W := by rw [hW]; exact (Below.refl _ _).alloc (Nat.le_refl _) _
  have c1 : W.cell? ⟨w.heap.size, 0, none⟩ = some (.int .i64 x1) := by rw [hW, World.cell?_alloc_at _ _ _ _ rfl]; rfl
  have c2 : W.cell? ⟨w.heap.size, 1, none⟩ = some (.int .i64 x2) := by rw [hW, World.cell?_alloc_at _ _ _ _ rfl]; rfl
  have HNW := Lib.hid (HN.out.below hBW)
  have HBW := Lib.hid hBW
  clear HN hBW
  go_wp2
  rw [← hW]
  clear hW
  go_loopw [8] (fun i wr => ∃ k : Nat, k ≤ es.length ∧ i = .int .i64 k ∧ Hid ((x1, x2) ∉ es.take k) ∧ Hid (∃ q, wr = W.drewN q)) (fun i _ => es.length - (intOf i).toNat)
  case atStart => exact ⟨0, Nat.zero_le _, rfl, show _ ∉ _ from by simp, show ∃ q, W = W.drewN q from ⟨0, rfl⟩⟩
  case round =>
    obtain ⟨k, hk, rfl, HA, HW⟩ := hrel
    have HQ : Hid (Below w.heap.size w wr) := by
      show Below _ _ _
      obtain ⟨q, hq⟩ := HW.out
      rw [hq]; exact below_drawsP HBW.out q
    have e1 : wr.cell? ⟨w.heap.size, 0, none⟩ = some (.int .i64 x1) := by obtain ⟨q, hq⟩ := HW.out; rw [hq]; exact c1
    have e2 : wr.cell? ⟨w.heap.size, 1, none⟩ = some (.int .i64 x2) := by obtain ⟨q, hq⟩ := HW.out; rw [hq]; exact c2
    by_cases hlt : k < es.length
    · have HNr : Hid (EsAt wr p es.length c es) := by
        show P2At _ _ _ _ _ _ _
        obtain ⟨q, hq⟩ := HW.out
        rw [hq]; exact HNW.out.below (below_drawsP (Below.refl _ _) q)
      obtain ⟨b, o, rfl, hb, hca, hcb⟩ := HNr.out.cell (getD_some (0, 0) hlt)
      have HX : Hid (es.take (k + 1) = es.take k ++ [es.getD k (0, 0)]) := by
        show _ = _
        rw [List.take_succ_eq_append_getElem hlt, List.getD_eq_getElem?_getD, List.getElem?_eq_getElem hlt]; rfl
      have HM : Hid (es.getD k (0, 0) ∈ es) := by
        show _ ∈ _
        rw [List.getD_eq_getElem?_getD, List.getElem?_eq_getElem hlt]; exact List.getElem_mem hlt
      generalize es.getD k (0, 0) = y at *
      obtain ⟨y1, y2⟩ := y
      simp only [eF, eG] at hca hcb
      have hcb2 : wr.cell? ⟨b, o + k * 2 + 1, none⟩ = some (.int .i64 y2) := hcb
      have hl1 : (k : Int) < (es.length : Int) := by omega
      clear hcb c1 c2
      have hrun := run_eqlE x1 x2 y1 y2
      have hgd : Tryz.prog.eqGuardType Tryz.prog.depth 59 = false := by kernel_rfl
      cases hc : (x1 == y1 && x2 == y2)
      · have HNo : Hid ((x1, x2) ∉ es.take (k + 1)) := by
          show _ ∉ _
          rw [HX.out]
          intro hm
          rcases List.mem_append.1 hm with hm | hm
          · exact HA.out hm
          · have := List.mem_singleton.1 hm
            injection this with e1 e2
            rw [e1, e2] at hc
            simp at hc
        simp only [hc] at hrun
        clear hc
        go_wp2
        go_quiet (fail)
        go_wp2
        go_roundw
        case rel =>
          refine ⟨k + 1, by omega, by go_num, HNo.out, ?_⟩
          obtain ⟨q, hq⟩ := HW.out
          exact ⟨_, by rw [hq, drewN_add]⟩
        case measure => simp [intOf]; omega
      · have HYes : Hid ((x1, x2) ∈ es) := by
          show _ ∈ _
          have : (x1, x2) = (y1, y2) := by simpa using hc
          rw [this]; exact HM.out
        simp only [hc] at hrun
        clear hc
        go_wp2
        go_quiet (fail)
        go_wp2
        go_ret
        exact ⟨⟨k, rfl, by constructor; (· exact fun _ => HYes.out); (· omega)⟩, below_drawsP HQ.out _⟩
    · obtain rfl : k = es.length := by omega
      have HNo := HA
      rw [List.take_length] at HNo
      go_wp2
      go_ret
      exact ⟨⟨-1, rfl, by constructor; (· omega); (· exact fun h => absurd h HNo.out)⟩, HQ.out⟩
set_option maxHeartbeats 400000 in
theorem containsE_ok (p : Option Addr) (n c : Nat) (es : List E2) (x : E2) (w : World) (h : EsAt w p n c es) :
    Calls Tryz.prog 26 #[.slice p n c, e2V x] w fun e w' => e = .returned (.bool (decide (x ∈ es))) ∧ Below w.heap.size w w' := by
  have HI := Lib.hid (fun u hu => indexE_ok p n c es x u (h.below hu))
  clear h
  obtain ⟨x1, x2⟩ := x
  unfold e2V at HI ⊢
  obtain ⟨W, hW⟩ : ∃ W, W = w.alloc (.cells #[.int .i64 x1, .int .i64 x2] 59) := ⟨_, rfl⟩
  have hBW : Below w.heap.size w W := by rw [hW]; exact (Below.refl _ _).alloc (Nat.le_refl _) _
  have c1 : W.cell? ⟨w.heap.size, 0, none⟩ = some (.int .i64 x1) := by rw [hW, World.cell?_alloc_at _ _ _ _ rfl]; rfl
  have c2 : W.cell? ⟨w.heap.size, 1, none⟩ = some (.int .i64 x2) := by rw [hW, World.cell?_alloc_at _ _ _ _ rfl]; rfl
  rw [hW] at c1 c2
  have HBW := Lib.hid hBW
  clear hBW
  go_enter Tryz.func26, Tryz.ntmps26
  go_wp2_with fail
  rw [← hW]
  clear hW c1 c2
  refine (HI.out W HBW.out).mono ?_
  rintro e w2 ⟨⟨z, rfl, hz⟩, hb2⟩
  have HB2 := Lib.hid (HBW.out.trans (hb2.mono HBW.out.size))
  have HZ := Lib.hid hz
  clear hz hb2
  go_wp2
  go_ret
  have hd : decide ((x1, x2) ∈ es) = decide ((0 : Int) ≤ z) := decide_eq_decide.2 HZ.out.symm
  exact ⟨by rw [hd]; rfl, HB2.out⟩
end Go.Proofs.YtoiolepengcagaaGreatDoor
namespace Go.Proofs.YtoiolepengcagaaGreatDoor
open Go.RowKit Go.Shelf Go.Maps
theorem concat3w {w : World} {B : Nat} {p1 p2 p3 : Option Addr} {n1 n2 n3 c1 c2 c3 : Nat} {X Y Z : List ByteArray} (h1 : NLw w p1 n1 c1 X) (h2 : NLw w p2 n2 c2 Y) (h3 : NLw w p3 n3 c3 Z) (hsum : n1 + n2 + n3 ≤ 8796093022208)
    (k1 : w.cell? ⟨B, 0, none⟩ = some (.slice p1 n1 c1)) (k2 : w.cell? ⟨B, 1, none⟩ = some (.slice p2 n2 c2)) (k3 : w.cell? ⟨B, 2, none⟩ = some (.slice p3 n3 c3)) (hB : B < w.heap.size) :
    Calls Tryz.prog 11 #[.slice (some ⟨B, 0, none⟩) 3 3] w (CatPost w (X ++ Y ++ Z)) := by
  have l1 := h1.at_.len
  have l2 := h2.at_.len
  have l3 := h3.at_.len
  subst l1 l2 l3
  have hc : ∀ L : List CPart, L = [⟨p1, X.length, c1, X⟩, ⟨p2, Y.length, c2, Y⟩, ⟨p3, Z.length, c3, Z⟩] → catN L L.length = X ++ Y ++ Z := by
    rintro L rfl
    unfold catN
    simp
  have := concatN_ok B [⟨p1, X.length, c1, X⟩, ⟨p2, Y.length, c2, Y⟩, ⟨p3, Z.length, c3, Z⟩] w (by simp) ⟨fun k hk => by
    match k, hk with
    | 0, _ => exact h1
    | 1, _ => exact h2
    | 2, _ => exact h3, fun k hk => by
    match k, hk with
    | 0, _ => exact k1
    | 1, _ => exact k2
    | 2, _ => exact k3⟩ (by rw [hc _ rfl, List.length_append, List.length_append]; omega) hB
  rw [hc _ rfl] at this
  exact this
/-- all names of the first k rules -/
def askN (l : List (Hd × Hd)) (k : Nat) : List ByteArray := (l.take k).flatMap fun x => x.1.zs ++ x.2.zs
theorem askN_next {l : List (Hd × Hd)} {k : Nat} (h : k < l.length) : askN l (k + 1) = askN l k ++ l[k].1.zs ++ l[k].2.zs := by
  unfold askN
  rw [List.take_add_one, List.getElem?_eq_getElem h, List.flatMap_append]
  simp
theorem askN_le (l : List (Hd × Hd)) (k : Nat) : (askN l k).length ≤ (askN l l.length).length := by
  unfold askN
  have : l.take l.length = l.take k ++ l.drop k := by rw [List.take_length, List.take_append_drop]
  rw [this, List.flatMap_append, List.length_append]
  omega
theorem nlw_none (w : World) : NLw w none 0 0 [] := (NL_none w).weak
theorem nlw_own {w : World} {base n c : Nat} {g : Option Addr} {zs : List ByteArray} (h : w.ownsRow base 9 1 (.slice g n c) n (strsV zs)) (hs : ∀ s ∈ zs, s.size ≤ 4611686018427387904) (hn : n * 16 ≤ 140737488351232) : NLw w g n c zs := (NL_own h hs hn).weak
set_option maxHeartbeats 4000000 in
theorem asked_ok (p : Option Addr) (n c : Nat) (l : List (Hd × Hd)) (w : World) (h : RulesIn w p n c l) (hb : (askN l l.length).length ≤ 1000000) :
    Calls Tryz.prog 86 #[.slice p n c] w (CatPost w (askN l l.length)) := by
  have hlen := h.at_.len
  have hbig := h.at_.big
  subst hlen
  have HN := Lib.hid (fun u (hu : Below w.heap.size w u) => h.below hu)
  have HSZ : Hid (∀ k, ∀ s ∈ askN l k, s.size ≤ 4611686018427387904) := by
    show ∀ k, _
    intro k s hs
    obtain ⟨x, hx, hs⟩ := List.mem_flatMap.1 hs
    have hx := List.mem_of_mem_take hx
    rcases List.mem_append.1 hs with hs | hs
    · exact (h.ok x hx).1.1.at_.size s hs
    · exact (h.ok x hx).2.1.at_.size s hs
  have HLE := Lib.hid (fun k => Nat.le_trans (askN_le l k) hb)
  clear h hb
  go_enter Tryz.func86, Tryz.ntmps86
  go_wp2
  go_loopw [8, 3] (fun i v wr => ∃ (k : Nat) (q : Option Addr) (cq : Nat), k ≤ l.length ∧ i = .int .i64 k ∧ v = .slice q (askN l k).length cq ∧ Hid (Below w.heap.size w wr) ∧ Hid (wr.ownsRow w.heap.size 9 1 (.slice q (askN l k).length cq) (askN l k).length (strsV (askN l k)))) (fun i _ _ => l.length - (intOf i).toNat)
  case atStart => exact ⟨0, none, 0, Nat.zero_le _, rfl, rfl, Below.refl _ _, World.ownsRow_nil _ _ _ _⟩
  case round =>
    obtain ⟨k, q, cq, hk, rfl, rfl, HW, HO⟩ := hrel
    by_cases hlt : k < l.length
    · have hel := List.getElem?_eq_getElem hlt
      obtain ⟨b, o, rfl, hb, c1, c2⟩ := (HN.out _ HW.out).at_.cell hel
      have hok := (HN.out _ HW.out).ok _ (List.getElem_mem hlt)
      have HNX := Lib.hid (askN_next hlt)
      have HLK := Lib.hid (HLE.out (k + 1))
      have hlk := HLE.out k
      rw [← Nat.add_assoc] at c2
      clear hel
      generalize l[k] = y at *
      obtain ⟨⟨p1, n1, cc1, T⟩, ⟨p2, n2, cc2, N⟩⟩ := y
      simp only [rF, rG, Hd.v] at c1 c2 HNX
      obtain ⟨⟨k1, k2⟩, ⟨k3, k4⟩⟩ := hok
      simp only at k1 k2 k3 k4
      have hk1 : (k : Int) < (l.length : Int) := by omega
      have l1 := k1.at_.len
      have l2 := k3.at_.len
      subst l1 l2
      have hnl := nlw_own HO.out (HSZ.out k) (by omega)
      obtain ⟨W0, hW0⟩ : ∃ W0, W0 = wr.alloc (.cells #[.slice p1 T.length cc1, .slice p2 N.length cc2] 61) := ⟨_, rfl⟩
      have hb0 : Below wr.heap.size wr W0 := by rw [hW0]; exact rb1 wr _
      have hs0 : W0.heap.size = wr.heap.size + 1 := by rw [hW0]; simp
      have cx0 : W0.cell? ⟨wr.heap.size, 0, none⟩ = some (.slice p1 T.length cc1) := by rw [hW0]; simp
      have cx1 : W0.cell? ⟨wr.heap.size, 1, none⟩ = some (.slice p2 N.length cc2) := by rw [hW0]; simp
      obtain ⟨W1, hW1⟩ : ∃ W1, W1 = W0.alloc (.cells #[.slice q (askN l k).length cq, .slice p1 T.length cc1, .slice p2 N.length cc2] 23) := ⟨_, rfl⟩
      have hb1 : Below W0.heap.size W0 W1 := by rw [hW1]; exact rb1 W0 _
      have hb01 : Below wr.heap.size wr W1 := hb0.trans (hb1.mono hb0.size)
      have HC := Lib.hid (concat3w (hnl.below hb01) (k1.below hb01) (k3.below hb01) (by have := HLK.out; rw [HNX.out] at this; simp only [List.length_append] at this; omega) (B := W0.heap.size) (by rw [hW1]; simp) (by rw [hW1]; simp) (by rw [hW1]; simp) (by rw [hW1]; simp))
      rw [← HNX.out] at HC
      have HB1 := Lib.hid (HW.out.trans (hb01.mono HW.out.size))
      have hs1 : w.heap.size ≤ W1.heap.size := HB1.out.size
      clear k1 k3 hnl hb01 hb1 hb0
      rw [hs0] at HC
      go_upto_region 5 with fail
      rw [← hW0]
      clear hW0 c1 c2
      go_wp2_with (go_at_call 11; rw [← hW1]; refine HC.out.mono ?_; rintro e w2 ⟨q2, c2, rfl, hown, hb2⟩; have HO2 := Lib.hid hown; have HB2 := Lib.hid hb2; clear hown hb2)
      go_roundw
      case rel => exact ⟨k + 1, q2, c2, by omega, by go_num, rfl, HB1.out.trans (HB2.out.mono hs1), World.ownsRow.mono HO2.out hs1⟩
      case measure => simp [intOf]; omega
    · obtain rfl : k = l.length := by omega
      go_wp2
      go_ret
      exact ⟨q, cq, rfl, HO.out, HW.out⟩
end Go.Proofs.YtoiolepengcagaaGreatDoor
namespace Go.Proofs.YtoiolepengcagaaGreatDoor
open Go.RowKit Go.Shelf
theorem bz_get {N : List Bs} {k : Nat} (hk : k < (bz N).length) : ∃ u, N[k]? = some u ∧ (bz N).getD k ByteArray.empty = txt u := by
  have h2 : k < N.length := by rw [bz_len] at hk; exact hk
  refine ⟨N[k], List.getElem?_eq_getElem h2, ?_⟩
  rw [List.getD_eq_getElem?_getD]
  unfold bz
  rw [List.getElem?_map, List.getElem?_eq_getElem h2]
  rfl
theorem shl_min (a : Nat) : (1#64 <<< min a 64) = (1#64 <<< a) := by
  rcases Nat.le_total a 64 with h | h
  · rw [Nat.min_eq_left h]
  · rw [Nat.min_eq_right h, BitVec.shiftLeft_eq_zero (Nat.le_refl _), BitVec.shiftLeft_eq_zero h]
theorem rise_bz {N : List Bs} (hN : N.Pairwise (· < ·)) : Rise (bz N) := by
  intro i j hij hj
  have h1 : N = byt (bz N) := (byt_bz _).symm
  have h2 := hN
  rw [h1] at h2
  have h3 := List.pairwise_iff_getElem.1 h2 i j (by rw [byt_len]; omega) (by rw [byt_len]; omega) hij
  unfold byt at h3
  rw [List.getElem_map, List.getElem_map] at h3
  rw [List.getD_eq_getElem?_getD, List.getD_eq_getElem?_getD, List.getElem?_eq_getElem hj, List.getElem?_eq_getElem (by omega : i < (bz N).length)]
  exact h3
theorem setS_yes {N : List Bs} (hN : N.Pairwise (· < ·)) {x : ByteArray} {k : Nat} (hk : k < (bz N).length) (he : (bz N).getD k ByteArray.empty = x) (s : B) : setS N s x = s ||| (1#64 <<< k) := by
  obtain ⟨u, h1, h2⟩ := bz_get hk
  rw [h2] at he
  subst he
  unfold setS
  rw [txt_list, if_pos (List.mem_of_getElem? h1), idx_uniq hN h1]
theorem setS_no {N : List Bs} {x : ByteArray} (h : Lib.containsS (bz N) x = false) (s : B) : setS N s x = s := by
  unfold setS
  rw [if_neg]
  intro hx
  have : Lib.containsS (bz N) x = true := has_iff.2 (mem_bz.2 hx)
  rw [h] at this
  cases this
/-- a name that is there is found where it stands -/
theorem find_at {w : World} {p : Option Addr} {c : Nat} {N : List Bs} (h : NL w p (bz N).length c (bz N)) (hN : N.Pairwise (· < ·)) {x : ByteArray} (hx : x.data.toList ∈ N) :
    Calls Tryz.prog 25 #[.slice p (bz N).length c, .string x] w fun e w' => e = .returned (.tuple #[.int .i64 (N.idxOf x.data.toList : Nat), .bool true]) ∧ ∃ q, w' = w.drewN q := by
  refine (find_ok h (rise_bz hN) x).mono ?_
  rintro e w' ⟨hF, hq⟩
  refine ⟨?_, hq⟩
  rcases hF with ⟨k, hk, hkx, rfl⟩ | ⟨hc, _⟩
  · obtain ⟨u, h1, h2⟩ := bz_get hk
    rw [h2] at hkx
    subst hkx
    rw [txt_list, idx_uniq hN h1]
  · exfalso
    have : Lib.containsS (bz N) x = true := has_iff.2 (mem_bz.2 hx)
    rw [hc] at this
    cases this
set_option maxHeartbeats 1000000 in
set_option maxRecDepth 100000 in
theorem gset_ok {p q : Option Addr} {c d : Nat} {N : List Bs} {ns : List ByteArray} {w : World} (hL : NL w p (bz N).length c (bz N)) (hN : N.Pairwise (· < ·)) (hQ : NLw w q ns.length d ns) :
    Calls Tryz.prog 55 #[.slice p (bz N).length c, .slice q ns.length d] w fun e w' => e = .returned (.int .u64 (un (setM N ns) : Int)) ∧ ∃ m, w' = w.drewN m := by
  have hbig := hQ.at_.big
  have HL := Lib.hid hL
  have HQ := Lib.hid hQ
  have HN := Lib.hid hN
  have HR := Lib.hid (rise_bz hN)
  clear hL hQ hN
  go_enter Tryz.func55, Tryz.ntmps55
  go_wp2
  go_loopw [12, 5] (fun i s wr => ∃ k : Nat, k ≤ ns.length ∧ i = .int .i64 k ∧ s = .int .u64 (un (setM N (ns.take k)) : Int) ∧ Hid (∃ m, wr = w.drewN m)) (fun i _ _ => ns.length - (intOf i).toNat)
  case atStart => exact ⟨0, Nat.zero_le _, rfl, rfl, show ∃ m, w = w.drewN m from ⟨0, rfl⟩⟩
  case round =>
    obtain ⟨k, hk, rfl, rfl, HW⟩ := hrel
    by_cases hlt : k < ns.length
    · have HLr : Hid (NL wr p (bz N).length c (bz N)) := by
        show NL _ _ _ _ _
        obtain ⟨m, hm⟩ := HW.out
        rw [hm]; exact HL.out.drew m
      have HQr : Hid (NLw wr q ns.length d ns) := by
        show NLw _ _ _ _ _
        obtain ⟨m, hm⟩ := HW.out
        rw [hm]; exact HQ.out.drew m
      obtain ⟨ad, rfl, _, hc⟩ := str_at HQr.out.at_.reads hlt
      have HX := Lib.hid (setM_take (N := N) hlt)
      generalize ns.getD k ByteArray.empty = x at *
      obtain ⟨cur, hcur⟩ : ∃ cur, cur = setM N (ns.take k) := ⟨_, rfl⟩
      rw [← hcur] at HX ⊢
      clear hcur
      have HF := Lib.hid (find_ok HLr.out HR.out x)
      go_wp2_with fail
      refine HF.out.mono ?_
      rintro e w2 ⟨hF, m2, rfl⟩
      have HW2 : Hid (∃ m, wr.drewN m2 = w.drewN m) := by
        show ∃ m, _
        obtain ⟨m, hm⟩ := HW.out
        exact ⟨m + m2, by rw [hm, World.drewN_drewN]⟩
      clear hc
      rcases hF with ⟨a, ha, hax, rfl⟩ | ⟨hno, rfl⟩
      · have HS := Lib.hid (setS_yes HN.out ha hax cur)
        clear hax
        go_wp2
        go_roundw
        case rel => exact ⟨k + 1, by omega, by go_num, by rw [HX.out, HS.out, shl_min], HW2⟩
        case measure => simp [intOf]; omega
      · have HS := Lib.hid (setS_no hno cur)
        clear hno
        go_wp2
        go_roundw
        case rel => exact ⟨k + 1, by omega, by go_num, by rw [HX.out, HS.out], HW2⟩
        case measure => simp [intOf]; omega
    · obtain rfl : k = ns.length := by omega
      go_wp2
      go_ret
      rw [List.take_length]
      exact ⟨rfl, HW.out⟩
end Go.Proofs.YtoiolepengcagaaGreatDoor
namespace Go.Proofs.YtoiolepengcagaaGreatDoor
open Go.RowKit Go.Shelf Go.Maps
theorem MapH.block {w : World} {B n : Nat} {ks : List Bs} {h : Bs → Value} (hm : MapH w B n ks h) : ∃ es clock, w.heap[B]? = some (.map es clock) := by
  obtain ⟨D, ⟨es, clock, h1, _⟩, _⟩ := hm
  exact ⟨es, clock, h1⟩
/-- a row of cells is no map -/
theorem own_nomap {w : World} {lo e k n B : Nat} {v : Value} {xs : List Value} {es : Array MapEntry} {clock : Nat} (h : w.ownsRow lo e k v n xs) (hb : w.heap[B]? = some (.map es clock)) : v.ownBlock = none ∨ v.ownBlock ≠ some B := by
  rcases h.2 with ⟨rfl, _⟩ | ⟨g, cap, cur, rfl, _, hg, _⟩
  · exact .inl rfl
  · right
    intro e
    simp only [Value.ownBlock, Option.some.injEq] at e
    subst e
    rw [hg] at hb
    cases hb
/-- a slice that reads is no map -/
theorem NLw.nomap {w w' : World} {p : Option Addr} {n c B : Nat} {zs : List ByteArray} {es : Array MapEntry} {clock : Nat} (h : NLw w p n c zs) (hb : w.heap[B]? = some (.map es clock)) (hg : w.grownBy w' (some B)) : NLw w' p n c zs := by
  refine ⟨⟨h.at_.len, ⟨h.at_.reads.1, fun hn => ?_⟩, h.at_.size, h.at_.big⟩, fun hn ad e => ?_, h.reach⟩
  · obtain ⟨ad, e, hlt, hc⟩ := h.at_.reads.2 hn
    obtain ⟨b, o, e2, hbl⟩ := h.plain hn ad e
    subst e2
    have hne : b ≠ B := by
      rintro rfl
      obtain ⟨ad2, e2, _, hc2⟩ := str_at h.at_.reads hn
      rw [e] at e2
      injection e2 with e2
      subst e2
      rw [Addr.add_lit] at hc2
      unfold World.cell? at hc2
      simp only [hb] at hc2
      cases hc2
    refine ⟨_, e, Nat.lt_of_lt_of_le hlt hg.size, ?_⟩
    intro k x hx
    rw [← hc k x hx]
    unfold World.cell?
    simp only [Addr.add_lit]
    rw [hg.block b hbl (fun e => hne (by injection e))]
  · obtain ⟨b, o, e2, hbl⟩ := h.plain hn ad e
    exact ⟨b, o, e2, Nat.lt_of_lt_of_le hbl hg.size⟩
theorem NL.nomap {w w' : World} {p : Option Addr} {n c B : Nat} {zs : List ByteArray} {es : Array MapEntry} {clock : Nat} (h : NL w p n c zs) (hb : w.heap[B]? = some (.map es clock)) (hg : w.grownBy w' (some B)) : NL w' p n c zs :=
  ⟨(h.weak.nomap hb hg).at_, h.nil, fun ad e => by
    obtain ⟨b, o, e2, hbl⟩ := h.plain ad e
    exact ⟨b, o, e2, Nat.lt_of_lt_of_le hbl hg.size⟩, h.reach⟩
/-- a map of rows that stay -/
structure MapR (w : World) (B n lo : Nat) (ks : List Bs) (h : Bs → Value) (g : Bs → List ByteArray) : Prop where
  map : MapH w B n ks h
  row : ∀ s, w.ownsRow lo 9 1 (h s) (g s).length (strsV (g s))
theorem MapR.below {w w' : World} {B n lo : Nat} {ks : List Bs} {h : Bs → Value} {g : Bs → List ByteArray} (hm : MapR w B n lo ks h g) (hb : Below w.heap.size w w') : MapR w' B n lo ks h g :=
  ⟨hm.map.kept (grown_below hb) (by simp), fun s => own_belowR (hm.row s) hb⟩
theorem MapR.store {w w' : World} {B n lo : Nat} {ks : List Bs} {h : Bs → Value} {g : Bs → List ByteArray} {u : Bs} {v : Value} {zs : List ByteArray} (hm : MapR w B n lo ks h g) (hv : w.ownsRow lo 9 1 v zs.length (strsV zs))
    (hM : MapH w' B (n + 1) (u :: ks) (upd h u v)) (hg : w.grownBy w' (some B)) : MapR w' B (n + 1) lo (u :: ks) (upd h u v) (upd g u zs) := by
  obtain ⟨es, clock, hb⟩ := hm.map.block
  refine ⟨hM, fun s => ?_⟩
  by_cases hs : s = u
  · subst hs
    rw [upd_same, upd_same]
    exact hv.kept hg (own_nomap hv hb)
  · rw [upd_other _ _ hs, upd_other _ _ hs]
    exact (hm.row s).kept hg (own_nomap (hm.row s) hb)
theorem sortedKeysM {w : World} {B n : Nat} {ks : List Bs} {h : Bs → Value} (hM : MapH w B n ks h) (hn : n ≤ 8796093022208) :
    Calls Tryz.prog 88 #[.func (.func 126) #[] #[.pointer (some ⟨w.heap.size, 0, none⟩)]] (w.alloc (.cells #[.map (some B)] 154)) fun e w' => ∃ (q : Option Addr) (c : Nat) (us : List Bs), e = .returned (.slice q us.length c) ∧ us.Pairwise (· < ·) ∧ (∀ t, t ∈ us ↔ t ∈ ks) ∧ us.length ≤ n ∧
      w'.ownsRow (w.heap.size + 1) 9 1 (.slice q us.length c) us.length (us.map encStr) ∧ Below (w.heap.size + 1) (w.alloc (.cells #[.map (some B)] 154)) w' := by
  obtain ⟨D, h1, h2, h3, h4⟩ := hM.keys
  have hs : (w.alloc (.cells #[.map (some B)] 154)).heap.size = w.heap.size + 1 := by simp
  refine (callsIn_wide.1 (Tryz.sorted_keys B n D rawE w h1 (by unfold maxLen; omega) (by omega))).mono ?_
  rintro e w' ⟨v, ss, rfl, hp, hown, _, hb⟩
  have hln : ss.length = (ss.mergeSort fun x y => decide (x ≤ y)).length := (List.length_mergeSort ss).symm
  have hsz : ss.length ≤ n := by
    have : (strKeys D).length = Maps.size D := by cases D <;> simp [strKeys, Maps.size]
    rw [hp.length_eq, this]; exact h2
  rw [hs] at hown hb
  obtain ⟨q, c, rfl⟩ : ∃ q c, v = .slice q ss.length c := by
    rcases hown.2 with ⟨rfl, h0⟩ | ⟨g', cap, _, rfl, _⟩
    · exact ⟨none, 0, by rw [h0]⟩
    · exact ⟨_, _, rfl⟩
  refine ⟨q, c, ss.mergeSort fun x y => decide (x ≤ y), by rw [← hln], strict_sorted (merge_le ss) (hp.nodup_iff.2 h3), fun t => ?_, by omega, by rw [← hln]; exact hown, hb⟩
  rw [(List.mergeSort_perm ss _).mem_iff, hp.mem_iff, h4]
theorem own_capR {w : World} {lo e n c : Nat} {p : Option Addr} {xs : List Value} (h : w.ownsRow lo e 1 (.slice p n c) n xs) : n ≤ c := by
  rcases h.2 with ⟨hv, rfl⟩ | ⟨g, cap, cur, hv, _, _, h3, _⟩
  · omega
  · injection hv with _ _ e
    subst e
    exact h3
theorem grown_any {w w' : World} {r : Option Nat} (hb : Below w.heap.size w w') : w.grownBy w' r := ⟨hb.os, hb.tape, hb.output, hb.size, fun k hk _ => hb.block k hk⟩
/-- what Join answers, read -/
theorem join_reads (p : Option Addr) (n c : Nat) (l : List (Hd × Hd)) (w : World) (hR : RulesIn w p n c l) (h0 : joinRE (l.map rl) = 0) :
    Calls Tryz.prog 83 #[.slice p n c] w fun e w' => (∃ (q : Option Addr) (d : Nat) (h : Bs → Value) (rs : List (Hd × Hd)), e = .returned (.tuple #[.slice q (usF (l.map rl)).length d, .int .i64 0]) ∧ RulesIn w' q (usF (l.map rl)).length d rs ∧
      rs.map (fun x => (x.1.zs, x.2)) = (usF (l.map rl)).map (fun u => ([txt u], hdOf (h u) (jF (l.map rl) u))) ∧ ∀ s, w'.ownsRow w.heap.size 9 1 (h s) (jF (l.map rl) s).length (strsV (jF (l.map rl) s))) ∧ Below w.heap.size w w' := by
  obtain ⟨_, hru, hj64, hu64⟩ := joinRE_zero h0
  refine (JoinR_ok p n c l w hR).mono ?_
  rintro e w' ⟨v, E, rfl, hE, _, hb, hz⟩
  rw [h0] at hE
  subst hE
  obtain ⟨q, d, lo, lo2, us, h, rs, rfl, hs, hm, hl64, hlo, hlo2, hown, hmap, hT, hdis, hrow, _, _⟩ := hz rfl
  obtain rfl := usF_uniq hs hm
  have hmap : rs.map (fun x => (x.1.zs, x.2)) = (usF (l.map rl)).map (fun u => ([txt u], hdOf (h u) (jF (l.map rl) u))) := hmap
  have hlen : rs.length = (usF (l.map rl)).length := by have := congrArg List.length hmap; simpa using this
  refine ⟨⟨q, d, h, rs, rfl, ⟨P2At.own hown (by omega), fun x hx => ?_, ?_⟩, hmap, fun s => World.ownsRow.mono (hrow s) hlo⟩, hb⟩
  · have hx1 := hT x hx
    have hxm : (x.1.zs, x.2) ∈ (usF (l.map rl)).map (fun u => ([txt u], hdOf (h u) (jF (l.map rl) u))) := by rw [← hmap]; exact List.mem_map_of_mem hx
    obtain ⟨u, hu, he⟩ := List.mem_map.1 hxm
    injection he with he1 he2
    obtain ⟨⟨p1, n1, c1, z1⟩, x2⟩ := x
    simp only [Hd.v] at hx1 he1 he2
    subst he1
    have hn1 : n1 = [txt u].length := by
      rcases hx1.2 with ⟨hv, h1⟩ | ⟨g, cap, cur, hv, _⟩
      · cases h1
      · injection hv
    subst hn1
    have hut := usF_names hru hu
    obtain ⟨p2, c2, hv2, hh2⟩ := hdOf_v (hrow u) (jF (l.map rl) u)
    have hr2 := hrow u
    have hv2' : h u = .slice p2 (jF (l.map rl) u).length c2 := hv2
    have hh2' : hdOf (h u) (jF (l.map rl) u) = ⟨p2, (jF (l.map rl) u).length, c2, jF (l.map rl) u⟩ := hh2
    rw [hh2'] at he2
    subst he2
    rw [hv2'] at hr2
    refine ⟨⟨nlw_own hx1 (fun s hs => ?_) (by simp), own_capR hx1⟩, ⟨nlw_own hr2 (fun s hs => ?_) (by have := hj64 u; show (jF (l.map rl) u).length * 16 ≤ _; omega), own_capR hr2⟩⟩
    · rw [List.mem_singleton.1 hs]
      have := nameE_size hut
      omega
    · have := nameE_size (jF_names hru hs)
      omega
  · rcases hown.2 with ⟨hv, h1⟩ | ⟨g, cap, cur, hv, _, _, h3, _⟩
    · injection hv with _ h2 h3; omega
    · injection hv with _ _ e
      subst e
      exact h3
theorem hdOf_zs (v : Value) (zs : List ByteArray) : (hdOf v zs).zs = zs := by
  unfold hdOf
  cases v <;> rfl
/-- rules that were laid one by one read -/
theorem rules_laid {w : World} {lo lo2 n : Nat} {p : Option Addr} {c : Nat} {vs : List Bs} {h : Bs → Value} {g : Bs → List ByteArray} {rs : List (Hd × Hd)} (hown : w.ownsRow lo2 61 2 (.slice p n c) n (cells2 rF rG rs)) (hbig : n ≤ 8796093022208)
    (hT : ∀ x ∈ rs, w.ownsRow lo2 9 1 x.1.v x.1.zs.length (strsV x.1.zs)) (hmap : rs.map (fun x => (x.1.zs, x.2)) = vs.map (fun u => ([txt u], hdOf (h u) (g u)))) (hrow : ∀ s, w.ownsRow lo 9 1 (h s) (g s).length (strsV (g s)))
    (hvn : ∀ u ∈ vs, nameE (txt u) = 0) (hgn : ∀ u, ∀ x ∈ g u, nameE x = 0) (hgl : ∀ u, (g u).length ≤ 1000) : RulesIn w p n c rs ∧ rs.map rl = vs.map fun u => ([txt u], g u) := by
  constructor
  · refine ⟨P2At.own hown hbig, fun x hx => ?_, ?_⟩
    · have hx1 := hT x hx
      have hxm : (x.1.zs, x.2) ∈ vs.map (fun u => ([txt u], hdOf (h u) (g u))) := by rw [← hmap]; exact List.mem_map_of_mem hx
      obtain ⟨u, hu, he⟩ := List.mem_map.1 hxm
      injection he with he1 he2
      obtain ⟨⟨p1, n1, c1, z1⟩, x2⟩ := x
      simp only [Hd.v] at hx1 he1 he2
      subst he1
      have hn1 : n1 = [txt u].length := by
        rcases hx1.2 with ⟨hv, h1⟩ | ⟨g, cap, cur, hv, _⟩
        · cases h1
        · injection hv
      subst hn1
      have hut := hvn u hu
      obtain ⟨p2, c2, hv2, hh2⟩ := hdOf_v (hrow u) (g u)
      have hr2 := hrow u
      rw [hh2] at he2
      subst he2
      rw [hv2] at hr2
      refine ⟨⟨nlw_own hx1 (fun s hs => ?_) (by simp), own_capR hx1⟩, ⟨nlw_own hr2 (fun s hs => ?_) (by have := hgl u; show (g u).length * 16 ≤ _; omega), own_capR hr2⟩⟩
      · rw [List.mem_singleton.1 hs]
        have := nameE_size hut
        omega
      · have := nameE_size (hgn u s hs)
        omega
    · rcases hown.2 with ⟨hv, h1⟩ | ⟨g, cap, cur, hv, _, _, h3, _⟩
      · injection hv with _ h2 h3; omega
      · injection hv with _ _ e
        subst e
        exact h3
  · have := congrArg (List.map fun q : List ByteArray × Hd => (q.1, q.2.zs)) hmap
    rw [List.map_map, List.map_map] at this
    refine Eq.trans (Eq.trans ?_ this) ?_
    · rfl
    · refine List.map_congr_left fun u _ => ?_
      show ([txt u], (hdOf (h u) (g u)).zs) = _
      rw [hdOf_zs]
def FillPost (w : World) (R : List Rl) (l : List Inf) (there : List ByteArray) (e : Ending) (w' : World) : Prop :=
  (∃ v, e = .returned (.tuple #[v, .int .i64 (fillE R l there)]) ∧ (fillE R l there ≠ 0 → v = nilS) ∧
    (fillE R l there = 0 → ∃ (p : Option Addr) (c : Nat) (l' : List (Hd × Hd)), v = .slice p (endK R l there).length c ∧ RulesIn w' p (endK R l there).length c l' ∧ l'.map rl = (endK R l there).map fun u => ([txt u], needR R l there u))) ∧ Below w.heap.size w w'
theorem FillPost.err {w w' : World} {R : List Rl} {l : List Inf} {there : List ByteArray} {E : Int} (h : fillE R l there = E) (h0 : E ≠ 0) (hb : Below w.heap.size w w') : FillPost w R l there (.returned (.tuple #[nilS, .int .i64 E])) w' :=
  ⟨⟨nilS, by rw [h], fun _ => rfl, fun e => absurd (h.symm.trans e) h0⟩, hb⟩
set_option maxHeartbeats 8000000 in
set_option maxRecDepth 100000 in
theorem Fill_ok (p q s : Option Addr) (n c mI dI t f : Nat) (rs : List (Hd × Hd)) (l : List Inf) (zs : List ByteArray) (w : World) (hR : RulesIn w p n c rs) (hI : InfsIn w q mI dI l) (hZ : NL w s t f zs) (hzb : t ≤ 1048576) :
    Calls Tryz.prog 52 #[.slice p n c, .slice q mI dI, .slice s t f] w (FillPost w (rs.map rl) l zs) := by
  by_cases hJ : joinRE (rs.map rl) = 0
  case neg =>
    have hJ1 : Calls Tryz.prog 83 #[.slice p n c] w fun e w' => e = .returned (.tuple #[.slice none 0 0, .int .i64 (joinRE (rs.map rl))]) ∧ Below w.heap.size w w' := by
      refine (JoinR_ok p n c rs w hR).mono ?_
      rintro e w' ⟨v, E, rfl, hE, hv, hb, _⟩
      subst hE
      rw [hv hJ]
      exact ⟨rfl, hb⟩
    have HE : Hid (fillE (rs.map rl) l zs = joinRE (rs.map rl)) := by show _ = _; unfold fillE; rw [if_pos hJ]
    have HJ := Lib.hid hJ1
    obtain ⟨i1, i2⟩ := int_ne' hJ
    have HNE := Lib.hid hJ
    clear hJ1 hR hI hZ hJ
    generalize joinRE (rs.map rl) = E at *
    go_enter Tryz.func52, Tryz.ntmps52
    go_wp2_with (go_at_call 83; refine HJ.out.mono ?_; rintro e w1 ⟨rfl, hb⟩; have HB := Lib.hid hb; clear hb)
    go_ret2
    exact FillPost.err HE.out HNE.out HB.out
  case pos =>
  have HJ := Lib.hid (join_reads p n c rs w hR hJ)
  have HIN := Lib.hid (fun u (hu : Below w.heap.size w u) => CheckI_ok q mI dI l u (hI.below hu))
  have HNM := Lib.hid (fun u (hu : Below w.heap.size w u) => names_ok s t f zs u (hZ.below hu))
  by_cases hI0 : infE l = 0
  case neg =>
    have HE : Hid (fillE (rs.map rl) l zs = infE l) := by show _ = _; unfold fillE; rw [if_neg (fun e => e hJ), if_pos hI0]
    obtain ⟨i1, i2⟩ := int_ne' hI0
    have HNE := Lib.hid hI0
    clear hR hI hZ hJ hI0
    generalize infE l = E at *
    go_enter Tryz.func52, Tryz.ntmps52
    go_wp2_with (first
      | (go_at_call 83; refine HJ.out.mono ?_; rintro e w1 ⟨⟨qj, dj, _, _, rfl, _⟩, hb⟩; have HB := Lib.hid hb; clear hb)
      | (go_at_call 84; refine (HIN.out _ HB.out).mono ?_; rintro e w2 ⟨rfl, hb⟩; have HB2 := Lib.hid (HB.out.trans (hb.mono HB.out.size)); clear hb))
    go_ret2
    exact FillPost.err HE.out HNE.out HB2.out
  case pos =>
  by_cases hN : (zs.all fun x => nameE x == 0) = true
  case neg =>
    have hN : (zs.all fun x => nameE x == 0) = false := by simpa using hN
    have HE : Hid (fillE (rs.map rl) l zs = 3) := by show _ = _; unfold fillE; rw [if_neg (fun e => e hJ), if_neg (fun e => e hI0), if_pos hN]
    rw [hI0] at HIN
    rw [if_pos hN] at HNM
    clear hR hI hZ hJ hI0 hN
    go_enter Tryz.func52, Tryz.ntmps52
    go_wp2_with (first
      | (go_at_call 83; refine HJ.out.mono ?_; rintro e w1 ⟨⟨qj, dj, _, _, rfl, _⟩, hb⟩; have HB := Lib.hid hb; clear hb)
      | (go_at_call 84; refine (HIN.out _ HB.out).mono ?_; rintro e w2 ⟨rfl, hb⟩; have HB2 := Lib.hid (HB.out.trans (hb.mono HB.out.size)); clear hb)
      | (go_at_call 85; refine (HNM.out _ HB2.out).mono ?_; rintro e w3 ⟨rfl, hb⟩; have HB3 := Lib.hid (HB2.out.trans (hb.mono HB2.out.size)); clear hb))
    go_ret2
    exact FillPost.err HE.out (by decide) HB3.out
  case pos =>
  have hmk := @run_makeMap Tryz.prog
  obtain ⟨_, hru, hj64, hu64⟩ := joinRE_zero hJ
  have HE0 : Hid (fillE (rs.map rl) l zs = if 64 < (saidF (rs.map rl) zs).length then 2 else 0) := by
    show _ = _
    unfold fillE
    rw [if_neg (fun e => e hJ), if_neg (fun e => e hI0), if_neg (by rw [hN]; decide)]
  have HRU := Lib.hid hru
  have HNN := Lib.hid hN
  have HJ64 := Lib.hid hj64
  have HU64 := Lib.hid hu64
  have HAL := Lib.hid (askF_len hJ)
  have HIS := Lib.hid (infE_size hI0)
  have HI := Lib.hid (fun u (hu : Below w.heap.size w u) => hI.below hu)
  have HZ := Lib.hid (fun u (hu : Below w.heap.size w u) => hZ.below hu)
  have hzl := hZ.at_.len
  have hzr := hZ.reach
  subst hzl
  rw [hI0] at HIN
  rw [if_neg (by rw [hN]; decide)] at HNM
  have HUN : Hid (∀ u ∈ usF (rs.map rl), nameE (txt u) = 0) := fun u hu => usF_names hru hu
  have HJN : Hid (∀ u, ∀ n ∈ jF (rs.map rl) u, nameE n = 0) := fun u n hn => jF_names hru hn
  have HAN : Hid (∀ n ∈ askF (usF (rs.map rl)) (jF (rs.map rl)), nameE n = 0) := fun n hn => askF_names hru hn
  have HSN : Hid (∀ n ∈ zs, nameE n = 0) := by
    show ∀ n ∈ zs, _
    intro n hn
    have := List.all_eq_true.1 hN n hn
    simpa using this
  have HJNIL : Hid (∀ t, t ∉ usF (rs.map rl) → jF (rs.map rl) t = []) := fun t ht => jF_nil ht
  have HSAID : Hid (saidF (rs.map rl) zs = bz (sortN (zs ++ askF (usF (rs.map rl)) (jF (rs.map rl))))) := rfl
  have HEND : Hid (∀ (ks ks2 : List Bs) (g : Bs → List ByteArray) (vs : List Bs), (∀ t, t ∈ ks ↔ t ∈ usF (rs.map rl)) → (ks2, g) = (askF (usF (rs.map rl)) (jF (rs.map rl))).foldl (fillS l (saidF (rs.map rl) zs)) (ks, jF (rs.map rl)) → vs.Pairwise (· < ·) → (∀ t, t ∈ vs ↔ t ∈ ks2) → vs = endK (rs.map rl) l zs ∧ g = needR (rs.map rl) l zs) := by
    show ∀ (ks ks2 : List Bs) (g : Bs → List ByteArray) (vs : List Bs), _
    intro ks ks2 g vs hk he hv hm
    obtain ⟨e1, e2⟩ := fill_end l (saidF (rs.map rl) zs) (usF (rs.map rl)) ks (jF (rs.map rl)) hk
    rw [← he] at e1 e2
    exact ⟨endK_uniq hv (fun t => (hm t).trans (e2 t)), e1⟩
  have HEN : Hid (∀ t ∈ endK (rs.map rl) l zs, nameE (txt t) = 0) := fun t ht => endK_names hru ht
  have HNE : Hid (∀ t, ∀ n ∈ needR (rs.map rl) l zs t, nameE n = 0) := fun t n hn => need_names hru hN hn
  have HNL : Hid (∀ t, (needR (rs.map rl) l zs t).length ≤ 65) := by
    show ∀ t, _
    intro t
    have := need_len (rs.map rl) l zs t
    have := hj64 t
    omega
  clear hR hI hZ hJ hI0 hN hru hj64 hu64
  unfold FillPost
  generalize rs.map rl = R at *
  obtain ⟨SD, hSD⟩ : ∃ SD, SD = saidF R zs := ⟨_, rfl⟩
  rw [← hSD] at HE0 HSAID HEND
  clear hSD
  generalize usF R = us at *
  generalize jF R = J at *
  obtain ⟨i1, hi1, hy0, hy1, hy2⟩ := info_parts info_ruleJ
  go_enter Tryz.func52, Tryz.ntmps52
  go_upto_region 8 with (first
    | (go_at_call 83; refine HJ.out.mono ?_; rintro e w1 ⟨⟨qj, dj, h, js, rfl, hjs, hmap, hrow⟩, hb⟩; have HJS := Lib.hid hjs; have HMP := Lib.hid hmap; have HRW := Lib.hid hrow; have HB := Lib.hid hb; clear hjs hmap hrow hb)
    | (go_at_call 84; refine (HIN.out _ HB.out).mono ?_; rintro e w2 ⟨rfl, hb⟩; have HB2 := Lib.hid (HB.out.trans (hb.mono HB.out.size)); have HC2 := Lib.hid hb; clear hb)
    | (go_at_call 85; refine (HNM.out _ HB2.out).mono ?_; rintro e w3 ⟨rfl, hb⟩; have HB3 := Lib.hid (HB2.out.trans (hb.mono HB2.out.size)); have HC3 := Lib.hid (HC2.out.trans (hb.mono HC2.out.size)); clear hb))
  have HJS3 := Lib.hid (fun u (hu : Below w3.heap.size w3 u) => (HJS.out.below HC3.out).below hu)
  have HRW3 := Lib.hid (fun s => own_belowR (HRW.out s) HC3.out)
  have hb3 := HB3.out.size
  have hjl : js.length = us.length := by have := congrArg List.length HMP.out; simpa using this
  have HJL := Lib.hid hjl
  clear hjl
  have HAT : Hid (∀ (k : Nat) (y : Hd × Hd), js[k]? = some y → ∃ u, us[k]? = some u ∧ y.1.zs = [txt u] ∧ y.2 = hdOf (h u) (J u)) := by
    show ∀ (k : Nat) (y : Hd × Hd), _
    intro k y hy
    have h1 := congrArg (fun z : List (List ByteArray × Hd) => z[k]?) HMP.out
    simp only [List.getElem?_map, hy, Option.map_some] at h1
    cases hu : us[k]? with
    | none => rw [hu] at h1; cases h1
    | some u =>
      rw [hu] at h1
      simp only [Option.map_some, Option.some.injEq, Prod.mk.injEq] at h1
      exact ⟨u, rfl, h1.1, h1.2⟩
  have HASK : Hid (askN js js.length = askF us J) := by
    show _ = _
    unfold askN askF
    rw [List.take_length]
    refine Eq.trans (b := (js.map fun x => (x.1.zs, x.2)).flatMap fun z => z.1 ++ z.2.zs) (by rw [List.flatMap_map]) ?_
    rw [HMP.out, List.flatMap_map]
    congr 1
    funext u
    obtain ⟨_, _, _, hh⟩ := hdOf_v (HRW.out u) (J u)
    rw [hh]
    rfl
  clear HJS HRW HC2 HC3 HJ HIN HNM HB HB2
  obtain ⟨W3, hW3⟩ : ∃ W3, W3 = w3.alloc (.map #[] 0) := ⟨_, rfl⟩
  have HM3 : Hid (MapR W3 w3.heap.size 0 w.heap.size [] (fun _ => nilS) (fun _ => [])) := by
    refine ⟨by rw [hW3]; exact MapH.made w3, fun s => World.ownsRow_nil _ _ _ _⟩
  have HBW3 : Hid (Below w3.heap.size w3 W3) := by rw [hW3]; exact rb1 w3 _
  have HZ3 := Lib.hid (HZ.out _ (HB3.out.trans (HBW3.out.mono hb3)))
  go_upto_region 9 with fail
  rw [← hW3]
  clear hW3
  have hynx : ∀ (k : Nat) (y : Hd × Hd), js[k]? = some y → (zs ++ askN js (k + 1)) = (zs ++ askN js k) ++ y.1.zs ++ y.2.zs := by
    intro k y hy
    obtain ⟨hk, e⟩ := List.getElem?_eq_some_iff.1 hy
    rw [askN_next hk, e]
    simp only [List.append_assoc]
  have hy4 : ∀ k, ∀ x ∈ zs ++ askN js k, x.size ≤ 4611686018427387904 := by
    intro k x hx
    have h0 : nameE x = 0 := by
      rcases List.mem_append.1 hx with hx | hx
      · exact HSN.out x hx
      · refine HAN.out x ?_
        rw [← HASK.out]
        unfold askN at hx ⊢
        rw [List.take_length]
        obtain ⟨y, hy, hx⟩ := List.mem_flatMap.1 hx
        exact List.mem_flatMap.2 ⟨y, List.mem_of_mem_take hy, hx⟩
    have := nameE_size h0
    omega
  have hyl : ∀ k, (zs ++ askN js k).length ≤ zs.length + 4160 := by
    intro k
    have h1 := askN_le js k
    rw [HASK.out] at h1
    have h2 := HAL.out
    rw [List.length_append]
    omega
  have hy0 : zs ++ askN js 0 = zs := by simp [askN]
  have hye : zs ++ askN js js.length = zs ++ askF us J := by rw [HASK.out]
  obtain ⟨Y, hY⟩ : ∃ Y : Nat → List ByteArray, Y = fun k => zs ++ askN js k := ⟨_, rfl⟩
  have HYN : Hid (∀ (k : Nat) (y : Hd × Hd), js[k]? = some y → Y (k + 1) = Y k ++ y.1.zs ++ y.2.zs) := by
    show ∀ (k : Nat) (y : Hd × Hd), _
    rw [hY]; exact hynx
  have HY4 : Hid (∀ k, ∀ x ∈ Y k, x.size ≤ 4611686018427387904) := by
    show ∀ k, ∀ x ∈ _, _
    rw [hY]; exact hy4
  have HYL : Hid (∀ k, (Y k).length ≤ zs.length + 4160) := by
    show ∀ k, _
    rw [hY]; exact hyl
  have HY0 : Hid (Y 0 = zs) := by show _ = _; rw [hY]; exact hy0
  have HYE : Hid (Y js.length = zs ++ askF us J) := by show _ = _; rw [hY]; exact hye
  have HY0L : Hid ((Y 0).length = zs.length) := congrArg List.length HY0.out
  clear hY hynx hy4 hyl hy0 hye
  have hz3 := HZ3.out
  have e0 : NL W3 s (Y 0).length f (Y 0) := by rw [HY0.out]; exact hz3
  have HE0Y := Lib.hid e0
  have HSW : Hid (w3.heap.size < W3.heap.size) := by
    obtain ⟨es, cl, hb⟩ := HM3.out.map.block
    exact (Array.getElem?_eq_some_iff.1 hb).1
  clear e0 hz3
  go_wp2
  go_loopw [41, 11] (fun i v wr => ∃ (k m : Nat) (q' : Option Addr) (cq : Nat) (ks : List Bs) (hh : Bs → Value) (g : Bs → List ByteArray), k ≤ us.length ∧ i = .int .i64 k ∧ v = .slice q' m cq ∧ Hid (m = (Y k).length) ∧ Hid (Below w3.heap.size w3 wr) ∧ w3.heap.size < wr.heap.size ∧
    Hid (NL wr q' m cq (Y k)) ∧ Hid (MapR wr w3.heap.size k w.heap.size ks hh g) ∧ Hid (∀ t, t ∈ ks ↔ t ∈ us.take k) ∧ Hid (∀ t, g t = if t ∈ us.take k then J t else [])) (fun i _ _ => us.length - (intOf i).toNat)
  case atStart => exact ⟨0, zs.length, s, f, [], _, _, Nat.zero_le _, rfl, rfl, HY0L.out.symm, HBW3.out, HSW.out, by have := HE0Y.out; rw [HY0L.out] at this; exact this, HM3.out, fun t => by simp, fun t => by simp⟩
  case round =>
    obtain ⟨k, m, q', cq, ks, hh, g, hk, rfl, rfl, HMY, HBR, hsr, HNR, HMR, HKS, HGG⟩ := hrel
    by_cases hlt : k < us.length
    · have hltj : k < js.length := by rw [HJL.out]; exact hlt
      have hel := List.getElem?_eq_getElem hltj
      obtain ⟨b, o, rfl, hb, c1, c2⟩ := (HJS3.out _ HBR.out).at_.cell hel
      have hok := (HJS3.out _ HBR.out).ok _ (List.getElem_mem hltj)
      have hnx := HYN.out k _ hel
      obtain ⟨u, hu, hy1, hy2⟩ := HAT.out k _ hel
      have hhu : ∃ p2 c2, h u = .slice p2 (J u).length c2 ∧ hdOf (h u) (J u) = ⟨p2, (J u).length, c2, J u⟩ := hdOf_v (HRW3.out u) (J u)
      obtain ⟨p2, cc2, hh1, hh2⟩ := hhu
      rw [hh2] at hy2
      rw [← Nat.add_assoc] at c2
      clear hel
      generalize js[k] = y at *
      clear hltj
      obtain ⟨⟨p1, n1, cc1, T⟩, yb⟩ := y
      simp only at hy1 hy2
      subst hy1 hy2
      simp only [rF, rG, Hd.v] at c1 c2 hnx
      obtain ⟨⟨k1, k2⟩, ⟨k3, k4⟩⟩ := hok
      simp only at k1 k2 k3 k4
      have l1 := k1.at_.len
      have hn1 : n1 = 1 := by simpa using l1.symm
      subst hn1
      clear l1
      obtain ⟨ad1, rfl, _, hw1⟩ := str_at k1.at_.reads (show 0 < 1 by omega)
      obtain ⟨b1, o1, rfl, hb1⟩ := k1.plain (by omega) _ rfl
      have hw1 : wr.cell? ⟨b1, o1, none⟩ = some (.string (txt u)) := by
        rw [Addr.add_lit, Nat.add_zero] at hw1
        exact hw1
      have hum : u ∈ us := List.mem_of_getElem? hu
      have hun := nameE_size (HUN.out u hum)
      have huk : us.take (k + 1) = us.take k ++ [u] := by rw [List.take_add_one, hu]; rfl
      have HUK := Lib.hid huk
      have HHU := Lib.hid hh1
      have HNX := Lib.hid hnx
      have HK3 := Lib.hid k3
      have HK1 := Lib.hid k1
      have hrow := own_belowR (HRW3.out u) HBR.out
      have HROW := Lib.hid hrow
      have hk1 : (k : Int) < (us.length : Int) := by omega
      have hk64 : k < 64 := by have := HU64.out; omega
      obtain ⟨nj, hnj⟩ : ∃ nj, nj = (J u).length := ⟨_, rfl⟩
      rw [← hnj] at c2 hh1 HK3 HHU
      have HNJ := Lib.hid hnj
      obtain ⟨W0, hW0⟩ : ∃ W0, W0 = wr.alloc (.cells #[.slice (some ⟨b1, o1, none⟩) 1 cc1, .slice p2 nj cc2] 61) := ⟨_, rfl⟩
      have hb0 : Below wr.heap.size wr W0 := by rw [hW0]; exact rb1 wr _
      have hs0 : W0.heap.size = wr.heap.size + 1 := by rw [hW0]; simp
      have hx0 : W0.heap[wr.heap.size]? = some (.cells #[.slice (some ⟨b1, o1, none⟩) 1 cc1, .slice p2 nj cc2] 61 (0, 0)) := by rw [hW0]; exact heap_alloc_new _ _
      have hw0 : W0.cell? ⟨b1, o1, none⟩ = some (.string (txt u)) := (hb0.cell (p := ⟨b1, o1, none⟩) hb1).trans hw1
      have cx0 : W0.cell? ⟨wr.heap.size, 0, none⟩ = some (.slice (some ⟨b1, o1, none⟩) 1 cc1) := by rw [hW0]; simp
      have cx1 : W0.cell? ⟨wr.heap.size, 1, none⟩ = some (.slice p2 nj cc2) := by rw [hW0]; simp
      have HMR0 := Lib.hid (HMR.out.below hb0)
      have HNR0 := Lib.hid (HNR.out.below hb0)
      have HB0 := Lib.hid hb0
      have HX0 := Lib.hid hx0
      have HS0 := Lib.hid hs0
      clear k1 k3 hnx hu hum huk hrow hnj hh1 hh2 hb0 hs0 hx0 hw1
      go_upto_region 13 with fail
      rw [← hW0]
      clear hW0 c1 c2 hb
      go_still_tail 7, (by kernel_rfl)
      change wpList _ _ _ _ _ W0.drew
      have HMD := Lib.hid (HMR0.out.below ((Below.refl W0.heap.size W0).drew))
      clear hw0 cx0 cx1
      have hsu : (txt u).size ≤ maxLen := by unfold maxLen; omega
      go_upto_region 14 with (at_mapUpdate; refine store_h _ rfl _ _ _ rfl rfl HMD.out.map (by unfold maxLen; omega) (txt u) rfl hsu (.slice p2 nj cc2) rfl ?_; intro w5 h1 h2; rw [txt_list] at h1; have HM5 := Lib.hid h1; have HG5 := Lib.hid h2; clear h1 h2)
      obtain ⟨es, cl, hbm⟩ := HMD.out.map.block
      have hd0 : Below W0.heap.size W0 W0.drew := (Below.refl _ _).drew
      have hrow5 : W0.drew.ownsRow w.heap.size 9 1 (.slice p2 nj cc2) (J u).length (strsV (J u)) := by
        have := own_belowR (own_belowR HROW.out HB0.out) hd0
        rw [HHU.out] at this
        exact this
      have HMR5 := Lib.hid (HMD.out.store hrow5 HM5.out HG5.out)
      have hn5 := (HNR0.out.below hd0).nomap hbm HG5.out
      have hk15 := ((HK1.out.below HB0.out).below hd0).nomap hbm HG5.out
      have hk35 := ((HK3.out.below HB0.out).below hd0).nomap hbm HG5.out
      have hB5 : Below w3.heap.size w3 w5 := (HBR.out.trans ((HB0.out.trans (hd0.mono HB0.out.size)).mono HBR.out.size)).grown HG5.out (by have := HS0.out; show w3.heap.size ≤ W0.heap.size; omega) (fun k hk => by injection hk with hk; omega)
      have hx5 : w5.heap[wr.heap.size]? = some (.cells #[.slice (some ⟨b1, o1, none⟩) 1 cc1, .slice p2 nj cc2] 61 (0, 0)) := by
        rw [HG5.out.block _ (by have := HS0.out; show wr.heap.size < W0.heap.size; omega) (fun e => by injection e; omega)]
        exact HX0.out
      have cy0 : w5.cell? ⟨wr.heap.size, 0, none⟩ = some (.slice (some ⟨b1, o1, none⟩) 1 cc1) := by unfold World.cell?; simp only [hx5]; rfl
      have cy1 : w5.cell? ⟨wr.heap.size, 1, none⟩ = some (.slice p2 nj cc2) := by unfold World.cell?; simp only [hx5]; rfl
      have hs5 : w3.heap.size < w5.heap.size := by have := HG5.out.size; have := HS0.out; have h9 : W0.drew.heap.size = W0.heap.size := rfl; omega
      obtain ⟨W6, hW6⟩ : ∃ W6, W6 = w5.alloc (.cells #[.slice q' m cq, .slice (some ⟨b1, o1, none⟩) 1 cc1, .slice p2 nj cc2] 23) := ⟨_, rfl⟩
      have hb6 : Below w5.heap.size w5 W6 := by rw [hW6]; exact rb1 w5 _
      have hsum : (Y k ++ [txt u] ++ J u).length ≤ zs.length + 4160 := by rw [← HNX.out]; exact HYL.out (k + 1)
      have hmy : m = (Y k).length := HMY.out
      have hcc := concat3w (B := w5.heap.size) (hn5.weak.below hb6) (hk15.below hb6) (hk35.below hb6) (by have h7 := HNJ.out; have h8 := HYL.out k; have h9 := HJ64.out u; omega) (by rw [hW6]; simp) (by rw [hW6]; simp) (by rw [hW6]; simp) (by rw [hW6]; simp)
      rw [← HNX.out] at hcc
      obtain ⟨m2, hm2⟩ : ∃ m2, m2 = (Y (k + 1)).length := ⟨_, rfl⟩
      have HC6 : Hid (Calls Tryz.prog 11 #[.slice (some ⟨w5.heap.size, 0, none⟩) 3 3] W6 fun e w' => ∃ g c, e = .returned (.slice g m2 c) ∧ NL w' g m2 c (Y (k + 1)) ∧ Below W6.heap.size W6 w') := by
        show Calls _ _ _ _ _
        refine hcc.mono ?_
        intro e w' hp
        obtain ⟨g, c, he, hn, _, hb⟩ := hp.elim (HY4.out (k + 1)) (by have := HYL.out (k + 1); omega)
        rw [← hm2] at he hn
        exact ⟨g, c, he, hn, hb⟩
      have HM2 := Lib.hid hm2
      have HMR6 := Lib.hid (HMR5.out.below hb6)
      have HB56 := Lib.hid (hB5.trans (hb6.mono hB5.size))
      have HS56 : Hid (w3.heap.size < W6.heap.size) := Nat.lt_of_lt_of_le hs5 hb6.size
      clear hbm hd0 hrow5 hn5 hk15 hk35 hB5 hx5 hs5 hb6 hsum hmy hcc hm2
      go_wp2_with (go_at_call 11; rw [← hW6]; clear hW6; refine HC6.out.mono ?_; rintro e w7 ⟨q7, c7, rfl, hn7, hb7⟩; have HN7 := Lib.hid hn7; have HB7 := Lib.hid hb7; clear hn7 hb7)
      go_roundw
      case rel =>
        refine ⟨k + 1, m2, q7, c7, u :: ks, _, _, by omega, by go_num, rfl, HM2.out, HB56.out.trans (HB7.out.mono HB56.out.size), Nat.lt_of_lt_of_le HS56.out HB7.out.size, HN7.out, HMR6.out.below HB7.out, fun t => ?_, fun t => ?_⟩
        · rw [List.mem_cons, HKS.out, HUK.out, List.mem_append, List.mem_singleton]
          exact or_comm
        · rw [HUK.out]
          by_cases ht : t = u
          · subst ht
            rw [upd_same, if_pos (by simp)]
          · rw [upd_other _ _ ht, HGG.out]
            simp only [List.mem_append, List.mem_singleton, ht, or_false]
      case measure => simp [intOf]; omega
    · obtain rfl : k = us.length := by omega
      clear hlt hk
      have hyu : Y us.length = zs ++ askF us J := by have := HYE.out; rw [HJL.out] at this; exact this
      have hym : m = (Y us.length).length := HMY.out
      have hok : okN (Y us.length) m := (okN_mem hym.symm).2 (fun x hx => by
        rw [hyu] at hx
        rcases List.mem_append.1 hx with hx | hx
        · exact HSN.out x hx
        · exact HAN.out x hx)
      have hml : m ≤ zs.length + 4160 := by rw [hym]; exact HYL.out us.length
      obtain ⟨sd, hsd⟩ : ∃ sd, sd = SD.length := ⟨_, rfl⟩
      have hsl : (sortN (Y us.length)).length = sd := by rw [hsd, HSAID.out, bz_len, hyu]
      have HSO : Hid (Calls Tryz.prog 53 #[.slice q' m cq] wr fun e w' => ∃ g c, e = .returned (.tuple #[.slice g sd c, .int .i64 0]) ∧ NL w' g sd c SD ∧ Below wr.heap.size wr w') := by
        show Calls _ _ _ _ _
        refine (Sort_yes q' m cq (Y us.length) wr HNR.out hok).mono ?_
        rintro e w' ⟨g, c, he, ho, hb⟩
        have := NL_sorted hym.symm hok (by omega) ho
        rw [hsl, hyu, ← HSAID.out] at this
        rw [hsl] at he
        exact ⟨g, c, he, this, hb⟩
      have hgJ : g = J := funext fun t => by
        rw [HGG.out, List.take_length]
        by_cases ht : t ∈ us
        · rw [if_pos ht]
        · rw [if_neg ht, HJNIL.out t ht]
      subst hgJ
      rw [List.take_length] at HKS
      obtain ⟨na, hna⟩ : ∃ na, na = (askF us g).length := ⟨_, rfl⟩
      have HAA : Hid (∀ u, Below w3.heap.size w3 u → Calls Tryz.prog 86 #[.slice qj us.length dj] u fun e w' => ∃ a c, e = .returned (.slice a na c) ∧ NL w' a na c (askF us g) ∧ Below u.heap.size u w') := by
        show ∀ u, _
        intro u hu
        refine (asked_ok qj us.length dj js u (HJS3.out u hu) (by rw [HASK.out]; have := HAL.out; omega)).mono ?_
        intro e w' hp
        rw [HASK.out] at hp
        obtain ⟨a, c, he, hn, _, hb⟩ := hp.elim (fun x hx => by have := nameE_size (HAN.out x hx); omega) (by have := HAL.out; omega)
        rw [← hna] at he hn
        exact ⟨a, c, he, hn, hb⟩
      have HNA := Lib.hid hna
      have HSD := Lib.hid hsd
      clear hyu hym hok hml hsl hna hsd HGG HNR HMY HYN HY4 HYL HY0 HYE HY0L HE0Y HSW HM3
      by_cases h64 : 64 < sd
      · have HE2 : Hid (fillE R l zs = 2) := by show _ = _; rw [HE0.out, if_pos (by rw [← HSD.out]; exact h64)]
        have h64i : decide ((64 : Int) < (sd : Int)) = true := decide_eq_true (by omega)
        go_wp2_with (go_at_call 53; refine HSO.out.mono ?_; rintro e w4 ⟨g4, c4, rfl, _, hb4⟩; have HB4 := Lib.hid (HB3.out.trans ((HBR.out.trans (hb4.mono HBR.out.size)).mono HB3.out.size)); clear hb4)
        go_ret2
        exact FillPost.err HE2.out (by decide) HB4.out
      · have HE2 : Hid (fillE R l zs = 0) := by show _ = _; rw [HE0.out, if_neg (by rw [← HSD.out]; exact h64)]
        have h64i : decide ((64 : Int) < (sd : Int)) = false := decide_eq_false (by omega)
        go_wp2_with (first
          | (go_at_call 53; refine HSO.out.mono ?_; rintro e w4 ⟨g4, c4, rfl, hn4, hb4⟩; have HN4 := Lib.hid hn4; have HB4 := Lib.hid (HBR.out.trans (hb4.mono HBR.out.size)); have HM4 := Lib.hid (HMR.out.below hb4); clear hn4 hb4)
          | (go_at_call 86; refine (HAA.out w4 HB4.out).mono ?_; rintro e w5 ⟨a5, c5, rfl, hn5, hb5⟩; have HN5 := Lib.hid hn5; have HB5 := Lib.hid (HB4.out.trans (hb5.mono HB4.out.size)); have HM5 := Lib.hid (HM4.out.below hb5); have HN45 := Lib.hid (HN4.out.below hb5); clear hn5 hb5))
        obtain ⟨A, hA⟩ : ∃ A, A = askF us g := ⟨_, rfl⟩
        rw [← hA] at HN5 HNA HAN HEND HAL
        have HNa : Hid (na = A.length) := HNA.out
        have hnal : na ≤ 4160 := by rw [HNa.out]; exact HAL.out
        obtain ⟨es, cl, hbm⟩ := HM5.out.map.block
        have HBM : Hid (w5.heap[w3.heap.size]? = some (.map es cl)) := hbm
        have HLU : Hid (us.length ≤ 64) := HU64.out
        have hlo5 : w.heap.size ≤ w5.heap.size := Nat.le_trans hb3 HB5.out.size
        have HBW5 : Hid (Below w.heap.size w w5) := HB3.out.trans (HB5.out.mono hb3)
        clear hA hbm HAA HSO HMR HBR hsr HM4 HN4 HB4 HNA HAL HU64
        go_loopw [71] (fun i wr => ∃ (k n : Nat) (ks' : List Bs) (hh' : Bs → Value) (g' : Bs → List ByteArray), k ≤ na ∧ n ≤ us.length + k ∧ i = .int .i64 k ∧ Hid ((ks', g') = (A.take k).foldl (fillS l SD) (ks, g)) ∧ Hid (w5.grownBy wr (some w3.heap.size)) ∧ Hid (MapR wr w3.heap.size n w.heap.size ks' hh' g')) (fun i _ => na - (intOf i).toNat)
        case atStart => exact ⟨0, us.length, ks, hh, g, Nat.zero_le _, Nat.le_refl _, rfl, by show _ = _; rw [List.take_zero]; rfl, World.grownBy.refl _ _, HM5.out⟩
        case round =>
          obtain ⟨k, n5, ks', hh', g', hk, hn5, rfl, HST, HGR, HMP5⟩ := hrel
          have hlt5 : w5.heap.size ≤ wr.heap.size := HGR.out.size
          by_cases hlt : k < na
          · have hnA := HN5.out.nomap HBM.out HGR.out
            obtain ⟨ad, rfl, _, hcs⟩ := str_at hnA.at_.reads hlt
            obtain ⟨b6, o6, rfl, hb6⟩ := hnA.plain _ rfl
            rw [Addr.add_lit] at hcs
            have hkA : k < A.length := by rw [← HNa.out]; exact hlt
            have hsm : A.getD k ByteArray.empty ∈ A := by rw [List.getD_eq_getElem?_getD, List.getElem?_eq_getElem hkA]; exact List.getElem_mem _
            have hns := nameE_size (HAN.out _ hsm)
            have htk : A.take (k + 1) = A.take k ++ [A.getD k ByteArray.empty] := by
              rw [List.take_succ_eq_append_getElem hkA, List.getD_eq_getElem?_getD, List.getElem?_eq_getElem hkA]
              rfl
            have HFD : Hid ((A.take (k + 1)).foldl (fillS l SD) (ks, g) = fillS l SD (ks', g') (A.getD k ByteArray.empty)) := by
              show _ = _
              rw [htk, List.foldl_append, ← HST.out]
              rfl
            clear hnA hsm htk hkA
            generalize A.getD k ByteArray.empty = sx at *
            have hk1 : (k : Int) < (na : Int) := by omega
            have hsx : sx.size ≤ maxLen := by unfold maxLen; omega
            obtain ⟨px, cx, hhx, _⟩ := hdOf_v (HMP5.out.row sx.data.toList) (g' sx.data.toList)
            by_cases h0 : 0 < (g' sx.data.toList).length
            · have HFS : Hid (fillS l SD (ks', g') sx = (ks', g')) := by show _ = _; unfold fillS; rw [if_pos h0]
              generalize (g' sx.data.toList).length = nl at *
              have h0i : decide ((0 : Int) < (nl : Int)) = true := decide_eq_true (by omega)
              go_wp2_with (at_lookup; refine look_h _ rfl _ _ rfl rfl HMP5.out.map sx rfl hsx ?_; rw [hhx])
              go_roundw
              case rel => exact ⟨k + 1, n5, ks', hh', g', by omega, by omega, by go_num, by show _ = _; rw [HFD.out, HFS.out], HGR.out, HMP5.out⟩
              case measure => simp [intOf]; omega
            · have h0n : (g' sx.data.toList).length = 0 := by omega
              have HFN : Hid (¬ 0 < (g' sx.data.toList).length) := h0
              rw [h0n] at hhx
              have hbwr : Below w.heap.size w wr := HBW5.out.grown HGR.out hlo5 (fun k hk => by injection hk with hk; omega)
              have hof := ofI_ok q g4 mI dI sd c4 l SD sx wr (HI.out _ hbwr) (HN45.out.nomap HBM.out HGR.out) (by omega) HIS.out
              have HOF := Lib.hid hof
              clear h0 h0n hof hbwr
              cases hio : infOf l SD (stA sx) (stB sx) with
              | none =>
                have HFS : Hid (fillS l SD (ks', g') sx = (ks', g')) := by show _ = _; unfold fillS; rw [if_neg HFN.out, hio]
                rw [hio] at HOF
                simp only [Option.getD_none, Option.isSome_none] at HOF
                clear hio
                go_wp2_with (first
                  | (at_lookup; refine look_h _ rfl _ _ rfl rfl HMP5.out.map sx rfl hsx ?_; rw [hhx])
                  | (go_at_call 87; refine HOF.out.mono ?_; rintro e w6 ⟨rfl, hb⟩; have HB6 := Lib.hid hb; clear hb))
                go_roundw
                case rel => exact ⟨k + 1, n5, ks', hh', g', by omega, by omega, by go_num, by show _ = _; rw [HFD.out, HFS.out], HGR.out.trans (grown_any HB6.out), HMP5.out.below HB6.out⟩
                case measure => simp [intOf]; omega
              | some x =>
                have HFS : Hid (fillS l SD (ks', g') sx = (sx.data.toList :: ks', upd g' sx.data.toList [x])) := by show _ = _; unfold fillS; rw [if_neg HFN.out, hio]
                rw [hio] at HOF
                simp only [Option.getD_some, Option.isSome_some] at HOF
                clear hio
                go_upto_region 25 with (first
                  | (at_lookup; refine look_h _ rfl _ _ rfl rfl HMP5.out.map sx rfl hsx ?_; rw [hhx])
                  | (go_at_call 87; refine HOF.out.mono ?_; rintro e w6 ⟨rfl, hb⟩; have HB6 := Lib.hid hb; clear hb))
                have hb7 : Below w6.heap.size w6 (w6.alloc (.cells #[.string x] 9)) := rb1 w6 _
                have HM7 := Lib.hid ((HMP5.out.below HB6.out).below hb7)
                have HG7 : Hid (w5.grownBy (w6.alloc (.cells #[.string x] 9)) (some w3.heap.size)) := (HGR.out.trans (grown_any HB6.out)).trans (grown_any hb7)
                have HR7 : Hid ((w6.alloc (.cells #[.string x] 9)).ownsRow w.heap.size 9 1 (.slice (some ⟨w6.heap.size, 0, none⟩) 1 1) [x].length (strsV [x])) := by
                  show World.ownsRow _ _ _ _ _ _ _
                  exact World.ownsRow_lit w6 #[.string x] 1 (by have := HB6.out.size; omega) (by decide) rfl
                clear hb7
                go_wp2_with (at_mapUpdate; refine store_h _ rfl _ _ _ rfl rfl HM7.out.map (by have := HLU.out; unfold maxLen; omega) sx rfl hsx (.slice (some ⟨w6.heap.size, 0, none⟩) 1 1) rfl ?_; intro w8 h1 h2; have HM8 := Lib.hid h1; have HG8 := Lib.hid h2; clear h1 h2)
                go_roundw
                case rel => exact ⟨k + 1, n5 + 1, _, _, _, by omega, by omega, by go_num, by show _ = _; rw [HFD.out, HFS.out], HG7.out.trans HG8.out, HM7.out.store HR7.out HM8.out HG8.out⟩
                case measure => simp [intOf]; omega
          · obtain rfl : k = na := by omega
            have hst : (ks', g') = A.foldl (fillS l SD) (ks, g) := by
              have := HST.out
              rw [HNa.out, List.take_length] at this
              exact this
            have HEN2 := Lib.hid (fun vs => HEND.out ks ks' g' vs HKS.out hst)
            have HKO := Lib.hid (keys_ok (some w3.heap.size) wr)
            have HSO := Lib.hid (sortedKeysM HMP5.out.map (by have := HLU.out; omega))
            have HBWR : Hid (Below w.heap.size w wr) := HBW5.out.grown HGR.out hlo5 (fun k hk => by injection hk with hk; omega)
            clear hst HST HEND HKS HN5 HNa HBM HAN
            go_wp2_with (first
              | (go_at_call 89; refine HKO.out.mono ?_; rintro e w6 ⟨rfl, hw6⟩; rw [hw6]; clear hw6)
              | (go_at_call 88; refine HSO.out.mono ?_; rintro e w7 ⟨qs, cs, vs, rfl, hu1, hu2, hu3, hu4, hu5⟩; have HU1 := Lib.hid hu1; have HU2 := Lib.hid hu2; have HU3 := Lib.hid hu3; have HU4 := Lib.hid hu4; have HU5 := Lib.hid hu5; clear hu1 hu2 hu3 hu4 hu5))
            obtain ⟨hvs, hgn⟩ := HEN2.out vs HU1.out HU2.out
            have HVS := Lib.hid hvs
            have hb7 : Below wr.heap.size wr w7 := by
              have h1 : Below wr.heap.size wr (wr.alloc (.cells #[.map (some w3.heap.size)] 154)) := rb1 wr _
              exact h1.trans (HU5.out.mono (Nat.le_succ _))
            have HMP7 := Lib.hid (HMP5.out.below hb7)
            have HBW7 : Hid (Below w.heap.size w w7) := HBWR.out.trans (hb7.mono HBWR.out.size)
            have hvl : vs.length ≤ 5000 := by have := HU3.out; have := HLU.out; omega
            have HVN : Hid (∀ u ∈ vs, nameE (txt u) = 0) := by
              show ∀ u ∈ vs, _
              rw [hvs]; exact HEN.out
            have HGN : Hid (∀ u, ∀ x ∈ g' u, nameE x = 0) := by
              show ∀ u, ∀ x ∈ _, _
              rw [hgn]; exact HNE.out
            have HGL : Hid (∀ u, (g' u).length ≤ 1000) := by
              show ∀ u, _
              intro u
              rw [hgn]
              have := HNL.out u
              omega
            have HGE := Lib.hid hgn
            clear hvs hgn hb7 HU1 HU2 HU3 HU5 HMP5 HKO HSO HEN2 HEN HNE HNL HGR HBWR HM5 HB5 HN45
            go_loopw [97, 18] (fun i v w8 => ∃ (k : Nat) (rs' : List (Hd × Hd)), k ≤ vs.length ∧ i = .int .i64 k ∧ rs'.length = k ∧ Hid (Below w7.heap.size w7 w8 ∧ w8.ownsRow w7.heap.size 61 2 v k (cells2 rF rG rs')) ∧
              Hid (∀ x ∈ rs', w8.ownsRow w7.heap.size 9 1 x.1.v x.1.zs.length (strsV x.1.zs)) ∧ Hid (rs'.map (fun x => (x.1.zs, x.2)) = (vs.take k).map fun u => ([txt u], hdOf (hh' u) (g' u)))) (fun i _ _ => vs.length - (intOf i).toNat)
            case atStart => exact ⟨0, [], Nat.zero_le _, rfl, rfl, ⟨Below.refl _ _, World.ownsRow_nil _ _ _ _⟩, fun x hx => (by cases hx), rfl⟩
            case round =>
              obtain ⟨k, rs', hk, rfl, hrk, HO5, HT1, HRS⟩ := hrel
              by_cases hlt : k < vs.length
              · have hel := List.getElem?_eq_getElem hlt
                obtain ⟨bs, capS, hv, _, _⟩ := HU4.out.form (by omega)
                injection hv with hv1 hv2 hv3
                subst hv1 hv3
                have hcx := HU4.out.cells (g := bs) rfl k (encStr vs[k]) (by rw [List.getElem?_map, hel]; rfl)
                rw [Addr.add_lit] at hcx
                have hcx5 := (HO5.out.1.cell (World.block_lt_of_cell? w7 _ hcx)).trans hcx
                obtain ⟨u, hu⟩ : ∃ u, u = vs[k] := ⟨_, rfl⟩
                rw [← hu] at hcx5 hel
                have hum : u ∈ vs := by rw [hu]; exact List.getElem_mem hlt
                have hun := nameE_size (HVN.out u hum)
                obtain ⟨hp, hc, hhu, hhd⟩ := hdOf_v (HMP7.out.row u) (g' u)
                have hht : hh' (txt u).data.toList = .slice hp (g' u).length hc := by rw [txt_list]; exact hhu
                have hcx6 : wr.cell? ⟨bs, k, none⟩ = some (.string (txt u)) := by rw [Nat.zero_add] at hcx5; exact hcx5
                have HRU2 : Hid (vs.take (k + 1) = vs.take k ++ [u]) := by
                  show _ = _
                  rw [List.take_add_one, hel]; rfl
                have hxm : (txt u).size ≤ maxLen := by unfold maxLen; omega
                clear hel hhu hcx hcx5 hu hum hun hv2
                have HHD := Lib.hid hhd
                have HGU := Lib.hid (HGL.out u)
                clear hhd
                generalize hgu : g' u = gu at *
                have HGUE := Lib.hid hgu
                clear hgu
                have hk1 : (k : Int) < (vs.length : Int) := by omega
                have HMH5 := Lib.hid (HMP7.out.map.kept (grown_below HO5.out.1) (by simp))
                obtain ⟨o1, ho1⟩ : ∃ o1, o1 = Obj.cells #[.string (txt u)] 9 := ⟨_, rfl⟩
                obtain ⟨o2, ho2⟩ : ∃ o2, o2 = Obj.cells #[.slice (some ⟨wr.heap.size, 0, none⟩) 1 1, .slice hp gu.length hc] 61 := ⟨_, rfl⟩
                have hz1' : (wr.alloc o1).heap.size = wr.heap.size + 1 := by simp
                have hz2' : ((wr.alloc o1).alloc o2).heap.size = wr.heap.size + 2 := by simp
                have HMH6 : Hid (MapH (wr.alloc o1) w3.heap.size n5 ks' hh') := HMH5.out.kept (World.grownBy_alloc _ _ none) (by simp)
                have hbA : Below wr.heap.size wr ((wr.alloc o1).alloc o2) := (rb1 wr o1).trans ((rb1 (wr.alloc o1) o2).mono (by rw [hz1']; omega))
                have HOA := Lib.hid ((HO5.out.2.alloc o1).alloc o2)
                have HTA : Hid (∀ x ∈ rs', ((wr.alloc o1).alloc o2).ownsRow w7.heap.size 9 1 x.1.v x.1.zs.length (strsV x.1.zs)) := fun x hx => ((HT1.out x hx).alloc o1).alloc o2
                have HWB : Hid (Below w7.heap.size w7 ((wr.alloc o1).alloc o2)) := HO5.out.1.trans (hbA.mono HO5.out.1.size)
                have hw2r := HO5.out.1.size
                have HTN : Hid (((wr.alloc o1).alloc o2).ownsRow w7.heap.size 9 1 (.slice (some ⟨wr.heap.size, 0, none⟩) 1 1) 1 [.string (txt u)]) := by
                  refine World.ownsRow.alloc ⟨rfl, .inr ⟨wr.heap.size, 1, #[.string (txt u)], rfl, hw2r, ?_, Nat.le_refl _, by unfold maxLen; omega, rfl, rfl⟩⟩ o2
                  rw [ho1]; exact heap_alloc_new _ _
                have HCE : Hid (∀ (j : Nat) z, [Value.slice (some ⟨wr.heap.size, 0, none⟩) 1 1, Value.slice hp gu.length hc][j]? = some z → ((wr.alloc o1).alloc o2).cell? ((⟨wr.heap.size + 1, 0, none⟩ : Addr).add j) = some z) := by
                  show ∀ (j : Nat) z, _
                  intro j z hz
                  have hat : ((wr.alloc o1).alloc o2).heap[wr.heap.size + 1]? = some o2 := by rw [← hz1']; exact heap_alloc_new _ _
                  rw [Addr.add_lit]
                  rw [ho2] at hat ⊢
                  match j, hz with
                  | 0, hz =>
                    simp only [List.getElem?_cons_zero, Option.some.injEq] at hz
                    rw [← hz]
                    unfold World.cell?
                    simp only [Nat.zero_add]
                    rw [hat]; rfl
                  | 1, hz =>
                    simp only [List.getElem?_cons_succ, List.getElem?_cons_zero, Option.some.injEq] at hz
                    rw [← hz]
                    unfold World.cell?
                    simp only [Nat.zero_add]
                    rw [hat]; rfl
                have HOC : Hid (∀ z ∈ [Value.slice (some ⟨wr.heap.size, 0, none⟩) 1 1, Value.slice hp gu.length hc], z.oneCell' = true) := by
                  show ∀ z ∈ _, _
                  intro z hz
                  rcases List.mem_cons.1 hz with rfl | hz
                  · rfl
                  · rw [List.mem_singleton.1 hz]; rfl
                have HLZ : Hid (k + 1 ≤ maxLen ∧ (k + 1) * 48 ≤ 140737488355328) := ⟨by unfold maxLen; omega, by omega⟩
                have hsa : w7.heap.size ≤ ((wr.alloc o1).alloc o2).heap.size := HWB.out.size
                clear hbA hz1' hz2'
                subst ho1 ho2
                go_wp2_with (first
                  | (at_lookup; refine look_h _ rfl _ _ rfl rfl HMH6.out (txt u) rfl hxm ?_; rw [hht])
                  | (at_builtin; refine wpList_append_own _ rfl _ _ 41 rfl w7.heap.size 61 i1 _ 2 48 Tryz.underlying41 hi1 hy0 hy1 hy2 rfl (by decide) u18 k (cells2 rF rG rs') rfl HOA.out ⟨wr.heap.size + 1, 0, none⟩ 1 1 [Value.slice (some ⟨wr.heap.size, 0, none⟩) 1 1, Value.slice hp gu.length hc] rfl rfl HCE.out HOC.out HLZ.out.1 HLZ.out.2 hsa ?_; intro v' w6 g1 g2 _; have HO6 := Lib.hid g1; have HG6 := Lib.hid g2; clear g1 g2))
                go_roundw
                case rel =>
                  refine ⟨k + 1, rs' ++ [((⟨some ⟨wr.heap.size, 0, none⟩, 1, 1, [txt u]⟩ : Hd), (⟨hp, gu.length, hc, gu⟩ : Hd))], by omega, by go_num, by simp [hrk], ⟨HWB.out.grown HG6.out HWB.out.size (fun k1 e => (HOA.out.lt k1 e).1), ?_⟩, ?_, ?_⟩
                  · rw [cells2_app]; exact HO6.out
                  · intro x hx
                    rcases List.mem_append.1 hx with hx | hx
                    · exact own_kept_other (HTA.out x hx) HOA.out HG6.out
                    · rw [List.mem_singleton.1 hx]
                      exact own_kept_other HTN.out HOA.out HG6.out
                  · show _ = _
                    rw [List.map_append, HRS.out, HRU2.out, List.map_append]
                    simp only [List.map_cons, List.map_nil]
                    rw [HGUE.out, HHD.out]
                case measure => simp [intOf]; omega
              · obtain rfl : k = vs.length := by omega
                obtain ⟨pr, cr, rfl⟩ := ruleRow_sl HO5.out.2
                rw [List.take_length] at HRS
                obtain ⟨hri, hrm⟩ := rules_laid HO5.out.2 (by omega) HT1.out HRS.out (fun s => own_belowR (HMP7.out.row s) HO5.out.1) HVN.out HGN.out HGL.out
                have HRI := Lib.hid hri
                have HRM := Lib.hid hrm
                have HBF := Lib.hid (HBW7.out.trans (HO5.out.1.mono HBW7.out.size))
                clear hri hrm
                go_wp2
                go_ret2
                refine ⟨⟨.slice pr vs.length cr, (by rw [HE2.out]; rfl), fun h => absurd HE2.out h, fun _ => ⟨pr, cr, rs', ?_, ?_, ?_⟩⟩, HBF.out⟩
                · rw [← HVS.out]
                · rw [← HVS.out]; exact HRI.out
                · rw [HRM.out, ← HVS.out, HGE.out]
end Go.Proofs.YtoiolepengcagaaGreatDoor
namespace Go.Proofs.YtoiolepengcagaaGreatDoor
open Go.RowKit Go.Shelf Go.Maps
abbrev fv (a1 : Option Addr) (a2 a3 : Nat) (b1 : Option Addr) (b2 b3 : Nat) (c1 : Option Addr) (c2 c3 : Nat) (d1 : Option Addr) (d2 d3 : Nat) : Value := .agg #[.slice a1 a2 a3, .slice b1 b2 b3, .slice c1 c2 c3, .slice d1 d2 d3]
/-- a file as a value -/
def FIv (w : World) (F : FileV) (v : Value) : Prop := ∃ pm nm cm pp np cp pi ni ci pr nr cr hl, v = .agg #[.slice pm nm cm, .slice pp np cp, .slice pi ni ci, .slice pr nr cr] ∧ FileIn w F pm nm cm pp np cp pi ni ci pr nr cr hl ∧ np ≤ cp ∧ (nm ≤ 1048576 ∧ np ≤ 1048576 ∧ ni ≤ 1048576 ∧ nr ≤ 1048576) ∧ ∀ x ∈ hl, x.1.zs.length ≤ 1048576 ∧ x.2.zs.length ≤ 1048576
theorem FIv.below {w w' : World} {F : FileV} {v : Value} (h : FIv w F v) (hb : Below w.heap.size w w') : FIv w' F v := by
  obtain ⟨pm, nm, cm, pp, np, cp, pi, ni, ci, pr, nr, cr, hl, h1, h2, h3⟩ := h
  exact ⟨pm, nm, cm, pp, np, cp, pi, ni, ci, pr, nr, cr, hl, h1, h2.below hb, h3⟩
theorem own_cap {w : World} {b k n e : Nat} {p : Option Addr} {m c : Nat} {xs : List Value} (h : w.ownsRow b e k (.slice p m c) n xs) : m ≤ c := by
  rcases h.2 with ⟨hv, hn⟩ | ⟨g, cap, cur, hv, _, _, hc, _⟩
  · injection hv with _ e1 e2
    omega
  · injection hv with _ e1 e2
    omega
theorem FileAt.fiv {w : World} {lo : Nat} {v : Value} {l : List Bs} (h : FileAt w lo v (parseF l).1) (hE : (parseF l).2.2 = 0) : FIv w (parseF l).1 v := by
  obtain ⟨base, B, s, rl, hlo, hf, rfl⟩ := h
  obtain ⟨k1, k2, k3⟩ := parseF_fits hE
  have a1 := k1.ph
  have a2 := k1.inf
  have a3 := k1.rs
  have a4 : (parseF l).1.ms.length ≤ 200 := by rw [k2]; have := macsF_len l; omega
  refine ⟨_, _, _, _, _, _, _, _, _, _, _, _, _, rfl, hf.fin (by omega) (by omega) (by omega) (by omega), own_cap hf.ph, ⟨by omega, by omega, by omega, by omega⟩, fun x hx => ?_⟩
  obtain ⟨r, hr, rfl⟩ := List.mem_map.1 hx
  have h3 : (r.T, r.N) ∈ (parseF l).1.rs := by rw [← hf.same]; exact List.mem_map.2 ⟨r, hr, rfl⟩
  have h4 := (k1.ok _ h3).few
  simp only at h4
  exact ⟨by show r.T.length ≤ _; omega, by show r.N.length ≤ _; omega⟩
theorem FIv.lines {w : World} {F : FileV} {v : Value} (h : FIv w F v) (hz : ∀ x ∈ linesF F, x.length ≤ 1048600) :
    Calls Tryz.prog 48 #[v] w fun e w' => (∃ p c, e = .returned (.slice p (linesF F).length c) ∧ NL w' p (linesF F).length c ((linesF F).map txt)) ∧ Below w.heap.size w w' := by
  obtain ⟨pm, nm, cm, pp, np, cp, pi, ni, ci, pr, nr, cr, hl, rfl, h2, h3, h4, h5⟩ := h
  exact lines_ok F w pm pp pi pr nm cm np cp ni ci nr cr hl h2 h3 hz h4 h5
theorem FIv.fsame {w : World} {F G : FileV} {u v : Value} (h : FIv w F u) (k : FIv w G v) :
    Calls Tryz.prog 49 #[u, v] w fun e w' => (∃ r : Bool, e = .returned (.bool r) ∧ (r = true ↔ F = G)) ∧ Below w.heap.size w w' := by
  obtain ⟨pm, nm, cm, pp, np, cp, pi, ni, ci, pr, nr, cr, hl, rfl, h2, _⟩ := h
  obtain ⟨qm, am, bm, qp, ap, bp, qi, ai, bi, qr, ar, br, kl, rfl, k2, _⟩ := k
  exact fsame_ok F G w pm pp pi pr qm qp qi qr nm cm np cp ni ci nr cr am bm ap bp ai bi ar br hl kl h2 k2
theorem FIv.sameFile {w : World} {F G : FileV} {u v : Value} (h : FIv w F u) (k : FIv w G v) :
    Calls Tryz.prog 19 #[u, v] w fun e w' => (∃ r : Bool, e = .returned (.bool r) ∧ (r = true ↔ F = G)) ∧ Below w.heap.size w w' := by
  obtain ⟨pm, nm, cm, pp, np, cp, pi, ni, ci, pr, nr, cr, hl, rfl, h2, _⟩ := h
  obtain ⟨qm, am, bm, qp, ap, bp, qi, ai, bi, qr, ar, br, kl, rfl, k2, _⟩ := k
  exact sameFile_ok F G w pm pp pi pr qm qp qi qr nm cm np cp ni ci nr cr am bm ap bp ai bi ar br hl kl h2 k2
theorem lst_txt (l : List Bs) : lsB (l.map txt) = l := by
  unfold lsB
  rw [List.map_map]
  refine (List.map_congr_left fun x _ => ?_).trans (List.map_id _)
  show (txt x).data.toList = x
  exact txt_list x
theorem FIv.agg {w : World} {F : FileV} {v : Value} (h : FIv w F v) : ∃ a1 a2 a3 b1 b2 b3 c1 c2 c3 d1 d2 d3, v = fv a1 a2 a3 b1 b2 b3 c1 c2 c3 d1 d2 d3 := by
  obtain ⟨pm, nm, cm, pp, np, cp, pi, ni, ci, pr, nr, cr, hl, rfl, h2, _⟩ := h
  exact ⟨_, _, _, _, _, _, _, _, _, _, _, _, rfl⟩
theorem nil_fiv (w : World) : FIv w file0 nilFile := by
  refine ⟨none, 0, 0, none, 0, 0, none, 0, 0, none, 0, 0, [], rfl, ⟨⟨rfl, fun h => absurd h (Nat.lt_irrefl _), Nat.zero_le _⟩, ?_, ⟨rfl, fun h => absurd h (Nat.lt_irrefl _), Nat.zero_le _⟩, ⟨⟨rfl, fun h => absurd h (Nat.lt_irrefl _), Nat.zero_le _⟩, fun x hx => (by cases hx), Nat.le_refl _⟩, rfl⟩, Nat.le_refl _, by decide, fun x hx => (by cases hx)⟩
  exact (NL_own (zs := []) (n := 0) (c := 0) (g := none) (World.ownsRow_nil w w.heap.size _ _) (fun x hx => absurd hx (List.not_mem_nil)) (by decide)).weak
/-- file.Parse of the lines that a call of lines gave -/
theorem parse_nl {w : World} {p : Option Addr} {c : Nat} {l : List Bs} (h : NL w p l.length c (l.map txt)) (hM : MLm w) (hz : ∀ x ∈ l, x.length ≤ 1048600) :
    Calls Tryz.prog 18 #[.slice p l.length c] w fun e w' => (∃ a1 a2 a3 b1 b2 b3 c1 c2 c3 d1 d2 d3, e = .returned (.tuple #[.agg #[.slice a1 a2 a3, .slice b1 b2 b3, .slice c1 c2 c3, .slice d1 d2 d3], .int .i64 ((parseF l).2.1 : Int), .int .i64 (parseF l).2.2]) ∧ FIv w' (parseF l).1 (fv a1 a2 a3 b1 b2 b3 c1 c2 c3 d1 d2 d3)) ∧ Below w.heap.size w w' := by
  have hp := ParseF_ok p l.length c (l.map txt) w h.weak hM (fun z hz' => by
    obtain ⟨x, hx, rfl⟩ := List.mem_map.1 hz'
    rw [txt_size]
    exact hz x hx)
  rw [lst_txt] at hp
  refine hp.mono ?_
  rintro e w' ⟨⟨v, he, hv⟩, hb⟩
  have hf : FIv w' (parseF l).1 v := by
    rcases hv with ⟨h1, rfl⟩ | ⟨h1, hF⟩
    · rw [((parseF_err l).1 h1).1]
      exact nil_fiv w'
    · exact hF.fiv h1
  obtain ⟨a1, a2, a3, b1, b2, b3, c1, c2, c3, d1, d2, d3, rfl⟩ := hf.agg
  exact ⟨⟨a1, a2, a3, b1, b2, b3, c1, c2, c3, d1, d2, d3, he, hf⟩, hb⟩
set_option maxHeartbeats 8000000 in
set_option maxRecDepth 100000 in
theorem CheckF_ok (F : FileV) (a b c d : Value) (w : World) (h : FIv w F (.agg #[a, b, c, d])) (hM : MLm w) (hz : ∀ x ∈ linesF F, x.length ≤ 1048600) :
    Calls Tryz.prog 21 #[.agg #[a, b, c, d]] w fun e w' => e = .returned (.int .i64 (checkF F)) ∧ Below w.heap.size w w' := by
  obtain ⟨W, hW⟩ : ∃ W, W = w.alloc (.cells #[a, b, c, d] 43) := ⟨_, rfl⟩
  have hb0 : Below w.heap.size w W := by rw [hW]; exact rb1w _ _
  have hs0 : W.heap.size = w.heap.size + 1 := by rw [hW]; simp
  have hz0 : W.heap[w.heap.size]? = some (.cells #[a, b, c, d] 43 (0, 0)) := by rw [hW]; exact rb_new w _
  have HC : Hid (∀ u : World, Below W.heap.size W u → (u.cell? ⟨w.heap.size, 0, none⟩ = some a ∧ u.cell? ⟨w.heap.size, 1, none⟩ = some b ∧ u.cell? ⟨w.heap.size, 2, none⟩ = some c ∧ u.cell? ⟨w.heap.size, 3, none⟩ = some d) ∧ Below w.heap.size w u) := by
    show ∀ u : World, _
    intro u hu
    have hbu : Below w.heap.size w u := hb0.trans (hu.mono (by omega))
    have g0 : u.heap[w.heap.size]? = some (.cells #[a, b, c, d] 43 (0, 0)) := by rw [hu.block _ (by omega)]; exact hz0
    exact ⟨(boxF g0).1, hbu⟩
  have HF := Lib.hid h
  have HM := Lib.hid hM
  have HZ := Lib.hid hz
  have HL := Lib.hid ((h.below hb0).lines hz)
  have HWS := Lib.hid hs0
  obtain ⟨⟨c0, c1, c2, c3⟩, _⟩ := HC.out W (Below.refl _ _)
  obtain ⟨m, hm⟩ : ∃ m, m = (parseF (linesF F)).2.1 := ⟨_, rfl⟩
  obtain ⟨E, hE⟩ : ∃ E, E = (parseF (linesF F)).2.2 := ⟨_, rfl⟩
  have HE := Lib.hid hE
  have Hm := Lib.hid hm
  clear h hb0 hs0 hz0 hz hM hm hE
  go_enter Tryz.func21, Tryz.ntmps21
  go_upto_region 1 with fail
  rw [← hW]
  clear hW
  go_upto_region 2 with (first
    | (go_at_call 18; refine (parse_nl HN1.out (HM.out.below HBw1.out) HZ.out).mono ?_; rintro e w2 ⟨⟨g1, g2, g3, j1, j2, j3, k1, k2, k3, l1, l2, l3, rfl, hok2⟩, hb2⟩; rw [← HE.out, ← Hm.out]; have HOK := Lib.hid hok2; have HB2 := Lib.hid (HB1.out.trans (hb2.mono HB1.out.size)); clear hok2 hb2)
    | (go_at_call 48; refine HL.out.mono ?_; rintro e w1 ⟨⟨p1, d1, rfl, hn1⟩, hb1⟩; have HN1 := Lib.hid hn1; have HB1 := Lib.hid hb1; have HBw1 := Lib.hid (HC.out w1 hb1).2; clear hn1 hb1))
  obtain ⟨W2, hW2⟩ : ∃ W2, W2 = w2.alloc (.cells #[.slice g1 g2 g3, .slice j1 j2 j3, .slice k1 k2 k3, .slice l1 l2 l3] 43) := ⟨_, rfl⟩
  have hbW2 : Below w2.heap.size w2 W2 := by rw [hW2]; exact rb1w _ _
  have hz2 : W2.heap[w2.heap.size]? = some (.cells #[.slice g1 g2 g3, .slice j1 j2 j3, .slice k1 k2 k3, .slice l1 l2 l3] 43 (0, 0)) := by rw [hW2]; exact rb_new w2 _
  have HB3 := Lib.hid (HB2.out.trans (hbW2.mono HB2.out.size))
  have HOK2 := Lib.hid (HOK.out.below hbW2)
  rw [← hW2]
  clear hW2 c0 c1 c2 c3 hbW2
  obtain ⟨⟨c0, c1, c2, c3⟩, hbw⟩ := HC.out W2 HB3.out
  obtain ⟨⟨y0, y1, y2, y3⟩, _⟩ := boxF hz2
  have HSA := Lib.hid ((HF.out.below hbw).fsame HOK2.out)
  clear hz2
  by_cases hE : E = 0
  · subst hE
    go_wp2_with (go_at_call 49; refine HSA.out.mono ?_; rintro e w3 ⟨⟨r, rfl, hr⟩, hb3⟩; have HR := Lib.hid hr; have HB4 := Lib.hid (hbw.trans (hb3.mono hbw.size)); clear hr hb3)
    · rename_i h9
      have hr : r = false := by simpa using h9
      have hne : (parseF (linesF F)).1 ≠ F := fun e => by rw [HR.out.2 e.symm] at hr; cases hr
      have hck : checkF F = 3 := by unfold checkF; rw [if_pos HE.out.symm, if_neg hne]
      go_ret
      exact ⟨by rw [hck]; rfl, HB4.out⟩
    · rename_i h9
      have hr : r = true := by simpa using h9
      have hck : checkF F = 0 := by unfold checkF; rw [if_pos HE.out.symm, if_pos (HR.out.1 hr).symm]
      go_ret
      exact ⟨by rw [hck]; rfl, HB4.out⟩
  · go_wp2_with fail
    have hck : checkF F = E := by unfold checkF; rw [if_neg (by rw [← HE.out]; exact hE), HE.out]
    go_ret
    exact ⟨by rw [hck]; rfl, hbw⟩
set_option maxHeartbeats 8000000 in
set_option maxRecDepth 100000 in
theorem PrintF_ok (F : FileV) (a b c d : Value) (w : World) (h : FIv w F (.agg #[a, b, c, d])) (hM : MLm w) (hz : ∀ x ∈ linesF F, x.length ≤ 1048600) :
    Calls Tryz.prog 20 #[.agg #[a, b, c, d]] w fun e w' => ((checkF F ≠ 0 ∧ e = .returned (.tuple #[.slice none 0 0, .int .i64 (checkF F)])) ∨ (checkF F = 0 ∧ ∃ p c, e = .returned (.tuple #[.slice p (linesF F).length c, .int .i64 0]) ∧ NL w' p (linesF F).length c ((linesF F).map txt))) ∧ Below w.heap.size w w' := by
  obtain ⟨W, hW⟩ : ∃ W, W = w.alloc (.cells #[a, b, c, d] 43) := ⟨_, rfl⟩
  have hb0 : Below w.heap.size w W := by rw [hW]; exact rb1w _ _
  have hs0 : W.heap.size = w.heap.size + 1 := by rw [hW]; simp
  have hz0 : W.heap[w.heap.size]? = some (.cells #[a, b, c, d] 43 (0, 0)) := by rw [hW]; exact rb_new w _
  have HC : Hid (∀ u : World, Below W.heap.size W u → (u.cell? ⟨w.heap.size, 0, none⟩ = some a ∧ u.cell? ⟨w.heap.size, 1, none⟩ = some b ∧ u.cell? ⟨w.heap.size, 2, none⟩ = some c ∧ u.cell? ⟨w.heap.size, 3, none⟩ = some d) ∧ Below w.heap.size w u) := by
    show ∀ u : World, _
    intro u hu
    have hbu : Below w.heap.size w u := hb0.trans (hu.mono (by omega))
    have g0 : u.heap[w.heap.size]? = some (.cells #[a, b, c, d] 43 (0, 0)) := by rw [hu.block _ (by omega)]; exact hz0
    exact ⟨(boxF g0).1, hbu⟩
  have HF := Lib.hid h
  have HZ := Lib.hid hz
  have HK := Lib.hid (CheckF_ok F a b c d W (h.below hb0) (hM.below hb0) hz)
  have HWS := Lib.hid hs0
  obtain ⟨⟨c0, c1, c2, c3⟩, _⟩ := HC.out W (Below.refl _ _)
  clear h hb0 hs0 hz0 hz hM
  obtain ⟨E, hE⟩ : ∃ E, E = checkF F := ⟨_, rfl⟩
  rw [← hE] at HK ⊢
  clear hE
  go_enter Tryz.func20, Tryz.ntmps20
  go_upto_region 1 with fail
  rw [← hW]
  clear hW
  go_upto_region 2 with (go_at_call 21; refine HK.out.mono ?_; rintro e w1 ⟨rfl, hb1⟩; have HB1 := Lib.hid hb1; clear hb1)
  clear c0 c1 c2 c3
  obtain ⟨⟨c0, c1, c2, c3⟩, hbw⟩ := HC.out w1 HB1.out
  by_cases h0 : E = 0
  · subst h0
    have HL := Lib.hid ((HF.out.below hbw).lines HZ.out)
    go_wp2_with (go_at_call 48; refine HL.out.mono ?_; rintro e w2 ⟨⟨p1, d1, rfl, hn1⟩, hb2⟩; have HN1 := Lib.hid hn1; have HB2 := Lib.hid (hbw.trans (hb2.mono hbw.size)); clear hn1 hb2)
    go_ret2
    exact ⟨⟨p1, d1, rfl, HN1.out⟩, HB2.out⟩
  · go_wp2_with fail
    go_ret2
    exact ⟨.inl ⟨h0, rfl⟩, hbw⟩
end Go.Proofs.YtoiolepengcagaaGreatDoor
namespace Go.Proofs.YtoiolepengcagaaGreatDoor
open Go.RowKit Go.Shelf Go.Maps Go.Lib
set_option maxHeartbeats 1000000 in
set_option maxRecDepth 100000 in
theorem run_isnil (x : Option Addr) (n c : Nat) (u : World) : (binOp .eql 23 (.slice x n c) (.slice none 0 0)).run Tryz.prog u = .ok (.bool x.isNone) u := by
  exact Lib.run_eql_slice_nil u _ _ x n c 0 0 Tryz.underlying23
set_option maxHeartbeats 1000000 in
set_option maxRecDepth 100000 in
theorem clone_nlw (p : Option Addr) (n c : Nat) (zs : List ByteArray) (w : World) (h : NLw w p n c zs) (hn : n ≤ 8796093022208) :
    Calls Tryz.prog 16 #[.slice p n c] w fun e w' => (∃ (g : Option Addr) (cg : Nat), e = .returned (.slice g n cg) ∧ w'.ownsRow w.heap.size 9 1 (.slice g n cg) n (strsV zs)) ∧ Below w.heap.size w w' := by
  have HL := Lib.hid hn
  clear hn
  cases p with
  | none =>
    have h0 : n = 0 := by
      rcases Nat.eq_zero_or_pos n with h0 | h0
      · exact h0
      · obtain ⟨ad, e, _⟩ := h.at_.reads.2 h0
        cases e
    clear HL
    subst h0
    obtain rfl : zs = [] := List.length_eq_zero_iff.1 h.at_.len
    clear h
    have hnil := run_isnil none 0 c w
    simp only [Option.isNone_none] at hnil
    go_enter Tryz.func16, Tryz.ntmps16
    go_wp2
    go_ret
    exact ⟨⟨none, 0, rfl, World.ownsRow_nil _ _ _ _⟩, Below.refl _ _⟩
  | some ad =>
    obtain ⟨W, hW⟩ : ∃ W, W = w.alloc (.cells #[] 9) := ⟨_, rfl⟩
    have hb : Below w.heap.size w W := by rw [hW]; exact (Below.refl _ _).alloc (Nat.le_refl _) _
    have HO : Hid (W.ownsRow w.heap.size 9 1 (.slice (some ⟨w.heap.size, 0, none⟩) 0 0) 0 []) := by
      show World.ownsRow _ _ _ _ _ _ _
      rw [hW]
      exact World.ownsRow_made w #[] 0 (Nat.le_refl _) (Nat.zero_le _) rfl
    have HN := Lib.hid (h.below hb)
    have HB := Lib.hid hb
    clear h hb
    have hnil := run_isnil (some ad) n c w
    simp only [Option.isNone_some] at hnil
    go_enter Tryz.func16, Tryz.ntmps16
    go_upto_region 3 with fail
    go_wp2_with (at_builtin; rw [← hW]; refine app_nl _ rfl _ _ rfl w.heap.size _ 0 [] rfl HO.out _ _ _ _ rfl HN.out (by have := HL.out; omega) HB.out.size ?_; intro v' w7 hown7 hgrow7; have HG7 := Lib.hid hgrow7; have HX7 := Lib.hid hown7; obtain ⟨g7, c7, hv7⟩ := str_own hown7; clear hown7 hgrow7)
    subst hv7
    have hx := HX7.out
    rw [Nat.zero_add, List.nil_append] at hx
    have hb7 : Below w.heap.size w w7 := HB.out.grown (row := (Value.slice (some ⟨w.heap.size, 0, none⟩) 0 0).ownBlock) HG7.out HB.out.size (fun k hk => by injection hk with hk; subst hk; exact Nat.le_refl _)
    go_ret
    exact ⟨⟨g7, c7, rfl, hx⟩, hb7⟩
/-- what is asked of a closure at some texts: it decides, and leaves what there is as it was -/
def Decides (F : Nat) (caps : Array Value) (p : ByteArray → Bool) (base : Nat) (w : World) (zs : List ByteArray) : Prop :=
  ∀ (W : World) (x : ByteArray), x ∈ zs → Below base w W → base ≤ W.heap.size → Calls Tryz.prog F (#[.string x] ++ caps) W fun e w' => e = .returned (.bool (p x)) ∧ Below W.heap.size W w'
def FirstOf (p : ByteArray → Bool) (zs : List ByteArray) (r : Int) : Prop :=
  (r = -1 ∧ ∀ x ∈ zs, p x = false) ∨ ∃ k : Nat, k < zs.length ∧ r = k ∧ p (zs.getD k ByteArray.empty) = true ∧ ∀ x ∈ zs.take k, p x = false
set_option maxHeartbeats 2000000 in
theorem indexAny_ok (F : Nat) (caps : Array Value) (p : ByteArray → Bool) (base : Nat) (q : Option Addr) (n c : Nat) (zs : List ByteArray) (w : World)
    (ent : ∀ (args : Array Value) (u : World), (callFunc F args).run Tryz.prog u = .ok (.enter F args) u) (h : NL w q n c zs) (hD : Decides F caps p base w zs) (hb : base ≤ w.heap.size) :
    Calls Tryz.prog 38 #[.slice q n c, .func (.func F) #[] caps] w fun e w' => (∃ r : Int, e = .returned (.int .i64 r) ∧ FirstOf p zs r) ∧ Below w.heap.size w w' := by
  have hl := h.at_.len
  subst hl
  have hbig := h.at_.big
  have HN := Lib.hid h
  have HF := Lib.hid hD
  have HBS := Lib.hid hb
  clear h hD hb
  go_enter Tryz.func38, Tryz.ntmps38
  go_wp2
  go_loopw [8] (fun i wr => ∃ k : Nat, k ≤ zs.length ∧ i = .int .i64 k ∧ Hid (Below w.heap.size w wr) ∧ Hid (∀ x ∈ zs.take k, p x = false)) (fun i _ => zs.length - (intOf i).toNat)
  case atStart => exact ⟨0, Nat.zero_le _, rfl, Below.refl _ _, show ∀ x ∈ zs.take 0, _ from fun x hx => by cases hx⟩
  case round =>
    obtain ⟨k, hk, rfl, HB, HL⟩ := hrel
    by_cases hlt : k < zs.length
    · obtain ⟨ad, rfl, _, hc⟩ := str_at (HN.out.below HB.out).at_.reads hlt
      obtain ⟨s, hs⟩ : ∃ s, s = zs.getD k ByteArray.empty := ⟨_, rfl⟩
      have HS := Lib.hid hs
      rw [← hs] at hc
      have hm : s ∈ zs := by rw [hs, List.getD_eq_getElem?_getD, List.getElem?_eq_getElem hlt]; exact List.getElem_mem _
      have hcall := HF.out wr s hm (HB.out.mono HBS.out) (Nat.le_trans HBS.out HB.out.size)
      have HTK : Hid (zs.take (k + 1) = zs.take k ++ [s]) := by
        show _ = _
        rw [List.take_succ_eq_append_getElem hlt, hs, List.getD_eq_getElem?_getD, List.getElem?_eq_getElem hlt]
        rfl
      clear hs hm
      cases hps : p s with
      | true =>
        have HX := Lib.hid hps
        rw [hps] at hcall
        clear hps
        go_wp2_with (go_at_fn F; refine hcall.mono ?_; rintro e w' ⟨rfl, hb⟩; have HB2 := Lib.hid hb; clear hb)
        go_ret
        exact ⟨⟨_, rfl, .inr ⟨k, hlt, rfl, by rw [← HS.out]; exact HX.out, HL.out⟩⟩, HB.out.trans (HB2.out.mono HB.out.size)⟩
      | false =>
        have HX := Lib.hid hps
        rw [hps] at hcall
        clear hps
        go_wp2_with (go_at_fn F; refine hcall.mono ?_; rintro e w' ⟨rfl, hb⟩; have HB2 := Lib.hid hb; clear hb)
        go_roundw
        case rel =>
          refine ⟨k + 1, by omega, by go_num, HB.out.trans (HB2.out.mono HB.out.size), ?_⟩
          show ∀ x ∈ _, _
          rw [HTK.out]
          intro x hx
          rcases List.mem_append.1 hx with hx | hx
          · exact HL.out x hx
          · rw [List.mem_singleton.1 hx]; exact HX.out
        case measure => simp [intOf]; omega
    · have hkl : k = zs.length := by omega
      have HK := Lib.hid hkl
      go_wp2
      go_ret
      exact ⟨⟨_, rfl, .inl ⟨rfl, fun x hx => HL.out x (by rw [HK.out, List.take_length]; exact hx)⟩⟩, HB.out⟩
theorem own_setCells {e g m cap : Nat} {base : Nat} {xs : List Value} : ∀ (vs : List Value) (o : Nat) (w : World), w.ownsRow base e 1 (.slice (some ⟨g, 0, none⟩) m cap) m xs → m ≤ o → (w.setCells g o vs).ownsRow base e 1 (.slice (some ⟨g, 0, none⟩) m cap) m xs ∧ Below base w (w.setCells g o vs) := by
  intro vs
  induction vs with
  | nil => intro o w h _; exact ⟨h, Below.refl _ _⟩
  | cons v vs ih =>
    intro o w h ho
    have hl : xs.length = m := by have := h.1; simpa using this
    have h1 := (h.stored o v).1
    rw [List.set_eq_of_length_le (by omega)] at h1
    obtain ⟨i1, i2⟩ := ih (o + 1) _ h1 (by omega)
    have hg : base ≤ g := (h.lt g rfl).1
    exact ⟨i1, ((Below.refl _ _).setCell hg _).trans i2⟩
/-- the rows on the way: those kept so far, those not yet looked at -/
structure KeptI (p : ByteArray → Bool) (zs cur : List ByteArray) (i j : Nat) : Prop where
  len : cur.length = zs.length
  lt : i < j
  low : cur.take i = (zs.take j).filter fun x => !p x
  high : cur.drop j = zs.drop j
theorem KeptI.at_ {p : ByteArray → Bool} {zs cur : List ByteArray} {i j : Nat} (h : KeptI p zs cur i j) : cur.getD j ByteArray.empty = zs.getD j ByteArray.empty := by
  have h1 : (cur.drop j)[0]? = (zs.drop j)[0]? := by rw [h.high]
  rw [List.getElem?_drop, List.getElem?_drop] at h1
  rw [List.getD_eq_getElem?_getD, List.getD_eq_getElem?_getD, show j = j + 0 from rfl, h1]
theorem take_snocB {zs : List ByteArray} {j : Nat} (hj : j < zs.length) : zs.take (j + 1) = zs.take j ++ [zs.getD j ByteArray.empty] := by
  rw [List.take_succ_eq_append_getElem hj, List.getD_eq_getElem?_getD, List.getElem?_eq_getElem hj]
  rfl
theorem KeptI.skip {p : ByteArray → Bool} {zs cur : List ByteArray} {i j : Nat} (h : KeptI p zs cur i j) (hj : j < zs.length) (hp : p (zs.getD j ByteArray.empty) = true) : KeptI p zs cur i (j + 1) := by
  refine ⟨h.len, by have := h.lt; omega, ?_, ?_⟩
  · rw [take_snocB hj, List.filter_append, ← h.low]
    simp only [List.filter_cons, List.filter_nil, hp]
    simp
  · have := congrArg (List.drop 1) h.high
    rwa [List.drop_drop, List.drop_drop] at this
theorem KeptI.keep {p : ByteArray → Bool} {zs cur : List ByteArray} {i j : Nat} (h : KeptI p zs cur i j) (hj : j < zs.length) (hp : p (zs.getD j ByteArray.empty) = false) : KeptI p zs (cur.set i (zs.getD j ByteArray.empty)) (i + 1) (j + 1) := by
  have hl := h.len
  have hlt := h.lt
  refine ⟨by rw [List.length_set]; exact hl, by omega, ?_, ?_⟩
  · have e : cur.set i (zs.getD j ByteArray.empty) = cur.take i ++ zs.getD j ByteArray.empty :: cur.drop (i + 1) := List.set_eq_take_append_cons_drop ▸ by rw [if_pos (by omega)]
    have hk : (cur.take i).length = i := by rw [List.length_take]; omega
    rw [e, List.take_append, hk, List.take_of_length_le (by omega), show i + 1 - i = 1 by omega, List.take_succ_cons, List.take_zero, take_snocB hj, List.filter_append, ← h.low]
    simp only [List.filter_cons, List.filter_nil, hp]
    simp
  · rw [List.drop_set_of_lt (by omega)]
    have := congrArg (List.drop 1) h.high
    rwa [List.drop_drop, List.drop_drop] at this
theorem KeptI.start {p : ByteArray → Bool} {zs : List ByteArray} {k : Nat} (hk : k < zs.length) (hp : p (zs.getD k ByteArray.empty) = true) (h : ∀ x ∈ zs.take k, p x = false) : KeptI p zs zs k (k + 1) := by
  refine ⟨rfl, Nat.lt_succ_self k, ?_, rfl⟩
  rw [take_snocB hk, List.filter_append]
  simp only [List.filter_cons, List.filter_nil, hp]
  rw [List.filter_eq_self.2 (fun x hx => by rw [h x hx]; rfl)]
  simp
set_option maxHeartbeats 4000000 in
set_option maxRecDepth 100000 in
theorem delAny_ok (F : Nat) (caps : Array Value) (p : ByteArray → Bool) (base : Nat) (g : Option Addr) (n c : Nat) (zs : List ByteArray) (w : World)
    (ent : ∀ (args : Array Value) (u : World), (callFunc F args).run Tryz.prog u = .ok (.enter F args) u) (h : w.ownsRow base 9 1 (.slice g n c) n (strsV zs)) (hD : Decides F caps p base w zs) (hb : base ≤ w.heap.size)
    (hs : ∀ x ∈ zs, x.size ≤ 4611686018427387904) (hn : n * 16 ≤ 140737488351232) :
    Calls Tryz.prog 15 #[.slice g n c, .func (.func F) #[] caps] w fun e w' => (∃ m, e = .returned (.slice g m c) ∧ m = (zs.filter fun x => !p x).length ∧ w'.ownsRow base 9 1 (.slice g m c) m (strsV (zs.filter fun x => !p x))) ∧ Below base w w' := by
  have hl : zs.length = n := by have := h.1; simpa [strsV] using this
  subst hl
  have hN : NL w g zs.length c zs := NL_own h hs (by omega)
  have hI := indexAny_ok F caps p base g zs.length c zs w ent hN hD hb
  rcases Nat.eq_zero_or_pos zs.length with h0 | h0
  · have hz : zs = [] := List.length_eq_zero_iff.1 h0
    have hI2 : Calls Tryz.prog 38 #[.slice g zs.length c, .func (.func F) #[] caps] w fun e w' => e = .returned (.int .i64 (-1)) ∧ Below w.heap.size w w' := by
      refine hI.mono ?_
      rintro e w' ⟨⟨r, rfl, hr⟩, hb⟩
      rcases hr with ⟨rfl, _⟩ | ⟨k, hk, _⟩
      · exact ⟨rfl, hb⟩
      · omega
    have HI := Lib.hid hI2
    have HO := Lib.hid h
    have HZ := Lib.hid hz
    have HB0 := Lib.hid hb
    clear hI hI2 h hD hN hs hz h0
    go_enter Tryz.func15, Tryz.ntmps15
    go_wp2_with (go_at_call 38; refine HI.out.mono ?_; rintro e w1 ⟨rfl, hb1⟩; have HB1 := Lib.hid hb1; clear hb1)
    go_ret
    have e : (zs.filter fun x => !p x) = zs := by rw [HZ.out]; rfl
    rw [e]
    exact ⟨⟨_, rfl, rfl, own_belowR HO.out HB1.out⟩, HB1.out.mono HB0.out⟩
  · obtain ⟨g', c', hv, hg1, hg2⟩ := h.form h0
    injection hv with e1 e2 e3
    clear e2
    subst e1 e3
    have hcap : zs.length ≤ c ∧ c ≤ maxLen := by
      rcases h.2 with ⟨hv, _⟩ | ⟨g2, cap2, cur2, hv, _, _, h3, h4, _⟩
      · cases hv
      · injection hv with _ _ e
        subst e
        exact ⟨h3, h4⟩
    have HO := Lib.hid h
    have HC := Lib.hid hcap
    have HB0 := Lib.hid hb
    have HD := Lib.hid hD
    have HSZ := Lib.hid hs
    have HG := Lib.hid hg1
    obtain ⟨N, hN'⟩ : ∃ N, N = zs.length := ⟨_, rfl⟩
    rcases Classical.em (∃ k : Nat, k < zs.length ∧ p (zs.getD k ByteArray.empty) = true ∧ ∀ x ∈ zs.take k, p x = false) with ⟨k, hk, hp1, hp2⟩ | hno
    · have hI2 : Calls Tryz.prog 38 #[.slice (some ⟨g', 0, none⟩) zs.length c, .func (.func F) #[] caps] w fun e w' => e = .returned (.int .i64 (k : Int)) ∧ Below w.heap.size w w' := by
        refine hI.mono ?_
        rintro e w' ⟨⟨r, rfl, hr⟩, hb⟩
        rcases hr with ⟨rfl, ha⟩ | ⟨k', hk', rfl, q1, q2⟩
        · have := ha (zs.getD k ByteArray.empty) (by rw [List.getD_eq_getElem?_getD, List.getElem?_eq_getElem hk]; exact List.getElem_mem _)
          rw [hp1] at this
          cases this
        · have mem : ∀ i j : Nat, i < j → i < zs.length → zs.getD i ByteArray.empty ∈ zs.take j := by
            intro i j h1 h2
            rw [List.getD_eq_getElem?_getD, List.getElem?_eq_getElem h2]
            exact List.mem_iff_getElem.2 ⟨i, by rw [List.length_take]; omega, by rw [List.getElem_take]; rfl⟩
          rcases Nat.lt_trichotomy k k' with h1 | h1 | h1
          · have := q2 _ (mem k k' h1 hk)
            rw [hp1] at this
            cases this
          · rw [h1]; exact ⟨rfl, hb⟩
          · have := hp2 _ (mem k' k h1 hk')
            rw [q1] at this
            cases this
      have HI := Lib.hid hI2
      have HK := Lib.hid (KeptI.start hk hp1 hp2)
      have hne : ((k : Int) == -1) = false := beq_eq_false_iff_ne.2 (by omega)
      clear hI hI2 h hD hb hN hs hp1 hp2 hg1 hg2 hcap h0 hn
      have hk' : k < N := by omega
      have hc1 : N ≤ c := by have := HC.out.1; omega
      have hc2 : c ≤ 9223372036854775807 := by have := HC.out.2; unfold maxLen at this; omega
      rw [← hN'] at HI ⊢
      have HNE := Lib.hid hN'
      clear hN' hk
      go_enter Tryz.func15, Tryz.ntmps15
      go_wp2_with (go_at_call 38; refine HI.out.mono ?_; rintro e w1 ⟨rfl, hb1⟩; have HB1 := Lib.hid hb1; clear hb1)
      go_loopw [5, 6] (fun si sj wr => ∃ (i j : Nat) (cur : List ByteArray), si = .int .i64 i ∧ sj = .int .i64 j ∧ i < j ∧ j ≤ N ∧ Hid (KeptI p zs cur i j) ∧ Hid (Below base w wr) ∧ Hid (wr.ownsRow base 9 1 (.slice (some ⟨g', 0, none⟩) N c) N (strsV cur))) (fun _ sj _ => N - (intOf sj).toNat)
      case atStart => exact ⟨k, k + 1, zs, rfl, by go_num, Nat.lt_succ_self k, by omega, HK.out, HB1.out.mono HB0.out, by show World.ownsRow _ _ _ _ _ _ _; rw [HNE.out]; exact own_belowR HO.out HB1.out⟩
      case round =>
        obtain ⟨i, j, cur, rfl, rfl, hij, hjn, HKI, HBW, HOW⟩ := hrel
        by_cases hlt : j < N
        · have hcl : cur.length = N := by rw [HNE.out]; exact HKI.out.len
          have hcj : cur[j]? = some (zs.getD j ByteArray.empty) := by
            rw [← HKI.out.at_, List.getD_eq_getElem?_getD, List.getElem?_eq_getElem (by omega)]; rfl
          have hnz := HNE.out
          have hxm : zs.getD j ByteArray.empty ∈ zs := by rw [List.getD_eq_getElem?_getD, List.getElem?_eq_getElem (by omega)]; exact List.getElem_mem _
          have hx := HOW.out.cells (g := g') rfl j (.string (zs.getD j ByteArray.empty)) (by unfold strsV; rw [List.getElem?_map, hcj]; rfl)
          rw [Addr.add_lit, Nat.zero_add] at hx
          have hcall := HD.out wr _ hxm HBW.out (Nat.le_trans HB0.out (by have := HBW.out.size; omega))
          have HKS := Lib.hid (fun h => HKI.out.skip (by have := HNE.out; omega) h)
          have HKK := Lib.hid (fun h => HKI.out.keep (by have := HNE.out; omega) h)
          clear hcj hxm hcl hnz
          generalize zs.getD j ByteArray.empty = x at *
          cases hp : p x with
          | true =>
            rw [hp] at hcall
            have HKS2 := Lib.hid (HKS.out hp)
            clear hp HKS HKK
            go_wp2_with (go_at_fn F; refine hcall.mono ?_; rintro e w2 ⟨rfl, hb⟩; have HB2 := Lib.hid hb; clear hb)
            go_roundw
            case rel => exact ⟨i, j + 1, cur, rfl, by go_num, by omega, by omega, HKS2.out, HBW.out.trans (HB2.out.mono (by have := HBW.out.size; have := HB0.out; omega)), own_belowR HOW.out HB2.out⟩
            case measure => simp [intOf]; omega
          | false =>
            rw [hp] at hcall
            have HKK2 := Lib.hid (HKK.out hp)
            clear hp HKS HKK
            go_upto_region 9 with (go_at_fn F; refine hcall.mono ?_; rintro e w2 ⟨rfl, hb⟩; have HB2 := Lib.hid hb; clear hb)
            have HO2 := Lib.hid (own_belowR HOW.out HB2.out)
            have hfz := HO2.out.frozenAt i
            have hci : ∃ y, w2.cell? ⟨g', i, none⟩ = some y := by
              have := HO2.out.cells (g := g') rfl i (.string (cur.getD i ByteArray.empty)) (by unfold strsV; rw [List.getElem?_map, List.getD_eq_getElem?_getD, List.getElem?_eq_getElem (by have := HKI.out.len; have := HNE.out; omega)]; rfl)
              rw [Addr.add_lit, Nat.zero_add] at this
              exact ⟨_, this⟩
            obtain ⟨y9, hy9⟩ := hci
            have hi0 : (i : Int) < (N : Int) := by omega
            go_wp2
            go_roundw
            case rel =>
              have hw2 : base ≤ wr.heap.size := Nat.le_trans HB0.out (by have := HBW.out.size; have := HB1.out.size; omega)
              refine ⟨i + 1, j + 1, cur.set i x, by go_num, by go_num, by omega, by omega, HKK2.out, ?_, ?_⟩
              · exact (HBW.out.trans (HB2.out.mono hw2)).setCell HG.out _
              · have := (HO2.out.stored i (.string x)).1
                unfold strsV at this ⊢
                rw [List.map_set]
                exact this
            case measure => simp [intOf]; omega
        · obtain rfl : j = N := by omega
          have hcl : ∀ ty, (Builtin.clear_ #[23] ty #[.slice (some ⟨g', i, none⟩) (j - i) (c - i)]).run Tryz.prog wr = .ok (.tuple #[]) (wr.setCells g' i (List.replicate (j - i) (.string ⟨#[]⟩))) :=
            fun ty => Lib.run_clear_slice wr _ _ ty _ Tryz.underlying23 Tryz.zeroValue9 rfl rfl g' i _ _ (by omega) (fun t ht => by
              have hlt : i + t < cur.length := by have := HKI.out.len; have := HNE.out; omega
              have := HOW.out.cells (g := g') rfl (i + t) (.string (cur.getD (i + t) ByteArray.empty)) (by unfold strsV; rw [List.getElem?_map, List.getD_eq_getElem?_getD, List.getElem?_eq_getElem hlt]; rfl)
              rw [Addr.add_lit, Nat.zero_add] at this
              rw [this]; rfl) (fun t _ => HOW.out.frozenAt (i + t))
          have hij2 : (i : Int) ≤ (j : Int) := by omega
          have hic : i ≠ c := by omega
          clear HI HD
          go_wp2
          go_ret
          have hlow := HKI.out.low
          rw [HNE.out, List.take_length] at hlow
          have hl := HKI.out.len
          have hil : (zs.filter fun x => !p x).length = i := by rw [← hlow, List.length_take]; have := HNE.out; omega
          have hpre := own_prefix (m := i) HOW.out (by omega)
          rw [show (strsV cur).take i = strsV (zs.filter fun x => !p x) by rw [← hlow]; unfold strsV; rw [List.map_take]] at hpre
          obtain ⟨q1, q2⟩ := own_setCells (List.replicate (j - i) (.string ⟨#[]⟩)) i wr hpre (Nat.le_refl i)
          exact ⟨⟨i, rfl, hil.symm, q1⟩, HBW.out.trans q2⟩
    · have hall : ∀ x ∈ zs, p x = false := by
        have key : ∀ k, k ≤ zs.length → ∀ x ∈ zs.take k, p x = false := by
          intro k
          induction k with
          | zero => intro _ x hx; cases hx
          | succ k ih =>
            intro hk x hx
            rw [take_snocB (by omega)] at hx
            rcases List.mem_append.1 hx with hx | hx
            · exact ih (by omega) x hx
            · rw [List.mem_singleton.1 hx]
              cases hp : p (zs.getD k ByteArray.empty) with
              | false => rfl
              | true => exact absurd ⟨k, by omega, hp, ih (by omega)⟩ hno
        intro x hx
        exact key zs.length (Nat.le_refl _) x (by rw [List.take_length]; exact hx)
      have hI2 : Calls Tryz.prog 38 #[.slice (some ⟨g', 0, none⟩) zs.length c, .func (.func F) #[] caps] w fun e w' => e = .returned (.int .i64 (-1)) ∧ Below w.heap.size w w' := by
        refine hI.mono ?_
        rintro e w' ⟨⟨r, rfl, hr⟩, hb⟩
        rcases hr with ⟨rfl, ha⟩ | ⟨k', hk', rfl, q1, q2⟩
        · exact ⟨rfl, hb⟩
        · have := hall _ (show zs.getD k' ByteArray.empty ∈ zs by rw [List.getD_eq_getElem?_getD, List.getElem?_eq_getElem hk']; exact List.getElem_mem _)
          rw [q1] at this
          cases this
      have HI := Lib.hid hI2
      have HFL : Hid ((zs.filter fun x => !p x) = zs) := List.filter_eq_self.2 (fun x hx => by rw [hall x hx]; rfl)
      clear hI hI2 h hD hb hN hs hg1 hg2 hcap h0 hn hno hall
      have HNE := Lib.hid hN'
      rw [← hN'] at HI ⊢
      clear hN'
      go_enter Tryz.func15, Tryz.ntmps15
      go_wp2_with (go_at_call 38; refine HI.out.mono ?_; rintro e w1 ⟨rfl, hb1⟩; have HB1 := Lib.hid hb1; clear hb1)
      go_ret
      rw [HFL.out]
      exact ⟨⟨N, rfl, HNE.out, by rw [HNE.out]; exact own_belowR HO.out HB1.out⟩, HB1.out.mono HB0.out⟩
end Go.Proofs.YtoiolepengcagaaGreatDoor
