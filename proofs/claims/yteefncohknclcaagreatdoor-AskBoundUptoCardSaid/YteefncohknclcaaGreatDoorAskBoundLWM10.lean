/- Texts joined: EvalNamedW, AskBoundP, DelSLay, AskBoundFW, DelSW. Conditions: theirs. -/
import Derived.Test.YteefncohknclcaaGreatDoorAskBoundLWM9
import Derived.Test.YteefncohknclcaaGreatDoorAskBoundLWM2
import Derived.Shelf.SlicesE.DeleteFunc
import Derived.Test.YteefncohknclcaaGreatDoorProg
import Derived.Test.YteefncohknclcaaGreatDoorNLSetW
import Derived.Sort.Walk0
import Derived.Lib.SliceRun
namespace Go.Proofs.YteefncohknclcaaGreatDoor
open Go.RowKit Go.Shelf
theorem find_gidx {g : GD} (hr : Rise g.names) {k : Nat} (hk : k < g.names.length) {s : ByteArray} (he : g.names.getD k ByteArray.empty = s) : ghas g s.data.toList ∧ k = gidx g s.data.toList := by
  have hs : gnm g k = s.data.toList := by unfold gnm; rw [he]
  have hh : ghas g s.data.toList := ⟨k, hk, hs⟩
  obtain ⟨h1, h2⟩ := gidx_at hh
  refine ⟨hh, ?_⟩
  have e : gnm g k = gnm g (gidx g s.data.toList) := hs.trans h2.symm
  unfold gnm at e
  rcases Nat.lt_trichotomy k (gidx g s.data.toList) with h | h | h
  · have := hr _ _ h h1
    rw [e] at this
    exact absurd this (List.lt_irrefl _)
  · exact h
  · have := hr _ _ h hk
    rw [← e] at this
    exact absurd this (List.lt_irrefl _)
theorem findG_ok {g : GD} {w : World} {p : Option Addr} {n c : Nat} (h : NL w p n c g.names) (hr : Rise g.names) (s : ByteArray) :
    Calls Tryz.prog 59 #[.slice p n c, .string s] w fun e w' => ((ghas g s.data.toList ∧ e = .returned (.tuple #[.int .i64 (gidx g s.data.toList : Int), .bool true])) ∨ (¬ ghas g s.data.toList ∧ e = .returned (.tuple #[.int .i64 0, .bool false]))) ∧ Below w.heap.size w w' := by
  refine (find_ok h hr s).mono ?_
  rintro e w' ⟨hF, q, rfl⟩
  refine ⟨?_, below_drawsP (Below.refl _ _) _⟩
  rcases hF with ⟨k, hk, he, rfl⟩ | ⟨hc, rfl⟩
  · obtain ⟨h1, h2⟩ := find_gidx hr hk he
    exact .inl ⟨h1, by rw [← h2]⟩
  · refine .inr ⟨fun ⟨k, hk, he⟩ => ?_, rfl⟩
    have hx : g.names.getD k ByteArray.empty = s := by
      unfold gnm at he
      rw [← list_qtx (g.names.getD k ByteArray.empty), he, list_qtx]
    have : s ∈ g.names := by
      rw [← hx, List.getD_eq_getElem?_getD, List.getElem?_eq_getElem hk]
      exact List.getElem_mem hk
    rw [← has_iff, hc] at this
    cases this
theorem nmd_iff {g : GD} {k : Int} {s : Txt} {n : Int} {xs : List QA} : Nmd g (.mk k s n xs) ↔ (k = 1 → ghas g s) ∧ ∀ x ∈ xs, Nmd g x := ⟨fun h => ⟨h.name, h.kids⟩, fun h => .mk h.1 h.2⟩
/-- the world in which a call has laid its graph and its ask -/
theorem argGA (w : World) (g0 g1 g2 g3 v0 v1 v2 v3 : Value) : ∃ W, W = (w.alloc (.cells #[g0, g1, g2, g3] 26)).alloc (.cells #[v0, v1, v2, v3] 29) ∧ Below w.heap.size w W ∧ W.heap.size = w.heap.size + 2 ∧
    ∀ u : World, Below W.heap.size W u → (u.cell? ⟨w.heap.size, 0, none⟩ = some g0 ∧ u.cell? ⟨w.heap.size, 1, none⟩ = some g1 ∧ u.cell? ⟨w.heap.size, 2, none⟩ = some g2 ∧ u.cell? ⟨w.heap.size, 3, none⟩ = some g3) ∧
      (u.cell? ⟨w.heap.size + 1, 0, none⟩ = some v0 ∧ u.cell? ⟨w.heap.size + 1, 1, none⟩ = some v1 ∧ u.cell? ⟨w.heap.size + 1, 2, none⟩ = some v2 ∧ u.cell? ⟨w.heap.size + 1, 3, none⟩ = some v3) := by
  obtain ⟨A, hA⟩ : ∃ A, A = w.alloc (.cells #[g0, g1, g2, g3] 26) := ⟨_, rfl⟩
  have hSA : A.heap.size = w.heap.size + 1 := by rw [hA]; simp
  have hBA : Below w.heap.size w A := by rw [hA]; exact (Below.refl _ _).alloc (Nat.le_refl _) _
  obtain ⟨W, hW, hBW, hSW, hCW⟩ := arg1 A v0 v1 v2 v3
  refine ⟨W, by rw [hW, hA], hBA.trans (hBW.mono hBA.size), by omega, fun u hu => ⟨?_, ?_⟩⟩
  · have hu2 := hBW.trans (hu.mono hBW.size)
    have c0 : ∀ o, u.cell? ⟨w.heap.size, o, none⟩ = A.cell? ⟨w.heap.size, o, none⟩ := fun o => hu2.cell (p := ⟨w.heap.size, o, none⟩) (by show w.heap.size < _; omega)
    rw [c0, c0, c0, c0, hA]
    refine ⟨?_, ?_, ?_, ?_⟩ <;> (rw [World.cell?_alloc_at _ _ _ _ rfl]; rfl)
  · rw [← hSA]
    exact hCW u hu
def NamedPost (g : GD) (x : QA) (w : World) (e : Ending) (w' : World) : Prop := (∃ r : Bool, e = .returned (.bool r) ∧ (r = true ↔ Nmd g x)) ∧ Below w.heap.size w w'
set_option maxHeartbeats 4000000 in
set_option maxRecDepth 100000 in
theorem named_ok (g : GD) (hr : Rise g.names) (v : Value) : ∀ (t : QT) (w : World), GrAt w v g → QIn w t → qchk qpat (qabs t) = 0 → Calls Tryz.prog 56 #[v, t.v] w (NamedPost g (qabs t) w) := by
  intro t
  induction t using QT.ind with
  | h k s q pt ct xs ih =>
    intro w hG hQ hchk
    obtain ⟨hnd, hkc⟩ := qchk_zero.1 (show qchk qpat (.mk k s.data.toList q (qabss xs)) = 0 from hchk)
    have hx1 : k = 1 → xs = [] := by
      intro h1
      have : (qabss xs).length = 0 := by rcases node_cases hnd with h | h | h | h | h | h | h | h | h | h <;> first | (exfalso; omega) | omega
      rw [qabss_len] at this
      exact List.length_eq_zero_iff.1 this
    have hxl : xs.length ≤ 1048576 := hQ.small.2.2
    obtain ⟨p, n, c, qe, m, d, hv, hN, hE⟩ := hG.at_
    obtain ⟨W, hW, hBW, hS, hC⟩ := argGA w (.slice p n c) (.slice qe m d) (.int .u64 (un g.phony : Int)) (.int .u64 (un g.made : Int)) (.int .i64 k) (.string s) (.int .i64 q) (.slice pt xs.length ct)
    have HC := Lib.hid hC
    have HBW := Lib.hid hBW
    have HG : Hid (∀ u : World, Below W.heap.size W u → GrAt u v g) := by
      show ∀ u : World, _
      exact fun u hu => hG.below (hBW.trans (hu.mono hBW.size))
    have HF := Lib.hid (findG_ok (hN.below hBW) hr s)
    have HK : Hid (QsIn W pt 0 xs) := hQ.kids.below hBW
    have HIH := Lib.hid ih
    have HKC : Hid (∀ x ∈ xs, qchk qpat (qabs x) = 0) := by
      show ∀ x ∈ xs, _
      exact fun x hx => hkc _ (by rw [qabss_map]; exact List.mem_map_of_mem hx)
    have HIFF : Hid (Nmd g (qabs (.mk k s q pt ct xs)) ↔ (k = 1 → ghas g s.data.toList) ∧ ∀ x ∈ xs, Nmd g (qabs x)) := by
      show Nmd g (.mk k s.data.toList q (qabss xs)) ↔ _
      rw [nmd_iff, qabss_map]
      simp
    have HV := Lib.hid hv
    have HVS : Hid (v = .agg #[.slice p n c, .slice qe m d, .int .u64 (un g.phony : Int), .int .u64 (un g.made : Int)]) := hv
    obtain ⟨⟨g0, g1, g2, g3⟩, k0, k1, k2, k3⟩ := HC.out W (Below.refl _ _)
    rw [hv]
    show Calls Tryz.prog 56 #[.agg #[.slice p n c, .slice qe m d, .int .u64 (un g.phony : Int), .int .u64 (un g.made : Int)], .agg #[.int .i64 k, .string s, .int .i64 q, .slice pt xs.length ct]] w _
    clear hG hQ hchk hnd hkc hN hE hBW hS hC ih hv
    go_enter Tryz.func56, Tryz.ntmps56
    go_upto_region 1 with fail
    rw [← hW]
    clear hW
    by_cases h1 : k = 1
    · obtain rfl := hx1 h1
      subst h1
      clear hx1
      by_cases hh : ghas g s.data.toList
      · have HH := Lib.hid hh
        have hgi := (gidx_at hh).1
        go_upto_region 5 with (go_at_call 59; refine HF.out.mono ?_; rintro e w2 ⟨hF, hb⟩; obtain rfl : e = .returned (.tuple #[.int .i64 (gidx g s.data.toList : Int), .bool true]) := (hF.elim (fun h => h.2) (fun h => absurd HH.out h.1)); have HB2 := Lib.hid hb; obtain ⟨_, u0, u1, u2, u3⟩ := HC.out w2 hb; clear hb hF)
        go_upto_region 6 with fail
        go_loopw [25] (fun i wr => i = .int .i64 0 ∧ wr = w2) (fun _ _ => 0)
        case atStart => exact ⟨rfl, rfl⟩
        case round =>
          obtain ⟨rfl, rfl⟩ := hrel
          go_wp2_with fail
          go_ret
          refine ⟨⟨true, rfl, ?_⟩, HBW.out.trans (HB2.out.mono HBW.out.size)⟩
          rw [HIFF.out]
          exact ⟨fun _ => ⟨fun _ => HH.out, fun x hx => by cases hx⟩, fun _ => rfl⟩
      · have HH := Lib.hid hh
        go_wp2_with (go_at_call 59; refine HF.out.mono ?_; rintro e w2 ⟨hF, hb⟩; obtain rfl : e = .returned (.tuple #[.int .i64 0, .bool false]) := (hF.elim (fun h => absurd h.1 HH.out) (fun h => h.2)); have HB2 := Lib.hid hb; obtain ⟨_, u0, u1, u2, u3⟩ := HC.out w2 hb; clear hb hF)
        go_ret
        refine ⟨⟨false, rfl, ?_⟩, HBW.out.trans (HB2.out.mono HBW.out.size)⟩
        rw [HIFF.out]
        exact ⟨fun h => Bool.noConfusion h, fun h => absurd (h.1 (by simp)) HH.out⟩
    · have e1 : (k == 1) = false := by rw [beq_eq_false_iff_ne]; exact h1
      have H1 := Lib.hid h1
      clear h1 hx1
      go_upto_region 6 with fail
      clear k0 k1 k2 k3 g0 g1 g2 g3
      go_loopw [25] (fun i wr => ∃ j : Nat, j ≤ xs.length ∧ i = .int .i64 j ∧ Hid (Below W.heap.size W wr) ∧ Hid (∀ y ∈ xs.take j, Nmd g (qabs y))) (fun i _ => xs.length - (intOf i).toNat)
      case atStart => exact ⟨0, Nat.zero_le _, rfl, Below.refl _ _, show ∀ y ∈ xs.take 0, _ from fun y hy => by simp at hy⟩
      case round =>
        obtain ⟨j, hj, rfl, HB, HALL⟩ := hrel
        by_cases hlt : j < xs.length
        · obtain ⟨x, hx⟩ : ∃ x, xs[j]? = some x := ⟨_, List.getElem?_eq_getElem hlt⟩
          obtain ⟨⟨b, o, rfl, hb, hf⟩, hqx⟩ := HK.out.at hx
          obtain ⟨c0, c1, c2, c3⟩ := four_at (hf.below HB.out hb)
          have HCALL := Lib.hid (fun (u : World) (hu : Below wr.heap.size wr u) => HIH.out x (List.mem_of_getElem? hx) u (HG.out u (HB.out.trans (hu.mono HB.out.size))) (hqx.below (HB.out.trans (hu.mono HB.out.size))) (HKC.out x (List.mem_of_getElem? hx)))
          rw [HVS.out] at HCALL
          have HAL : Hid (∀ o, Below wr.heap.size wr (wr.alloc o)) := fun o => (Below.refl _ _).alloc (Nat.le_refl _) o
          have hd := fun ob => (HC.out (wr.alloc ob) (HB.out.trans ((HAL.out ob).mono HB.out.size))).1
          have d0 := fun ob => (hd ob).1
          have d1 := fun ob => (hd ob).2.1
          have d2 := fun ob => (hd ob).2.2.1
          have d3 := fun ob => (hd ob).2.2.2
          have HTK : Hid (xs.take (j + 1) = xs.take j ++ [x]) := by
            show _ = _
            rw [List.take_add_one, hx]
            rfl
          have HXM : Hid (x ∈ xs) := List.mem_of_getElem? hx
          clear hqx hf hb hx hd
          by_cases hnx : Nmd g (qabs x)
          · have HNX := Lib.hid hnx
            clear hnx
            go_wp2_with (go_at_call 56; refine (HCALL.out _ (HAL.out _)).mono ?_; rintro e w5 ⟨⟨r, rfl, hr5⟩, hb5⟩; have HB5 := Lib.hid (HB.out.trans (((HAL.out _).trans (hb5.mono (HAL.out _).size)).mono HB.out.size)); obtain rfl : r = true := hr5.2 HNX.out; clear hb5 hr5)
            go_roundw
            case rel =>
              refine ⟨j + 1, by omega, by go_num, HB5.out, ?_⟩
              show ∀ y ∈ _, _
              rw [HTK.out]
              intro y hy
              rcases List.mem_append.1 hy with hy | hy
              · exact HALL.out y hy
              · rw [List.mem_singleton.1 hy]; exact HNX.out
            case measure => simp [intOf]; omega
          · have HNX := Lib.hid hnx
            clear hnx
            go_wp2_with (go_at_call 56; refine (HCALL.out _ (HAL.out _)).mono ?_; rintro e w5 ⟨⟨r, rfl, hr5⟩, hb5⟩; have HB5 := Lib.hid (HB.out.trans (((HAL.out _).trans (hb5.mono (HAL.out _).size)).mono HB.out.size)); obtain rfl : r = false := Bool.eq_false_iff.2 (fun h => HNX.out (hr5.1 h)); clear hb5 hr5)
            go_ret
            refine ⟨⟨false, rfl, ?_⟩, HBW.out.trans (HB5.out.mono HBW.out.size)⟩
            rw [HIFF.out]
            exact ⟨fun h => Bool.noConfusion h, fun h => absurd (h.2 x HXM.out) HNX.out⟩
        · obtain rfl : j = xs.length := by omega
          go_wp2_with fail
          go_ret
          refine ⟨⟨true, rfl, ?_⟩, HBW.out.trans (HB.out.mono HBW.out.size)⟩
          rw [HIFF.out]
          refine ⟨fun _ => ⟨fun h => absurd h H1.out, fun x hx => HALL.out x (by rw [List.take_length]; exact hx)⟩, fun _ => rfl⟩
/-- what eval.Check answers: no error, if the ask can be asked of the graph -/
def ECheckPost (g : GD) (x : QA) (w : World) (e : Ending) (w' : World) : Prop := (∃ E : Int, e = .returned (.int .i64 E) ∧ (E = 0 ↔ Qev g x)) ∧ Below w.heap.size w w'
theorem byt_qtx (l : List Txt) : byt (l.map qtx) = l := by
  unfold byt
  rw [List.map_map]
  have : ((fun s : ByteArray => s.data.toList) ∘ qtx) = id := funext fun x => qtx_list x
  rw [this, List.map_id]
theorem freeS_mem {X : QA} {x : Txt} : x ∈ freeS X ↔ x ∈ qfree X [] := by
  have e : freeS X = sortN ((qfree X []).map qtx) := by unfold freeS sortN; rw [byt_qtx]
  rw [e, sortN_mem, byt_qtx]
theorem sort_nil {X : QA} : (freeS X).length = 0 ↔ qfree X [] = [] := by
  rw [List.length_eq_zero_iff]
  constructor
  · intro h
    refine List.eq_nil_iff_forall_not_mem.2 fun x hx => ?_
    rw [← freeS_mem, h] at hx
    cases hx
  · intro h
    refine List.eq_nil_iff_forall_not_mem.2 fun x hx => ?_
    rw [freeS_mem, h] at hx
    cases hx
set_option maxHeartbeats 4000000 in
set_option maxRecDepth 100000 in
theorem ECheck_ok (g : GD) (v : Value) (t : QT) (w : World) (hG : GrAt w v g) (hQ : QIn w t) (hT : AskTabs w) (hc : qcnt (qabs t) ≤ 1099511627776) : Calls Tryz.prog 35 #[v, t.v] w (ECheckPost g (qabs t) w) := by
  obtain ⟨k, s, q, pt, ct, xs⟩ := t
  obtain ⟨p, n, c, qe, m, d, hv, hN, hE⟩ := hG.at_
  obtain ⟨W, hW, hBW, hS, hC⟩ := argGA w (.slice p n c) (.slice qe m d) (.int .u64 (un g.phony : Int)) (.int .u64 (un g.made : Int)) (.int .i64 k) (.string s) (.int .i64 q) (.slice pt xs.length ct)
  have HC := Lib.hid hC
  have HBW := Lib.hid hBW
  have HCG := Lib.hid (CheckG2_ok v g W (hG.below hBW))
  have HCF : Hid (∀ u : World, Below W.heap.size W u → Calls Tryz.prog 15 #[(QT.mk k s q pt ct xs).v] u (FreeAPost (.mk k s q pt ct xs) u)) := by
    show ∀ u : World, _
    exact fun u hu => FreeA_ok _ u (hQ.below (hBW.trans (hu.mono hBW.size))) (hT.below (hBW.trans (hu.mono hBW.size))) hc
  have HCN : Hid (Rise g.names → qchk qpat (qabs (.mk k s q pt ct xs)) = 0 → ∀ u : World, Below W.heap.size W u → Calls Tryz.prog 56 #[v, (QT.mk k s q pt ct xs).v] u (NamedPost g (qabs (.mk k s q pt ct xs)) u)) := by
    show _ → _
    exact fun hr hk u hu => named_ok g hr v _ u (hG.below (hBW.trans (hu.mono hBW.size))) (hQ.below (hBW.trans (hu.mono hBW.size))) hk
  obtain ⟨X, hX⟩ : ∃ X, qabs (.mk k s q pt ct xs) = X := ⟨_, rfl⟩
  unfold FreeAPost at HCF
  rw [hX] at HCF HCN ⊢
  rw [hv] at HCG HCN ⊢
  show Calls Tryz.prog 35 #[.agg #[.slice p n c, .slice qe m d, .int .u64 (un g.phony : Int), .int .u64 (un g.made : Int)], .agg #[.int .i64 k, .string s, .int .i64 q, .slice pt xs.length ct]] w _
  obtain ⟨⟨g0, g1, g2, g3⟩, k0, k1, k2, k3⟩ := HC.out W (Below.refl _ _)
  clear hG hQ hT hc hv hN hE hBW hS hC hX
  go_enter Tryz.func35, Tryz.ntmps35
  go_upto_region 1 with fail
  rw [← hW]
  clear hW
  by_cases hgood : Good g
  · have HGD := Lib.hid hgood
    clear hgood
    go_upto_region 4 with (go_at_call 48; refine HCG.out.mono ?_; rintro e w2 ⟨⟨E, rfl, hE⟩, hb⟩; obtain rfl : E = 0 := hE.elim (fun h => h.1) (fun h => absurd HGD.out h.2); have HB2 := Lib.hid hb; obtain ⟨⟨u0, u1, u2, u3⟩, y0, y1, y2, y3⟩ := HC.out w2 hb; clear hb hE)
    clear g0 g1 g2 g3 k0 k1 k2 k3
    obtain ⟨E, hE⟩ : ∃ E, qE qpat X = E := ⟨_, rfl⟩
    have HE := Lib.hid hE
    rw [hE] at HCF
    clear hE
    by_cases h0 : E = 0
    · subst h0
      have HCK := Lib.hid (qE_chk HE.out).2
      have HCN2 := Lib.hid (HCN.out HGD.out.rise HCK.out)
      have HLN : Hid ((freeS X).length = 0 ↔ qfree X [] = []) := sort_nil
      obtain ⟨L, hL⟩ : ∃ L, (freeS X).length = L := ⟨_, rfl⟩
      rw [hL] at HLN
      have HLB : Hid (L ≤ 60) := by
        show L ≤ 60
        have h1 := qfree_len X []
        have h2 := (qE_chk HE.out).1
        have h3 : (freeS X).length ≤ ((qfree X []).mergeSort fun a b => decide (a ≤ b)).length := Lib.compact_length_le _
        rw [List.length_mergeSort] at h3
        omega
      clear HCN
      by_cases hf : qfree X [] = []
      · obtain rfl : L = 0 := HLN.out.2 hf
        have HFR := Lib.hid hf
        clear hf
        by_cases hn : Nmd g X
        · have HNM := Lib.hid hn
          clear hn
          go_wp2_with (first
            | (have h4 := HB3; clear h4; go_at_call 56; refine (HCN2.out w3 HB3.out).mono ?_; rintro e w4 ⟨⟨r, rfl, hr⟩, hb⟩; obtain rfl : r = true := hr.2 HNM.out; have HB4 := Lib.hid (HB3.out.trans (hb.mono HB3.out.size)); clear hb hr)
            | (go_at_call 15; refine (HCF.out w2 HB2.out).mono ?_; rintro e w3 ⟨hF, hb⟩; obtain ⟨gf, cf, hef⟩ : ∃ (gf : Option Addr) (cf : Nat), e = .returned (.tuple #[.slice gf 0 cf, .int .i64 0]) := (hF.elim (fun h => absurd rfl h.1) (fun h => by obtain ⟨_, gf, cf, h1, _⟩ := h; exact ⟨gf, cf, by rw [h1, hL]⟩)); subst hef; have HB3 := Lib.hid (HB2.out.trans (hb.mono HB2.out.size)); obtain ⟨⟨u0, u1, u2, u3⟩, y0, y1, y2, y3⟩ := HC.out w3 HB3.out; clear hb hF))
          go_ret
          exact ⟨⟨0, rfl, fun _ => ⟨HGD.out, HE.out, HFR.out, HNM.out⟩, fun _ => rfl⟩, HBW.out.trans (HB4.out.mono HBW.out.size)⟩
        · have HNM := Lib.hid hn
          clear hn
          go_wp2_with (first
            | (have h4 := HB3; clear h4; go_at_call 56; refine (HCN2.out w3 HB3.out).mono ?_; rintro e w4 ⟨⟨r, rfl, hr⟩, hb⟩; obtain rfl : r = false := Bool.eq_false_iff.2 (fun h => HNM.out (hr.1 h)); have HB4 := Lib.hid (HB3.out.trans (hb.mono HB3.out.size)); clear hb hr)
            | (go_at_call 15; refine (HCF.out w2 HB2.out).mono ?_; rintro e w3 ⟨hF, hb⟩; obtain ⟨gf, cf, hef⟩ : ∃ (gf : Option Addr) (cf : Nat), e = .returned (.tuple #[.slice gf 0 cf, .int .i64 0]) := (hF.elim (fun h => absurd rfl h.1) (fun h => by obtain ⟨_, gf, cf, h1, _⟩ := h; exact ⟨gf, cf, by rw [h1, hL]⟩)); subst hef; have HB3 := Lib.hid (HB2.out.trans (hb.mono HB2.out.size)); obtain ⟨⟨u0, u1, u2, u3⟩, y0, y1, y2, y3⟩ := HC.out w3 HB3.out; clear hb hF))
          go_ret
          exact ⟨⟨5, rfl, (fun h => by cases h), fun h => absurd h.named HNM.out⟩, HBW.out.trans (HB4.out.mono HBW.out.size)⟩
      · have HFR := Lib.hid hf
        have hL0 : 0 < L := Nat.pos_of_ne_zero fun h => hf (HLN.out.1 h)
        have hLb := HLB.out
        clear hf
        go_wp2_with (go_at_call 15; refine (HCF.out w2 HB2.out).mono ?_; rintro e w3 ⟨hF, hb⟩; obtain ⟨gf, cf, hef⟩ : ∃ (gf : Option Addr) (cf : Nat), e = .returned (.tuple #[.slice gf L cf, .int .i64 0]) := (hF.elim (fun h => absurd rfl h.1) (fun h => by obtain ⟨_, gf, cf, h1, _⟩ := h; exact ⟨gf, cf, by rw [h1, hL]⟩)); subst hef; have HB3 := Lib.hid (HB2.out.trans (hb.mono HB2.out.size)); obtain ⟨⟨u0, u1, u2, u3⟩, y0, y1, y2, y3⟩ := HC.out w3 HB3.out; clear hb hF)
        go_ret
        exact ⟨⟨5, rfl, (fun h => by cases h), fun h => absurd h.free HFR.out⟩, HBW.out.trans (HB3.out.mono HBW.out.size)⟩
    · obtain ⟨i1, i2⟩ := int_ne' h0
      have HNE : Hid (¬ E = 0) := h0
      clear h0
      go_wp2_with (go_at_call 15; refine (HCF.out w2 HB2.out).mono ?_; rintro e w3 ⟨hF, hb⟩; obtain rfl : e = .returned (.tuple #[.slice none 0 0, .int .i64 E]) := (hF.elim (fun h => h.2) (fun h => absurd h.1 HNE.out)); have HB3 := Lib.hid (HB2.out.trans (hb.mono HB2.out.size)); clear hb hF)
      go_ret
      exact ⟨⟨E, rfl, fun h => absurd h HNE.out, fun h => absurd (HE.out.symm.trans h.ok) HNE.out⟩, HBW.out.trans (HB3.out.mono HBW.out.size)⟩
  · have HGD := Lib.hid hgood
    clear hgood
    go_upto_region 2 with (go_at_call 48; refine HCG.out.mono ?_; rintro e w2 ⟨⟨E, rfl, hE⟩, hb⟩; have hne : E ≠ 0 := hE.elim (fun h => absurd h.2 HGD.out) (fun h => h.1); have HB2 := Lib.hid hb; clear hb hE)
    obtain ⟨i1, i2⟩ := int_ne' hne
    have HNE : Hid (¬ E = 0) := hne
    clear hne
    go_wp2_with fail
    go_ret
    exact ⟨⟨E, rfl, fun h => absurd h HNE.out, fun h => absurd h.good HGD.out⟩, HBW.out.trans (HB2.out.mono HBW.out.size)⟩
end Go.Proofs.YteefncohknclcaaGreatDoor
namespace Go.Proofs.YteefncohknclcaaGreatDoor
theorem cmp_sortN (l : List Txt) : Lib.compact (l.mergeSort fun a b => decide (a ≤ b)) = sortN (l.map qtx) := by
  unfold sortN; rw [byt_qtx]
theorem bound_mem (v : Txt) (n : Int) (x y : QA) (t : Txt) : t ∈ qfree (.mk 4 v n [x, y]) [] ↔ t ∈ qfree x [] ∨ (t ∈ qfree y [] ∧ t ≠ v) := by
  rw [free2, List.mem_append, List.mem_append, mem_own, mem_free y (qbd 4 v [])]
  have e : qbd 4 v [] = [v] := rfl
  rw [e, List.mem_singleton]
  constructor
  · rintro (⟨h, _⟩ | h)
    · cases h
    · exact h
  · exact .inr
theorem bound_law (v : Txt) (n : Int) (x y : QA) : Lib.compact ((freeS x ++ (freeS y).filter fun s => !decide (s = v)).mergeSort fun a b => decide (a ≤ b)) = freeS (.mk 4 v n [x, y]) := by
  unfold freeS
  rw [cmp_sortN, cmp_sortN (qfree (.mk 4 v n [x, y]) [])]
  refine strict_ext (sortN_strict _) (sortN_strict _) fun t => ?_
  rw [sortN_mem, sortN_mem, byt_qtx, byt_qtx, bound_mem, List.mem_append, List.mem_filter]
  have a : ∀ (z : QA) (t : Txt), t ∈ Lib.compact ((qfree z []).mergeSort fun a b => decide (a ≤ b)) ↔ t ∈ qfree z [] := fun z t => freeS_mem
  rw [a, a]
  simp
end Go.Proofs.YteefncohknclcaaGreatDoor
namespace Go.Proofs
open Go.Shelf Go.RowKit
def Tryz.laysDelS_ren : Go.Shelf.Ren := ⟨fun | 6 => 42 | 10 => 17 | n => n, fun | 0 => 0 | 3 => 3 | 4 => 4 | 22 => 22 | 23 => 9 | 25 => 42 | n => n, fun | n => n⟩
theorem Tryz.laysDelS : Go.Proofs.SlLaysH.n10 Tryz.prog Tryz.laysDelS_ren := {
  mixed := by kernel_rfl
  f6 := ⟨Tryz.f42.name, by kernel_rfl, Tryz.func42.trans (congrArg some (by kernel_rfl))⟩
  f10 := ⟨Tryz.f17.name, by kernel_rfl, Tryz.func17.trans (congrArg some (by kernel_rfl))⟩
  t0 := Tryz.underlying0
  a0 := Tryz.isAgg0
  z0 := Tryz.sizeOf0
  v0 := Tryz.zeroValue0
  t3 := Tryz.underlying3
  a3 := Tryz.isAgg3
  z3 := Tryz.sizeOf3
  v3 := Tryz.zeroValue3
  t4 := Tryz.underlying4
  a4 := Tryz.isAgg4
  z4 := Tryz.sizeOf4
  v4 := Tryz.zeroValue4
  t22 := Tryz.underlying22
  a22 := Tryz.isAgg22
  z22 := Tryz.sizeOf22
  v22 := Tryz.zeroValue22
  a23 := Tryz.isAgg9
  z23 := Tryz.sizeOf9
  t25 := Tryz.underlying42
  a25 := Tryz.isAgg42
  z25 := Tryz.sizeOf42
  v25 := Tryz.zeroValue42 }
end Go.Proofs
namespace Go.Proofs.YteefncohknclcaaGreatDoor
open Go.RowKit Go.Shelf
theorem toList_inj' {a b : ByteArray} (h : a.toList = b.toList) : a = b := by
  have h2 : a.data.toList = b.data.toList := by rw [ByteArray.toList_eq, ByteArray.toList_eq] at h; exact h
  exact ByteArray.ext (Array.toList_inj.1 h2)
set_option maxHeartbeats 400000 in
theorem isv_ok (B : Nat) (v x : ByteArray) (w : World) (hv : w.cell? ⟨B, 0, none⟩ = some (.string v)) :
    Calls Tryz.prog 18 #[.string x, .pointer (some ⟨B, 0, none⟩)] w fun e w' => e = .returned (.bool (x.toList == v.toList)) ∧ w' = w := by
  go_enter Tryz.func18, Tryz.ntmps18
  go_wp2
  go_ret
  exact ⟨rfl, rfl⟩
set_option maxHeartbeats 1000000 in
theorem indexV_ok (B : Nat) (v : ByteArray) (p : Option Addr) (n c : Nat) (zs : List ByteArray) (w : World) (h : NL w p n c zs) (hv : w.cell? ⟨B, 0, none⟩ = some (.string v)) :
    Calls Tryz.prog 42 #[.slice p n c, .func (.func 18) #[] #[.pointer (some ⟨B, 0, none⟩)]] w fun e w' => (∃ r : Int, e = .returned (.int .i64 r) ∧ ((r = -1 ∧ ∀ j, j < zs.length → zs.getD j ByteArray.empty ≠ v) ∨ ∃ k : Nat, k < zs.length ∧ r = k ∧ zs.getD k ByteArray.empty = v ∧ ∀ j, j < k → zs.getD j ByteArray.empty ≠ v)) ∧ w' = w := by
  have hl := h.at_.len
  subst hl
  have hbig := h.at_.big
  have HN := Lib.hid h
  have HF : Hid (∀ x : ByteArray, Calls Tryz.prog 18 #[.string x, .pointer (some ⟨B, 0, none⟩)] w fun e w' => e = .returned (.bool (x.toList == v.toList)) ∧ w' = w) := by
    show ∀ x : ByteArray, _
    exact fun x => isv_ok B v x w hv
  clear h hv
  go_enter Tryz.func42, Tryz.ntmps42
  go_wp2
  go_loop [8] (fun i => ∃ k : Nat, k ≤ zs.length ∧ i = .int .i64 k ∧ Hid (∀ j, j < k → zs.getD j ByteArray.empty ≠ v)) (fun i => zs.length - (intOf i).toNat)
  case atStart => exact ⟨0, Nat.zero_le _, rfl, show ∀ j, j < 0 → _ from fun j hj => absurd hj (Nat.not_lt_zero j)⟩
  case round =>
    obtain ⟨k, hk, rfl, HL⟩ := hrel
    by_cases hlt : k < zs.length
    · obtain ⟨ad, rfl, _, hc⟩ := str_at HN.out.at_.reads hlt
      obtain ⟨s, hs⟩ : ∃ s, s = zs.getD k ByteArray.empty := ⟨_, rfl⟩
      have HS := Lib.hid hs
      rw [← hs] at hc
      clear hs
      by_cases hx : s = v
      · have HX := Lib.hid hx
        have hb : (s.toList == v.toList) = true := by rw [hx]; exact beq_self_eq_true _
        clear hx
        go_wp2_with (go_at_call 18; refine (HF.out s).mono ?_; rw [hb]; rintro e w' ⟨rfl, rfl⟩)
        go_ret
        exact ⟨⟨_, rfl, .inr ⟨k, hlt, rfl, by rw [← HS.out]; exact HX.out, HL.out⟩⟩, rfl⟩
      · have HX := Lib.hid hx
        have hb : (s.toList == v.toList) = false := by rw [beq_eq_false_iff_ne]; exact fun h => hx (toList_inj' h)
        clear hx
        go_wp2_with (go_at_call 18; refine (HF.out s).mono ?_; rw [hb]; rintro e w' ⟨rfl, rfl⟩)
        go_round
        case rel =>
          refine ⟨k + 1, by omega, by go_num, ?_⟩
          show ∀ j, j < k + 1 → _
          intro j hj
          rcases Nat.lt_or_ge j k with h | h
          · exact HL.out j h
          · obtain rfl : j = k := by omega
            rw [← HS.out]
            exact HX.out
        case measure => simp [intOf]; omega
    · have hkl : k = zs.length := by omega
      have HK := Lib.hid hkl
      go_wp2
      go_ret
      exact ⟨⟨_, rfl, .inl ⟨rfl, fun j hj => HL.out j (by rw [HK.out]; exact hj)⟩⟩, rfl⟩
end Go.Proofs.YteefncohknclcaaGreatDoor
namespace Go.Proofs.YteefncohknclcaaGreatDoor
open Go.Shelf Go.RowKit Go.Lib Go.Sort
theorem givesV (v x : ByteArray) (B : Nat) (W : World) (hc : W.cell? ⟨B, 0, none⟩ = some (.string v)) :
    FnGives Tryz.prog 18 #[.pointer (some ⟨B, 0, none⟩)] #[.string x] (.bool (x.toList == v.toList)) W := by
  show Calls Tryz.prog 18 #[.string x, .pointer (some ⟨B, 0, none⟩)] W _
  refine (isv_ok B v x W hc).mono ?_
  rintro e w' ⟨rfl, rfl⟩
  exact ⟨rfl, 0, rfl⟩
theorem predV (v : ByteArray) (B : Nat) (w : World) (hB : B < w.heap.size) (hcell : w.cell? ⟨B, 0, none⟩ = some (.string v)) :
    PredAt Tryz.prog 18 #[.pointer (some ⟨B, 0, none⟩)] Value.string (fun x => x.toList == v.toList) w :=
  fun W x hb => givesV v x B W ((hb.cell (p := ⟨B, 0, none⟩) hB).trans hcell)
theorem overV (v : ByteArray) (B blk off size : Nat) (w : World) (hB : B < w.heap.size) (hne : B ≠ blk) (hcell : w.cell? ⟨B, 0, none⟩ = some (.string v)) :
    PredOver Tryz.prog 18 #[.pointer (some ⟨B, 0, none⟩)] Value.string (fun x => x.toList == v.toList) blk off size w :=
  fun n os dk x _ => givesV v x B _ (by
    unfold sortWorld
    rw [cell?_grow _ _ _ (by show B < (putRow _ _ _ _ _).heap.size; rw [size_putRow]; exact hB), cell?_putRow_other _ _ blk off _ _ (Or.inl hne)]
    exact hcell)
theorem delV_ok (B blk off cap : Nat) (v : ByteArray) (d : Array ByteArray) (w : World) (hB : B < w.heap.size) (hne : B ≠ blk) (hcell : w.cell? ⟨B, 0, none⟩ = some (.string v)) (hH : Holds Value.string w blk off d) (hsz : d.size ≤ 9223372036854775807) (hcap : d.size ≤ cap) :
    Calls Tryz.prog 17 #[.slice (some ⟨blk, off, none⟩) d.size cap, .func (.func 18) #[] #[.pointer (some ⟨B, 0, none⟩)]] w fun e w' => e = .returned (.slice (some ⟨blk, off, none⟩) (d.toList.filter fun x => !(x.toList == v.toList)).length cap) ∧
      ∃ q, w' = putRow Value.string (Sort.ahead w q) blk off ((d.toList.filter fun x => !(x.toList == v.toList)) ++ List.replicate (d.size - (d.toList.filter fun x => !(x.toList == v.toList)).length) ByteArray.empty).toArray := by
  have eg : ∀ args w, (callFunc 18 args).run Tryz.prog w = .ok (.enter 18 args) w := enters_of Tryz.func18 (by kernel_rfl) rfl
  exact AnyE.slices_DeleteFunc Tryz.laysDelS Value.string (fun _ => rfl) (fun x => x.toList == v.toList) 18 #[.pointer (some ⟨B, 0, none⟩)] eg ByteArray.empty Tryz.zeroValue9 blk off cap d w (predV v B w hB hcell) (overV v B blk off d.size w hB hne hcell) hH hsz hcap
end Go.Proofs.YteefncohknclcaaGreatDoor
