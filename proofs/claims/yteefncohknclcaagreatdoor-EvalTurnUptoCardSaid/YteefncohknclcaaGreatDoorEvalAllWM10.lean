/- Texts joined: FreeFnW, NLArg, NameFindW, EvalNamedW, EvalScopeW. Conditions: theirs. -/
import Derived.Test.YteefncohknclcaaGreatDoorEvalAllWM8
import Derived.Test.YteefncohknclcaaGreatDoorEvalAllWM9
import Derived.Test.YteefncohknclcaaGreatDoorNameSortW
import Derived.Test.YteefncohknclcaaGreatDoorNamesW
import Derived.WideShapes
import Derived.Test.YteefncohknclcaaGreatDoorEvalAllWM1
import Derived.Test.YteefncohknclcaaGreatDoorEvalAllWM3
import Derived.Test.YteefncohknclcaaGreatDoorGlobFnW
import Derived.Test.YteefncohknclcaaGreatDoorEvalAllWM5
import Derived.Deep.LoopGhost
namespace Go.Proofs.YteefncohknclcaaGreatDoor
open Go.RowKit Go.Shelf Go.Maps Go.Sort
theorem NL_ownAny {w : World} {base n : Nat} {v : Value} {zs : List ByteArray} (h : w.ownsRow base 9 1 v n (strsV zs)) (hl : zs.length = n) (hs : ∀ s ∈ zs, s.size ≤ 4611686018427387904) (hb : n ≤ 8796093022) :
    ∃ g c, v = .slice g n c ∧ NL w g n c zs ∧ n ≤ c := by
  rcases h.2 with ⟨hv, hn⟩ | ⟨g, cap, cur, hv, _, hg, hc, _⟩
  · obtain rfl : zs = [] := List.length_eq_zero_iff.1 (by omega)
    subst hn
    exact ⟨none, 0, hv, NL_none w, Nat.le_refl _⟩
  · subst hv
    exact ⟨_, cap, rfl, ⟨⟨hl, Reads.of_own h, hs, by omega⟩, (fun h => by cases h), (fun ad ha => by injection ha with ha; exact ⟨g, 0, ha.symm, (Array.getElem?_eq_some_iff.1 hg).1⟩), by omega⟩, hc⟩
/-- the free vars, sorted, each once -/
def freeS (x : QA) : List Txt := Lib.compact ((qfree x []).mergeSort fun a b => decide (a ≤ b))
def FreeAPost (t : QT) (w : World) (e : Ending) (w' : World) : Prop :=
  ((qE qpat (qabs t) ≠ 0 ∧ e = .returned (.tuple #[.slice none 0 0, .int .i64 (qE qpat (qabs t))])) ∨
    (qE qpat (qabs t) = 0 ∧ ∃ (g : Option Addr) (c : Nat), e = .returned (.tuple #[.slice g (freeS (qabs t)).length c, .int .i64 0]) ∧ w'.ownsRow w.heap.size 9 1 (.slice g (freeS (qabs t)).length c) (freeS (qabs t)).length ((freeS (qabs t)).map encStr))) ∧ Below w.heap.size w w'
/-- the names in an ask are short -/
theorem free_small (x : QA) : qchk qpat x = 0 → ∀ s ∈ qfree x [], s.length ≤ 40 := by
  induction x using QA.ind with
  | h k s n xs ih =>
    intro h t ht
    obtain ⟨hnd, hxs⟩ := qchk_zero.1 h
    have own : t ∈ qown k s [] → t.length ≤ 40 := by
      intro h1
      obtain ⟨h3, rfl, _⟩ := mem_own.1 h1
      subst h3
      have : nokL t = true := by
        cases hno : nokL t
        · exfalso
          unfold qnodeE at hnd
          simp [qnamed, hno] at hnd
          split at hnd <;> cases hnd
        · rfl
      unfold nokL at this
      simp only [Bool.and_eq_true, decide_eq_true_eq] at this
      exact this.1.2
    match xs with
    | [] => rw [free0] at ht; exact own ht
    | [x] =>
      rw [free1, List.mem_append] at ht
      rcases ht with ht | ht
      · exact own ht
      · exact ih x (by simp) (hxs x (by simp)) t ht
    | x :: y :: r =>
      rw [free2, List.mem_append, List.mem_append] at ht
      rcases ht with ht | ht | ht
      · exact own ht
      · exact ih x (by simp) (hxs x (by simp)) t ht
      · exact ih y (by simp) (hxs y (by simp)) t ((mem_free y _ t).1 ht).1
set_option maxHeartbeats 4000000 in
set_option maxRecDepth 100000 in
theorem FreeA_ok (t : QT) (w : World) (hq : QIn w t) (hT : AskTabs w) (hc : qcnt (qabs t) ≤ 1099511627776) : Calls Tryz.prog 15 #[t.v] w (FreeAPost t w) := by
  obtain ⟨k, s, n, p, c, xs⟩ := t
  obtain ⟨W, hW, hBW, hS, hC⟩ := arg1 w (.int .i64 k) (.string s) (.int .i64 n) (.slice p xs.length c)
  have HC := Lib.hid hC
  have HBW := Lib.hid hBW
  have HCH := Lib.hid (CheckA_ok _ W (hq.below hBW) (hT.below hBW) hc)
  have HQ : Hid (∀ u : World, Below W.heap.size W u → QIn u (.mk k s n p c xs)) := by
    show ∀ u : World, _
    exact fun u hu => hq.below (hBW.trans (hu.mono hBW.size))
  obtain ⟨k0, k1, k2, k3⟩ := HC.out W (Below.refl _ _)
  show Calls Tryz.prog 15 #[.agg #[.int .i64 k, .string s, .int .i64 n, .slice p xs.length c]] w _
  obtain ⟨E, hE⟩ : ∃ E, qE qpat (qabs (.mk k s n p c xs)) = E := ⟨_, rfl⟩
  have HE := Lib.hid hE
  rw [hE] at HCH
  clear hq hT hBW hS hC hc hE
  go_enter Tryz.func15, Tryz.ntmps15
  go_upto_region 1 with fail
  rw [← hW]
  clear hW
  by_cases h0 : E = 0
  · subst h0
    go_upto_region 4 with (go_at_call 32; refine HCH.out.mono ?_; rintro e w2 ⟨rfl, hb⟩; have HB0 := Lib.hid hb; obtain ⟨u0, u1, u2, u3⟩ := HC.out w2 hb; clear hb)
    obtain ⟨h60, hch⟩ := qE_chk HE.out
    have HCK := Lib.hid hch
    have HFR := Lib.hid (free_ok w2 w2.heap.size (Nat.le_refl _) (.mk k s n p c xs) (HQ.out w2 HB0.out) hch none 0 0 [] [] (.slice none 0 0) w2 (Below.refl _ _) (Nat.le_refl _) (NL_none w2) (fun ad h => by cases h) (World.ownsRow_nil w2 _ _ _) (by show 0 + _ ≤ _; omega) (by omega) (Nat.le_refl _))
    have H60 := Lib.hid h60
    clear h60 hch k0 k1 k2 k3
    go_wp2_with fail
    refine HFR.out.mono ?_
    rintro e w3 ⟨v', m, rfl, hm, hown, hg, _⟩
    rw [List.nil_append] at hown
    have hg3 : Below w2.heap.size w2 w3 := ⟨hg.os, hg.tape, hg.output, hg.size, fun k hk => hg.block k hk (by simp [Value.ownBlock])⟩
    have hsm : ∀ z ∈ m, z.size ≤ 4611686018427387904 := fun z hz => by
      have := free_small _ HCK.out z.data.toList (by rw [← show byt m = qfree (qabs (.mk k s n p c xs)) [] from hm]; exact mem_byt.2 hz)
      rw [ba_len] at this
      omega
    have hml : m.length ≤ 60 := by
      have h1 := qfree_len (qabs (.mk k s n p c xs)) []
      have h2 : (byt m).length = (qfree (qabs (.mk k s n p c xs)) []).length := by rw [hm]; rfl
      rw [byt_len] at h2
      have := H60.out
      omega
    obtain ⟨g, cg, rfl, hnl, _⟩ := NL_ownAny hown rfl hsm (by omega)
    have HM : Hid (freeS (qabs (.mk k s n p c xs)) = sortN m) := by
      show _ = _
      unfold freeS sortN
      rw [hm]
      rfl
    have HB3 := Lib.hid (HB0.out.trans (hg3.mono HB0.out.size))
    have hb1 : Below w3.heap.size w3 (w3.alloc (.cells #[.slice g m.length cg] 22)) := (Below.refl _ _).alloc (Nat.le_refl _) _
    have hcell : (w3.alloc (.cells #[.slice g m.length cg] 22)).cell? ⟨w3.heap.size, 0, none⟩ = some (.slice g m.length cg) := by rw [World.cell?_alloc_at _ _ _ _ rfl]; rfl
    have HCL := Lib.hid hcell
    have HB4 := Lib.hid (HB3.out.trans (hb1.mono HB3.out.size))
    have HN1 := Lib.hid (hnl.below hb1)
    clear hcell hb1 hnl hown hg hg3 hsm hml hm HFR
    go_wp2_with fail
    refine (callsIn_wide.1 (vs_values_in Fence.wide 1 trivial rfl g m.length cg w3)).mono ?_
    rintro e w' ⟨rfl, rfl⟩
    go_wp2_with fail
    refine (sorted_ok w3.heap.size g m.length cg m _ (by simp) HN1.out.at_ HCL.out HN1.out.nil HN1.out.plain HN1.out.reach).mono ?_
    rintro e w5 ⟨g5, cg5, rfl, hown5, hb5⟩
    have HO := Lib.hid hown5
    have HB5 := Lib.hid (HB4.out.trans (hb5.mono HB4.out.size))
    clear hown5 hb5
    go_wp2_with fail
    refine (compact_own HO.out).mono ?_
    rintro e w6 ⟨rfl, hown6, hg6⟩
    have HO6 := Lib.hid hown6
    have HB6 := Lib.hid (HB5.out.grown hg6 HB5.out.size (fun j hj => by have := (HO.out.lt j hj).1; have := HB4.out.size; omega))
    clear hown6 hg6
    go_wp2
    go_ret2
    refine ⟨.inr ⟨HE.out, g5, cg5, ?_, ?_⟩, HBW.out.trans (HB6.out.mono HBW.out.size)⟩
    · rw [HM.out]; rfl
    · rw [HM.out]
      refine ⟨HO6.out.1, ?_⟩
      rcases HO6.out.2 with h | ⟨g', cap, cur, h1, h2, h3⟩
      · exact .inl h
      · exact .inr ⟨g', cap, cur, h1, (by have := HBW.out.size; have := HB4.out.size; omega), h3⟩
  · obtain ⟨i1, i2⟩ := int_ne' h0
    have HNE : Hid (¬ E = 0) := h0
    clear h0
    go_wp2_with (go_at_call 32; refine HCH.out.mono ?_; rintro e w2 ⟨rfl, hb⟩; have HB0 := Lib.hid hb; clear hb)
    go_ret2
    refine ⟨.inl ⟨(by rw [HE.out]; exact HNE.out), (by rw [HE.out]; rfl)⟩, HBW.out.trans (HB0.out.mono HBW.out.size)⟩
end Go.Proofs.YteefncohknclcaaGreatDoor
namespace Go.Proofs.YteefncohknclcaaGreatDoor
open Go.RowKit Go.ChangeShapes
theorem shape_lt {w : World} {b : Nat} {r : TypeId × Nat} (h : w.shape? b = some r) : b < w.heap.size := by
  unfold World.shape? at h
  rcases Nat.lt_or_ge b w.heap.size with hb | hb
  · exact hb
  · rw [Array.getElem?_eq_none hb] at h; cases h
theorem slice_plain {P : Program} {W : World} {b0 : Nat} {r : Reach} {a : Option Addr} {len cap : Nat} {t e : TypeId} (ht : P.underlying t = some (.slice e)) (h : Value.okWide P W r b0 t (.slice a len cap)) :
    (a = none → cap = 0) ∧ ∀ ad, a = some ad → ∃ b off, ad = ⟨b, off, none⟩ ∧ b < W.heap.size := by
  simp only [Value.okWide, ht, Cell.okWide] at h
  unfold Cell.ok at h
  rw [ht] at h
  cases a with
  | none =>
    refine ⟨fun _ => ?_, fun ad h => by cases h⟩
    revert h
    cases len <;> cases cap <;> simp
  | some ad =>
    refine ⟨fun h => (by cases h), fun ad' h' => ?_⟩
    injection h' with h'
    subst h'
    obtain ⟨_, _, _, hs, row, cells, hsh, _⟩ := h
    obtain ⟨b, o, s⟩ := ad
    simp only at hs
    subst hs
    exact ⟨b, o, rfl, shape_lt hsh⟩
def NLArg (w : World) (p : Option Addr) (n c : Nat) : Prop := ∃ zs, NL w p n c zs
set_option maxRecDepth 100000 in
theorem nl_arg {H : Type} {enc : TypeId × Value → H} {W : World} {r : Reach} {b0 fuel len cap : Nat} {a : Option Addr} {d : DataW H} {p : List MemPlace}
    (hok : Value.okWide Tryz.prog W r b0 22 (.slice a len cap))
    (ht : Tryz.prog.underlying 22 = some (.slice 9)) (he : Tryz.prog.underlying 9 = some .string) (hc : Tryz.prog.cellsOf 9 = 1)
    (hf : DataW.trod enc Tryz.prog W 0 (fun _ => true) true fuel 22 [.slice a len cap] = some (d, p))
    (hsz : ∀ n, n ∈ d.weights Tryz.prog 22 → n ≤ reachBytes) : NLArg W a len cap := by
  obtain ⟨ss, hS⟩ := str_arg ht he hc hf hsz
  obtain ⟨h1, h2⟩ := slice_plain ht hok
  refine ⟨ss, hS, h1, h2, ?_⟩
  rcases open_strings ht he hc hf with ⟨h1, h2⟩ | ⟨ad, ln, cp, zs, h1, h2, h3, h4, h5, h6, h7, h8⟩
  · injection h1 with h1 _
    injection h1 with e1 e2 e3
    subst e1 e2 e3
    omega
  · injection h1 with h1 _
    injection h1 with e1 e2 e3
    subst e1 e2 e3
    injection h6 with h6 h6'
    have hw : d.weights Tryz.prog 22 = ((strs (H := H) (zs.take len)).length + (strs (H := H) (zs.drop len)).length) * Tryz.prog.bytesOf 9 :: (DataW.weightsAll Tryz.prog 9 (strs (H := H) (zs.take len)) ++ DataW.weightsAll Tryz.prog 9 (strs (H := H) (zs.drop len))) := by
      rw [h6, DataW.weights, ht]
    have hb := hsz _ (by rw [hw]; exact List.mem_cons_self)
    have hby : Tryz.prog.bytesOf 9 = 16 := by kernel_rfl
    rw [hby] at hb
    unfold reachBytes at hb
    simp only [if_true] at h5
    have hl1 : (strs (H := H) (zs.take len)).length = len := by unfold strs; rw [List.length_map, List.length_take]; omega
    rw [hl1] at hb
    omega
end Go.Proofs.YteefncohknclcaaGreatDoor
namespace Go.Proofs.YteefncohknclcaaGreatDoor
open Go.RowKit Go.Shelf
set_option maxHeartbeats 1000000 in
theorem find_ok {w : World} {p : Option Addr} {n c : Nat} {ls : List ByteArray} (h : NL w p n c ls) (hr : Rise ls) (x : ByteArray) :
    Calls Tryz.prog 59 #[.slice p n c, .string x] w fun e w' => ((∃ k : Nat, k < ls.length ∧ ls.getD k ByteArray.empty = x ∧ e = .returned (.tuple #[.int .i64 k, .bool true])) ∨ (Lib.containsS ls x = false ∧ e = .returned (.tuple #[.int .i64 0, .bool false]))) ∧ ∃ q, w' = w.drewN q := by
  have HS := Lib.hid (search_ok h hr x)
  clear h hr
  go_enter Tryz.func59, Tryz.ntmps59
  go_wp2_with fail
  refine HS.out.mono ?_
  rintro e w' ⟨⟨k, b, rfl, hF⟩, q, rfl⟩
  rcases hF with ⟨rfl, hk, hx⟩ | ⟨rfl, hx⟩
  · have HX := Lib.hid hx
    clear hx
    go_wp2
    go_ret2
    exact ⟨.inl ⟨k, hk, HX.out, rfl⟩, q, rfl⟩
  · have HX := Lib.hid hx
    clear hx
    go_wp2
    go_ret2
    exact ⟨.inr ⟨HX.out, rfl⟩, q, rfl⟩
end Go.Proofs.YteefncohknclcaaGreatDoor
namespace Go.Proofs.YteefncohknclcaaGreatDoor
open Go.RowKit Go.Shelf
theorem find_gidx {g : GD} (hr : Rise g.names) {k : Nat} (hk : k < g.names.length) {s : ByteArray} (he : g.names.getD k ByteArray.empty = s) : ghas g s.data.toList ∧ k = gidx g s.data.toList := by
  have hs : gnm g k = s.data.toList := by unfold gnm; rw [he]
  have hh : ghas g s.data.toList := ⟨k, hk, hs⟩
  obtain ⟨h1, h2⟩ := gidx_at hh
  refine ⟨hh, ?_⟩
  have e : gnm g k = gnm g (gidx g s.data.toList) := hs.trans h2.symm
  unfold gnm at e
  rcases Nat.lt_trichotomy k (gidx g s.data.toList) with h | h | h
  · have := hr _ _ h h1
    rw [e] at this
    exact absurd this (List.lt_irrefl _)
  · exact h
  · have := hr _ _ h hk
    rw [← e] at this
    exact absurd this (List.lt_irrefl _)
theorem findG_ok {g : GD} {w : World} {p : Option Addr} {n c : Nat} (h : NL w p n c g.names) (hr : Rise g.names) (s : ByteArray) :
    Calls Tryz.prog 59 #[.slice p n c, .string s] w fun e w' => ((ghas g s.data.toList ∧ e = .returned (.tuple #[.int .i64 (gidx g s.data.toList : Int), .bool true])) ∨ (¬ ghas g s.data.toList ∧ e = .returned (.tuple #[.int .i64 0, .bool false]))) ∧ Below w.heap.size w w' := by
  refine (find_ok h hr s).mono ?_
  rintro e w' ⟨hF, q, rfl⟩
  refine ⟨?_, below_drawsP (Below.refl _ _) _⟩
  rcases hF with ⟨k, hk, he, rfl⟩ | ⟨hc, rfl⟩
  · obtain ⟨h1, h2⟩ := find_gidx hr hk he
    exact .inl ⟨h1, by rw [← h2]⟩
  · refine .inr ⟨fun ⟨k, hk, he⟩ => ?_, rfl⟩
    have hx : g.names.getD k ByteArray.empty = s := by
      unfold gnm at he
      rw [← list_qtx (g.names.getD k ByteArray.empty), he, list_qtx]
    have : s ∈ g.names := by
      rw [← hx, List.getD_eq_getElem?_getD, List.getElem?_eq_getElem hk]
      exact List.getElem_mem hk
    rw [← has_iff, hc] at this
    cases this
theorem nmd_iff {g : GD} {k : Int} {s : Txt} {n : Int} {xs : List QA} : Nmd g (.mk k s n xs) ↔ (k = 1 → ghas g s) ∧ ∀ x ∈ xs, Nmd g x := ⟨fun h => ⟨h.name, h.kids⟩, fun h => .mk h.1 h.2⟩
/-- the world in which a call has laid its graph and its ask -/
theorem argGA (w : World) (g0 g1 g2 g3 v0 v1 v2 v3 : Value) : ∃ W, W = (w.alloc (.cells #[g0, g1, g2, g3] 26)).alloc (.cells #[v0, v1, v2, v3] 29) ∧ Below w.heap.size w W ∧ W.heap.size = w.heap.size + 2 ∧
    ∀ u : World, Below W.heap.size W u → (u.cell? ⟨w.heap.size, 0, none⟩ = some g0 ∧ u.cell? ⟨w.heap.size, 1, none⟩ = some g1 ∧ u.cell? ⟨w.heap.size, 2, none⟩ = some g2 ∧ u.cell? ⟨w.heap.size, 3, none⟩ = some g3) ∧
      (u.cell? ⟨w.heap.size + 1, 0, none⟩ = some v0 ∧ u.cell? ⟨w.heap.size + 1, 1, none⟩ = some v1 ∧ u.cell? ⟨w.heap.size + 1, 2, none⟩ = some v2 ∧ u.cell? ⟨w.heap.size + 1, 3, none⟩ = some v3) := by
  obtain ⟨A, hA⟩ : ∃ A, A = w.alloc (.cells #[g0, g1, g2, g3] 26) := ⟨_, rfl⟩
  have hSA : A.heap.size = w.heap.size + 1 := by rw [hA]; simp
  have hBA : Below w.heap.size w A := by rw [hA]; exact (Below.refl _ _).alloc (Nat.le_refl _) _
  obtain ⟨W, hW, hBW, hSW, hCW⟩ := arg1 A v0 v1 v2 v3
  refine ⟨W, by rw [hW, hA], hBA.trans (hBW.mono hBA.size), by omega, fun u hu => ⟨?_, ?_⟩⟩
  · have hu2 := hBW.trans (hu.mono hBW.size)
    have c0 : ∀ o, u.cell? ⟨w.heap.size, o, none⟩ = A.cell? ⟨w.heap.size, o, none⟩ := fun o => hu2.cell (p := ⟨w.heap.size, o, none⟩) (by show w.heap.size < _; omega)
    rw [c0, c0, c0, c0, hA]
    refine ⟨?_, ?_, ?_, ?_⟩ <;> (rw [World.cell?_alloc_at _ _ _ _ rfl]; rfl)
  · rw [← hSA]
    exact hCW u hu
def NamedPost (g : GD) (x : QA) (w : World) (e : Ending) (w' : World) : Prop := (∃ r : Bool, e = .returned (.bool r) ∧ (r = true ↔ Nmd g x)) ∧ Below w.heap.size w w'
set_option maxHeartbeats 4000000 in
set_option maxRecDepth 100000 in
theorem named_ok (g : GD) (hr : Rise g.names) (v : Value) : ∀ (t : QT) (w : World), GrAt w v g → QIn w t → qchk qpat (qabs t) = 0 → Calls Tryz.prog 56 #[v, t.v] w (NamedPost g (qabs t) w) := by
  intro t
  induction t using QT.ind with
  | h k s q pt ct xs ih =>
    intro w hG hQ hchk
    obtain ⟨hnd, hkc⟩ := qchk_zero.1 (show qchk qpat (.mk k s.data.toList q (qabss xs)) = 0 from hchk)
    have hx1 : k = 1 → xs = [] := by
      intro h1
      have : (qabss xs).length = 0 := by rcases node_cases hnd with h | h | h | h | h | h | h | h | h | h <;> first | (exfalso; omega) | omega
      rw [qabss_len] at this
      exact List.length_eq_zero_iff.1 this
    have hxl : xs.length ≤ 1048576 := hQ.small.2.2
    obtain ⟨p, n, c, qe, m, d, hv, hN, hE⟩ := hG.at_
    obtain ⟨W, hW, hBW, hS, hC⟩ := argGA w (.slice p n c) (.slice qe m d) (.int .u64 (un g.phony : Int)) (.int .u64 (un g.made : Int)) (.int .i64 k) (.string s) (.int .i64 q) (.slice pt xs.length ct)
    have HC := Lib.hid hC
    have HBW := Lib.hid hBW
    have HG : Hid (∀ u : World, Below W.heap.size W u → GrAt u v g) := by
      show ∀ u : World, _
      exact fun u hu => hG.below (hBW.trans (hu.mono hBW.size))
    have HF := Lib.hid (findG_ok (hN.below hBW) hr s)
    have HK : Hid (QsIn W pt 0 xs) := hQ.kids.below hBW
    have HIH := Lib.hid ih
    have HKC : Hid (∀ x ∈ xs, qchk qpat (qabs x) = 0) := by
      show ∀ x ∈ xs, _
      exact fun x hx => hkc _ (by rw [qabss_map]; exact List.mem_map_of_mem hx)
    have HIFF : Hid (Nmd g (qabs (.mk k s q pt ct xs)) ↔ (k = 1 → ghas g s.data.toList) ∧ ∀ x ∈ xs, Nmd g (qabs x)) := by
      show Nmd g (.mk k s.data.toList q (qabss xs)) ↔ _
      rw [nmd_iff, qabss_map]
      simp
    have HV := Lib.hid hv
    have HVS : Hid (v = .agg #[.slice p n c, .slice qe m d, .int .u64 (un g.phony : Int), .int .u64 (un g.made : Int)]) := hv
    obtain ⟨⟨g0, g1, g2, g3⟩, k0, k1, k2, k3⟩ := HC.out W (Below.refl _ _)
    rw [hv]
    show Calls Tryz.prog 56 #[.agg #[.slice p n c, .slice qe m d, .int .u64 (un g.phony : Int), .int .u64 (un g.made : Int)], .agg #[.int .i64 k, .string s, .int .i64 q, .slice pt xs.length ct]] w _
    clear hG hQ hchk hnd hkc hN hE hBW hS hC ih hv
    go_enter Tryz.func56, Tryz.ntmps56
    go_upto_region 1 with fail
    rw [← hW]
    clear hW
    by_cases h1 : k = 1
    · obtain rfl := hx1 h1
      subst h1
      clear hx1
      by_cases hh : ghas g s.data.toList
      · have HH := Lib.hid hh
        have hgi := (gidx_at hh).1
        go_upto_region 5 with (go_at_call 59; refine HF.out.mono ?_; rintro e w2 ⟨hF, hb⟩; obtain rfl : e = .returned (.tuple #[.int .i64 (gidx g s.data.toList : Int), .bool true]) := (hF.elim (fun h => h.2) (fun h => absurd HH.out h.1)); have HB2 := Lib.hid hb; obtain ⟨_, u0, u1, u2, u3⟩ := HC.out w2 hb; clear hb hF)
        go_upto_region 6 with fail
        go_loopw [25] (fun i wr => i = .int .i64 0 ∧ wr = w2) (fun _ _ => 0)
        case atStart => exact ⟨rfl, rfl⟩
        case round =>
          obtain ⟨rfl, rfl⟩ := hrel
          go_wp2_with fail
          go_ret
          refine ⟨⟨true, rfl, ?_⟩, HBW.out.trans (HB2.out.mono HBW.out.size)⟩
          rw [HIFF.out]
          exact ⟨fun _ => ⟨fun _ => HH.out, fun x hx => by cases hx⟩, fun _ => rfl⟩
      · have HH := Lib.hid hh
        go_wp2_with (go_at_call 59; refine HF.out.mono ?_; rintro e w2 ⟨hF, hb⟩; obtain rfl : e = .returned (.tuple #[.int .i64 0, .bool false]) := (hF.elim (fun h => absurd h.1 HH.out) (fun h => h.2)); have HB2 := Lib.hid hb; obtain ⟨_, u0, u1, u2, u3⟩ := HC.out w2 hb; clear hb hF)
        go_ret
        refine ⟨⟨false, rfl, ?_⟩, HBW.out.trans (HB2.out.mono HBW.out.size)⟩
        rw [HIFF.out]
        exact ⟨fun h => Bool.noConfusion h, fun h => absurd (h.1 (by simp)) HH.out⟩
    · have e1 : (k == 1) = false := by rw [beq_eq_false_iff_ne]; exact h1
      have H1 := Lib.hid h1
      clear h1 hx1
      go_upto_region 6 with fail
      clear k0 k1 k2 k3 g0 g1 g2 g3
      go_loopw [25] (fun i wr => ∃ j : Nat, j ≤ xs.length ∧ i = .int .i64 j ∧ Hid (Below W.heap.size W wr) ∧ Hid (∀ y ∈ xs.take j, Nmd g (qabs y))) (fun i _ => xs.length - (intOf i).toNat)
      case atStart => exact ⟨0, Nat.zero_le _, rfl, Below.refl _ _, show ∀ y ∈ xs.take 0, _ from fun y hy => by simp at hy⟩
      case round =>
        obtain ⟨j, hj, rfl, HB, HALL⟩ := hrel
        by_cases hlt : j < xs.length
        · obtain ⟨x, hx⟩ : ∃ x, xs[j]? = some x := ⟨_, List.getElem?_eq_getElem hlt⟩
          obtain ⟨⟨b, o, rfl, hb, hf⟩, hqx⟩ := HK.out.at hx
          obtain ⟨c0, c1, c2, c3⟩ := four_at (hf.below HB.out hb)
          have HCALL := Lib.hid (fun (u : World) (hu : Below wr.heap.size wr u) => HIH.out x (List.mem_of_getElem? hx) u (HG.out u (HB.out.trans (hu.mono HB.out.size))) (hqx.below (HB.out.trans (hu.mono HB.out.size))) (HKC.out x (List.mem_of_getElem? hx)))
          rw [HVS.out] at HCALL
          have HAL : Hid (∀ o, Below wr.heap.size wr (wr.alloc o)) := fun o => (Below.refl _ _).alloc (Nat.le_refl _) o
          have hd := fun ob => (HC.out (wr.alloc ob) (HB.out.trans ((HAL.out ob).mono HB.out.size))).1
          have d0 := fun ob => (hd ob).1
          have d1 := fun ob => (hd ob).2.1
          have d2 := fun ob => (hd ob).2.2.1
          have d3 := fun ob => (hd ob).2.2.2
          have HTK : Hid (xs.take (j + 1) = xs.take j ++ [x]) := by
            show _ = _
            rw [List.take_add_one, hx]
            rfl
          have HXM : Hid (x ∈ xs) := List.mem_of_getElem? hx
          clear hqx hf hb hx hd
          by_cases hnx : Nmd g (qabs x)
          · have HNX := Lib.hid hnx
            clear hnx
            go_wp2_with (go_at_call 56; refine (HCALL.out _ (HAL.out _)).mono ?_; rintro e w5 ⟨⟨r, rfl, hr5⟩, hb5⟩; have HB5 := Lib.hid (HB.out.trans (((HAL.out _).trans (hb5.mono (HAL.out _).size)).mono HB.out.size)); obtain rfl : r = true := hr5.2 HNX.out; clear hb5 hr5)
            go_roundw
            case rel =>
              refine ⟨j + 1, by omega, by go_num, HB5.out, ?_⟩
              show ∀ y ∈ _, _
              rw [HTK.out]
              intro y hy
              rcases List.mem_append.1 hy with hy | hy
              · exact HALL.out y hy
              · rw [List.mem_singleton.1 hy]; exact HNX.out
            case measure => simp [intOf]; omega
          · have HNX := Lib.hid hnx
            clear hnx
            go_wp2_with (go_at_call 56; refine (HCALL.out _ (HAL.out _)).mono ?_; rintro e w5 ⟨⟨r, rfl, hr5⟩, hb5⟩; have HB5 := Lib.hid (HB.out.trans (((HAL.out _).trans (hb5.mono (HAL.out _).size)).mono HB.out.size)); obtain rfl : r = false := Bool.eq_false_iff.2 (fun h => HNX.out (hr5.1 h)); clear hb5 hr5)
            go_ret
            refine ⟨⟨false, rfl, ?_⟩, HBW.out.trans (HB5.out.mono HBW.out.size)⟩
            rw [HIFF.out]
            exact ⟨fun h => Bool.noConfusion h, fun h => absurd (h.2 x HXM.out) HNX.out⟩
        · obtain rfl : j = xs.length := by omega
          go_wp2_with fail
          go_ret
          refine ⟨⟨true, rfl, ?_⟩, HBW.out.trans (HB.out.mono HBW.out.size)⟩
          rw [HIFF.out]
          refine ⟨fun _ => ⟨fun h => absurd h H1.out, fun x hx => HALL.out x (by rw [List.take_length]; exact hx)⟩, fun _ => rfl⟩
/-- what eval.Check answers: no error, if the ask can be asked of the graph -/
def ECheckPost (g : GD) (x : QA) (w : World) (e : Ending) (w' : World) : Prop := (∃ E : Int, e = .returned (.int .i64 E) ∧ (E = 0 ↔ Qev g x)) ∧ Below w.heap.size w w'
theorem byt_qtx (l : List Txt) : byt (l.map qtx) = l := by
  unfold byt
  rw [List.map_map]
  have : ((fun s : ByteArray => s.data.toList) ∘ qtx) = id := funext fun x => qtx_list x
  rw [this, List.map_id]
theorem freeS_mem {X : QA} {x : Txt} : x ∈ freeS X ↔ x ∈ qfree X [] := by
  have e : freeS X = sortN ((qfree X []).map qtx) := by unfold freeS sortN; rw [byt_qtx]
  rw [e, sortN_mem, byt_qtx]
theorem sort_nil {X : QA} : (freeS X).length = 0 ↔ qfree X [] = [] := by
  rw [List.length_eq_zero_iff]
  constructor
  · intro h
    refine List.eq_nil_iff_forall_not_mem.2 fun x hx => ?_
    rw [← freeS_mem, h] at hx
    cases hx
  · intro h
    refine List.eq_nil_iff_forall_not_mem.2 fun x hx => ?_
    rw [freeS_mem, h] at hx
    cases hx
set_option maxHeartbeats 4000000 in
set_option maxRecDepth 100000 in
theorem ECheck_ok (g : GD) (v : Value) (t : QT) (w : World) (hG : GrAt w v g) (hQ : QIn w t) (hT : AskTabs w) (hc : qcnt (qabs t) ≤ 1099511627776) : Calls Tryz.prog 35 #[v, t.v] w (ECheckPost g (qabs t) w) := by
  obtain ⟨k, s, q, pt, ct, xs⟩ := t
  obtain ⟨p, n, c, qe, m, d, hv, hN, hE⟩ := hG.at_
  obtain ⟨W, hW, hBW, hS, hC⟩ := argGA w (.slice p n c) (.slice qe m d) (.int .u64 (un g.phony : Int)) (.int .u64 (un g.made : Int)) (.int .i64 k) (.string s) (.int .i64 q) (.slice pt xs.length ct)
  have HC := Lib.hid hC
  have HBW := Lib.hid hBW
  have HCG := Lib.hid (CheckG2_ok v g W (hG.below hBW))
  have HCF : Hid (∀ u : World, Below W.heap.size W u → Calls Tryz.prog 15 #[(QT.mk k s q pt ct xs).v] u (FreeAPost (.mk k s q pt ct xs) u)) := by
    show ∀ u : World, _
    exact fun u hu => FreeA_ok _ u (hQ.below (hBW.trans (hu.mono hBW.size))) (hT.below (hBW.trans (hu.mono hBW.size))) hc
  have HCN : Hid (Rise g.names → qchk qpat (qabs (.mk k s q pt ct xs)) = 0 → ∀ u : World, Below W.heap.size W u → Calls Tryz.prog 56 #[v, (QT.mk k s q pt ct xs).v] u (NamedPost g (qabs (.mk k s q pt ct xs)) u)) := by
    show _ → _
    exact fun hr hk u hu => named_ok g hr v _ u (hG.below (hBW.trans (hu.mono hBW.size))) (hQ.below (hBW.trans (hu.mono hBW.size))) hk
  obtain ⟨X, hX⟩ : ∃ X, qabs (.mk k s q pt ct xs) = X := ⟨_, rfl⟩
  unfold FreeAPost at HCF
  rw [hX] at HCF HCN ⊢
  rw [hv] at HCG HCN ⊢
  show Calls Tryz.prog 35 #[.agg #[.slice p n c, .slice qe m d, .int .u64 (un g.phony : Int), .int .u64 (un g.made : Int)], .agg #[.int .i64 k, .string s, .int .i64 q, .slice pt xs.length ct]] w _
  obtain ⟨⟨g0, g1, g2, g3⟩, k0, k1, k2, k3⟩ := HC.out W (Below.refl _ _)
  clear hG hQ hT hc hv hN hE hBW hS hC hX
  go_enter Tryz.func35, Tryz.ntmps35
  go_upto_region 1 with fail
  rw [← hW]
  clear hW
  by_cases hgood : Good g
  · have HGD := Lib.hid hgood
    clear hgood
    go_upto_region 4 with (go_at_call 48; refine HCG.out.mono ?_; rintro e w2 ⟨⟨E, rfl, hE⟩, hb⟩; obtain rfl : E = 0 := hE.elim (fun h => h.1) (fun h => absurd HGD.out h.2); have HB2 := Lib.hid hb; obtain ⟨⟨u0, u1, u2, u3⟩, y0, y1, y2, y3⟩ := HC.out w2 hb; clear hb hE)
    clear g0 g1 g2 g3 k0 k1 k2 k3
    obtain ⟨E, hE⟩ : ∃ E, qE qpat X = E := ⟨_, rfl⟩
    have HE := Lib.hid hE
    rw [hE] at HCF
    clear hE
    by_cases h0 : E = 0
    · subst h0
      have HCK := Lib.hid (qE_chk HE.out).2
      have HCN2 := Lib.hid (HCN.out HGD.out.rise HCK.out)
      have HLN : Hid ((freeS X).length = 0 ↔ qfree X [] = []) := sort_nil
      obtain ⟨L, hL⟩ : ∃ L, (freeS X).length = L := ⟨_, rfl⟩
      rw [hL] at HLN
      have HLB : Hid (L ≤ 60) := by
        show L ≤ 60
        have h1 := qfree_len X []
        have h2 := (qE_chk HE.out).1
        have h3 : (freeS X).length ≤ ((qfree X []).mergeSort fun a b => decide (a ≤ b)).length := Lib.compact_length_le _
        rw [List.length_mergeSort] at h3
        omega
      clear HCN
      by_cases hf : qfree X [] = []
      · obtain rfl : L = 0 := HLN.out.2 hf
        have HFR := Lib.hid hf
        clear hf
        by_cases hn : Nmd g X
        · have HNM := Lib.hid hn
          clear hn
          go_wp2_with (first
            | (have h4 := HB3; clear h4; go_at_call 56; refine (HCN2.out w3 HB3.out).mono ?_; rintro e w4 ⟨⟨r, rfl, hr⟩, hb⟩; obtain rfl : r = true := hr.2 HNM.out; have HB4 := Lib.hid (HB3.out.trans (hb.mono HB3.out.size)); clear hb hr)
            | (go_at_call 15; refine (HCF.out w2 HB2.out).mono ?_; rintro e w3 ⟨hF, hb⟩; obtain ⟨gf, cf, hef⟩ : ∃ (gf : Option Addr) (cf : Nat), e = .returned (.tuple #[.slice gf 0 cf, .int .i64 0]) := (hF.elim (fun h => absurd rfl h.1) (fun h => by obtain ⟨_, gf, cf, h1, _⟩ := h; exact ⟨gf, cf, by rw [h1, hL]⟩)); subst hef; have HB3 := Lib.hid (HB2.out.trans (hb.mono HB2.out.size)); obtain ⟨⟨u0, u1, u2, u3⟩, y0, y1, y2, y3⟩ := HC.out w3 HB3.out; clear hb hF))
          go_ret
          exact ⟨⟨0, rfl, fun _ => ⟨HGD.out, HE.out, HFR.out, HNM.out⟩, fun _ => rfl⟩, HBW.out.trans (HB4.out.mono HBW.out.size)⟩
        · have HNM := Lib.hid hn
          clear hn
          go_wp2_with (first
            | (have h4 := HB3; clear h4; go_at_call 56; refine (HCN2.out w3 HB3.out).mono ?_; rintro e w4 ⟨⟨r, rfl, hr⟩, hb⟩; obtain rfl : r = false := Bool.eq_false_iff.2 (fun h => HNM.out (hr.1 h)); have HB4 := Lib.hid (HB3.out.trans (hb.mono HB3.out.size)); clear hb hr)
            | (go_at_call 15; refine (HCF.out w2 HB2.out).mono ?_; rintro e w3 ⟨hF, hb⟩; obtain ⟨gf, cf, hef⟩ : ∃ (gf : Option Addr) (cf : Nat), e = .returned (.tuple #[.slice gf 0 cf, .int .i64 0]) := (hF.elim (fun h => absurd rfl h.1) (fun h => by obtain ⟨_, gf, cf, h1, _⟩ := h; exact ⟨gf, cf, by rw [h1, hL]⟩)); subst hef; have HB3 := Lib.hid (HB2.out.trans (hb.mono HB2.out.size)); obtain ⟨⟨u0, u1, u2, u3⟩, y0, y1, y2, y3⟩ := HC.out w3 HB3.out; clear hb hF))
          go_ret
          exact ⟨⟨5, rfl, (fun h => by cases h), fun h => absurd h.named HNM.out⟩, HBW.out.trans (HB4.out.mono HBW.out.size)⟩
      · have HFR := Lib.hid hf
        have hL0 : 0 < L := Nat.pos_of_ne_zero fun h => hf (HLN.out.1 h)
        have hLb := HLB.out
        clear hf
        go_wp2_with (go_at_call 15; refine (HCF.out w2 HB2.out).mono ?_; rintro e w3 ⟨hF, hb⟩; obtain ⟨gf, cf, hef⟩ : ∃ (gf : Option Addr) (cf : Nat), e = .returned (.tuple #[.slice gf L cf, .int .i64 0]) := (hF.elim (fun h => absurd rfl h.1) (fun h => by obtain ⟨_, gf, cf, h1, _⟩ := h; exact ⟨gf, cf, by rw [h1, hL]⟩)); subst hef; have HB3 := Lib.hid (HB2.out.trans (hb.mono HB2.out.size)); obtain ⟨⟨u0, u1, u2, u3⟩, y0, y1, y2, y3⟩ := HC.out w3 HB3.out; clear hb hF)
        go_ret
        exact ⟨⟨5, rfl, (fun h => by cases h), fun h => absurd h.free HFR.out⟩, HBW.out.trans (HB3.out.mono HBW.out.size)⟩
    · obtain ⟨i1, i2⟩ := int_ne' h0
      have HNE : Hid (¬ E = 0) := h0
      clear h0
      go_wp2_with (go_at_call 15; refine (HCF.out w2 HB2.out).mono ?_; rintro e w3 ⟨hF, hb⟩; obtain rfl : e = .returned (.tuple #[.slice none 0 0, .int .i64 E]) := (hF.elim (fun h => h.2) (fun h => absurd h.1 HNE.out)); have HB3 := Lib.hid (HB2.out.trans (hb.mono HB2.out.size)); clear hb hF)
      go_ret
      exact ⟨⟨E, rfl, fun h => absurd h HNE.out, fun h => absurd (HE.out.symm.trans h.ok) HNE.out⟩, HBW.out.trans (HB3.out.mono HBW.out.size)⟩
  · have HGD := Lib.hid hgood
    clear hgood
    go_upto_region 2 with (go_at_call 48; refine HCG.out.mono ?_; rintro e w2 ⟨⟨E, rfl, hE⟩, hb⟩; have hne : E ≠ 0 := hE.elim (fun h => absurd h.2 HGD.out) (fun h => h.1); have HB2 := Lib.hid hb; clear hb hE)
    obtain ⟨i1, i2⟩ := int_ne' hne
    have HNE : Hid (¬ E = 0) := hne
    clear hne
    go_wp2_with fail
    go_ret
    exact ⟨⟨E, rfl, fun h => absurd h HNE.out, fun h => absurd h.good HGD.out⟩, HBW.out.trans (HB2.out.mono HBW.out.size)⟩
end Go.Proofs.YteefncohknclcaaGreatDoor
namespace Go.Proofs.YteefncohknclcaaGreatDoor
open Go.RowKit Go.Shelf
/-- the scopes, from the innermost on -/
inductive EnAt (w : World) : Value → List (Txt × B) → Prop where
  | nil : EnAt w (.pointer none) []
  | cons {b : Nat} {s : ByteArray} {a : B} {up : Value} {e : List (Txt × B)} (hb : b < w.heap.size) (h0 : w.cell? ⟨b, 0, none⟩ = some (.string s)) (h1 : w.cell? ⟨b, 1, none⟩ = some (.int .u64 (un a : Int))) (h2 : w.cell? ⟨b, 2, none⟩ = some up) (he : EnAt w up e) : EnAt w (.pointer (some ⟨b, 0, none⟩)) ((s.data.toList, a) :: e)
theorem EnAt.kept {w w' : World} {v : Value} {e : List (Txt × B)} (h : EnAt w v e) (hb : Below w.heap.size w w') : EnAt w' v e := by
  induction h with
  | nil => exact .nil
  | @cons b s a up e hl h0 h1 h2 _ ih => exact .cons (Nat.lt_of_lt_of_le hl hb.size) ((hb.cell (p := ⟨b, 0, none⟩) hl).trans h0) ((hb.cell (p := ⟨b, 1, none⟩) hl).trans h1) ((hb.cell (p := ⟨b, 2, none⟩) hl).trans h2) ih
set_option maxHeartbeats 2000000 in
theorem scFind_ok (v : Value) (e : List (Txt × B)) (s : ByteArray) (w : World) (h : EnAt w v e) : Calls Tryz.prog 61 #[v, .string s] w fun r w' => r = .returned (.int .u64 (un (qfind e s.data.toList) : Int)) ∧ w = w' := by
  have H := Lib.hid h
  clear h
  go_enter Tryz.func61, Tryz.ntmps61
  go_upto_region 1 with fail
  go_loopg [0] e.length (fun g p u => ∃ e' : List (Txt × B), g = e'.length ∧ u = w ∧ Hid (EnAt w p e') ∧ Hid (qfind e s.data.toList = qfind e' s.data.toList))
  case atStart => exact ⟨e, rfl, rfl, H.out, rfl⟩
  case round =>
    obtain ⟨e', hg, rfl, HS, HQ⟩ := hrel
    have hs := HS.out
    cases hs with
    | nil =>
      have HZ : Hid (qfind e s.data.toList = 0#64) := HQ.out
      go_wp2_with fail
      go_ret
      exact ⟨by rw [HZ.out]; rfl, rfl⟩
    | @cons b nm a up e2 hl h0 h1 h2 he =>
      have HE := Lib.hid he
      have hsb := name_beq nm s
      by_cases hn : nm.data.toList = s.data.toList
      · have HZ : Hid (qfind e s.data.toList = a) := by
          show _ = _
          rw [HQ.out]
          show (if (nm.data.toList, a).1 = s.data.toList then a else _) = a
          exact if_pos hn
        rw [decide_eq_true hn] at hsb
        clear hn he
        go_wp2_with fail
        go_ret
        exact ⟨by rw [HZ.out]; rfl, rfl⟩
      · have HZ : Hid (qfind e s.data.toList = qfind e2 s.data.toList) := by
          show _ = _
          rw [HQ.out]
          show (if (nm.data.toList, a).1 = s.data.toList then a else _) = _
          exact if_neg hn
        rw [decide_eq_false hn] at hsb
        clear hn he
        go_wp2_with fail
        go_roundg e2.length
        case measure => rw [hg]; simp
        case rel => exact ⟨e2, rfl, rfl, HE.out, HZ.out⟩
/-- those of a set, number by number -/
def thR (P : Nat → Bool) : B → List Nat → B
  | cur, [] => cur
  | cur, k :: l => thR P (if P k = true then cur else cur &&& ~~~(1#64 <<< k)) l
theorem has_thR (P : Nat → Bool) : ∀ (l : List Nat) (cur : B) (k : Nat), k < 64 → (has (thR P cur l) k = true ↔ has cur k = true ∧ (k ∈ l → P k = true)) := by
  intro l
  induction l with
  | nil => intro cur k _; simp [thR]
  | cons j l ih =>
    intro cur k hk
    rw [thR, ih _ k hk]
    by_cases hp : P j = true
    · rw [if_pos hp]
      constructor
      · rintro ⟨h1, h2⟩
        refine ⟨h1, fun hm => ?_⟩
        rcases List.mem_cons.1 hm with h | h
        · rw [h]; exact hp
        · exact h2 h
      · rintro ⟨h1, h2⟩
        exact ⟨h1, fun hm => h2 (List.mem_cons_of_mem _ hm)⟩
    · rw [if_neg hp, has_and, has_not _ _ hk, has_one _ _ hk]
      simp only [Bool.and_eq_true, Bool.not_eq_true', decide_eq_false_iff_not]
      constructor
      · rintro ⟨⟨h1, h3⟩, h2⟩
        refine ⟨h1, fun hm => ?_⟩
        rcases List.mem_cons.1 hm with h | h
        · exact absurd h h3
        · exact h2 h
      · rintro ⟨h1, h2⟩
        exact ⟨⟨h1, fun h => hp (by rw [← h]; exact h2 (by rw [h]; exact List.mem_cons_self))⟩, fun hm => h2 (List.mem_cons_of_mem _ hm)⟩
theorem thR_those (P : Nat → Bool) (s : B) : thR P s (lst s) = thoseS P s := by
  refine set_ext fun k hk => ?_
  rw [Bool.eq_iff_iff, has_thR P _ _ k hk, has_those]
  constructor
  · rintro ⟨h1, h2⟩; exact ⟨h1, h2 (mem_lst.2 h1)⟩
  · rintro ⟨h1, h2⟩; exact ⟨h1, fun _ => h2⟩
theorem ints_at {w : World} {base n c : Nat} {g : Option Addr} {l : List Nat} (h : w.ownsRow base 3 1 (.slice g n c) n (ints l)) {k x : Nat} (hx : l[k]? = some x) : ∃ b, g = some ⟨b, 0, none⟩ ∧ w.cell? ⟨b, k, none⟩ = some (.int .i64 (x : Int)) := by
  have hl : l.length = n := by have := h.1; simpa [ints] using this
  have hk : k < n := by
    rw [← hl]
    rcases Nat.lt_or_ge k l.length with h1 | h1
    · exact h1
    · rw [List.getElem?_eq_none h1] at hx; cases hx
  obtain ⟨b, cap, hv, _, _⟩ := h.form (by omega)
  have hg : g = some ⟨b, 0, none⟩ := by injection hv
  subst hg
  refine ⟨b, rfl, ?_⟩
  have := h.cellAt k (by omega)
  rw [this]
  unfold ints
  rw [List.getElem?_map, hx]
  rfl
set_option maxHeartbeats 4000000 in
set_option maxRecDepth 100000 in
theorem those_ok (P : Nat → Bool) (bx bv : Nat) (s : B) (w : World) (hT : Tab w)
    (hf : ∀ k : Nat, has s k = true → ∀ u, Below w.heap.size w u → Calls Tryz.prog 68 #[.int .i64 (k : Int), .pointer (some ⟨bx, 0, none⟩), .pointer (some ⟨bv, 0, none⟩)] u fun e u' => e = .returned (.bool (P k)) ∧ Below u.heap.size u u') :
    Calls Tryz.prog 67 #[.int .u64 (un s), .func (.func 68) #[] #[.pointer (some ⟨bx, 0, none⟩), .pointer (some ⟨bv, 0, none⟩)]] w fun e w' => e = .returned (.int .u64 (un (thoseS P s) : Int)) ∧ Below w.heap.size w w' := by
  have HF := Lib.hid hf
  have HL := Lib.hid (List_ok s w hT)
  have HCL := Lib.hid (cnt_lst s)
  have hc64 := cnt_le s
  have HTH := Lib.hid (thR_those P s)
  clear hf hT
  go_enter Tryz.func67, Tryz.ntmps67
  go_upto_region 2 with (go_at_call 95; refine HL.out.mono ?_; rintro e w2 ⟨g, c, rfl, hown, hb⟩; have HO := Lib.hid hown; have HB2 := Lib.hid hb; clear hown hb)
  go_loopw [10, 0] (fun i v wr => ∃ (j : Nat) (cur : B), j ≤ cnt s ∧ i = .int .i64 j ∧ v = .int .u64 (un cur : Int) ∧ Hid (thR P cur ((lst s).drop j) = thR P s (lst s)) ∧ Hid (Below w2.heap.size w2 wr)) (fun i _ _ => cnt s - (intOf i).toNat)
  case atStart => exact ⟨0, s, Nat.zero_le _, rfl, rfl, rfl, Below.refl _ _⟩
  case round =>
    obtain ⟨j, cur, hj, rfl, rfl, HR, HB⟩ := hrel
    have HBw := Lib.hid (HB2.out.trans (HB.out.mono HB2.out.size))
    by_cases hlt : j < cnt s
    · have hl : j < (lst s).length := by rw [← HCL.out]; exact hlt
      obtain ⟨k, hk⟩ : ∃ k, (lst s)[j]? = some k := ⟨_, List.getElem?_eq_getElem hl⟩
      obtain ⟨b, rfl, hcell⟩ := ints_at (own_belowF HO.out HB.out) hk
      have hmem : k ∈ lst s := List.mem_of_getElem? hk
      have hk64 : k < 64 := lst_lt hmem
      have HD : Hid ((lst s).drop j = k :: (lst s).drop (j + 1)) := by
        show _ = _
        rw [List.getElem?_eq_getElem hl] at hk
        injection hk with hk
        rw [List.drop_eq_getElem_cons hl, hk]
      have HN : Hid (thR P (if P k = true then cur else cur &&& ~~~(1#64 <<< k)) ((lst s).drop (j + 1)) = thR P s (lst s)) := by
        show _ = _
        rw [← HR.out, HD.out, thR]
      have HCALL := Lib.hid (HF.out k (mem_lst.1 hmem) wr HBw.out)
      clear hk hmem hl
      rcases Bool.eq_false_or_eq_true (P k) with hp | hp
      · have HN2 : Hid (thR P cur ((lst s).drop (j + 1)) = thR P s (lst s)) := by show _ = _; have h := HN.out; rw [hp] at h; simpa using h
        rw [hp] at HCALL
        clear HN hp
        go_wp2_with (go_at_call 68; refine HCALL.out.mono ?_; rintro e w5 ⟨rfl, hb5⟩; have HB5 := Lib.hid (HB.out.trans (hb5.mono HB.out.size)); clear hb5)
        go_roundw
        case rel => exact ⟨j + 1, cur, by omega, by go_num, rfl, HN2.out, HB5.out⟩
        case measure => simp [intOf]; omega
      · have HN2 : Hid (thR P (cur &&& ~~~(1#64 <<< k)) ((lst s).drop (j + 1)) = thR P s (lst s)) := by show _ = _; have h := HN.out; rw [hp] at h; simpa using h
        rw [hp] at HCALL
        clear HN hp
        go_wp2_with (go_at_call 68; refine HCALL.out.mono ?_; rintro e w5 ⟨rfl, hb5⟩; have HB5 := Lib.hid (HB.out.trans (hb5.mono HB.out.size)); clear hb5)
        go_roundw
        case rel => exact ⟨j + 1, cur &&& ~~~(1#64 <<< k), by omega, by go_num, rfl, HN2.out, HB5.out⟩
        case measure => simp [intOf]; omega
    · obtain rfl : j = cnt s := by omega
      have HE : Hid (cur = thoseS P s) := by
        show _ = _
        have h1 := HR.out
        rw [List.drop_of_length_le (Nat.le_of_eq HCL.out.symm)] at h1
        rw [← HTH.out, ← h1]
        rfl
      go_wp2_with fail
      go_ret
      exact ⟨by rw [HE.out]; rfl, HBw.out⟩
/-- a solver in memory -/
structure SolAt (w : World) (g : GD) (b : Nat) (p : Option Addr) (c : Nat) (ev : Value) (pr : Option Addr) (cr : Nat) (pb : Option Addr) (cb : Nat) : Prop where
  lt : b < w.heap.size
  c0 : w.cell? ⟨b, 0, none⟩ = some (.slice p g.names.length c)
  c1 : w.cell? ⟨b, 1, none⟩ = some ev
  c2 : w.cell? ⟨b, 2, none⟩ = some (.int .u64 (un g.phony : Int))
  c3 : w.cell? ⟨b, 3, none⟩ = some (.int .u64 (un g.made : Int))
  c4 : w.cell? ⟨b, 4, none⟩ = some (.slice pr g.names.length cr)
  c5 : w.cell? ⟨b, 5, none⟩ = some (.slice pb g.names.length cb)
  nl : NL w p g.names.length c g.names
  rows : RowsAt w pr g.names.length (rws g)
  back : RowsAt w pb g.names.length (bk (rws g))
theorem SolAt.below {w w' : World} {g : GD} {b : Nat} {p : Option Addr} {c : Nat} {ev : Value} {pr : Option Addr} {cr : Nat} {pb : Option Addr} {cb : Nat} (h : SolAt w g b p c ev pr cr pb cb) (hb : Below w.heap.size w w') : SolAt w' g b p c ev pr cr pb cb := by
  have e : ∀ o, w'.cell? ⟨b, o, none⟩ = w.cell? ⟨b, o, none⟩ := fun o => hb.cell (p := ⟨b, o, none⟩) h.lt
  exact ⟨Nat.lt_of_lt_of_le h.lt hb.size, (e 0).trans h.c0, (e 1).trans h.c1, (e 2).trans h.c2, (e 3).trans h.c3, (e 4).trans h.c4, (e 5).trans h.c5, h.nl.below hb, h.rows.below hb, h.back.below hb⟩
theorem rows_atE {w : World} {base c n : Nat} {p : Option Addr} {r : List B} (h : w.ownsRow base 24 1 (.slice p n c) n (u64sG r)) (hn : n ≤ 64) : RowsAt w p n r := by
  have hl : r.length = n := by have := h.1; simpa [u64sG] using this
  exact ⟨Reads.of_own h, hl, by unfold maxLen; omega⟩
def SolverPost (g : GD) (w : World) (e : Ending) (w' : World) : Prop :=
  (∃ (b : Nat) (p : Option Addr) (c : Nat) (ev : Value) (pr : Option Addr) (cr : Nat) (pb : Option Addr) (cb : Nat), e = .returned (.pointer (some ⟨b, 0, none⟩)) ∧ SolAt w' g b p c ev pr cr pb cb) ∧ Below w.heap.size w w'
set_option maxHeartbeats 4000000 in
set_option maxRecDepth 100000 in
theorem newSolver_ok (g : GD) (hGd : Good g) (v : Value) (w : World) (h : GrAt w v g) (hT : Tab w) : Calls Tryz.prog 36 #[v] w (SolverPost g w) := by
  have hGr := h
  obtain ⟨p, n, c, q, m, d, hv, hN, hE⟩ := h.at_
  have hln := hN.at_.len
  subst hln
  obtain ⟨W, hW⟩ : ∃ W, W = w.alloc (.cells #[.slice p g.names.length c, .slice q m d, .int .u64 (un g.phony : Int), .int .u64 (un g.made : Int)] 26) := ⟨_, rfl⟩
  have hBW : Below w.heap.size w W := by rw [hW]; exact (Below.refl _ _).alloc (Nat.le_refl _) _
  have HS : Hid (w.heap.size < W.heap.size) := by show _ < _; rw [hW]; simp
  have HC : Hid (∀ u : World, Below W.heap.size W u → u.cell? ⟨w.heap.size, 0, none⟩ = some (.slice p g.names.length c) ∧ u.cell? ⟨w.heap.size, 1, none⟩ = some (.slice q m d) ∧ u.cell? ⟨w.heap.size, 2, none⟩ = some (.int .u64 (un g.phony : Int)) ∧ u.cell? ⟨w.heap.size, 3, none⟩ = some (.int .u64 (un g.made : Int))) := by
    show ∀ u : World, _ → _
    intro u hu
    rw [hu.cell HS.out, hu.cell HS.out, hu.cell HS.out, hu.cell HS.out, hW]
    refine ⟨?_, ?_, ?_, ?_⟩ <;> (rw [World.cell?_alloc_at _ _ _ _ rfl]; rfl)
  have HBW := Lib.hid hBW
  have HR := Lib.hid (Rows2_ok v g W (hGr.below hBW))
  have HNL := Lib.hid (hN.below hBW)
  have HTB : Hid (∀ u : World, Below W.heap.size W u → Tab u) := by
    show ∀ u : World, _
    exact fun u hu => hT.below (hBW.trans (hu.mono hBW.size))
  have HGD := Lib.hid hGd
  have h64 := hGd.names
  have HSOL : Hid (∀ (u : World) (pr : Option Addr) (cr : Nat) (pb : Option Addr) (cb : Nat), Below W.heap.size W u → RowsAt u pr g.names.length (rws g) → RowsAt u pb g.names.length (bk (rws g)) →
      SolverPost g w (.returned (.pointer (some ⟨u.heap.size, 0, none⟩))) (u.alloc (.cells #[.slice p g.names.length c, .slice q m d, .int .u64 (un g.phony : Int), .int .u64 (un g.made : Int), .slice pr g.names.length cr, .slice pb g.names.length cb] 95))) := by
    show ∀ (u : World) (pr : Option Addr) (cr : Nat) (pb : Option Addr) (cb : Nat), _
    intro u pr cr pb cb hu h1 h2
    have ha : ∀ o, Below u.heap.size u (u.alloc o) := fun o => (Below.refl _ _).alloc (Nat.le_refl _) o
    refine ⟨⟨u.heap.size, p, c, .slice q m d, pr, cr, pb, cb, rfl, ?_⟩, hBW.trans ((hu.alloc hu.size _).mono hBW.size)⟩
    refine ⟨by simp, ?_, ?_, ?_, ?_, ?_, ?_, HNL.out.below (hu.alloc hu.size _), h1.below (ha _), h2.below (ha _)⟩ <;> (rw [World.cell?_alloc_at _ _ _ _ rfl]; rfl)
  obtain ⟨k0, k1, k2, k3⟩ := HC.out W (Below.refl _ _)
  rw [hv] at HR ⊢
  clear h hGr hv hN hE hBW hT hGd
  go_enter Tryz.func36, Tryz.ntmps36
  go_upto_region 1 with fail
  rw [← hW]
  clear hW
  go_upto_region 2 with (go_at_call 57; refine HR.out.mono ?_; rintro e w2 ⟨hF, hb⟩; obtain ⟨pr, cr, rfl, hown⟩ := hF.elim (fun h => h.2) (fun h => absurd HGD.out h.1); have HO := Lib.hid (rows_atE hown h64); have HB2 := Lib.hid hb; obtain ⟨u0, u1, u2, u3⟩ := HC.out w2 hb; clear hb hF hown)
  have HO2 : Hid (RowsAt w2 pr g.names.length (rws g)) := HO
  clear k0 k1 k2 k3
  go_wp2_with (go_at_call 58; refine (Back_yes pr _ cr (rws g) (chkR_zero.2 (valid_rws HGD.out)) w2 HO2.out (HTB.out w2 HB2.out)).mono ?_; rintro e w3 ⟨pb, cb, rfl, hown, hb⟩; have HB3 := Lib.hid (HB2.out.trans (hb.mono HB2.out.size)); have HO3 := Lib.hid (HO2.out.below hb); have HBK := Lib.hid (rows_own hown (by rw [bk_len, rws_len]) (by unfold maxLen; omega)); obtain ⟨y0, y1, y2, y3⟩ := HC.out w3 HB3.out; clear hb hown)
  go_ret
  exact HSOL.out w3 pr cr pb cb HB3.out HO3.out HBK.out
end Go.Proofs.YteefncohknclcaaGreatDoor
