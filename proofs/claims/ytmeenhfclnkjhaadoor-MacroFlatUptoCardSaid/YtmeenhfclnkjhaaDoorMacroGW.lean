/- The walk of (macro.table).flat, whole. Conditions: the text is at most 2^20 bytes; what it calls for is in the table, worked out. -/
import Derived.Test.YtmeenhfclnkjhaaDoorMacroFW
namespace Go.Proofs.YtmeenhfclnkjhaaDoor
open Go.RowKit Go.Shelf
theorem run_store_func (P : Program) (w : World) (a : Addr) (m : Mode) (f : Fn) (x y : Array Value) : (store a (.func f x y) m).run P w = stored P w a (.func f x y) m := run_store P w a _ m rfl
attribute [go_sem] run_store_func
theorem evalT_t (F : Bs → Option Bs) (l : List Tok) (s : Bs) : evalT F (l ++ [.t s]) = evalT F l ++ s := by rw [evalT_app]; simp [evalT, pieceM]
theorem evalT_c (F : Bs → Option Bs) (l : List Tok) (n : Bs) : evalT F (l ++ [.c n]) = evalT F l ++ (F n).getD [] := by rw [evalT_app]; simp [evalT, pieceM]
theorem or_more (z : Bool) {a b : Nat} (h : a ≤ b) : (z || decide (2000 < b)) = ((z || decide (2000 < a)) || decide (2000 < b)) := by
  cases z
  · by_cases h1 : 2000 < a
    · rw [decide_eq_true h1, decide_eq_true (show 2000 < b by omega)]; rfl
    · rw [decide_eq_false h1]; rfl
  · rfl
theorem lrg_t (F : Bs → Option Bs) (l : List Tok) (s : Bs) : lrg F (l ++ [.t s]) = (lrg F l || decide (2000 < (evalT F l ++ s).length)) := by
  unfold lrg
  rw [evalT_t, noneT_app, show noneT F [.t s] = false from rfl, Bool.or_false]
  exact or_more _ (by rw [List.length_append]; omega)
theorem lrg_c (F : Bs → Option Bs) (l : List Tok) (n : Bs) : lrg F (l ++ [.c n]) = ((lrg F l || (F n).isNone) || decide (2000 < (evalT F l ++ (F n).getD []).length)) := by
  unfold lrg
  rw [evalT_c, noneT_app, show noneT F [.c n] = (F n).isNone from by simp [noneT]]
  rw [or_more _ (show (evalT F l).length ≤ (evalT F l ++ (F n).getD []).length by rw [List.length_append]; omega)]
  cases noneT F l <;> cases (F n).isNone <;> simp
/-- what a text calls for is in the table B, worked out -/
def FlatOn (w : World) (B : Nat) (F : Bs → Option Bs) (cs : List Bs) : Prop :=
  ∃ N ks hh, MapP w B N ks hh ∧ ∀ n ∈ cs, ∃ eb, hh n = .pointer (some ⟨eb, 0, none⟩) ∧ w.cell? ⟨eb, 3, none⟩ = some (.string (txt ((F n).getD []))) ∧ w.cell? ⟨eb, 4, none⟩ = some (.bool (F n).isNone)
theorem FlatOn.below {w w' : World} {B : Nat} {F : Bs → Option Bs} {cs : List Bs} (h : FlatOn w B F cs) (hb : Below w.heap.size w w') : FlatOn w' B F cs := by
  obtain ⟨N, ks, hh, h1, h2⟩ := h
  refine ⟨N, ks, hh, h1.below hb, fun n hn => ?_⟩
  obtain ⟨eb, e1, e2, e3⟩ := h2 n hn
  exact ⟨eb, e1, (hb.cell (World.block_lt_of_cell? w _ e2)).trans e2, (hb.cell (World.block_lt_of_cell? w _ e3)).trans e3⟩
def putV (lb ob : Nat) : Value := .func (.func 53) #[] #[.pointer (some ⟨lb, 0, none⟩), .pointer (some ⟨ob, 0, none⟩)]
structure FlatJ (w : World) (B : Nat) (F : Bs → Option Bs) (pre : List Tok) (W : World) : Prop where
  st : FlatS w.heap.size (w.heap.size + 1) (w.heap.size + 1 + 1) (lrg F pre) (evalT F pre) W
  tb : W.heap[w.heap.size]? = some (.cells #[.map (some B)] 60 (0, 0))
  pb : W.heap[w.heap.size + 1 + 1 + 1]? = some (.cells #[putV (w.heap.size + 1 + 1) (w.heap.size + 1)] 89 (0, 0))
  below : Below w.heap.size w W
  ml : MLm W
theorem FlatJ.put {w : World} {B : Nat} {F : Bs → Option Bs} {pre pre' : List Tok} {W W' : World} (h : FlatJ w B F pre W) (hs : FlatS w.heap.size (w.heap.size + 1) (w.heap.size + 1 + 1) (lrg F pre') (evalT F pre') W') (hp : PutKept w.heap.size (w.heap.size + 1) (w.heap.size + 1 + 1) W W') (hM : MLm w) : FlatJ w B F pre' W' :=
  ⟨hs, hp.2 _ _ h.tb (by omega) (by omega) (fun c fz e => by injection e with _ e _; revert e; decide), hp.2 _ _ h.pb (by omega) (by omega) (fun c fz e => by injection e with _ e _; revert e; decide), h.below.trans (hp.1.mono (Nat.le_refl _)), hM.below (h.below.trans hp.1)⟩
theorem flat_feeds {w : World} {B : Nat} {F : Bs → Option Bs} {s : Bs} (hF : FlatOn w B F (callsOf (prs okM s).1)) (hM : MLm w) :
    Feeds s (FlatJ w B F) 53 #[.pointer (some ⟨w.heap.size + 1 + 1, 0, none⟩), .pointer (some ⟨w.heap.size + 1, 0, none⟩)] 56 #[.pointer (some ⟨w.heap.size + 1 + 1, 0, none⟩), .pointer (some ⟨w.heap.size, 0, none⟩), .pointer (some ⟨w.heap.size + 1 + 1 + 1, 0, none⟩)] := by
  refine ⟨enters_of Tryd.func53 (by kernel_rfl) rfl, enters_of Tryd.func56 (by kernel_rfl) rfl, ?_, ?_, fun pre W h => h.ml, ?_⟩
  · intro pre x W h _
    refine (put_ok _ _ _ _ _ x W h.st (by omega) (by omega)).mono ?_
    rintro e w' ⟨rfl, h1, h2⟩
    exact ⟨rfl, h.put (by rw [lrg_t, evalT_t]; exact h1) h2 hM⟩
  · intro pre n W h hn hok
    obtain ⟨N, ks, hh, h1, h2⟩ := hF
    obtain ⟨eb, e1, e2, e3⟩ := h2 n (callsOf_mem.2 hn)
    have hlt := World.block_lt_of_cell? w _ e2
    simp only at hlt
    refine (callF_ok w.heap.size _ _ w.heap.size (w.heap.size + 1 + 1 + 1) B eb N ks hh _ _ n (F n) W h.st (by omega) (by omega) h.tb h.pb (h1.below h.below) e1 ((h.below.cell hlt).trans e2) ((h.below.cell hlt).trans e3) (by omega) (by omega) (by omega) (okM_few hok)).mono ?_
    rintro e w' ⟨rfl, g1, g2⟩
    exact ⟨rfl, h.put (by rw [lrg_c, evalT_c]; exact g1) g2 hM⟩
  · intro pre W n h
    have hb := below_drawsP (Below.refl W.heap.size W) n
    exact ⟨h.st.below hb, h.tb, h.pb, below_drawsP h.below n, h.ml.drew n⟩
set_option maxHeartbeats 4000000 in
set_option maxRecDepth 100000 in
theorem flat_ok (B : Nat) (F : Bs → Option Bs) (s : Bs) (w : World) (hs : s.length ≤ 1048576) (hM : MLm w) (hF : FlatOn w B F (callsOf (prs okM s).1)) :
    Calls Tryd.prog 35 #[.map (some B), .string (txt s)] w fun e w' => e = .returned (.tuple #[.string (txt ((cmb F (prs okM s).1).getD [])), .bool (cmb F (prs okM s).1).isNone]) ∧ Below w.heap.size w w' := by
  have hfd := flat_feeds hF hM
  obtain ⟨W1, hW1⟩ : ∃ W1, W1 = w.alloc (.cells #[.map (some B)] 60) := ⟨_, rfl⟩
  obtain ⟨W2, hW2⟩ : ∃ W2, W2 = W1.alloc (.cells #[.pointer none, .slice none 0 0] 93) := ⟨_, rfl⟩
  obtain ⟨W3, hW3⟩ : ∃ W3, W3 = W2.alloc (.cells #[.bool false] 4) := ⟨_, rfl⟩
  obtain ⟨W4, hW4⟩ : ∃ W4, W4 = W3.alloc (.cells #[putV (w.heap.size + 1 + 1) (w.heap.size + 1)] 89) := ⟨_, rfl⟩
  have z1 : W1.heap.size = w.heap.size + 1 := by rw [hW1]; simp
  have z2 : W2.heap.size = w.heap.size + 1 + 1 := by rw [hW2]; simp [z1]
  have z3 : W3.heap.size = w.heap.size + 1 + 1 + 1 := by rw [hW3]; simp [z2]
  have b1 : Below w.heap.size w W1 := by rw [hW1]; exact (Below.refl _ _).alloc (Nat.le_refl _) _
  have b2 : Below w.heap.size w W2 := by rw [hW2]; exact b1.alloc (by omega) _
  have b3 : Below w.heap.size w W3 := by rw [hW3]; exact b2.alloc (by omega) _
  have b4 : Below w.heap.size w W4 := by rw [hW4]; exact b3.alloc (by omega) _
  have h0 : FlatJ w B F [] W4 := by
    have l0 : lrg F [] = false := rfl
    have e0 : evalT F [] = [] := rfl
    have g1 : W1.heap[w.heap.size]? = some (.cells #[.map (some B)] 60 (0, 0)) := by rw [hW1]; exact mhan _ _
    have g2 : W2.heap[w.heap.size + 1]? = some (.cells #[.pointer none, .slice none 0 0] 93 (0, 0)) := by rw [hW2, ← z1]; exact mhan _ _
    have g3 : W3.heap[w.heap.size + 1 + 1]? = some (.cells #[.bool false] 4 (0, 0)) := by rw [hW3, ← z2]; exact mhan _ _
    have g4 : W4.heap[w.heap.size + 1 + 1 + 1]? = some (.cells #[putV (w.heap.size + 1 + 1) (w.heap.size + 1)] 89 (0, 0)) := by rw [hW4, ← z3]; exact mhan _ _
    refine ⟨⟨?_, fun _ => ?_, fun _ => by rw [e0]; simp⟩, ?_, g4, b4, hM.below b4⟩
    · rw [hW4, mhao _ _ _ (by omega), l0]; exact g3
    · rw [e0]
      refine .inl ⟨by omega, .slice none 0 0, ?_, ⟨rfl, .inl ⟨rfl, rfl⟩⟩, by simp [Value.ownBlock]⟩
      rw [hW4, mhao _ _ _ (by omega), hW3, mhao _ _ _ (by omega)]; exact g2
    · rw [hW4, mhao _ _ _ (by omega), hW3, mhao _ _ _ (by omega), hW2, mhao _ _ _ (by omega)]; exact g1
  have HP := Lib.hid (parseM_ok s _ _ _ _ _ hfd hs W4 h0)
  have k4 := (mx1 h0.pb).1
  unfold putV at k4
  clear hfd h0 b1 b2 b3 b4 hF hM
  rw [hW1] at hW2
  rw [hW2] at hW3
  rw [hW3] at hW4
  unfold putV at hW4
  cases hl : lrg F (prs okM s).1
  · have HE : Hid (cmb F (prs okM s).1 = some (evalT F (prs okM s).1)) := by show _ = _; unfold cmb; rw [hl]; rfl
    have HL := Lib.hid hl
    clear hl
    go_enter Tryd.func35, Tryd.ntmps35
    go_upto_region 4 with fail
    rw [← hW4]
    clear hW1 hW2 hW3 hW4
    go_wp2_with (first
      | (go_at_call 50; refine HP.out.mono ?_; rintro e w2 ⟨rfl, hj⟩; have c1 := (mx1 hj.st.flag).1; rw [HL.out] at c1; have HB := Lib.hid hj.below; have HS := Lib.hid (Tryd.Builder_String_any_k _ _ _ _ (hj.st.bld HL.out) hj.below.size); clear hj)
      | (go_at_call 57; refine HS.out.mono ?_; rintro e w3 ⟨rfl, _, hb, _⟩; have HB3 := Lib.hid hb; clear hb))
    go_ret2
    exact ⟨by rw [HE.out]; rfl, HB.out.trans (HB3.out.mono (Nat.le_refl _))⟩
  · have HE : Hid (cmb F (prs okM s).1 = none) := by show _ = _; unfold cmb; rw [hl]; rfl
    have HL := Lib.hid hl
    clear hl
    go_enter Tryd.func35, Tryd.ntmps35
    go_upto_region 4 with fail
    rw [← hW4]
    clear hW1 hW2 hW3 hW4
    go_wp2_with (go_at_call 50; refine HP.out.mono ?_; rintro e w2 ⟨rfl, hj⟩; have c1 := (mx1 hj.st.flag).1; rw [HL.out] at c1; have HB := Lib.hid hj.below; clear hj)
    go_ret2
    exact ⟨by rw [HE.out]; rfl, HB.out⟩
end Go.Proofs.YtmeenhfclnkjhaaDoor
