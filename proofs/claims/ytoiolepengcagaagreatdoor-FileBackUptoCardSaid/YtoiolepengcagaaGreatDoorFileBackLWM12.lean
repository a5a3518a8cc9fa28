/- Texts joined: FileCkW, FileBackW, FileArg, FileBackLW. Conditions: theirs. -/
import Derived.Test.YtoiolepengcagaaGreatDoorFileBackLWM11
import Derived.Test.YtoiolepengcagaaGreatDoorFileBackLWM10
import Derived.Test.YtoiolepengcagaaGreatDoorFileBackLWM6
namespace Go.Proofs.YtoiolepengcagaaGreatDoor
open Go.RowKit Go.Shelf Go.Maps
abbrev fv (a1 : Option Addr) (a2 a3 : Nat) (b1 : Option Addr) (b2 b3 : Nat) (c1 : Option Addr) (c2 c3 : Nat) (d1 : Option Addr) (d2 d3 : Nat) : Value := .agg #[.slice a1 a2 a3, .slice b1 b2 b3, .slice c1 c2 c3, .slice d1 d2 d3]
/-- a file as a value -/
def FIv (w : World) (F : FileV) (v : Value) : Prop := ∃ pm nm cm pp np cp pi ni ci pr nr cr hl, v = .agg #[.slice pm nm cm, .slice pp np cp, .slice pi ni ci, .slice pr nr cr] ∧ FileIn w F pm nm cm pp np cp pi ni ci pr nr cr hl ∧ np ≤ cp ∧ (nm ≤ 1048576 ∧ np ≤ 1048576 ∧ ni ≤ 1048576 ∧ nr ≤ 1048576) ∧ ∀ x ∈ hl, x.1.zs.length ≤ 1048576 ∧ x.2.zs.length ≤ 1048576
theorem FIv.below {w w' : World} {F : FileV} {v : Value} (h : FIv w F v) (hb : Below w.heap.size w w') : FIv w' F v := by
  obtain ⟨pm, nm, cm, pp, np, cp, pi, ni, ci, pr, nr, cr, hl, h1, h2, h3⟩ := h
  exact ⟨pm, nm, cm, pp, np, cp, pi, ni, ci, pr, nr, cr, hl, h1, h2.below hb, h3⟩
theorem own_cap {w : World} {b k n e : Nat} {p : Option Addr} {m c : Nat} {xs : List Value} (h : w.ownsRow b e k (.slice p m c) n xs) : m ≤ c := by
  rcases h.2 with ⟨hv, hn⟩ | ⟨g, cap, cur, hv, _, _, hc, _⟩
  · injection hv with _ e1 e2
    omega
  · injection hv with _ e1 e2
    omega
theorem FileAt.fiv {w : World} {lo : Nat} {v : Value} {l : List Bs} (h : FileAt w lo v (parseF l).1) (hE : (parseF l).2.2 = 0) : FIv w (parseF l).1 v := by
  obtain ⟨base, B, s, rl, hlo, hf, rfl⟩ := h
  obtain ⟨k1, k2, k3⟩ := parseF_fits hE
  have a1 := k1.ph
  have a2 := k1.inf
  have a3 := k1.rs
  have a4 : (parseF l).1.ms.length ≤ 200 := by rw [k2]; have := macsF_len l; omega
  refine ⟨_, _, _, _, _, _, _, _, _, _, _, _, _, rfl, hf.fin (by omega) (by omega) (by omega) (by omega), own_cap hf.ph, ⟨by omega, by omega, by omega, by omega⟩, fun x hx => ?_⟩
  obtain ⟨r, hr, rfl⟩ := List.mem_map.1 hx
  have h3 : (r.T, r.N) ∈ (parseF l).1.rs := by rw [← hf.same]; exact List.mem_map.2 ⟨r, hr, rfl⟩
  have h4 := (k1.ok _ h3).few
  simp only at h4
  exact ⟨by show r.T.length ≤ _; omega, by show r.N.length ≤ _; omega⟩
theorem FIv.lines {w : World} {F : FileV} {v : Value} (h : FIv w F v) (hz : ∀ x ∈ linesF F, x.length ≤ 1048600) :
    Calls Tryz.prog 48 #[v] w fun e w' => (∃ p c, e = .returned (.slice p (linesF F).length c) ∧ NL w' p (linesF F).length c ((linesF F).map txt)) ∧ Below w.heap.size w w' := by
  obtain ⟨pm, nm, cm, pp, np, cp, pi, ni, ci, pr, nr, cr, hl, rfl, h2, h3, h4, h5⟩ := h
  exact lines_ok F w pm pp pi pr nm cm np cp ni ci nr cr hl h2 h3 hz h4 h5
theorem FIv.fsame {w : World} {F G : FileV} {u v : Value} (h : FIv w F u) (k : FIv w G v) :
    Calls Tryz.prog 49 #[u, v] w fun e w' => (∃ r : Bool, e = .returned (.bool r) ∧ (r = true ↔ F = G)) ∧ Below w.heap.size w w' := by
  obtain ⟨pm, nm, cm, pp, np, cp, pi, ni, ci, pr, nr, cr, hl, rfl, h2, _⟩ := h
  obtain ⟨qm, am, bm, qp, ap, bp, qi, ai, bi, qr, ar, br, kl, rfl, k2, _⟩ := k
  exact fsame_ok F G w pm pp pi pr qm qp qi qr nm cm np cp ni ci nr cr am bm ap bp ai bi ar br hl kl h2 k2
theorem FIv.sameFile {w : World} {F G : FileV} {u v : Value} (h : FIv w F u) (k : FIv w G v) :
    Calls Tryz.prog 19 #[u, v] w fun e w' => (∃ r : Bool, e = .returned (.bool r) ∧ (r = true ↔ F = G)) ∧ Below w.heap.size w w' := by
  obtain ⟨pm, nm, cm, pp, np, cp, pi, ni, ci, pr, nr, cr, hl, rfl, h2, _⟩ := h
  obtain ⟨qm, am, bm, qp, ap, bp, qi, ai, bi, qr, ar, br, kl, rfl, k2, _⟩ := k
  exact sameFile_ok F G w pm pp pi pr qm qp qi qr nm cm np cp ni ci nr cr am bm ap bp ai bi ar br hl kl h2 k2
theorem lst_txt (l : List Bs) : lst (l.map txt) = l := by
  unfold lst
  rw [List.map_map]
  refine (List.map_congr_left fun x _ => ?_).trans (List.map_id _)
  show (txt x).data.toList = x
  exact txt_list x
theorem FIv.agg {w : World} {F : FileV} {v : Value} (h : FIv w F v) : ∃ a1 a2 a3 b1 b2 b3 c1 c2 c3 d1 d2 d3, v = fv a1 a2 a3 b1 b2 b3 c1 c2 c3 d1 d2 d3 := by
  obtain ⟨pm, nm, cm, pp, np, cp, pi, ni, ci, pr, nr, cr, hl, rfl, h2, _⟩ := h
  exact ⟨_, _, _, _, _, _, _, _, _, _, _, _, rfl⟩
theorem nil_fiv (w : World) : FIv w file0 nilFile := by
  refine ⟨none, 0, 0, none, 0, 0, none, 0, 0, none, 0, 0, [], rfl, ⟨⟨rfl, fun h => absurd h (Nat.lt_irrefl _), Nat.zero_le _⟩, ?_, ⟨rfl, fun h => absurd h (Nat.lt_irrefl _), Nat.zero_le _⟩, ⟨⟨rfl, fun h => absurd h (Nat.lt_irrefl _), Nat.zero_le _⟩, fun x hx => (by cases hx), Nat.le_refl _⟩, rfl⟩, Nat.le_refl _, by decide, fun x hx => (by cases hx)⟩
  exact (NL_own (zs := []) (n := 0) (c := 0) (g := none) (World.ownsRow_nil w w.heap.size _ _) (fun x hx => absurd hx (List.not_mem_nil)) (by decide)).weak
/-- file.Parse of the lines that a call of lines gave -/
theorem parse_nl {w : World} {p : Option Addr} {c : Nat} {l : List Bs} (h : NL w p l.length c (l.map txt)) (hM : MLm w) (hz : ∀ x ∈ l, x.length ≤ 1048600) :
    Calls Tryz.prog 18 #[.slice p l.length c] w fun e w' => (∃ a1 a2 a3 b1 b2 b3 c1 c2 c3 d1 d2 d3, e = .returned (.tuple #[.agg #[.slice a1 a2 a3, .slice b1 b2 b3, .slice c1 c2 c3, .slice d1 d2 d3], .int .i64 ((parseF l).2.1 : Int), .int .i64 (parseF l).2.2]) ∧ FIv w' (parseF l).1 (fv a1 a2 a3 b1 b2 b3 c1 c2 c3 d1 d2 d3)) ∧ Below w.heap.size w w' := by
  have hp := ParseF_ok p l.length c (l.map txt) w h.weak hM (fun z hz' => by
    obtain ⟨x, hx, rfl⟩ := List.mem_map.1 hz'
    rw [txt_size]
    exact hz x hx)
  rw [lst_txt] at hp
  refine hp.mono ?_
  rintro e w' ⟨⟨v, he, hv⟩, hb⟩
  have hf : FIv w' (parseF l).1 v := by
    rcases hv with ⟨h1, rfl⟩ | ⟨h1, hF⟩
    · rw [((parseF_err l).1 h1).1]
      exact nil_fiv w'
    · exact hF.fiv h1
  obtain ⟨a1, a2, a3, b1, b2, b3, c1, c2, c3, d1, d2, d3, rfl⟩ := hf.agg
  exact ⟨⟨a1, a2, a3, b1, b2, b3, c1, c2, c3, d1, d2, d3, he, hf⟩, hb⟩
set_option maxHeartbeats 8000000 in
set_option maxRecDepth 100000 in
theorem CheckF_ok (F : FileV) (a b c d : Value) (w : World) (h : FIv w F (.agg #[a, b, c, d])) (hM : MLm w) (hz : ∀ x ∈ linesF F, x.length ≤ 1048600) :
    Calls Tryz.prog 21 #[.agg #[a, b, c, d]] w fun e w' => e = .returned (.int .i64 (checkF F)) ∧ Below w.heap.size w w' := by
  obtain ⟨W, hW⟩ : ∃ W, W = w.alloc (.cells #[a, b, c, d] 43) := ⟨_, rfl⟩
  have hb0 : Below w.heap.size w W := by rw [hW]; exact rb1w _ _
  have hs0 : W.heap.size = w.heap.size + 1 := by rw [hW]; simp
  have hz0 : W.heap[w.heap.size]? = some (.cells #[a, b, c, d] 43 (0, 0)) := by rw [hW]; exact rb_new w _
  have HC : Hid (∀ u : World, Below W.heap.size W u → (u.cell? ⟨w.heap.size, 0, none⟩ = some a ∧ u.cell? ⟨w.heap.size, 1, none⟩ = some b ∧ u.cell? ⟨w.heap.size, 2, none⟩ = some c ∧ u.cell? ⟨w.heap.size, 3, none⟩ = some d) ∧ Below w.heap.size w u) := by
    show ∀ u : World, _
    intro u hu
    have hbu : Below w.heap.size w u := hb0.trans (hu.mono (by omega))
    have g0 : u.heap[w.heap.size]? = some (.cells #[a, b, c, d] 43 (0, 0)) := by rw [hu.block _ (by omega)]; exact hz0
    exact ⟨(boxF g0).1, hbu⟩
  have HF := Lib.hid h
  have HM := Lib.hid hM
  have HZ := Lib.hid hz
  have HL := Lib.hid ((h.below hb0).lines hz)
  have HWS := Lib.hid hs0
  obtain ⟨⟨c0, c1, c2, c3⟩, _⟩ := HC.out W (Below.refl _ _)
  obtain ⟨m, hm⟩ : ∃ m, m = (parseF (linesF F)).2.1 := ⟨_, rfl⟩
  obtain ⟨E, hE⟩ : ∃ E, E = (parseF (linesF F)).2.2 := ⟨_, rfl⟩
  have HE := Lib.hid hE
  have Hm := Lib.hid hm
  clear h hb0 hs0 hz0 hz hM hm hE
  go_enter Tryz.func21, Tryz.ntmps21
  go_upto_region 1 with fail
  rw [← hW]
  clear hW
  go_upto_region 2 with (first
    | (go_at_call 18; refine (parse_nl HN1.out (HM.out.below HBw1.out) HZ.out).mono ?_; rintro e w2 ⟨⟨g1, g2, g3, j1, j2, j3, k1, k2, k3, l1, l2, l3, rfl, hok2⟩, hb2⟩; rw [← HE.out, ← Hm.out]; have HOK := Lib.hid hok2; have HB2 := Lib.hid (HB1.out.trans (hb2.mono HB1.out.size)); clear hok2 hb2)
    | (go_at_call 48; refine HL.out.mono ?_; rintro e w1 ⟨⟨p1, d1, rfl, hn1⟩, hb1⟩; have HN1 := Lib.hid hn1; have HB1 := Lib.hid hb1; have HBw1 := Lib.hid (HC.out w1 hb1).2; clear hn1 hb1))
  obtain ⟨W2, hW2⟩ : ∃ W2, W2 = w2.alloc (.cells #[.slice g1 g2 g3, .slice j1 j2 j3, .slice k1 k2 k3, .slice l1 l2 l3] 43) := ⟨_, rfl⟩
  have hbW2 : Below w2.heap.size w2 W2 := by rw [hW2]; exact rb1w _ _
  have hz2 : W2.heap[w2.heap.size]? = some (.cells #[.slice g1 g2 g3, .slice j1 j2 j3, .slice k1 k2 k3, .slice l1 l2 l3] 43 (0, 0)) := by rw [hW2]; exact rb_new w2 _
  have HB3 := Lib.hid (HB2.out.trans (hbW2.mono HB2.out.size))
  have HOK2 := Lib.hid (HOK.out.below hbW2)
  rw [← hW2]
  clear hW2 c0 c1 c2 c3 hbW2
  obtain ⟨⟨c0, c1, c2, c3⟩, hbw⟩ := HC.out W2 HB3.out
  obtain ⟨⟨y0, y1, y2, y3⟩, _⟩ := boxF hz2
  have HSA := Lib.hid ((HF.out.below hbw).fsame HOK2.out)
  clear hz2
  by_cases hE : E = 0
  · subst hE
    go_wp2_with (go_at_call 49; refine HSA.out.mono ?_; rintro e w3 ⟨⟨r, rfl, hr⟩, hb3⟩; have HR := Lib.hid hr; have HB4 := Lib.hid (hbw.trans (hb3.mono hbw.size)); clear hr hb3)
    · rename_i h9
      have hr : r = false := by simpa using h9
      have hne : (parseF (linesF F)).1 ≠ F := fun e => by rw [HR.out.2 e.symm] at hr; cases hr
      have hck : checkF F = 3 := by unfold checkF; rw [if_pos HE.out.symm, if_neg hne]
      go_ret
      exact ⟨by rw [hck]; rfl, HB4.out⟩
    · rename_i h9
      have hr : r = true := by simpa using h9
      have hck : checkF F = 0 := by unfold checkF; rw [if_pos HE.out.symm, if_pos (HR.out.1 hr).symm]
      go_ret
      exact ⟨by rw [hck]; rfl, HB4.out⟩
  · go_wp2_with fail
    have hck : checkF F = E := by unfold checkF; rw [if_neg (by rw [← HE.out]; exact hE), HE.out]
    go_ret
    exact ⟨by rw [hck]; rfl, hbw⟩
set_option maxHeartbeats 8000000 in
set_option maxRecDepth 100000 in
theorem PrintF_ok (F : FileV) (a b c d : Value) (w : World) (h : FIv w F (.agg #[a, b, c, d])) (hM : MLm w) (hz : ∀ x ∈ linesF F, x.length ≤ 1048600) :
    Calls Tryz.prog 20 #[.agg #[a, b, c, d]] w fun e w' => ((checkF F ≠ 0 ∧ e = .returned (.tuple #[.slice none 0 0, .int .i64 (checkF F)])) ∨ (checkF F = 0 ∧ ∃ p c, e = .returned (.tuple #[.slice p (linesF F).length c, .int .i64 0]) ∧ NL w' p (linesF F).length c ((linesF F).map txt))) ∧ Below w.heap.size w w' := by
  obtain ⟨W, hW⟩ : ∃ W, W = w.alloc (.cells #[a, b, c, d] 43) := ⟨_, rfl⟩
  have hb0 : Below w.heap.size w W := by rw [hW]; exact rb1w _ _
  have hs0 : W.heap.size = w.heap.size + 1 := by rw [hW]; simp
  have hz0 : W.heap[w.heap.size]? = some (.cells #[a, b, c, d] 43 (0, 0)) := by rw [hW]; exact rb_new w _
  have HC : Hid (∀ u : World, Below W.heap.size W u → (u.cell? ⟨w.heap.size, 0, none⟩ = some a ∧ u.cell? ⟨w.heap.size, 1, none⟩ = some b ∧ u.cell? ⟨w.heap.size, 2, none⟩ = some c ∧ u.cell? ⟨w.heap.size, 3, none⟩ = some d) ∧ Below w.heap.size w u) := by
    show ∀ u : World, _
    intro u hu
    have hbu : Below w.heap.size w u := hb0.trans (hu.mono (by omega))
    have g0 : u.heap[w.heap.size]? = some (.cells #[a, b, c, d] 43 (0, 0)) := by rw [hu.block _ (by omega)]; exact hz0
    exact ⟨(boxF g0).1, hbu⟩
  have HF := Lib.hid h
  have HZ := Lib.hid hz
  have HK := Lib.hid (CheckF_ok F a b c d W (h.below hb0) (hM.below hb0) hz)
  have HWS := Lib.hid hs0
  obtain ⟨⟨c0, c1, c2, c3⟩, _⟩ := HC.out W (Below.refl _ _)
  clear h hb0 hs0 hz0 hz hM
  obtain ⟨E, hE⟩ : ∃ E, E = checkF F := ⟨_, rfl⟩
  rw [← hE] at HK ⊢
  clear hE
  go_enter Tryz.func20, Tryz.ntmps20
  go_upto_region 1 with fail
  rw [← hW]
  clear hW
  go_upto_region 2 with (go_at_call 21; refine HK.out.mono ?_; rintro e w1 ⟨rfl, hb1⟩; have HB1 := Lib.hid hb1; clear hb1)
  clear c0 c1 c2 c3
  obtain ⟨⟨c0, c1, c2, c3⟩, hbw⟩ := HC.out w1 HB1.out
  by_cases h0 : E = 0
  · subst h0
    have HL := Lib.hid ((HF.out.below hbw).lines HZ.out)
    go_wp2_with (go_at_call 48; refine HL.out.mono ?_; rintro e w2 ⟨⟨p1, d1, rfl, hn1⟩, hb2⟩; have HN1 := Lib.hid hn1; have HB2 := Lib.hid (hbw.trans (hb2.mono hbw.size)); clear hn1 hb2)
    go_ret2
    exact ⟨⟨p1, d1, rfl, HN1.out⟩, HB2.out⟩
  · go_wp2_with fail
    go_ret2
    exact ⟨.inl ⟨h0, rfl⟩, hbw⟩
end Go.Proofs.YtoiolepengcagaaGreatDoor
namespace Go.Proofs.YtoiolepengcagaaGreatDoor
open Go.RowKit Go.Shelf Go.Maps
theorem PrintU_ok (F : FileV) (a b c d : Value) (w : World) (h : FIv w F (.agg #[a, b, c, d])) (hM : MLm w) (hz : ∀ x ∈ linesF F, x.length ≤ 1048600) :
    Calls Tryz.prog 20 #[.agg #[a, b, c, d]] w fun e w' => (∃ p m g, e = .returned (.tuple #[.slice p m g, .int .i64 (checkF F)]) ∧ (checkF F ≠ 0 → m = 0) ∧ (checkF F = 0 → m = (linesF F).length ∧ NL w' p (linesF F).length g ((linesF F).map txt))) ∧ Below w.heap.size w w' := by
  refine (PrintF_ok F a b c d w h hM hz).mono ?_
  rintro e w' ⟨⟨h0, rfl⟩ | ⟨h0, p, g, rfl, hn⟩, hb⟩
  · exact ⟨⟨_, _, _, rfl, fun _ => rfl, fun e => absurd e h0⟩, hb⟩
  · rw [h0]
    exact ⟨⟨_, _, _, rfl, fun e => absurd rfl e, fun _ => ⟨rfl, hn⟩⟩, hb⟩
theorem parse_nlw {w : World} {p : Option Addr} {n c : Nat} {zs : List ByteArray} (h : NLw w p n c zs) (hM : MLm w) (hz : ∀ x ∈ zs, x.size ≤ 1048600) :
    Calls Tryz.prog 18 #[.slice p n c] w fun e w' => (∃ a1 a2 a3 b1 b2 b3 c1 c2 c3 d1 d2 d3, e = .returned (.tuple #[.agg #[.slice a1 a2 a3, .slice b1 b2 b3, .slice c1 c2 c3, .slice d1 d2 d3], .int .i64 ((parseF (lst zs)).2.1 : Int), .int .i64 (parseF (lst zs)).2.2]) ∧ FIv w' (parseF (lst zs)).1 (fv a1 a2 a3 b1 b2 b3 c1 c2 c3 d1 d2 d3)) ∧ Below w.heap.size w w' := by
  refine (ParseF_ok p n c zs w h hM hz).mono ?_
  rintro e w' ⟨⟨v, he, hv⟩, hb⟩
  have hf : FIv w' (parseF (lst zs)).1 v := by
    rcases hv with ⟨h1, rfl⟩ | ⟨h1, hF⟩
    · rw [((parseF_err (lst zs)).1 h1).1]
      exact nil_fiv w'
    · exact hF.fiv h1
  obtain ⟨a1, a2, a3, b1, b2, b3, c1, c2, c3, d1, d2, d3, rfl⟩ := hf.agg
  exact ⟨⟨a1, a2, a3, b1, b2, b3, c1, c2, c3, d1, d2, d3, he, hf⟩, hb⟩
/-- .. of lines that the file printed -/
theorem parse_back {F : FileV} {w : World} {p : Option Addr} {m c : Nat} (h0 : checkF F = 0) (h : m = (linesF F).length ∧ NL w p (linesF F).length c ((linesF F).map txt)) (hM : MLm w) (hz : ∀ x ∈ linesF F, x.length ≤ 1048600) :
    Calls Tryz.prog 18 #[.slice p m c] w fun e w' => (∃ a1 a2 a3 b1 b2 b3 c1 c2 c3 d1 d2 d3, e = .returned (.tuple #[.agg #[.slice a1 a2 a3, .slice b1 b2 b3, .slice c1 c2 c3, .slice d1 d2 d3], .int .i64 0, .int .i64 0]) ∧ FIv w' F (fv a1 a2 a3 b1 b2 b3 c1 c2 c3 d1 d2 d3)) ∧ Below w.heap.size w w' := by
  obtain ⟨rfl, hn⟩ := h
  refine (parse_nl hn hM hz).mono ?_
  rintro e w' ⟨⟨a1, a2, a3, b1, b2, b3, c1, c2, c3, d1, d2, d3, he, hf⟩, hb⟩
  obtain ⟨k1, k2, k3⟩ := checkF_zero h0
  rw [k2] at hf
  rw [k1, k3] at he
  exact ⟨⟨_, _, _, _, _, _, _, _, _, _, _, _, he, hf⟩, hb⟩
theorem same_yes {w : World} {F : FileV} {u v : Value} (h : FIv w F u) (k : FIv w F v) :
    Calls Tryz.prog 19 #[u, v] w fun e w' => e = .returned (.bool true) ∧ Below w.heap.size w w' := by
  refine (h.sameFile k).mono ?_
  rintro e w' ⟨⟨r, rfl, hr⟩, hb⟩
  rw [hr.2 rfl]
  exact ⟨rfl, hb⟩
set_option maxHeartbeats 16000000 in
set_option maxRecDepth 100000 in
theorem fileBack_ok (F : FileV) (a b c d : Value) (p : Option Addr) (n cc : Nat) (zs : List ByteArray) (w : World) (h : FIv w F (.agg #[a, b, c, d])) (hl : NLw w p n cc zs) (hM : MLm w) (hML : ML w) (hz : ∀ x ∈ linesF F, x.length ≤ 1048600) (hzs : ∀ x ∈ zs, x.size ≤ 1048576) :
    Calls Tryz.prog 5 #[.agg #[a, b, c, d], .slice p n cc] w fun e w' => e = .returned (.bool true) ∧ Below w.heap.size w w' := by
  obtain ⟨W, hW⟩ : ∃ W, W = w.alloc (.cells #[a, b, c, d] 43) := ⟨_, rfl⟩
  have hb0 : Below w.heap.size w W := by rw [hW]; exact rb1w _ _
  have hs0 : W.heap.size = w.heap.size + 1 := by rw [hW]; simp
  have hz0 : W.heap[w.heap.size]? = some (.cells #[a, b, c, d] 43 (0, 0)) := by rw [hW]; exact rb_new w _
  have HC : Hid (∀ u : World, Below W.heap.size W u → (u.cell? ⟨w.heap.size, 0, none⟩ = some a ∧ u.cell? ⟨w.heap.size, 1, none⟩ = some b ∧ u.cell? ⟨w.heap.size, 2, none⟩ = some c ∧ u.cell? ⟨w.heap.size, 3, none⟩ = some d) ∧ Below w.heap.size w u) := by
    show ∀ u : World, _
    intro u hu
    have hbu : Below w.heap.size w u := hb0.trans (hu.mono (by omega))
    have g0 : u.heap[w.heap.size]? = some (.cells #[a, b, c, d] 43 (0, 0)) := by rw [hu.block _ (by omega)]; exact hz0
    exact ⟨(boxF g0).1, hbu⟩
  have HF := Lib.hid h
  have HZ := Lib.hid hz
  have HM := Lib.hid hM
  have hlen := hl.at_.len
  have HFS := Lib.hid (files_ok W (hML.below hb0))
  have HPL : Hid (∀ u : World, Below W.heap.size W u → Calls Tryz.prog 18 #[.slice p n cc] u fun e w' => (∃ a1 a2 a3 b1 b2 b3 c1 c2 c3 d1 d2 d3, e = .returned (.tuple #[.agg #[.slice a1 a2 a3, .slice b1 b2 b3, .slice c1 c2 c3, .slice d1 d2 d3], .int .i64 ((parseF (lst zs)).2.1 : Int), .int .i64 (parseF (lst zs)).2.2]) ∧ FIv w' (parseF (lst zs)).1 (fv a1 a2 a3 b1 b2 b3 c1 c2 c3 d1 d2 d3)) ∧ Below u.heap.size u w') := by
    show ∀ u : World, _
    intro u hu
    exact parse_nlw (hl.below (HC.out u hu).2) (hM.below (HC.out u hu).2) (fun x hx => Nat.le_trans (hzs x hx) (by decide))
  obtain ⟨G, hG⟩ : ∃ G, G = (parseF (lst zs)).1 := ⟨_, rfl⟩
  obtain ⟨N2, hN2⟩ : ∃ N2, N2 = (parseF (lst zs)).2.1 := ⟨_, rfl⟩
  obtain ⟨E2, hE2⟩ : ∃ E2, E2 = (parseF (lst zs)).2.2 := ⟨_, rfl⟩
  have HLG : Hid (E2 = 0 → ∀ x ∈ linesF G, x.length ≤ 1048600) := by
    show _ → _
    rw [hE2, hG]
    intro h0 x hx
    rcases (lines_small h0 (B := 1048576) (fun s hs => by
      obtain ⟨z, hz', rfl⟩ := List.mem_map.1 hs
      rw [← Lib.size_eq]
      exact hzs z hz') x hx).2 with k | k <;> omega
  have HEG : Hid (E2 ≠ 0 → G = file0 ∧ N2 ≤ n) := by
    show _ → _
    rw [hE2, hG, hN2]
    intro h0
    have := (parseF_err (lst zs)).1 h0
    refine ⟨this.1, ?_⟩
    have h3 : (lst zs).length = zs.length := List.length_map _
    rw [← hlen, ← h3]
    exact this.2
  rw [← hG, ← hN2, ← hE2] at HPL
  have HWS := Lib.hid hs0
  have hck0 := CheckF_ok F a b c d
  have HPU : Hid (∀ u : World, Below W.heap.size W u → Calls Tryz.prog 20 #[.agg #[a, b, c, d]] u fun e w' => (∃ p m g, e = .returned (.tuple #[.slice p m g, .int .i64 (checkF F)]) ∧ (checkF F ≠ 0 → m = 0) ∧ (checkF F = 0 → m = (linesF F).length ∧ NL w' p (linesF F).length g ((linesF F).map txt))) ∧ Below u.heap.size u w') := by
    show ∀ u : World, _
    intro u hu
    exact PrintU_ok F a b c d u (h.below (HC.out u hu).2) (hM.below (HC.out u hu).2) hz
  have HCK : Hid (∀ u : World, Below W.heap.size W u → Calls Tryz.prog 21 #[.agg #[a, b, c, d]] u fun e w' => e = .returned (.int .i64 (checkF F)) ∧ Below u.heap.size u w') := by
    show ∀ u : World, _
    intro u hu
    exact CheckF_ok F a b c d u (h.below (HC.out u hu).2) (hM.below (HC.out u hu).2) hz
  have HPB : Hid (∀ (u : World) (p : Option Addr) (m g : Nat), Below W.heap.size W u → checkF F = 0 → (m = (linesF F).length ∧ NL u p (linesF F).length g ((linesF F).map txt)) → Calls Tryz.prog 18 #[.slice p m g] u fun e w' => (∃ a1 a2 a3 b1 b2 b3 c1 c2 c3 d1 d2 d3, e = .returned (.tuple #[.agg #[.slice a1 a2 a3, .slice b1 b2 b3, .slice c1 c2 c3, .slice d1 d2 d3], .int .i64 0, .int .i64 0]) ∧ FIv w' F (fv a1 a2 a3 b1 b2 b3 c1 c2 c3 d1 d2 d3)) ∧ Below u.heap.size u w') := by
    show ∀ (u : World) (p : Option Addr) (m g : Nat), _
    intro u p m g hu h0 hn
    exact parse_back h0 hn (hM.below (HC.out u hu).2) hz
  obtain ⟨E, hE⟩ : ∃ E, E = checkF F := ⟨_, rfl⟩
  rw [← hE] at HPU HCK HPB
  have HB0 : Hid (Below W.heap.size W W) := Below.refl _ _
  obtain ⟨⟨c0, c1, c2, c3⟩, _⟩ := HC.out W (Below.refl _ _)
  clear h hb0 hs0 hz0 hz hM hML hG hN2 hE2 hE hck0 hzs hl hlen
  go_enter Tryz.func5, Tryz.ntmps5
  go_upto_region 1 with fail
  rw [← hW]
  clear hW
  go_upto_region 3 with (go_at_call 7; refine HFS.out.mono ?_; rintro e w1 ⟨rfl, hb1⟩; have HB1 := Lib.hid hb1; clear hb1)
  clear c0 c1 c2 c3
  obtain ⟨⟨c0, c1, c2, c3⟩, _⟩ := HC.out w1 HB1.out
  go_upto_region 4 with (go_at_call 20; refine (HPU.out _ HB1.out).mono ?_; rintro e w2 ⟨⟨p2, m2, g2, rfl, hno, hyes⟩, hb2⟩; have HNO := Lib.hid hno; have HYES := Lib.hid hyes; have HB2 := Lib.hid (HB1.out.trans (hb2.mono HB1.out.size)); clear hno hyes hb2)
  clear c0 c1 c2 c3
  obtain ⟨⟨c0, c1, c2, c3⟩, _⟩ := HC.out w2 HB2.out
  by_cases hE : E = 0
  · subst hE
    have HY := Lib.hid (HYES.out rfl)
    go_upto_region 6 with (go_at_call 18; refine (HPB.out _ _ _ _ HB2.out rfl HY.out).mono ?_; rintro e w3 ⟨⟨g1, gn2, g3, j1, j2, j3, k1, k2, k3, l1, l2, l3, rfl, hok2⟩, hb3⟩; have HOK := Lib.hid hok2; have HB3 := Lib.hid (HB2.out.trans (hb3.mono HB2.out.size)); clear hok2 hb3)
    obtain ⟨Wb, hWb⟩ : ∃ Wb, Wb = w3.alloc (.cells #[.slice g1 gn2 g3, .slice j1 j2 j3, .slice k1 k2 k3, .slice l1 l2 l3] 43) := ⟨_, rfl⟩
    have hbWb : Below w3.heap.size w3 Wb := by rw [hWb]; exact rb1w _ _
    have hzb : Wb.heap[w3.heap.size]? = some (.cells #[.slice g1 gn2 g3, .slice j1 j2 j3, .slice k1 k2 k3, .slice l1 l2 l3] 43 (0, 0)) := by rw [hWb]; exact rb_new w3 _
    have HBb := Lib.hid (HB3.out.trans (hbWb.mono HB3.out.size))
    have HOKb := Lib.hid (HOK.out.below hbWb)
    rw [← hWb]
    clear hWb c0 c1 c2 c3 hbWb
    obtain ⟨⟨c0, c1, c2, c3⟩, hbw⟩ := HC.out Wb HBb.out
    obtain ⟨⟨y0, y1, y2, y3⟩, _⟩ := boxF hzb
    clear hzb
    have HSA := Lib.hid (same_yes (HF.out.below hbw) HOKb.out)
    go_upto_region 10 with (go_at_call 19; refine HSA.out.mono ?_; rintro e w4 ⟨rfl, hb4⟩; have HB4 := Lib.hid (HBb.out.trans (hb4.mono HBb.out.size)); clear hb4)
    clear c0 c1 c2 c3 y0 y1 y2 y3 hbw
    go_upto_region 11 with (go_at_call 18; refine (HPL.out _ HB4.out).mono ?_; rintro e w5 ⟨⟨q1, q2, q3, r1, r2, r3, s1, s2, s3, t1, t2, t3, rfl, hok5⟩, hb5⟩; have HOK5 := Lib.hid hok5; have HB5 := Lib.hid (HB4.out.trans (hb5.mono HB4.out.size)); clear hok5 hb5)
    obtain ⟨Wc, hWc⟩ : ∃ Wc, Wc = w5.alloc (.cells #[.slice q1 q2 q3, .slice r1 r2 r3, .slice s1 s2 s3, .slice t1 t2 t3] 43) := ⟨_, rfl⟩
    have hbWc : Below w5.heap.size w5 Wc := by rw [hWc]; exact rb1w _ _
    have hsc : Wc.heap.size = w5.heap.size + 1 := by rw [hWc]; simp
    have hzc : Wc.heap[w5.heap.size]? = some (.cells #[.slice q1 q2 q3, .slice r1 r2 r3, .slice s1 s2 s3, .slice t1 t2 t3] 43 (0, 0)) := by rw [hWc]; exact rb_new w5 _
    have HBc := Lib.hid (HB5.out.trans (hbWc.mono HB5.out.size))
    have HOKc := Lib.hid (HOK5.out.below hbWc)
    have HMc := Lib.hid (HM.out.below (HC.out Wc HBc.out).2)
    rw [← hWc]
    clear hWc hbWc
    obtain ⟨⟨z0, z1, z2, z3⟩, _⟩ := boxF hzc
    by_cases hE2 : E2 = 0
    · subst hE2
      have HLG2 := Lib.hid (HLG.out rfl)
      have HPG := Lib.hid (PrintU_ok G _ _ _ _ Wc HOKc.out HMc.out HLG2.out)
      have HPB2 : Hid (∀ (u : World) (p : Option Addr) (m g : Nat), Below W.heap.size W u → checkF G = 0 → (m = (linesF G).length ∧ NL u p (linesF G).length g ((linesF G).map txt)) → Calls Tryz.prog 18 #[.slice p m g] u fun e w' => (∃ a1 a2 a3 b1 b2 b3 c1 c2 c3 d1 d2 d3, e = .returned (.tuple #[.agg #[.slice a1 a2 a3, .slice b1 b2 b3, .slice c1 c2 c3, .slice d1 d2 d3], .int .i64 0, .int .i64 0]) ∧ FIv w' G (fv a1 a2 a3 b1 b2 b3 c1 c2 c3 d1 d2 d3)) ∧ Below u.heap.size u w') := by
        show ∀ (u : World) (p : Option Addr) (m g : Nat), _
        intro u p m g hu h0 hn
        exact parse_back h0 hn (HM.out.below (HC.out u hu).2) HLG2.out
      obtain ⟨E3, hE3⟩ : ∃ E3, E3 = checkF G := ⟨_, rfl⟩
      rw [← hE3] at HPG HPB2
      clear hE3
      go_upto_region 14 with (go_at_call 20; refine HPG.out.mono ?_; rintro e w6 ⟨⟨p6, m6, g6, rfl, hno, hyes⟩, hb6⟩; have HNO6 := Lib.hid hno; have HYES6 := Lib.hid hyes; have HB6 := Lib.hid (HBc.out.trans (hb6.mono HBc.out.size)); have HB6c := Lib.hid hb6; clear hno hyes hb6)
      by_cases h3 : E3 = 0
      · subst h3
        have HY6 := Lib.hid (HYES6.out rfl)
        go_upto_region 17 with (go_at_call 18; refine (HPB2.out _ _ _ _ HB6.out rfl HY6.out).mono ?_; rintro e w7 ⟨⟨x1, x2, x3, v1, v2, v3, o1, o2, o3, i1, i2, i3, rfl, hok7⟩, hb7⟩; have HOK7 := Lib.hid hok7; have HB7 := Lib.hid (HB6.out.trans (hb7.mono HB6.out.size)); have HB7c := Lib.hid (HB6c.out.trans (hb7.mono HB6c.out.size)); clear hok7 hb7)
        obtain ⟨Wd, hWd⟩ : ∃ Wd, Wd = w7.alloc (.cells #[.slice x1 x2 x3, .slice v1 v2 v3, .slice o1 o2 o3, .slice i1 i2 i3] 43) := ⟨_, rfl⟩
        have hbWd : Below w7.heap.size w7 Wd := by rw [hWd]; exact rb1w _ _
        have hzd : Wd.heap[w7.heap.size]? = some (.cells #[.slice x1 x2 x3, .slice v1 v2 v3, .slice o1 o2 o3, .slice i1 i2 i3] 43 (0, 0)) := by rw [hWd]; exact rb_new w7 _
        have HBd := Lib.hid (HB7.out.trans (hbWd.mono HB7.out.size))
        have HOKd := Lib.hid (HOK7.out.below hbWd)
        have hcd := HB7c.out.trans (hbWd.mono HB7c.out.size)
        have hzc2 : Wd.heap[w5.heap.size]? = some (.cells #[.slice q1 q2 q3, .slice r1 r2 r3, .slice s1 s2 s3, .slice t1 t2 t3] 43 (0, 0)) := by rw [hcd.block _ (by omega)]; exact hzc
        have HSD := Lib.hid (same_yes HOKd.out (HOKc.out.below hcd))
        rw [← hWd]
        clear hWd hbWd z0 z1 z2 z3
        obtain ⟨⟨z0, z1, z2, z3⟩, _⟩ := boxF hzc2
        obtain ⟨⟨y0, y1, y2, y3⟩, _⟩ := boxF hzd
        clear hzd hzc2 hcd hzc
        go_wp2_with (go_at_call 19; refine HSD.out.mono ?_; rintro e w8 ⟨rfl, hb8⟩; have HB8 := Lib.hid (HC.out w8 (HBd.out.trans (hb8.mono HBd.out.size))).2; clear hb8)
        go_ret
        exact ⟨rfl, HB8.out⟩
      · have hm6 := HNO6.out h3
        subst hm6
        have HB9 := Lib.hid (HC.out w6 HB6.out).2
        go_wp2_with fail
        go_ret
        exact ⟨rfl, HB9.out⟩
    · obtain ⟨hG0, hN0⟩ := HEG.out hE2
      have hd1 : decide (N2 ≤ n) = true := decide_eq_true hN0
      have hd2 : decide ((N2 : Int) ≤ (n : Int)) = true := decide_eq_true (by omega)
      have HS0 := Lib.hid (same_yes (F := G) HOKc.out (by rw [hG0]; exact nil_fiv Wc))
      go_wp2_with (go_at_call 19; refine HS0.out.mono ?_; rintro e w8 ⟨rfl, hb8⟩; have HB8 := Lib.hid (HC.out w8 (HBc.out.trans (hb8.mono HBc.out.size))).2; clear hb8)
      go_ret
      exact ⟨rfl, HB8.out⟩
  · have hm2 := HNO.out hE
    subst hm2
    go_upto_region 10 with (go_at_call 21; refine (HCK.out _ HB2.out).mono ?_; rintro e w4 ⟨rfl, hb4⟩; have HB4 := Lib.hid (HB2.out.trans (hb4.mono HB2.out.size)); clear hb4)
    clear c0 c1 c2 c3
    go_upto_region 11 with (go_at_call 18; refine (HPL.out _ HB4.out).mono ?_; rintro e w5 ⟨⟨q1, q2, q3, r1, r2, r3, s1, s2, s3, t1, t2, t3, rfl, hok5⟩, hb5⟩; have HOK5 := Lib.hid hok5; have HB5 := Lib.hid (HB4.out.trans (hb5.mono HB4.out.size)); clear hok5 hb5)
    obtain ⟨Wc, hWc⟩ : ∃ Wc, Wc = w5.alloc (.cells #[.slice q1 q2 q3, .slice r1 r2 r3, .slice s1 s2 s3, .slice t1 t2 t3] 43) := ⟨_, rfl⟩
    have hbWc : Below w5.heap.size w5 Wc := by rw [hWc]; exact rb1w _ _
    have hsc : Wc.heap.size = w5.heap.size + 1 := by rw [hWc]; simp
    have hzc : Wc.heap[w5.heap.size]? = some (.cells #[.slice q1 q2 q3, .slice r1 r2 r3, .slice s1 s2 s3, .slice t1 t2 t3] 43 (0, 0)) := by rw [hWc]; exact rb_new w5 _
    have HBc := Lib.hid (HB5.out.trans (hbWc.mono HB5.out.size))
    have HOKc := Lib.hid (HOK5.out.below hbWc)
    have HMc := Lib.hid (HM.out.below (HC.out Wc HBc.out).2)
    rw [← hWc]
    clear hWc hbWc
    obtain ⟨⟨z0, z1, z2, z3⟩, _⟩ := boxF hzc
    by_cases hE2 : E2 = 0
    · subst hE2
      have HLG2 := Lib.hid (HLG.out rfl)
      have HPG := Lib.hid (PrintU_ok G _ _ _ _ Wc HOKc.out HMc.out HLG2.out)
      have HPB2 : Hid (∀ (u : World) (p : Option Addr) (m g : Nat), Below W.heap.size W u → checkF G = 0 → (m = (linesF G).length ∧ NL u p (linesF G).length g ((linesF G).map txt)) → Calls Tryz.prog 18 #[.slice p m g] u fun e w' => (∃ a1 a2 a3 b1 b2 b3 c1 c2 c3 d1 d2 d3, e = .returned (.tuple #[.agg #[.slice a1 a2 a3, .slice b1 b2 b3, .slice c1 c2 c3, .slice d1 d2 d3], .int .i64 0, .int .i64 0]) ∧ FIv w' G (fv a1 a2 a3 b1 b2 b3 c1 c2 c3 d1 d2 d3)) ∧ Below u.heap.size u w') := by
        show ∀ (u : World) (p : Option Addr) (m g : Nat), _
        intro u p m g hu h0 hn
        exact parse_back h0 hn (HM.out.below (HC.out u hu).2) HLG2.out
      obtain ⟨E3, hE3⟩ : ∃ E3, E3 = checkF G := ⟨_, rfl⟩
      rw [← hE3] at HPG HPB2
      clear hE3
      go_upto_region 14 with (go_at_call 20; refine HPG.out.mono ?_; rintro e w6 ⟨⟨p6, m6, g6, rfl, hno, hyes⟩, hb6⟩; have HNO6 := Lib.hid hno; have HYES6 := Lib.hid hyes; have HB6 := Lib.hid (HBc.out.trans (hb6.mono HBc.out.size)); have HB6c := Lib.hid hb6; clear hno hyes hb6)
      by_cases h3 : E3 = 0
      · subst h3
        have HY6 := Lib.hid (HYES6.out rfl)
        go_upto_region 17 with (go_at_call 18; refine (HPB2.out _ _ _ _ HB6.out rfl HY6.out).mono ?_; rintro e w7 ⟨⟨x1, x2, x3, v1, v2, v3, o1, o2, o3, i1, i2, i3, rfl, hok7⟩, hb7⟩; have HOK7 := Lib.hid hok7; have HB7 := Lib.hid (HB6.out.trans (hb7.mono HB6.out.size)); have HB7c := Lib.hid (HB6c.out.trans (hb7.mono HB6c.out.size)); clear hok7 hb7)
        obtain ⟨Wd, hWd⟩ : ∃ Wd, Wd = w7.alloc (.cells #[.slice x1 x2 x3, .slice v1 v2 v3, .slice o1 o2 o3, .slice i1 i2 i3] 43) := ⟨_, rfl⟩
        have hbWd : Below w7.heap.size w7 Wd := by rw [hWd]; exact rb1w _ _
        have hzd : Wd.heap[w7.heap.size]? = some (.cells #[.slice x1 x2 x3, .slice v1 v2 v3, .slice o1 o2 o3, .slice i1 i2 i3] 43 (0, 0)) := by rw [hWd]; exact rb_new w7 _
        have HBd := Lib.hid (HB7.out.trans (hbWd.mono HB7.out.size))
        have HOKd := Lib.hid (HOK7.out.below hbWd)
        have hcd := HB7c.out.trans (hbWd.mono HB7c.out.size)
        have hzc2 : Wd.heap[w5.heap.size]? = some (.cells #[.slice q1 q2 q3, .slice r1 r2 r3, .slice s1 s2 s3, .slice t1 t2 t3] 43 (0, 0)) := by rw [hcd.block _ (by omega)]; exact hzc
        have HSD := Lib.hid (same_yes HOKd.out (HOKc.out.below hcd))
        rw [← hWd]
        clear hWd hbWd z0 z1 z2 z3
        obtain ⟨⟨z0, z1, z2, z3⟩, _⟩ := boxF hzc2
        obtain ⟨⟨y0, y1, y2, y3⟩, _⟩ := boxF hzd
        clear hzd hzc2 hcd hzc
        go_wp2_with (go_at_call 19; refine HSD.out.mono ?_; rintro e w8 ⟨rfl, hb8⟩; have HB8 := Lib.hid (HC.out w8 (HBd.out.trans (hb8.mono HBd.out.size))).2; clear hb8)
        go_ret
        exact ⟨rfl, HB8.out⟩
      · have hm6 := HNO6.out h3
        subst hm6
        have HB9 := Lib.hid (HC.out w6 HB6.out).2
        go_wp2_with fail
        go_ret
        exact ⟨rfl, HB9.out⟩
    · obtain ⟨hG0, hN0⟩ := HEG.out hE2
      have hd1 : decide (N2 ≤ n) = true := decide_eq_true hN0
      have hd2 : decide ((N2 : Int) ≤ (n : Int)) = true := decide_eq_true (by omega)
      have HS0 := Lib.hid (same_yes (F := G) HOKc.out (by rw [hG0]; exact nil_fiv Wc))
      go_wp2_with (go_at_call 19; refine HS0.out.mono ?_; rintro e w8 ⟨rfl, hb8⟩; have HB8 := Lib.hid (HC.out w8 (HBc.out.trans (hb8.mono HBc.out.size))).2; clear hb8)
      go_ret
      exact ⟨rfl, HB8.out⟩
end Go.Proofs.YtoiolepengcagaaGreatDoor
namespace Go.Proofs.YtoiolepengcagaaGreatDoor
open Go.RowKit Go.Shelf Go.ChangeShapes Go.WideShapes
def wk (l : List ByteArray) : Nat := (l.map fun z => z.size + 1).sum
theorem wk_strs {H : Type} (l : List ByteArray) : wk l = Rows.uptoBulkAll (strs (H := H) l) := by
  induction l with
  | nil => rfl
  | cons a l ih =>
    show a.size + 1 + wk l = _
    rw [ih]
    unfold strs
    simp only [List.map_cons, Rows.uptoBulkAll, Rows.uptoBulk]
    rw [Lib.size_eq]
set_option maxRecDepth 100000 in
theorem nlw_bulk {H : Type} {enc : TypeId × Value → H} {W : World} {fuel : Nat} {v : Value} {d : DataW H} {p : List MemPlace}
    (hf : DataW.trod enc Tryz.prog W 0 (fun _ => true) true fuel 23 [v] = some (d, p))
    (hsz : ∀ n, n ∈ d.weights Tryz.prog 23 → n ≤ reachBytes) : ∃ a len cap zs, v = .slice a len cap ∧ NLw W a len cap zs ∧ len ≤ cap ∧ wk zs + 1 ≤ Rows.uptoBulk d := by
  have ht := Tryz.underlying23
  have he := Tryz.underlying9
  have hc : Tryz.prog.cellsOf 9 = 1 := by kernel_rfl
  obtain ⟨a, len, cap, rfl, ⟨zs, hN⟩, hcap⟩ := nlw_any hf hsz
  refine ⟨a, len, cap, zs, rfl, hN, hcap, ?_⟩
  have hl := hN.at_.len
  rcases open_strings ht he hc hf with ⟨h1, h2⟩ | ⟨ad, ln, cp, ss, h1, h2, h3, h4, h5, h6, h7, h8⟩
  · injection h1 with h1 _
    injection h1 with e1 e2 e3
    subst e1 e2 e3
    injection h2 with h2 _
    subst h2
    have : zs = [] := List.length_eq_zero_iff.1 hl
    subst this
    exact Nat.le_refl _
  · injection h1 with h1 _
    injection h1 with e1 e2 e3
    subst e1 e2 e3
    injection h6 with h6 _
    simp only [if_true] at h5
    have hz : zs = ss.take len := by
      refine List.ext_getElem (by rw [List.length_take]; omega) fun i hi1 hi2 => ?_
      have h0 : 0 < len := by omega
      obtain ⟨b, o, e, _⟩ := hN.plain h0 _ rfl
      subst e
      have k1 := hN.cellAt i hi1
      have k2 := h7 i (by rw [List.length_take] at hi2; omega)
      rw [Addr.add_lit, k1] at k2
      injection k2 with k2
      injection k2 with k2
      rw [List.getD_eq_getElem?_getD, List.getD_eq_getElem?_getD, List.getElem?_eq_getElem hi1, List.getElem?_eq_getElem (by rw [List.length_take] at hi2; omega)] at k2
      rw [List.getElem_take]
      exact k2
    rw [h6, hz, wk_strs (H := H)]
    simp only [Rows.uptoBulk]
    omega
/-- the slice of pairs that a law is handed, and its bulk, each field of a weight that is told -/
theorem p2_bulkw {A B H : Type} {enc : TypeId × Value → H} {P : Program} {W : World} {fuel : Nat} {v : Value} {d : DataW H} {p : List MemPlace} {t e : TypeId} {f0 f1 : Field} (F : A → Value) (G : B → Value) (wf : A → Nat) (wg : B → Nat)
    (ht : P.underlying t = some (.slice e)) (he : P.underlying e = some (.struct #[f0, f1])) (ce : P.cellsOf e = 2) (o0 : f0.offset = 0) (o1 : f1.offset = 1) (c0 : P.cellsOf f0.type = 1) (c1 : P.cellsOf f1.type = 1)
    (hF : ∀ n v x, DataW.trod enc P W 0 (fun _ => true) true n f0.type [v] = some x → (∀ k, k ∈ x.1.weights P f0.type → k ≤ reachBytes) → ∃ a, v = F a ∧ wf a ≤ Rows.uptoBulk x.1)
    (hG : ∀ n v x, DataW.trod enc P W 0 (fun _ => true) true n f1.type [v] = some x → (∀ k, k ∈ x.1.weights P f1.type → k ≤ reachBytes) → ∃ b, v = G b ∧ wg b ≤ Rows.uptoBulk x.1)
    (hby : 16 ≤ P.bytesOf e) (hf : DataW.trod enc P W 0 (fun _ => true) true fuel t [v] = some (d, p)) (hsz : ∀ n, n ∈ d.weights P t → n ≤ reachBytes) :
    ∃ (a : Option Addr) (len cap : Nat) (l : List (A × B)), v = .slice a len cap ∧ len ≤ cap ∧ P2At (fun x => F x.1) (fun x => G x.2) W a len cap l ∧ (l.map fun x => wf x.1 + wg x.2 + 1).sum + 1 ≤ Rows.uptoBulk d := by
  rcases Go.Deep.open_slice_pairs ht he ce o0 o1 c0 c1 hf with ⟨h1, h2⟩ | ⟨ad, len, cap, m, n, V0, V1, D0, D1, P0, P1, h1, hx2, h3, hx4, h5, h6, h7⟩
  · injection h1 with h1 _
    subst h1
    injection h2 with h2 _
    subst h2
    exact ⟨none, 0, 0, [], rfl, Nat.le_refl _, ⟨rfl, fun h => by omega, by omega⟩, by simp [Rows.uptoBulk]⟩
  · injection h1 with h1 _
    subst h1
    simp only [if_true] at h5
    subst h5
    injection h6 with h6 _
    have hel : ∀ i, i < len → ∀ k, k ∈ (DataW.agg [D0 i, D1 i]).weights P e → k ≤ reachBytes := by
      intro i hi k hk
      refine hsz k ?_
      rw [h6, DataW.weights, ht]
      refine List.mem_cons_of_mem _ (List.mem_append_left _ (weightsAll_mem hk ?_))
      exact List.mem_map.2 ⟨i, List.mem_range.2 hi, rfl⟩
    have hex : ∀ i, i < len → ∃ q : A × B, (W.cell? (ad.add (i * 2)) = some (F q.1) ∧ W.cell? (ad.add (i * 2 + 1)) = some (G q.2)) ∧ wf q.1 ≤ Rows.uptoBulk (D0 i) ∧ wg q.2 ≤ Rows.uptoBulk (D1 i) := by
      intro i hi
      obtain ⟨k1, k2, k3, k4⟩ := h7 i (by omega)
      obtain ⟨x, hx, wx⟩ := hF _ _ _ k3 (fun k hk => hel i hi k (by simp only [DataW.weights, he, List.map_cons, List.map_nil, DataW.weightsEach, List.mem_append]; exact .inl hk))
      obtain ⟨y, hy, wy⟩ := hG _ _ _ k4 (fun k hk => hel i hi k (by simp only [DataW.weights, he, List.map_cons, List.map_nil, DataW.weightsEach, List.mem_append]; exact .inr (.inl hk)))
      exact ⟨(x, y), ⟨by rw [k1, hx], by rw [k2, hy]⟩, wx, wy⟩
    obtain ⟨l, hl, hq⟩ := list_of len _ hex
    have hb := hsz ((len + (m - len)) * P.bytesOf e) (by
      rw [h6, DataW.weights, ht]
      simp)
    have hrb : reachBytes < 2 ^ 47 := reachBytes_lt
    have hmul : (len + (m - len)) * 16 ≤ (len + (m - len)) * P.bytesOf e := Nat.mul_le_mul_left _ hby
    refine ⟨some ad, len, m, l, rfl, by omega, ⟨hl, fun hn => ?_, by omega⟩, ?_⟩
    · obtain ⟨b, o, s⟩ := ad
      have hs : s = none := by
        have h0 := (h7 0 (by omega)).1
        simpa [Addr.add] using World.cell?_spot h0
      subst hs
      refine ⟨b, o, rfl, ?_, fun k x hx => ?_⟩
      · have := World.block_lt_of_cell? W _ (h7 0 (by omega)).1
        rwa [block_of_add] at this
      · have := (hq k x hx).1
        rw [Addr.add_lit, Addr.add_lit] at this
        exact this
    · have hsum := bulk_sum (fun x : A × B => wf x.1 + wg x.2 + 1) l ((List.range len).map fun i => DataW.agg [D0 i, D1 i]) (by simp [hl]) (fun i q d' e1 e2 => by
        have hi : i < len := by have := (List.getElem?_eq_some_iff.1 e1).1; omega
        rw [List.getElem?_map, List.getElem?_range hi] at e2
        have e3 : DataW.agg [D0 i, D1 i] = d' := by simpa using e2
        subst e3
        obtain ⟨_, w1, w2⟩ := hq i q e1
        simp only [Rows.uptoBulk, Rows.uptoBulkAll]
        omega)
      rw [h6]
      simp only [Rows.uptoBulk]
      omega
theorem join_wk (X : List ByteArray) : (Lib.join (lst X) [32]).length ≤ wk X := by
  induction X with
  | nil => simp [lst, Lib.join_nil]
  | cons a X ih =>
    have ha : a.size = a.data.toList.length := Lib.size_eq a
    have e : wk (a :: X) = a.size + 1 + wk X := rfl
    rw [e]
    cases X with
    | nil => show (Lib.join [a.data.toList] [32]).length ≤ _; rw [Lib.join_one]; omega
    | cons b X =>
      show (Lib.join (a.data.toList :: b.data.toList :: lst X) [32]).length ≤ _
      have hi' : (Lib.join (b.data.toList :: lst X) [32]).length ≤ wk (b :: X) := ih
      rw [join_two]
      simp only [List.length_append, List.length_cons, List.length_nil]
      omega
theorem wk_app (X Y : List ByteArray) : wk (X ++ Y) = wk X + wk Y := by unfold wk; rw [List.map_append, List.sum_append]
theorem wk_len (X : List ByteArray) : X.length ≤ wk X := sum_len (fun z : ByteArray => z.size + 1) (fun _ => Nat.le_add_left _ _)
def FileA (w : World) (v : Value) (_ : Unit) : Prop := ∃ F, FIv w F v ∧ ∀ x ∈ linesF F, x.length ≤ 1048600
def NLAt (w : World) (v : Value) (_ : Unit) : Prop := ∃ p n c zs, v = .slice p n c ∧ NLw w p n c zs ∧ n ≤ c ∧ ∀ x ∈ zs, x.size ≤ 1048576
set_option maxRecDepth 100000 in
theorem nlat_arg_upto {H : Type} {enc : TypeId × Value → H} {W : World} {r : Reach} {b0 : Nat} {v : Value} {d : DataW H} {p : List MemPlace}
    (_hok : Value.okWide Tryz.prog W r b0 23 v) (hf : DataW.Trod enc Tryz.prog W 0 (fun _ => true) true 23 v d p)
    (hsz : ∀ n, n ∈ d.weights Tryz.prog 23 → n ≤ reachBytes) (hbk : Rows.uptoBulk d ≤ 1048576) : ∃ g, NLAt W v g := by
  obtain ⟨a0, n0, c0, rfl⟩ := Go.WideShapes.okWide_slice Tryz.underlying23 _hok
  obtain ⟨fuel, hf⟩ := hf
  obtain ⟨a, len, cap, zs, hv, hN, hc, hw⟩ := nlw_bulk hf hsz
  refine ⟨(), a, len, cap, zs, hv, hN, hc, fun x hx => ?_⟩
  have := sum_mem (fun z : ByteArray => z.size + 1) hx
  unfold wk at hw
  omega
theorem strb1 {H : Type} {enc : TypeId × Value → H} {W : World} : ∀ n v x, DataW.trod enc Tryz.prog W 0 (fun _ => true) true n 9 [v] = some x → (∀ k, k ∈ x.1.weights Tryz.prog 9 → k ≤ reachBytes) → ∃ a : ByteArray, v = Value.string a ∧ a.size ≤ Rows.uptoBulk x.1 :=
  fun n v x h _ => strb n v x h
set_option maxHeartbeats 4000000 in
set_option maxRecDepth 100000 in
theorem file_arg_upto {H : Type} {enc : TypeId × Value → H} {W : World} {r : Reach} {b0 : Nat} {v : Value} {d : DataW H} {p : List MemPlace}
    (hok : Value.okWide Tryz.prog W r b0 43 v) (hf : DataW.Trod enc Tryz.prog W 0 (fun _ => true) true 43 v d p)
    (hsz : ∀ n, n ∈ d.weights Tryz.prog 43 → n ≤ reachBytes) (hbk : Rows.uptoBulk d ≤ 1048576) : ∃ g, FileA W v g := by
  have ht := Tryz.underlying43
  have hok2 := hok
  simp only [Value.okWide, ht] at hok2
  obtain ⟨cs, rfl, hcs, ts, hts, _, hcell⟩ := hok2
  have hc4 : cs.size = 4 := by rw [hcs]; kernel_rfl
  obtain ⟨fuel, hf⟩ := hf
  obtain ⟨xs, k, _, hxy, hlen, hxl, hff⟩ := DataW.trod_struct ht hf
  obtain ⟨l, rfl⟩ : ∃ l : List Value, cs = l.toArray := ⟨cs.toList, by simp⟩
  have hl4 : l.length = 4 := by simpa using hc4
  match l, hl4, xs, hxl with
  | [v0, v1, v2, v3], _, [y0, y1, y2, y3], _ =>
    have s0 : Tryz.prog.cellsOf 39 = 1 := by kernel_rfl
    have s1 : Tryz.prog.cellsOf 23 = 1 := by kernel_rfl
    have s2 : Tryz.prog.cellsOf 40 = 1 := by kernel_rfl
    have s3 : Tryz.prog.cellsOf 41 = 1 := by kernel_rfl
    have g0 := hff 0 _ rfl
    have g1 := hff 1 _ rfl
    have g2 := hff 2 _ rfl
    have g3 := hff 3 _ rfl
    simp [s0, s1, s2, s3, Value.cells] at g0 g1 g2 g3
    injection hxy with hd _
    subst hd
    have hw : ∀ n, (n ∈ y0.1.weights Tryz.prog 39 ∨ n ∈ y1.1.weights Tryz.prog 23 ∨ n ∈ y2.1.weights Tryz.prog 40 ∨ n ∈ y3.1.weights Tryz.prog 41) → n ≤ reachBytes := by
      intro n hn
      refine hsz n ?_
      simp only [DataW.weights, ht, List.map_cons, List.map_nil, DataW.weightsEach, List.mem_append]
      rcases hn with h | h | h | h
      · exact .inl h
      · exact .inr (.inl h)
      · exact .inr (.inr (.inl h))
      · exact .inr (.inr (.inr (.inl h)))
    simp only [List.map_cons, List.map_nil, Rows.uptoBulk, Rows.uptoBulkAll] at hbk
    obtain ⟨a0, n0, c0, l0, rfl, _, h0, b0'⟩ := p2_bulkw (A := ByteArray) (B := ByteArray) (fun a => Value.string a) (fun a => Value.string a) (fun a => a.size) (fun a => a.size) Tryz.underlying39 Tryz.underlying86 (by kernel_rfl) rfl rfl (by kernel_rfl) (by kernel_rfl) strb1 strb1 (by decide +kernel) g0 (fun n hn => hw n (.inl hn))
    obtain ⟨a1, n1, c1, z1, rfl, h1, h1c, b1'⟩ := nlw_bulk g1 (fun n hn => hw n (.inr (.inl hn)))
    obtain ⟨a2, n2, c2, l2, rfl, _, h2, b2'⟩ := p2_bulkw (A := ByteArray) (B := ByteArray) (fun a => Value.string a) (fun a => Value.string a) (fun a => a.size) (fun a => a.size) Tryz.underlying40 Tryz.underlying100 (by kernel_rfl) rfl rfl (by kernel_rfl) (by kernel_rfl) strb1 strb1 (by decide +kernel) g2 (fun n hn => hw n (.inr (.inr (.inl hn))))
    have hS : ∀ n v x, DataW.trod enc Tryz.prog W 0 (fun _ => true) true n 23 [v] = some x → (∀ k, k ∈ x.1.weights Tryz.prog 23 → k ≤ reachBytes) → ∃ a : {x : Hd // x.ok W}, v = a.1.v ∧ wk a.1.zs ≤ Rows.uptoBulk x.1 := by
      rintro n v ⟨d, p⟩ h hw
      obtain ⟨a, len, cap, zs, rfl, hN, hc, hb⟩ := nlw_bulk h hw
      exact ⟨⟨⟨a, len, cap, zs⟩, hN, hc⟩, rfl, by show wk zs ≤ _; simp only at hb ⊢; omega⟩
    obtain ⟨a3, n3, c3, l3, rfl, h3c, h3, b3'⟩ := p2_bulkw (A := {x : Hd // x.ok W}) (B := {x : Hd // x.ok W}) (fun a => a.1.v) (fun a => a.1.v) (fun a => wk a.1.zs) (fun a => wk a.1.zs) Tryz.underlying41 Tryz.underlying61 (by kernel_rfl) rfl rfl (by kernel_rfl) (by kernel_rfl) hS hS (by decide +kernel) g3 (fun n hn => hw n (.inr (.inr (.inr hn))))
    have m0 : ∀ x ∈ l0, x.1.size + x.2.size + 1 ≤ 1048576 := fun x hx => by
      have := sum_mem (fun x : ByteArray × ByteArray => x.1.size + x.2.size + 1) hx
      omega
    have m2 : ∀ x ∈ l2, x.1.size + x.2.size + 1 ≤ 1048576 := fun x hx => by
      have := sum_mem (fun x : ByteArray × ByteArray => x.1.size + x.2.size + 1) hx
      omega
    have m3 : ∀ x ∈ l3, wk x.1.1.zs + wk x.2.1.zs + 1 ≤ 1048576 := fun x hx => by
      have := sum_mem (fun x : {x : Hd // x.ok W} × {x : Hd // x.ok W} => wk x.1.1.zs + wk x.2.1.zs + 1) hx
      omega
    have e0 := sum_len (fun x : ByteArray × ByteArray => x.1.size + x.2.size + 1) (l := l0) (fun x => by omega)
    have e2 := sum_len (fun x : ByteArray × ByteArray => x.1.size + x.2.size + 1) (l := l2) (fun x => by omega)
    have e3 := sum_len (fun x : {x : Hd // x.ok W} × {x : Hd // x.ok W} => wk x.1.1.zs + wk x.2.1.zs + 1) (l := l3) (fun x => by omega)
    have e1 := wk_len z1
    have q0 := h0.len
    have q1 := h1.at_.len
    have q2 := h2.len
    have q3 := h3.len
    refine ⟨(), ⟨l0.map fun x => (x.1.data.toList, x.2.data.toList), z1, l2, l3.map fun x => (x.1.1.zs, x.2.1.zs)⟩, ⟨a0, n0, c0, a1, n1, c1, a2, n2, c2, a3, n3, c3, l3.map fun x => (x.1.1, x.2.1), rfl, ⟨⟨by rw [List.length_map]; exact h0.len, fun hp => ?_, h0.big⟩, h1, h2, ⟨⟨by rw [List.length_map]; exact h3.len, fun hp => ?_, h3.big⟩, fun x hx => ?_, h3c⟩, ?_⟩, h1c, ⟨by omega, by omega, by omega, by omega⟩, fun x hx => ?_⟩, fun x hx => ?_⟩
    · obtain ⟨b, o, e, hb, hc⟩ := h0.at_ hp
      refine ⟨b, o, e, hb, fun k x hx => ?_⟩
      rw [List.getElem?_map, Option.map_eq_some_iff] at hx
      obtain ⟨y, hy, rfl⟩ := hx
      have := hc k y hy
      unfold mF mG
      simp only [list_txt]
      exact this
    · obtain ⟨b, o, e, hb, hc⟩ := h3.at_ hp
      refine ⟨b, o, e, hb, fun k x hx => ?_⟩
      rw [List.getElem?_map, Option.map_eq_some_iff] at hx
      obtain ⟨y, hy, rfl⟩ := hx
      exact hc k y hy
    · obtain ⟨y, _, rfl⟩ := List.mem_map.1 hx
      exact ⟨y.1.2, y.2.2⟩
    · rw [List.map_map]
      rfl
    · obtain ⟨y, hy, rfl⟩ := List.mem_map.1 hx
      have := m3 y hy
      have := wk_len y.1.1.zs
      have := wk_len y.2.1.zs
      exact ⟨by show y.1.1.zs.length ≤ _; omega, by show y.2.1.zs.length ≤ _; omega⟩
    · rw [linesF_eq] at hx
      simp only [List.mem_append, List.mem_map] at hx
      rcases hx with ((⟨m, ⟨y, hy, rfl⟩, rfl⟩ | hx) | ⟨m, hm, rfl⟩) | ⟨q, ⟨y, hy, rfl⟩, rfl⟩
      · have := m0 y hy
        rw [Lib.size_eq, Lib.size_eq] at this
        unfold ln1
        simp only [List.length_append, List.length_cons, List.length_nil]
        omega
      · split at hx
        · cases hx
        · rw [List.mem_singleton.1 hx]
          have := join_wk z1
          unfold ln2
          have e : phonyS.data.toList.length = 6 := rfl
          simp only [List.length_append, List.length_cons, List.length_nil]
          omega
      · have := m2 m hm
        rw [Lib.size_eq, Lib.size_eq] at this
        unfold ln3
        simp only [List.length_append, List.length_cons, List.length_nil]
        omega
      · have h5 := m3 y hy
        have h6 := join_wk (y.1.1.zs ++ [(⟨#[58]⟩ : ByteArray)] ++ y.2.1.zs)
        rw [wk_app, wk_app] at h6
        have h7 : wk [(⟨#[58]⟩ : ByteArray)] = 2 := rfl
        show (ruleT y.1.1.zs y.2.1.zs).length ≤ _
        have h8 : (ruleT y.1.1.zs y.2.1.zs).length ≤ wk y.1.1.zs + wk [(⟨#[58]⟩ : ByteArray)] + wk y.2.1.zs := h6
        omega
end Go.Proofs.YtoiolepengcagaaGreatDoor
namespace Go.Proofs.YtoiolepengcagaaGreatDoor
open Go.RowKit Go.Shelf Go.Maps
theorem fileBack_law (w : World) (v0 v1 : Value) (hM : MLm w) (hML : ML w) (h0 : ∃ g, FileA w v0 g) (h1 : ∃ g, NLAt w v1 g) :
    Calls Tryz.prog 5 #[v0, v1] w fun e w' => e = .returned (.bool true) ∧ Below w.heap.size w w' := by
  obtain ⟨_, F, hF, hz⟩ := h0
  obtain ⟨_, p, n, c, zs, rfl, hn, _, hs⟩ := h1
  obtain ⟨a1, a2, a3, b1, b2, b3, c1, c2, c3, d1, d2, d3, rfl⟩ := hF.agg
  exact fileBack_ok F _ _ _ _ p n c zs w hF hn hM hML hz hs
end Go.Proofs.YtoiolepengcagaaGreatDoor
