/- Texts joined: FilesW, FilePrW, FileLenW, MakeQ, GraphRowsW, NameFindW. Conditions: theirs. -/
import Derived.Test.YtoiolepengcagaaGreatDoorGraphRightLWM11
import Derived.Test.YtoiolepengcagaaGreatDoorGraphRightLWM10
import Derived.Test.YtoiolepengcagaaGreatDoorGraphRightLWM6
import Derived.Test.YtoiolepengcagaaGreatDoorGraphRightLWM9
import Derived.Test.YtoiolepengcagaaGreatDoorGraphRightLWM4
import Derived.Test.YtoiolepengcagaaGreatDoorNLArg
namespace Go.Proofs.YtoiolepengcagaaGreatDoor
open Go.RowKit Go.Shelf Go.Maps
def abT : Bs := [97, 32, 58, 32, 98]
theorem ab_expand : expandE okM [] abT = (0, abT) := by
  have hT : TabOk okM [] := ⟨by simp, fun m hm => (by cases hm), List.nodup_nil, fun m hm => (by cases hm), fun m hm => (by cases hm)⟩
  have hL : ¬ Larges okM [] := by rintro ⟨m, hm, _⟩; cases hm
  have hp : prs okM abT = ([.t abT], true) := prs_last (by decide)
  have hz : (expandR okM (namesM []) (flatF okM []) abT).1 = 0 := by
    rw [expandR_zero, hp]
    refine ⟨rfl, fun u hu => ?_, ?_⟩
    · simp [callsOf] at hu
    · simp [lrg, noneT, evalT, pieceM, abT]
  rw [expandE_at ⟨hT, hL⟩]
  refine Prod.ext hz ?_
  rw [expandR_text, if_pos hz, hp]
  simp [evalT, pieceM]
theorem ab_flats : flatsE okM [] = 0 := flatsE_zero.2 ⟨⟨by simp, fun m hm => (by cases hm), List.nodup_nil, fun m hm => (by cases hm), fun m hm => (by cases hm)⟩, by rintro ⟨m, hm, _⟩; cases hm⟩
theorem ab_file : parseF [abT] = ({ file0 with rs := [([(⟨#[97]⟩ : ByteArray)], [(⟨#[98]⟩ : ByteArray)])] }, 0, 0) := by
  have hd : defB abT = false := by decide
  have hm : macsF [abT] = [] := by unfold macsF; rw [List.filter_cons_of_neg (by rw [hd]; decide)]; rfl
  rw [parseF_g (by decide) (by rw [hm]; exact ab_flats), hm]
  obtain ⟨p1, p2, p3⟩ := parse_print ab_ok
  rw [ab_text] at p1 p2 p3
  have hl : lineF [] abT { file0 with ms := [] } = ({ file0 with rs := [([(⟨#[97]⟩ : ByteArray)], [(⟨#[98]⟩ : ByteArray)])] }, 0) := by
    rw [lineF_a (by rw [ab_expand]) (by rw [ab_expand]; exact p1), ab_expand]
    show addF _ (parseT [97, 32, 58, 32, 98]) (parseN [97, 32, 58, 32, 98]) = _
    rw [p2, p3, addF_r (by decide) (fun h => by cases h.2.2)]
    rfl
  rw [parseGo, hd, if_neg (by decide), hl, if_neg (by decide), parseGo]
theorem x_read : readR (fun _ => none) 0 [] 0 [] [120] = (1, [[120]], 0) := by
  rw [readR_eq, if_neg (by decide), show txsL [120] = [[120]] by decide, readG_text _ _ _ _ _ _ (by decide), if_neg (by decide), readG_nil]
  rfl
set_option maxHeartbeats 4000000 in
set_option maxRecDepth 100000 in
theorem files_ok (w : World) (hM : ML w) : Calls Tryz.prog 7 #[] w fun e w' => e = .returned (.bool true) ∧ Below w.heap.size w w' := by
  obtain ⟨W, hW⟩ : ∃ W, W = w.alloc (.cells #[.string ⟨#[97, 32, 58, 32, 98]⟩] 9) := ⟨_, rfl⟩
  have hbW : Below w.heap.size w W := by rw [hW]; exact rb1w _ _
  have hn : NL W (some ⟨w.heap.size, 0, none⟩) 1 1 [⟨#[97, 32, 58, 32, 98]⟩] := by rw [hW]; exact NL_one w _ (by decide)
  have hp := ParseF_ok (some ⟨w.heap.size, 0, none⟩) 1 1 [⟨#[97, 32, 58, 32, 98]⟩] W hn.weak (hM.below hbW) (fun z hz => by rw [List.mem_singleton.1 hz]; decide)
  rw [show lsB [(⟨#[97, 32, 58, 32, 98]⟩ : ByteArray)] = [abT] from rfl] at hp
  have HP : Hid (Calls Tryz.prog 18 #[.slice (some ⟨w.heap.size, 0, none⟩) 1 1] W fun e w' => (∃ pm nm cm pp np cp pi ni ci pr cr, e = .returned (.tuple #[.agg #[.slice pm nm cm, .slice pp np cp, .slice pi ni ci, .slice pr 1 cr], .int .i64 0, .int .i64 0])) ∧ Below W.heap.size W w') := by
    show Calls _ _ _ _ _
    refine hp.mono ?_
    rintro e w' ⟨⟨v, he, hv⟩, hb⟩
    rw [ab_file] at he hv
    rcases hv with ⟨hv, _⟩ | ⟨_, base, B, s, rl, _, _, rfl⟩
    · exact absurd rfl hv
    · exact ⟨⟨_, _, _, _, _, _, _, _, _, _, _, he⟩, hb⟩
  have HLN : Hid (∀ u : World, Below W.heap.size W u → Calls Tryz.prog 8 #[.string ⟨#[120]⟩, .slice none 0 0] u fun e w' => (∃ p c, e = .returned (.tuple #[.slice p 1 c, .int .i64 0])) ∧ Below u.heap.size u w') := by
    show ∀ u : World, _
    intro u hu
    have := LinesN_ok ⟨#[120]⟩ (by decide) u ((hM.below hbW).below hu)
    rw [show (⟨#[120]⟩ : ByteArray).data.toList = [120] from rfl, x_read] at this
    refine this.mono ?_
    rintro e w' ⟨⟨h1, _⟩ | ⟨_, _, p, c, h2, _⟩, hb⟩
    · exact absurd rfl h1
    · exact ⟨⟨p, c, h2⟩, hb⟩
  have HBW := Lib.hid hbW
  clear hp hn hbW
  go_enter Tryz.func7, Tryz.ntmps7
  go_upto_region 2 with (go_at_call 18; rw [← hW]; refine HP.out.mono ?_; rintro e w1 ⟨⟨pm, nm, cm, pp, np, cp, pi, ni, ci, pr, cr, rfl⟩, hb⟩; have HB1 := Lib.hid hb; clear hb)
  clear hW
  obtain ⟨V, hV⟩ : ∃ V, V = w1.alloc (.cells #[.slice pm nm cm, .slice pp np cp, .slice pi ni ci, .slice pr 1 cr] 43) := ⟨_, rfl⟩
  have HBV : Hid (Below W.heap.size W V) := by show Below _ _ _; rw [hV]; exact HB1.out.alloc HB1.out.size _
  have hz : V.heap[w1.heap.size]? = some (.cells #[.slice pm nm cm, .slice pp np cp, .slice pi ni ci, .slice pr 1 cr] 43 (0, 0)) := by rw [hV]; exact rb_new _ _
  have hlt : w1.heap.size < V.heap.size := by rw [hV]; simp
  rw [← hV]
  clear hV
  have HZ := Lib.hid hz
  clear hz
  go_upto_region 3 with (go_at_call 8; refine (HLN.out _ HBV.out).mono ?_; rintro e w3 ⟨⟨p3, c3, rfl⟩, hb⟩; have HB3 := Lib.hid (HBV.out.trans (hb.mono HBV.out.size)); obtain ⟨⟨b0, b1, b2, b3⟩, b4⟩ := boxF (show w3.heap[w1.heap.size]? = _ from by rw [hb.block _ hlt]; exact HZ.out); clear hb)
  go_wp2
  go_ret
  exact ⟨rfl, HBW.out.trans (HB3.out.mono HBW.out.size)⟩
end Go.Proofs.YtoiolepengcagaaGreatDoor
namespace Go.Proofs.YtoiolepengcagaaGreatDoor
open Go.RowKit Go.Shelf Go.Maps
theorem concat_threeW {w : World} {B : Nat} {p q g : Option Addr} {n c m d k e : Nat} {T M N : List ByteArray} (h1 : NLw w p n c T) (h3 : NLw w g k e M) (h2 : NLw w q m d N) (hsum : n + k + m ≤ 8796093022208)
    (c1 : w.cell? ⟨B, 0, none⟩ = some (.slice p n c)) (c2 : w.cell? ⟨B, 1, none⟩ = some (.slice g k e)) (c3 : w.cell? ⟨B, 2, none⟩ = some (.slice q m d)) (hB : B < w.heap.size) :
    Calls Tryz.prog 11 #[.slice (some ⟨B, 0, none⟩) 3 3] w (CatPost w (T ++ M ++ N)) := by
  have l1 := h1.at_.len
  have l2 := h2.at_.len
  have l3 := h3.at_.len
  subst l1 l2 l3
  have hP : CParts w B (threeP p q g T.length c N.length d M.length e T M N) := by
    refine ⟨fun k hk => ?_, fun k hk => ?_⟩
    · match k, hk with
      | 0, _ => exact h1
      | 1, _ => exact h3
      | 2, _ => exact h2
    · match k, hk with
      | 0, _ => exact c1
      | 1, _ => exact c2
      | 2, _ => exact c3
  have := concatN_ok B _ w (by unfold threeP; simp) hP (by rw [cat_three, List.length_append, List.length_append]; omega) hB
  rw [cat_three] at this
  exact this
theorem join_nlw {w : World} {p : Option Addr} {n c : Nat} {us : List ByteArray} (h : NLw w p n c us) (h0 : 0 < n) (hn : n ≤ c) (hlen : (Lib.join (lsB us) [32]).length ≤ 140737488355328) :
    Calls Tryz.prog 81 #[.slice p n c, .string ⟨#[32]⟩] w fun e w' => e = .returned (.string (txt (Lib.join (lsB us) [32]))) ∧ Below w.heap.size w w' := by
  have hl := h.at_.len
  have hb := h.at_.big
  subst hl
  obtain ⟨ad, rfl, _⟩ := h.at_.reads.2 h0
  obtain ⟨b, o, rfl, hlt⟩ := h.plain h0 _ rfl
  exact Tryz.strings_Join b o c us ⟨#[32]⟩ w (fun j x hx => by
    have hj := (List.getElem?_eq_some_iff.1 hx).1
    rw [h.cellAt j hj, List.getD_eq_getElem?_getD, hx]
    rfl) hlt (by omega) (by omega) hlen
/-- a list of texts of the call's own, while it is filled -/
def OutL (w : World) (base : Nat) (v : Value) (o : List Bs) : Prop := w.ownsRow base 9 1 v o.length (strsV (o.map txt))
theorem OutL.below {w w' : World} {base : Nat} {v : Value} {o : List Bs} (h : OutL w base v o) (hb : Below w.heap.size w w') : OutL w' base v o := own_belowR h hb
def ln1 (m : Mac) : Bs := m.1 ++ [32, 61, 32] ++ m.2
def ln2 (P : List ByteArray) : Bs := phonyS.data.toList ++ [32, 58, 32] ++ Lib.join (lsB P) [32]
def ln3 (x : Inf) : Bs := x.1.data.toList ++ x.2.data.toList ++ [32, 58]
def ln4 (r : List ByteArray × List ByteArray) : Bs := ruleT r.1 r.2
theorem linesF_eq (F : FileV) : linesF F = F.ms.map ln1 ++ (if F.ph = [] then [] else [ln2 F.ph]) ++ F.inf.map ln3 ++ F.rs.map ln4 := rfl
theorem map_next {α β : Type} {f : α → β} {l : List α} {k : Nat} {x : α} (h : l[k]? = some x) : (l.take (k + 1)).map f = (l.take k).map f ++ [f x] := by rw [take_snoc h, List.map_append]; rfl
theorem OutL.step {w5 : World} {base : Nat} {v' : Value} {o : List Bs} {x : Bs} (ho : w5.ownsRow base 9 1 v' (o.length + 1) (strsV (o.map txt ++ [txt x]))) : OutL w5 base v' (o ++ [x]) := by
  unfold OutL
  rw [List.length_append, List.map_append]
  exact ho
set_option maxHeartbeats 16000000 in
set_option maxRecDepth 100000 in
theorem lines_ok (F : FileV) (w : World) (pm pp pi pr : Option Addr) (nm cm np cp ni ci nr cr : Nat) (hl : List (Hd × Hd)) (h : FileIn w F pm nm cm pp np cp pi ni ci pr nr cr hl) (hcp : np ≤ cp)
    (hz : ∀ x ∈ linesF F, x.length ≤ 1048600) (hn : nm ≤ 1048576 ∧ np ≤ 1048576 ∧ ni ≤ 1048576 ∧ nr ≤ 1048576) (hrz : ∀ x ∈ hl, x.1.zs.length ≤ 1048576 ∧ x.2.zs.length ≤ 1048576) :
    Calls Tryz.prog 48 #[.agg #[.slice pm nm cm, .slice pp np cp, .slice pi ni ci, .slice pr nr cr]] w fun e w' => (∃ p c, e = .returned (.slice p (linesF F).length c) ∧ NL w' p (linesF F).length c ((linesF F).map txt)) ∧ Below w.heap.size w w' := by
  obtain ⟨hn1, hn2, hn3, hn4⟩ := hn
  obtain ⟨W, hW⟩ : ∃ W, W = w.alloc (.cells #[.slice pm nm cm, .slice pp np cp, .slice pi ni ci, .slice pr nr cr] 43) := ⟨_, rfl⟩
  have hb0 : Below w.heap.size w W := by rw [hW]; exact rb1w _ _
  have hs0 : W.heap.size = w.heap.size + 1 := by rw [hW]; simp
  have hz0 : W.heap[w.heap.size]? = some (.cells #[.slice pm nm cm, .slice pp np cp, .slice pi ni ci, .slice pr nr cr] 43 (0, 0)) := by rw [hW]; exact rb_new w _
  have HC : Hid (∀ u : World, Below W.heap.size W u → (u.cell? ⟨w.heap.size, 0, none⟩ = some (.slice pm nm cm) ∧ u.cell? ⟨w.heap.size, 1, none⟩ = some (.slice pp np cp) ∧ u.cell? ⟨w.heap.size, 2, none⟩ = some (.slice pi ni ci) ∧ u.cell? ⟨w.heap.size, 3, none⟩ = some (.slice pr nr cr)) ∧ Below w.heap.size w u ∧ FileIn u F pm nm cm pp np cp pi ni ci pr nr cr hl) := by
    show ∀ u : World, _
    intro u hu
    have hbu : Below w.heap.size w u := hb0.trans (hu.mono (by omega))
    have g0 : u.heap[w.heap.size]? = some (.cells #[.slice pm nm cm, .slice pp np cp, .slice pi ni ci, .slice pr nr cr] 43 (0, 0)) := by rw [hu.block _ (by omega)]; exact hz0
    exact ⟨(boxF g0).1, hbu, h.below hbu⟩
  have HLZ := Lib.hid hz
  have HRZ := Lib.hid hrz
  have hlm := h.ms.len
  have hlp := h.ph.at_.len
  have hli := h.inf.len
  have hlr := h.rs.at_.len
  have HSM := Lib.hid h.same
  have HZ1 : Hid (∀ (k : Nat) (x : Mac), F.ms[k]? = some x → (ln1 x).length ≤ 1048600) := by
    show ∀ (k : Nat) (x : Mac), _
    exact fun k x hx => hz _ (by rw [linesF_eq]; simp only [List.mem_append, List.mem_map]; exact .inl (.inl (.inl ⟨x, List.mem_of_getElem? hx, rfl⟩)))
  have HZ2 : Hid (F.ph ≠ [] → (ln2 F.ph).length ≤ 1048600) := by
    show _ → _
    exact fun hp => hz _ (by rw [linesF_eq, if_neg hp]; simp)
  have HZ3 : Hid (∀ (k : Nat) (x : Inf), F.inf[k]? = some x → (ln3 x).length ≤ 1048600) := by
    show ∀ (k : Nat) (x : Inf), _
    exact fun k x hx => hz _ (by rw [linesF_eq]; simp only [List.mem_append, List.mem_map]; exact .inl (.inr ⟨x, List.mem_of_getElem? hx, rfl⟩))
  have HZ4 : Hid (∀ (k : Nat) (x : Hd × Hd), hl[k]? = some x → (ln4 (rl x)).length ≤ 1048600) := by
    show ∀ (k : Nat) (x : Hd × Hd), _
    exact fun k x hx => hz _ (by rw [linesF_eq]; simp only [List.mem_append, List.mem_map]; exact .inr ⟨rl x, by rw [← h.same]; exact List.mem_map.2 ⟨x, List.mem_of_getElem? hx, rfl⟩, rfl⟩)
  have HWS := Lib.hid hs0
  subst hlm hlp hli hlr
  clear h hb0 hs0 hz0 hz hrz
  obtain ⟨⟨c0, c1, c2, c3⟩, _⟩ := HC.out W (Below.refl _ _)
  have HB0 : Hid (Below W.heap.size W W) := Below.refl _ _
  go_enter Tryz.func48, Tryz.ntmps48
  go_upto_region 1 with fail
  rw [← hW]
  clear hW
  go_wp2_with fail
  go_loopw [13, 3] (fun i v wr => ∃ k : Nat, k ≤ F.ms.length ∧ i = .int .i64 k ∧ Hid (OutL wr W.heap.size v ((F.ms.take k).map ln1)) ∧ Hid (Below W.heap.size W wr)) (fun i _ _ => F.ms.length - (intOf i).toNat)
  case atStart => exact ⟨0, Nat.zero_le _, rfl, World.ownsRow_nil _ _ _ _, Below.refl _ _⟩
  case round =>
    obtain ⟨k, hk, rfl, HO, HB⟩ := hrel
    clear c0 c1 c2 c3
    obtain ⟨⟨c0, c1, c2, c3⟩, _, hfi⟩ := HC.out wr HB.out
    by_cases hlt : k < F.ms.length
    · obtain ⟨x, hx⟩ : ∃ x, F.ms[k]? = some x := ⟨_, List.getElem?_eq_getElem hlt⟩
      obtain ⟨bb, ob, rfl, hbb, hca, hcb⟩ := hfi.ms.cell hx
      rw [← Nat.add_assoc] at hcb
      have hlx := HZ1.out k x hx
      have HNX := Lib.hid (map_next (f := ln1) hx)
      clear hx hfi
      obtain ⟨m1, m2⟩ := x
      simp only [mF, mG] at hca hcb
      have hll : m1.length + 3 + m2.length ≤ 1048600 := by unfold ln1 at hlx; simp only [List.length_append, List.length_cons, List.length_nil] at hlx; omega
      obtain ⟨A1, a1, r1⟩ := cat_run2 (P := Tryz.prog) (txt m1) ⟨#[32, 61, 32]⟩ (by rw [txt_size]; show _ + 3 ≤ _; omega)
      obtain ⟨A2, a2, r2⟩ := cat_run2 (P := Tryz.prog) A1 (txt m2) (by rw [a1, ByteArray.size_append, txt_size, txt_size]; show _ + 3 + _ ≤ _; omega)
      have HA : Hid (A2 = txt (ln1 (m1, m2))) := by
        show _ = _
        rw [a2, a1, show (⟨#[32, 61, 32]⟩ : ByteArray) = txt [32, 61, 32] from rfl, txt_app, txt_app]
        rfl
      have hll2 : ((F.ms.take k).map ln1).length ≤ 1048576 := by rw [List.length_map, List.length_take]; omega
      clear a1 a2 hlx
      generalize (F.ms.take k).map ln1 = o at *
      obtain ⟨vo, hvo⟩ : ∃ vo, vo = u3 := ⟨_, rfl⟩
      subst hvo
      obtain ⟨X, hX⟩ : ∃ X, X = wr.alloc (.cells #[.string (txt m1), .string (txt m2)] 86) := ⟨_, rfl⟩
      have hbX : Below wr.heap.size wr X := by rw [hX]; exact rb1w _ _
      obtain ⟨x1, x2, x3⟩ := rb_cells (show X.heap[wr.heap.size]? = some (.cells #[.string (txt m1), .string (txt m2)] 86 (0, 0)) from by rw [hX]; exact rb_new _ _)
      have HOA : Hid (OutL (X.alloc (.cells #[.string A2] 9)) W.heap.size vo o) := (HO.out.below hbX).below (rb1w X _)
      have HBA : Hid (Below W.heap.size W (X.alloc (.cells #[.string A2] 9))) := (HB.out.trans (hbX.mono HB.out.size)).alloc (by have := HB.out.size; have := hbX.size; omega) _
      go_upto_region 5 with fail
      rw [← hX]
      clear hX hca hcb hbX
      go_wp2_with (at_builtin; refine app_strL _ rfl _ _ rfl W.heap.size _ o.length (o.map txt) rfl HOA.out X.heap.size A2 rfl ?c1 (by omega) HBA.out.size ?_; rotate_right; intro v' w5 hown5 hgrow5 _; have HO5 := Lib.hid hown5; have HB5 := Lib.hid (HBA.out.grown hgrow5 HBA.out.size (fun j hj => (HOA.out.lt j hj).1)); clear hown5 hgrow5)
      case c1 => rw [World.cell?_alloc_at _ _ _ _ rfl]; rfl
      go_roundw
      case rel => exact ⟨k + 1, by omega, by go_num, by rw [HNX.out]; have h := HO5.out; rw [HA.out] at h; exact OutL.step h, HB5.out⟩
      case measure => simp [intOf]; omega
    · obtain rfl : k = F.ms.length := by omega
      rw [List.take_length] at HO
      clear hfi
      obtain ⟨vo, hvo⟩ : ∃ vo, vo = u3 := ⟨_, rfl⟩
      subst hvo
      by_cases hp : F.ph = []
      · have hp0 : F.ph.length = 0 := by rw [hp]; rfl
        have HP := Lib.hid hp
        have HP0 := Lib.hid hp0
        have hd : decide (0 < F.ph.length) = false := decide_eq_false (by omega)
        have HL9 := Lib.hid (show (F.ms.map ln1).length ≤ 2097152 from by rw [List.length_map]; omega)
        have HO9 := HO
        have HB9 := HB
        clear HO HB hp hp0
        go_wp2_with fail
        go_loopw [41, 3] (fun i v wr => ∃ k : Nat, k ≤ F.inf.length ∧ i = .int .i64 k ∧ Hid (OutL wr W.heap.size v (F.ms.map ln1 ++ (F.inf.take k).map ln3)) ∧ Hid (Below W.heap.size W wr)) (fun i _ _ => F.inf.length - (intOf i).toNat)
        case atStart => exact ⟨0, Nat.zero_le _, rfl, by rw [List.take_zero, List.map_nil, List.append_nil]; exact HO9.out, HB9.out⟩
        case round =>
          obtain ⟨k, hk, rfl, HO, HB⟩ := hrel
          clear c0 c1 c2 c3
          obtain ⟨⟨c0, c1, c2, c3⟩, _, hfi⟩ := HC.out wr HB.out
          by_cases hlt : k < F.inf.length
          · obtain ⟨x, hx⟩ : ∃ x, F.inf[k]? = some x := ⟨_, List.getElem?_eq_getElem hlt⟩
            obtain ⟨bb, ob, rfl, hbb, hca, hcb⟩ := hfi.inf.cell hx
            rw [← Nat.add_assoc] at hcb
            have hlx := HZ3.out k x hx
            have HNX := Lib.hid (map_next (f := ln3) hx)
            clear hx hfi
            obtain ⟨m1, m2⟩ := x
            simp only [iF, iG] at hca hcb
            have hll : m1.size + m2.size + 2 ≤ 1048600 := by unfold ln3 at hlx; simp only [List.length_append, List.length_cons, List.length_nil, ba_len] at hlx; omega
            obtain ⟨A1, a1, r1⟩ := cat_run2 (P := Tryz.prog) m1 m2 (by omega)
            obtain ⟨A2, a2, r2⟩ := cat_run2 (P := Tryz.prog) A1 ⟨#[32, 58]⟩ (by rw [a1, ByteArray.size_append]; show _ + 2 ≤ _; omega)
            have HA : Hid (A2 = txt (ln3 (m1, m2))) := by
              show _ = _
              rw [a2, a1, show (⟨#[32, 58]⟩ : ByteArray) = txt [32, 58] from rfl, ← list_txt m1, ← list_txt m2, txt_app, txt_app]
              unfold ln3
              simp only [txt_list]
            obtain ⟨o, ho⟩ : ∃ o, o = F.ms.map ln1 ++ (F.inf.take k).map ln3 := ⟨_, rfl⟩
            have hll2 : o.length ≤ 4194304 := by rw [ho, List.length_append]; have := HL9.out; have e : ((F.inf.take k).map ln3).length ≤ F.inf.length := (by rw [List.length_map, List.length_take]; exact Nat.min_le_right _ _); omega
            have HON : Hid (F.ms.map ln1 ++ (F.inf.take (k + 1)).map ln3 = o ++ [ln3 (m1, m2)]) := by show _ = _; rw [HNX.out, ← List.append_assoc, ← ho]
            rw [← ho] at HO
            clear a1 a2 hlx HNX ho
            obtain ⟨vo, hvo⟩ : ∃ vo, vo = u3 := ⟨_, rfl⟩
            subst hvo
            obtain ⟨X, hX⟩ : ∃ X, X = wr.alloc (.cells #[.string m1, .string m2] 100) := ⟨_, rfl⟩
            have hbX : Below wr.heap.size wr X := by rw [hX]; exact rb1w _ _
            obtain ⟨x1, x2, x3⟩ := rb_cells (show X.heap[wr.heap.size]? = some (.cells #[.string m1, .string m2] 100 (0, 0)) from by rw [hX]; exact rb_new _ _)
            have HOA : Hid (OutL (X.alloc (.cells #[.string A2] 9)) W.heap.size vo o) := (HO.out.below hbX).below (rb1w X _)
            have HBA : Hid (Below W.heap.size W (X.alloc (.cells #[.string A2] 9))) := (HB.out.trans (hbX.mono HB.out.size)).alloc (by have := HB.out.size; have := hbX.size; omega) _
            go_upto_region 12 with fail
            rw [← hX]
            clear hX hca hcb hbX
            go_wp2_with (at_builtin; refine app_strL _ rfl _ _ rfl W.heap.size _ o.length (o.map txt) rfl HOA.out X.heap.size A2 rfl ?ca1 (by omega) HBA.out.size ?_; rotate_right; intro v' w5 hown5 hgrow5 _; have HO5 := Lib.hid hown5; have HB5 := Lib.hid (HBA.out.grown hgrow5 HBA.out.size (fun j hj => (HOA.out.lt j hj).1)); clear hown5 hgrow5)
            case ca1 => rw [World.cell?_alloc_at _ _ _ _ rfl]; rfl
            go_roundw
            case rel => exact ⟨k + 1, by omega, by go_num, by rw [HON.out]; have h := HO5.out; rw [HA.out] at h; exact OutL.step h, HB5.out⟩
            case measure => simp [intOf]; omega
          · obtain rfl : k = F.inf.length := by omega
            rw [List.take_length] at HO
            obtain ⟨o8, ho8⟩ : ∃ o8, o8 = F.ms.map ln1 ++ F.inf.map ln3 := ⟨_, rfl⟩
            have HL8 := Lib.hid (show o8.length ≤ 4194304 from by rw [ho8, List.length_append]; have := HL9.out; have e : (F.inf.map ln3).length = F.inf.length := List.length_map _; omega)
            have HE8 := Lib.hid ho8
            rw [← ho8] at HO
            clear ho8 hfi
            obtain ⟨vo, hvo⟩ : ∃ vo, vo = u3 := ⟨_, rfl⟩
            subst hvo
            have HO8 := HO
            have HB8 := HB
            clear HO HB
            go_wp2_with fail
            go_loopw [58, 3] (fun i v wr => ∃ k : Nat, k ≤ hl.length ∧ i = .int .i64 k ∧ Hid (OutL wr W.heap.size v (o8 ++ (hl.take k).map (fun x => ln4 (rl x)))) ∧ Hid (Below W.heap.size W wr)) (fun i _ _ => hl.length - (intOf i).toNat)
            case atStart => exact ⟨0, Nat.zero_le _, rfl, by rw [List.take_zero, List.map_nil, List.append_nil]; exact HO8.out, HB8.out⟩
            case round =>
              obtain ⟨k, hk, rfl, HO, HB⟩ := hrel
              clear c0 c1 c2 c3
              obtain ⟨⟨c0, c1, c2, c3⟩, hbw, hfi⟩ := HC.out wr HB.out
              by_cases hlt : k < hl.length
              · obtain ⟨x, hx⟩ : ∃ x, hl[k]? = some x := ⟨_, List.getElem?_eq_getElem hlt⟩
                obtain ⟨bb, ob, rfl, hbb, hca, hcb⟩ := hfi.rs.at_.cell hx
                rw [← Nat.add_assoc] at hcb
                have hlx := HZ4.out k x hx
                have HNX := Lib.hid (map_next (f := fun x => ln4 (rl x)) hx)
                obtain ⟨⟨k1, k2⟩, ⟨k3, k4⟩⟩ := hfi.rs.ok x (List.mem_of_getElem? hx)
                have hrx := HRZ.out x (List.mem_of_getElem? hx)
                clear hx hfi
                obtain ⟨⟨p1, n1, d1, T1⟩, ⟨p2, n2, d2, T2⟩⟩ := x
                simp only [rF, rG, Hd.v] at hca hcb
                simp only at k1 k2 k3 k4 hrx
                obtain ⟨o, ho⟩ : ∃ o, o = o8 ++ (hl.take k).map (fun x => ln4 (rl x)) := ⟨_, rfl⟩
                have hll2 : o.length ≤ 8388608 := by rw [ho, List.length_append]; have := HL8.out; have e : ((hl.take k).map (fun x => ln4 (rl x))).length ≤ hl.length := (by rw [List.length_map, List.length_take]; exact Nat.min_le_right _ _); omega
                have HON : Hid (o8 ++ (hl.take (k + 1)).map (fun x => ln4 (rl x)) = o ++ [ruleT T1 T2]) := by show _ = _; rw [HNX.out, ← List.append_assoc, ← ho]; rfl
                have hlr : (ruleT T1 T2).length ≤ 1048600 := hlx
                rw [← ho] at HO
                clear hlx HNX ho
                obtain ⟨vo, hvo⟩ : ∃ vo, vo = u3 := ⟨_, rfl⟩
                subst hvo
                have e1 := k1.at_.len
                have e2 := k3.at_.len
                obtain ⟨X, hX⟩ : ∃ X, X = wr.alloc (.cells #[.slice p1 n1 d1, .slice p2 n2 d2] 61) := ⟨_, rfl⟩
                have hbX : Below wr.heap.size wr X := by rw [hX]; exact rb1w _ _
                obtain ⟨x1, x2, x3⟩ := rb_cells (show X.heap[wr.heap.size]? = some (.cells #[.slice p1 n1 d1, .slice p2 n2 d2] 61 (0, 0)) from by rw [hX]; exact rb_new _ _)
                obtain ⟨Y, hY⟩ : ∃ Y, Y = (X.alloc (.cells #[.string ⟨#[58]⟩] 9)).alloc (.cells #[.slice p1 n1 d1, .slice (some ⟨X.heap.size, 0, none⟩) 1 1, .slice p2 n2 d2] 23) := ⟨_, rfl⟩
                have hb1 : Below X.heap.size X (X.alloc (.cells #[.string ⟨#[58]⟩] 9)) := rb1w _ _
                have hXs : (X.alloc (.cells #[.string ⟨#[58]⟩] 9)).heap.size = X.heap.size + 1 := by simp
                have hb2 : Below X.heap.size X Y := by rw [hY]; exact hb1.trans ((rb1w _ _).mono hb1.size)
                have hbY : Below wr.heap.size wr Y := hbX.trans (hb2.mono hbX.size)
                have hYc : Y.cell? ⟨X.heap.size + 1, 0, none⟩ = some (.slice p1 n1 d1) ∧ Y.cell? ⟨X.heap.size + 1, 1, none⟩ = some (.slice (some ⟨X.heap.size, 0, none⟩) 1 1) ∧ Y.cell? ⟨X.heap.size + 1, 2, none⟩ = some (.slice p2 n2 d2) := by
                  rw [hY]
                  refine ⟨?_, ?_, ?_⟩
                  all_goals (rw [World.cell?_alloc_at _ _ _ _ hXs.symm]; rfl)
                have hn1 : NLw Y (some ⟨X.heap.size, 0, none⟩) 1 1 [⟨#[58]⟩] := ((NL_one X ⟨#[58]⟩ (by decide)).below (by rw [hY]; exact rb1w _ _)).weak
                have HCAT := Lib.hid (concat_threeW (k1.below hbY) hn1 (k3.below hbY) (by omega) hYc.1 hYc.2.1 hYc.2.2 (by rw [hY]; simp))
                have hlt3 : (T1 ++ [(⟨#[58]⟩ : ByteArray)] ++ T2).length ≤ 4194304 := by rw [List.length_append, List.length_append, e1, e2]; simp; omega
                have hlt4 : 0 < (T1 ++ [(⟨#[58]⟩ : ByteArray)] ++ T2).length := by simp; omega
                have HRT : Hid (Lib.join ((T1 ++ [(⟨#[58]⟩ : ByteArray)] ++ T2).map (·.data.toList)) (⟨#[32]⟩ : ByteArray).data.toList = ruleT T1 T2) := rfl
                have HOY : Hid (OutL Y W.heap.size vo o) := HO.out.below hbY
                have HBY : Hid (Below W.heap.size W Y) := HB.out.trans (hbY.mono HB.out.size)
                have hx9 : (X.alloc (.cells #[.string ⟨#[58]⟩] 9)).heap[wr.heap.size]? = some (.cells #[.slice p1 n1 d1, .slice p2 n2 d2] 61 (0, 0)) := by rw [hb1.block _ (by rw [hX]; simp), hX]; exact rb_new _ _
                obtain ⟨y1, y2, y3⟩ := rb_cells hx9
                clear hx9 k1 k3 hn1 hYc hb1 hb2 hbY hbX e1 e2
                generalize hus : T1 ++ [(⟨#[58]⟩ : ByteArray)] ++ T2 = us at *
                clear hus
                go_upto_region 17 with fail
                rw [← hX]
                clear hX hca hcb
                go_wp2_with fail
                rw [← hY]
                clear hY
                refine HCAT.out.mono ?_
                rintro e w5 ⟨g5, c5, rfl, hown5, hb5⟩
                have HBW5 := Lib.hid (HBY.out.trans (hb5.mono HBY.out.size))
                have HOW5 := Lib.hid (HOY.out.below hb5)
                have hj := join_own hown5 hlt4 ⟨#[32]⟩ (by omega) (by rw [HRT.out]; omega)
                rw [HRT.out] at hj
                have HJ := Lib.hid hj
                clear hown5 hb5 hj
                go_wp2_with fail
                refine HJ.out.mono ?_
                rintro e w6 ⟨rfl, hb6⟩
                have HBW6 := Lib.hid (HBW5.out.trans (hb6.mono HBW5.out.size))
                have HOA : Hid (OutL (w6.alloc (.cells #[.string ⟨(ruleT T1 T2).toArray⟩] 9)) W.heap.size vo o) := (HOW5.out.below hb6).below (rb1w w6 _)
                have HBA : Hid (Below W.heap.size W (w6.alloc (.cells #[.string ⟨(ruleT T1 T2).toArray⟩] 9))) := HBW6.out.alloc HBW6.out.size _
                clear hb6
                go_wp2_with (at_builtin; refine app_strL _ rfl _ _ rfl W.heap.size _ o.length (o.map txt) rfl HOA.out w6.heap.size ⟨(ruleT T1 T2).toArray⟩ rfl ?ca2 (by omega) HBA.out.size ?_; rotate_right; intro v' w7 hown7 hgrow7 _; have HO7 := Lib.hid hown7; have HB7 := Lib.hid (HBA.out.grown hgrow7 HBA.out.size (fun j hj => (HOA.out.lt j hj).1)); clear hown7 hgrow7)
                case ca2 => rw [World.cell?_alloc_at _ _ _ _ rfl]; rfl
                go_roundw
                case rel => exact ⟨k + 1, by omega, by go_num, by rw [HON.out]; exact OutL.step HO7.out, HB7.out⟩
                case measure => simp [intOf]; omega
              · obtain rfl : k = hl.length := by omega
                rw [List.take_length] at HO
                have HEF : Hid (o8 ++ hl.map (fun x => ln4 (rl x)) = linesF F) := by
                  show _ = _
                  rw [linesF_eq, HE8.out, ← HSM.out, List.map_map]
                  rw [if_pos HP.out, List.append_nil]; rfl
                rw [HEF.out] at HO
                obtain ⟨vo, hvo⟩ : ∃ vo, vo = u3 := ⟨_, rfl⟩
                subst hvo
                obtain ⟨pf, cf, rfl⟩ := slice_form HO.out
                have HLZL : Hid ((linesF F).length ≤ 8388608) := by show _ ≤ _; rw [← HEF.out, List.length_append, List.length_map]; have := HL8.out; omega
                go_wp2
                go_ret
                refine ⟨⟨pf, cf, rfl, NL_own HO.out (fun x hx => ?_) (by have := HLZL.out; omega)⟩, hbw⟩
                obtain ⟨y, hy, rfl⟩ := List.mem_map.1 hx
                have := HLZ.out y hy
                rw [txt_size]
                omega
      · have hp0 : 0 < F.ph.length := by
          rcases Nat.eq_zero_or_pos F.ph.length with e | e
          · exact absurd (List.length_eq_zero_iff.1 e) hp
          · exact e
        have HP := Lib.hid hp
        have hd : decide (0 < F.ph.length) = true := decide_eq_true (by omega)
        have hlp := HZ2.out hp
        have hlj : (Lib.join (lsB F.ph) [32]).length + 9 ≤ 1048600 := by unfold ln2 at hlp; simp only [List.length_append, List.length_cons, List.length_nil] at hlp; have e : phonyS.data.toList.length = 6 := rfl; omega
        have HJ : Hid (∀ u : World, Below W.heap.size W u → Calls Tryz.prog 81 #[.slice pp F.ph.length cp, .string ⟨#[32]⟩] u fun e w' => e = .returned (.string (txt (Lib.join (lsB F.ph) [32]))) ∧ Below u.heap.size u w') := by
          show ∀ u : World, _
          intro u hu
          exact join_nlw (HC.out u hu).2.2.ph hp0 hcp (by omega)
        obtain ⟨A1, a1, r1⟩ := cat_run2 (P := Tryz.prog) ⟨#[46, 80, 72, 79, 78, 89, 32, 58, 32]⟩ (txt (Lib.join (lsB F.ph) [32])) (by rw [txt_size]; show 9 + _ ≤ _; omega)
        have HA : Hid (A1 = txt (ln2 F.ph)) := by
          show _ = _
          rw [a1, show (⟨#[46, 80, 72, 79, 78, 89, 32, 58, 32]⟩ : ByteArray) = txt (phonyS.data.toList ++ [32, 58, 32]) from rfl, txt_app]
          rfl
        have HL9 := Lib.hid (show (F.ms.map ln1 ++ [ln2 F.ph]).length ≤ 2097152 from by rw [List.length_append, List.length_map]; simp; omega)
        have hll2 : (F.ms.map ln1).length ≤ 1048576 := by rw [List.length_map]; omega
        clear hp hlp a1
        obtain ⟨o, ho⟩ : ∃ o, o = F.ms.map ln1 := ⟨_, rfl⟩
        have HOM := Lib.hid ho
        rw [← ho] at HO hll2
        clear ho
        go_upto_region 8 with fail
        go_wp2_with (first
          | (go_at_call 81; refine (HJ.out _ HB.out).mono ?_; rintro e w2 ⟨rfl, hb2⟩; have HB2 := Lib.hid (HB.out.trans (hb2.mono HB.out.size)); have HOA : Hid (OutL (w2.alloc (.cells #[.string A1] 9)) W.heap.size vo o) := (HO.out.below hb2).below (rb1w w2 _); have HBA : Hid (Below W.heap.size W (w2.alloc (.cells #[.string A1] 9))) := HB2.out.alloc HB2.out.size _; clear hb2)
          | (at_builtin; refine app_strL _ rfl _ _ rfl W.heap.size _ o.length (o.map txt) rfl HOA.out w2.heap.size A1 rfl ?cp1 (by omega) HBA.out.size ?_; rotate_right; intro v' w5 hown5 hgrow5 _; have HO9 : Hid (OutL w5 W.heap.size v' (F.ms.map ln1 ++ [ln2 F.ph])) := (by show OutL _ _ _ _; have h := hown5; rw [HA.out, HOM.out] at h; exact OutL.step h); have HB9 := Lib.hid (HBA.out.grown hgrow5 HBA.out.size (fun j hj => (HOA.out.lt j hj).1)); obtain ⟨⟨x0, x1, x2, x3⟩, _⟩ := HC.out w5 HB9.out; clear hown5 hgrow5))
        case cp1 => rw [World.cell?_alloc_at _ _ _ _ rfl]; rfl
        go_loopw [41, 3] (fun i v wr => ∃ k : Nat, k ≤ F.inf.length ∧ i = .int .i64 k ∧ Hid (OutL wr W.heap.size v ((F.ms.map ln1 ++ [ln2 F.ph]) ++ (F.inf.take k).map ln3)) ∧ Hid (Below W.heap.size W wr)) (fun i _ _ => F.inf.length - (intOf i).toNat)
        case atStart => exact ⟨0, Nat.zero_le _, rfl, by rw [List.take_zero, List.map_nil, List.append_nil]; exact HO9.out, HB9.out⟩
        case round =>
          obtain ⟨k, hk, rfl, HO, HB⟩ := hrel
          clear c0 c1 c2 c3
          obtain ⟨⟨c0, c1, c2, c3⟩, _, hfi⟩ := HC.out wr HB.out
          by_cases hlt : k < F.inf.length
          · obtain ⟨x, hx⟩ : ∃ x, F.inf[k]? = some x := ⟨_, List.getElem?_eq_getElem hlt⟩
            obtain ⟨bb, ob, rfl, hbb, hca, hcb⟩ := hfi.inf.cell hx
            rw [← Nat.add_assoc] at hcb
            have hlx := HZ3.out k x hx
            have HNX := Lib.hid (map_next (f := ln3) hx)
            clear hx hfi
            obtain ⟨m1, m2⟩ := x
            simp only [iF, iG] at hca hcb
            have hll : m1.size + m2.size + 2 ≤ 1048600 := by unfold ln3 at hlx; simp only [List.length_append, List.length_cons, List.length_nil, ba_len] at hlx; omega
            obtain ⟨A1, a1, r1⟩ := cat_run2 (P := Tryz.prog) m1 m2 (by omega)
            obtain ⟨A2, a2, r2⟩ := cat_run2 (P := Tryz.prog) A1 ⟨#[32, 58]⟩ (by rw [a1, ByteArray.size_append]; show _ + 2 ≤ _; omega)
            have HA : Hid (A2 = txt (ln3 (m1, m2))) := by
              show _ = _
              rw [a2, a1, show (⟨#[32, 58]⟩ : ByteArray) = txt [32, 58] from rfl, ← list_txt m1, ← list_txt m2, txt_app, txt_app]
              unfold ln3
              simp only [txt_list]
            obtain ⟨o, ho⟩ : ∃ o, o = (F.ms.map ln1 ++ [ln2 F.ph]) ++ (F.inf.take k).map ln3 := ⟨_, rfl⟩
            have hll2 : o.length ≤ 4194304 := by rw [ho, List.length_append]; have := HL9.out; have e : ((F.inf.take k).map ln3).length ≤ F.inf.length := (by rw [List.length_map, List.length_take]; exact Nat.min_le_right _ _); omega
            have HON : Hid ((F.ms.map ln1 ++ [ln2 F.ph]) ++ (F.inf.take (k + 1)).map ln3 = o ++ [ln3 (m1, m2)]) := by show _ = _; rw [HNX.out, ← List.append_assoc, ← ho]
            rw [← ho] at HO
            clear a1 a2 hlx HNX ho
            obtain ⟨vo, hvo⟩ : ∃ vo, vo = u3 := ⟨_, rfl⟩
            subst hvo
            obtain ⟨X, hX⟩ : ∃ X, X = wr.alloc (.cells #[.string m1, .string m2] 100) := ⟨_, rfl⟩
            have hbX : Below wr.heap.size wr X := by rw [hX]; exact rb1w _ _
            obtain ⟨x1, x2, x3⟩ := rb_cells (show X.heap[wr.heap.size]? = some (.cells #[.string m1, .string m2] 100 (0, 0)) from by rw [hX]; exact rb_new _ _)
            have HOA : Hid (OutL (X.alloc (.cells #[.string A2] 9)) W.heap.size vo o) := (HO.out.below hbX).below (rb1w X _)
            have HBA : Hid (Below W.heap.size W (X.alloc (.cells #[.string A2] 9))) := (HB.out.trans (hbX.mono HB.out.size)).alloc (by have := HB.out.size; have := hbX.size; omega) _
            go_upto_region 12 with fail
            rw [← hX]
            clear hX hca hcb hbX
            go_wp2_with (at_builtin; refine app_strL _ rfl _ _ rfl W.heap.size _ o.length (o.map txt) rfl HOA.out X.heap.size A2 rfl ?cb1 (by omega) HBA.out.size ?_; rotate_right; intro v' w5 hown5 hgrow5 _; have HO5 := Lib.hid hown5; have HB5 := Lib.hid (HBA.out.grown hgrow5 HBA.out.size (fun j hj => (HOA.out.lt j hj).1)); clear hown5 hgrow5)
            case cb1 => rw [World.cell?_alloc_at _ _ _ _ rfl]; rfl
            go_roundw
            case rel => exact ⟨k + 1, by omega, by go_num, by rw [HON.out]; have h := HO5.out; rw [HA.out] at h; exact OutL.step h, HB5.out⟩
            case measure => simp [intOf]; omega
          · obtain rfl : k = F.inf.length := by omega
            rw [List.take_length] at HO
            obtain ⟨o8, ho8⟩ : ∃ o8, o8 = (F.ms.map ln1 ++ [ln2 F.ph]) ++ F.inf.map ln3 := ⟨_, rfl⟩
            have HL8 := Lib.hid (show o8.length ≤ 4194304 from by rw [ho8, List.length_append]; have := HL9.out; have e : (F.inf.map ln3).length = F.inf.length := List.length_map _; omega)
            have HE8 := Lib.hid ho8
            rw [← ho8] at HO
            clear ho8 hfi
            obtain ⟨vo, hvo⟩ : ∃ vo, vo = u3 := ⟨_, rfl⟩
            subst hvo
            have HO8 := HO
            have HB8 := HB
            clear HO HB
            go_wp2_with fail
            go_loopw [58, 3] (fun i v wr => ∃ k : Nat, k ≤ hl.length ∧ i = .int .i64 k ∧ Hid (OutL wr W.heap.size v (o8 ++ (hl.take k).map (fun x => ln4 (rl x)))) ∧ Hid (Below W.heap.size W wr)) (fun i _ _ => hl.length - (intOf i).toNat)
            case atStart => exact ⟨0, Nat.zero_le _, rfl, by rw [List.take_zero, List.map_nil, List.append_nil]; exact HO8.out, HB8.out⟩
            case round =>
              obtain ⟨k, hk, rfl, HO, HB⟩ := hrel
              clear c0 c1 c2 c3
              obtain ⟨⟨c0, c1, c2, c3⟩, hbw, hfi⟩ := HC.out wr HB.out
              by_cases hlt : k < hl.length
              · obtain ⟨x, hx⟩ : ∃ x, hl[k]? = some x := ⟨_, List.getElem?_eq_getElem hlt⟩
                obtain ⟨bb, ob, rfl, hbb, hca, hcb⟩ := hfi.rs.at_.cell hx
                rw [← Nat.add_assoc] at hcb
                have hlx := HZ4.out k x hx
                have HNX := Lib.hid (map_next (f := fun x => ln4 (rl x)) hx)
                obtain ⟨⟨k1, k2⟩, ⟨k3, k4⟩⟩ := hfi.rs.ok x (List.mem_of_getElem? hx)
                have hrx := HRZ.out x (List.mem_of_getElem? hx)
                clear hx hfi
                obtain ⟨⟨p1, n1, d1, T1⟩, ⟨p2, n2, d2, T2⟩⟩ := x
                simp only [rF, rG, Hd.v] at hca hcb
                simp only at k1 k2 k3 k4 hrx
                obtain ⟨o, ho⟩ : ∃ o, o = o8 ++ (hl.take k).map (fun x => ln4 (rl x)) := ⟨_, rfl⟩
                have hll2 : o.length ≤ 8388608 := by rw [ho, List.length_append]; have := HL8.out; have e : ((hl.take k).map (fun x => ln4 (rl x))).length ≤ hl.length := (by rw [List.length_map, List.length_take]; exact Nat.min_le_right _ _); omega
                have HON : Hid (o8 ++ (hl.take (k + 1)).map (fun x => ln4 (rl x)) = o ++ [ruleT T1 T2]) := by show _ = _; rw [HNX.out, ← List.append_assoc, ← ho]; rfl
                have hlr : (ruleT T1 T2).length ≤ 1048600 := hlx
                rw [← ho] at HO
                clear hlx HNX ho
                obtain ⟨vo, hvo⟩ : ∃ vo, vo = u3 := ⟨_, rfl⟩
                subst hvo
                have e1 := k1.at_.len
                have e2 := k3.at_.len
                obtain ⟨X, hX⟩ : ∃ X, X = wr.alloc (.cells #[.slice p1 n1 d1, .slice p2 n2 d2] 61) := ⟨_, rfl⟩
                have hbX : Below wr.heap.size wr X := by rw [hX]; exact rb1w _ _
                obtain ⟨x1, x2, x3⟩ := rb_cells (show X.heap[wr.heap.size]? = some (.cells #[.slice p1 n1 d1, .slice p2 n2 d2] 61 (0, 0)) from by rw [hX]; exact rb_new _ _)
                obtain ⟨Y, hY⟩ : ∃ Y, Y = (X.alloc (.cells #[.string ⟨#[58]⟩] 9)).alloc (.cells #[.slice p1 n1 d1, .slice (some ⟨X.heap.size, 0, none⟩) 1 1, .slice p2 n2 d2] 23) := ⟨_, rfl⟩
                have hb1 : Below X.heap.size X (X.alloc (.cells #[.string ⟨#[58]⟩] 9)) := rb1w _ _
                have hXs : (X.alloc (.cells #[.string ⟨#[58]⟩] 9)).heap.size = X.heap.size + 1 := by simp
                have hb2 : Below X.heap.size X Y := by rw [hY]; exact hb1.trans ((rb1w _ _).mono hb1.size)
                have hbY : Below wr.heap.size wr Y := hbX.trans (hb2.mono hbX.size)
                have hYc : Y.cell? ⟨X.heap.size + 1, 0, none⟩ = some (.slice p1 n1 d1) ∧ Y.cell? ⟨X.heap.size + 1, 1, none⟩ = some (.slice (some ⟨X.heap.size, 0, none⟩) 1 1) ∧ Y.cell? ⟨X.heap.size + 1, 2, none⟩ = some (.slice p2 n2 d2) := by
                  rw [hY]
                  refine ⟨?_, ?_, ?_⟩
                  all_goals (rw [World.cell?_alloc_at _ _ _ _ hXs.symm]; rfl)
                have hn1 : NLw Y (some ⟨X.heap.size, 0, none⟩) 1 1 [⟨#[58]⟩] := ((NL_one X ⟨#[58]⟩ (by decide)).below (by rw [hY]; exact rb1w _ _)).weak
                have HCAT := Lib.hid (concat_threeW (k1.below hbY) hn1 (k3.below hbY) (by omega) hYc.1 hYc.2.1 hYc.2.2 (by rw [hY]; simp))
                have hlt3 : (T1 ++ [(⟨#[58]⟩ : ByteArray)] ++ T2).length ≤ 4194304 := by rw [List.length_append, List.length_append, e1, e2]; simp; omega
                have hlt4 : 0 < (T1 ++ [(⟨#[58]⟩ : ByteArray)] ++ T2).length := by simp; omega
                have HRT : Hid (Lib.join ((T1 ++ [(⟨#[58]⟩ : ByteArray)] ++ T2).map (·.data.toList)) (⟨#[32]⟩ : ByteArray).data.toList = ruleT T1 T2) := rfl
                have HOY : Hid (OutL Y W.heap.size vo o) := HO.out.below hbY
                have HBY : Hid (Below W.heap.size W Y) := HB.out.trans (hbY.mono HB.out.size)
                have hx9 : (X.alloc (.cells #[.string ⟨#[58]⟩] 9)).heap[wr.heap.size]? = some (.cells #[.slice p1 n1 d1, .slice p2 n2 d2] 61 (0, 0)) := by rw [hb1.block _ (by rw [hX]; simp), hX]; exact rb_new _ _
                obtain ⟨y1, y2, y3⟩ := rb_cells hx9
                clear hx9 k1 k3 hn1 hYc hb1 hb2 hbY hbX e1 e2
                generalize hus : T1 ++ [(⟨#[58]⟩ : ByteArray)] ++ T2 = us at *
                clear hus
                go_upto_region 17 with fail
                rw [← hX]
                clear hX hca hcb
                go_wp2_with fail
                rw [← hY]
                clear hY
                refine HCAT.out.mono ?_
                rintro e w5 ⟨g5, c5, rfl, hown5, hb5⟩
                have HBW5 := Lib.hid (HBY.out.trans (hb5.mono HBY.out.size))
                have HOW5 := Lib.hid (HOY.out.below hb5)
                have hj := join_own hown5 hlt4 ⟨#[32]⟩ (by omega) (by rw [HRT.out]; omega)
                rw [HRT.out] at hj
                have HJ := Lib.hid hj
                clear hown5 hb5 hj
                go_wp2_with fail
                refine HJ.out.mono ?_
                rintro e w6 ⟨rfl, hb6⟩
                have HBW6 := Lib.hid (HBW5.out.trans (hb6.mono HBW5.out.size))
                have HOA : Hid (OutL (w6.alloc (.cells #[.string ⟨(ruleT T1 T2).toArray⟩] 9)) W.heap.size vo o) := (HOW5.out.below hb6).below (rb1w w6 _)
                have HBA : Hid (Below W.heap.size W (w6.alloc (.cells #[.string ⟨(ruleT T1 T2).toArray⟩] 9))) := HBW6.out.alloc HBW6.out.size _
                clear hb6
                go_wp2_with (at_builtin; refine app_strL _ rfl _ _ rfl W.heap.size _ o.length (o.map txt) rfl HOA.out w6.heap.size ⟨(ruleT T1 T2).toArray⟩ rfl ?cb2 (by omega) HBA.out.size ?_; rotate_right; intro v' w7 hown7 hgrow7 _; have HO7 := Lib.hid hown7; have HB7 := Lib.hid (HBA.out.grown hgrow7 HBA.out.size (fun j hj => (HOA.out.lt j hj).1)); clear hown7 hgrow7)
                case cb2 => rw [World.cell?_alloc_at _ _ _ _ rfl]; rfl
                go_roundw
                case rel => exact ⟨k + 1, by omega, by go_num, by rw [HON.out]; exact OutL.step HO7.out, HB7.out⟩
                case measure => simp [intOf]; omega
              · obtain rfl : k = hl.length := by omega
                rw [List.take_length] at HO
                have HEF : Hid (o8 ++ hl.map (fun x => ln4 (rl x)) = linesF F) := by
                  show _ = _
                  rw [linesF_eq, HE8.out, ← HSM.out, List.map_map]
                  rw [if_neg HP.out]; rfl
                rw [HEF.out] at HO
                obtain ⟨vo, hvo⟩ : ∃ vo, vo = u3 := ⟨_, rfl⟩
                subst hvo
                obtain ⟨pf, cf, rfl⟩ := slice_form HO.out
                have HLZL : Hid ((linesF F).length ≤ 8388608) := by show _ ≤ _; rw [← HEF.out, List.length_append, List.length_map]; have := HL8.out; omega
                go_wp2
                go_ret
                refine ⟨⟨pf, cf, rfl, NL_own HO.out (fun x hx => ?_) (by have := HLZL.out; omega)⟩, hbw⟩
                obtain ⟨y, hy, rfl⟩ := List.mem_map.1 hx
                have := HLZ.out y hy
                rw [txt_size]
                omega
end Go.Proofs.YtoiolepengcagaaGreatDoor
namespace Go.Proofs.YtoiolepengcagaaGreatDoor
open Go.RowKit Go.Shelf Go.Maps
theorem nameE_sz {s : ByteArray} (h : nameE s = 0) : s.size ≤ 40 := by
  unfold nameE at h
  split at h
  · cases h
  · omega
theorem pairI_sz {s : ByteArray} {n : Nat} (h : s.size ≤ n) : (pairI s).1.size ≤ n + 1 ∧ (pairI s).2.size ≤ n + 1 := by
  have key : ∀ k, ((partsB s).getD k ByteArray.empty).size ≤ s.size := fun k => by
    rcases Nat.lt_or_ge k (partsB s).length with hk | hk
    · rw [List.getD_eq_getElem?_getD, List.getElem?_eq_getElem hk]
      exact splitB_size ⟨#[46]⟩ _ s _ (List.getElem_mem hk)
    · rw [List.getD_eq_getElem?_getD, List.getElem?_eq_none hk]
      exact Nat.zero_le _
  have h1 := key 1
  have h2 := key 2
  unfold pairI
  constructor
  · show (ByteArray.size (_ ++ _)) ≤ _; rw [ByteArray.size_append]; show 1 + _ ≤ _; omega
  · show (ByteArray.size (_ ++ _)) ≤ _; rw [ByteArray.size_append]; show 1 + _ ≤ _; omega
structure Fits (i : Nat) (F : FileV) : Prop where
  ph : F.ph.length ≤ 20
  phs : ∀ x ∈ F.ph, x.size ≤ 40
  inf : F.inf.length ≤ i
  infs : ∀ x ∈ F.inf, x.1.size ≤ 41 ∧ x.2.size ≤ 41
  rs : F.rs.length ≤ i
  ok : ∀ r ∈ F.rs, RuleOk r.1 r.2
theorem Fits.up {i j : Nat} {F : FileV} (h : Fits i F) (hij : i ≤ j) : Fits j F := ⟨h.ph, h.phs, by have := h.inf; omega, h.infs, by have := h.rs; omega, h.ok⟩
theorem addP_mem {P N : List ByteArray} {x : ByteArray} (h : x ∈ addP P N) : x ∈ P ∨ x ∈ N := by
  induction N generalizing P with
  | nil => exact .inl h
  | cons n N ih =>
    have h' : x ∈ addP (if Lib.containsS P n = true then P else P ++ [n]) N := h
    rcases ih h' with h1 | h1
    · split at h1
      · exact .inl h1
      · rcases List.mem_append.1 h1 with h1 | h1
        · exact .inl h1
        · exact .inr (List.mem_singleton.1 h1 ▸ List.mem_cons_self)
    · exact .inr (List.mem_cons_of_mem _ h1)
theorem addF_fits {i : Nat} {F : FileV} {T N : List ByteArray} (h : Fits i F) (hok : RuleOk T N) (hE : (addF F T N).2 = 0) : Fits (i + 1) (addF F T N).1 ∧ (addF F T N).1.ms = F.ms := by
  have hnm : ∀ s ∈ T ++ N, s.size ≤ 40 := fun s hs => nameE_sz (hok.names s hs)
  by_cases h1 : Lib.containsS T phonyS = true
  · by_cases h2 : 1 < T.length
    · rw [addF_3 h1 h2] at hE; cases hE
    · rw [addF_p h1 h2] at hE ⊢
      have h3 : (addP F.ph N).length ≤ 20 := by
        have hE' : (if 20 < (addP F.ph N).length then (2 : Int) else 0) = 0 := hE
        split at hE'
        · cases hE'
        · omega
      refine ⟨⟨h3, fun x hx => ?_, by have := h.inf; show F.inf.length ≤ _; omega, h.infs, by have := h.rs; show F.rs.length ≤ _; omega, h.ok⟩, rfl⟩
      rcases addP_mem hx with hx | hx
      · exact h.phs x hx
      · exact hnm x (List.mem_append_right _ hx)
  · have h1' : Lib.containsS T phonyS = false := by simpa using h1
    by_cases h2 : pairB (T.getD 0 ByteArray.empty) = true ∧ T.length = 1 ∧ N.length = 0
    · rw [addF_i h1' h2.1 h2.2.1 h2.2.2]
      have hm : T.getD 0 ByteArray.empty ∈ T := by
        rw [List.getD_eq_getElem?_getD, List.getElem?_eq_getElem (by omega : 0 < T.length)]
        exact List.getElem_mem _
      have hp := pairI_sz (hnm _ (List.mem_append_left N hm))
      refine ⟨⟨h.ph, h.phs, ?_, ?_, by have := h.rs; show F.rs.length ≤ _; omega, h.ok⟩, rfl⟩
      · show (if _ then _ else _ : List Inf).length ≤ _
        have := h.inf
        split
        · omega
        · rw [List.length_append]; simp; omega
      · intro x hx
        have hx' : x ∈ (if hasI F.inf (pairI (T.getD 0 ByteArray.empty)) = true then F.inf else F.inf ++ [pairI (T.getD 0 ByteArray.empty)]) := hx
        split at hx'
        · exact h.infs x hx'
        · rcases List.mem_append.1 hx' with hx' | hx'
          · exact h.infs x hx'
          · rw [List.mem_singleton.1 hx']; exact hp
    · rw [addF_r h1' h2]
      refine ⟨⟨h.ph, h.phs, by have := h.inf; show F.inf.length ≤ _; omega, h.infs, ?_, fun r hr => ?_⟩, rfl⟩
      · show (F.rs ++ [(T, N)]).length ≤ _
        have := h.rs
        rw [List.length_append]; simp; omega
      · rcases List.mem_append.1 (show r ∈ F.rs ++ [(T, N)] from hr) with hr | hr
        · exact h.ok r hr
        · rw [List.mem_singleton.1 hr]; exact hok
theorem lineF_fits {i : Nat} {F : FileV} {ms : List Mac} {s : Bs} (h : Fits i F) (hE : (lineF ms s F).2 = 0) : Fits (i + 1) (lineF ms s F).1 ∧ (lineF ms s F).1.ms = F.ms := by
  unfold lineF at hE ⊢
  split at hE
  · rename_i h1; exact absurd hE h1
  · rename_i h1
    rw [if_neg h1]
    split at hE
    · rename_i h2; exact absurd hE h2
    · rename_i h2
      rw [if_neg h2]
      refine addF_fits h ?_ hE
      have h3 : parseE (expandE okM ms s).2 = 0 := by simpa using h2
      unfold parseE at h3
      split at h3
      · cases h3
      · exact ruleE_zero.1 h3
theorem parseGo_fits (ms : List Mac) : ∀ (l : List Bs) (i : Nat) (F : FileV), Fits i F → (parseGo ms l i F).2.2 = 0 → Fits (i + l.length) (parseGo ms l i F).1 ∧ (parseGo ms l i F).1.ms = F.ms := by
  intro l
  induction l with
  | nil => intro i F h _; exact ⟨h, rfl⟩
  | cons s l ih =>
    intro i F h hE
    have e : i + (s :: l).length = i + 1 + l.length := by simp; omega
    rw [e]
    unfold parseGo at hE ⊢
    split at hE
    · rename_i h1
      rw [if_pos h1]
      exact ih (i + 1) F (h.up (Nat.le_succ _)) hE
    · rename_i h1
      rw [if_neg h1]
      split at hE
      · rename_i h2; exact absurd hE h2
      · rename_i h2
        rw [if_neg h2]
        have h3 := lineF_fits h (show (lineF ms s F).2 = 0 by simpa using h2)
        obtain ⟨h4, h5⟩ := ih (i + 1) _ h3.1 hE
        exact ⟨h4, h5.trans h3.2⟩
theorem parseF_fits {l : List Bs} (h : (parseF l).2.2 = 0) : Fits 200 (parseF l).1 ∧ (parseF l).1.ms = macsF l ∧ l.length ≤ 200 := by
  unfold parseF at h ⊢
  split at h
  · cases h
  · rename_i h1
    rw [if_neg h1]
    split at h
    · rename_i h2; exact absurd h h2
    · rename_i h2
      rw [if_neg h2]
      have h0 : Fits 0 { file0 with ms := macsF l } := ⟨by show ([] : List ByteArray).length ≤ _; simp, fun x hx => (by cases hx), Nat.zero_le _, fun x hx => (by cases hx), Nat.zero_le _, fun x hx => (by cases hx)⟩
      obtain ⟨h4, h5⟩ := parseGo_fits (macsF l) l 0 _ h0 h
      exact ⟨h4.up (by omega), h5, by omega⟩
theorem defM_sum {s : Bs} (h : defB s = true) : (defM s).1.length + (defM s).2.length + 1 ≤ s.length := by
  have ht : ∀ l : Bs, (Lib.trimS l [32, 9]).length ≤ l.length := fun l => by
    have := trm_size (txt l)
    rw [txt_size] at this
    unfold trm at this
    rwa [txt_size, txt_list] at this
  obtain ⟨k, _, h1, h2⟩ := defB_at h
  have hk := (List.getElem?_eq_some_iff.1 h1).1
  have e : (Lib.indexByte s 61).toNat = k := by rw [h2]; rfl
  unfold defM
  rw [e]
  have a := ht (s.take k)
  have b := ht (s.drop (k + 1))
  rw [List.length_take] at a
  rw [List.length_drop] at b
  show (Lib.trimS (s.take k) [32, 9]).length + (Lib.trimS (s.drop (k + 1)) [32, 9]).length + 1 ≤ _
  omega
theorem join_sz (X : List ByteArray) (h : ∀ s ∈ X, s.size ≤ 40) : (Lib.join (lsB X) [32]).length ≤ 41 * X.length := by
  induction X with
  | nil => simp [lsB, Lib.join_nil]
  | cons a X ih =>
    have ha := h a List.mem_cons_self
    rw [Lib.size_eq] at ha
    have hi := ih (fun s hs => h s (List.mem_cons_of_mem _ hs))
    rw [List.length_cons]
    cases X with
    | nil => show (Lib.join [a.data.toList] [32]).length ≤ _; rw [Lib.join_one]; omega
    | cons b X =>
      show (Lib.join (a.data.toList :: b.data.toList :: lsB X) [32]).length ≤ _
      rw [join_two]
      simp only [List.length_append, List.length_cons, List.length_nil]
      have hi' : (Lib.join (b.data.toList :: lsB X) [32]).length ≤ 41 * (b :: X).length := hi
      rw [List.length_cons] at hi'
      omega
theorem lines_small {l : List Bs} {B : Nat} (h : (parseF l).2.2 = 0) (hl : ∀ s ∈ l, s.length ≤ B) : ∀ x ∈ linesF (parseF l).1, x.length ≤ B + 100000 ∧ (x.length ≤ B + 2 ∨ x.length ≤ 100000) := by
  obtain ⟨h1, h2, _⟩ := parseF_fits h
  have key : ∀ x ∈ linesF (parseF l).1, x.length ≤ B + 2 ∨ x.length ≤ 100000 := by
    intro x hx
    rw [linesF_eq] at hx
    simp only [List.mem_append, List.mem_map] at hx
    rcases hx with ((⟨m, hm, rfl⟩ | hx) | ⟨m, hm, rfl⟩) | ⟨r, hr, rfl⟩
    · rw [h2] at hm
      unfold macsF at hm
      obtain ⟨s, hs, rfl⟩ := List.mem_map.1 hm
      obtain ⟨hs1, hs2⟩ := List.mem_filter.1 hs
      have := hl s hs1
      have := defM_sum hs2
      left
      unfold ln1
      simp only [List.length_append, List.length_cons, List.length_nil]
      omega
    · split at hx
      · cases hx
      · rw [List.mem_singleton.1 hx]
        right
        have := join_sz _ h1.phs
        have := h1.ph
        unfold ln2
        have e : phonyS.data.toList.length = 6 := rfl
        simp only [List.length_append, List.length_cons, List.length_nil]
        omega
    · have := h1.infs m hm
      rw [Lib.size_eq, Lib.size_eq] at this
      right
      unfold ln3
      simp only [List.length_append, List.length_cons, List.length_nil]
      omega
    · right
      exact ruleT_len (h1.ok r hr)
  intro x hx
  rcases key x hx with h3 | h3
  · exact ⟨by omega, .inl h3⟩
  · exact ⟨by omega, .inr h3⟩
end Go.Proofs.YtoiolepengcagaaGreatDoor
namespace Go.Proofs.YtoiolepengcagaaGreatDoor
theorem addP_sub (P : List ByteArray) : ∀ (N : List ByteArray) (x : ByteArray), x ∈ addP P N → x ∈ P ∨ x ∈ N := by
  intro N
  unfold addP
  induction N generalizing P with
  | nil => intro x hx; exact .inl hx
  | cons n N ih =>
    intro x hx
    rw [List.foldl_cons] at hx
    rcases ih _ x hx with h | h
    · split at h
      · exact .inl h
      · rcases List.mem_append.1 h with h | h
        · exact .inl h
        · exact .inr (by rw [List.mem_singleton.1 h]; exact List.mem_cons_self)
    · exact .inr (List.mem_cons_of_mem _ h)
structure FileN (F : FileV) : Prop where
  ph : ∀ x ∈ F.ph, nameE x = 0
  phl : F.ph.length ≤ 20
  few : F.rs.length ≤ 100
  row : ∀ r ∈ F.rs, RuleOk r.1 r.2
theorem addF_n {f : FileV} (h : FileN f) {T N : List ByteArray} (hr : RuleOk T N) (h0 : (addF f T N).2 = 0) : FileN (addF f T N).1 := by
  unfold addF at h0 ⊢
  split
  · rename_i h1
    rw [if_pos h1] at h0
    split
    · exact h
    · rename_i h2
      rw [if_neg h2] at h0
      have h3 : ¬ 20 < (addP f.ph N).length := fun e => by
        have : (if 20 < (addP f.ph N).length then (2 : Int) else 0) = 0 := h0
        rw [if_pos e] at this
        cases this
      refine ⟨fun x hx => ?_, by show (addP f.ph N).length ≤ 20; omega, h.few, h.row⟩
      rcases addP_sub _ _ _ hx with hx | hx
      · exact h.ph x hx
      · exact hr.names x (List.mem_append_right _ hx)
  · rename_i h1
    rw [if_neg h1] at h0
    split
    · exact ⟨h.ph, h.phl, h.few, h.row⟩
    · rename_i h2
      rw [if_neg h2] at h0
      have h3 : ¬ 100 < (f.rs ++ [(T, N)]).length := fun e => by
        have : (if 100 < (f.rs ++ [(T, N)]).length then (2 : Int) else 0) = 0 := h0
        rw [if_pos e] at this
        cases this
      refine ⟨h.ph, h.phl, by show (f.rs ++ [(T, N)]).length ≤ 100; omega, fun r hr2 => ?_⟩
      rcases List.mem_append.1 hr2 with hr2 | hr2
      · exact h.row r hr2
      · rw [List.mem_singleton.1 hr2]; exact hr
theorem parseGo_n (ms : List Mac) : ∀ (l : List Bs) (i : Nat) (f : FileV), FileN f → (parseGo ms l i f).2.2 = 0 → FileN (parseGo ms l i f).1 := by
  intro l
  induction l with
  | nil => intro i f h _; exact h
  | cons s l ih =>
    intro i f h h0
    unfold parseGo at h0 ⊢
    split
    · rename_i h1
      rw [if_pos h1] at h0
      exact ih _ _ h h0
    · rename_i h1
      rw [if_neg h1] at h0
      split
      · rename_i h2
        rw [if_pos h2] at h0
        exact absurd h0 h2
      · rename_i h2
        rw [if_neg h2] at h0
        refine ih _ _ ?_ h0
        have h2 : (lineF ms s f).2 = 0 := by simpa using h2
        unfold lineF at h2 ⊢
        split
        · exact h
        · rename_i h3
          rw [if_neg h3] at h2
          split
          · exact h
          · rename_i h4
            rw [if_neg h4] at h2
            exact addF_n h (parse_rule (by simpa using h4)) h2
theorem file0_n (ms : List Mac) : FileN { file0 with ms := ms } := ⟨(by intro x hx; cases hx), Nat.zero_le _, Nat.zero_le _, (by intro r hr; cases hr)⟩
theorem file_n {F : FileV} (h : checkF F = 0) : FileN F := by
  obtain ⟨h1, h2, _⟩ := checkF_zero h
  rw [← h2]
  unfold parseF at h1 ⊢
  split
  · exact file0_n []
  · rename_i h3
    rw [if_neg h3] at h1
    split
    · exact file0_n []
    · rename_i h4
      rw [if_neg h4] at h1
      exact parseGo_n _ _ _ _ (file0_n _) h1
/-! ### the loops of graph.Make -/
theorem setM_take {N : List Bs} {l : List ByteArray} {k : Nat} (h : k < l.length) : setM N (l.take (k + 1)) = setS N (setM N (l.take k)) (l.getD k ByteArray.empty) := by
  unfold setM
  rw [List.take_succ_eq_append_getElem h, List.foldl_append]
  simp only [List.foldl_cons, List.foldl_nil]
  rw [List.getD_eq_getElem?_getD, List.getElem?_eq_getElem h]
  rfl
theorem fillS_len (l : List Inf) (said : List ByteArray) : ∀ (L : List ByteArray) (st : List Bs × (Bs → List ByteArray)), (L.foldl (fillS l said) st).1.length ≤ st.1.length + L.length := by
  intro L
  induction L with
  | nil => intro st; exact Nat.le_refl _
  | cons x L ih =>
    intro st
    rw [List.foldl_cons, List.length_cons]
    have h := ih (fillS l said st x)
    have h2 : (fillS l said st x).1.length ≤ st.1.length + 1 := by
      unfold fillS
      split
      · exact Nat.le_succ _
      · split
        · exact Nat.le_succ _
        · exact Nat.le_refl _
    omega
theorem endK_len {R : List Rl} {l : List Inf} {there : List ByteArray} (h : joinRE R = 0) : (endK R l there).length ≤ 4224 := by
  have h1 := askF_len h
  obtain ⟨_, _, _, h2⟩ := joinRE_zero h
  have h3 := fillS_len l (saidF R there) (askF (usF R) (jF R)) (usF R, jF R)
  have h4 := sortN_len (bz ((askF (usF R) (jF R)).foldl (fillS l (saidF R there)) (usF R, jF R)).1)
  rw [bz_len] at h4
  unfold endK
  simp only at h3
  omega
theorem need_len65 {R : List Rl} {l : List Inf} {there : List ByteArray} (h : joinRE R = 0) (t : Bs) : (needR R l there t).length ≤ 65 := by
  have h1 := need_len R l there t
  obtain ⟨_, _, h2, _⟩ := joinRE_zero h
  have := h2 t
  omega
section
variable {F : FileV} {there : List ByteArray}
/-- all names of the phony list and the first k rules -/
def allTo (F : FileV) (there : List ByteArray) (k : Nat) : List ByteArray := F.ph ++ ((rowsM F there).take k).flatMap fun u => txt u :: needM F there u
def madeTo (F : FileV) (there : List ByteArray) (k : Nat) : List ByteArray := ((rowsM F there).take k).map txt
theorem take_nextL {α : Type} {l : List α} {k : Nat} {u : α} (h : l[k]? = some u) : l.take (k + 1) = l.take k ++ [u] := by
  rw [List.take_add_one, h]; rfl
theorem allTo_next {k : Nat} {u : Bs} (h : (rowsM F there)[k]? = some u) : allTo F there (k + 1) = allTo F there k ++ [txt u] ++ needM F there u := by
  unfold allTo
  rw [take_nextL h, List.flatMap_append]
  simp
theorem madeTo_next {k : Nat} {u : Bs} (h : (rowsM F there)[k]? = some u) : madeTo F there (k + 1) = madeTo F there k ++ [txt u] := by
  unfold madeTo
  rw [take_nextL h, List.map_append]
  rfl
theorem allTo_all : allTo F there (rowsM F there).length = allM F there := by
  unfold allTo allM
  rw [List.take_length]
theorem madeTo_all : madeTo F there (rowsM F there).length = (rowsM F there).map txt := by
  unfold madeTo
  rw [List.take_length]
theorem flat_len (us : List Bs) (J : Bs → List ByteArray) (hJ : ∀ u, (J u).length ≤ 65) : (us.flatMap fun u => txt u :: J u).length ≤ us.length * 66 := by
  induction us with
  | nil => exact Nat.le_refl _
  | cons u us ih =>
    rw [List.flatMap_cons, List.length_append, List.length_cons, List.length_cons, Nat.succ_mul]
    have := hJ u
    omega
theorem allTo_len (h : FileN F) (hj : joinRE F.rs = 0) (k : Nat) : (allTo F there k).length ≤ 300000 := by
  unfold allTo
  have h1 := flat_len ((rowsM F there).take k) (needM F there) (fun u => need_len65 hj u)
  have h2 : ((rowsM F there).take k).length ≤ 4224 := by
    rw [List.length_take]
    have := endK_len (l := F.inf) (there := there) hj
    unfold rowsM
    omega
  have h3 := h.phl
  rw [List.length_append]
  omega
theorem allTo_names (h : FileN F) (hf : fillE F.rs F.inf there = 0) (k : Nat) : ∀ x ∈ allTo F there k, nameE x = 0 := by
  obtain ⟨hj, _, ht, _⟩ := fillE_zero hf
  obtain ⟨_, hru, _, _⟩ := joinRE_zero hj
  intro x hx
  rcases List.mem_append.1 hx with hx | hx
  · exact h.ph x hx
  · obtain ⟨u, hu, hx⟩ := List.mem_flatMap.1 hx
    have hu := List.mem_of_mem_take hu
    rcases List.mem_cons.1 hx with rfl | hx
    · exact endK_names hru hu
    · exact need_names hru ht hx
theorem needM_names (hf : fillE F.rs F.inf there = 0) (u : Bs) : ∀ x ∈ needM F there u, nameE x = 0 := by
  obtain ⟨hj, _, ht, _⟩ := fillE_zero hf
  obtain ⟨_, hru, _, _⟩ := joinRE_zero hj
  exact fun x hx => need_names hru ht hx
/-- the edges of the first k rules -/
def edgesTo (F : FileV) (there : List ByteArray) (k : Nat) : List E2 := ((rowsM F there).take k).flatMap fun u => rowM (namesK F there) u (needM F there u)
theorem edgesTo_next {k : Nat} {u : Bs} (h : (rowsM F there)[k]? = some u) : edgesTo F there (k + 1) = edgesTo F there k ++ rowM (namesK F there) u (needM F there u) := by
  unfold edgesTo
  rw [take_nextL h, List.flatMap_append]
  simp
theorem edgesTo_all : edgesTo F there (rowsM F there).length = edgesM F there := by
  unfold edgesTo edgesM
  rw [List.take_length]
theorem rowM_take {N : List Bs} {u : Bs} {ns : List ByteArray} {j x : Nat} (h : (lst (setM N ns))[j]? = some x) : (rowM N u ns).take (j + 1) = (rowM N u ns).take j ++ [((N.idxOf u : Int), (x : Int))] := by
  unfold rowM
  refine take_nextL ?_
  rw [List.getElem?_map, h]
  rfl
theorem rowM_len (N : List Bs) (u : Bs) (ns : List ByteArray) : (rowM N u ns).length = (lst (setM N ns)).length := by
  unfold rowM
  rw [List.length_map]
theorem edgesTo_len (hj : joinRE F.rs = 0) (k : Nat) : (edgesTo F there k).length ≤ 300000 := by
  unfold edgesTo
  have key : ∀ us : List Bs, (us.flatMap fun u => rowM (namesK F there) u (needM F there u)).length ≤ us.length * 64 := by
    intro us
    induction us with
    | nil => exact Nat.le_refl _
    | cons u us ih =>
      rw [List.flatMap_cons, List.length_append, List.length_cons, Nat.succ_mul, rowM_len, ← cnt_lst]
      have := cnt_le (setM (namesK F there) (needM F there u))
      omega
  have h1 := key ((rowsM F there).take k)
  have h2 : ((rowsM F there).take k).length ≤ 4224 := by
    rw [List.length_take]
    have := endK_len (l := F.inf) (there := there) hj
    unfold rowsM
    omega
  omega
end
end Go.Proofs.YtoiolepengcagaaGreatDoor
namespace Go.Proofs.YtoiolepengcagaaGreatDoor
open Go.RowKit Go.Shelf
def u64sG (r : List B) : List Value := r.map fun x : B => Value.int .u64 (un x : Int)
theorem u64sG_set (cur : List B) (k : Nat) (x : B) : (u64sG cur).set k (.int .u64 (un x : Int)) = u64sG (cur.set k x) := by
  unfold u64sG; rw [List.map_set]
theorem info_u64G : (Tryz.prog.info? 52).map (fun i => (i.zero, i.size, i.bytes)) = some (some (.int .u64 0), 1, 8) := by kernel_rfl
theorem made_zeroG (n : Nat) : (madeCells (Value.int .u64 0).cells (n * 1)).toList = u64sG (List.replicate n 0#64) := by
  unfold madeCells u64sG
  apply List.ext_getElem
  · simp
  · intro i h1 h2
    simp [Value.cells, Nat.mod_one]
    rfl
theorem ownG_at {w : World} {base b n c : Nat} {D : List B} (h : w.ownsRow base 52 1 (.slice (some ⟨b, 0, none⟩) n c) n (u64sG D)) {k : Nat} (hk : k < n) : w.cell? ⟨b, k, none⟩ = some (.int .u64 (un (D.getD k 0#64) : Int)) := by
  rw [h.cellAt k (by omega)]
  have hl : D.length = n := by have := h.1; simpa [u64sG] using this
  unfold u64sG
  simp [hl, hk]
/-- what Rows answers -/
def RowsPost (w : World) (g : GD) (e : Ending) (w' : World) : Prop :=
  ((Good g ∧ ∃ (p : Option Addr) (c : Nat), e = .returned (.tuple #[.slice p g.names.length c, .int .i64 0]) ∧ w'.ownsRow w.heap.size 52 1 (.slice p g.names.length c) g.names.length (u64sG (rowsE g.names.length g.edges))) ∨
    (¬ Good g ∧ ∃ E : Int, E ≠ 0 ∧ e = .returned (.tuple #[.slice none 0 0, .int .i64 E]))) ∧ Below w.heap.size w w'
set_option maxHeartbeats 4000000 in
set_option maxRecDepth 100000 in
theorem Rows2_ok (v : Value) (g : GD) (w : World) (h : GrAt w v g) : Calls Tryz.prog 50 #[v] w (RowsPost w g) := by
  have hGr := h
  obtain ⟨p, n, c, q, m, d, rfl, hN, hE⟩ := h.at_
  have hln := hN.at_.len
  have hlm := hE.len
  subst hln hlm
  have hbn := hN.at_.big
  have hbm := hE.big
  obtain ⟨W, hW⟩ : ∃ W, W = w.alloc (.cells #[.slice p g.names.length c, .slice q g.edges.length d, .int .u64 (un g.phony : Int), .int .u64 (un g.made : Int)] 54) := ⟨_, rfl⟩
  have hBW : Below w.heap.size w W := by rw [hW]; exact (Below.refl _ _).alloc (Nat.le_refl _) _
  have HS : Hid (w.heap.size < W.heap.size) := by show _ < _; rw [hW]; simp
  have HC : Hid (∀ u : World, Below W.heap.size W u → u.cell? ⟨w.heap.size, 0, none⟩ = some (.slice p g.names.length c) ∧ u.cell? ⟨w.heap.size, 1, none⟩ = some (.slice q g.edges.length d) ∧ u.cell? ⟨w.heap.size, 2, none⟩ = some (.int .u64 (un g.phony : Int)) ∧ u.cell? ⟨w.heap.size, 3, none⟩ = some (.int .u64 (un g.made : Int))) := by
    show ∀ u : World, _ → _
    intro u hu
    rw [hu.cell HS.out, hu.cell HS.out, hu.cell HS.out, hu.cell HS.out, hW]
    refine ⟨?_, ?_, ?_, ?_⟩ <;> (rw [World.cell?_alloc_at _ _ _ _ rfl]; rfl)
  have HE := Lib.hid (hE.below hBW)
  have HBW := Lib.hid hBW
  have HCk := Lib.hid (CheckG2_ok _ g W (hGr.below hBW))
  have HFIN : Hid (∀ u, Below W.heap.size W u → Below w.heap.size w u) := by show ∀ u, _; exact fun u hu => HBW.out.trans (hu.mono (Nat.le_of_lt HS.out))
  obtain ⟨k0, k1, k2, k3⟩ := HC.out W (Below.refl _ _)
  rw [hW] at k0 k1 k2 k3
  clear hN hE hBW h hGr
  obtain ⟨i0, hi, hz0, hz1, hz2⟩ := info_parts info_u64G
  go_enter Tryz.func50, Tryz.ntmps50
  go_wp2_with fail
  rw [← hW]
  clear hW k0 k1 k2 k3
  refine HCk.out.mono ?_
  rintro e w2 ⟨⟨E, rfl, hcase⟩, hb2⟩
  have HB2 := Lib.hid hb2
  obtain ⟨k0, k1, k2, k3⟩ := HC.out w2 hb2
  clear hb2
  rcases hcase with ⟨rfl, hG⟩ | ⟨hE0, hG⟩
  · have h64 := hG.names
    have HG := Lib.hid hG
    clear hG
    go_wp2_with (at_make; refine wpList_make_full _ rfl _ _ 104 rfl w2.heap.size 52 i0 (.int .u64 0) 1 Tryz.underlying104 hi hz0 hz1 .i64 .i64 (g.names.length : Int) (g.names.length : Int) g.names.length rfl rfl rfl rfl ?b2 ?b3 (Nat.le_refl _) ?_; rotate_right; intro w3 hown hgrow; have hb3 : Below w2.heap.size w2 w3 := (Below.refl _ _).grown hgrow (Nat.le_refl _) (fun k hk => by cases hk); obtain ⟨j0, j1, j2, j3⟩ := HC.out w3 (HB2.out.trans (hb3.mono HB2.out.size)))
    case b2 => rw [hz2]; omega
    case b3 => unfold maxLen; omega
    rw [made_zeroG, ← rowsE_nil] at hown
    have HB3 := Lib.hid hb3
    have HOW := Lib.hid hown
    clear hgrow hb3 hown k0 k1 k2 k3 j0 j1 j2 j3
    go_loopw [20] (fun i wr => ∃ k : Nat, k ≤ g.edges.length ∧ i = .int .i64 k ∧ Hid (wr.ownsRow w2.heap.size 52 1 (.slice (some ⟨w2.heap.size, 0, none⟩) g.names.length g.names.length) g.names.length (u64sG (rowsE g.names.length (g.edges.take k)))) ∧ Hid (Below w2.heap.size w2 wr)) (fun i _ => g.edges.length - (intOf i).toNat)
    case atStart => exact ⟨0, Nat.zero_le _, rfl, by rw [List.take_zero]; exact HOW, HB3⟩
    case round =>
      obtain ⟨k, hk, rfl, HO, HW⟩ := hrel
      by_cases hlt : k < g.edges.length
      · have HWr := Lib.hid (HB2.out.trans (HW.out.mono HB2.out.size))
        obtain ⟨b, o, rfl, hb, hca, hcb⟩ := (HE.out.below HWr.out).cell (getD_some (0, 0) hlt)
        have hin : EIn g.names.length (g.edges.getD k (0, 0)) := HG.out.edges _ (by rw [List.getD_eq_getElem?_getD, List.getElem?_eq_getElem hlt]; exact List.getElem_mem hlt)
        have htk : g.edges.take (k + 1) = g.edges.take k ++ [g.edges.getD k (0, 0)] := by
          rw [List.take_succ_eq_append_getElem hlt, List.getD_eq_getElem?_getD, List.getElem?_eq_getElem hlt]; rfl
        generalize g.edges.getD k (0, 0) = x at *
        obtain ⟨x1, x2⟩ := x
        obtain ⟨h1, h2, h3, h4⟩ := hin
        simp only at h1 h2 h3 h4
        obtain ⟨a1, rfl⟩ := Int.eq_ofNat_of_zero_le h1
        obtain ⟨a2, rfl⟩ := Int.eq_ofNat_of_zero_le h3
        have ha1 : a1 < g.names.length := by omega
        simp only [eF, eG] at hca hcb
        have hca2 : wr.cell? ⟨b, o + k * 2 + 1, none⟩ = some (.int .i64 (a2 : Int)) := hcb
        have HSN : Hid (rowsE g.names.length (g.edges.take (k + 1)) = (rowsE g.names.length (g.edges.take k)).set a1 ((rowsE g.names.length (g.edges.take k)).getD a1 0#64 ||| (1#64 <<< a2))) := by
          show _ = _
          rw [htk]; exact rowsE_snoc _ ha1
        clear hcb htk h1 h3
        obtain ⟨cur, hcur⟩ : ∃ cur, cur = rowsE g.names.length (g.edges.take k) := ⟨_, rfl⟩
        rw [← hcur] at HSN HO
        clear hcur
        obtain ⟨y, hy⟩ : ∃ y, cur.getD a1 0#64 = y := ⟨_, rfl⟩
        rw [hy] at HSN
        go_wp2
        refine wp_region_still_tail 10 (by kernel_rfl) (by kernel_rfl) ?_
        simp only [List.take_succ_cons, List.take_zero, List.drop_succ_cons, List.drop_zero]
        obtain ⟨X, hX⟩ : ∃ X : World, X = wr.alloc (.cells #[.int .i64 (a1 : Int), .int .i64 (a2 : Int)] 59) := ⟨_, rfl⟩
        have hXo : X.ownsRow w2.heap.size 52 1 (.slice (some ⟨w2.heap.size, 0, none⟩) g.names.length g.names.length) g.names.length (u64sG cur) := by rw [hX]; exact HO.out.alloc _
        have hXb : Below w2.heap.size w2 X := by rw [hX]; exact HW.out.alloc HW.out.size _
        have hX1 : X.cell? ⟨wr.heap.size, 0, none⟩ = some (.int .i64 (a1 : Int)) := by rw [hX, World.cell?_alloc_at _ _ _ _ rfl]; rfl
        have hX2 : X.cell? ⟨wr.heap.size, 1, none⟩ = some (.int .i64 (a2 : Int)) := by rw [hX, World.cell?_alloc_at _ _ _ _ rfl]; rfl
        rw [← hX]
        clear hX
        obtain ⟨Z, hZ⟩ : ∃ Z : World, Z = { heap := X.heap, tape := X.tape, drawn := X.drawn + 1, os := X.os, output := X.output } := ⟨_, rfl⟩
        have hZo : Z.ownsRow w2.heap.size 52 1 (.slice (some ⟨w2.heap.size, 0, none⟩) g.names.length g.names.length) g.names.length (u64sG cur) := by rw [hZ]; exact hXo
        have hZb : Below w2.heap.size w2 Z := by rw [hZ]; exact hXb.drew
        have d1 : Z.cell? ⟨wr.heap.size, 0, none⟩ = some (.int .i64 (a1 : Int)) := by rw [hZ]; exact hX1
        have d2 : Z.cell? ⟨wr.heap.size, 1, none⟩ = some (.int .i64 (a2 : Int)) := by rw [hZ]; exact hX2
        have d3 := ownG_at hZo ha1
        rw [hy] at d3
        have hfr := hZo.frozenAt a1
        have hst := hZo.stored a1 (.int .u64 (un (y ||| 1#64 <<< a2) : Int))
        rw [u64sG_set, ← HSN.out] at hst
        have HST := Lib.hid hst
        have HZB := Lib.hid hZb
        rw [← hZ]
        clear hZ hZo hZb hXo hXb hX1 hX2 hst
        have hb1 : (a1 : Int) < (g.names.length : Int) := by omega
        repeat still_step
        refine wpStill_nil ?_
        go_wp2
        go_roundw
        case rel => exact ⟨k + 1, by omega, by go_num, HST.out.1, HZB.out.grown HST.out.2 HZB.out.size (fun j hj => by cases hj; exact Nat.le_refl _)⟩
        case measure => simp [intOf]; omega
      · obtain rfl : k = g.edges.length := by omega
        have HOO := HO
        rw [List.take_length] at HOO
        go_wp2
        go_ret2
        refine ⟨.inl ⟨HG.out, _, _, rfl, ?_⟩, HFIN.out _ (HB2.out.trans (HW.out.mono HB2.out.size))⟩
        refine ⟨HOO.out.1, ?_⟩
        have hle : w.heap.size ≤ w2.heap.size := Nat.le_trans (Nat.le_of_lt HS.out) HB2.out.size
        rcases HOO.out.2 with h | ⟨g', cap, cur, h1, h2, h3⟩
        · exact .inl h
        · exact .inr ⟨g', cap, cur, h1, Nat.le_trans hle h2, h3⟩
  · have HG := Lib.hid hG
    obtain ⟨i1, i2⟩ := int_ne' hE0
    clear hG
    go_wp2
    go_ret2
    exact ⟨.inr ⟨HG.out, E, hE0, rfl⟩, HFIN.out _ HB2.out⟩
end Go.Proofs.YtoiolepengcagaaGreatDoor
namespace Go.Proofs.YtoiolepengcagaaGreatDoor
open Go.RowKit Go.Shelf
set_option maxHeartbeats 1000000 in
theorem find_ok {w : World} {p : Option Addr} {n c : Nat} {ls : List ByteArray} (h : NL w p n c ls) (hr : Rise ls) (x : ByteArray) :
    Calls Tryz.prog 25 #[.slice p n c, .string x] w fun e w' => ((∃ k : Nat, k < ls.length ∧ ls.getD k ByteArray.empty = x ∧ e = .returned (.tuple #[.int .i64 k, .bool true])) ∨ (Lib.containsS ls x = false ∧ e = .returned (.tuple #[.int .i64 0, .bool false]))) ∧ ∃ q, w' = w.drewN q := by
  have HS := Lib.hid (search_ok h hr x)
  clear h hr
  go_enter Tryz.func25, Tryz.ntmps25
  go_wp2_with fail
  refine HS.out.mono ?_
  rintro e w' ⟨⟨k, b, rfl, hF⟩, q, rfl⟩
  rcases hF with ⟨rfl, hk, hx⟩ | ⟨rfl, hx⟩
  · have HX := Lib.hid hx
    clear hx
    go_wp2
    go_ret2
    exact ⟨.inl ⟨k, hk, HX.out, rfl⟩, q, rfl⟩
  · have HX := Lib.hid hx
    clear hx
    go_wp2
    go_ret2
    exact ⟨.inr ⟨HX.out, rfl⟩, q, rfl⟩
end Go.Proofs.YtoiolepengcagaaGreatDoor
