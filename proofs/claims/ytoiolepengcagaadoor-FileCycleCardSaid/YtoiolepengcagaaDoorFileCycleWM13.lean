/- Texts joined: FileEqW, SameFileW, FilesW, FileCycleW. Conditions: theirs. -/
import Derived.Test.YtoiolepengcagaaDoorFileCycleWM11
import Derived.Test.YtoiolepengcagaaDoorFileCycleWM3
import Derived.Test.YtoiolepengcagaaDoorFileCycleWM12
import Derived.Deep.QuietTactic
import Derived.BigQuiet
import Derived.Test.YtoiolepengcagaaDoorFileCycleWM10
namespace Go.Proofs.YtoiolepengcagaaDoor
open Go.RowKit Go.Shelf Go.Maps
theorem nlw_equalG {w : World} {p q : Option Addr} {n m c d : Nat} {zs ys : List ByteArray} (h : NLw w p n c zs) (h2 : NLw w q m d ys) :
    Calls Tryd.prog 14 #[.slice p n c, .slice q m d] w fun e w' => e = .returned (.bool (decide (zs = ys))) ∧ ∃ k, w' = w.drewN k := by
  have hl := h.at_.len
  have hl2 := h2.at_.len
  have hb := h.at_.big
  have hb2 := h2.at_.big
  subst hl hl2
  by_cases hne : zs.length = ys.length
  · rcases Nat.eq_zero_or_pos zs.length with h0 | h0
    · have e1 : zs = [] := List.length_eq_zero_iff.1 h0
      have e2 : ys = [] := List.length_eq_zero_iff.1 (by omega)
      subst e1 e2
      refine (Tryd.slices_Equal_string_empty p q c 0 d w (by omega)).mono ?_
      rintro e w' ⟨he, rfl⟩
      exact ⟨by simpa using he, 0, rfl⟩
    · obtain ⟨ad, rfl, _⟩ := h.at_.reads.2 h0
      obtain ⟨b, o, rfl, _⟩ := h.plain h0 _ rfl
      obtain ⟨ad, rfl, _⟩ := h2.at_.reads.2 (by omega)
      obtain ⟨b2, o2, rfl, _⟩ := h2.plain (by omega) _ rfl
      refine (Tryd.slices_Equal_string b o zs.length c b2 o2 ys.length d zs ys w (Nat.le_refl _) (Nat.le_refl _) (by omega) (by omega) h.cellAt h2.cellAt).mono ?_
      rintro e w' ⟨he, hw⟩
      rw [List.take_length, List.take_length] at he
      exact ⟨he, hw⟩
  · have HE : Hid (zs ≠ ys) := fun e => hne (by rw [e])
    have hd : ((zs.length : Int) != (ys.length : Int)) = true := by
      have : ¬ (zs.length : Int) = (ys.length : Int) := by omega
      simpa using this
    have hd2 : ((zs.length : Int) == (ys.length : Int)) = false := by
      have : ¬ (zs.length : Int) = (ys.length : Int) := by omega
      simpa using this
    clear hne h h2
    go_enter Tryd.func14, Tryd.ntmps14
    go_wp2
    go_ret
    exact ⟨by rw [decide_eq_false HE.out]; rfl, 0, rfl⟩
theorem take_eq_next {α : Type} {l m : List α} {k : Nat} (h : l.take k = m.take k) {x y : α} (hx : l[k]? = some x) (hy : m[k]? = some y) : (l.take (k + 1) = m.take (k + 1) ↔ x = y) := by
  rw [List.take_add_one, List.take_add_one, hx, hy, h]
  simp
theorem run_neqM (x1 x2 y1 y2 : ByteArray) (u : World) : (binOp .neq 67 (.agg #[.string x1, .string x2]) (.agg #[.string y1, .string y2])).run Tryd.prog u = .ok (.bool (!(x1.toList == y1.toList && x2.toList == y2.toList))) u := by
  have ht := Tryd.underlying67
  have hu : Tryd.prog.underlying 67 = some (.struct (Tryd.prog.fieldsOf 67)) := by unfold Program.fieldsOf; rw [ht]
  have hs : Tryd.prog.stoodInHeld 67 = false := by kernel_rfl
  rw [run_neq_struct, run_equalIn_agg u 9999 67 _ _ hu hs]
  simp only [Program.fieldsOf, ht]
  cases h1 : (x1.toList == y1.toList)
  · simp [Op.eqFields, part, h1, run_equalIn_string, Tryd.underlying9]
  · simp [Op.eqFields, part, h1, run_equalIn_string, Tryd.underlying9]
    by_cases h : x2.toList = y2.toList <;> simp [h]
theorem run_neqI (x1 x2 y1 y2 : ByteArray) (u : World) : (binOp .neq 101 (.agg #[.string x1, .string x2]) (.agg #[.string y1, .string y2])).run Tryd.prog u = .ok (.bool (!(x1.toList == y1.toList && x2.toList == y2.toList))) u := by
  have ht := Tryd.underlying101
  have hu : Tryd.prog.underlying 101 = some (.struct (Tryd.prog.fieldsOf 101)) := by unfold Program.fieldsOf; rw [ht]
  have hs : Tryd.prog.stoodInHeld 101 = false := by kernel_rfl
  rw [run_neq_struct, run_equalIn_agg u 9999 101 _ _ hu hs]
  simp only [Program.fieldsOf, ht]
  cases h1 : (x1.toList == y1.toList)
  · simp [Op.eqFields, part, h1, run_equalIn_string, Tryd.underlying9]
  · simp [Op.eqFields, part, h1, run_equalIn_string, Tryd.underlying9]
    by_cases h : x2.toList = y2.toList <;> simp [h]
end Go.Proofs.YtoiolepengcagaaDoor
namespace Go.Proofs.YtoiolepengcagaaDoor
open Go.RowKit Go.Shelf Go.Maps
/-- a file in memory, as it reads -/
structure FileIn (w : World) (F : FileV) (pm : Option Addr) (nm cm : Nat) (pp : Option Addr) (np cp : Nat) (pi : Option Addr) (ni ci : Nat) (pr : Option Addr) (nr cr : Nat) (hl : List (Hd × Hd)) : Prop where
  ms : P2At mF mG w pm nm cm F.ms
  ph : NLw w pp np cp F.ph
  inf : P2At iF iG w pi ni ci F.inf
  rs : RulesIn w pr nr cr hl
  same : hl.map rl = F.rs
section
variable {w w' : World} {F : FileV} {pm pp pi pr : Option Addr} {nm cm np cp ni ci nr cr : Nat} {hl : List (Hd × Hd)}
theorem RulesIn.belowF {p : Option Addr} {n c : Nat} (h : RulesIn w p n c hl) (hb : Below w.heap.size w w') : RulesIn w' p n c hl :=
  ⟨h.at_.below hb, fun x hx => ⟨(h.ok x hx).1.below hb, (h.ok x hx).2.below hb⟩, h.cap⟩
theorem FileIn.below (h : FileIn w F pm nm cm pp np cp pi ni ci pr nr cr hl) (hb : Below w.heap.size w w') : FileIn w' F pm nm cm pp np cp pi ni ci pr nr cr hl :=
  ⟨h.ms.below hb, h.ph.below hb, h.inf.below hb, h.rs.belowF hb, h.same⟩
end
def hdRV (r : RV) : Hd × Hd := (⟨some ⟨r.g1, 0, none⟩, r.T.length, r.T.length, r.T⟩, ⟨some ⟨r.g2, 0, none⟩, r.N.length, r.N.length, r.N⟩)
theorem p2_mapF {α β : Type} {f g : α → Value} {f' g' : β → Value} (φ : α → β) (hf : ∀ x, f' (φ x) = f x) (hg : ∀ x, g' (φ x) = g x) {w : World} {p : Option Addr} {n c : Nat} {l : List α} (h : P2At f g w p n c l) : P2At f' g' w p n c (l.map φ) := by
  refine ⟨by rw [List.length_map]; exact h.len, fun h0 => ?_, h.big⟩
  obtain ⟨b, o, e, h1, h2⟩ := h.at_ h0
  refine ⟨b, o, e, h1, fun k x hx => ?_⟩
  rw [List.getElem?_map, Option.map_eq_some_iff] at hx
  obtain ⟨y, hy, rfl⟩ := hx
  rw [hf, hg]
  exact h2 k y hy
theorem FSt.fin {base B : Nat} {F : FileV} {s : FV} {rl' : List RV} {w : World} (h : FSt base B F s rl' [] w) (h1 : F.ms.length ≤ 1000000) (h2 : F.ph.length ≤ 1000000) (h3 : F.inf.length ≤ 1000000) (h4 : F.rs.length ≤ 1000000) :
    FileIn w F s.pm F.ms.length s.cm s.pp F.ph.length s.cp s.pi F.inf.length s.ci s.pr F.rs.length s.cr (rl'.map hdRV) := by
  refine ⟨(P2At.own h.ms (by omega)), ?_, P2At.own h.inf (by omega), ⟨p2_mapF hdRV (fun _ => rfl) (fun _ => rfl) (P2At.own h.rs (by omega)), fun x hx => ?_, ?_⟩, ?_⟩
  · exact (NL_own h.ph (fun x hx => by have := h.sp x hx; omega) (by omega)).weak
  · obtain ⟨r, hr, rfl⟩ := List.mem_map.1 hx
    obtain ⟨k1, k2, _⟩ := h.own r (by rw [List.append_nil]; exact hr)
    exact ⟨⟨k1.nl.weak, Nat.le_refl _⟩, ⟨k2.nl.weak, Nat.le_refl _⟩⟩
  · rcases h.rs.2 with ⟨hv, hn⟩ | ⟨g, cap, cur, hv, _, _, hc, _⟩
    · omega
    · have hv' : Value.slice s.pr F.rs.length s.cr = .slice (some ⟨g, 0, none⟩) F.rs.length cap := hv
      injection hv' with _ _ e2
      omega
  · rw [List.map_map, ← h.same]
    rfl
def mB (m : Mac) : Inf := (txt m.1, txt m.2)
theorem mB_inj {l k : List Mac} : l.map mB = k.map mB ↔ l = k := by
  constructor
  · intro h
    have key : ∀ l : List Mac, (l.map mB).map (fun x => (x.1.data.toList, x.2.data.toList)) = l := fun l => by
      rw [List.map_map]
      have : (fun x : Inf => (x.1.data.toList, x.2.data.toList)) ∘ mB = id := by
        funext m
        show ((txt m.1).data.toList, (txt m.2).data.toList) = m
        rw [txt_list, txt_list]
      rw [this, List.map_id]
    rw [← key l, ← key k, h]
  · rintro rfl; rfl
end Go.Proofs.YtoiolepengcagaaDoor
namespace Go.Proofs.YtoiolepengcagaaDoor
open Go.RowKit Go.Shelf Go.Maps
def abT : Bs := [97, 32, 58, 32, 98]
theorem ab_expand : expandE okM [] abT = (0, abT) := by
  have hT : TabOk okM [] := ⟨by simp, fun m hm => (by cases hm), List.nodup_nil, fun m hm => (by cases hm), fun m hm => (by cases hm)⟩
  have hL : ¬ Larges okM [] := by rintro ⟨m, hm, _⟩; cases hm
  have hp : prs okM abT = ([.t abT], true) := prs_last (by decide)
  have hz : (expandR okM (namesM []) (flatF okM []) abT).1 = 0 := by
    rw [expandR_zero, hp]
    refine ⟨rfl, fun u hu => ?_, ?_⟩
    · simp [callsOf] at hu
    · simp [lrg, noneT, evalT, pieceM, abT]
  rw [expandE_at ⟨hT, hL⟩]
  refine Prod.ext hz ?_
  rw [expandR_text, if_pos hz, hp]
  simp [evalT, pieceM]
theorem ab_flats : flatsE okM [] = 0 := flatsE_zero.2 ⟨⟨by simp, fun m hm => (by cases hm), List.nodup_nil, fun m hm => (by cases hm), fun m hm => (by cases hm)⟩, by rintro ⟨m, hm, _⟩; cases hm⟩
theorem ab_file : parseF [abT] = ({ file0 with rs := [([(⟨#[97]⟩ : ByteArray)], [(⟨#[98]⟩ : ByteArray)])] }, 0, 0) := by
  have hd : defB abT = false := by decide
  have hm : macsF [abT] = [] := by unfold macsF; rw [List.filter_cons_of_neg (by rw [hd]; decide)]; rfl
  rw [parseF_g (by decide) (by rw [hm]; exact ab_flats), hm]
  obtain ⟨p1, p2, p3⟩ := parse_print ab_ok
  rw [ab_text] at p1 p2 p3
  have hl : lineF [] abT { file0 with ms := [] } = ({ file0 with rs := [([(⟨#[97]⟩ : ByteArray)], [(⟨#[98]⟩ : ByteArray)])] }, 0) := by
    rw [lineF_a (by rw [ab_expand]) (by rw [ab_expand]; exact p1), ab_expand]
    show addF _ (parseT [97, 32, 58, 32, 98]) (parseN [97, 32, 58, 32, 98]) = _
    rw [p2, p3, addF_r (by decide) (fun h => by cases h.2.2)]
    rfl
  rw [parseGo, hd, if_neg (by decide), hl, if_neg (by decide), parseGo]
theorem x_read : readR (fun _ => none) 0 [] 0 [] [120] = (1, [[120]], 0) := by
  rw [readR_eq, if_neg (by decide), show txsL [120] = [[120]] by decide, readG_text _ _ _ _ _ _ (by decide), if_neg (by decide), readG_nil]
  rfl
set_option maxHeartbeats 4000000 in
set_option maxRecDepth 100000 in
theorem files_ok (w : World) (hM : ML w) : Calls Tryd.prog 5 #[] w fun e w' => e = .returned (.bool true) ∧ Below w.heap.size w w' := by
  obtain ⟨W, hW⟩ : ∃ W, W = w.alloc (.cells #[.string ⟨#[97, 32, 58, 32, 98]⟩] 9) := ⟨_, rfl⟩
  have hbW : Below w.heap.size w W := by rw [hW]; exact rb1w _ _
  have hn : NL W (some ⟨w.heap.size, 0, none⟩) 1 1 [⟨#[97, 32, 58, 32, 98]⟩] := by rw [hW]; exact NL_one w _ (by decide)
  have hp := ParseF_ok (some ⟨w.heap.size, 0, none⟩) 1 1 [⟨#[97, 32, 58, 32, 98]⟩] W hn.weak (hM.below hbW) (fun z hz => by rw [List.mem_singleton.1 hz]; decide)
  rw [show lsB [(⟨#[97, 32, 58, 32, 98]⟩ : ByteArray)] = [abT] from rfl] at hp
  have HP : Hid (Calls Tryd.prog 17 #[.slice (some ⟨w.heap.size, 0, none⟩) 1 1] W fun e w' => (∃ pm nm cm pp np cp pi ni ci pr cr, e = .returned (.tuple #[.agg #[.slice pm nm cm, .slice pp np cp, .slice pi ni ci, .slice pr 1 cr], .int .i64 0, .int .i64 0])) ∧ Below W.heap.size W w') := by
    show Calls _ _ _ _ _
    refine hp.mono ?_
    rintro e w' ⟨⟨v, he, hv⟩, hb⟩
    rw [ab_file] at he hv
    rcases hv with ⟨hv, _⟩ | ⟨_, base, B, s, rl, _, _, rfl⟩
    · exact absurd rfl hv
    · exact ⟨⟨_, _, _, _, _, _, _, _, _, _, _, he⟩, hb⟩
  have HLN : Hid (∀ u : World, Below W.heap.size W u → Calls Tryd.prog 7 #[.string ⟨#[120]⟩, .slice none 0 0] u fun e w' => (∃ p c, e = .returned (.tuple #[.slice p 1 c, .int .i64 0])) ∧ Below u.heap.size u w') := by
    show ∀ u : World, _
    intro u hu
    have := LinesN_ok ⟨#[120]⟩ (by decide) u ((hM.below hbW).below hu)
    rw [show (⟨#[120]⟩ : ByteArray).data.toList = [120] from rfl, x_read] at this
    refine this.mono ?_
    rintro e w' ⟨⟨h1, _⟩ | ⟨_, _, p, c, h2, _⟩, hb⟩
    · exact absurd rfl h1
    · exact ⟨⟨p, c, h2⟩, hb⟩
  have HBW := Lib.hid hbW
  clear hp hn hbW
  go_enter Tryd.func5, Tryd.ntmps5
  go_upto_region 2 with (go_at_call 17; rw [← hW]; refine HP.out.mono ?_; rintro e w1 ⟨⟨pm, nm, cm, pp, np, cp, pi, ni, ci, pr, cr, rfl⟩, hb⟩; have HB1 := Lib.hid hb; clear hb)
  clear hW
  obtain ⟨V, hV⟩ : ∃ V, V = w1.alloc (.cells #[.slice pm nm cm, .slice pp np cp, .slice pi ni ci, .slice pr 1 cr] 48) := ⟨_, rfl⟩
  have HBV : Hid (Below W.heap.size W V) := by show Below _ _ _; rw [hV]; exact HB1.out.alloc HB1.out.size _
  have hz : V.heap[w1.heap.size]? = some (.cells #[.slice pm nm cm, .slice pp np cp, .slice pi ni ci, .slice pr 1 cr] 48 (0, 0)) := by rw [hV]; exact rb_new _ _
  have hlt : w1.heap.size < V.heap.size := by rw [hV]; simp
  rw [← hV]
  clear hV
  have HZ := Lib.hid hz
  clear hz
  go_upto_region 3 with (go_at_call 7; refine (HLN.out _ HBV.out).mono ?_; rintro e w3 ⟨⟨p3, c3, rfl⟩, hb⟩; have HB3 := Lib.hid (HBV.out.trans (hb.mono HBV.out.size)); obtain ⟨⟨b0, b1, b2, b3⟩, b4⟩ := boxF (show w3.heap[w1.heap.size]? = _ from by rw [hb.block _ hlt]; exact HZ.out); clear hb)
  go_wp2
  go_ret
  exact ⟨rfl, HBW.out.trans (HB3.out.mono HBW.out.size)⟩
end Go.Proofs.YtoiolepengcagaaDoor
namespace Go.Proofs.YtoiolepengcagaaDoor
open Go.RowKit Go.Shelf Go.Maps
theorem ba_appC (a b : ByteArray) : (a ++ b).data.toList = a.data.toList ++ b.data.toList := by simp
theorem cat_runC {P : Program} (a b : ByteArray) (h : a.size + b.size ≤ 4611686018427387904) : ∃ A : ByteArray, A.data.toList = a.data.toList ++ b.data.toList ∧ A.size = a.size + b.size ∧ ∀ w : World, (Op.stringOp .add a b).run P w = .ok (.string A) w := by
  refine ⟨a ++ b, ba_appC a b, by simp, fun w => ?_⟩
  have hm : IntKind.i64.max = 9223372036854775807 := rfl
  have : ¬ (((a.size + b.size : Nat) : Int) > IntKind.i64.max) := by rw [hm]; omega
  simp only [Op.stringOp]
  rw [if_neg this]
  rfl
/-! ### plainly -/
theorem putsT_ok : ∀ (l : List (Bl × Bl)) (T : Bl → Option Bl), l.Pairwise (fun x y => x.1 ≠ y.1) → (∀ x ∈ l, nameE (txt x.1) = 0) → (∀ x ∈ l, T x.1 = none) →
    (putsT T l).2 = 0 ∧ ∀ x ∈ l, (putsT T l).1 x.1 = some x.2 := by
  have keep : ∀ (l : List (Bl × Bl)) (T : Bl → Option Bl) (y : Bl), (∀ x ∈ l, x.1 ≠ y) → (putsT T l).1 y = T y := by
    intro l
    induction l with
    | nil => intro T y _; rfl
    | cons x l ih =>
      intro T y h
      rw [putsT_cons]
      split
      · rfl
      · split
        · rfl
        · rw [ih _ y (fun z hz => h z (List.mem_cons_of_mem _ hz))]
          unfold updT
          rw [if_neg (fun e => h x List.mem_cons_self e.symm)]
  intro l
  induction l with
  | nil => intro T _ _ _; exact ⟨rfl, fun x hx => by cases hx⟩
  | cons x l ih =>
    intro T hp hn hT
    obtain ⟨h1, h2⟩ := List.pairwise_cons.1 hp
    have e : putsT T (x :: l) = putsT (updT T x.1 x.2) l := by
      rw [putsT_cons, if_neg (fun e => e (hn x List.mem_cons_self)), if_neg (by rw [hT x List.mem_cons_self]; decide)]
    have hT2 : ∀ y ∈ l, updT T x.1 x.2 y.1 = none := fun y hy => by
      unfold updT
      rw [if_neg (fun e => h1 y hy e.symm)]
      exact hT y (List.mem_cons_of_mem _ hy)
    obtain ⟨i1, i2⟩ := ih (updT T x.1 x.2) h2 (fun y hy => hn y (List.mem_cons_of_mem _ hy)) hT2
    rw [e]
    refine ⟨i1, fun y hy => ?_⟩
    rcases List.mem_cons.1 hy with rfl | hy
    · rw [keep l _ y.1 (fun z hz e => h1 z hz e.symm)]
      unfold updT
      rw [if_pos rfl]
    · exact i2 y hy
def dgt (i : Nat) : UInt8 := UInt8.ofNat (48 + i % 10)
def nmC (n : Bl) (i : Nat) : Bl := n ++ [dgt i]
def txC (n : Bl) (k i : Nat) : Bl × Bl := (nmC n i, incL (nmC n ((i + 1) % (k + 1))) ++ [10])
def txsC (n : Bl) (k j : Nat) : List (Bl × Bl) := (List.range j).map (txC n k)
theorem dgt_inj {i j : Nat} (hi : i < 10) (hj : j < 10) (h : dgt i = dgt j) : i = j := by
  have key : ∀ a b : Fin 10, UInt8.ofNat (48 + a.1 % 10) = UInt8.ofNat (48 + b.1 % 10) → a = b := by decide
  have := key ⟨i, hi⟩ ⟨j, hj⟩ h
  injection this
theorem dgt_sign (i : Nat) : signC (dgt i) = true := by
  have key : ∀ a : Fin 10, signC (UInt8.ofNat (48 + a.1)) = true := by decide
  exact key ⟨i % 10, Nat.mod_lt _ (by decide)⟩
theorem nmC_ok {n : Bl} (h : nameE (txt n) = 0) (hl : n.length ≤ 38) (i : Nat) : nameE (txt (nmC n i)) = 0 := by
  obtain ⟨h1, _, _, _, _, h6, _⟩ := name_facts h
  have hln : (nmC n i).length = n.length + 1 := by unfold nmC; simp
  unfold nameE
  rw [if_neg (by rw [txt_size, hln]; omega), if_pos]
  rw [txt_list, List.all_eq_true]
  intro c hc
  rcases List.mem_append.1 hc with hc | hc
  · exact h6 c hc
  · rw [List.mem_singleton.1 hc]; exact dgt_sign i
theorem cycle_plain {n : Bl} {k : Nat} (h : nameE (txt n) = 0) (hl : n.length ≤ 38) (hk : k ≤ 8) : (linesT (incW ++ [32] ++ n ++ [48]) (txsC n k (k + 1))).2.2 = 8 := by
  have hlen : (txsC n k (k + 1)).length = k + 1 := by unfold txsC; simp
  obtain ⟨p1, p2⟩ := putsT_ok (txsC n k (k + 1)) noT (by
    unfold txsC
    rw [List.pairwise_map]
    refine List.Pairwise.imp_of_mem ?_ (List.nodup_range (n := k + 1))
    intro a b ha hb hab e
    have ha := List.mem_range.1 ha
    have hb := List.mem_range.1 hb
    have : nmC n a = nmC n b := e
    unfold nmC at this
    have := List.append_cancel_left this
    injection this with this
    exact hab (dgt_inj (by omega) (by omega) this)) (fun x hx => by
    obtain ⟨i, _, rfl⟩ := List.mem_map.1 hx
    exact nmC_ok h hl i) (fun _ _ => rfl)
  unfold linesT
  rw [if_neg (by rw [hlen]; omega), if_neg (by rw [p1]; decide), hlen]
  have hc := cycle_law (k := k) (nm := nmC n) (T := (putsT noT (txsC n k (k + 1))).1) hk (nmC_ok h hl) (fun i j hi hj e => by
    unfold nmC at e
    have := List.append_cancel_left e
    injection this with this
    exact dgt_inj (by omega) (by omega) this) (fun i hi => p2 (txC n k i) (List.mem_map.2 ⟨i, List.mem_range.2 (by omega), rfl⟩)) (k + 1) 0 (by omega) (k + 1) (Nat.le_refl _) (incW ++ [32] ++ n ++ [48]) (.inl (by
      rw [Nat.zero_mod]
      unfold incL nmC
      rw [← List.append_assoc]
      rfl))
  exact hc
theorem txsC_snoc (n : Bl) (k j : Nat) : txsC n k (j + 1) = txsC n k j ++ [txC n k j] := by
  unfold txsC
  rw [List.range_succ, List.map_append]
  rfl
theorem enc_dgt {r : Nat} (h : r < 10) : (Utf8.encode (48 + (r : Int))).data.toList = [dgt r] := by
  match r, h with
  | 0, _ => rfl
  | 1, _ => rfl
  | 2, _ => rfl
  | 3, _ => rfl
  | 4, _ => rfl
  | 5, _ => rfl
  | 6, _ => rfl
  | 7, _ => rfl
  | 8, _ => rfl
  | 9, _ => rfl
theorem info_text : (Tryd.prog.info? 27).map (fun i => (i.zero, i.size, i.bytes)) = some (some (.agg #[.string ⟨#[]⟩, .string ⟨#[]⟩]), 2, 32) := by kernel_rfl
theorem cells2_snocC (l : List Mac) (x : Mac) : cells2 mF mG (l ++ [x]) = cells2 mF mG l ++ [mF x, mG x] := by
  unfold cells2
  rw [List.flatMap_append]
  rfl
theorem txsC_len {n : Bl} (hl : n.length ≤ 38) {k j : Nat} : ∀ x ∈ txsC n k j, x.1.length ≤ 4611686018427387904 ∧ x.2.length ≤ 4611686018427387904 := by
  intro x hx
  obtain ⟨i, _, rfl⟩ := List.mem_map.1 hx
  unfold txC nmC incL
  simp only [List.length_append, List.length_cons, List.length_nil]
  have : incW.length = 7 := rfl
  omega
theorem int_wfC {a : Int} (h : (Go.Lit.int .i64 a).wf = true) : -9223372036854775808 ≤ a ∧ a ≤ 9223372036854775807 := by
  unfold Go.Lit.wf at h
  rw [Bool.and_eq_true, decide_eq_true_iff, decide_eq_true_iff] at h
  exact h
theorem own_belowC {w w' : World} {base e n k : Nat} {v : Value} {xs : List Value} (h : w.ownsRow base e k v n xs) (hb : Below w.heap.size w w') : w'.ownsRow base e k v n xs := by
  refine ⟨h.1, ?_⟩
  rcases h.2 with h1 | ⟨g, cap, cur, h1, h2, h3, h4⟩
  · exact .inl h1
  · exact .inr ⟨g, cap, cur, h1, h2, (hb.block g (Array.getElem?_eq_some_iff.1 h3).1).trans h3, h4⟩
theorem app_txtC (w : World) {ops : Array Oper} {rest : List Oper} {o : Oper} {a : Act} {Q : Exit → Act → World → Prop} (hgd : o.guard = none) (s x : Operand)
    (ho : o.op = .call { callee := .builtin .append, args := #[s, x], argTypes := #[25, 25] })
    (base : Nat) (v : Value) (n : Nat) (l : List Mac) (hs : a.eval s = v) (hown : w.ownsRow base 27 2 v n (cells2 mF mG l))
    (g : Nat) (m : Mac) (u1 u2 : Value) (hx : a.eval x = .slice (some ⟨g, 0, none⟩) 1 1) (c0 : w.cell? ⟨g, 0, none⟩ = some u1) (c1 : w.cell? ⟨g, 1, none⟩ = some u2) (e1 : mF m = u1) (e2 : mG m = u2) (hn : n ≤ 1000000) (hbase : base ≤ w.heap.size)
    (h : ∀ v' w', w'.ownsRow base 27 2 v' (n + 1) (cells2 mF mG (l ++ [m])) → w.grownBy w' v.ownBlock → wpList Tryd.prog ops Q rest (a.put o.dst v') w') : wpList Tryd.prog ops Q (o :: rest) a w := by
  obtain ⟨i0, hi, hz0, hz1, hz2⟩ := info_parts info_text
  refine wpList_append_own w hgd s x 25 ho base 27 i0 _ 2 32 Tryd.underlying25 hi hz0 hz1 hz2 rfl (by decide) v n _ hs hown ⟨g, 0, none⟩ 1 1 [mF m, mG m] hx rfl ?_ ?_ (by unfold maxLen; omega) (by omega) hbase (fun v' w' h1 h2 _ => h v' w' ?_ h2)
  · intro j q hj
    subst e1
    subst e2
    match j, hj with
    | 0, hj => simp at hj; subst hj; simpa [Addr.add] using c0
    | 1, hj => simp at hj; subst hj; simpa [Addr.add] using c1
  · intro q hq; simp at hq; rcases hq with rfl | rfl <;> rfl
  · rw [cells2_snocC]; exact h1
set_option maxHeartbeats 8000000 in
set_option maxRecDepth 100000 in
theorem fileCycle_ok (n : ByteArray) (k : Int) (w : World) (hM : ML w) (hn : n.size ≤ 140737488351232) (hk1 : -9223372036854775808 ≤ k) (hk2 : k ≤ 9223372036854775807) :
    Calls Tryd.prog 3 #[.string n, .int .i64 k] w fun e w' => e = .returned (.bool true) ∧ Below w.heap.size w w' := by
  have HF := Lib.hid (files_ok w hM)
  have HC := Lib.hid (fun u => CheckN_ok n (by omega) u)
  by_cases hE : nameE n = 0
  case neg =>
    have h3 : nameE n = 3 := (nameE_cases n).resolve_left hE
    rw [h3] at HC
    clear hE h3 hM
    go_enter Tryd.func3, Tryd.ntmps3
    go_wp2_with (first
      | (go_at_call 5; refine HF.out.mono ?_; rintro e w1 ⟨rfl, hb1⟩; have HB1 := Lib.hid hb1; clear hb1)
      | (go_at_call 6; refine (HC.out _).mono ?_; rintro e w2 ⟨rfl, rfl⟩))
    go_ret
    exact ⟨rfl, HB1.out⟩
  case pos =>
  have hn40 := nameE_size hE
  have HE := Lib.hid hE
  rw [hE] at HC
  clear hE
  by_cases hc : 0 ≤ k ∧ k ≤ 8 ∧ n.size ≤ 38
  case neg =>
    clear hM
    go_enter Tryd.func3, Tryd.ntmps3
    by_cases c1 : k < 0
    · have d1 : decide (k < 0) = true := decide_eq_true c1
      go_wp2_with (first
        | (go_at_call 5; refine HF.out.mono ?_; rintro e w1 ⟨rfl, hb1⟩; have HB1 := Lib.hid hb1; clear hb1)
        | (go_at_call 6; refine (HC.out _).mono ?_; rintro e w2 ⟨rfl, rfl⟩))
      go_ret
      exact ⟨rfl, HB1.out⟩
    · have d1 : decide (k < 0) = false := decide_eq_false c1
      by_cases c2 : 8 < k
      · have d2 : decide (8 < k) = true := decide_eq_true c2
        go_wp2_with (first
          | (go_at_call 5; refine HF.out.mono ?_; rintro e w1 ⟨rfl, hb1⟩; have HB1 := Lib.hid hb1; clear hb1)
          | (go_at_call 6; refine (HC.out _).mono ?_; rintro e w2 ⟨rfl, rfl⟩))
        go_ret
        exact ⟨rfl, HB1.out⟩
      · have d2 : decide (8 < k) = false := decide_eq_false c2
        have c3 : (38 : Int) < (n.size : Int) := by omega
        have d3 : decide ((38 : Int) < (n.size : Int)) = true := decide_eq_true c3
        go_wp2_with (first
          | (go_at_call 5; refine HF.out.mono ?_; rintro e w1 ⟨rfl, hb1⟩; have HB1 := Lib.hid hb1; clear hb1)
          | (go_at_call 6; refine (HC.out _).mono ?_; rintro e w2 ⟨rfl, rfl⟩))
        go_ret
        exact ⟨rfl, HB1.out⟩
  case pos =>
  obtain ⟨hk0, hk8, hn38⟩ := hc
  obtain ⟨K, rfl⟩ := Int.eq_ofNat_of_zero_le hk0
  have hK : K ≤ 8 := by omega
  have d1 : decide ((K : Int) < 0) = false := decide_eq_false (by omega)
  have d2 : decide ((8 : Int) < (K : Int)) = false := decide_eq_false (by omega)
  have d3 : decide ((38 : Int) < (n.size : Int)) = false := decide_eq_false (by omega)
  have hnl : n.data.toList.length ≤ 38 := by rw [← Lib.size_eq]; exact hn38
  have HCY := Lib.hid (cycle_plain (n := n.data.toList) (k := K) (by rw [list_txt]; exact HE.out) hnl hK)
  have HNL := Lib.hid hnl
  have HM := Lib.hid hM
  obtain ⟨i1, hi1, hy0, hy1, hy2⟩ := info_parts info_text
  obtain ⟨S5, a5, z5, r5⟩ := cat_runC (P := Tryd.prog) ⟨#[105, 110, 99, 108, 117, 100, 101, 32]⟩ n (by show 8 + _ ≤ _; omega)
  obtain ⟨S6, a6, z6, r6⟩ := cat_runC (P := Tryd.prog) S5 ⟨#[48]⟩ (by rw [z5]; show 8 + _ + 1 ≤ _; omega)
  have HS6 : Hid (S6.data.toList = incW ++ [32] ++ n.data.toList ++ [48]) := by
    show _ = _
    rw [a6, a5]
    rfl
  have HZ6 : Hid (S6.size ≤ 4611686018427387904) := by
    show _ ≤ _
    rw [z6, z5]
    show 8 + _ + 1 ≤ _
    omega
  clear hM hnl hk1 hk2 hk0 hk8 a5 a6 z5 z6
  go_enter Tryd.func3, Tryd.ntmps3
  go_wp2_with (first
    | (go_at_call 5; refine HF.out.mono ?_; rintro e w1 ⟨rfl, hb1⟩; have HB1 := Lib.hid hb1; clear hb1)
    | (go_at_call 6; refine (HC.out _).mono ?_; rintro e w2 ⟨rfl, rfl⟩))
  go_loopw [30, 5] (fun i v wr => ∃ j : Nat, j ≤ K + 1 ∧ i = .int .i64 j ∧ Hid (Below w1.heap.size w1 wr) ∧ Hid (wr.ownsRow w1.heap.size 27 2 v j (cells2 mF mG (txsC n.data.toList K j)))) (fun i _ _ => K + 1 - (intOf i).toNat)
  case atStart => exact ⟨0, Nat.zero_le _, rfl, Below.refl _ _, World.ownsRow_nil _ _ _ _⟩
  case round =>
    obtain ⟨j, hj, rfl, HB, HO⟩ := hrel
    by_cases hlt : j < K + 1
    · have hj1 : (j : Int) < (K : Int) + 1 := by omega
      obtain ⟨r, hr⟩ : ∃ r, r = (j + 1) % (K + 1) := ⟨_, rfl⟩
      have hr9 : r ≤ 8 := by have := Nat.mod_lt (j + 1) (show 0 < K + 1 by omega); omega
      have hmod : ((j : Int) + 1).tmod ((K : Int) + 1) = (r : Int) := by rw [hr]; rfl
      have hw1 : IntKind.i32.wrap (48 + (r : Int)) = 48 + (r : Int) := IntWalk.i32_in _ (by omega)
      have hw2 : IntKind.i32.wrap (48 + (j : Int)) = 48 + (j : Int) := IntWalk.i32_in _ (by omega)
      have HR := Lib.hid hr
      clear hr
      have hz1 : (Utf8.encode (48 + (r : Int))).size = 1 := by rw [Lib.size_eq, enc_dgt (by omega)]; rfl
      have hz2 : (Utf8.encode (48 + (j : Int))).size = 1 := by rw [Lib.size_eq, enc_dgt (by omega)]; rfl
      obtain ⟨S1, a1, z1, r1⟩ := cat_runC (P := Tryd.prog) n (Utf8.encode (48 + (r : Int))) (by rw [hz1]; omega)
      obtain ⟨S2, a2, z2, r2⟩ := cat_runC (P := Tryd.prog) n (Utf8.encode (48 + (j : Int))) (by rw [hz2]; omega)
      obtain ⟨S3, a3, z3, r3⟩ := cat_runC (P := Tryd.prog) ⟨#[105, 110, 99, 108, 117, 100, 101, 32]⟩ S1 (by rw [z1, hz1]; show 8 + _ ≤ _; omega)
      obtain ⟨S4, a4, z4, r4⟩ := cat_runC (P := Tryd.prog) S3 ⟨#[10]⟩ (by rw [z3, z1, hz1]; show 8 + _ + 1 ≤ _; omega)
      have HF1 : Hid (mF (S2.data.toList, S4.data.toList) = .string S2 ∧ mG (S2.data.toList, S4.data.toList) = .string S4 ∧ (S2.data.toList, S4.data.toList) = txC n.data.toList K j) := by
        refine ⟨?_, ?_, ?_⟩
        · show Value.string (txt _) = _
          rw [list_txt]
        · show Value.string (txt _) = _
          rw [list_txt]
        · rw [a2, a4, a3, a1, enc_dgt (by omega), enc_dgt (by omega), HR.out]
          rfl
      have HN' := Lib.hid hn
      clear hn a1 a2 a3 a4 hz1 hz2 z1 z2 z3 z4
      have HBA : Hid (Below wr.heap.size wr (wr.alloc (.cells #[.string S2, .string S4] 27))) := (Below.refl _ _).alloc (Nat.le_refl _) _
      have HC1 := Lib.hid (rb_cells (rb_new wr (.cells #[.string S2, .string S4] 27))).1
      have HC2 := Lib.hid (rb_cells (rb_new wr (.cells #[.string S2, .string S4] 27))).2.1
      have HOA : Hid ((wr.alloc (.cells #[.string S2, .string S4] 27)).ownsRow w1.heap.size 27 2 u5 j (cells2 mF mG (txsC n.data.toList K j))) := own_belowC HO.out HBA.out
      have HXS : Hid (w1.heap.size ≤ (wr.alloc (.cells #[.string S2, .string S4] 27)).heap.size) := Nat.le_trans HB.out.size HBA.out.size
      have HJ9 : Hid (j ≤ 1000000) := by show _ ≤ _; omega
      go_upto_region 10 with fail
      go_wp2_with (at_builtin; refine app_txtC _ rfl _ _ rfl w1.heap.size _ j (txsC n.data.toList K j) rfl HOA.out wr.heap.size (S2.data.toList, S4.data.toList) (.string S2) (.string S4) rfl ?c1 ?c2 HF1.out.1 HF1.out.2.1 HJ9.out HXS.out ?_; rotate_right; intro v' w5 hown5 hgrow5; have HO5 := Lib.hid hown5; have HG5 := Lib.hid hgrow5; clear hown5 hgrow5)
      case c1 => exact HC1.out
      case c2 => exact HC2.out
      refine ⟨⟨j + 1, by omega, by go_num, (HB.out.trans (HBA.out.mono HB.out.size)).grown HG5.out HXS.out (fun k1 e => (HOA.out.lt k1 e).1), ?_⟩, by simp [intOf]; omega⟩
      show World.ownsRow _ _ _ _ _ _ _
      rw [txsC_snoc, ← HF1.out.2.2]
      exact HO5.out
    · obtain rfl : j = K + 1 := by omega
      have hjn : ¬ ((K + 1 : Nat) : Int) < (K : Int) + 1 := by omega
      obtain ⟨p5, c5, rfl⟩ := slice_form HO.out
      have HLI := Lib.hid (LinesT_ok S6 HZ6.out p5 (K + 1) c5 (txsC n.data.toList K (K + 1)) wr (HM.out.below (HB1.out.trans (HB.out.mono HB1.out.size))) (P2At.own HO.out (by omega)) (txsC_len HNL.out))
      have HE8 : Hid ((linesT S6.data.toList (txsC n.data.toList K (K + 1))).2.2 = 8) := by show _ = _; rw [HS6.out]; exact HCY.out
      generalize linesT S6.data.toList (txsC n.data.toList K (K + 1)) = R at *
      have HN' := Lib.hid hn
      clear hn
      go_wp2_with (go_at_call 7; refine HLI.out.mono ?_; rintro e w6 hR; obtain ⟨hR, hb6⟩ := hR; have HB6 := Lib.hid hb6; clear hb6; obtain ⟨_, rfl⟩ | ⟨h0, _⟩ := hR; rotate_left; (rw [HE8.out] at h0; cases h0); rw [HE8.out])
      go_ret
      exact ⟨rfl, HB1.out.trans ((HB.out.trans (HB6.out.mono HB.out.size)).mono HB1.out.size)⟩
end Go.Proofs.YtoiolepengcagaaDoor
