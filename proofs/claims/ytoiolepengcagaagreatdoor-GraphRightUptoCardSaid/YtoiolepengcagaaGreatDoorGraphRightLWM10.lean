/- Texts joined: LinePartsW, RuleHasW, RuleAskW, RuleBackW, RulesArg, FileEqW. Conditions: theirs. -/
import Derived.Test.YtoiolepengcagaaGreatDoorGraphRightLWM9
import Derived.Test.YtoiolepengcagaaGreatDoorGoodP
import Derived.Laws.StructEq
import Derived.Deep.QuietTactic
import Derived.BigQuiet
import Derived.Test.YtoiolepengcagaaGreatDoorGraphRightLWM1
import Derived.ChangeArms
namespace Go.Proofs.YtoiolepengcagaaGreatDoor
open Go.RowKit Go.Shelf
/-- the error of Join -/
def joinE (s : ByteArray) : Int := if 20000 < s.size then 2 else if badB s.data.toList = true then 3 else 0
theorem joinE_len {s : ByteArray} (h : joinE s = 0) : s.size ≤ 20000 ∧ badB s.data.toList = false := by
  unfold joinE at h
  split at h
  · cases h
  · rename_i h1
    split at h
    · cases h
    · rename_i h2
      exact ⟨by omega, by simpa using h2⟩
/-- what Join answers -/
def JoinPost (s : ByteArray) (w : World) (e : Ending) (w' : World) : Prop :=
  ((joinE s ≠ 0 ∧ e = .returned (.tuple #[.slice none 0 0, .int .i64 (joinE s)])) ∨ (joinE s = 0 ∧ ∃ po co, e = .returned (.tuple #[.slice po (joinL s.data.toList).length co, .int .i64 0]) ∧
    w'.ownsRow w.heap.size 125 2 (.slice po (joinL s.data.toList).length co) (joinL s.data.toList).length (cells2 lF lG (joinL s.data.toList)))) ∧ Below w.heap.size w w'
set_option maxHeartbeats 1000000 in
theorem JoinE_ok (s : ByteArray) (hs : s.size ≤ 4611686018427387904) (w : World) (hM : ML w) : Calls Tryz.prog 65 #[.string s] w (JoinPost s w) := by
  by_cases h1 : 20000 < s.size
  · have HE : Hid (joinE s = 2) := by show _ = _; unfold joinE; rw [if_pos h1]
    go_enter Tryz.func65, Tryz.ntmps65
    go_wp2
    go_ret2
    exact ⟨.inl ⟨by rw [HE.out]; decide, by rw [HE.out]; rfl⟩, Below.refl _ _⟩
  · cases h2 : badB s.data.toList
    · have HE : Hid (joinE s = 0) := by show _ = _; unfold joinE; rw [if_neg h1, h2]; rfl
      have HJ := Lib.hid (join_ok s (by omega) w hM)
      have HB := Lib.hid h2
      clear h2
      generalize hlj : joinL s.data.toList = L at HJ
      have HLJ := Lib.hid hlj
      clear hlj
      go_enter Tryz.func65, Tryz.ntmps65
      go_wp2_with (first
        | (go_at_call 100; refine (bad_ok s hs _).mono ?_; rw [HB.out]; rintro e w1 ⟨rfl, rfl⟩)
        | (go_at_call 101; refine HJ.out.mono ?_; rintro e w1 ⟨⟨po, co, rfl, hown⟩, hb⟩; have HO := Lib.hid hown; have HBL := Lib.hid hb; clear hown hb))
      go_ret2
      refine ⟨.inr ⟨HE.out, ?_⟩, HBL.out⟩
      rw [HLJ.out]
      exact ⟨po, co, rfl, HO.out⟩
    · have HE : Hid (joinE s = 3) := by show _ = _; unfold joinE; rw [if_neg h1, if_pos h2]
      have HB := Lib.hid h2
      clear h2
      go_enter Tryz.func65, Tryz.ntmps65
      go_wp2_with (go_at_call 100; refine (bad_ok s hs _).mono ?_; rw [HB.out]; rintro e w1 ⟨rfl, rfl⟩)
      go_ret2
      exact ⟨.inl ⟨by rw [HE.out]; decide, by rw [HE.out]; rfl⟩, Below.refl _ _⟩
abbrev LnH := Int × ByteArray
def hF (x : LnH) : Value := .int .i64 x.1
def hG (x : LnH) : Value := .string x.2
theorem run_neqL_same (x1 : Int) (x2 : ByteArray) (u : World) : (binOp .neq 125 (.agg #[.int .i64 x1, .string x2]) (.agg #[.int .i64 x1, .string x2])).run Tryz.prog u = .ok (.bool false) u := by
  have ht := Tryz.underlying125
  have hu : Tryz.prog.underlying 125 = some (.struct (Tryz.prog.fieldsOf 125)) := by unfold Program.fieldsOf; rw [ht]
  have hs : Tryz.prog.stoodInHeld 125 = false := by kernel_rfl
  rw [run_neq_struct, run_equalIn_agg u 9999 125 _ _ hu hs]
  simp only [Program.fieldsOf, ht]
  simp [Op.eqFields, part, run_equalIn_int, run_equalIn_string, Tryz.underlying3, Tryz.underlying9]
theorem getD_at {α : Type} {l : List α} {k : Nat} (d : α) (h : k < l.length) : l[k]? = some (l.getD k d) := by
  rw [List.getD_eq_getElem?_getD, List.getElem?_eq_getElem h]; rfl
theorem drewN_sum (w : World) (a b : Nat) : (w.drewN a).drewN b = w.drewN (a + b) := by
  induction b with
  | zero => rfl
  | succ b ih => rw [← Nat.add_assoc]; show ((w.drewN a).drewN b).drew = (w.drewN (a + b)).drew; rw [ih]
theorem p2_map {α β : Type} {f g : α → Value} {f' g' : β → Value} (φ : α → β) (hf : ∀ x, f' (φ x) = f x) (hg : ∀ x, g' (φ x) = g x) {w : World} {p : Option Addr} {n c : Nat} {l : List α} (h : P2At f g w p n c l) : P2At f' g' w p n c (l.map φ) := by
  refine ⟨by rw [List.length_map]; exact h.len, fun h0 => ?_, h.big⟩
  obtain ⟨b, o, e, h1, h2⟩ := h.at_ h0
  refine ⟨b, o, e, h1, fun k x hx => ?_⟩
  rw [List.getElem?_map, Option.map_eq_some_iff] at hx
  obtain ⟨y, hy, rfl⟩ := hx
  rw [hf, hg]
  exact h2 k y hy
def toH (x : Ln) : LnH := ((x.1 : Int), txt x.2)
theorem own_H {w : World} {base n c : Nat} {e : TypeId} {p : Option Addr} {l : List Ln} (h : w.ownsRow base e 2 (.slice p n c) n (cells2 lF lG l)) (hbig : n ≤ 8796093022208) : P2At hF hG w p n c (l.map toH) :=
  p2_map toH (fun _ => rfl) (fun _ => rfl) (P2At.own h hbig)
theorem joinL_len (s : Bl) : (joinL s).length ≤ s.length := by
  have key : ∀ n s at_, s.length ≤ n → (jg s at_).length ≤ s.length := by
    intro n
    induction n with
    | zero =>
      intro s at_ h
      have : s = [] := List.length_eq_zero_iff.1 (by omega)
      subst this
      rw [jg_nil]; exact Nat.le_refl _
    | succ n ih =>
      intro s at_ h
      by_cases hs : s = []
      · subst hs; rw [jg_nil]; exact Nat.le_refl _
      · have hl := lg_len _ [] s (at_ + 1) (Nat.le_refl _) hs
        have := ih (lg [] s (at_ + 1)).2.1 (lg [] s (at_ + 1)).2.2 (by omega)
        rw [jg_eq hs, List.length_append]
        split
        · simp; omega
        · simp only [List.length_singleton]; omega
  exact key _ s 0 (Nat.le_refl _)
theorem a_line : joinL [97, 10] = [(1, [97])] := by decide
theorem a_E : joinE ⟨#[97, 10]⟩ = 0 := by decide
end Go.Proofs.YtoiolepengcagaaGreatDoor
namespace Go.Proofs.YtoiolepengcagaaGreatDoor
open Go.RowKit Go.Shelf
/-- slices.Contains answers at the header as the list says -/
def Con (w : World) (x : Hd) : Prop := ∀ u, Below w.heap.size w u → ∀ t : ByteArray, Calls Tryz.prog 78 #[.slice x.p x.n x.c, .string t] u fun e w' => e = .returned (.bool (Lib.containsS x.zs t)) ∧ w' = u
theorem Con.below {w w' : World} {x : Hd} (h : Con w x) (hb : Below w.heap.size w w') : Con w' x := fun u hu t => h u (hb.trans (hu.mono hb.size)) t
/-- rules that can be asked -/
structure AskR (w : World) (p : Option Addr) (n c : Nat) (l : List (Hd × Hd)) : Prop where
  at_ : P2At rF rG w p n c l
  con : ∀ x ∈ l, Con w x.1 ∧ Con w x.2
theorem AskR.below {w w' : World} {p : Option Addr} {n c : Nat} {l : List (Hd × Hd)} (h : AskR w p n c l) (hb : Below w.heap.size w w') : AskR w' p n c l :=
  ⟨h.at_.below hb, fun x hx => ⟨(h.con x hx).1.below hb, (h.con x hx).2.below hb⟩⟩
def hasB (t n : ByteArray) (x : Hd × Hd) : Bool := Lib.containsS x.1.zs t && Lib.containsS x.2.zs n
def isB2 (t : ByteArray) (x : Hd × Hd) : Bool := Lib.containsS x.1.zs t
end Go.Proofs.YtoiolepengcagaaGreatDoor
namespace Go.Proofs.YtoiolepengcagaaGreatDoor
open Go.RowKit Go.Shelf
theorem con_nl {w : World} {x : Hd} (h : x.ok w) : Con w x := by
  intro u hu t
  obtain ⟨p, n, c, zs⟩ := x
  have hn := h.1.below hu
  simp only at hn
  have hl := hn.at_.len
  have hb := hn.at_.big
  subst hl
  simp only
  rcases Nat.eq_zero_or_pos zs.length with h0 | h0
  · have : zs = [] := List.length_eq_zero_iff.1 h0
    subst this
    exact Tryz.slices_Contains_string_empty p c t u
  · obtain ⟨ad, rfl, _⟩ := hn.at_.reads.2 h0
    obtain ⟨b, o, rfl, _⟩ := hn.plain h0 _ rfl
    have := Tryz.slices_Contains_string b o zs.length c zs t u (Nat.le_refl _) (by omega) (fun j hj => by
      have h1 := nlr_cell hn (List.getElem?_eq_getElem hj)
      rw [List.getD_eq_getElem?_getD, List.getElem?_eq_getElem hj]
      exact h1)
    rw [List.take_length] at this
    exact this
theorem con_own {w : World} {lo : Nat} {x : Hd} (h : w.ownsRow lo 9 1 x.v x.zs.length (strsV x.zs)) (hn : x.zs.length ≤ 9223372036854775807) : Con w x := by
  intro u hu t
  have h2 : u.ownsRow lo 9 1 x.v x.zs.length (strsV x.zs) := h.kept (grown_below hu) (by
    cases hq : x.v.ownBlock with
    | none => exact .inl rfl
    | some k => exact .inr (by simp))
  exact own_contains h2 hn t
theorem RulesIn.ask {w : World} {p : Option Addr} {n c : Nat} {l : List (Hd × Hd)} (h : RulesIn w p n c l) : AskR w p n c l :=
  ⟨h.at_, fun x hx => ⟨con_nl (h.ok x hx).1, con_nl (h.ok x hx).2⟩⟩
/-- what Join made: has and is say of it what they say of the rules -/
theorem join_has {l : List (Hd × Hd)} {us : List Bs} {h : Bs → Value} {rs : List (Hd × Hd)} (hu : ∀ t, t ∈ us ↔ Targ (l.map rl) t)
    (hz : rs.map (fun x => (x.1.zs, x.2)) = us.map fun u => ([txt u], hdOf (h u) (grpR (l.map rl) (fun _ => []) u))) (hh : ∀ u, (hdOf (h u) (grpR (l.map rl) (fun _ => []) u)).zs = grpR (l.map rl) (fun _ => []) u) (t n : ByteArray) :
    rs.any (hasB t n) = l.any (hasB t n) ∧ rs.any (isB2 t) = l.any (isB2 t) := by
  have hmem : ∀ (T : List ByteArray) (N : Hd), (∃ x ∈ rs, x.1.zs = T ∧ x.2 = N) ↔ ∃ u ∈ us, [txt u] = T ∧ hdOf (h u) (grpR (l.map rl) (fun _ => []) u) = N := by
    intro T N
    have h1 : (T, N) ∈ rs.map (fun x => (x.1.zs, x.2)) ↔ (T, N) ∈ us.map fun u => ([txt u], hdOf (h u) (grpR (l.map rl) (fun _ => []) u)) := by rw [hz]
    simpa [List.mem_map] using h1
  have one : ∀ u : Bs, Lib.containsS [txt u] t = true ↔ u = t.data.toList := by
    intro u
    rw [Lib.containsS_iff, List.mem_singleton]
    constructor
    · rintro rfl; rw [txt_list]
    · rintro rfl; rw [list_txt]
  have targ : ∀ x ∈ l, Lib.containsS x.1.zs t = true → t.data.toList ∈ us := fun x hx h1 =>
    (hu _).2 ⟨rl x, List.mem_map_of_mem hx, List.mem_map_of_mem (by rw [Lib.containsS_iff] at h1; exact h1)⟩
  constructor
  · rw [Bool.eq_iff_iff, List.any_eq_true, List.any_eq_true]
    constructor
    · rintro ⟨x, hx, hb⟩
      unfold hasB at hb
      rw [Bool.and_eq_true] at hb
      obtain ⟨u, hu1, e1, e2⟩ := (hmem x.1.zs x.2).1 ⟨x, hx, rfl, rfl⟩
      rw [← e1, one] at hb
      obtain ⟨rfl, hb⟩ := hb
      rw [← e2, hh, Lib.containsS_iff, grpR_mem] at hb
      obtain ⟨r, hr, h1, h2⟩ := hb.resolve_left (by simp)
      obtain ⟨y, hy, rfl⟩ := List.mem_map.1 hr
      obtain ⟨t', ht', e⟩ := List.mem_map.1 h1
      have : t' = t := ba_inj e
      subst this
      exact ⟨y, hy, by unfold hasB; rw [Bool.and_eq_true, Lib.containsS_iff, Lib.containsS_iff]; exact ⟨ht', h2⟩⟩
    · rintro ⟨y, hy, hb⟩
      unfold hasB at hb
      rw [Bool.and_eq_true] at hb
      obtain ⟨x, hx, e1, e2⟩ := (hmem _ _).2 ⟨t.data.toList, targ y hy hb.1, rfl, rfl⟩
      refine ⟨x, hx, ?_⟩
      unfold hasB
      rw [Bool.and_eq_true, e1, one, e2, hh, Lib.containsS_iff, grpR_mem]
      rw [Lib.containsS_iff, Lib.containsS_iff] at hb
      exact ⟨rfl, .inr ⟨rl y, List.mem_map_of_mem hy, List.mem_map_of_mem hb.1, hb.2⟩⟩
  · rw [Bool.eq_iff_iff, List.any_eq_true, List.any_eq_true]
    constructor
    · rintro ⟨x, hx, hb⟩
      unfold isB2 at hb
      obtain ⟨u, hu1, e1, e2⟩ := (hmem x.1.zs x.2).1 ⟨x, hx, rfl, rfl⟩
      rw [← e1, one] at hb
      subst hb
      obtain ⟨r, hr, h1⟩ := (hu _).1 hu1
      obtain ⟨y, hy, rfl⟩ := List.mem_map.1 hr
      obtain ⟨t', ht', e⟩ := List.mem_map.1 h1
      have : t' = t := ba_inj e
      subst this
      exact ⟨y, hy, by unfold isB2; rw [Lib.containsS_iff]; exact ht'⟩
    · rintro ⟨y, hy, hb⟩
      unfold isB2 at hb
      obtain ⟨x, hx, e1, e2⟩ := (hmem _ _).2 ⟨t.data.toList, targ y hy hb, rfl, rfl⟩
      exact ⟨x, hx, by unfold isB2; rw [e1, one]⟩
end Go.Proofs.YtoiolepengcagaaGreatDoor
namespace Go.Proofs.YtoiolepengcagaaGreatDoor
open Go.RowKit Go.Shelf Go.ChangeShapes Go.WideShapes
theorem parse_print {T N : List ByteArray} (h : RuleOk T N) : parseE (ruleT T N) = 0 ∧ parseT (ruleT T N) = T ∧ parseN (ruleT T N) = N := by
  obtain ⟨k, h1, h2, h3, h4⟩ := rule_parts h
  have hk : (Lib.indexByte (ruleT T N) 58).toNat = k := by omega
  have e1 : parseT (ruleT T N) = T := by unfold parseT wb; rw [hk, h3, wb_lst]
  have e2 : parseN (ruleT T N) = N := by unfold parseN wb; rw [hk, h4, wb_lst]
  refine ⟨?_, e1, e2⟩
  unfold parseE
  rw [if_neg (by omega), e1, e2]
  exact ruleE_zero.2 h
def RuleAt (w : World) (v : Value) (_ : Unit) : Prop := ∃ T N, RuleIn w v T N
theorem slice_cap {P : Program} {W : World} {b0 : Nat} {r : Reach} {a : Option Addr} {len cap : Nat} {t e : TypeId} (ht : P.underlying t = some (.slice e)) (h : Value.okWide P W r b0 t (.slice a len cap)) : len ≤ cap := by
  simp only [Value.okWide, ht, Cell.okWide] at h
  unfold Cell.ok at h
  rw [ht] at h
  cases a with
  | none =>
    revert h
    cases len <;> cases cap <;> simp
  | some ad => exact h.1
set_option maxRecDepth 100000 in
theorem rule_arg {H : Type} {enc : TypeId × Value → H} {W : World} {r : Reach} {b0 : Nat} {v : Value} {d : DataW H} {p : List MemPlace}
    (hok : Value.okWide Tryz.prog W r b0 61 v) (hf : DataW.Trod enc Tryz.prog W 0 (fun _ => true) true 61 v d p)
    (hsz : ∀ n, n ∈ d.weights Tryz.prog 61 → n ≤ reachBytes) : ∃ g, RuleAt W v g := by
  have ht := Tryz.underlying61
  have hok2 := hok
  simp only [Value.okWide, ht] at hok2
  obtain ⟨cs, rfl, hcs, ts, hts, _, hcell⟩ := hok2
  have hc4 : cs.size = 2 := by rw [hcs]; kernel_rfl
  have hts4 : Tryz.prog.cellTypes Tryz.prog.depth 61 = some [23, 23] := by kernel_rfl
  rw [hts] at hts4
  injection hts4 with hts4
  subst hts4
  obtain ⟨fuel, hf⟩ := hf
  obtain ⟨xs, k, _, hxy, hlen, hxl, hff⟩ := DataW.trod_struct ht hf
  obtain ⟨l, rfl⟩ : ∃ l : List Value, cs = l.toArray := ⟨cs.toList, by simp⟩
  have hl4 : l.length = 2 := by simpa using hc4
  match l, hl4, xs, hxl with
  | [v0, v1], _, [y0, y1], _ =>
    have s0 : Tryz.prog.cellsOf 23 = 1 := by kernel_rfl
    have g0 := hff 0 _ rfl
    have g1 := hff 1 _ rfl
    simp [s0, Value.cells] at g0 g1
    obtain ⟨u0, hu0, o0⟩ := hcell 0 v0 rfl
    obtain ⟨u1, hu1, o1⟩ := hcell 1 v1 rfl
    injection hu0 with hu0
    injection hu1 with hu1
    subst hu0 hu1
    injection hxy with hd _
    have hwt : ∀ n, (n ∈ y0.1.weights Tryz.prog 23 ∨ n ∈ y1.1.weights Tryz.prog 23) → n ≤ reachBytes := by
      intro n hn
      refine hsz n ?_
      rw [hd]
      simp only [DataW.weights, ht, List.map_cons, List.map_nil, DataW.weightsEach, List.mem_append]
      rcases hn with hn | hn
      · exact .inl hn
      · exact .inr (.inl hn)
    obtain ⟨d0, p0⟩ := y0
    obtain ⟨d1, p1⟩ := y1
    have ok0 : Value.okWide Tryz.prog W r b0 23 v0 := by
      simp only [Value.okWide, Tryz.underlying23]; exact o0
    have ok1 : Value.okWide Tryz.prog W r b0 23 v1 := by
      simp only [Value.okWide, Tryz.underlying23]; exact o1
    obtain ⟨a0, n0, c0, rfl⟩ := okWide_slice Tryz.underlying23 ok0
    obtain ⟨a1, n1, c1, rfl⟩ := okWide_slice Tryz.underlying23 ok1
    obtain ⟨zs, hN⟩ := nl_arg ok0 Tryz.underlying23 Tryz.underlying9 (by kernel_rfl) g0 (fun n hn => hwt n (.inl hn))
    obtain ⟨ys, hM⟩ := nl_arg ok1 Tryz.underlying23 Tryz.underlying9 (by kernel_rfl) g1 (fun n hn => hwt n (.inr hn))
    exact ⟨(), zs, ys, a0, n0, c0, a1, n1, c1, rfl, hN, hM, slice_cap Tryz.underlying23 ok0, slice_cap Tryz.underlying23 ok1⟩
theorem ab_ok : RuleOk [(⟨#[97]⟩ : ByteArray)] [(⟨#[98]⟩ : ByteArray)] := by
  refine ⟨by decide, by simp, fun s hs => ?_, by simp⟩
  simp at hs
  rcases hs with rfl | rfl <;> decide
theorem ab_text : ruleT [(⟨#[97]⟩ : ByteArray)] [(⟨#[98]⟩ : ByteArray)] = [97, 32, 58, 32, 98] := by decide
theorem ruleT_small {T N : List ByteArray} (h : ruleE T N = 0) : (txt (ruleT T N)).size ≤ 1048576 := by
  have := ruleT_len (ruleE_zero.1 h)
  rw [txt_size]; omega
/-- what Parse answers to a printed rule -/
theorem ParseP_ok {T N : List ByteArray} (h : ruleE T N = 0) (w : World) :
    Calls Tryz.prog 42 #[.string (txt (ruleT T N))] w fun e w' => (∃ p n c q m d, e = .returned (.tuple #[.agg #[.slice p n c, .slice q m d], .int .i64 0]) ∧ RuleIn w' (.agg #[.slice p n c, .slice q m d]) T N) ∧ Below w.heap.size w w' := by
  refine (ParseR_ok _ w (ruleT_small h)).mono ?_
  obtain ⟨p1, p2, p3⟩ := parse_print (ruleE_zero.1 h)
  rintro e w1 ⟨⟨v, he, hv⟩, hb⟩
  rw [txt_list, p1] at he hv
  rcases hv with ⟨hv, _⟩ | ⟨_, hv⟩
  · exact absurd rfl hv
  · rw [p2, p3] at hv
    have hv2 := hv
    obtain ⟨p, n, c, q, m, d, rfl, _⟩ := hv
    exact ⟨⟨p, n, c, q, m, d, he, hv2⟩, hb⟩
/-- what Parse answers, its value written out -/
theorem ParseA_ok (s : ByteArray) (w : World) (hs : s.size ≤ 1048576) : Calls Tryz.prog 42 #[.string s] w fun e w' =>
    (∃ p n c q m d, e = .returned (.tuple #[.agg #[.slice p n c, .slice q m d], .int .i64 (parseE s.data.toList)]) ∧ ((parseE s.data.toList ≠ 0 ∧ RuleIn w' (.agg #[.slice p n c, .slice q m d]) [] []) ∨ (parseE s.data.toList = 0 ∧ ruleE (parseT s.data.toList) (parseN s.data.toList) = 0 ∧ RuleIn w' (.agg #[.slice p n c, .slice q m d]) (parseT s.data.toList) (parseN s.data.toList)))) ∧ Below w.heap.size w w' := by
  refine (ParseR_ok _ w hs).mono ?_
  rintro e w1 ⟨⟨v, he, hv⟩, hb⟩
  rcases hv with ⟨h1, rfl⟩ | ⟨h1, hv⟩
  · exact ⟨⟨none, 0, 0, none, 0, 0, he, .inl ⟨h1, nil_rule w1⟩⟩, hb⟩
  · have hv2 := hv
    obtain ⟨p, n, c, q, m, d, rfl, _⟩ := hv
    have h2 : ruleE (parseT s.data.toList) (parseN s.data.toList) = 0 := by
      have := h1
      unfold parseE at this
      split at this
      · cases this
      · exact this
    exact ⟨⟨p, n, c, q, m, d, he, .inr ⟨h1, h2, hv2⟩⟩, hb⟩
theorem below1 (w : World) (o : Obj) : Below w.heap.size w (w.alloc o) := (Below.refl _ _).alloc (Nat.le_refl _) _
end Go.Proofs.YtoiolepengcagaaGreatDoor
namespace Go.Proofs.YtoiolepengcagaaGreatDoor
open Go.RowKit Go.Shelf Go.ChangeShapes Go.WideShapes
def WkOk (W : World) (a : Option Addr) (len cap : Nat) : Prop := (∃ zs, NLw W a len cap zs) ∧ len ≤ cap
theorem nlw_any {H : Type} {enc : TypeId × Value → H} {W : World} {fuel : Nat} {v : Value} {d : DataW H} {p : List MemPlace}
    (hf : DataW.trod enc Tryz.prog W 0 (fun _ => true) true fuel 23 [v] = some (d, p))
    (hsz : ∀ n, n ∈ d.weights Tryz.prog 23 → n ≤ reachBytes) : ∃ a len cap, v = .slice a len cap ∧ WkOk W a len cap := by
  have ht := Tryz.underlying23
  have he := Tryz.underlying9
  have hc : Tryz.prog.cellsOf 9 = 1 := by kernel_rfl
  rcases open_strings ht he hc hf with ⟨h1, h2⟩ | ⟨ad, ln, cp, zs, h1, h2, h3, h4, h5, h6, h7, h8⟩
  · injection h1 with h1 _
    subst h1
    exact ⟨none, 0, 0, rfl, ⟨[], ⟨rfl, Reads.none_, fun s hs => (by cases hs), by omega⟩, fun h => by omega, by omega⟩, Nat.le_refl _⟩
  · injection h1 with h1 _
    subst h1
    obtain ⟨ss, hS⟩ := str_arg ht he hc hf hsz
    refine ⟨some ad, ln, cp, rfl, ⟨ss, hS, fun h0 ad' e => ?_, ?_⟩, ?_⟩
    · injection e with e
      subst e
      obtain ⟨b, o, s⟩ := ad
      have h5' := h5
      simp only [if_true] at h5'
      have hcell := h7 0 (by omega)
      have hs : s = none := by simpa [Addr.add] using World.cell?_spot hcell
      subst hs
      refine ⟨b, o, rfl, ?_⟩
      have := World.block_lt_of_cell? W _ hcell
      rwa [block_of_add] at this
    · injection h6 with h6 h6'
      have hw : d.weights Tryz.prog 23 = ((strs (H := H) (zs.take ln)).length + (strs (H := H) (zs.drop ln)).length) * Tryz.prog.bytesOf 9 :: (DataW.weightsAll Tryz.prog 9 (strs (H := H) (zs.take ln)) ++ DataW.weightsAll Tryz.prog 9 (strs (H := H) (zs.drop ln))) := by
        rw [h6, DataW.weights, ht]
      have hb := hsz _ (by rw [hw]; exact List.mem_cons_self)
      have hby : Tryz.prog.bytesOf 9 = 16 := by kernel_rfl
      rw [hby] at hb
      unfold reachBytes at hb
      simp only [if_true] at h5
      have hl1 : (strs (H := H) (zs.take ln)).length = ln := by unfold strs; rw [List.length_map, List.length_take]; omega
      rw [hl1] at hb
      omega
    · omega
theorem weightsAll_mem {H : Type} {P : Program} {e : TypeId} {d : DataW H} {n : Nat} (hn : n ∈ d.weights P e) : ∀ {ds : List (DataW H)}, d ∈ ds → n ∈ DataW.weightsAll P e ds := by
  intro ds
  induction ds with
  | nil => intro h; cases h
  | cons x ds ih =>
    intro h
    rw [DataW.weightsAll]
    rcases List.mem_cons.1 h with rfl | h
    · exact List.mem_append_left _ hn
    · exact List.mem_append_right _ (ih h)
/-- the slice of pairs that a law is handed, each field of a weight that is told -/
theorem p2_argw {A B H : Type} {enc : TypeId × Value → H} {P : Program} {W : World} {fuel len cap : Nat} {a : Option Addr} {d : DataW H} {p : List MemPlace} {t e : TypeId} {f0 f1 : Field} (F : A → Value) (G : B → Value)
    (ht : P.underlying t = some (.slice e)) (he : P.underlying e = some (.struct #[f0, f1])) (ce : P.cellsOf e = 2) (o0 : f0.offset = 0) (o1 : f1.offset = 1) (c0 : P.cellsOf f0.type = 1) (c1 : P.cellsOf f1.type = 1)
    (hF : ∀ n v x, DataW.trod enc P W 0 (fun _ => true) true n f0.type [v] = some x → (∀ k, k ∈ x.1.weights P f0.type → k ≤ reachBytes) → ∃ a, v = F a)
    (hG : ∀ n v x, DataW.trod enc P W 0 (fun _ => true) true n f1.type [v] = some x → (∀ k, k ∈ x.1.weights P f1.type → k ≤ reachBytes) → ∃ b, v = G b)
    (hby : 16 ≤ P.bytesOf e) (hf : DataW.trod enc P W 0 (fun _ => true) true fuel t [.slice a len cap] = some (d, p)) (hsz : ∀ n, n ∈ d.weights P t → n ≤ reachBytes) :
    ∃ l : List (A × B), P2At (fun x => F x.1) (fun x => G x.2) W a len cap l := by
  rcases Go.Deep.open_slice_pairs ht he ce o0 o1 c0 c1 hf with ⟨h1, _⟩ | ⟨ad, ln, cp, m, n, V0, V1, D0, D1, P0, P1, h1, _, h3, _, h5, h6, h7⟩
  · injection h1 with h1 _
    injection h1 with e1 e2 e3
    subst e1 e2 e3
    exact ⟨[], rfl, fun h => by omega, by omega⟩
  · injection h1 with h1 _
    injection h1 with e1 e2 e3
    subst e1 e2 e3
    simp only [if_true] at h5
    subst h5
    injection h6 with h6 _
    have hel : ∀ i, i < len → ∀ k, k ∈ (DataW.agg [D0 i, D1 i]).weights P e → k ≤ reachBytes := by
      intro i hi k hk
      refine hsz k ?_
      rw [h6, DataW.weights, ht]
      refine List.mem_cons_of_mem _ (List.mem_append_left _ (weightsAll_mem hk ?_))
      exact List.mem_map.2 ⟨i, List.mem_range.2 hi, rfl⟩
    have hex : ∀ i, i < len → ∃ q : A × B, W.cell? (ad.add (i * 2)) = some (F q.1) ∧ W.cell? (ad.add (i * 2 + 1)) = some (G q.2) := by
      intro i hi
      obtain ⟨k1, k2, k3, k4⟩ := h7 i (by omega)
      obtain ⟨x, hx⟩ := hF _ _ _ k3 (fun k hk => hel i hi k (by simp only [DataW.weights, he, List.map_cons, List.map_nil, DataW.weightsEach, List.mem_append]; exact .inl hk))
      obtain ⟨y, hy⟩ := hG _ _ _ k4 (fun k hk => hel i hi k (by simp only [DataW.weights, he, List.map_cons, List.map_nil, DataW.weightsEach, List.mem_append]; exact .inr (.inl hk)))
      exact ⟨(x, y), by rw [k1, hx], by rw [k2, hy]⟩
    obtain ⟨l, hl, hq⟩ := list_of len _ hex
    have hb := hsz ((len + (m - len)) * P.bytesOf e) (by
      rw [h6, DataW.weights, ht]
      simp)
    have hrb : reachBytes < 2 ^ 47 := reachBytes_lt
    have hmul : (len + (m - len)) * 16 ≤ (len + (m - len)) * P.bytesOf e := Nat.mul_le_mul_left _ hby
    refine ⟨l, hl, fun hn => ?_, by omega⟩
    obtain ⟨b, o, s⟩ := ad
    have hs : s = none := by
      have h0 := (h7 0 (by omega)).1
      simpa [Addr.add] using World.cell?_spot h0
    subst hs
    refine ⟨b, o, rfl, ?_, fun k x hx => ?_⟩
    · have := World.block_lt_of_cell? W _ (h7 0 (by omega)).1
      rwa [block_of_add] at this
    · have := hq k x hx
      rw [Addr.add_lit, Addr.add_lit] at this
      exact this
def RulesAt (w : World) (v : Value) (_ : Unit) : Prop := ∃ p n c l, v = .slice p n c ∧ RulesIn w p n c l
set_option maxRecDepth 100000 in
theorem rules_arg {H : Type} {enc : TypeId × Value → H} {W : World} {r : Reach} {b0 : Nat} {v : Value} {d : DataW H} {p : List MemPlace}
    (hok : Value.okWide Tryz.prog W r b0 41 v) (hf : DataW.Trod enc Tryz.prog W 0 (fun _ => true) true 41 v d p)
    (hsz : ∀ n, n ∈ d.weights Tryz.prog 41 → n ≤ reachBytes) : ∃ g, RulesAt W v g := by
  obtain ⟨a0, n0, c0, rfl⟩ := Go.WideShapes.okWide_slice Tryz.underlying41 hok
  obtain ⟨fuel, hf⟩ := hf
  have hS : ∀ n v x, DataW.trod enc Tryz.prog W 0 (fun _ => true) true n 23 [v] = some x → (∀ k, k ∈ x.1.weights Tryz.prog 23 → k ≤ reachBytes) → ∃ a : {x : Hd // x.ok W}, v = a.1.v := by
    rintro n v ⟨d, p⟩ h hw
    obtain ⟨a, len, cap, rfl, ⟨zs, hN⟩, hc⟩ := nlw_any h hw
    exact ⟨⟨⟨a, len, cap, zs⟩, hN, hc⟩, rfl⟩
  obtain ⟨l, hE⟩ := p2_argw (A := {x : Hd // x.ok W}) (B := {x : Hd // x.ok W}) (fun a => a.1.v) (fun a => a.1.v) Tryz.underlying41 Tryz.underlying61 (by kernel_rfl) rfl rfl (by kernel_rfl) (by kernel_rfl) hS hS (by decide +kernel) hf hsz
  refine ⟨(), a0, n0, c0, l.map (fun x => (x.1.1, x.2.1)), rfl, ⟨by rw [List.length_map]; exact hE.len, fun h0 => ?_, hE.big⟩, fun x hx => ?_, slice_cap Tryz.underlying41 hok⟩
  · obtain ⟨b, o, e, hb, hc⟩ := hE.at_ h0
    refine ⟨b, o, e, hb, fun k x hx => ?_⟩
    rw [List.getElem?_map, Option.map_eq_some_iff] at hx
    obtain ⟨y, hy, rfl⟩ := hx
    exact hc k y hy
  · obtain ⟨y, _, rfl⟩ := List.mem_map.1 hx
    exact ⟨y.1.2, y.2.2⟩
end Go.Proofs.YtoiolepengcagaaGreatDoor
namespace Go.Proofs.YtoiolepengcagaaGreatDoor
open Go.RowKit Go.Shelf Go.Maps
theorem nlw_equalG {w : World} {p q : Option Addr} {n m c d : Nat} {zs ys : List ByteArray} (h : NLw w p n c zs) (h2 : NLw w q m d ys) :
    Calls Tryz.prog 10 #[.slice p n c, .slice q m d] w fun e w' => e = .returned (.bool (decide (zs = ys))) ∧ ∃ k, w' = w.drewN k := by
  have hl := h.at_.len
  have hl2 := h2.at_.len
  have hb := h.at_.big
  have hb2 := h2.at_.big
  subst hl hl2
  by_cases hne : zs.length = ys.length
  · rcases Nat.eq_zero_or_pos zs.length with h0 | h0
    · have e1 : zs = [] := List.length_eq_zero_iff.1 h0
      have e2 : ys = [] := List.length_eq_zero_iff.1 (by omega)
      subst e1 e2
      refine (Tryz.slices_Equal_string_empty p q c 0 d w (by omega)).mono ?_
      rintro e w' ⟨he, rfl⟩
      exact ⟨by simpa using he, 0, rfl⟩
    · obtain ⟨ad, rfl, _⟩ := h.at_.reads.2 h0
      obtain ⟨b, o, rfl, _⟩ := h.plain h0 _ rfl
      obtain ⟨ad, rfl, _⟩ := h2.at_.reads.2 (by omega)
      obtain ⟨b2, o2, rfl, _⟩ := h2.plain (by omega) _ rfl
      refine (Tryz.slices_Equal_string b o zs.length c b2 o2 ys.length d zs ys w (Nat.le_refl _) (Nat.le_refl _) (by omega) (by omega) h.cellAt h2.cellAt).mono ?_
      rintro e w' ⟨he, hw⟩
      rw [List.take_length, List.take_length] at he
      exact ⟨he, hw⟩
  · have HE : Hid (zs ≠ ys) := fun e => hne (by rw [e])
    have hd : ((zs.length : Int) != (ys.length : Int)) = true := by
      have : ¬ (zs.length : Int) = (ys.length : Int) := by omega
      simpa using this
    have hd2 : ((zs.length : Int) == (ys.length : Int)) = false := by
      have : ¬ (zs.length : Int) = (ys.length : Int) := by omega
      simpa using this
    clear hne h h2
    go_enter Tryz.func10, Tryz.ntmps10
    go_wp2
    go_ret
    exact ⟨by rw [decide_eq_false HE.out]; rfl, 0, rfl⟩
theorem take_eq_next {α : Type} {l m : List α} {k : Nat} (h : l.take k = m.take k) {x y : α} (hx : l[k]? = some x) (hy : m[k]? = some y) : (l.take (k + 1) = m.take (k + 1) ↔ x = y) := by
  rw [List.take_add_one, List.take_add_one, hx, hy, h]
  simp
theorem run_neqM (x1 x2 y1 y2 : ByteArray) (u : World) : (binOp .neq 86 (.agg #[.string x1, .string x2]) (.agg #[.string y1, .string y2])).run Tryz.prog u = .ok (.bool (!(x1.toList == y1.toList && x2.toList == y2.toList))) u := by
  have ht := Tryz.underlying86
  have hu : Tryz.prog.underlying 86 = some (.struct (Tryz.prog.fieldsOf 86)) := by unfold Program.fieldsOf; rw [ht]
  have hs : Tryz.prog.stoodInHeld 86 = false := by kernel_rfl
  rw [run_neq_struct, run_equalIn_agg u 9999 86 _ _ hu hs]
  simp only [Program.fieldsOf, ht]
  cases h1 : (x1.toList == y1.toList)
  · simp [Op.eqFields, part, h1, run_equalIn_string, Tryz.underlying9]
  · simp [Op.eqFields, part, h1, run_equalIn_string, Tryz.underlying9]
    by_cases h : x2.toList = y2.toList <;> simp [h]
set_option maxHeartbeats 4000000 in
set_option maxRecDepth 100000 in
theorem equalMG (p q : Option Addr) (n m c d : Nat) (l k : List Inf) (w : World) (h1 : P2At iF iG w p n c l) (h2 : P2At iF iG w q m d k) :
    Calls Tryz.prog 44 #[.slice p n c, .slice q m d] w fun e w' => e = .returned (.bool (decide (l = k))) ∧ Below w.heap.size w w' := by
  have hln := h1.len
  have hlm := h2.len
  have hbig := h1.big
  have hbig2 := h2.big
  subst hln hlm
  have H1 := Lib.hid (fun u (hu : Below w.heap.size w u) => h1.below hu)
  have H2 := Lib.hid (fun u (hu : Below w.heap.size w u) => h2.below hu)
  clear h1 h2
  by_cases hne : l.length = k.length
  · obtain ⟨N, hN⟩ : ∃ N, N = l.length := ⟨_, rfl⟩
    have hK : k.length = N := by omega
    rw [← hN] at H1 hbig ⊢
    rw [hK] at H2 hbig2 ⊢
    have HLN := Lib.hid hN
    have HLK := Lib.hid hK
    have hnn : ((N : Int) != (N : Int)) = false := by simp
    clear hN hK hne
    go_enter Tryz.func44, Tryz.ntmps44
    go_wp2
    go_loopw [13] (fun i wr => ∃ j : Nat, j ≤ N ∧ i = .int .i64 j ∧ Hid (l.take j = k.take j) ∧ Hid (Below w.heap.size w wr)) (fun i _ => N - (intOf i).toNat)
    case atStart => exact ⟨0, Nat.zero_le _, rfl, rfl, Below.refl _ _⟩
    case round =>
      obtain ⟨j, hj, rfl, HT, HB⟩ := hrel
      by_cases hlt : j < N
      · obtain ⟨x, hx⟩ : ∃ x, l[j]? = some x := ⟨_, List.getElem?_eq_getElem (by have := HLN.out; omega)⟩
        obtain ⟨y, hy⟩ : ∃ y, k[j]? = some y := ⟨_, List.getElem?_eq_getElem (by have := HLK.out; omega)⟩
        obtain ⟨b1, o1, rfl, _, c1, c2⟩ := (H1.out _ HB.out).cell hx
        obtain ⟨b2, o2, rfl, _, d1, d2⟩ := (H2.out _ HB.out).cell hy
        rw [← Nat.add_assoc] at c2 d2
        have HNX := Lib.hid (take_eq_next HT.out hx hy)
        have HXK : Hid (x ≠ y → l ≠ k) := fun h e => h (by rw [e, hy] at hx; injection hx with hx; exact hx.symm)
        clear hx hy
        obtain ⟨x1, x2⟩ := x
        obtain ⟨y1, y2⟩ := y
        simp only [iF, iG] at c1 c2 d1 d2
        have hji : (j : Int) < (N : Int) := by omega
        have hrun := fun u => run_neqM x1 x2 y1 y2 u
        by_cases hxy : (x1, x2) = (y1, y2)
        · have HY := Lib.hid (HNX.out.2 hxy)
          have hv : (x1.toList == y1.toList && x2.toList == y2.toList) = true := infEq (x := (x1, x2)) (y := (y1, y2)) |>.2 hxy.symm
          rw [hv] at hrun
          clear hv hxy
          go_upto_region 6 with fail
          go_quiet (fail)
          go_wp2
          go_roundw
          case rel => exact ⟨j + 1, by omega, by go_num, HY.out, below_drawsP HB.out _⟩
          case measure => simp [intOf]; omega
        · have HY := Lib.hid (HXK.out hxy)
          have hv : (x1.toList == y1.toList && x2.toList == y2.toList) = false := by
            cases hc : (x1.toList == y1.toList && x2.toList == y2.toList) with
            | false => rfl
            | true => exact absurd (infEq (x := (x1, x2)) (y := (y1, y2)) |>.1 hc).symm hxy
          rw [hv] at hrun
          clear hv hxy
          go_upto_region 6 with fail
          go_quiet (fail)
          go_wp2
          go_ret
          exact ⟨by rw [decide_eq_false HY.out]; rfl, below_drawsP HB.out _⟩
      · obtain rfl : j = N := by omega
        have HE : Hid (l = k) := by
          show l = k
          have := HT.out
          rwa [List.take_of_length_le (by have := HLN.out; omega), List.take_of_length_le (by have := HLK.out; omega)] at this
        go_wp2
        go_ret
        exact ⟨by rw [decide_eq_true HE.out]; rfl, HB.out⟩
  · have hd : ((l.length : Int) != (k.length : Int)) = true := by
      have : ¬ (l.length : Int) = (k.length : Int) := by omega
      simpa using this
    have hd2 : ((l.length : Int) == (k.length : Int)) = false := by
      have : ¬ (l.length : Int) = (k.length : Int) := by omega
      simpa using this
    have HE : Hid (l ≠ k) := fun e => hne (by rw [e])
    clear hne
    go_enter Tryz.func44, Tryz.ntmps44
    go_wp2
    go_ret
    exact ⟨by rw [decide_eq_false HE.out]; rfl, Below.refl _ _⟩
theorem run_neqI (x1 x2 y1 y2 : ByteArray) (u : World) : (binOp .neq 100 (.agg #[.string x1, .string x2]) (.agg #[.string y1, .string y2])).run Tryz.prog u = .ok (.bool (!(x1.toList == y1.toList && x2.toList == y2.toList))) u := by
  have ht := Tryz.underlying100
  have hu : Tryz.prog.underlying 100 = some (.struct (Tryz.prog.fieldsOf 100)) := by unfold Program.fieldsOf; rw [ht]
  have hs : Tryz.prog.stoodInHeld 100 = false := by kernel_rfl
  rw [run_neq_struct, run_equalIn_agg u 9999 100 _ _ hu hs]
  simp only [Program.fieldsOf, ht]
  cases h1 : (x1.toList == y1.toList)
  · simp [Op.eqFields, part, h1, run_equalIn_string, Tryz.underlying9]
  · simp [Op.eqFields, part, h1, run_equalIn_string, Tryz.underlying9]
    by_cases h : x2.toList = y2.toList <;> simp [h]
set_option maxHeartbeats 4000000 in
set_option maxRecDepth 100000 in
theorem equalIG (p q : Option Addr) (n m c d : Nat) (l k : List Inf) (w : World) (h1 : P2At iF iG w p n c l) (h2 : P2At iF iG w q m d k) :
    Calls Tryz.prog 45 #[.slice p n c, .slice q m d] w fun e w' => e = .returned (.bool (decide (l = k))) ∧ Below w.heap.size w w' := by
  have hln := h1.len
  have hlm := h2.len
  have hbig := h1.big
  have hbig2 := h2.big
  subst hln hlm
  have H1 := Lib.hid (fun u (hu : Below w.heap.size w u) => h1.below hu)
  have H2 := Lib.hid (fun u (hu : Below w.heap.size w u) => h2.below hu)
  clear h1 h2
  by_cases hne : l.length = k.length
  · obtain ⟨N, hN⟩ : ∃ N, N = l.length := ⟨_, rfl⟩
    have hK : k.length = N := by omega
    rw [← hN] at H1 hbig ⊢
    rw [hK] at H2 hbig2 ⊢
    have HLN := Lib.hid hN
    have HLK := Lib.hid hK
    have hnn : ((N : Int) != (N : Int)) = false := by simp
    clear hN hK hne
    go_enter Tryz.func45, Tryz.ntmps45
    go_wp2
    go_loopw [13] (fun i wr => ∃ j : Nat, j ≤ N ∧ i = .int .i64 j ∧ Hid (l.take j = k.take j) ∧ Hid (Below w.heap.size w wr)) (fun i _ => N - (intOf i).toNat)
    case atStart => exact ⟨0, Nat.zero_le _, rfl, rfl, Below.refl _ _⟩
    case round =>
      obtain ⟨j, hj, rfl, HT, HB⟩ := hrel
      by_cases hlt : j < N
      · obtain ⟨x, hx⟩ : ∃ x, l[j]? = some x := ⟨_, List.getElem?_eq_getElem (by have := HLN.out; omega)⟩
        obtain ⟨y, hy⟩ : ∃ y, k[j]? = some y := ⟨_, List.getElem?_eq_getElem (by have := HLK.out; omega)⟩
        obtain ⟨b1, o1, rfl, _, c1, c2⟩ := (H1.out _ HB.out).cell hx
        obtain ⟨b2, o2, rfl, _, d1, d2⟩ := (H2.out _ HB.out).cell hy
        rw [← Nat.add_assoc] at c2 d2
        have HNX := Lib.hid (take_eq_next HT.out hx hy)
        have HXK : Hid (x ≠ y → l ≠ k) := fun h e => h (by rw [e, hy] at hx; injection hx with hx; exact hx.symm)
        clear hx hy
        obtain ⟨x1, x2⟩ := x
        obtain ⟨y1, y2⟩ := y
        simp only [iF, iG] at c1 c2 d1 d2
        have hji : (j : Int) < (N : Int) := by omega
        have hrun := fun u => run_neqI x1 x2 y1 y2 u
        by_cases hxy : (x1, x2) = (y1, y2)
        · have HY := Lib.hid (HNX.out.2 hxy)
          have hv : (x1.toList == y1.toList && x2.toList == y2.toList) = true := infEq (x := (x1, x2)) (y := (y1, y2)) |>.2 hxy.symm
          rw [hv] at hrun
          clear hv hxy
          go_upto_region 6 with fail
          go_quiet (fail)
          go_wp2
          go_roundw
          case rel => exact ⟨j + 1, by omega, by go_num, HY.out, below_drawsP HB.out _⟩
          case measure => simp [intOf]; omega
        · have HY := Lib.hid (HXK.out hxy)
          have hv : (x1.toList == y1.toList && x2.toList == y2.toList) = false := by
            cases hc : (x1.toList == y1.toList && x2.toList == y2.toList) with
            | false => rfl
            | true => exact absurd (infEq (x := (x1, x2)) (y := (y1, y2)) |>.1 hc).symm hxy
          rw [hv] at hrun
          clear hv hxy
          go_upto_region 6 with fail
          go_quiet (fail)
          go_wp2
          go_ret
          exact ⟨by rw [decide_eq_false HY.out]; rfl, below_drawsP HB.out _⟩
      · obtain rfl : j = N := by omega
        have HE : Hid (l = k) := by
          show l = k
          have := HT.out
          rwa [List.take_of_length_le (by have := HLN.out; omega), List.take_of_length_le (by have := HLK.out; omega)] at this
        go_wp2
        go_ret
        exact ⟨by rw [decide_eq_true HE.out]; rfl, HB.out⟩
  · have hd : ((l.length : Int) != (k.length : Int)) = true := by
      have : ¬ (l.length : Int) = (k.length : Int) := by omega
      simpa using this
    have hd2 : ((l.length : Int) == (k.length : Int)) = false := by
      have : ¬ (l.length : Int) = (k.length : Int) := by omega
      simpa using this
    have HE : Hid (l ≠ k) := fun e => hne (by rw [e])
    clear hne
    go_enter Tryz.func45, Tryz.ntmps45
    go_wp2
    go_ret
    exact ⟨by rw [decide_eq_false HE.out]; rfl, Below.refl _ _⟩
end Go.Proofs.YtoiolepengcagaaGreatDoor
