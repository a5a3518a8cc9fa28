/- Texts joined: ReadP, ConcatNW, RuleW, RulePW, RuleLW, MacroP. Conditions: theirs. -/
import Derived.Test.YtoiolepengcagaaDoorLineQ
import Derived.Test.YtoiolepengcagaaDoorFileCycleWM3
import Derived.Test.YtoiolepengcagaaDoorWordsP
import Derived.Test.YtoiolepengcagaaDoorRuleP
import Derived.Test.YtoiolepengcagaaDoorFileCycleWM2
import Derived.Deep.RegionHeld3
namespace Go.Proofs.YtoiolepengcagaaDoor
/-! ### a text behind one whose last line ends -/
/-- ends with a line's end that is not put off -/
def EndedL (w : Bl) : Prop := ∃ v, w = v ++ [10] ∧ Lib.hasSuffix v [92] = false
theorem suf_iff (l : Bl) : Lib.hasSuffix l [92] = true ↔ ∃ a, l = a ++ [92] := by
  unfold Lib.hasSuffix
  rw [List.isSuffixOf_iff_suffix]
  constructor
  · rintro ⟨a, h⟩; exact ⟨a, h.symm⟩
  · rintro ⟨a, h⟩; exact ⟨a, h.symm⟩
theorem suf_behind {a b : Bl} (h : Lib.hasSuffix (a ++ b) [92] = false) : Lib.hasSuffix b [92] = false := by
  rw [← Bool.not_eq_true, suf_iff] at h ⊢
  rintro ⟨c, rfl⟩
  exact h ⟨a ++ c, by simp⟩
theorem onl_end (text : Bl) {v : Bl} (h : Lib.hasSuffix v [92] = false) : Lib.hasSuffix (onl text v) [92] = false := by
  unfold onl
  split
  · exact h
  · unfold Lib.trimLeftS
    have : ∃ a, v = a ++ v.dropWhile (fun x => ([32, 9] : List UInt8).contains x) := ⟨v.takeWhile _, (List.takeWhile_append_dropWhile).symm⟩
    obtain ⟨a, ha⟩ := this
    rw [ha] at h
    exact suf_behind h
theorem nl_ended {w : Bl} (h : EndedL w) : (∃ v, nl w = (v, []) ∧ w = v ++ [10] ∧ (10 : UInt8) ∉ v ∧ Lib.hasSuffix v [92] = false) ∨ ∃ u r, nl w = (u, r) ∧ w = u ++ 10 :: r ∧ (10 : UInt8) ∉ u ∧ EndedL r := by
  obtain ⟨v, rfl, hs⟩ := h
  rcases nl_split v with ⟨h1, _⟩ | ⟨u, r, h1, h2, _⟩
  · left
    exact ⟨v, by rw [nl_yes h1], rfl, h1, hs⟩
  · right
    refine ⟨u, r ++ [10], ?_, by rw [h1]; simp, h2, r, rfl, ?_⟩
    · rw [h1, List.append_assoc, List.cons_append, nl_yes h2]
    · rw [h1, show u ++ 10 :: r = (u ++ [10]) ++ r by simp] at hs
      exact suf_behind hs
theorem lg_behindE : ∀ n text w t at_, w.length ≤ n → EndedL w → lg text (w ++ t) at_ = ((lg text w at_).1, (lg text w at_).2.1 ++ t, (lg text w at_).2.2) ∧
    ((lg text w at_).2.1 = [] ∨ EndedL (lg text w at_).2.1) ∧ (lg text w at_).2.2 + (lg text w at_).2.1.count 10 + 1 = at_ + w.count 10 := by
  intro n
  induction n with
  | zero =>
    intro text w t at_ h hw
    obtain ⟨v, rfl, _⟩ := hw
    simp at h
  | succ n ih =>
    intro text w t at_ h hw
    rcases nl_ended hw with ⟨v, h1, h2, h3, h5⟩ | ⟨u, r, h1, h2, h3, h4⟩
    · have e : nl (w ++ t) = (v, t) := by
        rw [h2, show v ++ [10] ++ t = v ++ 10 :: t by simp, nl_yes h3]
      rw [lg_eq text (w ++ t), lg_eq text w, e, h1]
      simp only [onl_end text h5]
      rw [if_neg (by simp), if_neg (by simp)]
      refine ⟨rfl, .inl rfl, ?_⟩
      have hc : v.count 10 = 0 := List.count_eq_zero.2 h3
      rw [h2, List.count_append, hc]
      simp
    · have e : nl (w ++ t) = (u, r ++ t) := by rw [h2, List.append_assoc, List.cons_append, nl_yes h3]
      have hr : r ≠ [] := by obtain ⟨v, rfl, _⟩ := h4; simp
      have hrt : r ++ t ≠ [] := by simp [hr]
      have hcw : w.count 10 = r.count 10 + 1 := by
        have hc : u.count 10 = 0 := List.count_eq_zero.2 h3
        rw [h2, List.count_append, hc]
        simp
      rw [lg_eq text (w ++ t), lg_eq text w, e, h1]
      by_cases hs : Lib.hasSuffix (onl text u) [92] = true
      · rw [if_pos ⟨hs, hrt⟩, if_pos ⟨hs, hr⟩]
        have hlr : r.length ≤ n := by rw [h2] at h; simp at h; omega
        obtain ⟨i1, i2, i3⟩ := ih (text ++ Lib.trimSuffix (onl text u) [92] ++ [32]) r t (at_ + 1) hlr h4
        exact ⟨i1, i2, by rw [hcw]; simp only; omega⟩
      · rw [if_neg (fun g => hs g.1), if_neg (fun g => hs g.1)]
        exact ⟨rfl, .inr h4, by rw [hcw]; show at_ + r.count 10 + 1 = _; omega⟩
theorem jg_behindE (t : Bl) : ∀ n w at_, w.length ≤ n → (w = [] ∨ EndedL w) → jg (w ++ t) at_ = jg w at_ ++ jg t (at_ + w.count 10) := by
  intro n
  induction n with
  | zero =>
    intro w at_ h hw
    have : w = [] := List.length_eq_zero_iff.1 (by omega)
    subst this
    rw [jg_nil]; rfl
  | succ n ih =>
    intro w at_ h hw
    rcases hw with rfl | hw
    · rw [jg_nil]; rfl
    · have hne : w ≠ [] := by obtain ⟨v, rfl, _⟩ := hw; simp
      have hnt : w ++ t ≠ [] := by simp [hne]
      obtain ⟨i1, i2, i3⟩ := lg_behindE _ [] w t (at_ + 1) (Nat.le_refl _) hw
      have hl := lg_len _ [] w (at_ + 1) (Nat.le_refl _) hne
      rw [jg_eq hnt, jg_eq hne, i1]
      simp only
      rw [ih _ _ (by omega) i2, List.append_assoc, show (lg [] w (at_ + 1)).2.2 + (lg [] w (at_ + 1)).2.1.count 10 = at_ + w.count 10 by omega]
theorem join_behindE (w t : Bl) (h : EndedL w) : joinL (w ++ t) = joinL w ++ moved (w.count 10) (joinL t) := by
  unfold joinL
  rw [jg_behindE t _ _ _ (Nat.le_refl _) (.inr h), jg_moved _ _ _ _ (Nat.le_refl _)]
/-- the texts of the lines -/
def txsL (s : Bl) : List Bl := (joinL s).map (·.2)
theorem txs_behind (w t : Bl) (h : EndedL w) : txsL (w ++ t) = txsL w ++ txsL t := by
  unfold txsL
  rw [join_behindE w t h, List.map_append]
  congr 1
  unfold moved
  rw [List.map_map]
  rfl
/-! ### the reader -/
def incW : Bl := [105, 110, 99, 108, 117, 100, 101]
def joinEL (s : Bl) : Int := if 20000 < s.length then 2 else if badB s = true then 3 else 0
mutual
/-- read a text: how many lines, what is told, the error -/
def readR (T : Bl → Option Bl) : Nat → List Bl → Nat → List Bl → Bl → Nat × List Bl × Int
  | f, op, many, out, s => if joinEL s ≠ 0 then (many, out, joinEL s) else readG T f op (txsL s) many out
  termination_by f => (f, 1, 0)
def readG (T : Bl → Option Bl) : Nat → List Bl → List Bl → Nat → List Bl → Nat × List Bl × Int
  | _, _, [], many, out => (many, out, 0)
  | f, op, x :: l, many, out =>
    if 200 < many + 1 then (many + 1, out, 2)
    else if (wordsL x).getD 0 [] ≠ incW then readG T f op l (many + 1) (out ++ [x])
    else if (wordsL x).length ≠ 2 then (many + 1, out, 3)
    else match T ((wordsL x).getD 1 []) with
      | none => (many + 1, out, 5)
      | some t => if (wordsL x).getD 1 [] ∈ op then (many + 1, out, 8) else
        match f with
        | 0 => (many + 1, out, 8)
        | f + 1 =>
          if (readR T f (op ++ [(wordsL x).getD 1 []]) (many + 1) out t).2.2 ≠ 0 then readR T f (op ++ [(wordsL x).getD 1 []]) (many + 1) out t
          else readG T (f + 1) op l (readR T f (op ++ [(wordsL x).getD 1 []]) (many + 1) out t).1 (readR T f (op ++ [(wordsL x).getD 1 []]) (many + 1) out t).2.1
  termination_by f _ l => (f, 0, l.length)
end
variable {T : Bl → Option Bl}
theorem readR_eq (f : Nat) (op : List Bl) (many : Nat) (out : List Bl) (s : Bl) : readR T f op many out s = if joinEL s ≠ 0 then (many, out, joinEL s) else readG T f op (txsL s) many out := by rw [readR]
theorem readG_nil (f : Nat) (op : List Bl) (many : Nat) (out : List Bl) : readG T f op [] many out = (many, out, 0) := by rw [readG]
theorem readG_text (f : Nat) (op : List Bl) (x : Bl) (l : List Bl) (many : Nat) (out : List Bl) (h : (wordsL x).getD 0 [] ≠ incW) :
    readG T f op (x :: l) many out = if 200 < many + 1 then (many + 1, out, 2) else readG T f op l (many + 1) (out ++ [x]) := by rw [readG, if_pos h]
theorem readG_inc (f : Nat) (op : List Bl) (x : Bl) (l : List Bl) (many : Nat) (out : List Bl) (t : Bl) (hm : ¬ 200 < many + 1) (h : (wordsL x).getD 0 [] = incW) (h2 : (wordsL x).length = 2) (hT : T ((wordsL x).getD 1 []) = some t) (ho : (wordsL x).getD 1 [] ∉ op) :
    readG T (f + 1) op (x :: l) many out = if (readR T f (op ++ [(wordsL x).getD 1 []]) (many + 1) out t).2.2 ≠ 0 then readR T f (op ++ [(wordsL x).getD 1 []]) (many + 1) out t
          else readG T (f + 1) op l (readR T f (op ++ [(wordsL x).getD 1 []]) (many + 1) out t).1 (readR T f (op ++ [(wordsL x).getD 1 []]) (many + 1) out t).2.1 := by
  rw [readG, if_neg hm, if_neg (fun e => e h), if_neg (fun e => e h2), hT]
  simp only
  rw [if_neg ho]
theorem readG_cyc (f : Nat) (op : List Bl) (x : Bl) (l : List Bl) (many : Nat) (out : List Bl) (t : Bl) (hm : ¬ 200 < many + 1) (h : (wordsL x).getD 0 [] = incW) (h2 : (wordsL x).length = 2) (hT : T ((wordsL x).getD 1 []) = some t) (ho : (wordsL x).getD 1 [] ∈ op) :
    readG T f op (x :: l) many out = (many + 1, out, 8) := by
  rw [readG, if_neg hm, if_neg (fun e => e h), if_neg (fun e => e h2), hT]
  simp only
  rw [if_pos ho]
/-- lines that include nothing -/
theorem readG_flat (f : Nat) (op : List Bl) : ∀ (l : List Bl) (many : Nat) (out : List Bl), (∀ x ∈ l, (wordsL x).getD 0 [] ≠ incW) → (readG T f op l many out).2.2 = 0 → readG T f op l many out = (many + l.length, out ++ l, 0) ∧ (l ≠ [] → many + l.length ≤ 200) := by
  intro l
  induction l with
  | nil => intro many out _ _; rw [readG_nil]; simp
  | cons x l ih =>
    intro many out h h0
    rw [readG_text _ _ _ _ _ _ (h x List.mem_cons_self)] at h0 ⊢
    by_cases hm : 200 < many + 1
    · rw [if_pos hm] at h0; cases h0
    · rw [if_neg hm] at h0 ⊢
      obtain ⟨h1, h2⟩ := ih (many + 1) (out ++ [x]) (fun y hy => h y (List.mem_cons_of_mem _ hy)) h0
      rw [h1]
      refine ⟨by rw [List.length_cons, List.append_assoc]; simp; omega, fun _ => ?_⟩
      rw [List.length_cons]
      by_cases hl : l = []
      · subst hl; simp; omega
      · have := h2 hl; omega
theorem readG_ahead (f : Nat) (op : List Bl) : ∀ (l m : List Bl) (many : Nat) (out : List Bl), (∀ x ∈ l, (wordsL x).getD 0 [] ≠ incW) → many + l.length ≤ 200 → readG T f op (l ++ m) many out = readG T f op m (many + l.length) (out ++ l) := by
  intro l
  induction l with
  | nil => intro m many out _ _; simp
  | cons x l ih =>
    intro m many out h h0
    rw [List.length_cons] at h0
    rw [List.cons_append, readG_text _ _ _ _ _ _ (h x List.mem_cons_self), if_neg (by omega), ih _ _ _ (fun y hy => h y (List.mem_cons_of_mem _ hy)) (by omega), List.append_assoc, List.length_cons, Nat.add_assoc, Nat.add_comm 1]
    rfl
/-- where there are no texts, nothing is included -/
theorem readG_none (f : Nat) (op : List Bl) : ∀ (l : List Bl) (many : Nat) (out : List Bl), (readG (fun _ => none) f op l many out).2.2 = 0 → ∀ x ∈ l, (wordsL x).getD 0 [] ≠ incW := by
  intro l
  induction l with
  | nil => intro _ _ _ x hx; cases hx
  | cons y l ih =>
    intro many out h x hx
    by_cases hy : (wordsL y).getD 0 [] = incW
    · exfalso
      rw [readG] at h
      by_cases hm : 200 < many + 1
      · rw [if_pos hm] at h; cases h
      · rw [if_neg hm, if_neg (fun e => e hy)] at h
        by_cases h2 : (wordsL y).length ≠ 2
        · rw [if_pos h2] at h; cases h
        · rw [if_neg h2] at h; cases h
    · rw [readG_text _ _ _ _ _ _ hy] at h
      by_cases hm : 200 < many + 1
      · rw [if_pos hm] at h; cases h
      · rw [if_neg hm] at h
        rcases List.mem_cons.1 hx with rfl | hx
        · exact hy
        · exact ih _ _ h x hx
/-! ### a line that includes -/
theorem shw_none {x : Bl} (h : (35 : UInt8) ∉ x) : shw x = x := by
  rw [shw_flat]
  induction x with
  | nil => rfl
  | cons c x ih =>
    have hc : c ≠ 35 := fun e => h (by rw [e]; exact List.mem_cons_self)
    rw [List.flatMap_cons, if_neg hc, ih (fun hm => h (List.mem_cons_of_mem _ hm))]
    rfl
theorem suf_none {x : Bl} (h : (92 : UInt8) ∉ x) : Lib.hasSuffix x [92] = false := by
  rw [← Bool.not_eq_true, suf_iff]
  rintro ⟨a, rfl⟩
  exact h (by simp)
theorem trimR_last {a : Bl} {c : UInt8} (h : blk c = false) : Lib.trimRightS (a ++ [c]) [32, 9] = a ++ [c] := by
  unfold Lib.trimRightS
  rw [List.reverse_append, List.reverse_cons, List.reverse_nil, List.nil_append, List.singleton_append, List.dropWhile_cons, if_neg (by rw [blk_has, h]; decide), List.reverse_cons, List.reverse_reverse]
theorem lg_one {x : Bl} (h10 : (10 : UInt8) ∉ x) (h92 : (92 : UInt8) ∉ x) (at_ : Nat) : lg [] x at_ = (x, [], at_) ∧ ∀ s, lg [] (x ++ 10 :: s) at_ = (x, s, at_) := by
  have ht : Lib.trimSuffix (onl [] x) [92] = x := by
    have : onl [] x = x := rfl
    rw [this]
    unfold Lib.trimSuffix
    rw [suf_none h92]
    rfl
  have hs : Lib.hasSuffix (onl [] x) [92] = false := suf_none h92
  refine ⟨?_, fun s => ?_⟩
  · rw [lg_eq, nl_no h10, if_neg (fun g => g.2 rfl)]
    simp only [ht, List.nil_append]
  · rw [lg_eq, nl_yes h10]
    simp only [hs, ht, List.nil_append]
    rw [if_neg (by simp)]
theorem tx_one {x : Bl} (hx : x ≠ []) (h35 : (35 : UInt8) ∉ x) (h10 : (10 : UInt8) ∉ x) (h92 : (92 : UInt8) ∉ x) (hb : Lib.trimRightS x [32, 9] = x) : txsL x = [x] ∧ txsL (x ++ [10]) = [x] := by
  have hc : cutL x = x := by
    have := cutL_shw x
    rw [shw_none h35, hb] at this
    exact this
  constructor
  · unfold txsL joinL
    rw [jg_eq hx, (lg_one h10 h92 _).1]
    simp only [hc, if_neg hx, jg_nil, List.append_nil, List.map_cons, List.map_nil]
  · unfold txsL joinL
    rw [jg_eq (by simp), (lg_one h10 h92 _).2 []]
    simp only [hc, if_neg hx, jg_nil, List.append_nil, List.map_cons, List.map_nil]
/-- the line that includes n -/
def incL (n : Bl) : Bl := incW ++ [32] ++ n
theorem name_facts {n : Bl} (h : nameE (txt n) = 0) : n ≠ [] ∧ (35 : UInt8) ∉ n ∧ (10 : UInt8) ∉ n ∧ (92 : UInt8) ∉ n ∧ (∀ c ∈ n, blk c = false) ∧ (∀ c ∈ n, signC c = true) ∧ n.length ≤ 40 := by
  obtain ⟨h1, _⟩ := name_bytes h
  rw [txt_list] at h1
  have hz : ∀ c ∈ n, signC c = true := by
    unfold nameE at h
    split at h
    · cases h
    · split at h
      · rename_i h2
        rw [txt_list] at h2
        exact List.all_eq_true.1 h2
      · cases h
  have hl : n.length ≤ 40 := by
    unfold nameE at h
    split at h
    · cases h
    · rename_i h3; rw [txt_size] at h3; omega
  exact ⟨h1.1, fun hc => absurd (hz _ hc) (by decide), fun hc => absurd (hz _ hc) (by decide), fun hc => absurd (hz _ hc) (by decide), h1.2, hz, hl⟩
theorem inc_words {n : Bl} (h : nameE (txt n) = 0) : wordsL (incL n) = [incW, n] := by
  obtain ⟨h1, _, _, _, h5, _⟩ := name_facts h
  have := words_join (ws := [incW, n]) (fun w hw => by
    rcases List.mem_cons.1 hw with rfl | hw
    · exact ⟨by decide, by decide⟩
    · rw [List.mem_singleton.1 hw]; exact ⟨h1, h5⟩)
  rwa [show Lib.join [incW, n] [32] = incL n from by rw [join_two, Lib.join_one]; rfl] at this
theorem inc_tx {n : Bl} (h : nameE (txt n) = 0) : txsL (incL n) = [incL n] ∧ txsL (incL n ++ [10]) = [incL n] := by
  obtain ⟨h1, h2, h3, h4, h5, _⟩ := name_facts h
  have ha : ∀ c : UInt8, c ∉ incW ++ [32] → c ∉ n → c ∉ incL n := fun c q1 q2 q3 => by
    rcases List.mem_append.1 q3 with q | q
    · exact q1 q
    · exact q2 q
  refine tx_one (by simp [incL]) (ha _ (by decide) h2) (ha _ (by decide) h3) (ha _ (by decide) h4) ?_
  rcases List.eq_nil_or_concat n with e | ⟨n', c, e⟩
  · exact absurd e h1
  · rw [List.concat_eq_append] at e
    have hc : blk c = false := h5 c (by rw [e]; simp)
    unfold incL
    rw [e, ← List.append_assoc]
    exact trimR_last hc
theorem badB_app (a b : Bl) : badB (a ++ b) = (badB a || badB b) := by unfold badB; rw [List.any_append]
theorem sign_good {c : UInt8} (h : signC c = true) : badC c = false := by
  have key : ∀ n : Fin 256, signC (UInt8.ofNat n.1) = true → badC (UInt8.ofNat n.1) = false := by decide +kernel
  have := key ⟨c.toNat, c.toNat_lt⟩
  simp only [UInt8.ofNat_toNat] at this
  exact this h
/-! ### the law FileIncludes -/
theorem includes_law {f : Nat} {s n t : Bl} {ma mb mc : Nat} {a b c : List Bl} (hn : nameE (txt n) = 0) (hs : Lib.hasSuffix s [92] = false)
    (ha : readR (fun _ => none) f [] 0 [] t = (ma, a, 0)) (hb : readR (fun x => if x = n then some t else none) (f + 1) [] 0 [] (s ++ [10] ++ (incL n ++ [10])) = (mb, b, 0)) (hc : readR (fun _ => none) f [] 0 [] (s ++ [10]) = (mc, c, 0)) : b = c ++ a := by
  rw [readR_eq] at ha hb hc
  split at ha
  · rename_i h; injection ha with _ ha; injection ha with _ ha; exact absurd ha h
  split at hb
  · rename_i h; injection hb with _ hb; injection hb with _ hb; exact absurd hb h
  split at hc
  · rename_i h; injection hc with _ hc; injection hc with _ hc; exact absurd hc h
  rename_i et eb ec
  have fa := readG_none f [] (txsL t) 0 [] (by rw [ha])
  have fc := readG_none f [] (txsL (s ++ [10])) 0 [] (by rw [hc])
  obtain ⟨ga, ga2⟩ := readG_flat f [] _ 0 [] fa (by rw [ha])
  obtain ⟨gc, gc2⟩ := readG_flat f [] _ 0 [] fc (by rw [hc])
  rw [ha] at ga
  rw [hc] at gc
  injection ga with _ ga; injection ga with ga _
  injection gc with _ gc; injection gc with gc _
  rw [List.nil_append] at ga gc
  have hlen : (txsL (s ++ [10])).length ≤ 200 := by
    by_cases h : txsL (s ++ [10]) = []
    · rw [h]; simp
    · have := gc2 h; omega
  rw [txs_behind _ _ ⟨s, rfl, hs⟩, (inc_tx hn).2, readG_ahead _ _ _ _ _ _ fc (by omega)] at hb
  rw [Nat.zero_add, List.nil_append] at hb
  by_cases hm : 200 < (txsL (s ++ [10])).length + 1
  · rw [readG, if_pos hm] at hb
    injection hb with _ hb; injection hb with _ hb; cases hb
  · have hw := inc_words hn
    rw [readG_inc f [] (incL n) [] _ _ t hm (by rw [hw]; rfl) (by rw [hw]; rfl) (by rw [hw]; simp) (by simp)] at hb
    split at hb
    · rename_i h; rw [hb] at h; exact absurd rfl h
    rename_i h
    rw [readG_nil] at hb
    injection hb with _ hb; injection hb with hb _
    have h0 : (readR (fun x => if x = n then some t else none) f ([] ++ [(wordsL (incL n)).getD 1 []]) ((txsL (s ++ [10])).length + 1) (txsL (s ++ [10])) t).2.2 = 0 := by
      rcases Decidable.em ((readR (fun x => if x = n then some t else none) f ([] ++ [(wordsL (incL n)).getD 1 []]) ((txsL (s ++ [10])).length + 1) (txsL (s ++ [10])) t).2.2 = 0) with e | e
      · exact e
      · exact absurd e h
    rw [readR_eq, if_neg et] at h0 hb
    rw [(readG_flat _ _ _ _ _ fa h0).1] at hb
    rw [← hb, ga, gc]
/-! ### the law FileCycle -/
theorem cycle_law {k : Nat} {nm : Nat → Bl} (hk : k ≤ 8) (hnm : ∀ i, nameE (txt (nm i)) = 0) (hinj : ∀ i j, i ≤ k → j ≤ k → nm i = nm j → i = j) (hT : ∀ i, i ≤ k → T (nm i) = some (incL (nm ((i + 1) % (k + 1))) ++ [10])) :
    ∀ d i, i + d = k + 1 → ∀ f, d ≤ f → ∀ s, (s = incL (nm (i % (k + 1))) ∨ s = incL (nm (i % (k + 1))) ++ [10]) → (readR T f ((List.range i).map nm) i [] s).2.2 = 8 := by
  have hle : ∀ n : Bl, nameE (txt n) = 0 → joinEL (incL n) = 0 ∧ joinEL (incL n ++ [10]) = 0 := by
    intro n hn
    obtain ⟨_, _, _, _, _, h6, h7⟩ := name_facts hn
    have hl : (incL n).length ≤ 48 := by unfold incL incW; simp; omega
    have hbad : badB n = false := by
      unfold badB
      rw [List.any_eq_false]
      intro c hc e
      rw [sign_good (h6 c hc)] at e
      cases e
    have hb1 : badB (incL n) = false := by
      unfold incL
      rw [badB_app, hbad, show badB (incW ++ [32]) = false from by decide]
      rfl
    have hb2 : badB (incL n ++ [10]) = false := by
      rw [badB_app, hb1]
      decide
    have hl2 : (incL n ++ [10]).length ≤ 49 := by rw [List.length_append]; simp; omega
    unfold joinEL
    constructor
    · rw [if_neg (by omega), hb1]; rfl
    · rw [if_neg (by omega), hb2]; rfl
  intro d
  induction d with
  | zero =>
    intro i hi f _ s hs
    obtain rfl : i = k + 1 := by omega
    have hj := hle _ (hnm ((k + 1) % (k + 1)))
    have hx := inc_tx (hnm ((k + 1) % (k + 1)))
    have hr : readR T f ((List.range (k + 1)).map nm) (k + 1) [] s = readG T f ((List.range (k + 1)).map nm) [incL (nm ((k + 1) % (k + 1)))] (k + 1) [] := by
      rcases hs with rfl | rfl
      · rw [readR_eq, if_neg (fun e => e hj.1), hx.1]
      · rw [readR_eq, if_neg (fun e => e hj.2), hx.2]
    have hw := inc_words (hnm ((k + 1) % (k + 1)))
    rw [hr, readG_cyc f _ _ _ _ _ _ (by omega) (by rw [hw]; rfl) (by rw [hw]; rfl) (by rw [hw]; show T (nm ((k + 1) % (k + 1))) = _; rw [Nat.mod_self]; exact hT 0 (by omega)) (by rw [hw]; show nm ((k + 1) % (k + 1)) ∈ _; rw [Nat.mod_self]; exact List.mem_map.2 ⟨0, by simp, rfl⟩)]
  | succ d ih =>
    intro i hi f hf s hs
    obtain ⟨f', rfl⟩ : ∃ f', f = f' + 1 := ⟨f - 1, by omega⟩
    have him : i % (k + 1) = i := Nat.mod_eq_of_lt (by omega)
    rw [him] at hs
    have hj := hle _ (hnm i)
    have hx := inc_tx (hnm i)
    have hr : readR T (f' + 1) ((List.range i).map nm) i [] s = readG T (f' + 1) ((List.range i).map nm) [incL (nm i)] i [] := by
      rcases hs with rfl | rfl
      · rw [readR_eq, if_neg (fun e => e hj.1), hx.1]
      · rw [readR_eq, if_neg (fun e => e hj.2), hx.2]
    have hw := inc_words (hnm i)
    have hw1 : (wordsL (incL (nm i))).getD 1 [] = nm i := by rw [hw]; rfl
    have hop : nm i ∉ (List.range i).map nm := by
      rw [List.mem_map]
      rintro ⟨j, hj, e⟩
      have := hinj j i (by have := List.mem_range.1 hj; omega) (by omega) e
      have := List.mem_range.1 hj
      omega
    have hnext := ih (i + 1) (by omega) f' (by omega) (incL (nm ((i + 1) % (k + 1))) ++ [10]) (.inr rfl)
    rw [List.range_succ, List.map_append] at hnext
    rw [hr, readG_inc f' _ _ _ _ _ _ (by omega) (by rw [hw]; rfl) (by rw [hw]; rfl) (by rw [hw1]; exact hT i (by omega)) (by rw [hw1]; exact hop), hw1]
    rw [show (List.map nm [i]) = [nm i] from rfl] at hnext
    rw [if_pos (by rw [hnext]; decide)]
    exact hnext
end Go.Proofs.YtoiolepengcagaaDoor
namespace Go.Proofs.YtoiolepengcagaaDoor
open Go.RowKit Go.Shelf
structure CPart where
  p : Option Addr
  n : Nat
  c : Nat
  zs : List ByteArray
def cp0 : CPart := ⟨none, 0, 0, []⟩
def catN (l : List CPart) (k : Nat) : List ByteArray := (l.take k).flatMap (·.zs)
theorem catN_next {l : List CPart} {k : Nat} (h : k < l.length) : catN l (k + 1) = catN l k ++ (l.getD k cp0).zs := by
  unfold catN
  rw [List.take_add_one, List.getElem?_eq_getElem h, List.flatMap_append, List.getD_eq_getElem?_getD, List.getElem?_eq_getElem h]
  simp
theorem catN_le (l : List CPart) (k : Nat) : (catN l k).length ≤ (catN l l.length).length := by
  unfold catN
  have : l.take l.length = l.take k ++ l.drop k := by rw [List.take_length, List.take_append_drop]
  rw [this, List.flatMap_append, List.length_append]
  omega
theorem catN_mono (l : List CPart) {k : Nat} (h : k < l.length) : (catN l k).length + (l.getD k cp0).zs.length ≤ (catN l l.length).length := by
  have := catN_le l (k + 1)
  rw [catN_next h, List.length_append] at this
  exact this
/-- the parts in memory: each reads, and its slice lies in the row at B -/
structure CParts (w : World) (B : Nat) (l : List CPart) : Prop where
  nl : ∀ k, k < l.length → NLw w (l.getD k cp0).p (l.getD k cp0).zs.length (l.getD k cp0).c (l.getD k cp0).zs
  cell : ∀ k, k < l.length → w.cell? ⟨B, k, none⟩ = some (.slice (l.getD k cp0).p (l.getD k cp0).zs.length (l.getD k cp0).c)
theorem strsV_app (x y : List ByteArray) : strsV (x ++ y) = strsV x ++ strsV y := by unfold strsV; rw [List.map_append]
set_option maxHeartbeats 4000000 in
theorem concatN_ok (B : Nat) (l : List CPart) (w : World) (hL : l.length ≤ 1000) (hP : CParts w B l) (hsum : (catN l l.length).length ≤ 8796093022208) (hB : B < w.heap.size) :
    Calls Tryd.prog 34 #[.slice (some ⟨B, 0, none⟩) l.length l.length] w (CatPost w (catN l l.length)) := by
  have HP := Lib.hid hP
  clear hP
  go_enter Tryd.func34, Tryd.ntmps34
  go_wp2
  go_loop [11, 3] (fun i s => ∃ k : Nat, k ≤ l.length ∧ i = .int .i64 k ∧ s = .int .i64 ((catN l k).length : Int)) (fun i _ => l.length - (intOf i).toNat)
  case atStart => exact ⟨0, Nat.zero_le _, rfl, rfl⟩
  case round =>
    obtain ⟨k, hk, rfl, rfl⟩ := hrel
    by_cases hlt : k < l.length
    · have hc := HP.out.cell k hlt
      have hm := catN_mono l hlt
      have HN := Lib.hid (congrArg List.length (catN_next hlt))
      generalize l.getD k cp0 = q at *
      generalize hx : (catN l k).length = x at *
      go_wp2
      go_round
      case rel =>
        refine ⟨k + 1, by omega, by go_num, ?_⟩
        rw [HN.out, List.length_append, hx]
        go_num
      case measure => simp [intOf]; omega
    · obtain rfl : k = l.length := by omega
      go_wp2_with fail
      refine (grow_ok (catN l l.length).length _ hsum).mono ?_
      rintro e w1 ⟨⟨g, cg, rfl, hown⟩, hb1⟩
      have HB1 := Lib.hid hb1
      have HO1 := Lib.hid hown
      clear hown hb1
      go_wp2
      go_loopw [27, 6] (fun i s wr => Below w.heap.size w wr ∧ ∃ k : Nat, k ≤ l.length ∧ i = .int .i64 k ∧ ∃ g' c', s = .slice g' (catN l k).length c' ∧ Hid (wr.ownsRow w.heap.size 9 1 s (catN l k).length (strsV (catN l k)))) (fun i _ _ => l.length - (intOf i).toNat)
      case atStart => exact ⟨HB1.out, 0, Nat.zero_le _, rfl, g, cg, rfl, HO1⟩
      case round =>
        obtain ⟨hb, k, hk, rfl, g', c', rfl, HO⟩ := hrel
        have HB := Lib.hid hb
        clear hb
        by_cases hlt : k < l.length
        · have hc : wr.cell? ⟨B, k, none⟩ = some (.slice (l.getD k cp0).p (l.getD k cp0).zs.length (l.getD k cp0).c) := by rw [HB.out.cell hB]; exact HP.out.cell k hlt
          have HNL := Lib.hid ((HP.out.nl k hlt).below HB.out)
          have hm := catN_mono l hlt
          have HN := Lib.hid (catN_next hlt)
          generalize l.getD k cp0 = q at *
          generalize hxs : catN l k = xs at *
          have HXS := Lib.hid hxs
          clear hxs
          go_wp2_with (at_builtin; refine app_nl _ rfl _ _ rfl w.heap.size _ xs.length (strsV xs) rfl HO.out q.p q.zs.length q.c q.zs rfl HNL.out (by omega) HB.out.size ?_; intro v' w2 h1 h2; have HX := Lib.hid h1; have HG := Lib.hid h2; clear h1 h2)
          obtain ⟨g2, c2, rfl⟩ := str_own HX.out
          go_roundw
          case rel =>
            refine ⟨HB.out.grown HG.out HB.out.size (fun k hk => (HO.out.lt k hk).1), k + 1, by omega, by go_num, g2, c2, by rw [HN.out, List.length_append], ?_⟩
            rw [HN.out, List.length_append, strsV_app]
            exact HX
          case measure => simp [intOf]; omega
        · obtain rfl : k = l.length := by omega
          go_wp2
          go_ret
          exact ⟨g', c', rfl, HO.out, HB.out⟩
end Go.Proofs.YtoiolepengcagaaDoor
namespace Go.Proofs.YtoiolepengcagaaDoor
open Go.RowKit Go.Shelf
theorem NLw.take {w : World} {p : Option Addr} {n c : Nat} {zs : List ByteArray} (h : NLw w p n c zs) {k : Nat} (hk : k ≤ n) : NLw w p k c (zs.take k) := by
  have hl := h.at_.len
  have hr := h.reach
  have hb := h.at_.big
  refine ⟨⟨by rw [List.length_take]; omega, ⟨by unfold strsV; rw [List.length_map, List.length_take]; omega, fun h0 => ?_⟩, fun s hs => h.at_.size s (List.mem_of_mem_take hs), by omega⟩, fun h0 => h.plain (by omega), by omega⟩
  obtain ⟨ad, e, hlt, hc⟩ := h.at_.reads.2 (by omega)
  refine ⟨ad, e, hlt, fun j u hu => hc j u ?_⟩
  unfold strsV at hu ⊢
  rw [List.getElem?_map] at hu ⊢
  rw [← hu]
  have hj : j < k := by
    rw [Option.map_eq_some_iff] at hu
    obtain ⟨x, hx, _⟩ := hu
    have := (List.getElem?_eq_some_iff.1 hx).1
    rw [List.length_take] at this
    omega
  rw [List.getElem?_take_of_lt hj]
def dupB (zs : List ByteArray) : Bool := !decide zs.Nodup
theorem nodup_next {zs : List ByteArray} {k : Nat} (hk : k < zs.length) : (zs.take (k + 1)).Nodup ↔ (zs.take k).Nodup ∧ zs.getD k ByteArray.empty ∉ zs.take k := by
  rw [take_next hk, List.nodup_append]
  constructor
  · rintro ⟨h1, _, h3⟩
    exact ⟨h1, fun hm => h3 _ hm _ (List.mem_singleton.2 rfl) rfl⟩
  · rintro ⟨h1, h2⟩
    refine ⟨h1, by simp, fun a ha b hb => ?_⟩
    rw [List.mem_singleton] at hb
    rintro rfl
    exact h2 (hb ▸ ha)
theorem nodup_upto {zs : List ByteArray} (h : zs.Nodup) (k : Nat) : (zs.take k).Nodup := (List.take_sublist k zs).nodup h
set_option maxHeartbeats 1000000 in
theorem twice_ok (p : Option Addr) (n c : Nat) (zs : List ByteArray) (w : World) (h : NLw w p n c zs) (hcap : n ≤ c) :
    Calls Tryd.prog 35 #[.slice p n c] w fun e w' => e = .returned (.bool (dupB zs)) ∧ w' = w := by
  have hl := h.at_.len
  have hbig := h.at_.big
  subst hl
  have HN := Lib.hid h
  clear h
  go_enter Tryd.func35, Tryd.ntmps35
  go_wp2
  go_loop [7] (fun i => ∃ k : Nat, k ≤ zs.length ∧ i = .int .i64 k ∧ Hid ((zs.take k).Nodup)) (fun i => zs.length - (intOf i).toNat)
  case atStart => exact ⟨0, Nat.zero_le _, rfl, List.nodup_nil⟩
  case round =>
    obtain ⟨k, hk, rfl, HK⟩ := hrel
    by_cases hlt : k < zs.length
    · obtain ⟨ad, rfl, _, hc⟩ := str_at HN.out.at_.reads hlt
      have HT := Lib.hid (HN.out.take hk)
      have HX := Lib.hid (nodup_next hlt)
      cases hcn : Lib.containsS (zs.take k) (zs.getD k ByteArray.empty)
      · have HY : Hid ((zs.take (k + 1)).Nodup) := HX.out.2 ⟨HK.out, fun hm => by rw [has_iff.2 hm] at hcn; cases hcn⟩
        have HCN := Lib.hid hcn
        clear hcn
        generalize zs.getD k ByteArray.empty = s at *
        go_wp2_with (go_at_call 22; refine (nlw_contains HT.out s).mono ?_; rw [HCN.out]; rintro e w' ⟨rfl, rfl⟩)
        go_round
        case rel => exact ⟨k + 1, by omega, by go_num, HY.out⟩
        case measure => simp [intOf]; omega
      · have HY : Hid (dupB zs = true) := by
          show dupB zs = true
          unfold dupB
          rw [Bool.not_eq_true', decide_eq_false_iff_not]
          exact fun hd => (HX.out.1 (nodup_upto hd _)).2 (has_iff.1 hcn)
        have HCN := Lib.hid hcn
        clear hcn
        generalize zs.getD k ByteArray.empty = s at *
        go_wp2_with (go_at_call 22; refine (nlw_contains HT.out s).mono ?_; rw [HCN.out]; rintro e w' ⟨rfl, rfl⟩)
        go_ret
        exact ⟨by rw [HY.out]; rfl, rfl⟩
    · obtain rfl : k = zs.length := by omega
      have HY : Hid (dupB zs = false) := by
        show dupB zs = false
        unfold dupB
        have := HK.out
        rw [List.take_length] at this
        rw [decide_eq_true this]; rfl
      go_wp2
      go_ret
      exact ⟨by rw [HY.out]; rfl, rfl⟩
theorem all_okN (us : List ByteArray) : (us.all fun s => nameE s == 0) = true ↔ okN us us.length := by
  rw [okN_mem rfl, List.all_eq_true]
  simp
/-- two parts in a row at B -/
def twoP (p q : Option Addr) (n c m d : Nat) (T N : List ByteArray) : List CPart := [⟨p, n, c, T⟩, ⟨q, m, d, N⟩]
theorem cat_two (p q : Option Addr) (n c m d : Nat) (T N : List ByteArray) : catN (twoP p q n c m d T N) (twoP p q n c m d T N).length = T ++ N := by
  unfold catN twoP
  simp
theorem parts_two {w : World} {B : Nat} {p q : Option Addr} {n c m d : Nat} {T N : List ByteArray} (h1 : NLw w p n c T) (h2 : NLw w q m d N)
    (c1 : w.cell? ⟨B, 0, none⟩ = some (.slice p n c)) (c2 : w.cell? ⟨B, 1, none⟩ = some (.slice q m d)) : CParts w B (twoP p q n c m d T N) := by
  have l1 := h1.at_.len
  have l2 := h2.at_.len
  subst l1 l2
  refine ⟨fun k hk => ?_, fun k hk => ?_⟩
  · match k, hk with
    | 0, _ => exact h1
    | 1, _ => exact h2
  · match k, hk with
    | 0, _ => exact c1
    | 1, _ => exact c2
/-- Concat of two -/
theorem concat_two {w : World} {B : Nat} {p q : Option Addr} {n c m d : Nat} {T N : List ByteArray} (h1 : NLw w p n c T) (h2 : NLw w q m d N) (hsum : n + m ≤ 8796093022208)
    (c1 : w.cell? ⟨B, 0, none⟩ = some (.slice p n c)) (c2 : w.cell? ⟨B, 1, none⟩ = some (.slice q m d)) (hB : B < w.heap.size) :
    Calls Tryd.prog 34 #[.slice (some ⟨B, 0, none⟩) 2 2] w (CatPost w (T ++ N)) := by
  have := concatN_ok B (twoP p q n c m d T N) w (by unfold twoP; simp) (parts_two h1 h2 c1 c2) (by rw [cat_two, List.length_append]; have := h1.at_.len; have := h2.at_.len; omega) hB
  rw [cat_two] at this
  exact this
theorem CatPost.elim {w : World} {us : List ByteArray} {e : Ending} {w' : World} (h : CatPost w us e w') (hs : ∀ s ∈ us, s.size ≤ 4611686018427387904) (hn : us.length * 16 ≤ 140737488351232) :
    ∃ (g : Option Addr) (c : Nat), e = .returned (.slice g us.length c) ∧ NL w' g us.length c us ∧ w'.ownsRow w.heap.size 9 1 (.slice g us.length c) us.length (strsV us) ∧ Below w.heap.size w w' := by
  obtain ⟨g, c, h1, h2, h3⟩ := h
  exact ⟨g, c, h1, NL_own h2 hs hn, h2, h3⟩
set_option maxHeartbeats 4000000 in
theorem CheckR_ok (p q : Option Addr) (n c m d : Nat) (T N : List ByteArray) (w : World) (h1 : NLw w p n c T) (h2 : NLw w q m d N) (hc1 : n ≤ c) (hc2 : m ≤ d) :
    Calls Tryd.prog 21 #[.agg #[.slice p n c, .slice q m d]] w fun e w' => e = .returned (.int .i64 (ruleE T N)) ∧ Below w.heap.size w w' := by
  have l1 := h1.at_.len
  have l2 := h2.at_.len
  have b1 := h1.at_.big
  have b2 := h2.at_.big
  subst l1 l2
  have H1 := Lib.hid h1
  have H2 := Lib.hid h2
  clear h1 h2
  have HB0 : Hid (∀ o, Below w.heap.size w (w.alloc o)) := fun o => (Below.refl _ _).alloc (Nat.le_refl _) _
  by_cases g1 : 20 < T.length
  · have HE : Hid (ruleE T N = 2) := by show _ = _; unfold ruleE; rw [if_pos (.inl g1)]
    go_enter Tryd.func21, Tryd.ntmps21
    go_wp2
    go_ret
    exact ⟨by rw [HE.out]; rfl, HB0.out _⟩
  by_cases g2 : 20 < N.length
  · have HE : Hid (ruleE T N = 2) := by show _ = _; unfold ruleE; rw [if_pos (.inr g2)]
    go_enter Tryd.func21, Tryd.ntmps21
    go_wp2
    go_ret
    exact ⟨by rw [HE.out]; rfl, HB0.out _⟩
  by_cases g3 : T.length = 0
  · have HE : Hid (ruleE T N = 3) := by show _ = _; unfold ruleE; rw [if_neg (by omega), if_pos g3]
    have g3' : ((T.length : Int) == 0) = true := by rw [g3]; rfl
    go_enter Tryd.func21, Tryd.ntmps21
    go_wp2
    go_ret
    exact ⟨by rw [HE.out]; rfl, HB0.out _⟩
  have g3' : ((T.length : Int) == 0) = false := by rw [beq_eq_false_iff_ne]; omega
  have HF : Hid (ruleE T N = if ((T ++ N).all fun s => nameE s == 0) = false then 3 else if ¬ T.Nodup ∨ ¬ N.Nodup then 6 else 0) := by
    show _ = _; unfold ruleE; rw [if_neg (by omega), if_neg g3]
  obtain ⟨wa, hwa⟩ : ∃ wa, wa = w.alloc (.cells #[.slice p T.length c, .slice q N.length d] 34) := ⟨_, rfl⟩
  obtain ⟨wb, hwb⟩ : ∃ wb, wb = wa.alloc (.cells #[.slice p T.length c, .slice q N.length d] 28) := ⟨_, rfl⟩
  have hsa : wa.heap.size = w.heap.size + 1 := by rw [hwa]; simp
  have hsb : wb.heap.size = w.heap.size + 2 := by rw [hwb]; simp [hsa]
  have HBA : Hid (Below w.heap.size w wa) := by show Below _ _ _; rw [hwa]; exact HB0.out _
  have HBB : Hid (Below w.heap.size w wb) := by show Below _ _ _; rw [hwb]; exact HBA.out.alloc (by omega) _
  have ca1 : wa.cell? ⟨w.heap.size, 0, none⟩ = some (.slice p T.length c) := by rw [hwa, World.cell?_alloc_at _ _ _ _ rfl]; rfl
  have ca2 : wa.cell? ⟨w.heap.size, 1, none⟩ = some (.slice q N.length d) := by rw [hwa, World.cell?_alloc_at _ _ _ _ rfl]; rfl
  have HAB : Hid (Below wa.heap.size wa wb) := by show Below _ _ _; rw [hwb]; exact (Below.refl _ _).alloc (Nat.le_refl _) _
  have cb1 : wb.cell? ⟨w.heap.size, 0, none⟩ = some (.slice p T.length c) := by rw [HAB.out.cell (by rw [hsa]; simp)]; exact ca1
  have cb2 : wb.cell? ⟨w.heap.size, 1, none⟩ = some (.slice q N.length d) := by rw [HAB.out.cell (by rw [hsa]; simp)]; exact ca2
  have HCat := Lib.hid (concat_two (w := wb) (B := wa.heap.size) (H1.out.below HBB.out) (H2.out.below HBB.out) (by omega) (by rw [hwb, World.cell?_alloc_at _ _ _ _ rfl]; rfl) (by rw [hwb, World.cell?_alloc_at _ _ _ _ rfl]; rfl) (by omega))
  have HSZ : Hid (∀ s ∈ T ++ N, s.size ≤ 4611686018427387904) := by
    show ∀ s ∈ T ++ N, _
    intro s hs
    rcases List.mem_append.1 hs with h | h
    · exact H1.out.at_.size s h
    · exact H2.out.at_.size s h
  have hlen : (T ++ N).length ≤ 40 := by rw [List.length_append]; omega
  obtain ⟨us, hus⟩ : ∃ us, us = T ++ N := ⟨_, rfl⟩
  rw [← hus] at HCat HSZ hlen HF
  clear hus
  rw [hsa] at HCat
  subst hwb
  subst hwa
  have HC1 := Lib.hid cb1
  have HC2 := Lib.hid cb2
  clear ca1 ca2 hsa hsb HAB cb1 cb2 HBA
  go_enter Tryd.func21, Tryd.ntmps21
  go_wp2_with (go_at_call 34; refine HCat.out.mono ?_; intro e w1 hpost; obtain ⟨g, cg, rfl, hN, _, hb1⟩ := hpost.elim HSZ.out (by omega); have HN := Lib.hid hN; have HB1 := Lib.hid (HBB.out.trans (hb1.mono HBB.out.size)); have HBW := Lib.hid hb1; clear hN hpost hb1)
  have k1 : w1.cell? ⟨w.heap.size, 0, none⟩ = some (.slice p T.length c) := by rw [HBW.out.cell (by simp; omega)]; exact HC1.out
  have k2 : w1.cell? ⟨w.heap.size, 1, none⟩ = some (.slice q N.length d) := by rw [HBW.out.cell (by simp; omega)]; exact HC2.out
  have HP1 := Lib.hid (H1.out.below HB1.out)
  have HP2 := Lib.hid (H2.out.below HB1.out)
  clear HCat HBB HBW HB0 H1 H2 HC1 HC2
  by_cases hok : okN us us.length
  · have HOK := Lib.hid hok
    have HD : Hid (ruleE T N = if (dupB T || dupB N) = true then 6 else 0) := by
      show _ = _
      rw [HF.out, if_neg (by rw [Bool.not_eq_false]; exact (all_okN us).2 hok)]
      unfold dupB
      by_cases d1 : T.Nodup <;> by_cases d2 : N.Nodup <;> simp [d1, d2]
    clear HF hok
    go_loop [29] (fun i => ∃ k : Nat, k ≤ us.length ∧ i = .int .i64 k) (fun i => us.length - (intOf i).toNat)
    case atStart => exact ⟨0, Nat.zero_le _, rfl⟩
    case round =>
      obtain ⟨k, hk, rfl⟩ := hrel
      by_cases hlt : k < us.length
      · obtain ⟨ad, rfl, _, hc⟩ := str_at HN.out.at_.reads hlt
        have HE := Lib.hid (HOK.out k hlt)
        have HS := Lib.hid (HN.out.at_.size (us.getD k ByteArray.empty) (by
          rw [List.getD_eq_getElem?_getD, List.getElem?_eq_getElem hlt]; exact List.getElem_mem hlt))
        generalize us.getD k ByteArray.empty = s at *
        go_wp2_with (go_at_call 6; refine (CheckN_ok s HS.out _).mono ?_; rw [HE.out]; rintro e w' ⟨rfl, rfl⟩)
        go_round
        case rel => exact ⟨k + 1, by omega, by go_num⟩
        case measure => simp [intOf]; omega
      · obtain rfl : k = us.length := by omega
        cases hd1 : dupB T
        · rw [hd1] at HD
          have HD1 := Lib.hid hd1
          clear hd1
          cases hd2 : dupB N
          · rw [hd2] at HD
            have HD2 := Lib.hid hd2
            clear hd2
            go_wp2_with (go_at_call 35; (first | (have h1 := twice_ok p _ c T _ HP1.out hc1; rw [HD1.out] at h1; clear HD1; refine h1.mono ?_; clear h1) | (refine (twice_ok q _ d N _ HP2.out hc2).mono ?_; rw [HD2.out])); rintro e w' ⟨rfl, rfl⟩)
            go_ret
            exact ⟨by rw [HD.out]; rfl, HB1.out⟩
          · rw [hd2] at HD
            have HD2 := Lib.hid hd2
            clear hd2
            go_wp2_with (go_at_call 35; (first | (have h1 := twice_ok p _ c T _ HP1.out hc1; rw [HD1.out] at h1; clear HD1; refine h1.mono ?_; clear h1) | (refine (twice_ok q _ d N _ HP2.out hc2).mono ?_; rw [HD2.out])); rintro e w' ⟨rfl, rfl⟩)
            go_ret
            exact ⟨by rw [HD.out]; rfl, HB1.out⟩
        · rw [hd1] at HD
          have HD1 := Lib.hid hd1
          clear hd1
          go_wp2_with (go_at_call 35; refine (twice_ok p _ c T _ HP1.out hc1).mono ?_; rw [HD1.out]; rintro e w' ⟨rfl, rfl⟩)
          go_ret
          exact ⟨by rw [HD.out]; rfl, HB1.out⟩
  · have HD : Hid (ruleE T N = 3) := by
      show _ = _
      rw [HF.out, if_pos]
      rw [← Bool.not_eq_true]
      exact fun h => hok ((all_okN us).1 h)
    have HNO := Lib.hid hok
    clear HF hok
    go_loop [29] (fun i => ∃ k : Nat, k ≤ us.length ∧ i = .int .i64 k ∧ Hid (okN us k)) (fun i => us.length - (intOf i).toNat)
    case atStart => exact ⟨0, Nat.zero_le _, rfl, fun j hj => absurd hj (Nat.not_lt_zero j)⟩
    case round =>
      obtain ⟨k, hk, rfl, HK⟩ := hrel
      by_cases hlt : k < us.length
      · obtain ⟨ad, rfl, _, hc⟩ := str_at HN.out.at_.reads hlt
        have HS := Lib.hid (HN.out.at_.size (us.getD k ByteArray.empty) (by
          rw [List.getD_eq_getElem?_getD, List.getElem?_eq_getElem hlt]; exact List.getElem_mem hlt))
        rcases nameE_cases (us.getD k ByteArray.empty) with he | he
        · have HK2 := Lib.hid (okN_next HK.out he)
          have HE := Lib.hid he
          clear he
          generalize us.getD k ByteArray.empty = s at *
          go_wp2_with (go_at_call 6; refine (CheckN_ok s HS.out _).mono ?_; rw [HE.out]; rintro e w' ⟨rfl, rfl⟩)
          go_round
          case rel => exact ⟨k + 1, by omega, by go_num, HK2.out⟩
          case measure => simp [intOf]; omega
        · have HE := Lib.hid he
          clear he
          generalize us.getD k ByteArray.empty = s at *
          go_wp2_with (go_at_call 6; refine (CheckN_ok s HS.out _).mono ?_; rw [HE.out]; rintro e w' ⟨rfl, rfl⟩)
          go_ret
          exact ⟨by rw [HD.out]; rfl, HB1.out⟩
      · obtain rfl : k = us.length := by omega
        exact absurd HK.out HNO.out
end Go.Proofs.YtoiolepengcagaaDoor
namespace Go.Proofs.YtoiolepengcagaaDoor
open Go.RowKit Go.Shelf
/-- a rule in memory -/
def RuleIn (w : World) (v : Value) (T N : List ByteArray) : Prop :=
  ∃ p n c q m d, v = .agg #[.slice p n c, .slice q m d] ∧ NL w p n c T ∧ NL w q m d N ∧ n ≤ c ∧ m ≤ d
theorem RuleIn.below {w w' : World} {v : Value} {T N : List ByteArray} (h : RuleIn w v T N) (hb : Below w.heap.size w w') : RuleIn w' v T N := by
  obtain ⟨p, n, c, q, m, d, e, h1, h2, h3, h4⟩ := h
  exact ⟨p, n, c, q, m, d, e, h1.below hb, h2.below hb, h3, h4⟩
theorem NL_none (w : World) : NL w none 0 0 [] :=
  ⟨⟨rfl, Reads.none_, fun s hs => (by cases hs), by omega⟩, fun _ => rfl, fun ad h => (by cases h), by omega⟩
def nilRule : Value := .agg #[.slice none 0 0, .slice none 0 0]
theorem nil_rule (w : World) : RuleIn w nilRule [] [] := ⟨none, 0, 0, none, 0, 0, rfl, NL_none w, NL_none w, Nat.le_refl _, Nat.le_refl _⟩
def threeP (p q g : Option Addr) (n c m d k e : Nat) (T M N : List ByteArray) : List CPart := [⟨p, n, c, T⟩, ⟨g, k, e, M⟩, ⟨q, m, d, N⟩]
theorem cat_three (p q g : Option Addr) (n c m d k e : Nat) (T M N : List ByteArray) : catN (threeP p q g n c m d k e T M N) (threeP p q g n c m d k e T M N).length = T ++ M ++ N := by
  unfold catN threeP
  simp
theorem concat_three {w : World} {B : Nat} {p q g : Option Addr} {n c m d k e : Nat} {T M N : List ByteArray} (h1 : NL w p n c T) (h3 : NL w g k e M) (h2 : NL w q m d N) (hsum : n + k + m ≤ 8796093022208)
    (c1 : w.cell? ⟨B, 0, none⟩ = some (.slice p n c)) (c2 : w.cell? ⟨B, 1, none⟩ = some (.slice g k e)) (c3 : w.cell? ⟨B, 2, none⟩ = some (.slice q m d)) (hB : B < w.heap.size) :
    Calls Tryd.prog 34 #[.slice (some ⟨B, 0, none⟩) 3 3] w (CatPost w (T ++ M ++ N)) := by
  have l1 := h1.at_.len
  have l2 := h2.at_.len
  have l3 := h3.at_.len
  subst l1 l2 l3
  have hP : CParts w B (threeP p q g T.length c N.length d M.length e T M N) := by
    refine ⟨fun k hk => ?_, fun k hk => ?_⟩
    · match k, hk with
      | 0, _ => exact h1.weak
      | 1, _ => exact h3.weak
      | 2, _ => exact h2.weak
    · match k, hk with
      | 0, _ => exact c1
      | 1, _ => exact c2
      | 2, _ => exact c3
  have := concatN_ok B _ w (by unfold threeP; simp) hP (by rw [cat_three, List.length_append, List.length_append]; omega) hB
  rw [cat_three] at this
  exact this
theorem NL_one (w : World) (x : ByteArray) (hx : x.size ≤ 4611686018427387904) : NL (w.alloc (.cells #[.string x] 9)) (some ⟨w.heap.size, 0, none⟩) 1 1 [x] := by
  refine ⟨⟨rfl, ⟨rfl, fun _ => ⟨⟨w.heap.size, 0, none⟩, rfl, by simp, fun j u hu => ?_⟩⟩, fun s hs => ?_, by omega⟩, fun h => (by cases h), fun ad h => ?_, by omega⟩
  · match j, hu with
    | 0, hu =>
      simp [strsV] at hu
      subst hu
      rw [Addr.add_lit, World.cell?_alloc_at _ _ _ _ rfl]; rfl
  · have : s = x := by simpa using hs
    subst this; exact hx
  · injection h with h
    subst h
    exact ⟨_, _, rfl, by simp⟩
def rus (T N : List ByteArray) : List ByteArray := T ++ [(⟨#[58]⟩ : ByteArray)] ++ N
theorem rus_len (T N : List ByteArray) : (rus T N).length = T.length + 1 + N.length := by unfold rus; simp; omega
theorem print_cat (p q : Option Addr) (c d : Nat) (T N : List ByteArray) (w : World) (h1 : NL w p T.length c T) (h2 : NL w q N.length d N) (hT : T.length ≤ 20) (hN : N.length ≤ 20) :
    Calls Tryd.prog 34 #[.slice (some ⟨w.heap.size + 1, 0, none⟩) 3 3] ((w.alloc (.cells #[.string ⟨#[58]⟩] 9)).alloc (.cells #[.slice p T.length c, .slice (some ⟨w.heap.size, 0, none⟩) 1 1, .slice q N.length d] 28))
      fun e w' => ∃ g cg b, e = .returned (.slice g (rus T N).length cg) ∧ w'.ownsRow b 9 1 (.slice g (rus T N).length cg) (rus T N).length (strsV (rus T N)) ∧ Below w.heap.size w w' := by
  have hb1 : Below w.heap.size w (w.alloc (.cells #[.string ⟨#[58]⟩] 9)) := (Below.refl _ _).alloc (Nat.le_refl _) _
  have hs1 : (w.alloc (.cells #[.string ⟨#[58]⟩] 9)).heap.size = w.heap.size + 1 := by simp
  obtain ⟨o, ho⟩ : ∃ o, o = Obj.cells #[.slice p T.length c, .slice (some ⟨w.heap.size, 0, none⟩) 1 1, .slice q N.length d] 28 := ⟨_, rfl⟩
  have hb2 : Below w.heap.size w ((w.alloc (.cells #[.string ⟨#[58]⟩] 9)).alloc o) := hb1.alloc (by omega) _
  have hb12 : Below (w.heap.size + 1) (w.alloc (.cells #[.string ⟨#[58]⟩] 9)) ((w.alloc (.cells #[.string ⟨#[58]⟩] 9)).alloc o) := (Below.refl _ _).alloc (by omega) _
  have hm := NL_one w ⟨#[58]⟩ (by decide)
  rw [← hs1] at hb12
  have hm2 := hm.below hb12
  rw [← ho]
  have key := concat_three (w := (w.alloc (.cells #[.string ⟨#[58]⟩] 9)).alloc o) (B := w.heap.size + 1) (h1.below hb2) hm2 (h2.below hb2) (by omega)
    (by rw [ho, World.cell?_alloc_at _ _ _ _ (by simp)]; rfl) (by rw [ho, World.cell?_alloc_at _ _ _ _ (by simp)]; rfl) (by rw [ho, World.cell?_alloc_at _ _ _ _ (by simp)]; rfl) (by simp)
  refine key.mono ?_
  rintro e w' ⟨g, cg, e1, h3, h4⟩
  exact ⟨g, cg, _, e1, h3, hb2.trans (h4.mono hb2.size)⟩
end Go.Proofs.YtoiolepengcagaaDoor
namespace Go.Proofs.YtoiolepengcagaaDoor
open Go.RowKit Go.Shelf
def parseT (s : Bs) : List ByteArray := wb (s.take (Lib.indexByte s 58).toNat)
def parseN (s : Bs) : List ByteArray := wb (s.drop ((Lib.indexByte s 58).toNat + 1))
def parseE (s : Bs) : Int := if Lib.indexByte s 58 < 0 then 3 else ruleE (parseT s) (parseN s)
theorem wb_trm (s : ByteArray) : wb (trm s).data.toList = wb s.data.toList := by
  unfold wb trm
  rw [txt_list, words_trim]
/-- what Parse answers -/
def ParsePost (w : World) (s : Bs) (e : Ending) (w' : World) : Prop :=
  (∃ v, e = .returned (.tuple #[v, .int .i64 (parseE s)]) ∧ ((parseE s ≠ 0 ∧ v = nilRule) ∨ (parseE s = 0 ∧ RuleIn w' v (parseT s) (parseN s)))) ∧ Below w.heap.size w w'
theorem trm_size (s : ByteArray) : (trm s).size ≤ s.size := by
  unfold trm
  rw [txt_size, Lib.size_eq]
  unfold Lib.trimS Lib.trimLeftS Lib.trimRightS
  have h : ∀ (p : UInt8 → Bool) (l : Bs), (l.dropWhile p).length ≤ l.length := fun p l => by
    obtain ⟨u, e, _⟩ := dropWhile_split p l
    have := congrArg List.length e
    rw [List.length_append] at this
    omega
  refine Nat.le_trans (h _ _) ?_
  rw [List.length_reverse]
  refine Nat.le_trans (h _ _) ?_
  rw [List.length_reverse]
  exact Nat.le_refl _
theorem cell_other (w : World) (b j : Nat) (u : Value) {k o : Nat} (h : k ≠ b) : (w.setCell ⟨b, j, none⟩ u).cell? ⟨k, o, none⟩ = w.cell? ⟨k, o, none⟩ := by
  have := heap_setCell_other w ⟨b, j, none⟩ k u h
  simp only [World.cell?, this]
theorem NL_move {w w' : World} {g n c : Nat} {zs : List ByteArray} (h : NL w (some ⟨g, 0, none⟩) n c zs) (hc : ∀ o, w'.cell? ⟨g, o, none⟩ = w.cell? ⟨g, o, none⟩) (hg : g < w'.heap.size) : NL w' (some ⟨g, 0, none⟩) n c zs := by
  refine ⟨⟨h.at_.len, ⟨h.at_.reads.1, fun h0 => ?_⟩, h.at_.size, h.at_.big⟩, h.nil, fun ad e => ?_, h.reach⟩
  · obtain ⟨ad, e, _, hcell⟩ := h.at_.reads.2 h0
    injection e with e
    subst e
    refine ⟨_, rfl, hg, fun j u hu => ?_⟩
    have := hcell j u hu
    rw [Addr.add_lit] at this ⊢
    rw [hc]; exact this
  · injection e with e
    subst e
    exact ⟨g, 0, rfl, hg⟩
theorem index_lt {l : Bs} {c : UInt8} {k : Nat} (h : Lib.indexByte l c = k) : k < l.length := by
  induction l generalizing k with
  | nil => simp [Lib.indexByte] at h
  | cons b l ih =>
    unfold Lib.indexByte at h
    rw [List.length_cons]
    split at h
    · omega
    · split at h
      · omega
      · cases k with
        | zero => omega
        | succ k => have := ih (k := k) (by omega); omega
set_option maxHeartbeats 4000000 in
theorem ParseR_ok (s : ByteArray) (w : World) (hs : s.size ≤ 1048576) : Calls Tryd.prog 20 #[.string s] w (ParsePost w s.data.toList) := by
  have HB0 : Hid (∀ o, Below w.heap.size w (w.alloc o)) := fun o => (Below.refl _ _).alloc (Nat.le_refl _) _
  have hz0 : (w.alloc (.cells #[.slice none 0 0, .slice none 0 0] 34)).heap[w.heap.size]? = some (.cells #[.slice none 0 0, .slice none 0 0] 34 (0, 0)) := rb_new w _
  have HZ0 := Lib.hid hz0
  clear hz0
  rcases Int.lt_or_le (Lib.indexByte s.data.toList 58) 0 with hi | hi
  · have hi1 : Lib.indexByte s.data.toList 58 = -1 := by have := (indexByte_ge s.data.toList 58).1; omega
    have HE : Hid (parseE s.data.toList = 3) := by show _ = _; unfold parseE; rw [if_pos hi]
    have HS := Lib.hid (fun u => Split_no s 58 u hi1)
    clear hi hi1
    go_enter Tryd.func20, Tryd.ntmps20
    go_wp2_with (go_at_call 33; refine (HS.out _).mono ?_; rintro e w1 ⟨rfl, rfl⟩)
    refine bodyPost_ret (v := .tuple #[.agg #[.slice none 0 0, .slice none 0 0], .int .i64 3]) (rb_ct Tryd.results20 _ _ w.heap.size 34 _ (0, 0) _ _ rfl rfl HZ0.out Tryd.underlying34 rfl (by kernel_rfl)) rfl ⟨⟨nilRule, by rw [HE.out]; rfl, .inl ⟨by rw [HE.out]; decide, rfl⟩⟩, HB0.out _⟩
  · obtain ⟨k, hk⟩ := Int.eq_ofNat_of_zero_le hi
    have hks : k < s.size := by have := index_lt hk; rwa [← Lib.size_eq] at this
    have hkn : (Lib.indexByte s.data.toList 58).toNat = k := by omega
    have HE : Hid (parseE s.data.toList = ruleE (parseT s.data.toList) (parseN s.data.toList)) := by show _ = _; unfold parseE; rw [if_neg (by omega)]
    have eT : wb (trm (s.extract 0 k)).data.toList = parseT s.data.toList := by rw [wb_trm]; unfold parseT; rw [hkn, Lib.extract_from_zero]
    have eN : wb (trm (s.extract (k + 1) s.size)).data.toList = parseN s.data.toList := by rw [wb_trm]; unfold parseN; rw [hkn, Lib.extract_to_end]
    have sT : (trm (s.extract 0 k)).size ≤ 1048576 := by have := trm_size (s.extract 0 k); rw [ByteArray.size_extract] at this; omega
    have sN : (trm (s.extract (k + 1) s.size)).size ≤ 1048576 := by have := trm_size (s.extract (k + 1) s.size); rw [ByteArray.size_extract] at this; omega
    have HS := Lib.hid (fun u => Split_yes s 58 u k hk hks (by omega))
    have HWT := Lib.hid (fun u => Words_ok _ u sT)
    have HWN := Lib.hid (fun u => Words_ok _ u sN)
    rw [eT] at HWT
    rw [eN] at HWN
    clear sT sN eT eN hk hkn hi
    generalize trm (s.extract 0 k) = a at *
    generalize trm (s.extract (k + 1) s.size) = b at *
    obtain ⟨T, hT⟩ : ∃ T, T = parseT s.data.toList := ⟨_, rfl⟩
    obtain ⟨N, hN⟩ : ∃ N, N = parseN s.data.toList := ⟨_, rfl⟩
    rw [← hT, ← hN] at HE
    rw [← hT] at HWT
    rw [← hN] at HWN
    have HQT := Lib.hid hT
    have HQN := Lib.hid hN
    clear hT hN
    generalize s.data.toList = sl at *
    clear hs hks
    by_cases he : ruleE T N = 0
    · have HE0 := Lib.hid he
      clear he
      go_enter Tryd.func20, Tryd.ntmps20
      go_wp2_with (first
        | (go_at_call 33; refine (HS.out _).mono ?_; rintro e w1 ⟨rfl, hb⟩; have HB1 := Lib.hid ((HB0.out _).trans (hb.mono (HB0.out _).size)); have HX1 := Lib.hid hb; clear hb)
        | (go_at_call 31; (first
            | (have hq := HWT.out; clear HWT; refine (hq _).mono ?_; clear hq; rintro e w2 ⟨g, rfl, hown, hnl, hb⟩; have hg := hown.lt g rfl; have HN2 := Lib.hid hnl; have HB2 := Lib.hid (HB1.out.trans (hb.mono HB1.out.size)); have HX2 := Lib.hid (HX1.out.trans (hb.mono HX1.out.size)); have HW12 := Lib.hid hb; clear hown hnl hb)
            | (refine (HWN.out _).mono ?_; rintro e w3 ⟨g3, rfl, hown, hnl, hb⟩; have hg3 := hown.lt g3 rfl; have HN3 := Lib.hid hnl; have HB3 := Lib.hid (HB2.out.trans (hb.mono HB2.out.size)); have HX3 := Lib.hid (HX2.out.trans (hb.mono HX2.out.size)); have HN23 := Lib.hid (HN2.out.below hb); clear hown hnl hb; have HC := Lib.hid (fun o => CheckR_ok (some ⟨g, 0, none⟩) (some ⟨g3, 0, none⟩) T.length T.length N.length N.length T N (w3.alloc o) (HN23.out.below ((Below.refl _ _).alloc (Nat.le_refl _) o)).weak (HN3.out.below ((Below.refl _ _).alloc (Nat.le_refl _) o)).weak (Nat.le_refl _) (Nat.le_refl _)))))
        | (go_at_call 21; refine (HC.out _).mono ?_; rw [HE0.out]; rintro e w4 ⟨rfl, hb⟩; have HB4 := Lib.hid hb; obtain ⟨hz, hy⟩ := rb_far HX3.out hb; obtain ⟨c1, c2, c3⟩ := rb_cells hz; obtain ⟨d1, d2, d3⟩ := rb_cells hy; have HZ4 := Lib.hid hz; have hlt := HB3.out.size; clear hb hz hy d3))
      go_wp2
      refine bodyPost_ret (v := .tuple #[.agg #[.slice (some ⟨g, 0, none⟩) T.length T.length, .slice (some ⟨g3, 0, none⟩) N.length N.length], .int .i64 0]) (rb_ct Tryd.results20 _ _ w.heap.size 34 _ (0, 0) _ _ rfl rfl (rb_all HZ4.out _ _) Tryd.underlying34 rfl (by kernel_rfl)) rfl ?_
      have hb4 : Below w3.heap.size w3 w4 := ((Below.refl _ _).alloc (Nat.le_refl _) _).trans (HB4.out.mono (by simp))
      have hb5 : Below w.heap.size w w4 := HB3.out.trans (hb4.mono HB3.out.size)
      have hz1 := HX1.out.size
      simp only [World.size_alloc] at hz1
      have hz2 := HW12.out.size
      have hz3 := HX3.out.size
      have hz4 := hb4.size
      have hq : ∀ k o, k ≠ w.heap.size → k < w3.heap.size → ((w4.setCell ⟨w.heap.size, 0, none⟩ (.slice (some ⟨g, 0, none⟩) T.length T.length)).setCell ⟨w.heap.size, 1, none⟩ (.slice (some ⟨g3, 0, none⟩) N.length N.length)).cell? ⟨k, o, none⟩ = w3.cell? ⟨k, o, none⟩ := fun k o hk hl => by
        rw [cell_other _ _ _ _ hk, cell_other _ _ _ _ hk]
        exact hb4.cell hl
      refine ⟨⟨_, by rw [HE.out, HE0.out], .inr ⟨by rw [HE.out]; exact HE0.out, _, _, _, _, _, _, rfl, by rw [← HQT.out]; exact NL_move HN23.out (fun o => hq g o (by omega) (by omega)) (by simp; omega), by rw [← HQN.out]; exact NL_move HN3.out (fun o => hq g3 o (by omega) (by omega)) (by simp; omega), Nat.le_refl _, Nat.le_refl _⟩⟩, rb_below hb5 (Nat.le_refl _) _ _⟩
    · obtain ⟨E, hE⟩ : ∃ E, E = ruleE T N := ⟨_, rfl⟩
      rw [← hE] at he HE
      obtain ⟨i1, i2⟩ := int_ne' he
      have HNE := Lib.hid he
      have HEE := Lib.hid hE
      clear he hE
      go_enter Tryd.func20, Tryd.ntmps20
      go_wp2_with (first
        | (go_at_call 33; refine (HS.out _).mono ?_; rintro e w1 ⟨rfl, hb⟩; have HB1 := Lib.hid ((HB0.out _).trans (hb.mono (HB0.out _).size)); have HX1 := Lib.hid hb; clear hb)
        | (go_at_call 31; (first
            | (have hq := HWT.out; clear HWT; refine (hq _).mono ?_; clear hq; rintro e w2 ⟨g, rfl, hown, hnl, hb⟩; have hg := hown.lt g rfl; have HN2 := Lib.hid hnl; have HB2 := Lib.hid (HB1.out.trans (hb.mono HB1.out.size)); have HX2 := Lib.hid (HX1.out.trans (hb.mono HX1.out.size)); have HW12 := Lib.hid hb; clear hown hnl hb)
            | (refine (HWN.out _).mono ?_; rintro e w3 ⟨g3, rfl, hown, hnl, hb⟩; have hg3 := hown.lt g3 rfl; have HN3 := Lib.hid hnl; have HB3 := Lib.hid (HB2.out.trans (hb.mono HB2.out.size)); have HX3 := Lib.hid (HX2.out.trans (hb.mono HX2.out.size)); have HN23 := Lib.hid (HN2.out.below hb); clear hown hnl hb; have HC := Lib.hid (fun o => CheckR_ok (some ⟨g, 0, none⟩) (some ⟨g3, 0, none⟩) T.length T.length N.length N.length T N (w3.alloc o) (HN23.out.below ((Below.refl _ _).alloc (Nat.le_refl _) o)).weak (HN3.out.below ((Below.refl _ _).alloc (Nat.le_refl _) o)).weak (Nat.le_refl _) (Nat.le_refl _)))))
        | (go_at_call 21; refine (HC.out _).mono ?_; rw [← HEE.out]; rintro e w4 ⟨rfl, hb⟩; have HB4 := Lib.hid hb; obtain ⟨hz, hy⟩ := rb_far HX3.out hb; obtain ⟨c1, c2, c3⟩ := rb_cells hz; obtain ⟨d1, d2, d3⟩ := rb_cells hy; have HZ4 := Lib.hid hz; have hlt := HB3.out.size; clear hb hz hy d3))
      go_wp2
      refine bodyPost_ret (v := .tuple #[.agg #[.slice none 0 0, .slice none 0 0], .int .i64 E]) (rb_ct Tryd.results20 _ _ w.heap.size 34 _ (0, 0) _ _ rfl rfl (rb_all HZ4.out _ _) Tryd.underlying34 rfl (by kernel_rfl)) rfl ⟨⟨nilRule, by rw [HE.out]; rfl, .inl ⟨by rw [HE.out]; exact HNE.out, rfl⟩⟩, ?_⟩
      have hb4 : Below w3.heap.size w3 w4 := ((Below.refl _ _).alloc (Nat.le_refl _) _).trans (HB4.out.mono (by simp))
      exact rb_below (HB3.out.trans (hb4.mono HB3.out.size)) (Nat.le_refl _) _ _
end Go.Proofs.YtoiolepengcagaaDoor
namespace Go.Proofs.YtoiolepengcagaaDoor
/-- a pieceM of a text: as it stands, or a call -/
inductive Tok where
  | t (s : Bs)
  | c (n : Bs)
def cut1 (b : UInt8) : Bs → Option (Bs × Bs)
  | [] => none
  | x :: l => if x = b then some ([], l) else (cut1 b l).map fun p => (x :: p.1, p.2)
theorem cut1_hit {b : UInt8} {a : Bs} (h : b ∉ a) (r : Bs) : cut1 b (a ++ b :: r) = some (a, r) := by
  induction a with
  | nil => simp [cut1]
  | cons x a ih =>
    have hx : x ≠ b := fun e => h (e ▸ List.mem_cons_self)
    rw [List.cons_append, cut1, if_neg hx, ih (fun g => h (List.mem_cons_of_mem _ g))]
    rfl
theorem cut1_miss {b : UInt8} {a : Bs} (h : b ∉ a) : cut1 b a = none := by
  induction a with
  | nil => rfl
  | cons x a ih =>
    have hx : x ≠ b := fun e => h (e ▸ List.mem_cons_self)
    rw [cut1, if_neg hx, ih (fun g => h (List.mem_cons_of_mem _ g))]
    rfl
theorem cut1_cases (b : UInt8) (s : Bs) : (b ∉ s ∧ cut1 b s = none) ∨ ∃ a r, s = a ++ b :: r ∧ b ∉ a ∧ cut1 b s = some (a, r) := by
  induction s with
  | nil => exact .inl ⟨by simp, rfl⟩
  | cons x s ih =>
    by_cases h : x = b
    · subst h
      exact .inr ⟨[], s, rfl, by simp, by simp [cut1]⟩
    · rcases ih with ⟨h1, h2⟩ | ⟨a, r, h1, h2, h3⟩
      · refine .inl ⟨fun g => ?_, by rw [cut1, if_neg h, h2]; rfl⟩
        rcases List.mem_cons.1 g with g | g
        · exact h g.symm
        · exact h1 g
      · refine .inr ⟨x :: a, r, by rw [h1]; rfl, fun g => ?_, by rw [cut1, if_neg h, h3]; rfl⟩
        rcases List.mem_cons.1 g with g | g
        · exact h g.symm
        · exact h2 g
section
variable (ok : Bs → Bool)
def prsF : Nat → Bs → List Tok × Bool
  | 0, _ => ([], false)
  | f + 1, s =>
    match cut1 36 s with
    | none => ([.t s], true)
    | some (a, []) => ([.t a], false)
    | some (a, x :: r) =>
      if x = 36 then (.t a :: .t [36] :: (prsF f r).1, (prsF f r).2)
      else if x = 40 then
        match cut1 41 r with
        | none => ([.t a], false)
        | some (n, r') => if ok n = true then (.t a :: .c n :: (prsF f r').1, (prsF f r').2) else ([.t a], false)
      else ([.t a], false)
/-- the pieces of a text, and whether it is well formed -/
def prs (s : Bs) : List Tok × Bool := prsF ok (s.length + 1) s
variable {ok}
theorem prsF_enough : ∀ (f g : Nat) (s : Bs), s.length < f → s.length < g → prsF ok f s = prsF ok g s := by
  intro f
  induction f with
  | zero => intro g s h; omega
  | succ f ih =>
    intro g s hf hg
    cases g with
    | zero => omega
    | succ g =>
      rw [prsF, prsF]
      rcases cut1_cases 36 s with ⟨_, h⟩ | ⟨a, r, e, _, h⟩
      · rw [h]
      · rw [h]
        have hl := congrArg List.length e
        simp only [List.length_append, List.length_cons] at hl
        match r, hl with
        | [], _ => rfl
        | x :: r, hl =>
          simp only [List.length_cons] at hl
          simp only
          rw [ih g r (by omega) (by omega)]
          rcases cut1_cases 41 r with ⟨_, h2⟩ | ⟨n, r', e2, _, h2⟩
          · rw [h2]
          · rw [h2]
            have hl2 := congrArg List.length e2
            simp only [List.length_append, List.length_cons] at hl2
            simp only
            rw [ih g r' (by omega) (by omega)]
theorem prs_last {s : Bs} (h : 36 ∉ s) : prs ok s = ([.t s], true) := by
  unfold prs
  rw [prsF, cut1_miss h]
theorem prs_esc {a : Bs} (h : 36 ∉ a) (r : Bs) : prs ok (a ++ 36 :: 36 :: r) = (.t a :: .t [36] :: (prs ok r).1, (prs ok r).2) := by
  unfold prs
  rw [prsF, cut1_hit h]
  simp only
  rw [if_pos trivial, prsF_enough _ (r.length + 1) r (by simp; omega) (by omega)]
theorem prs_call {a n : Bs} (h : 36 ∉ a) (hn : 41 ∉ n) (r : Bs) : prs ok (a ++ 36 :: 40 :: (n ++ 41 :: r)) = if ok n = true then (.t a :: .c n :: (prs ok r).1, (prs ok r).2) else ([.t a], false) := by
  unfold prs
  rw [prsF, cut1_hit h]
  simp only
  rw [if_neg (by decide), if_pos trivial, cut1_hit hn]
  simp only
  rw [prsF_enough _ (r.length + 1) r (by simp; omega) (by omega)]
theorem prs_open {a r : Bs} (h : 36 ∉ a) (hr : 41 ∉ r) : prs ok (a ++ 36 :: 40 :: r) = ([.t a], false) := by
  unfold prs
  rw [prsF, cut1_hit h]
  simp only
  rw [if_neg (by decide), if_pos trivial, cut1_miss hr]
theorem prs_bad {a r : Bs} (h : 36 ∉ a) (h1 : r.head? ≠ some 36) (h2 : r.head? ≠ some 40) : prs ok (a ++ 36 :: r) = ([.t a], false) := by
  unfold prs
  rw [prsF, cut1_hit h]
  match r, h1, h2 with
  | [], _, _ => rfl
  | x :: r, h1, h2 =>
    have g1 : x ≠ 36 := fun e => h1 (by rw [e]; rfl)
    have g2 : x ≠ 40 := fun e => h2 (by rw [e]; rfl)
    simp only
    rw [if_neg g1, if_neg g2]
/-- the ways in which a text begins -/
theorem txt_cases (s : Bs) : 36 ∉ s ∨ (∃ a r, 36 ∉ a ∧ s = a ++ 36 :: 36 :: r) ∨ (∃ a n r, 36 ∉ a ∧ 41 ∉ n ∧ s = a ++ 36 :: 40 :: (n ++ 41 :: r)) ∨ (∃ a r, 36 ∉ a ∧ 41 ∉ r ∧ s = a ++ 36 :: 40 :: r) ∨ ∃ a r, 36 ∉ a ∧ r.head? ≠ some 36 ∧ r.head? ≠ some 40 ∧ s = a ++ 36 :: r := by
  rcases cut1_cases 36 s with ⟨h, _⟩ | ⟨a, r, e, h, _⟩
  · exact .inl h
  · right
    by_cases h1 : r.head? = some 36
    · match r, h1 with
      | x :: r, h1 =>
        simp at h1
        subst h1
        exact .inl ⟨a, r, h, e⟩
    · by_cases h2 : r.head? = some 40
      · match r, h2 with
        | x :: r, h2 =>
          simp at h2
          subst h2
          rcases cut1_cases 41 r with ⟨g, _⟩ | ⟨n, r', e2, g, _⟩
          · exact .inr (.inr (.inl ⟨a, r, h, g, e⟩))
          · exact .inr (.inl ⟨a, n, r', h, g, by rw [e, e2]⟩)
      · exact .inr (.inr (.inr ⟨a, r, h, h1, h2, e⟩))
/-- what a text calls for -/
def callsOf (l : List Tok) : List Bs := l.filterMap fun | .c n => some n | .t _ => none
theorem callsOf_mem {l : List Tok} {n : Bs} : n ∈ callsOf l ↔ Tok.c n ∈ l := by
  unfold callsOf
  rw [List.mem_filterMap]
  constructor
  · rintro ⟨x, hx, e⟩
    cases x with
    | t s => simp at e
    | c m => simp at e; rw [← e]; exact hx
  · intro h
    exact ⟨_, h, rfl⟩
def pieceM (F : Bs → Option Bs) : Tok → Bs
  | .t s => s
  | .c n => (F n).getD []
def evalT (F : Bs → Option Bs) (l : List Tok) : Bs := l.flatMap (pieceM F)
def noneT (F : Bs → Option Bs) (l : List Tok) : Bool := l.any fun | .c n => (F n).isNone | .t _ => false
def lrg (F : Bs → Option Bs) (l : List Tok) : Bool := noneT F l || decide (2000 < (evalT F l).length)
def cmb (F : Bs → Option Bs) (l : List Tok) : Option Bs := if lrg F l = true then none else some (evalT F l)
theorem evalT_app (F : Bs → Option Bs) (l m : List Tok) : evalT F (l ++ m) = evalT F l ++ evalT F m := by unfold evalT; rw [List.flatMap_append]
theorem noneT_app (F : Bs → Option Bs) (l m : List Tok) : noneT F (l ++ m) = (noneT F l || noneT F m) := by unfold noneT; rw [List.any_append]
theorem noneT_iff {F : Bs → Option Bs} {l : List Tok} : noneT F l = true ↔ ∃ n ∈ callsOf l, F n = none := by
  unfold noneT
  rw [List.any_eq_true]
  constructor
  · rintro ⟨x, hx, e⟩
    cases x with
    | t s => simp at e
    | c n => exact ⟨n, callsOf_mem.2 hx, by simpa using e⟩
  · rintro ⟨n, hn, e⟩
    exact ⟨_, callsOf_mem.1 hn, by simp [e]⟩
theorem evalT_congr {F G : Bs → Option Bs} {l : List Tok} (h : ∀ n ∈ callsOf l, F n = G n) : evalT F l = evalT G l := by
  unfold evalT
  rw [List.flatMap_def, List.flatMap_def]
  refine congrArg List.flatten (List.map_congr_left fun x hx => ?_)
  cases x with
  | t s => rfl
  | c n => exact congrArg (fun z : Option Bs => z.getD []) (h n (callsOf_mem.2 hx))
theorem noneT_congr {F G : Bs → Option Bs} {l : List Tok} (h : ∀ n ∈ callsOf l, F n = G n) : noneT F l = noneT G l := by
  rw [Bool.eq_iff_iff, noneT_iff, noneT_iff]
  constructor
  · rintro ⟨n, hn, e⟩; exact ⟨n, hn, by rw [← h n hn]; exact e⟩
  · rintro ⟨n, hn, e⟩; exact ⟨n, hn, by rw [h n hn]; exact e⟩
theorem cmb_congr {F G : Bs → Option Bs} {l : List Tok} (h : ∀ n ∈ callsOf l, F n = G n) : cmb F l = cmb G l := by
  unfold cmb lrg
  rw [evalT_congr h, noneT_congr h]
/-- two texts, one behind the other -/
theorem prs_pre {s : Bs} (h : 36 ∉ s) (t : Bs) : ∃ a l, (prs ok t).1 = .t a :: l ∧ prs ok (s ++ t) = (.t (s ++ a) :: l, (prs ok t).2) := by
  have app : ∀ {a : Bs}, 36 ∉ a → 36 ∉ s ++ a := fun ha g => by
    rcases List.mem_append.1 g with g | g
    · exact h g
    · exact ha g
  rcases txt_cases t with h1 | ⟨a, r, ha, rfl⟩ | ⟨a, n, r, ha, hn, rfl⟩ | ⟨a, r, ha, hr, rfl⟩ | ⟨a, r, ha, h1, h2, rfl⟩
  · exact ⟨t, [], by rw [prs_last h1], by rw [prs_last h1, prs_last (app h1)]⟩
  · refine ⟨a, .t [36] :: (prs ok r).1, by rw [prs_esc ha], ?_⟩
    rw [← List.append_assoc, prs_esc (app ha), prs_esc ha]
  · by_cases hok : ok n = true
    · refine ⟨a, .c n :: (prs ok r).1, by rw [prs_call ha hn, if_pos hok], ?_⟩
      rw [← List.append_assoc, prs_call (app ha) hn, prs_call ha hn, if_pos hok, if_pos hok]
    · refine ⟨a, [], by rw [prs_call ha hn, if_neg hok], ?_⟩
      rw [← List.append_assoc, prs_call (app ha) hn, prs_call ha hn, if_neg hok, if_neg hok]
  · refine ⟨a, [], by rw [prs_open ha hr], ?_⟩
    rw [← List.append_assoc, prs_open (app ha) hr, prs_open ha hr]
  · refine ⟨a, [], by rw [prs_bad ha h1 h2], ?_⟩
    rw [← List.append_assoc, prs_bad (app ha) h1 h2, prs_bad ha h1 h2]
theorem prs_join (F : Bs → Option Bs) : ∀ (k : Nat) (s t : Bs), s.length ≤ k → (prs ok s).2 = true →
    evalT F (prs ok (s ++ t)).1 = evalT F (prs ok s).1 ++ evalT F (prs ok t).1 ∧ callsOf (prs ok (s ++ t)).1 = callsOf (prs ok s).1 ++ callsOf (prs ok t).1 ∧ (prs ok (s ++ t)).2 = (prs ok t).2 := by
  intro k
  induction k with
  | zero =>
    intro s t hk _
    have : s = [] := List.length_eq_zero_iff.1 (by omega)
    subst this
    rw [List.nil_append, prs_last (s := []) (by simp)]
    simp [evalT, pieceM, callsOf]
  | succ k ih =>
    intro s t hk h
    rcases txt_cases s with h1 | ⟨a, r, ha, rfl⟩ | ⟨a, n, r, ha, hn, rfl⟩ | ⟨a, r, ha, hr, rfl⟩ | ⟨a, r, ha, h1, h2, rfl⟩
    · obtain ⟨a, l, e1, e2⟩ := prs_pre (ok := ok) h1 t
      rw [e2, e1, prs_last h1]
      simp [evalT, pieceM, callsOf]
    · rw [prs_esc ha] at h
      obtain ⟨i1, i2, i3⟩ := ih r t (by simp at hk; omega) h
      have e : a ++ 36 :: 36 :: r ++ t = a ++ 36 :: 36 :: (r ++ t) := by simp
      rw [e, prs_esc ha, prs_esc ha]
      refine ⟨?_, ?_, i3⟩
      · simp only [evalT, List.flatMap_cons, pieceM, List.append_assoc] at i1 ⊢
        rw [i1]
      · simp only [callsOf, List.filterMap_cons] at i2 ⊢
        exact i2
    · rw [prs_call ha hn] at h
      by_cases hok : ok n = true
      · rw [if_pos hok] at h
        obtain ⟨i1, i2, i3⟩ := ih r t (by simp at hk; omega) h
        have e : a ++ 36 :: 40 :: (n ++ 41 :: r) ++ t = a ++ 36 :: 40 :: (n ++ 41 :: (r ++ t)) := by simp
        rw [e, prs_call ha hn, prs_call ha hn, if_pos hok, if_pos hok]
        refine ⟨?_, ?_, i3⟩
        · simp only [evalT, List.flatMap_cons, pieceM, List.append_assoc] at i1 ⊢
          rw [i1]
        · simp only [callsOf, List.filterMap_cons, List.cons_append] at i2 ⊢
          rw [i2]
      · rw [if_neg hok] at h; cases h
    · rw [prs_open ha hr] at h; cases h
    · rw [prs_bad ha h1 h2] at h; cases h
/-- each sign that begins a call, twice -/
def dbl (v : Bs) : Bs := v.flatMap fun c => if c = 36 then [36, 36] else [c]
theorem dbl_none {a : Bs} (h : 36 ∉ a) : dbl a = a := by
  unfold dbl
  induction a with
  | nil => rfl
  | cons x a ih =>
    have hx : x ≠ 36 := fun e => h (by rw [e]; exact List.mem_cons_self)
    rw [List.flatMap_cons, if_neg hx, ih (fun g => h (List.mem_cons_of_mem _ g))]
    rfl
theorem prs_dbl (F : Bs → Option Bs) : ∀ (k : Nat) (v : Bs), v.length ≤ k → evalT F (prs ok (dbl v)).1 = v ∧ callsOf (prs ok (dbl v)).1 = [] ∧ (prs ok (dbl v)).2 = true := by
  intro k
  induction k with
  | zero =>
    intro v hk
    have : v = [] := List.length_eq_zero_iff.1 (by omega)
    subst this
    rw [show dbl [] = [] from rfl, prs_last (s := []) (by simp)]
    simp [evalT, pieceM, callsOf]
  | succ k ih =>
    intro v hk
    rcases cut1_cases 36 v with ⟨h, _⟩ | ⟨a, r, rfl, h, _⟩
    · rw [dbl_none h, prs_last h]
      simp [evalT, pieceM, callsOf]
    · obtain ⟨i1, i2, i3⟩ := ih r (by simp at hk; omega)
      have e : dbl (a ++ 36 :: r) = a ++ 36 :: 36 :: dbl r := by
        have h1 : dbl (a ++ 36 :: r) = dbl a ++ 36 :: 36 :: dbl r := by unfold dbl; rw [List.flatMap_append, List.flatMap_cons, if_pos rfl]; rfl
        rw [h1, dbl_none h]
      rw [e, prs_esc h]
      refine ⟨?_, ?_, i3⟩
      · simp only [evalT, List.flatMap_cons, pieceM] at i1 ⊢
        rw [i1]; rfl
      · simp only [callsOf, List.filterMap_cons] at i2 ⊢
        exact i2
end
/-- what a macro is flat: none, if it is too large -/
inductive Flt (T : Bs → Option (List Tok)) : Bs → Option Bs → Prop where
  | mk {n : Bs} {l : List Tok} (h : T n = some l) (F : Bs → Option Bs) (hF : ∀ m, m ∈ callsOf l → Flt T m (F m)) : Flt T n (cmb F l)
theorem Flt.uniq {T : Bs → Option (List Tok)} {n : Bs} {a b : Option Bs} (h : Flt T n a) (h2 : Flt T n b) : a = b := by
  induction h generalizing b with
  | mk h F hF ih =>
    cases h2 with
    | mk h' F' hF' =>
      rw [h] at h'
      injection h' with h'
      subst h'
      exact cmb_congr fun m hm => ih m hm (hF' m hm)
theorem Flt.more {T T' : Bs → Option (List Tok)} {n : Bs} {a : Option Bs} (h : Flt T n a) (hT : ∀ m l, T m = some l → T' m = some l) : Flt T' n a := by
  induction h with
  | mk h F hF ih => exact .mk (hT _ _ h) F fun m hm => ih m hm
/-- from n by calls to m -/
inductive Lead (T : Bs → Option (List Tok)) : Bs → Bs → Prop where
  | one {n m : Bs} {l : List Tok} (h : T n = some l) (hm : m ∈ callsOf l) : Lead T n m
  | step {n m k : Bs} {l : List Tok} (h : T n = some l) (hm : m ∈ callsOf l) (hk : Lead T m k) : Lead T n k
theorem Lead.trans {T : Bs → Option (List Tok)} {a b c : Bs} (h : Lead T a b) (h2 : Lead T b c) : Lead T a c := by
  induction h with
  | one h hm => exact .step h hm h2
  | step h hm _ ih => exact .step h hm (ih h2)
theorem Flt.no_ring {T : Bs → Option (List Tok)} {n : Bs} {a : Option Bs} (h : Flt T n a) : ¬ Lead T n n := by
  induction h with
  | @mk n l h F hF ih =>
    intro hl
    have key : ∀ m, m ∈ callsOf l → Lead T m n → False := fun m hm hmn => ih m hm (hmn.trans (.one h hm))
    cases hl with
    | one h' hm =>
      rw [h] at h'
      injection h' with h'
      subst h'
      exact ih _ hm (.one h hm)
    | step h' hm hk =>
      rw [h] at h'
      injection h' with h'
      subst h'
      exact key _ hm hk
theorem Flt.lead {T : Bs → Option (List Tok)} {n m : Bs} (h : Lead T n m) : ∀ {a : Option Bs}, Flt T n a → ∃ b, Flt T m b := by
  induction h with
  | one h hm =>
    intro a ha
    cases ha with
    | mk h' F hF =>
      rw [h] at h'
      injection h' with h'
      subst h'
      exact ⟨_, hF _ hm⟩
  | step h hm _ ih =>
    intro a ha
    cases ha with
    | mk h' F hF =>
      rw [h] at h'
      injection h' with h'
      subst h'
      exact ih (hF _ hm)
theorem Flt.short {T : Bs → Option (List Tok)} {n v : Bs} (h : Flt T n (some v)) : v.length ≤ 2000 := by
  generalize ha : some v = a at h
  cases h with
  | mk h F hF =>
    unfold cmb lrg at ha
    split at ha
    · cases ha
    · rename_i h1
      simp only [Bool.or_eq_true, decide_eq_true_eq, not_or] at h1
      injection ha with ha
      rw [ha]
      omega
end Go.Proofs.YtoiolepengcagaaDoor
