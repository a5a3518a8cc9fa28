/- Texts joined: FreeW, FormsW, PatW, AskCheckW, AskTextP. Conditions: theirs. -/
import Derived.Test.YteefncohknclcaaGreatDoorAskBoundLWM6
import Derived.Test.YteefncohknclcaaGreatDoorNLSetW
import Derived.Test.YteefncohknclcaaGreatDoorAskBoundLWM7
import Derived.ArgAppend
import Derived.Deep.RegionLaw
import Derived.Test.YteefncohknclcaaGreatDoorAskP
import Derived.Test.YteefncohknclcaaGreatDoorAskBoundLWM2
import Derived.Test.YteefncohknclcaaGreatDoorPatP
import Derived.Lib.MapLaws
import Derived.Lib.TrimAscii
import Derived.Shelf.Strings.MapGrows
import Derived.Laws.RangeAny
import Derived.Laws.Runes
import Derived.Deep.QuietTactic
import Derived.WalkMore
import Derived.BigQuiet
import Derived.Deep.LoopGhost
import Derived.Deep.DeepCutAuto
namespace Go.Proofs.YteefncohknclcaaGreatDoor
open Go.RowKit Go.Shelf
theorem grown_transF {w u z : World} {r r' : Option Nat} (h : w.grownBy u r) (g : u.grownBy z r') (hr : r' = r ∨ ∃ b, r' = some b ∧ w.heap.size ≤ b) : w.grownBy z r :=
  ⟨g.os.trans h.os, g.tape.trans h.tape, g.output.trans h.output, Nat.le_trans h.size g.size, fun k hk hne => (g.block k (Nat.lt_of_lt_of_le hk h.size) (by
    rcases hr with rfl | ⟨b, rfl, hb⟩
    · exact hne
    · intro e; injection e with e; omega)).trans (h.block k hk hne)⟩
theorem grown_below {w u : World} (h : Below w.heap.size w u) (r : Option Nat) : w.grownBy u r := ⟨h.os, h.tape, h.output, h.size, fun k hk _ => h.block k hk⟩
theorem own_belowF {w w' : World} {base e n : Nat} {v : Value} {xs : List Value} (h : w.ownsRow base e 1 v n xs) (hb : Below w.heap.size w w') : w'.ownsRow base e 1 v n xs := by
  refine h.kept (row := none) ⟨hb.os, hb.tape, hb.output, hb.size, fun k hk _ => hb.block k hk⟩ ?_
  cases hv : v.ownBlock
  · exact .inl rfl
  · exact .inr (by simp)
theorem grown_reflF (w : World) (r : Option Nat) : w.grownBy w r := ⟨rfl, rfl, rfl, Nat.le_refl _, fun _ _ _ => rfl⟩
/-- what lies below a call's own blocks stays where a row of its own grows -/
theorem below_grownF {b : Nat} {w u z : World} {r : Option Nat} (h : Below b w u) (g : u.grownBy z r) (hb : b ≤ u.heap.size) (hr : ∀ k, r = some k → b ≤ k) : Below b w z := h.grown g hb hr
theorem NL.grown {w u : World} {p : Option Addr} {n c : Nat} {zs : List ByteArray} {r : Option Nat} (h : NL w p n c zs) (g : w.grownBy u r) (hr : ∀ ad, p = some ad → r ≠ some ad.block) : NL u p n c zs := by
  refine ⟨⟨h.at_.len, ⟨h.at_.reads.1, fun hn => ?_⟩, h.at_.size, h.at_.big⟩, h.nil, fun ad ha => ?_, h.reach⟩
  · obtain ⟨ad, e, hb, hc⟩ := h.at_.reads.2 hn
    refine ⟨ad, e, Nat.lt_of_lt_of_le hb g.size, fun j u2 hu => ?_⟩
    have hblk := g.block ad.block hb (fun e2 => hr ad e e2.symm)
    have e2 : u.cell? (ad.add j) = w.cell? (ad.add j) := World.cell?_of_block (by rw [block_of_add]; exact hblk)
    exact e2.trans (hc j u2 hu)
  · obtain ⟨b, off, e, hlt⟩ := h.plain ad ha
    exact ⟨b, off, e, Nat.lt_of_lt_of_le hlt g.size⟩
theorem NL_none (w : World) : NL w none 0 0 [] := ⟨⟨rfl, Reads.none_, (fun _ h => by cases h), by omega⟩, fun _ => rfl, (fun _ h => by cases h), by omega⟩
theorem NL_ownF {w : World} {base n : Nat} {v : Value} {zs : List ByteArray} (h : w.ownsRow base 9 1 v n (strsV zs)) (hl : zs.length = n) (hn : 0 < n) (hs : ∀ s ∈ zs, s.size ≤ 4611686018427387904) (hb : n ≤ 8796093022) :
    ∃ g c, v = .slice (some ⟨g, 0, none⟩) n c ∧ base ≤ g ∧ g < w.heap.size ∧ n ≤ c ∧ NL w (some ⟨g, 0, none⟩) n c zs := by
  obtain ⟨g, c, rfl, h1, h2⟩ := h.form hn
  have hnc : n ≤ c := by
    rcases h.2 with ⟨hv, _⟩ | ⟨g', cap, cur, hv, _, _, h3, _⟩
    · cases hv
    · injection hv with _ _ e; subst e; exact h3
  exact ⟨g, c, rfl, h1, h2, hnc, ⟨⟨hl, Reads.of_own h, hs, by omega⟩, (fun h => by cases h), (fun ad ha => by injection ha with ha; exact ⟨g, 0, ha.symm, h2⟩), by omega⟩⟩
theorem app_strK (w : World) {ops : Array Oper} {rest : List Oper} {o : Oper} {a : Act} {Q : Exit → Act → World → Prop} (hgd : o.guard = none) (s x : Operand)
    (ho : o.op = .call { callee := .builtin .append, args := #[s, x], argTypes := #[22, 22] })
    (base : Nat) (v : Value) (n : Nat) (xs : List ByteArray) (hs : a.eval s = v) (hown : w.ownsRow base 9 1 v n (strsV xs))
    (g : Nat) (u : ByteArray) (hx : a.eval x = .slice (some ⟨g, 0, none⟩) 1 1) (hcell : w.cell? ⟨g, 0, none⟩ = some (.string u))
    (hn : n < 8796093022208) (hbase : base ≤ w.heap.size)
    (h : ∀ v' w', w'.ownsRow base 9 1 v' (n + 1) (strsV (xs ++ [u])) → w.grownBy w' v.ownBlock → (v'.ownBlock = v.ownBlock ∨ v'.ownBlock = some w.heap.size) → wpList Tryz.prog ops Q rest (a.put o.dst v') w') : wpList Tryz.prog ops Q (o :: rest) a w := by
  obtain ⟨i0, hi, hz0, hz1, hz2⟩ := info_parts info_str
  refine wpList_append_all w hgd s x 22 ho base 9 i0 (.string ⟨#[]⟩) 1 16 Tryz.underlying22 hi hz0 hz1 hz2 rfl (by decide) v n (strsV xs) hs hown ⟨g, 0, none⟩ 1 1 [.string u] hx rfl ?_ ?_ (by unfold maxLen; omega) (by omega) hbase (fun _ => True) ?_ ?_ ?_ (fun v' w' h1 h2 _ h4 => h v' w' (by rw [strsV_snoc]; exact h1) h2 h4)
  · intro j q hj
    match j, hj with
    | 0, hj => simp at hj; subst hj; simpa [Addr.add] using hcell
  · intro q hq; simp at hq; subst hq; rfl
  · intro q hq; trivial
  · intro q hq; trivial
  · intro b hb
    rcases hown.2 with ⟨rfl, _⟩ | ⟨g', cap, cur, rfl, _, hlt, _, _, _, _⟩
    · simp [Value.ownBlock] at hb
    · simp [Value.ownBlock] at hb
      subst hb
      exact ⟨cur, _, _, hlt, fun _ _ => trivial⟩
/-- a list that is full grows into a block of its own -/
theorem step_strF {ops : Array Oper} {o : Oper} {a : Act} {w : World} {K : Act → World → Prop} {Q : Exit → Act → World → Prop} {E : Prop} (hgd : o.guard = none) (s x : Operand)
    (ho : o.op = .call { callee := .builtin .append, args := #[s, x], argTypes := #[22, 22] })
    (p : Option Addr) (n c : Nat) (xs : List ByteArray) (hs : a.eval s = .slice p n n) (hN : NL w p n c xs)
    (g : Nat) (u : ByteArray) (hx : a.eval x = .slice (some ⟨g, 0, none⟩) 1 1) (hcell : w.cell? ⟨g, 0, none⟩ = some (.string u))
    (hn : n < 8796093022)
    (h : ∀ v' w', w'.ownsRow w.heap.size 9 1 v' (n + 1) (strsV (xs ++ [u])) → Below w.heap.size w w' → K (a.put o.dst v') w') :
    if Region.wanted o (yielded ops a.tmps) = true then Oper.wp Tryz.prog o a w K Q else E := by
  have hw : Region.wanted o (yielded ops a.tmps) = true := by simp [Region.wanted, hgd]
  rw [if_pos hw]
  obtain ⟨i0, hi, hz0, hz1, hz2⟩ := info_parts info_str
  have key : ∃ v' w', (Builtin.append_ #[22, 22] o.type #[.slice p n n, .slice (some ⟨g, 0, none⟩) 1 1]).run Tryz.prog w = .ok v' w' ∧ w'.ownsRow w.heap.size 9 1 v' (n + 1) (strsV xs ++ [.string u]) ∧ w.grownBy w' none := by
    have hc1 : ∀ (j : Nat) (q : Value), [Value.string u][j]? = some q → w.cell? ((⟨g, 0, none⟩ : Addr).add j) = some q := by
      intro j q hj
      match j, hj with
      | 0, hj => simp at hj; subst hj; simpa [Addr.add] using hcell
    rcases Nat.eq_zero_or_pos n with h0 | h0
    · subst h0
      have hx0 : xs = [] := List.length_eq_zero_iff.1 hN.at_.len
      subst hx0
      cases p with
      | none =>
        obtain ⟨v', w', h1, h2, h3, _⟩ := run_append_own (P := Tryz.prog) w w.heap.size 22 o.type 9 i0 _ 1 16 Tryz.underlying22 hi hz0 hz1 hz2 rfl (by decide) (.slice none 0 0) 0 [] (World.ownsRow_nil w _ _ _) ⟨g, 0, none⟩ 1 1 [.string u] rfl hc1 (by intro q hq; simp at hq; subst hq; rfl) (by unfold maxLen; omega) (by omega) (Nat.le_refl _)
        exact ⟨v', w', h1, h2, h3⟩
      | some ad =>
        exact run_append_arg_grows (P := Tryz.prog) w 22 o.type 9 i0 _ 1 16 Tryz.underlying22 hi hz0 hz1 hz2 rfl (by decide) ad 0 0 [] rfl (fun j u hj => by simp at hj) ⟨g, 0, none⟩ 1 1 [.string u] rfl hc1 (by omega) (by unfold maxLen; omega) (by omega)
    · obtain ⟨ad, rfl, _, hc⟩ := hN.at_.reads.2 h0
      exact run_append_arg_grows (P := Tryz.prog) w 22 o.type 9 i0 _ 1 16 Tryz.underlying22 hi hz0 hz1 hz2 rfl (by decide) ad n n (strsV xs) (by unfold strsV; rw [List.length_map, hN.at_.len]; omega) hc ⟨g, 0, none⟩ 1 1 [.string u] rfl hc1 (by omega) (by unfold maxLen; omega) (by omega)
  obtain ⟨v', w', hr, h2, h3⟩ := key
  unfold Oper.wp execOp
  simp only [ho, resolve, invoke, builtin, Sem.run_bind, Sem.run_pure, Result.andThen_ok, List.map_toArray, List.map_cons, List.map_nil, hs, hx, hr]
  exact h v' w' (by rw [strsV_snoc]; exact h2) ⟨h3.os, h3.tape, h3.output, h3.size, fun k hk => h3.block k hk (by simp)⟩
/-- what a call of free answers: the list it was handed, longer -/
def FreePost (t : QT) (bd l : List ByteArray) (base : Nat) (v : Value) (w : World) (e : Ending) (w' : World) : Prop :=
  ∃ (v' : Value) (m : List ByteArray), e = .returned v' ∧ byt m = qfree (qabs t) (byt bd) ∧ w'.ownsRow base 9 1 v' (l ++ m).length (strsV (l ++ m)) ∧ w.grownBy w' v.ownBlock ∧ (v'.ownBlock = v.ownBlock ∨ ∃ g, v'.ownBlock = some g ∧ w.heap.size ≤ g)
theorem qfree_len (x : QA) : ∀ bd, (qfree x bd).length ≤ qcnt x := by
  induction x using QA.ind with
  | h k s n xs ih =>
    intro bd
    have ho : (qown k s bd).length ≤ 1 := by unfold qown; split <;> simp
    match xs with
    | [] => rw [free0, cnt_mk]; simp [qcnts]; exact ho
    | [x] =>
      have := ih x (by simp) bd
      rw [free1, cnt_mk, cnts_one, List.length_append]; omega
    | x :: y :: r =>
      have h1 := ih x (by simp) bd
      have h2 := ih y (by simp) (qbd k s bd)
      rw [free2, cnt_mk, List.length_append, List.length_append]
      simp only [qcnts]
      omega
theorem byt_app (l m : List ByteArray) : byt (l ++ m) = byt l ++ byt m := List.map_append
/-- the list of the free vars, so far -/
structure FInv (W : World) (base : Nat) (l : List ByteArray) (v : Value) (F : List Txt) (vj : Value) (m : List ByteArray) (u : World) : Prop where
  eq : byt m = F
  own : u.ownsRow base 9 1 vj (l ++ m).length (strsV (l ++ m))
  grown : W.grownBy u v.ownBlock
  blk : vj.ownBlock = v.ownBlock ∨ ∃ g, vj.ownBlock = some g ∧ W.heap.size ≤ g
theorem FInv.later {W : World} {base : Nat} {l : List ByteArray} {v : Value} {F : List Txt} {vj : Value} {m : List ByteArray} {u u1 : World} (h : FInv W base l v F vj m u) (hb : Below u.heap.size u u1) : FInv W base l v F vj m u1 :=
  ⟨h.eq, own_belowF h.own hb, grown_transF h.grown (grown_below hb v.ownBlock) (.inl rfl), h.blk⟩
theorem FInv.step {W : World} {base : Nat} {l bd : List ByteArray} {v : Value} {F : List Txt} {vj : Value} {m : List ByteArray} {u u2 : World} {x : QT} {e : Ending} (h : FInv W base l v F vj m u) (hp : FreePost x bd (l ++ m) base vj u e u2) :
    ∃ v' m', e = .returned v' ∧ FInv W base l v (F ++ qfree (qabs x) (byt bd)) v' (m ++ m') u2 := by
  obtain ⟨v', m', rfl, h1, h2, h3, h4⟩ := hp
  refine ⟨v', m', rfl, by rw [byt_app, h.eq, h1], by rw [← List.append_assoc]; exact h2, grown_transF h.grown h3 (h.blk.imp id fun ⟨g, e, hg⟩ => ⟨g, e, hg⟩), ?_⟩
  rcases h4 with h4 | ⟨g, e, hg⟩
  · rw [h4]; exact h.blk
  · exact .inr ⟨g, e, Nat.le_trans h.grown.size hg⟩
theorem FInv.bound {W : World} {base : Nat} {l bd : List ByteArray} {v : Value} {F : List Txt} {vj : Value} {m : List ByteArray} {u : World} {p : Option Addr} {n c : Nat} (h : FInv W base l v F vj m u) (hN : NL W p n c bd) (hne : ∀ ad, p = some ad → v.ownBlock ≠ some ad.block) :
    NL u p n c bd ∧ ∀ ad, p = some ad → vj.ownBlock ≠ some ad.block := by
  refine ⟨hN.grown h.grown hne, fun ad ha e => ?_⟩
  obtain ⟨b, off, e1, hlt⟩ := hN.plain ad ha
  rcases h.blk with h1 | ⟨g, h1, h2⟩
  · exact hne ad ha (h1.symm.trans e)
  · rw [h1] at e
    injection e with e
    rw [e1] at e
    have e : g = b := e
    omega
def frs (k : Int) (s : Txt) (bd : List Txt) : List QA → Nat → List Txt
  | _, 0 => []
  | [], _ + 1 => []
  | x :: _, 1 => qfree x bd
  | [x], _ + 2 => qfree x bd
  | x :: y :: _, _ + 2 => qfree x bd ++ qfree y (qbd k s bd)
theorem frs_len (k : Int) (s : Txt) (bd : List Txt) (xs : List QA) (j : Nat) (hj : j ≤ xs.length) (h2 : xs.length ≤ 2) (x : QA) (hx : xs[j]? = some x) : (frs k s bd xs j).length + qcnt x ≤ qcnts xs ∧ (k ≠ 4 ∨ j = 0 → frs k s bd xs (j + 1) = frs k s bd xs j ++ qfree x bd) ∧ (k = 4 → j = 1 → frs k s bd xs (j + 1) = frs k s bd xs j ++ qfree x (bd ++ [s])) := by
  match xs, j, hx with
  | y :: r, 0, hx =>
    simp only [List.getElem?_cons_zero, Option.some.injEq] at hx
    subst hx
    refine ⟨by simp [frs, qcnts], fun _ => ?_, fun _ h => by omega⟩
    simp [frs]
  | [y, z], 1, hx =>
    simp only [List.getElem?_cons_succ, List.getElem?_cons_zero, Option.some.injEq] at hx
    subst hx
    have h3 := qfree_len y bd
    refine ⟨by simp only [frs, qcnts]; omega, fun h => ?_, fun h _ => ?_⟩
    · rcases h with h | h
      · simp only [frs, qbd, if_neg h]
      · omega
    · simp only [frs, qbd, if_pos h]
  | [y], j + 1, hx => simp at hx
  | [y, z], j + 2, hx => simp at hx
  | y :: z :: q :: r, _, _ => simp at h2
set_option maxHeartbeats 8000000 in
set_option maxRecDepth 100000 in
theorem free_ok (W0 : World) (base : Nat) (hW0 : W0.heap.size ≤ base) : ∀ (t : QT), QIn W0 t → qchk qpat (qabs t) = 0 → ∀ (p : Option Addr) (n c : Nat) (bd l : List ByteArray) (v : Value) (w : World), Below W0.heap.size W0 w → base ≤ w.heap.size → NL w p n c bd → (∀ ad, p = some ad → v.ownBlock ≠ some ad.block) →
    w.ownsRow base 9 1 v l.length (strsV l) → l.length + qcnt (qabs t) ≤ 1048576 → n + qcnt (qabs t) ≤ 1048576 → n ≤ c →
    Calls Tryz.prog 39 #[t.v, .slice p n c, v] w (FreePost t bd l base v w) := by
  intro t
  induction t using QT.ind with
  | h k s q pt ct xs ih =>
    intro hQ hchk p n c bd l v w hB hb hN hne ho hl hn hnc
    obtain ⟨hnd, hkc⟩ := qchk_zero.1 (show qchk qpat (.mk k s.data.toList q (qabss xs)) = 0 from hchk)
    have hcs : 1 + qcnts (qabss xs) = qcnt (qabs (.mk k s q pt ct xs)) := rfl
    rw [← hcs] at hl hn
    have hx2 : xs.length ≤ 2 := by
      rw [← qabss_len]
      rcases node_cases hnd with h | h | h | h | h | h | h | h | h | h <;> omega
    have hx3 : k = 3 → xs = [] := by
      intro h3
      have : (qabss xs).length = 0 := by rcases node_cases hnd with h | h | h | h | h | h | h | h | h | h <;> first | (exfalso; omega) | omega
      rw [qabss_len] at this
      exact List.length_eq_zero_iff.1 this
    obtain ⟨W, hW, hBW, hS, hC⟩ := arg1 w (.int .i64 k) (.string s) (.int .i64 q) (.slice pt xs.length ct)
    have hsm := hQ.small
    have hss : s.size ≤ 1048576 := hsm.1
    have HSS := Lib.hid hss
    have HK : Hid (QsIn W0 pt 0 xs) := hQ.kids
    have HC := Lib.hid hC
    have HBW := Lib.hid hBW
    have HB0 := Lib.hid (hB.trans (hBW.mono hB.size))
    have HN := Lib.hid (hN.below hBW)
    have HNE := Lib.hid hne
    have HI0 : Hid (FInv W base l v [] v [] W) := ⟨rfl, by rw [List.append_nil]; exact own_belowF ho hBW, grown_reflF _ _, .inl rfl⟩
    have HPOST : Hid (∀ (F : List Txt) (vj : Value) (m : List ByteArray) (u : World), FInv W base l v F vj m u → F = qfree (qabs (.mk k s q pt ct xs)) (byt bd) → FreePost (.mk k s q pt ct xs) bd l base v w (.returned vj) u) := by
      show ∀ (F : List Txt) (vj : Value) (m : List ByteArray) (u : World), _
      intro F vj m u h hF
      refine ⟨vj, m, rfl, h.eq.trans hF, h.own, grown_transF (grown_below hBW v.ownBlock) h.grown (.inl rfl), h.blk.imp id fun ⟨g, e, hg⟩ => ⟨g, e, Nat.le_trans hBW.size hg⟩⟩
    have HBX : Hid (∀ u : World, W.grownBy u v.ownBlock → u.cell? ⟨w.heap.size, 0, none⟩ = some (.int .i64 k) ∧ u.cell? ⟨w.heap.size, 1, none⟩ = some (.string s) ∧ u.cell? ⟨w.heap.size, 2, none⟩ = some (.int .i64 q) ∧ u.cell? ⟨w.heap.size, 3, none⟩ = some (.slice pt xs.length ct)) := by
      show ∀ u : World, _
      intro u hg
      have hblk : u.heap[w.heap.size]? = W.heap[w.heap.size]? := hg.block _ (by omega) fun e => by
        have := (ho.lt _ e.symm).2
        omega
      have hc : ∀ i, u.cell? ⟨w.heap.size, i, none⟩ = W.cell? ⟨w.heap.size, i, none⟩ := fun i => World.cell?_of_block hblk
      rw [hc, hc, hc, hc]
      exact hC W (Below.refl _ _)
    have HVB : Hid (∀ b, v.ownBlock = some b → W0.heap.size ≤ b) := by
      show ∀ b, _
      exact fun b e => Nat.le_trans hW0 (ho.lt b e).1
    have HIH := Lib.hid ih
    have HKC : Hid (∀ x ∈ xs, qchk qpat (qabs x) = 0) := by
      show ∀ x ∈ xs, _
      exact fun x hx => hkc _ (by rw [qabss_map]; exact List.mem_map_of_mem hx)
    have HSZ : Hid (base ≤ W.heap.size ∧ l.length + (1 + qcnts (qabss xs)) ≤ 1048576 ∧ n + (1 + qcnts (qabss xs)) ≤ 1048576) := ⟨Nat.le_trans hb hBW.size, hl, hn⟩
    obtain ⟨k0, k1, k2, k3⟩ := HC.out W (Below.refl _ _)
    show Calls Tryz.prog 39 #[.agg #[.int .i64 k, .string s, .int .i64 q, .slice pt xs.length ct], .slice p n c, v] w _
    clear hQ hchk hnd hkc hcs hsm ih hB hb hN hne ho hl hn hBW hS hC
    go_enter Tryz.func39, Tryz.ntmps39
    go_upto_region 1 with fail
    rw [← hW]
    clear hW
    by_cases h3 : k = 3
    · obtain rfl := hx3 h3
      subst h3
      clear hx2 hx3
      by_cases hin : Lib.containsS bd s = true
      · have HF := Lib.hid (HPOST.out [] v [] W HI0.out (by
          show [] = qfree (.mk 3 s.data.toList q []) (byt bd)
          rw [free0]
          unfold qown
          rw [if_neg (fun h => h.2 (mem_byt.2 (has_iff.1 hin)))]))
        go_wp2_with (go_at_call 27; refine (nl_contains HN.out s).mono ?_; rw [hin]; rintro e w' ⟨rfl, hw⟩; rw [hw]; clear hw)
        go_loopw [28, 2] (fun i x wr => i = .int .i64 0 ∧ x = v ∧ wr = W) (fun _ _ _ => 0)
        case atStart => exact ⟨rfl, rfl, rfl⟩
        case round =>
          obtain ⟨rfl, rfl, rfl⟩ := hrel
          go_wp2_with fail
          go_ret
          exact HF.out
      · have hin : Lib.containsS bd s = false := by simpa using hin
        have HIN := Lib.hid hin
        have hln : l.length + 1 ≤ 1048576 := by have := HSZ.out.2.1; omega
        have HO : Hid (W.ownsRow base 9 1 v l.length (strsV l)) := by have := HI0.out.own; rw [List.append_nil] at this; exact this
        go_wp2_with (first
          | (go_at_call 27; refine (nl_contains HN.out s).mono ?_; rw [HIN.out]; rintro e w' ⟨rfl, hw⟩; rw [hw]; clear hw)
          | (at_builtin; refine app_strK _ rfl _ _ rfl base v l.length l rfl (HO.out.alloc _) W.heap.size s rfl ?c1 (by omega) ?c2 ?_; rotate_right; intro v' w6 hown6 hgrow6 hv6; have HO6 := Lib.hid hown6; have HG6 := Lib.hid hgrow6; have HV6 := Lib.hid hv6; have HGW := Lib.hid (grown_transF (grown_below ((Below.refl W.heap.size W).alloc (Nat.le_refl _) _) v.ownBlock) hgrow6 (.inl rfl)); obtain ⟨z0, z1, z2, z3⟩ := HBX.out w6 HGW.out; clear hown6 hgrow6 hv6))
        case c1 => rw [World.cell?_alloc_at _ _ _ _ rfl]; rfl
        case c2 => have := HSZ.out.1; simp; omega
        have HI6 : Hid (FInv W base l v [s.data.toList] v' [s] w6) := by
          refine ⟨rfl, by rw [List.length_append]; exact HO6.out, HGW.out, ?_⟩
          rcases HV6.out with h | h
          · exact .inl h
          · exact .inr ⟨_, h, by simp⟩
        have HF := Lib.hid (HPOST.out [s.data.toList] v' [s] w6 HI6.out (by
          show _ = qfree (.mk 3 s.data.toList q []) (byt bd)
          rw [free0]
          unfold qown
          rw [if_pos ⟨rfl, fun h => by have := has_iff.2 (mem_byt.1 h); rw [HIN.out] at this; cases this⟩]))
        go_loopw [28, 2] (fun i x wr => i = .int .i64 0 ∧ x = v' ∧ wr = w6) (fun _ _ _ => 0)
        case atStart => exact ⟨rfl, rfl, rfl⟩
        case round =>
          obtain ⟨rfl, rfl, rfl⟩ := hrel
          go_wp2_with fail
          go_ret
          exact HF.out
    · have e3 : (k == 3) = false := by rw [beq_eq_false_iff_ne]; exact h3
      have H3 := Lib.hid h3
      clear h3 hx3
      go_wp2_with fail
      go_loopw [28, 2] (fun i x wr => ∃ (j : Nat) (m : List ByteArray), j ≤ xs.length ∧ i = .int .i64 j ∧ Hid (FInv W base l v (frs k s.data.toList (byt bd) (qabss xs) j) x m wr)) (fun i _ _ => xs.length - (intOf i).toNat)
      case atStart => exact ⟨0, [], Nat.zero_le _, rfl, HI0.out⟩
      case round =>
        obtain ⟨j, m, hj, rfl, HI⟩ := hrel
        have HBw : Hid (Below W0.heap.size W0 wr) := HB0.out.grown HI.out.grown HB0.out.size HVB.out
        obtain ⟨vj, hvj⟩ : ∃ vj, vj = u2 := ⟨_, rfl⟩
        subst hvj
        by_cases hlt : j < xs.length
        · obtain ⟨x, hx⟩ : ∃ x, xs[j]? = some x := ⟨_, List.getElem?_eq_getElem hlt⟩
          have hxa : (qabss xs)[j]? = some (qabs x) := by rw [qabss_map, List.getElem?_map, hx]; rfl
          obtain ⟨f1, f2, f3⟩ := frs_len k s.data.toList (byt bd) (qabss xs) j (by rw [qabss_len]; exact hj) (by rw [qabss_len]; exact hx2) (qabs x) hxa
          have HF2 := Lib.hid f2
          have HF3 := Lib.hid f3
          have hml : m.length = (frs k s.data.toList (byt bd) (qabss xs) j).length := by rw [← HI.out.eq]; exact (byt_len m).symm
          have HXS : Hid ((l ++ m).length + qcnt (qabs x) ≤ 1048576 ∧ n + 1 + qcnt (qabs x) ≤ 1048576) := by
            have := HSZ.out
            rw [List.length_append]
            show _ ∧ _
            omega
          obtain ⟨⟨b, o, rfl, hb, hf⟩, hqx⟩ := HK.out.at hx
          obtain ⟨c0, c1, c2, c3⟩ := four_at (hf.below HBw.out hb)
          have HCALL : Hid (∀ (p : Option Addr) (n2 c : Nat) (bd : List ByteArray) (u : World), n2 ≤ n + 1 → Below wr.heap.size wr u → NL u p n2 c bd → (∀ ad, p = some ad → vj.ownBlock ≠ some ad.block) → n2 ≤ c → Calls Tryz.prog 39 #[x.v, .slice p n2 c, vj] u (FreePost x bd (l ++ m) base vj u)) := by
            show ∀ (p : Option Addr) (n2 c : Nat) (bd : List ByteArray) (u : World), _
            intro p n2 c bd u hn2 hu hN hne hnc2
            refine HIH.out x (List.mem_of_getElem? hx) hqx (HKC.out x (List.mem_of_getElem? hx)) p n2 c bd (l ++ m) vj u (HBw.out.trans (hu.mono HBw.out.size)) ?_ hN hne (own_belowF HI.out.own hu) HXS.out.1 (by have := HXS.out.2; omega) hnc2
            have h1 := HI.out.grown.size
            have h2 := HSZ.out.1
            have h3 := hu.size
            omega
          obtain ⟨bn1, bn2⟩ := HI.out.bound HN.out HNE.out
          have HN2 := Lib.hid bn1
          have HNE2 := Lib.hid bn2
          obtain ⟨Y, hY, hBY, hSY, hCY⟩ := arg1 wr (.int .i64 x.kind) (.string x.name) (.int .i64 x.num) (.slice x.p x.xs.length x.cap)
          have HBY := Lib.hid hBY
          have HCY := Lib.hid hCY
          have HIY := Lib.hid (HI.out.later hBY)
          clear f1 f2 f3 hml hxa hqx hf hb hx bn1 bn2 hBY hCY hSY k0 k1 k2 k3
          go_upto_region 6 with fail
          rw [← hY]
          clear hY c0 c1 c2 c3
          obtain ⟨k0, k1, k2, k3⟩ := HBX.out Y HIY.out.grown
          obtain ⟨y0, y1, y2, y3⟩ := HCY.out Y (Below.refl _ _)
          by_cases h4 : k = 4
          · subst h4
            by_cases hj1 : j = 1
            · subst hj1
              have HF4 := Lib.hid (HF3.out rfl rfl)
              have HBSS : Hid (byt (bd ++ [s]) = byt bd ++ [s.data.toList]) := byt_app bd [s]
              have hss2 : s.size ≤ 4611686018427387904 := by omega
              have HBS : Hid (∀ z ∈ bd ++ [s], z.size ≤ 4611686018427387904) := by
                show ∀ z ∈ _, _
                intro z hz
                rcases List.mem_append.1 hz with h | h
                · exact HN.out.at_.size z h
                · rw [List.mem_singleton.1 h]; exact hss2
              have HNL : Hid (bd.length = n) := HN.out.at_.len
              have hnb : n + 1 ≤ 1048576 := by have := HSZ.out.2.2; omega
              obtain ⟨Z, hZ⟩ : ∃ Z, Z = (Y.alloc (.cells #[.string s] 9)).drew := ⟨_, rfl⟩
              have hBZ : Below Y.heap.size Y Z := by rw [hZ]; exact ((Below.refl _ _).alloc (Nat.le_refl _) _).drew
              have HBZ := Lib.hid hBZ
              have HNZ : Hid (NL ((Y.alloc (.cells #[.string s] 9)).drew) p n c bd) := by show NL _ _ _ _ _; rw [← hZ]; exact (HN2.out.below HBY.out).below hBZ
              have HSC : Hid (((Y.alloc (.cells #[.string s] 9)).drew).cell? ⟨Y.heap.size, 0, none⟩ = some (.string s)) := by show (Y.alloc _).cell? _ = _; rw [World.cell?_alloc_at _ _ _ _ rfl]; rfl
              have HNEW : Hid (∀ (v' : Value) (w5 : World), w5.ownsRow ((Y.alloc (.cells #[.string s] 9)).drew).heap.size 9 1 v' (n + 1) (strsV (bd ++ [s])) → Below ((Y.alloc (.cells #[.string s] 9)).drew).heap.size ((Y.alloc (.cells #[.string s] 9)).drew) w5 →
                  ∃ g c', v' = .slice (some ⟨g, 0, none⟩) (n + 1) c' ∧ Below Y.heap.size Y w5 ∧ NL w5 (some ⟨g, 0, none⟩) (n + 1) c' (bd ++ [s]) ∧ n + 1 ≤ c' ∧ ∀ ad, (some ⟨g, 0, none⟩ : Option Addr) = some ad → vj.ownBlock ≠ some ad.block) := by
                show ∀ (v' : Value) (w5 : World), _
                intro v' w5 h1 h2
                rw [← hZ] at h1 h2
                obtain ⟨g, c', e1, e2, _, e5, e4⟩ := NL_ownF h1 (by rw [List.length_append, HNL.out]; rfl) (by omega) HBS.out (by omega)
                refine ⟨g, c', e1, HBZ.out.trans (h2.mono HBZ.out.size), e4, e5, fun ad ha e => ?_⟩
                injection ha with ha
                have h3 := (HIY.out.own.lt _ e).2
                have h4 := HBZ.out.size
                rw [← ha] at h3
                have h3 : g < Y.heap.size := h3
                omega
              clear hZ hBZ
              have hpn := HN.out.plain
              have hp0 := HN.out.nil
              rcases p with _ | ad
              · obtain rfl := hp0 rfl
                have hn0 : n = 0 := by
                  rcases Nat.eq_zero_or_pos n with h | h
                  · exact h
                  · obtain ⟨ad, e, _⟩ := HN.out.at_.reads.2 h
                    cases e
                subst hn0
                clear hpn hp0
                go_upto_region 8 with fail
                go_region_law (refine step_strF rfl _ _ rfl none 0 0 bd rfl HNZ.out Y.heap.size s rfl HSC.out (by omega) ?_; intro v' w5 h1 h2; obtain ⟨g, c', rfl, r1, r2, r4, r3⟩ := HNEW.out v' w5 h1 h2; have HNC5 := Lib.hid r4; have HB5 := Lib.hid r1; have HN5 := Lib.hid r2; have HE5 := Lib.hid r3; obtain ⟨q0, q1, q2, q3⟩ := HCY.out w5 r1; clear h1 h2 r1 r2 r3 r4)
                all_goals
                  go_wp2_with (go_at_call 39; refine (HCALL.out (some ⟨g, 0, none⟩) 1 c' (bd ++ [s]) w5 (Nat.le_refl _) (HBY.out.trans (HB5.out.mono HBY.out.size)) HN5.out HE5.out HNC5.out).mono ?_; intro e w6 hp5; obtain ⟨v', m', rfl, hI'⟩ := (HIY.out.later HB5.out).step hp5; have HI' := Lib.hid hI'; clear hp5 hI')
                  go_roundw
                  case rel =>
                    refine ⟨1 + 1, m ++ m', by omega, by go_num, ?_⟩
                    show FInv _ _ _ _ _ _ _ _
                    rw [HF4.out, ← HBSS.out]
                    exact HI'.out
                  case measure => simp [intOf]; omega
              · obtain ⟨b2, off, rfl, _⟩ := hpn ad rfl
                clear hpn hp0
                go_upto_region 8 with fail
                go_region_law (refine step_strF rfl _ _ rfl (some ⟨b2, off, none⟩) n c bd rfl HNZ.out Y.heap.size s rfl HSC.out (by omega) ?_; intro v' w5 h1 h2; obtain ⟨g, c', rfl, r1, r2, r4, r3⟩ := HNEW.out v' w5 h1 h2; have HNC5 := Lib.hid r4; have HB5 := Lib.hid r1; have HN5 := Lib.hid r2; have HE5 := Lib.hid r3; obtain ⟨q0, q1, q2, q3⟩ := HCY.out w5 r1; clear h1 h2 r1 r2 r3 r4)
                all_goals
                  go_wp2_with (go_at_call 39; refine (HCALL.out (some ⟨g, 0, none⟩) (n + 1) c' (bd ++ [s]) w5 (Nat.le_refl _) (HBY.out.trans (HB5.out.mono HBY.out.size)) HN5.out HE5.out HNC5.out).mono ?_; intro e w6 hp5; obtain ⟨v', m', rfl, hI'⟩ := (HIY.out.later HB5.out).step hp5; have HI' := Lib.hid hI'; clear hp5 hI')
                  go_roundw
                  case rel =>
                    refine ⟨1 + 1, m ++ m', by omega, by go_num, ?_⟩
                    show FInv _ _ _ _ _ _ _ _
                    rw [HF4.out, ← HBSS.out]
                    exact HI'.out
                  case measure => simp [intOf]; omega
            · have hj0 : j = 0 := by omega
              subst hj0
              clear hj1
              go_wp2_with (go_at_call 39; refine (HCALL.out p n c bd Y (Nat.le_succ _) HBY.out (HN2.out.below HBY.out) HNE2.out hnc).mono ?_; intro e w5 hp5; obtain ⟨v', m', rfl, hI'⟩ := HIY.out.step hp5; have HI' := Lib.hid hI'; clear hp5 hI')
              go_roundw
              case rel =>
                refine ⟨0 + 1, m ++ m', by omega, by go_num, ?_⟩
                show FInv _ _ _ _ _ _ _ _
                rw [HF2.out (by simp)]
                exact HI'.out
              case measure => simp [intOf]; omega
          · have e4 : (k == 4) = false := by rw [beq_eq_false_iff_ne]; exact h4
            have H4 := Lib.hid h4
            clear h4
            go_wp2_with (go_at_call 39; refine (HCALL.out p n c bd Y (Nat.le_succ _) HBY.out (HN2.out.below HBY.out) HNE2.out hnc).mono ?_; intro e w5 hp5; obtain ⟨v', m', rfl, hI'⟩ := HIY.out.step hp5; have HI' := Lib.hid hI'; clear hp5 hI')
            go_roundw
            case rel =>
              refine ⟨j + 1, m ++ m', by omega, by go_num, ?_⟩
              show FInv _ _ _ _ _ _ _ _
              rw [HF2.out (.inl H4.out)]
              exact HI'.out
            case measure => simp [intOf]; omega
        · obtain rfl : j = xs.length := by omega
          obtain ⟨k0, k1, k2, k3⟩ := HBX.out wr HI.out.grown
          have HFR : Hid (frs k s.data.toList (byt bd) (qabss xs) xs.length = qfree (qabs (.mk k s q pt ct xs)) (byt bd)) := by
            show _ = qfree (.mk k s.data.toList q (qabss xs)) (byt bd)
            have hno : qown k s.data.toList (byt bd) = [] := by unfold qown; rw [if_neg (fun h => H3.out h.1)]
            match xs, hx2 with
            | [], _ => rw [show qabss [] = [] from rfl, free0, hno]; rfl
            | [x], _ => rw [show qabss [x] = [qabs x] from rfl, free1, hno]; rfl
            | [x, y], _ => rw [show qabss [x, y] = [qabs x, qabs y] from rfl, free2, hno]; rfl
            | _ :: _ :: _ :: _, h => simp at h
          have HF := Lib.hid (HPOST.out _ vj m wr HI.out HFR.out)
          go_wp2_with fail
          go_ret
          exact HF.out
end Go.Proofs.YteefncohknclcaaGreatDoor
namespace Go.Proofs.YteefncohknclcaaGreatDoor
open Go.ChangeShapes Go.WideShapes Go.ChangeAt Go.RowKit
def formsN : String := "millwright/ask.forms"
def kindsN : String := "millwright/ask.kinds"
theorem formsG : Tryz.prog.globalNamed formsN = some 0 := by kernel_rfl
theorem formsTy : (Tryz.prog.globals[0]?).map (·.type) = some 129 := by kernel_rfl
theorem formsC : Tryz.prog.cellsOf 128 = 4 := by kernel_rfl
theorem formsMem : (formsN, (Rows.laid_millwright_ask_forms : DataW Unit)) ∈ laidL := by
  show _ ∈ [_, _, _, _, _, _, _]
  repeat (first | exact List.Mem.head _ | apply List.Mem.tail)
def formD (k : Nat) : DataW Unit := .agg [.lit (.int .i64 (qmany k : Int)), .lit (.bool (qnamed k)), .lit (.bool (qnumd k)), .lit (.string (qword k))]
theorem formsD : (Rows.laid_millwright_ask_forms : DataW Unit) = .agg ((List.range 16).map formD) := by rfl
/-- the table of the forms -/
def Forms (w : World) : Prop := ∀ k : Nat, k < 16 → w.cell? ⟨0, 4 * k, none⟩ = some (.int .i64 (qmany k : Int)) ∧ w.cell? ⟨0, 4 * k + 1, none⟩ = some (.bool (qnamed k)) ∧ w.cell? ⟨0, 4 * k + 2, none⟩ = some (.bool (qnumd k)) ∧ w.cell? ⟨0, 4 * k + 3, none⟩ = some (.string (qtx (qword k)))
set_option maxRecDepth 100000 in
theorem form_four {w : World} {sp : Nat → Bool} {held : Bool} {fuel k : Nat} {cs : List Value} {p : List MemPlace} (h : DataW.trod (fun _ => ()) Tryz.prog w 0 sp held fuel 128 cs = some (formD k, p)) :
    cs = [.int .i64 (qmany k : Int), .bool (qnamed k), .bool (qnumd k), .string (qtx (qword k))] := by
  have ht := Tryz.underlying128
  obtain ⟨xs, m, _, hxy, hlen, hxl, hff⟩ := DataW.trod_struct ht h
  rw [formsC] at hlen
  have s0 : Tryz.prog.cellsOf 3 = 1 := by kernel_rfl
  have s1 : Tryz.prog.cellsOf 4 = 1 := by kernel_rfl
  have s3 : Tryz.prog.cellsOf 9 = 1 := by kernel_rfl
  match cs, hlen, xs, hxl with
  | [v0, v1, v2, v3], _, [y0, y1, y2, y3], _ =>
    have g0 := hff 0 _ rfl
    have g1 := hff 1 _ rfl
    have g2 := hff 2 _ rfl
    have g3 := hff 3 _ rfl
    simp [s0, s1, s3] at g0 g1 g2 g3
    obtain ⟨z0, e0, x0, _⟩ := DataW.trod_int Tryz.underlying3 g0
    obtain ⟨z1, e1, x1⟩ := DataW.trod_bool Tryz.underlying4 g1
    obtain ⟨z2, e2, x2⟩ := DataW.trod_bool Tryz.underlying4 g2
    obtain ⟨z3, e3, x3, _⟩ := DataW.trod_string Tryz.underlying9 g3
    injection hxy with hd _
    unfold formD at hd
    rw [x0, x1, x2, x3] at hd
    simp only [List.map_cons, List.map_nil, DataW.agg.injEq, List.cons.injEq, DataW.lit.injEq, Lit.int.injEq, Lit.bool.injEq, Lit.string.injEq, true_and, and_true] at hd
    obtain ⟨h0, h1, h2, h3⟩ := hd
    injection e0 with e0 _
    injection e1 with e1 _
    injection e2 with e2 _
    injection e3 with e3 _
    rw [e0, e1, e2, e3, h0, h1, h2, h3, list_qtx]
set_option maxRecDepth 100000 in
theorem forms_of {w : World} (h : laidMetH Tryz.prog laidL w) : Forms w := by
  rw [MakeChecks.laidMetH_plain _ _ _ (by kernel_rfl)] at h
  obtain ⟨ps, hl, _⟩ := h
  obtain ⟨g, t, cs, fuel, p, h1, h2, h3, h4⟩ := laid_one hl _ formsMem
  obtain rfl := Option.some.inj (formsG.symm.trans h1)
  obtain rfl := Option.some.inj (formsTy.symm.trans h2)
  obtain ⟨xs, m, _, hx, hlen, hxl, hff⟩ := DataW.trod_array Tryz.underlying129 h4
  intro k hk
  injection hx with hx _
  have hx : (Rows.laid_millwright_ask_forms : DataW Unit) = .agg (xs.map (·.1)) := hx
  rw [formsD] at hx
  injection hx with hx
  have hxk := congrArg (fun l : List (DataW Unit) => l[k]?) hx
  simp only [List.getElem?_map, List.getElem?_range hk, Option.map_some] at hxk
  obtain ⟨x, hx1, hx2⟩ := Option.map_eq_some_iff.1 hxk.symm
  have hf := hff k hk
  rw [hx1, formsC] at hf
  obtain ⟨x1, x2⟩ := x
  have hx2 : x1 = formD k := hx2
  subst hx2
  have hc := form_four hf
  have hg : ∀ j v, ((cs.toList.drop (k * 4)).take 4)[j]? = some v → w.cell? ⟨0, 4 * k + j, none⟩ = some v := by
    intro j v hv
    rw [World.var?_cell formsG h3]
    rw [List.getElem?_take] at hv
    split at hv
    · rw [List.getElem?_drop] at hv
      rw [← hv, show 4 * k + j = k * 4 + j by omega]
      simp
    · cases hv
  rw [hc] at hg
  exact ⟨hg 0 _ rfl, hg 1 _ rfl, hg 2 _ rfl, hg 3 _ rfl⟩
theorem kindsG : Tryz.prog.globalNamed kindsN = some 1 := by kernel_rfl
theorem kindsTy : (Tryz.prog.globals[1]?).map (·.type) = some 144 := by kernel_rfl
theorem kindsC : Tryz.prog.cellsOf 9 = 1 := by kernel_rfl
theorem kindsMem : (kindsN, (Rows.laid_millwright_ask_kinds : DataW Unit)) ∈ laidL := by
  show _ ∈ [_, _, _, _, _, _, _]
  repeat (first | exact List.Mem.head _ | apply List.Mem.tail)
theorem kindsD : (Rows.laid_millwright_ask_kinds : DataW Unit) = .agg ((List.range 4).map fun k : Nat => .lit (.string (qkindw (k : Int)))) := by rfl
/-- the table of the words of kinds -/
def Kinds (w : World) : Prop := ∀ k : Nat, k < 4 → w.cell? ⟨1, k, none⟩ = some (.string (qtx (qkindw (k : Int))))
set_option maxRecDepth 100000 in
theorem kinds_of {w : World} (h : laidMetH Tryz.prog laidL w) : Kinds w := by
  rw [MakeChecks.laidMetH_plain _ _ _ (by kernel_rfl)] at h
  obtain ⟨ps, hl, _⟩ := h
  obtain ⟨g, t, cs, fuel, p, h1, h2, h3, h4⟩ := laid_one hl _ kindsMem
  obtain rfl := Option.some.inj (kindsG.symm.trans h1)
  obtain rfl := Option.some.inj (kindsTy.symm.trans h2)
  obtain ⟨xs, m, _, hx, hlen, hxl, hff⟩ := DataW.trod_array Tryz.underlying144 h4
  intro k hk
  injection hx with hx _
  have hx : (Rows.laid_millwright_ask_kinds : DataW Unit) = .agg (xs.map (·.1)) := hx
  rw [kindsD] at hx
  injection hx with hx
  have hxk := congrArg (fun l : List (DataW Unit) => l[k]?) hx
  simp only [List.getElem?_map, List.getElem?_range hk, Option.map_some] at hxk
  obtain ⟨x, hx1, hx2⟩ := Option.map_eq_some_iff.1 hxk.symm
  have hf := hff k hk
  rw [hx1, kindsC] at hf
  obtain ⟨x1, x2⟩ := x
  have hx2 : x1 = .lit (.string (qkindw (k : Int))) := hx2
  subst hx2
  obtain ⟨s, e, hs, _⟩ := DataW.trod_string Tryz.underlying9 hf
  injection hs with hs _
  injection hs with hs
  injection hs with hs
  rw [World.var?_cell kindsG h3]
  have hv : (cs.toList.drop (k * 1))[0]? = some (.string s) := by
    have := congrArg (fun l : List Value => l[0]?) e
    simpa using this
  rw [List.getElem?_drop] at hv
  rw [hs, list_qtx, ← hv]
  simp
theorem Forms.lt {w : World} (h : Forms w) : 0 < w.heap.size := by
  have := (h 0 (by omega)).1
  rcases Nat.lt_or_ge 0 w.heap.size with hlt | hge
  · exact hlt
  · unfold World.cell? at this
    simp [Array.getElem?_eq_none hge] at this
theorem Forms.below {w w' : World} (h : Forms w) (hb : Below w.heap.size w w') : Forms w' := by
  intro k hk
  have hlt := h.lt
  obtain ⟨h0, h1, h2, h3⟩ := h k hk
  exact ⟨(hb.cell hlt).trans h0, (hb.cell hlt).trans h1, (hb.cell hlt).trans h2, (hb.cell hlt).trans h3⟩
theorem Kinds.below {w w' : World} (h : Kinds w) (hb : Below w.heap.size w w') : Kinds w' := by
  intro k hk
  have hlt : 1 < w.heap.size := by
    have := h k hk
    rcases Nat.lt_or_ge 1 w.heap.size with hlt | hge
    · exact hlt
    · unfold World.cell? at this
      simp [Array.getElem?_eq_none hge] at this
  exact (hb.cell hlt).trans (h k hk)
end Go.Proofs.YteefncohknclcaaGreatDoor
namespace Go.Proofs.YteefncohknclcaaGreatDoor
open Go.RowKit Go.Shelf
def specB : ByteArray := ⟨#[42, 63, 91, 93, 33, 92]⟩
theorem enc_tail (r : Nat) (h : 128 ≤ r) : (∃ a b : UInt8, Utf8.encode (r : Int) = ⟨#[a, b]⟩ ∧ 128 ≤ b.toNat) ∨ (∃ a b c : UInt8, Utf8.encode (r : Int) = ⟨#[a, b, c]⟩ ∧ 128 ≤ c.toNat) ∨ (∃ a b c d : UInt8, Utf8.encode (r : Int) = ⟨#[a, b, c, d]⟩ ∧ 128 ≤ d.toNat) := by
  unfold Utf8.encode
  simp only
  generalize hc : (if Utf8.valid (r : Int) then (r : Int).toNat else Utf8.runeError) = c
  have hc1 : 128 ≤ c := by
    rw [← hc]
    split
    · simpa using h
    · decide
  rw [if_neg (by omega)]
  split
  · refine .inl ⟨_, _, rfl, ?_⟩
    rw [UInt8.toNat_ofNat']
    omega
  · split
    · refine .inr (.inl ⟨_, _, _, rfl, ?_⟩)
      rw [UInt8.toNat_ofNat']
      omega
    · refine .inr (.inr ⟨_, _, _, _, rfl, ?_⟩)
      rw [UInt8.toNat_ofNat']
      omega
theorem indexByte_none {l : List UInt8} {c : UInt8} (h : c ∉ l) : Lib.indexByte l c = -1 := by
  have := indexByte_ge l c
  have h2 : ¬ 0 ≤ Lib.indexByte l c := fun e => h (this.2.1 e)
  omega
theorem spec_ascii : ∀ i (h : i < specB.size), specB[i].toNat < 128 := by decide
theorem spec_tail (k : Nat) (c : UInt8) (hc : 128 ≤ c.toNat) : Lib.indexByte (specB.extract k specB.size).data.toList c = -1 := by
  rw [ba_drop]
  refine indexByte_none fun hm => ?_
  have hm2 := List.mem_of_mem_drop hm
  have : ∀ x ∈ specB.data.toList, x.toNat < 128 := by decide
  have := this c hm2
  omega
set_option maxHeartbeats 2000000 in
set_option maxRecDepth 1000000 in
theorem indexRune_far (r : Nat) (h1 : 128 ≤ r) (h2 : r ≤ 2147483647) (w : World) (hr : ¬ r = 65533) :
    Calls Tryz.prog 151 #[.string specB, .int .i32 r] w fun e w' => e = .returned (.int .i64 (-1)) ∧ Below w.heap.size w w' := by
  have hn : ¬ ((r : Int) < 128) := by omega
  have hn2 : ((r : Int) == 65533) = false := beq_eq_false_iff_ne.2 (by omega)
  have hsz : specB.size = 6 := rfl
  go_enter Tryz.func151, Tryz.ntmps151
  go_wp2_with fail
  refine (Tryz.utf8_ValidRune (r : Int) _).mono ?_
  cases hv : Lib.validRune (r : Int)
  all_goals rintro e w' ⟨rfl, rfl⟩
  · go_wp2
    go_ret
    exact ⟨rfl, Below.refl _ _⟩
  · rcases enc_tail r h1 with ⟨a, b, he, hb⟩ | ⟨a, b, c, he, hb⟩ | ⟨a, b, c, d, he, hb⟩
    · have hcv : ∀ u : World, (convert 21 9 (.int .i32 (r : Int))).run Tryz.prog u = .ok (.string ⟨#[a, b]⟩) u := fun u => by
        rw [run_convert_int_string u _ _ _ _ (by rw [Tryz.underlying21]; rfl) Tryz.underlying9, he]
      have hbne : (((specB[1]'(by decide)).toNat : Int) != (((⟨#[a, b]⟩ : ByteArray)[1]'(by show 1 < 2; decide)).toNat : Int)) = true := by
        show ((63 : Int) != (b.toNat : Int)) = true
        rw [bne_iff_ne]; omega
      have hie := spec_tail 2 b hb
      rw [hsz] at hie
      have hbk : ((((⟨#[a, b]⟩ : ByteArray)[1]'(by show 1 < 2; decide)).toNat : Int).toNat.toUInt8) = b := byte_back b
      clear he
      have hw2 : IntKind.i64.wrap 2 = 2 := by decide
      go_wp2
      go_step3
      go_wp2
      go_loop [9] (fun i => i = .int .i64 1) (fun _ => 0)
      case atStart => rfl
      case round =>
        subst hrel
        go_wp2
        go_step3
        go_wp2
        go_quiet (fail)
        go_wp2
        go_quiet ((go_at_call 152; refine (Tryz.strings_IndexByte _ _ _).mono ?_; rintro e w'' ⟨he, hw⟩; rw [hbk, hie] at he; exact ⟨he, _, hw⟩))
        go_wp2
        simp +zetaDelta only [Exit.noGoto_ret, Exit.inBlock, Exit.then]
        go_ret
        exact ⟨rfl, ⟨rfl, rfl, rfl, Nat.le_refl _, fun _ _ => rfl⟩⟩
    · have hcv : ∀ u : World, (convert 21 9 (.int .i32 (r : Int))).run Tryz.prog u = .ok (.string ⟨#[a, b, c]⟩) u := fun u => by
        rw [run_convert_int_string u _ _ _ _ (by rw [Tryz.underlying21]; rfl) Tryz.underlying9, he]
      have hbne : (((specB[2]'(by decide)).toNat : Int) != (((⟨#[a, b, c]⟩ : ByteArray)[2]'(by show 2 < 3; decide)).toNat : Int)) = true := by
        show ((91 : Int) != (c.toNat : Int)) = true
        rw [bne_iff_ne]; omega
      have hie := spec_tail 3 c hb
      rw [hsz] at hie
      have hbk : ((((⟨#[a, b, c]⟩ : ByteArray)[2]'(by show 2 < 3; decide)).toNat : Int).toNat.toUInt8) = c := byte_back c
      clear he
      have hw2 : IntKind.i64.wrap 3 = 3 := by decide
      go_wp2
      go_step3
      go_wp2
      go_loop [9] (fun i => i = .int .i64 2) (fun _ => 0)
      case atStart => rfl
      case round =>
        subst hrel
        go_wp2
        go_step3
        go_wp2
        go_quiet (fail)
        go_wp2
        go_quiet ((go_at_call 152; refine (Tryz.strings_IndexByte _ _ _).mono ?_; rintro e w'' ⟨he, hw⟩; rw [hbk, hie] at he; exact ⟨he, _, hw⟩))
        go_wp2
        simp +zetaDelta only [Exit.noGoto_ret, Exit.inBlock, Exit.then]
        go_ret
        exact ⟨rfl, ⟨rfl, rfl, rfl, Nat.le_refl _, fun _ _ => rfl⟩⟩
    · have hcv : ∀ u : World, (convert 21 9 (.int .i32 (r : Int))).run Tryz.prog u = .ok (.string ⟨#[a, b, c, d]⟩) u := fun u => by
        rw [run_convert_int_string u _ _ _ _ (by rw [Tryz.underlying21]; rfl) Tryz.underlying9, he]
      have hbne : (((specB[3]'(by decide)).toNat : Int) != (((⟨#[a, b, c, d]⟩ : ByteArray)[3]'(by show 3 < 4; decide)).toNat : Int)) = true := by
        show ((93 : Int) != (d.toNat : Int)) = true
        rw [bne_iff_ne]; omega
      have hie := spec_tail 4 d hb
      rw [hsz] at hie
      have hbk : ((((⟨#[a, b, c, d]⟩ : ByteArray)[3]'(by show 3 < 4; decide)).toNat : Int).toNat.toUInt8) = d := byte_back d
      clear he
      have hw2 : IntKind.i64.wrap 4 = 4 := by decide
      go_wp2
      go_step3
      go_wp2
      go_loop [9] (fun i => i = .int .i64 3) (fun _ => 0)
      case atStart => rfl
      case round =>
        subst hrel
        go_wp2
        go_step3
        go_wp2
        go_quiet (fail)
        go_wp2
        go_quiet ((go_at_call 152; refine (Tryz.strings_IndexByte _ _ _).mono ?_; rintro e w'' ⟨he, hw⟩; rw [hbk, hie] at he; exact ⟨he, _, hw⟩))
        go_wp2
        simp +zetaDelta only [Exit.noGoto_ret, Exit.inBlock, Exit.then]
        go_ret
        exact ⟨rfl, ⟨rfl, rfl, rfl, Nat.le_refl _, fun _ _ => rfl⟩⟩
set_option maxHeartbeats 1000000 in
set_option maxRecDepth 1000000 in
theorem indexRune_bad (w : World) : Calls Tryz.prog 151 #[.string specB, .int .i32 65533] w fun e w' => e = .returned (.int .i64 (-1)) ∧ Below w.heap.size w w' := by
  obtain ⟨s, hs⟩ : ∃ s : ByteArray, s = specB := ⟨_, rfl⟩
  have HA : Hid (∀ i (h : i < s.size), s[i].toNat < 128) := by
    show ∀ i (h : i < s.size), _
    intro i h
    subst hs
    exact spec_ascii i h
  rw [← hs]
  clear hs
  go_enter Tryz.func151, Tryz.ntmps151
  go_wp2_with fail
  go_loopg [5, 6] s.size (fun g _ _ wx => ∃ i : Nat, i + g = s.size ∧ wx = w.iter s i)
  case atStart => exact ⟨0, by omega, rfl⟩
  case round =>
    obtain ⟨i, hig, rfl⟩ := hrel
    cases gk with
    | zero =>
      obtain rfl : i = s.size := by omega
      have hnx := run_next_end (P := Tryz.prog) w s s.size
      go_wp2
      go_ret
      exact ⟨rfl, (Below.refl _ _).alloc (Nat.le_refl _) _⟩
    | succ g =>
      have hi : i < s.size := by omega
      have hx128 := HA.out i hi
      have hnx := fun ty => run_next_ascii (P := Tryz.prog) w s i ty hi hx128
      have hne : (((s[i].toNat : Nat) : Int) == 65533) = false := beq_eq_false_iff_ne.2 (by omega)
      go_wp2
      go_roundg g
      case measure => omega
      case rel => exact ⟨i + 1, by omega, rfl⟩
/-- is a rune one of the signs of a pattern? -/
def specR (r : Nat) : Bool := r == 42 || r == 63 || r == 91 || r == 93 || r == 33 || r == 92
theorem specR_ascii : ∀ r : Fin 128, decide (0 ≤ Lib.indexByte specB.data.toList (r.1 : Int).toNat.toUInt8) = specR r.1 := by decide +kernel
theorem specR_far {r : Nat} (h : 128 ≤ r) : specR r = false := by
  unfold specR
  simp only [Bool.or_eq_false_iff, beq_eq_false_iff_ne]
  omega
set_option maxHeartbeats 1000000 in
theorem containsR_ok (r : Nat) (h2 : r ≤ 1114111) (w : World) : Calls Tryz.prog 123 #[.string specB, .int .i32 r] w fun e w' => e = .returned (.bool (specR r)) ∧ Below w.heap.size w w' := by
  rcases Nat.lt_or_ge r 128 with h | h
  · refine (Tryz.strings_ContainsRune_ascii specB (r : Int) w (by omega) (by omega)).mono ?_
    rintro e w' ⟨rfl, rfl⟩
    have := specR_ascii ⟨r, h⟩
    simp only at this
    exact ⟨by rw [this], Below.refl _ _⟩
  · have hs := specR_far h
    have hf : Calls Tryz.prog 151 #[.string specB, .int .i32 r] w fun e w' => e = .returned (.int .i64 (-1)) ∧ Below w.heap.size w w' := by
      by_cases h3 : r = 65533
      · subst h3; exact indexRune_bad w
      · exact indexRune_far r h (by omega) w h3
    have HF := Lib.hid hf
    clear hf h2 h
    go_enter Tryz.func123, Tryz.ntmps123
    go_wp2_with (go_at_call 151; refine HF.out.mono ?_; rintro e w1 ⟨rfl, hb⟩; have HB := Lib.hid hb; clear hb)
    go_ret
    exact ⟨by rw [hs]; rfl, HB.out⟩
/-- a rune of a pattern, as one of a name -/
def plainR (c : Int) : Int := if specR c.toNat then 97 else c
set_option maxHeartbeats 1000000 in
theorem mapR_ok (r : Nat) (h2 : r ≤ 1114111) (w : World) : Calls Tryz.prog 122 #[.int .i32 r] w fun e w' => e = .returned (.int .i32 (plainR r)) ∧ Below w.heap.size w w' := by
  have HC := Lib.hid (fun u => containsR_ok r h2 u)
  have hp : plainR (r : Int) = if specR r then 97 else (r : Int) := rfl
  cases hs : specR r
  · rw [hs] at hp
    have HP : Hid (plainR (r : Int) = (r : Int)) := hp
    have HS := Lib.hid hs
    clear hp hs
    go_enter Tryz.func122, Tryz.ntmps122
    go_wp2_with (go_at_call 123; refine (HC.out _).mono ?_; rw [HS.out]; rintro e w1 ⟨rfl, hb⟩; have HB := Lib.hid hb; clear hb)
    go_ret
    exact ⟨by rw [HP.out]; rfl, HB.out⟩
  · rw [hs] at hp
    have HP : Hid (plainR (r : Int) = 97) := hp
    have HS := Lib.hid hs
    clear hp hs
    go_enter Tryz.func122, Tryz.ntmps122
    go_wp2_with (go_at_call 123; refine (HC.out _).mono ?_; rw [HS.out]; rintro e w1 ⟨rfl, hb⟩; have HB := Lib.hid hb; clear hb)
    go_ret
    exact ⟨by rw [HP.out]; rfl, HB.out⟩
theorem sign_low {c : UInt8} (h : signC c = true ∨ starC c = true) : c.toNat < 128 := by
  have key : ∀ n : Fin 256, (signC (UInt8.ofNat n.1) = true ∨ starC (UInt8.ofNat n.1) = true) → n.1 < 128 := by decide +kernel
  have h2 : UInt8.ofNat c.toNat = c := by simp
  have := key ⟨c.toNat, c.toNat_lt⟩
  rw [h2] at this
  exact this h
theorem star_spec (c : UInt8) : starC c = specR c.toNat := by
  have key : ∀ n : Fin 256, starC (UInt8.ofNat n.1) = specR n.1 := by decide +kernel
  have h2 : UInt8.ofNat c.toNat = c := by simp
  have := key ⟨c.toNat, c.toNat_lt⟩
  rwa [h2] at this
theorem decode_far {c : UInt8} {t : List UInt8} (h : 128 ≤ c.toNat) : 128 ≤ (Lib.decodeL (c :: t)).1 := by
  rw [Lib.decodeL_N]
  have e : ((c :: t).getD 0 0).toNat = c.toNat := rfl
  rw [e]
  generalize ((c :: t).getD 1 0).toNat = b1
  generalize ((c :: t).getD 2 0).toNat = b2
  generalize ((c :: t).getD 3 0).toNat = b3
  generalize (c :: t).length = n
  unfold Lib.decodeN
  rw [if_neg (by omega)]
  (repeat' split) <;> simp <;> omega
theorem encode_far {r : Int} (h : 128 ≤ r) : ∃ a l, Lib.encodeRune r = a :: l ∧ 128 ≤ a.toNat := by
  have hb : ∀ z : Int, 128 ≤ z → z < 256 → 128 ≤ (z.toNat.toUInt8).toNat := by
    intro z h1 h2
    have : (z.toNat.toUInt8).toNat = z.toNat % 256 := UInt8.toNat_ofNat'
    omega
  unfold Lib.encodeRune Lib.encodeRuneZ
  rw [if_neg (by omega)]
  split
  · exact ⟨_, _, rfl, hb _ (by omega) (by omega)⟩
  split
  · exact ⟨_, _, rfl, hb _ (by omega) (by omega)⟩
  split
  · exact ⟨_, _, rfl, hb _ (by omega) (by omega)⟩
  · exact ⟨_, _, rfl, hb _ (by omega) (by omega)⟩
theorem plain_nonneg (x : Nat) : 0 ≤ plainR (x : Int) := by unfold plainR; split <;> omega
theorem map_all : ∀ (n : Nat) (l : List UInt8), l.length ≤ n → (Lib.mapD plainR l).all signC = l.all (fun c => signC c || starC c) := by
  intro n
  induction n with
  | zero =>
    intro l h
    obtain rfl := List.length_eq_zero_iff.1 (Nat.le_zero.1 h)
    rfl
  | succ n ih =>
    intro l h
    cases l with
    | nil => rfl
    | cons c t =>
      rw [Lib.mapD_step plainR (c :: t) (by simp)]
      rw [if_pos (plain_nonneg _)]
      rcases Nat.lt_or_ge c.toNat 128 with hc | hc
      · rw [Lib.decodeL_ascii c t hc]
        show (Lib.encodeRune (plainR (c.toNat : Int)) ++ Lib.mapD plainR t).all signC = _
        rw [List.all_append, ih t (by simpa using h), List.all_cons]
        congr 1
        have hs := star_spec c
        unfold plainR
        rw [show ((c.toNat : Int)).toNat = c.toNat from rfl]
        cases hp : specR c.toNat
        · rw [hp] at hs
          rw [hs, Bool.or_false]
          show (Lib.encodeRune (c.toNat : Int)).all signC = _
          unfold Lib.encodeRune
          rw [Lib.encodeRuneZ_one (by omega) (by omega)]
          show (signC ((c.toNat : Int).toNat.toUInt8) && true) = _
          rw [byte_back, Bool.and_true]
        · rw [hp] at hs
          rw [hs, Bool.or_true]
          rfl
      · have hns : signC c = false ∧ starC c = false := by
          constructor
          · cases hh : signC c
            · rfl
            · have := sign_low (.inl hh); omega
          · cases hh : starC c
            · rfl
            · have := sign_low (.inr hh); omega
        rw [List.all_cons, hns.1, hns.2]
        have hd := decode_far (t := t) hc
        have hsp := specR_far hd
        have hpl : plainR ((Lib.decodeL (c :: t)).1 : Int) = ((Lib.decodeL (c :: t)).1 : Int) := by
          unfold plainR
          rw [show (((Lib.decodeL (c :: t)).1 : Nat) : Int).toNat = (Lib.decodeL (c :: t)).1 from rfl, hsp]
          rfl
        rw [hpl]
        obtain ⟨a, l, he, ha⟩ := encode_far (r := ((Lib.decodeL (c :: t)).1 : Int)) (by omega)
        rw [he, List.cons_append, List.all_cons]
        have : signC a = false := by
          cases hh : signC a
          · rfl
          · have := sign_low (.inl hh); omega
        rw [this]
        rfl
def strLen : Value → Nat
  | .string x => x.size
  | _ => 0
/-- the tables that the walks of asks read -/
structure AskTabs (w : World) : Prop where
  forms : Forms w
  utf : Lib.Utf8Tabs 3 4 w
theorem Utf.below {g3 g4 : Nat} {w w' : World} (h : Lib.Utf8Tabs g3 g4 w) (hb : Below w.heap.size w w') : Lib.Utf8Tabs g3 g4 w' := by
  have lt : ∀ {g o : Nat} {v : Value}, w.cell? ⟨g, o, none⟩ = some v → g < w.heap.size := by
    intro g o v hv
    rcases Nat.lt_or_ge g w.heap.size with hlt | hge
    · exact hlt
    · unfold World.cell? at hv
      simp [Array.getElem?_eq_none hge] at hv
  refine ⟨fun c hc => ?_, fun i hi => ?_⟩
  · have := h.1 c hc
    exact (hb.cell (lt this)).trans this
  · obtain ⟨h1, h2⟩ := h.2 i hi
    exact ⟨(hb.cell (lt h1)).trans h1, (hb.cell (lt h2)).trans h2⟩
theorem AskTabs.below {w w' : World} (h : AskTabs w) (hb : Below w.heap.size w w') : AskTabs w' := ⟨h.forms.below hb, Utf.below h.utf hb⟩
set_option maxHeartbeats 4000000 in
set_option maxRecDepth 100000 in
theorem pattern_ok (s : ByteArray) (hs : s.size ≤ 1048576) (w : World) (hT : AskTabs w) : Calls Tryz.prog 82 #[.string s] w fun e w' => e = .returned (.bool (qpat s.data.toList)) ∧ Below w.heap.size w w' := by
  have hmap := Tryz.strings_Map_grows 122 #[] (enters_of Tryz.func122 (by kernel_rfl) rfl) plainR s w (by omega) (fun W x hx _ => mapR_ok x hx W) (fun x hx => by have := plain_nonneg x; unfold plainR at this ⊢; split <;> omega) hT.utf
  have hall := map_all _ s.data.toList (Nat.le_refl _)
  obtain ⟨m, hm⟩ : ∃ m : ByteArray, (⟨(Lib.mapD plainR s.data.toList).toArray⟩ : ByteArray) = m := ⟨_, rfl⟩
  have hml : m.data.toList = Lib.mapD plainR s.data.toList := by rw [← hm]
  rw [hm] at hmap
  rw [← hml] at hall
  have HM := Lib.hid hmap
  have HALL := Lib.hid hall
  have HG := Lib.hid (fun u => CheckG_ok s (by omega) u)
  have HQ : Hid (qpat s.data.toList = (s.data.toList.all (fun c => signC c || starC c) && decide (pE s.data.toList = 0))) := rfl
  clear hmap hall hm hml hT
  go_enter Tryz.func82, Tryz.ntmps82
  go_wp2_with (go_at_call 121; refine HM.out.mono ?_; rintro e w1 ⟨rfl, hb1⟩; have HB1 := Lib.hid hb1; clear hb1)
  go_loop [3] (fun pv => ∃ (x : ByteArray) (k : Nat), pv = .string x ∧ Hid (x.data.toList = m.data.toList.drop k) ∧ Hid ((m.data.toList.take k).all signC = true)) (fun pv => strLen pv)
  case atStart => exact ⟨m, 0, rfl, rfl, rfl⟩
  case round =>
    obtain ⟨x, k, rfl, HX, HA⟩ := hrel
    have hxl := ba_len x
    by_cases hx0 : x.size = 0
    · have he : x = ⟨#[]⟩ := empty_eq hx0
      subst he
      have hAll : m.data.toList.all signC = true := by
        have h1 := HX.out
        have h2 := HA.out
        have h3 : m.data.toList = m.data.toList.take k := by
          have := List.take_append_drop k m.data.toList
          rw [← h1] at this
          simpa using this.symm
        rw [h3]; exact h2
      have HV : Hid (qpat s.data.toList = decide (pE s.data.toList = 0)) := by
        show _ = _
        rw [HQ.out, ← HALL.out, hAll, Bool.true_and]
      obtain ⟨E, hE⟩ : ∃ E, pE s.data.toList = E := ⟨_, rfl⟩
      rw [hE] at HV HG
      clear hAll hE hxl hx0
      by_cases h0 : E = 0
      · subst h0
        go_wp2_with (go_at_call 124; refine (HG.out _).mono ?_; rintro e w2 ⟨rfl, hb2⟩; have HB2 := Lib.hid (HB1.out.trans (hb2.mono HB1.out.size)); clear hb2)
        go_ret
        exact ⟨by rw [HV.out]; rfl, HB2.out⟩
      · obtain ⟨i1, i2⟩ := int_ne' h0
        have HD : Hid (decide (E = 0) = false) := decide_eq_false h0
        clear h0
        go_wp2_with (go_at_call 124; refine (HG.out _).mono ?_; rintro e w2 ⟨rfl, hb2⟩; have HB2 := Lib.hid (HB1.out.trans (hb2.mono HB1.out.size)); clear hb2)
        go_ret
        exact ⟨by rw [HV.out, HD.out]; rfl, HB2.out⟩
    · have hxe : x.toList.isEmpty = false := by
        rw [Lib.toList_data]
        cases hl : x.data.toList with
        | nil => rw [hl] at hxl; exact absurd hxl.symm hx0
        | cons a l => rfl
      obtain ⟨n, hn⟩ : ∃ n, n = min x.size 40 := ⟨_, rfl⟩
      have hn1 : n ≤ x.size := by omega
      have hn2 : n ≤ 40 := by omega
      have hn3 : 0 < n := by omega
      have hmin : min (x.size : Int) 40 = (n : Int) := by omega
      have hsz : (x.extract 0 n).size = n := by rw [ByteArray.size_extract]; omega
      have hdl : (x.extract 0 n).data.toList = x.data.toList.take n := Lib.extract_from_zero x n
      have hcheck := fun u => CheckN_ok (x.extract 0 n) (by omega) u
      have hnE : nameE (x.extract 0 n) = if (x.data.toList.take n).all signC then 0 else 3 := by
        unfold nameE
        rw [if_neg (by omega), hdl]
      have hnext : m.data.toList.take (k + n) = m.data.toList.take k ++ x.data.toList.take n := by rw [HX.out, List.take_add]
      cases hal : (x.data.toList.take n).all signC
      · rw [hal] at hnE
        have HNE : Hid (nameE (x.extract 0 n) = 3) := hnE
        have HC := Lib.hid hcheck
        have HV : Hid (qpat s.data.toList = false) := by
          show _ = _
          rw [HQ.out, ← HALL.out]
          have : m.data.toList.all signC = false := by
            have h2 := List.take_append_drop (k + n) m.data.toList
            rw [← h2, List.all_append, hnext, List.all_append, hal]
            simp
          rw [this, Bool.false_and]
        clear hal hnE hcheck hnext hsz hdl hn hxl hx0
        go_wp2_with (go_at_call 83; refine (HC.out _).mono ?_; rw [HNE.out]; rintro e w2 ⟨rfl, rfl⟩)
        go_ret
        exact ⟨by rw [HV.out]; rfl, HB1.out⟩
      · rw [hal] at hnE
        have HNE : Hid (nameE (x.extract 0 n) = 0) := hnE
        have HC := Lib.hid hcheck
        have HA2 : Hid ((m.data.toList.take (k + n)).all signC = true) := by
          show _ = _
          rw [hnext, List.all_append, HA.out, hal]; rfl
        have HX2 : Hid ((x.extract n x.size).data.toList = m.data.toList.drop (k + n)) := by
          show _ = _
          rw [ba_drop, HX.out, List.drop_drop]
        have HSZ : Hid ((x.extract n x.size).size < x.size) := by
          show _ < _
          rw [ByteArray.size_extract]; omega
        clear hal hnE hcheck hnext hsz hdl hn hxl hx0
        go_wp2_with (go_at_call 83; refine (HC.out _).mono ?_; rw [HNE.out]; rintro e w2 ⟨rfl, rfl⟩)
        go_round
        case rel => exact ⟨_, k + n, rfl, HX2.out, HA2.out⟩
        case measure => exact HSZ.out
end Go.Proofs.YteefncohknclcaaGreatDoor
namespace Go.Proofs.YteefncohknclcaaGreatDoor
open Go.RowKit
theorem isEmpty_of {s : ByteArray} (h : s.data.toList = []) : s.toList.isEmpty = true := by rw [Lib.toList_data, h]; rfl
theorem isEmpty_no {s : ByteArray} (h : s.data.toList ≠ []) : s.toList.isEmpty = false := by
  rw [Lib.toList_data]
  cases hl : s.data.toList with
  | nil => exact absurd hl h
  | cons a l => rfl
/-- the error of the first k of a list -/
theorem qchks_take {l : List QT} {k : Nat} {x : QT} (h : l[k]? = some x) (h0 : ∀ i y, i < k → l[i]? = some y → qchk qpat (qabs y) = 0) (hx : qchk qpat (qabs x) ≠ 0) : qchks qpat (qabss l) = qchk qpat (qabs x) := by
  induction l generalizing k with
  | nil => simp at h
  | cons y l ih =>
    show qchks qpat (qabs y :: qabss l) = _
    unfold qchks
    cases k with
    | zero =>
      simp only [List.getElem?_cons_zero, Option.some.injEq] at h
      subst h
      rw [if_pos hx]
    | succ k =>
      rw [if_neg (by simpa using h0 0 y (by omega) rfl)]
      exact ih (by simpa using h) fun i z hi hz => h0 (i + 1) z (by omega) (by simpa using hz)
theorem qchks_all {l : List QT} (h : ∀ (i : Nat) y, l[i]? = some y → qchk qpat (qabs y) = 0) : qchks qpat (qabss l) = 0 := by
  rw [qchks_zero, qabss_map]
  intro x hx
  obtain ⟨y, hy, rfl⟩ := List.mem_map.1 hx
  obtain ⟨i, hi, e⟩ := List.getElem_of_mem hy
  exact h i y (by rw [List.getElem?_eq_getElem hi, e])
/-- an ask by its parts -/
theorem qchk_parts {k : Int} {s : ByteArray} {n : Int} {p : Option Addr} {c : Nat} {xs : List QT} : qchk qpat (qabs (.mk k s n p c xs)) = if qnodeE qpat k s.data.toList n xs.length ≠ 0 then qnodeE qpat k s.data.toList n xs.length else qchks qpat (qabss xs) := by
  show qchk qpat (.mk k s.data.toList n (qabss xs)) = _
  rw [qchk, qabss_len]
def CheckPost (t : QT) (w : World) (e : Ending) (w' : World) : Prop := e = .returned (.int .i64 (qchk qpat (qabs t))) ∧ Below w.heap.size w w'
set_option maxHeartbeats 8000000 in
set_option maxRecDepth 100000 in
theorem check_ok : ∀ (t : QT) (w : World), QIn w t → AskTabs w → Calls Tryz.prog 54 #[t.v] w (CheckPost t w) := by
  intro t
  induction t using QT.ind with
  | h k s n p c xs ih =>
    intro w hq hT
    have IH := Lib.hid ih
    have HK : Hid (QsIn w p 0 xs) := hq.kids
    have hsm := hq.small.2
    have hss : s.size ≤ 1048576 := hq.small.1
    have hxl : xs.length ≤ 1048576 := hsm.2
    have HCN := Lib.hid (@qchk_parts k s n p c xs)
    clear ih hq hsm
    obtain ⟨W, hW, hBW, hS, hC⟩ := arg1 w (.int .i64 k) (.string s) (.int .i64 n) (.slice p xs.length c)
    have HC := Lib.hid hC
    have HBW := Lib.hid hBW
    have HT := Lib.hid hT
    have hBA : ∀ o, Below W.heap.size W (W.alloc o) := fun o => (Below.refl _ _).alloc (Nat.le_refl _) o
    have hBA2 : ∀ o, Below w.heap.size w (W.alloc o) := fun o => hBW.trans ((hBA o).mono hBW.size)
    have HFIN : Hid (∀ (E : Int), qnodeE qpat k s.data.toList n xs.length = E → E ≠ 0 → ∀ u, Below w.heap.size w u → CheckPost (.mk k s n p c xs) w (.returned (.int .i64 E)) u) := by
      show ∀ _, _
      intro E h1 h2 u hu
      refine ⟨?_, hu⟩
      rw [HCN.out, h1, if_pos h2]
    obtain ⟨k0, k1, k2, k3⟩ := HC.out W (Below.refl _ _)
    rw [hW] at k0 k1 k2 k3
    show Calls Tryz.prog 54 #[.agg #[.int .i64 k, .string s, .int .i64 n, .slice p xs.length c]] w _
    clear hBW hS hC hT
    go_enter Tryz.func54, Tryz.ntmps54
    go_upto_region 1 with fail
    rw [← hW] at k0 k1 k2 k3 ⊢
    clear hW
    by_cases g1 : k < 1
    · have HE : Hid (qnodeE qpat k s.data.toList n xs.length = 1) := by show _ = _; unfold qnodeE; rw [if_pos (.inl g1)]
      go_wp2
      go_ret
      exact HFIN.out 1 HE.out (by decide) W HBW.out
    by_cases g2 : 15 < k
    · have HE : Hid (qnodeE qpat k s.data.toList n xs.length = 1) := by show _ = _; unfold qnodeE; rw [if_pos (.inr g2)]
      go_wp2
      go_ret
      exact HFIN.out 1 HE.out (by decide) W HBW.out
    obtain ⟨j, rfl⟩ := Int.eq_ofNat_of_zero_le (show 0 ≤ k by omega)
    have hj : j < 16 := by omega
    obtain ⟨f0, f1, f2, f3⟩ := (HT.out.forms.below HBW.out) j hj
    rw [show 4 * j = j * 4 by omega] at f0 f1 f2 f3
    have hn0 : ¬ ((j : Int) < 1 ∨ 15 < (j : Int)) := by omega
    have HND : Hid (qnodeE qpat j s.data.toList n xs.length = if xs.length ≠ qmany j ∨ (qnamed j = false ∧ s.data.toList ≠ []) ∨ (qnumd j = false ∧ n ≠ 0) then 1
        else if (j : Int) = 14 then (if qpat s.data.toList then 0 else 3)
        else if qnamed j then (if nokL s.data.toList = true ∧ ¬ ((j : Int) = 1 ∧ s.data.toList = [108, 101, 116]) then 0 else 3)
        else if (j : Int) = 15 then (if n < 1 ∨ 3 < n then 4 else 0) else if n < 0 ∨ 100 < n then 4 else 0) := by
      show _ = _
      unfold qnodeE
      rw [if_neg hn0]
    have HPAT := Lib.hid (fun (u : World) (hu : Below w.heap.size w u) => pattern_ok s hss u (HT.out.below hu))
    have HNAME := Lib.hid (fun (u : World) => CheckN_ok s (by omega) u)
    have hj1 : 1 ≤ j := by omega
    have hj2 : j ≤ 15 := by omega
    generalize qword (j : Int) = wd at f3
    clear hn0 hj
    obtain ⟨mn, hmn⟩ : ∃ mn, qmany j = mn := ⟨_, rfl⟩
    obtain ⟨nb, hnb⟩ : ∃ nb, qnamed j = nb := ⟨_, rfl⟩
    obtain ⟨ub, hub⟩ : ∃ ub, qnumd j = ub := ⟨_, rfl⟩
    rw [hmn] at f0 HND
    rw [hnb] at f1 HND
    rw [hub] at f2 HND
    have HNB := Lib.hid hnb
    have HUB := Lib.hid hub
    have HMN := Lib.hid hmn
    clear hmn hnb hub
    go_upto_region 4 with fail
    obtain ⟨V, hV⟩ : ∃ V : World, V = W.alloc (.cells #[.int .i64 (mn : Int), .bool nb, .bool ub, .string (qtx wd)] 128) := ⟨_, rfl⟩
    have hBV : Below W.heap.size W V := by rw [hV]; exact (Below.refl _ _).alloc (Nat.le_refl _) _
    have HBV := Lib.hid (HBW.out.trans (hBV.mono HBW.out.size))
    have q0 : V.cell? ⟨W.heap.size, 0, none⟩ = some (.int .i64 (mn : Int)) := by rw [hV, World.cell?_alloc_at _ _ _ _ rfl]; rfl
    have q1 : V.cell? ⟨W.heap.size, 1, none⟩ = some (.bool nb) := by rw [hV, World.cell?_alloc_at _ _ _ _ rfl]; rfl
    have q2 : V.cell? ⟨W.heap.size, 2, none⟩ = some (.bool ub) := by rw [hV, World.cell?_alloc_at _ _ _ _ rfl]; rfl
    have hlt : W.heap.size < V.heap.size := by rw [hV]; simp
    have HQ : Hid (∀ u, Below V.heap.size V u → u.cell? ⟨W.heap.size, 1, none⟩ = some (.bool nb) ∧ u.cell? ⟨W.heap.size, 2, none⟩ = some (.bool ub)) := by
      show ∀ u, _
      exact fun u hu => ⟨(hu.cell hlt).trans q1, (hu.cell hlt).trans q2⟩
    have HCV : Hid (∀ u, Below V.heap.size V u → u.cell? ⟨w.heap.size, 0, none⟩ = some (.int .i64 (j : Int)) ∧ u.cell? ⟨w.heap.size, 1, none⟩ = some (.string s) ∧ u.cell? ⟨w.heap.size, 2, none⟩ = some (.int .i64 n) ∧ u.cell? ⟨w.heap.size, 3, none⟩ = some (.slice p xs.length c)) := by
      show ∀ u, _
      exact fun u hu => HC.out u (hBV.trans (hu.mono hBV.size))
    obtain ⟨v0, v1, v2, v3⟩ := HCV.out V (Below.refl _ _)
    rw [← hV]
    clear hV hBV hlt k0 k1 k2 k3 f0 f1 f2 f3 hBA hBA2
    by_cases g3 : xs.length = mn
    · have e1 : ((xs.length : Int) == (mn : Int)) = true := by rw [beq_iff_eq]; omega
      have e2 : ((xs.length : Int) != (mn : Int)) = false := by simp [bne, e1]
      by_cases g4 : nb = false ∧ s.data.toList ≠ []
      · obtain ⟨rfl, g4⟩ := g4
        have HE : Hid (qnodeE qpat j s.data.toList n xs.length = 1) := by show _ = _; rw [HND.out, if_pos (.inr (.inl ⟨rfl, g4⟩))]
        have g5 := isEmpty_no g4
        clear g4
        go_wp2
        go_ret
        exact HFIN.out 1 HE.out (by decide) V HBV.out
      by_cases g5 : ub = false ∧ n ≠ 0
      · obtain ⟨rfl, g5⟩ := g5
        have HE : Hid (qnodeE qpat j s.data.toList n xs.length = 1) := by show _ = _; rw [HND.out, if_pos (.inr (.inr ⟨rfl, g5⟩))]
        obtain ⟨i1, i2⟩ := int_ne' g5
        cases nb with
        | false =>
          have g4' := isEmpty_of (Classical.not_not.1 (fun h => g4 ⟨rfl, h⟩))
          clear g4 g5
          go_wp2
          go_ret
          exact HFIN.out 1 HE.out (by decide) V HBV.out
        | true =>
          clear g4 g5
          go_wp2
          go_ret
          exact HFIN.out 1 HE.out (by decide) V HBV.out
      have hpre : ¬ (xs.length ≠ mn ∨ (nb = false ∧ s.data.toList ≠ []) ∨ (ub = false ∧ n ≠ 0)) := by
        rintro (h | h | h)
        · exact h g3
        · exact g4 h
        · exact g5 h
      rw [if_neg hpre] at HND
      have HOK : Hid (qnodeE qpat j s.data.toList n xs.length = 0 → qchk qpat (qabs (.mk j s n p c xs)) = qchks qpat (qabss xs)) := by
        show _ → _
        intro h
        rw [HCN.out, h, if_neg (by decide)]
      have hnu : nb = true → ub = false ∧ n = 0 := by
        intro h
        have h1 := HNB.out
        have h2 := HUB.out
        rw [h] at h1
        unfold qnamed at h1
        simp only [Bool.or_eq_true, decide_eq_true_eq] at h1
        have h3 : ub = false := by
          rw [← h2]
          unfold qnumd
          rcases h1 with ((h1 | h1) | h1) | h1 <;> rw [h1] <;> rfl
        exact ⟨h3, Classical.not_not.1 fun h4 => g5 ⟨h3, h4⟩⟩
      have hns : nb = false → s.data.toList = [] := fun h => Classical.not_not.1 fun h4 => g4 ⟨h, h4⟩
      have hnz : ub = false → n = 0 := fun h => Classical.not_not.1 fun h4 => g5 ⟨h, h4⟩
      have h14 : j = 14 → nb = true := by
        rintro rfl
        rw [← HNB.out]
        rfl
      have h15 : j = 15 → ub = true := by
        rintro rfl
        rw [← HUB.out]
        rfl
      have hcs : (j = 14) ∨ (j ≠ 14 ∧ nb = true ∧ j ≠ 1) ∨ (j ≠ 14 ∧ nb = true ∧ j = 1) ∨ (j = 15 ∧ nb = false) ∨ ((j ≠ 14 ∧ j ≠ 15 ∧ nb = false) ∧ ub = true) ∨ ((j ≠ 14 ∧ j ≠ 15 ∧ nb = false) ∧ ub = false) := by
        by_cases a1 : j = 14
        · exact .inl a1
        · cases nb
          · by_cases a2 : j = 15
            · exact .inr (.inr (.inr (.inl ⟨a2, rfl⟩)))
            · cases ub
              · exact .inr (.inr (.inr (.inr (.inr ⟨⟨a1, a2, rfl⟩, rfl⟩))))
              · exact .inr (.inr (.inr (.inr (.inl ⟨⟨a1, a2, rfl⟩, rfl⟩))))
          · by_cases a2 : j = 1
            · exact .inr (.inr (.inl ⟨a1, rfl, a2⟩))
            · exact .inr (.inl ⟨a1, rfl, a2⟩)
      clear g4 g5 hpre
      rcases hcs with hA | ⟨hA, hB, hJ⟩ | ⟨hA, hB, hJ⟩ | ⟨hA, hB⟩ | ⟨⟨hA, hB, hD⟩, hub⟩ | ⟨⟨hA, hB, hD⟩, hub⟩
      case' inl =>
        have hB := h14 hA
        obtain ⟨rfl, rfl⟩ := hnu hB
        subst hA hB
        have hq : qnodeE qpat ((14 : Nat) : Int) s.data.toList 0 xs.length = if qpat s.data.toList then 0 else 3 := by rw [HND.out, if_pos (show ((14 : Nat) : Int) = 14 from rfl)]
        clear hnu hns hnz h14 h15 HND HNB HUB HMN
        cases hpt : qpat s.data.toList
        · rw [hpt] at hq
          have HE := Lib.hid hq
          have HP0 := Lib.hid hpt
          clear hq hpt
          go_wp2_with (go_at_call 82; refine (HPAT.out _ HBV.out).mono ?_; rw [HP0.out]; rintro e U ⟨rfl, hb⟩; have HU := Lib.hid (HBV.out.trans (hb.mono HBV.out.size)); clear hb)
          go_ret
          exact HFIN.out 3 HE.out (by decide) U HU.out
        rw [hpt] at hq
        have HE : Hid (qnodeE qpat ((14 : Nat) : Int) s.data.toList 0 xs.length = 0) := hq
        have HP0 := Lib.hid hpt
        clear hq hpt
        go_wp2_with (go_at_call 82; refine (HPAT.out _ HBV.out).mono ?_; rw [HP0.out]; rintro e U ⟨rfl, hb⟩; have HU := Lib.hid (HBV.out.trans (hb.mono HBV.out.size)); obtain ⟨u0, u1, u2, u3⟩ := HCV.out U hb; clear hb)
      case' inr.inl =>
        obtain ⟨rfl, rfl⟩ := hnu hB
        subst hB
        have hq : qnodeE qpat (j : Int) s.data.toList 0 xs.length = if nokL s.data.toList = true ∧ ¬ ((j : Int) = 1 ∧ s.data.toList = [108, 101, 116]) then 0 else 3 := by rw [HND.out, if_neg (by omega), if_pos rfl]
        have hne := nokL_eq s
        have g14 : ((j : Int) == 14) = false := by rw [beq_eq_false_iff_ne]; omega
        clear hnu hns hnz h14 h15 HND HNB HUB HMN hA
        cases hok : nokL s.data.toList
        · rw [hok] at hq hne
          have HE : Hid (qnodeE qpat (j : Int) s.data.toList 0 xs.length = 3) := hq
          have HNE : Hid (nameE s = 3) := hne
          clear hq hok hne
          go_wp2_with (go_at_call 83; refine (HNAME.out _).mono ?_; rw [HNE.out]; rintro e U ⟨rfl, rfl⟩)
          go_ret
          exact HFIN.out 3 HE.out (by decide) V HBV.out
        rw [hok] at hq hne
        have HNE : Hid (nameE s = 0) := hne
        obtain ⟨U, hU⟩ : ∃ U, U = V := ⟨_, rfl⟩
        have HU : Hid (Below w.heap.size w U) := by rw [hU]; exact HBV
        have HE : Hid (qnodeE qpat (j : Int) s.data.toList 0 xs.length = 0) := by show _ = _; rw [hq, if_pos ⟨rfl, fun h => hJ (by omega)⟩]
        have hjs : ((j : Int) == 1) = false := by rw [beq_eq_false_iff_ne]; omega
        clear hq hok hne
        go_wp2_with (go_at_call 83; refine (HNAME.out _).mono ?_; rw [HNE.out]; rintro e U2 ⟨rfl, rfl⟩)
        rw [← hU]
      case' inr.inr.inl =>
        subst hJ
        obtain ⟨rfl, rfl⟩ := hnu hB
        subst hB
        have hq : qnodeE qpat ((1 : Nat) : Int) s.data.toList 0 xs.length = if nokL s.data.toList = true ∧ ¬ (((1 : Nat) : Int) = 1 ∧ s.data.toList = [108, 101, 116]) then 0 else 3 := by rw [HND.out, if_neg (by omega), if_pos rfl]
        have hne := nokL_eq s
        have g14 : (((1 : Nat) : Int) == 14) = false := by rw [beq_eq_false_iff_ne]; omega
        clear hnu hns hnz h14 h15 HND HNB HUB HMN hA
        cases hok : nokL s.data.toList
        · rw [hok] at hq hne
          have HE : Hid (qnodeE qpat ((1 : Nat) : Int) s.data.toList 0 xs.length = 3) := hq
          have HNE : Hid (nameE s = 3) := hne
          clear hq hok hne
          go_wp2_with (go_at_call 83; refine (HNAME.out _).mono ?_; rw [HNE.out]; rintro e U ⟨rfl, rfl⟩)
          go_ret
          exact HFIN.out 3 HE.out (by decide) V HBV.out
        rw [hok] at hq hne
        have HNE : Hid (nameE s = 0) := hne
        obtain ⟨U, hU⟩ : ∃ U, U = V := ⟨_, rfl⟩
        have HU : Hid (Below w.heap.size w U) := by rw [hU]; exact HBV
        by_cases hl : s.data.toList = [108, 101, 116]
        · have HE : Hid (qnodeE qpat ((1 : Nat) : Int) s.data.toList 0 xs.length = 3) := by show _ = _; rw [hq, if_neg (fun h => h.2 ⟨rfl, hl⟩)]
          have hsl : (s.toList == [108, 101, 116]) = true := by rw [Lib.toList_data, hl]; rfl
          clear hq hok hne hl
          go_wp2_with (go_at_call 83; refine (HNAME.out _).mono ?_; rw [HNE.out]; rintro e U2 ⟨rfl, rfl⟩)
          go_ret
          exact HFIN.out 3 HE.out (by decide) V HBV.out
        have HE : Hid (qnodeE qpat ((1 : Nat) : Int) s.data.toList 0 xs.length = 0) := by show _ = _; rw [hq, if_pos ⟨rfl, fun h => hl h.2⟩]
        have hsl : (s.toList == [108, 101, 116]) = false := by rw [Lib.toList_data, beq_eq_false_iff_ne]; exact hl
        clear hq hok hne hl
        go_wp2_with (go_at_call 83; refine (HNAME.out _).mono ?_; rw [HNE.out]; rintro e U2 ⟨rfl, rfl⟩)
        rw [← hU]
      case' inr.inr.inr.inl =>
        have hB2 := h15 hA
        have hse := isEmpty_of (hns hB)
        subst hA hB hB2
        have hq : qnodeE qpat ((15 : Nat) : Int) s.data.toList n xs.length = if n < 1 ∨ 3 < n then 4 else 0 := by
          rw [HND.out, if_neg (by decide), if_neg (by decide), if_pos (show ((15 : Nat) : Int) = 15 from rfl)]
        clear hnu hns hnz h14 h15 HND HNB HUB HMN
        by_cases n1 : n < 1
        · have HE : Hid (qnodeE qpat ((15 : Nat) : Int) s.data.toList n xs.length = 4) := by show _ = _; rw [hq, if_pos (.inl n1)]
          clear hq
          go_wp2
          go_ret
          exact HFIN.out 4 HE.out (by decide) V HBV.out
        by_cases n2 : 3 < n
        · have HE : Hid (qnodeE qpat ((15 : Nat) : Int) s.data.toList n xs.length = 4) := by show _ = _; rw [hq, if_pos (.inr n2)]
          clear hq
          go_wp2
          go_ret
          exact HFIN.out 4 HE.out (by decide) V HBV.out
        have HE : Hid (qnodeE qpat ((15 : Nat) : Int) s.data.toList n xs.length = 0) := by show _ = _; rw [hq, if_neg (by omega)]
        clear hq
        obtain ⟨U, hU⟩ : ∃ U, U = V := ⟨_, rfl⟩
        have HU : Hid (Below w.heap.size w U) := by rw [hU]; exact HBV
        go_wp2_with fail
        rw [← hU]
      case' inr.inr.inr.inr.inl =>
        have hse := isEmpty_of (hns hD)
        subst hD
        have g14 : ((j : Int) == 14) = false := by rw [beq_eq_false_iff_ne]; omega
        have g15 : ((j : Int) == 15) = false := by rw [beq_eq_false_iff_ne]; omega
        have hq : qnodeE qpat (j : Int) s.data.toList n xs.length = if n < 0 ∨ 100 < n then 4 else 0 := by
          rw [HND.out, if_neg (by omega), if_neg (by decide), if_neg (by omega)]
        have hnz2 := hnz
        clear hnu hns hnz h14 h15 HND HNB HUB HMN
        obtain ⟨U, hU⟩ : ∃ U, U = V := ⟨_, rfl⟩
        have HU : Hid (Below w.heap.size w U) := by rw [hU]; exact HBV
        subst hub
        clear hnz2
        by_cases n1 : n < 0
        · have HE : Hid (qnodeE qpat (j : Int) s.data.toList n xs.length = 4) := by show _ = _; rw [hq, if_pos (.inl n1)]
          clear hq
          go_wp2
          go_ret
          exact HFIN.out 4 HE.out (by decide) V HBV.out
        by_cases n2 : 100 < n
        · have HE : Hid (qnodeE qpat (j : Int) s.data.toList n xs.length = 4) := by show _ = _; rw [hq, if_pos (.inr n2)]
          clear hq
          go_wp2
          go_ret
          exact HFIN.out 4 HE.out (by decide) V HBV.out
        have HE : Hid (qnodeE qpat (j : Int) s.data.toList n xs.length = 0) := by show _ = _; rw [hq, if_neg (by omega)]
        clear hq
        go_wp2_with fail
        rw [← hU]
      case' inr.inr.inr.inr.inr =>
        have hse := isEmpty_of (hns hD)
        subst hD
        have g14 : ((j : Int) == 14) = false := by rw [beq_eq_false_iff_ne]; omega
        have g15 : ((j : Int) == 15) = false := by rw [beq_eq_false_iff_ne]; omega
        have hq : qnodeE qpat (j : Int) s.data.toList n xs.length = if n < 0 ∨ 100 < n then 4 else 0 := by
          rw [HND.out, if_neg (by omega), if_neg (by decide), if_neg (by omega)]
        have hnz2 := hnz
        clear hnu hns hnz h14 h15 HND HNB HUB HMN
        obtain ⟨U, hU⟩ : ∃ U, U = V := ⟨_, rfl⟩
        have HU : Hid (Below w.heap.size w U) := by rw [hU]; exact HBV
        obtain rfl := hnz2 hub
        subst hub
        clear hnz2
        have HE : Hid (qnodeE qpat (j : Int) s.data.toList 0 xs.length = 0) := by show _ = _; rw [hq, if_neg (by omega)]
        clear hq
        go_wp2_with fail
        rw [← hU]
      all_goals
        have HFIN2 := Lib.hid (fun (E : Int) (h : qchks qpat (qabss xs) = E) (u : World) (hu : Below w.heap.size w u) => (⟨by rw [HOK.out HE.out, h], hu⟩ : CheckPost _ w (.returned (.int .i64 E)) u))
        have HKU := Lib.hid (HK.out.below HU.out)
        have HTU := Lib.hid (HT.out.below HU.out)
        go_loopw [94] (fun i wr => ∃ m : Nat, m ≤ xs.length ∧ i = .int .i64 m ∧ Hid (∀ i y, i < m → xs[i]? = some y → qchk qpat (qabs y) = 0) ∧ Hid (Below U.heap.size U wr)) (fun i _ => xs.length - (intOf i).toNat)
        case atStart => exact ⟨0, Nat.zero_le _, rfl, fun i y h => by omega, Below.refl _ _⟩
        case round =>
          obtain ⟨m, hm, rfl, HS, HB⟩ := hrel
          by_cases hlt : m < xs.length
          · obtain ⟨x, hx⟩ : ∃ x, xs[m]? = some x := ⟨_, List.getElem?_eq_getElem hlt⟩
            obtain ⟨⟨b, o, rfl, hb, hf⟩, hqx⟩ := HKU.out.at hx
            obtain ⟨c0, c1, c2, c3⟩ := four_at (hf.below HB.out hb)
            have HCALL := Lib.hid (fun (u : World) (hu : Below wr.heap.size wr u) => IH.out x (List.mem_of_getElem? hx) u (hqx.below (HB.out.trans (hu.mono HB.out.size))) (HTU.out.below (HB.out.trans (hu.mono HB.out.size))))
            have HTK := Lib.hid (fun (h : qchk qpat (qabs x) ≠ 0) => qchks_take hx HS.out h)
            have HNX : Hid (qchk qpat (qabs x) = 0 → ∀ i y, i < m + 1 → xs[i]? = some y → qchk qpat (qabs y) = 0) := fun h i y hi hy => by
              rcases Nat.lt_or_ge i m with h1 | h1
              · exact HS.out i y h1 hy
              · obtain rfl : i = m := by omega
                rw [hx] at hy
                injection hy with hy
                subst hy; exact h
            have HAL : Hid (∀ o, Below wr.heap.size wr (wr.alloc o)) := fun o => (Below.refl _ _).alloc (Nat.le_refl _) o
            clear hqx hf hb
            obtain ⟨E, hE⟩ : ∃ E, qchk qpat (qabs x) = E := ⟨_, rfl⟩
            have HEE := Lib.hid hE
            by_cases h0 : E = 0
            · subst h0
              have HNX2 := Lib.hid (HNX.out hE)
              clear hE HNX HTK
              go_wp2_with (go_at_call 54; refine (HCALL.out _ (HAL.out _)).mono ?_; rintro e w5 ⟨he, hb5⟩; rw [HEE.out] at he; subst he; have HB5 := Lib.hid (HB.out.trans (((HAL.out _).trans (hb5.mono (HAL.out _).size)).mono HB.out.size)); clear hb5)
              go_roundw
              case rel => exact ⟨m + 1, by omega, by go_num, HNX2.out, HB5⟩
              case measure => simp [intOf]; omega
            · have HTK2 : Hid (qchks qpat (qabss xs) = E) := by show _ = _; rw [HTK.out (by rw [hE]; exact h0), hE]
              obtain ⟨i1, i2⟩ := int_ne' h0
              clear hE HNX HTK h0
              go_wp2_with (go_at_call 54; refine (HCALL.out _ (HAL.out _)).mono ?_; rintro e w5 ⟨he, hb5⟩; rw [HEE.out] at he; subst he; have HB5 := Lib.hid (HB.out.trans (((HAL.out _).trans (hb5.mono (HAL.out _).size)).mono HB.out.size)); clear hb5)
              go_ret
              exact HFIN2.out E HTK2.out _ (HU.out.trans (HB5.out.mono HU.out.size))
          · obtain rfl : m = xs.length := by omega
            have HALL : Hid (qchks qpat (qabss xs) = 0) := qchks_all fun i y hy => HS.out i y (by
              rcases Nat.lt_or_ge i xs.length with h1 | h1
              · exact h1
              · rw [List.getElem?_eq_none h1] at hy; cases hy) hy
            go_wp2
            go_ret
            exact HFIN2.out 0 HALL.out _ (HU.out.trans (HB.out.mono HU.out.size))
    · have HE : Hid (qnodeE qpat j s.data.toList n xs.length = 1) := by show _ = _; rw [HND.out, if_pos (.inl g3)]
      have e1 : ((xs.length : Int) == (mn : Int)) = false := by rw [beq_eq_false_iff_ne]; omega
      have e2 : ((xs.length : Int) != (mn : Int)) = true := by simp [bne, e1]
      go_wp2
      go_ret
      exact HFIN.out 1 HE.out (by decide) V HBV.out
end Go.Proofs.YteefncohknclcaaGreatDoor
namespace Go.Proofs.YteefncohknclcaaGreatDoor
theorem nok_len {s : List UInt8} (h : nokL s = true) : s.length ≤ 40 := by
  unfold nokL at h
  simp only [Bool.and_eq_true, decide_eq_true_eq] at h
  exact h.1.2
theorem pat_len {s : List UInt8} (h : qpat s = true) : s.length ≤ 60 := by
  have := qpat_pE h
  unfold pE at this
  split at this
  · cases this
  · omega
theorem itoa_len {n : Int} (h0 : 0 ≤ n) (h1 : n ≤ 100) : (Lib.itoa n).length ≤ 3 := by
  have h := itoa_small (n := n.toNat) (by omega)
  rw [show ((n.toNat : Nat) : Int) = n by omega] at h
  rw [h]
  unfold itoa3
  (repeat' split) <;> simp
theorem qtxt_len (x : QA) : qchk qpat x = 0 → (qtxt x).length ≤ 100 * qcnt x := by
  induction x using QA.ind with
  | h k s n xs ih =>
    intro hc
    obtain ⟨hn, hxs⟩ := qchk_zero.1 hc
    have ih2 : ∀ x ∈ xs, (qtxt x).length ≤ 100 * qcnt x := fun x hx => ih x hx (hxs x hx)
    have hcnt : qcnt (.mk k s n xs) = 1 + qcnts xs := rfl
    have hq : qtxt (.mk k s n xs) = qbody k s n (qtxts xs) := rfl
    rw [hq, hcnt]
    rcases node_cases hn with ⟨rfl, hm, rfl, h1, h2⟩ | ⟨rfl, hm, rfl, rfl⟩ | ⟨rfl, hm, rfl, h1⟩ | ⟨rfl, hm, rfl, h1⟩ | ⟨hk, hm, rfl, rfl⟩ | ⟨hk, hm, rfl, rfl⟩ | ⟨hk, hm, h1, h2, rfl⟩ | ⟨hk, hm, rfl, rfl⟩ | ⟨rfl, hm, rfl, h1⟩ | ⟨rfl, hm, h1, h2, rfl⟩
    · have := nok_len h1
      show s.length ≤ _
      omega
    · show 1 ≤ _
      omega
    · have := nok_len h1
      show (36 :: s).length ≤ _
      simp only [List.length_cons]
      omega
    · obtain ⟨x, y, rfl⟩ := len_two hm
      have := nok_len h1
      have i1 := ih2 x (by simp)
      have i2 := ih2 y (by simp)
      have e : qbody 4 s 0 (qtxts [x, y]) = [40, 108, 101, 116, 32] ++ (s ++ ([32, 61, 32] ++ (qtxt x ++ ([32, 105, 110, 32] ++ (qtxt y ++ [41]))))) := rfl
      rw [e, cnts_two']
      simp only [List.length_append, List.length_cons, List.length_nil]
      omega
    · obtain ⟨x, y, rfl⟩ := len_two hm
      have i1 := ih2 x (by simp)
      have i2 := ih2 y (by simp)
      have e : qbody k [] 0 (qtxts [x, y]) = 40 :: (qtxt x ++ (32 :: (qword k ++ (32 :: (qtxt y ++ [41]))))) := by rcases hk with rfl | rfl | rfl <;> rfl
      have hw : (qword k).length = 1 := by rcases hk with rfl | rfl | rfl <;> rfl
      rw [e, cnts_two']
      simp only [List.length_append, List.length_cons, List.length_nil, hw]
      omega
    · obtain ⟨x, rfl⟩ := len_one hm
      have i1 := ih2 x (by simp)
      have e : qbody k [] 0 (qtxts [x]) = qword k ++ (40 :: (qtxt x ++ [41])) := by rcases hk with rfl | rfl <;> rfl
      have hw : (qword k).length ≤ 5 := by rcases hk with rfl | rfl <;> decide
      rw [e, cnts_one']
      simp only [List.length_append, List.length_cons, List.length_nil]
      omega
    · obtain ⟨x, rfl⟩ := len_one hm
      have i1 := ih2 x (by simp)
      have e : qbody k [] n (qtxts [x]) = qword k ++ (40 :: (qtxt x ++ (44 :: 32 :: (Lib.itoa n ++ [41])))) := by rcases hk with rfl | rfl <;> rfl
      have hw : (qword k).length ≤ 5 := by rcases hk with rfl | rfl <;> decide
      have hl := itoa_len h1 h2
      rw [e, cnts_one']
      simp only [List.length_append, List.length_cons, List.length_nil]
      omega
    · obtain ⟨x, y, rfl⟩ := len_two hm
      have i1 := ih2 x (by simp)
      have i2 := ih2 y (by simp)
      have e : qbody k [] 0 (qtxts [x, y]) = qword k ++ (40 :: (qtxt x ++ (44 :: 32 :: (qtxt y ++ [41])))) := by rcases hk with rfl | rfl <;> rfl
      have hw : (qword k).length ≤ 5 := by rcases hk with rfl | rfl <;> decide
      rw [e, cnts_two']
      simp only [List.length_append, List.length_cons, List.length_nil]
      omega
    · obtain ⟨x, rfl⟩ := len_one hm
      have i1 := ih2 x (by simp)
      have hl := pat_len h1
      have e : qbody 14 s 0 (qtxts [x]) = qword 14 ++ (40 :: (s ++ (44 :: 32 :: (qtxt x ++ [41])))) := rfl
      have hw : (qword 14).length ≤ 5 := by decide
      rw [e, cnts_one']
      simp only [List.length_append, List.length_cons, List.length_nil]
      omega
    · obtain ⟨x, rfl⟩ := len_one hm
      have i1 := ih2 x (by simp)
      have e : qbody 15 [] n (qtxts [x]) = qkindw n ++ (40 :: (qtxt x ++ [41])) := rfl
      have hw : (qkindw n).length ≤ 5 := by rcases (by omega : n = 1 ∨ n = 2 ∨ n = 3) with rfl | rfl | rfl <;> decide
      rw [e, cnts_one']
      simp only [List.length_append, List.length_cons, List.length_nil]
      omega
where
  cnts_one' {x : QA} : qcnts [x] = qcnt x := by simp [qcnts]
  cnts_two' {x y : QA} : qcnts [x, y] = qcnt x + qcnt y := by simp [qcnts]
end Go.Proofs.YteefncohknclcaaGreatDoor
