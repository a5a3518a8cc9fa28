/- A map from strings to slices of strings that the call itself has made: its keys, its headers, and who owns what. Conditions: none. -/
import Derived.Maps.OwnSet
import Derived.Maps.AppendAt
import Derived.Sort.KeysCollected
import Derived.Test.YtoiolepengcagaaGreatDoorRulePW
namespace Go.Proofs.YtoiolepengcagaaGreatDoor
open Go.RowKit Go.Shelf Go.Maps Go.WideMaps
theorem lawS : Keyed Tryz.prog 9 := string_keyed Tryz.underlying9
theorem info_strM : (Tryz.prog.info? 9).map (fun i => (i.zero, i.size, i.bytes)) = some (some (.string ⟨#[]⟩), 1, 16) := by kernel_rfl
def rawE (v : Value) : Option (DataW Value × List MemPlace) := some (.held v, [])
def nilS : Value := .slice none 0 0
/-- block B is a map of at most n entries: its keys, and the header at each key -/
def MapH (w : World) (B n : Nat) (ks : List Bs) (h : Bs → Value) : Prop :=
  ∃ D : DataW Value, w.ownsMap Tryz.prog 9 rawE B n D ∧ (∀ s, D.atKey (.string s) (.held nilS) = .held (h s)) ∧ (∀ s, has D (.string s) = true ↔ s ∈ ks)
theorem MapH.made (w : World) : MapH (w.alloc (.map #[] 0)) w.heap.size 0 [] (fun _ => nilS) :=
  ⟨.map [], World.ownsMap_made _ _ _ _, fun _ => rfl, fun s => by simp [has]⟩
theorem MapH.kept {w w' : World} {B n : Nat} {ks : List Bs} {h : Bs → Value} (hm : MapH w B n ks h) {row : Option Nat} (hg : w.grownBy w' row) (hne : some B ≠ row) : MapH w' B n ks h := by
  obtain ⟨D, h1, h2, h3⟩ := hm
  exact ⟨D, h1.kept hg hne, h2, h3⟩
theorem MapH.mono {w : World} {B n n' : Nat} {ks : List Bs} {h : Bs → Value} (hm : MapH w B n ks h) (hn : n ≤ n') : MapH w B n' ks h := by
  obtain ⟨D, h1, h2, h3⟩ := hm
  exact ⟨D, h1.mono hn, h2, h3⟩
theorem MapH.lt {w : World} {B n : Nat} {ks : List Bs} {h : Bs → Value} (hm : MapH w B n ks h) : B < w.heap.size := by
  obtain ⟨D, h1, _⟩ := hm
  exact h1.lt
theorem zeroS (w : World) : (zeroValue 23).run Tryz.prog w = .ok (.slice none 0 0) w := Tryz.zeroValue23 w
/-- the look-up at the operation -/
theorem look_h (w : World) {ops : Array Oper} {rest : List Oper} {o : Oper} {a : Act} {Q : Exit → Act → World → Prop}
    (hg : o.guard = none) (m x : Operand) (hop : o.op = Op.lookup 154 m x false) {B n : Nat} {ks : List Bs} {h : Bs → Value}
    (hm : a.eval m = .map (some B)) (hH : MapH w B n ks h) (s : ByteArray) (hx : a.eval x = .string s) (hs : s.size ≤ maxLen)
    (hK : wpList Tryz.prog ops Q rest (a.put o.dst (h s.data.toList)) w) : wpList Tryz.prog ops Q (o :: rest) a w := by
  refine wpList_plain hg fun K' hK' => ?_
  obtain ⟨D, h1, h2, _⟩ := hH
  obtain ⟨v, ps, hrun, hat⟩ := h1.lookup lawS Tryz.underlying154 (zeroS w) (zd := .held nilS) (zp := []) rfl (keyOf_string_mk Tryz.underlying9 hs)
  rw [h2] at hat
  have hv : v = h s.data.toList := by
    have h3 : (DataW.held v : DataW Value) = .held (h s.data.toList) := congrArg Prod.fst (Option.some.inj hat)
    exact DataW.held.inj h3
  subst hv
  unfold Oper.wp
  simp [execOp, hop, hm, hx, hrun, Result.andThen]
  exact hK' _ _ hK
def upd {α : Type} (f : Bs → α) (s : Bs) (v : α) : Bs → α := fun t => if t = s then v else f t
theorem upd_same {α : Type} (f : Bs → α) (s : Bs) (v : α) : upd f s v s = v := by unfold upd; rw [if_pos rfl]
theorem upd_other {α : Type} (f : Bs → α) {s t : Bs} (v : α) (h : t ≠ s) : upd f s v t = f t := by unfold upd; rw [if_neg h]
/-- the store at the operation -/
theorem store_h (w : World) {ops : Array Oper} {rest : List Oper} {o : Oper} {a : Act} {Q : Exit → Act → World → Prop}
    (hg : o.guard = none) (m x v : Operand) (hop : o.op = Op.mapUpdate 154 m x v) {B n : Nat} {ks : List Bs} {h : Bs → Value}
    (hm : a.eval m = .map (some B)) (hH : MapH w B n ks h) (hn : n < maxLen) (s : ByteArray) (hx : a.eval x = .string s) (hs : s.size ≤ maxLen) (u : Value) (hv : a.eval v = u)
    (hK : ∀ w', MapH w' B (n + 1) (s.data.toList :: ks) (upd h s.data.toList u) → w.grownBy w' (some B) → wpList Tryz.prog ops Q rest (a.put o.dst undef) w') : wpList Tryz.prog ops Q (o :: rest) a w := by
  obtain ⟨D, h1, h2, h3⟩ := hH
  have hT := (h1.tidy lawS).isMap
  refine wpList_mapUpdate_own w hg m x v _ hop 9 23 lawS Tryz.underlying154 rawE B n D hm h1 hn _ u _ hx hv (keyOf_string_mk Tryz.underlying9 hs) (.held u) [] rfl (fun w' r1 r2 => hK w' ⟨_, r1, fun t => ?_, fun t => ?_⟩ r2)
  · by_cases ht : t = s.data.toList
    · subst ht
      rw [upd_same]
      exact atKey_put_same hT (show WideAt.IsKeyLit (.string s.data.toList) from trivial) _ _
    · rw [upd_other _ _ ht, ← h2]
      exact atKey_put_other (fun e => ht (by injection e)) _ _
  · by_cases ht : t = s.data.toList
    · subst ht
      exact ⟨fun _ => List.mem_cons_self, fun _ => has_put_same hT (show WideAt.IsKeyLit (.string s.data.toList) from trivial) _⟩
    · rw [has_put_other (fun e => ht (by injection e)), h3, List.mem_cons]
      exact ⟨.inr, fun g => g.resolve_left ht⟩
/-- the map and all that its headers own; the header at t is being turned: it owns zs -/
structure GrpX (w : World) (B lo n : Nat) (ks : List Bs) (g : Bs → List ByteArray) (t : Bs) (v : Value) (zs : List ByteArray) : Prop where
  h : ∃ h, MapH w B n ks h ∧ (∀ s, s ≠ t → w.ownsRow lo 9 1 (h s) (g s).length (strsV (g s))) ∧ (∀ s s', s ≠ t → s' ≠ t → s ≠ s' → ∀ k, (h s).ownBlock = some k → (h s').ownBlock ≠ some k) ∧
    (∀ s, s ≠ t → ∀ k, (h s).ownBlock = some k → v.ownBlock ≠ some k)
  own : w.ownsRow lo 9 1 v zs.length (strsV zs)
  lo : B < lo
def Grp (w : World) (B lo n : Nat) (ks : List Bs) (g : Bs → List ByteArray) : Prop :=
  ∃ h, MapH w B n ks h ∧ (∀ s, w.ownsRow lo 9 1 (h s) (g s).length (strsV (g s))) ∧ (∀ s s', s ≠ s' → ∀ k, (h s).ownBlock = some k → (h s').ownBlock ≠ some k) ∧ B < lo
theorem Grp.made (w : World) : Grp (w.alloc (.map #[] 0)) w.heap.size (w.heap.size + 1) 0 [] (fun _ => []) :=
  ⟨_, MapH.made w, fun _ => World.ownsRow_nil _ _ _ _, fun _ _ _ k e => by simp [nilS, Value.ownBlock] at e, Nat.lt_succ_self _⟩
theorem Grp.kept {w w' : World} {B lo n : Nat} {ks : List Bs} {g : Bs → List ByteArray} (hG : Grp w B lo n ks g) (hg : w.grownBy w' none) : Grp w' B lo n ks g := by
  obtain ⟨h, h1, h2, h3, h4⟩ := hG
  refine ⟨h, h1.kept hg (by simp), fun s => (h2 s).kept hg ?_, h3, h4⟩
  cases hq : (h s).ownBlock with
  | none => exact .inl rfl
  | some k => exact .inr (by simp)
theorem GrpX.kept {w w' : World} {B lo n : Nat} {ks : List Bs} {g : Bs → List ByteArray} {t : Bs} {v : Value} {zs : List ByteArray} (hG : GrpX w B lo n ks g t v zs) (hg : w.grownBy w' none) : GrpX w' B lo n ks g t v zs := by
  obtain ⟨⟨h, h1, h2, h3, h4⟩, h5, h6⟩ := hG
  refine ⟨⟨h, h1.kept hg (by simp), fun s hs => (h2 s hs).kept hg ?_, h3, h4⟩, h5.kept hg ?_, h6⟩
  · cases hq : (h s).ownBlock with
    | none => exact .inl rfl
    | some k => exact .inr (by simp)
  · cases hq : v.ownBlock with
    | none => exact .inl rfl
    | some k => exact .inr (by simp)
/-- the append at the header in hand -/
theorem GrpX.appended {w w' : World} {B lo n : Nat} {ks : List Bs} {g : Bs → List ByteArray} {t : Bs} {v v' : Value} {zs zs' : List ByteArray} (hG : GrpX w B lo n ks g t v zs)
    (hown : w'.ownsRow lo 9 1 v' zs'.length (strsV zs')) (hg : w.grownBy w' v.ownBlock) (hloc : v'.ownBlock = v.ownBlock ∨ v'.ownBlock = some w.heap.size) : GrpX w' B lo n ks g t v' zs' := by
  obtain ⟨⟨h, h1, h2, h3, h4⟩, h5, h6⟩ := hG
  refine ⟨⟨h, h1.kept hg ?_, fun s hs => (h2 s hs).kept hg ?_, h3, fun s hs k hk => ?_⟩, hown, h6⟩
  · intro e
    have := (h5.lt B e.symm).1
    omega
  · cases hq : (h s).ownBlock with
    | none => exact .inl rfl
    | some k => exact .inr (fun e => h4 s hs k hq e.symm)
  · rcases hloc with e | e
    · rw [e]; exact h4 s hs k hk
    · rw [e]
      intro e2
      injection e2 with e2
      have := ((h2 s hs).lt k hk).2
      omega
theorem Grp.look {w : World} {B lo n : Nat} {ks : List Bs} {g : Bs → List ByteArray} (hG : Grp w B lo n ks g) (t : Bs) : ∃ h, MapH w B n ks h ∧ GrpX w B lo n ks g t (h t) (g t) := by
  obtain ⟨h, h1, h2, h3, h4⟩ := hG
  exact ⟨h, h1, ⟨⟨h, h1, fun s _ => h2 s, fun s s' _ _ e => h3 s s' e, fun s hs k hk => h3 s t hs k hk⟩, h2 t, h4⟩⟩
/-- the store at the operation, of the header in hand -/
theorem store_g (w : World) {ops : Array Oper} {rest : List Oper} {o : Oper} {a : Act} {Q : Exit → Act → World → Prop}
    (hg : o.guard = none) (m x v : Operand) (hop : o.op = Op.mapUpdate 154 m x v) {B lo n : Nat} {ks : List Bs} {g : Bs → List ByteArray} {zs : List ByteArray} {u : Value} (s : ByteArray)
    (hm : a.eval m = .map (some B)) (hG : GrpX w B lo n ks g s.data.toList u zs) (hn : n < maxLen) (hx : a.eval x = .string s) (hs : s.size ≤ maxLen) (hv : a.eval v = u)
    (hK : ∀ w', Grp w' B lo (n + 1) (s.data.toList :: ks) (upd g s.data.toList zs) → w.grownBy w' (some B) → wpList Tryz.prog ops Q rest (a.put o.dst undef) w') : wpList Tryz.prog ops Q (o :: rest) a w := by
  obtain ⟨⟨h, h1, h2, h3, h4⟩, h5, h6⟩ := hG
  refine store_h w hg m x v hop hm h1 hn s hx hs u hv fun w' r1 r2 => hK w' ⟨_, r1, fun t => ?_, fun t t' hne k hk => ?_, h6⟩ r2
  · by_cases ht : t = s.data.toList
    · subst ht
      rw [upd_same, upd_same]
      refine h5.kept r2 ?_
      cases hq : u.ownBlock with
      | none => exact .inl rfl
      | some k => exact .inr (fun e => by injection e with e; have := (h5.lt k hq).1; omega)
    · rw [upd_other _ _ ht, upd_other _ _ ht]
      refine (h2 t ht).kept r2 ?_
      cases hq : (h t).ownBlock with
      | none => exact .inl rfl
      | some k => exact .inr (fun e => by injection e with e; have := ((h2 t ht).lt k hq).1; omega)
  · by_cases ht : t = s.data.toList
    · subst ht
      rw [upd_same] at hk
      rw [upd_other _ _ (Ne.symm hne)]
      exact fun e => h4 t' (Ne.symm hne) k e hk
    · rw [upd_other _ _ ht] at hk
      by_cases ht' : t' = s.data.toList
      · subst ht'
        rw [upd_same]
        exact h4 t ht k hk
      · rw [upd_other _ _ ht']
        exact h3 t t' ht ht' hne k hk
end Go.Proofs.YtoiolepengcagaaGreatDoor
