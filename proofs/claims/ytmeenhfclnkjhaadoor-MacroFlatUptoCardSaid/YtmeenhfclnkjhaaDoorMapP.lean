/- The table of macros: a map from strings to entries, that the call itself has made. Conditions: none. -/
import Derived.Maps.OwnSet
import Derived.Maps.AppendAt
import Derived.Maps.RangeWalk
import Derived.Test.YtmeenhfclnkjhaaDoorMacroUW
namespace Go.Proofs.YtmeenhfclnkjhaaDoor
open Go.RowKit Go.Shelf Go.Maps Go.WideMaps
theorem lawM : Keyed Tryd.prog 9 := string_keyed Tryd.underlying9
def rawP (v : Value) : Option (DataW Value × List MemPlace) := some (.held v, [])
def nilP : Value := .pointer none
/-- block B is a map of at most n entries: its keys, and the pointer at each key -/
def MapP (w : World) (B n : Nat) (ks : List Bs) (h : Bs → Value) : Prop :=
  ∃ D : DataW Value, w.ownsMap Tryd.prog 9 rawP B n D ∧ (∀ s, D.atKey (.string s) (.held nilP) = .held (h s)) ∧ (∀ s, has D (.string s) = true ↔ s ∈ ks)
theorem MapP.made (w : World) : MapP (w.alloc (.map #[] 0)) w.heap.size 0 [] (fun _ => nilP) :=
  ⟨.map [], World.ownsMap_made _ _ _ _, fun _ => rfl, fun s => by simp [has]⟩
theorem MapP.kept {w w' : World} {B n : Nat} {ks : List Bs} {h : Bs → Value} (hm : MapP w B n ks h) {row : Option Nat} (hg : w.grownBy w' row) (hne : some B ≠ row) : MapP w' B n ks h := by
  obtain ⟨D, h1, h2, h3⟩ := hm
  exact ⟨D, h1.kept hg hne, h2, h3⟩
theorem MapP.mono {w : World} {B n n' : Nat} {ks : List Bs} {h : Bs → Value} (hm : MapP w B n ks h) (hn : n ≤ n') : MapP w B n' ks h := by
  obtain ⟨D, h1, h2, h3⟩ := hm
  exact ⟨D, h1.mono hn, h2, h3⟩
theorem MapP.lt {w : World} {B n : Nat} {ks : List Bs} {h : Bs → Value} (hm : MapP w B n ks h) : B < w.heap.size := by
  obtain ⟨D, h1, _⟩ := hm
  exact h1.lt
theorem MapP.below {w w' : World} {B n : Nat} {ks : List Bs} {h : Bs → Value} (hm : MapP w B n ks h) (hb : Below w.heap.size w w') : MapP w' B n ks h :=
  hm.kept (row := none) ⟨hb.os, hb.tape, hb.output, hb.size, fun k hk _ => hb.block k hk⟩ (by simp)
theorem zeroPt (w : World) : (zeroValue 65).run Tryd.prog w = .ok (.pointer none) w := Tryd.zeroValue65 w
theorem look_run {w : World} {B n : Nat} {ks : List Bs} {h : Bs → Value} (hH : MapP w B n ks h) (s : ByteArray) (hs : s.size ≤ maxLen) :
    Sem.run Tryd.prog (Instr.lookup 60 (.map (some B)) (.string s) false) w = .ok (h s.data.toList) w := by
  obtain ⟨D, h1, h2, _⟩ := hH
  obtain ⟨v, ps, hrun, hat⟩ := h1.lookup lawM Tryd.underlying60 (zeroPt w) (zd := .held nilP) (zp := []) rfl (keyOf_string_mk Tryd.underlying9 hs)
  rw [h2] at hat
  have hv : v = h s.data.toList := by
    have h3 : (DataW.held v : DataW Value) = .held (h s.data.toList) := congrArg Prod.fst (Option.some.inj hat)
    exact DataW.held.inj h3
  subst hv
  exact hrun
/-- the look-up at the operation -/
theorem look_p (w : World) {ops : Array Oper} {rest : List Oper} {o : Oper} {a : Act} {Q : Exit → Act → World → Prop}
    (hg : o.guard = none) (m x : Operand) (hop : o.op = Op.lookup 60 m x false) {B n : Nat} {ks : List Bs} {h : Bs → Value}
    (hm : a.eval m = .map (some B)) (hH : MapP w B n ks h) (s : ByteArray) (hx : a.eval x = .string s) (hs : s.size ≤ maxLen)
    (hK : wpList Tryd.prog ops Q rest (a.put o.dst (h s.data.toList)) w) : wpList Tryd.prog ops Q (o :: rest) a w := by
  refine wpList_plain hg fun K' hK' => ?_
  obtain ⟨D, h1, h2, _⟩ := hH
  obtain ⟨v, ps, hrun, hat⟩ := h1.lookup lawM Tryd.underlying60 (zeroPt w) (zd := .held nilP) (zp := []) rfl (keyOf_string_mk Tryd.underlying9 hs)
  rw [h2] at hat
  have hv : v = h s.data.toList := by
    have h3 : (DataW.held v : DataW Value) = .held (h s.data.toList) := congrArg Prod.fst (Option.some.inj hat)
    exact DataW.held.inj h3
  subst hv
  unfold Oper.wp
  simp [execOp, hop, hm, hx, hrun, Result.andThen]
  exact hK' _ _ hK
/-- .. where the operation is guarded -/
theorem look_pg (w : World) {ops : Array Oper} {rest : List Oper} {o : Oper} {a : Act} {Q : Exit → Act → World → Prop}
    (hg : Region.wanted o (yielded ops a.tmps) = true) (m x : Operand) (hop : o.op = Op.lookup 60 m x false) {B n : Nat} {ks : List Bs} {h : Bs → Value}
    (hm : a.eval m = .map (some B)) (hH : MapP w B n ks h) (s : ByteArray) (hx : a.eval x = .string s) (hs : s.size ≤ maxLen)
    (hK : wpList Tryd.prog ops Q rest (a.put o.dst (h s.data.toList)) w) : wpList Tryd.prog ops Q (o :: rest) a w := by
  refine wpList_step fun K' hK' => ?_
  rw [if_pos hg]
  obtain ⟨D, h1, h2, _⟩ := hH
  obtain ⟨v, ps, hrun, hat⟩ := h1.lookup lawM Tryd.underlying60 (zeroPt w) (zd := .held nilP) (zp := []) rfl (keyOf_string_mk Tryd.underlying9 hs)
  rw [h2] at hat
  have hv : v = h s.data.toList := by
    have h3 : (DataW.held v : DataW Value) = .held (h s.data.toList) := congrArg Prod.fst (Option.some.inj hat)
    exact DataW.held.inj h3
  subst hv
  unfold Oper.wp
  simp [execOp, hop, hm, hx, hrun, Result.andThen]
  exact hK' _ _ hK
def updM {α : Type} (f : Bs → α) (s : Bs) (v : α) : Bs → α := fun t => if t = s then v else f t
theorem updM_same {α : Type} (f : Bs → α) (s : Bs) (v : α) : updM f s v s = v := by unfold updM; rw [if_pos rfl]
theorem updM_other {α : Type} (f : Bs → α) {s t : Bs} (v : α) (h : t ≠ s) : updM f s v t = f t := by unfold updM; rw [if_neg h]
/-- the store at the operation -/
theorem store_p (w : World) {ops : Array Oper} {rest : List Oper} {o : Oper} {a : Act} {Q : Exit → Act → World → Prop}
    (hg : o.guard = none) (m x v : Operand) (hop : o.op = Op.mapUpdate 60 m x v) {B n : Nat} {ks : List Bs} {h : Bs → Value}
    (hm : a.eval m = .map (some B)) (hH : MapP w B n ks h) (hn : n < maxLen) (s : ByteArray) (hx : a.eval x = .string s) (hs : s.size ≤ maxLen) (u : Value) (hv : a.eval v = u)
    (hK : ∀ w', MapP w' B (n + 1) (s.data.toList :: ks) (updM h s.data.toList u) → w.grownBy w' (some B) → wpList Tryd.prog ops Q rest (a.put o.dst undef) w') : wpList Tryd.prog ops Q (o :: rest) a w := by
  obtain ⟨D, h1, h2, h3⟩ := hH
  have hT := (h1.tidy lawM).isMap
  refine wpList_mapUpdate_own w hg m x v _ hop 9 65 lawM Tryd.underlying60 rawP B n D hm h1 hn _ u _ hx hv (keyOf_string_mk Tryd.underlying9 hs) (.held u) [] rfl (fun w' r1 r2 => hK w' ⟨_, r1, fun t => ?_, fun t => ?_⟩ r2)
  · by_cases ht : t = s.data.toList
    · subst ht
      rw [updM_same]
      exact atKey_put_same hT (show WideAt.IsKeyLit (.string s.data.toList) from trivial) _ _
    · rw [updM_other _ _ ht, ← h2]
      exact atKey_put_other (fun e => ht (by injection e)) _ _
  · by_cases ht : t = s.data.toList
    · subst ht
      exact ⟨fun _ => List.mem_cons_self, fun _ => has_put_same hT (show WideAt.IsKeyLit (.string s.data.toList) from trivial) _⟩
    · rw [has_put_other (fun e => ht (by injection e)), h3, List.mem_cons]
      exact ⟨.inr, fun g => g.resolve_left ht⟩
end Go.Proofs.YtmeenhfclnkjhaaDoor
