/- A slice of strings that the call is handed; append of one string. Conditions: none. -/
import Derived.Test.YtlhhcgiifgkngaaDoorRows
import Derived.Test.YtlhhcgiifgkngaaDoorStr
import Derived.Test.YtlhhcgiifgkngaaDoorMem
import Derived.WalkKit
import Derived.OpenShut
import Derived.Lib.Hide
import Derived.RegionTactic
import Derived.ChangeAlike
import Derived.Outline
import Derived.WalkSpells
import Derived.SliceStrings
import Derived.SizedLaws
namespace Go.Proofs.YtlhhcgiifgkngaaDoor
open Go.RowKit Go.ChangeShapes
def strsV (l : List ByteArray) : List Value := l.map Value.string
theorem strsV_snoc (l : List ByteArray) (x : ByteArray) : strsV (l ++ [x]) = strsV l ++ [.string x] := by unfold strsV; rw [List.map_append]; rfl
structure StrsAt (w : World) (p : Option Addr) (n : Nat) (ss : List ByteArray) : Prop where
  len : ss.length = n
  reads : Reads w w.heap.size 1 p n (strsV ss)
  size : ∀ s ∈ ss, s.size ≤ 4611686018427387904
  big : n ≤ 8796093022208
def StrArg (w : World) (p : Option Addr) (n _c : Nat) : Prop := ∃ ss, StrsAt w p n ss
theorem StrsAt.below {w w' : World} {p : Option Addr} {n : Nat} {ss : List ByteArray} (h : StrsAt w p n ss) (hb : Below w.heap.size w w') : StrsAt w' p n ss :=
  ⟨h.len, (h.reads.below hb).more hb.size, h.size, h.big⟩
theorem str_at {w : World} {b n : Nat} {p : Option Addr} {l : List ByteArray} (h : Reads w b 1 p n (strsV l)) {k : Nat} (hk : k < n) : ∃ ad, p = some ad ∧ ad.block < b ∧ w.cell? (ad.add k) = some (.string (l.getD k ByteArray.empty)) := by
  obtain ⟨ad, u, rfl, hb, hu, hc⟩ := h.at_ hk
  refine ⟨ad, rfl, hb, ?_⟩
  have hl : k < l.length := by have := h.1; simp [strsV] at this; omega
  rw [hc, ← hu]
  unfold strsV
  rw [List.getElem?_map, List.getD_eq_getElem?_getD, List.getElem?_eq_getElem hl]
  rfl
theorem str_weight {H : Type} {P : Program} {e : TypeId} {l : List ByteArray} {s : ByteArray} (h : s ∈ l) : s.data.toList.length ∈ DataW.weightsAll P e (strs (H := H) l) := by
  induction l with
  | nil => cases h
  | cons x l ih =>
    show _ ∈ DataW.weightsAll P e (DataW.lit (.string x.data.toList) :: strs l)
    rw [DataW.weightsAll]
    rcases List.mem_cons.1 h with rfl | h
    · refine List.mem_append_left _ ?_
      rw [DataW.weights]; exact List.mem_cons_self
    · exact List.mem_append_right _ (ih h)
theorem str_arg {H : Type} {enc : TypeId × Value → H} {W : World} {fuel len cap : Nat} {a : Option Addr} {d : DataW H} {p : List MemPlace}
    (ht : Tryd.prog.underlying 22 = some (.slice 9)) (he : Tryd.prog.underlying 9 = some .string) (hc : Tryd.prog.cellsOf 9 = 1)
    (hf : DataW.trod enc Tryd.prog W 0 (fun _ => true) true fuel 22 [.slice a len cap] = some (d, p))
    (hsz : ∀ n, n ∈ d.weights Tryd.prog 22 → n ≤ reachBytes) : StrArg W a len cap := by
  rcases open_strings ht he hc hf with ⟨h1, h2⟩ | ⟨ad, ln, cp, ss, h1, h2, h3, h4, h5, h6, h7, h8⟩
  · injection h1 with h1 _
    injection h1 with e1 e2 e3
    subst e1 e2 e3
    exact ⟨[], rfl, Reads.none_, fun s hs => (by cases hs), by omega⟩
  · injection h1 with h1 _
    injection h1 with e1 e2 e3
    subst e1 e2 e3
    injection h6 with h6 h6'
    have hw : d.weights Tryd.prog 22 = ((strs (H := H) (ss.take len)).length + (strs (H := H) (ss.drop len)).length) * Tryd.prog.bytesOf 9 :: (DataW.weightsAll Tryd.prog 9 (strs (H := H) (ss.take len)) ++ DataW.weightsAll Tryd.prog 9 (strs (H := H) (ss.drop len))) := by
      rw [h6, DataW.weights, ht]
    have hb := hsz _ (by rw [hw]; exact List.mem_cons_self)
    have hby : Tryd.prog.bytesOf 9 = 16 := by kernel_rfl
    have hrb : reachBytes < 2 ^ 47 := reachBytes_lt
    rw [hby] at hb
    simp only [if_true] at h5
    have hln : (ss.take len).length = len := by rw [List.length_take]; omega
    have hl1 : (strs (H := H) (ss.take len)).length = len := by unfold strs; rw [List.length_map, hln]
    rw [hl1] at hb
    have h8' : ∀ s ∈ ss.take len, s.size ≤ 4611686018427387904 := fun s hs => by
      have := hsz _ (by rw [hw]; exact List.mem_cons_of_mem _ (List.mem_append_left _ (str_weight hs)))
      rw [ba_len] at this
      omega
    refine ⟨ss.take len, hln, ⟨by unfold strsV; rw [List.length_map, hln]; omega, fun hn => ⟨ad, rfl, ?_, fun j u hu => ?_⟩⟩, h8', by omega⟩
    · have := World.block_lt_of_cell? W _ (h7 0 (by omega))
      rwa [block_of_add] at this
    · unfold strsV at hu
      rw [List.getElem?_map, Option.map_eq_some_iff] at hu
      obtain ⟨x, hx, rfl⟩ := hu
      have hj : j < len := by
        have := (List.getElem?_eq_some_iff.1 hx).1
        omega
      rw [h7 j (by omega)]
      rw [List.getElem?_take_of_lt hj] at hx
      rw [List.getD_eq_getElem?_getD, hx]; rfl
theorem info_str : (Tryd.prog.info? 9).map (fun i => (i.zero, i.size, i.bytes)) = some (some (.string ⟨#[]⟩), 1, 16) := by kernel_rfl
theorem app_str (w : World) {ops : Array Oper} {rest : List Oper} {o : Oper} {a : Act} {Q : Exit → Act → World → Prop} (hgd : o.guard = none) (s x : Operand)
    (ho : o.op = .call { callee := .builtin .append, args := #[s, x], argTypes := #[22, 22] })
    (base : Nat) (v : Value) (n : Nat) (xs : List Value) (hs : a.eval s = v) (hown : w.ownsRow base 9 1 v n xs)
    (g : Nat) (u : Value) (hu : u.oneCell' = true) (hx : a.eval x = .slice (some ⟨g, 0, none⟩) 1 1) (hcell : w.cell? ⟨g, 0, none⟩ = some u)
    (hn : n < 8796093022208) (hbase : base ≤ w.heap.size)
    (h : ∀ v' w', w'.ownsRow base 9 1 v' (n + 1) (xs ++ [u]) → w.grownBy w' v.ownBlock → wpList Tryd.prog ops Q rest (a.put o.dst v') w') : wpList Tryd.prog ops Q (o :: rest) a w := by
  obtain ⟨i0, hi, hz0, hz1, hz2⟩ := info_parts info_str
  refine wpList_append_own w hgd s x 22 ho base 9 i0 (.string ⟨#[]⟩) 1 16 Tryd.underlying22 hi hz0 hz1 hz2 rfl (by decide) v n xs hs hown ⟨g, 0, none⟩ 1 1 [u] hx rfl ?_ ?_ (by unfold maxLen; omega) (by omega) hbase (fun v' w' h1 h2 _ => h v' w' h1 h2)
  · intro j q hj
    match j, hj with
    | 0, hj => simp at hj; subst hj; simpa [Addr.add] using hcell
  · intro q hq; simp at hq; subst hq; exact hu
theorem take_next {l : List ByteArray} {j : Nat} (h : j < l.length) : l.take (j + 1) = l.take j ++ [l.getD j ByteArray.empty] := by
  rw [List.take_add_one, List.getElem?_eq_getElem h, List.getD_eq_getElem?_getD, List.getElem?_eq_getElem h]; rfl
end Go.Proofs.YtlhhcgiifgkngaaDoor
