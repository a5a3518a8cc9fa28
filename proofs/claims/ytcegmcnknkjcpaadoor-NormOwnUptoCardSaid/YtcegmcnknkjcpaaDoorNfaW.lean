/- The walks through glob.match and its closure. Conditions: at most 60 pieces. -/
import Derived.Test.YtcegmcnknkjcpaaDoorParseW
import Derived.Test.YtcegmcnknkjcpaaDoorNfa
import Derived.Deep.RegionWith
namespace Go.Proofs.YtcegmcnknkjcpaaDoor
open Go.RowKit
theorem pcsL_len {l : List Pc} (h : ∀ p ∈ l, p.set.length = 4) : (pcsL l).length = l.length * 5 := by
  induction l with
  | nil => rfl
  | cons p l ih =>
    have e : pcsL (p :: l) = pcL p.any p.set ++ pcsL l := by unfold pcsL; simp
    rw [e, List.length_append, ih (fun q hq => h q (List.mem_cons_of_mem _ hq)), pcL_four _ (h p List.mem_cons_self)]
    simp; omega
theorem pcsL_at {l : List Pc} (h : ∀ p ∈ l, p.set.length = 4) {k : Nat} (hk : k < l.length) {j : Nat} (hj : j < 5) : (pcsL l)[k * 5 + j]? = (pcL (l.getD k pc0).any (l.getD k pc0).set)[j]? := by
  induction l generalizing k with
  | nil => simp at hk
  | cons p l ih =>
    have e : pcsL (p :: l) = pcL p.any p.set ++ pcsL l := by unfold pcsL; simp
    have h5 : (pcL p.any p.set).length = 5 := by rw [pcL_four _ (h p List.mem_cons_self)]; rfl
    cases k with
    | zero =>
      rw [e, List.getElem?_append_left (by rw [h5]; omega)]
      simp
    | succ k =>
      rw [e, List.getElem?_append_right (by rw [h5]; omega), h5]
      have : (k + 1) * 5 + j - 5 = k * 5 + j := by omega
      rw [this, ih (fun q hq => h q (List.mem_cons_of_mem _ hq)) (by simpa using hk)]
      simp
/-- pieces in memory -/
structure PcsAt (w : World) (p : Option Addr) (l : List Pc) : Prop where
  four : ∀ q ∈ l, q.set.length = 4
  at_ : 0 < l.length → ∃ b : Nat, p = some ⟨b, 0, none⟩ ∧ b < w.heap.size ∧ ∀ j u, (pcsL l)[j]? = some u → w.cell? ⟨b, j, none⟩ = some u
theorem PcsAt.keep {w w' : World} {p : Option Addr} {l : List Pc} (h : PcsAt w p l) (hb : Below w.heap.size w w') : PcsAt w' p l :=
  ⟨h.four, fun hn => by
    obtain ⟨b, e, h1, h2⟩ := h.at_ hn
    exact ⟨b, e, Nat.lt_of_lt_of_le h1 hb.size, fun j u hu => (hb.cell h1).trans (h2 j u hu)⟩⟩
theorem PcsAt.cells {w : World} {p : Option Addr} {l : List Pc} (h : PcsAt w p l) {k : Nat} (hk : k < l.length) : ∃ b : Nat, p = some ⟨b, 0, none⟩ ∧
    w.cell? ⟨b, k * 5, none⟩ = some (.bool (anyAt l k)) ∧ w.cell? ⟨b, k * 5 + 1, none⟩ = some (.int .u64 (un (wd (l.getD k pc0).set 0) : Int)) ∧ w.cell? ⟨b, k * 5 + 2, none⟩ = some (.int .u64 (un (wd (l.getD k pc0).set 1) : Int)) ∧ w.cell? ⟨b, k * 5 + 3, none⟩ = some (.int .u64 (un (wd (l.getD k pc0).set 2) : Int)) ∧ w.cell? ⟨b, k * 5 + 4, none⟩ = some (.int .u64 (un (wd (l.getD k pc0).set 3) : Int)) := by
  obtain ⟨b, e, _, h2⟩ := h.at_ (by omega)
  have hm : l.getD k pc0 ∈ l := by
    rw [List.getD_eq_getElem?_getD, List.getElem?_eq_getElem hk]; exact List.getElem_mem hk
  have hS := h.four _ hm
  have key := fun j (hj : j < 5) => pcsL_at h.four hk hj
  refine ⟨b, e, ?_, ?_, ?_, ?_, ?_⟩
  · have := key 0 (by omega); rw [pcL_four _ hS] at this; exact h2 _ _ this
  · have := key 1 (by omega); rw [pcL_four _ hS] at this; exact h2 _ _ this
  · have := key 2 (by omega); rw [pcL_four _ hS] at this; exact h2 _ _ this
  · have := key 3 (by omega); rw [pcL_four _ hS] at this; exact h2 _ _ this
  · have := key 4 (by omega); rw [pcL_four _ hS] at this; exact h2 _ _ this
theorem skp_step (l : List Pc) (a : B) (k : Nat) : skpN l a (k + 1) = if anyAt l k = true then skpN l a k ||| (skpN l a k >>> k &&& 1#64) <<< (k + 1) else skpN l a k := rfl
theorem stp_step (l : List Pc) (a : B) (c k : Nat) : stpN l a c (k + 1) = if has a k = true then (if anyAt l k = true then stpN l a c k ||| 1#64 <<< k else if pcHas (l.getD k pc0) c = true then stpN l a c k ||| 1#64 <<< (k + 1) else stpN l a c k) else stpN l a c k := rfl
theorem drop_byte {s : ByteArray} {k : Nat} (h : k < s.size) : s.data.toList.drop k = s[k] :: s.data.toList.drop (k + 1) := by
  have hl : k < s.data.toList.length := by rw [ba_len]; exact h
  rw [List.drop_eq_getElem_cons hl]
  rfl
end Go.Proofs.YtcegmcnknkjcpaaDoor
