/- Texts joined: SortG, SortedSW, CompactW, NameSortW, SortN, NamesW. Conditions: theirs. -/
import Derived.Sort.OwnSortedInts
import Derived.Shelf.SlSortCmp.Whole1
import Derived.Test.YtoiolepengcagaaDoorSeqW
import Derived.Test.YtoiolepengcagaaDoorShelf
import Derived.Lib.RowBridge
import Derived.Test.YtoiolepengcagaaDoorNameW
namespace Go.Proofs.YtoiolepengcagaaDoor
open Go.Sort Go.Proofs Go.Shelf Go.RowKit
section
variable {α : Type} [Inhabited α] {enc : α → Value}
theorem holds_own {w : World} {g : Nat} {cur : Array Value} {e : TypeId} {ss : List α} (hb : w.heap[g]? = some (.cells cur e (0, 0))) (ht : cur.toList.take ss.length = ss.map enc) : Holds enc w g 0 ss.toArray := by
  intro j hj
  have hj' : j < ss.length := by simpa using hj
  refine ⟨?_, by simp [World.frozen?, hb]⟩
  have h1 : (cur.toList.take ss.length)[j]? = (ss.map enc)[j]? := by rw [ht]
  rw [List.getElem?_take_of_lt hj'] at h1
  simp only [World.cell?, hb, Nat.zero_add]
  simp only [Option.isSome_none, Bool.false_eq_true, if_false]
  rw [← Array.getElem?_toList, h1]
  simp [hj']
theorem heap_sortedG {w : World} {g n : Nat} {os : Array Obj} {cur : Array Value} {e : TypeId} {fr : Nat × Nat} (d : Array α) (hb : w.heap[g]? = some (.cells cur e fr)) :
    (sortWorld enc w g 0 n d os).heap[g]? = some (.cells (putCells enc 0 d cur) e fr) := by
  have hg : g < w.heap.size := (Array.getElem?_eq_some_iff.1 hb).1
  unfold sortWorld
  rw [heap_grow_old _ _ (by simpa using hg)]
  simp [putRow, mapBlock, Sort.ahead, Array.getElem?_modify, hb, onCells]
theorem grown_sorted {w : World} {g n : Nat} {os : Array Obj} (d : Array α) : w.grownBy (sortWorld enc w g 0 n d os) (some g) := by
  refine ⟨rfl, rfl, rfl, by simp [sortWorld], fun k hk hne => ?_⟩
  unfold sortWorld
  rw [heap_grow_old _ _ (by simpa using hk)]
  have : g ≠ k := fun e => hne (by rw [e])
  simp [putRow, mapBlock, Sort.ahead, Array.getElem?_modify, this]
theorem take_putG (cur : Array Value) (ts : List α) (h : ts.length ≤ cur.size) : (putCells enc 0 ts.toArray cur).toList.take ts.length = ts.map enc := by
  apply List.ext_getElem?
  intro j
  by_cases hj : j < ts.length
  · rw [List.getElem?_take_of_lt hj, Array.getElem?_toList]
    simp [putCells, hj, show j < cur.size by omega]
  · rw [List.getElem?_take_eq_none (by omega), List.getElem?_eq_none (by simp; omega)]
theorem own_sorted {w : World} {base g cap n : Nat} {e : TypeId} {os : Array Obj} {cur : Array Value} {k : Nat} {ts : List α} (hl : ts.length = k) (hbase : base ≤ g) (hb : w.heap[g]? = some (.cells cur e (0, 0)))
    (h1 : k ≤ cap) (h2 : cap ≤ maxLen) (h3 : cur.size = cap * 1) :
    (sortWorld enc w g 0 n ts.toArray os).ownsRow base e 1 (.slice (some ⟨g, 0, none⟩) k cap) k (ts.map enc) :=
  ⟨by simp [hl], .inr ⟨g, cap, _, rfl, hbase, heap_sortedG _ hb, h1, h2, by simp [putCells, h3], by rw [Nat.mul_one, ← hl]; exact take_putG cur ts (by omega)⟩⟩
end
end Go.Proofs.YtoiolepengcagaaDoor
namespace Go.Proofs.YtoiolepengcagaaDoor
open Go.RowKit Go.Shelf Go.Maps Go.Sort
def byt (zs : List ByteArray) : List (List UInt8) := zs.map fun s : ByteArray => s.data.toList
theorem byt_enc (zs : List ByteArray) : (byt zs).map encStr = strsV zs := enc_all zs
theorem byt_len (zs : List ByteArray) : (byt zs).length = zs.length := List.length_map ..
theorem str_own {w : World} {base n : Nat} {v : Value} {xs : List Value} (h : w.ownsRow base 9 1 v n xs) : ∃ (g : Option Addr) (c : Nat), v = .slice g n c := by
  rcases h.2 with ⟨rfl, rfl⟩ | ⟨g, cap, _, rfl, _⟩
  · have := h.1
    simp at this
    subst this
    exact ⟨none, 0, rfl⟩
  · exact ⟨_, _, rfl⟩
theorem sort_own {w : World} {base n c : Nat} {g : Option Addr} {bs : List (List UInt8)} (hb62 : n < 4611686018427387904) (h : w.ownsRow base 9 1 (.slice g n c) n (bs.map encStr)) :
    Calls Tryd.prog 38 #[.slice g n c] w fun e w' => e = .returned (.tuple #[]) ∧ w'.ownsRow base 9 1 (.slice g n c) n ((bs.mergeSort fun x y => decide (x ≤ y)).map encStr) ∧ w.grownBy w' (Value.slice g n c).ownBlock := by
  have hl : bs.length = n := by have := h.1; simpa using this
  subst hl
  by_cases hn : 0 < bs.length
  · rcases h.2 with ⟨hnil, _⟩ | ⟨g', cap, cur, hv, hbase, hb, h1, h2, h3, h4⟩
    · injection hnil with e1 e2 e3; omega
    · injection hv with e1 e2 e3
      subst e1 e3
      have h4' : cur.toList.take bs.length = bs.map encStr := by simpa using h4
      refine (Tryd.slices_Sort_string g' 0 c bs w (holds_own hb h4') (Array.getElem?_eq_some_iff.1 hb).1 hb62).mono ?_
      rintro e w' ⟨rfl, m, os, rfl⟩
      exact ⟨rfl, own_sorted (by simp) hbase hb h1 h2 h3, grown_sorted _⟩
  · have h0 : bs = [] := List.length_eq_zero_iff.1 (by omega)
    subst h0
    refine (Tryd.slices_Sort_string_none g c w).mono ?_
    rintro e w' ⟨rfl, rfl⟩
    exact ⟨rfl, by simpa using h, ⟨rfl, rfl, rfl, Nat.le_refl _, fun _ _ _ => rfl⟩⟩
theorem own_prefix {w : World} {base e n m g cap : Nat} {xs : List Value} (h : w.ownsRow base e 1 (.slice (some ⟨g, 0, none⟩) n cap) n xs) (hm : m ≤ n) : w.ownsRow base e 1 (.slice (some ⟨g, 0, none⟩) m cap) m (xs.take m) := by
  have hl : xs.length = n := by have := h.1; simpa using this
  rcases h.2 with ⟨hnil, _⟩ | ⟨g', cap', cur, hv, hbase, hb, h1, h2, h3, h4⟩
  · cases hnil
  · injection hv with e1 e2 e3
    injection e1 with e1
    injection e1 with e1
    subst e1 e3
    refine ⟨by rw [List.length_take]; omega, .inr ⟨g, cap, cur, rfl, hbase, hb, by omega, h2, h3, ?_⟩⟩
    rw [← h4, List.take_take]
    congr 1; omega
/-- the strings of a slice, sorted, in a slice of the call's own -/
def Srt (w : World) (zs : List ByteArray) (e : Ending) (w' : World) : Prop := ∃ (g : Option Addr) (c : Nat), e = .returned (.slice g zs.length c) ∧ w'.ownsRow w.heap.size 9 1 (.slice g zs.length c) zs.length (((byt zs).mergeSort fun x y => decide (x ≤ y)).map encStr) ∧ Below w.heap.size w w'
end Go.Proofs.YtoiolepengcagaaDoor
namespace Go.Proofs.YtoiolepengcagaaDoor
open Go.RowKit Go.Shelf Go.Maps Go.Sort
end Go.Proofs.YtoiolepengcagaaDoor
namespace Go.Proofs.YtoiolepengcagaaDoor
open Go.RowKit Go.Shelf Go.Maps Go.Sort
/-- a slice of strings that the call can read and range over -/
structure NL (w : World) (p : Option Addr) (n c : Nat) (zs : List ByteArray) : Prop where
  at_ : StrsAt w p n zs
  nil : p = none → c = 0
  plain : ∀ ad, p = some ad → ∃ b off, ad = ⟨b, off, none⟩ ∧ b < w.heap.size
  reach : n * 16 ≤ 140737488351232
theorem NL.below {w w' : World} {p : Option Addr} {n c : Nat} {zs : List ByteArray} (h : NL w p n c zs) (hb : Below w.heap.size w w') : NL w' p n c zs :=
  ⟨h.at_.below hb, h.nil, fun ad ha => by
    obtain ⟨b, off, e, hlt⟩ := h.plain ad ha
    exact ⟨b, off, e, Nat.lt_of_lt_of_le hlt hb.size⟩, h.reach⟩
/-- sorted, each once -/
def sortN (zs : List ByteArray) : List (List UInt8) := Lib.compact ((byt zs).mergeSort fun x y => decide (x ≤ y))
def okN (zs : List ByteArray) (k : Nat) : Prop := ∀ j, j < k → nameE (zs.getD j ByteArray.empty) = 0
def SortPost (w : World) (zs : List ByteArray) (e : Ending) (w' : World) : Prop :=
  ∃ (g : Option Addr) (c : Nat), e = .returned (.tuple #[.slice g (sortN zs).length c, .int .i64 0]) ∧ w'.ownsRow w.heap.size 9 1 (.slice g (sortN zs).length c) (sortN zs).length ((sortN zs).map encStr) ∧ Below w.heap.size w w'
theorem okN_next {zs : List ByteArray} {k : Nat} (h : okN zs k) (hk : nameE (zs.getD k ByteArray.empty) = 0) : okN zs (k + 1) := fun j hj => by
  rcases Nat.lt_or_ge j k with h1 | h1
  · exact h j h1
  · rw [show j = k from by omega]; exact hk
end Go.Proofs.YtoiolepengcagaaDoor
namespace Go.Proofs.YtoiolepengcagaaDoor
theorem le_tot (a b : List UInt8) : (decide (a ≤ b) || decide (b ≤ a)) = true := by
  rw [Bool.or_eq_true, decide_eq_true_iff, decide_eq_true_iff]
  exact List.le_total a b
theorem le_tr (a b c : List UInt8) : decide (a ≤ b) = true → decide (b ≤ c) = true → decide (a ≤ c) = true := by
  rw [decide_eq_true_iff, decide_eq_true_iff, decide_eq_true_iff]
  exact fun h1 h2 => List.le_trans h1 h2
theorem lt_le {a b x : List UInt8} (h1 : a < b) (h2 : b ≤ x) : a < x := by
  by_cases h : a < x
  · exact h
  · exact absurd h1 (List.not_lt.2 (List.le_trans h2 (List.not_lt.1 h)))
/-- what Compact keeps of the first m places of a sorted row -/
theorem compact_inv (d : Array (List UInt8)) (hs : ∀ i j, i ≤ j → j < d.size → d[i]! ≤ d[j]!) (m : Nat) (hm : m ≤ d.size) :
    (Lib.compactUpTo d m).Pairwise (· < ·) ∧ (∀ x, x ∈ Lib.compactUpTo d m ↔ ∃ j, j < m ∧ d[j]! = x) := by
  induction m with
  | zero => exact ⟨by simp [Lib.compactUpTo], fun x => by simp [Lib.compactUpTo]⟩
  | succ m ih =>
    obtain ⟨h1, h2⟩ := ih (by omega)
    rw [Lib.compactUpTo_succ]
    cases hk : Lib.keeps d m
    · have hk' : ¬ (m = 0 ∨ d[m]! ≠ d[m - 1]!) := by unfold Lib.keeps at hk; exact of_decide_eq_false hk
      have h0 : 0 < m := by omega
      have he : d[m]! = d[m - 1]! := by
        by_cases h : d[m]! = d[m - 1]!
        · exact h
        · exact absurd (.inr h) hk'
      simp only [Bool.false_eq_true, if_false, List.append_nil]
      refine ⟨h1, fun x => ?_⟩
      rw [h2]
      constructor
      · rintro ⟨j, hj, rfl⟩; exact ⟨j, by omega, rfl⟩
      · rintro ⟨j, hj, rfl⟩
        rcases Nat.lt_or_ge j m with h | h
        · exact ⟨j, h, rfl⟩
        · exact ⟨m - 1, by omega, by rw [← he, show j = m from by omega]⟩
    · have hk' : m = 0 ∨ d[m]! ≠ d[m - 1]! := by unfold Lib.keeps at hk; exact of_decide_eq_true hk
      simp only [if_true]
      refine ⟨?_, fun x => ?_⟩
      · rw [List.pairwise_append]
        refine ⟨h1, by simp, fun x hx y hy => ?_⟩
        obtain ⟨j, hj, rfl⟩ := (h2 x).1 hx
        rw [List.mem_singleton.1 hy]
        rcases hk' with h | h
        · omega
        · have a1 := hs j (m - 1) (by omega) (by omega)
          have a2 := hs (m - 1) m (by omega) (by omega)
          by_cases h3 : d[j]! < d[m]!
          · exact h3
          · have h4 := List.le_trans (List.not_lt.1 h3) a1
            exact absurd (List.le_antisymm h4 a2) h
      · rw [List.mem_append, h2, List.mem_singleton]
        constructor
        · rintro (⟨j, hj, rfl⟩ | rfl)
          · exact ⟨j, by omega, rfl⟩
          · exact ⟨m, by omega, rfl⟩
        · rintro ⟨j, hj, rfl⟩
          rcases Nat.lt_or_ge j m with h | h
          · exact .inl ⟨j, h, rfl⟩
          · exact .inr (by rw [show j = m from by omega])
theorem sorted_get {l : List (List UInt8)} (h : l.Pairwise (· ≤ ·)) : ∀ i j, i ≤ j → j < l.toArray.size → l.toArray[i]! ≤ l.toArray[j]! := by
  intro i j hij hj
  have hj' : j < l.length := by simpa using hj
  rw [getElem!_pos l.toArray i (by simp; omega), getElem!_pos l.toArray j hj]
  simp only [List.getElem_toArray]
  rcases Nat.lt_or_ge i j with h1 | h1
  · exact List.pairwise_iff_getElem.1 h i j (by omega) hj' h1
  · have : i = j := by omega
    subst this; exact List.le_refl _
theorem merge_sorted (bs : List (List UInt8)) : (bs.mergeSort fun x y => decide (x ≤ y)).Pairwise (· ≤ ·) :=
  (List.pairwise_mergeSort le_tr le_tot bs).imp fun h => of_decide_eq_true h
theorem sortN_strict (zs : List ByteArray) : (sortN zs).Pairwise (· < ·) := by
  unfold sortN Lib.compact
  exact (compact_inv _ (sorted_get (merge_sorted _)) _ (by simp)).1
theorem sortN_mem (zs : List ByteArray) (x : List UInt8) : x ∈ sortN zs ↔ x ∈ byt zs := by
  unfold sortN Lib.compact
  rw [(compact_inv _ (sorted_get (merge_sorted _)) _ (by simp)).2 x, ← List.mem_mergeSort (le := fun x y => decide (x ≤ y)) (l := byt zs)]
  constructor
  · rintro ⟨j, hj, rfl⟩
    rw [getElem!_pos _ _ (by simpa using hj)]
    simp
  · intro h
    obtain ⟨j, hj, e⟩ := List.mem_iff_getElem.1 h
    exact ⟨j, hj, by rw [getElem!_pos _ _ (by simpa using hj)]; simpa using e⟩
theorem lt_irr {a : List UInt8} (h : a < a) : False := List.lt_irrefl a h
theorem lt_asym {a b : List UInt8} (h : a < b) (h2 : b < a) : False := List.not_lt.2 (List.le_of_lt h) h2
/-- rising lists with the same members are one -/
theorem strict_ext {l m : List (List UInt8)} (hl : l.Pairwise (· < ·)) (hm : m.Pairwise (· < ·)) (h : ∀ x, x ∈ l ↔ x ∈ m) : l = m := by
  induction l generalizing m with
  | nil =>
    cases m with
    | nil => rfl
    | cons b m => have := (h b).2 List.mem_cons_self; cases this
  | cons a l ih =>
    cases m with
    | nil => have := (h a).1 List.mem_cons_self; cases this
    | cons b m =>
      rw [List.pairwise_cons] at hl hm
      have hab : a = b := by
        rcases List.mem_cons.1 ((h a).1 List.mem_cons_self) with e | e
        · exact e
        · rcases List.mem_cons.1 ((h b).2 List.mem_cons_self) with e2 | e2
          · exact e2.symm
          · exact absurd (hl.1 b e2) (fun h3 => lt_asym h3 (hm.1 a e))
      subst hab
      congr 1
      refine ih hl.2 hm.2 fun x => ⟨fun hx => ?_, fun hx => ?_⟩
      · rcases List.mem_cons.1 ((h x).1 (List.mem_cons_of_mem _ hx)) with e | e
        · subst e; exact absurd (hl.1 x hx) lt_irr
        · exact e
      · rcases List.mem_cons.1 ((h x).2 (List.mem_cons_of_mem _ hx)) with e | e
        · subst e; exact absurd (hm.1 x hx) lt_irr
        · exact e
end Go.Proofs.YtoiolepengcagaaDoor
namespace Go.Proofs.YtoiolepengcagaaDoor
open Go.RowKit Go.Shelf Go.Maps Go.Sort Go.ChangeShapes
/-- bytes as strings -/
def bz (bs : List (List UInt8)) : List ByteArray := bs.map fun l => ⟨l.toArray⟩
theorem byt_bz (bs : List (List UInt8)) : byt (bz bs) = bs := by
  unfold byt bz; rw [List.map_map]; exact (List.map_congr_left fun l _ => rfl).trans (List.map_id bs)
theorem bz_byt (zs : List ByteArray) : bz (byt zs) = zs := by
  unfold byt bz; rw [List.map_map]; exact (List.map_congr_left fun l _ => rfl).trans (List.map_id zs)
theorem bz_strs (bs : List (List UInt8)) : strsV (bz bs) = bs.map encStr := by unfold strsV bz; rw [List.map_map]; rfl
theorem bz_len (bs : List (List UInt8)) : (bz bs).length = bs.length := List.length_map ..
/-- what the call owns -/
theorem NL_own {w : World} {base n c : Nat} {g : Option Addr} {zs : List ByteArray} (h : w.ownsRow base 9 1 (.slice g n c) n (strsV zs)) (hs : ∀ s ∈ zs, s.size ≤ 4611686018427387904) (hn : n * 16 ≤ 140737488351232) : NL w g n c zs := by
  have hl : zs.length = n := by have := h.1; simpa [strsV] using this
  refine ⟨⟨hl, Reads.of_own h, hs, by omega⟩, ?_, ?_, hn⟩
  · intro hg
    rcases h.2 with ⟨h1, _⟩ | ⟨b, cap, cur, h1, _⟩
    · injection h1
    · injection h1 with e1 e2 e3; rw [hg] at e1; cases e1
  · intro ad hg
    rcases h.2 with ⟨h1, _⟩ | ⟨b, cap, cur, h1, h2, h3, _⟩
    · injection h1 with e1; rw [hg] at e1; cases e1
    · injection h1 with e1 e2 e3
      rw [hg] at e1
      injection e1 with e1
      exact ⟨b, 0, e1, (Array.getElem?_eq_some_iff.1 h3).1⟩
theorem NL_two (w : World) (x y : ByteArray) (hx : x.size ≤ 4611686018427387904) (hy : y.size ≤ 4611686018427387904) : NL (w.alloc (.cells #[.string x, .string y] 9)) (some ⟨w.heap.size, 0, none⟩) 2 2 [x, y] := by
  refine ⟨⟨rfl, ⟨rfl, fun _ => ⟨_, rfl, by simp, fun j u hu => ?_⟩⟩, ?_, by omega⟩, fun h => (by cases h), fun ad h => ?_, by omega⟩
  rotate_right
  · injection h with h
    exact ⟨w.heap.size, 0, h.symm, by simp⟩
  · match j, hu with
    | 0, hu => injection hu with hu; subst hu; show World.cell? _ ⟨w.heap.size, 0, none⟩ = _; rw [World.cell?_alloc_at _ _ _ _ rfl]; rfl
    | 1, hu => injection hu with hu; subst hu; show World.cell? _ ⟨w.heap.size, 1, none⟩ = _; rw [World.cell?_alloc_at _ _ _ _ rfl]; rfl
  · intro s hs
    rcases List.mem_cons.1 hs with rfl | hs
    · exact hx
    · rw [List.mem_singleton.1 hs]; exact hy
theorem two_sorted : sortN [(⟨#[98]⟩ : ByteArray), ⟨#[97]⟩] = [[97], [98]] :=
  strict_ext (sortN_strict _) (by decide) fun x => by rw [sortN_mem]; simp [byt, or_comm]
theorem two_okN : okN [(⟨#[98]⟩ : ByteArray), ⟨#[97]⟩] 2 := fun j hj => by
  match j, hj with
  | 0, _ => decide +kernel
  | 1, _ => decide +kernel
end Go.Proofs.YtoiolepengcagaaDoor
