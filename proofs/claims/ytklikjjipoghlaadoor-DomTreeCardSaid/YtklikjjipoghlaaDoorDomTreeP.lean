/- The row of those that rule one, walked up from it; a slice turned round, two slices compared. Conditions: none. -/
import Derived.Test.YtklikjjipoghlaaDoorDomsW
namespace Go.Proofs.YtklikjjipoghlaaDoor
open Go.RowKit Go.Sort
/-- where the walk up stands after k steps -/
def atOf (xs : List Nat) (k : Nat) : Int := if k < xs.length then (xs.getD (xs.length - 1 - k) 0 : Int) else -1
/-- how long a slice is -/
def rowLen : Value → Nat
  | .slice _ n _ => n
  | _ => 0
/-- the steps taken -/
def upto (xs : List Nat) (k : Nat) : List Int := (xs.map fun x : Nat => (x : Int)).reverse.take k
theorem upto_len (xs : List Nat) (k : Nat) (h : k ≤ xs.length) : (upto xs k).length = k := by
  unfold upto; rw [List.length_take, List.length_reverse, List.length_map]; omega
theorem upto_step (xs : List Nat) (k : Nat) (h : k < xs.length) : upto xs k ++ [(xs.getD (xs.length - 1 - k) 0 : Int)] = upto xs (k + 1) := by
  unfold upto
  rw [List.take_add_one]
  congr 1
  rw [List.getElem?_reverse (by rw [List.length_map]; exact h), List.length_map, List.getElem?_map, List.getD_eq_getElem?_getD, List.getElem?_eq_getElem (by omega)]
  rfl
theorem upto_all (xs : List Nat) : upto xs xs.length = (xs.map fun x : Nat => (x : Int)).reverse := by
  unfold upto
  rw [List.take_of_length_le (by simp)]
theorem izs_cast (xs : List Nat) : izs (xs.map fun x : Nat => (x : Int)) = ints xs := by
  unfold izs ints; rw [List.map_map]; rfl
theorem at_step {r D : List B} {root n : Nat} {ds : List Int} {xs : List Nat} (hv : Valid r) (hr : root < r.length) (h : DomDone r root D) (hd : DomsL r D ds) (s : SortD D n xs) {k : Nat} (hk : k < xs.length) :
    xs.getD (xs.length - 1 - k) 0 < r.length ∧ ds.getD (xs.getD (xs.length - 1 - k) 0) 0 = atOf xs (k + 1) := by
  obtain ⟨h1, h2⟩ := doms_up hv hr h hd s (i := xs.length - 1 - k) (by omega)
  refine ⟨h1, ?_⟩
  rw [h2]
  unfold atOf
  by_cases hc : k + 1 < xs.length
  · rw [if_pos (by omega), if_pos hc, show xs.length - 1 - k - 1 = xs.length - 1 - (k + 1) by omega]
  · rw [if_neg (by omega), if_neg hc]
theorem sortD_le {r D : List B} {root n : Nat} {xs : List Nat} (hv : Valid r) (hr : root < r.length) (h : DomDone r root D) (s : SortD D n xs) : xs.length ≤ r.length := by
  have h4 : xs.length ≤ (List.range r.length).length := List.Nodup.length_le_of_subset s.nodup (fun y hy => by
    rw [List.mem_range]
    have h5 := s.perm.mem_iff.1 hy
    exact dom_in hv hr h.1 (mem_lst.1 h5))
  simpa using h4
theorem sortD_other {r D D' : List B} {root n : Nat} {xs : List Nat} (hv : Valid r) (hr : root < r.length) (h : DomDone r root D) (h' : DomDone r root D') (s : SortD D' n xs) : SortD D n xs := by
  have e := dom_uniq hv hr h h'
  refine ⟨by rw [e]; exact s.perm, s.sorted.imp fun hab => ?_⟩
  rw [e, e]; exact hab
theorem reverse_own {w : World} {base n c : Nat} {g : Option Addr} {ls : List Int} (hn : 0 < n) (h : w.ownsRow base 3 1 (.slice g n c) n (izs ls)) :
    Calls Tryd.prog 36 #[.slice g n c] w fun e w' => e = .returned (.tuple #[]) ∧ w'.ownsRow base 3 1 (.slice g n c) n (izs ls.reverse) ∧ w.grownBy w' (Value.slice g n c).ownBlock := by
  have hl : ls.length = n := by have := h.1; simpa [izs] using this
  subst hl
  rcases h.2 with ⟨hnil, _⟩ | ⟨g', cap, cur, hv, hbase, hb, h1, h2, h3, h4⟩
  · injection hnil with e1 e2 e3; omega
  · injection hv with e1 e2 e3
    subst e1 e3
    have h4' : cur.toList.take ls.length = ls.map (Value.int .i64) := by simpa [izs] using h4
    unfold maxLen at h2
    refine (Tryd.slices_Reverse_int g' 0 c ls w (holds_own hb h4') (by omega)).mono ?_
    rintro e w' ⟨rfl, m, rfl⟩
    have ew : putRow (Value.int .i64) (Sort.ahead w m) g' 0 ls.reverse.toArray = sortWorld (Value.int .i64) w g' 0 m ls.reverse.toArray #[] := by unfold sortWorld; rw [grow_empty]
    rw [ew]
    exact ⟨rfl, own_sorted (by simp) hbase hb h1 (by unfold maxLen; omega) h3, grown_sorted _⟩
theorem equal_own {w : World} {b1 b2 n c1 c2 : Nat} {g1 g2 : Option Addr} {ls : List Int} (hn : 0 < n) (h1 : w.ownsRow b1 3 1 (.slice g1 n c1) n (izs ls)) (h2 : w.ownsRow b2 3 1 (.slice g2 n c2) n (izs ls)) :
    Calls Tryd.prog 37 #[.slice g1 n c1, .slice g2 n c2] w fun e w' => e = .returned (.bool true) ∧ ∃ m, w' = w.drewN m := by
  have hl : ls.length = n := by have := h1.1; simpa [izs] using this
  subst hl
  obtain ⟨a1, cap1, hv1, _, _⟩ := h1.form hn
  obtain ⟨a2, cap2, hv2, _, _⟩ := h2.form hn
  injection hv1 with e1 e2 e3
  subst e1 e3
  injection hv2 with e1 e2 e3
  subst e1 e3
  have hbig : ls.length ≤ 9223372036854775807 := by
    rcases h1.2 with ⟨hnil, _⟩ | ⟨g', cap, cur, hv, hbase, hb, k1, k2, k3, k4⟩
    · injection hnil with e1 e2 e3; omega
    · unfold maxLen at k2; omega
  have hcell : ∀ (g c b : Nat) (w : World), w.ownsRow b 3 1 (.slice (some ⟨g, 0, none⟩) ls.length c) ls.length (izs ls) → ∀ j, j < ls.length → w.cell? ⟨g, 0 + j, none⟩ = some (.int .i64 (ls.getD j 0)) := by
    intro g c b w h j hj
    rw [Nat.zero_add, h.cellAt j (by omega)]
    unfold izs
    rw [List.getElem?_map, List.getD_eq_getElem?_getD, List.getElem?_eq_getElem hj]
    rfl
  refine (Tryd.slices_Equal_int a1 0 ls.length c1 a2 0 ls.length c2 ls ls w (Nat.le_refl _) (Nat.le_refl _) (by omega) (by omega) (hcell a1 c1 _ _ h1) (hcell a2 c2 _ _ h2)).mono ?_
  rintro e w' ⟨rfl, q, rfl⟩
  exact ⟨by simp, q, rfl⟩
end Go.Proofs.YtklikjjipoghlaaDoor
