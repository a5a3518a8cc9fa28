/- The keys of the call's own map, sorted. Conditions: the map has at most 2^43 entries. -/
import Derived.Test.YtoiolepengcagaaRuleJP
import Derived.Test.YtoiolepengcagaaKeysLay
namespace Go.Proofs.Ytoiolepengcagaa
open Go.RowKit Go.Shelf Go.Maps Go.Sort
theorem strict_sorted {l : List Bs} (h : (l.mergeSort fun x y => decide (x ≤ y)).Pairwise (· ≤ ·)) (hn : l.Nodup) : (l.mergeSort fun x y => decide (x ≤ y)).Pairwise (· < ·) := by
  have h2 : (l.mergeSort fun x y => decide (x ≤ y)).Nodup := (List.mergeSort_perm l _).nodup_iff.2 hn
  refine (h.and h2).imp ?_
  rintro a b ⟨h1, h2⟩
  by_cases h3 : a < b
  · exact h3
  · exact absurd (List.le_antisymm h1 (List.not_lt.1 h3)) h2
theorem merge_le (bs : List Bs) : (bs.mergeSort fun x y => decide (x ≤ y)).Pairwise (· ≤ ·) := by
  have h := List.pairwise_mergeSort (le := fun x y : Bs => decide (x ≤ y)) (fun a b c h1 h2 => by
    simp only [decide_eq_true_eq] at *; exact List.le_trans h1 h2) (fun a b => by
    simp only [Bool.or_eq_true, decide_eq_true_eq]; exact List.le_total a b) bs
  exact h.imp fun h => by simpa using h
theorem MapH.keys {w : World} {B n : Nat} {ks : List Bs} {h : Bs → Value} (hm : MapH w B n ks h) : ∃ D : DataW Value, w.ownsMap Try.prog 9 rawE B n D ∧ Maps.size D ≤ n ∧ (strKeys D).Nodup ∧ ∀ t, t ∈ strKeys D ↔ t ∈ ks := by
  obtain ⟨D, h1, h2, h3⟩ := hm
  have hT := h1.tidy lawS
  have hK := h1.keysOf
  refine ⟨D, h1, ?_, ?_, ?_⟩
  · obtain ⟨es, clock, _, _, hs, rfl⟩ := h1
    show List.length _ ≤ _
    rw [length_sorted]
    simpa using hs
  · obtain ⟨es, rfl, hp⟩ := hT
    obtain ⟨es', he, hk⟩ := hK
    injection he with he
    subst he
    show (es.map fun p => strOf p.1).Nodup
    refine List.pairwise_map.2 (hp.imp_of_mem fun {p q} hp' hq' hne e => hne ?_)
    obtain ⟨ka, ha⟩ := hk p hp'
    obtain ⟨kb, hb⟩ := hk q hq'
    obtain ⟨a, _, ha, _⟩ := Maps.keyOf_str Try.underlying9 ha
    obtain ⟨b, _, hb, _⟩ := Maps.keyOf_str Try.underlying9 hb
    rw [ha, hb] at e ⊢
    exact congrArg _ e
  · intro t
    rw [← h3]
    obtain ⟨es', rfl, hk⟩ := hK
    rw [has_eq, List.any_eq_true]
    show t ∈ es'.map (fun p => strOf p.1) ↔ _
    rw [List.mem_map]
    constructor
    · rintro ⟨p, hp, rfl⟩
      obtain ⟨ka, ha⟩ := hk p hp
      obtain ⟨a, _, ha, _⟩ := Maps.keyOf_str Try.underlying9 ha
      refine ⟨p, hp, ?_⟩
      rw [ha]
      simp [Lit.sameKey, strOf]
    · rintro ⟨p, hp, e⟩
      refine ⟨p, hp, ?_⟩
      rw [WideAt.sameKey_eq e]
      rfl
theorem keys_ok (mb : Option Nat) (W : World) : Calls Try.prog 23 #[.map mb] W fun e w' => e = .returned (.func (.func 37) #[] #[.pointer (some ⟨W.heap.size, 0, none⟩)]) ∧ w' = W.alloc (.cells #[.map mb] 47) :=
  callsIn_wide.1 (Try.maps_Keys_k mb W)
theorem sortedKeys_ok {w : World} {B lo n : Nat} {ks : List Bs} {g : Bs → List ByteArray} (hG : Grp w B lo n ks g) (hn : n ≤ 8796093022208) :
    Calls Try.prog 22 #[.func (.func 37) #[] #[.pointer (some ⟨w.heap.size, 0, none⟩)]] (w.alloc (.cells #[.map (some B)] 47)) fun e w' => ∃ (q : Option Addr) (c : Nat) (us : List Bs), e = .returned (.slice q us.length c) ∧ us.Pairwise (· < ·) ∧ (∀ t, t ∈ us ↔ t ∈ ks) ∧ us.length ≤ n ∧
      w'.ownsRow (w.heap.size + 1) 9 1 (.slice q us.length c) us.length (us.map encStr) ∧ Below (w.heap.size + 1) (w.alloc (.cells #[.map (some B)] 47)) w' := by
  obtain ⟨h, hM, _⟩ := hG
  obtain ⟨D, h1, h2, h3, h4⟩ := hM.keys
  have hs : (w.alloc (.cells #[.map (some B)] 47)).heap.size = w.heap.size + 1 := by simp
  refine (callsIn_wide.1 (Try.sorted_keys B n D rawE w h1 (by unfold maxLen; omega) (by omega))).mono ?_
  rintro e w' ⟨v, ss, rfl, hp, hown, _, hb⟩
  have hln : ss.length = (ss.mergeSort fun x y => decide (x ≤ y)).length := (List.length_mergeSort ss).symm
  have hsz : ss.length ≤ n := by
    have : (strKeys D).length = Maps.size D := by cases D <;> simp [strKeys, Maps.size]
    rw [hp.length_eq, this]; exact h2
  rw [hs] at hown hb
  obtain ⟨q, c, rfl⟩ : ∃ q c, v = .slice q ss.length c := by
    rcases hown.2 with ⟨rfl, h0⟩ | ⟨g', cap, _, rfl, _⟩
    · exact ⟨none, 0, by rw [h0]⟩
    · exact ⟨_, _, rfl⟩
  refine ⟨q, c, ss.mergeSort fun x y => decide (x ≤ y), by rw [← hln], strict_sorted (merge_le ss) (hp.nodup_iff.2 h3), fun t => ?_, by omega, by rw [← hln]; exact hown, hb⟩
  rw [(List.mergeSort_perm ss _).mem_iff, hp.mem_iff, h4]
end Go.Proofs.Ytoiolepengcagaa
