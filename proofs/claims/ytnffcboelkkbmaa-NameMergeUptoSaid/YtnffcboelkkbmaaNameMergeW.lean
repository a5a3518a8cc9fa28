/- The law NameMerge. Conditions: the slices read as listed; together of at most a million elements. -/
import Derived.Test.YtnffcboelkkbmaaConcatW
import Derived.Test.YtnffcboelkkbmaaNLArg
namespace Go.Proofs.Ytnffcboelkkbmaa
open Go.RowKit Go.Shelf
def mergeE (us : List ByteArray) : Int := if (us.all fun s => nameE s == 0) then (if 64 < (sortN us).length then 2 else 0) else 3
theorem all_ok (us : List ByteArray) : (us.all fun s => nameE s == 0) = true ↔ okN us us.length := by
  rw [okN_mem rfl, List.all_eq_true]
  simp
theorem mergeE_ext {us vs : List ByteArray} (h : ∀ x, x ∈ us ↔ x ∈ vs) : mergeE us = mergeE vs := by
  unfold mergeE
  rw [sort_ext h]
  have : (us.all fun s => nameE s == 0) = (vs.all fun s => nameE s == 0) := by
    rw [Bool.eq_iff_iff, List.all_eq_true, List.all_eq_true]
    exact ⟨fun g x hx => g x ((h x).2 hx), fun g x hx => g x ((h x).1 hx)⟩
  rw [this]
/-- what Merge answers -/
def MergePost (w : World) (us : List ByteArray) (e : Ending) (w' : World) : Prop :=
  ∃ (g : Option Addr) (n c : Nat), e = .returned (.tuple #[.slice g n c, .int .i64 (mergeE us)]) ∧ Below w.heap.size w w' ∧ ((mergeE us ≠ 0 ∧ n = 0) ∨ (mergeE us = 0 ∧ n = (sortN us).length ∧ NL w' g n c (bz (sortN us))))
set_option maxHeartbeats 4000000 in
theorem Merge_ok (p q : Option Addr) (n c m d : Nat) (zs ys : List ByteArray) (w : World) (h1 : NL w p n c zs) (h2 : NL w q m d ys) (hsum : n + m ≤ 2097152) :
    Calls Try.prog 18 #[.slice p n c, .slice q m d] w (MergePost w (zs ++ ys)) := by
  have hl1 := h1.at_.len
  have hl2 := h2.at_.len
  subst hl1 hl2
  have hb0 : Below w.heap.size w (w.alloc (.cells #[.slice p zs.length c, .slice q ys.length d] 22)) := (Below.refl _ _).alloc (Nat.le_refl _) _
  have hs0 : w.heap.size < (w.alloc (.cells #[.slice p zs.length c, .slice q ys.length d] 22)).heap.size := by simp
  have e1 : (w.alloc (.cells #[.slice p zs.length c, .slice q ys.length d] 22)).cell? ⟨w.heap.size, 0, none⟩ = some (.slice p zs.length c) := by rw [World.cell?_alloc_at _ _ _ _ rfl]; rfl
  have e2 : (w.alloc (.cells #[.slice p zs.length c, .slice q ys.length d] 22)).cell? ⟨w.heap.size, 1, none⟩ = some (.slice q ys.length d) := by rw [World.cell?_alloc_at _ _ _ _ rfl]; rfl
  have HCat := Lib.hid (concat_ok w.heap.size p q zs.length c ys.length d zs ys _ (h1.below hb0) (h2.below hb0) (by omega) hs0 e1 e2)
  have HB0 := Lib.hid hb0
  clear hb0 hs0 e1 e2
  have HSZ : Hid (∀ s ∈ zs ++ ys, s.size ≤ 4611686018427387904) := by
    show ∀ s ∈ zs ++ ys, _
    intro s hs
    rcases List.mem_append.1 hs with h | h
    · exact h1.at_.size s h
    · exact h2.at_.size s h
  have hlen : (zs ++ ys).length ≤ 2097152 := by rw [List.length_append]; exact hsum
  clear h1 h2 hsum
  obtain ⟨us, hus⟩ : ∃ us, us = zs ++ ys := ⟨_, rfl⟩
  rw [← hus] at HCat HSZ hlen ⊢
  clear hus
  go_enter Try.func18, Try.ntmps18
  go_wp2_with fail
  refine HCat.out.mono ?_
  rintro e w1 ⟨g, cg, rfl, hown, hb1⟩
  have HB1 := Lib.hid (HB0.out.trans (hb1.mono HB0.out.size))
  have HN := Lib.hid (NL_own hown HSZ.out (by omega))
  clear hown hb1 HB0 HCat HSZ
  by_cases hok : okN us us.length
  · have HOK := Lib.hid hok
    go_wp2_with fail
    refine (Sort_yes _ _ _ us _ HN.out hok).mono ?_
    rintro e w2 ⟨g2, c2, rfl, hown2, hb2⟩
    have HB2 := Lib.hid (HB1.out.trans (hb2.mono HB1.out.size))
    have HN2 := Lib.hid (NL_sorted rfl hok HN.out.reach hown2)
    have hbig := HN2.out.at_.big
    clear hown2 hb2
    by_cases h64 : 64 < (sortN us).length
    · have HE : Hid (mergeE us = 2) := by show _ = _; unfold mergeE; rw [if_pos ((all_ok us).2 HOK.out), if_pos h64]
      generalize (sortN us).length = k at *
      go_wp2
      go_ret2
      exact ⟨none, 0, 0, by rw [HE.out]; rfl, HB2.out, .inl ⟨by rw [HE.out]; decide, rfl⟩⟩
    · have HE : Hid (mergeE us = 0) := by show _ = _; unfold mergeE; rw [if_pos ((all_ok us).2 HOK.out), if_neg h64]
      have HN3 : Hid (NL w2 g2 (sortN us).length c2 (bz (sortN us))) := HN2
      obtain ⟨k, hk⟩ : ∃ k, k = (sortN us).length := ⟨_, rfl⟩
      rw [← hk] at hbig h64 HN3 ⊢
      have HK := Lib.hid hk
      clear hk HN2
      go_wp2
      go_ret2
      exact ⟨g2, k, c2, by rw [HE.out]; rfl, HB2.out, .inr ⟨HE.out, HK.out, HN3.out⟩⟩
  · have HE : Hid (mergeE us = 3) := by show _ = _; unfold mergeE; rw [if_neg (fun h => hok ((all_ok us).1 h))]
    go_wp2_with fail
    refine (Sort_no _ _ _ us _ HN.out.at_ hok).mono ?_
    rintro e w2 ⟨rfl, rfl⟩
    go_wp2
    go_ret2
    exact ⟨none, 0, 0, by rw [HE.out]; rfl, HB1.out, .inl ⟨by rw [HE.out]; decide, rfl⟩⟩
theorem mem_comm (zs ys : List ByteArray) (x : ByteArray) : x ∈ zs ++ ys ↔ x ∈ ys ++ zs := by rw [List.mem_append, List.mem_append, or_comm]
theorem mem_twice (us : List ByteArray) (x : ByteArray) : x ∈ bz (sortN us) ++ bz (sortN us) ↔ x ∈ us := by rw [List.mem_append, or_self, sortN_mem_bz]
set_option maxHeartbeats 4000000 in
theorem nameMerge_walk (p q : Option Addr) (n c m d : Nat) (w : World) (h1 : NLArg w p n c) (h2 : NLArg w q m d) (hsum : n + m ≤ 1048576) :
    Calls Try.prog 5 #[.slice p n c, .slice q m d] w fun e w' => e = .returned (.bool true) ∧ Below w.heap.size w w' := by
  obtain ⟨zs, h1⟩ := h1
  obtain ⟨ys, h2⟩ := h2
  have H1 := Lib.hid h1
  have H2 := Lib.hid h2
  clear h1 h2
  have HX := Lib.hid (mergeE_ext (mem_comm ys zs))
  have HSX := Lib.hid (sort_ext (mem_comm ys zs))
  go_enter Try.func5, Try.ntmps5
  go_wp2_with fail
  refine (names_below w).mono ?_
  rintro e w1 ⟨rfl, hb1⟩
  have HB1 := Lib.hid hb1
  clear hb1
  go_wp2_with fail
  refine (Merge_ok p q n c m d zs ys _ (H1.out.below HB1.out) (H2.out.below HB1.out) (by omega)).mono ?_
  rintro e w2 ⟨g, ka, ca, rfl, hb2, ha⟩
  have HA := Lib.hid ha
  have HB2 := Lib.hid (HB1.out.trans (hb2.mono HB1.out.size))
  clear ha hb2
  go_wp2_with fail
  refine (Merge_ok q p m d n c ys zs _ (H2.out.below HB2.out) (H1.out.below HB2.out) (by omega)).mono ?_
  rintro e w3 ⟨g3, kb, cb, rfl, hb3, hb⟩
  rw [HX.out] at hb ⊢
  rw [HSX.out] at hb
  have HBB := Lib.hid hb
  have HB3 := Lib.hid (HB2.out.trans (hb3.mono HB2.out.size))
  have HB23 := Lib.hid hb3
  clear hb hb3 HX HSX
  obtain ⟨us, hus⟩ : ∃ us, us = zs ++ ys := ⟨_, rfl⟩
  rw [← hus] at HA HBB ⊢
  clear hus
  obtain ⟨E, hE⟩ : ∃ E, E = mergeE us := ⟨_, rfl⟩
  rw [← hE] at HA HBB ⊢
  rcases HA.out with ⟨k1, rfl⟩ | ⟨k1, k2, k3⟩
  · rcases HBB.out with ⟨_, rfl⟩ | ⟨h, _⟩
    · obtain ⟨i1, i2⟩ := int_ne' k1
      clear HA HBB hE
      go_wp2
      go_ret
      exact ⟨by simp, HB3.out⟩
    · exact absurd h k1
  · rcases HBB.out with ⟨h, _⟩ | ⟨j1, j2, j3⟩
    · exact absurd k1 h
    · subst k1
      have HEE := Lib.hid hE
      have HK2 := Lib.hid k2
      have HKA := Lib.hid (k3.below HB23.out)
      obtain rfl : kb = ka := by omega
      have HKB := Lib.hid j3
      have h64 : kb ≤ 64 := by
        have h := HEE.out
        unfold mergeE at h
        rw [HK2.out]
        split at h
        · split at h
          · cases h
          · omega
        · cases h
      have hbig := HKA.out.at_.big
      clear HA HBB hE k2 k3 j1 j2 j3
      go_wp2_with fail
      refine (Merge_ok g g kb ca kb ca _ _ _ HKA.out HKA.out (by omega)).mono ?_
      rintro e w4 ⟨g4, kc, cc, rfl, hb4, hc⟩
      have hEc : mergeE (bz (sortN us) ++ bz (sortN us)) = 0 := (mergeE_ext (mem_twice us)).trans HEE.out.symm
      have hSc : sortN (bz (sortN us) ++ bz (sortN us)) = sortN us := sort_ext (mem_twice us)
      rw [hEc, hSc] at hc
      rw [hEc]
      rcases hc with ⟨h, _⟩ | ⟨_, hkc, hc⟩
      · exact absurd rfl h
      · obtain rfl : kc = kb := by rw [hkc, HK2.out]
        have HB4 := Lib.hid (HB3.out.trans (hb4.mono HB3.out.size))
        have HQA := Lib.hid (HKA.out.below hb4)
        have HQB := Lib.hid (HKB.out.below hb4)
        have HQC := Lib.hid hc
        clear hc hb4 hkc hEc hSc HKA HKB HK2 HEE
        go_wp2_with fail
        refine (nl_equal HQA.out HQB.out).mono ?_
        rintro e w5 ⟨rfl, m1, rfl⟩
        go_wp2_with fail
        refine (nl_equal (HQA.out.drew m1) (HQC.out.drew m1)).mono ?_
        rintro e w6 ⟨rfl, m2, rfl⟩
        go_wp2
        go_ret
        exact ⟨rfl, below_drawsP HB4.out (m1 + m2)⟩
end Go.Proofs.Ytnffcboelkkbmaa
