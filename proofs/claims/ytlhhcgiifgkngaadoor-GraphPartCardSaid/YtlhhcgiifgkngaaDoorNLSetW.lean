/- slices.Contains and Equal at slices of strings; sorted names sorted again. Conditions: none. -/
import Derived.Test.YtlhhcgiifgkngaaDoorNamesW
import Derived.Test.YtlhhcgiifgkngaaDoorStemW
namespace Go.Proofs.YtlhhcgiifgkngaaDoor
open Go.RowKit Go.Shelf
theorem mem_byt {zs : List ByteArray} {x : ByteArray} : x.data.toList ∈ byt zs ↔ x ∈ zs := by
  unfold byt
  rw [List.mem_map]
  constructor
  · rintro ⟨y, hy, e⟩
    have : y = x := by
      cases x; cases y
      congr 1
      exact Array.toList_inj.1 e
    rwa [this] at hy
  · intro h; exact ⟨x, h, rfl⟩
theorem mem_bz {bs : List (List UInt8)} {x : ByteArray} : x ∈ bz bs ↔ x.data.toList ∈ bs := by
  rw [← mem_byt, byt_bz]
theorem sortN_mem_bz {zs : List ByteArray} {x : ByteArray} : x ∈ bz (sortN zs) ↔ x ∈ zs := by
  rw [mem_bz, sortN_mem, mem_byt]
theorem sort_again (zs : List ByteArray) : sortN (bz (sortN zs)) = sortN zs :=
  strict_ext (sortN_strict _) (sortN_strict _) fun x => by rw [sortN_mem, byt_bz]
theorem sort_ext {zs ys : List ByteArray} (h : ∀ x, x ∈ zs ↔ x ∈ ys) : sortN zs = sortN ys :=
  strict_ext (sortN_strict _) (sortN_strict _) fun l => by
    rw [sortN_mem, sortN_mem]
    have := h ⟨l.toArray⟩
    rw [← mem_byt, ← mem_byt] at this
    exact this
theorem sortN_len (zs : List ByteArray) : (sortN zs).length ≤ zs.length := by
  unfold sortN
  refine Nat.le_trans (Lib.compact_length_le _) ?_
  rw [List.length_mergeSort, byt_len]; exact Nat.le_refl _
theorem okN_mem {zs : List ByteArray} {n : Nat} (hl : zs.length = n) : okN zs n ↔ ∀ s ∈ zs, nameE s = 0 := by
  subst hl
  constructor
  · intro h s hs
    obtain ⟨j, hj, e⟩ := List.mem_iff_getElem.1 hs
    have := h j hj
    rw [List.getD_eq_getElem?_getD, List.getElem?_eq_getElem hj] at this
    rw [← e]; exact this
  · intro h j hj
    refine h _ ?_
    rw [List.getD_eq_getElem?_getD, List.getElem?_eq_getElem hj]; exact List.getElem_mem hj
theorem okN_again {zs : List ByteArray} {n : Nat} (hl : zs.length = n) (h : okN zs n) : okN (bz (sortN zs)) (sortN zs).length := by
  rw [okN_mem (bz_len _)]
  rw [okN_mem hl] at h
  exact fun s hs => h s (sortN_mem_bz.1 hs)
theorem nameE_size {s : ByteArray} (h : nameE s = 0) : s.size ≤ 40 := by
  unfold nameE at h
  split at h
  · cases h
  · omega
/-- what Sort answers, as a slice of strings -/
theorem NL_sorted {w : World} {n : Nat} {zs : List ByteArray} {g : Option Addr} {c b : Nat} (hl : zs.length = n) (hok : okN zs n) (hn : n * 16 ≤ 140737488351232)
    (h : w.ownsRow b 9 1 (.slice g (sortN zs).length c) (sortN zs).length ((sortN zs).map encStr)) : NL w g (sortN zs).length c (bz (sortN zs)) := by
  rw [← bz_strs] at h
  refine NL_own h (fun s hs => ?_) ?_
  · have h1 := (okN_mem hl).1 hok s (sortN_mem_bz.1 hs)
    have h2 := nameE_size h1
    omega
  · have := sortN_len zs
    rw [hl] at this
    omega
theorem NL.cellAt {w : World} {n c b o : Nat} {zs : List ByteArray} (h : NL w (some ⟨b, o, none⟩) n c zs) : ∀ j, j < zs.length → w.cell? ⟨b, o + j, none⟩ = some (.string (zs.getD j ByteArray.empty)) := by
  intro j hj
  have hl := h.at_.len
  obtain ⟨ad, e, _, hc⟩ := str_at h.at_.reads (show j < n by omega)
  injection e with e
  subst e
  rwa [Addr.add_lit] at hc
theorem has_iff {zs : List ByteArray} {x : ByteArray} : Lib.containsS zs x = true ↔ x ∈ zs := Lib.containsS_iff ..
theorem nl_equal {w : World} {p q : Option Addr} {n c d : Nat} {zs : List ByteArray} (h : NL w p n c zs) (h2 : NL w q n d zs) :
    Calls Tryd.prog 24 #[.slice p n c, .slice q n d] w fun e w' => e = .returned (.bool true) ∧ ∃ k, w' = w.drewN k := by
  have hl := h.at_.len
  have hb := h.at_.big
  subst hl
  rcases Nat.eq_zero_or_pos zs.length with h0 | h0
  · have : zs = [] := List.length_eq_zero_iff.1 h0
    subst this
    refine (Tryd.slices_Equal_string_empty p q c 0 d w (by omega)).mono ?_
    rintro e w' ⟨he, rfl⟩
    exact ⟨by simpa using he, 0, rfl⟩
  · obtain ⟨ad, rfl, _⟩ := h.at_.reads.2 h0
    obtain ⟨b, o, rfl, _⟩ := h.plain _ rfl
    obtain ⟨ad, rfl, _⟩ := h2.at_.reads.2 h0
    obtain ⟨b2, o2, rfl, _⟩ := h2.plain _ rfl
    refine (Tryd.slices_Equal_string b o zs.length c b2 o2 zs.length d zs zs w (Nat.le_refl _) (Nat.le_refl _) (by omega) (by omega) h.cellAt h2.cellAt).mono ?_
    rintro e w' ⟨he, hw⟩
    exact ⟨by simpa using he, hw⟩
theorem NL.drew {w : World} {p : Option Addr} {n c : Nat} {zs : List ByteArray} (h : NL w p n c zs) (k : Nat) : NL (w.drewN k) p n c zs := h.below (below_drawsP (Below.refl _ _) k)
end Go.Proofs.YtlhhcgiifgkngaaDoor
