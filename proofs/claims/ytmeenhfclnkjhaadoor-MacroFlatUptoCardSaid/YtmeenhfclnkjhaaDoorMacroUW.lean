/- The walk of macro.Uses. Conditions: the text is at most 2^20 bytes; the machine's MaxLen is laid. -/
import Derived.Test.YtmeenhfclnkjhaaDoorBoxM
namespace Go.Proofs.YtmeenhfclnkjhaaDoor
open Go.RowKit Go.Shelf
def addU (zs : List ByteArray) (n : ByteArray) : List ByteArray := if Lib.containsS zs n = true then zs else zs ++ [n]
/-- what is called for, each once -/
def usesM (l : List Tok) : List ByteArray := ((callsOf l).map txt).foldl addU []
theorem usesM_t (l : List Tok) (s : Bs) : usesM (l ++ [.t s]) = usesM l := by
  unfold usesM callsOf
  rw [List.filterMap_append]
  simp
theorem usesM_c (l : List Tok) (n : Bs) : usesM (l ++ [.c n]) = addU (usesM l) (txt n) := by
  unfold usesM callsOf
  rw [List.filterMap_append]
  simp
theorem addU_mem {zs : List ByteArray} {n x : ByteArray} : x ∈ addU zs n ↔ x ∈ zs ∨ x = n := by
  unfold addU
  split
  · rename_i h
    rw [Lib.containsS_iff] at h
    exact ⟨.inl, fun g => g.elim id (fun e => e ▸ h)⟩
  · simp
theorem foldU_mem {N : List ByteArray} : ∀ {zs : List ByteArray} {x : ByteArray}, x ∈ N.foldl addU zs ↔ x ∈ zs ∨ x ∈ N := by
  induction N with
  | nil => intro zs x; simp
  | cons n N ih =>
    intro zs x
    rw [List.foldl_cons, ih, addU_mem, List.mem_cons, or_assoc]
theorem txt_inj {a b : Bs} (h : txt a = txt b) : a = b := by
  have := congrArg (fun z : ByteArray => z.data.toList) h
  simpa [txt_list] using this
theorem usesM_mem {l : List Tok} {n : Bs} : txt n ∈ usesM l ↔ n ∈ callsOf l := by
  unfold usesM
  rw [foldU_mem, List.mem_map]
  constructor
  · rintro (h | ⟨m, hm, e⟩)
    · cases h
    · rw [← txt_inj e]; exact hm
  · intro h
    exact .inr ⟨n, h, rfl⟩
theorem usesM_txt {l : List Tok} {x : ByteArray} (h : x ∈ usesM l) : ∃ n, x = txt n ∧ n ∈ callsOf l := by
  unfold usesM at h
  rw [foldU_mem, List.mem_map] at h
  rcases h with h | ⟨m, hm, e⟩
  · cases h
  · exact ⟨m, e.symm, hm⟩
theorem addU_nodup {zs : List ByteArray} {n : ByteArray} (h : zs.Nodup) : (addU zs n).Nodup := by
  unfold addU
  split
  · exact h
  · rename_i hn
    rw [Lib.containsS_iff] at hn
    rw [List.nodup_append]
    exact ⟨h, by simp, fun a ha b hb => by rw [List.mem_singleton.1 hb]; rintro rfl; exact hn ha⟩
theorem foldU_nodup {N : List ByteArray} : ∀ {zs : List ByteArray}, zs.Nodup → (N.foldl addU zs).Nodup := by
  induction N with
  | nil => intro zs h; exact h
  | cons n N ih => intro zs h; rw [List.foldl_cons]; exact ih (addU_nodup h)
theorem usesM_nodup (l : List Tok) : (usesM l).Nodup := foldU_nodup List.nodup_nil
theorem calls_len : ∀ (k : Nat) (s : Bs), s.length ≤ k → (callsOf (prs okM s).1).length ≤ s.length := by
  intro k
  induction k with
  | zero =>
    intro s hk
    have : s = [] := List.length_eq_zero_iff.1 (by omega)
    subst this
    rw [prs_last (s := []) (by simp)]
    simp [callsOf]
  | succ k ih =>
    intro s hk
    rcases txt_cases s with h1 | ⟨a, r, ha, rfl⟩ | ⟨a, n, r, ha, hn, rfl⟩ | ⟨a, r, ha, hr, rfl⟩ | ⟨a, r, ha, h1, h2, rfl⟩
    · rw [prs_last h1]; simp [callsOf]
    · rw [prs_esc ha]
      have := ih r (by simp at hk; omega)
      simp only [callsOf, List.filterMap_cons, List.length_append, List.length_cons] at this ⊢
      omega
    · rw [prs_call ha hn]
      by_cases hok : okM n = true
      · rw [if_pos hok]
        have := ih r (by simp at hk; omega)
        simp only [callsOf, List.filterMap_cons, List.length_append, List.length_cons] at this ⊢
        omega
      · rw [if_neg hok]; simp [callsOf]
    · rw [prs_open ha hr]; simp [callsOf]
    · rw [prs_bad ha h1 h2]; simp [callsOf]
theorem usesM_len (s : Bs) : (usesM (prs okM s).1).length ≤ s.length := by
  refine Nat.le_trans ?_ (calls_len _ s (Nat.le_refl _))
  refine Nat.le_trans (List.Nodup.length_le_of_subset (usesM_nodup _) (fun x hx => ?_ : usesM (prs okM s).1 ⊆ (callsOf (prs okM s).1).map txt)) (by rw [List.length_map]; exact Nat.le_refl _)
  obtain ⟨n, rfl, hn⟩ := usesM_txt hx
  exact List.mem_map_of_mem hn
/-- the names that a text has called for so far lie in the box ob -/
def UsesJ (w : World) (ob : Nat) (s : Bs) (pre : List Tok) (W : World) : Prop :=
  ∃ v, W.heap[ob]? = some (.cells #[v] 35 (0, 0)) ∧ W.ownsRow (ob + 1) 9 1 v (usesM pre).length (strsV (usesM pre)) ∧ Below ob w W ∧ MLm W ∧ ∀ x ∈ usesM pre, x ∈ usesM (prs okM s).1
set_option maxHeartbeats 1000000 in
theorem uses1_ok (ob : Nat) (v : Value) (zs : List ByteArray) (n : ByteArray) (w : World) (hb : w.heap[ob]? = some (.cells #[v] 35 (0, 0))) (hown : w.ownsRow (ob + 1) 9 1 v zs.length (strsV zs)) (hl : zs.length ≤ 1048576) :
    Calls Tryd.prog 52 (#[.string n] ++ #[.pointer (some ⟨ob, 0, none⟩)]) w fun e w' => e = .returned (.tuple #[]) ∧ ∃ v', w'.heap[ob]? = some (.cells #[v'] 35 (0, 0)) ∧ w'.ownsRow (ob + 1) 9 1 v' (addU zs n).length (strsV (addU zs n)) ∧ Below ob w w' := by
  obtain ⟨c1, f1⟩ := mx1 hb
  have hlt := mlt hb
  have HB := Lib.hid hb
  have HO := Lib.hid hown
  have HC := Lib.hid (owns_contains hown (by omega) n)
  show Calls _ _ #[.string n, .pointer (some ⟨ob, 0, none⟩)] _ _
  clear hb hown
  cases hc : Lib.containsS zs n
  · rw [hc] at HC
    have HA : Hid (addU zs n = zs ++ [n]) := by show _ = _; unfold addU; rw [hc]; rfl
    go_enter Tryd.func52, Tryd.ntmps52
    go_upto_region 1 with (go_at_call 24; refine HC.out.mono ?_; rintro e w1 ⟨rfl, hw1⟩; rw [hw1]; clear hw1)
    obtain ⟨W1, hW1⟩ : ∃ W1, W1 = w.alloc (.cells #[.string n] 9) := ⟨_, rfl⟩
    have HB1 : Hid (W1.heap[ob]? = some (.cells #[v] 35 (0, 0))) := by show _ = _; rw [hW1, mhao _ _ _ hlt]; exact HB.out
    have HO1 : Hid (W1.ownsRow (ob + 1) 9 1 v zs.length (strsV zs)) := by show World.ownsRow _ _ _ _ _ _ _; rw [hW1]; exact own_none HO.out (World.grownBy_alloc _ _ _)
    have HN1 : Hid (W1.cell? ⟨w.heap.size, 0, none⟩ = some (.string n)) := by show _ = _; rw [hW1, World.cell?_alloc_at _ _ _ _ rfl]; rfl
    have HS1 : Hid (w.heap.size < W1.heap.size) := by show _ < _; rw [hW1]; simp
    have HBl : Hid (Below ob w W1) := by show Below _ _ _; rw [hW1]; exact (Below.refl _ _).alloc (by omega) _
    rw [hW1] at HB1 HO1 HN1 HS1 HBl
    have hba := (mx1 HB1.out).1
    clear hW1
    go_wp2_with (at_builtin; go_loud (refine app_str _ rfl _ _ rfl (ob + 1) _ zs.length _ rfl HO1.out w.heap.size (.string n) rfl rfl HN1.out (by omega) (by have := HS1.out; omega) ?_; intro v' w2 h1 h2; have hb2 := box_kept HB1.out HO1.out (Nat.lt_succ_self _) h2; obtain ⟨d1, d2⟩ := mx1 hb2; have HB2 := Lib.hid hb2; have HG : Hid (Below ob w w2) := HBl.out.grown h2 (Nat.le_of_lt (mlt HB1.out)) (fun k hk => Nat.le_of_lt (HO1.out.lt k hk).1); obtain ⟨gv, cv, rfl⟩ := mown_form h1; have HX := Lib.hid h1; clear h1 h2 hb2))

    first | (refine bodyPost_ret (results_none rfl _ _ _) rfl ?_) | (refine bodyPost_end (results_none rfl _ _ _) rfl ?_)
    refine ⟨rfl, _, mx1_set HB2.out _, ?_, HG.out.setCell (Nat.le_refl _) _⟩
    rw [HA.out, List.length_append, strsV_snoc]
    exact own_at HX.out (mgrown_set _ _ _) (Nat.lt_succ_self _)
  · rw [hc] at HC
    have HA : Hid (addU zs n = zs) := by show _ = _; unfold addU; rw [hc]; rfl
    go_enter Tryd.func52, Tryd.ntmps52
    go_wp2_with (go_at_call 24; refine HC.out.mono ?_; rintro e w1 ⟨rfl, hw1⟩; rw [hw1]; clear hw1)
    first | (refine bodyPost_ret (results_none rfl _ _ _) rfl ?_) | (refine bodyPost_end (results_none rfl _ _ _) rfl ?_)
    exact ⟨rfl, v, HB.out, by rw [HA.out]; exact HO.out, Below.refl _ _⟩
theorem nothing_ok (s : ByteArray) (w : World) : Calls Tryd.prog 51 (#[.string s] ++ #[]) w fun e w' => e = .returned (.tuple #[]) ∧ w = w' := by
  show Calls _ _ #[.string s] _ _
  go_enter Tryd.func51, Tryd.ntmps51
  go_wp2
  first | (refine bodyPost_ret (results_none rfl _ _ _) rfl ?_) | (refine bodyPost_end (results_none rfl _ _ _) rfl ?_)
  exact ⟨rfl, rfl⟩
def usesE (s : Bs) : Int := if (prs okM s).2 = true then 0 else 3
/-- what Uses answers -/
def UsesPost (w : World) (s : Bs) (e : Ending) (w' : World) : Prop :=
  (∃ v, e = .returned (.tuple #[v, .int .i64 (usesE s)]) ∧ ((usesE s = 0 ∧ w'.ownsRow w.heap.size 9 1 v (usesM (prs okM s).1).length (strsV (usesM (prs okM s).1))) ∨ (usesE s ≠ 0 ∧ v = .slice none 0 0))) ∧ Below w.heap.size w w'
set_option maxHeartbeats 2000000 in
theorem Uses_ok (s : Bs) (hs : s.length ≤ 1048576) (w : World) (hM : MLm w) : Calls Tryd.prog 34 #[.string (txt s)] w (UsesPost w s) := by
  have hF : Feeds s (UsesJ w w.heap.size s) 51 #[] 52 #[.pointer (some ⟨w.heap.size, 0, none⟩)] := by
    refine ⟨enters_of Tryd.func51 (by kernel_rfl) rfl, enters_of Tryd.func52 (by kernel_rfl) rfl, ?_, ?_, ?_, ?_⟩
    · rintro pre x W ⟨v, h1, h2, h3, h4, h5⟩ _
      refine (nothing_ok (txt x) W).mono ?_
      rintro e w' ⟨rfl, rfl⟩
      exact ⟨rfl, v, h1, by rw [usesM_t]; exact h2, h3, h4, by rw [usesM_t]; exact h5⟩
    · rintro pre n W ⟨v, h1, h2, h3, h4, h5⟩ hn _
      have hl : (usesM pre).length ≤ 1048576 := Nat.le_trans (List.Nodup.length_le_of_subset (usesM_nodup _) (fun x hx => h5 x hx : usesM pre ⊆ usesM (prs okM s).1)) (Nat.le_trans (usesM_len s) hs)
      refine (uses1_ok w.heap.size v (usesM pre) (txt n) W h1 h2 hl).mono ?_
      rintro e w' ⟨rfl, v', g1, g2, g3⟩
      refine ⟨rfl, v', g1, by rw [usesM_c]; exact g2, h3.trans (g3.mono (Nat.le_refl _)), ?_, fun x hx => ?_⟩
      · obtain ⟨m, hm⟩ := hM
        exact ⟨m, ((h3.trans (g3.mono (Nat.le_refl _))).cell (World.block_lt_of_cell? w _ hm)).trans hm⟩
      · rw [usesM_c, addU_mem] at hx
        rcases hx with hx | rfl
        · exact h5 x hx
        · exact usesM_mem.2 (callsOf_mem.2 hn)
    · rintro pre W ⟨v, h1, h2, h3, h4, h5⟩
      exact h4
    · rintro pre W n ⟨v, h1, h2, h3, h4, h5⟩
      exact ⟨v, h1, own_none h2 ⟨rfl, rfl, rfl, Nat.le_refl _, fun _ _ _ => rfl⟩, below_drawsP h3 n, h4.drew n, h5⟩
  obtain ⟨W1, hW1⟩ : ∃ W1, W1 = w.alloc (.cells #[.slice none 0 0] 35) := ⟨_, rfl⟩
  have hb1 : Below w.heap.size w W1 := by rw [hW1]; exact (Below.refl _ _).alloc (Nat.le_refl _) _
  have h0 : UsesJ w w.heap.size s [] W1 := by
    refine ⟨.slice none 0 0, by rw [hW1]; exact mhan _ _, World.ownsRow_nil _ _ _ _, hb1, hM.below hb1, fun x hx => by cases hx⟩
  have HP := Lib.hid (parseM_ok s _ _ _ _ _ hF hs W1 h0)
  clear hF h0 hM hb1
  cases hp : (prs okM s).2
  · rw [hp] at HP
    have HE : Hid (usesE s = 3) := by show _ = _; unfold usesE; rw [hp]; rfl
    clear hp
    go_enter Tryd.func34, Tryd.ntmps34
    go_upto_region 2 with fail
    rw [← hW1]
    clear hW1
    go_wp2_with (go_at_call 50; refine HP.out.mono ?_; rintro e w2 ⟨rfl, v, h1, h2, h3, h4, h5⟩; have HB := Lib.hid h3; clear h1 h2 h3 h4 h5)
    go_ret2
    exact ⟨⟨.slice none 0 0, by rw [HE.out]; rfl, .inr ⟨by rw [HE.out]; decide, rfl⟩⟩, HB.out⟩
  · rw [hp] at HP
    have HE : Hid (usesE s = 0) := by show _ = _; unfold usesE; rw [hp]; rfl
    clear hp
    go_enter Tryd.func34, Tryd.ntmps34
    go_upto_region 2 with fail
    rw [← hW1]
    clear hW1
    go_wp2_with (go_at_call 50; refine HP.out.mono ?_; rintro e w2 ⟨rfl, v, h1, h2, h3, h4, h5⟩; have c1 := (mx1 h1).1; have HO := Lib.hid h2; have HB := Lib.hid h3; clear h1 h2 h3 h4 h5)
    go_ret2
    exact ⟨⟨v, by rw [HE.out]; rfl, .inl ⟨HE.out, own_low HO.out (by omega)⟩⟩, HB.out⟩
end Go.Proofs.YtmeenhfclnkjhaaDoor
