/- Rules that are handed in, and those that Join made, can be asked. Conditions: none. -/
import Derived.Test.YtmeenhfclnkjhaaDoorRuleHasW
namespace Go.Proofs.YtmeenhfclnkjhaaDoor
open Go.RowKit Go.Shelf
theorem con_nl {w : World} {x : Hd} (h : x.ok w) : Con w x := by
  intro u hu t
  obtain ⟨p, n, c, zs⟩ := x
  have hn := h.1.below hu
  simp only at hn
  have hl := hn.at_.len
  have hb := hn.at_.big
  subst hl
  simp only
  rcases Nat.eq_zero_or_pos zs.length with h0 | h0
  · have : zs = [] := List.length_eq_zero_iff.1 h0
    subst this
    exact Tryd.slices_Contains_string_empty p c t u
  · obtain ⟨ad, rfl, _⟩ := hn.at_.reads.2 h0
    obtain ⟨b, o, rfl, _⟩ := hn.plain h0 _ rfl
    have := Tryd.slices_Contains_string b o zs.length c zs t u (Nat.le_refl _) (by omega) (fun j hj => by
      have h1 := nlr_cell hn (List.getElem?_eq_getElem hj)
      rw [List.getD_eq_getElem?_getD, List.getElem?_eq_getElem hj]
      exact h1)
    rw [List.take_length] at this
    exact this
theorem con_own {w : World} {lo : Nat} {x : Hd} (h : w.ownsRow lo 9 1 x.v x.zs.length (strsV x.zs)) (hn : x.zs.length ≤ 9223372036854775807) : Con w x := by
  intro u hu t
  have h2 : u.ownsRow lo 9 1 x.v x.zs.length (strsV x.zs) := h.kept (grown_below hu) (by
    cases hq : x.v.ownBlock with
    | none => exact .inl rfl
    | some k => exact .inr (by simp))
  exact own_contains h2 hn t
theorem RulesIn.ask {w : World} {p : Option Addr} {n c : Nat} {l : List (Hd × Hd)} (h : RulesIn w p n c l) : AskR w p n c l :=
  ⟨h.at_, fun x hx => ⟨con_nl (h.ok x hx).1, con_nl (h.ok x hx).2⟩⟩
/-- what Join made: has and is say of it what they say of the rules -/
theorem join_has {l : List (Hd × Hd)} {us : List Bs} {h : Bs → Value} {rs : List (Hd × Hd)} (hu : ∀ t, t ∈ us ↔ Targ (l.map rl) t)
    (hz : rs.map (fun x => (x.1.zs, x.2)) = us.map fun u => ([txt u], hdOf (h u) (grpR (l.map rl) (fun _ => []) u))) (hh : ∀ u, (hdOf (h u) (grpR (l.map rl) (fun _ => []) u)).zs = grpR (l.map rl) (fun _ => []) u) (t n : ByteArray) :
    rs.any (hasB t n) = l.any (hasB t n) ∧ rs.any (isB2 t) = l.any (isB2 t) := by
  have hmem : ∀ (T : List ByteArray) (N : Hd), (∃ x ∈ rs, x.1.zs = T ∧ x.2 = N) ↔ ∃ u ∈ us, [txt u] = T ∧ hdOf (h u) (grpR (l.map rl) (fun _ => []) u) = N := by
    intro T N
    have h1 : (T, N) ∈ rs.map (fun x => (x.1.zs, x.2)) ↔ (T, N) ∈ us.map fun u => ([txt u], hdOf (h u) (grpR (l.map rl) (fun _ => []) u)) := by rw [hz]
    simpa [List.mem_map] using h1
  have one : ∀ u : Bs, Lib.containsS [txt u] t = true ↔ u = t.data.toList := by
    intro u
    rw [Lib.containsS_iff, List.mem_singleton]
    constructor
    · rintro rfl; rw [txt_list]
    · rintro rfl; rw [list_txt]
  have targ : ∀ x ∈ l, Lib.containsS x.1.zs t = true → t.data.toList ∈ us := fun x hx h1 =>
    (hu _).2 ⟨rl x, List.mem_map_of_mem hx, List.mem_map_of_mem (by rw [Lib.containsS_iff] at h1; exact h1)⟩
  constructor
  · rw [Bool.eq_iff_iff, List.any_eq_true, List.any_eq_true]
    constructor
    · rintro ⟨x, hx, hb⟩
      unfold hasB at hb
      rw [Bool.and_eq_true] at hb
      obtain ⟨u, hu1, e1, e2⟩ := (hmem x.1.zs x.2).1 ⟨x, hx, rfl, rfl⟩
      rw [← e1, one] at hb
      obtain ⟨rfl, hb⟩ := hb
      rw [← e2, hh, Lib.containsS_iff, grpR_mem] at hb
      obtain ⟨r, hr, h1, h2⟩ := hb.resolve_left (by simp)
      obtain ⟨y, hy, rfl⟩ := List.mem_map.1 hr
      obtain ⟨t', ht', e⟩ := List.mem_map.1 h1
      have : t' = t := ba_inj e
      subst this
      exact ⟨y, hy, by unfold hasB; rw [Bool.and_eq_true, Lib.containsS_iff, Lib.containsS_iff]; exact ⟨ht', h2⟩⟩
    · rintro ⟨y, hy, hb⟩
      unfold hasB at hb
      rw [Bool.and_eq_true] at hb
      obtain ⟨x, hx, e1, e2⟩ := (hmem _ _).2 ⟨t.data.toList, targ y hy hb.1, rfl, rfl⟩
      refine ⟨x, hx, ?_⟩
      unfold hasB
      rw [Bool.and_eq_true, e1, one, e2, hh, Lib.containsS_iff, grpR_mem]
      rw [Lib.containsS_iff, Lib.containsS_iff] at hb
      exact ⟨rfl, .inr ⟨rl y, List.mem_map_of_mem hy, List.mem_map_of_mem hb.1, hb.2⟩⟩
  · rw [Bool.eq_iff_iff, List.any_eq_true, List.any_eq_true]
    constructor
    · rintro ⟨x, hx, hb⟩
      unfold isB2 at hb
      obtain ⟨u, hu1, e1, e2⟩ := (hmem x.1.zs x.2).1 ⟨x, hx, rfl, rfl⟩
      rw [← e1, one] at hb
      subst hb
      obtain ⟨r, hr, h1⟩ := (hu _).1 hu1
      obtain ⟨y, hy, rfl⟩ := List.mem_map.1 hr
      obtain ⟨t', ht', e⟩ := List.mem_map.1 h1
      have : t' = t := ba_inj e
      subst this
      exact ⟨y, hy, by unfold isB2; rw [Lib.containsS_iff]; exact ht'⟩
    · rintro ⟨y, hy, hb⟩
      unfold isB2 at hb
      obtain ⟨x, hx, e1, e2⟩ := (hmem _ _).2 ⟨t.data.toList, targ y hy hb, rfl, rfl⟩
      exact ⟨x, hx, by unfold isB2; rw [e1, one]⟩
end Go.Proofs.YtmeenhfclnkjhaaDoor
