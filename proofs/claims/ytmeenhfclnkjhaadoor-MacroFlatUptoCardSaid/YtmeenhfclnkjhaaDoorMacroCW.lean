/- slices.Clone at macros, and append of one. Conditions: the macros read as listed. -/
import Derived.Test.YtmeenhfclnkjhaaDoorMacroArg
import Derived.Test.YtmeenhfclnkjhaaDoorCloneMLay
import Derived.Deep.RegionLaw
namespace Go.Proofs.YtmeenhfclnkjhaaDoor
open Go.RowKit Go.Shelf Go.Maps
theorem own_drew {w : World} {base size n : Nat} {e : TypeId} {v : Value} {xs : List Value} (h : w.ownsRow base e size v n xs) : w.drew.ownsRow base e size v n xs := own_none h ⟨rfl, rfl, rfl, Nat.le_refl _, fun _ _ _ => rfl⟩
theorem grown_drew {w u : World} {row : Option Nat} (h : w.grownBy u row) : w.grownBy u.drew row := ⟨h.os, h.tape, h.output, h.size, h.block⟩
theorem info_mac : (Tryd.prog.info? 31).map (fun i => (i.zero, i.size, i.bytes)) = some (some (.agg #[.string ⟨#[]⟩, .string ⟨#[]⟩]), 2, 32) := by kernel_rfl
theorem mac_cells {l : List Mac} {u : Value} (h : u ∈ cells2 mF mG l) : u.oneCell' = true := by
  unfold cells2 at h
  rw [List.mem_flatMap] at h
  obtain ⟨m, _, hm⟩ := h
  simp at hm
  rcases hm with rfl | rfl <;> rfl
theorem MacsIn.own {w : World} {base n c : Nat} {p : Option Addr} {l : List Mac} (h : w.ownsRow base 31 2 (.slice p n c) n (cells2 mF mG l)) (hbig : n ≤ 8796093022208) (hs : ∀ m ∈ l, m.1.length ≤ 1048576 ∧ m.2.length ≤ 1048576) : MacsIn w p n c l := ⟨P2At.own h hbig, hs⟩
theorem cloneM_ok (p : Option Addr) (n c : Nat) (l : List Mac) (w : World) (hR : MacsIn w p n c l) (h4 : n ≤ 4398046511103) (hsp : ∀ ad, p = some ad → ad.spot = none) :
    Calls Tryd.prog 10 #[.slice p n c] w fun e w' => ∃ (g : Option Addr) (cg : Nat), e = .returned (.slice g n cg) ∧ w'.ownsRow w.heap.size 31 2 (.slice g n cg) n (cells2 mF mG l) ∧ Below w.heap.size w w' := by
  have hl := hR.at_.len
  have hbig := hR.at_.big
  cases p with
  | none =>
    have hn : n = 0 := by
      rcases Nat.eq_zero_or_pos n with h | h
      · exact h
      · obtain ⟨b, o, e, _⟩ := hR.at_.at_ h
        cases e
    subst hn
    have hz : l = [] := List.length_eq_zero_iff.1 hl
    subst hz
    refine (AnyE.slices_Clone_nil Tryd.laysCloneM 0 c w).mono ?_
    rintro e w' ⟨rfl, rfl⟩
    exact ⟨none, 0, rfl, World.ownsRow_nil _ _ _ _, Below.refl _ _⟩
  | some ad =>
    obtain ⟨b, o, s⟩ := ad
    have hs := hsp _ rfl
    simp only at hs
    subst hs
    obtain ⟨i0, hi, hz0, hz1, hz2⟩ := info_parts info_mac
    have hcon := AnyE.slices_Clone Tryd.laysCloneM i0 _ 2 32 hi hz0 hz1 hz2 rfl (by decide) (fun _ => by kernel_rfl) b o n c (cells2 mF mG l) w (by rw [cells2_len, hl]) (by unfold maxLen; omega) (by omega)
      (fun j u hu => by
        obtain ⟨k, x, hx, h⟩ := cells2_of mF mG hu
        have hk := (List.getElem?_eq_some_iff.1 hx).1
        obtain ⟨b', o', e, _, c1, c2⟩ := hR.at_.cell hx
        obtain ⟨e1, e2⟩ : b = b' ∧ o = o' := by simpa using e
        subst e1 e2
        rcases h with ⟨rfl, rfl⟩ | ⟨rfl, rfl⟩
        · exact c1
        · exact c2)
      (fun u hu => mac_cells hu)
    refine hcon.mono ?_
    rintro e w' ⟨v', rfl, hown, _, hbel⟩
    obtain ⟨g, cg, rfl⟩ := mown_form hown
    exact ⟨g, cg, rfl, hown, hbel⟩
/-- append of one macro, as one step of a region that draws -/
theorem step_mac {ops : Array Oper} {o : Oper} {a : Act} {w : World} {K : Act → World → Prop} {Q : Exit → Act → World → Prop} {E : Prop} (hg : o.guard = none) (s x : Operand)
    (ho : o.op = .call { callee := .builtin .append, args := #[s, x], argTypes := #[22, 22] })
    (base : Nat) (v : Value) (n : Nat) (l : List Mac) (hs : a.eval s = v) (hown : w.ownsRow base 31 2 v n (cells2 mF mG l))
    (g : Nat) (m : Mac) (hx : a.eval x = .slice (some ⟨g, 0, none⟩) 1 1) (c0 : w.cell? ⟨g, 0, none⟩ = some (mF m)) (c1 : w.cell? ⟨g, 1, none⟩ = some (mG m)) (hn : n ≤ 4398046511103) (hbase : base ≤ w.heap.size)
    (h : ∀ v' w', w'.ownsRow base 31 2 v' (n + 1) (cells2 mF mG (l ++ [m])) → w.grownBy w' v.ownBlock → K (a.put o.dst v') w') :
    if Region.wanted o (yielded ops a.tmps) = true then Oper.wp Tryd.prog o a w K Q else E := by
  have hw : Region.wanted o (yielded ops a.tmps) = true := by simp [Region.wanted, hg]
  rw [if_pos hw]
  obtain ⟨i0, hi, hz0, hz1, hz2⟩ := info_parts info_mac
  refine wp_append_own w s x 22 ho base 31 i0 _ 2 32 Tryd.underlying22 hi hz0 hz1 hz2 rfl (by decide) v n _ hs hown ⟨g, 0, none⟩ 1 1 [mF m, mG m] hx rfl ?_ ?_ (by unfold maxLen; omega) (by omega) hbase (fun v' w' h1 h2 _ => h v' w' ?_ h2)
  · intro j q hj
    match j, hj with
    | 0, hj => simp at hj; subst hj; simpa [Addr.add] using c0
    | 1, hj => simp at hj; subst hj; simpa [Addr.add] using c1
  · intro q hq; simp at hq; rcases hq with rfl | rfl <;> rfl
  · rw [cells2_append]; exact h1
end Go.Proofs.YtmeenhfclnkjhaaDoor
