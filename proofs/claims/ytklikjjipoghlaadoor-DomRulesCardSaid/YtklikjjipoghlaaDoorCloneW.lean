/- slices.Clone at rows of sets. Conditions: at least one row. -/
import Derived.Test.YtklikjjipoghlaaDoorBackW
import Derived.Test.YtklikjjipoghlaaDoorShelf
namespace Go.Proofs.YtklikjjipoghlaaDoor
open Go.RowKit
theorem addr_plain {w : World} {a : Addr} {v : Value} (h : w.cell? a = some v) : a = ⟨a.block, a.off, none⟩ := by
  obtain ⟨b, o, k⟩ := a
  cases k with
  | none => rfl
  | some k =>
    exfalso
    unfold World.cell? at h
    simp at h
    split at h <;> cases h
theorem add_plain (b o j : Nat) : (⟨b, o, none⟩ : Addr).add j = ⟨b, o + j, none⟩ := by
  unfold Addr.add
  split
  · rename_i h; subst h; rfl
  · rfl
theorem sizeof_u64 : ∀ w, (Go.sizeOf 28).run Tryd.prog w = .ok 1 w := fun _ => by kernel_rfl
theorem Clone_rows (p : Option Addr) (n c : Nat) (hn : 0 < n) (h64 : n ≤ 64) (r : List B) (w : World) (hR : RowsAt w p n r) :
    Calls Tryd.prog 30 #[.slice p n c] w fun e w' => ∃ (g : Option Addr) (cg : Nat), e = .returned (.slice g n cg) ∧ w'.ownsRow w.heap.size 28 1 (.slice g n cg) n (u64s r) ∧ Below w.heap.size w w' := by
  obtain ⟨ad, rfl, _, hc⟩ := hR.reads.2 hn
  have hl := hR.len
  obtain ⟨ad', had, _, hc0⟩ := hR.cell hn
  injection had with had
  subst had
  have e0 : ad.add 0 = ad := by unfold Addr.add; simp
  rw [e0] at hc0
  have he := addr_plain hc0
  obtain ⟨b, o, k⟩ := ad
  injection he with _ _ hk
  subst hk
  obtain ⟨i0, hi, hz0, hz1, hz2⟩ := info_parts info_u64
  have hcon := Tryd.slices_Clone i0 (.int .u64 0) 1 8 hi hz0 hz1 hz2 rfl (by decide) sizeof_u64 b o n c (u64s r) w (by simp [u64s, hl]) hR.big (by omega) (fun j u hu => by rw [← add_plain]; exact hc j u hu) (fun u hu => by
    obtain ⟨x, _, rfl⟩ := List.mem_map.1 hu
    rfl)
  refine hcon.mono ?_
  rintro e w' ⟨v', rfl, hown, _, hb⟩
  obtain ⟨g, cg, rfl, _⟩ := own_form hown
  exact ⟨g, cg, rfl, hown, hb⟩
end Go.Proofs.YtklikjjipoghlaaDoor
