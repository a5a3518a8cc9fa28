/- The walk of macro.Flat. Conditions: the macros read as listed; names and values are at most 2^20 bytes; the machine's MaxLen is laid. -/
import Derived.Test.YtmeenhfclnkjhaaDoorMacroCW
import Derived.Deep.CutRange
namespace Go.Proofs.YtmeenhfclnkjhaaDoor
open Go.RowKit Go.Shelf Go.Maps
/-- what Flat answers -/
def FlatPost (w : World) (l : List Mac) (e : Ending) (w' : World) : Prop :=
  (∃ v, e = .returned (.tuple #[v, .int .i64 (flatsE okM l)]) ∧ ((flatsE okM l ≠ 0 ∧ v = .slice none 0 0) ∨ (flatsE okM l = 0 ∧ w'.ownsRow w.heap.size 31 2 v l.length (cells2 mF mG (flatL okM l))))) ∧ Below w.heap.size w w'
set_option maxHeartbeats 8000000 in
set_option maxRecDepth 100000 in
theorem Flat_ok (p : Option Addr) (n c : Nat) (l : List Mac) (w : World) (hR : MacsIn w p n c l) (hM : MLm w) : Calls Tryd.prog 8 #[.slice p n c] w (FlatPost w l) := by
  have hln := hR.at_.len
  subst hln
  have HFl := Lib.hid (flats_ok p l.length c l w hR hM)
  have HN := Lib.hid (fun u (hu : Below w.heap.size w u) => hR.at_.below hu)
  clear hR hM
  by_cases hE : flatsE okM l = 0
  rotate_left
  · have HE : Hid (flatsE okM l ≠ 0) := hE
    have HF2 : Hid (Calls Tryd.prog 33 #[.slice p l.length c] w fun e w' => (∃ v, e = .returned (.tuple #[v, .int .i64 (flatsE okM l)])) ∧ Below w.heap.size w w') := by
      show Calls _ _ _ _ _
      refine HFl.out.mono ?_
      rintro e w' ⟨⟨v, rfl, _⟩, hb⟩
      exact ⟨⟨v, rfl⟩, hb⟩
    have HP : Hid (∀ fe w', fe = flatsE okM l → Below w.heap.size w w' → FlatPost w l (.returned (.tuple #[.slice none 0 0, .int .i64 fe])) w') := fun fe w' h hb => ⟨⟨.slice none 0 0, by rw [h], .inl ⟨HE.out, rfl⟩⟩, hb⟩
    obtain ⟨e1, e2⟩ := int_ne' hE
    have HQ : Hid (∀ w', Below w.heap.size w w' → FlatPost w l (.returned (.tuple #[.slice none 0 0, .int .i64 (flatsE okM l)])) w') := fun w' hb => HP.out _ w' rfl hb
    clear HFl hE HP HE
    generalize flatsE okM l = fe at *
    go_enter Tryd.func8, Tryd.ntmps8
    go_wp2_with (go_at_call 33; refine HF2.out.mono ?_; rintro e w1 ⟨⟨v, rfl⟩, hb⟩; have HB := Lib.hid hb; clear hb)
    go_ret2
    exact HQ.out _ HB.out
  have HF2 : Hid (Calls Tryd.prog 33 #[.slice p l.length c] w fun e w' => (∃ B eb uv st, e = .returned (.tuple #[.map (some B), .int .i64 0]) ∧ TabW w' B w.heap.size l eb uv st ∧ ∀ n ∈ namesM l, st n = 2) ∧ Below w.heap.size w w') := by
    show Calls _ _ _ _ _
    refine HFl.out.mono ?_
    rintro e w' ⟨⟨v, rfl, hv⟩, hb⟩
    rw [hE] at hv ⊢
    obtain ⟨_, B, eb, uv, st, rfl, h1, h2⟩ := hv.resolve_left (fun h => h.1 rfl)
    exact ⟨⟨B, eb, uv, st, rfl, h1, h2⟩, hb⟩
  have HTO := Lib.hid (flatsE_zero.1 hE).1
  have hfew := (flatsE_zero.1 hE).1.few
  have HFin : Hid (∀ (v : Value) (w' : World), w'.ownsRow w.heap.size 31 2 v l.length (cells2 mF mG (flatL okM l)) → Below w.heap.size w w' → FlatPost w l (.returned (.tuple #[v, .int .i64 0])) w') := fun v w' h hb => ⟨⟨v, by rw [hE], .inr ⟨hE, h⟩⟩, hb⟩
  have HFL : Hid (flatL okM l = l.map fun m => (m.1, (flatF okM l m.1).getD [])) := rfl
  clear HFl hE
  go_enter Tryd.func8, Tryd.ntmps8
  go_wp2_with (go_at_call 33; refine HF2.out.mono ?_; rintro e w1 ⟨⟨B, eb, uv, st, rfl, h1, h2⟩, hb⟩; have HT := Lib.hid h1; have HS := Lib.hid h2; have HB := Lib.hid hb; clear hb h1 h2)
  go_loopw [19, 6] (fun i o wr => ∃ (j : Nat) (g : Option Addr) (cg : Nat), j ≤ l.length ∧ i = .int .i64 j ∧ o = .slice g j cg ∧ Hid (Below w1.heap.size w1 wr) ∧ Hid (wr.ownsRow w1.heap.size 31 2 (.slice g j cg) j (cells2 mF mG ((flatL okM l).take j)))) (fun i _ _ => l.length - (intOf i).toNat)
  case atStart => exact ⟨0, none, 0, Nat.zero_le _, rfl, rfl, Below.refl _ _, World.ownsRow_nil _ _ _ _⟩
  case round =>
    obtain ⟨j, g, cg, hj, rfl, rfl, HBr, HO⟩ := hrel
    by_cases hlt : j < l.length
    · have hel := List.getElem?_eq_getElem hlt
      obtain ⟨b, o, rfl, hb, c1, c2⟩ := (HN.out _ (HB.out.trans (HBr.out.mono HB.out.size))).cell hel
      have hmem := List.getElem_mem hlt
      have HTK : Hid ((flatL okM l).take (j + 1) = (flatL okM l).take j ++ [(l[j].1, (flatF okM l l[j].1).getD [])]) := by
        show _ = _
        rw [List.take_add_one, HFL.out, List.getElem?_map, hel]; rfl
      rw [← Nat.add_assoc] at c2
      clear hel
      generalize l[j] = m at *
      obtain ⟨m1, m2⟩ := m
      have hmn : m1 ∈ namesM l := List.mem_map.2 ⟨(m1, m2), hmem, rfl⟩
      simp only [mF, mG] at c1 c2 HTK
      have hji : (j : Int) < (l.length : Int) := by omega
      have hxm : (txt m1).size ≤ maxLen := by have := okM_few (HTO.out.right _ hmem).1; rw [txt_size]; unfold maxLen; simp only at this; omega
      obtain ⟨W0, hW0⟩ : ∃ W0, W0 = wr.alloc (.cells #[.string (txt m1), .string (txt m2)] 31) := ⟨_, rfl⟩
      have hb0 : Below wr.heap.size wr W0 := by rw [hW0]; exact mb1 wr _
      have k1 : W0.cell? ⟨wr.heap.size, 0, none⟩ = some (.string (txt m1)) := by rw [hW0, World.cell?_alloc_at _ _ _ _ rfl]; rfl
      have HB0 : Hid (Below w1.heap.size w1 W0) := HBr.out.trans (hb0.mono HBr.out.size)
      have HO0 : Hid (W0.ownsRow w1.heap.size 31 2 (.slice g j cg) j (cells2 mF mG ((flatL okM l).take j))) := own_none HO.out (mgrown_below hb0)
      have hT0 := HT.out.below HB0.out
      obtain ⟨⟨Nn, hmp⟩, hht⟩ := hT0.look hmn
      have hlk : Sem.run Tryd.prog (Instr.lookup 60 (.map (some B)) (.string (txt m1)) false) W0.drew = .ok (.pointer (some ⟨eb m1, 0, none⟩)) W0.drew := by
        rw [← hht]
        exact look_run (hmp.kept (row := none) (w' := W0.drew) ⟨rfl, rfl, rfl, Nat.le_refl _, fun _ _ _ => rfl⟩ (by simp)) (txt m1) hxm
      have hent := hT0.ent _ hmem
      rw [HS.out m1 hmn] at hent
      have hent2 : W0.heap[eb m1]? = some (.cells #[.string (txt m2), uv m1, .int .i64 2, .string (txt ((flatF okM l m1).getD [])), .bool (flatF okM l m1).isNone] 64 (0, 0)) := hent
      obtain ⟨_, _, _, q3, _, _⟩ := mx5 hent2
      generalize (flatF okM l m1).getD [] = fv at *
      obtain ⟨XO, hXO⟩ : ∃ XO, XO = Obj.cells #[.string (txt m1), .string (txt fv)] 31 := ⟨_, rfl⟩
      have HOA : Hid ((W0.alloc XO).drew.ownsRow w1.heap.size 31 2 (.slice g j cg) j (cells2 mF mG ((flatL okM l).take j))) := own_drew (own_none HO0.out (World.grownBy_alloc _ _ _))
      have XC0 : Hid ((W0.alloc XO).drew.cell? ⟨W0.heap.size, 0, none⟩ = some (mF (m1, fv))) := by show (W0.alloc XO).cell? _ = _; rw [hXO, World.cell?_alloc_at _ _ _ _ rfl]; rfl
      have XC1 : Hid ((W0.alloc XO).drew.cell? ⟨W0.heap.size, 1, none⟩ = some (mG (m1, fv))) := by show (W0.alloc XO).cell? _ = _; rw [hXO, World.cell?_alloc_at _ _ _ _ rfl]; rfl
      have HBA : Hid (Below w1.heap.size w1 (W0.alloc XO).drew) := (HB0.out.alloc HB0.out.size _).drew
      have hjb : j ≤ 4398046511103 := by omega
      rw [hXO] at HOA XC0 XC1 HBA
      clear hmp hT0 hent hent2 hb0 hmem hmn hXO
      go_upto_region 8 with fail
      rw [← hW0]
      clear hW0
      go_region_law (refine step_mac rfl _ _ rfl w1.heap.size _ j _ rfl HOA.out W0.heap.size (m1, fv) rfl XC0.out XC1.out hjb HBA.out.size ?_; intro v' w5 h1 h2; have HG5 := Lib.hid (HBA.out.grown h2 HBA.out.size (fun k hk => (HOA.out.lt k hk).1)); obtain ⟨g5, c5, rfl⟩ := mown_form h1; have HO5 := Lib.hid h1; clear h1 h2)
      all_goals
        go_wp2
        go_roundw
        case rel =>
          refine ⟨j + 1, g5, c5, by omega, by go_num, rfl, HG5, ?_⟩
          show World.ownsRow _ _ _ _ _ _ _
          rw [HTK.out]
          exact HO5.out
        case measure => simp [intOf]; omega
    · obtain rfl : j = l.length := by omega
      have htk : (flatL okM l).take l.length = flatL okM l := List.take_of_length_le (by rw [HFL.out, List.length_map]; exact Nat.le_refl _)
      rw [htk] at HO
      clear htk
      go_wp2
      go_ret2
      exact HFin.out _ _ (own_low HO.out HB.out.size) (HB.out.trans (HBr.out.mono HB.out.size))
end Go.Proofs.YtmeenhfclnkjhaaDoor
