/- strings.IndexAny and ContainsAny at a text that bears neither of two ASCII bytes. Conditions: the text is shorter than 2^62 bytes. -/
import Derived.Test.YtoiolepengcagaaGreatDoorRuneW
import Derived.Lib.OthersKept
import Derived.Lib.Hide
import Derived.Deep.WholeRow
import Derived.Lib.AsciiSet
namespace Go.Proofs.YtoiolepengcagaaGreatDoor
open Go.RowKit
/-- neither byte is in the text -/
def Free2 (s : ByteArray) (x y : UInt8) : Prop := ∀ c ∈ s.data.toList, c ≠ x ∧ c ≠ y
theorem free_at {s : ByteArray} {x y : UInt8} (h : Free2 s x y) {i : Nat} (hi : i < s.size) : s[i] ≠ x ∧ s[i] ≠ y := h _ (List.mem_of_getElem? (ba_at hi))
theorem free_index {x y c : UInt8} (h : c ≠ x ∧ c ≠ y) : Lib.indexByte [x, y] c = -1 := by
  have h1 := indexByte_ge [x, y] c
  rcases Int.lt_or_le (Lib.indexByte [x, y] c) 0 with h2 | h2
  · omega
  · have := h1.2.1 h2
    simp at this
    rcases this with e | e
    · exact absurd e h.1
    · exact absurd e h.2
theorem info_set : (Tryz.prog.info? 80).map (fun i => (i.zero, i.size)) = some (some (.agg (Array.replicate 256 (.bool false))), 256) := by kernel_rfl
set_option maxHeartbeats 4000000 in
set_option maxRecDepth 100000 in
theorem indexAny_none (s : ByteArray) (x y : UInt8) (hx : x.toNat < 128) (hy : y.toNat < 128) (hs : s.size < 4611686018427387904) (hf : Free2 s x y) (w : World) :
    Calls Tryz.prog 14 #[.string s, .string ⟨#[x, y]⟩] w fun e w' => e = .returned (.int .i64 (-1)) ∧ Below w.heap.size w w' := by
  have hemp : (⟨#[x, y]⟩ : ByteArray).toList.isEmpty = false := by rw [Lib.toList_data]; rfl
  have HF := Lib.hid hf
  have HX := Lib.hid hx
  have HY := Lib.hid hy
  clear hf hx hy
  by_cases h8 : 8 < s.size
  · have h8z : decide ((8 : Int) < (s.size : Int)) = true := decide_eq_true (by omega)
    obtain ⟨L, hL⟩ : ∃ L : Array Value, L = Lib.setCells [x, y] := ⟨_, rfl⟩
    have hLs : L.size = 256 := by rw [hL]; exact Lib.setCells_size _
    have hL1 : L.all (·.oneCell') = true := by rw [hL]; exact Lib.setCells_one _
    have HLC : Hid (∀ c : UInt8, L[c.toNat]? = some (.bool ([x, y].contains c))) := by
      show ∀ c : UInt8, _
      intro c; rw [hL]; exact Lib.setCells_at _ c
    have HM := Lib.hid (fun u => Tryz.strings_makeASCIISet (zero_of_info info_set).1 ⟨#[x, y]⟩ u (by show 2 < 4294967281; decide) (fun j b hb => by
      have hj : b = x ∨ b = y := by
        have := List.mem_of_getElem? hb
        simpa using this
      rcases hj with rfl | rfl
      · exact HX.out
      · exact HY.out))
    rw [show (⟨#[x, y]⟩ : ByteArray).data.toList = [x, y] from rfl, ← hL] at HM
    have hsc : (storeCells ⟨w.heap.size + 1, 0, none⟩ L.toList 0).run Tryz.prog ((w.alloc (.cells L 80)).alloc (.cells Tryz.zeroCells80 80)) = .ok () ((w.alloc (.cells L 80)).alloc (.cells L 80)) := by
      have := run_storeCells_new (P := Tryz.prog) (w.alloc (.cells L 80)) 80 Tryz.zeroCells80 L (by rw [hLs]; kernel_rfl) (by rw [hLs]; rfl) hL1
      simpa using this
    clear hL
    go_enter Tryz.func14, Tryz.ntmps14
    go_wp2_with (first
      | (go_at_call 35; refine (Tryz.strings_shouldUseASCIISet _ _).mono ?_; rintro e w' ⟨rfl, hw⟩; rw [hw, h8z])
      | (go_at_call 36; refine (HM.out _).mono ?_; rintro e w' ⟨rfl, hw⟩; rw [hw]))
    clear hsc
    obtain ⟨W, hW⟩ : ∃ W, W = (w.alloc (.cells L 80)).alloc (.cells L 80) := ⟨_, rfl⟩
    have HBW : Hid (Below w.heap.size w W) := by
      show Below _ _ _
      rw [hW]; exact ((Below.refl _ _).alloc (Nat.le_refl _) _).alloc (by simp) _
    have HCW : Hid (∀ c : UInt8, W.cell? ⟨w.heap.size + 1, c.toNat, none⟩ = some (.bool ([x, y].contains c))) := by
      show ∀ c : UInt8, _
      intro c
      rw [hW, World.cell?_alloc_at _ _ _ _ (by simp)]
      exact HLC.out c
    rw [← hW]
    clear hW
    go_loopg [8] s.size (fun g s8 wx => ∃ i : Nat, i + g = s.size ∧ s8 = .int .i64 i ∧ wx = W)
    case atStart => exact ⟨0, by omega, rfl, rfl⟩
    case round =>
      obtain ⟨i, hig, rfl, rfl⟩ := hrel
      cases gk with
      | zero =>
        obtain rfl : i = s.size := by omega
        go_wp2
        go_ret
        exact ⟨rfl, HBW.out⟩
      | succ g =>
        have hi : i < s.size := by omega
        have hfree := free_at HF.out hi
        obtain ⟨c, hc⟩ : ∃ c, s[i] = c := ⟨_, rfl⟩
        rw [hc] at hfree
        have hcell := HCW.out c
        rw [show [x, y].contains c = false from by simp [hfree.1, hfree.2]] at hcell
        go_wp2_with (go_at_call 37; refine (Tryz.asciiSet_contains _ c _ _ hcell).mono ?_; rintro e w' ⟨rfl, hw⟩; rw [hw])
        go_roundg g
        case measure => omega
        case rel => exact ⟨i + 1, by omega, by go_num, rfl⟩
  · have h8z : decide ((8 : Int) < (s.size : Int)) = false := decide_eq_false (by omega)
    go_enter Tryz.func14, Tryz.ntmps14
    go_wp2_with (go_at_call 35; refine (Tryz.strings_shouldUseASCIISet _ _).mono ?_; rintro e w' ⟨rfl, hw⟩; rw [hw, h8z])
    go_loopg [9, 10] s.size (fun g _ _ wx => ∃ i : Nat, s.size ≤ i + g ∧ Below w.heap.size w wx ∧ wx.heap[w.heap.size]? = some (.stringIter s i))
    case atStart => exact ⟨0, by omega, (Below.refl _ _).alloc (Nat.le_refl _) _, World.iter_heap w s 0⟩
    case round =>
      obtain ⟨i, hig, hb, hk⟩ := hrel
      have HB := Lib.hid hb
      clear hb
      by_cases hi : i < s.size
      · have hnx := fun ty => Lib.run_next_any_at (P := Tryz.prog) wr w.heap.size s i ty hk hi
        have hk2 := Lib.iterAt_heap wr w.heap.size s i (i + (Utf8.decode s i).2) hk
        have hb2 : Below w.heap.size w (wr.iterAt w.heap.size s (i + (Utf8.decode s i).2)) := Lib.below_iterAt HB.out (Nat.le_refl _) s _
        have hsz2 : w.heap.size < (wr.iterAt w.heap.size s (i + (Utf8.decode s i).2)).heap.size := (Array.getElem?_eq_some_iff.1 hk2).1
        have hfree := free_at HF.out hi
        have hw1 : 1 ≤ (Utf8.decode s i).2 := by
          rcases Nat.lt_or_ge (s[i].toNat) 128 with ha | ha
          · rw [decode_ascii s i hi ha]; exact Nat.le_refl 1
          · exact (decode_high s i hi ha).2
        have hrune : ∀ u : World, Calls Tryz.prog 34 #[.string ⟨#[x, y]⟩, .int .i32 ((Utf8.decode s i).1 : Int)] u fun e w' => e = .returned (.int .i64 (-1)) ∧ Below u.heap.size u w' := by
          intro u
          rcases Nat.lt_or_ge (s[i].toNat) 128 with ha | ha
          · rw [decode_ascii s i hi ha]
            refine (Tryz.strings_IndexRune_ascii _ _ u (by omega) (by omega)).mono ?_
            rintro e w' ⟨rfl, rfl⟩
            rw [show (((s[i].toNat : Nat) : Int)).toNat.toUInt8 = s[i] from by simp]
            exact ⟨congrArg (fun z => Ending.returned (.int .i64 z)) (free_index hfree), Below.refl _ _⟩
          · exact indexRune_none x y HX.out HY.out _ (decode_high s i hi ha).1 (decode_le s i) u
        have HR := Lib.hid hrune
        have HK2 := Lib.hid hk2
        have HB2 := Lib.hid hb2
        have HSZ := Lib.hid hsz2
        clear hrune hk2 hb2 hsz2 hfree hk HB HF hs
        generalize (Utf8.decode s i).1 = rr at *
        generalize (Utf8.decode s i).2 = wd at *
        obtain ⟨w2, hw2⟩ : ∃ w2, w2 = wr.iterAt w.heap.size s (i + wd) := ⟨_, rfl⟩
        rw [← hw2] at HK2 HB2 HSZ
        simp only [← hw2] at hnx
        clear hw2
        go_wp2_with (go_at_call 34; refine (HR.out _).mono ?_; rintro e w3 ⟨rfl, hb3⟩; have HB3 := Lib.hid hb3; clear hb3)
        go_roundg (gk - 1)
        case measure => omega
        case rel => exact ⟨i + wd, by omega, HB2.out.trans (HB3.out.mono (Nat.le_of_lt HSZ.out)), (HB3.out.block _ HSZ.out).trans HK2.out⟩
      · have hnx := fun ty => Lib.run_next_end_at (P := Tryz.prog) wr w.heap.size s i ty hk hi
        clear hk
        go_wp2
        go_ret
        exact ⟨rfl, HB.out⟩
set_option maxHeartbeats 400000 in
theorem containsAny_none (s : ByteArray) (x y : UInt8) (hx : x.toNat < 128) (hy : y.toNat < 128) (hs : s.size < 4611686018427387904) (hf : Free2 s x y) (w : World) :
    Calls Tryz.prog 148 #[.string s, .string ⟨#[x, y]⟩] w fun e w' => e = .returned (.bool false) ∧ Below w.heap.size w w' := by
  have HC := Lib.hid (indexAny_none s x y hx hy hs hf w)
  clear hf
  go_enter Tryz.func148, Tryz.ntmps148
  go_wp2_with (go_at_call 14; refine HC.out.mono ?_; rintro e w' ⟨rfl, hb⟩; have HB := Lib.hid hb; clear hb)
  go_ret
  exact ⟨rfl, HB.out⟩
end Go.Proofs.YtoiolepengcagaaGreatDoor
