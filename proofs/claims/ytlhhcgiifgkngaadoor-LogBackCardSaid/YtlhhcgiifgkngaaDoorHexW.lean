/- The walks of strconv.FormatUint at base 16. Conditions: the table of math/bits reads as listed. -/
import Derived.Test.YtlhhcgiifgkngaaDoorHexP
import Derived.Test.YtlhhcgiifgkngaaDoorLowW
import Derived.Laws.IdiomStrings
namespace Go.Proofs.YtlhhcgiifgkngaaDoor
open Go.RowKit Go.Shelf Go.Sort
set_option maxHeartbeats 1000000 in
theorem tzs_ok (w : World) (hT : Tab w) : Calls Tryd.prog 200 #[.int .u64 16] w fun e w' => e = .returned (.int .i64 4) ∧ w = w' := by
  have h := tz_ok 16#64 (by decide) w hT
  have e1 : (un 16#64 : Int) = 16 := by decide
  have e2 : (low 16#64 : Int) = 4 := by decide
  rw [e1, e2] at h
  have H := Lib.hid h
  clear h e1 e2 hT
  go_enter Tryd.func200, Tryd.ntmps200
  go_wp2_with (go_at_call 112; refine H.out.mono ?_; rintro e w' ⟨rfl, rfl⟩)
  go_ret
  exact ⟨rfl, rfl⟩
set_option maxHeartbeats 1000000 in
theorem pow2_ok (w : World) : Calls Tryd.prog 199 #[.int .i64 16] w fun e w' => e = .returned (.bool true) ∧ w = w' := by
  have hb16 : bits .and .i64 16 15 = 0 := by decide
  go_enter Tryd.func199, Tryd.ntmps199
  go_wp2
  go_ret
  exact ⟨rfl, rfl⟩
theorem dig36 (d : Nat) (h : d < 16) (h2 : d < (⟨#[48, 49, 50, 51, 52, 53, 54, 55, 56, 57, 97, 98, 99, 100, 101, 102, 103, 104, 105, 106, 107, 108, 109, 110, 111, 112, 113, 114, 115, 116, 117, 118, 119, 120, 121, 122]⟩ : ByteArray).size) :
    (⟨#[48, 49, 50, 51, 52, 53, 54, 55, 56, 57, 97, 98, 99, 100, 101, 102, 103, 104, 105, 106, 107, 108, 109, 110, 111, 112, 113, 114, 115, 116, 117, 118, 119, 120, 121, 122]⟩ : ByteArray)[d] = hexd d := by
  have key : ∀ x : Fin 16, (⟨#[48, 49, 50, 51, 52, 53, 54, 55, 56, 57, 97, 98, 99, 100, 101, 102, 103, 104, 105, 106, 107, 108, 109, 110, 111, 112, 113, 114, 115, 116, 117, 118, 119, 120, 121, 122]⟩ : ByteArray)[x.1]'(Nat.lt_of_lt_of_le x.2 (by decide)) = hexd x.1 := by decide
  exact key ⟨d, h⟩
/-- the buffer while digits are laid: acc behind place k -/
structure FInv (w : World) (acc : List Nat) (k : Nat) (wr : World) : Prop where
  below : Below w.heap.size w wr
  sum : k + acc.length = 65
  box : ∃ row : Array Value, wr.heap[w.heap.size]? = some (.cells row 250 (0, 0)) ∧ row.size = 65 ∧ (∀ j, j < 65 → ∃ v, row[j]? = some v) ∧ ∀ j x, acc[j]? = some x → row[k + j]? = some (.int .u8 ((hexd x).toNat : Int))
theorem FInv.cell {w : World} {acc : List Nat} {k : Nat} {wr : World} (h : FInv w acc k wr) {i : Nat} (hi : i < 65) : (∃ v, wr.cell? ⟨w.heap.size, i, none⟩ = some v) ∧ wr.frozen? ⟨w.heap.size, i, none⟩ = false := by
  obtain ⟨row, h1, h2, h3, _⟩ := h.box
  obtain ⟨v, hv⟩ := h3 i hi
  refine ⟨⟨v, ?_⟩, ?_⟩
  · simp [World.cell?, h1, hv]
  · simp [World.frozen?, h1]
theorem FInv.step {w : World} {acc : List Nat} {k : Nat} {wr : World} (h : FInv w acc (k + 1) wr) (d : Nat) : FInv w (d :: acc) k (wr.setCell ⟨w.heap.size, k, none⟩ (.int .u8 ((hexd d).toNat : Int))) := by
  obtain ⟨row, h1, h2, h3, h4⟩ := h.box
  have hs := h.sum
  refine ⟨h.below.setCell (p := ⟨w.heap.size, k, none⟩) (Nat.le_refl _) _, by rw [List.length_cons]; omega, row.setIfInBounds k (.int .u8 ((hexd d).toNat : Int)), ?_, by simp [h2], fun j hj => ?_, fun j x hx => ?_⟩
  · rw [setCell_eq]
    simp [mapBlock, onCells, Array.getElem?_modify, h1]
  · rw [Array.getElem?_setIfInBounds]
    by_cases e : k = j
    · rw [if_pos e, if_pos (by omega)]; exact ⟨_, rfl⟩
    · rw [if_neg e]; exact h3 j hj
  · rw [Array.getElem?_setIfInBounds]
    cases j with
    | zero =>
      rw [if_pos (by omega), if_pos (by omega)]
      simp at hx
      rw [hx]
    | succ j =>
      rw [if_neg (by omega)]
      have := h4 j x (by simpa using hx)
      rw [show k + (j + 1) = k + 1 + j from by omega]
      exact this
theorem and15 (n : Nat) (h : n < 2 ^ 64) : bits .and .u64 (n : Int) 15 = ((n % 16 : Nat) : Int) := by
  have := u64_and_nat n 15 (by omega) (by omega)
  rw [show ((15 : Nat) : Int) = 15 from rfl] at this
  rw [this, show (15 : Nat) = 2 ^ 4 - 1 from rfl, Nat.and_two_pow_sub_one_eq_mod]
set_option maxHeartbeats 4000000 in
set_option maxRecDepth 100000 in
theorem fmtBits_ok (u : Nat) (hu : u < 2 ^ 64) (w : World) (hT : Tab w) :
    Calls Tryd.prog 171 #[.slice none 0 0, .int .u64 (u : Int), .int .i64 16, .bool false, .bool false] w fun e w' => e = .returned (.tuple #[.slice none 0 0, .string ⟨(hexL u).toArray⟩]) ∧ Below w.heap.size w w' := by
  obtain ⟨W, hW⟩ : ∃ W, W = w.alloc (.cells Tryd.zeroCells250 250) := ⟨_, rfl⟩
  have hb : Below w.heap.size w W := by rw [hW]; exact (Below.refl _ _).alloc (Nat.le_refl _) _
  have HF : Hid (FInv w [] 65 W) := by
    refine ⟨hb, rfl, Tryd.zeroCells250, ?_, by kernel_rfl, fun j hj => ?_, fun j x hx => by cases hx⟩
    · rw [hW]
      show (w.heap.push _)[w.heap.size]? = _
      simp
    · have hz : Tryd.zeroCells250.size = 65 := by kernel_rfl
      exact ⟨_, Array.getElem?_eq_getElem (by omega)⟩
  have HTZ := Lib.hid (tzs_ok W (hT.below hb))
  have HU := Lib.hid hu
  have hb16 : bits .and .i64 16 15 = 0 := by decide
  clear hb hT hu
  go_enter Tryd.func171, Tryd.ntmps171
  go_upto_region 7 with fail
  rw [← hW]
  clear hW
  have h16 : u < 16 ^ 16 := by rw [show (16 : Nat) ^ 16 = 2 ^ 64 from by decide]; exact HU.out
  have HA0 : Hid (hexGo 16 u [] = hexN u ∧ (∀ d ∈ ([] : List Nat), d < 16) ∧ u < 16 ^ 16) := ⟨rfl, fun d hd => (by cases hd), h16⟩
  clear hb16 h16
  go_upto_region 11 with (first
    | (go_at_call 199; refine (pow2_ok _).mono ?_; rintro e w' ⟨rfl, rfl⟩)
    | (go_at_call 200; refine HTZ.out.mono ?_; rintro e w' ⟨rfl, rfl⟩))
  go_loopw [13, 1] (fun i x wr => ∃ (k cur f : Nat) (acc : List Nat), i = .int .i64 ((k : Nat) : Int) ∧ x = .int .u64 ((cur : Nat) : Int) ∧ Hid (FInv w acc k wr) ∧ Hid (hexGo f cur acc = hexN u ∧ (∀ d ∈ acc, d < 16) ∧ cur < 16 ^ f ∧ f + acc.length = 16 ∧ 0 < f)) (fun _ x _ => (intOf x).toNat)
  case atStart => exact ⟨65, u, 16, [], rfl, rfl, HF.out, HA0.out.1, HA0.out.2.1, HA0.out.2.2, rfl, by omega⟩
  case round =>
    obtain ⟨k, cur, f, acc, rfl, rfl, HI, HA⟩ := hrel
    have hks := HI.out.sum
    obtain ⟨_, _, hcf, hfl, hf0⟩ := HA.out
    have hk49 : 49 ≤ k := by omega
    have hcur : cur < 2 ^ 64 := by
      have : (16 : Nat) ^ f ≤ 16 ^ 16 := Nat.pow_le_pow_right (by omega) (by omega)
      rw [show (2 : Nat) ^ 64 = 16 ^ 16 from by decide]
      omega
    obtain ⟨k', rfl⟩ : ∃ k', k = k' + 1 := ⟨k - 1, by omega⟩
    have hk1 : ((k' + 1 : Nat) : Int) - 1 = (k' : Int) := by omega
    have hkl : (k' : Int) < 65 := by omega
    obtain ⟨⟨v0, hv0⟩, hfr⟩ := HI.out.cell (i := k') (by omega)
    have HK := Lib.hid (show acc.length ≤ 15 ∧ k' + 1 + acc.length = 65 from ⟨by omega, hks⟩)
    by_cases h16 : 16 ≤ cur
    · have hge : (16 : Int) ≤ (cur : Int) := by omega
      have hand := and15 cur hcur
      have hd16 : cur % 16 < 16 := Nat.mod_lt _ (by omega)
      have HD : Hid (hexGo f cur acc = hexGo (f - 1) (cur / 16) (cur % 16 :: acc) ∧ 1 < f ∧ cur / 16 < 16 ^ (f - 1)) := by
        show _ ∧ _
        have h1f : 1 < f := by
          rcases Nat.lt_or_ge 1 f with h | h
          · exact h
          · obtain rfl : f = 1 := by omega
            rw [Nat.pow_one] at hcf
            omega
        refine ⟨?_, h1f, ?_⟩
        · obtain ⟨f', rfl⟩ : ∃ f', f = f' + 1 := ⟨f - 1, by omega⟩
          rw [hexGo, if_neg (by omega)]
          rfl
        · obtain ⟨f', rfl⟩ : ∃ f', f = f' + 1 := ⟨f - 1, by omega⟩
          rw [Nat.pow_succ] at hcf
          show cur / 16 < 16 ^ f'
          exact Nat.div_lt_of_lt_mul (by omega)
      obtain ⟨d, hd⟩ : ∃ d, d = cur % 16 := ⟨_, rfl⟩
      rw [← hd] at hand HD hd16
      have hdI : (d : Int) < 36 := by omega
      have HDd := Lib.hid hd16
      clear hd hd16 hks hcf hfl hf0 hk49 hcur
      go_wp2
      go_roundw
      case rel =>
        refine ⟨k', cur / 16, f - 1, d :: acc, rfl, by simp, ?_, HD.out.1.symm.trans HA.out.1, fun x hx => ?_, HD.out.2.2, ?_, ?_⟩
        · show FInv _ _ _ _
          rw [dig36 d HDd.out]
          exact HI.out.step d
        · rcases List.mem_cons.1 hx with rfl | hx
          · exact HDd.out
          · exact HA.out.2.1 x hx
        · rw [List.length_cons]; have := HA.out.2.2.2.1; have := HD.out.2.1; omega
        · have := HD.out.2.1; omega
      case measure => simp [intOf]; omega
    · have hlt : (cur : Int) < 16 := by omega
      have hlt36 : (cur : Int) < 36 := by omega
      have HL : Hid (hexN u = cur :: acc) := by
        show _ = _
        rw [← HA.out.1]
        obtain ⟨f', rfl⟩ : ∃ f', f = f' + 1 := ⟨f - 1, by omega⟩
        rw [hexGo, if_pos (by omega)]
      have HC16 : Hid (cur < 16) := by show _ < _; omega
      clear hks hcf hfl hf0 hk49 hcur h16
      go_upto_region 30 with fail
      rw [dig36 cur HC16.out]
      obtain ⟨V, hV⟩ : ∃ V, V = wr.setCell ⟨w.heap.size, k', none⟩ (.int .u8 ((hexd cur).toNat : Int)) := ⟨_, rfl⟩
      have HV : Hid (FInv w (cur :: acc) k' V) := by show FInv _ _ _ _; rw [hV]; exact HI.out.step cur
      rw [← hV]
      have hll : ((hexN u).map hexd).length = 65 - k' := by
        rw [List.length_map, HL.out, List.length_cons]
        have := HK.out.2
        omega
      have kc : ∀ c : Nat, (convert 149 9 (.slice (some ⟨w.heap.size, k', none⟩) (65 - k') c)).run Tryd.prog V = .ok (.string ⟨((hexN u).map hexd).toArray⟩) V := by
        intro c
        have := run_convert_bytes_back (P := Tryd.prog) V 149 9 5 ⟨w.heap.size, k', none⟩ c ((hexN u).map hexd) Tryd.underlying149 Tryd.underlying5 Tryd.underlying9 (fun j hj => by
          obtain ⟨row, h1, h2, _, h4⟩ := HV.out.box
          obtain ⟨x, hx⟩ : ∃ x, (cur :: acc)[j]? = some x := ⟨_, List.getElem?_eq_getElem (by rw [← HL.out]; rw [List.length_map] at hj; exact hj)⟩
          have := h4 j _ hx
          rw [Addr.add_lit]
          have e : ((hexN u).map hexd)[j] = hexd x := by
            have h9 : ((hexN u).map hexd)[j]? = some (hexd x) := by rw [List.getElem?_map, HL.out, hx]; rfl
            rw [List.getElem?_eq_getElem hj] at h9
            exact Option.some.inj h9
          rw [e]
          simp [World.cell?, h1, this])
        rw [hll] at this
        exact this
      have HB := Lib.hid HV.out.below
      have hal : Tryd.prog.arrayLen 250 = 65 := by kernel_rfl
      have hk0 : (0 : Int) ≤ (k' : Int) := by omega
      have hk65 : (k' : Int) ≤ ((Tryd.prog.arrayLen 250 : Nat) : Int) := by rw [hal]; omega
      have ksl : (Instr.sliceAt 250 (.pointer (some ⟨w.heap.size, 0, none⟩)) (some (.int .i64 (k' : Int))) none none).run Tryd.prog V = .ok (.slice (some ⟨w.heap.size, k', none⟩) (65 - k') (65 - k')) V := by
        rw [run_sliceAt_array_l (P := Tryd.prog) V 250 ⟨w.heap.size, 0, none⟩ (by kernel_rfl) .i64 (k' : Int) hk0 hk65]
        have hel : Tryd.prog.elem 250 = 5 := by kernel_rfl
        have hsz : (sizeOf 5).run Tryd.prog V = .ok 1 V := by simp [go_sem]
        rw [hel, hsz, hal]
        simp only [Result.andThen, slicedAt, Int.toNat_natCast, Nat.mul_one]
        rw [if_neg (by have := HK.out.2; omega), Addr.add_lit, Nat.zero_add]
      clear hV hll hv0 hfr
      go_wp2
      go_ret2
      exact ⟨rfl, HB.out⟩
set_option maxHeartbeats 1000000 in
theorem fmtUi_ok (u : Nat) (hu : u < 2 ^ 64) (w : World) (hT : Tab w) :
    Calls Tryd.prog 125 #[.int .u64 (u : Int), .int .i64 16] w fun e w' => e = .returned (.string ⟨(hexL u).toArray⟩) ∧ Below w.heap.size w w' := by
  have H := Lib.hid (fmtBits_ok u hu w hT)
  clear hu hT
  go_enter Tryd.func125, Tryd.ntmps125
  go_wp2_with (go_at_call 171; refine H.out.mono ?_; rintro e w' ⟨rfl, hb⟩; have HB := Lib.hid hb; clear hb)
  go_ret
  exact ⟨rfl, HB.out⟩
set_option maxHeartbeats 1000000 in
theorem fmtU_ok (u : Nat) (hu : u < 2 ^ 64) (w : World) (hT : Tab w) :
    Calls Tryd.prog 80 #[.int .u64 (u : Int), .int .i64 16] w fun e w' => e = .returned (.string ⟨(hexL u).toArray⟩) ∧ Below w.heap.size w w' := by
  have H := Lib.hid (fmtUi_ok u hu w hT)
  clear hu hT
  go_enter Tryd.func80, Tryd.ntmps80
  go_wp2_with (go_at_call 125; refine H.out.mono ?_; rintro e w' ⟨rfl, hb⟩; have HB := Lib.hid hb; clear hb)
  go_ret
  exact ⟨rfl, HB.out⟩
@[go_sem] theorem run_bitsT (b : Nat) (w : World) : (callFunc 39 #[.float .f64 b]).run Tryd.prog w = .ok (.value (.int .u64 (b : Int))) w := by
  rw [run_callFunc_extern Tryd.func39 (by kernel_rfl) (by kernel_rfl) (by kernel_rfl) (e := Extern.MathFloatBits.float64bits) (by kernel_rfl)]
  rfl
set_option maxHeartbeats 1000000 in
/-- the text of a time -/
theorem spanText_ok (b : Nat) (hb : b < 2 ^ 64) (w : World) (hT : Tab w) :
    Calls Tryd.prog 38 #[.float .f64 b] w fun e w' => e = .returned (.string ⟨(txtH b).toArray⟩) ∧ Below w.heap.size w w' := by
  have H := Lib.hid (fmtU_ok b hb w hT)
  obtain ⟨_, _, h3, h4⟩ := hexN_facts hb
  have hl : (hexL b).length ≤ 16 ∧ 0 < (hexL b).length := by unfold hexL; rw [List.length_map]; exact ⟨h3, h4⟩
  have htx : txtH b = List.replicate (16 - (hexL b).length) 48 ++ hexL b := rfl
  have HTX := Lib.hid htx
  clear hb hT h3 h4 htx
  generalize hexL b = l at *
  obtain ⟨n, hn⟩ : ∃ n, n = l.length := ⟨_, rfl⟩
  obtain ⟨s, hs⟩ : ∃ s : ByteArray, s = ⟨l.toArray⟩ := ⟨_, rfl⟩
  obtain ⟨r, hr⟩ : ∃ r : ByteArray, r = ⟨(Lib.repeatL [48] (16 - n)).toArray⟩ := ⟨_, rfl⟩
  have hsz : s.size = n := by rw [hs, hn]; rfl
  have hrz : r.size = 16 - n := by
    rw [hr]
    show (Lib.repeatL [48] (16 - n)).toArray.size = _
    simp [Lib.repeatL_length]
  rw [← hs] at H
  rw [← hn] at hl
  have hk : (16 : Int) - (n : Int) = ((16 - n : Nat) : Int) := by omega
  have HR := Lib.hid (fun u => Tryd.strings_Repeat ⟨#[48]⟩ (16 - n) u (by omega) (by show 1 * (16 - n) ≤ _; omega))
  have HR : Hid (∀ u, Calls Tryd.prog 81 #[.string ⟨#[48]⟩, .int .i64 ((16 - n : Nat) : Int)] u fun e w' => e = .returned (.string r) ∧ Below u.heap.size u w') := by
    show ∀ u, _
    rw [hr]
    exact HR.out
  have HN := Lib.hid hn
  have HS := Lib.hid hs
  have HRr := Lib.hid hr
  clear hn hs hr
  go_enter Tryd.func38, Tryd.ntmps38
  go_wp2_with (first
    | (go_at_call 81; refine (HR.out w1).mono ?_; rintro e w' ⟨rfl, hb⟩; have HB2 := Lib.hid (HB.out.trans (hb.mono HB.out.size)); clear hb)
    | (go_at_call 80; refine H.out.mono ?_; rintro e w1 ⟨rfl, hb⟩; have HB := Lib.hid hb; clear hb))
  go_ret
  refine ⟨?_, HB2.out⟩
  rw [HTX.out, ← HN.out, HRr.out, HS.out]
  have e : Lib.repeatL [48] (16 - n) = List.replicate (16 - n) 48 := by
    generalize 16 - n = m
    induction m with
    | zero => rfl
    | succ m ih => rw [Lib.repeatL, ih]; rfl
  rw [e]
  congr 2
end Go.Proofs.YtlhhcgiifgkngaaDoor
