/- The walks through glob.match and its closure. Conditions: at most 60 pieces. -/
import Derived.Test.YteefncohknclcaaGreatDoorParseW
import Derived.Test.YteefncohknclcaaGreatDoorNfa
import Derived.Deep.RegionWith
namespace Go.Proofs.YteefncohknclcaaGreatDoor
open Go.RowKit
theorem pcsL_len {l : List Pc} (h : ∀ p ∈ l, p.set.length = 4) : (pcsL l).length = l.length * 5 := by
  induction l with
  | nil => rfl
  | cons p l ih =>
    have e : pcsL (p :: l) = pcL p.any p.set ++ pcsL l := by unfold pcsL; simp
    rw [e, List.length_append, ih (fun q hq => h q (List.mem_cons_of_mem _ hq)), pcL_four _ (h p List.mem_cons_self)]
    simp; omega
theorem pcsL_at {l : List Pc} (h : ∀ p ∈ l, p.set.length = 4) {k : Nat} (hk : k < l.length) {j : Nat} (hj : j < 5) : (pcsL l)[k * 5 + j]? = (pcL (l.getD k pc0).any (l.getD k pc0).set)[j]? := by
  induction l generalizing k with
  | nil => simp at hk
  | cons p l ih =>
    have e : pcsL (p :: l) = pcL p.any p.set ++ pcsL l := by unfold pcsL; simp
    have h5 : (pcL p.any p.set).length = 5 := by rw [pcL_four _ (h p List.mem_cons_self)]; rfl
    cases k with
    | zero =>
      rw [e, List.getElem?_append_left (by rw [h5]; omega)]
      simp
    | succ k =>
      rw [e, List.getElem?_append_right (by rw [h5]; omega), h5]
      have : (k + 1) * 5 + j - 5 = k * 5 + j := by omega
      rw [this, ih (fun q hq => h q (List.mem_cons_of_mem _ hq)) (by simpa using hk)]
      simp
/-- pieces in memory -/
structure PcsAt (w : World) (p : Option Addr) (l : List Pc) : Prop where
  four : ∀ q ∈ l, q.set.length = 4
  at_ : 0 < l.length → ∃ b : Nat, p = some ⟨b, 0, none⟩ ∧ b < w.heap.size ∧ ∀ j u, (pcsL l)[j]? = some u → w.cell? ⟨b, j, none⟩ = some u
theorem PcsAt.keep {w w' : World} {p : Option Addr} {l : List Pc} (h : PcsAt w p l) (hb : Below w.heap.size w w') : PcsAt w' p l :=
  ⟨h.four, fun hn => by
    obtain ⟨b, e, h1, h2⟩ := h.at_ hn
    exact ⟨b, e, Nat.lt_of_lt_of_le h1 hb.size, fun j u hu => (hb.cell h1).trans (h2 j u hu)⟩⟩
theorem PcsAt.cells {w : World} {p : Option Addr} {l : List Pc} (h : PcsAt w p l) {k : Nat} (hk : k < l.length) : ∃ b : Nat, p = some ⟨b, 0, none⟩ ∧
    w.cell? ⟨b, k * 5, none⟩ = some (.bool (anyAt l k)) ∧ w.cell? ⟨b, k * 5 + 1, none⟩ = some (.int .u64 (un (wd (l.getD k pc0).set 0) : Int)) ∧ w.cell? ⟨b, k * 5 + 2, none⟩ = some (.int .u64 (un (wd (l.getD k pc0).set 1) : Int)) ∧ w.cell? ⟨b, k * 5 + 3, none⟩ = some (.int .u64 (un (wd (l.getD k pc0).set 2) : Int)) ∧ w.cell? ⟨b, k * 5 + 4, none⟩ = some (.int .u64 (un (wd (l.getD k pc0).set 3) : Int)) := by
  obtain ⟨b, e, _, h2⟩ := h.at_ (by omega)
  have hm : l.getD k pc0 ∈ l := by
    rw [List.getD_eq_getElem?_getD, List.getElem?_eq_getElem hk]; exact List.getElem_mem hk
  have hS := h.four _ hm
  have key := fun j (hj : j < 5) => pcsL_at h.four hk hj
  refine ⟨b, e, ?_, ?_, ?_, ?_, ?_⟩
  · have := key 0 (by omega); rw [pcL_four _ hS] at this; exact h2 _ _ this
  · have := key 1 (by omega); rw [pcL_four _ hS] at this; exact h2 _ _ this
  · have := key 2 (by omega); rw [pcL_four _ hS] at this; exact h2 _ _ this
  · have := key 3 (by omega); rw [pcL_four _ hS] at this; exact h2 _ _ this
  · have := key 4 (by omega); rw [pcL_four _ hS] at this; exact h2 _ _ this
theorem skp_step (l : List Pc) (a : B) (k : Nat) : skpN l a (k + 1) = if anyAt l k = true then skpN l a k ||| (skpN l a k >>> k &&& 1#64) <<< (k + 1) else skpN l a k := rfl
set_option maxRecDepth 100000 in
set_option maxHeartbeats 2000000 in
theorem skip_ok (l : List Pc) (hl : l.length ≤ 60) (p : Option Addr) (cg bx : Nat) (a : B) (w : World) (hP : PcsAt w p l) (hbx : w.cell? ⟨bx, 0, none⟩ = some (.slice p l.length cg)) :
    Calls Tryz.prog 132 #[.int .u64 (un a), .pointer (some ⟨bx, 0, none⟩)] w fun e w' => e = .returned (.int .u64 (un (skpN l a l.length))) ∧ Below w.heap.size w w' := by
  go_enter Tryz.func132, Tryz.ntmps132
  go_wp2
  go_loopw [0, 8] (fun v i wr => ∃ k : Nat, k ≤ l.length ∧ i = .int .i64 k ∧ v = .int .u64 (un (skpN l a k)) ∧ Below w.heap.size w wr) (fun _ i _ => l.length - (intOf i).toNat)
  case atStart => exact ⟨0, Nat.zero_le _, rfl, rfl, Below.refl _ _⟩
  case round =>
    obtain ⟨k, hk, rfl, rfl, hbr⟩ := hrel
    have hPr := hP.keep hbr
    by_cases hlt : k < l.length
    · obtain ⟨b, rfl, q0, q1, q2, q3, q4⟩ := hPr.cells hlt
      have HS := Lib.hid (skp_step l a k)
      have HBR := Lib.hid hbr
      have hszr := hbr.size
      clear hPr hP hbr hbx
      generalize skpN l a k = x at *
      generalize wd (l.getD k pc0).set 0 = s1 at *
      generalize wd (l.getD k pc0).set 1 = s2 at *
      generalize wd (l.getD k pc0).set 2 = s3 at *
      generalize wd (l.getD k pc0).set 3 = s4 at *
      cases hany : anyAt l k
      · rw [hany] at q0
        have HN : Hid (skpN l a (k + 1) = x) := by show _ = x; rw [HS.out, hany]; rfl
        clear hany HS
        go_wp2
        go_roundw
        case rel => exact ⟨k + 1, by omega, by go_num, by rw [HN.out], HBR.out.alloc hszr _⟩
        case measure => simp [intOf]; omega
      · rw [hany] at q0
        have HN : Hid (skpN l a (k + 1) = x ||| (x >>> k &&& 1#64) <<< (k + 1)) := by show _ = _; rw [HS.out, hany]; rfl
        clear hany HS
        go_wp2
        go_roundw
        case rel => exact ⟨k + 1, by omega, by go_num, by rw [HN.out], HBR.out.alloc hszr _⟩
        case measure => simp [intOf]; omega
    · obtain rfl : k = l.length := by omega
      clear hPr hP hbx
      go_wp2
      go_ret
      exact ⟨rfl, hbr⟩
theorem stp_step (l : List Pc) (a : B) (c k : Nat) : stpN l a c (k + 1) = if has a k = true then (if anyAt l k = true then stpN l a c k ||| 1#64 <<< k else if pcHas (l.getD k pc0) c = true then stpN l a c k ||| 1#64 <<< (k + 1) else stpN l a c k) else stpN l a c k := rfl
theorem drop_byte {s : ByteArray} {k : Nat} (h : k < s.size) : s.data.toList.drop k = s[k] :: s.data.toList.drop (k + 1) := by
  have hl : k < s.data.toList.length := by rw [ba_len]; exact h
  rw [List.drop_eq_getElem_cons hl]
  rfl
set_option maxRecDepth 100000 in
set_option maxHeartbeats 4000000 in
theorem match_ok (l : List Pc) (hl : l.length ≤ 60) (p : Option Addr) (cg : Nat) (s : ByteArray) (hs : s.size ≤ 100000) (w : World) (hP : PcsAt w p l) :
    Calls Tryz.prog 97 #[.slice p l.length cg, .string s] w fun e w' => e = .returned (.bool (matchB l s.data.toList)) ∧ Below w.heap.size w w' := by
  have hb1 : Below w.heap.size w (w.alloc (.cells #[.slice p l.length cg] 140)) := (Below.refl _ _).alloc (Nat.le_refl _) _
  have hP1 := hP.keep hb1
  have hbx : (w.alloc (.cells #[.slice p l.length cg] 140)).cell? ⟨w.heap.size, 0, none⟩ = some (.slice p l.length cg) := by simp
  have hs1 : (w.alloc (.cells #[.slice p l.length cg] 140)).heap.size = w.heap.size + 1 := by simp
  have HS1 := Lib.hid hs1
  clear hs1
  have h1u : (un 1#64 : Int) = 1 := rfl
  have HSK := Lib.hid (skip_ok l hl p cg w.heap.size 1#64 _ hP1 hbx)
  rw [h1u] at HSK
  clear h1u
  go_enter Tryz.func97, Tryz.ntmps97
  go_wp2_with fail
  refine HSK.out.mono ?_
  rintro e w2 ⟨rfl, hb2⟩
  have hP2 := hP1.keep hb2
  have hbx2 : w2.cell? ⟨w.heap.size, 0, none⟩ = some (.slice p l.length cg) := by rw [hb2.cell (by rw [HS1.out]; simp)]; exact hbx
  have hb12 : Below w.heap.size w w2 := hb1.trans (hb2.mono hb1.size)
  have hlt2 : w.heap.size < w2.heap.size := by have := hb2.size; rw [HS1.out] at this; omega
  clear hP hP1 hbx HSK hb1 hb2
  go_wp2_with fail
  go_loopw [6, 16] (fun v i wr => ∃ (k : Nat) (a : B), k ≤ s.size ∧ i = .int .i64 k ∧ v = .int .u64 (un a) ∧ Hid (runB l a (s.data.toList.drop k) = runB l (skpN l 1#64 l.length) s.data.toList) ∧ Below w2.heap.size w2 wr) (fun _ i _ => s.size - (intOf i).toNat)
  case atStart => exact ⟨0, _, Nat.zero_le _, rfl, rfl, rfl, Below.refl _ _⟩
  case round =>
    obtain ⟨k, a, hk, rfl, rfl, HR, hbr⟩ := hrel
    obtain ⟨wo, rfl⟩ : ∃ wo : World, wo = wr := ⟨_, rfl⟩
    have hPr := hP2.keep hbr
    have hbxr : wo.cell? ⟨w.heap.size, 0, none⟩ = some (.slice p l.length cg) := by rw [hbr.cell (by exact hlt2)]; exact hbx2
    have hszr := hbr.size
    by_cases hlt : k < s.size
    · obtain ⟨c, hc⟩ : ∃ c, s[k] = c := ⟨_, rfl⟩
      have HRN : Hid (runB l (skpN l (stpN l a c.toNat l.length) l.length) (s.data.toList.drop (k + 1)) = runB l (skpN l 1#64 l.length) s.data.toList) := by
        show _ = _
        rw [← HR.out, drop_byte hlt, hc]; rfl
      have hct := c.toNat_lt
      clear HR hP2 hbx2
      go_wp2_with fail
      go_loopw [8, 21] (fun v i wi => ∃ j : Nat, j ≤ l.length ∧ i = .int .i64 j ∧ v = .int .u64 (un (stpN l a c.toNat j)) ∧ Below wo.heap.size wo wi) (fun _ i _ => l.length - (intOf i).toNat)
      case atStart => exact ⟨0, Nat.zero_le _, rfl, rfl, Below.refl _ _⟩
      case round =>
        obtain ⟨j, hj, rfl, rfl, hbi⟩ := hrel
        have hPi := hPr.keep hbi
        by_cases hjl : j < l.length
        · obtain ⟨b, rfl, q0, q1, q2, q3, q4⟩ := hPi.cells hjl
          have HS := Lib.hid (stp_step l a c.toNat j)
          have HBI := Lib.hid hbi
          have hszi := hbi.size
          have hsb := shr_bit' a j
          have HPC := fun W => has_pc (l.getD j pc0) c.toNat (by omega) W
          have HPV : Hid (pcV (l.getD j pc0) = .agg #[.bool (anyAt l j), .int .u64 (un (wd (l.getD j pc0).set 0) : Int), .int .u64 (un (wd (l.getD j pc0).set 1) : Int), .int .u64 (un (wd (l.getD j pc0).set 2) : Int), .int .u64 (un (wd (l.getD j pc0).set 3) : Int)]) := rfl
          have HPA : Hid ((l.getD j pc0).any = anyAt l j) := rfl
          have HPC := Lib.hid HPC
          clear hPi hPr hbi hbxr
          generalize stpN l a c.toNat j = x at *
          cases hat : has a j
          · rw [hat] at hsb
            simp only [Bool.false_eq_true, if_false] at hsb
            have HN : Hid (stpN l a c.toNat (j + 1) = x) := by show _ = x; rw [HS.out, hat]; rfl
            clear hat HS HPC HPV HPA
            generalize wd (l.getD j pc0).set 0 = s1 at *
            generalize wd (l.getD j pc0).set 1 = s2 at *
            generalize wd (l.getD j pc0).set 2 = s3 at *
            generalize wd (l.getD j pc0).set 3 = s4 at *
            generalize anyAt l j = an at *
            go_wp2
            go_roundw
            case rel => exact ⟨j + 1, by omega, by go_num, by rw [HN.out], HBI.out.alloc hszi _⟩
            case measure => simp [intOf]; omega
          · rw [hat] at hsb
            simp only [if_true] at hsb
            cases hany : anyAt l j
            · have HPA2 : Hid ((l.getD j pc0).any = false) := by show _ = false; rw [HPA.out, hany]
              have HPC2 := fun W => HPC.out W
              rw [HPV.out] at HPC2
              rw [hany] at q0 HPV HPC2
              have HPC3 : Hid (∀ W, Calls Tryz.prog 133 #[.agg #[.bool false, .int .u64 (un (wd (l.getD j pc0).set 0) : Int), .int .u64 (un (wd (l.getD j pc0).set 1) : Int), .int .u64 (un (wd (l.getD j pc0).set 2) : Int), .int .u64 (un (wd (l.getD j pc0).set 3) : Int)], .int .u8 (c.toNat : Int)] W fun e w' => e = .returned (.bool (pcHas (l.getD j pc0) c.toNat)) ∧ W.alloc (.cells #[.bool false, .int .u64 (un (wd (l.getD j pc0).set 0) : Int), .int .u64 (un (wd (l.getD j pc0).set 1) : Int), .int .u64 (un (wd (l.getD j pc0).set 2) : Int), .int .u64 (un (wd (l.getD j pc0).set 3) : Int)] 172) = w') := fun W => by
                have h := HPC2 W
                rw [HPA2.out] at h
                exact h
              clear HPC HPC2 HPV HPA
              have HN : Hid (∀ v, pcHas (l.getD j pc0) c.toNat = v → stpN l a c.toNat (j + 1) = if v = true then x ||| 1#64 <<< (j + 1) else x) := by
                show ∀ v, _ → _
                intro v hv
                rw [HS.out, hat, hany, hv]; rfl
              clear HPA2 HS hat hany
              generalize wd (l.getD j pc0).set 0 = s1 at *
              generalize wd (l.getD j pc0).set 1 = s2 at *
              generalize wd (l.getD j pc0).set 2 = s3 at *
              generalize wd (l.getD j pc0).set 3 = s4 at *
              generalize pcHas (l.getD j pc0) c.toNat = v at *
              have i1 : (0 : Int) ≤ (k : Int) := by omega
              have i2 : (k : Int) < (s.size : Int) := by omega
              cases v
              · have HNN : Hid (stpN l a c.toNat (j + 1) = x) := by show _ = x; rw [HN.out false rfl]; rfl
                clear HN
                go_wp2
                go_region_with (go_at_call 133; refine (HPC3.out _).mono ?_; rintro e w' ⟨rfl, rfl⟩)
                all_goals
                  go_wp2
                  go_roundw
                  case rel => exact ⟨j + 1, by omega, by go_num, by rw [HNN.out], ((HBI.out.alloc hszi _).alloc (by simp; omega) _).drew⟩
                  case measure => simp [intOf]; omega
              · have HNN : Hid (stpN l a c.toNat (j + 1) = x ||| 1#64 <<< (j + 1)) := by show _ = _; rw [HN.out true rfl]; rfl
                clear HN
                go_wp2
                go_region_with (go_at_call 133; refine (HPC3.out _).mono ?_; rintro e w' ⟨rfl, rfl⟩)
                all_goals
                  go_wp2
                  go_roundw
                  case rel => exact ⟨j + 1, by omega, by go_num, by rw [HNN.out], ((HBI.out.alloc hszi _).alloc (by simp; omega) _).drew⟩
                  case measure => simp [intOf]; omega
            · rw [hany] at q0
              have HN : Hid (stpN l a c.toNat (j + 1) = x ||| 1#64 <<< j) := by show _ = _; rw [HS.out, hat, hany]; rfl
              clear HS HPC HPV HPA hat hany
              generalize wd (l.getD j pc0).set 0 = s1 at *
              generalize wd (l.getD j pc0).set 1 = s2 at *
              generalize wd (l.getD j pc0).set 2 = s3 at *
              generalize wd (l.getD j pc0).set 3 = s4 at *
              go_wp2
              go_roundw
              case rel => exact ⟨j + 1, by omega, by go_num, by rw [HN.out], HBI.out.alloc hszi _⟩
              case measure => simp [intOf]; omega
        · obtain rfl : j = l.length := by omega
          have hPi2 := hPr.keep hbi
          have hbxi : wr.cell? ⟨w.heap.size, 0, none⟩ = some (.slice p l.length cg) := by rw [hbi.cell (by exact Nat.lt_of_lt_of_le hlt2 hszr)]; exact hbxr
          have HBI := Lib.hid (hbr.trans (hbi.mono hszr))
          have HSK := Lib.hid (skip_ok l hl p cg w.heap.size (stpN l a c.toNat l.length) wr hPi2 hbxi)
          clear hPi hPi2 hPr hbi hbxr hbxi
          go_wp2_with fail
          refine HSK.out.mono ?_
          rintro e w4 ⟨rfl, hb4⟩
          have HB4 := Lib.hid (HBI.out.trans (hb4.mono (by have := HBI.out.size; omega)))
          clear HSK hb4
          go_wp2
          go_roundw
          case rel => exact ⟨k + 1, _, by omega, by go_num, rfl, HRN.out, HB4.out⟩
          case measure => simp [intOf]; omega
    · obtain rfl : k = s.size := by omega
      have hd : s.data.toList.drop s.size = [] := List.drop_eq_nil_of_le (by rw [ba_len]; exact Nat.le_refl _)
      have HV : Hid (matchB l s.data.toList = has a l.length) := by
        show matchB _ _ = _
        unfold matchB
        rw [← HR.out, hd]; rfl
      have hbf := Lib.hid (hb12.trans (hbr.mono hb12.size))
      have hsb := shr_bit' a l.length
      clear hd HR hPr hP2 hbx2 hbr
      cases hat : has a l.length
      · rw [hat] at HV hsb
        simp only [Bool.false_eq_true, if_false] at hsb
        clear hat
        go_wp2
        go_ret
        exact ⟨by rw [HV.out]; rfl, hbf.out⟩
      · rw [hat] at HV hsb
        simp only [if_true] at hsb
        clear hat
        go_wp2
        go_ret
        exact ⟨by rw [HV.out]; rfl, hbf.out⟩
end Go.Proofs.YteefncohknclcaaGreatDoor
