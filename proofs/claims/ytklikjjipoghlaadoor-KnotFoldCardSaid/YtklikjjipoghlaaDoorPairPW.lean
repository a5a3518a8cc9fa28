/- The walk of chain.pair. Conditions: the rows read as listed. -/
import Derived.Test.YtklikjjipoghlaaDoorPairW
import Derived.Laws.MakeOwn
import Derived.Laws.Entries
namespace Go.Proofs.YtklikjjipoghlaaDoor
open Go.RowKit
theorem run_make_ints {P : Program} (t e : TypeId) (i : TypeInfo) (ht : P.underlying t = some (.slice e)) (hi : P.info? e = some i) (hz : i.zero = some (.int .i64 0)) (hs : i.size = 1) (hb : i.bytes = 8) (n : Nat) (hn : n ≤ 65536) (w : World) :
    (Instr.makeSlice t (.int .i64 (n : Int)) (.int .i64 (n : Int))).run P w = .ok (.slice (some ⟨w.heap.size, 0, none⟩) n n) (w.alloc (.cells (madeCells #[Value.int .i64 0] n) e)) := by
  have hr := run_make (P := P) w t e i (.int .i64 0) ht hi hz .i64 .i64 n n (by omega) (by omega) (by rw [hb]; omega) (by omega)
  simp only [Int.toNat_natCast] at hr
  rw [hs, Nat.mul_one] at hr
  exact hr
/-- the first j are -1, the others 0 -/
def fil (n j : Nat) : List Int := List.replicate j (-1) ++ List.replicate (n - j) 0
theorem fil_len {n j : Nat} (h : j ≤ n) : (fil n j).length = n := by unfold fil; simp; omega
theorem fil_set {n j : Nat} (h : j < n) : (fil n j).set j (-1) = fil n (j + 1) := by
  unfold fil
  rw [List.set_append_right _ _ (by simp), List.length_replicate, Nat.sub_self]
  obtain ⟨m, hm⟩ : ∃ m, n - j = m + 1 := ⟨n - j - 1, by omega⟩
  have : n - (j + 1) = m := by omega
  rw [hm, this, List.replicate_succ, List.set_cons_zero, List.replicate_succ', List.append_assoc]
  rfl
theorem fil_all (n : Nat) : fil n n = List.replicate n (-1) := by unfold fil; simp
theorem made_ints (n : Nat) : (madeCells #[Value.int .i64 0] n).toList = ivs (fil n 0) := by
  unfold madeCells ivs fil
  apply List.ext_getElem
  · simp
  · intro i h1 h2
    simp [Nat.mod_one]
theorem made_size (n : Nat) : (madeCells #[Value.int .i64 0] n).size = n := by unfold madeCells; simp
theorem own_made {w : World} {B0 b n : Nat} (hb : B0 ≤ b) (hn : n ≤ maxLen) (h : w.heap[b]? = some (.cells (madeCells #[Value.int .i64 0] n) 3 (0, 0))) : w.ownsRow B0 3 1 (.slice (some ⟨b, 0, none⟩) n n) n (ivs (fil n 0)) :=
  ⟨by simp [ivs, fil], .inr ⟨b, n, _, rfl, hb, h, Nat.le_refl _, hn, by rw [made_size]; simp, by
    rw [← made_ints, Nat.mul_one, List.take_of_length_le]
    rw [Array.length_toList, made_size]; exact Nat.le_refl _⟩⟩
theorem old_alloc (w : World) (o : Obj) (i : Nat) (h : i < w.heap.size) : (w.alloc o).heap[i]? = w.heap[i]? := by
  show (w.heap.push o)[i]? = w.heap[i]?
  rw [Array.getElem?_push, if_neg (Nat.ne_of_lt h)]
theorem new_alloc (w : World) (o : Obj) : (w.alloc o).heap[w.heap.size]? = some o := by
  show (w.heap.push o)[w.heap.size]? = some o
  simp
/-- the pairing is laid -/
theorem pat_new {w W : World} {bn ba n c : Nat} {pr : Option Addr} (hn : n ≤ maxLen) (hW : W = (((w.alloc (.cells (madeCells #[Value.int .i64 0] n) 3)).alloc (.cells (madeCells #[Value.int .i64 0] n) 3)).alloc (.cells #[.slice pr n c, .slice (some ⟨bn, 0, none⟩) n n, .slice (some ⟨ba, 0, none⟩) n n, .int .u64 0] 70)).drew)
    (h : (bn = w.heap.size ∧ ba = w.heap.size + 1) ∨ (ba = w.heap.size ∧ bn = w.heap.size + 1)) :
    PAt W w.heap.size (w.heap.size + 2) bn ba pr n c (fil n 0) (fil n 0) 0#64 ∧ Below w.heap.size w W := by
  have s1 : (w.alloc (.cells (madeCells #[Value.int .i64 0] n) 3)).heap.size = w.heap.size + 1 := by simp
  have s2 : ((w.alloc (.cells (madeCells #[Value.int .i64 0] n) 3)).alloc (.cells (madeCells #[Value.int .i64 0] n) 3)).heap.size = w.heap.size + 2 := by simp
  have h0 : W.heap[w.heap.size]? = some (.cells (madeCells #[Value.int .i64 0] n) 3 (0, 0)) := by
    rw [hW]
    show (World.alloc _ _).heap[w.heap.size]? = _
    rw [old_alloc _ _ _ (by omega), old_alloc _ _ _ (by omega), new_alloc]
  have h1 : W.heap[w.heap.size + 1]? = some (.cells (madeCells #[Value.int .i64 0] n) 3 (0, 0)) := by
    rw [hW]
    show (World.alloc _ _).heap[w.heap.size + 1]? = _
    rw [old_alloc _ _ _ (by omega)]
    have := new_alloc (w.alloc (.cells (madeCells #[Value.int .i64 0] n) 3)) (.cells (madeCells #[Value.int .i64 0] n) 3)
    rwa [s1] at this
  have h2 : W.heap[w.heap.size + 2]? = some (.cells #[.slice pr n c, .slice (some ⟨bn, 0, none⟩) n n, .slice (some ⟨ba, 0, none⟩) n n, .int .u64 0] 70 (0, 0)) := by
    rw [hW]
    show (World.alloc _ _).heap[w.heap.size + 2]? = _
    have := new_alloc ((w.alloc (.cells (madeCells #[Value.int .i64 0] n) 3)).alloc (.cells (madeCells #[Value.int .i64 0] n) 3)) (.cells #[.slice pr n c, .slice (some ⟨bn, 0, none⟩) n n, .slice (some ⟨ba, 0, none⟩) n n, .int .u64 0] 70)
    rwa [s2] at this
  constructor
  · rcases h with ⟨rfl, rfl⟩ | ⟨rfl, rfl⟩
    · exact ⟨h2, own_made (Nat.le_refl _) hn h0, own_made (by omega) hn h1, by omega, by omega, by omega, by omega, by omega, by omega⟩
    · exact ⟨h2, own_made (by omega) hn h1, own_made (Nat.le_refl _) hn h0, by omega, by omega, by omega, by omega, by omega, by omega⟩
  · rw [hW]
    exact ((((Below.refl _ _).alloc (Nat.le_refl _) _).alloc (by omega) _).alloc (by omega) _).drew
theorem pinv_find {R : List B} {nx ah nx1 ah1 : List Int} {s2 : B} {j : Nat} {b : Bool} (h : PInvP R nx ah j) (hc : if b = true then Won R nx ah 0#64 j nx1 ah1 s2 else nx1 = nx ∧ ah1 = ah ∧ Lost R ah 0#64 j s2) : PInvP R nx1 ah1 (j + 1) := by
  cases b
  · obtain ⟨e1, e2, hl⟩ := (show nx1 = nx ∧ ah1 = ah ∧ Lost R ah 0#64 j s2 by simpa using hc)
    subst e1 e2
    exact pinv_lost h hl
  · exact pinv_won h (by simpa using hc)
/-- what pair answers -/
def PairPost (R : List B) (pr : Option Addr) (c : Nat) (w : World) (e : Ending) (w' : World) : Prop :=
  ∃ (bp bn ba : Nat) (nx ah : List Int) (s : B), e = .returned (.pointer (some ⟨bp, 0, none⟩)) ∧ PAt w' w.heap.size bp bn ba pr R.length c nx ah s ∧ Paired R nx ah ∧ Below w.heap.size w w'
set_option maxHeartbeats 4000000 in
set_option maxRecDepth 100000 in
theorem pair_ok (R : List B) (hv : Valid R) (pr : Option Addr) (c : Nat) (w : World) (hR : RowsAt w pr R.length R) (hT : Tab w) :
    Calls Tryd.prog 52 #[.slice pr R.length c] w (PairPost R pr c w) := by
  have h64 := hv.1
  have HV := Lib.hid hv
  have HR := Lib.hid hR.reads
  have HT := Lib.hid hT
  have HBIG := Lib.hid hR.big
  obtain ⟨i0, hi, hz0, hz1, hz2⟩ := info_parts info_int
  have hmk := fun W => run_make_ints (P := Tryd.prog) 24 3 i0 Tryd.underlying24 hi hz0 hz1 hz2 R.length (by omega) W
  clear hv hR hT hi hz0 hz1 hz2
  go_enter Tryd.func52, Tryd.ntmps52
  go_wp2
  go_region
  all_goals
    first
      | (obtain ⟨W, hW⟩ : ∃ W : World, W = (((w.alloc (.cells (madeCells #[Value.int .i64 0] R.length) 3)).alloc (.cells (madeCells #[Value.int .i64 0] R.length) 3)).alloc (.cells #[.slice pr R.length c, .slice (some ⟨w.heap.size, 0, none⟩) R.length R.length, .slice (some ⟨w.heap.size + 1, 0, none⟩) R.length R.length, .int .u64 0] 70)).drew := ⟨_, rfl⟩
         obtain ⟨hP, hB⟩ := pat_new (bn := w.heap.size) (ba := w.heap.size + 1) HBIG.out hW (.inl ⟨rfl, rfl⟩)
         rw [← hW]
         clear hW
         obtain ⟨bn, hbn⟩ : ∃ b, b = w.heap.size := ⟨_, rfl⟩
         obtain ⟨ba, hba⟩ : ∃ b, b = w.heap.size + 1 := ⟨_, rfl⟩)
      | (obtain ⟨W, hW⟩ : ∃ W : World, W = (((w.alloc (.cells (madeCells #[Value.int .i64 0] R.length) 3)).alloc (.cells (madeCells #[Value.int .i64 0] R.length) 3)).alloc (.cells #[.slice pr R.length c, .slice (some ⟨w.heap.size + 1, 0, none⟩) R.length R.length, .slice (some ⟨w.heap.size, 0, none⟩) R.length R.length, .int .u64 0] 70)).drew := ⟨_, rfl⟩
         obtain ⟨hP, hB⟩ := pat_new (bn := w.heap.size + 1) (ba := w.heap.size) HBIG.out hW (.inr ⟨rfl, rfl⟩)
         rw [← hW]
         clear hW
         obtain ⟨bn, hbn⟩ : ∃ b, b = w.heap.size + 1 := ⟨_, rfl⟩
         obtain ⟨ba, hba⟩ : ∃ b, b = w.heap.size := ⟨_, rfl⟩)
    obtain ⟨bp, hbp⟩ : ∃ b, b = w.heap.size + 1 + 1 := ⟨_, rfl⟩
    rw [show w.heap.size + 2 = bp by omega] at hP
    first | rw [← hbn, ← hba] at hP | rw [← hba, ← hbn] at hP
    rw [← hbp]
    first | rw [← hbn, ← hba] | rw [← hba, ← hbn]
    have HB0 : Hid (∃ B0, B0 = w.heap.size ∧ PAt W B0 bp bn ba pr R.length c (fil R.length 0) (fil R.length 0) 0#64 ∧ Below B0 w W) := by
      show ∃ B0, _
      refine ⟨_, rfl, ?_, hB⟩
      first | exact hP | (rw [← hbn]; exact hP) | (rw [← hba]; exact hP)
    clear hP hB
    obtain ⟨B0, hB0, hP, hB⟩ := HB0.out
    have HP := Lib.hid hP
    have HB := Lib.hid hB
    have HBE := Lib.hid hB0
    have HRB : Hid (Reads w B0 1 pr R.length (u64s R)) := by show Reads _ _ _ _ _ _; rw [hB0]; exact HR.out
    have hTB : 0 < B0 := by rw [hB0]; exact Tab.lt HT.out
    clear hB0 hP hB HB0 hbn hba hbp
    go_wp2
    go_loopg [17] R.length (fun g v wi => ∃ j : Nat, g + j = R.length ∧ v = .int .i64 j ∧ Hid (PAt wi B0 bp bn ba pr R.length c (fil R.length j) (fil R.length j) 0#64) ∧ Hid (Below B0 w wi))
    case atStart => exact ⟨0, by omega, rfl, HP, HB⟩
    case round =>
      obtain ⟨j, hgj, rfl, HPj, HBj⟩ := hrel
      by_cases hlt : j < R.length
      · obtain ⟨k0, k1, k2, k3, k4⟩ := b4 HPj.out.box
        have hcn := own_iv_at HPj.out.on_ hlt
        have hfn := HPj.out.on_.frozenAt j
        have hca := own_iv_at HPj.out.oa hlt
        have hfa := HPj.out.oa.frozenAt j
        obtain ⟨hs1, hs2⟩ := HPj.out.second j hlt (.int .i64 (-1))
        generalize vl (fil R.length j) j = z at hcn hca hs1
        have HQ : Hid (PAt ((wr.setCell ⟨bn, j, none⟩ (.int .i64 (-1))).setCell ⟨ba, j, none⟩ (.int .i64 (-1))).drew B0 bp bn ba pr R.length c (fil R.length (j + 1)) (fil R.length (j + 1)) 0#64) := by
          show PAt _ _ _ _ _ _ _ _ _ _ _
          have := (HPj.out.put j j (-1) (-1)).drew
          rwa [fil_set hlt] at this
        have HBQ : Hid (Below B0 w ((wr.setCell ⟨bn, j, none⟩ (.int .i64 (-1))).setCell ⟨ba, j, none⟩ (.int .i64 (-1))).drew) := by
          show Below _ _ _
          exact ((HBj.out.setCell HPj.out.gn _).setCell HPj.out.ga _).drew
        clear k4
        go_wp2
        go_region
        go_wp2
        go_roundg (R.length - (j + 1))
        case measure => omega
        case rel => exact ⟨j + 1, by omega, by go_num, HQ, HBQ⟩
      · obtain rfl : j = R.length := by omega
        have HP2 : Hid (PAt wr B0 bp bn ba pr R.length c (List.replicate R.length (-1)) (List.replicate R.length (-1)) 0#64) := by
          show PAt _ _ _ _ _ _ _ _ _ _ _
          have := HPj.out
          rwa [fil_all] at this
        clear HPj HP HB
        go_wp2
        go_loopg [35] R.length (fun g v wi => ∃ (j : Nat) (nx ah : List Int) (s : B), g + j = R.length ∧ v = .int .i64 j ∧ Hid (PAt wi B0 bp bn ba pr R.length c nx ah s) ∧ Hid (PInvP R nx ah j) ∧ Hid (Below B0 w wi))
        case atStart => exact ⟨0, _, _, _, by omega, rfl, HP2, pinv_start R, HBj⟩
        case round =>
          obtain ⟨j, nx, ah, s, hgj, rfl, HPi, HI, HBi⟩ := hrel
          clear HP2 HBj
          by_cases hlt : j < R.length
          · obtain ⟨k0, k1, k2, k3, k4⟩ := b4 HPi.out.box
            have k5 := k4 3
            clear k4
            have HCall : Hid (Calls Tryd.prog 70 #[.pointer (some ⟨bp, 0, none⟩), .int .i64 (j : Int)] (wr.setCell ⟨bp, 3, none⟩ (.int .u64 0)) (FindPost R B0 bp bn ba pr R.length c nx ah 0#64 j (wr.setCell ⟨bp, 3, none⟩ (.int .u64 0)))) := by
              show Calls _ _ _ _ _
              have hb : Below B0 w (wr.setCell ⟨bp, 3, none⟩ (.int .u64 0)) := HBi.out.setCell HPi.out.gp _
              exact find_ok R HV.out B0 bp bn ba hTB pr c _ nx ah 0#64 j _ (Nat.le_refl _) hlt (HPi.out.see 0#64) HI.out.pr (.inl (HI.out.rest j (Nat.le_refl _))) (HRB.out.below hb) (HT.out.belowB hTB hb)
            have HBS : Hid (Below B0 w (wr.setCell ⟨bp, 3, none⟩ (.int .u64 0))) := by show Below _ _ _; exact HBi.out.setCell HPi.out.gp _
            go_wp2_with (go_at_call 70; refine HCall.out.mono ?_; rintro e w2 ⟨nx1, ah1, s2, b, rfl, hP2, hB2, hcase⟩; have HP2 := Lib.hid hP2; have HB2 := Lib.hid (HBS.out.trans hB2); have HI2 : Hid (PInvP R nx1 ah1 (j + 1)) := (pinv_find HI.out hcase); clear hP2 hB2 hcase)
            go_roundg (R.length - (j + 1))
            case measure => omega
            case rel => exact ⟨j + 1, nx1, ah1, s2, by omega, by go_num, HP2, HI2, HB2⟩
          · obtain rfl : j = R.length := by omega
            have HF : Hid (PairPost R pr c w (.returned (.pointer (some ⟨bp, 0, none⟩))) wr) := by
              show PairPost _ _ _ _ _ _
              have h1 := HPi.out
              have h2 := HBi.out
              rw [HBE.out] at h1 h2
              exact ⟨bp, bn, ba, nx, ah, s, rfl, h1, pinv_done HI.out, h2⟩
            go_wp2
            go_ret
            exact HF.out
end Go.Proofs.YtklikjjipoghlaaDoor
