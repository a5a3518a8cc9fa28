/- The walk of line.plain. Conditions: the text is at most 2^20 bytes; the machine's MaxLen is laid. -/
import Derived.Test.YtchjogcdenkhcaaDoorLinePartsLW
import Derived.Test.YtchjogcdenkhcaaDoorLineQ
namespace Go.Proofs.YtchjogcdenkhcaaDoor
open Go.RowKit Go.Shelf
/-- is the text joined as it is shown? -/
def plnB (l : Bl) : Bool := decide (joinE (txt (shw l)) = 0) && decide ((joinL (shw l)).length = 1) && decide (((joinL (shw l)).getD 0 (0, [])).2 = l)
theorem plnB_plain {l : Bl} (h : plnB l = true) : PlainL l ∧ joinE (txt (shw l)) = 0 := by
  unfold plnB at h
  simp only [Bool.and_eq_true, decide_eq_true_iff] at h
  obtain ⟨⟨h1, h2⟩, h3⟩ := h
  refine ⟨?_, h1⟩
  match hq : joinL (shw l), h2, h3 with
  | [(k, x)], _, h3 =>
    have : x = l := by simpa using h3
    exact ⟨k, by rw [hq, this]⟩
theorem shw_len (l : Bl) : (shw l).length ≤ 2 * l.length := by
  induction l with
  | nil => rw [shw_nil]; simp
  | cons c l ih =>
    rw [shw_cons, List.length_cons]
    split
    · simp only [List.length_cons]; omega
    · simp only [List.length_cons]; omega
theorem strq_eq (x y : ByteArray) : (x.toList == y.toList) = decide (x.data.toList = y.data.toList) := by
  rw [Lib.toList_data, Lib.toList_data, Bool.eq_iff_iff, beq_iff_eq, decide_eq_true_iff]
set_option maxHeartbeats 4000000 in
theorem plain_ok (s : ByteArray) (hs : s.size ≤ 1048576) (w : World) (hM : ML w) : Calls Tryd.prog 37 #[.string s] w fun e w' => e = .returned (.bool (plnB s.data.toList)) ∧ Below w.heap.size w w' := by
  have HSH := Lib.hid (shown_ok s hs w hM)
  have hz : (txt (shw s.data.toList)).size ≤ 2097152 := by
    rw [txt_size]
    have := shw_len s.data.toList
    rw [← Lib.size_eq] at this
    omega
  have HJ := Lib.hid (fun u (hu : Below w.heap.size w u) => JoinS_ok (txt (shw s.data.toList)) (by omega) u (hM.below hu))
  rw [txt_list] at HJ
  obtain ⟨L, hL⟩ : ∃ L, L = joinL (shw s.data.toList) := ⟨_, rfl⟩
  obtain ⟨E, hE⟩ : ∃ E, E = joinE (txt (shw s.data.toList)) := ⟨_, rfl⟩
  have HP : Hid (plnB s.data.toList = (decide (E = 0) && decide (L.length = 1) && decide ((L.getD 0 (0, [])).2 = s.data.toList))) := by
    show _ = _
    rw [hL, hE]
    rfl
  rw [← hL, ← hE] at HJ
  have hbig : E = 0 → L.length ≤ 4194304 := fun _ => by
    have := joinL_len (shw s.data.toList)
    rw [txt_size] at hz
    rw [hL]
    omega
  generalize txt (shw s.data.toList) = S at *
  clear hL hE hz
  go_enter Tryd.func37, Tryd.ntmps37
  go_wp2_with fail
  refine HSH.out.mono ?_
  rintro e w1 ⟨rfl, hb⟩
  have HB1 := Lib.hid hb
  clear hb
  go_wp2_with fail
  refine (HJ.out _ HB1.out).mono ?_
  rintro e w2 ⟨⟨p, n, c, rfl, ho, hn⟩, hb⟩
  have HO := Lib.hid ho
  have HB2 := Lib.hid (HB1.out.trans (hb.mono HB1.out.size))
  clear hb ho hn HJ HSH
  by_cases h0 : E = 0
  · obtain ⟨rfl, ho⟩ := HO.out h0
    have hbg := hbig h0
    subst h0
    by_cases h1 : L.length = 1
    · match L, h1 with
      | [(k, x)], _ =>
        have HC := Lib.hid ho
        obtain ⟨g, cap, hv, _, _⟩ := ho.form (by simp)
        injection hv with hv1 hv2 hv3
        subst hv1 hv3
        have hc := HC.out.cells (g := g) rfl 1 _ rfl
        rw [Addr.add_lit] at hc
        have hc2 : w2.cell? ⟨g, 1, none⟩ = some (.string (txt x)) := by simpa [lG] using hc
        have hpl : plnB s.data.toList = ((txt x).toList == s.toList) := by rw [HP.out, strq_eq, txt_list]; rfl
        clear ho hc
        go_wp2
        go_ret
        exact ⟨by rw [hpl]; rfl, HB2.out⟩
    · have HPF : Hid (plnB s.data.toList = false) := by
        show _ = _
        rw [HP.out, decide_eq_false h1]; rfl
      have h1i : ¬ ((L.length : Int) = 1) := by omega
      have h1d : decide ((L.length : Int) = 1) = false := decide_eq_false h1i
      clear ho
      go_wp2
      go_ret
      exact ⟨by rw [HPF.out]; rfl, HB2.out⟩
  · have HPF : Hid (plnB s.data.toList = false) := by
      show _ = _
      rw [HP.out, decide_eq_false h0]; rfl
    have h0d : decide (E = 0) = false := decide_eq_false h0
    go_wp2
    go_ret
    exact ⟨by rw [HPF.out]; rfl, HB2.out⟩
end Go.Proofs.YtchjogcdenkhcaaDoor
