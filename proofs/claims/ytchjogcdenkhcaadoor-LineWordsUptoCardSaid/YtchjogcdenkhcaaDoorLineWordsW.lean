/- The law LineWords, where what it reads is of bulk at most 2^20. Conditions: the text is at most 2^20 bytes; the machine's MaxLen is laid. -/
import Derived.Test.YtchjogcdenkhcaaDoorLinePartsW
import Derived.Test.YtchjogcdenkhcaaDoorWordsW
import Derived.Test.YtchjogcdenkhcaaDoorIndexAnyW
namespace Go.Proofs.YtchjogcdenkhcaaDoor
open Go.RowKit Go.Shelf
theorem nlq_cell {w : World} {n c b o : Nat} {zs : List ByteArray} (h : NL w (some ⟨b, o, none⟩) n c zs) : ∀ j, j < zs.length → w.cell? ⟨b, o + j, none⟩ = some (.string (zs.getD j ByteArray.empty)) := by
  intro j hj
  have hl := h.at_.len
  obtain ⟨ad, e, _, hc⟩ := str_at h.at_.reads (show j < n by omega)
  injection e with e
  subst e
  rwa [Addr.add_lit] at hc
theorem nlq_equal {w : World} {p q : Option Addr} {n c d : Nat} {zs : List ByteArray} (h : NL w p n c zs) (h2 : NL w q n d zs) :
    Calls Tryd.prog 13 #[.slice p n c, .slice q n d] w fun e w' => e = .returned (.bool true) ∧ Below w.heap.size w w' := by
  have hl := h.at_.len
  have hb := h.at_.big
  subst hl
  rcases Nat.eq_zero_or_pos zs.length with h0 | h0
  · have : zs = [] := List.length_eq_zero_iff.1 h0
    subst this
    refine (Tryd.slices_Equal_string_empty p q c 0 d w (by omega)).mono ?_
    rintro e w' ⟨he, rfl⟩
    exact ⟨by simpa using he, Below.refl _ _⟩
  · obtain ⟨ad, rfl, _⟩ := h.at_.reads.2 h0
    obtain ⟨b, o, rfl, _⟩ := h.plain _ rfl
    obtain ⟨ad, rfl, _⟩ := h2.at_.reads.2 h0
    obtain ⟨b2, o2, rfl, _⟩ := h2.plain _ rfl
    refine (Tryd.slices_Equal_string b o zs.length c b2 o2 zs.length d zs zs w (Nat.le_refl _) (Nat.le_refl _) (by omega) (by omega) (nlq_cell h) (nlq_cell h2)).mono ?_
    rintro e w' ⟨he, k, rfl⟩
    exact ⟨by simpa using he, below_drawsP (Below.refl _ _) k⟩
theorem nlq_join {w : World} {p : Option Addr} {n c : Nat} {us : List ByteArray} (h : NL w p n c us) (hc : n ≤ c) (sep : ByteArray)
    (hn : us.length ≤ 140737488355328) (hlen : (Lib.join (us.map (·.data.toList)) sep.data.toList).length ≤ 140737488355328) :
    Calls Tryd.prog 14 #[.slice p n c, .string sep] w fun e w' => e = .returned (.string ⟨(Lib.join (us.map (·.data.toList)) sep.data.toList).toArray⟩) ∧ Below w.heap.size w w' := by
  have hl := h.at_.len
  subst hl
  rcases Nat.eq_zero_or_pos us.length with h0 | h0
  · have : us = [] := List.length_eq_zero_iff.1 h0
    subst this
    refine (Tryd.strings_Join_none p c sep w).mono ?_
    rintro e w' ⟨rfl, rfl⟩
    exact ⟨rfl, Below.refl _ _⟩
  · obtain ⟨ad, rfl, _⟩ := h.at_.reads.2 h0
    obtain ⟨b, o, rfl, hbg⟩ := h.plain _ rfl
    refine Tryd.strings_Join b o c us sep w (fun j x hx => ?_) hbg hn hc hlen
    have hj := (List.getElem?_eq_some_iff.1 hx).1
    have := nlq_cell h j hj
    rw [List.getD_eq_getElem?_getD, hx] at this
    exact this
/-- joined by one blank the words take no more room than the text -/
theorem wgo_room : ∀ (l cur : List UInt8), (Lib.join (wgo cur l) [32]).length ≤ cur.length + l.length := by
  intro l
  induction l with
  | nil =>
    intro cur
    rw [wgo_nil]
    split
    · simp [Lib.join]
    · simp [Lib.join]
  | cons c l ih =>
    intro cur
    rw [wgo_cons, List.length_cons]
    split
    · split
      · have := ih []
        rw [List.length_nil] at this
        omega
      · have h := ih []
        rw [List.length_nil] at h
        match hq : wgo [] l, h with
        | [], _ => simp [Lib.join]
        | y :: r, h =>
          rw [join_two, List.length_append, List.length_append]
          have : ([32] : List UInt8).length = 1 := rfl
          omega
    · have h := ih (cur ++ [c])
      rw [List.length_append] at h
      have : [c].length = 1 := rfl
      omega
theorem trm_empty (s : ByteArray) : trm s = (⟨#[]⟩ : ByteArray) ↔ wb s.data.toList = [] := by
  unfold wb trm
  rw [List.map_eq_nil_iff, words_empty, ← trim_empty]
  constructor
  · intro h
    have := congrArg (fun x : ByteArray => x.data.toList) h
    simpa [txt_list] using this
  · intro h; rw [h]; rfl
set_option maxHeartbeats 4000000 in
theorem lineWords_walk (s : ByteArray) (w : World) (hM : ML w) (hs : s.size ≤ 1048576) :
    Calls Tryd.prog 4 #[.string s] w fun e w' => e = .returned (.bool true) ∧ Below w.heap.size w w' := by
  have HL := Lib.hid (lines_below w hM)
  have HW := Lib.hid (fun u => Words_ok s u hs)
  have HT := Lib.hid (fun u => trim_ok s u (by omega))
  have hte := trm_empty s
  have hall : ∀ x ∈ wb s.data.toList, WordL x.data.toList ∧ x.size ≤ 1048576 := fun x hx => by
    refine ⟨words_all s.data.toList _ ?_, by have := wb_size _ x hx; rw [← Lib.size_eq] at this; omega⟩
    rw [← lst_wb]
    exact List.mem_map_of_mem hx
  have hln := wb_len s.data.toList
  rw [← Lib.size_eq] at hln
  have hroom : (Lib.join (lst (wb s.data.toList)) [32]).length ≤ 1048576 := by
    rw [lst_wb]
    have := wgo_room s.data.toList []
    rw [List.length_nil, ← Lib.size_eq] at this
    exact Nat.le_trans (by unfold wordsL; omega) hs
  have hback : wb (Lib.join (lst (wb s.data.toList)) [32]) = wb s.data.toList := by
    rw [lst_wb]
    unfold wb
    rw [words_join (words_all _)]
  generalize wb s.data.toList = us at *
  generalize trm s = ts at *
  obtain ⟨js, hjs⟩ : ∃ js : ByteArray, js = ⟨(Lib.join (lst us) [32]).toArray⟩ := ⟨_, rfl⟩
  have hjl : js.data.toList = Lib.join (lst us) [32] := by rw [hjs]
  have HW2 := Lib.hid (fun u => Words_ok js u (by rw [Lib.size_eq, hjl]; exact hroom))
  rw [hjl, hback] at HW2
  have HJ : Hid (∀ u p, NL u p us.length us.length us → Calls Tryd.prog 14 #[.slice p us.length us.length, .string ⟨#[32]⟩] u fun e w' => e = .returned (.string js) ∧ Below u.heap.size u w') := by
    show ∀ u p, _
    intro u p h
    have := nlq_join h (Nat.le_refl _) ⟨#[32]⟩ (by omega) (by have := hroom; unfold lst at this; exact Nat.le_trans this (by decide))
    rw [hjs]
    exact this
  have HA := Lib.hid hall
  have HTE := Lib.hid hte
  clear hjs hjl hback hroom hall hte
  go_enter Tryd.func4, Tryd.ntmps4
  go_wp2_with (first
    | (go_at_call 6; refine HL.out.mono ?_; rintro e w1 ⟨rfl, hb⟩; have HB1 := Lib.hid hb; clear hb)
    | (go_at_call 11; refine (HW.out _).mono ?_; rintro e w2 ⟨g, rfl, _, hn, hb⟩; have HN := Lib.hid hn; have HB2 := Lib.hid (HB1.out.trans (hb.mono HB1.out.size)); clear hb hn))
  go_loopw [12] (fun i wr => ∃ k : Nat, k ≤ us.length ∧ i = .int .i64 k ∧ Hid (Below w2.heap.size w2 wr)) (fun i _ => us.length - (intOf i).toNat)
  case atStart => exact ⟨0, Nat.zero_le _, rfl, Below.refl _ _⟩
  case round =>
    obtain ⟨k, hk, rfl, HR⟩ := hrel
    by_cases hlt : k < us.length
    · have hc := nlq_cell (HN.out.below HR.out) k hlt
      rw [List.getD_eq_getElem?_getD, List.getElem?_eq_getElem hlt, Nat.zero_add] at hc
      simp only [Option.getD_some] at hc
      obtain ⟨x, hx⟩ : ∃ x, x = us[k] := ⟨_, rfl⟩
      have hxm : x ∈ us := by rw [hx]; exact List.getElem_mem hlt
      rw [← hx] at hc
      obtain ⟨⟨n1, n2⟩, n3⟩ := HA.out x hxm
      have hne : ¬ (x.toList = []) := by rw [Lib.toList_data]; exact n1
      have hde : x.toList.isEmpty = false := by rw [List.isEmpty_eq_false_iff]; exact hne
      have HCA := Lib.hid (fun u => containsAny_none x 32 9 (by decide) (by decide) (by omega) (fun c hc' => by
        have := n2 c hc'
        unfold blk at this
        simp only [Bool.or_eq_false_iff, beq_eq_false_iff_ne] at this
        exact this) u)
      clear n1 n2 n3 hx hxm
      go_wp2_with (go_at_call 12; refine (HCA.out _).mono ?_; rintro e w3 ⟨rfl, hb⟩; have HB3 := Lib.hid (HR.out.trans (hb.mono HR.out.size)); clear hb)
      go_roundw
      case rel => exact ⟨k + 1, by omega, by go_num, HB3⟩
      case measure => simp [intOf]; omega
    · obtain rfl : k = us.length := by omega
      have HNr := Lib.hid (fun u (hu : Below wr.heap.size wr u) => HN.out.below (HR.out.trans (hu.mono HR.out.size)))
      have hee : ts.toList.isEmpty = decide (us = []) := by
        rw [Bool.eq_iff_iff, List.isEmpty_iff, decide_eq_true_iff, ← HTE.out, Lib.toList_data]
        constructor
        · intro h; cases ts; exact congrArg ByteArray.mk (Array.toList_inj.1 h)
        · intro h; rw [h]
      have HBR : Hid (Below w.heap.size w wr) := HB2.out.trans (HR.out.mono HB2.out.size)
      go_wp2_with (first
        | (go_at_call 14; refine (HJ.out _ _ (HNr.out _ (Below.refl _ _))).mono ?_; rintro e w3 ⟨rfl, hb⟩; have HB3 := Lib.hid hb; clear hb)
        | (go_at_call 11; refine (HW2.out _).mono ?_; rintro e w4 ⟨g2, rfl, _, hn, hb⟩; have HN2 := Lib.hid hn; have HB4 := Lib.hid (HB3.out.trans (hb.mono HB3.out.size)); clear hb hn)
        | (go_at_call 13; refine (nlq_equal HN2.out (HNr.out _ HB4.out)).mono ?_; rintro e w5 ⟨rfl, hb⟩; have HB5 := Lib.hid (HB4.out.trans (hb.mono HB4.out.size)); clear hb)
        | (go_at_call 15; refine (HT.out _).mono ?_; rintro e w6 ⟨rfl, hb⟩; have HB6 := Lib.hid (HB5.out.trans (hb.mono HB5.out.size)); clear hb))
      have hfin : (decide (0 < us.length) == !decide (us = [])) = true := by
        cases us with
        | nil => rfl
        | cons a b => simp
      rw [hfin]
      go_ret
      exact ⟨rfl, HBR.out.trans (HB6.out.mono HBR.out.size)⟩
end Go.Proofs.YtchjogcdenkhcaaDoor
