/- The law LineBack, where what it reads is of bulk at most 2^20. Conditions: the texts are at most 2^20 bytes; the machine's MaxLen is laid. -/
import Derived.Test.YtchjogcdenkhcaaDoorLinePrintW
namespace Go.Proofs.YtchjogcdenkhcaaDoor
open Go.RowKit Go.Shelf
theorem idx_none {c : UInt8} : ∀ (l : Bl), c ∉ l → Lib.indexAny l [c] = -1 := by
  intro l
  induction l with
  | nil => intro _; rfl
  | cons b l ih =>
    intro h
    have h1 : b ≠ c := fun e => h (by rw [e]; exact List.mem_cons_self)
    have h2 := ih (fun g => h (List.mem_cons_of_mem _ g))
    show (if [c].contains b then (0 : Int) else if Lib.indexAny l [c] == -1 then -1 else Lib.indexAny l [c] + 1) = -1
    rw [h2]
    simp [h1]
theorem containsOne_no (s : ByteArray) (c : UInt8) (hc : c.toNat < 128) (h : c ∉ s.data.toList) (w : World) : Calls Tryd.prog 12 #[.string s, .string ⟨#[c]⟩] w fun e w' => e = .returned (.bool false) ∧ w' = w := by
  have HI := Lib.hid (Tryd.strings_IndexAny_one s ⟨#[c]⟩ w rfl (fun j b hb => by
    match j, hb with
    | 0, hb =>
      have : c = b := by simpa using hb
      rw [← this]; exact hc))
  have hi : Lib.indexAny s.data.toList (⟨#[c]⟩ : ByteArray).data.toList = -1 := idx_none _ h
  rw [hi] at HI
  clear hi h
  go_enter Tryd.func12, Tryd.ntmps12
  go_wp2_with (go_at_call 26; refine HI.out.mono ?_; rintro e w' ⟨rfl, rfl⟩)
  go_ret
  exact ⟨rfl, rfl⟩
set_option maxHeartbeats 8000000 in
set_option maxRecDepth 100000 in
theorem lineBack_walk (p : Option Addr) (n c : Nat) (l : List LnH) (s : ByteArray) (w : World) (hM : ML w) (h : P2At hF hG w p n c l) (hr : ∀ x ∈ l, x.1 ≤ 9223372036854775807 ∧ x.2.size ≤ 1048576) (hs : s.size ≤ 1048576) :
    Calls Tryd.prog 5 #[.slice p n c, .string s] w fun e w' => e = .returned (.bool true) ∧ Below w.heap.size w w' := by
  have HL := Lib.hid (lines_below w hM)
  have HPR := Lib.hid (fun u (hu : Below w.heap.size w u) => Print_ok p n c l u (hM.below hu) (h.below hu) hr)
  have HP := Lib.hid (fun u (hu : Below w.heap.size w u) => h.below hu)
  have HJT := Lib.hid (fun (t : ByteArray) (ht : t.size ≤ 1048576) u (hu : Below w.heap.size w u) => JoinS_ok t (by omega) u (hM.below hu))
  have HPB := Lib.hid (fun h1 h2 => print_back (l := l) h1 h2)
  obtain ⟨f1, f2⟩ := jg_facts _ s.data.toList 0 (Nat.le_refl _)
  have hcn : s.data.toList.count 10 ≤ s.size := by rw [Lib.size_eq]; exact List.count_le_length
  have hln := joinL_len s.data.toList
  rw [← Lib.size_eq] at hln
  have HCN : Hid (∀ u, Calls Tryd.prog 9 #[.string s, .string ⟨#[10]⟩] u fun e w' => e = .returned (.int .i64 ((s.data.toList.count 10 : Nat) : Int)) ∧ w' = u) := fun u => Tryd.strings_Count_one s 10 u
  obtain ⟨la, hla⟩ : ∃ la, la = joinL s.data.toList := ⟨_, rfl⟩
  have HFA : Hid (∀ x ∈ la, 0 < x.1 ∧ x.1 ≤ 0 + s.data.toList.count 10 + 1 ∧ x.2 ≠ [] ∧ (10 : UInt8) ∉ x.2) := by
    show ∀ x ∈ la, _
    rw [hla]; exact f1
  have HFP : Hid (la.Pairwise fun x y => x.1 < y.1) := by
    show List.Pairwise _ _
    rw [hla]; exact f2
  have HJS := Lib.hid (HJT.out s hs)
  rw [← hla] at HJS hln
  clear f1 f2 hla hM h hr
  generalize s.data.toList.count 10 = cn at *
  go_enter Tryd.func5, Tryd.ntmps5
  go_wp2_with fail
  refine HL.out.mono ?_
  rintro e w1 ⟨rfl, hb⟩
  have HB1 := Lib.hid hb
  clear hb
  go_wp2_with fail
  refine (HPR.out _ HB1.out).mono ?_
  rintro e w2 ⟨⟨t, E, rfl, ht⟩, hb⟩
  have HB2 := Lib.hid (HB1.out.trans (hb.mono HB1.out.size))
  clear hb HPR
  rcases ht with ⟨hE, rfl⟩ | ⟨rfl, hok, ht, hlen⟩
  case' inl =>
    have hEd : decide (E = 0) = false := decide_eq_false hE
    have HBX := HB2
    go_upto_region 10 with fail
  case' inr =>
    obtain ⟨q1, q2⟩ := HPB.out hok hlen
    rw [← ht] at q1
    have hts : t.size ≤ 1048576 := by rw [ht, txt_size]; omega
    have htl : joinL t.data.toList = joinL (prI l 0) := by rw [ht, txt_list]
    have HJ1 := Lib.hid (HJT.out t hts _ HB2.out)
    have HQ := Lib.hid q2
    have hlm : (joinL (prI l 0)).length = n := by
      have := (HP.out _ (Below.refl _ _)).len
      rw [← q2, List.length_map] at this
      exact this
    rw [q1, htl] at HJ1
    clear hok ht hlen q1 htl hts q2
    generalize joinL (prI l 0) = lm at *
    go_wp2_with fail
    refine HJ1.out.mono ?_
    rintro e w3 ⟨⟨p3, n3, c3, rfl, h3, _⟩, hb⟩
    obtain ⟨hn3, ho⟩ := h3 trivial
    have hn3' : n3 = n := by rw [hn3, hlm]
    subst hn3'
    have HBX := Lib.hid (HB2.out.trans (hb.mono HB2.out.size))
    have HM3 : Hid (P2At hF hG w3 p3 n3 c3 l) := by
      have := own_H ho (HP.out _ (Below.refl _ _)).big
      rw [HQ.out] at this
      exact this
    clear ho hb h3 hn3 hlm HJ1
    have HEQ := Lib.hid (equalL_same p p3 n3 c c3 l w3 (HP.out _ HBX.out) HM3.out)
    have HB3 := HBX
    clear HBX
    go_upto_region 10 with (go_at_call 10; refine HEQ.out.mono ?_; rintro e w4 ⟨rfl, hb⟩; have HBX := Lib.hid (HB3.out.trans (hb.mono HB3.out.size)); clear hb)
  all_goals
    go_wp2_with fail
    refine (HJS.out _ HBX.out).mono ?_
    rintro e w5 ⟨⟨p5, n5, c5, rfl, h5, h6⟩, hb⟩
    have HB5 := Lib.hid (HBX.out.trans (hb.mono HBX.out.size))
    have H6 := Lib.hid h6
    have H5 := Lib.hid h5
    clear hb h5 h6 HJS
    by_cases hE : joinE s = 0
    · obtain ⟨rfl, ho⟩ := H5.out hE
      have HA := Lib.hid (P2At.own ho (by omega))
      rw [hE]
      clear ho H5 H6 hE
      go_wp2
      go_loopw [50, 11] (fun i a wr => ∃ k z : Nat, k ≤ la.length ∧ i = .int .i64 k ∧ a = .int .i64 z ∧ z ≤ cn + 1 ∧ Hid (∀ x, la[k]? = some x → z < x.1) ∧ Hid (Below w5.heap.size w5 wr)) (fun i _ _ => la.length - (intOf i).toNat)
      case atStart => exact ⟨0, 0, Nat.zero_le _, rfl, rfl, by omega, fun x hx => (HFA.out x (List.mem_of_getElem? hx)).1, Below.refl _ _⟩
      case round =>
        obtain ⟨k, z, hk, rfl, rfl, hz, HZ, HW⟩ := hrel
        by_cases hlt : k < la.length
        · have hel := List.getElem?_eq_getElem hlt
          obtain ⟨b, o, rfl, hb, c1, c2⟩ := (HA.out.below HW.out).cell hel
          obtain ⟨x, hx⟩ : ∃ x, x = la[k] := ⟨_, rfl⟩
          rw [← hx] at hel c1 c2
          obtain ⟨g1, g2, g3, g4⟩ := HFA.out x (List.mem_of_getElem? hel)
          have hzx := HZ.out x hel
          have HNX : Hid (∀ y, la[k + 1]? = some y → x.1 < y.1) := by
            show ∀ y, _
            intro y hy
            have hy1 := (List.getElem?_eq_some_iff.1 hy).1
            have := List.pairwise_iff_getElem.1 HFP.out k (k + 1) hlt hy1 (by omega)
            rw [← hx] at this
            rw [(List.getElem?_eq_some_iff.1 hy).2] at this
            exact this
          rw [← Nat.add_assoc] at c2
          clear hx hel HZ
          obtain ⟨x1, x2⟩ := x
          simp only [lF, lG] at c1 c2 g1 g2 g3 g4 hzx HNX
          have hd1 : decide ((x1 : Int) ≤ (z : Int)) = false := decide_eq_false (by omega)
          have hd2 : (txt x2).toList.isEmpty = false := by
            rw [Lib.toList_data, txt_list]
            cases x2 with
            | nil => exact absurd rfl g3
            | cons a b => rfl
          have HCA := Lib.hid (fun u => containsOne_no (txt x2) 10 (by decide) (by rw [txt_list]; exact g4) u)
          have hk1 : (k : Int) < (la.length : Int) := by omega
          clear g3 g4
          have HB0 : Hid (∀ o, Below w5.heap.size w5 (wr.alloc o)) := fun o => HW.out.trans ((lb1 wr o).mono HW.out.size)
          go_wp2_with (go_at_call 12; refine (HCA.out _).mono ?_; rintro e w6 ⟨rfl, rfl⟩)
          go_roundw
          case rel => exact ⟨k + 1, x1, by omega, by go_num, rfl, by omega, HNX.out, HB0.out _⟩
          case measure => simp [intOf]; omega
        · obtain rfl : k = la.length := by omega
          have hd1 : decide ((z : Int) ≤ (cn : Int) + 1) = true := decide_eq_true (by omega)
          go_wp2_with (go_at_call 9; refine (HCN.out _).mono ?_; rintro e w6 ⟨rfl, rfl⟩)
          go_ret
          exact ⟨by first | rfl | (simp; omega), HB5.out.trans (HW.out.mono HB5.out.size)⟩
    · have hn := H6.out hE
      subst hn
      have hEd : decide (joinE s = 0) = false := decide_eq_false hE
      clear H5 H6
      generalize joinE s = F at *
      go_wp2
      go_ret
      exact ⟨rfl, HB5.out⟩
end Go.Proofs.YtchjogcdenkhcaaDoor
