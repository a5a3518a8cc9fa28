/- The closures of the law RuleJoin: is there a rule with that target (and that need)? Conditions: the rules read as listed. -/
import Derived.Test.YtmeenhfclnkjhaaDoorRuleJW
namespace Go.Proofs.YtmeenhfclnkjhaaDoor
open Go.RowKit Go.Shelf
/-- slices.Contains answers at the header as the list says -/
def Con (w : World) (x : Hd) : Prop := ∀ u, Below w.heap.size w u → ∀ t : ByteArray, Calls Tryd.prog 24 #[.slice x.p x.n x.c, .string t] u fun e w' => e = .returned (.bool (Lib.containsS x.zs t)) ∧ w' = u
theorem Con.below {w w' : World} {x : Hd} (h : Con w x) (hb : Below w.heap.size w w') : Con w' x := fun u hu t => h u (hb.trans (hu.mono hb.size)) t
/-- rules that can be asked -/
structure AskR (w : World) (p : Option Addr) (n c : Nat) (l : List (Hd × Hd)) : Prop where
  at_ : P2At rF rG w p n c l
  con : ∀ x ∈ l, Con w x.1 ∧ Con w x.2
theorem AskR.below {w w' : World} {p : Option Addr} {n c : Nat} {l : List (Hd × Hd)} (h : AskR w p n c l) (hb : Below w.heap.size w w') : AskR w' p n c l :=
  ⟨h.at_.below hb, fun x hx => ⟨(h.con x hx).1.below hb, (h.con x hx).2.below hb⟩⟩
def hasB (t n : ByteArray) (x : Hd × Hd) : Bool := Lib.containsS x.1.zs t && Lib.containsS x.2.zs n
def isB2 (t : ByteArray) (x : Hd × Hd) : Bool := Lib.containsS x.1.zs t
set_option maxHeartbeats 1000000 in
theorem has1_ok (b1 b2 : Nat) (t n : ByteArray) (x : Hd × Hd) (w : World) (h1 : Con w x.1) (h2 : Con w x.2) (c1 : w.cell? ⟨b1, 0, none⟩ = some (.string t)) (c2 : w.cell? ⟨b2, 0, none⟩ = some (.string n)) :
    Calls Tryd.prog 23 #[.agg #[.slice x.1.p x.1.n x.1.c, .slice x.2.p x.2.n x.2.c], .pointer (some ⟨b1, 0, none⟩), .pointer (some ⟨b2, 0, none⟩)] w fun e w' => e = .returned (.bool (hasB t n x)) ∧ Below w.heap.size w w' := by
  obtain ⟨⟨p1, n1, cc1, T⟩, ⟨p2, n2, cc2, N⟩⟩ := x
  have HB0 := Lib.hid (rb1 w (.cells #[.slice p1 n1 cc1, .slice p2 n2 cc2] 37))
  have H1 := Lib.hid (h1 _ HB0.out t)
  have H2 := Lib.hid (h2 _ HB0.out n)
  have hl1 := World.block_lt_of_cell? w _ c1
  have hl2 := World.block_lt_of_cell? w _ c2
  simp only at hl1 hl2
  have d1 : (w.alloc (.cells #[.slice p1 n1 cc1, .slice p2 n2 cc2] 37)).cell? ⟨b1, 0, none⟩ = some (.string t) := (HB0.out.cell hl1).trans c1
  have d2 : (w.alloc (.cells #[.slice p1 n1 cc1, .slice p2 n2 cc2] 37)).cell? ⟨b2, 0, none⟩ = some (.string n) := (HB0.out.cell hl2).trans c2
  have HE : Hid (hasB t n (⟨p1, n1, cc1, T⟩, ⟨p2, n2, cc2, N⟩) = (Lib.containsS T t && Lib.containsS N n)) := rfl
  simp only at H1 H2
  clear h1 h2 c1 c2
  cases hc : Lib.containsS T t
  · rw [hc] at H1 HE
    go_enter Tryd.func23, Tryd.ntmps23
    go_wp2_with (go_at_call 24; refine H1.out.mono ?_; rintro e w1 ⟨rfl, hw1⟩; rw [hw1]; clear hw1)
    go_ret
    exact ⟨by rw [HE.out]; rfl, HB0.out⟩
  · rw [hc] at H1 HE
    go_enter Tryd.func23, Tryd.ntmps23
    go_wp2_with (first
      | (go_at_call 24; have HX := H1.out; clear H1; refine HX.mono ?_; clear HX; rintro e w1 ⟨rfl, hw1⟩; rw [hw1]; clear hw1)
      | (go_at_call 24; refine H2.out.mono ?_; rintro e w1 ⟨rfl, hw1⟩; rw [hw1]; clear hw1))
    go_ret
    exact ⟨by rw [HE.out]; rfl, HB0.out⟩
set_option maxHeartbeats 1000000 in
theorem is1_ok (b1 : Nat) (t : ByteArray) (x : Hd × Hd) (w : World) (h1 : Con w x.1) (c1 : w.cell? ⟨b1, 0, none⟩ = some (.string t)) :
    Calls Tryd.prog 26 #[.agg #[.slice x.1.p x.1.n x.1.c, .slice x.2.p x.2.n x.2.c], .pointer (some ⟨b1, 0, none⟩)] w fun e w' => e = .returned (.bool (isB2 t x)) ∧ Below w.heap.size w w' := by
  obtain ⟨⟨p1, n1, cc1, T⟩, ⟨p2, n2, cc2, N⟩⟩ := x
  have HB0 := Lib.hid (rb1 w (.cells #[.slice p1 n1 cc1, .slice p2 n2 cc2] 37))
  have H1 := Lib.hid (h1 _ HB0.out t)
  have hl1 := World.block_lt_of_cell? w _ c1
  simp only at hl1
  have d1 : (w.alloc (.cells #[.slice p1 n1 cc1, .slice p2 n2 cc2] 37)).cell? ⟨b1, 0, none⟩ = some (.string t) := (HB0.out.cell hl1).trans c1
  simp only at H1
  clear h1 c1
  go_enter Tryd.func26, Tryd.ntmps26
  go_wp2_with (go_at_call 24; refine H1.out.mono ?_; rintro e w1 ⟨rfl, hw1⟩; rw [hw1]; clear hw1)
  go_ret
  exact ⟨rfl, HB0.out⟩
set_option maxHeartbeats 2000000 in
theorem indexHas_ok (b1 b2 : Nat) (t n : ByteArray) (p : Option Addr) (n0 c : Nat) (l : List (Hd × Hd)) (w : World) (h : AskR w p n0 c l) (c1 : w.cell? ⟨b1, 0, none⟩ = some (.string t)) (c2 : w.cell? ⟨b2, 0, none⟩ = some (.string n)) :
    Calls Tryd.prog 47 #[.slice p n0 c, .func (.func 23) #[] #[.pointer (some ⟨b1, 0, none⟩), .pointer (some ⟨b2, 0, none⟩)]] w fun e w' => (∃ r : Int, e = .returned (.int .i64 r) ∧ decide (0 ≤ r) = l.any (hasB t n)) ∧ Below w.heap.size w w' := by
  have hl := h.at_.len
  have hbig := h.at_.big
  subst hl
  have HN := Lib.hid h
  have HC1 := Lib.hid c1
  have HC2 := Lib.hid c2
  have hl1 := World.block_lt_of_cell? w _ c1
  have hl2 := World.block_lt_of_cell? w _ c2
  simp only at hl1 hl2
  clear c1 c2
  clear h
  go_enter Tryd.func47, Tryd.ntmps47
  go_wp2
  go_loopw [8] (fun i wr => ∃ k : Nat, k ≤ l.length ∧ i = .int .i64 k ∧ Hid (Below w.heap.size w wr) ∧ Hid ((l.take k).any (hasB t n) = false)) (fun i _ => l.length - (intOf i).toNat)
  case atStart => exact ⟨0, Nat.zero_le _, rfl, Below.refl _ _, rfl⟩
  case round =>
    obtain ⟨k, hk, rfl, HW, HL⟩ := hrel
    by_cases hlt : k < l.length
    · have hel := List.getElem?_eq_getElem hlt
      obtain ⟨b, o, rfl, hb, e1, e2⟩ := (HN.out.below HW.out).at_.cell hel
      have hmm : l[k] ∈ l := List.getElem_mem hlt
      have hok := (HN.out.below HW.out).con _ hmm
      have HT : Hid ((l.take (k + 1)).any (hasB t n) = (hasB t n) l[k]) := by
        show _ = _
        rw [List.take_add_one, hel, List.any_append, HL.out]
        simp
      have HY : Hid ((hasB t n) l[k] = true → l.any (hasB t n) = true) := fun g => List.any_eq_true.2 ⟨_, hmm, g⟩
      rw [← Nat.add_assoc] at e2
      clear hel hmm
      generalize l[k] = y at *
      simp only [rF, rG, Hd.v] at e1 e2
      have hk1 : (k : Int) < (l.length : Int) := by omega
      have HX := Lib.hid (has1_ok b1 b2 t n y _ hok.1 hok.2 ((HW.out.cell hl1).trans HC1.out) ((HW.out.cell hl2).trans HC2.out))
      generalize hv : (hasB t n) y = v at *
      clear hv hok
      obtain ⟨⟨p1, n1, cc1, T⟩, ⟨p2, n2, cc2, N⟩⟩ := y
      simp only at e1 e2 HX
      cases v
      · go_wp2_with (go_at_call 23; refine HX.out.mono ?_; rintro e w1 ⟨rfl, hb1⟩; have HB1 := Lib.hid hb1; clear hb1)
        go_roundw
        case rel => exact ⟨k + 1, by omega, by go_num, HW.out.trans (HB1.out.mono HW.out.size), HT.out⟩
        case measure => simp [intOf]; omega
      · have HYY := Lib.hid (HY.out rfl)
        clear HY HT
        go_wp2_with (go_at_call 23; refine HX.out.mono ?_; rintro e w1 ⟨rfl, hb1⟩; have HB1 := Lib.hid hb1; clear hb1)
        go_ret
        exact ⟨⟨(k : Int), rfl, by rw [HYY.out]; exact decide_eq_true (by omega)⟩, HW.out.trans (HB1.out.mono HW.out.size)⟩
    · obtain rfl : k = l.length := by omega
      rw [List.take_length] at HL
      go_wp2
      go_ret
      exact ⟨⟨-1, rfl, by rw [HL.out]; rfl⟩, HW.out⟩
theorem containsHas_ok (b1 b2 : Nat) (t n : ByteArray) (p : Option Addr) (n0 c : Nat) (l : List (Hd × Hd)) (w : World) (h : AskR w p n0 c l) (c1 : w.cell? ⟨b1, 0, none⟩ = some (.string t)) (c2 : w.cell? ⟨b2, 0, none⟩ = some (.string n)) :
    Calls Tryd.prog 22 #[.slice p n0 c, .func (.func 23) #[] #[.pointer (some ⟨b1, 0, none⟩), .pointer (some ⟨b2, 0, none⟩)]] w fun e w' => e = .returned (.bool (l.any (hasB t n))) ∧ Below w.heap.size w w' := by
  have HX := Lib.hid (indexHas_ok b1 b2 t n p n0 c l w h c1 c2)
  clear h
  go_enter Tryd.func22, Tryd.ntmps22
  go_wp2_with (go_at_call 47; refine HX.out.mono ?_; rintro e w' ⟨⟨r, rfl, hr⟩, hb⟩; have HR := Lib.hid hr; have HB := Lib.hid hb; clear hr hb)
  go_ret
  exact ⟨by rw [← HR.out]; rfl, HB.out⟩
theorem lawHas_ok (b1 b2 : Nat) (t n : ByteArray) (p : Option Addr) (n0 c : Nat) (l : List (Hd × Hd)) (w : World) (h : AskR w p n0 c l) (c1 : w.cell? ⟨b1, 0, none⟩ = some (.string t)) (c2 : w.cell? ⟨b2, 0, none⟩ = some (.string n)) :
    Calls Tryd.prog 21 #[.slice p n0 c, .pointer (some ⟨b1, 0, none⟩), .pointer (some ⟨b2, 0, none⟩)] w fun e w' => e = .returned (.bool (l.any (hasB t n))) ∧ Below w.heap.size w w' := by
  have HX := Lib.hid (containsHas_ok b1 b2 t n p n0 c l w h c1 c2)
  clear h
  go_enter Tryd.func21, Tryd.ntmps21
  go_wp2_with (go_at_call 22; refine HX.out.mono ?_; rintro e w' ⟨rfl, hb⟩; have HB := Lib.hid hb; clear hb)
  go_ret
  exact ⟨rfl, HB.out⟩
set_option maxHeartbeats 2000000 in
theorem indexIs_ok (b1 : Nat) (t : ByteArray) (p : Option Addr) (n0 c : Nat) (l : List (Hd × Hd)) (w : World) (h : AskR w p n0 c l) (c1 : w.cell? ⟨b1, 0, none⟩ = some (.string t)) :
    Calls Tryd.prog 47 #[.slice p n0 c, .func (.func 26) #[] #[.pointer (some ⟨b1, 0, none⟩)]] w fun e w' => (∃ r : Int, e = .returned (.int .i64 r) ∧ decide (0 ≤ r) = l.any (isB2 t)) ∧ Below w.heap.size w w' := by
  have hl := h.at_.len
  have hbig := h.at_.big
  subst hl
  have HN := Lib.hid h
  have HC1 := Lib.hid c1
  have hl1 := World.block_lt_of_cell? w _ c1
  simp only at hl1
  clear c1
  clear h
  go_enter Tryd.func47, Tryd.ntmps47
  go_wp2
  go_loopw [8] (fun i wr => ∃ k : Nat, k ≤ l.length ∧ i = .int .i64 k ∧ Hid (Below w.heap.size w wr) ∧ Hid ((l.take k).any (isB2 t) = false)) (fun i _ => l.length - (intOf i).toNat)
  case atStart => exact ⟨0, Nat.zero_le _, rfl, Below.refl _ _, rfl⟩
  case round =>
    obtain ⟨k, hk, rfl, HW, HL⟩ := hrel
    by_cases hlt : k < l.length
    · have hel := List.getElem?_eq_getElem hlt
      obtain ⟨b, o, rfl, hb, e1, e2⟩ := (HN.out.below HW.out).at_.cell hel
      have hmm : l[k] ∈ l := List.getElem_mem hlt
      have hok := (HN.out.below HW.out).con _ hmm
      have HT : Hid ((l.take (k + 1)).any (isB2 t) = (isB2 t) l[k]) := by
        show _ = _
        rw [List.take_add_one, hel, List.any_append, HL.out]
        simp
      have HY : Hid ((isB2 t) l[k] = true → l.any (isB2 t) = true) := fun g => List.any_eq_true.2 ⟨_, hmm, g⟩
      rw [← Nat.add_assoc] at e2
      clear hel hmm
      generalize l[k] = y at *
      simp only [rF, rG, Hd.v] at e1 e2
      have hk1 : (k : Int) < (l.length : Int) := by omega
      have HX := Lib.hid (is1_ok b1 t y _ hok.1 ((HW.out.cell hl1).trans HC1.out))
      generalize hv : (isB2 t) y = v at *
      clear hv hok
      obtain ⟨⟨p1, n1, cc1, T⟩, ⟨p2, n2, cc2, N⟩⟩ := y
      simp only at e1 e2 HX
      cases v
      · go_wp2_with (go_at_call 26; refine HX.out.mono ?_; rintro e w1 ⟨rfl, hb1⟩; have HB1 := Lib.hid hb1; clear hb1)
        go_roundw
        case rel => exact ⟨k + 1, by omega, by go_num, HW.out.trans (HB1.out.mono HW.out.size), HT.out⟩
        case measure => simp [intOf]; omega
      · have HYY := Lib.hid (HY.out rfl)
        clear HY HT
        go_wp2_with (go_at_call 26; refine HX.out.mono ?_; rintro e w1 ⟨rfl, hb1⟩; have HB1 := Lib.hid hb1; clear hb1)
        go_ret
        exact ⟨⟨(k : Int), rfl, by rw [HYY.out]; exact decide_eq_true (by omega)⟩, HW.out.trans (HB1.out.mono HW.out.size)⟩
    · obtain rfl : k = l.length := by omega
      rw [List.take_length] at HL
      go_wp2
      go_ret
      exact ⟨⟨-1, rfl, by rw [HL.out]; rfl⟩, HW.out⟩
theorem containsIs_ok (b1 : Nat) (t : ByteArray) (p : Option Addr) (n0 c : Nat) (l : List (Hd × Hd)) (w : World) (h : AskR w p n0 c l) (c1 : w.cell? ⟨b1, 0, none⟩ = some (.string t)) :
    Calls Tryd.prog 22 #[.slice p n0 c, .func (.func 26) #[] #[.pointer (some ⟨b1, 0, none⟩)]] w fun e w' => e = .returned (.bool (l.any (isB2 t))) ∧ Below w.heap.size w w' := by
  have HX := Lib.hid (indexIs_ok b1 t p n0 c l w h c1)
  clear h
  go_enter Tryd.func22, Tryd.ntmps22
  go_wp2_with (go_at_call 47; refine HX.out.mono ?_; rintro e w' ⟨⟨r, rfl, hr⟩, hb⟩; have HR := Lib.hid hr; have HB := Lib.hid hb; clear hr hb)
  go_ret
  exact ⟨by rw [← HR.out]; rfl, HB.out⟩
theorem lawIs_ok (b1 : Nat) (t : ByteArray) (p : Option Addr) (n0 c : Nat) (l : List (Hd × Hd)) (w : World) (h : AskR w p n0 c l) (c1 : w.cell? ⟨b1, 0, none⟩ = some (.string t)) :
    Calls Tryd.prog 25 #[.slice p n0 c, .pointer (some ⟨b1, 0, none⟩)] w fun e w' => e = .returned (.bool (l.any (isB2 t))) ∧ Below w.heap.size w w' := by
  have HX := Lib.hid (containsIs_ok b1 t p n0 c l w h c1)
  clear h
  go_enter Tryd.func25, Tryd.ntmps25
  go_wp2_with (go_at_call 22; refine HX.out.mono ?_; rintro e w' ⟨rfl, hb⟩; have HB := Lib.hid hb; clear hb)
  go_ret
  exact ⟨rfl, HB.out⟩
end Go.Proofs.YtmeenhfclnkjhaaDoor
