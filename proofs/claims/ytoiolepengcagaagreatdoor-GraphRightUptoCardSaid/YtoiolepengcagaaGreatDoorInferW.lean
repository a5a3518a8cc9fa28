/- The walks of infer.suffix, slices.Contains at inferences, infer.Check, infer.of, infer.Of. Conditions: the slices read as listed. -/
import Derived.Test.YtoiolepengcagaaGreatDoorInferP
import Derived.Test.YtoiolepengcagaaGreatDoorPairs
import Derived.Test.YtoiolepengcagaaGreatDoorStemW
import Derived.Test.YtoiolepengcagaaGreatDoorNLSetW
import Derived.Test.YtoiolepengcagaaGreatDoorBox2
import Derived.BigGuardPart
import Derived.Laws.StructEq
import Derived.Deep.QuietTactic
import Derived.BigQuiet
namespace Go.Proofs.YtoiolepengcagaaGreatDoor
open Go.RowKit Go.Shelf
def iF (x : Inf) : Value := .string x.1
def iG (x : Inf) : Value := .string x.2
/-- a slice of inferences in memory -/
structure InfsIn (w : World) (p : Option Addr) (n c : Nat) (l : List Inf) : Prop where
  at_ : P2At iF iG w p n c l
  size : ∀ x ∈ l, x.1.size ≤ 9223372036854775807 ∧ x.2.size ≤ 9223372036854775807
  cap : n ≤ c
theorem InfsIn.below {w w' : World} {p : Option Addr} {n c : Nat} {l : List Inf} (h : InfsIn w p n c l) (hb : Below w.heap.size w w') : InfsIn w' p n c l := ⟨h.at_.below hb, h.size, h.cap⟩
theorem name_ascii {s : ByteArray} (h : nameE s = 0) : ∀ c ∈ s.data.toList, c.toNat < 128 := by
  intro c hc
  unfold nameE at h
  split at h
  · cases h
  · split at h
    · rename_i h2
      have h3 := List.all_eq_true.1 h2 c hc
      rcases Nat.lt_or_ge c.toNat 128 with hlt | hge
      · exact hlt
      · exfalso
        have hz : Lib.indexByte [95, 46, 47, 45, 43] c < 0 := by
          rcases Int.lt_or_le (Lib.indexByte [95, 46, 47, 45, 43] c) 0 with h4 | h4
          · exact h4
          · have := (indexByte_ge [95, 46, 47, 45, 43] c).2.1 h4
            simp at this
            rcases this with rfl | rfl | rfl | rfl | rfl <;> exact absurd hge (by decide)
        unfold signC at h3
        rw [decide_eq_false (p := 0 ≤ Lib.indexByte [95, 46, 47, 45, 43] c) (by omega), decide_eq_false (p := c.toNat ≤ 122) (by omega), decide_eq_false (p := c.toNat ≤ 90) (by omega), decide_eq_false (p := c.toNat ≤ 57) (by omega)] at h3
        simp at h3
    · cases h
set_option maxHeartbeats 4000000 in
theorem suffix_ok (s : ByteArray) (hs : s.size ≤ 9223372036854775807) (w : World) :
    Calls Tryz.prog 122 #[.string s] w fun e w' => e = .returned (.bool (sufB s)) ∧ Below w.heap.size w w' := by
  by_cases h2 : 2 ≤ s.size
  · by_cases h10 : s.size ≤ 10
    · have h0 : 0 < s.size := by omega
      have hhd : (s.data.toList.head? == some 46) = ((s[0].toNat : Int) == 46) := by
        rw [List.head?_eq_getElem?, ba_at h0]
        rw [Bool.eq_iff_iff]
        simp only [beq_iff_eq, Option.some.injEq]
        constructor
        · intro e; rw [e]; rfl
        · intro e; exact UInt8.toNat_inj.1 (by show s[0].toNat = 46; omega)
      have HS : Hid (sufB s = (((s[0].toNat : Int) == 46) && (nameE s == 0) && !Lib.containsAny (s.data.toList.drop 1) [46, 47])) := by
        show _ = _
        unfold sufB
        rw [decide_eq_true h2, decide_eq_true h10, hhd]
        simp
      clear hhd
      have q1 : decide ((2 : Int) ≤ (s.size : Int)) = true := decide_eq_true (by omega)
      have q2 : decide ((s.size : Int) ≤ 10) = true := decide_eq_true (by omega)
      cases hb : ((s[0].toNat : Int) == 46)
      · have HV : Hid (sufB s = false) := by show _ = _; rw [HS.out, hb]; rfl
        clear HS
        go_enter Tryz.func122, Tryz.ntmps122
        go_wp2
        go_ret
        exact ⟨by rw [HV.out]; rfl, Below.refl _ _⟩
      · rcases nameE_cases s with hn | hn
        · have hcs : ∀ (j : Nat) b, (s.extract 1 s.size).data.toList[j]? = some b → b.toNat < 128 := fun j b hj => by
            rw [ba_drop] at hj
            exact name_ascii hn b (List.mem_of_mem_drop (List.mem_of_getElem? hj))
          have HCA := Lib.hid (fun u => Tryz.strings_ContainsAny_laid (s.extract 1 s.size) ⟨#[46, 47]⟩ u (by rw [ByteArray.size_extract]; omega) (by decide) hcs (by
            intro j b hj
            have := List.mem_of_getElem? hj
            simp at this
            rcases this with rfl | rfl <;> decide))
          have HV : Hid (sufB s = !Lib.containsAny (s.data.toList.drop 1) [46, 47]) := by show _ = _; rw [HS.out, hb, hn]; simp
          rw [ba_drop, show (⟨#[46, 47]⟩ : ByteArray).data.toList = [46, 47] from rfl] at HCA
          have HN := Lib.hid hn
          have hs62 : s.size ≤ 4611686018427387904 := by omega
          clear HS hcs hn
          generalize Lib.containsAny (s.data.toList.drop 1) [46, 47] = ca at *
          go_enter Tryz.func122, Tryz.ntmps122
          go_wp2_with (first
            | (go_at_call 28; refine (CheckN_ok s hs62 _).mono ?_; rw [HN.out]; rintro e w' ⟨rfl, rfl⟩)
            | (go_at_call 148; refine (HCA.out _).mono ?_; rintro e w' ⟨rfl, hb⟩; have HB := Lib.hid hb; clear hb))
          go_ret
          exact ⟨by rw [HV.out]; rfl, HB.out⟩
        · have HV : Hid (sufB s = false) := by show _ = _; rw [HS.out, hb, hn]; rfl
          have HN := Lib.hid hn
          have hs62 : s.size ≤ 4611686018427387904 := by omega
          clear HS hn
          go_enter Tryz.func122, Tryz.ntmps122
          go_wp2_with (go_at_call 28; refine (CheckN_ok s hs62 _).mono ?_; rw [HN.out]; rintro e w' ⟨rfl, rfl⟩)
          go_ret
          exact ⟨by rw [HV.out]; rfl, Below.refl _ _⟩
    · have HV : Hid (sufB s = false) := by show _ = _; unfold sufB; rw [decide_eq_false h10]; simp
      have q1 : decide ((2 : Int) ≤ (s.size : Int)) = true := decide_eq_true (by omega)
      have q2 : decide ((s.size : Int) ≤ 10) = false := decide_eq_false (by omega)
      go_enter Tryz.func122, Tryz.ntmps122
      go_wp2
      go_ret
      exact ⟨by rw [HV.out]; rfl, Below.refl _ _⟩
  · have HV : Hid (sufB s = false) := by show _ = _; unfold sufB; rw [decide_eq_false h2]; simp
    have q1 : decide ((2 : Int) ≤ (s.size : Int)) = false := decide_eq_false (by omega)
    go_enter Tryz.func122, Tryz.ntmps122
    go_wp2
    go_ret
    exact ⟨by rw [HV.out]; rfl, Below.refl _ _⟩
theorem run_eqlI (x1 x2 y1 y2 : ByteArray) (u : World) : (binOp .eql 100 (.agg #[.string x1, .string x2]) (.agg #[.string y1, .string y2])).run Tryz.prog u = .ok (.bool (x1.toList == y1.toList && x2.toList == y2.toList)) u := by
  have ht := Tryz.underlying100
  have hu : Tryz.prog.underlying 100 = some (.struct (Tryz.prog.fieldsOf 100)) := by unfold Program.fieldsOf; rw [ht]
  have hs : Tryz.prog.stoodInHeld 100 = false := by kernel_rfl
  rw [run_eql_struct, run_equalIn_agg u 9999 100 _ _ hu hs]
  simp only [Program.fieldsOf, ht]
  cases h1 : (x1.toList == y1.toList)
  · simp [Op.eqFields, part, h1, run_equalIn_string, Tryz.underlying9]
  · simp [Op.eqFields, part, h1, run_equalIn_string, Tryz.underlying9]
    by_cases h : x2.toList = y2.toList <;> simp [h]
theorem str_eq (x y : ByteArray) : (x.toList == y.toList) = decide (x = y) := by
  rw [Lib.toList_data, Lib.toList_data, Bool.eq_iff_iff, beq_iff_eq, decide_eq_true_iff]
  constructor
  · intro h
    cases x; cases y
    exact congrArg ByteArray.mk (Array.toList_inj.1 h)
  · rintro rfl; rfl
theorem infEq {x y : Inf} : (x.1.toList == y.1.toList && x.2.toList == y.2.toList) = true ↔ y = x := by
  rw [str_eq, str_eq, Bool.and_eq_true, decide_eq_true_iff, decide_eq_true_iff]
  constructor
  · rintro ⟨h1, h2⟩; exact (Prod.ext h1 h2).symm
  · rintro rfl; exact ⟨rfl, rfl⟩
set_option maxHeartbeats 4000000 in
theorem indexI_ok (p : Option Addr) (n c : Nat) (l : List Inf) (x : Inf) (w : World) (h : InfsIn w p n c l) :
    Calls Tryz.prog 120 #[.slice p n c, .agg #[.string x.1, .string x.2]] w fun e w' => (∃ z : Int, e = .returned (.int .i64 z) ∧ (0 ≤ z ↔ x ∈ l)) ∧ Below w.heap.size w w' := by
  have hl := h.at_.len
  have hbig := h.at_.big
  subst hl
  have HI := Lib.hid h
  clear h
  go_enter Tryz.func120, Tryz.ntmps120
  go_wp2
  obtain ⟨w1, hw1⟩ : ∃ w1, w1 = w.alloc (.cells #[.string x.1, .string x.2] 100) := ⟨_, rfl⟩
  have k1 : w1.cell? ⟨w.heap.size, 0, none⟩ = some (.string x.1) := by rw [hw1]; simp
  have k2 : w1.cell? ⟨w.heap.size, 1, none⟩ = some (.string x.2) := by rw [hw1]; simp
  have HB1 : Hid (Below w.heap.size w w1) := by show Below _ _ _; rw [hw1]; exact (Below.refl _ _).alloc (Nat.le_refl _) _
  have hlt1 : w.heap.size < w1.heap.size := by rw [hw1]; simp
  rw [← hw1]
  clear hw1
  go_loopw [8] (fun i wr => ∃ k : Nat, k ≤ l.length ∧ i = .int .i64 k ∧ Below w1.heap.size w1 wr ∧ Hid (x ∉ l.take k)) (fun i _ => l.length - (intOf i).toNat)
  case atStart => exact ⟨0, Nat.zero_le _, rfl, Below.refl _ _, by show x ∉ _; simp⟩
  case round =>
    obtain ⟨k, hk, rfl, hbr, HX⟩ := hrel
    have HBR := Lib.hid hbr
    have hbw : Below w.heap.size w wr := HB1.out.trans (hbr.mono HB1.out.size)
    have HBW := Lib.hid hbw
    have m1 : wr.cell? ⟨w.heap.size, 0, none⟩ = some (.string x.1) := by rw [hbr.cell hlt1]; exact k1
    have m2 : wr.cell? ⟨w.heap.size, 1, none⟩ = some (.string x.2) := by rw [hbr.cell hlt1]; exact k2
    by_cases hlt : k < l.length
    · obtain ⟨b, o, rfl, hbl, c1, c2⟩ := (HI.out.at_.below hbw).cell (List.getElem?_eq_getElem hlt)
      have hnx : l.take (k + 1) = l.take k ++ [l[k]] := by rw [List.take_add_one, List.getElem?_eq_getElem hlt]; rfl
      have hmm : l[k] ∈ l := List.getElem_mem hlt
      unfold iF at c1
      unfold iG at c2
      rw [← Nat.add_assoc] at c2
      generalize hy : l[k] = y at *
      clear hbr hbw k1 k2
      have hgd : Tryz.prog.eqGuardType Tryz.prog.depth 100 = false := by kernel_rfl
      have hrun := run_eqlI x.1 x.2 y.1 y.2
      have HMM := Lib.hid hmm
      have HNX := Lib.hid hnx
      have hl1 : (k : Int) < (l.length : Int) := by omega
      clear hmm hnx hy
      cases hc : (x.1.toList == y.1.toList && x.2.toList == y.2.toList)
      · have HN : Hid (x ∉ l.take (k + 1)) := by
          show _ ∉ _
          rw [HNX.out]
          intro hm
          rcases List.mem_append.1 hm with hm | hm
          · exact HX.out hm
          · have := infEq.2 (List.mem_singleton.1 hm).symm
            rw [this] at hc
            cases hc
        simp only [hc] at hrun
        clear hc
        go_wp2
        go_quiet (fail)
        go_wp2
        go_roundw
        case rel => exact ⟨k + 1, by omega, by go_num, below_drawsP HBR.out _, HN.out⟩
        case measure => simp [intOf]; omega
      · have HE := Lib.hid (infEq.1 hc)
        simp only [hc] at hrun
        clear hc
        go_wp2
        go_quiet (fail)
        go_wp2
        go_ret
        refine ⟨⟨_, rfl, ?_⟩, below_drawsP HBW.out _⟩
        have h1 : x ∈ l := by rw [← HE.out]; exact HMM.out
        simp [h1]
    · obtain rfl : k = l.length := by omega
      clear k1 k2 m1 m2 hbr hbw
      go_wp2
      go_ret
      refine ⟨⟨_, rfl, ?_⟩, HBW.out⟩
      have := HX.out
      rw [List.take_length] at this
      simp [this]
theorem InfsIn.take {w : World} {p : Option Addr} {n c : Nat} {l : List Inf} (h : InfsIn w p n c l) {k : Nat} (hk : k ≤ n) : InfsIn w p k c (l.take k) := by
  have hl := h.at_.len
  have hb := h.at_.big
  have hc := h.cap
  refine ⟨⟨by rw [List.length_take]; omega, fun h0 => ?_, by omega⟩, fun x hx => h.size x (List.mem_of_mem_take hx), by omega⟩
  obtain ⟨b, o, e, h1, h2⟩ := h.at_.at_ (by omega)
  refine ⟨b, o, e, h1, fun j x hx => h2 j x ?_⟩
  rw [List.getElem?_take] at hx
  split at hx
  · exact hx
  · cases hx
theorem InfsIn.drop {w : World} {b o n c : Nat} {l : List Inf} (h : InfsIn w (some ⟨b, o, none⟩) n c l) {k : Nat} (hk : k ≤ n) : InfsIn w (some ⟨b, o + k * 2, none⟩) (n - k) (c - k) (l.drop k) := by
  have hl := h.at_.len
  have hb := h.at_.big
  have hc := h.cap
  refine ⟨⟨by rw [List.length_drop]; omega, fun h0 => ?_, by omega⟩, fun x hx => h.size x (List.mem_of_mem_drop hx), by omega⟩
  obtain ⟨b', o', e, h1, h2⟩ := h.at_.at_ (by omega)
  injection e with e
  injection e with e1 e2
  subst e1 e2
  refine ⟨b, o + k * 2, rfl, h1, fun j x hx => ?_⟩
  rw [List.getElem?_drop] at hx
  obtain ⟨q1, q2⟩ := h2 (k + j) x hx
  rw [show o + k * 2 + j * 2 = o + (k + j) * 2 from by omega, show o + k * 2 + (j * 2 + 1) = o + ((k + j) * 2 + 1) from by omega]
  exact ⟨q1, q2⟩
theorem below1I (w : World) (o : Obj) : Below w.heap.size w (w.alloc o) := (Below.refl _ _).alloc (Nat.le_refl _) _
set_option maxHeartbeats 1000000 in
theorem containsI_ok (p : Option Addr) (n c : Nat) (l : List Inf) (x : Inf) (w : World) (h : InfsIn w p n c l) :
    Calls Tryz.prog 80 #[.slice p n c, .agg #[.string x.1, .string x.2]] w fun e w' => e = .returned (.bool (hasI l x)) ∧ Below w.heap.size w w' := by
  have HI := Lib.hid (fun o => indexI_ok p n c l x (w.alloc o) (h.below (below1I w o)))
  go_enter Tryz.func80, Tryz.ntmps80
  go_wp2_with (go_at_call 120; refine (HI.out _).mono ?_; rintro e w1 ⟨⟨z, rfl, hz⟩, hb⟩; have HZ := Lib.hid hz; have HB := Lib.hid ((below1I w _).trans (hb.mono (below1I w _).size)); clear hb hz)
  go_ret
  refine ⟨?_, HB.out⟩
  have : hasI l x = decide (0 ≤ z) := by
    rw [Bool.eq_iff_iff, hasI_iff, decide_eq_true_iff]
    exact HZ.out.symm
  rw [this]
  rfl
theorem infGo_step (l : List Inf) {k : Nat} (hk : k < l.length) : infGo l k (l.length - k) = if infAt l k = 0 then infGo l (k + 1) (l.length - (k + 1)) else infAt l k := by
  obtain ⟨f, hf⟩ : ∃ f, l.length - k = f + 1 := ⟨l.length - k - 1, by omega⟩
  rw [hf, show l.length - (k + 1) = f from by omega]
  rfl
set_option maxHeartbeats 8000000 in
theorem CheckI_ok (p : Option Addr) (n c : Nat) (l : List Inf) (w : World) (h : InfsIn w p n c l) :
    Calls Tryz.prog 84 #[.slice p n c] w fun e w' => e = .returned (.int .i64 (infE l)) ∧ Below w.heap.size w w' := by
  have hl := h.at_.len
  have hbig := h.at_.big
  have hcap := h.cap
  subst hl
  have HI := Lib.hid h
  clear h
  by_cases h20 : 20 < l.length
  · have HE : Hid (infE l = 2) := by show _ = _; unfold infE; rw [if_pos h20]
    go_enter Tryz.func84, Tryz.ntmps84
    go_wp2
    go_ret
    exact ⟨by rw [HE.out]; rfl, Below.refl _ _⟩
  · have HE : Hid (infE l = infGo l 0 l.length) := by show _ = _; unfold infE; rw [if_neg h20]
    go_enter Tryz.func84, Tryz.ntmps84
    go_wp2
    go_loopw [10] (fun i wr => ∃ k : Nat, k ≤ l.length ∧ i = .int .i64 k ∧ Below w.heap.size w wr ∧ Hid (infE l = infGo l k (l.length - k))) (fun i _ => l.length - (intOf i).toNat)
    case atStart => exact ⟨0, Nat.zero_le _, rfl, Below.refl _ _, HE⟩
    case round =>
      obtain ⟨k, hk, rfl, hbr, HK⟩ := hrel
      have HBR := Lib.hid hbr
      by_cases hlt : k < l.length
      · have hel := List.getElem?_eq_getElem hlt
        have hgd : l.getD k inf0 = l[k] := by rw [List.getD_eq_getElem?_getD, hel]; rfl
        obtain ⟨b, o, rfl, hbl, c1, c2⟩ := (HI.out.at_.below hbr).cell hel
        have hmm : l[k] ∈ l := List.getElem_mem hlt
        have hsz := HI.out.size _ hmm
        have HST := Lib.hid (infGo_step l hlt)
        have HA : Hid (infAt l k = if (sufB l[k].1 && sufB l[k].2) = false then 3 else if l[k].1 = l[k].2 ∨ hasI (l.take k) l[k] = true then 6 else 0) := by
          show _ = _
          unfold infAt
          rw [hgd]
        have HTK := Lib.hid (fun u (hu : Below wr.heap.size wr u) => (HI.out.below (hbr.trans (hu.mono hbr.size))).take hk)
        rw [← Nat.add_assoc] at c2
        unfold iF at c1
        unfold iG at c2
        clear hgd hel hmm hbr
        generalize l[k] = y at *
        obtain ⟨y1, y2⟩ := y
        simp only at c1 c2 hsz HA
        obtain ⟨z1, z2⟩ := hsz
        have hl1 : (k : Int) < (l.length : Int) := by omega
        have HKX : Hid (∀ u, Below (wr.alloc (.cells #[.string y1, .string y2] 100)).heap.size (wr.alloc (.cells #[.string y1, .string y2] 100)) u → u.cell? ⟨wr.heap.size, 0, none⟩ = some (.string y1) ∧ u.cell? ⟨wr.heap.size, 1, none⟩ = some (.string y2) ∧ Below wr.heap.size wr u) := by
          show ∀ u, _
          intro u hu
          refine ⟨?_, ?_, (below1I wr _).trans (hu.mono (below1I wr _).size)⟩
          · rw [hu.cell (by show wr.heap.size < _; simp)]; simp
          · rw [hu.cell (by show wr.heap.size < _; simp)]; simp
        cases s1 : sufB y1
        · have HN : Hid (infE l = 3) := by
            show _ = _
            rw [HK.out, HST.out, HA.out, s1]
            rfl
          have HS1 := Lib.hid s1
          clear s1
          go_wp2_with (go_at_call 122; refine (suffix_ok y1 z1 _).mono ?_; rw [HS1.out]; rintro e w' ⟨rfl, hb⟩; have HB := Lib.hid hb; clear hb)
          go_ret
          exact ⟨by rw [HN.out]; rfl, HBR.out.trans ((HKX.out _ HB.out).2.2.mono HBR.out.size)⟩
        · cases s2 : sufB y2
          · have HN : Hid (infE l = 3) := by
              show _ = _
              rw [HK.out, HST.out, HA.out, s1, s2]
              rfl
            have HS1 := Lib.hid s1
            have HS2 := Lib.hid s2
            clear s1 s2
            go_wp2_with (go_at_call 122; (first
              | (have hq := HS1.out; clear HS1; refine (suffix_ok y1 z1 _).mono ?_; rw [hq]; clear hq; rintro e w1 ⟨rfl, hb⟩; obtain ⟨e1, e2, e3⟩ := HKX.out _ hb; have HB := Lib.hid hb; clear hb e3)
              | (refine (suffix_ok y2 z2 _).mono ?_; rw [HS2.out]; rintro e w2 ⟨rfl, hb⟩; have HB2 := Lib.hid (HB.out.trans (hb.mono HB.out.size)); clear hb)))
            go_ret
            exact ⟨by rw [HN.out]; rfl, HBR.out.trans ((HKX.out _ HB2.out).2.2.mono HBR.out.size)⟩
          · have HS1 := Lib.hid s1
            have HS2 := Lib.hid s2
            rw [s1, s2] at HA
            clear s1 s2
            by_cases hyy : y1 = y2
            · have HN : Hid (infE l = 6) := by
                show _ = _
                have e6 : infAt l k = 6 := by rw [HA.out]; simp [hyy]
                rw [HK.out, HST.out, e6]
                rfl
              have hq : (y1.toList == y2.toList) = true := by rw [str_eq]; exact decide_eq_true hyy
              clear hyy
              go_wp2_with (go_at_call 122; (first
                | (have hq := HS1.out; clear HS1; refine (suffix_ok y1 z1 _).mono ?_; rw [hq]; clear hq; rintro e w1 ⟨rfl, hb⟩; obtain ⟨e1, e2, e3⟩ := HKX.out _ hb; have HB := Lib.hid hb; clear hb e3)
                | (refine (suffix_ok y2 z2 _).mono ?_; rw [HS2.out]; rintro e w2 ⟨rfl, hb⟩; have HB2 := Lib.hid (HB.out.trans (hb.mono HB.out.size)); obtain ⟨f1, f2, f3⟩ := HKX.out _ HB2.out; clear hb f3)))
              go_quiet (fail)
              go_wp2
              go_ret
              exact ⟨by rw [HN.out]; rfl, below_drawsP (HBR.out.trans ((HKX.out _ HB2.out).2.2.mono HBR.out.size)) _⟩
            · have hq : (y1.toList == y2.toList) = false := by rw [str_eq]; exact decide_eq_false hyy
              cases hc : hasI (l.take k) (y1, y2)
              · have HN : Hid (infE l = infGo l (k + 1) (l.length - (k + 1))) := by
                  show _ = _
                  have e0 : infAt l k = 0 := by rw [HA.out, hc]; simp [hyy]
                  rw [HK.out, HST.out, if_pos e0]
                have HC := Lib.hid hc
                clear hc hyy
                go_wp2_with (go_at_call 122; (first
                  | (have hq := HS1.out; clear HS1; refine (suffix_ok y1 z1 _).mono ?_; rw [hq]; clear hq; rintro e w1 ⟨rfl, hb⟩; obtain ⟨e1, e2, e3⟩ := HKX.out _ hb; have HB := Lib.hid hb; clear hb e3)
                  | (refine (suffix_ok y2 z2 _).mono ?_; rw [HS2.out]; rintro e w2 ⟨rfl, hb⟩; have HB2 := Lib.hid (HB.out.trans (hb.mono HB.out.size)); obtain ⟨f1, f2, f3⟩ := HKX.out _ HB2.out; have HT2 := Lib.hid (fun u (hu : Below w2.heap.size w2 u) => containsI_ok (some ⟨b, o, none⟩) k c (l.take k) (y1, y2) u (HTK.out u (f3.trans (hu.mono f3.size)))); clear hb)))
                go_region_with (go_at_call 80; refine (HT2.out _ (below_drawsP (Below.refl _ _) _)).mono ?_; rw [HC.out]; rintro e w3 ⟨rfl, hb⟩; have HB3 := Lib.hid hb; clear hb)
                all_goals (go_wp2; refine ⟨⟨k + 1, by omega, by go_num, HBR.out.trans (((HKX.out _ HB2.out).2.2.trans (((below_drawsP (Below.refl _ _) 1).trans (HB3.out.mono (Nat.le_refl _))).mono (HKX.out _ HB2.out).2.2.size)).mono HBR.out.size), HN.out⟩, by simp [intOf]; omega⟩)
              · have HN : Hid (infE l = 6) := by
                  show _ = _
                  have e6 : infAt l k = 6 := by rw [HA.out, hc]; simp
                  rw [HK.out, HST.out, e6]
                  rfl
                have HC := Lib.hid hc
                clear hc hyy
                go_wp2_with (go_at_call 122; (first
                  | (have hq := HS1.out; clear HS1; refine (suffix_ok y1 z1 _).mono ?_; rw [hq]; clear hq; rintro e w1 ⟨rfl, hb⟩; obtain ⟨e1, e2, e3⟩ := HKX.out _ hb; have HB := Lib.hid hb; clear hb e3)
                  | (refine (suffix_ok y2 z2 _).mono ?_; rw [HS2.out]; rintro e w2 ⟨rfl, hb⟩; have HB2 := Lib.hid (HB.out.trans (hb.mono HB.out.size)); obtain ⟨f1, f2, f3⟩ := HKX.out _ HB2.out; have HT2 := Lib.hid (fun u (hu : Below w2.heap.size w2 u) => containsI_ok (some ⟨b, o, none⟩) k c (l.take k) (y1, y2) u (HTK.out u (f3.trans (hu.mono f3.size)))); clear hb)))
                go_region_with (go_at_call 80; refine (HT2.out _ (below_drawsP (Below.refl _ _) _)).mono ?_; rw [HC.out]; rintro e w3 ⟨rfl, hb⟩; have HB3 := Lib.hid hb; clear hb)
                all_goals (go_wp2; go_ret; exact ⟨by rw [HN.out]; rfl, HBR.out.trans (((HKX.out _ HB2.out).2.2.trans (((below_drawsP (Below.refl _ _) 1).trans (HB3.out.mono (Nat.le_refl _))).mono (HKX.out _ HB2.out).2.2.size)).mono HBR.out.size)⟩)
      · obtain rfl : k = l.length := by omega
        have HN : Hid (infE l = 0) := by
          show _ = _
          rw [HK.out, Nat.sub_self]
          rfl
        go_wp2
        go_ret
        exact ⟨by rw [HN.out]; rfl, HBR.out⟩
end Go.Proofs.YtoiolepengcagaaGreatDoor
