/- Texts joined: MacroXW, InferP, FileP, RuneW, IndexAnyW, IndexAny2W. Conditions: theirs. -/
import Derived.Test.YtoiolepengcagaaDoorFileCycleWM6
import Derived.Test.YtoiolepengcagaaDoorNameW
import Derived.Lib.SlicesS
import Derived.Lib.IndexAny
import Derived.Test.YtoiolepengcagaaDoorFileCycleWM4
import Derived.Lib.Split
import Derived.Test.YtoiolepengcagaaDoorShelf
import Derived.Laws.RangeAny
import Derived.Laws.Runes
import Derived.Deep.QuietTactic
import Derived.WalkMore
import Derived.BigQuiet
import Derived.Deep.LoopGhost
import Derived.Test.YtoiolepengcagaaDoorStr
import Derived.Lib.OthersKept
import Derived.Lib.Hide
import Derived.Deep.WholeRow
import Derived.Lib.AsciiSet
namespace Go.Proofs.YtoiolepengcagaaDoor
open Go.RowKit Go.Shelf Go.Maps
theorem TabW.flatOn {w : World} {B lo : Nat} {l : List Mac} {eb : Bs → Nat} {uv : Bs → Value} {st : Bs → Nat} (h : TabW w B lo l eb uv st) (hs : ∀ n ∈ namesM l, st n = 2) {cs : List Bs} (hc : ∀ u ∈ cs, u ∈ namesM l) : FlatOn w B (flatF okM l) cs := by
  obtain ⟨N, h1, _⟩ := h.map
  refine ⟨N, namesM l, ptrAt (namesM l) eb, h1, fun u hu => ?_⟩
  obtain ⟨m, hm, hmn⟩ := List.mem_map.1 (hc u hu)
  have he := h.ent m hm
  rw [hmn, hs u (hc u hu)] at he
  have he2 : w.heap[eb u]? = some (.cells #[.string (txt m.2), uv u, .int .i64 2, .string (txt ((flatF okM l u).getD [])), .bool (flatF okM l u).isNone] 96 (0, 0)) := he
  obtain ⟨_, _, _, k3, k4, _⟩ := mx5 he2
  exact ⟨eb u, by unfold ptrAt; rw [if_pos (hc u hu)], k3, k4⟩
theorem expandE_bad {l : List Mac} {s : Bs} (h : flatsE okM l ≠ 0) : expandE okM l s = (flatsE okM l, []) := by unfold expandE; rw [if_pos h]
theorem expandE_3 {l : List Mac} {s : Bs} (h : flatsE okM l = 0) (h1 : (prs okM s).2 = false) : expandE okM l s = (3, []) := by unfold expandE; rw [if_neg (by rw [h]; decide)]; unfold expandR; rw [if_pos h1]
theorem expandE_5 {l : List Mac} {s : Bs} (h : flatsE okM l = 0) (h1 : (prs okM s).2 = true) (h2 : ∃ u ∈ callsOf (prs okM s).1, u ∉ namesM l) : expandE okM l s = (5, []) := by unfold expandE; rw [if_neg (by rw [h]; decide)]; unfold expandR; rw [if_neg (by rw [h1]; decide), if_pos h2]
theorem expandE_l {l : List Mac} {s : Bs} (h : flatsE okM l = 0) (h1 : (prs okM s).2 = true) (h2 : ¬ ∃ u ∈ callsOf (prs okM s).1, u ∉ namesM l) : expandE okM l s = if lrg (flatF okM l) (prs okM s).1 = true then (2, []) else (0, evalT (flatF okM l) (prs okM s).1) := by
  unfold expandE; rw [if_neg (by rw [h]; decide)]; unfold expandR; rw [if_neg (by rw [h1]; decide), if_neg h2]
set_option maxHeartbeats 4000000 in
set_option maxRecDepth 100000 in
theorem Expand_ok (p : Option Addr) (n c : Nat) (l : List Mac) (s : Bs) (w : World) (hR : MacsIn w p n c l) (hM : MLm w) (hs : s.length ≤ 1048600) :
    Calls Tryd.prog 27 #[.slice p n c, .string (txt s)] w fun e w' => e = .returned (.tuple #[.string (txt (expandE okM l s).2), .int .i64 (expandE okM l s).1]) ∧ Below w.heap.size w w' := by
  have HFl := Lib.hid (flats_ok p n c l w hR hM)
  have HMB := Lib.hid (fun u (hu : Below w.heap.size w u) => hM.below hu)
  clear hR hM
  by_cases hE : flatsE okM l = 0
  rotate_left
  · have HE := Lib.hid (expandE_bad (s := s) hE)
    have HF2 : Hid (Calls Tryd.prog 41 #[.slice p n c] w fun e w' => (∃ v, e = .returned (.tuple #[v, .int .i64 (flatsE okM l)])) ∧ Below w.heap.size w w') := by
      show Calls _ _ _ _ _
      refine HFl.out.mono ?_
      rintro e w' ⟨⟨v, rfl, _⟩, hb⟩
      exact ⟨⟨v, rfl⟩, hb⟩
    obtain ⟨e1, e2⟩ := int_ne' hE
    clear HFl hE
    generalize flatsE okM l = fe at *
    go_enter Tryd.func27, Tryd.ntmps27
    go_wp2_with (go_at_call 41; refine HF2.out.mono ?_; rintro e w1 ⟨⟨v, rfl⟩, hb⟩; have HB := Lib.hid hb; clear hb)
    go_ret2
    exact ⟨by rw [HE.out]; rfl, HB.out⟩
  have HF2 : Hid (Calls Tryd.prog 41 #[.slice p n c] w fun e w' => (∃ B eb uv st, e = .returned (.tuple #[.map (some B), .int .i64 0]) ∧ TabW w' B w.heap.size l eb uv st ∧ ∀ n ∈ namesM l, st n = 2) ∧ Below w.heap.size w w') := by
    show Calls _ _ _ _ _
    refine HFl.out.mono ?_
    rintro e w' ⟨⟨v, rfl, hv⟩, hb⟩
    rw [hE] at hv ⊢
    obtain ⟨_, B, eb, uv, st, rfl, h1, h2⟩ := hv.resolve_left (fun h => h.1 rfl)
    exact ⟨⟨B, eb, uv, st, rfl, h1, h2⟩, hb⟩
  have HFE := Lib.hid hE
  have hul := usesM_len s
  clear HFl hE
  cases hp : (prs okM s).2
  · have HE := Lib.hid (expandE_3 HFE.out hp)
    have hue : usesE s = 3 := by unfold usesE; rw [hp]; rfl
    have HU : Hid (∀ w1, MLm w1 → Calls Tryd.prog 42 #[.string (txt s)] w1 fun e w' => (∃ v, e = .returned (.tuple #[v, .int .i64 3])) ∧ Below w1.heap.size w1 w') := by
      show ∀ _, _ → _
      intro w1 hM
      refine (Uses_ok s hs w1 hM).mono ?_
      rintro e w' ⟨⟨v, rfl, _⟩, hb⟩
      rw [hue]
      exact ⟨⟨v, rfl⟩, hb⟩
    clear hp hue
    go_enter Tryd.func27, Tryd.ntmps27
    go_wp2_with (first
      | (go_at_call 41; refine HF2.out.mono ?_; rintro e w1 ⟨⟨B, eb, uv, st, rfl, _, _⟩, hb⟩; have HB := Lib.hid hb; clear hb)
      | (go_at_call 42; refine (HU.out _ (HMB.out _ HB.out)).mono ?_; rintro e w2 ⟨⟨v, rfl⟩, hb⟩; have HB2 := Lib.hid (HB.out.trans (hb.mono HB.out.size)); clear hb))
    go_ret2
    exact ⟨by rw [HE.out]; rfl, HB2.out⟩
  have hue : usesE s = 0 := by unfold usesE; rw [hp]; rfl
  have HU : Hid (∀ w1, MLm w1 → Calls Tryd.prog 42 #[.string (txt s)] w1 fun e w' => (∃ v, e = .returned (.tuple #[v, .int .i64 0]) ∧ w'.ownsRow w1.heap.size 9 1 v (usesM (prs okM s).1).length (strsV (usesM (prs okM s).1))) ∧ Below w1.heap.size w1 w') := by
    show ∀ _, _ → _
    intro w1 hM
    refine (Uses_ok s hs w1 hM).mono ?_
    rintro e w' ⟨⟨v, rfl, hv⟩, hb⟩
    rw [hue] at hv ⊢
    exact ⟨⟨v, rfl, (hv.resolve_right (fun h => h.1 rfl)).2⟩, hb⟩
  have HP := Lib.hid hp
  have HMEM := Lib.hid (fun z (hz : z ∈ usesM (prs okM s).1) => usesM_txt hz)
  have HALL := Lib.hid (fun u (hu : u ∈ callsOf (prs okM s).1) => usesM_mem.2 hu)
  clear hp hue
  generalize hU : usesM (prs okM s).1 = U at *
  go_enter Tryd.func27, Tryd.ntmps27
  go_wp2_with (first
    | (go_at_call 41; refine HF2.out.mono ?_; rintro e w1 ⟨⟨B, eb, uv, st, rfl, h1, h2⟩, hb⟩; have HT := Lib.hid h1; have HS := Lib.hid h2; have HB := Lib.hid hb; clear hb h1 h2)
    | (go_at_call 42; refine (HU.out _ (HMB.out _ HB.out)).mono ?_; rintro e w2 ⟨⟨v, rfl, hv⟩, hb⟩; obtain ⟨g, cv, rfl⟩ := mown_form hv; have HV := Lib.hid hv; have HT2 := Lib.hid (HT.out.below hb); have HB2 := Lib.hid (HB.out.trans (hb.mono HB.out.size)); clear hb hv))
  go_loopw [31] (fun i wq => ∃ (q : Nat), q ≤ U.length ∧ i = .int .i64 q ∧ wq = w2 ∧ Hid (∀ i z, i < q → U[i]? = some z → z.data.toList ∈ namesM l)) (fun i _ => U.length - (intOf i).toNat)
  case atStart => exact ⟨0, Nat.zero_le _, rfl, rfl, fun i z h => absurd h (Nat.not_lt_zero _)⟩
  case round =>
    obtain ⟨q, hq, rfl, rfl, HQ⟩ := hrel
    by_cases hqt : q < U.length
    · have heq := List.getElem?_eq_getElem hqt
      have hrow := HV.out
      have hg : ∃ gb, g = some ⟨gb, 0, none⟩ := by
        rcases hrow.2 with ⟨_, h⟩ | ⟨gb, cap, cur, e, _⟩
        · omega
        · injection e with e1 _ _
          exact ⟨gb, e1⟩
      obtain ⟨gb, rfl⟩ := hg
      have hcell := hrow.cells (g := gb) rfl q (.string U[q]) (by unfold strsV; rw [List.getElem?_map, heq]; rfl)
      rw [Addr.add_lit, Nat.zero_add] at hcell
      obtain ⟨u, hzu, hu⟩ := HMEM.out U[q] (List.getElem_mem hqt)
      rw [hzu] at hcell heq
      have HEQ := Lib.hid heq
      have HUU := Lib.hid hu
      have hum : (txt u).size ≤ maxLen := by
        have := okM_few (prs_ok_call hu)
        rw [txt_size]; unfold maxLen; omega
      have hqi : (q : Int) < (U.length : Int) := by omega
      obtain ⟨N, hmp, _⟩ := HT2.out.map
      have HMp := Lib.hid hmp
      clear hrow heq hzu hu hmp
      by_cases hin : u ∈ namesM l
      · have HIN := Lib.hid hin
        have hh2 : ptrAt (namesM l) eb (txt u).data.toList = .pointer (some ⟨eb u, 0, none⟩) := by rw [txt_list]; unfold ptrAt; rw [if_pos hin]
        clear hin
        go_wp2_with (at_lookup; refine look_p _ rfl _ _ rfl rfl HMp.out (txt u) rfl hum ?_; rw [hh2])
        go_roundw
        case rel =>
          refine ⟨q + 1, by omega, by go_num, by first | exact trivial | rfl, ?_⟩
          show ∀ i z, _
          intro i z hi hz
          rcases Nat.lt_or_ge i q with g1 | g1
          · exact HQ.out i z g1 hz
          · have : i = q := by omega
            subst this
            rw [HEQ.out] at hz
            injection hz with hz
            rw [← hz, txt_list]; exact HIN.out
        case measure => simp [intOf]; omega
      · have HE := Lib.hid (expandE_5 HFE.out HP.out ⟨u, HUU.out, hin⟩)
        have hh2 : ptrAt (namesM l) eb (txt u).data.toList = .pointer none := by rw [txt_list]; unfold ptrAt; rw [if_neg hin]; rfl
        clear hin
        go_wp2_with (at_lookup; refine look_p _ rfl _ _ rfl rfl HMp.out (txt u) rfl hum ?_; rw [hh2])
        go_ret2
        exact ⟨by rw [HE.out]; rfl, HB2.out⟩
    · obtain rfl : q = U.length := by omega
      have hall : ∀ u ∈ callsOf (prs okM s).1, u ∈ namesM l := fun u hu => by
        obtain ⟨z, hz, hze⟩ := List.getElem_of_mem (HALL.out u hu)
        have := HQ.out z (txt u) hz (by rw [List.getElem?_eq_getElem hz, hze])
        rwa [txt_list] at this
      have HEL := Lib.hid (expandE_l HFE.out HP.out (fun ⟨u, hu, hn⟩ => hn (hall u hu)))
      have HFt := Lib.hid (flat_ok B (flatF okM l) s _ hs (HMB.out _ HB2.out) (HT2.out.flatOn HS.out hall))
      clear hall
      cases hl : lrg (flatF okM l) (prs okM s).1
      · have hc : cmb (flatF okM l) (prs okM s).1 = some (evalT (flatF okM l) (prs okM s).1) := by unfold cmb; rw [hl]; rfl
        rw [hc] at HFt
        rw [hl] at HEL
        clear hl hc
        go_wp2_with (go_at_call 43; refine HFt.out.mono ?_; rintro e w3 ⟨rfl, hb⟩; have HB3 := Lib.hid hb; clear hb)
        go_ret2
        exact ⟨by rw [HEL.out]; rfl, HB2.out.trans (HB3.out.mono HB2.out.size)⟩
      · have hc : cmb (flatF okM l) (prs okM s).1 = none := by unfold cmb; rw [hl]; rfl
        rw [hc] at HFt
        rw [hl] at HEL
        clear hl hc
        go_wp2_with (go_at_call 43; refine HFt.out.mono ?_; rintro e w3 ⟨rfl, hb⟩; have HB3 := Lib.hid hb; clear hb)
        go_ret2
        exact ⟨by rw [HEL.out]; rfl, HB2.out.trans (HB3.out.mono HB2.out.size)⟩
end Go.Proofs.YtoiolepengcagaaDoor
namespace Go.Proofs.YtoiolepengcagaaDoor
abbrev Inf := ByteArray × ByteArray
def sufB (s : ByteArray) : Bool := decide (2 ≤ s.size) && decide (s.size ≤ 10) && (s.data.toList.head? == some 46) && (nameE s == 0) && !Lib.containsAny (s.data.toList.drop 1) [46, 47]
def inf0 : Inf := (ByteArray.empty, ByteArray.empty)
def hasI (l : List Inf) (x : Inf) : Bool := l.any fun y => decide (y = x)
theorem hasI_iff {l : List Inf} {x : Inf} : hasI l x = true ↔ x ∈ l := by
  unfold hasI
  rw [List.any_eq_true]
  constructor
  · rintro ⟨y, hy, e⟩
    have := of_decide_eq_true e
    subst this
    exact hy
  · intro h
    exact ⟨x, h, decide_eq_true rfl⟩
def infAt (l : List Inf) (k : Nat) : Int :=
  if (sufB (l.getD k inf0).1 && sufB (l.getD k inf0).2) = false then 3 else if (l.getD k inf0).1 = (l.getD k inf0).2 ∨ hasI (l.take k) (l.getD k inf0) = true then 6 else 0
def infGo (l : List Inf) : Nat → Nat → Int
  | _, 0 => 0
  | k, f + 1 => if infAt l k = 0 then infGo l (k + 1) f else infAt l k
def infE (l : List Inf) : Int := if 20 < l.length then 2 else infGo l 0 l.length
theorem infGo_zero (l : List Inf) : ∀ f k, infGo l k f = 0 ↔ ∀ j, k ≤ j → j < k + f → infAt l j = 0 := by
  intro f
  induction f with
  | zero => intro k; simp only [infGo, true_iff]; intro j h1 h2; omega
  | succ f ih =>
    intro k
    unfold infGo
    split
    · rename_i h
      rw [ih]
      constructor
      · intro g j h1 h2
        rcases Nat.eq_or_lt_of_le h1 with rfl | h1
        · exact h
        · exact g j h1 (by omega)
      · intro g j h1 h2
        exact g j (by omega) (by omega)
    · rename_i h
      constructor
      · intro g; exact absurd g h
      · intro g; exact absurd (g k (Nat.le_refl k) (by omega)) h
theorem infE_zero (l : List Inf) : infE l = 0 ↔ l.length ≤ 20 ∧ ∀ j, j < l.length → infAt l j = 0 := by
  unfold infE
  split
  · rename_i h
    constructor
    · intro g; cases g
    · rintro ⟨g, _⟩; omega
  · rename_i h
    rw [infGo_zero]
    constructor
    · intro g; exact ⟨by omega, fun j hj => g j (Nat.zero_le j) (by omega)⟩
    · rintro ⟨_, g⟩ j _ hj; exact g j (by omega)
theorem infAt_zero {l : List Inf} {k : Nat} : infAt l k = 0 ↔ sufB (l.getD k inf0).1 = true ∧ sufB (l.getD k inf0).2 = true ∧ (l.getD k inf0).1 ≠ (l.getD k inf0).2 ∧ l.getD k inf0 ∉ l.take k := by
  unfold infAt
  constructor
  · intro h
    split at h
    · cases h
    · rename_i h1
      split at h
      · cases h
      · rename_i h2
        rw [Bool.not_eq_false, Bool.and_eq_true] at h1
        rw [not_or, hasI_iff] at h2
        exact ⟨h1.1, h1.2, h2.1, h2.2⟩
  · rintro ⟨h1, h2, h3, h4⟩
    rw [h1, h2, if_neg (by decide), if_neg (by rw [not_or, hasI_iff]; exact ⟨h3, h4⟩)]
theorem infE_take {l : List Inf} (h : infE l = 0) {k : Nat} (hk : k ≤ l.length) : infE (l.take k) = 0 := by
  rw [infE_zero] at h ⊢
  have hl : (l.take k).length = k := by rw [List.length_take]; omega
  refine ⟨by omega, fun j hj => ?_⟩
  have := infAt_zero.1 (h.2 j (by omega))
  have e : (l.take k).getD j inf0 = l.getD j inf0 := by
    rw [List.getD_eq_getElem?_getD, List.getD_eq_getElem?_getD, List.getElem?_take_of_lt (by omega)]
  rw [infAt_zero, e]
  refine ⟨this.1, this.2.1, this.2.2.1, fun hm => this.2.2.2 ?_⟩
  rw [List.take_take] at hm
  rwa [show min j k = j by omega] at hm
theorem infE_drop {l : List Inf} (h : infE l = 0) {k : Nat} (hk : k ≤ l.length) : infE (l.drop k) = 0 := by
  rw [infE_zero] at h ⊢
  have hl : (l.drop k).length = l.length - k := List.length_drop ..
  refine ⟨by omega, fun j hj => ?_⟩
  have := infAt_zero.1 (h.2 (k + j) (by omega))
  have e : (l.drop k).getD j inf0 = l.getD (k + j) inf0 := by
    rw [List.getD_eq_getElem?_getD, List.getD_eq_getElem?_getD, List.getElem?_drop]
  rw [infAt_zero, e]
  refine ⟨this.1, this.2.1, this.2.2.1, fun hm => this.2.2.2 ?_⟩
  have : l.take (k + j) = l.take k ++ (l.drop k).take j := List.take_add ..
  rw [this]
  exact List.mem_append_right _ hm
/-- the first that applies -/
def infOf (l : List Inf) (there : List ByteArray) (stem en : ByteArray) : Option ByteArray :=
  l.findSome? fun x => if x.2 = en ∧ Lib.containsS there (stem ++ x.1) = true then some (stem ++ x.1) else none
theorem infOf_cut (l : List Inf) (k : Nat) (there : List ByteArray) (stem en : ByteArray) : infOf l there stem en = (infOf (l.take k) there stem en).or (infOf (l.drop k) there stem en) := by
  unfold infOf
  rw [← List.findSome?_append, List.take_append_drop]
theorem infOf_next {l : List Inf} {k : Nat} (hk : k < l.length) (there : List ByteArray) (stem en : ByteArray) :
    infOf (l.drop k) there stem en = if (l.getD k inf0).2 = en ∧ Lib.containsS there (stem ++ (l.getD k inf0).1) = true then some (stem ++ (l.getD k inf0).1) else infOf (l.drop (k + 1)) there stem en := by
  unfold infOf
  rw [List.drop_eq_getElem_cons hk, List.findSome?_cons]
  have e : l.getD k inf0 = l[k] := by rw [List.getD_eq_getElem?_getD, List.getElem?_eq_getElem hk]; rfl
  rw [e]
  split
  · rename_i h; split at h
    · rename_i h2; rw [if_pos h2]; exact h.symm
    · cases h
  · rename_i h; split at h
    · cases h
    · rename_i h2; rw [if_neg h2]
end Go.Proofs.YtoiolepengcagaaDoor
namespace Go.Proofs.YtoiolepengcagaaDoor
structure FileV where
  ms : List Mac
  ph : List ByteArray
  inf : List Inf
  rs : List (List ByteArray × List ByteArray)
def file0 : FileV := ⟨[], [], [], []⟩
/-- the first place of one of two bytes -/
def fst2 (x y : UInt8) : Bs → Option Nat
  | [] => none
  | c :: l => if c = x ∨ c = y then some 0 else (fst2 x y l).map (· + 1)
theorem fst2_none {x y : UInt8} {l : Bs} : fst2 x y l = none ↔ ∀ c ∈ l, c ≠ x ∧ c ≠ y := by
  induction l with
  | nil => simp [fst2]
  | cons c l ih =>
    unfold fst2
    split
    · rename_i h
      constructor
      · intro e; cases e
      · intro h2; have := h2 c List.mem_cons_self; rcases h with e | e
        · exact absurd e this.1
        · exact absurd e this.2
    · rename_i h
      rw [Option.map_eq_none_iff, ih]
      constructor
      · intro h2 d hd
        rcases List.mem_cons.1 hd with rfl | hd
        · exact ⟨fun e => h (.inl e), fun e => h (.inr e)⟩
        · exact h2 d hd
      · exact fun h2 d hd => h2 d (List.mem_cons_of_mem _ hd)
theorem fst2_some {x y : UInt8} {l : Bs} {k : Nat} (h : fst2 x y l = some k) : (∃ c, l[k]? = some c ∧ (c = x ∨ c = y)) ∧ ∀ j, j < k → ∀ c, l[j]? = some c → c ≠ x ∧ c ≠ y := by
  induction l generalizing k with
  | nil => cases h
  | cons c l ih =>
    unfold fst2 at h
    split at h
    · rename_i h2
      obtain rfl : 0 = k := by simpa using h
      exact ⟨⟨c, rfl, h2⟩, fun j hj => absurd hj (Nat.not_lt_zero _)⟩
    · rename_i h2
      rw [Option.map_eq_some_iff] at h
      obtain ⟨m, hm, rfl⟩ := h
      obtain ⟨h3, h4⟩ := ih hm
      refine ⟨by simpa using h3, fun j hj d hd => ?_⟩
      cases j with
      | zero =>
        obtain rfl : c = d := by simpa using hd
        exact ⟨fun e => h2 (.inl e), fun e => h2 (.inr e)⟩
      | succ j => exact h4 j (by omega) d (by simpa using hd)
/-- does a line define a macro? -/
def defB (s : Bs) : Bool := match fst2 61 58 s with
  | none => false
  | some k => s[k]? == some 61
theorem index_first {c : UInt8} {l : Bs} {k : Nat} (h1 : l[k]? = some c) (h2 : ∀ j, j < k → ∀ d, l[j]? = some d → d ≠ c) : Lib.indexByte l c = k := by
  induction l generalizing k with
  | nil => simp at h1
  | cons b l ih =>
    unfold Lib.indexByte
    cases k with
    | zero =>
      obtain rfl : b = c := by simpa using h1
      simp
    | succ k =>
      have hb : b ≠ c := h2 0 (by omega) b rfl
      have := ih (k := k) (by simpa using h1) (fun j hj d hd => h2 (j + 1) (by omega) d (by simpa using hd))
      rw [this]
      have e : (b == c) = false := by simpa using hb
      simp [hb]
      all_goals omega
/-- the macro that it defines -/
def defM (s : Bs) : Mac := (Lib.trimS (s.take (Lib.indexByte s 61).toNat) [32, 9], Lib.trimS (s.drop ((Lib.indexByte s 61).toNat + 1)) [32, 9])
theorem defB_at {s : Bs} (h : defB s = true) : ∃ k, fst2 61 58 s = some k ∧ s[k]? = some 61 ∧ Lib.indexByte s 61 = k := by
  unfold defB at h
  split at h
  · cases h
  · rename_i k hk
    have h1 : s[k]? = some 61 := by simpa using h
    exact ⟨k, hk, h1, index_first h1 fun j hj d hd => ((fst2_some hk).2 j hj d hd).1⟩
/-- a pair of suffixes -/
def partsB (s : ByteArray) : List ByteArray := Lib.splitB ⟨#[46]⟩ 0 (Lib.countB s ⟨#[46]⟩) s
def pairB (s : ByteArray) : Bool := decide ((partsB s).length = 3) && ((partsB s).getD 0 ByteArray.empty).toList.isEmpty && !((partsB s).getD 1 ByteArray.empty).toList.isEmpty && !((partsB s).getD 2 ByteArray.empty).toList.isEmpty && !Lib.contains s.data.toList [47]
def pairI (s : ByteArray) : Inf := ((⟨#[46]⟩ : ByteArray) ++ (partsB s).getD 1 ByteArray.empty, (⟨#[46]⟩ : ByteArray) ++ (partsB s).getD 2 ByteArray.empty)
def phonyS : ByteArray := ⟨#[46, 80, 72, 79, 78, 89]⟩
def addP (P : List ByteArray) (N : List ByteArray) : List ByteArray := N.foldl (fun P n => if Lib.containsS P n = true then P else P ++ [n]) P
theorem addP_snoc (P N : List ByteArray) (n : ByteArray) : addP P (N ++ [n]) = if Lib.containsS (addP P N) n = true then addP P N else addP P N ++ [n] := by
  unfold addP
  rw [List.foldl_append]
  rfl
/-- a rule put into a file -/
def addF (f : FileV) (T N : List ByteArray) : FileV × Int :=
  if Lib.containsS T phonyS = true then
    if 1 < T.length then (f, 3) else ({ f with ph := addP f.ph N }, if 20 < (addP f.ph N).length then 2 else 0)
  else if pairB (T.getD 0 ByteArray.empty) = true ∧ T.length = 1 ∧ N.length = 0 then
    ({ f with inf := if hasI f.inf (pairI (T.getD 0 ByteArray.empty)) = true then f.inf else f.inf ++ [pairI (T.getD 0 ByteArray.empty)] }, 0)
  else ({ f with rs := f.rs ++ [(T, N)] }, if 100 < (f.rs ++ [(T, N)]).length then 2 else 0)
noncomputable def lineF (ms : List Mac) (s : Bs) (f : FileV) : FileV × Int :=
  if (expandE okM ms s).1 ≠ 0 then (f, (expandE okM ms s).1)
  else if parseE (expandE okM ms s).2 ≠ 0 then (f, parseE (expandE okM ms s).2)
  else addF f (parseT (expandE okM ms s).2) (parseN (expandE okM ms s).2)
noncomputable def parseGo (ms : List Mac) : List Bs → Nat → FileV → FileV × Nat × Int
  | [], _, f => (f, 0, 0)
  | s :: l, i, f => if defB s = true then parseGo ms l (i + 1) f else if (lineF ms s f).2 ≠ 0 then (file0, i + 1, (lineF ms s f).2) else parseGo ms l (i + 1) (lineF ms s f).1
def macsF (l : List Bs) : List Mac := (l.filter defB).map defM
noncomputable def parseF (l : List Bs) : FileV × Nat × Int :=
  if 200 < l.length then (file0, 0, 2) else if flatsE okM (macsF l) ≠ 0 then (file0, 0, flatsE okM (macsF l)) else parseGo (macsF l) l 0 { file0 with ms := macsF l }
theorem parseGo_same (ms : List Mac) : ∀ (l l' : List Bs) (i j : Nat) (f : FileV), l.filter (fun s => !defB s) = l'.filter (fun s => !defB s) → (parseGo ms l i f).1 = (parseGo ms l' j f).1 ∧ (parseGo ms l i f).2.2 = (parseGo ms l' j f).2.2 := by
  have key : ∀ (l : List Bs) (i j : Nat) (f : FileV), (parseGo ms l i f).1 = (parseGo ms (l.filter fun s => !defB s) j f).1 ∧ (parseGo ms l i f).2.2 = (parseGo ms (l.filter fun s => !defB s) j f).2.2 := by
    intro l
    induction l with
    | nil => intro i j f; exact ⟨rfl, rfl⟩
    | cons s l ih =>
      intro i j f
      cases hs : defB s with
      | true =>
        rw [List.filter_cons_of_neg (by simp [hs])]
        unfold parseGo
        rw [if_pos hs]
        have := ih (i + 1) j f
        cases hl : l.filter (fun s => !defB s) with
        | nil => rw [hl] at this; exact this
        | cons t r => rw [hl] at this; exact this
      | false =>
        rw [List.filter_cons_of_pos (by simp [hs])]
        rw [parseGo, parseGo, hs]
        simp only [Bool.false_eq_true, if_false]
        split
        · exact ⟨rfl, rfl⟩
        · exact ih _ _ _
  intro l l' i j f h
  have h1 := key l i 0 f
  have h2 := key l' j 0 f
  rw [h] at h1
  exact ⟨h1.1.trans h2.1.symm, h1.2.trans h2.2.symm⟩
theorem parseF_same {l l' : List Bs} (hn : l.length = l'.length) (hm : l.filter defB = l'.filter defB) (hr : l.filter (fun s => !defB s) = l'.filter (fun s => !defB s)) : (parseF l).1 = (parseF l').1 ∧ (parseF l).2.2 = (parseF l').2.2 := by
  have e : macsF l = macsF l' := by unfold macsF; rw [hm]
  unfold parseF
  rw [hn, e]
  split
  · exact ⟨rfl, rfl⟩
  · split
    · exact ⟨rfl, rfl⟩
    · exact parseGo_same _ _ _ _ _ _ hr
/-- the law FileOrder, plainly -/
theorem order_law (l : List Bs) : (parseF (l.filter defB ++ l.filter fun s => !defB s)).1 = (parseF ((l.filter fun s => !defB s) ++ l.filter defB)).1 ∧ (parseF (l.filter defB ++ l.filter fun s => !defB s)).2.2 = (parseF ((l.filter fun s => !defB s) ++ l.filter defB)).2.2 := by
  have a : (l.filter fun s => !defB s).filter defB = [] := by rw [List.filter_filter, List.filter_eq_nil_iff]; intro s _; cases defB s <;> simp
  have b : (l.filter defB).filter (fun s => !defB s) = [] := by rw [List.filter_filter, List.filter_eq_nil_iff]; intro s _; cases defB s <;> simp
  refine parseF_same (by rw [List.length_append, List.length_append, Nat.add_comm]) ?_ ?_
  · rw [List.filter_append, List.filter_append, a, List.append_nil, List.nil_append]
  · rw [List.filter_append, List.filter_append, b, List.append_nil, List.nil_append]
theorem parseGo_err (ms : List Mac) : ∀ (l : List Bs) (i : Nat) (f : FileV), ((parseGo ms l i f).2.2 ≠ 0 → (parseGo ms l i f).1 = file0 ∧ (parseGo ms l i f).2.1 ≤ i + l.length) ∧ ((parseGo ms l i f).2.2 = 0 → (parseGo ms l i f).2.1 = 0) := by
  intro l
  induction l with
  | nil => intro i f; exact ⟨fun h => absurd rfl h, fun _ => rfl⟩
  | cons s l ih =>
    intro i f
    unfold parseGo
    rw [List.length_cons]
    split
    · have := ih (i + 1) f
      exact ⟨fun h => ⟨(this.1 h).1, by have := (this.1 h).2; omega⟩, this.2⟩
    · split
      · rename_i h
        exact ⟨fun _ => ⟨rfl, by show i + 1 ≤ _; omega⟩, fun e => absurd e h⟩
      · have := ih (i + 1) (lineF ms s f).1
        exact ⟨fun h => ⟨(this.1 h).1, by have := (this.1 h).2; omega⟩, this.2⟩
theorem parseF_err (l : List Bs) : ((parseF l).2.2 ≠ 0 → (parseF l).1 = file0 ∧ (parseF l).2.1 ≤ l.length) ∧ ((parseF l).2.2 = 0 → (parseF l).2.1 = 0) := by
  unfold parseF
  split
  · exact ⟨fun _ => ⟨rfl, Nat.zero_le _⟩, fun _ => rfl⟩
  · split
    · exact ⟨fun _ => ⟨rfl, Nat.zero_le _⟩, fun _ => rfl⟩
    · have := parseGo_err (macsF l) l 0 { file0 with ms := macsF l }
      rw [Nat.zero_add] at this
      exact this
/-- the lines of a file -/
def linesF (f : FileV) : List Bs :=
  (f.ms.map fun m => m.1 ++ [32, 61, 32] ++ m.2) ++ (if f.ph = [] then [] else [phonyS.data.toList ++ [32, 58, 32] ++ Lib.join (lsB f.ph) [32]]) ++ (f.inf.map fun x => x.1.data.toList ++ x.2.data.toList ++ [32, 58]) ++ (f.rs.map fun r => ruleT r.1 r.2)
open Classical in
/-- the check of a file -/
noncomputable def checkF (f : FileV) : Int := if (parseF (linesF f)).2.2 = 0 then (if (parseF (linesF f)).1 = f then 0 else 3) else (parseF (linesF f)).2.2
theorem checkF_zero {f : FileV} (h : checkF f = 0) : (parseF (linesF f)).2.2 = 0 ∧ (parseF (linesF f)).1 = f ∧ (parseF (linesF f)).2.1 = 0 := by
  unfold checkF at h
  split at h
  · rename_i h1
    split at h
    · rename_i h2; exact ⟨h1, h2, (parseF_err _).2 h1⟩
    · cases h
  · rename_i h1; exact absurd h h1
end Go.Proofs.YtoiolepengcagaaDoor
namespace Go.Proofs.YtoiolepengcagaaDoor
open Go.RowKit
theorem enc_high (r : Nat) (h : 128 ≤ r) : (∃ a b : UInt8, Utf8.encode (r : Int) = ⟨#[a, b]⟩ ∧ 128 ≤ b.toNat) ∨ (∃ a b c : UInt8, Utf8.encode (r : Int) = ⟨#[a, b, c]⟩) ∨ (∃ a b c d : UInt8, Utf8.encode (r : Int) = ⟨#[a, b, c, d]⟩) := by
  unfold Utf8.encode
  simp only
  generalize hc : (if Utf8.valid (r : Int) then (r : Int).toNat else Utf8.runeError) = c
  have hc1 : 128 ≤ c := by
    rw [← hc]
    split
    · simpa using h
    · decide
  rw [if_neg (by omega)]
  split
  · refine .inl ⟨_, _, rfl, ?_⟩
    rw [UInt8.toNat_ofNat']
    omega
  · split
    · exact .inr (.inl ⟨_, _, _, rfl⟩)
    · exact .inr (.inr ⟨_, _, _, _, rfl⟩)
set_option maxHeartbeats 1000000 in
set_option maxRecDepth 1000000 in
theorem indexRune_other (x y : UInt8) (hy : y.toNat < 128) (r : Nat) (h1 : 128 ≤ r) (h2 : r ≤ 2147483647) (w : World) (hr : ¬ r = 65533) :
    Calls Tryd.prog 57 #[.string ⟨#[x, y]⟩, .int .i32 r] w fun e w' => e = .returned (.int .i64 (-1)) ∧ Below w.heap.size w w' := by
  have hn : ¬ ((r : Int) < 128) := by omega
  have hn2 : ((r : Int) == 65533) = false := beq_eq_false_iff_ne.2 (by omega)
  go_enter Tryd.func57, Tryd.ntmps57
  go_wp2_with fail
  refine (Tryd.utf8_ValidRune (r : Int) _).mono ?_
  cases hv : Lib.validRune (r : Int)
  all_goals rintro e w' ⟨rfl, rfl⟩
  · go_wp2
    go_ret
    exact ⟨rfl, Below.refl _ _⟩
  · rcases enc_high r h1 with ⟨a, b, he, hb⟩ | ⟨a, b, c, he⟩ | ⟨a, b, c, d, he⟩
    · have hcv : ∀ u : World, (convert 21 9 (.int .i32 (r : Int))).run Tryd.prog u = .ok (.string ⟨#[a, b]⟩) u := fun u => by
        rw [run_convert_int_string u _ _ _ _ (by rw [Tryd.underlying21]; rfl) Tryd.underlying9, he]
      have hbne : ((((⟨#[x, y]⟩ : ByteArray)[1]'(by show 1 < 2; decide)).toNat : Int) != (((⟨#[a, b]⟩ : ByteArray)[1]'(by show 1 < 2; decide)).toNat : Int)) = true := by
        show ((y.toNat : Int) != (b.toNat : Int)) = true
        rw [bne_iff_ne]; omega
      clear he
      have hw2 : IntKind.i64.wrap 2 = 2 := by decide
      have hie : ∀ c : UInt8, Lib.indexByte ByteArray.empty.data.toList c = -1 := fun c => rfl
      go_wp2
      go_step3
      go_wp2
      go_loop [9] (fun i => i = .int .i64 1) (fun _ => 0)
      case atStart => rfl
      case round =>
        subst hrel
        go_wp2
        go_step3
        go_wp2
        go_quiet (fail)
        go_wp2
        go_quiet ((go_at_call 29; refine (Tryd.strings_IndexByte _ _ _).mono ?_; rintro e w'' ⟨he, hw⟩; rw [hie] at he; exact ⟨he, _, hw⟩))
        go_wp2
        simp +zetaDelta only [Exit.noGoto_ret, Exit.inBlock, Exit.then]
        go_ret
        exact ⟨rfl, ⟨rfl, rfl, rfl, Nat.le_refl _, fun _ _ => rfl⟩⟩
    · have hcv : ∀ u : World, (convert 21 9 (.int .i32 (r : Int))).run Tryd.prog u = .ok (.string ⟨#[a, b, c]⟩) u := fun u => by
        rw [run_convert_int_string u _ _ _ _ (by rw [Tryd.underlying21]; rfl) Tryd.underlying9, he]
      clear he
      go_wp2
      go_step3
      go_wp2
      go_loop [9] (fun i => i = .int .i64 2) (fun _ => 0)
      case atStart => rfl
      case round =>
        subst hrel
        go_wp2
        go_ret
        exact ⟨rfl, Below.refl _ _⟩
    · have hcv : ∀ u : World, (convert 21 9 (.int .i32 (r : Int))).run Tryd.prog u = .ok (.string ⟨#[a, b, c, d]⟩) u := fun u => by
        rw [run_convert_int_string u _ _ _ _ (by rw [Tryd.underlying21]; rfl) Tryd.underlying9, he]
      clear he
      go_wp2
      go_step3
      go_wp2
      go_loop [9] (fun i => i = .int .i64 3) (fun _ => 0)
      case atStart => rfl
      case round =>
        subst hrel
        go_wp2
        go_ret
        exact ⟨rfl, Below.refl _ _⟩
theorem bytes2_at (x y : UInt8) {i : Nat} (hi : i < 2) : ∃ h : i < (⟨#[x, y]⟩ : ByteArray).size, ((⟨#[x, y]⟩ : ByteArray)[i] = x ∨ (⟨#[x, y]⟩ : ByteArray)[i] = y) := by
  match i, hi with
  | 0, _ => exact ⟨by show 0 < 2; decide, .inl rfl⟩
  | 1, _ => exact ⟨by show 1 < 2; decide, .inr rfl⟩
set_option maxHeartbeats 1000000 in
set_option maxRecDepth 1000000 in
theorem indexRune_err (x y : UInt8) (hx : x.toNat < 128) (hy : y.toNat < 128) (w : World) :
    Calls Tryd.prog 57 #[.string ⟨#[x, y]⟩, .int .i32 65533] w fun e w' => e = .returned (.int .i64 (-1)) ∧ Below w.heap.size w w' := by
  have hsz : (⟨#[x, y]⟩ : ByteArray).size = 2 := rfl
  obtain ⟨s, hs⟩ : ∃ s : ByteArray, s = ⟨#[x, y]⟩ := ⟨_, rfl⟩
  rw [← hs] at hsz ⊢
  have HA : Hid (∀ i (h : i < s.size), s[i].toNat < 128) := by
    show ∀ i (h : i < s.size), _
    intro i h
    subst hs
    obtain ⟨_, e | e⟩ := bytes2_at x y (i := i) (by omega)
    · rw [e]; exact hx
    · rw [e]; exact hy
  clear hs hx hy hsz
  go_enter Tryd.func57, Tryd.ntmps57
  go_wp2_with fail
  go_loopg [5, 6] s.size (fun g _ _ wx => ∃ i : Nat, i + g = s.size ∧ wx = w.iter s i)
  case atStart => exact ⟨0, by omega, rfl⟩
  case round =>
    obtain ⟨i, hig, rfl⟩ := hrel
    cases gk with
    | zero =>
      obtain rfl : i = s.size := by omega
      have hnx := run_next_end (P := Tryd.prog) w s s.size
      go_wp2
      go_ret
      exact ⟨rfl, (Below.refl _ _).alloc (Nat.le_refl _) _⟩
    | succ g =>
      have hi : i < s.size := by omega
      have hx128 := HA.out i hi
      have hnx := fun ty => run_next_ascii (P := Tryd.prog) w s i ty hi hx128
      have hne : (((s[i].toNat : Nat) : Int) == 65533) = false := beq_eq_false_iff_ne.2 (by omega)
      go_wp2
      go_roundg g
      case measure => omega
      case rel => exact ⟨i + 1, by omega, rfl⟩
theorem indexRune_none (x y : UInt8) (hx : x.toNat < 128) (hy : y.toNat < 128) (r : Nat) (h1 : 128 ≤ r) (h2 : r ≤ 2147483647) (w : World) :
    Calls Tryd.prog 57 #[.string ⟨#[x, y]⟩, .int .i32 r] w fun e w' => e = .returned (.int .i64 (-1)) ∧ Below w.heap.size w w' := by
  by_cases hr : r = 65533
  · subst hr; exact indexRune_err x y hx hy w
  · exact indexRune_other x y hy r h1 h2 w hr
end Go.Proofs.YtoiolepengcagaaDoor
namespace Go.Proofs.YtoiolepengcagaaDoor
open Go.RowKit
/-- neither byte is in the text -/
def Free2 (s : ByteArray) (x y : UInt8) : Prop := ∀ c ∈ s.data.toList, c ≠ x ∧ c ≠ y
theorem free_at {s : ByteArray} {x y : UInt8} (h : Free2 s x y) {i : Nat} (hi : i < s.size) : s[i] ≠ x ∧ s[i] ≠ y := h _ (List.mem_of_getElem? (ba_at hi))
theorem free_index {x y c : UInt8} (h : c ≠ x ∧ c ≠ y) : Lib.indexByte [x, y] c = -1 := by
  have h1 := indexByte_ge [x, y] c
  rcases Int.lt_or_le (Lib.indexByte [x, y] c) 0 with h2 | h2
  · omega
  · have := h1.2.1 h2
    simp at this
    rcases this with e | e
    · exact absurd e h.1
    · exact absurd e h.2
theorem info_set : (Tryd.prog.info? 118).map (fun i => (i.zero, i.size)) = some (some (.agg (Array.replicate 256 (.bool false))), 256) := by kernel_rfl
set_option maxHeartbeats 4000000 in
set_option maxRecDepth 100000 in
theorem indexAny_none (s : ByteArray) (x y : UInt8) (hx : x.toNat < 128) (hy : y.toNat < 128) (hs : s.size < 4611686018427387904) (hf : Free2 s x y) (w : World) :
    Calls Tryd.prog 40 #[.string s, .string ⟨#[x, y]⟩] w fun e w' => e = .returned (.int .i64 (-1)) ∧ Below w.heap.size w w' := by
  have hemp : (⟨#[x, y]⟩ : ByteArray).toList.isEmpty = false := by rw [Lib.toList_data]; rfl
  have HF := Lib.hid hf
  have HX := Lib.hid hx
  have HY := Lib.hid hy
  clear hf hx hy
  by_cases h8 : 8 < s.size
  · have h8z : decide ((8 : Int) < (s.size : Int)) = true := decide_eq_true (by omega)
    obtain ⟨L, hL⟩ : ∃ L : Array Value, L = Lib.setCells [x, y] := ⟨_, rfl⟩
    have hLs : L.size = 256 := by rw [hL]; exact Lib.setCells_size _
    have hL1 : L.all (·.oneCell') = true := by rw [hL]; exact Lib.setCells_one _
    have HLC : Hid (∀ c : UInt8, L[c.toNat]? = some (.bool ([x, y].contains c))) := by
      show ∀ c : UInt8, _
      intro c; rw [hL]; exact Lib.setCells_at _ c
    have HM := Lib.hid (fun u => Tryd.strings_makeASCIISet (zero_of_info info_set).1 ⟨#[x, y]⟩ u (by show 2 < 4294967281; decide) (fun j b hb => by
      have hj : b = x ∨ b = y := by
        have := List.mem_of_getElem? hb
        simpa using this
      rcases hj with rfl | rfl
      · exact HX.out
      · exact HY.out))
    rw [show (⟨#[x, y]⟩ : ByteArray).data.toList = [x, y] from rfl, ← hL] at HM
    have hsc : (storeCells ⟨w.heap.size + 1, 0, none⟩ L.toList 0).run Tryd.prog ((w.alloc (.cells L 118)).alloc (.cells Tryd.zeroCells118 118)) = .ok () ((w.alloc (.cells L 118)).alloc (.cells L 118)) := by
      have := run_storeCells_new (P := Tryd.prog) (w.alloc (.cells L 118)) 118 Tryd.zeroCells118 L (by rw [hLs]; kernel_rfl) (by rw [hLs]; rfl) hL1
      simpa using this
    clear hL
    go_enter Tryd.func40, Tryd.ntmps40
    go_wp2_with (first
      | (go_at_call 58; refine (Tryd.strings_shouldUseASCIISet _ _).mono ?_; rintro e w' ⟨rfl, hw⟩; rw [hw, h8z])
      | (go_at_call 59; refine (HM.out _).mono ?_; rintro e w' ⟨rfl, hw⟩; rw [hw]))
    clear hsc
    obtain ⟨W, hW⟩ : ∃ W, W = (w.alloc (.cells L 118)).alloc (.cells L 118) := ⟨_, rfl⟩
    have HBW : Hid (Below w.heap.size w W) := by
      show Below _ _ _
      rw [hW]; exact ((Below.refl _ _).alloc (Nat.le_refl _) _).alloc (by simp) _
    have HCW : Hid (∀ c : UInt8, W.cell? ⟨w.heap.size + 1, c.toNat, none⟩ = some (.bool ([x, y].contains c))) := by
      show ∀ c : UInt8, _
      intro c
      rw [hW, World.cell?_alloc_at _ _ _ _ (by simp)]
      exact HLC.out c
    rw [← hW]
    clear hW
    go_loopg [8] s.size (fun g s8 wx => ∃ i : Nat, i + g = s.size ∧ s8 = .int .i64 i ∧ wx = W)
    case atStart => exact ⟨0, by omega, rfl, rfl⟩
    case round =>
      obtain ⟨i, hig, rfl, rfl⟩ := hrel
      cases gk with
      | zero =>
        obtain rfl : i = s.size := by omega
        go_wp2
        go_ret
        exact ⟨rfl, HBW.out⟩
      | succ g =>
        have hi : i < s.size := by omega
        have hfree := free_at HF.out hi
        obtain ⟨c, hc⟩ : ∃ c, s[i] = c := ⟨_, rfl⟩
        rw [hc] at hfree
        have hcell := HCW.out c
        rw [show [x, y].contains c = false from by simp [hfree.1, hfree.2]] at hcell
        go_wp2_with (go_at_call 60; refine (Tryd.asciiSet_contains _ c _ _ hcell).mono ?_; rintro e w' ⟨rfl, hw⟩; rw [hw])
        go_roundg g
        case measure => omega
        case rel => exact ⟨i + 1, by omega, by go_num, rfl⟩
  · have h8z : decide ((8 : Int) < (s.size : Int)) = false := decide_eq_false (by omega)
    go_enter Tryd.func40, Tryd.ntmps40
    go_wp2_with (go_at_call 58; refine (Tryd.strings_shouldUseASCIISet _ _).mono ?_; rintro e w' ⟨rfl, hw⟩; rw [hw, h8z])
    go_loopg [9, 10] s.size (fun g _ _ wx => ∃ i : Nat, s.size ≤ i + g ∧ Below w.heap.size w wx ∧ wx.heap[w.heap.size]? = some (.stringIter s i))
    case atStart => exact ⟨0, by omega, (Below.refl _ _).alloc (Nat.le_refl _) _, World.iter_heap w s 0⟩
    case round =>
      obtain ⟨i, hig, hb, hk⟩ := hrel
      have HB := Lib.hid hb
      clear hb
      by_cases hi : i < s.size
      · have hnx := fun ty => Lib.run_next_any_at (P := Tryd.prog) wr w.heap.size s i ty hk hi
        have hk2 := Lib.iterAt_heap wr w.heap.size s i (i + (Utf8.decode s i).2) hk
        have hb2 : Below w.heap.size w (wr.iterAt w.heap.size s (i + (Utf8.decode s i).2)) := Lib.below_iterAt HB.out (Nat.le_refl _) s _
        have hsz2 : w.heap.size < (wr.iterAt w.heap.size s (i + (Utf8.decode s i).2)).heap.size := (Array.getElem?_eq_some_iff.1 hk2).1
        have hfree := free_at HF.out hi
        have hw1 : 1 ≤ (Utf8.decode s i).2 := by
          rcases Nat.lt_or_ge (s[i].toNat) 128 with ha | ha
          · rw [decode_ascii s i hi ha]; exact Nat.le_refl 1
          · exact (decode_high s i hi ha).2
        have hrune : ∀ u : World, Calls Tryd.prog 57 #[.string ⟨#[x, y]⟩, .int .i32 ((Utf8.decode s i).1 : Int)] u fun e w' => e = .returned (.int .i64 (-1)) ∧ Below u.heap.size u w' := by
          intro u
          rcases Nat.lt_or_ge (s[i].toNat) 128 with ha | ha
          · rw [decode_ascii s i hi ha]
            refine (Tryd.strings_IndexRune_ascii _ _ u (by omega) (by omega)).mono ?_
            rintro e w' ⟨rfl, rfl⟩
            rw [show (((s[i].toNat : Nat) : Int)).toNat.toUInt8 = s[i] from by simp]
            exact ⟨congrArg (fun z => Ending.returned (.int .i64 z)) (free_index hfree), Below.refl _ _⟩
          · exact indexRune_none x y HX.out HY.out _ (decode_high s i hi ha).1 (decode_le s i) u
        have HR := Lib.hid hrune
        have HK2 := Lib.hid hk2
        have HB2 := Lib.hid hb2
        have HSZ := Lib.hid hsz2
        clear hrune hk2 hb2 hsz2 hfree hk HB HF hs
        generalize (Utf8.decode s i).1 = rr at *
        generalize (Utf8.decode s i).2 = wd at *
        obtain ⟨w2, hw2⟩ : ∃ w2, w2 = wr.iterAt w.heap.size s (i + wd) := ⟨_, rfl⟩
        rw [← hw2] at HK2 HB2 HSZ
        simp only [← hw2] at hnx
        clear hw2
        go_wp2_with (go_at_call 57; refine (HR.out _).mono ?_; rintro e w3 ⟨rfl, hb3⟩; have HB3 := Lib.hid hb3; clear hb3)
        go_roundg (gk - 1)
        case measure => omega
        case rel => exact ⟨i + wd, by omega, HB2.out.trans (HB3.out.mono (Nat.le_of_lt HSZ.out)), (HB3.out.block _ HSZ.out).trans HK2.out⟩
      · have hnx := fun ty => Lib.run_next_end_at (P := Tryd.prog) wr w.heap.size s i ty hk hi
        clear hk
        go_wp2
        go_ret
        exact ⟨rfl, HB.out⟩
end Go.Proofs.YtoiolepengcagaaDoor
namespace Go.Proofs.YtoiolepengcagaaDoor
open Go.RowKit
/-- the first place of either byte -/
def First2 (s : ByteArray) (x y : UInt8) (k : Nat) : Prop := k < s.size ∧ (∃ h : k < s.size, s[k] = x ∨ s[k] = y) ∧ ∀ j, j < k → ∀ h : j < s.size, s[j] ≠ x ∧ s[j] ≠ y
theorem First2.before {s : ByteArray} {x y : UInt8} {k j : Nat} (h : First2 s x y k) (hj : j < k) (hl : j < s.size := by omega) : s[j] ≠ x ∧ s[j] ≠ y := h.2.2 j hj hl
theorem First2.here {s : ByteArray} {x y : UInt8} {k : Nat} (h : First2 s x y k) (hl : k < s.size := by omega) : s[k] = x ∨ s[k] = y := h.2.1.2
theorem First2.ascii {s : ByteArray} {x y : UInt8} {k : Nat} (h : First2 s x y k) (hx : x.toNat < 128) (hy : y.toNat < 128) (hl : k < s.size := by omega) : (s[k]).toNat < 128 := by
  rcases h.here hl with e | e <;> rw [e] <;> assumption
theorem hit_index {x y c : UInt8} (h : c = x ∨ c = y) : ∃ z : Nat, Lib.indexByte [x, y] c = z := by
  have h1 := (indexByte_ge [x, y] c).2.2 (by rcases h with e | e <;> simp [e])
  exact ⟨(Lib.indexByte [x, y] c).toNat, by omega⟩
theorem get_lt2 (s : ByteArray) {j : Nat} (hj : j < s.size) : s.get! j = s[j] := by
  have h : j < s.data.size := hj
  show s.data[j]! = s.data[j]
  rw [getElem!_pos s.data j h]
theorem decode_skip (s : ByteArray) {i k : Nat} (h : i < k) (hk : k < s.size) (ha : (s[k]).toNat < 128) : i + (Utf8.decode s i).2 ≤ k := by
  have hg := get_lt2 s hk
  have hne : ∀ d, (s.get! (i + d)).toNat / 64 = 2 → i + d ≠ k := fun d hd e => by
    rw [e, hg] at hd; omega
  unfold Utf8.decode
  simp only [Nat.add_zero]
  split
  · show i + 1 ≤ k; omega
  · split
    · rename_i h2
      simp only [Bool.and_eq_true, beq_iff_eq, decide_eq_true_eq] at h2
      have := hne 1 h2.2.2
      split
      · show i + 2 ≤ k; omega
      · show i + 1 ≤ k; omega
    · split
      · rename_i h2
        simp only [Bool.and_eq_true, beq_iff_eq, decide_eq_true_eq] at h2
        have := hne 1 h2.1.2.2
        have := hne 2 h2.2.2
        split
        · show i + 3 ≤ k; omega
        · show i + 1 ≤ k; omega
      · split
        · rename_i h2
          simp only [Bool.and_eq_true, beq_iff_eq, decide_eq_true_eq] at h2
          have := hne 1 h2.1.1.2.2
          have := hne 2 h2.1.2.2
          have := hne 3 h2.2.2
          split
          · show i + 4 ≤ k; omega
          · show i + 1 ≤ k; omega
        · show i + 1 ≤ k; omega
set_option maxHeartbeats 4000000 in
set_option maxRecDepth 100000 in
theorem indexAny_some (s : ByteArray) (x y : UInt8) (hx : x.toNat < 128) (hy : y.toNat < 128) (hs : s.size < 4611686018427387904) (k : Nat) (hk : First2 s x y k) (w : World) :
    Calls Tryd.prog 40 #[.string s, .string ⟨#[x, y]⟩] w fun e w' => e = .returned (.int .i64 (k : Int)) ∧ Below w.heap.size w w' := by
  have hkl := hk.1
  have hemp : (⟨#[x, y]⟩ : ByteArray).toList.isEmpty = false := by rw [Lib.toList_data]; rfl
  have HF := Lib.hid hk
  have HX := Lib.hid hx
  have HY := Lib.hid hy
  clear hk hx hy
  by_cases h8 : 8 < s.size
  · have h8z : decide ((8 : Int) < (s.size : Int)) = true := decide_eq_true (by omega)
    obtain ⟨L, hL⟩ : ∃ L : Array Value, L = Lib.setCells [x, y] := ⟨_, rfl⟩
    have hLs : L.size = 256 := by rw [hL]; exact Lib.setCells_size _
    have hL1 : L.all (·.oneCell') = true := by rw [hL]; exact Lib.setCells_one _
    have HLC : Hid (∀ c : UInt8, L[c.toNat]? = some (.bool ([x, y].contains c))) := by
      show ∀ c : UInt8, _
      intro c; rw [hL]; exact Lib.setCells_at _ c
    have HM := Lib.hid (fun u => Tryd.strings_makeASCIISet (zero_of_info info_set).1 ⟨#[x, y]⟩ u (by show 2 < 4294967281; decide) (fun j b hb => by
      have hj : b = x ∨ b = y := by
        have := List.mem_of_getElem? hb
        simpa using this
      rcases hj with rfl | rfl
      · exact HX.out
      · exact HY.out))
    rw [show (⟨#[x, y]⟩ : ByteArray).data.toList = [x, y] from rfl, ← hL] at HM
    have hsc : (storeCells ⟨w.heap.size + 1, 0, none⟩ L.toList 0).run Tryd.prog ((w.alloc (.cells L 118)).alloc (.cells Tryd.zeroCells118 118)) = .ok () ((w.alloc (.cells L 118)).alloc (.cells L 118)) := by
      have := run_storeCells_new (P := Tryd.prog) (w.alloc (.cells L 118)) 118 Tryd.zeroCells118 L (by rw [hLs]; kernel_rfl) (by rw [hLs]; rfl) hL1
      simpa using this
    clear hL
    go_enter Tryd.func40, Tryd.ntmps40
    go_wp2_with (first
      | (go_at_call 58; refine (Tryd.strings_shouldUseASCIISet _ _).mono ?_; rintro e w' ⟨rfl, hw⟩; rw [hw, h8z])
      | (go_at_call 59; refine (HM.out _).mono ?_; rintro e w' ⟨rfl, hw⟩; rw [hw]))
    clear hsc
    obtain ⟨W, hW⟩ : ∃ W, W = (w.alloc (.cells L 118)).alloc (.cells L 118) := ⟨_, rfl⟩
    have HBW : Hid (Below w.heap.size w W) := by
      show Below _ _ _
      rw [hW]; exact ((Below.refl _ _).alloc (Nat.le_refl _) _).alloc (by simp) _
    have HCW : Hid (∀ c : UInt8, W.cell? ⟨w.heap.size + 1, c.toNat, none⟩ = some (.bool ([x, y].contains c))) := by
      show ∀ c : UInt8, _
      intro c
      rw [hW, World.cell?_alloc_at _ _ _ _ (by simp)]
      exact HLC.out c
    rw [← hW]
    clear hW
    go_loopg [8] s.size (fun g s8 wx => ∃ i : Nat, i ≤ k ∧ s.size ≤ i + g ∧ s8 = .int .i64 i ∧ wx = W)
    case atStart => exact ⟨0, Nat.zero_le _, by omega, rfl, rfl⟩
    case round =>
      obtain ⟨i, hik, hig, rfl, rfl⟩ := hrel
      have hi : i < s.size := by omega
      rcases Nat.lt_or_ge i k with hlt | hge
      · have hfree := HF.out.before hlt
        obtain ⟨c, hc⟩ : ∃ c, s[i] = c := ⟨_, rfl⟩
        rw [hc] at hfree
        have hcell := HCW.out c
        rw [show [x, y].contains c = false from by simp [hfree.1, hfree.2]] at hcell
        go_wp2_with (go_at_call 60; refine (Tryd.asciiSet_contains _ c _ _ hcell).mono ?_; rintro e w' ⟨rfl, hw⟩; rw [hw])
        go_roundg (gk - 1)
        case measure => omega
        case rel => exact ⟨i + 1, by omega, by omega, by go_num, rfl⟩
      · obtain rfl : i = k := by omega
        have hhit := HF.out.here
        obtain ⟨c, hc⟩ : ∃ c, s[i] = c := ⟨_, rfl⟩
        rw [hc] at hhit
        have hcell := HCW.out c
        rw [show [x, y].contains c = true from by rcases hhit with h | h <;> simp [h]] at hcell
        go_wp2_with (go_at_call 60; refine (Tryd.asciiSet_contains _ c _ _ hcell).mono ?_; rintro e w' ⟨rfl, hw⟩; rw [hw])
        go_ret
        exact ⟨rfl, HBW.out⟩
  · have h8z : decide ((8 : Int) < (s.size : Int)) = false := decide_eq_false (by omega)
    go_enter Tryd.func40, Tryd.ntmps40
    go_wp2_with (go_at_call 58; refine (Tryd.strings_shouldUseASCIISet _ _).mono ?_; rintro e w' ⟨rfl, hw⟩; rw [hw, h8z])
    go_loopg [9, 10] s.size (fun g _ _ wx => ∃ i : Nat, i ≤ k ∧ s.size ≤ i + g ∧ Below w.heap.size w wx ∧ wx.heap[w.heap.size]? = some (.stringIter s i))
    case atStart => exact ⟨0, Nat.zero_le _, by omega, (Below.refl _ _).alloc (Nat.le_refl _) _, World.iter_heap w s 0⟩
    case round =>
      obtain ⟨i, hik, hig, hb, hk⟩ := hrel
      have HB := Lib.hid hb
      clear hb
      have hi : i < s.size := by omega
      have hnx := fun ty => Lib.run_next_any_at (P := Tryd.prog) wr w.heap.size s i ty hk hi
      have hk2 := Lib.iterAt_heap wr w.heap.size s i (i + (Utf8.decode s i).2) hk
      have hb2 : Below w.heap.size w (wr.iterAt w.heap.size s (i + (Utf8.decode s i).2)) := Lib.below_iterAt HB.out (Nat.le_refl _) s _
      have hsz2 : w.heap.size < (wr.iterAt w.heap.size s (i + (Utf8.decode s i).2)).heap.size := (Array.getElem?_eq_some_iff.1 hk2).1
      have hw1 : 1 ≤ (Utf8.decode s i).2 := by
        rcases Nat.lt_or_ge (s[i].toNat) 128 with ha | ha
        · rw [decode_ascii s i hi ha]; exact Nat.le_refl 1
        · exact (decode_high s i hi ha).2
      rcases Nat.lt_or_ge i k with hlt | hge
      · have hfree := HF.out.before hlt
        have hskip : i + (Utf8.decode s i).2 ≤ k := decode_skip s hlt hkl (HF.out.ascii HX.out HY.out)
        have hrune : ∀ u : World, Calls Tryd.prog 57 #[.string ⟨#[x, y]⟩, .int .i32 ((Utf8.decode s i).1 : Int)] u fun e w' => e = .returned (.int .i64 (-1)) ∧ Below u.heap.size u w' := by
          intro u
          rcases Nat.lt_or_ge (s[i].toNat) 128 with ha | ha
          · rw [decode_ascii s i hi ha]
            refine (Tryd.strings_IndexRune_ascii _ _ u (by omega) (by omega)).mono ?_
            rintro e w' ⟨rfl, rfl⟩
            rw [show (((s[i].toNat : Nat) : Int)).toNat.toUInt8 = s[i] from by simp]
            exact ⟨congrArg (fun z => Ending.returned (.int .i64 z)) (free_index hfree), Below.refl _ _⟩
          · exact indexRune_none x y HX.out HY.out _ (decode_high s i hi ha).1 (decode_le s i) u
        have HR := Lib.hid hrune
        have HK2 := Lib.hid hk2
        have HB2 := Lib.hid hb2
        have HSZ := Lib.hid hsz2
        clear hrune hk2 hb2 hsz2 hfree hk HB HF hs
        generalize (Utf8.decode s i).1 = rr at *
        generalize (Utf8.decode s i).2 = wd at *
        obtain ⟨w2, hw2⟩ : ∃ w2, w2 = wr.iterAt w.heap.size s (i + wd) := ⟨_, rfl⟩
        rw [← hw2] at HK2 HB2 HSZ
        simp only [← hw2] at hnx
        clear hw2
        go_wp2_with (go_at_call 57; refine (HR.out _).mono ?_; rintro e w3 ⟨rfl, hb3⟩; have HB3 := Lib.hid hb3; clear hb3)
        go_roundg (gk - 1)
        case measure => omega
        case rel => exact ⟨i + wd, by omega, by omega, HB2.out.trans (HB3.out.mono (Nat.le_of_lt HSZ.out)), (HB3.out.block _ HSZ.out).trans HK2.out⟩
      · obtain rfl : i = k := by omega
        have ha := HF.out.ascii HX.out HY.out
        have hhit := HF.out.here
        have hrune : ∀ u : World, Calls Tryd.prog 57 #[.string ⟨#[x, y]⟩, .int .i32 ((Utf8.decode s i).1 : Int)] u fun e w' => (∃ z : Nat, e = .returned (.int .i64 z)) ∧ w' = u := by
          intro u
          rw [decode_ascii s i hi ha]
          refine (Tryd.strings_IndexRune_ascii _ _ u (by omega) (by omega)).mono ?_
          rintro e w' ⟨rfl, rfl⟩
          rw [show (((s[i].toNat : Nat) : Int)).toNat.toUInt8 = s[i] from by simp]
          obtain ⟨z, hz⟩ := hit_index hhit
          exact ⟨⟨z, congrArg (fun z => Ending.returned (.int .i64 z)) hz⟩, rfl⟩
        have HR := Lib.hid hrune
        have HB2 := Lib.hid hb2
        clear hrune hk2 hb2 hsz2 hhit hk HB HF hs ha
        generalize (Utf8.decode s i).1 = rr at *
        generalize (Utf8.decode s i).2 = wd at *
        obtain ⟨w2, hw2⟩ : ∃ w2, w2 = wr.iterAt w.heap.size s (i + wd) := ⟨_, rfl⟩
        rw [← hw2] at HB2
        simp only [← hw2] at hnx
        clear hw2
        go_wp2_with (go_at_call 57; refine (HR.out _).mono ?_; rintro e w3 ⟨⟨z, rfl⟩, rfl⟩)
        go_ret
        exact ⟨rfl, HB2.out⟩
end Go.Proofs.YtoiolepengcagaaDoor
