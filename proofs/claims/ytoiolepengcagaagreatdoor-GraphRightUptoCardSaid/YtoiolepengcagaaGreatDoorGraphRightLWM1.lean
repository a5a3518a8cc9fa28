/- Texts joined: FillP, KeysLay, MapK, RuleJW, FillQ, RuleLW. Conditions: theirs. -/
import Derived.Test.YtoiolepengcagaaGreatDoorInferOfW
import Derived.Test.YtoiolepengcagaaGreatDoorRuleJP
import Derived.Shelf.SlIter.Sorted
import Derived.Shelf.SlIter.Keys
import Derived.Test.YtoiolepengcagaaGreatDoorProg
import Derived.Test.YtoiolepengcagaaGreatDoorShelf
import Derived.Test.YtoiolepengcagaaGreatDoorPairs
import Derived.Test.YtoiolepengcagaaGreatDoorNLSetW
import Derived.Test.YtoiolepengcagaaGreatDoorRulePW
import Derived.Test.YtoiolepengcagaaGreatDoorBox2
import Derived.Deep.RegionHeld3
namespace Go.Proofs.YtoiolepengcagaaGreatDoor
/-- all targets and needs of joined rules -/
def askF (us : List Bs) (J : Bs → List ByteArray) : List ByteArray := us.flatMap fun u => txt u :: J u
/-- one name that is asked for -/
def fillS (l : List Inf) (said : List ByteArray) (st : List Bs × (Bs → List ByteArray)) (s : ByteArray) : List Bs × (Bs → List ByteArray) :=
  if 0 < (st.2 s.data.toList).length then st else match infOf l said (stA s) (stB s) with
    | none => st
    | some x => (s.data.toList :: st.1, upd st.2 s.data.toList [x])
theorem fillS_all (l : List Inf) (said : List ByteArray) : ∀ (L : List ByteArray) (st : List Bs × (Bs → List ByteArray)),
    (∀ t, (L.foldl (fillS l said) st).2 t = if 0 < (st.2 t).length ∨ t ∉ byt L then st.2 t else (infOf l said (stA (txt t)) (stB (txt t))).toList) ∧
    (∀ t, t ∈ (L.foldl (fillS l said) st).1 ↔ t ∈ st.1 ∨ (¬ 0 < (st.2 t).length ∧ t ∈ byt L ∧ (infOf l said (stA (txt t)) (stB (txt t))).isSome = true)) := by
  intro L
  induction L with
  | nil => intro st; exact ⟨fun t => by simp [byt], fun t => by simp [byt]⟩
  | cons s L ih =>
    intro st
    obtain ⟨i1, i2⟩ := ih (fillS l said st s)
    have hm : ∀ t, t ∈ byt (s :: L) ↔ t = s.data.toList ∨ t ∈ byt L := fun t => List.mem_cons
    have hs : ∀ t : Bs, t = s.data.toList → txt t = s := fun t h => by rw [h]; exact ba_inj (by rw [txt_list])
    rw [List.foldl_cons]
    by_cases h0 : 0 < (st.2 s.data.toList).length
    · have e : fillS l said st s = st := by unfold fillS; rw [if_pos h0]
      rw [e] at i1 i2 ⊢
      constructor
      · intro t
        rw [i1 t]
        simp only [hm]
        by_cases ht : t = s.data.toList
        · have hp : 0 < (st.2 t).length := by rw [ht]; exact h0
          rw [if_pos (.inl hp), if_pos (.inl hp)]
        · simp only [ht, false_or]
      · intro t
        rw [i2 t, hm]
        by_cases ht : t = s.data.toList
        · have hp : 0 < (st.2 t).length := by rw [ht]; exact h0
          simp only [hp, not_true_eq_false, false_and, or_false]
        · simp only [ht, false_or]
    · cases hi : infOf l said (stA s) (stB s) with
      | none =>
        have e : fillS l said st s = st := by unfold fillS; rw [if_neg h0, hi]
        rw [e] at i1 i2 ⊢
        have hn : st.2 s.data.toList = [] := List.length_eq_zero_iff.1 (by omega)
        constructor
        · intro t
          rw [i1 t]
          simp only [hm]
          by_cases ht : t = s.data.toList
          · rw [hs t ht, hi, ht, hn]
            simp
          · simp only [ht, false_or]
        · intro t
          rw [i2 t, hm]
          by_cases ht : t = s.data.toList
          · rw [hs t ht, hi]
            simp
          · simp only [ht, false_or]
      | some x =>
        have e : fillS l said st s = (s.data.toList :: st.1, upd st.2 s.data.toList [x]) := by unfold fillS; rw [if_neg h0, hi]
        rw [e] at i1 i2 ⊢
        constructor
        · intro t
          rw [i1 t]
          simp only [hm]
          by_cases ht : t = s.data.toList
          · rw [hs t ht, hi, ht]
            simp [upd_same, h0]
          · simp only [upd_other _ _ ht, ht, false_or]
        · intro t
          rw [i2 t, hm]
          by_cases ht : t = s.data.toList
          · rw [hs t ht, hi, ht]
            simp [upd_same, h0]
          · simp only [upd_other _ _ ht, List.mem_cons, ht, false_or]
/-- the needs of a name, in the end -/
def needF (l : List Inf) (said : List ByteArray) (us : List Bs) (J : Bs → List ByteArray) (t : Bs) : List ByteArray :=
  if 0 < (J t).length ∨ t ∉ byt (askF us J) then J t else (infOf l said (stA (txt t)) (stB (txt t))).toList
/-- a name has a rule in the end -/
def TargF (l : List Inf) (said : List ByteArray) (us : List Bs) (J : Bs → List ByteArray) (t : Bs) : Prop :=
  t ∈ us ∨ (¬ 0 < (J t).length ∧ t ∈ byt (askF us J) ∧ (infOf l said (stA (txt t)) (stB (txt t))).isSome = true)
/-- .. as the walk of the names that are asked for lays it -/
theorem fill_end (l : List Inf) (said : List ByteArray) (us : List Bs) (ks : List Bs) (J : Bs → List ByteArray) (hk : ∀ t, t ∈ ks ↔ t ∈ us) :
    ((askF us J).foldl (fillS l said) (ks, J)).2 = needF l said us J ∧ ∀ t, t ∈ ((askF us J).foldl (fillS l said) (ks, J)).1 ↔ TargF l said us J t := by
  obtain ⟨h1, h2⟩ := fillS_all l said (askF us J) (ks, J)
  refine ⟨funext fun t => ?_, fun t => ?_⟩
  · rw [h1 t]; rfl
  · rw [h2 t, hk t]; rfl
end Go.Proofs.YtoiolepengcagaaGreatDoor
namespace Go.Proofs
open Go.RowKit Go.Maps Go.Sort Go.Shelf
def Tryz.keysS_ren : Go.Shelf.Ren := ⟨fun | 6 => 88 | 8 => 124 | 9 => 125 | 11 => 150 | n => n, fun | 0 => 0 | 24 => 23 | 26 => 9 | 28 => 159 | 33 => 36 | n => n, fun | n => n⟩
theorem Tryz.keysS : Go.Proofs.SlLaysZ.n6 Tryz.prog Tryz.keysS_ren := {
  mixed := by kernel_rfl
  f6 := ⟨Tryz.f88.name, by kernel_rfl, Tryz.func88.trans (congrArg some (by kernel_rfl))⟩
  f8 := ⟨Tryz.f124.name, by kernel_rfl, Tryz.func124.trans (congrArg some (by kernel_rfl))⟩
  f11 := ⟨Tryz.f150.name, by kernel_rfl, Tryz.func150.trans (congrArg some (by kernel_rfl))⟩
  t0 := Tryz.underlying0
  a0 := Tryz.isAgg0
  z0 := Tryz.sizeOf0
  v0 := Tryz.zeroValue0
  t24 := Tryz.underlying23
  a24 := Tryz.isAgg23
  z24 := Tryz.sizeOf23
  v24 := Tryz.zeroValue23
  t26 := Tryz.underlying9
  a26 := Tryz.isAgg9
  z26 := Tryz.sizeOf9
  v26 := Tryz.zeroValue9
  t28 := Tryz.underlying159
  a28 := Tryz.isAgg159
  z28 := Tryz.sizeOf159
  v28 := Tryz.zeroValue159
  i26 := by kernel_rfl }
def Tryz.keysK_ren : Go.Shelf.Ren := ⟨fun | 7 => 89 | 10 => 126 | n => n, fun | 0 => 0 | 4 => 4 | 23 => 154 | 26 => 9 | 3 => 23 | 27 => 158 | 28 => 159 | 33 => 36 | n => n, fun | n => n⟩
theorem Tryz.keysK : Go.Proofs.SlLaysZ.n7 Tryz.prog Tryz.keysK_ren := {
  mixed := by kernel_rfl
  f7 := ⟨Tryz.f89.name, by kernel_rfl, Tryz.func89.trans (congrArg some (by kernel_rfl))⟩
  f10 := ⟨Tryz.f126.name, by kernel_rfl, Tryz.func126.trans (congrArg some (by kernel_rfl))⟩
  t0 := Tryz.underlying0
  a0 := Tryz.isAgg0
  z0 := Tryz.sizeOf0
  v0 := Tryz.zeroValue0
  t4 := Tryz.underlying4
  a4 := Tryz.isAgg4
  z4 := Tryz.sizeOf4
  v4 := Tryz.zeroValue4
  t23 := Tryz.underlying154
  a23 := Tryz.isAgg154
  z23 := Tryz.sizeOf154
  v23 := Tryz.zeroValue154
  t26 := Tryz.underlying9
  a26 := Tryz.isAgg9
  z26 := Tryz.sizeOf9
  v26 := Tryz.zeroValue9
  t27 := Tryz.underlying158
  a27 := Tryz.isAgg158
  z27 := Tryz.sizeOf158
  v27 := Tryz.zeroValue158
  t28 := Tryz.underlying159
  a28 := Tryz.isAgg159
  z28 := Tryz.sizeOf159
  v28 := Tryz.zeroValue159
  t33 := Tryz.underlying36
  a33 := Tryz.isAgg36
  z33 := Tryz.sizeOf36
  v33 := Tryz.zeroValue36 }
theorem Tryz.sortsK (m : Nat) : AnyZ.SortsIn Tryz.prog Tryz.keysS_ren Fence.wide m :=
  ⟨fun blk off cap ss W hH hblk hsz => callsIn_wide.2 (Tryz.slices_Sort_string blk off cap ss W hH hblk hsz),
   fun p cap W => callsIn_wide.2 (Tryz.slices_Sort_string_none p cap W)⟩
/-- maps.Keys at whatever map: a function value over one new block, which holds the map. -/
theorem Tryz.maps_Keys_k (mb : Option Nat) (W : World) : CallsIn Fence.wide 5 Tryz.prog 89 #[.map mb] W fun e w' => e = .returned (.func (.func 126) #[] #[.pointer (some ⟨W.heap.size, 0, none⟩)]) ∧ w' = W.alloc (.cells #[.map mb] 154) :=
  AnyZ.keys_in Tryz.keysK Fence.wide 5 trivial rfl mb W
set_option maxHeartbeats 1000000 in
/-- slices.Sorted at what maps.Keys handed back for a map that is not nil: a new slice of its keys, sorted; nothing that lay before has turned. -/
theorem Tryz.sorted_keys {H : Type} (b nn : Nat) (D0 : DataW H) (R : Value → Option (DataW H × List MemPlace)) (w : World) (hown : w.ownsMap Tryz.prog 9 R b nn D0) (hmax : Maps.size D0 ≤ maxLen) (hbytes : Maps.size D0 * 16 ≤ 140737488355328) :
    CallsIn Fence.wide 5 Tryz.prog 88 #[.func (.func 126) #[] #[.pointer (some ⟨w.heap.size, 0, none⟩)]] (w.alloc (.cells #[.map (some b)] 154)) fun e w' => ∃ (v : Value) (ss : List (List UInt8)), e = .returned v ∧ ss.Perm (strKeys D0) ∧
      w'.ownsRow (w.alloc (.cells #[.map (some b)] 154)).heap.size 9 1 v ss.length ((ss.mergeSort (fun x y => decide (x ≤ y))).map encStr) ∧ (v = .slice none 0 0 ↔ ss = []) ∧ Below (w.alloc (.cells #[.map (some b)] 154)).heap.size (w.alloc (.cells #[.map (some b)] 154)) w' := by
  have hbl := hown.lt
  have hseq : SeqGives Fence.wide 2 Tryz.prog 126 #[.pointer (some ⟨w.heap.size, 0, none⟩)] encStr (fun ss => ss.Perm (strKeys D0)) (Maps.size D0) (w.alloc (.cells #[.map (some b)] 154)) :=
    AnyZ.keys_gives (ρ := Tryz.keysK_ren) { Tryz.keysK with } Fence.wide _ trivial rfl (by omega) w.heap.size b nn D0 _ (by simp) (by simp) (by
      obtain ⟨es, clock, hb, Ft, hs, hD⟩ := hown
      exact ⟨es, clock, (Below.heap_alloc _ _ b hbl).trans hb, Ft, hs, hD⟩)
  exact AnyZ.sorted_in Tryz.keysS Fence.wide 5 trivial trivial trivial trivial rfl (by omega) (Tryz.sortsK _) (enters_of Tryz.func125 (by kernel_rfl) rfl) 126 #[.pointer (some ⟨w.heap.size, 0, none⟩)] trivial (enters_of Tryz.func126 (by kernel_rfl) rfl) _ _ hmax hbytes _ hseq
end Go.Proofs
namespace Go.Proofs.YtoiolepengcagaaGreatDoor
open Go.RowKit Go.Shelf Go.Maps Go.Sort
theorem strict_sorted {l : List Bs} (h : (l.mergeSort fun x y => decide (x ≤ y)).Pairwise (· ≤ ·)) (hn : l.Nodup) : (l.mergeSort fun x y => decide (x ≤ y)).Pairwise (· < ·) := by
  have h2 : (l.mergeSort fun x y => decide (x ≤ y)).Nodup := (List.mergeSort_perm l _).nodup_iff.2 hn
  refine (h.and h2).imp ?_
  rintro a b ⟨h1, h2⟩
  by_cases h3 : a < b
  · exact h3
  · exact absurd (List.le_antisymm h1 (List.not_lt.1 h3)) h2
theorem merge_le (bs : List Bs) : (bs.mergeSort fun x y => decide (x ≤ y)).Pairwise (· ≤ ·) := by
  have h := List.pairwise_mergeSort (le := fun x y : Bs => decide (x ≤ y)) (fun a b c h1 h2 => by
    simp only [decide_eq_true_eq] at *; exact List.le_trans h1 h2) (fun a b => by
    simp only [Bool.or_eq_true, decide_eq_true_eq]; exact List.le_total a b) bs
  exact h.imp fun h => by simpa using h
theorem MapH.keys {w : World} {B n : Nat} {ks : List Bs} {h : Bs → Value} (hm : MapH w B n ks h) : ∃ D : DataW Value, w.ownsMap Tryz.prog 9 rawE B n D ∧ Maps.size D ≤ n ∧ (strKeys D).Nodup ∧ ∀ t, t ∈ strKeys D ↔ t ∈ ks := by
  obtain ⟨D, h1, h2, h3⟩ := hm
  have hT := h1.tidy lawS
  have hK := h1.keysOf
  refine ⟨D, h1, ?_, ?_, ?_⟩
  · obtain ⟨es, clock, _, _, hs, rfl⟩ := h1
    show List.length _ ≤ _
    rw [length_sorted]
    simpa using hs
  · obtain ⟨es, rfl, hp⟩ := hT
    obtain ⟨es', he, hk⟩ := hK
    injection he with he
    subst he
    show (es.map fun p => strOf p.1).Nodup
    refine List.pairwise_map.2 (hp.imp_of_mem fun {p q} hp' hq' hne e => hne ?_)
    obtain ⟨ka, ha⟩ := hk p hp'
    obtain ⟨kb, hb⟩ := hk q hq'
    obtain ⟨a, _, ha, _⟩ := Maps.keyOf_str Tryz.underlying9 ha
    obtain ⟨b, _, hb, _⟩ := Maps.keyOf_str Tryz.underlying9 hb
    rw [ha, hb] at e ⊢
    exact congrArg _ e
  · intro t
    rw [← h3]
    obtain ⟨es', rfl, hk⟩ := hK
    rw [has_eq, List.any_eq_true]
    show t ∈ es'.map (fun p => strOf p.1) ↔ _
    rw [List.mem_map]
    constructor
    · rintro ⟨p, hp, rfl⟩
      obtain ⟨ka, ha⟩ := hk p hp
      obtain ⟨a, _, ha, _⟩ := Maps.keyOf_str Tryz.underlying9 ha
      refine ⟨p, hp, ?_⟩
      rw [ha]
      simp [Lit.sameKey, strOf]
    · rintro ⟨p, hp, e⟩
      refine ⟨p, hp, ?_⟩
      rw [WideAt.sameKey_eq e]
      rfl
theorem keys_ok (mb : Option Nat) (W : World) : Calls Tryz.prog 89 #[.map mb] W fun e w' => e = .returned (.func (.func 126) #[] #[.pointer (some ⟨W.heap.size, 0, none⟩)]) ∧ w' = W.alloc (.cells #[.map mb] 154) :=
  callsIn_wide.1 (Tryz.maps_Keys_k mb W)
theorem sortedKeys_ok {w : World} {B lo n : Nat} {ks : List Bs} {g : Bs → List ByteArray} (hG : Grp w B lo n ks g) (hn : n ≤ 8796093022208) :
    Calls Tryz.prog 88 #[.func (.func 126) #[] #[.pointer (some ⟨w.heap.size, 0, none⟩)]] (w.alloc (.cells #[.map (some B)] 154)) fun e w' => ∃ (q : Option Addr) (c : Nat) (us : List Bs), e = .returned (.slice q us.length c) ∧ us.Pairwise (· < ·) ∧ (∀ t, t ∈ us ↔ t ∈ ks) ∧ us.length ≤ n ∧
      w'.ownsRow (w.heap.size + 1) 9 1 (.slice q us.length c) us.length (us.map encStr) ∧ Below (w.heap.size + 1) (w.alloc (.cells #[.map (some B)] 154)) w' := by
  obtain ⟨h, hM, _⟩ := hG
  obtain ⟨D, h1, h2, h3, h4⟩ := hM.keys
  have hs : (w.alloc (.cells #[.map (some B)] 154)).heap.size = w.heap.size + 1 := by simp
  refine (callsIn_wide.1 (Tryz.sorted_keys B n D rawE w h1 (by unfold maxLen; omega) (by omega))).mono ?_
  rintro e w' ⟨v, ss, rfl, hp, hown, _, hb⟩
  have hln : ss.length = (ss.mergeSort fun x y => decide (x ≤ y)).length := (List.length_mergeSort ss).symm
  have hsz : ss.length ≤ n := by
    have : (strKeys D).length = Maps.size D := by cases D <;> simp [strKeys, Maps.size]
    rw [hp.length_eq, this]; exact h2
  rw [hs] at hown hb
  obtain ⟨q, c, rfl⟩ : ∃ q c, v = .slice q ss.length c := by
    rcases hown.2 with ⟨rfl, h0⟩ | ⟨g', cap, _, rfl, _⟩
    · exact ⟨none, 0, by rw [h0]⟩
    · exact ⟨_, _, rfl⟩
  refine ⟨q, c, ss.mergeSort fun x y => decide (x ≤ y), by rw [← hln], strict_sorted (merge_le ss) (hp.nodup_iff.2 h3), fun t => ?_, by omega, by rw [← hln]; exact hown, hb⟩
  rw [(List.mergeSort_perm ss _).mem_iff, hp.mem_iff, h4]
end Go.Proofs.YtoiolepengcagaaGreatDoor
namespace Go.Proofs.YtoiolepengcagaaGreatDoor
open Go.RowKit Go.Shelf Go.Maps
/-- a slice of strings that is handed in or made -/
structure Hd where
  p : Option Addr
  n : Nat
  c : Nat
  zs : List ByteArray
def Hd.v (x : Hd) : Value := .slice x.p x.n x.c
def Hd.ok (w : World) (x : Hd) : Prop := NLw w x.p x.n x.c x.zs ∧ x.n ≤ x.c
theorem Hd.ok.below {w w' : World} {x : Hd} (h : x.ok w) (hb : Below w.heap.size w w') : x.ok w' := ⟨h.1.below hb, h.2⟩
def rF (x : Hd × Hd) : Value := x.1.v
def rG (x : Hd × Hd) : Value := x.2.v
def rl (x : Hd × Hd) : Rl := (x.1.zs, x.2.zs)
structure RulesIn (w : World) (p : Option Addr) (n c : Nat) (l : List (Hd × Hd)) : Prop where
  at_ : P2At rF rG w p n c l
  ok : ∀ x ∈ l, x.1.ok w ∧ x.2.ok w
  cap : n ≤ c
theorem RulesIn.below {w w' : World} {p : Option Addr} {n c : Nat} {l : List (Hd × Hd)} (h : RulesIn w p n c l) (hb : Below w.heap.size w w') : RulesIn w' p n c l :=
  ⟨h.at_.below hb, fun x hx => ⟨(h.ok x hx).1.below hb, (h.ok x hx).2.below hb⟩, h.cap⟩
theorem rb1 (w : World) (o : Obj) : Below w.heap.size w (w.alloc o) := (Below.refl _ _).alloc (Nat.le_refl _) _
theorem nlr_cell {w : World} {n c b o : Nat} {zs : List ByteArray} (h : NLw w (some ⟨b, o, none⟩) n c zs) {j : Nat} {x : ByteArray} (hj : zs[j]? = some x) : w.cell? ⟨b, o + j, none⟩ = some (.string x) := by
  have hl := h.at_.len
  have hlt := (List.getElem?_eq_some_iff.1 hj).1
  obtain ⟨ad, e, _, hc⟩ := str_at h.at_.reads (show j < n by omega)
  injection e with e
  subst e
  rw [Addr.add_lit, List.getD_eq_getElem?_getD, hj] at hc
  exact hc
/-- slices.Contains at what the call owns -/
theorem own_contains {w : World} {lo : Nat} {v : Value} {zs : List ByteArray} (h : w.ownsRow lo 9 1 v zs.length (strsV zs)) (hn : zs.length ≤ 9223372036854775807) (x : ByteArray) :
    Calls Tryz.prog 78 #[v, .string x] w fun e w' => e = .returned (.bool (Lib.containsS zs x)) ∧ w' = w := by
  rcases h.2 with ⟨rfl, h0⟩ | ⟨g, cap, cur, rfl, _, _, _, _, _, _⟩
  · have : zs = [] := List.length_eq_zero_iff.1 h0
    subst this
    exact Tryz.slices_Contains_string_empty none 0 x w
  · have hc := h.cells (g := g) rfl
    have := Tryz.slices_Contains_string g 0 zs.length cap zs x w (Nat.le_refl _) hn (fun j hj => by
      have h1 := hc j (.string (zs.getD j ByteArray.empty)) (by unfold strsV; rw [List.getElem?_map, List.getElem?_eq_getElem hj, List.getD_eq_getElem?_getD, List.getElem?_eq_getElem hj]; rfl)
      rw [Addr.add_lit] at h1
      exact h1)
    rw [List.take_length] at this
    exact this
theorem own_ne {w : World} {lo n b : Nat} {v : Value} {xs : List Value} {cs : Array Value} {T : TypeId} {fr : Nat × Nat} (h : w.ownsRow lo 9 1 v n xs) (hb : w.heap[b]? = some (.cells cs T fr)) (hT : T ≠ 9) : v.ownBlock ≠ some b := by
  rcases h.2 with ⟨rfl, _⟩ | ⟨g, cap, cur, rfl, _, hg, _⟩
  · simp [Value.ownBlock]
  · intro e
    simp only [Value.ownBlock, Option.some.injEq] at e
    subst e
    rw [hg] at hb
    simp only [Option.some.injEq, Obj.cells.injEq] at hb
    exact hT hb.2.1.symm
theorem info_ruleJ : (Tryz.prog.info? 61).map (fun i => (i.zero, i.size, i.bytes)) = some (some (.agg #[.slice none 0 0, .slice none 0 0]), 2, 48) := by kernel_rfl
theorem grown_below {w w' : World} (hb : Below w.heap.size w w') : w.grownBy w' none := ⟨hb.os, hb.tape, hb.output, hb.size, fun k hk _ => hb.block k hk⟩
def hdOf (v : Value) (zs : List ByteArray) : Hd := match v with | .slice p n c => ⟨p, n, c, zs⟩ | _ => ⟨none, 0, 0, zs⟩
theorem hdOf_v {w : World} {lo n : Nat} {v : Value} {xs : List Value} (h : w.ownsRow lo 9 1 v n xs) (zs : List ByteArray) : ∃ p c, v = .slice p n c ∧ hdOf v zs = ⟨p, n, c, zs⟩ := by
  rcases h.2 with ⟨rfl, rfl⟩ | ⟨g, cap, cur, rfl, _⟩
  · exact ⟨none, 0, rfl, rfl⟩
  · exact ⟨_, cap, rfl, rfl⟩
theorem own_kept_other {W W' : World} {lo lo2 n m : Nat} {v v2 : Value} {xs ys : List Value} (h : W.ownsRow lo 9 1 v n xs) (h2 : W.ownsRow lo2 61 2 v2 m ys) (hg : W.grownBy W' v2.ownBlock) : W'.ownsRow lo 9 1 v n xs := by
  refine h.kept hg ?_
  cases hq : v.ownBlock with
  | none => exact .inl rfl
  | some k =>
    refine .inr (fun e => ?_)
    rcases h2.2 with ⟨rfl, _⟩ | ⟨b, cap, cur, rfl, _, hb, _⟩
    · cases e
    · have : k = b := by simpa [Value.ownBlock] using e
      subst this
      exact own_ne h hb (by decide) hq
theorem cells2_app (a b : List (Hd × Hd)) : cells2 rF rG (a ++ b) = cells2 rF rG a ++ cells2 rF rG b := List.flatMap_append
theorem ruleRow_sl {w : World} {lo n : Nat} {v : Value} {xs : List Value} (h : w.ownsRow lo 61 2 v n xs) : ∃ p c, v = .slice p n c := by
  rcases h.2 with ⟨rfl, rfl⟩ | ⟨g, cap, cur, rfl, _⟩
  · exact ⟨none, 0, rfl⟩
  · exact ⟨_, cap, rfl⟩
/-- what Join answers -/
def Targ (l : List Rl) (t : Bs) : Prop := ∃ r ∈ l, t ∈ r.1.map (·.data.toList)
open Classical in
noncomputable def joinRE (l : List Rl) : Int := if 100 < l.length then 2 else if rulesE l ≠ 0 then rulesE l else
  if (∃ t, 64 < (grpR l (fun _ => []) t).length) ∨ (∃ us : List Bs, us.Pairwise (· < ·) ∧ (∀ t, t ∈ us ↔ Targ l t) ∧ 64 < us.length) then 2 else 0
def JoinRPost (w : World) (l : List Rl) (e : Ending) (w' : World) : Prop :=
  ∃ v E, e = .returned (.tuple #[v, .int .i64 E]) ∧ E = joinRE l ∧ (E ≠ 0 → v = nilS) ∧ Below w.heap.size w w' ∧
    (E = 0 → ∃ (p : Option Addr) (c lo lo2 : Nat) (us : List Bs) (h : Bs → Value) (rs : List (Hd × Hd)), v = .slice p us.length c ∧ us.Pairwise (· < ·) ∧ (∀ t, t ∈ us ↔ Targ l t) ∧ us.length ≤ 64 ∧ w.heap.size ≤ lo ∧ lo ≤ lo2 ∧
      w'.ownsRow lo2 61 2 v us.length (cells2 rF rG rs) ∧ rs.map (fun x => (x.1.zs, x.2)) = us.map (fun u => ([txt u], hdOf (h u) (grpR l (fun _ => []) u))) ∧
      (∀ x ∈ rs, w'.ownsRow lo2 9 1 x.1.v x.1.zs.length (strsV x.1.zs)) ∧ (rs.Pairwise fun x y => ∀ k, x.1.v.ownBlock = some k → y.1.v.ownBlock ≠ some k) ∧
      (∀ s, w'.ownsRow lo 9 1 (h s) (grpR l (fun _ => []) s).length (strsV (grpR l (fun _ => []) s))) ∧ (∀ s s', s ≠ s' → ∀ k, (h s).ownBlock = some k → (h s').ownBlock ≠ some k) ∧ (∀ s k, (h s).ownBlock = some k → k < lo2))
theorem strict_nodup {l : List Bs} (h : l.Pairwise (· < ·)) : l.Nodup := h.imp fun {a b} h1 e => by subst e; exact List.lt_irrefl a h1
theorem strict_len {l m : List Bs} (hl : l.Pairwise (· < ·)) (hm : m.Pairwise (· < ·)) (h : ∀ x, x ∈ l ↔ x ∈ m) : l.length = m.length :=
  ((List.perm_ext_iff_of_nodup (strict_nodup hl) (strict_nodup hm)).2 h).length_eq
theorem joinRE_ok {l : List Rl} {us : List Bs} (h1 : ¬ 100 < l.length) (h2 : rulesE l = 0) (h3 : us.Pairwise (· < ·)) (h4 : ∀ t, t ∈ us ↔ Targ l t) (h5 : us.length ≤ 64) (h6 : ∀ u ∈ us, (grpR l (fun _ => []) u).length ≤ 64) : joinRE l = 0 := by
  unfold joinRE
  rw [if_neg h1, if_neg (by rw [h2]; decide), if_neg]
  rintro (⟨t, ht⟩ | ⟨vs, k1, k2, k3⟩)
  · have hne : grpR l (fun _ => []) t ≠ [] := fun e => by rw [e] at ht; simp at ht
    obtain ⟨x, hx⟩ := List.exists_mem_of_ne_nil _ hne
    have := h6 t ((h4 t).2 (((grpR_mem l _ t).1 hx).resolve_left (by simp) |>.imp fun r hr => ⟨hr.1, hr.2.1⟩))
    omega
  · have := strict_len h3 k1 (fun t => (h4 t).trans (k2 t).symm)
    omega
set_option maxHeartbeats 8000000 in
set_option maxRecDepth 100000 in
theorem JoinR_ok (p : Option Addr) (n c : Nat) (l : List (Hd × Hd)) (w : World) (hR : RulesIn w p n c l) :
    Calls Tryz.prog 83 #[.slice p n c] w (JoinRPost w (l.map rl)) := by
  have hl := hR.at_.len
  have hbig := hR.at_.big
  have hcap := hR.cap
  subst hl
  obtain ⟨i0, hi, hz0, hz1, hz2⟩ := info_parts info_strM
  obtain ⟨i1, hi1, hy0, hy1, hy2⟩ := info_parts info_ruleJ
  have HN := Lib.hid (fun u (hu : Below w.heap.size w u) => hR.below hu)
  clear hR
  by_cases h100 : 100 < l.length
  · have HE2 : Hid (joinRE (l.map rl) = 2) := by
      show _ = _
      unfold joinRE
      rw [List.length_map, if_pos h100]
    go_enter Tryz.func83, Tryz.ntmps83
    go_wp2
    go_ret2
    exact ⟨nilS, 2, rfl, HE2.out.symm, fun _ => rfl, Below.refl _ _, fun h => absurd h (by decide)⟩
  · go_enter Tryz.func83, Tryz.ntmps83
    go_wp2
    go_loopw [23] (fun i wr => ∃ k : Nat, k ≤ l.length ∧ i = .int .i64 k ∧ Hid (Below w.heap.size w wr) ∧ Hid (rulesE ((l.map rl).take k) = 0)) (fun i _ => l.length - (intOf i).toNat)
    case atStart => exact ⟨0, Nat.zero_le _, rfl, Below.refl _ _, rfl⟩
    case round =>
      obtain ⟨k, hk, rfl, HW, HE⟩ := hrel
      by_cases hlt : k < l.length
      · have hel := List.getElem?_eq_getElem hlt
        obtain ⟨b, o, rfl, hb, c1, c2⟩ := (HN.out _ HW.out).at_.cell hel
        have hmm : l[k] ∈ l := List.getElem_mem hlt
        have hok := (HN.out _ HW.out).ok _ hmm
        have HT := Lib.hid (rulesE_take (l.map rl) k (rl l[k]) HE.out (by rw [List.getElem?_map, hel]; rfl))
        rw [← Nat.add_assoc] at c2
        clear hel hmm
        generalize l[k] = y at *
        obtain ⟨⟨p1, n1, cc1, T⟩, ⟨p2, n2, cc2, N⟩⟩ := y
        simp only [rF, rG, Hd.v, rl] at c1 c2 HT
        obtain ⟨⟨k1, k2⟩, ⟨k3, k4⟩⟩ := hok
        simp only at k1 k2 k3 k4
        have hk1 : (k : Int) < (l.length : Int) := by omega
        have HC := Lib.hid (CheckR_ok p1 p2 n1 cc1 n2 cc2 T N _ (k1.below (rb1 wr (.cells #[.slice p1 n1 cc1, .slice p2 n2 cc2] 61))) (k3.below (rb1 wr _)) k2 k4)
        have HB0 : Hid (∀ u, Below (wr.alloc (.cells #[.slice p1 n1 cc1, .slice p2 n2 cc2] 61)).heap.size (wr.alloc (.cells #[.slice p1 n1 cc1, .slice p2 n2 cc2] 61)) u → Below w.heap.size w u) := fun u hu => HW.out.trans (((rb1 wr _).trans (hu.mono (rb1 wr _).size)).mono HW.out.size)
        clear k1 k2 k3 k4
        by_cases hE : ruleE T N = 0
        · rw [hE] at HT HC
          go_wp2_with (go_at_call 77; refine HC.out.mono ?_; rintro e w1 ⟨rfl, hb1⟩; have HB1 := Lib.hid hb1; clear hb1)
          go_roundw
          case rel => exact ⟨k + 1, by omega, by go_num, HB0.out _ HB1.out, HT.out⟩
          case measure => simp [intOf]; omega
        · obtain ⟨e1, e2⟩ := int_ne' hE
          have HE2 : Hid (joinRE (l.map rl) = ruleE T N) := by
            show _ = _
            have h1 : rulesE (l.map rl) = ruleE T N := by
              have := rulesE_more ((l.map rl).take (k + 1)) ((l.map rl).drop (k + 1)) (by rw [HT.out]; exact hE)
              rw [List.take_append_drop, HT.out] at this
              exact this
            unfold joinRE
            rw [List.length_map, if_neg h100, if_pos (by rw [h1]; exact hE), h1]
          generalize ruleE T N = E at *
          go_wp2_with (go_at_call 77; refine HC.out.mono ?_; rintro e w1 ⟨rfl, hb1⟩; have HB1 := Lib.hid hb1; clear hb1)
          go_ret2
          exact ⟨nilS, E, rfl, HE2.out.symm, fun _ => rfl, HB0.out _ HB1.out, fun h => absurd h hE⟩
      · obtain rfl : k = l.length := by omega
        clear hlt hk
        have HGM := Lib.hid (Grp.made wr)
        have HW1 : Hid (Below w.heap.size w (wr.alloc (.map #[] 0))) := HW.out.trans ((rb1 wr _).mono HW.out.size)
        have hmk := @run_makeMap Tryz.prog
        have HF := Lib.hid (fun x (hx : x ∈ l) => ruleE_few (rulesE_all (by have := HE.out; rwa [List.take_of_length_le (by simp)] at this) (rl x) (List.mem_map_of_mem hx)))
        have HE0 : Hid (rulesE (l.map rl) = 0) := by have := HE.out; rwa [List.take_of_length_le (by simp)] at this
        clear HE
        generalize wr = wa at *
        have hwa := HW.out.size
        go_wp2
        go_loopw [36] (fun i wr => ∃ (k n : Nat) (ks : List Bs), k ≤ l.length ∧ n ≤ 20 * k ∧ i = .int .i64 k ∧ Hid (Below w.heap.size w wr) ∧ wa.heap.size + 1 ≤ wr.heap.size ∧
          Hid (Grp wr wa.heap.size (wa.heap.size + 1) n ks (grpR ((l.map rl).take k) (fun _ => []))) ∧ Hid (∀ t, t ∈ ks ↔ ∃ r ∈ (l.map rl).take k, t ∈ r.1.map (·.data.toList))) (fun i _ => l.length - (intOf i).toNat)
        case atStart => exact ⟨0, 0, [], Nat.zero_le _, Nat.le_refl _, rfl, HW1.out, by simp, HGM.out, fun t => by simp⟩
        case round =>
          obtain ⟨k, n, ks, hk, hn, rfl, HWk, hsz, HG, HK⟩ := hrel
          by_cases hlt : k < l.length
          · have hel := List.getElem?_eq_getElem hlt
            obtain ⟨b, o, rfl, hb, c1, c2⟩ := (HN.out _ HWk.out).at_.cell hel
            have hmm : l[k] ∈ l := List.getElem_mem hlt
            have hok := (HN.out _ HWk.out).ok _ hmm
            have HGT : Hid (grpR ((l.map rl).take (k + 1)) (fun _ => []) = grpT (grpR ((l.map rl).take k) (fun _ => [])) (rl l[k]).1 (rl l[k]).2) := grpR_take _ (by rw [List.getElem?_map, hel]; rfl)
            have HKT : Hid ((l.map rl).take (k + 1) = (l.map rl).take k ++ [rl l[k]]) := by
              show _ = _
              rw [List.take_add_one, List.getElem?_map, hel]; rfl
            have HNT := Lib.hid (fun u (hu : Below w.heap.size w u) => ((HN.out u hu).ok _ hmm).1.1)
            have HNN := Lib.hid (fun u (hu : Below w.heap.size w u) => ((HN.out u hu).ok _ hmm).2.1)
            obtain ⟨f1, f2⟩ := HF.out _ hmm
            have HGL : Hid (∀ t, (grpR ((l.map rl).take k) (fun _ => []) t).length ≤ 40000) := by
              show ∀ t, _
              intro t
              have := grpR_len ((l.map rl).take k) (fun _ => []) t (fun r hr => by
                obtain ⟨y, hy, rfl⟩ := List.mem_map.1 (List.mem_of_mem_take hr)
                exact HF.out y hy)
              rw [List.length_take, List.length_map] at this
              simp only [List.length_nil] at this
              omega
            rw [← Nat.add_assoc] at c2
            clear hel hmm
            generalize grpR ((l.map rl).take k) (fun _ => []) = g at *
            generalize l[k] = y at *
            obtain ⟨⟨p1, n1, cc1, T⟩, ⟨p2, n2, cc2, N⟩⟩ := y
            simp only [rF, rG, Hd.v, rl] at c1 c2 HGT HKT f1 f2 HNT HNN
            obtain ⟨⟨k1, k2⟩, ⟨k3, k4⟩⟩ := hok
            simp only at k1 k2 k3 k4
            have hk1 : (k : Int) < (l.length : Int) := by omega
            have l1 := k1.at_.len
            have l2 := k3.at_.len
            subst l1 l2
            obtain ⟨W0, hW0⟩ : ∃ W0, W0 = wr.alloc (.cells #[.slice p1 T.length cc1, .slice p2 N.length cc2] 61) := ⟨_, rfl⟩
            have hx9 : W0.heap[wr.heap.size]? = some (.cells #[.slice p1 T.length cc1, .slice p2 N.length cc2] 61 (0, 0)) := by rw [hW0]; exact heap_alloc_new _ _
            have cx1 : W0.cell? ⟨wr.heap.size, 0, none⟩ = some (.slice p1 T.length cc1) := by rw [hW0]; simp
            have hb0 : Below wr.heap.size wr W0 := by rw [hW0]; exact rb1 wr _
            have HG0 : Hid (Grp W0 wa.heap.size (wa.heap.size + 1) n ks g) := by
              rw [hW0]
              exact HG.out.kept (World.grownBy_alloc _ _ _)
            have HX0 := Lib.hid hx9
            have HWW0 : Hid (Below w.heap.size w W0) := HWk.out.trans (hb0.mono HWk.out.size)
            have hs0 : wa.heap.size + 1 ≤ W0.heap.size := Nat.le_trans hsz hb0.size
            clear k1 k3 hx9 hb0
            go_upto_region 14 with fail
            rw [← hW0]
            clear hW0 c1 c2 hb
            generalize wr.heap.size = b9 at *
            go_wp2
            go_loopw [43] (fun i w3 => ∃ (j m : Nat) (ks' : List Bs), j ≤ T.length ∧ m ≤ n + j ∧ i = .int .i64 j ∧ Hid (Below w.heap.size w w3) ∧ wa.heap.size + 1 ≤ w3.heap.size ∧ Hid (w3.heap[b9]? = some (.cells #[.slice p1 T.length cc1, .slice p2 N.length cc2] 61 (0, 0))) ∧
              Hid (Grp w3 wa.heap.size (wa.heap.size + 1) m ks' (grpT g (T.take j) N)) ∧ Hid (∀ t, t ∈ ks' ↔ t ∈ ks ∨ t ∈ (T.take j).map (·.data.toList))) (fun i _ => T.length - (intOf i).toNat)
            case atStart => exact ⟨0, n, ks, Nat.zero_le _, Nat.le_refl _, rfl, HWW0.out, hs0, HX0.out, HG0.out, fun t => by simp⟩
            case round =>
              clear HG0 HX0 HWW0 cx1
              obtain ⟨j, m, ks', hj, hm, rfl, HW3, hs3, HX3, HG3, HK3⟩ := hrel
              by_cases hjt : j < T.length
              · have hel := List.getElem?_eq_getElem hjt
                have hnl := HNT.out _ HW3.out
                obtain ⟨ad, rfl, _⟩ := hnl.at_.reads.2 (by omega)
                obtain ⟨b1, o1, rfl, hb1⟩ := hnl.plain (by omega) _ rfl
                have hcx := nlr_cell hnl hel
                have hxs := hnl.at_.size _ (List.getElem_mem hjt)
                have HGX : Hid (grpT g (T.take (j + 1)) N = upd (grpT g (T.take j) N) T[j].data.toList (addAll (grpT g (T.take j) N T[j].data.toList) N)) := grpT_take g hel
                have HKX : Hid (T.take (j + 1) = T.take j ++ [T[j]]) := by
                  show _ = _
                  rw [List.take_add_one, hel]; rfl
                clear hel hnl
                generalize T[j] = x at *
                have hxm : x.size ≤ maxLen := by unfold maxLen; omega
                have hj1 : (j : Int) < (T.length : Int) := by omega
                obtain ⟨hd, hMH, hGX⟩ := HG3.out.look x.data.toList
                have HMH := Lib.hid hMH
                have HGX0 := Lib.hid hGX
                have cy2 : wr.cell? ⟨b9, 1, none⟩ = some (.slice p2 N.length cc2) := by have := HX3.out; simp [World.cell?, this]
                clear hMH hGX
                go_wp2_with (at_lookup; refine look_h _ rfl _ _ rfl rfl HMH.out x rfl hxm ?_)
                have hzl : (grpT g (T.take j) N x.data.toList).length ≤ 40400 := by
                  have h1 := grpT_len (N := N) (T.take j) g x.data.toList
                  have h2 := HGL.out x.data.toList
                  have h3 : (T.take j).length * N.length ≤ 20 * 20 := Nat.mul_le_mul (by rw [List.length_take]; omega) f2
                  omega
                generalize grpT g (T.take j) N = g' at *
                go_loopw [53, 12] (fun i v w4 => ∃ q : Nat, q ≤ N.length ∧ i = .int .i64 q ∧ Hid (Below w.heap.size w w4) ∧ wa.heap.size + 1 ≤ w4.heap.size ∧ Hid (w4.heap[b9]? = some (.cells #[.slice (some ⟨b1, o1, none⟩) T.length cc1, .slice p2 N.length cc2] 61 (0, 0))) ∧
                  Hid (GrpX w4 wa.heap.size (wa.heap.size + 1) m ks' g' x.data.toList v (addAll (g' x.data.toList) (N.take q)))) (fun i _ _ => N.length - (intOf i).toNat)
                case atStart => exact ⟨0, Nat.zero_le _, rfl, HW3.out, hs3, HX3.out, HGX0.out⟩
                case round =>
                  clear HGX0 HMH cy2 hcx
                  obtain ⟨q, hq, rfl, HW4, hs4, HX4, HG4⟩ := hrel
                  by_cases hqt : q < N.length
                  · have hel := List.getElem?_eq_getElem hqt
                    have hnl := HNN.out _ HW4.out
                    obtain ⟨ad, rfl, _⟩ := hnl.at_.reads.2 (by omega)
                    obtain ⟨b2, o2, rfl, hb2⟩ := hnl.plain (by omega) _ rfl
                    have hcx := nlr_cell hnl hel
                    have HAD : Hid (addAll (g' x.data.toList) (N.take (q + 1)) = addN (addAll (g' x.data.toList) (N.take q)) N[q]) := addAll_take _ hel
                    have hzq := addAll_len (N.take q) (g' x.data.toList)
                    rw [List.length_take] at hzq
                    clear hel hnl
                    generalize addAll (g' x.data.toList) (N.take q) = zs at *
                    generalize N[q] = y at *
                    have hq1 : (q : Int) < (N.length : Int) := by omega
                    have HCT := Lib.hid (own_contains HG4.out.own (by omega) y)
                    cases hc : Lib.containsS zs y
                    · have HAE : Hid (addAll (g' x.data.toList) (N.take (q + 1)) = zs ++ [y]) := by
                        show _ = _
                        rw [HAD.out]; unfold addN; rw [if_neg (by rw [hc]; decide)]
                      rw [hc] at HCT
                      have hb0 : Below wr.heap.size wr (wr.alloc (.cells #[.string y] 9)) := rb1 wr _
                      have HGA := Lib.hid (HG4.out.kept (World.grownBy_alloc wr (.cells #[.string y] 9) none))
                      have HXA : Hid ((wr.alloc (.cells #[.string y] 9)).heap[b9]? = some (.cells #[.slice (some ⟨b1, o1, none⟩) T.length cc1, .slice (some ⟨b2, o2, none⟩) N.length cc2] 61 (0, 0))) := by
                        show _ = _
                        rw [hb0.block _ (Array.getElem?_eq_some_iff.1 HX4.out).1]; exact HX4.out
                      have HWA : Hid (Below w.heap.size w (wr.alloc (.cells #[.string y] 9))) := HW4.out.trans (hb0.mono HW4.out.size)
                      have HCE : Hid (∀ (j : Nat) u, [Value.string y][j]? = some u → (wr.alloc (.cells #[.string y] 9)).cell? ((⟨wr.heap.size, 0, none⟩ : Addr).add j) = some u) := by
                        show ∀ (j : Nat) u, _
                        intro j u hu
                        match j, hu with
                        | 0, hu =>
                          simp at hu
                          subst hu
                          rw [Addr.add_lit]; simp
                      have HOC : Hid (∀ u ∈ [Value.string y], u.oneCell' = true) := by
                        show ∀ u ∈ _, _
                        intro u hu
                        rw [List.mem_singleton.1 hu]; rfl
                      have hsa : wa.heap.size + 1 ≤ (wr.alloc (.cells #[.string y] 9)).heap.size := Nat.le_trans hs4 hb0.size
                      have HLZ : Hid (zs.length + 1 ≤ maxLen ∧ (zs.length + 1) * 16 ≤ 140737488355328) := ⟨by unfold maxLen; omega, by omega⟩
                      clear hb0
                      go_wp2_with (first
                        | (go_at_call 78; refine HCT.out.mono ?_; rintro e w5 ⟨rfl, hw5⟩; rw [hw5]; clear hw5)
                        | (at_builtin; refine wpList_append_own_at _ rfl _ _ 23 rfl (wa.heap.size + 1) 9 i0 (.string ⟨#[]⟩) 1 16 Tryz.underlying23 hi hz0 hz1 hz2 rfl (by decide) u12 zs.length (strsV zs) rfl HGA.out.own ⟨wr.heap.size, 0, none⟩ 1 1 [.string y] rfl rfl HCE.out HOC.out HLZ.out.1 HLZ.out.2 hsa ?_; intro v' w6 h1 h2 _ h4; have HO6 := Lib.hid h1; have HG6 := Lib.hid h2; have HL6 := Lib.hid h4; clear h1 h2 h4))
                      go_roundw
                      case rel =>
                        refine ⟨q + 1, by omega, by go_num, HWA.out.grown HG6.out HWA.out.size (fun k1 e => by have := (HGA.out.own.lt k1 e).1; omega), Nat.le_trans hsa HG6.out.size, ?_, ?_⟩
                        · show _ = _
                          rw [HG6.out.block b9 (Array.getElem?_eq_some_iff.1 HXA.out).1 (fun e => own_ne HGA.out.own HXA.out (by decide) e.symm)]
                          exact HXA.out
                        · rw [HAE.out]
                          exact HGA.out.appended (by rw [List.length_append, strsV_app]; exact HO6.out) HG6.out HL6.out
                      case measure => simp [intOf]; omega
                    · have HAE : Hid (addAll (g' x.data.toList) (N.take (q + 1)) = zs) := by
                        show _ = _
                        rw [HAD.out]; unfold addN; rw [if_pos hc]
                      rw [hc] at HCT
                      go_wp2_with (go_at_call 78; refine HCT.out.mono ?_; rintro e w5 ⟨rfl, hw5⟩; rw [hw5]; clear hw5)
                      go_roundw
                      case rel => exact ⟨q + 1, by omega, by go_num, HW4.out, hs4, HX4.out, by rw [HAE.out]; exact HG4.out⟩
                      case measure => simp [intOf]; omega
                  · obtain rfl : q = N.length := by omega
                    have hne : b9 ≠ wa.heap.size := by omega
                    have hmm : m < maxLen := by unfold maxLen; omega
                    rw [List.take_length] at HG4
                    go_wp2_with (at_mapUpdate; refine store_g _ rfl _ _ _ rfl x rfl HG4.out hmm rfl hxm rfl ?_; intro w5 h1 h2; have HG5 := Lib.hid h1; have HGR := Lib.hid h2; clear h1 h2)
                    go_roundw
                    case rel =>
                      refine ⟨j + 1, m + 1, x.data.toList :: ks', by omega, by omega, by go_num, HW4.out.grown HGR.out HW4.out.size (fun k1 e => by injection e with e; omega), Nat.le_trans hs4 HGR.out.size, ?_, ?_, fun t => ?_⟩
                      · show _ = _
                        rw [HGR.out.block b9 (Array.getElem?_eq_some_iff.1 HX4.out).1 (fun e => by injection e with e; exact hne e)]
                        exact HX4.out
                      · rw [HGX.out]; exact HG5.out
                      · rw [List.mem_cons, HK3.out, HKX.out, List.map_append, List.mem_append]
                        simp only [List.map_cons, List.map_nil, List.mem_singleton]
                        constructor
                        · rintro (h | h | h)
                          · exact .inr (.inr h)
                          · exact .inl h
                          · exact .inr (.inl h)
                        · rintro (h | h | h)
                          · exact .inr (.inl h)
                          · exact .inr (.inr h)
                          · exact .inl h
                    case measure => simp [intOf]; omega
              · obtain rfl : j = T.length := by omega
                rw [List.take_length] at HG3 HK3
                go_wp2
                go_roundw
                case rel =>
                  refine ⟨k + 1, m, ks', by omega, by omega, by go_num, HW3.out, hs3, by rw [HGT.out]; exact HG3.out, fun t => ?_⟩
                  rw [HK3.out, HK.out, HKT.out]
                  simp only [List.mem_append, List.mem_singleton]
                  constructor
                  · rintro (⟨r, h1, h2⟩ | h)
                    · exact ⟨r, .inl h1, h2⟩
                    · exact ⟨(T, N), .inr rfl, h⟩
                  · rintro ⟨r, h1 | rfl, h2⟩
                    · exact .inl ⟨r, h1, h2⟩
                    · exact .inr h2
                case measure => simp [intOf]; omega
          · obtain rfl : k = l.length := by omega
            rw [List.take_of_length_le (by simp)] at HG HK
            have HKO := Lib.hid (keys_ok (some wa.heap.size) wr)
            have HSO := Lib.hid (sortedKeys_ok HG.out (by omega))
            go_wp2_with (first
              | (go_at_call 89; refine HKO.out.mono ?_; rintro e w1 ⟨rfl, hw1⟩; rw [hw1]; clear hw1)
              | (go_at_call 88; refine HSO.out.mono ?_; rintro e w2 ⟨qs, cs, us, rfl, hu1, hu2, hu3, hu4, hu5⟩; have HU1 := Lib.hid hu1; have HU2 := Lib.hid hu2; have HU4 := Lib.hid hu4; have HU5 := Lib.hid hu5; clear hu1 hu2 hu4 hu5))
            have HG2 : Hid (Grp w2 wa.heap.size (wa.heap.size + 1) n ks (grpR (l.map rl) (fun _ => []))) := (HG.out.kept (World.grownBy_alloc wr (.cells #[.map (some wa.heap.size)] 154) none)).kept (grown_below (by have := HU5.out; simpa using this))
            have HW2 : Hid (Below w.heap.size w w2) := HWk.out.trans (((rb1 wr _).trans ((HU5.out).mono (Nat.le_succ _))).mono HWk.out.size)
            have hs2 : wr.heap.size + 1 ≤ w2.heap.size := by have := HU5.out.size; simpa using this
            clear HG HKO HSO HU5
            obtain ⟨h, hMH, hrow, hdis, _⟩ := HG2.out
            have HMH := Lib.hid hMH
            have HROW := Lib.hid hrow
            have HDIS := Lib.hid hdis
            clear hMH hrow hdis HG2
            generalize hgg : grpR (l.map rl) (fun _ => []) = g at *
            have HGG := Lib.hid hgg
            clear hgg
            go_loopw [75, 15] (fun i v w5 => ∃ (k : Nat) (rs : List (Hd × Hd)), k ≤ us.length ∧ i = .int .i64 k ∧ rs.length = k ∧ Hid (Below w.heap.size w w5) ∧ Hid (Below w2.heap.size w2 w5 ∧ w5.ownsRow w2.heap.size 61 2 v k (cells2 rF rG rs)) ∧
              Hid (∀ x ∈ rs, w5.ownsRow w2.heap.size 9 1 x.1.v x.1.zs.length (strsV x.1.zs)) ∧ Hid (rs.Pairwise fun x y => ∀ k, x.1.v.ownBlock = some k → y.1.v.ownBlock ≠ some k) ∧
              Hid (∀ u ∈ us.take k, (g u).length ≤ 64) ∧ Hid (rs.map (fun x => (x.1.zs, x.2)) = (us.take k).map fun u => ([txt u], hdOf (h u) (g u)))) (fun i _ _ => us.length - (intOf i).toNat)
            case atStart => exact ⟨0, [], Nat.zero_le _, rfl, rfl, HW2.out, ⟨Below.refl _ _, World.ownsRow_nil _ _ _ _⟩, fun x hx => (by cases hx), List.Pairwise.nil, fun u hu => (by cases hu), rfl⟩
            case round =>
              obtain ⟨k, rs, hk, rfl, hrk, HW5, HO5, HT1, HT2, HL64, HRS⟩ := hrel
              by_cases hlt : k < us.length
              · have hel := List.getElem?_eq_getElem hlt
                obtain ⟨bs, capS, hv, _, _⟩ := HU4.out.form (by omega)
                injection hv with hv1 hv2 hv3
                subst hv1 hv3
                have hcx := HU4.out.cells (g := bs) rfl k (encStr us[k]) (by rw [List.getElem?_map, hel]; rfl)
                rw [Addr.add_lit] at hcx
                have hcx5 := (HO5.out.1.cell (World.block_lt_of_cell? w2 _ hcx)).trans hcx
                obtain ⟨u, hu⟩ : ∃ u, u = us[k] := ⟨_, rfl⟩
                rw [← hu] at hcx5 hel
                have huk : u ∈ ks := (HU2.out u).1 (by rw [hu]; exact List.getElem_mem hlt)
                obtain ⟨hp, hc, hhu, hhd⟩ := hdOf_v (HROW.out u) (g u)
                have hht : h (txt u).data.toList = .slice hp (g u).length hc := by rw [txt_list]; exact hhu
                have hcx6 : wr.cell? ⟨bs, k, none⟩ = some (.string (txt u)) := by rw [Nat.zero_add] at hcx5; exact hcx5
                have HRU : Hid (us.take (k + 1) = us.take k ++ [u]) := by
                  show _ = _
                  rw [List.take_add_one, hel]; rfl
                clear hel hhu hcx hcx5 hu
                have hk1 : (k : Int) < (us.length : Int) := by omega
                have HMH5 := Lib.hid (HMH.out.kept (grown_below HO5.out.1) (by simp))
                have hxm : (txt u).size ≤ maxLen := by
                  obtain ⟨r, hr1, hr2⟩ := (HK.out u).1 huk
                  obtain ⟨x, hx, rfl⟩ := List.mem_map.1 hr1
                  obtain ⟨t, ht, rfl⟩ := List.mem_map.1 hr2
                  have := ((HN.out _ HW2.out).ok x hx).1.1.at_.size t ht
                  rw [list_txt]
                  unfold maxLen
                  omega
                by_cases h64 : 64 < (g u).length
                · have HE2 : Hid (joinRE (l.map rl) = 2) := by
                    show _ = _
                    unfold joinRE
                    rw [List.length_map, if_neg h100, if_neg (by rw [HE0.out]; decide), if_pos (.inl ⟨u, by rw [HGG.out]; exact h64⟩)]
                  have h64i : (64 : Int) < ((g u).length : Int) := by omega
                  go_wp2_with (at_lookup; refine look_h _ rfl _ _ rfl rfl HMH5.out (txt u) rfl hxm ?_; rw [hht])
                  go_ret2
                  exact ⟨nilS, 2, rfl, HE2.out.symm, fun _ => rfl, HW5.out, fun h => absurd h (by decide)⟩
                · have h64i : ¬ ((64 : Int) < ((g u).length : Int)) := by omega
                  go_upto_region 33 with (at_lookup; refine look_h _ rfl _ _ rfl rfl HMH5.out (txt u) rfl hxm ?_; rw [hht])
                  obtain ⟨o1, ho1⟩ : ∃ o1, o1 = Obj.cells #[.string (txt u)] 9 := ⟨_, rfl⟩
                  obtain ⟨o2, ho2⟩ : ∃ o2, o2 = Obj.cells #[.slice (some ⟨wr.heap.size, 0, none⟩) 1 1, .slice hp (g u).length hc] 61 := ⟨_, rfl⟩
                  have hz1' : (wr.alloc o1).heap.size = wr.heap.size + 1 := by simp
                  have hz2' : ((wr.alloc o1).alloc o2).heap.size = wr.heap.size + 2 := by simp
                  have HMH6 : Hid (MapH (wr.alloc o1) wa.heap.size n ks h) := HMH5.out.kept (World.grownBy_alloc _ _ none) (by simp)
                  have hbA : Below wr.heap.size wr ((wr.alloc o1).alloc o2) := (rb1 wr o1).trans ((rb1 (wr.alloc o1) o2).mono (by rw [hz1']; omega))
                  have HOA := Lib.hid ((HO5.out.2.alloc o1).alloc o2)
                  have HTA : Hid (∀ x ∈ rs, ((wr.alloc o1).alloc o2).ownsRow w2.heap.size 9 1 x.1.v x.1.zs.length (strsV x.1.zs)) := fun x hx => ((HT1.out x hx).alloc o1).alloc o2
                  have HWA : Hid (Below w.heap.size w ((wr.alloc o1).alloc o2)) := HW5.out.trans (hbA.mono HW5.out.size)
                  have HWB : Hid (Below w2.heap.size w2 ((wr.alloc o1).alloc o2)) := HO5.out.1.trans (hbA.mono HO5.out.1.size)
                  have hw2r := HO5.out.1.size
                  have HTN : Hid (((wr.alloc o1).alloc o2).ownsRow w2.heap.size 9 1 (.slice (some ⟨wr.heap.size, 0, none⟩) 1 1) 1 [.string (txt u)]) := by
                    refine World.ownsRow.alloc ⟨rfl, .inr ⟨wr.heap.size, 1, #[.string (txt u)], rfl, hw2r, ?_, Nat.le_refl _, by unfold maxLen; omega, rfl, rfl⟩⟩ o2
                    rw [ho1]; exact heap_alloc_new _ _
                  have HCE : Hid (∀ (j : Nat) z, [Value.slice (some ⟨wr.heap.size, 0, none⟩) 1 1, Value.slice hp (g u).length hc][j]? = some z → ((wr.alloc o1).alloc o2).cell? ((⟨wr.heap.size + 1, 0, none⟩ : Addr).add j) = some z) := by
                    show ∀ (j : Nat) z, _
                    intro j z hz
                    have hat : ((wr.alloc o1).alloc o2).heap[wr.heap.size + 1]? = some o2 := by rw [← hz1']; exact heap_alloc_new _ _
                    rw [Addr.add_lit]
                    rw [ho2] at hat ⊢
                    match j, hz with
                    | 0, hz =>
                      simp only [List.getElem?_cons_zero, Option.some.injEq] at hz
                      rw [← hz]
                      unfold World.cell?
                      simp only [Nat.zero_add]
                      rw [hat]; rfl
                    | 1, hz =>
                      simp only [List.getElem?_cons_succ, List.getElem?_cons_zero, Option.some.injEq] at hz
                      rw [← hz]
                      unfold World.cell?
                      simp only [Nat.zero_add]
                      rw [hat]; rfl
                  have HOC : Hid (∀ z ∈ [Value.slice (some ⟨wr.heap.size, 0, none⟩) 1 1, Value.slice hp (g u).length hc], z.oneCell' = true) := by
                    show ∀ z ∈ _, _
                    intro z hz
                    rcases List.mem_cons.1 hz with rfl | hz
                    · rfl
                    · rw [List.mem_singleton.1 hz]; rfl
                  have HLZ : Hid (k + 1 ≤ maxLen ∧ (k + 1) * 48 ≤ 140737488355328) := ⟨by unfold maxLen; omega, by omega⟩
                  have hsa : w2.heap.size ≤ ((wr.alloc o1).alloc o2).heap.size := HWB.out.size
                  clear hbA hz1' hz2'
                  subst ho1 ho2
                  go_wp2_with (first
                    | (at_lookup; refine look_h _ rfl _ _ rfl rfl HMH6.out (txt u) rfl hxm ?_; rw [hht])
                    | (at_builtin; refine wpList_append_own _ rfl _ _ 41 rfl w2.heap.size 61 i1 _ 2 48 Tryz.underlying41 hi1 hy0 hy1 hy2 rfl (by decide) u15 k (cells2 rF rG rs) rfl HOA.out ⟨wr.heap.size + 1, 0, none⟩ 1 1 [Value.slice (some ⟨wr.heap.size, 0, none⟩) 1 1, Value.slice hp (g u).length hc] rfl rfl HCE.out HOC.out HLZ.out.1 HLZ.out.2 hsa ?_; intro v' w6 g1 g2 _; have HO6 := Lib.hid g1; have HG6 := Lib.hid g2; clear g1 g2))
                  go_roundw
                  case rel =>
                    refine ⟨k + 1, rs ++ [((⟨some ⟨wr.heap.size, 0, none⟩, 1, 1, [txt u]⟩ : Hd), (⟨hp, (g u).length, hc, g u⟩ : Hd))], by omega, by go_num, by simp [hrk], HWA.out.grown HG6.out HWA.out.size (fun k1 e => by have := (HOA.out.lt k1 e).1; have := HW2.out.size; omega), ⟨HWB.out.grown HG6.out HWB.out.size (fun k1 e => (HOA.out.lt k1 e).1), ?_⟩, ?_, ?_, ?_, ?_⟩
                    · rw [cells2_app]; exact HO6.out
                    · intro x hx
                      rcases List.mem_append.1 hx with hx | hx
                      · exact own_kept_other (HTA.out x hx) HOA.out HG6.out
                      · rw [List.mem_singleton.1 hx]
                        exact own_kept_other HTN.out HOA.out HG6.out
                    · refine List.pairwise_append.2 ⟨HT2.out, List.pairwise_singleton _ _, fun x hx y hy k1 e => ?_⟩
                      rw [List.mem_singleton.1 hy]
                      have := ((HT1.out x hx).lt k1 e).2
                      intro e2
                      simp only [Hd.v, Value.ownBlock, Option.some.injEq] at e2
                      omega
                    · intro t ht
                      rw [HRU.out] at ht
                      rcases List.mem_append.1 ht with ht | ht
                      · exact HL64.out t ht
                      · rw [List.mem_singleton.1 ht]; omega
                    · show _ = _
                      rw [List.map_append, HRS.out, HRU.out, List.map_append]
                      simp only [List.map_cons, List.map_nil]
                      rw [hhd]
                  case measure => simp [intOf]; omega
              · obtain rfl : k = us.length := by omega
                rw [List.take_length] at HRS HL64
                obtain ⟨pr, cr, rfl⟩ := ruleRow_sl HO5.out.2
                by_cases h64 : 64 < us.length
                · have HE2 : Hid (joinRE (l.map rl) = 2) := by
                    show _ = _
                    unfold joinRE
                    rw [List.length_map, if_neg h100, if_neg (by rw [HE0.out]; decide), if_pos (.inr ⟨us, HU1.out, fun t => (HU2.out t).trans (HK.out t), h64⟩)]
                  have h64i : (64 : Int) < (us.length : Int) := by omega
                  go_wp2
                  go_ret2
                  exact ⟨nilS, 2, rfl, HE2.out.symm, fun _ => rfl, HW5.out, fun h => absurd h (by decide)⟩
                · have h64i : ¬ ((64 : Int) < (us.length : Int)) := by omega
                  have HE2 : Hid (joinRE (l.map rl) = 0) := joinRE_ok (by rw [List.length_map]; exact h100) HE0.out HU1.out (fun t => (HU2.out t).trans (HK.out t)) (by omega) (by rw [HGG.out]; exact HL64.out)
                  go_wp2
                  go_ret2
                  refine ⟨.slice pr us.length cr, 0, rfl, HE2.out.symm, fun h => absurd rfl h, HW5.out, fun _ => ⟨pr, cr, wa.heap.size + 1, w2.heap.size, us, h, rs, rfl, HU1.out, fun t => (HU2.out t).trans (HK.out t), by omega, by omega, by omega, HO5.out.2, ?_, HT1.out, HT2.out, ?_, HDIS.out, fun s k hk => ((HROW.out s).lt k hk).2⟩⟩
                  · rw [HGG.out]; exact HRS.out
                  · rw [HGG.out]
                    intro s
                    refine (HROW.out s).kept (grown_below HO5.out.1) ?_
                    cases hq : (h s).ownBlock with
                    | none => exact .inl rfl
                    | some k => exact .inr (by simp)
end Go.Proofs.YtoiolepengcagaaGreatDoor
namespace Go.Proofs.YtoiolepengcagaaGreatDoor
open Go.RowKit
def usF (R : List Rl) : List Bs := sortN (R.flatMap (·.1))
def jF (R : List Rl) : Bs → List ByteArray := grpR R (fun _ => [])
theorem usF_strict (R : List Rl) : (usF R).Pairwise (· < ·) := sortN_strict _
theorem usF_mem (R : List Rl) (t : Bs) : t ∈ usF R ↔ Targ R t := by
  unfold usF Targ
  rw [sortN_mem]
  unfold byt
  constructor
  · intro h
    obtain ⟨s, hs, rfl⟩ := List.mem_map.1 h
    obtain ⟨r, hr, hs⟩ := List.mem_flatMap.1 hs
    exact ⟨r, hr, List.mem_map_of_mem hs⟩
  · rintro ⟨r, hr, ht⟩
    obtain ⟨s, hs, rfl⟩ := List.mem_map.1 ht
    exact List.mem_map_of_mem (List.mem_flatMap.2 ⟨r, hr, hs⟩)
theorem usF_uniq {R : List Rl} {us : List Bs} (h : us.Pairwise (· < ·)) (hm : ∀ t, t ∈ us ↔ Targ R t) : us = usF R :=
  strict_ext h (usF_strict R) (fun t => (hm t).trans (usF_mem R t).symm)
theorem jF_nil {R : List Rl} {t : Bs} (h : t ∉ usF R) : jF R t = [] := by
  rcases List.eq_nil_or_concat (jF R t) with e | ⟨l, x, e⟩
  · exact e
  · exfalso
    have hx : x ∈ jF R t := by rw [e]; simp
    rcases (grpR_mem R _ t).1 hx with hx | ⟨r, hr, ht, _⟩
    · cases hx
    · exact h ((usF_mem R t).2 ⟨r, hr, ht⟩)
def saidF (R : List Rl) (there : List ByteArray) : List ByteArray := bz (sortN (there ++ askF (usF R) (jF R)))
noncomputable def fillE (R : List Rl) (l : List Inf) (there : List ByteArray) : Int :=
  if joinRE R ≠ 0 then joinRE R else if infE l ≠ 0 then infE l else if (there.all fun x => nameE x == 0) = false then 3 else if 64 < (saidF R there).length then 2 else 0
/-- all targets, in the end -/
def endK (R : List Rl) (l : List Inf) (there : List ByteArray) : List Bs := sortN (bz ((askF (usF R) (jF R)).foldl (fillS l (saidF R there)) (usF R, jF R)).1)
/-- the needs, in the end -/
def needR (R : List Rl) (l : List Inf) (there : List ByteArray) : Bs → List ByteArray := needF l (saidF R there) (usF R) (jF R)
theorem endK_strict (R : List Rl) (l : List Inf) (there : List ByteArray) : (endK R l there).Pairwise (· < ·) := sortN_strict _
theorem endK_mem (R : List Rl) (l : List Inf) (there : List ByteArray) (t : Bs) : t ∈ endK R l there ↔ TargF l (saidF R there) (usF R) (jF R) t := by
  unfold endK
  rw [sortN_mem, byt_bz]
  exact (fill_end l (saidF R there) (usF R) (usF R) (jF R) (fun _ => Iff.rfl)).2 t
theorem endK_uniq {R : List Rl} {l : List Inf} {there : List ByteArray} {us : List Bs} (h : us.Pairwise (· < ·)) (hm : ∀ t, t ∈ us ↔ TargF l (saidF R there) (usF R) (jF R) t) : us = endK R l there :=
  strict_ext h (endK_strict R l there) (fun t => (hm t).trans (endK_mem R l there t).symm)
theorem need_said {R : List Rl} {l : List Inf} {there : List ByteArray} {t : Bs} (h : 0 < (jF R t).length) : needR R l there t = jF R t := by
  unfold needR needF
  rw [if_pos (.inl h)]
theorem infOf_some {l : List Inf} {said : List ByteArray} {st en x : ByteArray} (h : infOf l said st en = some x) : ∃ y ∈ l, y.2 = en ∧ x = st ++ y.1 ∧ x ∈ said := by
  unfold infOf at h
  obtain ⟨y, hy, h⟩ := List.exists_of_findSome?_eq_some h
  split at h
  · rename_i hc
    injection h with h
    exact ⟨y, hy, hc.1, h.symm, by rw [← h]; exact has_iff.1 hc.2⟩
  · cases h
/-- what is inferred -/
theorem need_inf {R : List Rl} {l : List Inf} {there : List ByteArray} {t : Bs} (h : ¬ 0 < (jF R t).length) (hn : needR R l there t ≠ []) :
    ∃ y ∈ l, y.2 = stB (txt t) ∧ needR R l there t = [stA (txt t) ++ y.1] := by
  unfold needR needF at hn ⊢
  split at hn
  · have : jF R t = [] := List.length_eq_zero_iff.1 (by omega)
    exact absurd this hn
  · rename_i hc
    rw [if_neg hc]
    cases hi : infOf l (saidF R there) (stA (txt t)) (stB (txt t)) with
    | none => rw [hi] at hn; exact absurd rfl hn
    | some x =>
      obtain ⟨y, hy, h1, h2, _⟩ := infOf_some hi
      exact ⟨y, hy, h1, by rw [← h2]; rfl⟩
theorem need_len (R : List Rl) (l : List Inf) (there : List ByteArray) (t : Bs) : (needR R l there t).length ≤ (jF R t).length + 1 := by
  unfold needR needF
  split
  · omega
  · cases infOf l (saidF R there) (stA (txt t)) (stB (txt t)) <;> simp
/-! ### all names are right -/
theorem joinRE_zero {R : List Rl} (h : joinRE R = 0) : R.length ≤ 100 ∧ rulesE R = 0 ∧ (∀ t, (jF R t).length ≤ 64) ∧ (usF R).length ≤ 64 := by
  unfold joinRE at h
  split at h
  · cases h
  · rename_i h1
    split at h
    · rename_i h2; exact absurd h h2
    · rename_i h2
      split at h
      · cases h
      · rename_i h3
        rw [not_or] at h3
        refine ⟨by omega, by simpa using h2, fun t => ?_, ?_⟩
        · rcases Nat.lt_or_ge 64 (jF R t).length with h4 | h4
          · exact absurd ⟨t, h4⟩ h3.1
          · exact h4
        · rcases Nat.lt_or_ge 64 (usF R).length with h4 | h4
          · exact absurd ⟨_, usF_strict R, usF_mem R, h4⟩ h3.2
          · exact h4
theorem jF_names {R : List Rl} (h : rulesE R = 0) {t : Bs} {n : ByteArray} (hn : n ∈ jF R t) : nameE n = 0 := by
  rcases (grpR_mem R _ t).1 hn with hx | ⟨r, hr, _, hx⟩
  · cases hx
  · exact (ruleE_zero.1 (rulesE_all h r hr)).names n (List.mem_append_right _ hx)
theorem usF_names {R : List Rl} (h : rulesE R = 0) {t : Bs} (ht : t ∈ usF R) : nameE (txt t) = 0 := by
  obtain ⟨r, hr, ht⟩ := (usF_mem R t).1 ht
  obtain ⟨s, hs, rfl⟩ := List.mem_map.1 ht
  rw [list_txt]
  exact (ruleE_zero.1 (rulesE_all h r hr)).names s (List.mem_append_left _ hs)
theorem askF_names {R : List Rl} (h : rulesE R = 0) {n : ByteArray} (hn : n ∈ askF (usF R) (jF R)) : nameE n = 0 := by
  obtain ⟨u, hu, hn⟩ := List.mem_flatMap.1 hn
  rcases List.mem_cons.1 hn with rfl | hn
  · exact usF_names h hu
  · exact jF_names h hn
theorem askF_len {R : List Rl} (h : joinRE R = 0) : (askF (usF R) (jF R)).length ≤ 4160 := by
  obtain ⟨_, _, h3, h4⟩ := joinRE_zero h
  have key : ∀ us : List Bs, (askF us (jF R)).length ≤ us.length * 65 := by
    intro us
    induction us with
    | nil => simp [askF]
    | cons u us ih =>
      have e : askF (u :: us) (jF R) = (txt u :: jF R u) ++ askF us (jF R) := rfl
      have := h3 u
      rw [e, List.length_append, List.length_cons, List.length_cons, Nat.succ_mul]
      omega
  have := key (usF R)
  omega
theorem said_names {R : List Rl} {there : List ByteArray} (h : rulesE R = 0) (ht : (there.all fun x => nameE x == 0) = true) {n : ByteArray} (hn : n ∈ saidF R there) : nameE n = 0 := by
  have := sortN_mem_bz.1 hn
  rcases List.mem_append.1 this with hn | hn
  · have := List.all_eq_true.1 ht n hn
    simpa using this
  · exact askF_names h hn
theorem need_names {R : List Rl} {l : List Inf} {there : List ByteArray} (h : rulesE R = 0) (ht : (there.all fun x => nameE x == 0) = true) {t : Bs} {n : ByteArray} (hn : n ∈ needR R l there t) : nameE n = 0 := by
  unfold needR needF at hn
  split at hn
  · exact jF_names h hn
  · cases hi : infOf l (saidF R there) (stA (txt t)) (stB (txt t)) with
    | none => rw [hi] at hn; cases hn
    | some x =>
      rw [hi] at hn
      obtain rfl : n = x := by simpa using hn
      obtain ⟨_, _, _, _, hx⟩ := infOf_some hi
      exact said_names h ht hx
theorem endK_names {R : List Rl} {l : List Inf} {there : List ByteArray} (h : rulesE R = 0) {t : Bs} (ht : t ∈ endK R l there) : nameE (txt t) = 0 := by
  rcases (endK_mem R l there t).1 ht with ht | ⟨_, ht, _⟩
  · exact usF_names h ht
  · exact askF_names h (mem_byt.1 (by rw [txt_list]; exact ht))
theorem fillE_zero {R : List Rl} {l : List Inf} {there : List ByteArray} (h : fillE R l there = 0) : joinRE R = 0 ∧ infE l = 0 ∧ (there.all fun x => nameE x == 0) = true ∧ (saidF R there).length ≤ 64 := by
  unfold fillE at h
  split at h
  · rename_i h1; exact absurd h h1
  · rename_i h1
    split at h
    · rename_i h2; exact absurd h h2
    · rename_i h2
      split at h
      · cases h
      · rename_i h3
        split at h
        · cases h
        · rename_i h4
          exact ⟨by simpa using h1, by simpa using h2, by simpa using h3, by omega⟩
end Go.Proofs.YtoiolepengcagaaGreatDoor
namespace Go.Proofs.YtoiolepengcagaaGreatDoor
open Go.RowKit Go.Shelf
def parseT (s : Bs) : List ByteArray := wb (s.take (Lib.indexByte s 58).toNat)
def parseN (s : Bs) : List ByteArray := wb (s.drop ((Lib.indexByte s 58).toNat + 1))
def parseE (s : Bs) : Int := if Lib.indexByte s 58 < 0 then 3 else ruleE (parseT s) (parseN s)
theorem wb_trm (s : ByteArray) : wb (trm s).data.toList = wb s.data.toList := by
  unfold wb trm
  rw [txt_list, words_trim]
/-- what Parse answers -/
def ParsePost (w : World) (s : Bs) (e : Ending) (w' : World) : Prop :=
  (∃ v, e = .returned (.tuple #[v, .int .i64 (parseE s)]) ∧ ((parseE s ≠ 0 ∧ v = nilRule) ∨ (parseE s = 0 ∧ RuleIn w' v (parseT s) (parseN s)))) ∧ Below w.heap.size w w'
theorem trm_size (s : ByteArray) : (trm s).size ≤ s.size := by
  unfold trm
  rw [txt_size, Lib.size_eq]
  unfold Lib.trimS Lib.trimLeftS Lib.trimRightS
  have h : ∀ (p : UInt8 → Bool) (l : Bs), (l.dropWhile p).length ≤ l.length := fun p l => by
    obtain ⟨u, e, _⟩ := dropWhile_split p l
    have := congrArg List.length e
    rw [List.length_append] at this
    omega
  refine Nat.le_trans (h _ _) ?_
  rw [List.length_reverse]
  refine Nat.le_trans (h _ _) ?_
  rw [List.length_reverse]
  exact Nat.le_refl _
theorem cell_other (w : World) (b j : Nat) (u : Value) {k o : Nat} (h : k ≠ b) : (w.setCell ⟨b, j, none⟩ u).cell? ⟨k, o, none⟩ = w.cell? ⟨k, o, none⟩ := by
  have := heap_setCell_other w ⟨b, j, none⟩ k u h
  simp only [World.cell?, this]
theorem NL_move {w w' : World} {g n c : Nat} {zs : List ByteArray} (h : NL w (some ⟨g, 0, none⟩) n c zs) (hc : ∀ o, w'.cell? ⟨g, o, none⟩ = w.cell? ⟨g, o, none⟩) (hg : g < w'.heap.size) : NL w' (some ⟨g, 0, none⟩) n c zs := by
  refine ⟨⟨h.at_.len, ⟨h.at_.reads.1, fun h0 => ?_⟩, h.at_.size, h.at_.big⟩, h.nil, fun ad e => ?_, h.reach⟩
  · obtain ⟨ad, e, _, hcell⟩ := h.at_.reads.2 h0
    injection e with e
    subst e
    refine ⟨_, rfl, hg, fun j u hu => ?_⟩
    have := hcell j u hu
    rw [Addr.add_lit] at this ⊢
    rw [hc]; exact this
  · injection e with e
    subst e
    exact ⟨g, 0, rfl, hg⟩
theorem index_lt {l : Bs} {c : UInt8} {k : Nat} (h : Lib.indexByte l c = k) : k < l.length := by
  induction l generalizing k with
  | nil => simp [Lib.indexByte] at h
  | cons b l ih =>
    unfold Lib.indexByte at h
    rw [List.length_cons]
    split at h
    · omega
    · split at h
      · omega
      · cases k with
        | zero => omega
        | succ k => have := ih (k := k) (by omega); omega
set_option maxHeartbeats 4000000 in
theorem ParseR_ok (s : ByteArray) (w : World) (hs : s.size ≤ 1048576) : Calls Tryz.prog 42 #[.string s] w (ParsePost w s.data.toList) := by
  have HB0 : Hid (∀ o, Below w.heap.size w (w.alloc o)) := fun o => (Below.refl _ _).alloc (Nat.le_refl _) _
  have hz0 : (w.alloc (.cells #[.slice none 0 0, .slice none 0 0] 61)).heap[w.heap.size]? = some (.cells #[.slice none 0 0, .slice none 0 0] 61 (0, 0)) := rb_new w _
  have HZ0 := Lib.hid hz0
  clear hz0
  rcases Int.lt_or_le (Lib.indexByte s.data.toList 58) 0 with hi | hi
  · have hi1 : Lib.indexByte s.data.toList 58 = -1 := by have := (indexByte_ge s.data.toList 58).1; omega
    have HE : Hid (parseE s.data.toList = 3) := by show _ = _; unfold parseE; rw [if_pos hi]
    have HS := Lib.hid (fun u => Split_no s 58 u hi1)
    clear hi hi1
    go_enter Tryz.func42, Tryz.ntmps42
    go_wp2_with (go_at_call 73; refine (HS.out _).mono ?_; rintro e w1 ⟨rfl, rfl⟩)
    refine bodyPost_ret (v := .tuple #[.agg #[.slice none 0 0, .slice none 0 0], .int .i64 3]) (rb_ct Tryz.results42 _ _ w.heap.size 61 _ (0, 0) _ _ rfl rfl HZ0.out Tryz.underlying61 rfl (by kernel_rfl)) rfl ⟨⟨nilRule, by rw [HE.out]; rfl, .inl ⟨by rw [HE.out]; decide, rfl⟩⟩, HB0.out _⟩
  · obtain ⟨k, hk⟩ := Int.eq_ofNat_of_zero_le hi
    have hks : k < s.size := by have := index_lt hk; rwa [← Lib.size_eq] at this
    have hkn : (Lib.indexByte s.data.toList 58).toNat = k := by omega
    have HE : Hid (parseE s.data.toList = ruleE (parseT s.data.toList) (parseN s.data.toList)) := by show _ = _; unfold parseE; rw [if_neg (by omega)]
    have eT : wb (trm (s.extract 0 k)).data.toList = parseT s.data.toList := by rw [wb_trm]; unfold parseT; rw [hkn, Lib.extract_from_zero]
    have eN : wb (trm (s.extract (k + 1) s.size)).data.toList = parseN s.data.toList := by rw [wb_trm]; unfold parseN; rw [hkn, Lib.extract_to_end]
    have sT : (trm (s.extract 0 k)).size ≤ 1048576 := by have := trm_size (s.extract 0 k); rw [ByteArray.size_extract] at this; omega
    have sN : (trm (s.extract (k + 1) s.size)).size ≤ 1048576 := by have := trm_size (s.extract (k + 1) s.size); rw [ByteArray.size_extract] at this; omega
    have HS := Lib.hid (fun u => Split_yes s 58 u k hk hks (by omega))
    have HWT := Lib.hid (fun u => Words_ok _ u sT)
    have HWN := Lib.hid (fun u => Words_ok _ u sN)
    rw [eT] at HWT
    rw [eN] at HWN
    clear sT sN eT eN hk hkn hi
    generalize trm (s.extract 0 k) = a at *
    generalize trm (s.extract (k + 1) s.size) = b at *
    obtain ⟨T, hT⟩ : ∃ T, T = parseT s.data.toList := ⟨_, rfl⟩
    obtain ⟨N, hN⟩ : ∃ N, N = parseN s.data.toList := ⟨_, rfl⟩
    rw [← hT, ← hN] at HE
    rw [← hT] at HWT
    rw [← hN] at HWN
    have HQT := Lib.hid hT
    have HQN := Lib.hid hN
    clear hT hN
    generalize s.data.toList = sl at *
    clear hs hks
    by_cases he : ruleE T N = 0
    · have HE0 := Lib.hid he
      clear he
      go_enter Tryz.func42, Tryz.ntmps42
      go_wp2_with (first
        | (go_at_call 73; refine (HS.out _).mono ?_; rintro e w1 ⟨rfl, hb⟩; have HB1 := Lib.hid ((HB0.out _).trans (hb.mono (HB0.out _).size)); have HX1 := Lib.hid hb; clear hb)
        | (go_at_call 66; (first
            | (have hq := HWT.out; clear HWT; refine (hq _).mono ?_; clear hq; rintro e w2 ⟨g, rfl, hown, hnl, hb⟩; have hg := hown.lt g rfl; have HN2 := Lib.hid hnl; have HB2 := Lib.hid (HB1.out.trans (hb.mono HB1.out.size)); have HX2 := Lib.hid (HX1.out.trans (hb.mono HX1.out.size)); have HW12 := Lib.hid hb; clear hown hnl hb)
            | (refine (HWN.out _).mono ?_; rintro e w3 ⟨g3, rfl, hown, hnl, hb⟩; have hg3 := hown.lt g3 rfl; have HN3 := Lib.hid hnl; have HB3 := Lib.hid (HB2.out.trans (hb.mono HB2.out.size)); have HX3 := Lib.hid (HX2.out.trans (hb.mono HX2.out.size)); have HN23 := Lib.hid (HN2.out.below hb); clear hown hnl hb; have HC := Lib.hid (fun o => CheckR_ok (some ⟨g, 0, none⟩) (some ⟨g3, 0, none⟩) T.length T.length N.length N.length T N (w3.alloc o) (HN23.out.below ((Below.refl _ _).alloc (Nat.le_refl _) o)).weak (HN3.out.below ((Below.refl _ _).alloc (Nat.le_refl _) o)).weak (Nat.le_refl _) (Nat.le_refl _)))))
        | (go_at_call 77; refine (HC.out _).mono ?_; rw [HE0.out]; rintro e w4 ⟨rfl, hb⟩; have HB4 := Lib.hid hb; obtain ⟨hz, hy⟩ := rb_far HX3.out hb; obtain ⟨c1, c2, c3⟩ := rb_cells hz; obtain ⟨d1, d2, d3⟩ := rb_cells hy; have HZ4 := Lib.hid hz; have hlt := HB3.out.size; clear hb hz hy d3))
      go_wp2
      refine bodyPost_ret (v := .tuple #[.agg #[.slice (some ⟨g, 0, none⟩) T.length T.length, .slice (some ⟨g3, 0, none⟩) N.length N.length], .int .i64 0]) (rb_ct Tryz.results42 _ _ w.heap.size 61 _ (0, 0) _ _ rfl rfl (rb_all HZ4.out _ _) Tryz.underlying61 rfl (by kernel_rfl)) rfl ?_
      have hb4 : Below w3.heap.size w3 w4 := ((Below.refl _ _).alloc (Nat.le_refl _) _).trans (HB4.out.mono (by simp))
      have hb5 : Below w.heap.size w w4 := HB3.out.trans (hb4.mono HB3.out.size)
      have hz1 := HX1.out.size
      simp only [World.size_alloc] at hz1
      have hz2 := HW12.out.size
      have hz3 := HX3.out.size
      have hz4 := hb4.size
      have hq : ∀ k o, k ≠ w.heap.size → k < w3.heap.size → ((w4.setCell ⟨w.heap.size, 0, none⟩ (.slice (some ⟨g, 0, none⟩) T.length T.length)).setCell ⟨w.heap.size, 1, none⟩ (.slice (some ⟨g3, 0, none⟩) N.length N.length)).cell? ⟨k, o, none⟩ = w3.cell? ⟨k, o, none⟩ := fun k o hk hl => by
        rw [cell_other _ _ _ _ hk, cell_other _ _ _ _ hk]
        exact hb4.cell hl
      refine ⟨⟨_, by rw [HE.out, HE0.out], .inr ⟨by rw [HE.out]; exact HE0.out, _, _, _, _, _, _, rfl, by rw [← HQT.out]; exact NL_move HN23.out (fun o => hq g o (by omega) (by omega)) (by simp; omega), by rw [← HQN.out]; exact NL_move HN3.out (fun o => hq g3 o (by omega) (by omega)) (by simp; omega), Nat.le_refl _, Nat.le_refl _⟩⟩, rb_below hb5 (Nat.le_refl _) _ _⟩
    · obtain ⟨E, hE⟩ : ∃ E, E = ruleE T N := ⟨_, rfl⟩
      rw [← hE] at he HE
      obtain ⟨i1, i2⟩ := int_ne' he
      have HNE := Lib.hid he
      have HEE := Lib.hid hE
      clear he hE
      go_enter Tryz.func42, Tryz.ntmps42
      go_wp2_with (first
        | (go_at_call 73; refine (HS.out _).mono ?_; rintro e w1 ⟨rfl, hb⟩; have HB1 := Lib.hid ((HB0.out _).trans (hb.mono (HB0.out _).size)); have HX1 := Lib.hid hb; clear hb)
        | (go_at_call 66; (first
            | (have hq := HWT.out; clear HWT; refine (hq _).mono ?_; clear hq; rintro e w2 ⟨g, rfl, hown, hnl, hb⟩; have hg := hown.lt g rfl; have HN2 := Lib.hid hnl; have HB2 := Lib.hid (HB1.out.trans (hb.mono HB1.out.size)); have HX2 := Lib.hid (HX1.out.trans (hb.mono HX1.out.size)); have HW12 := Lib.hid hb; clear hown hnl hb)
            | (refine (HWN.out _).mono ?_; rintro e w3 ⟨g3, rfl, hown, hnl, hb⟩; have hg3 := hown.lt g3 rfl; have HN3 := Lib.hid hnl; have HB3 := Lib.hid (HB2.out.trans (hb.mono HB2.out.size)); have HX3 := Lib.hid (HX2.out.trans (hb.mono HX2.out.size)); have HN23 := Lib.hid (HN2.out.below hb); clear hown hnl hb; have HC := Lib.hid (fun o => CheckR_ok (some ⟨g, 0, none⟩) (some ⟨g3, 0, none⟩) T.length T.length N.length N.length T N (w3.alloc o) (HN23.out.below ((Below.refl _ _).alloc (Nat.le_refl _) o)).weak (HN3.out.below ((Below.refl _ _).alloc (Nat.le_refl _) o)).weak (Nat.le_refl _) (Nat.le_refl _)))))
        | (go_at_call 77; refine (HC.out _).mono ?_; rw [← HEE.out]; rintro e w4 ⟨rfl, hb⟩; have HB4 := Lib.hid hb; obtain ⟨hz, hy⟩ := rb_far HX3.out hb; obtain ⟨c1, c2, c3⟩ := rb_cells hz; obtain ⟨d1, d2, d3⟩ := rb_cells hy; have HZ4 := Lib.hid hz; have hlt := HB3.out.size; clear hb hz hy d3))
      go_wp2
      refine bodyPost_ret (v := .tuple #[.agg #[.slice none 0 0, .slice none 0 0], .int .i64 E]) (rb_ct Tryz.results42 _ _ w.heap.size 61 _ (0, 0) _ _ rfl rfl (rb_all HZ4.out _ _) Tryz.underlying61 rfl (by kernel_rfl)) rfl ⟨⟨nilRule, by rw [HE.out]; rfl, .inl ⟨by rw [HE.out]; exact HNE.out, rfl⟩⟩, ?_⟩
      have hb4 : Below w3.heap.size w3 w4 := ((Below.refl _ _).alloc (Nat.le_refl _) _).trans (HB4.out.mono (by simp))
      exact rb_below (HB3.out.trans (hb4.mono HB3.out.size)) (Nat.le_refl _) _ _
end Go.Proofs.YtoiolepengcagaaGreatDoor
