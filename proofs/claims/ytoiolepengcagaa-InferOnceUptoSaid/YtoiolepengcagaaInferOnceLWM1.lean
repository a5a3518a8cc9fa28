/- Texts joined: FillQ, AskedW, RuleLW, RuleLOW, FillW, OnceAW, OnceIW. Conditions: theirs. -/
import Derived.Test.YtoiolepengcagaaFillP
import Derived.Test.YtoiolepengcagaaRuleJW
import Derived.Test.YtoiolepengcagaaNLSetW
import Derived.Test.YtoiolepengcagaaRuleW
import Derived.Deep.Onto
import Derived.Test.YtoiolepengcagaaRulePW
import Derived.Test.YtoiolepengcagaaBox2
import Derived.Deep.RegionHeld3
import Derived.Test.YtoiolepengcagaaNamesW
import Derived.StillTailTactics
import Derived.Lib.SliceRun
namespace Go.Proofs.Ytoiolepengcagaa
open Go.RowKit
def usF (R : List Rl) : List Bs := sortN (R.flatMap (·.1))
def jF (R : List Rl) : Bs → List ByteArray := grpR R (fun _ => [])
theorem usF_strict (R : List Rl) : (usF R).Pairwise (· < ·) := sortN_strict _
theorem usF_mem (R : List Rl) (t : Bs) : t ∈ usF R ↔ Targ R t := by
  unfold usF Targ
  rw [sortN_mem]
  unfold byt
  constructor
  · intro h
    obtain ⟨s, hs, rfl⟩ := List.mem_map.1 h
    obtain ⟨r, hr, hs⟩ := List.mem_flatMap.1 hs
    exact ⟨r, hr, List.mem_map_of_mem hs⟩
  · rintro ⟨r, hr, ht⟩
    obtain ⟨s, hs, rfl⟩ := List.mem_map.1 ht
    exact List.mem_map_of_mem (List.mem_flatMap.2 ⟨r, hr, hs⟩)
theorem usF_uniq {R : List Rl} {us : List Bs} (h : us.Pairwise (· < ·)) (hm : ∀ t, t ∈ us ↔ Targ R t) : us = usF R :=
  strict_ext h (usF_strict R) (fun t => (hm t).trans (usF_mem R t).symm)
theorem jF_nil {R : List Rl} {t : Bs} (h : t ∉ usF R) : jF R t = [] := by
  rcases List.eq_nil_or_concat (jF R t) with e | ⟨l, x, e⟩
  · exact e
  · exfalso
    have hx : x ∈ jF R t := by rw [e]; simp
    rcases (grpR_mem R _ t).1 hx with hx | ⟨r, hr, ht, _⟩
    · cases hx
    · exact h ((usF_mem R t).2 ⟨r, hr, ht⟩)
def saidF (R : List Rl) (there : List ByteArray) : List ByteArray := bz (sortN (there ++ askF (usF R) (jF R)))
noncomputable def fillE (R : List Rl) (l : List Inf) (there : List ByteArray) : Int :=
  if joinRE R ≠ 0 then joinRE R else if infE l ≠ 0 then infE l else if (there.all fun x => nameE x == 0) = false then 3 else if 64 < (saidF R there).length then 2 else 0
/-- all targets, in the end -/
def endK (R : List Rl) (l : List Inf) (there : List ByteArray) : List Bs := sortN (bz ((askF (usF R) (jF R)).foldl (fillS l (saidF R there)) (usF R, jF R)).1)
/-- the needs, in the end -/
def needR (R : List Rl) (l : List Inf) (there : List ByteArray) : Bs → List ByteArray := needF l (saidF R there) (usF R) (jF R)
theorem endK_strict (R : List Rl) (l : List Inf) (there : List ByteArray) : (endK R l there).Pairwise (· < ·) := sortN_strict _
theorem endK_mem (R : List Rl) (l : List Inf) (there : List ByteArray) (t : Bs) : t ∈ endK R l there ↔ TargF l (saidF R there) (usF R) (jF R) t := by
  unfold endK
  rw [sortN_mem, byt_bz]
  exact (fill_end l (saidF R there) (usF R) (usF R) (jF R) (fun _ => Iff.rfl)).2 t
theorem endK_uniq {R : List Rl} {l : List Inf} {there : List ByteArray} {us : List Bs} (h : us.Pairwise (· < ·)) (hm : ∀ t, t ∈ us ↔ TargF l (saidF R there) (usF R) (jF R) t) : us = endK R l there :=
  strict_ext h (endK_strict R l there) (fun t => (hm t).trans (endK_mem R l there t).symm)
theorem need_said {R : List Rl} {l : List Inf} {there : List ByteArray} {t : Bs} (h : 0 < (jF R t).length) : needR R l there t = jF R t := by
  unfold needR needF
  rw [if_pos (.inl h)]
theorem infOf_some {l : List Inf} {said : List ByteArray} {st en x : ByteArray} (h : infOf l said st en = some x) : ∃ y ∈ l, y.2 = en ∧ x = st ++ y.1 ∧ x ∈ said := by
  unfold infOf at h
  obtain ⟨y, hy, h⟩ := List.exists_of_findSome?_eq_some h
  split at h
  · rename_i hc
    injection h with h
    exact ⟨y, hy, hc.1, h.symm, by rw [← h]; exact has_iff.1 hc.2⟩
  · cases h
/-- what is inferred -/
theorem need_inf {R : List Rl} {l : List Inf} {there : List ByteArray} {t : Bs} (h : ¬ 0 < (jF R t).length) (hn : needR R l there t ≠ []) :
    ∃ y ∈ l, y.2 = stB (txt t) ∧ needR R l there t = [stA (txt t) ++ y.1] := by
  unfold needR needF at hn ⊢
  split at hn
  · have : jF R t = [] := List.length_eq_zero_iff.1 (by omega)
    exact absurd this hn
  · rename_i hc
    rw [if_neg hc]
    cases hi : infOf l (saidF R there) (stA (txt t)) (stB (txt t)) with
    | none => rw [hi] at hn; exact absurd rfl hn
    | some x =>
      obtain ⟨y, hy, h1, h2, _⟩ := infOf_some hi
      exact ⟨y, hy, h1, by rw [← h2]; rfl⟩
theorem need_len (R : List Rl) (l : List Inf) (there : List ByteArray) (t : Bs) : (needR R l there t).length ≤ (jF R t).length + 1 := by
  unfold needR needF
  split
  · omega
  · cases infOf l (saidF R there) (stA (txt t)) (stB (txt t)) <;> simp
/-! ### all names are right -/
theorem joinRE_zero {R : List Rl} (h : joinRE R = 0) : R.length ≤ 100 ∧ rulesE R = 0 ∧ (∀ t, (jF R t).length ≤ 64) ∧ (usF R).length ≤ 64 := by
  unfold joinRE at h
  split at h
  · cases h
  · rename_i h1
    split at h
    · rename_i h2; exact absurd h h2
    · rename_i h2
      split at h
      · cases h
      · rename_i h3
        rw [not_or] at h3
        refine ⟨by omega, by simpa using h2, fun t => ?_, ?_⟩
        · rcases Nat.lt_or_ge 64 (jF R t).length with h4 | h4
          · exact absurd ⟨t, h4⟩ h3.1
          · exact h4
        · rcases Nat.lt_or_ge 64 (usF R).length with h4 | h4
          · exact absurd ⟨_, usF_strict R, usF_mem R, h4⟩ h3.2
          · exact h4
theorem jF_names {R : List Rl} (h : rulesE R = 0) {t : Bs} {n : ByteArray} (hn : n ∈ jF R t) : nameE n = 0 := by
  rcases (grpR_mem R _ t).1 hn with hx | ⟨r, hr, _, hx⟩
  · cases hx
  · exact (ruleE_zero.1 (rulesE_all h r hr)).names n (List.mem_append_right _ hx)
theorem usF_names {R : List Rl} (h : rulesE R = 0) {t : Bs} (ht : t ∈ usF R) : nameE (txt t) = 0 := by
  obtain ⟨r, hr, ht⟩ := (usF_mem R t).1 ht
  obtain ⟨s, hs, rfl⟩ := List.mem_map.1 ht
  rw [list_txt]
  exact (ruleE_zero.1 (rulesE_all h r hr)).names s (List.mem_append_left _ hs)
theorem askF_names {R : List Rl} (h : rulesE R = 0) {n : ByteArray} (hn : n ∈ askF (usF R) (jF R)) : nameE n = 0 := by
  obtain ⟨u, hu, hn⟩ := List.mem_flatMap.1 hn
  rcases List.mem_cons.1 hn with rfl | hn
  · exact usF_names h hu
  · exact jF_names h hn
theorem askF_len {R : List Rl} (h : joinRE R = 0) : (askF (usF R) (jF R)).length ≤ 4160 := by
  obtain ⟨_, _, h3, h4⟩ := joinRE_zero h
  have key : ∀ us : List Bs, (askF us (jF R)).length ≤ us.length * 65 := by
    intro us
    induction us with
    | nil => simp [askF]
    | cons u us ih =>
      have e : askF (u :: us) (jF R) = (txt u :: jF R u) ++ askF us (jF R) := rfl
      have := h3 u
      rw [e, List.length_append, List.length_cons, List.length_cons, Nat.succ_mul]
      omega
  have := key (usF R)
  omega
theorem said_names {R : List Rl} {there : List ByteArray} (h : rulesE R = 0) (ht : (there.all fun x => nameE x == 0) = true) {n : ByteArray} (hn : n ∈ saidF R there) : nameE n = 0 := by
  have := sortN_mem_bz.1 hn
  rcases List.mem_append.1 this with hn | hn
  · have := List.all_eq_true.1 ht n hn
    simpa using this
  · exact askF_names h hn
theorem need_names {R : List Rl} {l : List Inf} {there : List ByteArray} (h : rulesE R = 0) (ht : (there.all fun x => nameE x == 0) = true) {t : Bs} {n : ByteArray} (hn : n ∈ needR R l there t) : nameE n = 0 := by
  unfold needR needF at hn
  split at hn
  · exact jF_names h hn
  · cases hi : infOf l (saidF R there) (stA (txt t)) (stB (txt t)) with
    | none => rw [hi] at hn; cases hn
    | some x =>
      rw [hi] at hn
      obtain rfl : n = x := by simpa using hn
      obtain ⟨_, _, _, _, hx⟩ := infOf_some hi
      exact said_names h ht hx
theorem endK_names {R : List Rl} {l : List Inf} {there : List ByteArray} (h : rulesE R = 0) {t : Bs} (ht : t ∈ endK R l there) : nameE (txt t) = 0 := by
  rcases (endK_mem R l there t).1 ht with ht | ⟨_, ht, _⟩
  · exact usF_names h ht
  · exact askF_names h (mem_byt.1 (by rw [txt_list]; exact ht))
theorem fillE_zero {R : List Rl} {l : List Inf} {there : List ByteArray} (h : fillE R l there = 0) : joinRE R = 0 ∧ infE l = 0 ∧ (there.all fun x => nameE x == 0) = true ∧ (saidF R there).length ≤ 64 := by
  unfold fillE at h
  split at h
  · rename_i h1; exact absurd h h1
  · rename_i h1
    split at h
    · rename_i h2; exact absurd h h2
    · rename_i h2
      split at h
      · cases h
      · rename_i h3
        split at h
        · cases h
        · rename_i h4
          exact ⟨by simpa using h1, by simpa using h2, by simpa using h3, by omega⟩
end Go.Proofs.Ytoiolepengcagaa
namespace Go.Proofs.Ytoiolepengcagaa
open Go.RowKit Go.Shelf Go.Maps
theorem concat3w {w : World} {B : Nat} {p1 p2 p3 : Option Addr} {n1 n2 n3 c1 c2 c3 : Nat} {X Y Z : List ByteArray} (h1 : NLw w p1 n1 c1 X) (h2 : NLw w p2 n2 c2 Y) (h3 : NLw w p3 n3 c3 Z) (hsum : n1 + n2 + n3 ≤ 8796093022208)
    (k1 : w.cell? ⟨B, 0, none⟩ = some (.slice p1 n1 c1)) (k2 : w.cell? ⟨B, 1, none⟩ = some (.slice p2 n2 c2)) (k3 : w.cell? ⟨B, 2, none⟩ = some (.slice p3 n3 c3)) (hB : B < w.heap.size) :
    Calls Try.prog 18 #[.slice (some ⟨B, 0, none⟩) 3 3] w (CatPost w (X ++ Y ++ Z)) := by
  have l1 := h1.at_.len
  have l2 := h2.at_.len
  have l3 := h3.at_.len
  subst l1 l2 l3
  have hc : ∀ L : List CPart, L = [⟨p1, X.length, c1, X⟩, ⟨p2, Y.length, c2, Y⟩, ⟨p3, Z.length, c3, Z⟩] → catN L L.length = X ++ Y ++ Z := by
    rintro L rfl
    unfold catN
    simp
  have := concatN_ok B [⟨p1, X.length, c1, X⟩, ⟨p2, Y.length, c2, Y⟩, ⟨p3, Z.length, c3, Z⟩] w (by simp) ⟨fun k hk => by
    match k, hk with
    | 0, _ => exact h1
    | 1, _ => exact h2
    | 2, _ => exact h3, fun k hk => by
    match k, hk with
    | 0, _ => exact k1
    | 1, _ => exact k2
    | 2, _ => exact k3⟩ (by rw [hc _ rfl, List.length_append, List.length_append]; omega) hB
  rw [hc _ rfl] at this
  exact this
/-- all names of the first k rules -/
def askN (l : List (Hd × Hd)) (k : Nat) : List ByteArray := (l.take k).flatMap fun x => x.1.zs ++ x.2.zs
theorem askN_next {l : List (Hd × Hd)} {k : Nat} (h : k < l.length) : askN l (k + 1) = askN l k ++ l[k].1.zs ++ l[k].2.zs := by
  unfold askN
  rw [List.take_add_one, List.getElem?_eq_getElem h, List.flatMap_append]
  simp
theorem askN_le (l : List (Hd × Hd)) (k : Nat) : (askN l k).length ≤ (askN l l.length).length := by
  unfold askN
  have : l.take l.length = l.take k ++ l.drop k := by rw [List.take_length, List.take_append_drop]
  rw [this, List.flatMap_append, List.length_append]
  omega
theorem nlw_none (w : World) : NLw w none 0 0 [] := (NL_none w).weak
theorem nlw_own {w : World} {base n c : Nat} {g : Option Addr} {zs : List ByteArray} (h : w.ownsRow base 9 1 (.slice g n c) n (strsV zs)) (hs : ∀ s ∈ zs, s.size ≤ 4611686018427387904) (hn : n * 16 ≤ 140737488351232) : NLw w g n c zs := (NL_own h hs hn).weak
set_option maxHeartbeats 4000000 in
theorem asked_ok (p : Option Addr) (n c : Nat) (l : List (Hd × Hd)) (w : World) (h : RulesIn w p n c l) (hb : (askN l l.length).length ≤ 1000000) :
    Calls Try.prog 20 #[.slice p n c] w (CatPost w (askN l l.length)) := by
  have hlen := h.at_.len
  have hbig := h.at_.big
  subst hlen
  have HN := Lib.hid (fun u (hu : Below w.heap.size w u) => h.below hu)
  have HSZ : Hid (∀ k, ∀ s ∈ askN l k, s.size ≤ 4611686018427387904) := by
    show ∀ k, _
    intro k s hs
    obtain ⟨x, hx, hs⟩ := List.mem_flatMap.1 hs
    have hx := List.mem_of_mem_take hx
    rcases List.mem_append.1 hs with hs | hs
    · exact (h.ok x hx).1.1.at_.size s hs
    · exact (h.ok x hx).2.1.at_.size s hs
  have HLE := Lib.hid (fun k => Nat.le_trans (askN_le l k) hb)
  clear h hb
  go_enter Try.func20, Try.ntmps20
  go_wp2
  go_loopw [8, 3] (fun i v wr => ∃ (k : Nat) (q : Option Addr) (cq : Nat), k ≤ l.length ∧ i = .int .i64 k ∧ v = .slice q (askN l k).length cq ∧ Hid (Below w.heap.size w wr) ∧ Hid (wr.ownsRow w.heap.size 9 1 (.slice q (askN l k).length cq) (askN l k).length (strsV (askN l k)))) (fun i _ _ => l.length - (intOf i).toNat)
  case atStart => exact ⟨0, none, 0, Nat.zero_le _, rfl, rfl, Below.refl _ _, World.ownsRow_nil _ _ _ _⟩
  case round =>
    obtain ⟨k, q, cq, hk, rfl, rfl, HW, HO⟩ := hrel
    by_cases hlt : k < l.length
    · have hel := List.getElem?_eq_getElem hlt
      obtain ⟨b, o, rfl, hb, c1, c2⟩ := (HN.out _ HW.out).at_.cell hel
      have hok := (HN.out _ HW.out).ok _ (List.getElem_mem hlt)
      have HNX := Lib.hid (askN_next hlt)
      have HLK := Lib.hid (HLE.out (k + 1))
      have hlk := HLE.out k
      rw [← Nat.add_assoc] at c2
      clear hel
      generalize l[k] = y at *
      obtain ⟨⟨p1, n1, cc1, T⟩, ⟨p2, n2, cc2, N⟩⟩ := y
      simp only [rF, rG, Hd.v] at c1 c2 HNX
      obtain ⟨⟨k1, k2⟩, ⟨k3, k4⟩⟩ := hok
      simp only at k1 k2 k3 k4
      have hk1 : (k : Int) < (l.length : Int) := by omega
      have l1 := k1.at_.len
      have l2 := k3.at_.len
      subst l1 l2
      have hnl := nlw_own HO.out (HSZ.out k) (by omega)
      obtain ⟨W0, hW0⟩ : ∃ W0, W0 = wr.alloc (.cells #[.slice p1 T.length cc1, .slice p2 N.length cc2] 31) := ⟨_, rfl⟩
      have hb0 : Below wr.heap.size wr W0 := by rw [hW0]; exact rb1 wr _
      have hs0 : W0.heap.size = wr.heap.size + 1 := by rw [hW0]; simp
      have cx0 : W0.cell? ⟨wr.heap.size, 0, none⟩ = some (.slice p1 T.length cc1) := by rw [hW0]; simp
      have cx1 : W0.cell? ⟨wr.heap.size, 1, none⟩ = some (.slice p2 N.length cc2) := by rw [hW0]; simp
      obtain ⟨W1, hW1⟩ : ∃ W1, W1 = W0.alloc (.cells #[.slice q (askN l k).length cq, .slice p1 T.length cc1, .slice p2 N.length cc2] 24) := ⟨_, rfl⟩
      have hb1 : Below W0.heap.size W0 W1 := by rw [hW1]; exact rb1 W0 _
      have hb01 : Below wr.heap.size wr W1 := hb0.trans (hb1.mono hb0.size)
      have HC := Lib.hid (concat3w (hnl.below hb01) (k1.below hb01) (k3.below hb01) (by have := HLK.out; rw [HNX.out] at this; simp only [List.length_append] at this; omega) (B := W0.heap.size) (by rw [hW1]; simp) (by rw [hW1]; simp) (by rw [hW1]; simp) (by rw [hW1]; simp))
      rw [← HNX.out] at HC
      have HB1 := Lib.hid (HW.out.trans (hb01.mono HW.out.size))
      have hs1 : w.heap.size ≤ W1.heap.size := HB1.out.size
      clear k1 k3 hnl hb01 hb1 hb0
      rw [hs0] at HC
      go_upto_region 5 with fail
      rw [← hW0]
      clear hW0 c1 c2
      go_wp2_with (go_at_call 18; rw [← hW1]; refine HC.out.mono ?_; rintro e w2 ⟨q2, c2, rfl, hown, hb2⟩; have HO2 := Lib.hid hown; have HB2 := Lib.hid hb2; clear hown hb2)
      go_roundw
      case rel => exact ⟨k + 1, q2, c2, by omega, by go_num, rfl, HB1.out.trans (HB2.out.mono hs1), World.ownsRow.mono HO2.out hs1⟩
      case measure => simp [intOf]; omega
    · obtain rfl : k = l.length := by omega
      go_wp2
      go_ret
      exact ⟨q, cq, rfl, HO.out, HW.out⟩
end Go.Proofs.Ytoiolepengcagaa
namespace Go.Proofs.Ytoiolepengcagaa
open Go.RowKit Go.Shelf
def parseT (s : Bs) : List ByteArray := wb (s.take (Lib.indexByte s 58).toNat)
def parseN (s : Bs) : List ByteArray := wb (s.drop ((Lib.indexByte s 58).toNat + 1))
def parseE (s : Bs) : Int := if Lib.indexByte s 58 < 0 then 3 else ruleE (parseT s) (parseN s)
theorem wb_trm (s : ByteArray) : wb (trm s).data.toList = wb s.data.toList := by
  unfold wb trm
  rw [txt_list, words_trim]
/-- what Parse answers -/
def ParsePost (w : World) (s : Bs) (e : Ending) (w' : World) : Prop :=
  (∃ v, e = .returned (.tuple #[v, .int .i64 (parseE s)]) ∧ ((parseE s ≠ 0 ∧ v = nilRule) ∨ (parseE s = 0 ∧ RuleIn w' v (parseT s) (parseN s)))) ∧ Below w.heap.size w w'
theorem trm_size (s : ByteArray) : (trm s).size ≤ s.size := by
  unfold trm
  rw [txt_size, Lib.size_eq]
  unfold Lib.trimS Lib.trimLeftS Lib.trimRightS
  have h : ∀ (p : UInt8 → Bool) (l : Bs), (l.dropWhile p).length ≤ l.length := fun p l => by
    obtain ⟨u, e, _⟩ := dropWhile_split p l
    have := congrArg List.length e
    rw [List.length_append] at this
    omega
  refine Nat.le_trans (h _ _) ?_
  rw [List.length_reverse]
  refine Nat.le_trans (h _ _) ?_
  rw [List.length_reverse]
  exact Nat.le_refl _
theorem cell_other (w : World) (b j : Nat) (u : Value) {k o : Nat} (h : k ≠ b) : (w.setCell ⟨b, j, none⟩ u).cell? ⟨k, o, none⟩ = w.cell? ⟨k, o, none⟩ := by
  have := heap_setCell_other w ⟨b, j, none⟩ k u h
  simp only [World.cell?, this]
theorem NL_move {w w' : World} {g n c : Nat} {zs : List ByteArray} (h : NL w (some ⟨g, 0, none⟩) n c zs) (hc : ∀ o, w'.cell? ⟨g, o, none⟩ = w.cell? ⟨g, o, none⟩) (hg : g < w'.heap.size) : NL w' (some ⟨g, 0, none⟩) n c zs := by
  refine ⟨⟨h.at_.len, ⟨h.at_.reads.1, fun h0 => ?_⟩, h.at_.size, h.at_.big⟩, h.nil, fun ad e => ?_, h.reach⟩
  · obtain ⟨ad, e, _, hcell⟩ := h.at_.reads.2 h0
    injection e with e
    subst e
    refine ⟨_, rfl, hg, fun j u hu => ?_⟩
    have := hcell j u hu
    rw [Addr.add_lit] at this ⊢
    rw [hc]; exact this
  · injection e with e
    subst e
    exact ⟨g, 0, rfl, hg⟩
theorem index_lt {l : Bs} {c : UInt8} {k : Nat} (h : Lib.indexByte l c = k) : k < l.length := by
  induction l generalizing k with
  | nil => simp [Lib.indexByte] at h
  | cons b l ih =>
    unfold Lib.indexByte at h
    rw [List.length_cons]
    split at h
    · omega
    · split at h
      · omega
      · cases k with
        | zero => omega
        | succ k => have := ih (k := k) (by omega); omega
end Go.Proofs.Ytoiolepengcagaa
namespace Go.Proofs.Ytoiolepengcagaa
open Go.RowKit Go.Shelf
theorem own_belowR {w w' : World} {base e n k : Nat} {v : Value} {xs : List Value} (h : w.ownsRow base e k v n xs) (hb : Below w.heap.size w w') : w'.ownsRow base e k v n xs := by
  refine h.kept (row := none) ⟨hb.os, hb.tape, hb.output, hb.size, fun k hk _ => hb.block k hk⟩ ?_
  cases hv : v.ownBlock
  · exact .inl rfl
  · exact .inr (by simp)
/-- a row of strings of the call's own, at its block -/
def RowS (w : World) (base g : Nat) (T : List ByteArray) : Prop := w.ownsRow base 9 1 (.slice (some ⟨g, 0, none⟩) T.length T.length) T.length (strsV T) ∧ (∀ s ∈ T, s.size ≤ 4611686018427387904) ∧ T.length ≤ 1048577
theorem RowS.nl {w : World} {base g : Nat} {T : List ByteArray} (h : RowS w base g T) : NL w (some ⟨g, 0, none⟩) T.length T.length T := NL_own h.1 h.2.1 (by have := h.2.2; omega)
theorem RowS.lt {w : World} {base g : Nat} {T : List ByteArray} (h : RowS w base g T) : base ≤ g ∧ g < w.heap.size := h.1.lt g rfl
theorem RowS.grown {w w' : World} {base g : Nat} {T : List ByteArray} {row : Option Nat} (h : RowS w base g T) (hg : w.grownBy w' row) (hr : row ≠ some g) : RowS w' base g T :=
  ⟨h.1.kept hg (.inr (fun e => hr e.symm)), h.2⟩
theorem RowS.below {w w' : World} {base g : Nat} {T : List ByteArray} (h : RowS w base g T) (hb : Below w.heap.size w w') : RowS w' base g T := ⟨own_belowR h.1 hb, h.2⟩
theorem RowS.weaken {w : World} {base b g : Nat} {T : List ByteArray} (h : RowS w base g T) (hb : b ≤ base) : RowS w b g T := by
  refine ⟨⟨h.1.1, ?_⟩, h.2⟩
  rcases h.1.2 with h1 | ⟨g', cap, cur, h1, h2, h3⟩
  · exact .inl h1
  · exact .inr ⟨g', cap, cur, h1, Nat.le_trans hb h2, h3⟩
/-- what Parse answers, and whose it is -/
def ParsePostO (w : World) (s : Bs) (e : Ending) (w' : World) : Prop :=
  (∃ v, e = .returned (.tuple #[v, .int .i64 (parseE s)]) ∧ ((parseE s ≠ 0 ∧ v = nilRule) ∨ (parseE s = 0 ∧ ∃ g1 g2, v = .agg #[.slice (some ⟨g1, 0, none⟩) (parseT s).length (parseT s).length, .slice (some ⟨g2, 0, none⟩) (parseN s).length (parseN s).length] ∧ RowS w' w.heap.size g1 (parseT s) ∧ RowS w' w.heap.size g2 (parseN s) ∧ g1 ≠ g2))) ∧ Below w.heap.size w w'
theorem RowS.move {w w' : World} {base g : Nat} {T : List ByteArray} (h : RowS w base g T) (hc : w'.heap[g]? = w.heap[g]?) : RowS w' base g T := by
  refine ⟨⟨h.1.1, ?_⟩, h.2⟩
  rcases h.1.2 with h1 | ⟨g', cap, cur, h1, h2, h3, h4⟩
  · exact .inl h1
  · injection h1 with e1 e2 e3
    injection e1 with e1
    injection e1 with e1
    subst e1
    exact .inr ⟨g, cap, cur, by rw [e3], h2, hc.trans h3, h4⟩
end Go.Proofs.Ytoiolepengcagaa
namespace Go.Proofs.Ytoiolepengcagaa
open Go.RowKit Go.Shelf Go.Maps
theorem MapH.block {w : World} {B n : Nat} {ks : List Bs} {h : Bs → Value} (hm : MapH w B n ks h) : ∃ es clock, w.heap[B]? = some (.map es clock) := by
  obtain ⟨D, ⟨es, clock, h1, _⟩, _⟩ := hm
  exact ⟨es, clock, h1⟩
/-- a row of cells is no map -/
theorem own_nomap {w : World} {lo e k n B : Nat} {v : Value} {xs : List Value} {es : Array MapEntry} {clock : Nat} (h : w.ownsRow lo e k v n xs) (hb : w.heap[B]? = some (.map es clock)) : v.ownBlock = none ∨ v.ownBlock ≠ some B := by
  rcases h.2 with ⟨rfl, _⟩ | ⟨g, cap, cur, rfl, _, hg, _⟩
  · exact .inl rfl
  · right
    intro e
    simp only [Value.ownBlock, Option.some.injEq] at e
    subst e
    rw [hg] at hb
    cases hb
/-- a slice that reads is no map -/
theorem NLw.nomap {w w' : World} {p : Option Addr} {n c B : Nat} {zs : List ByteArray} {es : Array MapEntry} {clock : Nat} (h : NLw w p n c zs) (hb : w.heap[B]? = some (.map es clock)) (hg : w.grownBy w' (some B)) : NLw w' p n c zs := by
  refine ⟨⟨h.at_.len, ⟨h.at_.reads.1, fun hn => ?_⟩, h.at_.size, h.at_.big⟩, fun hn ad e => ?_, h.reach⟩
  · obtain ⟨ad, e, hlt, hc⟩ := h.at_.reads.2 hn
    obtain ⟨b, o, e2, hbl⟩ := h.plain hn ad e
    subst e2
    have hne : b ≠ B := by
      rintro rfl
      obtain ⟨ad2, e2, _, hc2⟩ := str_at h.at_.reads hn
      rw [e] at e2
      injection e2 with e2
      subst e2
      rw [Addr.add_lit] at hc2
      unfold World.cell? at hc2
      simp only [hb] at hc2
      cases hc2
    refine ⟨_, e, Nat.lt_of_lt_of_le hlt hg.size, ?_⟩
    intro k x hx
    rw [← hc k x hx]
    unfold World.cell?
    simp only [Addr.add_lit]
    rw [hg.block b hbl (fun e => hne (by injection e))]
  · obtain ⟨b, o, e2, hbl⟩ := h.plain hn ad e
    exact ⟨b, o, e2, Nat.lt_of_lt_of_le hbl hg.size⟩
theorem NL.nomap {w w' : World} {p : Option Addr} {n c B : Nat} {zs : List ByteArray} {es : Array MapEntry} {clock : Nat} (h : NL w p n c zs) (hb : w.heap[B]? = some (.map es clock)) (hg : w.grownBy w' (some B)) : NL w' p n c zs :=
  ⟨(h.weak.nomap hb hg).at_, h.nil, fun ad e => by
    obtain ⟨b, o, e2, hbl⟩ := h.plain ad e
    exact ⟨b, o, e2, Nat.lt_of_lt_of_le hbl hg.size⟩, h.reach⟩
/-- a map of rows that stay -/
structure MapR (w : World) (B n lo : Nat) (ks : List Bs) (h : Bs → Value) (g : Bs → List ByteArray) : Prop where
  map : MapH w B n ks h
  row : ∀ s, w.ownsRow lo 9 1 (h s) (g s).length (strsV (g s))
theorem MapR.below {w w' : World} {B n lo : Nat} {ks : List Bs} {h : Bs → Value} {g : Bs → List ByteArray} (hm : MapR w B n lo ks h g) (hb : Below w.heap.size w w') : MapR w' B n lo ks h g :=
  ⟨hm.map.kept (grown_below hb) (by simp), fun s => own_belowR (hm.row s) hb⟩
theorem MapR.store {w w' : World} {B n lo : Nat} {ks : List Bs} {h : Bs → Value} {g : Bs → List ByteArray} {u : Bs} {v : Value} {zs : List ByteArray} (hm : MapR w B n lo ks h g) (hv : w.ownsRow lo 9 1 v zs.length (strsV zs))
    (hM : MapH w' B (n + 1) (u :: ks) (upd h u v)) (hg : w.grownBy w' (some B)) : MapR w' B (n + 1) lo (u :: ks) (upd h u v) (upd g u zs) := by
  obtain ⟨es, clock, hb⟩ := hm.map.block
  refine ⟨hM, fun s => ?_⟩
  by_cases hs : s = u
  · subst hs
    rw [upd_same, upd_same]
    exact hv.kept hg (own_nomap hv hb)
  · rw [upd_other _ _ hs, upd_other _ _ hs]
    exact (hm.row s).kept hg (own_nomap (hm.row s) hb)
theorem sortedKeysM {w : World} {B n : Nat} {ks : List Bs} {h : Bs → Value} (hM : MapH w B n ks h) (hn : n ≤ 8796093022208) :
    Calls Try.prog 22 #[.func (.func 37) #[] #[.pointer (some ⟨w.heap.size, 0, none⟩)]] (w.alloc (.cells #[.map (some B)] 47)) fun e w' => ∃ (q : Option Addr) (c : Nat) (us : List Bs), e = .returned (.slice q us.length c) ∧ us.Pairwise (· < ·) ∧ (∀ t, t ∈ us ↔ t ∈ ks) ∧ us.length ≤ n ∧
      w'.ownsRow (w.heap.size + 1) 9 1 (.slice q us.length c) us.length (us.map encStr) ∧ Below (w.heap.size + 1) (w.alloc (.cells #[.map (some B)] 47)) w' := by
  obtain ⟨D, h1, h2, h3, h4⟩ := hM.keys
  have hs : (w.alloc (.cells #[.map (some B)] 47)).heap.size = w.heap.size + 1 := by simp
  refine (callsIn_wide.1 (Try.sorted_keys B n D rawE w h1 (by unfold maxLen; omega) (by omega))).mono ?_
  rintro e w' ⟨v, ss, rfl, hp, hown, _, hb⟩
  have hln : ss.length = (ss.mergeSort fun x y => decide (x ≤ y)).length := (List.length_mergeSort ss).symm
  have hsz : ss.length ≤ n := by
    have : (strKeys D).length = Maps.size D := by cases D <;> simp [strKeys, Maps.size]
    rw [hp.length_eq, this]; exact h2
  rw [hs] at hown hb
  obtain ⟨q, c, rfl⟩ : ∃ q c, v = .slice q ss.length c := by
    rcases hown.2 with ⟨rfl, h0⟩ | ⟨g', cap, _, rfl, _⟩
    · exact ⟨none, 0, by rw [h0]⟩
    · exact ⟨_, _, rfl⟩
  refine ⟨q, c, ss.mergeSort fun x y => decide (x ≤ y), by rw [← hln], strict_sorted (merge_le ss) (hp.nodup_iff.2 h3), fun t => ?_, by omega, by rw [← hln]; exact hown, hb⟩
  rw [(List.mergeSort_perm ss _).mem_iff, hp.mem_iff, h4]
theorem own_capR {w : World} {lo e n c : Nat} {p : Option Addr} {xs : List Value} (h : w.ownsRow lo e 1 (.slice p n c) n xs) : n ≤ c := by
  rcases h.2 with ⟨hv, rfl⟩ | ⟨g, cap, cur, hv, _, _, h3, _⟩
  · omega
  · injection hv with _ _ e
    subst e
    exact h3
theorem grown_any {w w' : World} {r : Option Nat} (hb : Below w.heap.size w w') : w.grownBy w' r := ⟨hb.os, hb.tape, hb.output, hb.size, fun k hk _ => hb.block k hk⟩
/-- what Join answers, read -/
theorem join_reads (p : Option Addr) (n c : Nat) (l : List (Hd × Hd)) (w : World) (hR : RulesIn w p n c l) (h0 : joinRE (l.map rl) = 0) :
    Calls Try.prog 6 #[.slice p n c] w fun e w' => (∃ (q : Option Addr) (d : Nat) (h : Bs → Value) (rs : List (Hd × Hd)), e = .returned (.tuple #[.slice q (usF (l.map rl)).length d, .int .i64 0]) ∧ RulesIn w' q (usF (l.map rl)).length d rs ∧
      rs.map (fun x => (x.1.zs, x.2)) = (usF (l.map rl)).map (fun u => ([txt u], hdOf (h u) (jF (l.map rl) u))) ∧ ∀ s, w'.ownsRow w.heap.size 9 1 (h s) (jF (l.map rl) s).length (strsV (jF (l.map rl) s))) ∧ Below w.heap.size w w' := by
  obtain ⟨_, hru, hj64, hu64⟩ := joinRE_zero h0
  refine (JoinR_ok p n c l w hR).mono ?_
  rintro e w' ⟨v, E, rfl, hE, _, hb, hz⟩
  rw [h0] at hE
  subst hE
  obtain ⟨q, d, lo, lo2, us, h, rs, rfl, hs, hm, hl64, hlo, hlo2, hown, hmap, hT, hdis, hrow, _, _⟩ := hz rfl
  obtain rfl := usF_uniq hs hm
  have hmap : rs.map (fun x => (x.1.zs, x.2)) = (usF (l.map rl)).map (fun u => ([txt u], hdOf (h u) (jF (l.map rl) u))) := hmap
  have hlen : rs.length = (usF (l.map rl)).length := by have := congrArg List.length hmap; simpa using this
  refine ⟨⟨q, d, h, rs, rfl, ⟨P2At.own hown (by omega), fun x hx => ?_, ?_⟩, hmap, fun s => World.ownsRow.mono (hrow s) hlo⟩, hb⟩
  · have hx1 := hT x hx
    have hxm : (x.1.zs, x.2) ∈ (usF (l.map rl)).map (fun u => ([txt u], hdOf (h u) (jF (l.map rl) u))) := by rw [← hmap]; exact List.mem_map_of_mem hx
    obtain ⟨u, hu, he⟩ := List.mem_map.1 hxm
    injection he with he1 he2
    obtain ⟨⟨p1, n1, c1, z1⟩, x2⟩ := x
    simp only [Hd.v] at hx1 he1 he2
    subst he1
    have hn1 : n1 = [txt u].length := by
      rcases hx1.2 with ⟨hv, h1⟩ | ⟨g, cap, cur, hv, _⟩
      · cases h1
      · injection hv
    subst hn1
    have hut := usF_names hru hu
    obtain ⟨p2, c2, hv2, hh2⟩ := hdOf_v (hrow u) (jF (l.map rl) u)
    have hr2 := hrow u
    have hv2' : h u = .slice p2 (jF (l.map rl) u).length c2 := hv2
    have hh2' : hdOf (h u) (jF (l.map rl) u) = ⟨p2, (jF (l.map rl) u).length, c2, jF (l.map rl) u⟩ := hh2
    rw [hh2'] at he2
    subst he2
    rw [hv2'] at hr2
    refine ⟨⟨nlw_own hx1 (fun s hs => ?_) (by simp), own_capR hx1⟩, ⟨nlw_own hr2 (fun s hs => ?_) (by have := hj64 u; show (jF (l.map rl) u).length * 16 ≤ _; omega), own_capR hr2⟩⟩
    · rw [List.mem_singleton.1 hs]
      have := nameE_size hut
      omega
    · have := nameE_size (jF_names hru hs)
      omega
  · rcases hown.2 with ⟨hv, h1⟩ | ⟨g, cap, cur, hv, _, _, h3, _⟩
    · injection hv with _ h2 h3; omega
    · injection hv with _ _ e
      subst e
      exact h3
theorem hdOf_zs (v : Value) (zs : List ByteArray) : (hdOf v zs).zs = zs := by
  unfold hdOf
  cases v <;> rfl
/-- rules that were laid one by one read -/
theorem rules_laid {w : World} {lo lo2 n : Nat} {p : Option Addr} {c : Nat} {vs : List Bs} {h : Bs → Value} {g : Bs → List ByteArray} {rs : List (Hd × Hd)} (hown : w.ownsRow lo2 31 2 (.slice p n c) n (cells2 rF rG rs)) (hbig : n ≤ 8796093022208)
    (hT : ∀ x ∈ rs, w.ownsRow lo2 9 1 x.1.v x.1.zs.length (strsV x.1.zs)) (hmap : rs.map (fun x => (x.1.zs, x.2)) = vs.map (fun u => ([txt u], hdOf (h u) (g u)))) (hrow : ∀ s, w.ownsRow lo 9 1 (h s) (g s).length (strsV (g s)))
    (hvn : ∀ u ∈ vs, nameE (txt u) = 0) (hgn : ∀ u, ∀ x ∈ g u, nameE x = 0) (hgl : ∀ u, (g u).length ≤ 1000) : RulesIn w p n c rs ∧ rs.map rl = vs.map fun u => ([txt u], g u) := by
  constructor
  · refine ⟨P2At.own hown hbig, fun x hx => ?_, ?_⟩
    · have hx1 := hT x hx
      have hxm : (x.1.zs, x.2) ∈ vs.map (fun u => ([txt u], hdOf (h u) (g u))) := by rw [← hmap]; exact List.mem_map_of_mem hx
      obtain ⟨u, hu, he⟩ := List.mem_map.1 hxm
      injection he with he1 he2
      obtain ⟨⟨p1, n1, c1, z1⟩, x2⟩ := x
      simp only [Hd.v] at hx1 he1 he2
      subst he1
      have hn1 : n1 = [txt u].length := by
        rcases hx1.2 with ⟨hv, h1⟩ | ⟨g, cap, cur, hv, _⟩
        · cases h1
        · injection hv
      subst hn1
      have hut := hvn u hu
      obtain ⟨p2, c2, hv2, hh2⟩ := hdOf_v (hrow u) (g u)
      have hr2 := hrow u
      rw [hh2] at he2
      subst he2
      rw [hv2] at hr2
      refine ⟨⟨nlw_own hx1 (fun s hs => ?_) (by simp), own_capR hx1⟩, ⟨nlw_own hr2 (fun s hs => ?_) (by have := hgl u; show (g u).length * 16 ≤ _; omega), own_capR hr2⟩⟩
      · rw [List.mem_singleton.1 hs]
        have := nameE_size hut
        omega
      · have := nameE_size (hgn u s hs)
        omega
    · rcases hown.2 with ⟨hv, h1⟩ | ⟨g, cap, cur, hv, _, _, h3, _⟩
      · injection hv with _ h2 h3; omega
      · injection hv with _ _ e
        subst e
        exact h3
  · have := congrArg (List.map fun q : List ByteArray × Hd => (q.1, q.2.zs)) hmap
    rw [List.map_map, List.map_map] at this
    refine Eq.trans (Eq.trans ?_ this) ?_
    · rfl
    · refine List.map_congr_left fun u _ => ?_
      show ([txt u], (hdOf (h u) (g u)).zs) = _
      rw [hdOf_zs]
def FillPost (w : World) (R : List Rl) (l : List Inf) (there : List ByteArray) (e : Ending) (w' : World) : Prop :=
  (∃ v, e = .returned (.tuple #[v, .int .i64 (fillE R l there)]) ∧ (fillE R l there ≠ 0 → v = nilS) ∧
    (fillE R l there = 0 → ∃ (p : Option Addr) (c : Nat) (l' : List (Hd × Hd)), v = .slice p (endK R l there).length c ∧ RulesIn w' p (endK R l there).length c l' ∧ l'.map rl = (endK R l there).map fun u => ([txt u], needR R l there u))) ∧ Below w.heap.size w w'
theorem FillPost.err {w w' : World} {R : List Rl} {l : List Inf} {there : List ByteArray} {E : Int} (h : fillE R l there = E) (h0 : E ≠ 0) (hb : Below w.heap.size w w') : FillPost w R l there (.returned (.tuple #[nilS, .int .i64 E])) w' :=
  ⟨⟨nilS, by rw [h], fun _ => rfl, fun e => absurd (h.symm.trans e) h0⟩, hb⟩
set_option maxHeartbeats 8000000 in
set_option maxRecDepth 100000 in
theorem Fill_ok (p q s : Option Addr) (n c mI dI t f : Nat) (rs : List (Hd × Hd)) (l : List Inf) (zs : List ByteArray) (w : World) (hR : RulesIn w p n c rs) (hI : InfsIn w q mI dI l) (hZ : NL w s t f zs) (hzb : t ≤ 1048576) :
    Calls Try.prog 5 #[.slice p n c, .slice q mI dI, .slice s t f] w (FillPost w (rs.map rl) l zs) := by
  by_cases hJ : joinRE (rs.map rl) = 0
  case neg =>
    have hJ1 : Calls Try.prog 6 #[.slice p n c] w fun e w' => e = .returned (.tuple #[.slice none 0 0, .int .i64 (joinRE (rs.map rl))]) ∧ Below w.heap.size w w' := by
      refine (JoinR_ok p n c rs w hR).mono ?_
      rintro e w' ⟨v, E, rfl, hE, hv, hb, _⟩
      subst hE
      rw [hv hJ]
      exact ⟨rfl, hb⟩
    have HE : Hid (fillE (rs.map rl) l zs = joinRE (rs.map rl)) := by show _ = _; unfold fillE; rw [if_pos hJ]
    have HJ := Lib.hid hJ1
    obtain ⟨i1, i2⟩ := int_ne' hJ
    have HNE := Lib.hid hJ
    clear hJ1 hR hI hZ hJ
    generalize joinRE (rs.map rl) = E at *
    go_enter Try.func5, Try.ntmps5
    go_wp2_with (go_at_call 6; refine HJ.out.mono ?_; rintro e w1 ⟨rfl, hb⟩; have HB := Lib.hid hb; clear hb)
    go_ret2
    exact FillPost.err HE.out HNE.out HB.out
  case pos =>
  have HJ := Lib.hid (join_reads p n c rs w hR hJ)
  have HIN := Lib.hid (fun u (hu : Below w.heap.size w u) => CheckI_ok q mI dI l u (hI.below hu))
  have HNM := Lib.hid (fun u (hu : Below w.heap.size w u) => names_ok s t f zs u (hZ.below hu))
  by_cases hI0 : infE l = 0
  case neg =>
    have HE : Hid (fillE (rs.map rl) l zs = infE l) := by show _ = _; unfold fillE; rw [if_neg (fun e => e hJ), if_pos hI0]
    obtain ⟨i1, i2⟩ := int_ne' hI0
    have HNE := Lib.hid hI0
    clear hR hI hZ hJ hI0
    generalize infE l = E at *
    go_enter Try.func5, Try.ntmps5
    go_wp2_with (first
      | (go_at_call 6; refine HJ.out.mono ?_; rintro e w1 ⟨⟨qj, dj, _, _, rfl, _⟩, hb⟩; have HB := Lib.hid hb; clear hb)
      | (go_at_call 16; refine (HIN.out _ HB.out).mono ?_; rintro e w2 ⟨rfl, hb⟩; have HB2 := Lib.hid (HB.out.trans (hb.mono HB.out.size)); clear hb))
    go_ret2
    exact FillPost.err HE.out HNE.out HB2.out
  case pos =>
  by_cases hN : (zs.all fun x => nameE x == 0) = true
  case neg =>
    have hN : (zs.all fun x => nameE x == 0) = false := by simpa using hN
    have HE : Hid (fillE (rs.map rl) l zs = 3) := by show _ = _; unfold fillE; rw [if_neg (fun e => e hJ), if_neg (fun e => e hI0), if_pos hN]
    rw [hI0] at HIN
    rw [if_pos hN] at HNM
    clear hR hI hZ hJ hI0 hN
    go_enter Try.func5, Try.ntmps5
    go_wp2_with (first
      | (go_at_call 6; refine HJ.out.mono ?_; rintro e w1 ⟨⟨qj, dj, _, _, rfl, _⟩, hb⟩; have HB := Lib.hid hb; clear hb)
      | (go_at_call 16; refine (HIN.out _ HB.out).mono ?_; rintro e w2 ⟨rfl, hb⟩; have HB2 := Lib.hid (HB.out.trans (hb.mono HB.out.size)); clear hb)
      | (go_at_call 17; refine (HNM.out _ HB2.out).mono ?_; rintro e w3 ⟨rfl, hb⟩; have HB3 := Lib.hid (HB2.out.trans (hb.mono HB2.out.size)); clear hb))
    go_ret2
    exact FillPost.err HE.out (by decide) HB3.out
  case pos =>
  have hmk := @run_makeMap Try.prog
  obtain ⟨_, hru, hj64, hu64⟩ := joinRE_zero hJ
  have HE0 : Hid (fillE (rs.map rl) l zs = if 64 < (saidF (rs.map rl) zs).length then 2 else 0) := by
    show _ = _
    unfold fillE
    rw [if_neg (fun e => e hJ), if_neg (fun e => e hI0), if_neg (by rw [hN]; decide)]
  have HRU := Lib.hid hru
  have HNN := Lib.hid hN
  have HJ64 := Lib.hid hj64
  have HU64 := Lib.hid hu64
  have HAL := Lib.hid (askF_len hJ)
  have HIS := Lib.hid (infE_size hI0)
  have HI := Lib.hid (fun u (hu : Below w.heap.size w u) => hI.below hu)
  have HZ := Lib.hid (fun u (hu : Below w.heap.size w u) => hZ.below hu)
  have hzl := hZ.at_.len
  have hzr := hZ.reach
  subst hzl
  rw [hI0] at HIN
  rw [if_neg (by rw [hN]; decide)] at HNM
  have HUN : Hid (∀ u ∈ usF (rs.map rl), nameE (txt u) = 0) := fun u hu => usF_names hru hu
  have HJN : Hid (∀ u, ∀ n ∈ jF (rs.map rl) u, nameE n = 0) := fun u n hn => jF_names hru hn
  have HAN : Hid (∀ n ∈ askF (usF (rs.map rl)) (jF (rs.map rl)), nameE n = 0) := fun n hn => askF_names hru hn
  have HSN : Hid (∀ n ∈ zs, nameE n = 0) := by
    show ∀ n ∈ zs, _
    intro n hn
    have := List.all_eq_true.1 hN n hn
    simpa using this
  have HJNIL : Hid (∀ t, t ∉ usF (rs.map rl) → jF (rs.map rl) t = []) := fun t ht => jF_nil ht
  have HSAID : Hid (saidF (rs.map rl) zs = bz (sortN (zs ++ askF (usF (rs.map rl)) (jF (rs.map rl))))) := rfl
  have HEND : Hid (∀ (ks ks2 : List Bs) (g : Bs → List ByteArray) (vs : List Bs), (∀ t, t ∈ ks ↔ t ∈ usF (rs.map rl)) → (ks2, g) = (askF (usF (rs.map rl)) (jF (rs.map rl))).foldl (fillS l (saidF (rs.map rl) zs)) (ks, jF (rs.map rl)) → vs.Pairwise (· < ·) → (∀ t, t ∈ vs ↔ t ∈ ks2) → vs = endK (rs.map rl) l zs ∧ g = needR (rs.map rl) l zs) := by
    show ∀ (ks ks2 : List Bs) (g : Bs → List ByteArray) (vs : List Bs), _
    intro ks ks2 g vs hk he hv hm
    obtain ⟨e1, e2⟩ := fill_end l (saidF (rs.map rl) zs) (usF (rs.map rl)) ks (jF (rs.map rl)) hk
    rw [← he] at e1 e2
    exact ⟨endK_uniq hv (fun t => (hm t).trans (e2 t)), e1⟩
  have HEN : Hid (∀ t ∈ endK (rs.map rl) l zs, nameE (txt t) = 0) := fun t ht => endK_names hru ht
  have HNE : Hid (∀ t, ∀ n ∈ needR (rs.map rl) l zs t, nameE n = 0) := fun t n hn => need_names hru hN hn
  have HNL : Hid (∀ t, (needR (rs.map rl) l zs t).length ≤ 65) := by
    show ∀ t, _
    intro t
    have := need_len (rs.map rl) l zs t
    have := hj64 t
    omega
  clear hR hI hZ hJ hI0 hN hru hj64 hu64
  unfold FillPost
  generalize rs.map rl = R at *
  obtain ⟨SD, hSD⟩ : ∃ SD, SD = saidF R zs := ⟨_, rfl⟩
  rw [← hSD] at HE0 HSAID HEND
  clear hSD
  generalize usF R = us at *
  generalize jF R = J at *
  obtain ⟨i1, hi1, hy0, hy1, hy2⟩ := info_parts info_ruleJ
  go_enter Try.func5, Try.ntmps5
  go_upto_region 8 with (first
    | (go_at_call 6; refine HJ.out.mono ?_; rintro e w1 ⟨⟨qj, dj, h, js, rfl, hjs, hmap, hrow⟩, hb⟩; have HJS := Lib.hid hjs; have HMP := Lib.hid hmap; have HRW := Lib.hid hrow; have HB := Lib.hid hb; clear hjs hmap hrow hb)
    | (go_at_call 16; refine (HIN.out _ HB.out).mono ?_; rintro e w2 ⟨rfl, hb⟩; have HB2 := Lib.hid (HB.out.trans (hb.mono HB.out.size)); have HC2 := Lib.hid hb; clear hb)
    | (go_at_call 17; refine (HNM.out _ HB2.out).mono ?_; rintro e w3 ⟨rfl, hb⟩; have HB3 := Lib.hid (HB2.out.trans (hb.mono HB2.out.size)); have HC3 := Lib.hid (HC2.out.trans (hb.mono HC2.out.size)); clear hb))
  have HJS3 := Lib.hid (fun u (hu : Below w3.heap.size w3 u) => (HJS.out.below HC3.out).below hu)
  have HRW3 := Lib.hid (fun s => own_belowR (HRW.out s) HC3.out)
  have hb3 := HB3.out.size
  have hjl : js.length = us.length := by have := congrArg List.length HMP.out; simpa using this
  have HJL := Lib.hid hjl
  clear hjl
  have HAT : Hid (∀ (k : Nat) (y : Hd × Hd), js[k]? = some y → ∃ u, us[k]? = some u ∧ y.1.zs = [txt u] ∧ y.2 = hdOf (h u) (J u)) := by
    show ∀ (k : Nat) (y : Hd × Hd), _
    intro k y hy
    have h1 := congrArg (fun z : List (List ByteArray × Hd) => z[k]?) HMP.out
    simp only [List.getElem?_map, hy, Option.map_some] at h1
    cases hu : us[k]? with
    | none => rw [hu] at h1; cases h1
    | some u =>
      rw [hu] at h1
      simp only [Option.map_some, Option.some.injEq, Prod.mk.injEq] at h1
      exact ⟨u, rfl, h1.1, h1.2⟩
  have HASK : Hid (askN js js.length = askF us J) := by
    show _ = _
    unfold askN askF
    rw [List.take_length]
    refine Eq.trans (b := (js.map fun x => (x.1.zs, x.2)).flatMap fun z => z.1 ++ z.2.zs) (by rw [List.flatMap_map]) ?_
    rw [HMP.out, List.flatMap_map]
    congr 1
    funext u
    obtain ⟨_, _, _, hh⟩ := hdOf_v (HRW.out u) (J u)
    rw [hh]
    rfl
  clear HJS HRW HC2 HC3 HJ HIN HNM HB HB2
  obtain ⟨W3, hW3⟩ : ∃ W3, W3 = w3.alloc (.map #[] 0) := ⟨_, rfl⟩
  have HM3 : Hid (MapR W3 w3.heap.size 0 w.heap.size [] (fun _ => nilS) (fun _ => [])) := by
    refine ⟨by rw [hW3]; exact MapH.made w3, fun s => World.ownsRow_nil _ _ _ _⟩
  have HBW3 : Hid (Below w3.heap.size w3 W3) := by rw [hW3]; exact rb1 w3 _
  have HZ3 := Lib.hid (HZ.out _ (HB3.out.trans (HBW3.out.mono hb3)))
  go_upto_region 9 with fail
  rw [← hW3]
  clear hW3
  have hynx : ∀ (k : Nat) (y : Hd × Hd), js[k]? = some y → (zs ++ askN js (k + 1)) = (zs ++ askN js k) ++ y.1.zs ++ y.2.zs := by
    intro k y hy
    obtain ⟨hk, e⟩ := List.getElem?_eq_some_iff.1 hy
    rw [askN_next hk, e]
    simp only [List.append_assoc]
  have hy4 : ∀ k, ∀ x ∈ zs ++ askN js k, x.size ≤ 4611686018427387904 := by
    intro k x hx
    have h0 : nameE x = 0 := by
      rcases List.mem_append.1 hx with hx | hx
      · exact HSN.out x hx
      · refine HAN.out x ?_
        rw [← HASK.out]
        unfold askN at hx ⊢
        rw [List.take_length]
        obtain ⟨y, hy, hx⟩ := List.mem_flatMap.1 hx
        exact List.mem_flatMap.2 ⟨y, List.mem_of_mem_take hy, hx⟩
    have := nameE_size h0
    omega
  have hyl : ∀ k, (zs ++ askN js k).length ≤ zs.length + 4160 := by
    intro k
    have h1 := askN_le js k
    rw [HASK.out] at h1
    have h2 := HAL.out
    rw [List.length_append]
    omega
  have hy0 : zs ++ askN js 0 = zs := by simp [askN]
  have hye : zs ++ askN js js.length = zs ++ askF us J := by rw [HASK.out]
  obtain ⟨Y, hY⟩ : ∃ Y : Nat → List ByteArray, Y = fun k => zs ++ askN js k := ⟨_, rfl⟩
  have HYN : Hid (∀ (k : Nat) (y : Hd × Hd), js[k]? = some y → Y (k + 1) = Y k ++ y.1.zs ++ y.2.zs) := by
    show ∀ (k : Nat) (y : Hd × Hd), _
    rw [hY]; exact hynx
  have HY4 : Hid (∀ k, ∀ x ∈ Y k, x.size ≤ 4611686018427387904) := by
    show ∀ k, ∀ x ∈ _, _
    rw [hY]; exact hy4
  have HYL : Hid (∀ k, (Y k).length ≤ zs.length + 4160) := by
    show ∀ k, _
    rw [hY]; exact hyl
  have HY0 : Hid (Y 0 = zs) := by show _ = _; rw [hY]; exact hy0
  have HYE : Hid (Y js.length = zs ++ askF us J) := by show _ = _; rw [hY]; exact hye
  have HY0L : Hid ((Y 0).length = zs.length) := congrArg List.length HY0.out
  clear hY hynx hy4 hyl hy0 hye
  have hz3 := HZ3.out
  have e0 : NL W3 s (Y 0).length f (Y 0) := by rw [HY0.out]; exact hz3
  have HE0Y := Lib.hid e0
  have HSW : Hid (w3.heap.size < W3.heap.size) := by
    obtain ⟨es, cl, hb⟩ := HM3.out.map.block
    exact (Array.getElem?_eq_some_iff.1 hb).1
  clear e0 hz3
  go_wp2
  go_loopw [41, 11] (fun i v wr => ∃ (k m : Nat) (q' : Option Addr) (cq : Nat) (ks : List Bs) (hh : Bs → Value) (g : Bs → List ByteArray), k ≤ us.length ∧ i = .int .i64 k ∧ v = .slice q' m cq ∧ Hid (m = (Y k).length) ∧ Hid (Below w3.heap.size w3 wr) ∧ w3.heap.size < wr.heap.size ∧
    Hid (NL wr q' m cq (Y k)) ∧ Hid (MapR wr w3.heap.size k w.heap.size ks hh g) ∧ Hid (∀ t, t ∈ ks ↔ t ∈ us.take k) ∧ Hid (∀ t, g t = if t ∈ us.take k then J t else [])) (fun i _ _ => us.length - (intOf i).toNat)
  case atStart => exact ⟨0, zs.length, s, f, [], _, _, Nat.zero_le _, rfl, rfl, HY0L.out.symm, HBW3.out, HSW.out, by have := HE0Y.out; rw [HY0L.out] at this; exact this, HM3.out, fun t => by simp, fun t => by simp⟩
  case round =>
    obtain ⟨k, m, q', cq, ks, hh, g, hk, rfl, rfl, HMY, HBR, hsr, HNR, HMR, HKS, HGG⟩ := hrel
    by_cases hlt : k < us.length
    · have hltj : k < js.length := by rw [HJL.out]; exact hlt
      have hel := List.getElem?_eq_getElem hltj
      obtain ⟨b, o, rfl, hb, c1, c2⟩ := (HJS3.out _ HBR.out).at_.cell hel
      have hok := (HJS3.out _ HBR.out).ok _ (List.getElem_mem hltj)
      have hnx := HYN.out k _ hel
      obtain ⟨u, hu, hy1, hy2⟩ := HAT.out k _ hel
      have hhu : ∃ p2 c2, h u = .slice p2 (J u).length c2 ∧ hdOf (h u) (J u) = ⟨p2, (J u).length, c2, J u⟩ := hdOf_v (HRW3.out u) (J u)
      obtain ⟨p2, cc2, hh1, hh2⟩ := hhu
      rw [hh2] at hy2
      rw [← Nat.add_assoc] at c2
      clear hel
      generalize js[k] = y at *
      clear hltj
      obtain ⟨⟨p1, n1, cc1, T⟩, yb⟩ := y
      simp only at hy1 hy2
      subst hy1 hy2
      simp only [rF, rG, Hd.v] at c1 c2 hnx
      obtain ⟨⟨k1, k2⟩, ⟨k3, k4⟩⟩ := hok
      simp only at k1 k2 k3 k4
      have l1 := k1.at_.len
      have hn1 : n1 = 1 := by simpa using l1.symm
      subst hn1
      clear l1
      obtain ⟨ad1, rfl, _, hw1⟩ := str_at k1.at_.reads (show 0 < 1 by omega)
      obtain ⟨b1, o1, rfl, hb1⟩ := k1.plain (by omega) _ rfl
      have hw1 : wr.cell? ⟨b1, o1, none⟩ = some (.string (txt u)) := by
        rw [Addr.add_lit, Nat.add_zero] at hw1
        exact hw1
      have hum : u ∈ us := List.mem_of_getElem? hu
      have hun := nameE_size (HUN.out u hum)
      have huk : us.take (k + 1) = us.take k ++ [u] := by rw [List.take_add_one, hu]; rfl
      have HUK := Lib.hid huk
      have HHU := Lib.hid hh1
      have HNX := Lib.hid hnx
      have HK3 := Lib.hid k3
      have HK1 := Lib.hid k1
      have hrow := own_belowR (HRW3.out u) HBR.out
      have HROW := Lib.hid hrow
      have hk1 : (k : Int) < (us.length : Int) := by omega
      have hk64 : k < 64 := by have := HU64.out; omega
      obtain ⟨nj, hnj⟩ : ∃ nj, nj = (J u).length := ⟨_, rfl⟩
      rw [← hnj] at c2 hh1 HK3 HHU
      have HNJ := Lib.hid hnj
      obtain ⟨W0, hW0⟩ : ∃ W0, W0 = wr.alloc (.cells #[.slice (some ⟨b1, o1, none⟩) 1 cc1, .slice p2 nj cc2] 31) := ⟨_, rfl⟩
      have hb0 : Below wr.heap.size wr W0 := by rw [hW0]; exact rb1 wr _
      have hs0 : W0.heap.size = wr.heap.size + 1 := by rw [hW0]; simp
      have hx0 : W0.heap[wr.heap.size]? = some (.cells #[.slice (some ⟨b1, o1, none⟩) 1 cc1, .slice p2 nj cc2] 31 (0, 0)) := by rw [hW0]; exact heap_alloc_new _ _
      have hw0 : W0.cell? ⟨b1, o1, none⟩ = some (.string (txt u)) := (hb0.cell (p := ⟨b1, o1, none⟩) hb1).trans hw1
      have cx0 : W0.cell? ⟨wr.heap.size, 0, none⟩ = some (.slice (some ⟨b1, o1, none⟩) 1 cc1) := by rw [hW0]; simp
      have cx1 : W0.cell? ⟨wr.heap.size, 1, none⟩ = some (.slice p2 nj cc2) := by rw [hW0]; simp
      have HMR0 := Lib.hid (HMR.out.below hb0)
      have HNR0 := Lib.hid (HNR.out.below hb0)
      have HB0 := Lib.hid hb0
      have HX0 := Lib.hid hx0
      have HS0 := Lib.hid hs0
      clear k1 k3 hnx hu hum huk hrow hnj hh1 hh2 hb0 hs0 hx0 hw1
      go_upto_region 13 with fail
      rw [← hW0]
      clear hW0 c1 c2 hb
      go_still_tail 7, (by kernel_rfl)
      change wpList _ _ _ _ _ W0.drew
      have HMD := Lib.hid (HMR0.out.below ((Below.refl W0.heap.size W0).drew))
      clear hw0 cx0 cx1
      have hsu : (txt u).size ≤ maxLen := by unfold maxLen; omega
      go_upto_region 14 with (at_mapUpdate; refine store_h _ rfl _ _ _ rfl rfl HMD.out.map (by unfold maxLen; omega) (txt u) rfl hsu (.slice p2 nj cc2) rfl ?_; intro w5 h1 h2; rw [txt_list] at h1; have HM5 := Lib.hid h1; have HG5 := Lib.hid h2; clear h1 h2)
      obtain ⟨es, cl, hbm⟩ := HMD.out.map.block
      have hd0 : Below W0.heap.size W0 W0.drew := (Below.refl _ _).drew
      have hrow5 : W0.drew.ownsRow w.heap.size 9 1 (.slice p2 nj cc2) (J u).length (strsV (J u)) := by
        have := own_belowR (own_belowR HROW.out HB0.out) hd0
        rw [HHU.out] at this
        exact this
      have HMR5 := Lib.hid (HMD.out.store hrow5 HM5.out HG5.out)
      have hn5 := (HNR0.out.below hd0).nomap hbm HG5.out
      have hk15 := ((HK1.out.below HB0.out).below hd0).nomap hbm HG5.out
      have hk35 := ((HK3.out.below HB0.out).below hd0).nomap hbm HG5.out
      have hB5 : Below w3.heap.size w3 w5 := (HBR.out.trans ((HB0.out.trans (hd0.mono HB0.out.size)).mono HBR.out.size)).grown HG5.out (by have := HS0.out; show w3.heap.size ≤ W0.heap.size; omega) (fun k hk => by injection hk with hk; omega)
      have hx5 : w5.heap[wr.heap.size]? = some (.cells #[.slice (some ⟨b1, o1, none⟩) 1 cc1, .slice p2 nj cc2] 31 (0, 0)) := by
        rw [HG5.out.block _ (by have := HS0.out; show wr.heap.size < W0.heap.size; omega) (fun e => by injection e; omega)]
        exact HX0.out
      have cy0 : w5.cell? ⟨wr.heap.size, 0, none⟩ = some (.slice (some ⟨b1, o1, none⟩) 1 cc1) := by unfold World.cell?; simp only [hx5]; rfl
      have cy1 : w5.cell? ⟨wr.heap.size, 1, none⟩ = some (.slice p2 nj cc2) := by unfold World.cell?; simp only [hx5]; rfl
      have hs5 : w3.heap.size < w5.heap.size := by have := HG5.out.size; have := HS0.out; have h9 : W0.drew.heap.size = W0.heap.size := rfl; omega
      obtain ⟨W6, hW6⟩ : ∃ W6, W6 = w5.alloc (.cells #[.slice q' m cq, .slice (some ⟨b1, o1, none⟩) 1 cc1, .slice p2 nj cc2] 24) := ⟨_, rfl⟩
      have hb6 : Below w5.heap.size w5 W6 := by rw [hW6]; exact rb1 w5 _
      have hsum : (Y k ++ [txt u] ++ J u).length ≤ zs.length + 4160 := by rw [← HNX.out]; exact HYL.out (k + 1)
      have hmy : m = (Y k).length := HMY.out
      have hcc := concat3w (B := w5.heap.size) (hn5.weak.below hb6) (hk15.below hb6) (hk35.below hb6) (by have h7 := HNJ.out; have h8 := HYL.out k; have h9 := HJ64.out u; omega) (by rw [hW6]; simp) (by rw [hW6]; simp) (by rw [hW6]; simp) (by rw [hW6]; simp)
      rw [← HNX.out] at hcc
      obtain ⟨m2, hm2⟩ : ∃ m2, m2 = (Y (k + 1)).length := ⟨_, rfl⟩
      have HC6 : Hid (Calls Try.prog 18 #[.slice (some ⟨w5.heap.size, 0, none⟩) 3 3] W6 fun e w' => ∃ g c, e = .returned (.slice g m2 c) ∧ NL w' g m2 c (Y (k + 1)) ∧ Below W6.heap.size W6 w') := by
        show Calls _ _ _ _ _
        refine hcc.mono ?_
        intro e w' hp
        obtain ⟨g, c, he, hn, _, hb⟩ := hp.elim (HY4.out (k + 1)) (by have := HYL.out (k + 1); omega)
        rw [← hm2] at he hn
        exact ⟨g, c, he, hn, hb⟩
      have HM2 := Lib.hid hm2
      have HMR6 := Lib.hid (HMR5.out.below hb6)
      have HB56 := Lib.hid (hB5.trans (hb6.mono hB5.size))
      have HS56 : Hid (w3.heap.size < W6.heap.size) := Nat.lt_of_lt_of_le hs5 hb6.size
      clear hbm hd0 hrow5 hn5 hk15 hk35 hB5 hx5 hs5 hb6 hsum hmy hcc hm2
      go_wp2_with (go_at_call 18; rw [← hW6]; clear hW6; refine HC6.out.mono ?_; rintro e w7 ⟨q7, c7, rfl, hn7, hb7⟩; have HN7 := Lib.hid hn7; have HB7 := Lib.hid hb7; clear hn7 hb7)
      go_roundw
      case rel =>
        refine ⟨k + 1, m2, q7, c7, u :: ks, _, _, by omega, by go_num, rfl, HM2.out, HB56.out.trans (HB7.out.mono HB56.out.size), Nat.lt_of_lt_of_le HS56.out HB7.out.size, HN7.out, HMR6.out.below HB7.out, fun t => ?_, fun t => ?_⟩
        · rw [List.mem_cons, HKS.out, HUK.out, List.mem_append, List.mem_singleton]
          exact or_comm
        · rw [HUK.out]
          by_cases ht : t = u
          · subst ht
            rw [upd_same, if_pos (by simp)]
          · rw [upd_other _ _ ht, HGG.out]
            simp only [List.mem_append, List.mem_singleton, ht, or_false]
      case measure => simp [intOf]; omega
    · obtain rfl : k = us.length := by omega
      clear hlt hk
      have hyu : Y us.length = zs ++ askF us J := by have := HYE.out; rw [HJL.out] at this; exact this
      have hym : m = (Y us.length).length := HMY.out
      have hok : okN (Y us.length) m := (okN_mem hym.symm).2 (fun x hx => by
        rw [hyu] at hx
        rcases List.mem_append.1 hx with hx | hx
        · exact HSN.out x hx
        · exact HAN.out x hx)
      have hml : m ≤ zs.length + 4160 := by rw [hym]; exact HYL.out us.length
      obtain ⟨sd, hsd⟩ : ∃ sd, sd = SD.length := ⟨_, rfl⟩
      have hsl : (sortN (Y us.length)).length = sd := by rw [hsd, HSAID.out, bz_len, hyu]
      have HSO : Hid (Calls Try.prog 19 #[.slice q' m cq] wr fun e w' => ∃ g c, e = .returned (.tuple #[.slice g sd c, .int .i64 0]) ∧ NL w' g sd c SD ∧ Below wr.heap.size wr w') := by
        show Calls _ _ _ _ _
        refine (Sort_yes q' m cq (Y us.length) wr HNR.out hok).mono ?_
        rintro e w' ⟨g, c, he, ho, hb⟩
        have := NL_sorted hym.symm hok (by omega) ho
        rw [hsl, hyu, ← HSAID.out] at this
        rw [hsl] at he
        exact ⟨g, c, he, this, hb⟩
      have hgJ : g = J := funext fun t => by
        rw [HGG.out, List.take_length]
        by_cases ht : t ∈ us
        · rw [if_pos ht]
        · rw [if_neg ht, HJNIL.out t ht]
      subst hgJ
      rw [List.take_length] at HKS
      obtain ⟨na, hna⟩ : ∃ na, na = (askF us g).length := ⟨_, rfl⟩
      have HAA : Hid (∀ u, Below w3.heap.size w3 u → Calls Try.prog 20 #[.slice qj us.length dj] u fun e w' => ∃ a c, e = .returned (.slice a na c) ∧ NL w' a na c (askF us g) ∧ Below u.heap.size u w') := by
        show ∀ u, _
        intro u hu
        refine (asked_ok qj us.length dj js u (HJS3.out u hu) (by rw [HASK.out]; have := HAL.out; omega)).mono ?_
        intro e w' hp
        rw [HASK.out] at hp
        obtain ⟨a, c, he, hn, _, hb⟩ := hp.elim (fun x hx => by have := nameE_size (HAN.out x hx); omega) (by have := HAL.out; omega)
        rw [← hna] at he hn
        exact ⟨a, c, he, hn, hb⟩
      have HNA := Lib.hid hna
      have HSD := Lib.hid hsd
      clear hyu hym hok hml hsl hna hsd HGG HNR HMY HYN HY4 HYL HY0 HYE HY0L HE0Y HSW HM3
      by_cases h64 : 64 < sd
      · have HE2 : Hid (fillE R l zs = 2) := by show _ = _; rw [HE0.out, if_pos (by rw [← HSD.out]; exact h64)]
        have h64i : decide ((64 : Int) < (sd : Int)) = true := decide_eq_true (by omega)
        go_wp2_with (go_at_call 19; refine HSO.out.mono ?_; rintro e w4 ⟨g4, c4, rfl, _, hb4⟩; have HB4 := Lib.hid (HB3.out.trans ((HBR.out.trans (hb4.mono HBR.out.size)).mono HB3.out.size)); clear hb4)
        go_ret2
        exact FillPost.err HE2.out (by decide) HB4.out
      · have HE2 : Hid (fillE R l zs = 0) := by show _ = _; rw [HE0.out, if_neg (by rw [← HSD.out]; exact h64)]
        have h64i : decide ((64 : Int) < (sd : Int)) = false := decide_eq_false (by omega)
        go_wp2_with (first
          | (go_at_call 19; refine HSO.out.mono ?_; rintro e w4 ⟨g4, c4, rfl, hn4, hb4⟩; have HN4 := Lib.hid hn4; have HB4 := Lib.hid (HBR.out.trans (hb4.mono HBR.out.size)); have HM4 := Lib.hid (HMR.out.below hb4); clear hn4 hb4)
          | (go_at_call 20; refine (HAA.out w4 HB4.out).mono ?_; rintro e w5 ⟨a5, c5, rfl, hn5, hb5⟩; have HN5 := Lib.hid hn5; have HB5 := Lib.hid (HB4.out.trans (hb5.mono HB4.out.size)); have HM5 := Lib.hid (HM4.out.below hb5); have HN45 := Lib.hid (HN4.out.below hb5); clear hn5 hb5))
        obtain ⟨A, hA⟩ : ∃ A, A = askF us g := ⟨_, rfl⟩
        rw [← hA] at HN5 HNA HAN HEND HAL
        have HNa : Hid (na = A.length) := HNA.out
        have hnal : na ≤ 4160 := by rw [HNa.out]; exact HAL.out
        obtain ⟨es, cl, hbm⟩ := HM5.out.map.block
        have HBM : Hid (w5.heap[w3.heap.size]? = some (.map es cl)) := hbm
        have HLU : Hid (us.length ≤ 64) := HU64.out
        have hlo5 : w.heap.size ≤ w5.heap.size := Nat.le_trans hb3 HB5.out.size
        have HBW5 : Hid (Below w.heap.size w w5) := HB3.out.trans (HB5.out.mono hb3)
        clear hA hbm HAA HSO HMR HBR hsr HM4 HN4 HB4 HNA HAL HU64
        go_loopw [71] (fun i wr => ∃ (k n : Nat) (ks' : List Bs) (hh' : Bs → Value) (g' : Bs → List ByteArray), k ≤ na ∧ n ≤ us.length + k ∧ i = .int .i64 k ∧ Hid ((ks', g') = (A.take k).foldl (fillS l SD) (ks, g)) ∧ Hid (w5.grownBy wr (some w3.heap.size)) ∧ Hid (MapR wr w3.heap.size n w.heap.size ks' hh' g')) (fun i _ => na - (intOf i).toNat)
        case atStart => exact ⟨0, us.length, ks, hh, g, Nat.zero_le _, Nat.le_refl _, rfl, by show _ = _; rw [List.take_zero]; rfl, World.grownBy.refl _ _, HM5.out⟩
        case round =>
          obtain ⟨k, n5, ks', hh', g', hk, hn5, rfl, HST, HGR, HMP5⟩ := hrel
          have hlt5 : w5.heap.size ≤ wr.heap.size := HGR.out.size
          by_cases hlt : k < na
          · have hnA := HN5.out.nomap HBM.out HGR.out
            obtain ⟨ad, rfl, _, hcs⟩ := str_at hnA.at_.reads hlt
            obtain ⟨b6, o6, rfl, hb6⟩ := hnA.plain _ rfl
            rw [Addr.add_lit] at hcs
            have hkA : k < A.length := by rw [← HNa.out]; exact hlt
            have hsm : A.getD k ByteArray.empty ∈ A := by rw [List.getD_eq_getElem?_getD, List.getElem?_eq_getElem hkA]; exact List.getElem_mem _
            have hns := nameE_size (HAN.out _ hsm)
            have htk : A.take (k + 1) = A.take k ++ [A.getD k ByteArray.empty] := by
              rw [List.take_succ_eq_append_getElem hkA, List.getD_eq_getElem?_getD, List.getElem?_eq_getElem hkA]
              rfl
            have HFD : Hid ((A.take (k + 1)).foldl (fillS l SD) (ks, g) = fillS l SD (ks', g') (A.getD k ByteArray.empty)) := by
              show _ = _
              rw [htk, List.foldl_append, ← HST.out]
              rfl
            clear hnA hsm htk hkA
            generalize A.getD k ByteArray.empty = sx at *
            have hk1 : (k : Int) < (na : Int) := by omega
            have hsx : sx.size ≤ maxLen := by unfold maxLen; omega
            obtain ⟨px, cx, hhx, _⟩ := hdOf_v (HMP5.out.row sx.data.toList) (g' sx.data.toList)
            by_cases h0 : 0 < (g' sx.data.toList).length
            · have HFS : Hid (fillS l SD (ks', g') sx = (ks', g')) := by show _ = _; unfold fillS; rw [if_pos h0]
              generalize (g' sx.data.toList).length = nl at *
              have h0i : decide ((0 : Int) < (nl : Int)) = true := decide_eq_true (by omega)
              go_wp2_with (at_lookup; refine look_h _ rfl _ _ rfl rfl HMP5.out.map sx rfl hsx ?_; rw [hhx])
              go_roundw
              case rel => exact ⟨k + 1, n5, ks', hh', g', by omega, by omega, by go_num, by show _ = _; rw [HFD.out, HFS.out], HGR.out, HMP5.out⟩
              case measure => simp [intOf]; omega
            · have h0n : (g' sx.data.toList).length = 0 := by omega
              have HFN : Hid (¬ 0 < (g' sx.data.toList).length) := h0
              rw [h0n] at hhx
              have hbwr : Below w.heap.size w wr := HBW5.out.grown HGR.out hlo5 (fun k hk => by injection hk with hk; omega)
              have hof := ofI_ok q g4 mI dI sd c4 l SD sx wr (HI.out _ hbwr) (HN45.out.nomap HBM.out HGR.out) (by omega) HIS.out
              have HOF := Lib.hid hof
              clear h0 h0n hof hbwr
              cases hio : infOf l SD (stA sx) (stB sx) with
              | none =>
                have HFS : Hid (fillS l SD (ks', g') sx = (ks', g')) := by show _ = _; unfold fillS; rw [if_neg HFN.out, hio]
                rw [hio] at HOF
                simp only [Option.getD_none, Option.isSome_none] at HOF
                clear hio
                go_wp2_with (first
                  | (at_lookup; refine look_h _ rfl _ _ rfl rfl HMP5.out.map sx rfl hsx ?_; rw [hhx])
                  | (go_at_call 21; refine HOF.out.mono ?_; rintro e w6 ⟨rfl, hb⟩; have HB6 := Lib.hid hb; clear hb))
                go_roundw
                case rel => exact ⟨k + 1, n5, ks', hh', g', by omega, by omega, by go_num, by show _ = _; rw [HFD.out, HFS.out], HGR.out.trans (grown_any HB6.out), HMP5.out.below HB6.out⟩
                case measure => simp [intOf]; omega
              | some x =>
                have HFS : Hid (fillS l SD (ks', g') sx = (sx.data.toList :: ks', upd g' sx.data.toList [x])) := by show _ = _; unfold fillS; rw [if_neg HFN.out, hio]
                rw [hio] at HOF
                simp only [Option.getD_some, Option.isSome_some] at HOF
                clear hio
                go_upto_region 25 with (first
                  | (at_lookup; refine look_h _ rfl _ _ rfl rfl HMP5.out.map sx rfl hsx ?_; rw [hhx])
                  | (go_at_call 21; refine HOF.out.mono ?_; rintro e w6 ⟨rfl, hb⟩; have HB6 := Lib.hid hb; clear hb))
                have hb7 : Below w6.heap.size w6 (w6.alloc (.cells #[.string x] 9)) := rb1 w6 _
                have HM7 := Lib.hid ((HMP5.out.below HB6.out).below hb7)
                have HG7 : Hid (w5.grownBy (w6.alloc (.cells #[.string x] 9)) (some w3.heap.size)) := (HGR.out.trans (grown_any HB6.out)).trans (grown_any hb7)
                have HR7 : Hid ((w6.alloc (.cells #[.string x] 9)).ownsRow w.heap.size 9 1 (.slice (some ⟨w6.heap.size, 0, none⟩) 1 1) [x].length (strsV [x])) := by
                  show World.ownsRow _ _ _ _ _ _ _
                  exact World.ownsRow_lit w6 #[.string x] 1 (by have := HB6.out.size; omega) (by decide) rfl
                clear hb7
                go_wp2_with (at_mapUpdate; refine store_h _ rfl _ _ _ rfl rfl HM7.out.map (by have := HLU.out; unfold maxLen; omega) sx rfl hsx (.slice (some ⟨w6.heap.size, 0, none⟩) 1 1) rfl ?_; intro w8 h1 h2; have HM8 := Lib.hid h1; have HG8 := Lib.hid h2; clear h1 h2)
                go_roundw
                case rel => exact ⟨k + 1, n5 + 1, _, _, _, by omega, by omega, by go_num, by show _ = _; rw [HFD.out, HFS.out], HG7.out.trans HG8.out, HM7.out.store HR7.out HM8.out HG8.out⟩
                case measure => simp [intOf]; omega
          · obtain rfl : k = na := by omega
            have hst : (ks', g') = A.foldl (fillS l SD) (ks, g) := by
              have := HST.out
              rw [HNa.out, List.take_length] at this
              exact this
            have HEN2 := Lib.hid (fun vs => HEND.out ks ks' g' vs HKS.out hst)
            have HKO := Lib.hid (keys_ok (some w3.heap.size) wr)
            have HSO := Lib.hid (sortedKeysM HMP5.out.map (by have := HLU.out; omega))
            have HBWR : Hid (Below w.heap.size w wr) := HBW5.out.grown HGR.out hlo5 (fun k hk => by injection hk with hk; omega)
            clear hst HST HEND HKS HN5 HNa HBM HAN
            go_wp2_with (first
              | (go_at_call 23; refine HKO.out.mono ?_; rintro e w6 ⟨rfl, hw6⟩; rw [hw6]; clear hw6)
              | (go_at_call 22; refine HSO.out.mono ?_; rintro e w7 ⟨qs, cs, vs, rfl, hu1, hu2, hu3, hu4, hu5⟩; have HU1 := Lib.hid hu1; have HU2 := Lib.hid hu2; have HU3 := Lib.hid hu3; have HU4 := Lib.hid hu4; have HU5 := Lib.hid hu5; clear hu1 hu2 hu3 hu4 hu5))
            obtain ⟨hvs, hgn⟩ := HEN2.out vs HU1.out HU2.out
            have HVS := Lib.hid hvs
            have hb7 : Below wr.heap.size wr w7 := by
              have h1 : Below wr.heap.size wr (wr.alloc (.cells #[.map (some w3.heap.size)] 47)) := rb1 wr _
              exact h1.trans (HU5.out.mono (Nat.le_succ _))
            have HMP7 := Lib.hid (HMP5.out.below hb7)
            have HBW7 : Hid (Below w.heap.size w w7) := HBWR.out.trans (hb7.mono HBWR.out.size)
            have hvl : vs.length ≤ 5000 := by have := HU3.out; have := HLU.out; omega
            have HVN : Hid (∀ u ∈ vs, nameE (txt u) = 0) := by
              show ∀ u ∈ vs, _
              rw [hvs]; exact HEN.out
            have HGN : Hid (∀ u, ∀ x ∈ g' u, nameE x = 0) := by
              show ∀ u, ∀ x ∈ _, _
              rw [hgn]; exact HNE.out
            have HGL : Hid (∀ u, (g' u).length ≤ 1000) := by
              show ∀ u, _
              intro u
              rw [hgn]
              have := HNL.out u
              omega
            have HGE := Lib.hid hgn
            clear hvs hgn hb7 HU1 HU2 HU3 HU5 HMP5 HKO HSO HEN2 HEN HNE HNL HGR HBWR HM5 HB5 HN45
            go_loopw [97, 18] (fun i v w8 => ∃ (k : Nat) (rs' : List (Hd × Hd)), k ≤ vs.length ∧ i = .int .i64 k ∧ rs'.length = k ∧ Hid (Below w7.heap.size w7 w8 ∧ w8.ownsRow w7.heap.size 31 2 v k (cells2 rF rG rs')) ∧
              Hid (∀ x ∈ rs', w8.ownsRow w7.heap.size 9 1 x.1.v x.1.zs.length (strsV x.1.zs)) ∧ Hid (rs'.map (fun x => (x.1.zs, x.2)) = (vs.take k).map fun u => ([txt u], hdOf (hh' u) (g' u)))) (fun i _ _ => vs.length - (intOf i).toNat)
            case atStart => exact ⟨0, [], Nat.zero_le _, rfl, rfl, ⟨Below.refl _ _, World.ownsRow_nil _ _ _ _⟩, fun x hx => (by cases hx), rfl⟩
            case round =>
              obtain ⟨k, rs', hk, rfl, hrk, HO5, HT1, HRS⟩ := hrel
              by_cases hlt : k < vs.length
              · have hel := List.getElem?_eq_getElem hlt
                obtain ⟨bs, capS, hv, _, _⟩ := HU4.out.form (by omega)
                injection hv with hv1 hv2 hv3
                subst hv1 hv3
                have hcx := HU4.out.cells (g := bs) rfl k (encStr vs[k]) (by rw [List.getElem?_map, hel]; rfl)
                rw [Addr.add_lit] at hcx
                have hcx5 := (HO5.out.1.cell (World.block_lt_of_cell? w7 _ hcx)).trans hcx
                obtain ⟨u, hu⟩ : ∃ u, u = vs[k] := ⟨_, rfl⟩
                rw [← hu] at hcx5 hel
                have hum : u ∈ vs := by rw [hu]; exact List.getElem_mem hlt
                have hun := nameE_size (HVN.out u hum)
                obtain ⟨hp, hc, hhu, hhd⟩ := hdOf_v (HMP7.out.row u) (g' u)
                have hht : hh' (txt u).data.toList = .slice hp (g' u).length hc := by rw [txt_list]; exact hhu
                have hcx6 : wr.cell? ⟨bs, k, none⟩ = some (.string (txt u)) := by rw [Nat.zero_add] at hcx5; exact hcx5
                have HRU2 : Hid (vs.take (k + 1) = vs.take k ++ [u]) := by
                  show _ = _
                  rw [List.take_add_one, hel]; rfl
                have hxm : (txt u).size ≤ maxLen := by unfold maxLen; omega
                clear hel hhu hcx hcx5 hu hum hun hv2
                have HHD := Lib.hid hhd
                have HGU := Lib.hid (HGL.out u)
                clear hhd
                generalize hgu : g' u = gu at *
                have HGUE := Lib.hid hgu
                clear hgu
                have hk1 : (k : Int) < (vs.length : Int) := by omega
                have HMH5 := Lib.hid (HMP7.out.map.kept (grown_below HO5.out.1) (by simp))
                obtain ⟨o1, ho1⟩ : ∃ o1, o1 = Obj.cells #[.string (txt u)] 9 := ⟨_, rfl⟩
                obtain ⟨o2, ho2⟩ : ∃ o2, o2 = Obj.cells #[.slice (some ⟨wr.heap.size, 0, none⟩) 1 1, .slice hp gu.length hc] 31 := ⟨_, rfl⟩
                have hz1' : (wr.alloc o1).heap.size = wr.heap.size + 1 := by simp
                have hz2' : ((wr.alloc o1).alloc o2).heap.size = wr.heap.size + 2 := by simp
                have HMH6 : Hid (MapH (wr.alloc o1) w3.heap.size n5 ks' hh') := HMH5.out.kept (World.grownBy_alloc _ _ none) (by simp)
                have hbA : Below wr.heap.size wr ((wr.alloc o1).alloc o2) := (rb1 wr o1).trans ((rb1 (wr.alloc o1) o2).mono (by rw [hz1']; omega))
                have HOA := Lib.hid ((HO5.out.2.alloc o1).alloc o2)
                have HTA : Hid (∀ x ∈ rs', ((wr.alloc o1).alloc o2).ownsRow w7.heap.size 9 1 x.1.v x.1.zs.length (strsV x.1.zs)) := fun x hx => ((HT1.out x hx).alloc o1).alloc o2
                have HWB : Hid (Below w7.heap.size w7 ((wr.alloc o1).alloc o2)) := HO5.out.1.trans (hbA.mono HO5.out.1.size)
                have hw2r := HO5.out.1.size
                have HTN : Hid (((wr.alloc o1).alloc o2).ownsRow w7.heap.size 9 1 (.slice (some ⟨wr.heap.size, 0, none⟩) 1 1) 1 [.string (txt u)]) := by
                  refine World.ownsRow.alloc ⟨rfl, .inr ⟨wr.heap.size, 1, #[.string (txt u)], rfl, hw2r, ?_, Nat.le_refl _, by unfold maxLen; omega, rfl, rfl⟩⟩ o2
                  rw [ho1]; exact heap_alloc_new _ _
                have HCE : Hid (∀ (j : Nat) z, [Value.slice (some ⟨wr.heap.size, 0, none⟩) 1 1, Value.slice hp gu.length hc][j]? = some z → ((wr.alloc o1).alloc o2).cell? ((⟨wr.heap.size + 1, 0, none⟩ : Addr).add j) = some z) := by
                  show ∀ (j : Nat) z, _
                  intro j z hz
                  have hat : ((wr.alloc o1).alloc o2).heap[wr.heap.size + 1]? = some o2 := by rw [← hz1']; exact heap_alloc_new _ _
                  rw [Addr.add_lit]
                  rw [ho2] at hat ⊢
                  match j, hz with
                  | 0, hz =>
                    simp only [List.getElem?_cons_zero, Option.some.injEq] at hz
                    rw [← hz]
                    unfold World.cell?
                    simp only [Nat.zero_add]
                    rw [hat]; rfl
                  | 1, hz =>
                    simp only [List.getElem?_cons_succ, List.getElem?_cons_zero, Option.some.injEq] at hz
                    rw [← hz]
                    unfold World.cell?
                    simp only [Nat.zero_add]
                    rw [hat]; rfl
                have HOC : Hid (∀ z ∈ [Value.slice (some ⟨wr.heap.size, 0, none⟩) 1 1, Value.slice hp gu.length hc], z.oneCell' = true) := by
                  show ∀ z ∈ _, _
                  intro z hz
                  rcases List.mem_cons.1 hz with rfl | hz
                  · rfl
                  · rw [List.mem_singleton.1 hz]; rfl
                have HLZ : Hid (k + 1 ≤ maxLen ∧ (k + 1) * 48 ≤ 140737488355328) := ⟨by unfold maxLen; omega, by omega⟩
                have hsa : w7.heap.size ≤ ((wr.alloc o1).alloc o2).heap.size := HWB.out.size
                clear hbA hz1' hz2'
                subst ho1 ho2
                go_wp2_with (first
                  | (at_lookup; refine look_h _ rfl _ _ rfl rfl HMH6.out (txt u) rfl hxm ?_; rw [hht])
                  | (at_builtin; refine wpList_append_own _ rfl _ _ 22 rfl w7.heap.size 31 i1 _ 2 48 Try.underlying22 hi1 hy0 hy1 hy2 rfl (by decide) u18 k (cells2 rF rG rs') rfl HOA.out ⟨wr.heap.size + 1, 0, none⟩ 1 1 [Value.slice (some ⟨wr.heap.size, 0, none⟩) 1 1, Value.slice hp gu.length hc] rfl rfl HCE.out HOC.out HLZ.out.1 HLZ.out.2 hsa ?_; intro v' w6 g1 g2 _; have HO6 := Lib.hid g1; have HG6 := Lib.hid g2; clear g1 g2))
                go_roundw
                case rel =>
                  refine ⟨k + 1, rs' ++ [((⟨some ⟨wr.heap.size, 0, none⟩, 1, 1, [txt u]⟩ : Hd), (⟨hp, gu.length, hc, gu⟩ : Hd))], by omega, by go_num, by simp [hrk], ⟨HWB.out.grown HG6.out HWB.out.size (fun k1 e => (HOA.out.lt k1 e).1), ?_⟩, ?_, ?_⟩
                  · rw [cells2_app]; exact HO6.out
                  · intro x hx
                    rcases List.mem_append.1 hx with hx | hx
                    · exact own_kept_other (HTA.out x hx) HOA.out HG6.out
                    · rw [List.mem_singleton.1 hx]
                      exact own_kept_other HTN.out HOA.out HG6.out
                  · show _ = _
                    rw [List.map_append, HRS.out, HRU2.out, List.map_append]
                    simp only [List.map_cons, List.map_nil]
                    rw [HGUE.out, HHD.out]
                case measure => simp [intOf]; omega
              · obtain rfl : k = vs.length := by omega
                obtain ⟨pr, cr, rfl⟩ := ruleRow_sl HO5.out.2
                rw [List.take_length] at HRS
                obtain ⟨hri, hrm⟩ := rules_laid HO5.out.2 (by omega) HT1.out HRS.out (fun s => own_belowR (HMP7.out.row s) HO5.out.1) HVN.out HGN.out HGL.out
                have HRI := Lib.hid hri
                have HRM := Lib.hid hrm
                have HBF := Lib.hid (HBW7.out.trans (HO5.out.1.mono HBW7.out.size))
                clear hri hrm
                go_wp2
                go_ret2
                refine ⟨⟨.slice pr vs.length cr, (by rw [HE2.out]; rfl), fun h => absurd HE2.out h, fun _ => ⟨pr, cr, rs', ?_, ?_, ?_⟩⟩, HBF.out⟩
                · rw [← HVS.out]
                · rw [← HVS.out]; exact HRI.out
                · rw [HRM.out, ← HVS.out, HGE.out]
end Go.Proofs.Ytoiolepengcagaa
namespace Go.Proofs.Ytoiolepengcagaa
open Go.RowKit Go.Shelf Go.Maps
/-- what is asked of a closure at some rules -/
def DecR (F : Nat) (caps : Array Value) (p : Hd × Hd → Bool) (w : World) (l : List (Hd × Hd)) : Prop :=
  ∀ (W : World) (y : Hd × Hd), y ∈ l → Below w.heap.size w W → Calls Try.prog F (#[.agg #[y.1.v, y.2.v]] ++ caps) W fun e w' => e = .returned (.bool (p y)) ∧ Below W.heap.size W w'
set_option maxHeartbeats 2000000 in
theorem indexR_ok (F : Nat) (caps : Array Value) (f : Hd × Hd → Bool) (p : Option Addr) (n0 c : Nat) (l : List (Hd × Hd)) (w : World)
    (ent : ∀ (args : Array Value) (u : World), (callFunc F args).run Try.prog u = .ok (.enter F args) u) (h : P2At rF rG w p n0 c l) (hD : DecR F caps f w l) :
    Calls Try.prog 28 #[.slice p n0 c, .func (.func F) #[] caps] w fun e w' => (∃ r : Int, e = .returned (.int .i64 r) ∧ decide (0 ≤ r) = l.any f) ∧ Below w.heap.size w w' := by
  have hl := h.len
  have hbig := h.big
  subst hl
  have HN := Lib.hid h
  have HD := Lib.hid hD
  clear h hD
  go_enter Try.func28, Try.ntmps28
  go_wp2
  go_loopw [8] (fun i wr => ∃ k : Nat, k ≤ l.length ∧ i = .int .i64 k ∧ Hid (Below w.heap.size w wr) ∧ Hid ((l.take k).any f = false)) (fun i _ => l.length - (intOf i).toNat)
  case atStart => exact ⟨0, Nat.zero_le _, rfl, Below.refl _ _, rfl⟩
  case round =>
    obtain ⟨k, hk, rfl, HW, HL⟩ := hrel
    by_cases hlt : k < l.length
    · have hel := List.getElem?_eq_getElem hlt
      obtain ⟨b, o, rfl, hb, e1, e2⟩ := (HN.out.below HW.out).cell hel
      have hmm : l[k] ∈ l := List.getElem_mem hlt
      have HT : Hid ((l.take (k + 1)).any f = f l[k]) := by
        show _ = _
        rw [List.take_add_one, hel, List.any_append, HL.out]
        simp
      have HY : Hid (f l[k] = true → l.any f = true) := fun g => List.any_eq_true.2 ⟨_, hmm, g⟩
      rw [← Nat.add_assoc] at e2
      have hcall := HD.out wr _ hmm HW.out
      clear hel hmm
      generalize l[k] = y at *
      simp only [rF, rG, Hd.v] at e1 e2 hcall
      have hk1 : (k : Int) < (l.length : Int) := by omega
      generalize hv : f y = v at *
      clear hv
      obtain ⟨⟨p1, n1, cc1, T⟩, ⟨p2, n2, cc2, N⟩⟩ := y
      simp only at e1 e2 hcall
      cases v
      · go_wp2_with (go_at_fn F; refine hcall.mono ?_; rintro e w1 ⟨rfl, hb1⟩; have HB1 := Lib.hid hb1; clear hb1)
        go_roundw
        case rel => exact ⟨k + 1, by omega, by go_num, HW.out.trans (HB1.out.mono HW.out.size), HT.out⟩
        case measure => simp [intOf]; omega
      · have HYY := Lib.hid (HY.out rfl)
        clear HY HT
        go_wp2_with (go_at_fn F; refine hcall.mono ?_; rintro e w1 ⟨rfl, hb1⟩; have HB1 := Lib.hid hb1; clear hb1)
        go_ret
        exact ⟨⟨(k : Int), rfl, by rw [HYY.out]; exact decide_eq_true (by omega)⟩, HW.out.trans (HB1.out.mono HW.out.size)⟩
    · obtain rfl : k = l.length := by omega
      rw [List.take_length] at HL
      go_wp2
      go_ret
      exact ⟨⟨-1, rfl, by rw [HL.out]; rfl⟩, HW.out⟩
theorem containsR_ok (F : Nat) (caps : Array Value) (f : Hd × Hd → Bool) (p : Option Addr) (n0 c : Nat) (l : List (Hd × Hd)) (w : World)
    (ent : ∀ (args : Array Value) (u : World), (callFunc F args).run Try.prog u = .ok (.enter F args) u) (h : P2At rF rG w p n0 c l) (hD : DecR F caps f w l) :
    Calls Try.prog 12 #[.slice p n0 c, .func (.func F) #[] caps] w fun e w' => e = .returned (.bool (l.any f)) ∧ Below w.heap.size w w' := by
  have HX := Lib.hid (indexR_ok F caps f p n0 c l w ent h hD)
  clear h hD
  go_enter Try.func12, Try.ntmps12
  go_wp2_with (go_at_call 28; refine HX.out.mono ?_; rintro e w' ⟨⟨r, rfl, hr⟩, hb⟩; have HR := Lib.hid hr; have HB := Lib.hid hb; clear hr hb)
  go_ret
  exact ⟨by rw [← HR.out]; rfl, HB.out⟩
end Go.Proofs.Ytoiolepengcagaa
namespace Go.Proofs.Ytoiolepengcagaa
open Go.RowKit Go.Shelf Go.Maps
/-- what is asked of a closure at some inferences -/
def DecI (F : Nat) (caps : Array Value) (p : Inf → Bool) (w : World) (l : List Inf) : Prop :=
  ∀ (W : World) (y : Inf), y ∈ l → Below w.heap.size w W → Calls Try.prog F (#[.agg #[.string y.1, .string y.2]] ++ caps) W fun e w' => e = .returned (.bool (p y)) ∧ Below W.heap.size W w'
set_option maxHeartbeats 2000000 in
theorem indexIA_ok (F : Nat) (caps : Array Value) (f : Inf → Bool) (p : Option Addr) (n0 c : Nat) (l : List Inf) (w : World)
    (ent : ∀ (args : Array Value) (u : World), (callFunc F args).run Try.prog u = .ok (.enter F args) u) (h : P2At iF iG w p n0 c l) (hD : DecI F caps f w l) :
    Calls Try.prog 27 #[.slice p n0 c, .func (.func F) #[] caps] w fun e w' => (∃ r : Int, e = .returned (.int .i64 r) ∧ decide (0 ≤ r) = l.any f) ∧ Below w.heap.size w w' := by
  have hl := h.len
  have hbig := h.big
  subst hl
  have HN := Lib.hid h
  have HD := Lib.hid hD
  clear h hD
  go_enter Try.func27, Try.ntmps27
  go_wp2
  go_loopw [8] (fun i wr => ∃ k : Nat, k ≤ l.length ∧ i = .int .i64 k ∧ Hid (Below w.heap.size w wr) ∧ Hid ((l.take k).any f = false)) (fun i _ => l.length - (intOf i).toNat)
  case atStart => exact ⟨0, Nat.zero_le _, rfl, Below.refl _ _, rfl⟩
  case round =>
    obtain ⟨k, hk, rfl, HW, HL⟩ := hrel
    by_cases hlt : k < l.length
    · have hel := List.getElem?_eq_getElem hlt
      obtain ⟨b, o, rfl, hb, e1, e2⟩ := (HN.out.below HW.out).cell hel
      have hmm : l[k] ∈ l := List.getElem_mem hlt
      have HT : Hid ((l.take (k + 1)).any f = f l[k]) := by
        show _ = _
        rw [List.take_add_one, hel, List.any_append, HL.out]
        simp
      have HY : Hid (f l[k] = true → l.any f = true) := fun g => List.any_eq_true.2 ⟨_, hmm, g⟩
      rw [← Nat.add_assoc] at e2
      have hcall := HD.out wr _ hmm HW.out
      clear hel hmm
      generalize l[k] = y at *
      simp only [iF, iG] at e1 e2 hcall
      have hk1 : (k : Int) < (l.length : Int) := by omega
      generalize hv : f y = v at *
      clear hv
      obtain ⟨y1, y2⟩ := y
      simp only at e1 e2 hcall
      cases v
      · go_wp2_with (go_at_fn F; refine hcall.mono ?_; rintro e w1 ⟨rfl, hb1⟩; have HB1 := Lib.hid hb1; clear hb1)
        go_roundw
        case rel => exact ⟨k + 1, by omega, by go_num, HW.out.trans (HB1.out.mono HW.out.size), HT.out⟩
        case measure => simp [intOf]; omega
      · have HYY := Lib.hid (HY.out rfl)
        clear HY HT
        go_wp2_with (go_at_fn F; refine hcall.mono ?_; rintro e w1 ⟨rfl, hb1⟩; have HB1 := Lib.hid hb1; clear hb1)
        go_ret
        exact ⟨⟨(k : Int), rfl, by rw [HYY.out]; exact decide_eq_true (by omega)⟩, HW.out.trans (HB1.out.mono HW.out.size)⟩
    · obtain rfl : k = l.length := by omega
      rw [List.take_length] at HL
      go_wp2
      go_ret
      exact ⟨⟨-1, rfl, by rw [HL.out]; rfl⟩, HW.out⟩
theorem containsIA_ok (F : Nat) (caps : Array Value) (f : Inf → Bool) (p : Option Addr) (n0 c : Nat) (l : List Inf) (w : World)
    (ent : ∀ (args : Array Value) (u : World), (callFunc F args).run Try.prog u = .ok (.enter F args) u) (h : P2At iF iG w p n0 c l) (hD : DecI F caps f w l) :
    Calls Try.prog 10 #[.slice p n0 c, .func (.func F) #[] caps] w fun e w' => e = .returned (.bool (l.any f)) ∧ Below w.heap.size w w' := by
  have HX := Lib.hid (indexIA_ok F caps f p n0 c l w ent h hD)
  clear h hD
  go_enter Try.func10, Try.ntmps10
  go_wp2_with (go_at_call 27; refine HX.out.mono ?_; rintro e w' ⟨⟨r, rfl, hr⟩, hb⟩; have HR := Lib.hid hr; have HB := Lib.hid hb; clear hr hb)
  go_ret
  exact ⟨by rw [← HR.out]; rfl, HB.out⟩
end Go.Proofs.Ytoiolepengcagaa
