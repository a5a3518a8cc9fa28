/- The walk of rule.Join. Conditions: the rules read as listed. -/
import Derived.Test.YtoiolepengcagaaMapK
import Derived.Test.YtoiolepengcagaaPairs
namespace Go.Proofs.Ytoiolepengcagaa
open Go.RowKit Go.Shelf Go.Maps
/-- a slice of strings that is handed in or made -/
structure Hd where
  p : Option Addr
  n : Nat
  c : Nat
  zs : List ByteArray
def Hd.v (x : Hd) : Value := .slice x.p x.n x.c
def Hd.ok (w : World) (x : Hd) : Prop := NLw w x.p x.n x.c x.zs ∧ x.n ≤ x.c
theorem Hd.ok.below {w w' : World} {x : Hd} (h : x.ok w) (hb : Below w.heap.size w w') : x.ok w' := ⟨h.1.below hb, h.2⟩
def rF (x : Hd × Hd) : Value := x.1.v
def rG (x : Hd × Hd) : Value := x.2.v
def rl (x : Hd × Hd) : Rl := (x.1.zs, x.2.zs)
structure RulesIn (w : World) (p : Option Addr) (n c : Nat) (l : List (Hd × Hd)) : Prop where
  at_ : P2At rF rG w p n c l
  ok : ∀ x ∈ l, x.1.ok w ∧ x.2.ok w
  cap : n ≤ c
theorem RulesIn.below {w w' : World} {p : Option Addr} {n c : Nat} {l : List (Hd × Hd)} (h : RulesIn w p n c l) (hb : Below w.heap.size w w') : RulesIn w' p n c l :=
  ⟨h.at_.below hb, fun x hx => ⟨(h.ok x hx).1.below hb, (h.ok x hx).2.below hb⟩, h.cap⟩
theorem rb1 (w : World) (o : Obj) : Below w.heap.size w (w.alloc o) := (Below.refl _ _).alloc (Nat.le_refl _) _
theorem nlr_cell {w : World} {n c b o : Nat} {zs : List ByteArray} (h : NLw w (some ⟨b, o, none⟩) n c zs) {j : Nat} {x : ByteArray} (hj : zs[j]? = some x) : w.cell? ⟨b, o + j, none⟩ = some (.string x) := by
  have hl := h.at_.len
  have hlt := (List.getElem?_eq_some_iff.1 hj).1
  obtain ⟨ad, e, _, hc⟩ := str_at h.at_.reads (show j < n by omega)
  injection e with e
  subst e
  rw [Addr.add_lit, List.getD_eq_getElem?_getD, hj] at hc
  exact hc
/-- slices.Contains at what the call owns -/
theorem own_contains {w : World} {lo : Nat} {v : Value} {zs : List ByteArray} (h : w.ownsRow lo 9 1 v zs.length (strsV zs)) (hn : zs.length ≤ 9223372036854775807) (x : ByteArray) :
    Calls Try.prog 25 #[v, .string x] w fun e w' => e = .returned (.bool (Lib.containsS zs x)) ∧ w' = w := by
  rcases h.2 with ⟨rfl, h0⟩ | ⟨g, cap, cur, rfl, _, _, _, _, _, _⟩
  · have : zs = [] := List.length_eq_zero_iff.1 h0
    subst this
    exact Try.slices_Contains_string_empty none 0 x w
  · have hc := h.cells (g := g) rfl
    have := Try.slices_Contains_string g 0 zs.length cap zs x w (Nat.le_refl _) hn (fun j hj => by
      have h1 := hc j (.string (zs.getD j ByteArray.empty)) (by unfold strsV; rw [List.getElem?_map, List.getElem?_eq_getElem hj, List.getD_eq_getElem?_getD, List.getElem?_eq_getElem hj]; rfl)
      rw [Addr.add_lit] at h1
      exact h1)
    rw [List.take_length] at this
    exact this
theorem own_ne {w : World} {lo n b : Nat} {v : Value} {xs : List Value} {cs : Array Value} {T : TypeId} {fr : Nat × Nat} (h : w.ownsRow lo 9 1 v n xs) (hb : w.heap[b]? = some (.cells cs T fr)) (hT : T ≠ 9) : v.ownBlock ≠ some b := by
  rcases h.2 with ⟨rfl, _⟩ | ⟨g, cap, cur, rfl, _, hg, _⟩
  · simp [Value.ownBlock]
  · intro e
    simp only [Value.ownBlock, Option.some.injEq] at e
    subst e
    rw [hg] at hb
    simp only [Option.some.injEq, Obj.cells.injEq] at hb
    exact hT hb.2.1.symm
theorem info_ruleJ : (Try.prog.info? 31).map (fun i => (i.zero, i.size, i.bytes)) = some (some (.agg #[.slice none 0 0, .slice none 0 0]), 2, 48) := by kernel_rfl
theorem grown_below {w w' : World} (hb : Below w.heap.size w w') : w.grownBy w' none := ⟨hb.os, hb.tape, hb.output, hb.size, fun k hk _ => hb.block k hk⟩
def hdOf (v : Value) (zs : List ByteArray) : Hd := match v with | .slice p n c => ⟨p, n, c, zs⟩ | _ => ⟨none, 0, 0, zs⟩
theorem hdOf_v {w : World} {lo n : Nat} {v : Value} {xs : List Value} (h : w.ownsRow lo 9 1 v n xs) (zs : List ByteArray) : ∃ p c, v = .slice p n c ∧ hdOf v zs = ⟨p, n, c, zs⟩ := by
  rcases h.2 with ⟨rfl, rfl⟩ | ⟨g, cap, cur, rfl, _⟩
  · exact ⟨none, 0, rfl, rfl⟩
  · exact ⟨_, cap, rfl, rfl⟩
theorem own_kept_other {W W' : World} {lo lo2 n m : Nat} {v v2 : Value} {xs ys : List Value} (h : W.ownsRow lo 9 1 v n xs) (h2 : W.ownsRow lo2 31 2 v2 m ys) (hg : W.grownBy W' v2.ownBlock) : W'.ownsRow lo 9 1 v n xs := by
  refine h.kept hg ?_
  cases hq : v.ownBlock with
  | none => exact .inl rfl
  | some k =>
    refine .inr (fun e => ?_)
    rcases h2.2 with ⟨rfl, _⟩ | ⟨b, cap, cur, rfl, _, hb, _⟩
    · cases e
    · have : k = b := by simpa [Value.ownBlock] using e
      subst this
      exact own_ne h hb (by decide) hq
theorem cells2_app (a b : List (Hd × Hd)) : cells2 rF rG (a ++ b) = cells2 rF rG a ++ cells2 rF rG b := List.flatMap_append
theorem ruleRow_sl {w : World} {lo n : Nat} {v : Value} {xs : List Value} (h : w.ownsRow lo 31 2 v n xs) : ∃ p c, v = .slice p n c := by
  rcases h.2 with ⟨rfl, rfl⟩ | ⟨g, cap, cur, rfl, _⟩
  · exact ⟨none, 0, rfl⟩
  · exact ⟨_, cap, rfl⟩
/-- what Join answers -/
def Targ (l : List Rl) (t : Bs) : Prop := ∃ r ∈ l, t ∈ r.1.map (·.data.toList)
open Classical in
noncomputable def joinRE (l : List Rl) : Int := if 100 < l.length then 2 else if rulesE l ≠ 0 then rulesE l else
  if (∃ t, 64 < (grpR l (fun _ => []) t).length) ∨ (∃ us : List Bs, us.Pairwise (· < ·) ∧ (∀ t, t ∈ us ↔ Targ l t) ∧ 64 < us.length) then 2 else 0
def JoinRPost (w : World) (l : List Rl) (e : Ending) (w' : World) : Prop :=
  ∃ v E, e = .returned (.tuple #[v, .int .i64 E]) ∧ E = joinRE l ∧ (E ≠ 0 → v = nilS) ∧ Below w.heap.size w w' ∧
    (E = 0 → ∃ (p : Option Addr) (c lo lo2 : Nat) (us : List Bs) (h : Bs → Value) (rs : List (Hd × Hd)), v = .slice p us.length c ∧ us.Pairwise (· < ·) ∧ (∀ t, t ∈ us ↔ Targ l t) ∧ us.length ≤ 64 ∧ w.heap.size ≤ lo ∧ lo ≤ lo2 ∧
      w'.ownsRow lo2 31 2 v us.length (cells2 rF rG rs) ∧ rs.map (fun x => (x.1.zs, x.2)) = us.map (fun u => ([txt u], hdOf (h u) (grpR l (fun _ => []) u))) ∧
      (∀ x ∈ rs, w'.ownsRow lo2 9 1 x.1.v x.1.zs.length (strsV x.1.zs)) ∧ (rs.Pairwise fun x y => ∀ k, x.1.v.ownBlock = some k → y.1.v.ownBlock ≠ some k) ∧
      (∀ s, w'.ownsRow lo 9 1 (h s) (grpR l (fun _ => []) s).length (strsV (grpR l (fun _ => []) s))) ∧ (∀ s s', s ≠ s' → ∀ k, (h s).ownBlock = some k → (h s').ownBlock ≠ some k) ∧ (∀ s k, (h s).ownBlock = some k → k < lo2))
theorem strict_nodup {l : List Bs} (h : l.Pairwise (· < ·)) : l.Nodup := h.imp fun {a b} h1 e => by subst e; exact List.lt_irrefl a h1
theorem strict_len {l m : List Bs} (hl : l.Pairwise (· < ·)) (hm : m.Pairwise (· < ·)) (h : ∀ x, x ∈ l ↔ x ∈ m) : l.length = m.length :=
  ((List.perm_ext_iff_of_nodup (strict_nodup hl) (strict_nodup hm)).2 h).length_eq
theorem joinRE_ok {l : List Rl} {us : List Bs} (h1 : ¬ 100 < l.length) (h2 : rulesE l = 0) (h3 : us.Pairwise (· < ·)) (h4 : ∀ t, t ∈ us ↔ Targ l t) (h5 : us.length ≤ 64) (h6 : ∀ u ∈ us, (grpR l (fun _ => []) u).length ≤ 64) : joinRE l = 0 := by
  unfold joinRE
  rw [if_neg h1, if_neg (by rw [h2]; decide), if_neg]
  rintro (⟨t, ht⟩ | ⟨vs, k1, k2, k3⟩)
  · have hne : grpR l (fun _ => []) t ≠ [] := fun e => by rw [e] at ht; simp at ht
    obtain ⟨x, hx⟩ := List.exists_mem_of_ne_nil _ hne
    have := h6 t ((h4 t).2 (((grpR_mem l _ t).1 hx).resolve_left (by simp) |>.imp fun r hr => ⟨hr.1, hr.2.1⟩))
    omega
  · have := strict_len h3 k1 (fun t => (h4 t).trans (k2 t).symm)
    omega
set_option maxHeartbeats 8000000 in
set_option maxRecDepth 100000 in
theorem JoinR_ok (p : Option Addr) (n c : Nat) (l : List (Hd × Hd)) (w : World) (hR : RulesIn w p n c l) :
    Calls Try.prog 6 #[.slice p n c] w (JoinRPost w (l.map rl)) := by
  have hl := hR.at_.len
  have hbig := hR.at_.big
  have hcap := hR.cap
  subst hl
  obtain ⟨i0, hi, hz0, hz1, hz2⟩ := info_parts info_strM
  obtain ⟨i1, hi1, hy0, hy1, hy2⟩ := info_parts info_ruleJ
  have HN := Lib.hid (fun u (hu : Below w.heap.size w u) => hR.below hu)
  clear hR
  by_cases h100 : 100 < l.length
  · have HE2 : Hid (joinRE (l.map rl) = 2) := by
      show _ = _
      unfold joinRE
      rw [List.length_map, if_pos h100]
    go_enter Try.func6, Try.ntmps6
    go_wp2
    go_ret2
    exact ⟨nilS, 2, rfl, HE2.out.symm, fun _ => rfl, Below.refl _ _, fun h => absurd h (by decide)⟩
  · go_enter Try.func6, Try.ntmps6
    go_wp2
    go_loopw [23] (fun i wr => ∃ k : Nat, k ≤ l.length ∧ i = .int .i64 k ∧ Hid (Below w.heap.size w wr) ∧ Hid (rulesE ((l.map rl).take k) = 0)) (fun i _ => l.length - (intOf i).toNat)
    case atStart => exact ⟨0, Nat.zero_le _, rfl, Below.refl _ _, rfl⟩
    case round =>
      obtain ⟨k, hk, rfl, HW, HE⟩ := hrel
      by_cases hlt : k < l.length
      · have hel := List.getElem?_eq_getElem hlt
        obtain ⟨b, o, rfl, hb, c1, c2⟩ := (HN.out _ HW.out).at_.cell hel
        have hmm : l[k] ∈ l := List.getElem_mem hlt
        have hok := (HN.out _ HW.out).ok _ hmm
        have HT := Lib.hid (rulesE_take (l.map rl) k (rl l[k]) HE.out (by rw [List.getElem?_map, hel]; rfl))
        rw [← Nat.add_assoc] at c2
        clear hel hmm
        generalize l[k] = y at *
        obtain ⟨⟨p1, n1, cc1, T⟩, ⟨p2, n2, cc2, N⟩⟩ := y
        simp only [rF, rG, Hd.v, rl] at c1 c2 HT
        obtain ⟨⟨k1, k2⟩, ⟨k3, k4⟩⟩ := hok
        simp only at k1 k2 k3 k4
        have hk1 : (k : Int) < (l.length : Int) := by omega
        have HC := Lib.hid (CheckR_ok p1 p2 n1 cc1 n2 cc2 T N _ (k1.below (rb1 wr (.cells #[.slice p1 n1 cc1, .slice p2 n2 cc2] 31))) (k3.below (rb1 wr _)) k2 k4)
        have HB0 : Hid (∀ u, Below (wr.alloc (.cells #[.slice p1 n1 cc1, .slice p2 n2 cc2] 31)).heap.size (wr.alloc (.cells #[.slice p1 n1 cc1, .slice p2 n2 cc2] 31)) u → Below w.heap.size w u) := fun u hu => HW.out.trans (((rb1 wr _).trans (hu.mono (rb1 wr _).size)).mono HW.out.size)
        clear k1 k2 k3 k4
        by_cases hE : ruleE T N = 0
        · rw [hE] at HT HC
          go_wp2_with (go_at_call 24; refine HC.out.mono ?_; rintro e w1 ⟨rfl, hb1⟩; have HB1 := Lib.hid hb1; clear hb1)
          go_roundw
          case rel => exact ⟨k + 1, by omega, by go_num, HB0.out _ HB1.out, HT.out⟩
          case measure => simp [intOf]; omega
        · obtain ⟨e1, e2⟩ := int_ne' hE
          have HE2 : Hid (joinRE (l.map rl) = ruleE T N) := by
            show _ = _
            have h1 : rulesE (l.map rl) = ruleE T N := by
              have := rulesE_more ((l.map rl).take (k + 1)) ((l.map rl).drop (k + 1)) (by rw [HT.out]; exact hE)
              rw [List.take_append_drop, HT.out] at this
              exact this
            unfold joinRE
            rw [List.length_map, if_neg h100, if_pos (by rw [h1]; exact hE), h1]
          generalize ruleE T N = E at *
          go_wp2_with (go_at_call 24; refine HC.out.mono ?_; rintro e w1 ⟨rfl, hb1⟩; have HB1 := Lib.hid hb1; clear hb1)
          go_ret2
          exact ⟨nilS, E, rfl, HE2.out.symm, fun _ => rfl, HB0.out _ HB1.out, fun h => absurd h hE⟩
      · obtain rfl : k = l.length := by omega
        clear hlt hk
        have HGM := Lib.hid (Grp.made wr)
        have HW1 : Hid (Below w.heap.size w (wr.alloc (.map #[] 0))) := HW.out.trans ((rb1 wr _).mono HW.out.size)
        have hmk := @run_makeMap Try.prog
        have HF := Lib.hid (fun x (hx : x ∈ l) => ruleE_few (rulesE_all (by have := HE.out; rwa [List.take_of_length_le (by simp)] at this) (rl x) (List.mem_map_of_mem hx)))
        have HE0 : Hid (rulesE (l.map rl) = 0) := by have := HE.out; rwa [List.take_of_length_le (by simp)] at this
        clear HE
        generalize wr = wa at *
        have hwa := HW.out.size
        go_wp2
        go_loopw [36] (fun i wr => ∃ (k n : Nat) (ks : List Bs), k ≤ l.length ∧ n ≤ 20 * k ∧ i = .int .i64 k ∧ Hid (Below w.heap.size w wr) ∧ wa.heap.size + 1 ≤ wr.heap.size ∧
          Hid (Grp wr wa.heap.size (wa.heap.size + 1) n ks (grpR ((l.map rl).take k) (fun _ => []))) ∧ Hid (∀ t, t ∈ ks ↔ ∃ r ∈ (l.map rl).take k, t ∈ r.1.map (·.data.toList))) (fun i _ => l.length - (intOf i).toNat)
        case atStart => exact ⟨0, 0, [], Nat.zero_le _, Nat.le_refl _, rfl, HW1.out, by simp, HGM.out, fun t => by simp⟩
        case round =>
          obtain ⟨k, n, ks, hk, hn, rfl, HWk, hsz, HG, HK⟩ := hrel
          by_cases hlt : k < l.length
          · have hel := List.getElem?_eq_getElem hlt
            obtain ⟨b, o, rfl, hb, c1, c2⟩ := (HN.out _ HWk.out).at_.cell hel
            have hmm : l[k] ∈ l := List.getElem_mem hlt
            have hok := (HN.out _ HWk.out).ok _ hmm
            have HGT : Hid (grpR ((l.map rl).take (k + 1)) (fun _ => []) = grpT (grpR ((l.map rl).take k) (fun _ => [])) (rl l[k]).1 (rl l[k]).2) := grpR_take _ (by rw [List.getElem?_map, hel]; rfl)
            have HKT : Hid ((l.map rl).take (k + 1) = (l.map rl).take k ++ [rl l[k]]) := by
              show _ = _
              rw [List.take_add_one, List.getElem?_map, hel]; rfl
            have HNT := Lib.hid (fun u (hu : Below w.heap.size w u) => ((HN.out u hu).ok _ hmm).1.1)
            have HNN := Lib.hid (fun u (hu : Below w.heap.size w u) => ((HN.out u hu).ok _ hmm).2.1)
            obtain ⟨f1, f2⟩ := HF.out _ hmm
            have HGL : Hid (∀ t, (grpR ((l.map rl).take k) (fun _ => []) t).length ≤ 40000) := by
              show ∀ t, _
              intro t
              have := grpR_len ((l.map rl).take k) (fun _ => []) t (fun r hr => by
                obtain ⟨y, hy, rfl⟩ := List.mem_map.1 (List.mem_of_mem_take hr)
                exact HF.out y hy)
              rw [List.length_take, List.length_map] at this
              simp only [List.length_nil] at this
              omega
            rw [← Nat.add_assoc] at c2
            clear hel hmm
            generalize grpR ((l.map rl).take k) (fun _ => []) = g at *
            generalize l[k] = y at *
            obtain ⟨⟨p1, n1, cc1, T⟩, ⟨p2, n2, cc2, N⟩⟩ := y
            simp only [rF, rG, Hd.v, rl] at c1 c2 HGT HKT f1 f2 HNT HNN
            obtain ⟨⟨k1, k2⟩, ⟨k3, k4⟩⟩ := hok
            simp only at k1 k2 k3 k4
            have hk1 : (k : Int) < (l.length : Int) := by omega
            have l1 := k1.at_.len
            have l2 := k3.at_.len
            subst l1 l2
            obtain ⟨W0, hW0⟩ : ∃ W0, W0 = wr.alloc (.cells #[.slice p1 T.length cc1, .slice p2 N.length cc2] 31) := ⟨_, rfl⟩
            have hx9 : W0.heap[wr.heap.size]? = some (.cells #[.slice p1 T.length cc1, .slice p2 N.length cc2] 31 (0, 0)) := by rw [hW0]; exact heap_alloc_new _ _
            have cx1 : W0.cell? ⟨wr.heap.size, 0, none⟩ = some (.slice p1 T.length cc1) := by rw [hW0]; simp
            have hb0 : Below wr.heap.size wr W0 := by rw [hW0]; exact rb1 wr _
            have HG0 : Hid (Grp W0 wa.heap.size (wa.heap.size + 1) n ks g) := by
              rw [hW0]
              exact HG.out.kept (World.grownBy_alloc _ _ _)
            have HX0 := Lib.hid hx9
            have HWW0 : Hid (Below w.heap.size w W0) := HWk.out.trans (hb0.mono HWk.out.size)
            have hs0 : wa.heap.size + 1 ≤ W0.heap.size := Nat.le_trans hsz hb0.size
            clear k1 k3 hx9 hb0
            go_upto_region 14 with fail
            rw [← hW0]
            clear hW0 c1 c2 hb
            generalize wr.heap.size = b9 at *
            go_wp2
            go_loopw [43] (fun i w3 => ∃ (j m : Nat) (ks' : List Bs), j ≤ T.length ∧ m ≤ n + j ∧ i = .int .i64 j ∧ Hid (Below w.heap.size w w3) ∧ wa.heap.size + 1 ≤ w3.heap.size ∧ Hid (w3.heap[b9]? = some (.cells #[.slice p1 T.length cc1, .slice p2 N.length cc2] 31 (0, 0))) ∧
              Hid (Grp w3 wa.heap.size (wa.heap.size + 1) m ks' (grpT g (T.take j) N)) ∧ Hid (∀ t, t ∈ ks' ↔ t ∈ ks ∨ t ∈ (T.take j).map (·.data.toList))) (fun i _ => T.length - (intOf i).toNat)
            case atStart => exact ⟨0, n, ks, Nat.zero_le _, Nat.le_refl _, rfl, HWW0.out, hs0, HX0.out, HG0.out, fun t => by simp⟩
            case round =>
              clear HG0 HX0 HWW0 cx1
              obtain ⟨j, m, ks', hj, hm, rfl, HW3, hs3, HX3, HG3, HK3⟩ := hrel
              by_cases hjt : j < T.length
              · have hel := List.getElem?_eq_getElem hjt
                have hnl := HNT.out _ HW3.out
                obtain ⟨ad, rfl, _⟩ := hnl.at_.reads.2 (by omega)
                obtain ⟨b1, o1, rfl, hb1⟩ := hnl.plain (by omega) _ rfl
                have hcx := nlr_cell hnl hel
                have hxs := hnl.at_.size _ (List.getElem_mem hjt)
                have HGX : Hid (grpT g (T.take (j + 1)) N = upd (grpT g (T.take j) N) T[j].data.toList (addAll (grpT g (T.take j) N T[j].data.toList) N)) := grpT_take g hel
                have HKX : Hid (T.take (j + 1) = T.take j ++ [T[j]]) := by
                  show _ = _
                  rw [List.take_add_one, hel]; rfl
                clear hel hnl
                generalize T[j] = x at *
                have hxm : x.size ≤ maxLen := by unfold maxLen; omega
                have hj1 : (j : Int) < (T.length : Int) := by omega
                obtain ⟨hd, hMH, hGX⟩ := HG3.out.look x.data.toList
                have HMH := Lib.hid hMH
                have HGX0 := Lib.hid hGX
                have cy2 : wr.cell? ⟨b9, 1, none⟩ = some (.slice p2 N.length cc2) := by have := HX3.out; simp [World.cell?, this]
                clear hMH hGX
                go_wp2_with (at_lookup; refine look_h _ rfl _ _ rfl rfl HMH.out x rfl hxm ?_)
                have hzl : (grpT g (T.take j) N x.data.toList).length ≤ 40400 := by
                  have h1 := grpT_len (N := N) (T.take j) g x.data.toList
                  have h2 := HGL.out x.data.toList
                  have h3 : (T.take j).length * N.length ≤ 20 * 20 := Nat.mul_le_mul (by rw [List.length_take]; omega) f2
                  omega
                generalize grpT g (T.take j) N = g' at *
                go_loopw [53, 12] (fun i v w4 => ∃ q : Nat, q ≤ N.length ∧ i = .int .i64 q ∧ Hid (Below w.heap.size w w4) ∧ wa.heap.size + 1 ≤ w4.heap.size ∧ Hid (w4.heap[b9]? = some (.cells #[.slice (some ⟨b1, o1, none⟩) T.length cc1, .slice p2 N.length cc2] 31 (0, 0))) ∧
                  Hid (GrpX w4 wa.heap.size (wa.heap.size + 1) m ks' g' x.data.toList v (addAll (g' x.data.toList) (N.take q)))) (fun i _ _ => N.length - (intOf i).toNat)
                case atStart => exact ⟨0, Nat.zero_le _, rfl, HW3.out, hs3, HX3.out, HGX0.out⟩
                case round =>
                  clear HGX0 HMH cy2 hcx
                  obtain ⟨q, hq, rfl, HW4, hs4, HX4, HG4⟩ := hrel
                  by_cases hqt : q < N.length
                  · have hel := List.getElem?_eq_getElem hqt
                    have hnl := HNN.out _ HW4.out
                    obtain ⟨ad, rfl, _⟩ := hnl.at_.reads.2 (by omega)
                    obtain ⟨b2, o2, rfl, hb2⟩ := hnl.plain (by omega) _ rfl
                    have hcx := nlr_cell hnl hel
                    have HAD : Hid (addAll (g' x.data.toList) (N.take (q + 1)) = addN (addAll (g' x.data.toList) (N.take q)) N[q]) := addAll_take _ hel
                    have hzq := addAll_len (N.take q) (g' x.data.toList)
                    rw [List.length_take] at hzq
                    clear hel hnl
                    generalize addAll (g' x.data.toList) (N.take q) = zs at *
                    generalize N[q] = y at *
                    have hq1 : (q : Int) < (N.length : Int) := by omega
                    have HCT := Lib.hid (own_contains HG4.out.own (by omega) y)
                    cases hc : Lib.containsS zs y
                    · have HAE : Hid (addAll (g' x.data.toList) (N.take (q + 1)) = zs ++ [y]) := by
                        show _ = _
                        rw [HAD.out]; unfold addN; rw [if_neg (by rw [hc]; decide)]
                      rw [hc] at HCT
                      have hb0 : Below wr.heap.size wr (wr.alloc (.cells #[.string y] 9)) := rb1 wr _
                      have HGA := Lib.hid (HG4.out.kept (World.grownBy_alloc wr (.cells #[.string y] 9) none))
                      have HXA : Hid ((wr.alloc (.cells #[.string y] 9)).heap[b9]? = some (.cells #[.slice (some ⟨b1, o1, none⟩) T.length cc1, .slice (some ⟨b2, o2, none⟩) N.length cc2] 31 (0, 0))) := by
                        show _ = _
                        rw [hb0.block _ (Array.getElem?_eq_some_iff.1 HX4.out).1]; exact HX4.out
                      have HWA : Hid (Below w.heap.size w (wr.alloc (.cells #[.string y] 9))) := HW4.out.trans (hb0.mono HW4.out.size)
                      have HCE : Hid (∀ (j : Nat) u, [Value.string y][j]? = some u → (wr.alloc (.cells #[.string y] 9)).cell? ((⟨wr.heap.size, 0, none⟩ : Addr).add j) = some u) := by
                        show ∀ (j : Nat) u, _
                        intro j u hu
                        match j, hu with
                        | 0, hu =>
                          simp at hu
                          subst hu
                          rw [Addr.add_lit]; simp
                      have HOC : Hid (∀ u ∈ [Value.string y], u.oneCell' = true) := by
                        show ∀ u ∈ _, _
                        intro u hu
                        rw [List.mem_singleton.1 hu]; rfl
                      have hsa : wa.heap.size + 1 ≤ (wr.alloc (.cells #[.string y] 9)).heap.size := Nat.le_trans hs4 hb0.size
                      have HLZ : Hid (zs.length + 1 ≤ maxLen ∧ (zs.length + 1) * 16 ≤ 140737488355328) := ⟨by unfold maxLen; omega, by omega⟩
                      clear hb0
                      go_wp2_with (first
                        | (go_at_call 25; refine HCT.out.mono ?_; rintro e w5 ⟨rfl, hw5⟩; rw [hw5]; clear hw5)
                        | (at_builtin; refine wpList_append_own_at _ rfl _ _ 24 rfl (wa.heap.size + 1) 9 i0 (.string ⟨#[]⟩) 1 16 Try.underlying24 hi hz0 hz1 hz2 rfl (by decide) u12 zs.length (strsV zs) rfl HGA.out.own ⟨wr.heap.size, 0, none⟩ 1 1 [.string y] rfl rfl HCE.out HOC.out HLZ.out.1 HLZ.out.2 hsa ?_; intro v' w6 h1 h2 _ h4; have HO6 := Lib.hid h1; have HG6 := Lib.hid h2; have HL6 := Lib.hid h4; clear h1 h2 h4))
                      go_roundw
                      case rel =>
                        refine ⟨q + 1, by omega, by go_num, HWA.out.grown HG6.out HWA.out.size (fun k1 e => by have := (HGA.out.own.lt k1 e).1; omega), Nat.le_trans hsa HG6.out.size, ?_, ?_⟩
                        · show _ = _
                          rw [HG6.out.block b9 (Array.getElem?_eq_some_iff.1 HXA.out).1 (fun e => own_ne HGA.out.own HXA.out (by decide) e.symm)]
                          exact HXA.out
                        · rw [HAE.out]
                          exact HGA.out.appended (by rw [List.length_append, strsV_app]; exact HO6.out) HG6.out HL6.out
                      case measure => simp [intOf]; omega
                    · have HAE : Hid (addAll (g' x.data.toList) (N.take (q + 1)) = zs) := by
                        show _ = _
                        rw [HAD.out]; unfold addN; rw [if_pos hc]
                      rw [hc] at HCT
                      go_wp2_with (go_at_call 25; refine HCT.out.mono ?_; rintro e w5 ⟨rfl, hw5⟩; rw [hw5]; clear hw5)
                      go_roundw
                      case rel => exact ⟨q + 1, by omega, by go_num, HW4.out, hs4, HX4.out, by rw [HAE.out]; exact HG4.out⟩
                      case measure => simp [intOf]; omega
                  · obtain rfl : q = N.length := by omega
                    have hne : b9 ≠ wa.heap.size := by omega
                    have hmm : m < maxLen := by unfold maxLen; omega
                    rw [List.take_length] at HG4
                    go_wp2_with (at_mapUpdate; refine store_g _ rfl _ _ _ rfl x rfl HG4.out hmm rfl hxm rfl ?_; intro w5 h1 h2; have HG5 := Lib.hid h1; have HGR := Lib.hid h2; clear h1 h2)
                    go_roundw
                    case rel =>
                      refine ⟨j + 1, m + 1, x.data.toList :: ks', by omega, by omega, by go_num, HW4.out.grown HGR.out HW4.out.size (fun k1 e => by injection e with e; omega), Nat.le_trans hs4 HGR.out.size, ?_, ?_, fun t => ?_⟩
                      · show _ = _
                        rw [HGR.out.block b9 (Array.getElem?_eq_some_iff.1 HX4.out).1 (fun e => by injection e with e; exact hne e)]
                        exact HX4.out
                      · rw [HGX.out]; exact HG5.out
                      · rw [List.mem_cons, HK3.out, HKX.out, List.map_append, List.mem_append]
                        simp only [List.map_cons, List.map_nil, List.mem_singleton]
                        constructor
                        · rintro (h | h | h)
                          · exact .inr (.inr h)
                          · exact .inl h
                          · exact .inr (.inl h)
                        · rintro (h | h | h)
                          · exact .inr (.inl h)
                          · exact .inr (.inr h)
                          · exact .inl h
                    case measure => simp [intOf]; omega
              · obtain rfl : j = T.length := by omega
                rw [List.take_length] at HG3 HK3
                go_wp2
                go_roundw
                case rel =>
                  refine ⟨k + 1, m, ks', by omega, by omega, by go_num, HW3.out, hs3, by rw [HGT.out]; exact HG3.out, fun t => ?_⟩
                  rw [HK3.out, HK.out, HKT.out]
                  simp only [List.mem_append, List.mem_singleton]
                  constructor
                  · rintro (⟨r, h1, h2⟩ | h)
                    · exact ⟨r, .inl h1, h2⟩
                    · exact ⟨(T, N), .inr rfl, h⟩
                  · rintro ⟨r, h1 | rfl, h2⟩
                    · exact .inl ⟨r, h1, h2⟩
                    · exact .inr h2
                case measure => simp [intOf]; omega
          · obtain rfl : k = l.length := by omega
            rw [List.take_of_length_le (by simp)] at HG HK
            have HKO := Lib.hid (keys_ok (some wa.heap.size) wr)
            have HSO := Lib.hid (sortedKeys_ok HG.out (by omega))
            go_wp2_with (first
              | (go_at_call 23; refine HKO.out.mono ?_; rintro e w1 ⟨rfl, hw1⟩; rw [hw1]; clear hw1)
              | (go_at_call 22; refine HSO.out.mono ?_; rintro e w2 ⟨qs, cs, us, rfl, hu1, hu2, hu3, hu4, hu5⟩; have HU1 := Lib.hid hu1; have HU2 := Lib.hid hu2; have HU4 := Lib.hid hu4; have HU5 := Lib.hid hu5; clear hu1 hu2 hu4 hu5))
            have HG2 : Hid (Grp w2 wa.heap.size (wa.heap.size + 1) n ks (grpR (l.map rl) (fun _ => []))) := (HG.out.kept (World.grownBy_alloc wr (.cells #[.map (some wa.heap.size)] 47) none)).kept (grown_below (by have := HU5.out; simpa using this))
            have HW2 : Hid (Below w.heap.size w w2) := HWk.out.trans (((rb1 wr _).trans ((HU5.out).mono (Nat.le_succ _))).mono HWk.out.size)
            have hs2 : wr.heap.size + 1 ≤ w2.heap.size := by have := HU5.out.size; simpa using this
            clear HG HKO HSO HU5
            obtain ⟨h, hMH, hrow, hdis, _⟩ := HG2.out
            have HMH := Lib.hid hMH
            have HROW := Lib.hid hrow
            have HDIS := Lib.hid hdis
            clear hMH hrow hdis HG2
            generalize hgg : grpR (l.map rl) (fun _ => []) = g at *
            have HGG := Lib.hid hgg
            clear hgg
            go_loopw [75, 15] (fun i v w5 => ∃ (k : Nat) (rs : List (Hd × Hd)), k ≤ us.length ∧ i = .int .i64 k ∧ rs.length = k ∧ Hid (Below w.heap.size w w5) ∧ Hid (Below w2.heap.size w2 w5 ∧ w5.ownsRow w2.heap.size 31 2 v k (cells2 rF rG rs)) ∧
              Hid (∀ x ∈ rs, w5.ownsRow w2.heap.size 9 1 x.1.v x.1.zs.length (strsV x.1.zs)) ∧ Hid (rs.Pairwise fun x y => ∀ k, x.1.v.ownBlock = some k → y.1.v.ownBlock ≠ some k) ∧
              Hid (∀ u ∈ us.take k, (g u).length ≤ 64) ∧ Hid (rs.map (fun x => (x.1.zs, x.2)) = (us.take k).map fun u => ([txt u], hdOf (h u) (g u)))) (fun i _ _ => us.length - (intOf i).toNat)
            case atStart => exact ⟨0, [], Nat.zero_le _, rfl, rfl, HW2.out, ⟨Below.refl _ _, World.ownsRow_nil _ _ _ _⟩, fun x hx => (by cases hx), List.Pairwise.nil, fun u hu => (by cases hu), rfl⟩
            case round =>
              obtain ⟨k, rs, hk, rfl, hrk, HW5, HO5, HT1, HT2, HL64, HRS⟩ := hrel
              by_cases hlt : k < us.length
              · have hel := List.getElem?_eq_getElem hlt
                obtain ⟨bs, capS, hv, _, _⟩ := HU4.out.form (by omega)
                injection hv with hv1 hv2 hv3
                subst hv1 hv3
                have hcx := HU4.out.cells (g := bs) rfl k (encStr us[k]) (by rw [List.getElem?_map, hel]; rfl)
                rw [Addr.add_lit] at hcx
                have hcx5 := (HO5.out.1.cell (World.block_lt_of_cell? w2 _ hcx)).trans hcx
                obtain ⟨u, hu⟩ : ∃ u, u = us[k] := ⟨_, rfl⟩
                rw [← hu] at hcx5 hel
                have huk : u ∈ ks := (HU2.out u).1 (by rw [hu]; exact List.getElem_mem hlt)
                obtain ⟨hp, hc, hhu, hhd⟩ := hdOf_v (HROW.out u) (g u)
                have hht : h (txt u).data.toList = .slice hp (g u).length hc := by rw [txt_list]; exact hhu
                have hcx6 : wr.cell? ⟨bs, k, none⟩ = some (.string (txt u)) := by rw [Nat.zero_add] at hcx5; exact hcx5
                have HRU : Hid (us.take (k + 1) = us.take k ++ [u]) := by
                  show _ = _
                  rw [List.take_add_one, hel]; rfl
                clear hel hhu hcx hcx5 hu
                have hk1 : (k : Int) < (us.length : Int) := by omega
                have HMH5 := Lib.hid (HMH.out.kept (grown_below HO5.out.1) (by simp))
                have hxm : (txt u).size ≤ maxLen := by
                  obtain ⟨r, hr1, hr2⟩ := (HK.out u).1 huk
                  obtain ⟨x, hx, rfl⟩ := List.mem_map.1 hr1
                  obtain ⟨t, ht, rfl⟩ := List.mem_map.1 hr2
                  have := ((HN.out _ HW2.out).ok x hx).1.1.at_.size t ht
                  rw [list_txt]
                  unfold maxLen
                  omega
                by_cases h64 : 64 < (g u).length
                · have HE2 : Hid (joinRE (l.map rl) = 2) := by
                    show _ = _
                    unfold joinRE
                    rw [List.length_map, if_neg h100, if_neg (by rw [HE0.out]; decide), if_pos (.inl ⟨u, by rw [HGG.out]; exact h64⟩)]
                  have h64i : (64 : Int) < ((g u).length : Int) := by omega
                  go_wp2_with (at_lookup; refine look_h _ rfl _ _ rfl rfl HMH5.out (txt u) rfl hxm ?_; rw [hht])
                  go_ret2
                  exact ⟨nilS, 2, rfl, HE2.out.symm, fun _ => rfl, HW5.out, fun h => absurd h (by decide)⟩
                · have h64i : ¬ ((64 : Int) < ((g u).length : Int)) := by omega
                  go_upto_region 33 with (at_lookup; refine look_h _ rfl _ _ rfl rfl HMH5.out (txt u) rfl hxm ?_; rw [hht])
                  obtain ⟨o1, ho1⟩ : ∃ o1, o1 = Obj.cells #[.string (txt u)] 9 := ⟨_, rfl⟩
                  obtain ⟨o2, ho2⟩ : ∃ o2, o2 = Obj.cells #[.slice (some ⟨wr.heap.size, 0, none⟩) 1 1, .slice hp (g u).length hc] 31 := ⟨_, rfl⟩
                  have hz1' : (wr.alloc o1).heap.size = wr.heap.size + 1 := by simp
                  have hz2' : ((wr.alloc o1).alloc o2).heap.size = wr.heap.size + 2 := by simp
                  have HMH6 : Hid (MapH (wr.alloc o1) wa.heap.size n ks h) := HMH5.out.kept (World.grownBy_alloc _ _ none) (by simp)
                  have hbA : Below wr.heap.size wr ((wr.alloc o1).alloc o2) := (rb1 wr o1).trans ((rb1 (wr.alloc o1) o2).mono (by rw [hz1']; omega))
                  have HOA := Lib.hid ((HO5.out.2.alloc o1).alloc o2)
                  have HTA : Hid (∀ x ∈ rs, ((wr.alloc o1).alloc o2).ownsRow w2.heap.size 9 1 x.1.v x.1.zs.length (strsV x.1.zs)) := fun x hx => ((HT1.out x hx).alloc o1).alloc o2
                  have HWA : Hid (Below w.heap.size w ((wr.alloc o1).alloc o2)) := HW5.out.trans (hbA.mono HW5.out.size)
                  have HWB : Hid (Below w2.heap.size w2 ((wr.alloc o1).alloc o2)) := HO5.out.1.trans (hbA.mono HO5.out.1.size)
                  have hw2r := HO5.out.1.size
                  have HTN : Hid (((wr.alloc o1).alloc o2).ownsRow w2.heap.size 9 1 (.slice (some ⟨wr.heap.size, 0, none⟩) 1 1) 1 [.string (txt u)]) := by
                    refine World.ownsRow.alloc ⟨rfl, .inr ⟨wr.heap.size, 1, #[.string (txt u)], rfl, hw2r, ?_, Nat.le_refl _, by unfold maxLen; omega, rfl, rfl⟩⟩ o2
                    rw [ho1]; exact heap_alloc_new _ _
                  have HCE : Hid (∀ (j : Nat) z, [Value.slice (some ⟨wr.heap.size, 0, none⟩) 1 1, Value.slice hp (g u).length hc][j]? = some z → ((wr.alloc o1).alloc o2).cell? ((⟨wr.heap.size + 1, 0, none⟩ : Addr).add j) = some z) := by
                    show ∀ (j : Nat) z, _
                    intro j z hz
                    have hat : ((wr.alloc o1).alloc o2).heap[wr.heap.size + 1]? = some o2 := by rw [← hz1']; exact heap_alloc_new _ _
                    rw [Addr.add_lit]
                    rw [ho2] at hat ⊢
                    match j, hz with
                    | 0, hz =>
                      simp only [List.getElem?_cons_zero, Option.some.injEq] at hz
                      rw [← hz]
                      unfold World.cell?
                      simp only [Nat.zero_add]
                      rw [hat]; rfl
                    | 1, hz =>
                      simp only [List.getElem?_cons_succ, List.getElem?_cons_zero, Option.some.injEq] at hz
                      rw [← hz]
                      unfold World.cell?
                      simp only [Nat.zero_add]
                      rw [hat]; rfl
                  have HOC : Hid (∀ z ∈ [Value.slice (some ⟨wr.heap.size, 0, none⟩) 1 1, Value.slice hp (g u).length hc], z.oneCell' = true) := by
                    show ∀ z ∈ _, _
                    intro z hz
                    rcases List.mem_cons.1 hz with rfl | hz
                    · rfl
                    · rw [List.mem_singleton.1 hz]; rfl
                  have HLZ : Hid (k + 1 ≤ maxLen ∧ (k + 1) * 48 ≤ 140737488355328) := ⟨by unfold maxLen; omega, by omega⟩
                  have hsa : w2.heap.size ≤ ((wr.alloc o1).alloc o2).heap.size := HWB.out.size
                  clear hbA hz1' hz2'
                  subst ho1 ho2
                  go_wp2_with (first
                    | (at_lookup; refine look_h _ rfl _ _ rfl rfl HMH6.out (txt u) rfl hxm ?_; rw [hht])
                    | (at_builtin; refine wpList_append_own _ rfl _ _ 22 rfl w2.heap.size 31 i1 _ 2 48 Try.underlying22 hi1 hy0 hy1 hy2 rfl (by decide) u15 k (cells2 rF rG rs) rfl HOA.out ⟨wr.heap.size + 1, 0, none⟩ 1 1 [Value.slice (some ⟨wr.heap.size, 0, none⟩) 1 1, Value.slice hp (g u).length hc] rfl rfl HCE.out HOC.out HLZ.out.1 HLZ.out.2 hsa ?_; intro v' w6 g1 g2 _; have HO6 := Lib.hid g1; have HG6 := Lib.hid g2; clear g1 g2))
                  go_roundw
                  case rel =>
                    refine ⟨k + 1, rs ++ [((⟨some ⟨wr.heap.size, 0, none⟩, 1, 1, [txt u]⟩ : Hd), (⟨hp, (g u).length, hc, g u⟩ : Hd))], by omega, by go_num, by simp [hrk], HWA.out.grown HG6.out HWA.out.size (fun k1 e => by have := (HOA.out.lt k1 e).1; have := HW2.out.size; omega), ⟨HWB.out.grown HG6.out HWB.out.size (fun k1 e => (HOA.out.lt k1 e).1), ?_⟩, ?_, ?_, ?_, ?_⟩
                    · rw [cells2_app]; exact HO6.out
                    · intro x hx
                      rcases List.mem_append.1 hx with hx | hx
                      · exact own_kept_other (HTA.out x hx) HOA.out HG6.out
                      · rw [List.mem_singleton.1 hx]
                        exact own_kept_other HTN.out HOA.out HG6.out
                    · refine List.pairwise_append.2 ⟨HT2.out, List.pairwise_singleton _ _, fun x hx y hy k1 e => ?_⟩
                      rw [List.mem_singleton.1 hy]
                      have := ((HT1.out x hx).lt k1 e).2
                      intro e2
                      simp only [Hd.v, Value.ownBlock, Option.some.injEq] at e2
                      omega
                    · intro t ht
                      rw [HRU.out] at ht
                      rcases List.mem_append.1 ht with ht | ht
                      · exact HL64.out t ht
                      · rw [List.mem_singleton.1 ht]; omega
                    · show _ = _
                      rw [List.map_append, HRS.out, HRU.out, List.map_append]
                      simp only [List.map_cons, List.map_nil]
                      rw [hhd]
                  case measure => simp [intOf]; omega
              · obtain rfl : k = us.length := by omega
                rw [List.take_length] at HRS HL64
                obtain ⟨pr, cr, rfl⟩ := ruleRow_sl HO5.out.2
                by_cases h64 : 64 < us.length
                · have HE2 : Hid (joinRE (l.map rl) = 2) := by
                    show _ = _
                    unfold joinRE
                    rw [List.length_map, if_neg h100, if_neg (by rw [HE0.out]; decide), if_pos (.inr ⟨us, HU1.out, fun t => (HU2.out t).trans (HK.out t), h64⟩)]
                  have h64i : (64 : Int) < (us.length : Int) := by omega
                  go_wp2
                  go_ret2
                  exact ⟨nilS, 2, rfl, HE2.out.symm, fun _ => rfl, HW5.out, fun h => absurd h (by decide)⟩
                · have h64i : ¬ ((64 : Int) < (us.length : Int)) := by omega
                  have HE2 : Hid (joinRE (l.map rl) = 0) := joinRE_ok (by rw [List.length_map]; exact h100) HE0.out HU1.out (fun t => (HU2.out t).trans (HK.out t)) (by omega) (by rw [HGG.out]; exact HL64.out)
                  go_wp2
                  go_ret2
                  refine ⟨.slice pr us.length cr, 0, rfl, HE2.out.symm, fun h => absurd rfl h, HW5.out, fun _ => ⟨pr, cr, wa.heap.size + 1, w2.heap.size, us, h, rs, rfl, HU1.out, fun t => (HU2.out t).trans (HK.out t), by omega, by omega, by omega, HO5.out.2, ?_, HT1.out, HT2.out, ?_, HDIS.out, fun s k hk => ((HROW.out s).lt k hk).2⟩⟩
                  · rw [HGG.out]; exact HRS.out
                  · rw [HGG.out]
                    intro s
                    refine (HROW.out s).kept (grown_below HO5.out.1) ?_
                    cases hq : (h s).ownBlock with
                    | none => exact .inl rfl
                    | some k => exact .inr (by simp)
end Go.Proofs.Ytoiolepengcagaa
