/- Texts joined: AskTextW, AskText2W, FreeFnW, NLArg, NameFindW. Conditions: theirs. -/
import Derived.Test.YteefncohknclcaaGreatDoorAskBoundLWM8
import Derived.Test.YteefncohknclcaaGreatDoorAskBoundLWM7
import Derived.Test.YteefncohknclcaaGreatDoorStrs
import Derived.WalkSmall
import Derived.StillTailTactics
import Derived.Deep.RegionWith
import Derived.Test.YteefncohknclcaaGreatDoorNameSortW
import Derived.Test.YteefncohknclcaaGreatDoorNamesW
import Derived.WideShapes
import Derived.Test.YteefncohknclcaaGreatDoorSearchW
namespace Go.Proofs.YteefncohknclcaaGreatDoor
open Go.RowKit Go.Shelf
set_option maxHeartbeats 4000000 in
set_option maxRecDepth 100000 in
/-- ask.Check -/
theorem CheckA_ok (t : QT) (w : World) (hq : QIn w t) (hT : AskTabs w) (hc : qcnt (qabs t) ≤ 1099511627776) : Calls Tryz.prog 32 #[t.v] w fun e w' => e = .returned (.int .i64 (qE qpat (qabs t))) ∧ Below w.heap.size w w' := by
  obtain ⟨k, s, n, p, c, xs⟩ := t
  obtain ⟨W, hW, hBW, hS, hC⟩ := arg1 w (.int .i64 k) (.string s) (.int .i64 n) (.slice p xs.length c)
  have HC := Lib.hid hC
  have HBW := Lib.hid hBW
  have HCO := Lib.hid (countA_ok _ W (hq.below hBW) hc)
  have HCH := Lib.hid (fun (u : World) (hu : Below W.heap.size W u) => check_ok _ u (hq.below (hBW.trans (hu.mono hBW.size))) (hT.below (hBW.trans (hu.mono hBW.size))))
  have hE : qE qpat (qabs (.mk k s n p c xs)) = if 60 < qcnt (qabs (.mk k s n p c xs)) then 2 else qchk qpat (qabs (.mk k s n p c xs)) := rfl
  obtain ⟨k0, k1, k2, k3⟩ := HC.out W (Below.refl _ _)
  rw [hW] at k0 k1 k2 k3
  show Calls Tryz.prog 32 #[.agg #[.int .i64 k, .string s, .int .i64 n, .slice p xs.length c]] w _
  obtain ⟨m, hm⟩ : ∃ m, qcnt (qabs (.mk k s n p c xs)) = m := ⟨_, rfl⟩
  rw [hm] at hE hc HCO
  clear hq hT hBW hS hC hm
  go_enter Tryz.func32, Tryz.ntmps32
  by_cases h60 : 60 < m
  · rw [if_pos h60] at hE
    have HE := Lib.hid hE
    clear hE
    go_wp2_with (go_at_call 53; rw [← hW]; refine HCO.out.mono ?_; rintro e w2 ⟨rfl, hb⟩; have HB := Lib.hid (HBW.out.trans (hb.mono HBW.out.size)); clear hb)
    go_ret
    exact ⟨by rw [HE.out]; rfl, HB.out⟩
  · rw [if_neg h60] at hE
    have HE := Lib.hid hE
    clear hE
    go_wp2_with (first
      | (go_at_call 53; rw [← hW]; refine HCO.out.mono ?_; rintro e w2 ⟨rfl, hb⟩; have HB0 := Lib.hid hb; have HB := Lib.hid (HBW.out.trans (hb.mono HBW.out.size)); obtain ⟨u0, u1, u2, u3⟩ := HC.out w2 hb; clear hb)
      | (go_at_call 54; refine (HCH.out _ HB0.out).mono ?_; rintro e w3 ⟨rfl, hb⟩; have HB3 := Lib.hid (HB.out.trans (hb.mono HB.out.size)); clear hb))
    go_ret
    exact ⟨by rw [HE.out]; rfl, HB3.out⟩
/-- the texts of those in an ask, as values -/
def txtsV (l : List QT) : List Value := l.map fun t => .string (qtx (qtxt (qabs t)))
theorem txtsV_next {l : List QT} {k : Nat} {x : QT} (h : l[k]? = some x) : txtsV (l.take (k + 1)) = txtsV (l.take k) ++ [.string (qtx (qtxt (qabs x)))] := by
  have hk : k < l.length := by
    rcases Nat.lt_or_ge k l.length with h1 | h1
    · exact h1
    · rw [List.getElem?_eq_none h1] at h; cases h
  rw [List.getElem?_eq_getElem hk] at h
  injection h with h
  unfold txtsV
  rw [List.take_succ_eq_append_getElem hk, List.map_append, h]
  rfl
structure TxtTabs (w : World) : Prop where
  ask : AskTabs w
  kinds : Kinds w
  pow : Lib.TabIs Tryz.prog w "internal/strconv.uint64pow10" .u64 Lib.pow10Tab
theorem powG : Tryz.prog.globalNamed "internal/strconv.uint64pow10" = some 6 := by kernel_rfl
theorem pow_below {w w' : World} {zs : List Int} (h : Lib.TabIs Tryz.prog w "internal/strconv.uint64pow10" .u64 zs) (hb : Below w.heap.size w w') : Lib.TabIs Tryz.prog w' "internal/strconv.uint64pow10" .u64 zs := by
  have hlt : 6 < w.heap.size := by
    rcases Nat.lt_or_ge 6 w.heap.size with h1 | h1
    · exact h1
    · unfold Lib.TabIs World.var? at h
      simp [powG, Array.getElem?_eq_none h1] at h
  exact var?_below hb powG hlt h
theorem TxtTabs.below {w w' : World} (h : TxtTabs w) (hb : Below w.heap.size w w') : TxtTabs w' := ⟨h.ask.below hb, h.kinds.below hb, pow_below h.pow hb⟩
theorem ba_eq {a b : ByteArray} (h : a.data.toList = b.data.toList) : a = b := by rw [← list_qtx a, h, list_qtx]
theorem ba_app (a b : ByteArray) : (a ++ b).data.toList = a.data.toList ++ b.data.toList := by simp
theorem qtx_eq {a : ByteArray} {l : List UInt8} (h : a.data.toList = l) : a = qtx l := by rw [← h, list_qtx]
theorem own_below1 {w w' : World} {base e n : Nat} {v : Value} {xs : List Value} (h : w.ownsRow base e 1 v n xs) (hb : Below w.heap.size w w') : w'.ownsRow base e 1 v n xs := by
  refine h.kept (row := none) ⟨hb.os, hb.tape, hb.output, hb.size, fun k hk _ => hb.block k hk⟩ ?_
  cases hv : v.ownBlock
  · exact .inl rfl
  · exact .inr (by simp)
/-- what grows of a slice of the call's own grows behind -/
theorem own_grown1 {w w' : World} {base e n size : Nat} {v : Value} {xs : List Value} (h : w.ownsRow base e size v n xs) (hb : base ≤ w.heap.size) (hg : w.grownBy w' v.ownBlock) : Below base w w' :=
  ⟨hg.os, hg.tape, hg.output, hg.size, fun k hk => hg.block k (Nat.lt_of_lt_of_le hk hb) fun e => by
    have := (h.lt k e.symm).1
    omega⟩
theorem own_form1 {w : World} {base e n size : Nat} {v : Value} {xs : List Value} (h : w.ownsRow base e size v n xs) : ∃ (g : Option Addr) (c : Nat), v = .slice g n c ∧ ∀ b, v.ownBlock = some b → base ≤ b ∧ b < w.heap.size := by
  rcases h.2 with ⟨rfl, rfl⟩ | ⟨g, cap, cur, rfl, hb, hh, _⟩
  · exact ⟨none, 0, rfl, fun b hb => by cases hb⟩
  · exact ⟨_, cap, rfl, fun b hb' => h.lt b hb'⟩
theorem own_two {w : World} {base e c : Nat} {p : Option Addr} {u v : Value} (h : w.ownsRow base e 1 (.slice p 2 c) 2 [u, v]) : ∃ g, p = some ⟨g, 0, none⟩ ∧ w.cell? ⟨g, 0, none⟩ = some u ∧ w.cell? ⟨g, 1, none⟩ = some v := by
  obtain ⟨g, cap, hv, _, _⟩ := h.form (by omega)
  injection hv with e1 _ e3
  subst e1 e3
  exact ⟨g, rfl, h.cellAt 0 (by omega), h.cellAt 1 (by omega)⟩
theorem own_one {w : World} {base e c : Nat} {p : Option Addr} {u : Value} (h : w.ownsRow base e 1 (.slice p 1 c) 1 [u]) : ∃ g, p = some ⟨g, 0, none⟩ ∧ w.cell? ⟨g, 0, none⟩ = some u := by
  obtain ⟨g, cap, hv, _, _⟩ := h.form (by omega)
  injection hv with e1 _ e3
  subst e1 e3
  exact ⟨g, rfl, h.cellAt 0 (by omega)⟩
/-- two texts put together -/
theorem cat_run {P : Program} (a b : ByteArray) (h : a.size + b.size ≤ 4611686018427387904) : ∃ A : ByteArray, A.data.toList = a.data.toList ++ b.data.toList ∧ A.size = a.size + b.size ∧ ∀ w : World, (Op.stringOp .add a b).run P w = .ok (.string A) w := by
  refine ⟨a ++ b, ba_app a b, by simp, fun w => ?_⟩
  have hm : IntKind.i64.max = 9223372036854775807 := rfl
  have : ¬ (((a.size + b.size : Nat) : Int) > IntKind.i64.max) := by rw [hm]; omega
  simp only [Op.stringOp]
  rw [if_neg this]
  rfl
theorem own_cap {w : World} {base e n c size : Nat} {p : Option Addr} {xs : List Value} (h : w.ownsRow base e size (.slice p n c) n xs) : n ≤ c := by
  rcases h.2 with ⟨hv, hn⟩ | ⟨g, cap, cur, hv, _, _, hnc, _⟩
  · omega
  · injection hv with _ _ e3
    omega
/-- strings.Join of one, and of two -/
theorem join1 {w : World} {g c : Nat} {X : ByteArray} (hg : g < w.heap.size) (g0 : w.cell? ⟨g, 0, none⟩ = some (.string X)) (hc : 1 ≤ c) (hs : X.size ≤ 107374182400) (u : World) (hu : Below w.heap.size w u) :
    Calls Tryz.prog 99 #[.slice (some ⟨g, 0, none⟩) 1 c, .string ⟨#[44, 32]⟩] u fun e w' => e = .returned (.string X) ∧ Below u.heap.size u w' := by
  have hl : Lib.join ([X].map (·.data.toList)) (⟨#[44, 32]⟩ : ByteArray).data.toList = X.data.toList := by simp [Lib.join]
  have h := Tryz.strings_Join g 0 c [X] ⟨#[44, 32]⟩ u (fun j x hx => by
    match j, hx with
    | 0, hx => simp at hx; subst hx; exact (hu.cell hg).trans g0) (Nat.lt_of_lt_of_le hg hu.size) (by simp) hc (by
      have := ba_len X
      rw [hl]
      omega)
  refine h.mono ?_
  rintro e w' ⟨he, hb⟩
  refine ⟨?_, hb⟩
  rw [he, hl]
theorem join2 {w : World} {g c : Nat} {X Y : ByteArray} (hg : g < w.heap.size) (g0 : w.cell? ⟨g, 0, none⟩ = some (.string X)) (g1 : w.cell? ⟨g, 1, none⟩ = some (.string Y)) (hc : 2 ≤ c) (hs : X.size ≤ 107374182400) (ht : Y.size ≤ 107374182400) {Z : ByteArray} (hz : Z.data.toList = X.data.toList ++ (44 :: 32 :: Y.data.toList)) (u : World) (hu : Below w.heap.size w u) :
    Calls Tryz.prog 99 #[.slice (some ⟨g, 0, none⟩) 2 c, .string ⟨#[44, 32]⟩] u fun e w' => e = .returned (.string Z) ∧ Below u.heap.size u w' := by
  have hl : Lib.join ([X, Y].map (·.data.toList)) (⟨#[44, 32]⟩ : ByteArray).data.toList = Z.data.toList := by
    rw [hz]
    simp [Lib.join]
  have h := Tryz.strings_Join g 0 c [X, Y] ⟨#[44, 32]⟩ u (fun j x hx => by
    match j, hx with
    | 0, hx => simp at hx; subst hx; exact (hu.cell hg).trans g0
    | 1, hx => simp at hx; subst hx; exact (hu.cell hg).trans g1) (Nat.lt_of_lt_of_le hg hu.size) (by simp) hc (by
      have h1 := ba_len X
      have h2 := ba_len Y
      rw [hl, hz]
      simp only [List.length_append, List.length_cons]
      omega)
  refine h.mono ?_
  rintro e w' ⟨he, hb⟩
  refine ⟨?_, hb⟩
  rw [he, hl]
theorem below_grow_drew (w : World) (k : Nat) (os : Array Obj) : Below w.heap.size w (Go.Sort.grow (w.drewN k) os) :=
  ⟨rfl, rfl, rfl, by show w.heap.size ≤ (w.heap ++ os).size; simp, fun j hj => by
    show (w.heap ++ os)[j]? = _
    rw [Array.getElem?_append_left hj]⟩
def TextPost (t : QT) (w : World) (e : Ending) (w' : World) : Prop := e = .returned (.string (qtx (qtxt (qabs t)))) ∧ Below w.heap.size w w'
set_option maxHeartbeats 8000000 in
set_option maxRecDepth 100000 in
theorem text_ok : ∀ (t : QT) (w : World), QIn w t → TxtTabs w → qchk qpat (qabs t) = 0 → qcnt (qabs t) ≤ 1073741824 → Calls Tryz.prog 70 #[t.v] w (TextPost t w) := by
  intro t
  induction t using QT.ind with
  | h k s n p c xs ih =>
    intro w hq hT hch hcn
    have hqa : qabs (.mk k s n p c xs) = .mk k s.data.toList n (qabss xs) := rfl
    obtain ⟨hnode, hkids⟩ := qchk_zero.1 (hqa ▸ hch)
    rw [qabss_len] at hnode
    have hlen : ∀ x ∈ xs, qchk qpat (qabs x) = 0 ∧ qcnt (qabs x) ≤ 1073741824 := by
      intro x hx
      have hm : qabs x ∈ qabss xs := by rw [qabss_map]; exact List.mem_map.2 ⟨x, hx, rfl⟩
      refine ⟨hkids _ hm, ?_⟩
      have := qcnt_mem hm
      have e : qcnt (qabs (.mk k s n p c xs)) = 1 + qcnts (qabss xs) := rfl
      omega
    have IH := Lib.hid (fun x (hx : x ∈ xs) (u : World) (hu : QIn u x) (ht : TxtTabs u) => ih x hx u hu ht (hlen x hx).1 (hlen x hx).2)
    have HLN : Hid (∀ x ∈ xs, (qtxt (qabs x)).length ≤ 107374182400) := by
      show ∀ x ∈ xs, _
      intro x hx
      have := qtxt_len (qabs x) (hlen x hx).1
      have := (hlen x hx).2
      omega
    have HK : Hid (QsIn w p 0 xs) := hq.kids
    have hsm := hq.small.2
    have hss : s.size ≤ 1048576 := hq.small.1
    have hx2 : xs.length ≤ 2 := by rcases node_cases hnode with h | h | h | h | h | h | h | h | h | h <;> omega
    have hk1 : 1 ≤ k ∧ k ≤ 15 := by rcases node_cases hnode with h | h | h | h | h | h | h | h | h | h <;> omega
    have HND := Lib.hid (node_cases hnode)
    clear ih hq hsm hlen hkids hch hcn hnode
    obtain ⟨W, hW, hBW, hS, hC⟩ := arg1 w (.int .i64 k) (.string s) (.int .i64 n) (.slice p xs.length c)
    have HC := Lib.hid hC
    have HBW := Lib.hid hBW
    have HT := Lib.hid hT
    obtain ⟨k0, k1, k2, k3⟩ := HC.out W (Below.refl _ _)
    rw [hW] at k0 k1 k2 k3
    show Calls Tryz.prog 70 #[.agg #[.int .i64 k, .string s, .int .i64 n, .slice p xs.length c]] w _
    have HSZ := Lib.hid hS
    clear hBW hS hC hT hqa
    obtain ⟨j, rfl⟩ := Int.eq_ofNat_of_zero_le (show 0 ≤ k by omega)
    obtain ⟨f0, f1, f2, f3⟩ := (HT.out.ask.forms.below HBW.out) j (by omega)
    rw [show 4 * j = j * 4 by omega] at f0 f1 f2 f3
    obtain ⟨wd, hwd⟩ : ∃ wd, qtx (qword (j : Int)) = wd := ⟨_, rfl⟩
    rw [hwd] at f3
    have HWD := Lib.hid hwd
    clear hwd
    generalize qmany (j : Int) = mn at f0
    generalize qnamed (j : Int) = nb at f1
    generalize qnumd (j : Int) = ub at f2
    rw [hW] at f0 f1 f2 f3
    have hj1 : 1 ≤ j := by omega
    have hj2 : j ≤ 15 := by omega
    go_enter Tryz.func70, Tryz.ntmps70
    go_upto_region 2 with fail
    rw [← hW] at k0 k1 k2 k3 f0 f1 f2 f3 ⊢
    clear hW
    obtain ⟨V, hV⟩ : ∃ V : World, V = W.alloc (.cells #[.int .i64 (mn : Int), .bool nb, .bool ub, .string wd] 128) := ⟨_, rfl⟩
    have hBV : Below W.heap.size W V := by rw [hV]; exact (Below.refl _ _).alloc (Nat.le_refl _) _
    have HBV := Lib.hid (HBW.out.trans (hBV.mono HBW.out.size))
    have q3 : V.cell? ⟨W.heap.size, 3, none⟩ = some (.string wd) := by rw [hV, World.cell?_alloc_at _ _ _ _ rfl]; rfl
    have hlt : W.heap.size < V.heap.size := by rw [hV]; simp
    have HQ : Hid (∀ u, Below V.heap.size V u → u.cell? ⟨w.heap.size + 1, 3, none⟩ = some (.string wd) ∧ u.cell? ⟨w.heap.size, 0, none⟩ = some (.int .i64 (j : Int)) ∧ u.cell? ⟨w.heap.size, 1, none⟩ = some (.string s) ∧ u.cell? ⟨w.heap.size, 2, none⟩ = some (.int .i64 n) ∧ u.cell? ⟨w.heap.size, 3, none⟩ = some (.slice p xs.length c)) := by
      show ∀ u, _
      rw [HSZ.out] at q3 hlt
      exact fun u hu => ⟨(hu.cell hlt).trans q3, HC.out u (hBV.trans (hu.mono hBV.size))⟩
    obtain ⟨_, v0, v1, v2, v3⟩ := HQ.out V (Below.refl _ _)
    have HKV := Lib.hid (HK.out.below HBV.out)
    have HTV := Lib.hid (HT.out.below HBV.out)
    rw [← hV]
    clear hV hBV hlt k0 k1 k2 k3 f0 f1 f2 f3 q3
    go_wp2_with fail
    go_loopw [14, 4] (fun i v wr => ∃ m : Nat, m ≤ xs.length ∧ i = .int .i64 m ∧ Hid (wr.ownsRow V.heap.size 9 1 v m (txtsV (xs.take m))) ∧ Hid (Below V.heap.size V wr)) (fun i _ _ => xs.length - (intOf i).toNat)
    case atStart => exact ⟨0, Nat.zero_le _, rfl, ⟨rfl, .inl ⟨rfl, rfl⟩⟩, Below.refl _ _⟩
    case round =>
      obtain ⟨m, hm, rfl, HO, HB⟩ := hrel
      by_cases hlt : m < xs.length
      · obtain ⟨x, hx⟩ : ∃ x, xs[m]? = some x := ⟨_, List.getElem?_eq_getElem hlt⟩
        obtain ⟨⟨b, o, rfl, hb, hf⟩, hqx⟩ := HKV.out.at hx
        obtain ⟨c0, c1, c2, c3⟩ := four_at (hf.below HB.out hb)
        have HCALL := Lib.hid (fun (u : World) (hu : Below wr.heap.size wr u) => IH.out x (List.mem_of_getElem? hx) u (hqx.below (HB.out.trans (hu.mono HB.out.size))) (HTV.out.below (HB.out.trans (hu.mono HB.out.size))))
        have HNX := Lib.hid (txtsV_next hx)
        have HAL : Hid (∀ o, Below wr.heap.size wr (wr.alloc o)) := fun o => (Below.refl _ _).alloc (Nat.le_refl _) o
        clear hqx hf hb
        obtain ⟨y, hy⟩ : ∃ y, qtx (qtxt (qabs x)) = y := ⟨_, rfl⟩
        rw [hy] at HNX
        have HYY := Lib.hid hy
        clear hy
        go_wp2_with (first
          | (go_at_call 70; refine (HCALL.out _ (HAL.out _)).mono ?_; rintro e w5 ⟨rfl, hb5⟩; rw [HYY.out]; have HB5 := Lib.hid (HB.out.trans (((HAL.out _).trans (hb5.mono (HAL.out _).size)).mono HB.out.size)); have HO5 := Lib.hid (own_below1 HO.out ((HAL.out _).trans (hb5.mono (HAL.out _).size))); clear hb5)
          | (at_builtin; refine app_str _ rfl _ _ rfl V.heap.size _ m _ rfl (HO5.out.alloc _) _ (.string y) rfl rfl ?c1 (by omega) ?c2 ?_; rotate_right; intro v' w6 hown6 hgrow6; have HO6 : Hid (w6.ownsRow V.heap.size 9 1 v' (m + 1) (txtsV (xs.take (m + 1)))) := (by show World.ownsRow _ _ _ _ _ _ _; rw [HNX.out]; exact hown6); have HB6 : Hid (Below V.heap.size V w6) := (HB5.out.alloc HB5.out.size _).trans (own_grown1 (HO5.out.alloc _) (by have := HB5.out.size; simp; omega) hgrow6); clear hown6 hgrow6))
        case c1 => rw [World.cell?_alloc_at _ _ _ _ rfl]; rfl
        case c2 => have := HB5.out.size; simp; omega
        go_roundw
        case rel => exact ⟨m + 1, by omega, by go_num, HO6.out, HB6.out⟩
        case measure => simp [intOf]; omega
      · obtain rfl : m = xs.length := by omega
        rw [List.take_length] at HO
        obtain ⟨gp, gc, rfl, hgl⟩ := own_form1 HO.out
        have HW := Lib.hid (HBV.out.trans (HB.out.mono HBV.out.size))
        obtain ⟨q3, v0, v1, v2, v3⟩ := HQ.out wr HB.out
        have hnd := HND.out
        clear HND hlt hm hgl
        rcases hnd with ⟨hj, hm, rfl, h1, h2⟩ | ⟨hj, hm, rfl, hs0⟩ | ⟨hj, hm, rfl, h1⟩ | ⟨hj, hm, rfl, h1⟩ | ⟨hj, hm, rfl, hs0⟩ | ⟨hj, hm, rfl, hs0⟩ | ⟨hj, hm, n0, n1, hs0⟩ | ⟨hj, hm, rfl, hs0⟩ | ⟨hj, hm, rfl, h1⟩ | ⟨hj, hm, n0, n1, hs0⟩
        · obtain rfl : j = 1 := by omega
          obtain rfl := List.length_eq_zero_iff.1 hm
          go_wp2
          go_ret
          exact ⟨congrArg (fun x => Ending.returned (Value.string x)) (qtx_eq rfl), HW.out⟩
        · obtain rfl : j = 2 := by omega
          obtain rfl := List.length_eq_zero_iff.1 hm
          go_wp2
          go_ret
          exact ⟨rfl, HW.out⟩
        · obtain rfl : j = 3 := by omega
          obtain rfl := List.length_eq_zero_iff.1 hm
          go_wp2
          go_ret
          exact ⟨congrArg (fun x => Ending.returned (Value.string x)) (qtx_eq (by rw [ba_app]; rfl)), HW.out⟩
        · obtain rfl : j = 4 := by omega
          obtain ⟨x, y, rfl⟩ := len_two hm
          obtain ⟨X, hX⟩ : ∃ X, qtx (qtxt (qabs x)) = X := ⟨_, rfl⟩
          obtain ⟨Y, hY⟩ : ∃ Y, qtx (qtxt (qabs y)) = Y := ⟨_, rfl⟩
          have hO : txtsV [x, y] = [.string X, .string Y] := by unfold txtsV; simp [hX, hY]
          rw [hO] at HO
          obtain ⟨g, rfl, g0, g1⟩ := own_two HO.out
          have HX : Hid (X.data.toList = qtxt (qabs x)) := by show _ = _; rw [← hX, qtx_list]
          have HY : Hid (Y.data.toList = qtxt (qabs y)) := by show _ = _; rw [← hY, qtx_list]
          have hXs : X.size ≤ 107374182400 := by rw [← hX, qtx_size]; exact HLN.out x (by simp)
          have hYs : Y.size ≤ 107374182400 := by rw [← hY, qtx_size]; exact HLN.out y (by simp)
          obtain ⟨A1, a1, z1, r1⟩ := cat_run (P := Tryz.prog) ⟨#[40, 108, 101, 116, 32]⟩ s (by show 5 + _ ≤ _; omega)
          obtain ⟨A2, a2, z2, r2⟩ := cat_run (P := Tryz.prog) A1 ⟨#[32, 61, 32]⟩ (by show _ + 3 ≤ _; rw [z1]; show 5 + _ + 3 ≤ _; omega)
          obtain ⟨A3, a3, z3, r3⟩ := cat_run (P := Tryz.prog) A2 X (by rw [z2, z1]; show 5 + _ + 3 + _ ≤ _; omega)
          obtain ⟨A4, a4, z4, r4⟩ := cat_run (P := Tryz.prog) A3 ⟨#[32, 105, 110, 32]⟩ (by rw [z3, z2, z1]; show 5 + _ + 3 + _ + 4 ≤ _; omega)
          obtain ⟨A5, a5, z5, r5⟩ := cat_run (P := Tryz.prog) A4 Y (by rw [z4, z3, z2, z1]; show 5 + _ + 3 + _ + 4 + _ ≤ _; omega)
          obtain ⟨A6, a6, _, r6⟩ := cat_run (P := Tryz.prog) A5 ⟨#[41]⟩ (by rw [z5, z4, z3, z2, z1]; show 5 + _ + 3 + _ + 4 + _ + 1 ≤ _; omega)
          have HA : Hid (A6.data.toList = qtxt (qabs (.mk ((4 : Nat) : Int) s 0 p c [x, y]))) := by
            show _ = _
            rw [a6, a5, a4, a3, a2, a1, HX.out, HY.out]
            show (((((([40, 108, 101, 116, 32] ++ s.data.toList) ++ [32, 61, 32]) ++ qtxt (qabs x)) ++ [32, 105, 110, 32]) ++ qtxt (qabs y)) ++ [41]) = [40, 108, 101, 116, 32] ++ (s.data.toList ++ ([32, 61, 32] ++ (qtxt (qabs x) ++ ([32, 105, 110, 32] ++ (qtxt (qabs y) ++ [41])))))
            simp only [List.append_assoc]
          clear hX hY hO HO a1 a2 a3 a4 a5 a6 z1 z2 z3 z4 z5 hXs hYs
          go_wp2
          go_quiet (fail)
          go_wp2
          go_ret
          exact ⟨congrArg (fun x => Ending.returned (Value.string x)) (qtx_eq HA.out), below_drawsA HW.out _⟩
        · rcases hj with hj | hj | hj
          · obtain rfl : j = 5 := by omega
            obtain ⟨x, y, rfl⟩ := len_two hm
            obtain ⟨X, hX⟩ : ∃ X, qtx (qtxt (qabs x)) = X := ⟨_, rfl⟩
            obtain ⟨Y, hY⟩ : ∃ Y, qtx (qtxt (qabs y)) = Y := ⟨_, rfl⟩
            have hO : txtsV [x, y] = [.string X, .string Y] := by unfold txtsV; simp [hX, hY]
            rw [hO] at HO
            obtain ⟨g, rfl, g0, g1⟩ := own_two HO.out
            have HX : Hid (X.data.toList = qtxt (qabs x)) := by show _ = _; rw [← hX, qtx_list]
            have HY : Hid (Y.data.toList = qtxt (qabs y)) := by show _ = _; rw [← hY, qtx_list]
            have hXs : X.size ≤ 107374182400 := by rw [← hX, qtx_size]; exact HLN.out x (by simp)
            have hYs : Y.size ≤ 107374182400 := by rw [← hY, qtx_size]; exact HLN.out y (by simp)
            have hwl : wd.data.toList = qword 5 := by rw [← HWD.out, qtx_list]; rfl
            have hws : wd.size = 1 := by rw [← ba_len, hwl]; rfl
            obtain ⟨A1, a1, z1, r1⟩ := cat_run (P := Tryz.prog) ⟨#[40]⟩ X (by show 1 + _ ≤ _; omega)
            obtain ⟨A2, a2, z2, r2⟩ := cat_run (P := Tryz.prog) A1 ⟨#[32]⟩ (by rw [z1]; show 1 + _ + 1 ≤ _; omega)
            obtain ⟨A3, a3, z3, r3⟩ := cat_run (P := Tryz.prog) A2 wd (by rw [z2, z1]; show 1 + _ + 1 + _ ≤ _; omega)
            obtain ⟨A4, a4, z4, r4⟩ := cat_run (P := Tryz.prog) A3 ⟨#[32]⟩ (by rw [z3, z2, z1]; show 1 + _ + 1 + _ + 1 ≤ _; omega)
            obtain ⟨A5, a5, z5, r5⟩ := cat_run (P := Tryz.prog) A4 Y (by rw [z4, z3, z2, z1]; show 1 + _ + 1 + _ + 1 + _ ≤ _; omega)
            obtain ⟨A6, a6, z6, r6⟩ := cat_run (P := Tryz.prog) A5 ⟨#[41]⟩ (by rw [z5, z4, z3, z2, z1]; show 1 + _ + 1 + _ + 1 + _ + 1 ≤ _; omega)
            have HA : Hid (A6.data.toList = qtxt (qabs (.mk ((5 : Nat) : Int) s 0 p c [x, y]))) := by
              show _ = _
              rw [a6, a5, a4, a3, a2, a1, HX.out, HY.out, hwl]
              show (((((([40] ++ qtxt (qabs x)) ++ [32]) ++ qword 5) ++ [32]) ++ qtxt (qabs y)) ++ [41]) = 40 :: (qtxt (qabs x) ++ (32 :: (qword 5 ++ (32 :: (qtxt (qabs y) ++ [41])))))
              simp only [List.append_assoc, List.cons_append, List.nil_append]
            clear hX hY hO HO a1 a2 a3 a4 a5 a6 z1 z2 z3 z4 z5 hXs hYs hwl hws
            go_wp2
            go_quiet (fail)
            go_wp2
            go_ret
            exact ⟨congrArg (fun x => Ending.returned (Value.string x)) (qtx_eq HA.out), below_drawsA HW.out _⟩
          · obtain rfl : j = 6 := by omega
            obtain ⟨x, y, rfl⟩ := len_two hm
            obtain ⟨X, hX⟩ : ∃ X, qtx (qtxt (qabs x)) = X := ⟨_, rfl⟩
            obtain ⟨Y, hY⟩ : ∃ Y, qtx (qtxt (qabs y)) = Y := ⟨_, rfl⟩
            have hO : txtsV [x, y] = [.string X, .string Y] := by unfold txtsV; simp [hX, hY]
            rw [hO] at HO
            obtain ⟨g, rfl, g0, g1⟩ := own_two HO.out
            have HX : Hid (X.data.toList = qtxt (qabs x)) := by show _ = _; rw [← hX, qtx_list]
            have HY : Hid (Y.data.toList = qtxt (qabs y)) := by show _ = _; rw [← hY, qtx_list]
            have hXs : X.size ≤ 107374182400 := by rw [← hX, qtx_size]; exact HLN.out x (by simp)
            have hYs : Y.size ≤ 107374182400 := by rw [← hY, qtx_size]; exact HLN.out y (by simp)
            have hwl : wd.data.toList = qword 6 := by rw [← HWD.out, qtx_list]; rfl
            have hws : wd.size = 1 := by rw [← ba_len, hwl]; rfl
            obtain ⟨A1, a1, z1, r1⟩ := cat_run (P := Tryz.prog) ⟨#[40]⟩ X (by show 1 + _ ≤ _; omega)
            obtain ⟨A2, a2, z2, r2⟩ := cat_run (P := Tryz.prog) A1 ⟨#[32]⟩ (by rw [z1]; show 1 + _ + 1 ≤ _; omega)
            obtain ⟨A3, a3, z3, r3⟩ := cat_run (P := Tryz.prog) A2 wd (by rw [z2, z1]; show 1 + _ + 1 + _ ≤ _; omega)
            obtain ⟨A4, a4, z4, r4⟩ := cat_run (P := Tryz.prog) A3 ⟨#[32]⟩ (by rw [z3, z2, z1]; show 1 + _ + 1 + _ + 1 ≤ _; omega)
            obtain ⟨A5, a5, z5, r5⟩ := cat_run (P := Tryz.prog) A4 Y (by rw [z4, z3, z2, z1]; show 1 + _ + 1 + _ + 1 + _ ≤ _; omega)
            obtain ⟨A6, a6, z6, r6⟩ := cat_run (P := Tryz.prog) A5 ⟨#[41]⟩ (by rw [z5, z4, z3, z2, z1]; show 1 + _ + 1 + _ + 1 + _ + 1 ≤ _; omega)
            have HA : Hid (A6.data.toList = qtxt (qabs (.mk ((6 : Nat) : Int) s 0 p c [x, y]))) := by
              show _ = _
              rw [a6, a5, a4, a3, a2, a1, HX.out, HY.out, hwl]
              show (((((([40] ++ qtxt (qabs x)) ++ [32]) ++ qword 6) ++ [32]) ++ qtxt (qabs y)) ++ [41]) = 40 :: (qtxt (qabs x) ++ (32 :: (qword 6 ++ (32 :: (qtxt (qabs y) ++ [41])))))
              simp only [List.append_assoc, List.cons_append, List.nil_append]
            clear hX hY hO HO a1 a2 a3 a4 a5 a6 z1 z2 z3 z4 z5 hXs hYs hwl hws
            go_wp2
            go_quiet (fail)
            go_wp2
            go_ret
            exact ⟨congrArg (fun x => Ending.returned (Value.string x)) (qtx_eq HA.out), below_drawsA HW.out _⟩
          · obtain rfl : j = 7 := by omega
            obtain ⟨x, y, rfl⟩ := len_two hm
            obtain ⟨X, hX⟩ : ∃ X, qtx (qtxt (qabs x)) = X := ⟨_, rfl⟩
            obtain ⟨Y, hY⟩ : ∃ Y, qtx (qtxt (qabs y)) = Y := ⟨_, rfl⟩
            have hO : txtsV [x, y] = [.string X, .string Y] := by unfold txtsV; simp [hX, hY]
            rw [hO] at HO
            obtain ⟨g, rfl, g0, g1⟩ := own_two HO.out
            have HX : Hid (X.data.toList = qtxt (qabs x)) := by show _ = _; rw [← hX, qtx_list]
            have HY : Hid (Y.data.toList = qtxt (qabs y)) := by show _ = _; rw [← hY, qtx_list]
            have hXs : X.size ≤ 107374182400 := by rw [← hX, qtx_size]; exact HLN.out x (by simp)
            have hYs : Y.size ≤ 107374182400 := by rw [← hY, qtx_size]; exact HLN.out y (by simp)
            have hwl : wd.data.toList = qword 7 := by rw [← HWD.out, qtx_list]; rfl
            have hws : wd.size = 1 := by rw [← ba_len, hwl]; rfl
            obtain ⟨A1, a1, z1, r1⟩ := cat_run (P := Tryz.prog) ⟨#[40]⟩ X (by show 1 + _ ≤ _; omega)
            obtain ⟨A2, a2, z2, r2⟩ := cat_run (P := Tryz.prog) A1 ⟨#[32]⟩ (by rw [z1]; show 1 + _ + 1 ≤ _; omega)
            obtain ⟨A3, a3, z3, r3⟩ := cat_run (P := Tryz.prog) A2 wd (by rw [z2, z1]; show 1 + _ + 1 + _ ≤ _; omega)
            obtain ⟨A4, a4, z4, r4⟩ := cat_run (P := Tryz.prog) A3 ⟨#[32]⟩ (by rw [z3, z2, z1]; show 1 + _ + 1 + _ + 1 ≤ _; omega)
            obtain ⟨A5, a5, z5, r5⟩ := cat_run (P := Tryz.prog) A4 Y (by rw [z4, z3, z2, z1]; show 1 + _ + 1 + _ + 1 + _ ≤ _; omega)
            obtain ⟨A6, a6, z6, r6⟩ := cat_run (P := Tryz.prog) A5 ⟨#[41]⟩ (by rw [z5, z4, z3, z2, z1]; show 1 + _ + 1 + _ + 1 + _ + 1 ≤ _; omega)
            have HA : Hid (A6.data.toList = qtxt (qabs (.mk ((7 : Nat) : Int) s 0 p c [x, y]))) := by
              show _ = _
              rw [a6, a5, a4, a3, a2, a1, HX.out, HY.out, hwl]
              show (((((([40] ++ qtxt (qabs x)) ++ [32]) ++ qword 7) ++ [32]) ++ qtxt (qabs y)) ++ [41]) = 40 :: (qtxt (qabs x) ++ (32 :: (qword 7 ++ (32 :: (qtxt (qabs y) ++ [41])))))
              simp only [List.append_assoc, List.cons_append, List.nil_append]
            clear hX hY hO HO a1 a2 a3 a4 a5 a6 z1 z2 z3 z4 z5 hXs hYs hwl hws
            go_wp2
            go_quiet (fail)
            go_wp2
            go_ret
            exact ⟨congrArg (fun x => Ending.returned (Value.string x)) (qtx_eq HA.out), below_drawsA HW.out _⟩
        · rcases hj with hj | hj
          · obtain rfl : j = 8 := by omega
            obtain ⟨x, rfl⟩ := len_one hm
            obtain ⟨X, hX⟩ : ∃ X, qtx (qtxt (qabs x)) = X := ⟨_, rfl⟩
            have hO : txtsV [x] = [.string X] := by unfold txtsV; simp [hX]
            rw [hO] at HO
            have HX : Hid (X.data.toList = qtxt (qabs x)) := by show _ = _; rw [← hX, qtx_list]
            have hXs : X.size ≤ 107374182400 := by rw [← hX, qtx_size]; exact HLN.out x (by simp)
            obtain ⟨g, rfl, g0⟩ := own_one HO.out
            have hglt : g < wr.heap.size := (HO.out.lt g rfl).2
            have hgc : 1 ≤ gc := own_cap HO.out
            have hwl : wd.data.toList = qword 8 := by rw [← HWD.out, qtx_list]; rfl
            have hws : wd.size ≤ 5 := by rw [← ba_len, hwl]; decide
            obtain ⟨A1, a1, z1, r1⟩ := cat_run (P := Tryz.prog) wd ⟨#[40]⟩ (by show _ + 1 ≤ _; omega)
            obtain ⟨A2, a2, z2, r2⟩ := cat_run (P := Tryz.prog) A1 X (by rw [z1]; show _ + 1 + _ ≤ _; omega)
            obtain ⟨A3, a3, _, r3⟩ := cat_run (P := Tryz.prog) A2 ⟨#[41]⟩ (by rw [z2, z1]; show _ + 1 + _ + 1 ≤ _; omega)
            have HA : Hid (A3.data.toList = qtxt (qabs (.mk ((8 : Nat) : Int) s 0 p c [x]))) := by
              show _ = _
              rw [a3, a2, a1, HX.out, hwl]
              show (((qword 8 ++ [40]) ++ qtxt (qabs x)) ++ [41]) = qword 8 ++ (40 :: (qtxt (qabs x) ++ [41]))
              simp only [List.append_assoc, List.cons_append, List.nil_append]
            have HJ := Lib.hid (fun (u : World) (hu : Below wr.heap.size wr u) => join1 (c := gc) hglt g0 hgc (by omega) u hu)
            clear hX hO HO a1 a2 a3 z1 z2 hXs hwl hws g0
            have hZ0 : [x].length = 1 := rfl
            have HQ3 := Lib.hid (fun (u : World) (hu : Below wr.heap.size wr u) => (HQ.out u (HB.out.trans (hu.mono HB.out.size))).1)
            go_upto_region 28 with fail
            rw [hZ0]
            go_region_with (go_at_call 99; refine (HJ.out _ (below_drawsA (Below.refl _ _) _)).mono ?_; rintro e w3 ⟨rfl, hb⟩; have q9 := HQ3.out _ ((below_drawsA (Below.refl wr.heap.size wr) _).trans (hb.mono (Nat.le_refl _))); have HB3 := Lib.hid hb; clear hb)
            all_goals
              go_wp2
              go_ret
              exact ⟨congrArg (fun x => Ending.returned (Value.string x)) (qtx_eq HA.out), (below_drawsA HW.out _).trans (HB3.out.mono HW.out.size)⟩
          · obtain rfl : j = 9 := by omega
            obtain ⟨x, rfl⟩ := len_one hm
            obtain ⟨X, hX⟩ : ∃ X, qtx (qtxt (qabs x)) = X := ⟨_, rfl⟩
            have hO : txtsV [x] = [.string X] := by unfold txtsV; simp [hX]
            rw [hO] at HO
            have HX : Hid (X.data.toList = qtxt (qabs x)) := by show _ = _; rw [← hX, qtx_list]
            have hXs : X.size ≤ 107374182400 := by rw [← hX, qtx_size]; exact HLN.out x (by simp)
            obtain ⟨g, rfl, g0⟩ := own_one HO.out
            have hglt : g < wr.heap.size := (HO.out.lt g rfl).2
            have hgc : 1 ≤ gc := own_cap HO.out
            have hwl : wd.data.toList = qword 9 := by rw [← HWD.out, qtx_list]; rfl
            have hws : wd.size ≤ 5 := by rw [← ba_len, hwl]; decide
            obtain ⟨A1, a1, z1, r1⟩ := cat_run (P := Tryz.prog) wd ⟨#[40]⟩ (by show _ + 1 ≤ _; omega)
            obtain ⟨A2, a2, z2, r2⟩ := cat_run (P := Tryz.prog) A1 X (by rw [z1]; show _ + 1 + _ ≤ _; omega)
            obtain ⟨A3, a3, _, r3⟩ := cat_run (P := Tryz.prog) A2 ⟨#[41]⟩ (by rw [z2, z1]; show _ + 1 + _ + 1 ≤ _; omega)
            have HA : Hid (A3.data.toList = qtxt (qabs (.mk ((9 : Nat) : Int) s 0 p c [x]))) := by
              show _ = _
              rw [a3, a2, a1, HX.out, hwl]
              show (((qword 9 ++ [40]) ++ qtxt (qabs x)) ++ [41]) = qword 9 ++ (40 :: (qtxt (qabs x) ++ [41]))
              simp only [List.append_assoc, List.cons_append, List.nil_append]
            have HJ := Lib.hid (fun (u : World) (hu : Below wr.heap.size wr u) => join1 (c := gc) hglt g0 hgc (by omega) u hu)
            clear hX hO HO a1 a2 a3 z1 z2 hXs hwl hws g0
            have hZ0 : [x].length = 1 := rfl
            have HQ3 := Lib.hid (fun (u : World) (hu : Below wr.heap.size wr u) => (HQ.out u (HB.out.trans (hu.mono HB.out.size))).1)
            go_upto_region 28 with fail
            rw [hZ0]
            go_region_with (go_at_call 99; refine (HJ.out _ (below_drawsA (Below.refl _ _) _)).mono ?_; rintro e w3 ⟨rfl, hb⟩; have q9 := HQ3.out _ ((below_drawsA (Below.refl wr.heap.size wr) _).trans (hb.mono (Nat.le_refl _))); have HB3 := Lib.hid hb; clear hb)
            all_goals
              go_wp2
              go_ret
              exact ⟨congrArg (fun x => Ending.returned (Value.string x)) (qtx_eq HA.out), (below_drawsA HW.out _).trans (HB3.out.mono HW.out.size)⟩
        · rcases hj with hj | hj
          · obtain rfl : j = 10 := by omega
            obtain ⟨x, rfl⟩ := len_one hm
            obtain ⟨X, hX⟩ : ∃ X, qtx (qtxt (qabs x)) = X := ⟨_, rfl⟩
            have hO : txtsV [x] = [.string X] := by unfold txtsV; simp [hX]
            rw [hO] at HO
            have HX : Hid (X.data.toList = qtxt (qabs x)) := by show _ = _; rw [← hX, qtx_list]
            have hXs : X.size ≤ 107374182400 := by rw [← hX, qtx_size]; exact HLN.out x (by simp)
            obtain ⟨N, hN⟩ : ∃ N : ByteArray, (⟨(Lib.itoa n).toArray⟩ : ByteArray) = N := ⟨_, rfl⟩
            have hNl : N.data.toList = Lib.itoa n := by rw [← hN]
            have hNs : N.size ≤ 3 := by rw [← ba_len, hNl]; exact itoa_len n0 n1
            have HITO := Lib.hid (fun (u : World) (hu : Below wr.heap.size wr u) => Tryz.strconv_Itoa n (by omega) (by omega) u ((HTV.out.below (HB.out.trans (hu.mono HB.out.size))).pow))
            rw [hN] at HITO
            have HN := Lib.hid hNl
            have hwl : wd.data.toList = qword 10 := by rw [← HWD.out, qtx_list]; rfl
            have hws : wd.size ≤ 5 := by rw [← ba_len, hwl]; decide
            obtain ⟨Z1, y1, x1, _⟩ := cat_run (P := Tryz.prog) X ⟨#[44, 32]⟩ (by show _ + 2 ≤ _; omega)
            obtain ⟨Z, y2, x2, _⟩ := cat_run (P := Tryz.prog) Z1 N (by rw [x1]; show _ + 2 + _ ≤ _; omega)
            have hz : Z.data.toList = X.data.toList ++ (44 :: 32 :: N.data.toList) := by rw [y2, y1, List.append_assoc]; rfl
            have hZs : Z.size ≤ 107374182405 := by rw [x2, x1]; show _ + 2 + _ ≤ _; omega
            obtain ⟨A1, a1, z1, r1⟩ := cat_run (P := Tryz.prog) wd ⟨#[40]⟩ (by show _ + 1 ≤ _; omega)
            obtain ⟨A2, a2, z2, r2⟩ := cat_run (P := Tryz.prog) A1 Z (by rw [z1]; show _ + 1 + _ ≤ _; omega)
            obtain ⟨A3, a3, _, r3⟩ := cat_run (P := Tryz.prog) A2 ⟨#[41]⟩ (by rw [z2, z1]; show _ + 1 + _ + 1 ≤ _; omega)
            have HA : Hid (A3.data.toList = qtxt (qabs (.mk ((10 : Nat) : Int) s n p c [x]))) := by
              show _ = _
              rw [a3, a2, a1, hz, HX.out, hwl, hNl]
              show (((qword 10 ++ [40]) ++ (qtxt (qabs x) ++ (44 :: 32 :: Lib.itoa n))) ++ [41]) = qword 10 ++ (40 :: (qtxt (qabs x) ++ (44 :: 32 :: (Lib.itoa n ++ [41]))))
              simp only [List.append_assoc, List.cons_append, List.nil_append]
            have HZ := Lib.hid hz
            clear hX hO a1 a2 a3 z1 z2 hwl hws y1 y2 x1 x2 hN hNl hz hZs
            go_upto_region 27 with fail
            have hVs : V.heap.size ≤ wr.heap.size := HB.out.size
            go_wp2_with (first
              | (go_at_call 98; refine (HITO.out _ (Below.refl _ _)).mono ?_; rintro e w4 ⟨rfl, kk, os, hw4⟩; have HB4 : Hid (Below wr.heap.size wr w4) := (by rw [hw4]; exact below_grow_drew wr kk os); have hs4 := HB4.out.size; clear hw4)
              | (at_builtin; refine app_str _ rfl _ _ rfl V.heap.size _ 1 _ rfl ((own_below1 HO.out HB4.out).alloc _) _ (.string N) rfl rfl ?c1 (by omega) ?c2 ?_; rotate_right; intro v' w6 hown6 hgrow6; have HB6 : Hid (Below V.heap.size V w6) := (HB.out.trans (HB4.out.mono hVs)).trans ((((Below.refl w4.heap.size w4).alloc (Nat.le_refl _) _).mono (by omega)).trans (own_grown1 ((own_below1 HO.out HB4.out).alloc _) (by simp; omega) hgrow6)); have HO6 := Lib.hid hown6; obtain ⟨g6, c6, rfl, _⟩ := own_form1 hown6; clear hown6 hgrow6))
            case c1 => rw [World.cell?_alloc_at _ _ _ _ rfl]; rfl
            case c2 => simp; omega
            obtain ⟨g, rfl, g0, g1⟩ := own_two HO6.out
            have hglt : g < w6.heap.size := (HO6.out.lt g rfl).2
            have hgc : 2 ≤ c6 := own_cap HO6.out
            have HJ := Lib.hid (fun (u : World) (hu : Below w6.heap.size w6 u) => join2 (c := c6) hglt g0 g1 hgc hXs (by omega) HZ.out u hu)
            have HW6 := Lib.hid (HBV.out.trans (HB6.out.mono HBV.out.size))
            have HQ3 := Lib.hid (fun (u : World) (hu : Below w6.heap.size w6 u) => (HQ.out u (HB6.out.trans (hu.mono HB6.out.size))).1)
            have q8 := HQ3.out w6 (Below.refl _ _)
            clear g0 g1
            go_region_with (go_at_call 99; refine (HJ.out _ (below_drawsA (Below.refl _ _) _)).mono ?_; rintro e w3 ⟨rfl, hb⟩; have q9 := HQ3.out _ ((below_drawsA (Below.refl w6.heap.size w6) _).trans (hb.mono (Nat.le_refl _))); have HB3 := Lib.hid hb; clear hb)
            all_goals
              go_wp2
              go_ret
              exact ⟨congrArg (fun x => Ending.returned (Value.string x)) (qtx_eq HA.out), (below_drawsA HW6.out _).trans (HB3.out.mono HW6.out.size)⟩
          · obtain rfl : j = 11 := by omega
            obtain ⟨x, rfl⟩ := len_one hm
            obtain ⟨X, hX⟩ : ∃ X, qtx (qtxt (qabs x)) = X := ⟨_, rfl⟩
            have hO : txtsV [x] = [.string X] := by unfold txtsV; simp [hX]
            rw [hO] at HO
            have HX : Hid (X.data.toList = qtxt (qabs x)) := by show _ = _; rw [← hX, qtx_list]
            have hXs : X.size ≤ 107374182400 := by rw [← hX, qtx_size]; exact HLN.out x (by simp)
            obtain ⟨N, hN⟩ : ∃ N : ByteArray, (⟨(Lib.itoa n).toArray⟩ : ByteArray) = N := ⟨_, rfl⟩
            have hNl : N.data.toList = Lib.itoa n := by rw [← hN]
            have hNs : N.size ≤ 3 := by rw [← ba_len, hNl]; exact itoa_len n0 n1
            have HITO := Lib.hid (fun (u : World) (hu : Below wr.heap.size wr u) => Tryz.strconv_Itoa n (by omega) (by omega) u ((HTV.out.below (HB.out.trans (hu.mono HB.out.size))).pow))
            rw [hN] at HITO
            have HN := Lib.hid hNl
            have hwl : wd.data.toList = qword 11 := by rw [← HWD.out, qtx_list]; rfl
            have hws : wd.size ≤ 5 := by rw [← ba_len, hwl]; decide
            obtain ⟨Z1, y1, x1, _⟩ := cat_run (P := Tryz.prog) X ⟨#[44, 32]⟩ (by show _ + 2 ≤ _; omega)
            obtain ⟨Z, y2, x2, _⟩ := cat_run (P := Tryz.prog) Z1 N (by rw [x1]; show _ + 2 + _ ≤ _; omega)
            have hz : Z.data.toList = X.data.toList ++ (44 :: 32 :: N.data.toList) := by rw [y2, y1, List.append_assoc]; rfl
            have hZs : Z.size ≤ 107374182405 := by rw [x2, x1]; show _ + 2 + _ ≤ _; omega
            obtain ⟨A1, a1, z1, r1⟩ := cat_run (P := Tryz.prog) wd ⟨#[40]⟩ (by show _ + 1 ≤ _; omega)
            obtain ⟨A2, a2, z2, r2⟩ := cat_run (P := Tryz.prog) A1 Z (by rw [z1]; show _ + 1 + _ ≤ _; omega)
            obtain ⟨A3, a3, _, r3⟩ := cat_run (P := Tryz.prog) A2 ⟨#[41]⟩ (by rw [z2, z1]; show _ + 1 + _ + 1 ≤ _; omega)
            have HA : Hid (A3.data.toList = qtxt (qabs (.mk ((11 : Nat) : Int) s n p c [x]))) := by
              show _ = _
              rw [a3, a2, a1, hz, HX.out, hwl, hNl]
              show (((qword 11 ++ [40]) ++ (qtxt (qabs x) ++ (44 :: 32 :: Lib.itoa n))) ++ [41]) = qword 11 ++ (40 :: (qtxt (qabs x) ++ (44 :: 32 :: (Lib.itoa n ++ [41]))))
              simp only [List.append_assoc, List.cons_append, List.nil_append]
            have HZ := Lib.hid hz
            clear hX hO a1 a2 a3 z1 z2 hwl hws y1 y2 x1 x2 hN hNl hz hZs
            go_upto_region 27 with fail
            have hVs : V.heap.size ≤ wr.heap.size := HB.out.size
            go_wp2_with (first
              | (go_at_call 98; refine (HITO.out _ (Below.refl _ _)).mono ?_; rintro e w4 ⟨rfl, kk, os, hw4⟩; have HB4 : Hid (Below wr.heap.size wr w4) := (by rw [hw4]; exact below_grow_drew wr kk os); have hs4 := HB4.out.size; clear hw4)
              | (at_builtin; refine app_str _ rfl _ _ rfl V.heap.size _ 1 _ rfl ((own_below1 HO.out HB4.out).alloc _) _ (.string N) rfl rfl ?c1 (by omega) ?c2 ?_; rotate_right; intro v' w6 hown6 hgrow6; have HB6 : Hid (Below V.heap.size V w6) := (HB.out.trans (HB4.out.mono hVs)).trans ((((Below.refl w4.heap.size w4).alloc (Nat.le_refl _) _).mono (by omega)).trans (own_grown1 ((own_below1 HO.out HB4.out).alloc _) (by simp; omega) hgrow6)); have HO6 := Lib.hid hown6; obtain ⟨g6, c6, rfl, _⟩ := own_form1 hown6; clear hown6 hgrow6))
            case c1 => rw [World.cell?_alloc_at _ _ _ _ rfl]; rfl
            case c2 => simp; omega
            obtain ⟨g, rfl, g0, g1⟩ := own_two HO6.out
            have hglt : g < w6.heap.size := (HO6.out.lt g rfl).2
            have hgc : 2 ≤ c6 := own_cap HO6.out
            have HJ := Lib.hid (fun (u : World) (hu : Below w6.heap.size w6 u) => join2 (c := c6) hglt g0 g1 hgc hXs (by omega) HZ.out u hu)
            have HW6 := Lib.hid (HBV.out.trans (HB6.out.mono HBV.out.size))
            have HQ3 := Lib.hid (fun (u : World) (hu : Below w6.heap.size w6 u) => (HQ.out u (HB6.out.trans (hu.mono HB6.out.size))).1)
            have q8 := HQ3.out w6 (Below.refl _ _)
            clear g0 g1
            go_region_with (go_at_call 99; refine (HJ.out _ (below_drawsA (Below.refl _ _) _)).mono ?_; rintro e w3 ⟨rfl, hb⟩; have q9 := HQ3.out _ ((below_drawsA (Below.refl w6.heap.size w6) _).trans (hb.mono (Nat.le_refl _))); have HB3 := Lib.hid hb; clear hb)
            all_goals
              go_wp2
              go_ret
              exact ⟨congrArg (fun x => Ending.returned (Value.string x)) (qtx_eq HA.out), (below_drawsA HW6.out _).trans (HB3.out.mono HW6.out.size)⟩
        · rcases hj with hj | hj
          · obtain rfl : j = 12 := by omega
            obtain ⟨x, y, rfl⟩ := len_two hm
            obtain ⟨X, hX⟩ : ∃ X, qtx (qtxt (qabs x)) = X := ⟨_, rfl⟩
            obtain ⟨Y, hY⟩ : ∃ Y, qtx (qtxt (qabs y)) = Y := ⟨_, rfl⟩
            have hO : txtsV [x, y] = [.string X, .string Y] := by unfold txtsV; simp [hX, hY]
            rw [hO] at HO
            have HX : Hid (X.data.toList = qtxt (qabs x)) := by show _ = _; rw [← hX, qtx_list]
            have HY : Hid (Y.data.toList = qtxt (qabs y)) := by show _ = _; rw [← hY, qtx_list]
            have hXs : X.size ≤ 107374182400 := by rw [← hX, qtx_size]; exact HLN.out x (by simp)
            have hYs : Y.size ≤ 107374182400 := by rw [← hY, qtx_size]; exact HLN.out y (by simp)
            obtain ⟨g, rfl, g0, g1⟩ := own_two HO.out
            have hglt : g < wr.heap.size := (HO.out.lt g rfl).2
            have hgc : 2 ≤ gc := own_cap HO.out
            have hwl : wd.data.toList = qword 12 := by rw [← HWD.out, qtx_list]; rfl
            have hws : wd.size ≤ 5 := by rw [← ba_len, hwl]; decide
            obtain ⟨Z1, y1, x1, _⟩ := cat_run (P := Tryz.prog) X ⟨#[44, 32]⟩ (by show _ + 2 ≤ _; omega)
            obtain ⟨Z, y2, x2, _⟩ := cat_run (P := Tryz.prog) Z1 Y (by rw [x1]; show _ + 2 + _ ≤ _; omega)
            have hz : Z.data.toList = X.data.toList ++ (44 :: 32 :: Y.data.toList) := by rw [y2, y1, List.append_assoc]; rfl
            have hZs : Z.size ≤ 214748364805 := by rw [x2, x1]; show _ + 2 + _ ≤ _; omega
            obtain ⟨A1, a1, z1, r1⟩ := cat_run (P := Tryz.prog) wd ⟨#[40]⟩ (by show _ + 1 ≤ _; omega)
            obtain ⟨A2, a2, z2, r2⟩ := cat_run (P := Tryz.prog) A1 Z (by rw [z1]; show _ + 1 + _ ≤ _; omega)
            obtain ⟨A3, a3, _, r3⟩ := cat_run (P := Tryz.prog) A2 ⟨#[41]⟩ (by rw [z2, z1]; show _ + 1 + _ + 1 ≤ _; omega)
            have HA : Hid (A3.data.toList = qtxt (qabs (.mk ((12 : Nat) : Int) s 0 p c [x, y]))) := by
              show _ = _
              rw [a3, a2, a1, hz, HX.out, HY.out, hwl]
              show (((qword 12 ++ [40]) ++ (qtxt (qabs x) ++ (44 :: 32 :: qtxt (qabs y)))) ++ [41]) = qword 12 ++ (40 :: (qtxt (qabs x) ++ (44 :: 32 :: (qtxt (qabs y) ++ [41]))))
              simp only [List.append_assoc, List.cons_append, List.nil_append]
            have HJ := Lib.hid (fun (u : World) (hu : Below wr.heap.size wr u) => join2 (c := gc) hglt g0 g1 hgc hXs hYs hz u hu)
            clear hX hY hO HO a1 a2 a3 z1 z2 hXs hYs hwl hws g0 g1 y1 y2 x1 x2 hz hZs
            have hZ0 : [x, y].length = 2 := rfl
            have HQ3 := Lib.hid (fun (u : World) (hu : Below wr.heap.size wr u) => (HQ.out u (HB.out.trans (hu.mono HB.out.size))).1)
            go_upto_region 28 with fail
            rw [hZ0]
            go_region_with (go_at_call 99; refine (HJ.out _ (below_drawsA (Below.refl _ _) _)).mono ?_; rintro e w3 ⟨rfl, hb⟩; have q9 := HQ3.out _ ((below_drawsA (Below.refl wr.heap.size wr) _).trans (hb.mono (Nat.le_refl _))); have HB3 := Lib.hid hb; clear hb)
            all_goals
              go_wp2
              go_ret
              exact ⟨congrArg (fun x => Ending.returned (Value.string x)) (qtx_eq HA.out), (below_drawsA HW.out _).trans (HB3.out.mono HW.out.size)⟩
          · obtain rfl : j = 13 := by omega
            obtain ⟨x, y, rfl⟩ := len_two hm
            obtain ⟨X, hX⟩ : ∃ X, qtx (qtxt (qabs x)) = X := ⟨_, rfl⟩
            obtain ⟨Y, hY⟩ : ∃ Y, qtx (qtxt (qabs y)) = Y := ⟨_, rfl⟩
            have hO : txtsV [x, y] = [.string X, .string Y] := by unfold txtsV; simp [hX, hY]
            rw [hO] at HO
            have HX : Hid (X.data.toList = qtxt (qabs x)) := by show _ = _; rw [← hX, qtx_list]
            have HY : Hid (Y.data.toList = qtxt (qabs y)) := by show _ = _; rw [← hY, qtx_list]
            have hXs : X.size ≤ 107374182400 := by rw [← hX, qtx_size]; exact HLN.out x (by simp)
            have hYs : Y.size ≤ 107374182400 := by rw [← hY, qtx_size]; exact HLN.out y (by simp)
            obtain ⟨g, rfl, g0, g1⟩ := own_two HO.out
            have hglt : g < wr.heap.size := (HO.out.lt g rfl).2
            have hgc : 2 ≤ gc := own_cap HO.out
            have hwl : wd.data.toList = qword 13 := by rw [← HWD.out, qtx_list]; rfl
            have hws : wd.size ≤ 5 := by rw [← ba_len, hwl]; decide
            obtain ⟨Z1, y1, x1, _⟩ := cat_run (P := Tryz.prog) X ⟨#[44, 32]⟩ (by show _ + 2 ≤ _; omega)
            obtain ⟨Z, y2, x2, _⟩ := cat_run (P := Tryz.prog) Z1 Y (by rw [x1]; show _ + 2 + _ ≤ _; omega)
            have hz : Z.data.toList = X.data.toList ++ (44 :: 32 :: Y.data.toList) := by rw [y2, y1, List.append_assoc]; rfl
            have hZs : Z.size ≤ 214748364805 := by rw [x2, x1]; show _ + 2 + _ ≤ _; omega
            obtain ⟨A1, a1, z1, r1⟩ := cat_run (P := Tryz.prog) wd ⟨#[40]⟩ (by show _ + 1 ≤ _; omega)
            obtain ⟨A2, a2, z2, r2⟩ := cat_run (P := Tryz.prog) A1 Z (by rw [z1]; show _ + 1 + _ ≤ _; omega)
            obtain ⟨A3, a3, _, r3⟩ := cat_run (P := Tryz.prog) A2 ⟨#[41]⟩ (by rw [z2, z1]; show _ + 1 + _ + 1 ≤ _; omega)
            have HA : Hid (A3.data.toList = qtxt (qabs (.mk ((13 : Nat) : Int) s 0 p c [x, y]))) := by
              show _ = _
              rw [a3, a2, a1, hz, HX.out, HY.out, hwl]
              show (((qword 13 ++ [40]) ++ (qtxt (qabs x) ++ (44 :: 32 :: qtxt (qabs y)))) ++ [41]) = qword 13 ++ (40 :: (qtxt (qabs x) ++ (44 :: 32 :: (qtxt (qabs y) ++ [41]))))
              simp only [List.append_assoc, List.cons_append, List.nil_append]
            have HJ := Lib.hid (fun (u : World) (hu : Below wr.heap.size wr u) => join2 (c := gc) hglt g0 g1 hgc hXs hYs hz u hu)
            clear hX hY hO HO a1 a2 a3 z1 z2 hXs hYs hwl hws g0 g1 y1 y2 x1 x2 hz hZs
            have hZ0 : [x, y].length = 2 := rfl
            have HQ3 := Lib.hid (fun (u : World) (hu : Below wr.heap.size wr u) => (HQ.out u (HB.out.trans (hu.mono HB.out.size))).1)
            go_upto_region 28 with fail
            rw [hZ0]
            go_region_with (go_at_call 99; refine (HJ.out _ (below_drawsA (Below.refl _ _) _)).mono ?_; rintro e w3 ⟨rfl, hb⟩; have q9 := HQ3.out _ ((below_drawsA (Below.refl wr.heap.size wr) _).trans (hb.mono (Nat.le_refl _))); have HB3 := Lib.hid hb; clear hb)
            all_goals
              go_wp2
              go_ret
              exact ⟨congrArg (fun x => Ending.returned (Value.string x)) (qtx_eq HA.out), (below_drawsA HW.out _).trans (HB3.out.mono HW.out.size)⟩
        · obtain rfl : j = 14 := by omega
          obtain ⟨x, rfl⟩ := len_one hm
          obtain ⟨X, hX⟩ : ∃ X, qtx (qtxt (qabs x)) = X := ⟨_, rfl⟩
          have hO : txtsV [x] = [.string X] := by unfold txtsV; simp [hX]
          rw [hO] at HO
          have HX : Hid (X.data.toList = qtxt (qabs x)) := by show _ = _; rw [← hX, qtx_list]
          have hXs : X.size ≤ 107374182400 := by rw [← hX, qtx_size]; exact HLN.out x (by simp)
          obtain ⟨g, rfl, g0⟩ := own_one HO.out
          have hwl : wd.data.toList = qword 14 := by rw [← HWD.out, qtx_list]; rfl
          have hws : wd.size ≤ 5 := by rw [← ba_len, hwl]; decide
          obtain ⟨Z1, y1, x1, _⟩ := cat_run (P := Tryz.prog) s ⟨#[44, 32]⟩ (by show _ + 2 ≤ _; omega)
          obtain ⟨Z, y2, x2, _⟩ := cat_run (P := Tryz.prog) Z1 X (by rw [x1]; show _ + 2 + _ ≤ _; omega)
          have hz : Z.data.toList = s.data.toList ++ (44 :: 32 :: X.data.toList) := by rw [y2, y1, List.append_assoc]; rfl
          have hZs : Z.size ≤ 107375230981 := by rw [x2, x1]; show _ + 2 + _ ≤ _; omega
          obtain ⟨A1, a1, z1, r1⟩ := cat_run (P := Tryz.prog) wd ⟨#[40]⟩ (by show _ + 1 ≤ _; omega)
          obtain ⟨A2, a2, z2, r2⟩ := cat_run (P := Tryz.prog) A1 Z (by rw [z1]; show _ + 1 + _ ≤ _; omega)
          obtain ⟨A3, a3, _, r3⟩ := cat_run (P := Tryz.prog) A2 ⟨#[41]⟩ (by rw [z2, z1]; show _ + 1 + _ + 1 ≤ _; omega)
          have HA : Hid (A3.data.toList = qtxt (qabs (.mk ((14 : Nat) : Int) s 0 p c [x]))) := by
            show _ = _
            rw [a3, a2, a1, hz, HX.out, hwl]
            show (((qword 14 ++ [40]) ++ (s.data.toList ++ (44 :: 32 :: qtxt (qabs x)))) ++ [41]) = qword 14 ++ (40 :: (s.data.toList ++ (44 :: 32 :: (qtxt (qabs x) ++ [41]))))
            simp only [List.append_assoc, List.cons_append, List.nil_append]
          have HZ := Lib.hid hz
          clear hX hO HO a1 a2 a3 z1 z2 hwl hws y1 y2 x1 x2 hz hZs
          have hZ0 : [x].length = 1 := rfl
          go_upto_region 24 with fail
          rw [hZ0]
          refine wp_region_still_tail 5 (by kernel_rfl) (by kernel_rfl) ?_
          simp only [List.take_succ_cons, List.take_zero, List.drop_succ_cons, List.drop_zero]
          obtain ⟨w5, hw5⟩ : ∃ Z : World, Z = { heap := wr.heap, tape := wr.tape, drawn := wr.drawn + 1, os := wr.os, output := wr.output } := ⟨_, rfl⟩
          have hb5 : Below wr.heap.size wr w5 := by rw [hw5]; exact (Below.refl _ _).drew
          rw [← hw5]
          have v15 : w5.cell? ⟨w.heap.size, 1, none⟩ = some (.string s) := by rw [hw5]; exact v1
          have g05 : w5.cell? ⟨g, 0, none⟩ = some (.string X) := by rw [hw5]; exact g0
          have HB5 := Lib.hid hb5
          clear hw5 g0 v1
          repeat still_step
          refine wpStill_nil ?_
          obtain ⟨w6, hw6⟩ : ∃ Z : World, Z = w5.alloc (.cells #[.string s, .string X] 9) := ⟨_, rfl⟩
          go_upto_region 28 with fail
          rw [← hw6]
          have hb6 : Below w5.heap.size w5 w6 := by rw [hw6]; exact (Below.refl _ _).alloc (Nat.le_refl _) _
          have hglt : w5.heap.size < w6.heap.size := by rw [hw6]; simp
          have g0 : w6.cell? ⟨w5.heap.size, 0, none⟩ = some (.string s) := by rw [hw6, World.cell?_alloc_at _ _ _ _ rfl]; rfl
          have g1 : w6.cell? ⟨w5.heap.size, 1, none⟩ = some (.string X) := by rw [hw6, World.cell?_alloc_at _ _ _ _ rfl]; rfl
          have HB6 : Hid (Below V.heap.size V w6) := HB.out.trans ((HB5.out.trans (hb6.mono HB5.out.size)).mono HB.out.size)
          have HJ := Lib.hid (fun (u : World) (hu : Below w6.heap.size w6 u) => join2 (c := 2) hglt g0 g1 (Nat.le_refl _) (by omega) hXs HZ.out u hu)
          have HW6 := Lib.hid (HBV.out.trans (HB6.out.mono HBV.out.size))
          have HQ3 := Lib.hid (fun (u : World) (hu : Below w6.heap.size w6 u) => (HQ.out u (HB6.out.trans (hu.mono HB6.out.size))).1)
          have q8 := HQ3.out w6 (Below.refl _ _)
          clear g0 g1 hw6 hb6 hglt
          go_region_with (go_at_call 99; refine (HJ.out _ (below_drawsA (Below.refl _ _) _)).mono ?_; rintro e w3 ⟨rfl, hb⟩; have q9 := HQ3.out _ ((below_drawsA (Below.refl w6.heap.size w6) _).trans (hb.mono (Nat.le_refl _))); have HB3 := Lib.hid hb; clear hb)
          all_goals
            go_wp2
            go_ret
            exact ⟨congrArg (fun x => Ending.returned (Value.string x)) (qtx_eq HA.out), (below_drawsA HW6.out _).trans (HB3.out.mono HW6.out.size)⟩
        · obtain rfl : j = 15 := by omega
          obtain ⟨x, rfl⟩ := len_one hm
          obtain ⟨X, hX⟩ : ∃ X, qtx (qtxt (qabs x)) = X := ⟨_, rfl⟩
          have hO : txtsV [x] = [.string X] := by unfold txtsV; simp [hX]
          rw [hO] at HO
          have HX : Hid (X.data.toList = qtxt (qabs x)) := by show _ = _; rw [← hX, qtx_list]
          have hXs : X.size ≤ 107374182400 := by rw [← hX, qtx_size]; exact HLN.out x (by simp)
          obtain ⟨g, rfl, g0⟩ := own_one HO.out
          obtain ⟨nn, rfl⟩ := Int.eq_ofNat_of_zero_le (show 0 ≤ n by omega)
          have hkd := (HTV.out.below HB.out).kinds nn (by omega)
          obtain ⟨kw, hkw⟩ : ∃ kw, qtx (qkindw (nn : Int)) = kw := ⟨_, rfl⟩
          rw [hkw] at hkd
          have hwl : kw.data.toList = qkindw (nn : Int) := by rw [← hkw, qtx_list]
          have hws : kw.size ≤ 5 := by rw [← ba_len, hwl]; rcases (by omega : nn = 1 ∨ nn = 2 ∨ nn = 3) with rfl | rfl | rfl <;> decide
          obtain ⟨A1, a1, z1, r1⟩ := cat_run (P := Tryz.prog) kw ⟨#[40]⟩ (by show _ + 1 ≤ _; omega)
          obtain ⟨A2, a2, z2, r2⟩ := cat_run (P := Tryz.prog) A1 X (by rw [z1]; show _ + 1 + _ ≤ _; omega)
          obtain ⟨A3, a3, _, r3⟩ := cat_run (P := Tryz.prog) A2 ⟨#[41]⟩ (by rw [z2, z1]; show _ + 1 + _ + 1 ≤ _; omega)
          have HA : Hid (A3.data.toList = qtxt (qabs (.mk ((15 : Nat) : Int) s (nn : Int) p c [x]))) := by
            show _ = _
            rw [a3, a2, a1, HX.out, hwl]
            show (((qkindw (nn : Int) ++ [40]) ++ qtxt (qabs x)) ++ [41]) = qkindw (nn : Int) ++ (40 :: (qtxt (qabs x) ++ [41]))
            simp only [List.append_assoc, List.cons_append, List.nil_append]
          clear hX hO HO a1 a2 a3 z1 z2 hXs hwl hws hkw
          have hn4 : (nn : Int) < 4 := by omega
          go_wp2
          go_quiet (fail)
          go_wp2
          go_ret
          exact ⟨congrArg (fun x => Ending.returned (Value.string x)) (qtx_eq HA.out), below_drawsA HW.out _⟩
end Go.Proofs.YteefncohknclcaaGreatDoor
namespace Go.Proofs.YteefncohknclcaaGreatDoor
open Go.RowKit Go.Shelf
theorem qE_chk {pat : List UInt8 → Bool} {x : QA} (h : qE pat x = 0) : qcnt x ≤ 60 ∧ qchk pat x = 0 := by
  unfold qE at h
  split at h
  · cases h
  · exact ⟨by omega, h⟩
set_option maxHeartbeats 4000000 in
set_option maxRecDepth 100000 in
theorem TextA_ok (t : QT) (w : World) (hq : QIn w t) (hT : TxtTabs w) (hc : qcnt (qabs t) ≤ 1099511627776) : Calls Tryz.prog 38 #[t.v] w fun e w' =>
    e = .returned (.tuple #[.string (if qE qpat (qabs t) = 0 then qtx (qtxt (qabs t)) else ⟨#[]⟩), .int .i64 (qE qpat (qabs t))]) ∧ Below w.heap.size w w' := by
  obtain ⟨k, s, n, p, c, xs⟩ := t
  obtain ⟨W, hW, hBW, hS, hC⟩ := arg1 w (.int .i64 k) (.string s) (.int .i64 n) (.slice p xs.length c)
  have HC := Lib.hid hC
  have HBW := Lib.hid hBW
  have HCH := Lib.hid (CheckA_ok _ W (hq.below hBW) (hT.ask.below hBW) hc)
  have HTX : Hid (qE qpat (qabs (.mk k s n p c xs)) = 0 → ∀ (u : World), Below W.heap.size W u → Calls Tryz.prog 70 #[(QT.mk k s n p c xs).v] u (TextPost (.mk k s n p c xs) u)) := by
    show _ → _
    intro h u hu
    obtain ⟨h1, h2⟩ := qE_chk h
    exact text_ok _ u (hq.below (hBW.trans (hu.mono hBW.size))) (hT.below (hBW.trans (hu.mono hBW.size))) h2 (by omega)
  obtain ⟨k0, k1, k2, k3⟩ := HC.out W (Below.refl _ _)
  rw [hW] at k0 k1 k2 k3
  show Calls Tryz.prog 38 #[.agg #[.int .i64 k, .string s, .int .i64 n, .slice p xs.length c]] w _
  obtain ⟨E, hE⟩ : ∃ E, qE qpat (qabs (.mk k s n p c xs)) = E := ⟨_, rfl⟩
  rw [hE] at HCH HTX ⊢
  obtain ⟨X, hX⟩ : ∃ X, qtx (qtxt (qabs (.mk k s n p c xs))) = X := ⟨_, rfl⟩
  unfold TextPost at HTX
  rw [hX] at HTX ⊢
  clear hq hT hBW hS hC hc hE hX
  go_enter Tryz.func38, Tryz.ntmps38
  by_cases h0 : E = 0
  · subst h0
    have HT2 := Lib.hid (HTX.out rfl)
    go_wp2_with (first
      | (go_at_call 32; rw [← hW]; refine HCH.out.mono ?_; rintro e w2 ⟨rfl, hb⟩; have HB0 := Lib.hid hb; have HB := Lib.hid (HBW.out.trans (hb.mono HBW.out.size)); obtain ⟨u0, u1, u2, u3⟩ := HC.out w2 hb; clear hb)
      | (go_at_call 70; refine (HT2.out _ HB0.out).mono ?_; rintro e w3 ⟨rfl, hb⟩; have HB3 := Lib.hid (HB.out.trans (hb.mono HB.out.size)); clear hb))
    go_ret2
    exact ⟨by first | rfl | (rw [if_pos rfl]; rfl), HB3.out⟩
  · obtain ⟨i1, i2⟩ := int_ne' h0
    have HNE : Hid (¬ E = 0) := h0
    clear h0
    go_wp2_with (go_at_call 32; rw [← hW]; refine HCH.out.mono ?_; rintro e w2 ⟨rfl, hb⟩; have HB := Lib.hid (HBW.out.trans (hb.mono HBW.out.size)); clear hb)
    go_ret2
    exact ⟨by first | rfl | (rw [if_neg HNE.out]; rfl), HB.out⟩
set_option maxHeartbeats 4000000 in
set_option maxRecDepth 100000 in
theorem textN_ok (t : QT) (w : World) (hq : QIn w t) (hT : TxtTabs w) (hc : qE qpat (qabs t) = 0) : Calls Tryz.prog 86 #[t.v] w (TextPost t w) := by
  obtain ⟨k, s, n, p, c, xs⟩ := t
  obtain ⟨W, hW, hBW, hS, hC⟩ := arg1 w (.int .i64 k) (.string s) (.int .i64 n) (.slice p xs.length c)
  have HBW := Lib.hid hBW
  have hx := TextA_ok _ W (hq.below hBW) (hT.below hBW) (by have := (qE_chk hc).1; omega)
  rw [hc, if_pos rfl] at hx
  have HX := Lib.hid hx
  obtain ⟨k0, k1, k2, k3⟩ := hC W (Below.refl _ _)
  rw [hW] at k0 k1 k2 k3
  show Calls Tryz.prog 86 #[.agg #[.int .i64 k, .string s, .int .i64 n, .slice p xs.length c]] w _
  clear hq hT hBW hS hC hc hx
  unfold TextPost
  generalize qtx (qtxt (qabs (.mk k s n p c xs))) = X at *
  go_enter Tryz.func86, Tryz.ntmps86
  go_wp2_with (go_at_call 38; rw [← hW]; refine HX.out.mono ?_; rintro e w2 ⟨rfl, hb⟩; have HB := Lib.hid (HBW.out.trans (hb.mono HBW.out.size)); clear hb)
  go_ret
  exact ⟨rfl, HB.out⟩
end Go.Proofs.YteefncohknclcaaGreatDoor
namespace Go.Proofs.YteefncohknclcaaGreatDoor
open Go.RowKit Go.Shelf Go.Maps Go.Sort
theorem NL_ownAny {w : World} {base n : Nat} {v : Value} {zs : List ByteArray} (h : w.ownsRow base 9 1 v n (strsV zs)) (hl : zs.length = n) (hs : ∀ s ∈ zs, s.size ≤ 4611686018427387904) (hb : n ≤ 8796093022) :
    ∃ g c, v = .slice g n c ∧ NL w g n c zs ∧ n ≤ c := by
  rcases h.2 with ⟨hv, hn⟩ | ⟨g, cap, cur, hv, _, hg, hc, _⟩
  · obtain rfl : zs = [] := List.length_eq_zero_iff.1 (by omega)
    subst hn
    exact ⟨none, 0, hv, NL_none w, Nat.le_refl _⟩
  · subst hv
    exact ⟨_, cap, rfl, ⟨⟨hl, Reads.of_own h, hs, by omega⟩, (fun h => by cases h), (fun ad ha => by injection ha with ha; exact ⟨g, 0, ha.symm, (Array.getElem?_eq_some_iff.1 hg).1⟩), by omega⟩, hc⟩
/-- the free vars, sorted, each once -/
def freeS (x : QA) : List Txt := Lib.compact ((qfree x []).mergeSort fun a b => decide (a ≤ b))
def FreeAPost (t : QT) (w : World) (e : Ending) (w' : World) : Prop :=
  ((qE qpat (qabs t) ≠ 0 ∧ e = .returned (.tuple #[.slice none 0 0, .int .i64 (qE qpat (qabs t))])) ∨
    (qE qpat (qabs t) = 0 ∧ ∃ (g : Option Addr) (c : Nat), e = .returned (.tuple #[.slice g (freeS (qabs t)).length c, .int .i64 0]) ∧ w'.ownsRow w.heap.size 9 1 (.slice g (freeS (qabs t)).length c) (freeS (qabs t)).length ((freeS (qabs t)).map encStr))) ∧ Below w.heap.size w w'
/-- the names in an ask are short -/
theorem free_small (x : QA) : qchk qpat x = 0 → ∀ s ∈ qfree x [], s.length ≤ 40 := by
  induction x using QA.ind with
  | h k s n xs ih =>
    intro h t ht
    obtain ⟨hnd, hxs⟩ := qchk_zero.1 h
    have own : t ∈ qown k s [] → t.length ≤ 40 := by
      intro h1
      obtain ⟨h3, rfl, _⟩ := mem_own.1 h1
      subst h3
      have : nokL t = true := by
        cases hno : nokL t
        · exfalso
          unfold qnodeE at hnd
          simp [qnamed, hno] at hnd
          split at hnd <;> cases hnd
        · rfl
      unfold nokL at this
      simp only [Bool.and_eq_true, decide_eq_true_eq] at this
      exact this.1.2
    match xs with
    | [] => rw [free0] at ht; exact own ht
    | [x] =>
      rw [free1, List.mem_append] at ht
      rcases ht with ht | ht
      · exact own ht
      · exact ih x (by simp) (hxs x (by simp)) t ht
    | x :: y :: r =>
      rw [free2, List.mem_append, List.mem_append] at ht
      rcases ht with ht | ht | ht
      · exact own ht
      · exact ih x (by simp) (hxs x (by simp)) t ht
      · exact ih y (by simp) (hxs y (by simp)) t ((mem_free y _ t).1 ht).1
set_option maxHeartbeats 4000000 in
set_option maxRecDepth 100000 in
theorem FreeA_ok (t : QT) (w : World) (hq : QIn w t) (hT : AskTabs w) (hc : qcnt (qabs t) ≤ 1099511627776) : Calls Tryz.prog 15 #[t.v] w (FreeAPost t w) := by
  obtain ⟨k, s, n, p, c, xs⟩ := t
  obtain ⟨W, hW, hBW, hS, hC⟩ := arg1 w (.int .i64 k) (.string s) (.int .i64 n) (.slice p xs.length c)
  have HC := Lib.hid hC
  have HBW := Lib.hid hBW
  have HCH := Lib.hid (CheckA_ok _ W (hq.below hBW) (hT.below hBW) hc)
  have HQ : Hid (∀ u : World, Below W.heap.size W u → QIn u (.mk k s n p c xs)) := by
    show ∀ u : World, _
    exact fun u hu => hq.below (hBW.trans (hu.mono hBW.size))
  obtain ⟨k0, k1, k2, k3⟩ := HC.out W (Below.refl _ _)
  show Calls Tryz.prog 15 #[.agg #[.int .i64 k, .string s, .int .i64 n, .slice p xs.length c]] w _
  obtain ⟨E, hE⟩ : ∃ E, qE qpat (qabs (.mk k s n p c xs)) = E := ⟨_, rfl⟩
  have HE := Lib.hid hE
  rw [hE] at HCH
  clear hq hT hBW hS hC hc hE
  go_enter Tryz.func15, Tryz.ntmps15
  go_upto_region 1 with fail
  rw [← hW]
  clear hW
  by_cases h0 : E = 0
  · subst h0
    go_upto_region 4 with (go_at_call 32; refine HCH.out.mono ?_; rintro e w2 ⟨rfl, hb⟩; have HB0 := Lib.hid hb; obtain ⟨u0, u1, u2, u3⟩ := HC.out w2 hb; clear hb)
    obtain ⟨h60, hch⟩ := qE_chk HE.out
    have HCK := Lib.hid hch
    have HFR := Lib.hid (free_ok w2 w2.heap.size (Nat.le_refl _) (.mk k s n p c xs) (HQ.out w2 HB0.out) hch none 0 0 [] [] (.slice none 0 0) w2 (Below.refl _ _) (Nat.le_refl _) (NL_none w2) (fun ad h => by cases h) (World.ownsRow_nil w2 _ _ _) (by show 0 + _ ≤ _; omega) (by omega) (Nat.le_refl _))
    have H60 := Lib.hid h60
    clear h60 hch k0 k1 k2 k3
    go_wp2_with fail
    refine HFR.out.mono ?_
    rintro e w3 ⟨v', m, rfl, hm, hown, hg, _⟩
    rw [List.nil_append] at hown
    have hg3 : Below w2.heap.size w2 w3 := ⟨hg.os, hg.tape, hg.output, hg.size, fun k hk => hg.block k hk (by simp [Value.ownBlock])⟩
    have hsm : ∀ z ∈ m, z.size ≤ 4611686018427387904 := fun z hz => by
      have := free_small _ HCK.out z.data.toList (by rw [← show byt m = qfree (qabs (.mk k s n p c xs)) [] from hm]; exact mem_byt.2 hz)
      rw [ba_len] at this
      omega
    have hml : m.length ≤ 60 := by
      have h1 := qfree_len (qabs (.mk k s n p c xs)) []
      have h2 : (byt m).length = (qfree (qabs (.mk k s n p c xs)) []).length := by rw [hm]; rfl
      rw [byt_len] at h2
      have := H60.out
      omega
    obtain ⟨g, cg, rfl, hnl, _⟩ := NL_ownAny hown rfl hsm (by omega)
    have HM : Hid (freeS (qabs (.mk k s n p c xs)) = sortN m) := by
      show _ = _
      unfold freeS sortN
      rw [hm]
      rfl
    have HB3 := Lib.hid (HB0.out.trans (hg3.mono HB0.out.size))
    have hb1 : Below w3.heap.size w3 (w3.alloc (.cells #[.slice g m.length cg] 22)) := (Below.refl _ _).alloc (Nat.le_refl _) _
    have hcell : (w3.alloc (.cells #[.slice g m.length cg] 22)).cell? ⟨w3.heap.size, 0, none⟩ = some (.slice g m.length cg) := by rw [World.cell?_alloc_at _ _ _ _ rfl]; rfl
    have HCL := Lib.hid hcell
    have HB4 := Lib.hid (HB3.out.trans (hb1.mono HB3.out.size))
    have HN1 := Lib.hid (hnl.below hb1)
    clear hcell hb1 hnl hown hg hg3 hsm hml hm HFR
    go_wp2_with fail
    refine (callsIn_wide.1 (vs_values_in Fence.wide 1 trivial rfl g m.length cg w3)).mono ?_
    rintro e w' ⟨rfl, rfl⟩
    go_wp2_with fail
    refine (sorted_ok w3.heap.size g m.length cg m _ (by simp) HN1.out.at_ HCL.out HN1.out.nil HN1.out.plain HN1.out.reach).mono ?_
    rintro e w5 ⟨g5, cg5, rfl, hown5, hb5⟩
    have HO := Lib.hid hown5
    have HB5 := Lib.hid (HB4.out.trans (hb5.mono HB4.out.size))
    clear hown5 hb5
    go_wp2_with fail
    refine (compact_own HO.out).mono ?_
    rintro e w6 ⟨rfl, hown6, hg6⟩
    have HO6 := Lib.hid hown6
    have HB6 := Lib.hid (HB5.out.grown hg6 HB5.out.size (fun j hj => by have := (HO.out.lt j hj).1; have := HB4.out.size; omega))
    clear hown6 hg6
    go_wp2
    go_ret2
    refine ⟨.inr ⟨HE.out, g5, cg5, ?_, ?_⟩, HBW.out.trans (HB6.out.mono HBW.out.size)⟩
    · rw [HM.out]; rfl
    · rw [HM.out]
      refine ⟨HO6.out.1, ?_⟩
      rcases HO6.out.2 with h | ⟨g', cap, cur, h1, h2, h3⟩
      · exact .inl h
      · exact .inr ⟨g', cap, cur, h1, (by have := HBW.out.size; have := HB4.out.size; omega), h3⟩
  · obtain ⟨i1, i2⟩ := int_ne' h0
    have HNE : Hid (¬ E = 0) := h0
    clear h0
    go_wp2_with (go_at_call 32; refine HCH.out.mono ?_; rintro e w2 ⟨rfl, hb⟩; have HB0 := Lib.hid hb; clear hb)
    go_ret2
    refine ⟨.inl ⟨(by rw [HE.out]; exact HNE.out), (by rw [HE.out]; rfl)⟩, HBW.out.trans (HB0.out.mono HBW.out.size)⟩
end Go.Proofs.YteefncohknclcaaGreatDoor
namespace Go.Proofs.YteefncohknclcaaGreatDoor
open Go.RowKit Go.ChangeShapes
theorem shape_lt {w : World} {b : Nat} {r : TypeId × Nat} (h : w.shape? b = some r) : b < w.heap.size := by
  unfold World.shape? at h
  rcases Nat.lt_or_ge b w.heap.size with hb | hb
  · exact hb
  · rw [Array.getElem?_eq_none hb] at h; cases h
theorem slice_plain {P : Program} {W : World} {b0 : Nat} {r : Reach} {a : Option Addr} {len cap : Nat} {t e : TypeId} (ht : P.underlying t = some (.slice e)) (h : Value.okWide P W r b0 t (.slice a len cap)) :
    (a = none → cap = 0) ∧ ∀ ad, a = some ad → ∃ b off, ad = ⟨b, off, none⟩ ∧ b < W.heap.size := by
  simp only [Value.okWide, ht, Cell.okWide] at h
  unfold Cell.ok at h
  rw [ht] at h
  cases a with
  | none =>
    refine ⟨fun _ => ?_, fun ad h => by cases h⟩
    revert h
    cases len <;> cases cap <;> simp
  | some ad =>
    refine ⟨fun h => (by cases h), fun ad' h' => ?_⟩
    injection h' with h'
    subst h'
    obtain ⟨_, _, _, hs, row, cells, hsh, _⟩ := h
    obtain ⟨b, o, s⟩ := ad
    simp only at hs
    subst hs
    exact ⟨b, o, rfl, shape_lt hsh⟩
def NLArg (w : World) (p : Option Addr) (n c : Nat) : Prop := ∃ zs, NL w p n c zs
set_option maxRecDepth 100000 in
theorem nl_arg {H : Type} {enc : TypeId × Value → H} {W : World} {r : Reach} {b0 fuel len cap : Nat} {a : Option Addr} {d : DataW H} {p : List MemPlace}
    (hok : Value.okWide Tryz.prog W r b0 22 (.slice a len cap))
    (ht : Tryz.prog.underlying 22 = some (.slice 9)) (he : Tryz.prog.underlying 9 = some .string) (hc : Tryz.prog.cellsOf 9 = 1)
    (hf : DataW.trod enc Tryz.prog W 0 (fun _ => true) true fuel 22 [.slice a len cap] = some (d, p))
    (hsz : ∀ n, n ∈ d.weights Tryz.prog 22 → n ≤ reachBytes) : NLArg W a len cap := by
  obtain ⟨ss, hS⟩ := str_arg ht he hc hf hsz
  obtain ⟨h1, h2⟩ := slice_plain ht hok
  refine ⟨ss, hS, h1, h2, ?_⟩
  rcases open_strings ht he hc hf with ⟨h1, h2⟩ | ⟨ad, ln, cp, zs, h1, h2, h3, h4, h5, h6, h7, h8⟩
  · injection h1 with h1 _
    injection h1 with e1 e2 e3
    subst e1 e2 e3
    omega
  · injection h1 with h1 _
    injection h1 with e1 e2 e3
    subst e1 e2 e3
    injection h6 with h6 h6'
    have hw : d.weights Tryz.prog 22 = ((strs (H := H) (zs.take len)).length + (strs (H := H) (zs.drop len)).length) * Tryz.prog.bytesOf 9 :: (DataW.weightsAll Tryz.prog 9 (strs (H := H) (zs.take len)) ++ DataW.weightsAll Tryz.prog 9 (strs (H := H) (zs.drop len))) := by
      rw [h6, DataW.weights, ht]
    have hb := hsz _ (by rw [hw]; exact List.mem_cons_self)
    have hby : Tryz.prog.bytesOf 9 = 16 := by kernel_rfl
    rw [hby] at hb
    unfold reachBytes at hb
    simp only [if_true] at h5
    have hl1 : (strs (H := H) (zs.take len)).length = len := by unfold strs; rw [List.length_map, List.length_take]; omega
    rw [hl1] at hb
    omega
end Go.Proofs.YteefncohknclcaaGreatDoor
namespace Go.Proofs.YteefncohknclcaaGreatDoor
open Go.RowKit Go.Shelf
set_option maxHeartbeats 1000000 in
theorem find_ok {w : World} {p : Option Addr} {n c : Nat} {ls : List ByteArray} (h : NL w p n c ls) (hr : Rise ls) (x : ByteArray) :
    Calls Tryz.prog 59 #[.slice p n c, .string x] w fun e w' => ((∃ k : Nat, k < ls.length ∧ ls.getD k ByteArray.empty = x ∧ e = .returned (.tuple #[.int .i64 k, .bool true])) ∨ (Lib.containsS ls x = false ∧ e = .returned (.tuple #[.int .i64 0, .bool false]))) ∧ ∃ q, w' = w.drewN q := by
  have HS := Lib.hid (search_ok h hr x)
  clear h hr
  go_enter Tryz.func59, Tryz.ntmps59
  go_wp2_with fail
  refine HS.out.mono ?_
  rintro e w' ⟨⟨k, b, rfl, hF⟩, q, rfl⟩
  rcases hF with ⟨rfl, hk, hx⟩ | ⟨rfl, hx⟩
  · have HX := Lib.hid hx
    clear hx
    go_wp2
    go_ret2
    exact ⟨.inl ⟨k, hk, HX.out, rfl⟩, q, rfl⟩
  · have HX := Lib.hid hx
    clear hx
    go_wp2
    go_ret2
    exact ⟨.inr ⟨HX.out, rfl⟩, q, rfl⟩
end Go.Proofs.YteefncohknclcaaGreatDoor
