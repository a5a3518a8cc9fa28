/- Texts joined: EvalSol1W, AppU, WayRingsW, WaySomeW, EvalSolveW. Conditions: theirs. -/
import Derived.Test.YteefncohknclcaaGreatDoorEvalAllWM10
import Derived.Deep.RegionHeld3
import Derived.Test.YteefncohknclcaaGreatDoorEvalAllWM5
import Derived.Test.YteefncohknclcaaGreatDoorEvalAllWM6
import Derived.Test.YteefncohknclcaaGreatDoorEvalAllWM4
import Derived.Deep.LoopGhost
import Derived.Deep.Onto
import Derived.BigQuiet
import Derived.BigRegion
namespace Go.Proofs.YteefncohknclcaaGreatDoor
open Go.RowKit Go.Shelf
theorem nl_at {w : World} {p : Option Addr} {n c : Nat} {zs : List ByteArray} (h : NL w p n c zs) {k : Nat} (hk : k < n) : ∃ b o, p = some ⟨b, o, none⟩ ∧ b < w.heap.size ∧ w.cell? ⟨b, o + k, none⟩ = some (.string (zs.getD k ByteArray.empty)) := by
  obtain ⟨ad, rfl, _⟩ := h.at_.reads.2 (by omega)
  obtain ⟨b, o, rfl, hb⟩ := h.plain _ rfl
  exact ⟨b, o, rfl, hb, h.cellAt k (by have := h.at_.len; omega)⟩
set_option maxHeartbeats 4000000 in
set_option maxRecDepth 100000 in
theorem sol1_ok (g : GD) (hG : Good g) (bx bv b : Nat) (p : Option Addr) (c : Nat) (ev : Value) (pr : Option Addr) (cr : Nat) (pb : Option Addr) (cb : Nat) (k : Nat) (hk : k < g.names.length) (nm : ByteArray) (hnm : nm.size ≤ 1048576) (w : World)
    (hx : w.cell? ⟨bx, 1, none⟩ = some (.string nm)) (hv : w.cell? ⟨bv, 0, none⟩ = some (.pointer (some ⟨b, 0, none⟩))) (hS : SolAt w g b p c ev pr cr pb cb) :
    Calls Tryz.prog 68 #[.int .i64 (k : Int), .pointer (some ⟨bx, 0, none⟩), .pointer (some ⟨bv, 0, none⟩)] w fun e w' => e = .returned (.bool (mB nm.data.toList (gnm g k))) ∧ Below w.heap.size w w' := by
  obtain ⟨bn, on, rfl, hbn, hcell⟩ := nl_at hS.nl hk
  have h64 := hG.names
  have hc0 := hS.c0
  have hsz : (g.names.getD k ByteArray.empty).size ≤ 4611686018427387904 := hS.nl.at_.size _ (by
    rw [List.getD_eq_getElem?_getD, List.getElem?_eq_getElem hk]; exact List.getElem_mem hk)
  obtain ⟨z, hz⟩ : ∃ z, g.names.getD k ByteArray.empty = z := ⟨_, rfl⟩
  have HZ : Hid (gnm g k = z.data.toList) := by show _ = _; unfold gnm; rw [hz]
  rw [hz] at hcell hsz
  have HM : Hid (∀ u : World, Calls Tryz.prog 69 #[.string nm, .string z] u fun e w' => e = .returned (.tuple #[.bool (mB nm.data.toList z.data.toList), .int .i64 (mE nm.data.toList z.data.toList)]) ∧ Below u.heap.size u w') := by
    show ∀ u : World, _
    exact fun u => Match_ok nm z (by omega) hsz u
  have hlx := World.block_lt_of_cell? w _ hx
  have hlv := World.block_lt_of_cell? w _ hv
  have hlb := hS.lt
  simp only at hlx hlv
  have HSS : Hid (∀ u : World, Below w.heap.size w u → u.cell? ⟨bx, 1, none⟩ = some (.string nm) ∧ u.cell? ⟨bv, 0, none⟩ = some (.pointer (some ⟨b, 0, none⟩)) ∧ u.cell? ⟨b, 0, none⟩ = some (.slice (some ⟨bn, on, none⟩) g.names.length c) ∧ u.cell? ⟨bn, on + k, none⟩ = some (.string z)) := by
    show ∀ u : World, _
    intro u hu
    exact ⟨(hu.cell (p := ⟨bx, 1, none⟩) hlx).trans hx, (hu.cell (p := ⟨bv, 0, none⟩) hlv).trans hv, (hu.cell (p := ⟨b, 0, none⟩) hlb).trans hc0, (hu.cell (p := ⟨bn, on + k, none⟩) hbn).trans hcell⟩
  have hki : (k : Int) < (g.names.length : Int) := by omega
  clear hS hG hz hsz hnm hlx hlv hlb hbn
  rw [HZ.out]
  generalize mB nm.data.toList z.data.toList = R at HM ⊢
  go_enter Tryz.func68, Tryz.ntmps68
  go_upto_region 1 with fail
  go_region_held3 (fun u : World => u.cell? ⟨bx, 1, none⟩ = some (.string nm) ∧ u.cell? ⟨bv, 0, none⟩ = some (.pointer (some ⟨b, 0, none⟩)) ∧ u.cell? ⟨b, 0, none⟩ = some (.slice (some ⟨bn, on, none⟩) g.names.length c) ∧ u.cell? ⟨bn, on + k, none⟩ = some (.string z))
    (first | exact HSS.out _ HB3.out | exact HSS.out _ ((Below.refl _ _).drew))
    ((go_at_call 69; refine (HM.out _).mono ?_; rintro e w3 ⟨rfl, hb⟩; have HB3 := Lib.hid (((Below.refl w.heap.size w).drew).trans (hb.mono (Nat.le_refl _))); clear hb))
  all_goals
    go_wp2_with fail
    go_ret
    exact ⟨rfl, HB3.out⟩
end Go.Proofs.YteefncohknclcaaGreatDoor
namespace Go.Proofs.YteefncohknclcaaGreatDoor
open Go.RowKit
theorem app_u64 (w : World) {ops : Array Oper} {rest : List Oper} {o : Oper} {a : Act} {Q : Exit → Act → World → Prop} (hgd : o.guard = none) (s x : Operand)
    (ho : o.op = .call { callee := .builtin .append, args := #[s, x], argTypes := #[50, 50] })
    (base : Nat) (v : Value) (n : Nat) (xs : List Value) (hs : a.eval s = v) (hown : w.ownsRow base 24 1 v n xs)
    (g : Nat) (u : Value) (hu : u.oneCell' = true) (hx : a.eval x = .slice (some ⟨g, 0, none⟩) 1 1) (hcell : w.cell? ⟨g, 0, none⟩ = some u)
    (hn : n ≤ 1099511627776) (hbase : base ≤ w.heap.size)
    (h : ∀ v' w', w'.ownsRow base 24 1 v' (n + 1) (xs ++ [u]) → w.grownBy w' v.ownBlock → wpList Tryz.prog ops Q rest (a.put o.dst v') w') : wpList Tryz.prog ops Q (o :: rest) a w := by
  obtain ⟨i0, hi, hz0, hz1, hz2⟩ := info_parts info_u64
  refine wpList_append_own w hgd s x 50 ho base 24 i0 (.int .u64 0) 1 8 Tryz.underlying50 hi hz0 hz1 hz2 rfl (by decide) v n xs hs hown ⟨g, 0, none⟩ 1 1 [u] hx rfl ?_ ?_ (by unfold maxLen; omega) (by omega) hbase (fun v' w' h1 h2 _ => h v' w' h1 h2)
  · intro j q hj
    match j, hj with
    | 0, hj => simp at hj; subst hj; simpa [Addr.add] using hcell
  · intro q hq; simp at hq; subst hq; exact hu
end Go.Proofs.YteefncohknclcaaGreatDoor
namespace Go.Proofs.YteefncohknclcaaGreatDoor
open Go.RowKit
/-- the rings up to the one with this number -/
def rngs (r : List B) (b : B) (k : Nat) : List B := (List.range (k + 1)).map (DD r b)
theorem rngs_len (r : List B) (b : B) (k : Nat) : (rngs r b k).length = k + 1 := by simp [rngs]
theorem rngs_next (r : List B) (b : B) (k : Nat) : u64s (rngs r b (k + 1)) = u64s (rngs r b k) ++ [.int .u64 (un (DD r b (k + 1)) : Int)] := by
  unfold rngs
  rw [List.range_succ, List.map_append]
  simp [u64s]
theorem rngs_row {r : List B} {b : B} {k j : Nat} (h : j ≤ k) : row (rngs r b k) j = DD r b j := by
  unfold rngs row
  have : j < k + 1 := by omega
  simp [this]
theorem chk_or {r : List B} {a b : B} (h : chkR r = 0) : (chks r [a, b] = 0 → (a ||| b) &&& ~~~belowB r.length = 0#64) ∧ (chks r [a, b] ≠ 0 → (a ||| b) &&& ~~~belowB r.length ≠ 0#64 ∧ chks r [a, b] = 4) := by
  have hv := chkR_zero.1 h
  constructor
  · intro hc
    obtain ⟨_, hs⟩ := chks_zero.1 hc
    refine andNot_zero fun k hk => ?_
    rw [has_below _ _ (has_lt hk), decide_eq_true_eq]
    rw [has_or, Bool.or_eq_true] at hk
    rcases hk with hk | hk
    · exact hs a (by simp) k hk
    · exact hs b (by simp) k hk
  · intro hc
    refine ⟨fun h0 => hc (chks_zero.2 ⟨hv, fun s hs k hk => ?_⟩), ?_⟩
    · have h1 := andNot_zero_iff.1 h0 k (by
        rw [has_or, Bool.or_eq_true]
        rcases (show s = a ∨ s = b by simpa using hs) with rfl | rfl
        · exact .inl hk
        · exact .inr hk)
      rw [has_below _ _ (has_lt hk), decide_eq_true_eq] at h1
      exact h1
    · unfold chks chkN at hc ⊢
      rw [h] at hc ⊢
      by_cases h2 : okSets r.length [a, b] = true <;> simp [h2] at hc ⊢
def CntOk (r : List B) (b : B) (k : Nat) : Prop := k ≤ cnt (DD r b k)
/-- what rings answers of right rows and sets -/
def RingsPost (r : List B) (a b : B) (w : World) (e : Ending) (w' : World) : Prop :=
  (∃ (d : Nat) (g : Option Addr) (c : Nat), e = .returned (.tuple #[.slice g (d + 1) c, .int .i64 0]) ∧ Dist r a b d ∧ d ≤ 64 ∧ RowsAt w' g (d + 1) (rngs r b d) ∧ Below w.heap.size w w') ∨
  (e = .returned (.tuple #[.slice none 0 0, .int .i64 5]) ∧ (∀ j, a &&& DD r b j = 0#64) ∧ Below w.heap.size w w')
set_option maxRecDepth 100000 in
set_option maxHeartbeats 2000000 in
theorem rings_yes (p : Option Addr) (n c : Nat) (r : List B) (a b : B) (h : chks r [a, b] = 0) (w : World) (hR : RowsAt w p n r) (hT : Tab w) :
    Calls Tryz.prog 93 #[.slice p n c, .int .u64 (un a), .int .u64 (un b)] w (RingsPost r a b w) := by
  have hl := hR.len
  subst hl
  have H := Lib.hid h
  obtain ⟨hv, _, _, h3⟩ := chks_two h
  have HV := Lib.hid hv
  have H3 := Lib.hid h3
  have HB := Lib.hid hR.big
  have h64 := hv.1
  have h0 : (un ((a ||| b) &&& ~~~belowB r.length) : Int) = 0 := un_zero_int ((chk_or (chkR_zero.2 hv)).1 h)
  clear h hv h3
  go_enter Tryz.func93, Tryz.ntmps93
  go_wp2_with fail
  refine (Back_yes p _ c r (chkR_zero.2 HV.out) w hR hT).mono ?_
  rintro e w1 ⟨g, cg, rfl, hown, hb1⟩
  have hB1 := rows_own hown (bk_len r) HB.out
  have hR1 := hR.below hb1
  have hT1 := hT.below hb1
  clear hown hR hT
  go_wp2_with (go_at_call 60; refine (Below_ok _ h64 _).mono ?_; rintro e w' ⟨rfl, rfl⟩)
  have hbl : Below w1.heap.size w1 (w1.alloc (.cells #[.int .u64 (un b : Int)] 24)) := (Below.refl _ _).alloc (Nat.le_refl _) _
  have hol : (w1.alloc (.cells #[.int .u64 (un b : Int)] 24)).ownsRow w1.heap.size 24 1 (.slice (some ⟨w1.heap.size, 0, none⟩) 1 1) (0 + 1) (u64s (rngs r b 0)) := World.ownsRow_lit (size := 1) w1 #[.int .u64 (un b : Int)] 1 (Nat.le_refl _) (by decide) rfl
  go_loopw [12, 13] (fun v dp wr => ∃ k : Nat, dp = .int .i64 ((k : Int) + 1) ∧ Hid (∀ j, j < k → a &&& DD r b j = 0#64) ∧ CntOk r b k ∧ wr.ownsRow w1.heap.size 24 1 v (k + 1) (u64s (rngs r b k)) ∧ Below w1.heap.size w1 wr) (fun _ dp _ => 66 - (intOf dp).toNat)
  case atStart => exact ⟨0, rfl, show ∀ j, _ from fun j hj => absurd hj (by omega), Nat.zero_le _, hol, hbl⟩
  case round =>
    obtain ⟨k, rfl, HK, HC, hown, hbr⟩ := hrel
    obtain ⟨wo, rfl⟩ : ∃ wo : World, wo = wr := ⟨_, rfl⟩
    have hk64 : k ≤ 64 := Nat.le_trans HC (cnt_le _)
    have hBr := hB1.below hbr
    have hTr := hT1.below hbr
    have hszr := hbr.size
    obtain ⟨go, co, rfl, hfb⟩ := own_form hown
    have hO := rows_own hown (rngs_len r b k) (by unfold maxLen; omega)
    obtain ⟨ad, rfl, _, hc⟩ := hO.cell (k := k) (by omega)
    rw [rngs_row (Nat.le_refl k)] at hc
    by_cases hz : a &&& DD r b k = 0#64
    · have e0 : (un (DD r b k &&& a) : Int) = 0 := un_zero_int (by rw [BitVec.and_comm]; exact hz)
      go_wp2_with fail
      refine (Within_yes _ _ _ (bk r) b H3.out ((k : Int) + 1) (by omega) wo hBr hTr).mono ?_
      rintro e w2 ⟨rfl, hb2⟩
      rw [show ((k : Int) + 1).toNat = k + 1 by omega, show ball (bk r) (k + 1) b = DD r b (k + 1) from rfl]
      have hown2 := own_below hown hb2
      have hO2 := rows_own hown2 (rngs_len r b k) (by unfold maxLen; omega)
      have hbb := hbr.trans (hb2.mono hszr)
      have hsz2 := hbb.size
      obtain ⟨ad', had, _, hc2⟩ := hO2.cell (k := k) (by omega)
      injection had with had
      subst had
      rw [rngs_row (Nat.le_refl k)] at hc2
      by_cases heq : DD r b (k + 1) = DD r b k
      · have HF : Hid (∀ j, a &&& DD r b j = 0#64) := by
          show ∀ j, _
          intro j
          by_cases h0 : a &&& DD r b j = 0#64
          · exact h0
          · obtain ⟨q, hq1, hq2⟩ := and_ne.1 h0
            exact absurd hz (and_ne.2 ⟨q, hq1, DD_stop_all heq j q hq2⟩)
        rw [heq]
        have HBB := Lib.hid (below_next hb1 hbb)
        clear heq hz hc hown hown2 hO hO2 hBr hTr hbb hb2 hbr hB1 hb1 hR1
        generalize DD r b k = x at *
        go_wp2
        go_ret2
        exact .inr ⟨rfl, HF.out, HBB.out⟩
      · have hni : ((un (DD r b (k + 1)) : Int) == (un (DD r b k) : Int)) = false := by
          simp only [beq_eq_false_iff_ne, ne_eq]
          intro hh
          exact heq (un_inj (by omega))
        have HKN : Hid (∀ j, j < k + 1 → a &&& DD r b j = 0#64) := by
          show ∀ j, _
          intro j hj
          rcases Nat.lt_or_ge j k with h3 | h3
          · exact HK.out j h3
          · have : j = k := by omega
            subst this; exact hz
        have HCN : CntOk r b (k + 1) := by
          have h3 := DD_grow heq
          unfold CntOk at HC ⊢
          omega
        have HOW := Lib.hid hown2
        have HBB := Lib.hid hbb
        obtain ⟨go2, co2, hgo, hfb2⟩ := own_form hown2
        have HFB := Lib.hid hfb2
        have HRN := Lib.hid (rngs_next r b k)
        clear heq hz hc hown hown2 hO hO2 hBr hTr hb2 hbr hbb hB1 hb1 hR1 hfb hfb2 hgo HK HC
        generalize DD r b (k + 1) = y at *
        generalize DD r b k = x at *
        go_wp2_with (at_builtin; refine app_u64 _ rfl _ _ rfl w1.heap.size _ (k + 1) _ rfl (HOW.out.alloc _) w2.heap.size (.int .u64 (un y : Int)) rfl rfl ?c1 (by omega) ?c2 ?_; rotate_right; intro v' w3 hown3 hgrow3)
        case c1 => simp
        case c2 => simp; omega
        rw [← HRN.out] at hown3
        have hb3 : Below w1.heap.size w1 w3 := (HBB.out.alloc hsz2 _).grown hgrow3 (by simp; omega) (fun k hk => (HFB.out k hk).1)
        clear hgrow3
        go_roundw
        case rel => exact ⟨k + 1, rfl, HKN.out, HCN, hown3, hb3⟩
        case measure => simp [intOf]; omega
    · have e0 := un_ne0 (show DD r b k &&& a ≠ 0#64 by rw [BitVec.and_comm]; exact hz)
      have e1 := un_ne1 (show DD r b k &&& a ≠ 0#64 by rw [BitVec.and_comm]; exact hz)
      have HZ := Lib.hid hz
      have HOW := Lib.hid hO
      have HBB := Lib.hid (below_next hb1 hbr)
      clear hz hO hbr hb1 hR1 hB1 hBr hTr hown hfb
      go_wp2
      go_ret2
      exact .inl ⟨k, some ad, co, rfl, ⟨HZ.out, HK.out⟩, hk64, HOW.out, HBB.out⟩
end Go.Proofs.YteefncohknclcaaGreatDoor
namespace Go.Proofs.YteefncohknclcaaGreatDoor
open Go.RowKit
set_option maxHeartbeats 2000000 in
theorem rings_no (p : Option Addr) (n c : Nat) (r : List B) (a b : B) (h : chks r [a, b] ≠ 0) (w : World) (hR : RowsAt w p n r) (hT : Tab w) :
    Calls Tryz.prog 93 #[.slice p n c, .int .u64 (un a), .int .u64 (un b)] w fun e w' => e = .returned (.tuple #[.slice none 0 0, .int .i64 (chks r [a, b])]) ∧ Below w.heap.size w w' := by
  have hl := hR.len
  subst hl
  by_cases h1 : chkR r = 0
  · obtain ⟨h2, h3⟩ := (chk_or h1).2 h
    have H1 := Lib.hid h1
    have H3 := Lib.hid h3
    have e0 := un_ne0 h2
    have e1 := un_ne1 h2
    have h64 := (chkR_zero.1 h1).1
    clear h h1 h2 h3
    go_enter Tryz.func93, Tryz.ntmps93
    go_wp2_with fail
    refine (Back_yes p _ c r H1.out w hR hT).mono ?_
    rintro e w1 ⟨g, cg, rfl, _, hb1⟩
    clear hR
    go_wp2_with (go_at_call 60; refine (Below_ok _ h64 _).mono ?_; rintro e w' ⟨rfl, rfl⟩)
    go_ret2
    exact ⟨by rw [H3.out]; rfl, hb1⟩
  · have H1 := Lib.hid h1
    obtain ⟨h2, h3⟩ := int_ne h1
    have HC : Hid (chks r [a, b] = chkR r) := by show chks r _ = _; unfold chks; rw [if_pos h1]
    clear h h1
    go_enter Tryz.func93, Tryz.ntmps93
    go_wp2_with fail
    refine (Back_no p _ c r H1.out w hR).mono ?_
    rintro e w1 ⟨rfl, rfl⟩
    clear hR
    go_wp2
    go_ret2
    exact ⟨by rw [HC.out]; rfl, Below.refl _ _⟩
def FarPost (r : List B) (a b : B) (w : World) (e : Ending) (w' : World) : Prop :=
  (∃ d : Nat, e = .returned (.tuple #[.int .i64 (d : Int), .int .i64 0]) ∧ Dist r a b d ∧ d ≤ 64 ∧ Below w.heap.size w w') ∨
  (e = .returned (.tuple #[.int .i64 0, .int .i64 5]) ∧ (∀ j, a &&& DD r b j = 0#64) ∧ Below w.heap.size w w')
theorem next_low {x : B} (h : x ≠ 0#64) : nextV x 0 = .tuple #[.int .i64 (low x : Int), .bool true] := by
  have e : frm x 0 = x := eq_of_iff fun k => by rw [has_frm]; simp
  unfold nextV
  rw [e, if_neg h]
def SomePost (r : List B) (a b : B) (w : World) (e : Ending) (w' : World) : Prop :=
  (∃ (d : Nat) (g : Option Addr) (c : Nat), e = .returned (.tuple #[.slice g (d + 1) c, .int .i64 0]) ∧ Dist r a b d ∧ d ≤ 64 ∧ w'.ownsRow w.heap.size 3 1 (.slice g (d + 1) c) (d + 1) (ints (wayL r b (d + 1) a)) ∧ Below w.heap.size w w') ∨
  (e = .returned (.tuple #[.slice none 0 0, .int .i64 5]) ∧ (∀ j, a &&& DD r b j = 0#64) ∧ Below w.heap.size w w')
set_option maxRecDepth 100000 in
set_option maxHeartbeats 2000000 in
theorem Some_yes (p : Option Addr) (n c : Nat) (r : List B) (a b : B) (h : chks r [a, b] = 0) (w : World) (hR : RowsAt w p n r) (hT : Tab w) :
    Calls Tryz.prog 65 #[.slice p n c, .int .u64 (un a), .int .u64 (un b)] w (SomePost r a b w) := by
  have H := Lib.hid h
  have hl := hR.len
  subst hl
  go_enter Tryz.func65, Tryz.ntmps65
  go_wp2_with fail
  refine (rings_yes p _ c r a b h w hR hT).mono ?_
  rintro e w1 (⟨d, g, cg, rfl, hd, hd64, hG, hb⟩ | ⟨rfl, hf, hb⟩)
  · have HD := Lib.hid hd
    have hR1 := hR.below hb
    have hT1 := hT.below hb
    clear hd h hR hT
    go_wp2_with fail
    have HCK := Lib.hid H.out
    go_loopw [1, 10, 11] (fun av v iv wr => ∃ (m : Nat) (a' : B) (o : List Nat), m ≤ d + 1 ∧ iv = .int .i64 ((m : Int) - 1) ∧ av = .int .u64 (un a') ∧ o.length + m = d + 1 ∧ Hid (o ++ wayL r b m a' = wayL r b (d + 1) a) ∧ Hid (0 < m → Dist r a' b (m - 1)) ∧ wr.ownsRow w1.heap.size 3 1 v o.length (ints o) ∧ Below w1.heap.size w1 wr) (fun _ _ iv _ => (intOf iv + 1).toNat)
    case atStart => exact ⟨d + 1, a, [], Nat.le_refl _, by go_num, rfl, by simp, show _ = _ from rfl, fun _ => HD.out, World.ownsRow_nil _ _ _ _, Below.refl _ _⟩
    case round =>
      obtain ⟨m, a', o, hm, rfl, rfl, hol, HW, HDM, hown, hbr⟩ := hrel
      obtain ⟨wo, rfl⟩ : ∃ wo : World, wo = wr := ⟨_, rfl⟩
      obtain ⟨go, co, rfl, hfb⟩ := own_form hown
      cases m with
      | zero =>
        have hoe : o = wayL r b (d + 1) a := by rw [← HW.out]; simp [wayL]
        have HO : Hid (ints o = ints (wayL r b (d + 1) a)) := by show ints o = _; rw [hoe]
        clear hoe hR1
        have HLE : Hid (o.length = d + 1) := by show o.length = d + 1; omega
        clear hol
        have HBB := Lib.hid (below_next hb hbr)
        have HOW := Lib.hid (World.ownsRow.mono hown hb.size)
        clear hown hbr hb hG hfb
        go_wp2
        go_ret2
        have hown := HOW.out
        rw [HO.out, HLE.out] at hown
        refine .inl ⟨d, go, co, ?_, HD.out, hd64, hown, HBB.out⟩
        rw [← HLE.out]; rfl
      | succ q =>
        rw [show (((q + 1 : Nat) : Int) - 1) = (q : Int) by omega]
        have hD := HDM.out (by omega)
        rw [show q + 1 - 1 = q by omega] at hD
        obtain ⟨h1, h2, h3, _⟩ := wayN_spec hD
        have hnr : wayN r b q a' < r.length := DD_in H.out h2
        have hnb : wayN r b q a' < 64 := has_lt h2
        obtain ⟨adr, rfl, hadb, hcr⟩ := hR1.cell hnr
        have hGr := hG.below hbr
        obtain ⟨ad, rfl, _, hc⟩ := hGr.cell (k := q) (by omega)
        rw [rngs_row (by omega)] at hc
        have HNV : Hid (nextV (a' &&& DD r b q) 0 = .tuple #[.int .i64 (wayN r b q a' : Int), .bool true]) := next_low hD.at_
        have HIS : Hid (ints (o ++ [wayN r b q a']) = ints o ++ [.int .i64 (wayN r b q a' : Int)]) := ints_snoc o _
        have HWN : Hid ((o ++ [wayN r b q a']) ++ wayL r b q (row r (wayN r b q a')) = wayL r b (d + 1) a) := by
          show _ = _
          rw [← HW.out, List.append_assoc]; rfl
        have HDN : Hid (0 < q → Dist r (row r (wayN r b q a')) b (q - 1)) := by
          show _ → _
          intro hq
          obtain ⟨q', rfl⟩ : ∃ q', q = q' + 1 := ⟨q - 1, by omega⟩
          rw [show q' + 1 - 1 = q' by omega]
          exact dist_row (chks_two H.out).1 h2 h3
        have hT1o := hT1.below hbr
        have hszr := hbr.size
        have HBR := Lib.hid hbr
        have HOW := Lib.hid hown
        have HFB := Lib.hid hfb
        clear hD h1 h2 h3 hGr hown hbr hfb HW HDM
        generalize row r (wayN r b q a') = y at *
        generalize wayN r b q a' = n at *
        generalize DD r b q = x at *
        go_wp2_with (first | (go_at_call 94; refine (Next_ok _ _ _ (by assumption)).mono ?_; rw [show (0 : Int).toNat = 0 from rfl, HNV.out]; rintro e w' ⟨rfl, rfl⟩) | (at_builtin; refine app_int _ rfl _ _ rfl w1.heap.size _ o.length _ rfl (HOW.out.alloc _) wo.heap.size (.int .i64 (n : Int)) rfl rfl ?c1 (by omega) ?c2 ?_; rotate_right; intro v' w2 hown2 hgrow2; rw [← HIS.out] at hown2; have hb2 : Below w1.heap.size w1 w2 := (HBR.out.alloc hszr _).grown hgrow2 (by simp; omega) (fun k hk => (HFB.out k hk).1); have hc2 : w2.cell? (adr.add n) = some (.int .u64 (un y : Int)) := by { rw [hb2.cell (by rw [block_of_add]; exact hadb)]; exact hcr }; clear hgrow2))
        case c1 => simp
        case c2 => simp; omega
        go_roundw
        case rel => exact ⟨q, y, o ++ [n], by omega, by go_num, rfl, by simp; omega, HWN.out, HDN.out, by simpa using hown2, hb2⟩
        case measure => first | (simp [intOf]; done) | (simp [intOf]; omega)
  · have HF := Lib.hid hf
    clear hf hR hT h
    go_wp2
    go_ret2
    exact .inr ⟨rfl, HF.out, hb⟩
set_option maxHeartbeats 2000000 in
theorem Some_no (p : Option Addr) (n c : Nat) (r : List B) (a b : B) (h : chks r [a, b] ≠ 0) (w : World) (hR : RowsAt w p n r) (hT : Tab w) :
    Calls Tryz.prog 65 #[.slice p n c, .int .u64 (un a), .int .u64 (un b)] w fun e w' => e = .returned (.tuple #[.slice none 0 0, .int .i64 (chks r [a, b])]) ∧ Below w.heap.size w w' := by
  obtain ⟨h1, h2⟩ := int_ne h
  have H := Lib.hid h
  clear h
  go_enter Tryz.func65, Tryz.ntmps65
  go_wp2_with fail
  refine (rings_no p n c r a b H.out w hR hT).mono ?_
  rintro e w1 ⟨rfl, hb⟩
  clear hR hT
  go_wp2
  go_ret2
  exact ⟨rfl, hb⟩
end Go.Proofs.YteefncohknclcaaGreatDoor
namespace Go.Proofs.YteefncohknclcaaGreatDoor
open Go.RowKit Go.Shelf
/-- the world in which a call has laid its solver's place and its ask -/
theorem argSV (w : World) (pv v0 v1 v2 v3 : Value) : ∃ W, W = (w.alloc (.cells #[pv] 70)).alloc (.cells #[v0, v1, v2, v3] 29) ∧ Below w.heap.size w W ∧ W.heap.size = w.heap.size + 2 ∧
    ∀ u : World, Below W.heap.size W u → u.cell? ⟨w.heap.size, 0, none⟩ = some pv ∧ u.cell? ⟨w.heap.size + 1, 0, none⟩ = some v0 ∧ u.cell? ⟨w.heap.size + 1, 1, none⟩ = some v1 ∧ u.cell? ⟨w.heap.size + 1, 2, none⟩ = some v2 ∧ u.cell? ⟨w.heap.size + 1, 3, none⟩ = some v3 := by
  obtain ⟨A, hA⟩ : ∃ A, A = w.alloc (.cells #[pv] 70) := ⟨_, rfl⟩
  have hSA : A.heap.size = w.heap.size + 1 := by rw [hA]; simp
  have hBA : Below w.heap.size w A := by rw [hA]; exact (Below.refl _ _).alloc (Nat.le_refl _) _
  obtain ⟨W, hW, hBW, hSW, hCW⟩ := arg1 A v0 v1 v2 v3
  refine ⟨W, by rw [hW, hA], hBA.trans (hBW.mono hBA.size), by omega, fun u hu => ⟨?_, ?_⟩⟩
  · have hu2 := hBW.trans (hu.mono hBW.size)
    rw [hu2.cell (p := ⟨w.heap.size, 0, none⟩) (by show w.heap.size < _; omega), hA]
    rw [World.cell?_alloc_at _ _ _ _ rfl]; rfl
  · rw [← hSA]
    exact hCW u hu
theorem someS_in {g : GD} (hG : Good g) {a b : B} (ha : InR g a) (hb : InR g b) {d : Nat} (hd : Dist (rws g) a b d) : ∀ x ∈ wayL (rws g) b (d + 1) a, x < 64 := by
  intro x hx
  obtain ⟨j, hj, e⟩ := List.getElem_of_mem hx
  have hl := wayL_len (rws g) b (d + 1) a
  have h1 := wayL_lt (two_inR hG ha hb) hd (j := j) (by omega)
  rw [List.getD_eq_getElem?_getD, List.getElem?_eq_getElem hj, rws_len] at h1
  have h1 : (wayL (rws g) b (d + 1) a)[j] < g.names.length := h1
  have := hG.names
  omega
def SolvePost (g : GD) (x : QA) (en : List (Txt × B)) (w : World) (e : Ending) (w' : World) : Prop := e = .returned (.int .u64 (un (qval g x en) : Int)) ∧ Below w.heap.size w w'
set_option maxHeartbeats 8000000 in
set_option maxRecDepth 100000 in
theorem solve0_ok (g : GD) (hG : Good g) (b : Nat) (p : Option Addr) (c : Nat) (ev : Value) (pr : Option Addr) (cr : Nat) (pb : Option Addr) (cb : Nat) (k : Int) (s : ByteArray) (n : Int) (pt : Option Addr) (ct : Nat) 
    (w : World) (sc : Value) (en : List (Txt × B)) (hS : SolAt w g b p c ev pr cr pb cb) (hQ : QIn w (.mk k s n pt ct [])) (hT : Tab w) (hE : EnAt w sc en) (hR : EnvR g en) (hchk : qchk qpat (qabs (.mk k s n pt ct [])) = 0) (hnm : Nmd g (qabs (.mk k s n pt ct []))) :
    Calls Tryz.prog 37 #[.pointer (some ⟨b, 0, none⟩), (QT.mk k s n pt ct []).v, sc] w (SolvePost g (qabs (.mk k s n pt ct [])) en w) := by
  obtain ⟨hnd, hkc⟩ := qchk_zero.1 (show qchk qpat (.mk k s.data.toList n (qabss [])) = 0 from hchk)
  obtain ⟨W, hW, hBW, hSz, hC⟩ := argSV w (.pointer (some ⟨b, 0, none⟩)) (.int .i64 k) (.string s) (.int .i64 n) (.slice pt 0 ct)
  have HC := Lib.hid hC
  have HBW := Lib.hid hBW
  have HG := Lib.hid hG
  have h64 := hG.names
  have HS : Hid (∀ u : World, Below W.heap.size W u → SolAt u g b p c ev pr cr pb cb ∧ Tab u ∧ EnAt u sc en) := by
    show ∀ u : World, _
    exact fun u hu => ⟨hS.below (hBW.trans (hu.mono hBW.size)), hT.below (hBW.trans (hu.mono hBW.size)), hE.kept (hBW.trans (hu.mono hBW.size))⟩
  have HRE := Lib.hid hR
  have HSN : Hid (s.size ≤ 1048576) := hQ.small.1
  have HNM : Hid (k = 1 → ghas g s.data.toList) := (show Nmd g (.mk k s.data.toList n (qabss [])) from hnm).name
  have HHB : Hid (W.heap.size = w.heap.size + 2) := hSz
  have hks : k = 1 ∨ k = 2 ∨ k = 3 := by
    have h0 : (qabss ([] : List QT)).length = 0 := rfl
    rcases node_cases hnd with h | h | h | h | h | h | h | h | h | h <;> omega
  have HV0 : Hid (qval g (qabs (.mk k s n pt ct [])) en = qop2 g k s.data.toList n en 0#64 0#64) := val0 g k s.data.toList n en
  clear hS hQ hT hE hR hchk hnm hnd hkc hBW hSz hC hG
  obtain ⟨v0, k0, k1, k2, k3⟩ := HC.out W (Below.refl _ _)
  show Calls Tryz.prog 37 #[.pointer (some ⟨b, 0, none⟩), .agg #[.int .i64 k, .string s, .int .i64 n, .slice pt 0 ct], sc] w _
  go_enter Tryz.func37, Tryz.ntmps37
  go_upto_region 1 with fail
  rw [← hW]
  clear hW
  rcases hks with rfl | rfl | rfl
  · have HV : Hid (qval g (qabs (.mk 1 s n pt ct [])) en = 1#64 <<< gidx g s.data.toList) := HV0
    have HH := Lib.hid (HNM.out rfl)
    have hgl : gidx g s.data.toList < 64 := by have := (gidx_at HH.out).1; omega
    have hmin : min (gidx g s.data.toList) 64 = gidx g s.data.toList := by omega
    have HF : Hid (∀ u : World, Below W.heap.size W u → Calls Tryz.prog 59 #[.slice p g.names.length c, .string s] u fun e w' => e = .returned (.tuple #[.int .i64 (gidx g s.data.toList : Int), .bool true]) ∧ Below u.heap.size u w') := by
      show ∀ u : World, _
      intro u hu
      refine (findG_ok (HS.out u hu).1.nl HG.out.rise s).mono ?_
      rintro e w' ⟨hF, hb⟩
      exact ⟨hF.elim (fun h => h.2) (fun h => absurd HH.out h.1), hb⟩
    have HSS : Hid (∀ u : World, Below W.heap.size W u → u.cell? ⟨w.heap.size, 0, none⟩ = some (.pointer (some ⟨b, 0, none⟩)) ∧ u.cell? ⟨b, 0, none⟩ = some (.slice p g.names.length c) ∧ u.cell? ⟨w.heap.size + 1, 1, none⟩ = some (.string s)) := by
      show ∀ u : World, _
      exact fun u hu => ⟨(HC.out u hu).1, (HS.out u hu).1.c0, (HC.out u hu).2.2.1⟩
    go_upto_region 10 with fail
    go_region_held3 (fun u : World => u.cell? ⟨w.heap.size, 0, none⟩ = some (.pointer (some ⟨b, 0, none⟩)) ∧ u.cell? ⟨b, 0, none⟩ = some (.slice p g.names.length c) ∧ u.cell? ⟨w.heap.size + 1, 1, none⟩ = some (.string s))
      (first | exact HSS.out _ HB3.out | exact HSS.out _ ((Below.refl _ _).drew))
      ((go_at_call 59; refine (HF.out _ ((Below.refl _ _).drew)).mono ?_; rintro e w3 ⟨rfl, hb⟩; have HB3 := Lib.hid (((Below.refl W.heap.size W).drew).trans (hb.mono (Nat.le_refl _))); clear hb))
    all_goals
      have HFB := Lib.hid (HBW.out.trans (HB3.out.mono HBW.out.size))
      clear v0 k0 k1 k2 k3
      go_wp2_with fail
      go_ret
      exact ⟨by rw [HV.out]; rfl, HFB.out⟩
  · have HV : Hid (qval g (qabs (.mk 2 s n pt ct [])) en = belowB g.names.length) := HV0
    have HFB := Lib.hid HBW.out
    have c4 := (HS.out W (Below.refl _ _)).1.c4
    go_wp2_with (go_at_call 60; refine (Below_ok g.names.length h64 W).mono ?_; rintro e w' ⟨rfl, hw⟩; rw [← hw]; clear hw)
    go_ret
    exact ⟨by rw [HV.out]; rfl, HFB.out⟩
  · have HV : Hid (qval g (qabs (.mk 3 s n pt ct [])) en = qfind en s.data.toList) := HV0
    have HFB := Lib.hid HBW.out
    have HFI := Lib.hid (scFind_ok sc en s W (HS.out W (Below.refl _ _)).2.2)
    go_wp2_with (go_at_call 61; refine HFI.out.mono ?_; rintro e w' ⟨rfl, hw⟩; rw [← hw]; clear hw)
    go_ret
    exact ⟨by rw [HV.out]; rfl, HFB.out⟩
set_option maxHeartbeats 8000000 in
set_option maxRecDepth 100000 in
theorem solve1_ok (g : GD) (hG : Good g) (b : Nat) (p : Option Addr) (c : Nat) (ev : Value) (pr : Option Addr) (cr : Nat) (pb : Option Addr) (cb : Nat) (k : Int) (s : ByteArray) (n : Int) (pt : Option Addr) (ct : Nat) (h15 : k ≠ 15) (x : QT) (hx : ∀ (w : World) (sc : Value) (en : List (Txt × B)), SolAt w g b p c ev pr cr pb cb → QIn w x → Tab w → EnAt w sc en → EnvR g en → Calls Tryz.prog 37 #[.pointer (some ⟨b, 0, none⟩), x.v, sc] w (SolvePost g (qabs x) en w))
    (w : World) (sc : Value) (en : List (Txt × B)) (hS : SolAt w g b p c ev pr cr pb cb) (hQ : QIn w (.mk k s n pt ct [x])) (hT : Tab w) (hE : EnAt w sc en) (hR : EnvR g en) (hchk : qchk qpat (qabs (.mk k s n pt ct [x])) = 0) (hnm : Nmd g (qabs (.mk k s n pt ct [x]))) :
    Calls Tryz.prog 37 #[.pointer (some ⟨b, 0, none⟩), (QT.mk k s n pt ct [x]).v, sc] w (SolvePost g (qabs (.mk k s n pt ct [x])) en w) := by
  obtain ⟨hnd, hkc⟩ := qchk_zero.1 (show qchk qpat (.mk k s.data.toList n (qabss [x])) = 0 from hchk)
  obtain ⟨W, hW, hBW, hSz, hC⟩ := argSV w (.pointer (some ⟨b, 0, none⟩)) (.int .i64 k) (.string s) (.int .i64 n) (.slice pt 1 ct)
  have HC := Lib.hid hC
  have HBW := Lib.hid hBW
  have HG := Lib.hid hG
  have h64 := hG.names
  have HS : Hid (∀ u : World, Below W.heap.size W u → SolAt u g b p c ev pr cr pb cb ∧ Tab u ∧ EnAt u sc en) := by
    show ∀ u : World, _
    exact fun u hu => ⟨hS.below (hBW.trans (hu.mono hBW.size)), hT.below (hBW.trans (hu.mono hBW.size)), hE.kept (hBW.trans (hu.mono hBW.size))⟩
  have HRE := Lib.hid hR
  have HSN : Hid (s.size ≤ 1048576) := hQ.small.1
  have HNM : Hid (k = 1 → ghas g s.data.toList) := (show Nmd g (.mk k s.data.toList n (qabss [x])) from hnm).name
  have HHB : Hid (W.heap.size = w.heap.size + 2) := hSz
  obtain ⟨⟨b1, o, rfl, hb1, hf1⟩, hqx⟩ := hQ.kids.at (j := 0) (x := x) rfl
  have HKX : Hid (∀ u : World, Below W.heap.size W u → Four u b1 o x ∧ QIn u x) := by
    show ∀ u : World, _
    exact fun u hu => ⟨(show Four w b1 o x from hf1).below (hBW.trans (hu.mono hBW.size)) hb1, hqx.below (hBW.trans (hu.mono hBW.size))⟩
  have hcx : qchk qpat (qabs x) = 0 := hkc _ (by show qabs x ∈ [qabs x]; simp)
  have hnx : Nmd g (qabs x) := hnm.kids _ (by show qabs x ∈ [qabs x]; simp)
  have iA : InR g (qval g (qabs x) en) := val_in hG _ hnx en hR
  have HCX : Hid (∀ u : World, Below W.heap.size W u → Calls Tryz.prog 37 #[.pointer (some ⟨b, 0, none⟩), x.v, sc] u (SolvePost g (qabs x) en u)) := by
    show ∀ u : World, _
    exact fun u hu => hx u sc en (HS.out u hu).1 (HKX.out u hu).2 (HS.out u hu).2.1 (HS.out u hu).2.2 hR
  unfold SolvePost at HCX
  obtain ⟨A, hA⟩ : ∃ A, qval g (qabs x) en = A := ⟨_, rfl⟩
  have HIA : Hid (InR g A) := by show InR g A; rw [← hA]; exact iA
  have hks : k = 8 ∨ k = 9 ∨ ((k = 10 ∨ k = 11) ∧ 0 ≤ n ∧ n ≤ 100) ∨ k = 14 := by
    have h0 : (qabss [x]).length = 1 := rfl
    rcases node_cases hnd with h | h | h | h | h | h | h | h | h | h <;> omega
  have HV0 : Hid (qval g (qabs (.mk k s n (some ⟨b1, o, none⟩) ct [x])) en = qop2 g k s.data.toList n en A 0#64) := by show _ = _; rw [← hA]; exact val1 g k s.data.toList n (qabs x) en
  rw [hA] at HCX
  clear hS hQ hT hE hR hchk hnm hnd hkc hBW hSz hC hG hx hb1 hf1 hqx hcx hnx iA hA
  obtain ⟨v0, k0, k1, k2, k3⟩ := HC.out W (Below.refl _ _)
  show Calls Tryz.prog 37 #[.pointer (some ⟨b, 0, none⟩), .agg #[.int .i64 k, .string s, .int .i64 n, .slice (some ⟨b1, o, none⟩) 1 ct], sc] w _
  go_enter Tryz.func37, Tryz.ntmps37
  go_upto_region 1 with fail
  rw [← hW]
  clear hW
  have HSS : Hid (∀ u : World, Below W.heap.size W u → u.cell? ⟨w.heap.size, 0, none⟩ = some (.pointer (some ⟨b, 0, none⟩)) ∧ u.cell? ⟨w.heap.size + 1, 3, none⟩ = some (.slice (some ⟨b1, o, none⟩) 1 ct) ∧ u.cell? ⟨b1, o, none⟩ = some (.int .i64 x.kind) ∧ u.cell? ⟨b1, o + 1, none⟩ = some (.string x.name) ∧ u.cell? ⟨b1, o + 2, none⟩ = some (.int .i64 x.num) ∧ u.cell? ⟨b1, o + 3, none⟩ = some (.slice x.p x.xs.length x.cap)) := by
    show ∀ u : World, _
    intro u hu
    obtain ⟨q0, q1, q2, q3⟩ := (HKX.out u hu).1
    exact ⟨(HC.out u hu).1, (HC.out u hu).2.2.2.2, q0, q1, q2, q3⟩
  go_upto_region 3 with fail
  go_region_held3 (fun u : World => u.cell? ⟨w.heap.size, 0, none⟩ = some (.pointer (some ⟨b, 0, none⟩)) ∧ u.cell? ⟨w.heap.size + 1, 3, none⟩ = some (.slice (some ⟨b1, o, none⟩) 1 ct) ∧ u.cell? ⟨b1, o, none⟩ = some (.int .i64 x.kind) ∧ u.cell? ⟨b1, o + 1, none⟩ = some (.string x.name) ∧ u.cell? ⟨b1, o + 2, none⟩ = some (.int .i64 x.num) ∧ u.cell? ⟨b1, o + 3, none⟩ = some (.slice x.p x.xs.length x.cap))
    (first | exact HSS.out _ HB3.out | exact HSS.out _ ((Below.refl _ _).drew))
    ((go_at_call 37; refine (HCX.out _ ((Below.refl _ _).drew)).mono ?_; rintro e w3 ⟨rfl, hb⟩; have HB3 := Lib.hid (((Below.refl W.heap.size W).drew).trans (hb.mono (Nat.le_refl _))); clear hb))
  clear v0 k0 k1 k2 k3 HSS HCX
  obtain ⟨v0, k0, k1, k2, k3⟩ := HC.out w3 HB3.out
  have hsa := (HS.out w3 HB3.out).1
  have c2 := hsa.c2
  have c3 := hsa.c3
  have c4 := hsa.c4
  have c5 := hsa.c5
  have HRW := Lib.hid hsa.rows
  have HBK := Lib.hid hsa.back
  have HTB := Lib.hid (HS.out w3 HB3.out).2.1
  clear hsa
  rcases hks with rfl | rfl | ⟨hk, hn0, hn1⟩ | rfl
  · have HV : Hid (qval g (qabs (.mk 8 s n (some ⟨b1, o, none⟩) ct [x])) en = cls (rws g) A) := HV0
    go_wp2_with (go_at_call 62; refine (From_yes pr _ cr (rws g) A (rws_inR HG.out HIA.out) w3 HRW.out HTB.out).mono ?_; rintro e w4 ⟨rfl, hb⟩; have HFB := Lib.hid (HBW.out.trans ((HB3.out.trans (hb.mono HB3.out.size)).mono HBW.out.size)); clear hb)
    go_ret
    exact ⟨by rw [HV.out]; rfl, HFB.out⟩
  · have HV : Hid (qval g (qabs (.mk 9 s n (some ⟨b1, o, none⟩) ct [x])) en = cls (bk (rws g)) A) := HV0
    go_wp2_with (go_at_call 62; refine (From_yes pb _ cb (bk (rws g)) A (bk_inR HG.out HIA.out) w3 HBK.out HTB.out).mono ?_; rintro e w4 ⟨rfl, hb⟩; have HFB := Lib.hid (HBW.out.trans ((HB3.out.trans (hb.mono HB3.out.size)).mono HBW.out.size)); clear hb)
    go_ret
    exact ⟨by rw [HV.out]; rfl, HFB.out⟩
  · rcases hk with rfl | rfl
    · have HV : Hid (qval g (qabs (.mk 10 s n (some ⟨b1, o, none⟩) ct [x])) en = ball (rws g) n.toNat A) := HV0
      have HSS : Hid (∀ u : World, Below w3.heap.size w3 u → u.cell? ⟨w.heap.size, 0, none⟩ = some (.pointer (some ⟨b, 0, none⟩)) ∧ u.cell? ⟨b, 4, none⟩ = some (.slice pr g.names.length cr) ∧ u.cell? ⟨w.heap.size + 1, 2, none⟩ = some (.int .i64 n)) := by
        show ∀ u : World, _
        intro u hu
        have hu2 := HB3.out.trans (hu.mono HB3.out.size)
        exact ⟨(HC.out u hu2).1, (HS.out u hu2).1.c4, (HC.out u hu2).2.2.2.1⟩
      have HWI : Hid (∀ u : World, Below w3.heap.size w3 u → Calls Tryz.prog 63 #[.slice pr g.names.length cr, .int .u64 (un A), .int .i64 n] u fun e w' => e = .returned (.tuple #[.int .u64 (un (ball (rws g) n.toNat A)), .int .i64 0]) ∧ Below u.heap.size u w') := by
        show ∀ u : World, _
        intro u hu
        have hu2 := HB3.out.trans (hu.mono HB3.out.size)
        exact Within_yes pr _ cr (rws g) A (rws_inR HG.out HIA.out) n (by omega) u (HRW.out.below hu) (HS.out u hu2).2.1
      clear hn0 hn1
      go_upto_region 29 with fail
      go_region_held3 (fun u : World => u.cell? ⟨w.heap.size, 0, none⟩ = some (.pointer (some ⟨b, 0, none⟩)) ∧ u.cell? ⟨b, 4, none⟩ = some (.slice pr g.names.length cr) ∧ u.cell? ⟨w.heap.size + 1, 2, none⟩ = some (.int .i64 n))
        (first | exact HSS.out _ HB4.out | exact HSS.out _ ((Below.refl _ _).drew))
        ((go_at_call 63; refine (HWI.out _ ((Below.refl _ _).drew)).mono ?_; rintro e w4 ⟨rfl, hb⟩; have HB4 := Lib.hid (((Below.refl w3.heap.size w3).drew).trans (hb.mono (Nat.le_refl _))); clear hb))
      all_goals
        have HFB := Lib.hid (HBW.out.trans ((HB3.out.trans (HB4.out.mono HB3.out.size)).mono HBW.out.size))
        clear v0 k0 k1 k2 k3 c2 c3 c4 c5
        go_wp2_with fail
        go_ret
        exact ⟨by rw [HV.out]; rfl, HFB.out⟩
    · have HV : Hid (qval g (qabs (.mk 11 s n (some ⟨b1, o, none⟩) ct [x])) en = ball (bk (rws g)) n.toNat A) := HV0
      have HSS : Hid (∀ u : World, Below w3.heap.size w3 u → u.cell? ⟨w.heap.size, 0, none⟩ = some (.pointer (some ⟨b, 0, none⟩)) ∧ u.cell? ⟨b, 5, none⟩ = some (.slice pb g.names.length cb) ∧ u.cell? ⟨w.heap.size + 1, 2, none⟩ = some (.int .i64 n)) := by
        show ∀ u : World, _
        intro u hu
        have hu2 := HB3.out.trans (hu.mono HB3.out.size)
        exact ⟨(HC.out u hu2).1, (HS.out u hu2).1.c5, (HC.out u hu2).2.2.2.1⟩
      have HWI : Hid (∀ u : World, Below w3.heap.size w3 u → Calls Tryz.prog 63 #[.slice pb g.names.length cb, .int .u64 (un A), .int .i64 n] u fun e w' => e = .returned (.tuple #[.int .u64 (un (ball (bk (rws g)) n.toNat A)), .int .i64 0]) ∧ Below u.heap.size u w') := by
        show ∀ u : World, _
        intro u hu
        have hu2 := HB3.out.trans (hu.mono HB3.out.size)
        exact Within_yes pb _ cb (bk (rws g)) A (bk_inR HG.out HIA.out) n (by omega) u (HBK.out.below hu) (HS.out u hu2).2.1
      clear hn0 hn1
      go_upto_region 31 with fail
      go_region_held3 (fun u : World => u.cell? ⟨w.heap.size, 0, none⟩ = some (.pointer (some ⟨b, 0, none⟩)) ∧ u.cell? ⟨b, 5, none⟩ = some (.slice pb g.names.length cb) ∧ u.cell? ⟨w.heap.size + 1, 2, none⟩ = some (.int .i64 n))
        (first | exact HSS.out _ HB4.out | exact HSS.out _ ((Below.refl _ _).drew))
        ((go_at_call 63; refine (HWI.out _ ((Below.refl _ _).drew)).mono ?_; rintro e w4 ⟨rfl, hb⟩; have HB4 := Lib.hid (((Below.refl w3.heap.size w3).drew).trans (hb.mono (Nat.le_refl _))); clear hb))
      all_goals
        have HFB := Lib.hid (HBW.out.trans ((HB3.out.trans (HB4.out.mono HB3.out.size)).mono HBW.out.size))
        clear v0 k0 k1 k2 k3 c2 c3 c4 c5
        go_wp2_with fail
        go_ret
        exact ⟨by rw [HV.out]; rfl, HFB.out⟩
  · have HV : Hid (qval g (qabs (.mk 14 s n (some ⟨b1, o, none⟩) ct [x])) en = thoseS (fun m => mB s.data.toList (gnm g m)) A) := HV0
    have HTH := Lib.hid (those_ok (fun m => mB s.data.toList (gnm g m)) (w.heap.size + 1) w.heap.size A w3 HTB.out (fun j hj u hu => by
      have hu2 := HB3.out.trans (hu.mono HB3.out.size)
      exact sol1_ok g HG.out _ _ b p c ev pr cr pb cb j (HIA.out j hj) s HSN.out u (HC.out u hu2).2.2.1 (HC.out u hu2).1 (HS.out u hu2).1))
    generalize thoseS (fun m => mB s.data.toList (gnm g m)) A = R at HV HTH
    go_wp2_with (go_at_call 67; refine HTH.out.mono ?_; rintro e w4 ⟨rfl, hb⟩; have HFB := Lib.hid (HBW.out.trans ((HB3.out.trans (hb.mono HB3.out.size)).mono HBW.out.size)); clear hb)
    go_ret
    exact ⟨by rw [HV.out]; rfl, HFB.out⟩
end Go.Proofs.YteefncohknclcaaGreatDoor
