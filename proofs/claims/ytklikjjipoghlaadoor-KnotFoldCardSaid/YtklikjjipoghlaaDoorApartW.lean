/- The walk of chain.Apart. Conditions: the rows read as listed. -/
import Derived.Test.YtklikjjipoghlaaDoorPairPW
namespace Go.Proofs.YtklikjjipoghlaaDoor
open Go.RowKit
theorem valid_clr {r : List B} (hv : Valid r) : Valid (clr r) := by
  refine ⟨by rw [clr_len]; exact hv.1, fun i k hk => ?_⟩
  have hi := row_lt hk
  rw [clr_len] at hi
  rw [row_clr hi] at hk
  rw [clr_len]
  exact ball_in hv (fun j hj => hv.2 i j hj) 64 k hk
theorem PAt.below {w w' : World} {B0 bp bn ba n c : Nat} {pr : Option Addr} {nx ah : List Int} {s : B} (h : PAt w B0 bp bn ba pr n c nx ah s) (hb : Below w.heap.size w w') : PAt w' B0 bp bn ba pr n c nx ah s :=
  ⟨(hb.block _ h.lt).trans h.box, own_below h.on_ hb, own_below h.oa hb, h.gp, h.gn, h.ga, h.pn, h.pa, h.na⟩
theorem frees_succ (nx : List Int) (j : Nat) : frees nx (j + 1) = if vl nx j = -1 then frees nx j ||| 1#64 <<< j else frees nx j := by
  unfold frees
  rw [List.range_succ, List.filter_append]
  by_cases h : vl nx j = -1
  · rw [if_pos h, ← ofL_snoc]; simp [h]
  · rw [if_neg h]; simp [h]
/-- between two rounds of the search: what is found in this round, and whether more was -/
def Seek (T L : B) (T' L' : B) (ag : Bool) (xs : List Nat) (R : List B) : Prop :=
  sub T T' ∧ sub L L' ∧ (ag = false → T' = T ∧ L' = L ∧ ∀ i ∈ xs, sub (row R i) L) ∧ (ag = true → cnt L < cnt L')
/-- within a round -/
def Seek2 (T L : B) (ag : Bool) (T' L' : B) (ag' : Bool) (m : Nat) : Prop :=
  sub T T' ∧ sub L L' ∧ (m = 0 → T' = T ∧ L' = L ∧ ag' = ag) ∧ (0 < m → ag' = true ∧ cnt L < cnt L')
theorem seek_next {T L T1 L1 T2 L2 x : B} {ag ag2 : Bool} {xs : List Nat} {R : List B} {i m : Nat} (h : Seek T L T1 L1 ag xs R) (hx : x = row R i) (hm : m = (lst (x &&& ~~~L1)).length) (h2 : Seek2 T1 L1 ag T2 L2 ag2 m) : Seek T L T2 L2 ag2 (xs ++ [i]) R := by
  obtain ⟨a1, a2, a3, a4⟩ := h
  obtain ⟨b1, b2, b3, b4⟩ := h2
  refine ⟨sub_trans a1 b1, sub_trans a2 b2, fun hag => ?_, fun hag => ?_⟩
  · rcases Nat.eq_zero_or_pos m with h0 | h0
    · obtain ⟨e1, e2, e3⟩ := b3 h0
      subst e1 e2 e3
      obtain ⟨c1, c2, c3⟩ := a3 hag
      refine ⟨c1, c2, fun q hq => ?_⟩
      rcases List.mem_append.1 hq with h5 | h5
      · exact c3 q h5
      · have : q = i := by simpa using h5
        subst this
        intro k hk
        have hnil : lst (x &&& ~~~L2) = [] := List.length_eq_zero_iff.1 (by omega)
        cases hL : has L k with
        | true => rfl
        | false =>
          have : k ∈ lst (x &&& ~~~L2) := by
            rw [mem_lst, has_and, hx, hk, has_not _ _ (has_lt hk), c2, hL]; rfl
          rw [hnil] at this; cases this
    · have := (b4 h0).1
      rw [hag] at this; cases this
  · have hle := cnt_le_sub a2
    rcases Nat.eq_zero_or_pos m with h0 | h0
    · obtain ⟨e1, e2, e3⟩ := b3 h0
      subst e1 e2 e3
      exact a4 hag
    · have := (b4 h0).2; omega
theorem seek2_next {T L T' L' : B} {ag ag' : Bool} {m j k : Nat} (hj : j < 64) (hk : k < 64) (h : Seek2 T L ag T' L' ag' m) (hL : m = 0 → has L k = false) : Seek2 T L ag (T' ||| 1#64 <<< j) (L' ||| 1#64 <<< k) true (m + 1) := by
  obtain ⟨a1, a2, a3, a4⟩ := h
  have s1 : sub T' (T' ||| 1#64 <<< j) := fun q hq => (has_bit_or hj).2 (.inl hq)
  have s2 : sub L' (L' ||| 1#64 <<< k) := fun q hq => (has_bit_or hk).2 (.inl hq)
  refine ⟨sub_trans a1 s1, sub_trans a2 s2, fun h => by omega, fun _ => ⟨rfl, ?_⟩⟩
  rcases Nat.eq_zero_or_pos m with h0 | h0
  · obtain ⟨_, e2, _⟩ := a3 h0
    rw [e2]
    exact cnt_bit_or hk (hL h0)
  · have := (a4 h0).2
    have := cnt_le_sub s2
    omega
/-- what Apart answers of right rows that have an order -/
def ApartPost (r : List B) (w : World) (e : Ending) (w' : World) : Prop :=
  ((∃ (nx ah : List Int) (T L : B) (o : List Nat), e = .returned (.tuple #[.int .u64 (un (T &&& ~~~L) : Int), .int .i64 0]) ∧ KOrd r o 0#64 ∧ Paired (clr r) nx ah ∧ ApEnd (clr r) nx ah T L) ∨
    (∃ (o : List Nat) (left : B), e = .returned (.tuple #[.int .u64 0, .int .i64 8]) ∧ left ≠ 0#64 ∧ KOrd r o left ∧ Stuck r left)) ∧ Below w.heap.size w w'
set_option maxHeartbeats 8000000 in
set_option maxRecDepth 100000 in
theorem Apart_yes (p : Option Addr) (n c : Nat) (r : List B) (h : chkR r = 0) (w : World) (hR : RowsAt w p n r) (hT : Tab w) :
    Calls Tryd.prog 22 #[.slice p n c] w (ApartPost r w) := by
  have H := Lib.hid h
  have HV := Lib.hid (chkR_zero.1 h)
  have h64 := (chkR_zero.1 h).1
  have hl := hR.len
  subst hl
  clear h
  go_enter Tryd.func22, Tryd.ntmps22
  go_wp2_with fail
  refine (chainBelow_yes p _ c r H.out w hR hT).mono ?_
  rintro e w1 (⟨o, p1, g, c1, cg, rfl, hO, hR1, _, hb1⟩ | ⟨o, left, rfl, hne, hO, hS, hb1⟩)
  · have HO := Lib.hid hO
    have HT1 := Lib.hid (hT.below hb1)
    have HR1 := Lib.hid hR1
    have HB1 := Lib.hid hb1
    have HVC := Lib.hid (valid_clr HV.out)
    have HPC : Hid (Calls Tryd.prog 52 #[.slice p1 r.length c1] w1 (PairPost (clr r) p1 c1 w1)) := by
      show Calls _ _ _ _ _
      have hl := clr_len r
      have := pair_ok (clr r) HVC.out p1 c1 w1 (by rw [hl]; exact hR1) HT1.out
      rwa [hl] at this
    have HRL : Hid ((clr r).length = r.length) := clr_len r
    obtain ⟨R, hRR⟩ : ∃ R, R = clr r := ⟨_, rfl⟩
    rw [← hRR] at HR1 HVC HPC HRL
    have HRR := Lib.hid hRR
    clear hR1 hb1 hO hR hT hRR
    go_wp2_with (go_at_call 52; refine HPC.out.mono ?_; rintro e w2 ⟨bp, bn, ba, nx, ah, s0, rfl, hPA, hPD, hB2⟩; have HPA := Lib.hid hPA; have HPD := Lib.hid hPD; have HB2 := Lib.hid hB2; have HPO : Hid (PAt w2 w1.heap.size bp bn ba p1 R.length c1 nx ah s0) := hPA; rw [HRL.out] at HPA; clear hPA hPD hB2)
    have HR2 := Lib.hid (HR1.out.below HB2.out)
    have HT2 := Lib.hid (HT1.out.below HB2.out)
    have HF2 : Hid (∀ u : World, Below w2.heap.size w2 u → Below w.heap.size w u) := by
      show ∀ u : World, _
      intro u hu
      exact below_next HB1.out (below_next HB2.out hu)
    go_loopg [29, 8] r.length (fun g v t wi => ∃ j : Nat, g + j = r.length ∧ v = .int .i64 j ∧ t = .int .u64 (un (frees nx j) : Int) ∧ wi = w2)
    case atStart => exact ⟨0, by omega, rfl, rfl, rfl⟩
    case round =>
      obtain ⟨j, hgj, rfl, rfl, rfl⟩ := hrel
      obtain ⟨k0, k1, k2, k3, _⟩ := b4 HPA.out.box
      by_cases hlt : j < r.length
      · have hcn := own_iv_at HPA.out.on_ hlt
        have HFS := Lib.hid (frees_succ nx j)
        have hg1 := HPD.out.1.gn j
        have hj64 : j < 64 := by omega
        generalize vl nx j = z at *
        generalize frees nx j = T at *
        rcases int_cases hg1 with rfl | ⟨q, rfl⟩
        · go_wp2
          go_roundg (r.length - (j + 1))
          case measure => omega
          case rel => exact ⟨j + 1, by omega, by go_num, by rw [HFS.out]; simp, rfl⟩
        · go_wp2
          go_roundg (r.length - (j + 1))
          case measure => omega
          case rel => exact ⟨j + 1, by omega, by go_num, by rw [HFS.out, if_neg (by omega)], rfl⟩
      · obtain rfl : j = r.length := by omega
        have HA0 : Hid (ApI R nx ah (frees nx r.length) 0#64) := by
          show ApI _ _ _ _ _
          have := api_start HPD.out (by rw [HRL.out]; exact h64)
          rwa [HRL.out] at this
        generalize frees nx r.length = T0 at *
        obtain ⟨w2, hw2⟩ : ∃ w2 : World, w2 = wr := ⟨_, rfl⟩
        subst hw2
        clear k0 k1 k2 k3
        go_wp2
        go_loopg [8, 9, 11] (2 * (64 - cnt 0#64) + 1) (fun g t l a wi => ∃ (T L : B) (ag : Bool), t = .int .u64 (un T : Int) ∧ l = .int .u64 (un L : Int) ∧ a = .bool ag ∧ g = 2 * (64 - cnt L) + ag.toNat ∧ Hid (ApI R nx ah T L) ∧ Hid (ag = false → ∀ i, has T i = true → sub (row R i) L) ∧ Hid (Below w2.heap.size w2 wi))
        case atStart => exact ⟨T0, 0#64, true, rfl, rfl, rfl, rfl, HA0, fun h => (by cases h), Below.refl _ _⟩
        case round =>
          obtain ⟨T, L, ag, rfl, rfl, rfl, hgk, HA, HN, HB⟩ := hrel
          cases ag
          · have HF : Hid (ApartPost r w (.returned (.tuple #[.int .u64 (un (T &&& ~~~L) : Int), .int .i64 0])) wr) := by
              show ApartPost _ _ _ _
              have h1 := HPD.out
              have h2 := HA.out
              rw [HRR.out] at h1 h2
              refine ⟨.inl ⟨nx, ah, T, L, o, rfl, HO.out, h1, h2, ?_⟩, HF2.out _ HB.out⟩
              have := HN.out rfl
              rwa [HRR.out] at this
            go_wp2
            go_ret2
            exact HF.out
          · have hTr := HT2.out.below HB.out
            go_wp2_with (go_at_call 16; refine (List_ok T _ hTr).mono ?_; rintro e w3 ⟨gl, cl, rfl, hownl, hb3⟩)
            have HL3 := Lib.hid hownl
            have HB3 : Hid (Below w2.heap.size w2 w3) := by show Below _ _ _; exact below_next HB.out hb3
            have HLT := Lib.hid (cnt_lst T)
            have hcT := cnt_le T
            clear hownl hb3 hTr
            go_loopg [8, 9, 11, 49] (cnt T) (fun g t l a v wi => ∃ (j : Nat) (T' L' : B) (ag : Bool), t = .int .u64 (un T' : Int) ∧ l = .int .u64 (un L' : Int) ∧ a = .bool ag ∧ v = .int .i64 j ∧ g + j = cnt T ∧ Hid (ApI R nx ah T' L') ∧ Hid (Seek T L T' L' ag ((lst T).take j) R) ∧ Hid (Below w3.heap.size w3 wi))
            case atStart => exact ⟨0, T, L, false, rfl, rfl, rfl, rfl, by omega, HA, ⟨fun _ h => h, fun _ h => h, fun _ => ⟨rfl, rfl, fun i hi => by cases hi⟩, fun h => by cases h⟩, Below.refl _ _⟩
            case round =>
              obtain ⟨j, T', L', ag, rfl, rfl, rfl, rfl, hgj, HA', HK, HBi⟩ := hrel
              by_cases hlt : j < cnt T
              · have hjl : j < (lst T).length := by rw [← HLT.out]; exact hlt
                obtain ⟨al, rfl, _, hcl⟩ := (Reads.of_own (own_below HL3.out HBi.out)).int_at hlt
                have HTI : Hid (has T' ((lst T).getD j 0) = true) := by show _ = _; exact HK.out.1 _ (mem_lst.1 (getD_mem hjl))
                have HTK : Hid ((lst T).take (j + 1) = (lst T).take j ++ [(lst T).getD j 0]) := by show _ = _; rw [List.take_succ_eq_append_getElem hjl, getD_at hjl]
                have hir : (lst T).getD j 0 < r.length := by rw [← HRL.out]; exact (HA'.out.from_ _ HTI.out).1
                generalize (lst T).getD j 0 = i at *
                have HBW : Hid (Below w2.heap.size w2 wr) := by show Below _ _ _; exact below_next HB3.out HBi.out
                obtain ⟨adr, rfl, _, hcr⟩ := (HR2.out.below HBW.out).cell hir
                obtain ⟨x, hx⟩ : ∃ x, x = row R i := ⟨_, rfl⟩
                rw [← hx] at hcr
                have HX := Lib.hid hx
                have hTr := HT2.out.below HBW.out
                clear hx hjl
                go_wp2_with (go_at_call 16; refine (List_ok (x &&& ~~~L') _ hTr).mono ?_; rintro e w4 ⟨gl2, cl2, rfl, hownl, hb4⟩)
                have HL4 := Lib.hid hownl
                have HB4 : Hid (Below w3.heap.size w3 w4) := by show Below _ _ _; exact below_next HBi.out hb4
                have HLX := Lib.hid (cnt_lst (x &&& ~~~L'))
                have hcX := cnt_le (x &&& ~~~L')
                clear hownl hb4 hTr hcr hcl
                go_loopg [8, 9, 11, 61] (cnt (x &&& ~~~L')) (fun g t l a v wi => ∃ (m : Nat) (T2 L2 : B) (ag2 : Bool), t = .int .u64 (un T2 : Int) ∧ l = .int .u64 (un L2 : Int) ∧ a = .bool ag2 ∧ v = .int .i64 m ∧ g + m = cnt (x &&& ~~~L') ∧ Hid (ApI R nx ah T2 L2) ∧ Hid (Seek2 T' L' ag T2 L2 ag2 m) ∧ Hid (Below w4.heap.size w4 wi))
                case atStart => exact ⟨0, T', L', ag, rfl, rfl, rfl, rfl, by omega, HA', ⟨fun _ h => h, fun _ h => h, fun _ => ⟨rfl, rfl, rfl⟩, fun h => by omega⟩, Below.refl _ _⟩
                case round =>
                  obtain ⟨m, T2, L2, ag2, rfl, rfl, rfl, rfl, hgm, HA2, HK2, HBm⟩ := hrel
                  by_cases hml : m < cnt (x &&& ~~~L')
                  · have hml' : m < (lst (x &&& ~~~L')).length := by rw [← HLX.out]; exact hml
                    obtain ⟨al2, rfl, _, hcl2⟩ := (Reads.of_own (own_below HL4.out HBm.out)).int_at hml
                    have hkm := mem_lst.1 (getD_mem hml')
                    generalize (lst (x &&& ~~~L')).getD m 0 = k at *
                    rw [has_and, Bool.and_eq_true] at hkm
                    have hk64 := has_lt hkm.1
                    have hkx : has (row R i) k = true := by rw [← HX.out]; exact hkm.1
                    have hkL : has L' k = false := by
                      have := hkm.2
                      rw [has_not _ _ hk64] at this
                      simpa using this
                    obtain ⟨q, hq, hqn, hA3⟩ := api_step HPD.out.1 HVC.out.1 HA2.out (HK2.out.1 _ HTI.out) hkx
                    have hq64 : q < 64 := by have := HVC.out.1; omega
                    have HA3 := Lib.hid hA3
                    have HK3 := Lib.hid (seek2_next hq64 hk64 HK2.out (fun _ => hkL))
                    have hkr : k < r.length := by rw [← HRL.out]; exact HVC.out.2 _ _ hkx
                    have HBW2 : Hid (Below w2.heap.size w2 wr) := by show Below _ _ _; exact below_next HB3.out (below_next HB4.out HBm.out)
                    obtain ⟨k0, k1, k2, k3, _⟩ := b4 (HPA.out.below HBW2.out).box
                    have hca := own_iv_at (HPA.out.below HBW2.out).oa hkr
                    rw [hq] at hca
                    clear hq hA3 hkx hkL hkm hml'
                    go_wp2
                    go_roundg (cnt (x &&& ~~~L') - (m + 1))
                    case measure => omega
                    case rel => exact ⟨m + 1, _, _, true, rfl, rfl, rfl, by go_num, by omega, HA3, HK3, HBm⟩
                  · obtain rfl : m = cnt (x &&& ~~~L') := by omega
                    have HK3 : Hid (Seek T L T2 L2 ag2 ((lst T).take (j + 1)) R) := by
                      show Seek _ _ _ _ _ _ _
                      rw [HTK.out]
                      exact seek_next HK.out HX.out HLX.out HK2.out
                    have HB5 : Hid (Below w3.heap.size w3 wr) := by show Below _ _ _; exact below_next HB4.out HBm.out
                    go_wp2
                    go_roundg (cnt T - (j + 1))
                    case measure => omega
                    case rel => exact ⟨j + 1, T2, L2, ag2, rfl, rfl, rfl, by go_num, by omega, HA2, HK3, HB5⟩
              · obtain rfl : j = cnt T := by omega
                have HB5 : Hid (Below w2.heap.size w2 wr) := by show Below _ _ _; exact below_next HB3.out HBi.out
                have hm : 2 * (64 - cnt L') + ag.toNat < 2 * (64 - cnt L) + true.toNat := by
                  cases ag
                  · obtain ⟨_, e2, _⟩ := HK.out.2.2.1 rfl
                    rw [e2]; simp
                  · have h1 := HK.out.2.2.2 rfl
                    have h2 := cnt_le L'
                    simp only [Bool.toNat_true]; omega
                have HN2 : Hid (ag = false → ∀ i, has T' i = true → sub (row R i) L') := by
                  show _ → _
                  intro h
                  obtain ⟨e1, e2, e3⟩ := HK.out.2.2.1 h
                  intro i hi
                  rw [e1] at hi
                  rw [e2]
                  refine e3 i ?_
                  rw [HLT.out, List.take_length]; exact mem_lst.2 hi
                go_wp2
                go_roundg (2 * (64 - cnt L') + ag.toNat)
                case measure => omega
                case rel => exact ⟨T', L', ag, rfl, rfl, rfl, rfl, HA', HN2, HB5⟩
  · have HO := Lib.hid hO
    have HS := Lib.hid hS
    have HN := Lib.hid hne
    clear hR hT hO hS hne
    go_wp2
    go_ret2
    exact ⟨.inr ⟨o, left, rfl, HN.out, HO.out, HS.out⟩, hb1⟩
end Go.Proofs.YtklikjjipoghlaaDoor
