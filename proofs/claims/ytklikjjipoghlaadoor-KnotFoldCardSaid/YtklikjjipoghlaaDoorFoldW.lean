/- The walks of knot.Parts and knot.Fold. Conditions: the table reads as listed. -/
import Derived.Test.YtklikjjipoghlaaDoorPartsW
import Derived.Test.YtklikjjipoghlaaDoorApartW
namespace Go.Proofs.YtklikjjipoghlaaDoor
open Go.RowKit
set_option maxHeartbeats 1000000 in
theorem Parts_yes (p : Option Addr) (n c : Nat) (r : List B) (h : chkR r = 0) (w : World) (hR : RowsAt w p n r) (hT : Tab w) :
    Calls Tryd.prog 39 #[.slice p n c] w fun e w' => ∃ (P : List B) (po : Option Addr) (co : Nat), e = .returned (.tuple #[.slice po P.length co, .int .i64 0]) ∧ PartsIn r P ∧ w'.ownsRow w.heap.size 28 1 (.slice po P.length co) P.length (u64s P) ∧ Below w.heap.size w w' := by
  have H := Lib.hid h
  have hl := hR.len
  subst hl
  clear h
  go_enter Tryd.func39, Tryd.ntmps39
  go_wp2_with (first | (go_at_call 50; refine (Check_ok _ _ _ r _ hR).mono ?_; rw [H.out]; rintro e w' ⟨rfl, rfl⟩) | (go_at_call 65; refine (parts_ok r (chkR_zero.1 H.out) p c w hR hT).mono ?_; rintro e w1 ⟨P, po, co, rfl, hP, hown, hb⟩; have HP := Lib.hid hP; have HO := Lib.hid hown; have HB := Lib.hid hb; clear hP hown hb))
  go_ret2
  exact ⟨P, po, co, rfl, HP.out, HO.out, HB.out⟩
set_option maxHeartbeats 1000000 in
theorem Parts_no (p : Option Addr) (n c : Nat) (r : List B) (h : chkR r ≠ 0) (w : World) (hR : RowsAt w p n r) :
    Calls Tryd.prog 39 #[.slice p n c] w fun e w' => e = .returned (.tuple #[.slice none 0 0, .int .i64 (chkR r)]) ∧ w = w' := by
  obtain ⟨h1, h2⟩ := int_ne h
  clear h
  go_enter Tryd.func39, Tryd.ntmps39
  go_wp2_with (go_at_call 50; refine (Check_ok _ _ _ r _ hR).mono ?_; rintro e w' ⟨rfl, rfl⟩)
  go_ret2
  exact ⟨rfl, rfl⟩
set_option maxHeartbeats 1000000 in
theorem Fold_no (p : Option Addr) (n c : Nat) (r : List B) (h : chkR r ≠ 0) (w : World) (hR : RowsAt w p n r) :
    Calls Tryd.prog 43 #[.slice p n c] w fun e w' => e = .returned (.tuple #[.slice none 0 0, .int .i64 (chkR r)]) ∧ w = w' := by
  obtain ⟨h1, h2⟩ := int_ne h
  clear h
  go_enter Tryd.func43, Tryd.ntmps43
  go_wp2_with (go_at_call 50; refine (Check_ok _ _ _ r _ hR).mono ?_; rintro e w' ⟨rfl, rfl⟩)
  go_ret2
  exact ⟨rfl, rfl⟩
/-- what the first m of a set need -/
def need (r : List B) (s : B) (m : Nat) : B := ((lst s).take m).foldl (fun a n => a ||| row r n) 0#64
theorem need_succ (r : List B) (s : B) {m : Nat} (h : m < (lst s).length) : need r s (m + 1) = need r s m ||| row r ((lst s).getD m 0) := by
  unfold need
  rw [List.take_succ_eq_append_getElem h, List.foldl_append, List.foldl_cons, List.foldl_nil, getD_at h]
theorem need_all (r : List B) (s : B) : need r s (lst s).length = stp r s := by unfold need stp; rw [List.take_length]
theorem fold_snoc (r P : List B) {i : Nat} (h : i < P.length) : u64s ((fold r P).take (i + 1)) = u64s ((fold r P).take i) ++ [.int .u64 (un (frow r P i P.length) : Int)] := by
  rw [List.take_succ_eq_append_getElem (by rw [fold_len]; exact h), u64s_snoc]
  congr 3
  have := row_fold (r := r) h
  rw [row_at (by rw [fold_len]; exact h)] at this
  rw [this]
/-- what Fold answers of right rows -/
def FoldPost (r : List B) (w : World) (e : Ending) (w' : World) : Prop :=
  ∃ (P : List B) (g : Option Addr) (cg : Nat), e = .returned (.tuple #[.slice g P.length cg, .int .i64 0]) ∧ PartsIn r P ∧ w'.ownsRow w.heap.size 28 1 (.slice g P.length cg) P.length (u64s (fold r P)) ∧ Below w.heap.size w w'
set_option maxHeartbeats 8000000 in
set_option maxRecDepth 100000 in
theorem Fold_yes (p : Option Addr) (n c : Nat) (r : List B) (h : chkR r = 0) (w : World) (hR : RowsAt w p n r) (hT : Tab w) :
    Calls Tryd.prog 43 #[.slice p n c] w (FoldPost r w) := by
  have H := Lib.hid h
  have HV := Lib.hid (chkR_zero.1 h)
  have h64 := (chkR_zero.1 h).1
  have hl := hR.len
  subst hl
  clear h
  go_enter Tryd.func43, Tryd.ntmps43
  go_wp2_with (first | (go_at_call 50; refine (Check_ok _ _ _ r _ hR).mono ?_; rw [H.out]; rintro e w' ⟨rfl, rfl⟩) | (go_at_call 65; refine (parts_ok r (chkR_zero.1 H.out) p c w hR hT).mono ?_; rintro e w1 ⟨P, po, co, rfl, hP, hown, hb⟩; have HP := Lib.hid hP; have HO := Lib.hid hown; have HB := Lib.hid hb; clear hP hown hb))
  have hpl : P.length ≤ 64 := by have := parts_len HP.out.1; omega
  have HR1 := Lib.hid (hR.below HB.out)
  have HT1 := Lib.hid (hT.below HB.out)
  have HP1 : Hid (RowsAt w1 po P.length P) := by show RowsAt _ _ _ _; exact rows_own HO.out rfl (by unfold maxLen; omega)
  clear hR hT
  go_loopg [24, 6] P.length (fun g v t wi => ∃ i : Nat, g + i = P.length ∧ v = .int .i64 i ∧ Hid (wi.ownsRow w1.heap.size 28 1 t i (u64s ((fold r P).take i))) ∧ Hid (Below w1.heap.size w1 wi))
  case atStart => exact ⟨0, by omega, rfl, World.ownsRow_nil _ _ _ _, Below.refl _ _⟩
  case round =>
    obtain ⟨i, hgi, rfl, HOW, HBi⟩ := hrel
    obtain ⟨w2, hw2⟩ : ∃ w2 : World, w2 = wr := ⟨_, rfl⟩
    subst hw2
    obtain ⟨g6, c6, rfl, hfb⟩ := own_form HOW.out
    have HFB := Lib.hid hfb
    clear hfb
    by_cases hlt : i < P.length
    · have HSN := Lib.hid (fold_snoc r P hlt)
      have HFZ := Lib.hid (frow_zero r P i)
      have HFS := Lib.hid (frow_succ r P i)
      have HIN : Hid (∀ k, has (row P i) k = true → k < r.length) := by show ∀ k, _; exact fun k hk => parts_lt HP.out.1 hlt hk
      obtain ⟨ad, hpo, _, hcs⟩ := (HP1.out.below HBi.out).cell hlt
      subst hpo
      obtain ⟨F, hF⟩ : ∃ F, F = frow r P i := ⟨_, rfl⟩
      rw [← hF] at HSN HFZ HFS
      clear hF
      obtain ⟨s, hs⟩ : ∃ s, s = row P i := ⟨_, rfl⟩
      rw [← hs] at hcs HIN HFS
      clear hs
      have hTr := HT1.out.below HBi.out
      go_wp2_with (go_at_call 16; refine (List_ok s _ hTr).mono ?_; rintro e w3 ⟨gl, cl, rfl, hownl, hb3⟩)
      have HL := Lib.hid (Reads.of_own hownl)
      have HB3 := Lib.hid hb3
      have HB13 : Hid (Below w1.heap.size w1 w3) := by show Below _ _ _; exact below_next HBi.out hb3
      have HCL := Lib.hid (cnt_lst s)
      have hcs64 := cnt_le s
      clear hownl hb3 hTr hcs
      go_loopg [32, 9] (cnt s) (fun g v a wi => ∃ m : Nat, g + m = cnt s ∧ v = .int .i64 m ∧ a = .int .u64 (un (need r s m) : Int) ∧ wi = w3)
      case atStart => exact ⟨0, by omega, rfl, rfl, rfl⟩
      case round =>
        obtain ⟨m, hgm, rfl, rfl, hw⟩ := hrel
        subst hw
        by_cases hml : m < cnt s
        · have hml' : m < (lst s).length := by rw [← HCL.out]; exact hml
          obtain ⟨al, rfl, _, hcl⟩ := HL.out.int_at hml
          have hk := HIN.out _ (mem_lst.1 (getD_mem hml'))
          have HNS := Lib.hid (need_succ r s hml')
          clear hml'
          generalize (lst s).getD m 0 = k at *
          obtain ⟨adr, rfl, _, hcr⟩ := (HR1.out.below HB13.out).cell hk
          generalize row r k = x at *
          generalize need r s m = N at *
          go_wp2
          go_roundg (cnt s - (m + 1))
          case measure => omega
          case rel => exact ⟨m + 1, by omega, by go_num, by rw [HNS.out], rfl⟩
        · obtain rfl : m = cnt s := by omega
          have hna : need r s (cnt s) = stp r s := by rw [HCL.out, need_all]
          rw [hna]
          clear hna
          obtain ⟨w3, hw3⟩ : ∃ w3 : World, w3 = wr := ⟨_, rfl⟩
          subst hw3
          generalize stp r s = S at *
          go_wp2
          go_loopg [45, 10] P.length (fun g v a wi => ∃ k : Nat, g + k = P.length ∧ v = .int .i64 k ∧ a = .int .u64 (un (F k) : Int) ∧ wi = w3)
          case atStart => exact ⟨0, by omega, rfl, by rw [HFZ.out]; rfl, rfl⟩
          case round =>
            obtain ⟨k, hgk, rfl, rfl, hw⟩ := hrel
            subst hw
            by_cases hkl : k < P.length
            · obtain ⟨ad2, had2, _, hck⟩ := (HP1.out.below HB13.out).cell hkl
              injection had2 with had2
              subst had2
              have HFK := Lib.hid (HFS.out k)
              have hk64 : k < 64 := by omega
              generalize row P k = t at *
              generalize F k = K at *
              by_cases hki : k = i
              · have e1 : ((k : Int) != (i : Int)) = false := by rw [hki]; simp
                have e2 : (k != i) = false := by rw [hki]; simp
                have HNX : Hid (F (k + 1) = K) := by show _ = _; rw [HFK.out, if_neg (fun h => h.1 hki)]
                clear hki
                go_wp2
                go_roundg (P.length - (k + 1))
                case measure => omega
                case rel => exact ⟨k + 1, by omega, by go_num, by rw [HNX.out], rfl⟩
              · have e1 : ((k : Int) != (i : Int)) = true := by simp; omega
                have e2 : (k != i) = true := by simpa using hki
                by_cases hz : S &&& t = 0#64
                · have z0 : (un (S &&& t) : Int) = 0 := un_zero_int hz
                  have HNX : Hid (F (k + 1) = K) := by show _ = _; rw [HFK.out, if_neg (fun h => h.2 hz)]
                  clear hki hz
                  go_wp2
                  go_roundg (P.length - (k + 1))
                  case measure => omega
                  case rel => exact ⟨k + 1, by omega, by go_num, by rw [HNX.out], rfl⟩
                · have z0 := un_ne0 hz
                  have z1 := un_ne1 hz
                  have HNX : Hid (F (k + 1) = K ||| 1#64 <<< k) := by show _ = _; rw [HFK.out, if_pos ⟨hki, hz⟩]
                  clear hki hz
                  go_wp2
                  go_roundg (P.length - (k + 1))
                  case measure => omega
                  case rel => exact ⟨k + 1, by omega, by go_num, by rw [HNX.out], rfl⟩
            · obtain rfl : k = P.length := by omega
              have HOW3 := Lib.hid (own_below HOW.out HB3.out)
              have hszr := HB13.out.size
              obtain ⟨_, _, _, hfb3⟩ := own_form HOW3.out
              have HFB3 := Lib.hid hfb3
              clear hfb3
              go_wp2_with (at_builtin; refine app_u64 _ rfl _ _ rfl w1.heap.size _ i _ rfl (HOW3.out.alloc _) wr.heap.size (.int .u64 (un (F P.length) : Int)) rfl rfl ?q1 (by omega) ?q2 ?_; rotate_right; intro v' w5 hown5 hgrow5; rw [← HSN.out] at hown5; have HO5 := Lib.hid hown5; have HB5 := Lib.hid ((HB13.out.alloc hszr (.cells #[.int .u64 (un (F P.length) : Int)] 28)).grown hgrow5 (by simp; omega) (fun k hk => (HFB3.out k hk).1)); clear hown5 hgrow5)
              case q1 => simp
              case q2 => simp; omega
              go_roundg (P.length - (i + 1))
              case measure => omega
              case rel => exact ⟨i + 1, by omega, by go_num, HO5, HB5⟩
    · obtain rfl : i = P.length := by omega
      have HF : Hid (FoldPost r w (.returned (.tuple #[.slice g6 P.length c6, .int .i64 0])) w2) := by
        show FoldPost _ _ _ _
        have h1 := HOW.out
        rw [List.take_of_length_le (by rw [fold_len]; exact Nat.le_refl _)] at h1
        exact ⟨P, g6, c6, rfl, HP.out, World.ownsRow.mono h1 HB.out.size, below_next HB.out HBi.out⟩
      go_wp2
      go_ret2
      exact HF.out
end Go.Proofs.YtklikjjipoghlaaDoor
