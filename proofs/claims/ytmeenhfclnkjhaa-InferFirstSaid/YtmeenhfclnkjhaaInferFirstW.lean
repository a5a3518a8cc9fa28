/- The law InferFirst. Conditions: the slices read as listed. -/
import Derived.Test.YtmeenhfclnkjhaaInferOfW
namespace Go.Proofs.Ytmeenhfclnkjhaa
open Go.RowKit Go.Shelf Go.ChangeShapes
theorem ofE_sub {l l' : List Inf} {zs : List ByteArray} {s : ByteArray} (h : ofE l zs s = 0) (h' : infE l' = 0) : ofE l' zs s = 0 := by
  unfold ofE at h ⊢
  rw [if_neg (by simp [h'])]
  split at h
  · rename_i g; exact absurd h g
  · exact h
theorem ofE_infE {l : List Inf} {zs : List ByteArray} {s : ByteArray} (h : ofE l zs s = 0) : infE l = 0 := by
  unfold ofE at h
  split at h
  · rename_i g; exact absurd h g
  · rename_i g; simpa using g
def co : List Inf := [((⟨#[46, 99]⟩ : ByteArray), (⟨#[46, 111]⟩ : ByteArray))]
theorem co_E : ofE co [(⟨#[97, 46, 99]⟩ : ByteArray)] ⟨#[97, 46, 111]⟩ = 0 := by decide +kernel
theorem co_of : infOf co [(⟨#[97, 46, 99]⟩ : ByteArray)] (stA ⟨#[97, 46, 111]⟩) (stB ⟨#[97, 46, 111]⟩) = some ⟨#[97, 46, 99]⟩ := by decide +kernel
theorem NL_one (w : World) (x : ByteArray) (hx : x.size ≤ 4611686018427387904) : NL (w.alloc (.cells #[.string x] 9)) (some ⟨w.heap.size, 0, none⟩) 1 1 [x] := by
  refine ⟨⟨rfl, ⟨rfl, fun _ => ⟨⟨w.heap.size, 0, none⟩, rfl, by simp, fun j u hu => ?_⟩⟩, fun s hs => ?_, by omega⟩, fun h => (by cases h), fun ad h => ?_, by omega⟩
  · match j, hu with
    | 0, hu =>
      simp [strsV] at hu
      subst hu
      rw [Addr.add_lit, World.cell?_alloc_at _ _ _ _ rfl]; rfl
  · have : s = x := by simpa using hs
    subst this; exact hx
  · injection h with h
    subst h
    exact ⟨_, _, rfl, by simp⟩
set_option maxHeartbeats 1000000 in
theorem infers_below (w : World) : Calls Try.prog 13 #[] w fun e w' => e = .returned (.bool true) ∧ Below w.heap.size w w' := by
  have hA : InfsIn (w.alloc (.cells #[.string ⟨#[46, 99]⟩, .string ⟨#[46, 111]⟩] 52)) (some ⟨w.heap.size, 0, none⟩) 1 1 co := by
    refine ⟨⟨rfl, fun _ => ⟨w.heap.size, 0, rfl, by simp, fun k x hx => ?_⟩, by omega⟩, fun x hx => ?_, Nat.le_refl _⟩
    · match k, hx with
      | 0, hx =>
        simp [co] at hx
        subst hx
        simp [iF, iG]
    · simp [co] at hx
      subst hx
      exact ⟨by decide, by decide⟩
  have hb1 := below1 w (.cells #[.string ⟨#[46, 99]⟩, .string ⟨#[46, 111]⟩] 52)
  have hs1 : (w.alloc (.cells #[.string ⟨#[46, 99]⟩, .string ⟨#[46, 111]⟩] 52)).heap.size = w.heap.size + 1 := by simp
  have hN := NL_one (w.alloc (.cells #[.string ⟨#[46, 99]⟩, .string ⟨#[46, 111]⟩] 52)) ⟨#[97, 46, 99]⟩ (by decide)
  rw [hs1] at hN
  have hO := Of_ok _ _ _ _ _ _ co [(⟨#[97, 46, 99]⟩ : ByteArray)] ⟨#[97, 46, 111]⟩ _ (hA.below (below1 _ (.cells #[.string ⟨#[97, 46, 99]⟩] 9))) hN (by decide)
  have HO := Lib.hid hO
  have HB := Lib.hid (hb1.alloc (by rw [hs1]; omega) (.cells #[.string ⟨#[97, 46, 99]⟩] 9))
  clear hA hb1 hs1 hN hO
  have HE := Lib.hid co_E
  have HF := Lib.hid co_of
  go_enter Try.func13, Try.ntmps13
  go_wp2_with fail
  refine HO.out.mono ?_
  rintro e w1 ⟨hc, hb⟩
  rw [HE.out, HF.out] at hc
  rcases hc with ⟨hc, _⟩ | ⟨_, rfl⟩
  · exact absurd rfl hc
  · have HB1 := Lib.hid (HB.out.trans (hb.mono HB.out.size))
    clear hb HO HE HF
    go_wp2
    go_ret
    exact ⟨rfl, HB1.out⟩
theorem infs_zero (w : World) (p : Option Addr) (c : Nat) : InfsIn w p 0 c [] := ⟨⟨rfl, fun h => absurd h (by omega), by omega⟩, fun x hx => (by cases hx), Nat.zero_le _⟩
set_option maxHeartbeats 8000000 in
theorem inferFirst_walk (v : Value) (q : Option Addr) (m d : Nat) (s : ByteArray) (k : Int) (w : World) (hx : ∃ g, InfsAt w v g) (hz : NLArg w q m d) (hs : s.size ≤ 140737488351232) (hk1 : -9223372036854775808 ≤ k) (hk2 : k ≤ 9223372036854775807) :
    Calls Try.prog 6 #[v, .slice q m d, .string s, .int .i64 k] w fun e w' => e = .returned (.bool true) ∧ Below w.heap.size w w' := by
  obtain ⟨_, p, n, c, l, rfl, hI, hnil⟩ := hx
  obtain ⟨zs, hZ⟩ := hz
  have hl := hI.at_.len
  have hbig := hI.at_.big
  have hcap := hI.cap
  subst hl
  have HI := Lib.hid hI
  have HZ := Lib.hid hZ
  clear hI hZ
  go_enter Try.func6, Try.ntmps6
  go_wp2_with fail
  refine (infers_below _).mono ?_
  rintro e w1 ⟨rfl, hb⟩
  have HB1 := Lib.hid hb
  clear hb
  go_wp2_with fail
  refine (Of_ok p q l.length c m d l zs s _ (HI.out.below HB1.out) (HZ.out.below HB1.out) (by omega)).mono ?_
  rintro e w2 ⟨hc, hb⟩
  have HB2 := Lib.hid (HB1.out.trans (hb.mono HB1.out.size))
  clear hb
  have hbe : ((⟨#[]⟩ : ByteArray).toList == ([] : List UInt8)) = true := by rw [Lib.toList_data]; rfl
  rcases hc with ⟨hE, rfl⟩ | ⟨hE, rfl⟩
  · obtain ⟨i1, i2⟩ := int_ne' hE
    generalize ofE l zs s = E at *
    clear hE
    go_wp2
    go_ret
    exact ⟨by simp, HB2.out⟩
  · have HE := Lib.hid hE
    clear hE
    obtain ⟨r, hr⟩ : ∃ r, r = infOf l zs (stA s) (stB s) := ⟨_, rfl⟩
    rw [← hr]
    have HR := Lib.hid hr
    clear hr
    by_cases k0 : k < 0
    · have e0 : decide (k < 0) = true := decide_eq_true k0
      go_wp2
      go_ret
      exact ⟨by simp, HB2.out⟩
    · by_cases k1 : (l.length : Int) < k
      · have e0 : decide (k < 0) = false := decide_eq_false k0
        have e1 : decide ((l.length : Int) < k) = true := decide_eq_true k1
        go_wp2
        go_ret
        exact ⟨by simp, HB2.out⟩
      · obtain ⟨j, rfl⟩ := Int.eq_ofNat_of_zero_le (show 0 ≤ k by omega)
        have hj : j ≤ l.length := by omega
        have e0 : decide ((j : Int) < 0) = false := decide_eq_false (by omega)
        have e1 : decide ((l.length : Int) < (j : Int)) = false := decide_eq_false (by omega)
        have HE1 := Lib.hid (ofE_sub HE.out (infE_take (ofE_infE HE.out) hj))
        have HE2 := Lib.hid (ofE_sub HE.out (infE_drop (ofE_infE HE.out) hj))
        have hjc : j ≤ c := by omega
        have HO1 := Lib.hid (Of_ok p q j c m d (l.take j) zs s w2 ((HI.out.take hj).below HB2.out) (HZ.out.below HB2.out) (by omega))
        go_wp2_with fail
        refine HO1.out.mono ?_
        rintro e w3 ⟨hc, hb⟩
        rcases hc with ⟨hc, _⟩ | ⟨_, rfl⟩
        · exact absurd HE1.out hc
        have HB3 := Lib.hid (HB2.out.trans (hb.mono HB2.out.size))
        clear hb HO1
        obtain ⟨r1, hr1⟩ : ∃ r, r = infOf (l.take j) zs (stA s) (stB s) := ⟨_, rfl⟩
        obtain ⟨r2, hr2⟩ : ∃ r, r = infOf (l.drop j) zs (stA s) (stB s) := ⟨_, rfl⟩
        have HOR : Hid (r = r1.or r2) := by
          show _ = _
          rw [HR.out, hr1, hr2]
          exact infOf_cut l j zs (stA s) (stB s)
        rw [← hr1]
        clear hr1
        have HR2 := Lib.hid hr2
        clear hr2
        have HO2 : Hid (Calls Try.prog 14 #[.slice (if c = j then p else p.map fun a => a.add (j * 2)) (l.length - j) (c - j), .slice q m d, .string s] w3 (OfPost (l.drop j) zs s w3)) := by
          refine Of_ok _ q (l.length - j) (c - j) m d (l.drop j) zs s w3 ?_ (HZ.out.below HB3.out) (by omega)
          by_cases hcj : c = j
          · rw [if_pos hcj]
            have h0 : l.length = j := by omega
            rw [h0, Nat.sub_self, List.drop_eq_nil_of_le (by omega)]
            exact infs_zero _ _ _
          · rw [if_neg hcj]
            rcases Nat.eq_zero_or_pos l.length with h0 | h0
            · rw [show l.length - j = 0 by omega, List.drop_eq_nil_of_le (by omega)]
              exact infs_zero _ _ _
            · obtain ⟨b, o, rfl, _⟩ := HI.out.at_.at_ h0
              have := (HI.out.below HB3.out).drop hj
              simpa [Addr.add_lit] using this
        have hg := good2 0 0
        have HG : Hid (∀ u : World, Calls Try.prog 11 #[.slice (some ⟨u.heap.size, 0, none⟩) 2 2] (u.alloc (.cells #[.int .i64 0, .int .i64 0] 26)) fun e w' => e = .returned (.bool true) ∧ u.alloc (.cells #[.int .i64 0, .int .i64 0] 26) = w') := fun u => hg u
        clear hg
        by_cases hcj : c = j
        · rw [if_pos hcj] at HO2
          subst hcj
          rw [Nat.sub_self, Nat.sub_eq_zero_of_le hcap] at HO2
          go_wp2_with fail
          refine HO2.out.mono ?_
          rintro e w4 ⟨hc, hb⟩
          rcases hc with ⟨hc, _⟩ | ⟨_, rfl⟩
          · exact absurd HE2.out hc
          have HB4 := Lib.hid (HB3.out.trans (hb.mono HB3.out.size))
          rw [← HR2.out]
          clear hb HO2
          go_wp2_with fail
          refine (HG.out _).mono ?_
          rintro e w5 ⟨rfl, hw5⟩
          rw [← hw5]
          have HB5 : Hid (Below w.heap.size w (w4.alloc (.cells #[.int .i64 0, .int .i64 0] 26))) := HB4.out.trans ((below1 w4 _).mono HB4.out.size)
          clear hw5 HG
          cases r1 with
          | none =>
            have hr : r = r2 := by rw [HOR.out]; rfl
            subst hr
            clear HOR HR HR2
            have hbb : (r.isSome == r.isSome) = true := by simp
            have hbs : ((r.getD ⟨#[]⟩).toList == (r.getD ⟨#[]⟩).toList) = true := by simp
            go_wp2
            go_ret
            exact ⟨by simp, HB5.out⟩
          | some x =>
            have hr : r = some x := by rw [HOR.out]; rfl
            subst hr
            clear HOR HR HR2
            have hbs : (x.toList == x.toList) = true := by simp
            go_wp2
            go_ret
            exact ⟨by simp, HB5.out⟩
        · rw [if_neg hcj] at HO2
          go_wp2_with fail
          refine HO2.out.mono ?_
          rintro e w4 ⟨hc, hb⟩
          rcases hc with ⟨hc, _⟩ | ⟨_, rfl⟩
          · exact absurd HE2.out hc
          have HB4 := Lib.hid (HB3.out.trans (hb.mono HB3.out.size))
          rw [← HR2.out]
          clear hb HO2
          go_wp2_with fail
          refine (HG.out _).mono ?_
          rintro e w5 ⟨rfl, hw5⟩
          rw [← hw5]
          have HB5 : Hid (Below w.heap.size w (w4.alloc (.cells #[.int .i64 0, .int .i64 0] 26))) := HB4.out.trans ((below1 w4 _).mono HB4.out.size)
          clear hw5 HG
          cases r1 with
          | none =>
            have hr : r = r2 := by rw [HOR.out]; rfl
            subst hr
            clear HOR HR HR2
            have hbb : (r.isSome == r.isSome) = true := by simp
            have hbs : ((r.getD ⟨#[]⟩).toList == (r.getD ⟨#[]⟩).toList) = true := by simp
            go_wp2
            go_ret
            exact ⟨by simp, HB5.out⟩
          | some x =>
            have hr : r = some x := by rw [HOR.out]; rfl
            subst hr
            clear HOR HR HR2
            have hbs : (x.toList == x.toList) = true := by simp
            go_wp2
            go_ret
            exact ⟨by simp, HB5.out⟩
end Go.Proofs.Ytmeenhfclnkjhaa
