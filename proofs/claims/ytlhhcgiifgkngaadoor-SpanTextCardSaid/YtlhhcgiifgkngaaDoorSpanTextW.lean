/- The law SpanText. Conditions: the text is of at most 2^47 bytes; the tables and the two errors' variables read as listed. -/
import Derived.Test.YtlhhcgiifgkngaaDoorParHex2W
import Derived.Test.YtlhhcgiifgkngaaDoorSpanSumW
namespace Go.Proofs.YtlhhcgiifgkngaaDoor
open Go.RowKit Go.Shelf Go.Sort
theorem txtH_inj {x y : Nat} (hx : x < 2 ^ 64) (hy : y < 2 ^ 64) (h : txtH x = txtH y) : x = y := by
  have h1 := par_txt hx
  rw [h, par_txt hy] at h1
  injection h1 with h1 _
  exact h1.symm
set_option maxHeartbeats 4000000 in
theorem spanText_law (b : Nat) (hb : b < 2 ^ 64) (s : ByteArray) (hs : s.size ≤ 140737488355328) (w : World) (hE : EVs w) (hT : Tab w) :
    Calls Tryd.prog 8 #[.float .f64 b, .string s] w fun e w' => e = .returned (.bool true) ∧ Below w.heap.size w w' := by
  have HSp := Lib.hid (spans_ok w)
  obtain ⟨z, hz⟩ : ∃ z : ByteArray, z = ⟨(txtH b).toArray⟩ := ⟨_, rfl⟩
  have hzs : z.size = 16 := by rw [hz]; show (txtH b).toArray.size = 16; simp [txtH_len hb]
  have HTx : Hid (∀ u, Below w.heap.size w u → Calls Tryd.prog 38 #[.float .f64 b] u fun e w' => e = .returned (.string z) ∧ Below u.heap.size u w') := by
    show ∀ u, _
    intro u hu
    rw [hz]
    exact spanText_ok b hb u (hT.below hu)
  have HRz : Hid (∀ u, Below w.heap.size w u → Calls Tryd.prog 37 #[.string z] u fun e w' => e = .returned (.tuple #[.float .f64 b, .int .i64 0]) ∧ Below u.heap.size u w') := by
    show ∀ u, _
    intro u hu
    refine (spanRead_ok z (by omega) u (hE.below hu) (hT.below hu)).mono ?_
    rintro e w' ⟨⟨x, hx, h1, rfl⟩ | ⟨h1, _⟩, hb'⟩
    · rw [hz] at h1
      have h2 : txtH b = txtH x := by
        have := congrArg (fun q : ByteArray => q.data.toList) h1
        simpa using this
      obtain rfl := txtH_inj hb hx h2
      exact ⟨rfl, hb'⟩
    · exact absurd hz (h1 b hb)
  have HRs := Lib.hid (fun u (hu : Below w.heap.size w u) => spanRead_ok s hs u (hE.below hu) (hT.below hu))
  have HTa := Lib.hid (fun x (hx : x < 2 ^ 64) u (hu : Below w.heap.size w u) => spanText_ok x hx u (hT.below hu))
  have HZS := Lib.hid hzs
  clear hz hzs hE hT hs hb
  go_enter Tryd.func8, Tryd.ntmps8
  go_upto_region 6 with (first
    | (have h4 := HM1; clear h4; go_at_call 37; refine (HRz.out _ HB2.out).mono ?_; rintro e w3 ⟨rfl, hb⟩; have HB3 := Lib.hid (HB2.out.trans (hb.mono HB2.out.size)); clear hb)
    | (go_at_call 38; refine (HTx.out _ HB1.out).mono ?_; rintro e w2 ⟨rfl, hb⟩; have HB2 := Lib.hid (HB1.out.trans (hb.mono HB1.out.size)); have HM1 : Hid (0 = 0) := rfl; clear hb)
    | (go_at_call 36; refine HSp.out.mono ?_; rintro e w1 ⟨rfl, hb⟩; have HB1 := Lib.hid hb; clear hb))
  go_wp2_with fail
  refine (HRs.out _ HB3.out).mono ?_
  rintro e w4 ⟨h4, hb4⟩
  have HB4 := Lib.hid (HB3.out.trans (hb4.mono HB3.out.size))
  clear hb4
  rcases h4 with ⟨x, hx, rfl, rfl⟩ | ⟨_, rfl⟩
  · have HT4 := Lib.hid (HTa.out x hx _ HB4.out)
    clear hx
    obtain ⟨y, hy⟩ : ∃ y : ByteArray, y = ⟨(txtH x).toArray⟩ := ⟨_, rfl⟩
    rw [← hy] at HT4 ⊢
    clear hy
    go_wp2_with (go_at_call 38; refine HT4.out.mono ?_; rintro e w5 ⟨rfl, hb⟩; have HB5 := Lib.hid (HB4.out.trans (hb.mono HB4.out.size)); clear hb)
    go_ret
    exact ⟨rfl, HB5.out⟩
  · go_wp2
    go_ret
    exact ⟨rfl, HB4.out⟩
end Go.Proofs.YtlhhcgiifgkngaaDoor
