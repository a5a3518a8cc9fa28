/- The walk of slices.Concat at any number of slices of strings. Conditions: the slices read as listed; together of 2^43 elements at most. -/
import Derived.Test.YtoiolepengcagaaGreatDoorConcatW
namespace Go.Proofs.YtoiolepengcagaaGreatDoor
open Go.RowKit Go.Shelf
structure CPart where
  p : Option Addr
  n : Nat
  c : Nat
  zs : List ByteArray
def cp0 : CPart := ⟨none, 0, 0, []⟩
def catN (l : List CPart) (k : Nat) : List ByteArray := (l.take k).flatMap (·.zs)
theorem catN_next {l : List CPart} {k : Nat} (h : k < l.length) : catN l (k + 1) = catN l k ++ (l.getD k cp0).zs := by
  unfold catN
  rw [List.take_add_one, List.getElem?_eq_getElem h, List.flatMap_append, List.getD_eq_getElem?_getD, List.getElem?_eq_getElem h]
  simp
theorem catN_le (l : List CPart) (k : Nat) : (catN l k).length ≤ (catN l l.length).length := by
  unfold catN
  have : l.take l.length = l.take k ++ l.drop k := by rw [List.take_length, List.take_append_drop]
  rw [this, List.flatMap_append, List.length_append]
  omega
theorem catN_mono (l : List CPart) {k : Nat} (h : k < l.length) : (catN l k).length + (l.getD k cp0).zs.length ≤ (catN l l.length).length := by
  have := catN_le l (k + 1)
  rw [catN_next h, List.length_append] at this
  exact this
/-- the parts in memory: each reads, and its slice lies in the row at B -/
structure CParts (w : World) (B : Nat) (l : List CPart) : Prop where
  nl : ∀ k, k < l.length → NLw w (l.getD k cp0).p (l.getD k cp0).zs.length (l.getD k cp0).c (l.getD k cp0).zs
  cell : ∀ k, k < l.length → w.cell? ⟨B, k, none⟩ = some (.slice (l.getD k cp0).p (l.getD k cp0).zs.length (l.getD k cp0).c)
theorem strsV_app (x y : List ByteArray) : strsV (x ++ y) = strsV x ++ strsV y := by unfold strsV; rw [List.map_append]
set_option maxHeartbeats 4000000 in
theorem concatN_ok (B : Nat) (l : List CPart) (w : World) (hL : l.length ≤ 1000) (hP : CParts w B l) (hsum : (catN l l.length).length ≤ 8796093022208) (hB : B < w.heap.size) :
    Calls Tryz.prog 11 #[.slice (some ⟨B, 0, none⟩) l.length l.length] w (CatPost w (catN l l.length)) := by
  have HP := Lib.hid hP
  clear hP
  go_enter Tryz.func11, Tryz.ntmps11
  go_wp2
  go_loop [11, 3] (fun i s => ∃ k : Nat, k ≤ l.length ∧ i = .int .i64 k ∧ s = .int .i64 ((catN l k).length : Int)) (fun i _ => l.length - (intOf i).toNat)
  case atStart => exact ⟨0, Nat.zero_le _, rfl, rfl⟩
  case round =>
    obtain ⟨k, hk, rfl, rfl⟩ := hrel
    by_cases hlt : k < l.length
    · have hc := HP.out.cell k hlt
      have hm := catN_mono l hlt
      have HN := Lib.hid (congrArg List.length (catN_next hlt))
      generalize l.getD k cp0 = q at *
      generalize hx : (catN l k).length = x at *
      go_wp2
      go_round
      case rel =>
        refine ⟨k + 1, by omega, by go_num, ?_⟩
        rw [HN.out, List.length_append, hx]
        go_num
      case measure => simp [intOf]; omega
    · obtain rfl : k = l.length := by omega
      go_wp2_with fail
      refine (grow_ok (catN l l.length).length _ hsum).mono ?_
      rintro e w1 ⟨⟨g, cg, rfl, hown⟩, hb1⟩
      have HB1 := Lib.hid hb1
      have HO1 := Lib.hid hown
      clear hown hb1
      go_wp2
      go_loopw [27, 6] (fun i s wr => Below w.heap.size w wr ∧ ∃ k : Nat, k ≤ l.length ∧ i = .int .i64 k ∧ ∃ g' c', s = .slice g' (catN l k).length c' ∧ Hid (wr.ownsRow w.heap.size 9 1 s (catN l k).length (strsV (catN l k)))) (fun i _ _ => l.length - (intOf i).toNat)
      case atStart => exact ⟨HB1.out, 0, Nat.zero_le _, rfl, g, cg, rfl, HO1⟩
      case round =>
        obtain ⟨hb, k, hk, rfl, g', c', rfl, HO⟩ := hrel
        have HB := Lib.hid hb
        clear hb
        by_cases hlt : k < l.length
        · have hc : wr.cell? ⟨B, k, none⟩ = some (.slice (l.getD k cp0).p (l.getD k cp0).zs.length (l.getD k cp0).c) := by rw [HB.out.cell hB]; exact HP.out.cell k hlt
          have HNL := Lib.hid ((HP.out.nl k hlt).below HB.out)
          have hm := catN_mono l hlt
          have HN := Lib.hid (catN_next hlt)
          generalize l.getD k cp0 = q at *
          generalize hxs : catN l k = xs at *
          have HXS := Lib.hid hxs
          clear hxs
          go_wp2_with (at_builtin; refine app_nl _ rfl _ _ rfl w.heap.size _ xs.length (strsV xs) rfl HO.out q.p q.zs.length q.c q.zs rfl HNL.out (by omega) HB.out.size ?_; intro v' w2 h1 h2; have HX := Lib.hid h1; have HG := Lib.hid h2; clear h1 h2)
          obtain ⟨g2, c2, rfl⟩ := str_own HX.out
          go_roundw
          case rel =>
            refine ⟨HB.out.grown HG.out HB.out.size (fun k hk => (HO.out.lt k hk).1), k + 1, by omega, by go_num, g2, c2, by rw [HN.out, List.length_append], ?_⟩
            rw [HN.out, List.length_append, strsV_app]
            exact HX
          case measure => simp [intOf]; omega
        · obtain rfl : k = l.length := by omega
          go_wp2
          go_ret
          exact ⟨g', c', rfl, HO.out, HB.out⟩
end Go.Proofs.YtoiolepengcagaaGreatDoor
