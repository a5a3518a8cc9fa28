/- The iterator of strings.Lines: every line of the text, its end included. Conditions: none. -/
import Derived.Test.YtlhhcgiifgkngaaDoorRangeBox
import Derived.Test.YtlhhcgiifgkngaaDoorLinesSP
import Derived.Test.YtlhhcgiifgkngaaDoorStrs
import Derived.Sort.Row
import Derived.Test.YtlhhcgiifgkngaaDoorShelf
namespace Go.Proofs.YtlhhcgiifgkngaaDoor
open Go Go.RowKit Go.Shelf
attribute [local go_sem] Oper.semAt_some
/-- the lines as strings -/
def linB (s : ByteArray) : List ByteArray := (linS s.data.toList).map fun l => ⟨l.toArray⟩
theorem ba_extL {a b : ByteArray} (h : a.data.toList = b.data.toList) : a = b := ByteArray.ext (Array.toList_inj.1 h)
theorem linB_nil {s : ByteArray} (h : s.size = 0) : linB s = [] := by
  unfold linB
  rw [List.length_eq_zero_iff.1 (show s.data.toList.length = 0 by rw [← Lib.size_eq]; exact h)]
  rfl
theorem linB_end {s : ByteArray} {k : Nat} (hk : k < s.size) (h : Lib.indexByte s.data.toList 10 = k) : linB s = s.extract 0 (k + 1) :: linB (s.extract (k + 1) s.size) := by
  obtain ⟨h1, h2⟩ := Lib.indexByte_some h
  have hl : s.data.toList = s.data.toList.take k ++ 10 :: s.data.toList.drop (k + 1) := by
    have h3 : k < s.data.toList.length := by rw [← Lib.size_eq]; exact hk
    have := List.take_append_drop k s.data.toList
    rw [List.drop_eq_getElem_cons h3] at this
    rw [List.getElem?_eq_getElem h3] at h1
    injection h1 with h1
    rw [h1] at this
    exact this.symm
  unfold linB
  rw [hl, linS_end _ _ (by
    intro hm
    obtain ⟨j, hj, he⟩ := List.getElem_of_mem hm
    rw [List.length_take] at hj
    refine h2 j (by omega) ?_
    rw [← he, List.getElem_take, List.getElem?_eq_getElem]), List.map_cons]
  congr 1
  · apply ba_extL
    rw [Lib.extract_data]
    have : (s.data.toList.take (k + 1)) = s.data.toList.take k ++ [10] := by
      rw [List.take_add_one, h1]; rfl
    simp [this]
  · rw [Lib.extract_to_end]
theorem linB_last {s : ByteArray} (h0 : s.size ≠ 0) (h : Lib.indexByte s.data.toList 10 = -1) : linB s = [s] := by
  unfold linB
  rw [linS_open _ (fun hm => by obtain ⟨j, hj, he⟩ := List.getElem_of_mem hm; exact Lib.indexByte_none h j (by rw [List.getElem?_eq_getElem hj, he])) (by intro e; rw [Lib.size_eq, e] at h0; exact h0 rfl)]
  simp
/-- a line that may be handed on -/
abbrev LnB := { x : ByteArray // x.size ≤ 1048576 }
/-- how long the text in a box is -/
def strSz (w : World) (b : Nat) : Nat := match w.cell? ⟨b, 0, none⟩ with
  | some (.string r) => r.size
  | _ => 0
theorem box1S {w : World} {b : Nat} {v : Value} {t : TypeId} (h : w.heap[b]? = some (.cells #[v] t (0, 0))) : w.cell? ⟨b, 0, none⟩ = some v ∧ w.frozen? ⟨b, 0, none⟩ = false := by
  constructor <;> simp [World.cell?, World.frozen?, h]
theorem box1S_set {w : World} {b : Nat} {v u : Value} {t : TypeId} (h : w.heap[b]? = some (.cells #[v] t (0, 0))) : (w.setCell ⟨b, 0, none⟩ u).heap[b]? = some (.cells #[u] t (0, 0)) := by
  rw [Go.Sort.setCell_eq]
  simp [Go.Sort.mapBlock, Go.Sort.onCells, Array.getElem?_modify, h]
theorem strSz_of {w : World} {b : Nat} {r : ByteArray} {t : TypeId} (h : w.heap[b]? = some (.cells #[.string r] t (0, 0))) : strSz w b = r.size := by
  unfold strSz
  rw [(box1S h).1]
theorem lines_fn (s : ByteArray) (w : World) : Calls Tryd.prog 92 #[.string s] w fun e w' => e = .returned (.func (.func 132) #[] #[.pointer (some ⟨w.heap.size, 0, none⟩)]) ∧ w' = w.alloc (.cells #[.string s] 9) := by
  go_enter Tryd.func92, Tryd.ntmps92
  go_wp2
  go_ret
  exact ⟨rfl, rfl⟩
set_option maxRecDepth 100000 in
set_option maxHeartbeats 4000000 in
theorem lines_seq (n : Nat) (hn : 2 ≤ n) (Bs : Nat) (s : ByteArray) (hs : s.size ≤ 1048576) (w : World) (hBs : w.heap[Bs]? = some (.cells #[.string s] 9 (0, 0))) :
    SeqBox Fence.wide n Tryd.prog 132 #[.pointer (some ⟨Bs, 0, none⟩)] (fun x : LnB => #[Value.string x.1]) Bs (fun ys => ys.map (·.1) = linB s) (fun pre => pre.map (·.1) <+: linB s) (linB s).length w := by
  intro l J Jx W hW hJ hJx hJs hY h0
  have hlt : Bs < w.heap.size := (Array.getElem?_eq_some_iff.1 hBs).1
  have hWb : W.heap[Bs]? = some (.cells #[.string s] 9 (0, 0)) := (hW.block Bs hlt).trans hBs
  have HJ : Hid (∀ pre V k, J pre V → J pre (V.drewN k)) := by
    show ∀ pre V k, _ → _
    intro pre V k h
    exact hJ pre V _ none h ⟨rfl, rfl, rfl, Nat.le_refl _, fun _ _ _ => rfl⟩ (fun r e => by cases e)
  have HJS := Lib.hid hJs
  have h1n : 1 ≤ n := by omega
  have HY := Lib.hid hY
  clear hJ hJx hJs hY hW
  refine callsIn_of_wp Tryd.func132 rfl trivial ?_ rfl
  simp only [Tryd.ntmps132, List.size_toArray, List.length_cons, List.length_nil, Nat.reduceAdd, Nat.reduceSub, Array.replicate_succ, Array.replicate_zero, List.push_toArray, List.append_toArray, List.nil_append, List.cons_append]
  gi_wp2
  gi_loopw [3, 4] (fun a b wr => ∃ (pre : List LnB) (r : ByteArray), r.size ≤ 1048576 ∧ Hid (linB s = pre.map (·.1) ++ linB r) ∧ Hid (wr.heap[Bs]? = some (.cells #[.string r] 9 (0, 0))) ∧ Hid (J pre wr)) (fun _ _ wr => strSz wr Bs)
  case atStart => exact ⟨[], s, hs, rfl, hWb, h0⟩
  case round =>
    obtain ⟨pre, r, hr, HL, HB, HJ0⟩ := hrel
    obtain ⟨c0, c1⟩ := box1S HB.out
    by_cases h0 : r.size = 0
    · gi_wp2
      go_end0
      exact ⟨⟨_, rfl⟩, .inl ⟨pre, by rw [HL.out, linB_nil h0, List.append_nil], HJ0.out⟩⟩
    · have h0i : (0 : Int) < (r.size : Int) := by omega
      have HIB : Hid (∀ u : World, Calls Tryd.prog 133 #[.string r, .int .u8 10] u fun e w' => e = .returned (.int .i64 (Lib.indexByte r.data.toList 10)) ∧ u = w') := by
        show ∀ u, _
        intro u
        refine (Tryd.strings_IndexByte r 10 u).mono ?_
        rintro e w' ⟨h1, h2⟩
        exact ⟨h1, h2.symm⟩
      have hge := (indexByte_ge r.data.toList 10).1
      by_cases hi : Lib.indexByte r.data.toList 10 = -1
      · have HL2 := linB_last h0 hi
        have hw2 : Hid ((wr.setCell ⟨Bs, 0, none⟩ (.string ⟨#[]⟩)).heap[Bs]? = some (.cells #[.string ⟨#[]⟩] 9 (0, 0))) := box1S_set HB.out
        obtain ⟨fn, tmps, assign, body, hy, hR⟩ := HY.out pre ⟨r, hr⟩ _ (HJS.out _ _ (.string ⟨#[]⟩) HJ0.out) (by rw [HL.out, HL2]; simp)
        have HLL : Hid (linB s = (pre ++ [(⟨r, hr⟩ : LnB)]).map (·.1) ++ linB ⟨#[]⟩) := by show _ = _; rw [HL.out, HL2, linB_nil rfl, List.append_nil, List.map_append]; rfl
        have HI := Lib.hid hi
        clear hi HL2 hge
        gi_wp2_with (refine ⟨trivial, ?_⟩; gi_at_call 133; refine (callsIn_wide.2 (HIB.out _)).mono ?_; rw [HI.out]; rintro e w' ⟨rfl, rfl⟩)
        gi_wp2
        refine hR.mono ?_
        rintro e W3 (⟨rfl, hJ3, hk3⟩ | ⟨rfl, hJx3⟩)
        · have HJ3 := Lib.hid hJ3
          have HB3 : Hid (W3.heap[Bs]? = some (.cells #[.string ⟨#[]⟩] 9 (0, 0))) := hk3.trans hw2.out
          clear hJ3 hk3 hR hy
          gi_wp2
          go_roundw
          case rel => exact ⟨pre ++ [(⟨r, hr⟩ : LnB)], ⟨#[]⟩, Nat.zero_le _, HLL.out, HB3.out, HJ3.out⟩
          case measure => rw [strSz_of HB3.out, strSz_of HB.out]; show 0 < _; omega
        · gi_wp2
          refine bodyPost_ret (results_none rfl _ _ _) rfl ?_
          exact ⟨⟨_, rfl⟩, .inr ⟨pre ++ [(⟨r, hr⟩ : LnB)], ⟨_, HLL.out.symm⟩, hJx3⟩⟩
      · obtain ⟨k, hk⟩ := Int.eq_ofNat_of_zero_le (show 0 ≤ Lib.indexByte r.data.toList 10 by omega)
        have hkl : k < r.size := by
          have := (List.getElem?_eq_some_iff.1 (Lib.indexByte_some hk).1).1
          rw [← Lib.size_eq] at this
          exact this
        have HL2 := linB_end hkl hk
        have hre : (r.extract 0 (k + 1)).size ≤ 1048576 := by rw [ByteArray.size_extract]; omega
        obtain ⟨W2, hW2⟩ : ∃ W2 : World, W2 = (wr.setCell ⟨Bs, 0, none⟩ (.string (r.extract (k + 1) r.size))).drew := ⟨_, rfl⟩
        have hw2 : Hid (W2.heap[Bs]? = some (.cells #[.string (r.extract (k + 1) r.size)] 9 (0, 0))) := by show _ = _; rw [hW2]; exact box1S_set HB.out
        have hj2 : J pre W2 := by rw [hW2]; exact HJ.out _ _ 1 (HJS.out _ _ _ HJ0.out)
        obtain ⟨fn, tmps, assign, body, hy, hR⟩ := HY.out pre ⟨r.extract 0 (k + 1), hre⟩ W2 hj2 (by rw [HL.out, HL2]; simp)
        have HLL : Hid (linB s = (pre ++ [(⟨r.extract 0 (k + 1), hre⟩ : LnB)]).map (·.1) ++ linB (r.extract (k + 1) r.size)) := by show _ = _; rw [HL.out, HL2, List.map_append]; simp
        have HI := Lib.hid hk
        have hki : (k : Int) + 1 ≤ (r.size : Int) := by omega
        clear hk HL2 hge hi hj2
        gi_wp2_with (refine ⟨trivial, ?_⟩; gi_at_call 133; refine (callsIn_wide.2 (HIB.out _)).mono ?_; rw [HI.out]; rintro e w' ⟨rfl, rfl⟩)
        gi_wp2
        gi_region
        gi_wp2
        rw [← hW2]
        clear hW2
        rw [hy]
        gi_wp2
        refine hR.mono ?_
        rintro e W3 (⟨rfl, hJ3, hk3⟩ | ⟨rfl, hJx3⟩)
        · have HJ3 := Lib.hid hJ3
          have HB3 : Hid (W3.heap[Bs]? = some (.cells #[.string (r.extract (k + 1) r.size)] 9 (0, 0))) := hk3.trans hw2.out
          clear hJ3 hk3 hR hy
          have hsz : (r.extract (k + 1) r.size).size = r.size - (k + 1) := by rw [ByteArray.size_extract]; omega
          gi_wp2
          go_roundw
          case rel => exact ⟨pre ++ [(⟨r.extract 0 (k + 1), hre⟩ : LnB)], r.extract (k + 1) r.size, by omega, HLL.out, HB3.out, HJ3.out⟩
          case measure => rw [strSz_of HB3.out, strSz_of HB.out]; omega
        · gi_wp2
          refine bodyPost_ret (results_none rfl _ _ _) rfl ?_
          exact ⟨⟨_, rfl⟩, .inr ⟨pre ++ [(⟨r.extract 0 (k + 1), hre⟩ : LnB)], ⟨_, HLL.out.symm⟩, hJx3⟩⟩
end Go.Proofs.YtlhhcgiifgkngaaDoor
