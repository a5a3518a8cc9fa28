/- slices.Collect, Sorted and Compact over slices.Values at strings. Conditions: the slice reads as listed. -/
import Derived.Test.YtlhhcgiifgkngaaDoorSeqW
import Derived.Test.YtlhhcgiifgkngaaDoorSortG
import Derived.Test.YtlhhcgiifgkngaaDoorShelf
namespace Go.Proofs.YtlhhcgiifgkngaaDoor
open Go.RowKit Go.Shelf Go.Maps Go.Sort
def byt (zs : List ByteArray) : List (List UInt8) := zs.map fun s : ByteArray => s.data.toList
theorem byt_enc (zs : List ByteArray) : (byt zs).map encStr = strsV zs := enc_all zs
theorem byt_len (zs : List ByteArray) : (byt zs).length = zs.length := List.length_map ..
theorem str_own {w : World} {base n : Nat} {v : Value} {xs : List Value} (h : w.ownsRow base 9 1 v n xs) : ∃ (g : Option Addr) (c : Nat), v = .slice g n c := by
  rcases h.2 with ⟨rfl, rfl⟩ | ⟨g, cap, _, rfl, _⟩
  · have := h.1
    simp at this
    subst this
    exact ⟨none, 0, rfl⟩
  · exact ⟨_, _, rfl⟩
theorem sort_own {w : World} {base n c : Nat} {g : Option Addr} {bs : List (List UInt8)} (hb62 : n < 4611686018427387904) (h : w.ownsRow base 9 1 (.slice g n c) n (bs.map encStr)) :
    Calls Tryd.prog 146 #[.slice g n c] w fun e w' => e = .returned (.tuple #[]) ∧ w'.ownsRow base 9 1 (.slice g n c) n ((bs.mergeSort fun x y => decide (x ≤ y)).map encStr) ∧ w.grownBy w' (Value.slice g n c).ownBlock := by
  have hl : bs.length = n := by have := h.1; simpa using this
  subst hl
  by_cases hn : 0 < bs.length
  · rcases h.2 with ⟨hnil, _⟩ | ⟨g', cap, cur, hv, hbase, hb, h1, h2, h3, h4⟩
    · injection hnil with e1 e2 e3; omega
    · injection hv with e1 e2 e3
      subst e1 e3
      have h4' : cur.toList.take bs.length = bs.map encStr := by simpa using h4
      refine (Tryd.slices_Sort_string g' 0 c bs w (holds_own hb h4') (Array.getElem?_eq_some_iff.1 hb).1 hb62).mono ?_
      rintro e w' ⟨rfl, m, os, rfl⟩
      exact ⟨rfl, own_sorted (by simp) hbase hb h1 h2 h3, grown_sorted _⟩
  · have h0 : bs = [] := List.length_eq_zero_iff.1 (by omega)
    subst h0
    refine (Tryd.slices_Sort_string_none g c w).mono ?_
    rintro e w' ⟨rfl, rfl⟩
    exact ⟨rfl, by simpa using h, ⟨rfl, rfl, rfl, Nat.le_refl _, fun _ _ _ => rfl⟩⟩
theorem own_prefix {w : World} {base e n m g cap : Nat} {xs : List Value} (h : w.ownsRow base e 1 (.slice (some ⟨g, 0, none⟩) n cap) n xs) (hm : m ≤ n) : w.ownsRow base e 1 (.slice (some ⟨g, 0, none⟩) m cap) m (xs.take m) := by
  have hl : xs.length = n := by have := h.1; simpa using this
  rcases h.2 with ⟨hnil, _⟩ | ⟨g', cap', cur, hv, hbase, hb, h1, h2, h3, h4⟩
  · cases hnil
  · injection hv with e1 e2 e3
    injection e1 with e1
    injection e1 with e1
    subst e1 e3
    refine ⟨by rw [List.length_take]; omega, .inr ⟨g, cap, cur, rfl, hbase, hb, by omega, h2, h3, ?_⟩⟩
    rw [← h4, List.take_take]
    congr 1; omega
set_option maxHeartbeats 1000000 in
theorem collect_ok (Bv : Nat) (p : Option Addr) (n c : Nat) (zs : List ByteArray) (w : World) (hBv : Bv < w.heap.size) (hS : StrsAt w p n zs) (hv : w.cell? ⟨Bv, 0, none⟩ = some (.slice p n c)) (hp : p = none → c = 0) (hpl : ∀ ad, p = some ad → ∃ b off, ad = ⟨b, off, none⟩ ∧ b < w.heap.size) (hr : n * 16 ≤ 140737488351232) :
    Calls Tryd.prog 145 #[.func (.func 147) #[] #[.pointer (some ⟨Bv, 0, none⟩)]] w (Coll w zs) := by
  go_enter Tryd.func145, Tryd.ntmps145
  go_wp2_with (go_at_call 187; refine (append_seq Bv p n c zs _ hBv hS hv hp hpl hr).mono ?_; rintro e w' ⟨v, rfl, hown, hb⟩; have HO := Lib.hid hown; clear hown)
  go_ret
  exact ⟨v, rfl, HO.out, hb⟩
/-- the strings of a slice, sorted, in a slice of the call's own -/
def Srt (w : World) (zs : List ByteArray) (e : Ending) (w' : World) : Prop := ∃ (g : Option Addr) (c : Nat), e = .returned (.slice g zs.length c) ∧ w'.ownsRow w.heap.size 9 1 (.slice g zs.length c) zs.length (((byt zs).mergeSort fun x y => decide (x ≤ y)).map encStr) ∧ Below w.heap.size w w'
set_option maxHeartbeats 1000000 in
theorem sorted_ok (Bv : Nat) (p : Option Addr) (n c : Nat) (zs : List ByteArray) (w : World) (hBv : Bv < w.heap.size) (hS : StrsAt w p n zs) (hv : w.cell? ⟨Bv, 0, none⟩ = some (.slice p n c)) (hp : p = none → c = 0) (hpl : ∀ ad, p = some ad → ∃ b off, ad = ⟨b, off, none⟩ ∧ b < w.heap.size) (hr : n * 16 ≤ 140737488351232) :
    Calls Tryd.prog 106 #[.func (.func 147) #[] #[.pointer (some ⟨Bv, 0, none⟩)]] w (Srt w zs) := by
  have hl := hS.len
  subst hl
  go_enter Tryd.func106, Tryd.ntmps106
  go_wp2_with fail
  refine (collect_ok Bv p _ c zs _ hBv hS hv hp hpl hr).mono ?_
  rintro e w1 ⟨v, rfl, hown, hb1⟩
  obtain ⟨g, cg, rfl⟩ := str_own hown
  rw [← byt_enc] at hown
  have HO := Lib.hid hown
  have HB1 := Lib.hid hb1
  have H62 := Lib.hid (show zs.length < 4611686018427387904 by omega)
  clear hown hb1 hS hv hp hpl
  go_wp2_with fail
  refine (sort_own H62.out HO.out).mono ?_
  rintro e w2 ⟨rfl, hown2, hg2⟩
  have HO2 := Lib.hid hown2
  have HB2 := Lib.hid (HB1.out.grown hg2 HB1.out.size (fun k hk => (HO.out.lt k hk).1))
  clear hown2 hg2
  go_wp2
  go_ret
  exact ⟨g, cg, rfl, HO2.out, HB2.out⟩
end Go.Proofs.YtlhhcgiifgkngaaDoor
