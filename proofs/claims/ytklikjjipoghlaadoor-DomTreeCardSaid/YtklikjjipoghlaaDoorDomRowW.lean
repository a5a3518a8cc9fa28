/- The walk through dom.row: those of a row, by how many rule them. Conditions: the table reads as listed. -/
import Derived.Test.YtklikjjipoghlaaDoorDomRulesW
import Derived.Test.YtklikjjipoghlaaDoorSortG
import Derived.Test.YtklikjjipoghlaaDoorShelf
import Derived.Shelf.SlSortCmp.NoneTotal
import Derived.Deep.QuietTactic
import Derived.BigQuiet
namespace Go.Proofs.YtklikjjipoghlaaDoor
open Go.RowKit Go.Shelf Go.Sort
/-- numbers of rows -/
def Num (m : Nat) : Type := { x : Nat // x < m }
def encN {m : Nat} (x : Num m) : Value := .int .i64 (x.1 : Int)
def cfN (D : List B) {m : Nat} (x y : Num m) : Int := (cnt (row D x.1) : Int) - (cnt (row D y.1) : Int)
theorem ltN (D : List B) {m : Nat} (x y : Num m) : ltOf (cfN D) x y = decide (cnt (row D x.1) < cnt (row D y.1)) := by
  unfold ltOf cfN
  rw [Bool.eq_iff_iff]; simp only [decide_eq_true_eq]; omega
theorem swoN (D : List B) (m : Nat) : SWO (ltOf (cfN D (m := m))) where
  irrefl x := by rw [ltN]; simp
  trans x y z h1 h2 := by rw [ltN] at *; simp at *; omega
  ntrans x y z h1 h2 := by rw [ltN] at *; simp at *; omega
theorem count_quiet {s : B} {w : World} {k : Nat} : Calls Tryd.prog 24 #[.int .u64 (un s)] (w.drewN k) fun e w' => e = .returned (.int .i64 (cnt s : Int)) ∧ ∃ m, w' = w.drewN m :=
  (count_ok s _).mono fun _ _ ⟨h1, h2⟩ => ⟨h1, k, h2.symm⟩
set_option maxHeartbeats 1000000 in
theorem cmpN (D : List B) (p : Option Addr) (n c bx : Nat) (x y : Num n) (w : World) (hD : RowsAt w p n D) (hbox : w.cell? ⟨bx, 0, none⟩ = some (.slice p n c)) :
    Calls Tryd.prog 75 #[encN x, encN y, .pointer (some ⟨bx, 0, none⟩)] w fun e w' => e = .returned (.int .i64 (cfN D x y)) ∧ ∃ q, w' = w.drewN q := by
  obtain ⟨x, hx⟩ := x
  obtain ⟨y, hy⟩ := y
  have hbig := hD.big
  unfold maxLen at hbig
  obtain ⟨ad, rfl, _, hc1⟩ := hD.cell hx
  obtain ⟨ad', had, _, hc2⟩ := hD.cell hy
  injection had with had
  subst had
  have HV : Hid (cfN D (m := n) ⟨x, hx⟩ ⟨y, hy⟩ = (cnt (row D x) : Int) - (cnt (row D y) : Int)) := rfl
  have i1 : (0 : Int) ≤ (x : Int) := by omega
  have i2 : (x : Int) < (n : Int) := by omega
  have i3 : (0 : Int) ≤ (y : Int) := by omega
  have i4 : (y : Int) < (n : Int) := by omega
  have c1 := cnt_le (row D x)
  have c2 := cnt_le (row D y)
  show Calls Tryd.prog 75 #[.int .i64 (x : Int), .int .i64 (y : Int), .pointer (some ⟨bx, 0, none⟩)] w _
  rw [HV.out]
  clear HV hD
  generalize row D x = u at *
  generalize row D y = v at *
  have hw : IntKind.i64.wrap ((cnt u : Int) - (cnt v : Int)) = (cnt u : Int) - (cnt v : Int) := IntWalk.i64_in _ (by omega)
  go_enter Tryd.func75, Tryd.ntmps75
  go_wp2
  go_quiet ((go_at_call 24; exact count_quiet))
  go_wp2
  go_ret
  exact ⟨rfl, _, rfl⟩
/-- what row answers -/
def RowPost (D : List B) (k : Nat) (w : World) (e : Ending) (w' : World) : Prop :=
  ∃ (xs : List Nat) (g : Option Addr) (cg : Nat), e = .returned (.slice g xs.length cg) ∧ xs.Perm (lst (row D k)) ∧ xs.Pairwise (fun a b => cnt (row D a) ≤ cnt (row D b)) ∧ w'.ownsRow w.heap.size 3 1 (.slice g xs.length cg) xs.length (ints xs) ∧ Below w.heap.size w w'
theorem num_list {m : Nat} {xs : List Nat} (h : ∀ x ∈ xs, x < m) : ∃ ss : List (Num m), ss.map (fun x => x.1) = xs := by
  induction xs with
  | nil => exact ⟨[], rfl⟩
  | cons x xs ih =>
    obtain ⟨ss, hs⟩ := ih (fun y hy => h y (List.mem_cons_of_mem _ hy))
    exact ⟨⟨x, h x List.mem_cons_self⟩ :: ss, by show x :: List.map (fun x => x.1) ss = x :: xs; rw [hs]⟩
theorem enc_list {m : Nat} (ss : List (Num m)) : ss.map encN = ints (ss.map fun x => x.1) := by
  unfold ints; rw [List.map_map]; rfl
theorem sorted_list {D : List B} {m : Nat} [Inhabited (Num m)] {ts : List (Num m)} (h : SortedIn (ltOf (cfN D (m := m))) 0 ts.length ts.toArray) : (ts.map fun x => x.1).Pairwise (fun a b => cnt (row D a) ≤ cnt (row D b)) := by
  rw [List.pairwise_iff_getElem]
  intro i j hi hj hij
  simp only [List.length_map] at hi hj
  have := h i j (Nat.zero_le _) hij hj
  rw [ltN] at this
  simp only [List.getElem_map]
  have e1 : ts.toArray[i]! = ts[i] := by simp [hi]
  have e2 : ts.toArray[j]! = ts[j] := by simp [hj]
  rw [e1, e2] at this
  simpa using this
set_option maxHeartbeats 4000000 in
theorem row_ok (D : List B) (p : Option Addr) (n c k : Nat) (hk : k < n) (hin : ∀ j, has (row D k) j = true → j < n) (w : World) (hD : RowsAt w p n D) (hT : Tab w) :
    Calls Tryd.prog 64 #[.slice p n c, .int .i64 (k : Int)] w (RowPost D k w) := by
  have hb1 : Below w.heap.size w (w.alloc (.cells #[.slice p n c] 22)) := (Below.refl _ _).alloc (Nat.le_refl _) _
  have hD1 := hD.below hb1
  have hT1 := hT.below hb1
  have hbox : (w.alloc (.cells #[.slice p n c] 22)).cell? ⟨w.heap.size, 0, none⟩ = some (.slice p n c) := by simp
  obtain ⟨ad, rfl, _, hc⟩ := hD1.cell hk
  have hbig := hD.big
  unfold maxLen at hbig
  obtain ⟨x, hx⟩ : ∃ x, x = row D k := ⟨_, rfl⟩
  rw [← hx] at hc hin
  have HX := Lib.hid hx
  have HIN := Lib.hid hin
  clear hx hin
  go_enter Tryd.func64, Tryd.ntmps64
  go_wp2_with (go_at_call 16; refine (List_ok x _ hT1).mono ?_; rintro e w2 ⟨g, cl, rfl, hown, hb2⟩)
  have hlx := cnt_lst x
  have hcx := cnt_le x
  have hs1 : (w.alloc (.cells #[.slice (some ad) n c] 22)).heap.size = w.heap.size + 1 := by simp
  have HR : Hid (∀ xs : List Nat, xs.Perm (lst x) → xs.length = cnt x ∧ (cnt x = 0 → xs = [])) := fun xs hp => ⟨by rw [hp.length_eq, hlx], fun h0 => by
    have := hp.length_eq
    rw [← hlx, h0] at this
    exact List.length_eq_zero_iff.1 this⟩
  rcases hown.2 with ⟨hnil, hxs⟩ | ⟨g', cap, cur, hv, hbase, hb, h1, h2, h3, h4⟩
  · injection hnil with e1 e2 e3
    subst e1 e3
    have h0 : lst x = [] := List.length_eq_zero_iff.1 (by rw [← hlx]; exact e2)
    have H0 := Lib.hid h0
    have HB := Lib.hid (hb1.trans (hb2.mono (by rw [hs1]; omega)))
    rw [e2] at *
    have hcon := AnyF.slices_SortFunc_none { Tryd.laysSlF6_f74 with } none 0 (.func (.func 75) #[] #[.pointer (some ⟨w.heap.size, 0, none⟩)]) w2
    change Calls Tryd.prog 74 _ _ _ at hcon
    clear hown hxs h0 hD hD1 hT hT1 hbox hc hb1 hb2 hlx
    go_wp2_with (go_at_call 74; refine hcon.mono ?_; rintro e w' ⟨rfl, rfl⟩)
    go_ret
    exact ⟨[], none, 0, rfl, by rw [← HX.out, H0.out], List.Pairwise.nil, World.ownsRow_nil _ _ _ _, HB.out⟩
  · have hmem : ∀ y ∈ lst x, y < n := fun y hy => HIN.out y (mem_lst.1 hy)
    obtain ⟨ss, hss⟩ := num_list hmem
    haveI : Inhabited (Num n) := ⟨⟨k, hk⟩⟩
    injection hv with e1 e2 e3
    subst e1 e3
    have hsl : ss.length = cnt x := by rw [hlx, ← hss, List.length_map]
    have h4' : cur.toList.take ss.length = ss.map encN := by rw [enc_list, hss, hsl]; simpa using h4
    have hH : Holds encN w2 g' 0 ss.toArray := holds_own hb h4'
    have hgl : g' < w2.heap.size := (Array.getElem?_eq_some_iff.1 hb).1
    have hD2 : ∀ m os (dk : Array (Num n)), RowsAt (sortWorld encN w2 g' 0 m dk os) (some ad) n D := fun m os dk => hD1.below (hb2.grown (grown_sorted dk) hb2.size (fun j hj => by cases hj; exact hbase))
    have hx2 : ∀ m os (dk : Array (Num n)), (sortWorld encN w2 g' 0 m dk os).cell? ⟨w.heap.size, 0, none⟩ = some (.slice (some ad) n c) := fun m os dk => by
      rw [(hb2.grown (grown_sorted (enc := encN) (n := m) (os := os) dk) hb2.size (fun j hj => by cases hj; exact hbase)).cell (by rw [hs1]; simp)]
      exact hbox
    have hcmp : CmpReads Tryd.prog 75 #[.pointer (some ⟨w.heap.size, 0, none⟩)] encN (cfN D) g' 0 ss.toArray.size w2 := fun m os dk _ a b => cmpN D _ n c _ a b _ (hD2 m os dk) (hx2 m os dk)
    have eg : ∀ args w, (callFunc 75 args).run Tryd.prog w = .ok (.enter 75 args) w := enters_of Tryd.func75 (by kernel_rfl) rfl
    have hsz : ss.toArray.size = cnt x := by simpa using hsl
    have hcon := Tryd.slices_SortFunc_f74 encN (fun _ => rfl) (cfN D) (swoN D n) 75 #[.pointer (some ⟨w.heap.size, 0, none⟩)] g' 0 cl ss.toArray w2 eg hcmp.lays hH hgl (by rw [hsz]; omega)
    rw [hsz] at hcon
    have HCN := Lib.hid hcon
    have HSS := Lib.hid hss
    have HSL := Lib.hid hsl
    have HB2 := Lib.hid hb2
    have HHB := Lib.hid hb
    have HH := Lib.hid (And.intro h1 (And.intro h2 h3))
    clear hcon hss hsl hH hD2 hx2 hcmp eg hsz h4' h4 hmem hown hb hb2 hlx hD hD1 hT hT1 hbox hc h1 h2 h3
    go_wp2_with (go_at_call 74; refine HCN.out.mono ?_; rintro e w3 ⟨rfl, d', nd, os, hp, hso, rfl⟩; have HP := Lib.hid hp; have HSO := Lib.hid hso; clear hp hso)
    go_ret
    have hp := HP.out
    have hso := HSO.out
    have hds : d'.size = cnt x := by
      have := hp.1
      rw [this]; simpa using HSL.out
    have hdl : d'.toList.length = cnt x := by rw [Array.length_toList]; exact hds
    have hpm : d'.toList.Perm ss := by
      have h := hp.2.2
      have e1 : d'.extract 0 (cnt x) = d' := by rw [← hds]; simp
      have e2 : ss.toArray.extract 0 (cnt x) = ss.toArray := by
        have : ss.toArray.size = cnt x := by simpa using HSL.out
        rw [← this]; simp
      rw [e1, e2] at h
      simpa using h
    have hpp : (d'.toList.map fun x => x.1).Perm (lst x) := by rw [← HSS.out]; exact hpm.map _
    have hlen : (d'.toList.map fun x => x.1).length = cnt x := by rw [List.length_map]; exact hdl
    have hown3 := own_sorted (enc := encN) (n := nd) (os := os) (e := 3) (ts := d'.toList) hdl hbase HHB.out HH.out.1 HH.out.2.1 HH.out.2.2
    rw [Array.toArray_toList, enc_list] at hown3
    refine ⟨d'.toList.map fun x => x.1, some ⟨g', 0, none⟩, cl, by rw [hlen]; rfl, by rw [← HX.out]; exact hpp, sorted_list (by rw [hdl, Array.toArray_toList]; exact hso), ?_, ?_⟩
    · rw [hlen]; exact World.ownsRow.mono hown3 (by rw [hs1]; omega)
    · exact (hb1.trans (HB2.out.mono (by rw [hs1]; omega))).grown (grown_sorted d') (by have := HB2.out.size; rw [hs1] at this; omega) (fun j hj => by cases hj; rw [hs1] at hbase; omega)
end Go.Proofs.YtklikjjipoghlaaDoor
