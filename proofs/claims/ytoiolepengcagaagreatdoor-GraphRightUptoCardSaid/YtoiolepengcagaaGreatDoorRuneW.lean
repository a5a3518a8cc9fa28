/- strings.IndexRune of a rune beyond ASCII in two ASCII bytes. Conditions: none. -/
import Derived.Test.YtoiolepengcagaaGreatDoorShelf
import Derived.Laws.RangeAny
import Derived.Laws.Runes
import Derived.Deep.QuietTactic
import Derived.WalkMore
import Derived.BigQuiet
import Derived.Deep.LoopGhost
import Derived.Test.YtoiolepengcagaaGreatDoorStr
namespace Go.Proofs.YtoiolepengcagaaGreatDoor
open Go.RowKit
theorem enc_high (r : Nat) (h : 128 ≤ r) : (∃ a b : UInt8, Utf8.encode (r : Int) = ⟨#[a, b]⟩ ∧ 128 ≤ b.toNat) ∨ (∃ a b c : UInt8, Utf8.encode (r : Int) = ⟨#[a, b, c]⟩) ∨ (∃ a b c d : UInt8, Utf8.encode (r : Int) = ⟨#[a, b, c, d]⟩) := by
  unfold Utf8.encode
  simp only
  generalize hc : (if Utf8.valid (r : Int) then (r : Int).toNat else Utf8.runeError) = c
  have hc1 : 128 ≤ c := by
    rw [← hc]
    split
    · simpa using h
    · decide
  rw [if_neg (by omega)]
  split
  · refine .inl ⟨_, _, rfl, ?_⟩
    rw [UInt8.toNat_ofNat']
    omega
  · split
    · exact .inr (.inl ⟨_, _, _, rfl⟩)
    · exact .inr (.inr ⟨_, _, _, _, rfl⟩)
set_option maxHeartbeats 1000000 in
set_option maxRecDepth 1000000 in
theorem indexRune_other (x y : UInt8) (hy : y.toNat < 128) (r : Nat) (h1 : 128 ≤ r) (h2 : r ≤ 2147483647) (w : World) (hr : ¬ r = 65533) :
    Calls Tryz.prog 34 #[.string ⟨#[x, y]⟩, .int .i32 r] w fun e w' => e = .returned (.int .i64 (-1)) ∧ Below w.heap.size w w' := by
  have hn : ¬ ((r : Int) < 128) := by omega
  have hn2 : ((r : Int) == 65533) = false := beq_eq_false_iff_ne.2 (by omega)
  go_enter Tryz.func34, Tryz.ntmps34
  go_wp2_with fail
  refine (Tryz.utf8_ValidRune (r : Int) _).mono ?_
  cases hv : Lib.validRune (r : Int)
  all_goals rintro e w' ⟨rfl, rfl⟩
  · go_wp2
    go_ret
    exact ⟨rfl, Below.refl _ _⟩
  · rcases enc_high r h1 with ⟨a, b, he, hb⟩ | ⟨a, b, c, he⟩ | ⟨a, b, c, d, he⟩
    · have hcv : ∀ u : World, (convert 21 9 (.int .i32 (r : Int))).run Tryz.prog u = .ok (.string ⟨#[a, b]⟩) u := fun u => by
        rw [run_convert_int_string u _ _ _ _ (by rw [Tryz.underlying21]; rfl) Tryz.underlying9, he]
      have hbne : ((((⟨#[x, y]⟩ : ByteArray)[1]'(by show 1 < 2; decide)).toNat : Int) != (((⟨#[a, b]⟩ : ByteArray)[1]'(by show 1 < 2; decide)).toNat : Int)) = true := by
        show ((y.toNat : Int) != (b.toNat : Int)) = true
        rw [bne_iff_ne]; omega
      clear he
      have hw2 : IntKind.i64.wrap 2 = 2 := by decide
      have hie : ∀ c : UInt8, Lib.indexByte ByteArray.empty.data.toList c = -1 := fun c => rfl
      go_wp2
      go_step3
      go_wp2
      go_loop [9] (fun i => i = .int .i64 1) (fun _ => 0)
      case atStart => rfl
      case round =>
        subst hrel
        go_wp2
        go_step3
        go_wp2
        go_quiet (fail)
        go_wp2
        go_quiet ((go_at_call 69; refine (Tryz.strings_IndexByte _ _ _).mono ?_; rintro e w'' ⟨he, hw⟩; rw [hie] at he; exact ⟨he, _, hw⟩))
        go_wp2
        simp +zetaDelta only [Exit.noGoto_ret, Exit.inBlock, Exit.then]
        go_ret
        exact ⟨rfl, ⟨rfl, rfl, rfl, Nat.le_refl _, fun _ _ => rfl⟩⟩
    · have hcv : ∀ u : World, (convert 21 9 (.int .i32 (r : Int))).run Tryz.prog u = .ok (.string ⟨#[a, b, c]⟩) u := fun u => by
        rw [run_convert_int_string u _ _ _ _ (by rw [Tryz.underlying21]; rfl) Tryz.underlying9, he]
      clear he
      go_wp2
      go_step3
      go_wp2
      go_loop [9] (fun i => i = .int .i64 2) (fun _ => 0)
      case atStart => rfl
      case round =>
        subst hrel
        go_wp2
        go_ret
        exact ⟨rfl, Below.refl _ _⟩
    · have hcv : ∀ u : World, (convert 21 9 (.int .i32 (r : Int))).run Tryz.prog u = .ok (.string ⟨#[a, b, c, d]⟩) u := fun u => by
        rw [run_convert_int_string u _ _ _ _ (by rw [Tryz.underlying21]; rfl) Tryz.underlying9, he]
      clear he
      go_wp2
      go_step3
      go_wp2
      go_loop [9] (fun i => i = .int .i64 3) (fun _ => 0)
      case atStart => rfl
      case round =>
        subst hrel
        go_wp2
        go_ret
        exact ⟨rfl, Below.refl _ _⟩
theorem bytes2_at (x y : UInt8) {i : Nat} (hi : i < 2) : ∃ h : i < (⟨#[x, y]⟩ : ByteArray).size, ((⟨#[x, y]⟩ : ByteArray)[i] = x ∨ (⟨#[x, y]⟩ : ByteArray)[i] = y) := by
  match i, hi with
  | 0, _ => exact ⟨by show 0 < 2; decide, .inl rfl⟩
  | 1, _ => exact ⟨by show 1 < 2; decide, .inr rfl⟩
set_option maxHeartbeats 1000000 in
set_option maxRecDepth 1000000 in
theorem indexRune_err (x y : UInt8) (hx : x.toNat < 128) (hy : y.toNat < 128) (w : World) :
    Calls Tryz.prog 34 #[.string ⟨#[x, y]⟩, .int .i32 65533] w fun e w' => e = .returned (.int .i64 (-1)) ∧ Below w.heap.size w w' := by
  have hsz : (⟨#[x, y]⟩ : ByteArray).size = 2 := rfl
  obtain ⟨s, hs⟩ : ∃ s : ByteArray, s = ⟨#[x, y]⟩ := ⟨_, rfl⟩
  rw [← hs] at hsz ⊢
  have HA : Hid (∀ i (h : i < s.size), s[i].toNat < 128) := by
    show ∀ i (h : i < s.size), _
    intro i h
    subst hs
    obtain ⟨_, e | e⟩ := bytes2_at x y (i := i) (by omega)
    · rw [e]; exact hx
    · rw [e]; exact hy
  clear hs hx hy hsz
  go_enter Tryz.func34, Tryz.ntmps34
  go_wp2_with fail
  go_loopg [5, 6] s.size (fun g _ _ wx => ∃ i : Nat, i + g = s.size ∧ wx = w.iter s i)
  case atStart => exact ⟨0, by omega, rfl⟩
  case round =>
    obtain ⟨i, hig, rfl⟩ := hrel
    cases gk with
    | zero =>
      obtain rfl : i = s.size := by omega
      have hnx := run_next_end (P := Tryz.prog) w s s.size
      go_wp2
      go_ret
      exact ⟨rfl, (Below.refl _ _).alloc (Nat.le_refl _) _⟩
    | succ g =>
      have hi : i < s.size := by omega
      have hx128 := HA.out i hi
      have hnx := fun ty => run_next_ascii (P := Tryz.prog) w s i ty hi hx128
      have hne : (((s[i].toNat : Nat) : Int) == 65533) = false := beq_eq_false_iff_ne.2 (by omega)
      go_wp2
      go_roundg g
      case measure => omega
      case rel => exact ⟨i + 1, by omega, rfl⟩
theorem indexRune_none (x y : UInt8) (hx : x.toNat < 128) (hy : y.toNat < 128) (r : Nat) (h1 : 128 ≤ r) (h2 : r ≤ 2147483647) (w : World) :
    Calls Tryz.prog 34 #[.string ⟨#[x, y]⟩, .int .i32 r] w fun e w' => e = .returned (.int .i64 (-1)) ∧ Below w.heap.size w w' := by
  by_cases hr : r = 65533
  · subst hr; exact indexRune_err x y hx hy w
  · exact indexRune_other x y hy r h1 h2 w hr
end Go.Proofs.YtoiolepengcagaaGreatDoor
