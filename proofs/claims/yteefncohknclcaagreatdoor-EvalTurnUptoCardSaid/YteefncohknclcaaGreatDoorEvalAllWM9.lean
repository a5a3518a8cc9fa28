/- Texts joined: PatW, AskCheckW, AskTextP, AskTextW, AskText2W. Conditions: theirs. -/
import Derived.Test.YteefncohknclcaaGreatDoorPatP
import Derived.Test.YteefncohknclcaaGreatDoorEvalAllWM8
import Derived.Lib.MapLaws
import Derived.Lib.TrimAscii
import Derived.Shelf.Strings.MapGrows
import Derived.Laws.RangeAny
import Derived.Laws.Runes
import Derived.Deep.QuietTactic
import Derived.WalkMore
import Derived.BigQuiet
import Derived.Deep.LoopGhost
import Derived.Deep.DeepCutAuto
import Derived.Test.YteefncohknclcaaGreatDoorEvalAllWM7
import Derived.Test.YteefncohknclcaaGreatDoorStrs
import Derived.WalkSmall
import Derived.StillTailTactics
import Derived.Deep.RegionWith
namespace Go.Proofs.YteefncohknclcaaGreatDoor
open Go.RowKit Go.Shelf
def specB : ByteArray := ⟨#[42, 63, 91, 93, 33, 92]⟩
theorem enc_tail (r : Nat) (h : 128 ≤ r) : (∃ a b : UInt8, Utf8.encode (r : Int) = ⟨#[a, b]⟩ ∧ 128 ≤ b.toNat) ∨ (∃ a b c : UInt8, Utf8.encode (r : Int) = ⟨#[a, b, c]⟩ ∧ 128 ≤ c.toNat) ∨ (∃ a b c d : UInt8, Utf8.encode (r : Int) = ⟨#[a, b, c, d]⟩ ∧ 128 ≤ d.toNat) := by
  unfold Utf8.encode
  simp only
  generalize hc : (if Utf8.valid (r : Int) then (r : Int).toNat else Utf8.runeError) = c
  have hc1 : 128 ≤ c := by
    rw [← hc]
    split
    · simpa using h
    · decide
  rw [if_neg (by omega)]
  split
  · refine .inl ⟨_, _, rfl, ?_⟩
    rw [UInt8.toNat_ofNat']
    omega
  · split
    · refine .inr (.inl ⟨_, _, _, rfl, ?_⟩)
      rw [UInt8.toNat_ofNat']
      omega
    · refine .inr (.inr ⟨_, _, _, _, rfl, ?_⟩)
      rw [UInt8.toNat_ofNat']
      omega
theorem indexByte_none {l : List UInt8} {c : UInt8} (h : c ∉ l) : Lib.indexByte l c = -1 := by
  have := indexByte_ge l c
  have h2 : ¬ 0 ≤ Lib.indexByte l c := fun e => h (this.2.1 e)
  omega
theorem spec_ascii : ∀ i (h : i < specB.size), specB[i].toNat < 128 := by decide
theorem spec_tail (k : Nat) (c : UInt8) (hc : 128 ≤ c.toNat) : Lib.indexByte (specB.extract k specB.size).data.toList c = -1 := by
  rw [ba_drop]
  refine indexByte_none fun hm => ?_
  have hm2 := List.mem_of_mem_drop hm
  have : ∀ x ∈ specB.data.toList, x.toNat < 128 := by decide
  have := this c hm2
  omega
set_option maxHeartbeats 2000000 in
set_option maxRecDepth 1000000 in
theorem indexRune_far (r : Nat) (h1 : 128 ≤ r) (h2 : r ≤ 2147483647) (w : World) (hr : ¬ r = 65533) :
    Calls Tryz.prog 151 #[.string specB, .int .i32 r] w fun e w' => e = .returned (.int .i64 (-1)) ∧ Below w.heap.size w w' := by
  have hn : ¬ ((r : Int) < 128) := by omega
  have hn2 : ((r : Int) == 65533) = false := beq_eq_false_iff_ne.2 (by omega)
  have hsz : specB.size = 6 := rfl
  go_enter Tryz.func151, Tryz.ntmps151
  go_wp2_with fail
  refine (Tryz.utf8_ValidRune (r : Int) _).mono ?_
  cases hv : Lib.validRune (r : Int)
  all_goals rintro e w' ⟨rfl, rfl⟩
  · go_wp2
    go_ret
    exact ⟨rfl, Below.refl _ _⟩
  · rcases enc_tail r h1 with ⟨a, b, he, hb⟩ | ⟨a, b, c, he, hb⟩ | ⟨a, b, c, d, he, hb⟩
    · have hcv : ∀ u : World, (convert 21 9 (.int .i32 (r : Int))).run Tryz.prog u = .ok (.string ⟨#[a, b]⟩) u := fun u => by
        rw [run_convert_int_string u _ _ _ _ (by rw [Tryz.underlying21]; rfl) Tryz.underlying9, he]
      have hbne : (((specB[1]'(by decide)).toNat : Int) != (((⟨#[a, b]⟩ : ByteArray)[1]'(by show 1 < 2; decide)).toNat : Int)) = true := by
        show ((63 : Int) != (b.toNat : Int)) = true
        rw [bne_iff_ne]; omega
      have hie := spec_tail 2 b hb
      rw [hsz] at hie
      have hbk : ((((⟨#[a, b]⟩ : ByteArray)[1]'(by show 1 < 2; decide)).toNat : Int).toNat.toUInt8) = b := byte_back b
      clear he
      have hw2 : IntKind.i64.wrap 2 = 2 := by decide
      go_wp2
      go_step3
      go_wp2
      go_loop [9] (fun i => i = .int .i64 1) (fun _ => 0)
      case atStart => rfl
      case round =>
        subst hrel
        go_wp2
        go_step3
        go_wp2
        go_quiet (fail)
        go_wp2
        go_quiet ((go_at_call 152; refine (Tryz.strings_IndexByte _ _ _).mono ?_; rintro e w'' ⟨he, hw⟩; rw [hbk, hie] at he; exact ⟨he, _, hw⟩))
        go_wp2
        simp +zetaDelta only [Exit.noGoto_ret, Exit.inBlock, Exit.then]
        go_ret
        exact ⟨rfl, ⟨rfl, rfl, rfl, Nat.le_refl _, fun _ _ => rfl⟩⟩
    · have hcv : ∀ u : World, (convert 21 9 (.int .i32 (r : Int))).run Tryz.prog u = .ok (.string ⟨#[a, b, c]⟩) u := fun u => by
        rw [run_convert_int_string u _ _ _ _ (by rw [Tryz.underlying21]; rfl) Tryz.underlying9, he]
      have hbne : (((specB[2]'(by decide)).toNat : Int) != (((⟨#[a, b, c]⟩ : ByteArray)[2]'(by show 2 < 3; decide)).toNat : Int)) = true := by
        show ((91 : Int) != (c.toNat : Int)) = true
        rw [bne_iff_ne]; omega
      have hie := spec_tail 3 c hb
      rw [hsz] at hie
      have hbk : ((((⟨#[a, b, c]⟩ : ByteArray)[2]'(by show 2 < 3; decide)).toNat : Int).toNat.toUInt8) = c := byte_back c
      clear he
      have hw2 : IntKind.i64.wrap 3 = 3 := by decide
      go_wp2
      go_step3
      go_wp2
      go_loop [9] (fun i => i = .int .i64 2) (fun _ => 0)
      case atStart => rfl
      case round =>
        subst hrel
        go_wp2
        go_step3
        go_wp2
        go_quiet (fail)
        go_wp2
        go_quiet ((go_at_call 152; refine (Tryz.strings_IndexByte _ _ _).mono ?_; rintro e w'' ⟨he, hw⟩; rw [hbk, hie] at he; exact ⟨he, _, hw⟩))
        go_wp2
        simp +zetaDelta only [Exit.noGoto_ret, Exit.inBlock, Exit.then]
        go_ret
        exact ⟨rfl, ⟨rfl, rfl, rfl, Nat.le_refl _, fun _ _ => rfl⟩⟩
    · have hcv : ∀ u : World, (convert 21 9 (.int .i32 (r : Int))).run Tryz.prog u = .ok (.string ⟨#[a, b, c, d]⟩) u := fun u => by
        rw [run_convert_int_string u _ _ _ _ (by rw [Tryz.underlying21]; rfl) Tryz.underlying9, he]
      have hbne : (((specB[3]'(by decide)).toNat : Int) != (((⟨#[a, b, c, d]⟩ : ByteArray)[3]'(by show 3 < 4; decide)).toNat : Int)) = true := by
        show ((93 : Int) != (d.toNat : Int)) = true
        rw [bne_iff_ne]; omega
      have hie := spec_tail 4 d hb
      rw [hsz] at hie
      have hbk : ((((⟨#[a, b, c, d]⟩ : ByteArray)[3]'(by show 3 < 4; decide)).toNat : Int).toNat.toUInt8) = d := byte_back d
      clear he
      have hw2 : IntKind.i64.wrap 4 = 4 := by decide
      go_wp2
      go_step3
      go_wp2
      go_loop [9] (fun i => i = .int .i64 3) (fun _ => 0)
      case atStart => rfl
      case round =>
        subst hrel
        go_wp2
        go_step3
        go_wp2
        go_quiet (fail)
        go_wp2
        go_quiet ((go_at_call 152; refine (Tryz.strings_IndexByte _ _ _).mono ?_; rintro e w'' ⟨he, hw⟩; rw [hbk, hie] at he; exact ⟨he, _, hw⟩))
        go_wp2
        simp +zetaDelta only [Exit.noGoto_ret, Exit.inBlock, Exit.then]
        go_ret
        exact ⟨rfl, ⟨rfl, rfl, rfl, Nat.le_refl _, fun _ _ => rfl⟩⟩
set_option maxHeartbeats 1000000 in
set_option maxRecDepth 1000000 in
theorem indexRune_bad (w : World) : Calls Tryz.prog 151 #[.string specB, .int .i32 65533] w fun e w' => e = .returned (.int .i64 (-1)) ∧ Below w.heap.size w w' := by
  obtain ⟨s, hs⟩ : ∃ s : ByteArray, s = specB := ⟨_, rfl⟩
  have HA : Hid (∀ i (h : i < s.size), s[i].toNat < 128) := by
    show ∀ i (h : i < s.size), _
    intro i h
    subst hs
    exact spec_ascii i h
  rw [← hs]
  clear hs
  go_enter Tryz.func151, Tryz.ntmps151
  go_wp2_with fail
  go_loopg [5, 6] s.size (fun g _ _ wx => ∃ i : Nat, i + g = s.size ∧ wx = w.iter s i)
  case atStart => exact ⟨0, by omega, rfl⟩
  case round =>
    obtain ⟨i, hig, rfl⟩ := hrel
    cases gk with
    | zero =>
      obtain rfl : i = s.size := by omega
      have hnx := run_next_end (P := Tryz.prog) w s s.size
      go_wp2
      go_ret
      exact ⟨rfl, (Below.refl _ _).alloc (Nat.le_refl _) _⟩
    | succ g =>
      have hi : i < s.size := by omega
      have hx128 := HA.out i hi
      have hnx := fun ty => run_next_ascii (P := Tryz.prog) w s i ty hi hx128
      have hne : (((s[i].toNat : Nat) : Int) == 65533) = false := beq_eq_false_iff_ne.2 (by omega)
      go_wp2
      go_roundg g
      case measure => omega
      case rel => exact ⟨i + 1, by omega, rfl⟩
/-- is a rune one of the signs of a pattern? -/
def specR (r : Nat) : Bool := r == 42 || r == 63 || r == 91 || r == 93 || r == 33 || r == 92
theorem specR_ascii : ∀ r : Fin 128, decide (0 ≤ Lib.indexByte specB.data.toList (r.1 : Int).toNat.toUInt8) = specR r.1 := by decide +kernel
theorem specR_far {r : Nat} (h : 128 ≤ r) : specR r = false := by
  unfold specR
  simp only [Bool.or_eq_false_iff, beq_eq_false_iff_ne]
  omega
set_option maxHeartbeats 1000000 in
theorem containsR_ok (r : Nat) (h2 : r ≤ 1114111) (w : World) : Calls Tryz.prog 123 #[.string specB, .int .i32 r] w fun e w' => e = .returned (.bool (specR r)) ∧ Below w.heap.size w w' := by
  rcases Nat.lt_or_ge r 128 with h | h
  · refine (Tryz.strings_ContainsRune_ascii specB (r : Int) w (by omega) (by omega)).mono ?_
    rintro e w' ⟨rfl, rfl⟩
    have := specR_ascii ⟨r, h⟩
    simp only at this
    exact ⟨by rw [this], Below.refl _ _⟩
  · have hs := specR_far h
    have hf : Calls Tryz.prog 151 #[.string specB, .int .i32 r] w fun e w' => e = .returned (.int .i64 (-1)) ∧ Below w.heap.size w w' := by
      by_cases h3 : r = 65533
      · subst h3; exact indexRune_bad w
      · exact indexRune_far r h (by omega) w h3
    have HF := Lib.hid hf
    clear hf h2 h
    go_enter Tryz.func123, Tryz.ntmps123
    go_wp2_with (go_at_call 151; refine HF.out.mono ?_; rintro e w1 ⟨rfl, hb⟩; have HB := Lib.hid hb; clear hb)
    go_ret
    exact ⟨by rw [hs]; rfl, HB.out⟩
/-- a rune of a pattern, as one of a name -/
def plainR (c : Int) : Int := if specR c.toNat then 97 else c
set_option maxHeartbeats 1000000 in
theorem mapR_ok (r : Nat) (h2 : r ≤ 1114111) (w : World) : Calls Tryz.prog 122 #[.int .i32 r] w fun e w' => e = .returned (.int .i32 (plainR r)) ∧ Below w.heap.size w w' := by
  have HC := Lib.hid (fun u => containsR_ok r h2 u)
  have hp : plainR (r : Int) = if specR r then 97 else (r : Int) := rfl
  cases hs : specR r
  · rw [hs] at hp
    have HP : Hid (plainR (r : Int) = (r : Int)) := hp
    have HS := Lib.hid hs
    clear hp hs
    go_enter Tryz.func122, Tryz.ntmps122
    go_wp2_with (go_at_call 123; refine (HC.out _).mono ?_; rw [HS.out]; rintro e w1 ⟨rfl, hb⟩; have HB := Lib.hid hb; clear hb)
    go_ret
    exact ⟨by rw [HP.out]; rfl, HB.out⟩
  · rw [hs] at hp
    have HP : Hid (plainR (r : Int) = 97) := hp
    have HS := Lib.hid hs
    clear hp hs
    go_enter Tryz.func122, Tryz.ntmps122
    go_wp2_with (go_at_call 123; refine (HC.out _).mono ?_; rw [HS.out]; rintro e w1 ⟨rfl, hb⟩; have HB := Lib.hid hb; clear hb)
    go_ret
    exact ⟨by rw [HP.out]; rfl, HB.out⟩
theorem sign_low {c : UInt8} (h : signC c = true ∨ starC c = true) : c.toNat < 128 := by
  have key : ∀ n : Fin 256, (signC (UInt8.ofNat n.1) = true ∨ starC (UInt8.ofNat n.1) = true) → n.1 < 128 := by decide +kernel
  have h2 : UInt8.ofNat c.toNat = c := by simp
  have := key ⟨c.toNat, c.toNat_lt⟩
  rw [h2] at this
  exact this h
theorem star_spec (c : UInt8) : starC c = specR c.toNat := by
  have key : ∀ n : Fin 256, starC (UInt8.ofNat n.1) = specR n.1 := by decide +kernel
  have h2 : UInt8.ofNat c.toNat = c := by simp
  have := key ⟨c.toNat, c.toNat_lt⟩
  rwa [h2] at this
theorem decode_far {c : UInt8} {t : List UInt8} (h : 128 ≤ c.toNat) : 128 ≤ (Lib.decodeL (c :: t)).1 := by
  rw [Lib.decodeL_N]
  have e : ((c :: t).getD 0 0).toNat = c.toNat := rfl
  rw [e]
  generalize ((c :: t).getD 1 0).toNat = b1
  generalize ((c :: t).getD 2 0).toNat = b2
  generalize ((c :: t).getD 3 0).toNat = b3
  generalize (c :: t).length = n
  unfold Lib.decodeN
  rw [if_neg (by omega)]
  (repeat' split) <;> simp <;> omega
theorem encode_far {r : Int} (h : 128 ≤ r) : ∃ a l, Lib.encodeRune r = a :: l ∧ 128 ≤ a.toNat := by
  have hb : ∀ z : Int, 128 ≤ z → z < 256 → 128 ≤ (z.toNat.toUInt8).toNat := by
    intro z h1 h2
    have : (z.toNat.toUInt8).toNat = z.toNat % 256 := UInt8.toNat_ofNat'
    omega
  unfold Lib.encodeRune Lib.encodeRuneZ
  rw [if_neg (by omega)]
  split
  · exact ⟨_, _, rfl, hb _ (by omega) (by omega)⟩
  split
  · exact ⟨_, _, rfl, hb _ (by omega) (by omega)⟩
  split
  · exact ⟨_, _, rfl, hb _ (by omega) (by omega)⟩
  · exact ⟨_, _, rfl, hb _ (by omega) (by omega)⟩
theorem plain_nonneg (x : Nat) : 0 ≤ plainR (x : Int) := by unfold plainR; split <;> omega
theorem map_all : ∀ (n : Nat) (l : List UInt8), l.length ≤ n → (Lib.mapD plainR l).all signC = l.all (fun c => signC c || starC c) := by
  intro n
  induction n with
  | zero =>
    intro l h
    obtain rfl := List.length_eq_zero_iff.1 (Nat.le_zero.1 h)
    rfl
  | succ n ih =>
    intro l h
    cases l with
    | nil => rfl
    | cons c t =>
      rw [Lib.mapD_step plainR (c :: t) (by simp)]
      rw [if_pos (plain_nonneg _)]
      rcases Nat.lt_or_ge c.toNat 128 with hc | hc
      · rw [Lib.decodeL_ascii c t hc]
        show (Lib.encodeRune (plainR (c.toNat : Int)) ++ Lib.mapD plainR t).all signC = _
        rw [List.all_append, ih t (by simpa using h), List.all_cons]
        congr 1
        have hs := star_spec c
        unfold plainR
        rw [show ((c.toNat : Int)).toNat = c.toNat from rfl]
        cases hp : specR c.toNat
        · rw [hp] at hs
          rw [hs, Bool.or_false]
          show (Lib.encodeRune (c.toNat : Int)).all signC = _
          unfold Lib.encodeRune
          rw [Lib.encodeRuneZ_one (by omega) (by omega)]
          show (signC ((c.toNat : Int).toNat.toUInt8) && true) = _
          rw [byte_back, Bool.and_true]
        · rw [hp] at hs
          rw [hs, Bool.or_true]
          rfl
      · have hns : signC c = false ∧ starC c = false := by
          constructor
          · cases hh : signC c
            · rfl
            · have := sign_low (.inl hh); omega
          · cases hh : starC c
            · rfl
            · have := sign_low (.inr hh); omega
        rw [List.all_cons, hns.1, hns.2]
        have hd := decode_far (t := t) hc
        have hsp := specR_far hd
        have hpl : plainR ((Lib.decodeL (c :: t)).1 : Int) = ((Lib.decodeL (c :: t)).1 : Int) := by
          unfold plainR
          rw [show (((Lib.decodeL (c :: t)).1 : Nat) : Int).toNat = (Lib.decodeL (c :: t)).1 from rfl, hsp]
          rfl
        rw [hpl]
        obtain ⟨a, l, he, ha⟩ := encode_far (r := ((Lib.decodeL (c :: t)).1 : Int)) (by omega)
        rw [he, List.cons_append, List.all_cons]
        have : signC a = false := by
          cases hh : signC a
          · rfl
          · have := sign_low (.inl hh); omega
        rw [this]
        rfl
def strLen : Value → Nat
  | .string x => x.size
  | _ => 0
/-- the tables that the walks of asks read -/
structure AskTabs (w : World) : Prop where
  forms : Forms w
  utf : Lib.Utf8Tabs 3 4 w
theorem Utf.below {g3 g4 : Nat} {w w' : World} (h : Lib.Utf8Tabs g3 g4 w) (hb : Below w.heap.size w w') : Lib.Utf8Tabs g3 g4 w' := by
  have lt : ∀ {g o : Nat} {v : Value}, w.cell? ⟨g, o, none⟩ = some v → g < w.heap.size := by
    intro g o v hv
    rcases Nat.lt_or_ge g w.heap.size with hlt | hge
    · exact hlt
    · unfold World.cell? at hv
      simp [Array.getElem?_eq_none hge] at hv
  refine ⟨fun c hc => ?_, fun i hi => ?_⟩
  · have := h.1 c hc
    exact (hb.cell (lt this)).trans this
  · obtain ⟨h1, h2⟩ := h.2 i hi
    exact ⟨(hb.cell (lt h1)).trans h1, (hb.cell (lt h2)).trans h2⟩
theorem AskTabs.below {w w' : World} (h : AskTabs w) (hb : Below w.heap.size w w') : AskTabs w' := ⟨h.forms.below hb, Utf.below h.utf hb⟩
set_option maxHeartbeats 4000000 in
set_option maxRecDepth 100000 in
theorem pattern_ok (s : ByteArray) (hs : s.size ≤ 1048576) (w : World) (hT : AskTabs w) : Calls Tryz.prog 82 #[.string s] w fun e w' => e = .returned (.bool (qpat s.data.toList)) ∧ Below w.heap.size w w' := by
  have hmap := Tryz.strings_Map_grows 122 #[] (enters_of Tryz.func122 (by kernel_rfl) rfl) plainR s w (by omega) (fun W x hx _ => mapR_ok x hx W) (fun x hx => by have := plain_nonneg x; unfold plainR at this ⊢; split <;> omega) hT.utf
  have hall := map_all _ s.data.toList (Nat.le_refl _)
  obtain ⟨m, hm⟩ : ∃ m : ByteArray, (⟨(Lib.mapD plainR s.data.toList).toArray⟩ : ByteArray) = m := ⟨_, rfl⟩
  have hml : m.data.toList = Lib.mapD plainR s.data.toList := by rw [← hm]
  rw [hm] at hmap
  rw [← hml] at hall
  have HM := Lib.hid hmap
  have HALL := Lib.hid hall
  have HG := Lib.hid (fun u => CheckG_ok s (by omega) u)
  have HQ : Hid (qpat s.data.toList = (s.data.toList.all (fun c => signC c || starC c) && decide (pE s.data.toList = 0))) := rfl
  clear hmap hall hm hml hT
  go_enter Tryz.func82, Tryz.ntmps82
  go_wp2_with (go_at_call 121; refine HM.out.mono ?_; rintro e w1 ⟨rfl, hb1⟩; have HB1 := Lib.hid hb1; clear hb1)
  go_loop [3] (fun pv => ∃ (x : ByteArray) (k : Nat), pv = .string x ∧ Hid (x.data.toList = m.data.toList.drop k) ∧ Hid ((m.data.toList.take k).all signC = true)) (fun pv => strLen pv)
  case atStart => exact ⟨m, 0, rfl, rfl, rfl⟩
  case round =>
    obtain ⟨x, k, rfl, HX, HA⟩ := hrel
    have hxl := ba_len x
    by_cases hx0 : x.size = 0
    · have he : x = ⟨#[]⟩ := empty_eq hx0
      subst he
      have hAll : m.data.toList.all signC = true := by
        have h1 := HX.out
        have h2 := HA.out
        have h3 : m.data.toList = m.data.toList.take k := by
          have := List.take_append_drop k m.data.toList
          rw [← h1] at this
          simpa using this.symm
        rw [h3]; exact h2
      have HV : Hid (qpat s.data.toList = decide (pE s.data.toList = 0)) := by
        show _ = _
        rw [HQ.out, ← HALL.out, hAll, Bool.true_and]
      obtain ⟨E, hE⟩ : ∃ E, pE s.data.toList = E := ⟨_, rfl⟩
      rw [hE] at HV HG
      clear hAll hE hxl hx0
      by_cases h0 : E = 0
      · subst h0
        go_wp2_with (go_at_call 124; refine (HG.out _).mono ?_; rintro e w2 ⟨rfl, hb2⟩; have HB2 := Lib.hid (HB1.out.trans (hb2.mono HB1.out.size)); clear hb2)
        go_ret
        exact ⟨by rw [HV.out]; rfl, HB2.out⟩
      · obtain ⟨i1, i2⟩ := int_ne' h0
        have HD : Hid (decide (E = 0) = false) := decide_eq_false h0
        clear h0
        go_wp2_with (go_at_call 124; refine (HG.out _).mono ?_; rintro e w2 ⟨rfl, hb2⟩; have HB2 := Lib.hid (HB1.out.trans (hb2.mono HB1.out.size)); clear hb2)
        go_ret
        exact ⟨by rw [HV.out, HD.out]; rfl, HB2.out⟩
    · have hxe : x.toList.isEmpty = false := by
        rw [Lib.toList_data]
        cases hl : x.data.toList with
        | nil => rw [hl] at hxl; exact absurd hxl.symm hx0
        | cons a l => rfl
      obtain ⟨n, hn⟩ : ∃ n, n = min x.size 40 := ⟨_, rfl⟩
      have hn1 : n ≤ x.size := by omega
      have hn2 : n ≤ 40 := by omega
      have hn3 : 0 < n := by omega
      have hmin : min (x.size : Int) 40 = (n : Int) := by omega
      have hsz : (x.extract 0 n).size = n := by rw [ByteArray.size_extract]; omega
      have hdl : (x.extract 0 n).data.toList = x.data.toList.take n := Lib.extract_from_zero x n
      have hcheck := fun u => CheckN_ok (x.extract 0 n) (by omega) u
      have hnE : nameE (x.extract 0 n) = if (x.data.toList.take n).all signC then 0 else 3 := by
        unfold nameE
        rw [if_neg (by omega), hdl]
      have hnext : m.data.toList.take (k + n) = m.data.toList.take k ++ x.data.toList.take n := by rw [HX.out, List.take_add]
      cases hal : (x.data.toList.take n).all signC
      · rw [hal] at hnE
        have HNE : Hid (nameE (x.extract 0 n) = 3) := hnE
        have HC := Lib.hid hcheck
        have HV : Hid (qpat s.data.toList = false) := by
          show _ = _
          rw [HQ.out, ← HALL.out]
          have : m.data.toList.all signC = false := by
            have h2 := List.take_append_drop (k + n) m.data.toList
            rw [← h2, List.all_append, hnext, List.all_append, hal]
            simp
          rw [this, Bool.false_and]
        clear hal hnE hcheck hnext hsz hdl hn hxl hx0
        go_wp2_with (go_at_call 83; refine (HC.out _).mono ?_; rw [HNE.out]; rintro e w2 ⟨rfl, rfl⟩)
        go_ret
        exact ⟨by rw [HV.out]; rfl, HB1.out⟩
      · rw [hal] at hnE
        have HNE : Hid (nameE (x.extract 0 n) = 0) := hnE
        have HC := Lib.hid hcheck
        have HA2 : Hid ((m.data.toList.take (k + n)).all signC = true) := by
          show _ = _
          rw [hnext, List.all_append, HA.out, hal]; rfl
        have HX2 : Hid ((x.extract n x.size).data.toList = m.data.toList.drop (k + n)) := by
          show _ = _
          rw [ba_drop, HX.out, List.drop_drop]
        have HSZ : Hid ((x.extract n x.size).size < x.size) := by
          show _ < _
          rw [ByteArray.size_extract]; omega
        clear hal hnE hcheck hnext hsz hdl hn hxl hx0
        go_wp2_with (go_at_call 83; refine (HC.out _).mono ?_; rw [HNE.out]; rintro e w2 ⟨rfl, rfl⟩)
        go_round
        case rel => exact ⟨_, k + n, rfl, HX2.out, HA2.out⟩
        case measure => exact HSZ.out
end Go.Proofs.YteefncohknclcaaGreatDoor
namespace Go.Proofs.YteefncohknclcaaGreatDoor
open Go.RowKit
theorem isEmpty_of {s : ByteArray} (h : s.data.toList = []) : s.toList.isEmpty = true := by rw [Lib.toList_data, h]; rfl
theorem isEmpty_no {s : ByteArray} (h : s.data.toList ≠ []) : s.toList.isEmpty = false := by
  rw [Lib.toList_data]
  cases hl : s.data.toList with
  | nil => exact absurd hl h
  | cons a l => rfl
/-- the error of the first k of a list -/
theorem qchks_take {l : List QT} {k : Nat} {x : QT} (h : l[k]? = some x) (h0 : ∀ i y, i < k → l[i]? = some y → qchk qpat (qabs y) = 0) (hx : qchk qpat (qabs x) ≠ 0) : qchks qpat (qabss l) = qchk qpat (qabs x) := by
  induction l generalizing k with
  | nil => simp at h
  | cons y l ih =>
    show qchks qpat (qabs y :: qabss l) = _
    unfold qchks
    cases k with
    | zero =>
      simp only [List.getElem?_cons_zero, Option.some.injEq] at h
      subst h
      rw [if_pos hx]
    | succ k =>
      rw [if_neg (by simpa using h0 0 y (by omega) rfl)]
      exact ih (by simpa using h) fun i z hi hz => h0 (i + 1) z (by omega) (by simpa using hz)
theorem qchks_all {l : List QT} (h : ∀ (i : Nat) y, l[i]? = some y → qchk qpat (qabs y) = 0) : qchks qpat (qabss l) = 0 := by
  rw [qchks_zero, qabss_map]
  intro x hx
  obtain ⟨y, hy, rfl⟩ := List.mem_map.1 hx
  obtain ⟨i, hi, e⟩ := List.getElem_of_mem hy
  exact h i y (by rw [List.getElem?_eq_getElem hi, e])
/-- an ask by its parts -/
theorem qchk_parts {k : Int} {s : ByteArray} {n : Int} {p : Option Addr} {c : Nat} {xs : List QT} : qchk qpat (qabs (.mk k s n p c xs)) = if qnodeE qpat k s.data.toList n xs.length ≠ 0 then qnodeE qpat k s.data.toList n xs.length else qchks qpat (qabss xs) := by
  show qchk qpat (.mk k s.data.toList n (qabss xs)) = _
  rw [qchk, qabss_len]
def CheckPost (t : QT) (w : World) (e : Ending) (w' : World) : Prop := e = .returned (.int .i64 (qchk qpat (qabs t))) ∧ Below w.heap.size w w'
set_option maxHeartbeats 8000000 in
set_option maxRecDepth 100000 in
theorem check_ok : ∀ (t : QT) (w : World), QIn w t → AskTabs w → Calls Tryz.prog 54 #[t.v] w (CheckPost t w) := by
  intro t
  induction t using QT.ind with
  | h k s n p c xs ih =>
    intro w hq hT
    have IH := Lib.hid ih
    have HK : Hid (QsIn w p 0 xs) := hq.kids
    have hsm := hq.small.2
    have hss : s.size ≤ 1048576 := hq.small.1
    have hxl : xs.length ≤ 1048576 := hsm.2
    have HCN := Lib.hid (@qchk_parts k s n p c xs)
    clear ih hq hsm
    obtain ⟨W, hW, hBW, hS, hC⟩ := arg1 w (.int .i64 k) (.string s) (.int .i64 n) (.slice p xs.length c)
    have HC := Lib.hid hC
    have HBW := Lib.hid hBW
    have HT := Lib.hid hT
    have hBA : ∀ o, Below W.heap.size W (W.alloc o) := fun o => (Below.refl _ _).alloc (Nat.le_refl _) o
    have hBA2 : ∀ o, Below w.heap.size w (W.alloc o) := fun o => hBW.trans ((hBA o).mono hBW.size)
    have HFIN : Hid (∀ (E : Int), qnodeE qpat k s.data.toList n xs.length = E → E ≠ 0 → ∀ u, Below w.heap.size w u → CheckPost (.mk k s n p c xs) w (.returned (.int .i64 E)) u) := by
      show ∀ _, _
      intro E h1 h2 u hu
      refine ⟨?_, hu⟩
      rw [HCN.out, h1, if_pos h2]
    obtain ⟨k0, k1, k2, k3⟩ := HC.out W (Below.refl _ _)
    rw [hW] at k0 k1 k2 k3
    show Calls Tryz.prog 54 #[.agg #[.int .i64 k, .string s, .int .i64 n, .slice p xs.length c]] w _
    clear hBW hS hC hT
    go_enter Tryz.func54, Tryz.ntmps54
    go_upto_region 1 with fail
    rw [← hW] at k0 k1 k2 k3 ⊢
    clear hW
    by_cases g1 : k < 1
    · have HE : Hid (qnodeE qpat k s.data.toList n xs.length = 1) := by show _ = _; unfold qnodeE; rw [if_pos (.inl g1)]
      go_wp2
      go_ret
      exact HFIN.out 1 HE.out (by decide) W HBW.out
    by_cases g2 : 15 < k
    · have HE : Hid (qnodeE qpat k s.data.toList n xs.length = 1) := by show _ = _; unfold qnodeE; rw [if_pos (.inr g2)]
      go_wp2
      go_ret
      exact HFIN.out 1 HE.out (by decide) W HBW.out
    obtain ⟨j, rfl⟩ := Int.eq_ofNat_of_zero_le (show 0 ≤ k by omega)
    have hj : j < 16 := by omega
    obtain ⟨f0, f1, f2, f3⟩ := (HT.out.forms.below HBW.out) j hj
    rw [show 4 * j = j * 4 by omega] at f0 f1 f2 f3
    have hn0 : ¬ ((j : Int) < 1 ∨ 15 < (j : Int)) := by omega
    have HND : Hid (qnodeE qpat j s.data.toList n xs.length = if xs.length ≠ qmany j ∨ (qnamed j = false ∧ s.data.toList ≠ []) ∨ (qnumd j = false ∧ n ≠ 0) then 1
        else if (j : Int) = 14 then (if qpat s.data.toList then 0 else 3)
        else if qnamed j then (if nokL s.data.toList = true ∧ ¬ ((j : Int) = 1 ∧ s.data.toList = [108, 101, 116]) then 0 else 3)
        else if (j : Int) = 15 then (if n < 1 ∨ 3 < n then 4 else 0) else if n < 0 ∨ 100 < n then 4 else 0) := by
      show _ = _
      unfold qnodeE
      rw [if_neg hn0]
    have HPAT := Lib.hid (fun (u : World) (hu : Below w.heap.size w u) => pattern_ok s hss u (HT.out.below hu))
    have HNAME := Lib.hid (fun (u : World) => CheckN_ok s (by omega) u)
    have hj1 : 1 ≤ j := by omega
    have hj2 : j ≤ 15 := by omega
    generalize qword (j : Int) = wd at f3
    clear hn0 hj
    obtain ⟨mn, hmn⟩ : ∃ mn, qmany j = mn := ⟨_, rfl⟩
    obtain ⟨nb, hnb⟩ : ∃ nb, qnamed j = nb := ⟨_, rfl⟩
    obtain ⟨ub, hub⟩ : ∃ ub, qnumd j = ub := ⟨_, rfl⟩
    rw [hmn] at f0 HND
    rw [hnb] at f1 HND
    rw [hub] at f2 HND
    have HNB := Lib.hid hnb
    have HUB := Lib.hid hub
    have HMN := Lib.hid hmn
    clear hmn hnb hub
    go_upto_region 4 with fail
    obtain ⟨V, hV⟩ : ∃ V : World, V = W.alloc (.cells #[.int .i64 (mn : Int), .bool nb, .bool ub, .string (qtx wd)] 128) := ⟨_, rfl⟩
    have hBV : Below W.heap.size W V := by rw [hV]; exact (Below.refl _ _).alloc (Nat.le_refl _) _
    have HBV := Lib.hid (HBW.out.trans (hBV.mono HBW.out.size))
    have q0 : V.cell? ⟨W.heap.size, 0, none⟩ = some (.int .i64 (mn : Int)) := by rw [hV, World.cell?_alloc_at _ _ _ _ rfl]; rfl
    have q1 : V.cell? ⟨W.heap.size, 1, none⟩ = some (.bool nb) := by rw [hV, World.cell?_alloc_at _ _ _ _ rfl]; rfl
    have q2 : V.cell? ⟨W.heap.size, 2, none⟩ = some (.bool ub) := by rw [hV, World.cell?_alloc_at _ _ _ _ rfl]; rfl
    have hlt : W.heap.size < V.heap.size := by rw [hV]; simp
    have HQ : Hid (∀ u, Below V.heap.size V u → u.cell? ⟨W.heap.size, 1, none⟩ = some (.bool nb) ∧ u.cell? ⟨W.heap.size, 2, none⟩ = some (.bool ub)) := by
      show ∀ u, _
      exact fun u hu => ⟨(hu.cell hlt).trans q1, (hu.cell hlt).trans q2⟩
    have HCV : Hid (∀ u, Below V.heap.size V u → u.cell? ⟨w.heap.size, 0, none⟩ = some (.int .i64 (j : Int)) ∧ u.cell? ⟨w.heap.size, 1, none⟩ = some (.string s) ∧ u.cell? ⟨w.heap.size, 2, none⟩ = some (.int .i64 n) ∧ u.cell? ⟨w.heap.size, 3, none⟩ = some (.slice p xs.length c)) := by
      show ∀ u, _
      exact fun u hu => HC.out u (hBV.trans (hu.mono hBV.size))
    obtain ⟨v0, v1, v2, v3⟩ := HCV.out V (Below.refl _ _)
    rw [← hV]
    clear hV hBV hlt k0 k1 k2 k3 f0 f1 f2 f3 hBA hBA2
    by_cases g3 : xs.length = mn
    · have e1 : ((xs.length : Int) == (mn : Int)) = true := by rw [beq_iff_eq]; omega
      have e2 : ((xs.length : Int) != (mn : Int)) = false := by simp [bne, e1]
      by_cases g4 : nb = false ∧ s.data.toList ≠ []
      · obtain ⟨rfl, g4⟩ := g4
        have HE : Hid (qnodeE qpat j s.data.toList n xs.length = 1) := by show _ = _; rw [HND.out, if_pos (.inr (.inl ⟨rfl, g4⟩))]
        have g5 := isEmpty_no g4
        clear g4
        go_wp2
        go_ret
        exact HFIN.out 1 HE.out (by decide) V HBV.out
      by_cases g5 : ub = false ∧ n ≠ 0
      · obtain ⟨rfl, g5⟩ := g5
        have HE : Hid (qnodeE qpat j s.data.toList n xs.length = 1) := by show _ = _; rw [HND.out, if_pos (.inr (.inr ⟨rfl, g5⟩))]
        obtain ⟨i1, i2⟩ := int_ne' g5
        cases nb with
        | false =>
          have g4' := isEmpty_of (Classical.not_not.1 (fun h => g4 ⟨rfl, h⟩))
          clear g4 g5
          go_wp2
          go_ret
          exact HFIN.out 1 HE.out (by decide) V HBV.out
        | true =>
          clear g4 g5
          go_wp2
          go_ret
          exact HFIN.out 1 HE.out (by decide) V HBV.out
      have hpre : ¬ (xs.length ≠ mn ∨ (nb = false ∧ s.data.toList ≠ []) ∨ (ub = false ∧ n ≠ 0)) := by
        rintro (h | h | h)
        · exact h g3
        · exact g4 h
        · exact g5 h
      rw [if_neg hpre] at HND
      have HOK : Hid (qnodeE qpat j s.data.toList n xs.length = 0 → qchk qpat (qabs (.mk j s n p c xs)) = qchks qpat (qabss xs)) := by
        show _ → _
        intro h
        rw [HCN.out, h, if_neg (by decide)]
      have hnu : nb = true → ub = false ∧ n = 0 := by
        intro h
        have h1 := HNB.out
        have h2 := HUB.out
        rw [h] at h1
        unfold qnamed at h1
        simp only [Bool.or_eq_true, decide_eq_true_eq] at h1
        have h3 : ub = false := by
          rw [← h2]
          unfold qnumd
          rcases h1 with ((h1 | h1) | h1) | h1 <;> rw [h1] <;> rfl
        exact ⟨h3, Classical.not_not.1 fun h4 => g5 ⟨h3, h4⟩⟩
      have hns : nb = false → s.data.toList = [] := fun h => Classical.not_not.1 fun h4 => g4 ⟨h, h4⟩
      have hnz : ub = false → n = 0 := fun h => Classical.not_not.1 fun h4 => g5 ⟨h, h4⟩
      have h14 : j = 14 → nb = true := by
        rintro rfl
        rw [← HNB.out]
        rfl
      have h15 : j = 15 → ub = true := by
        rintro rfl
        rw [← HUB.out]
        rfl
      have hcs : (j = 14) ∨ (j ≠ 14 ∧ nb = true ∧ j ≠ 1) ∨ (j ≠ 14 ∧ nb = true ∧ j = 1) ∨ (j = 15 ∧ nb = false) ∨ ((j ≠ 14 ∧ j ≠ 15 ∧ nb = false) ∧ ub = true) ∨ ((j ≠ 14 ∧ j ≠ 15 ∧ nb = false) ∧ ub = false) := by
        by_cases a1 : j = 14
        · exact .inl a1
        · cases nb
          · by_cases a2 : j = 15
            · exact .inr (.inr (.inr (.inl ⟨a2, rfl⟩)))
            · cases ub
              · exact .inr (.inr (.inr (.inr (.inr ⟨⟨a1, a2, rfl⟩, rfl⟩))))
              · exact .inr (.inr (.inr (.inr (.inl ⟨⟨a1, a2, rfl⟩, rfl⟩))))
          · by_cases a2 : j = 1
            · exact .inr (.inr (.inl ⟨a1, rfl, a2⟩))
            · exact .inr (.inl ⟨a1, rfl, a2⟩)
      clear g4 g5 hpre
      rcases hcs with hA | ⟨hA, hB, hJ⟩ | ⟨hA, hB, hJ⟩ | ⟨hA, hB⟩ | ⟨⟨hA, hB, hD⟩, hub⟩ | ⟨⟨hA, hB, hD⟩, hub⟩
      case' inl =>
        have hB := h14 hA
        obtain ⟨rfl, rfl⟩ := hnu hB
        subst hA hB
        have hq : qnodeE qpat ((14 : Nat) : Int) s.data.toList 0 xs.length = if qpat s.data.toList then 0 else 3 := by rw [HND.out, if_pos (show ((14 : Nat) : Int) = 14 from rfl)]
        clear hnu hns hnz h14 h15 HND HNB HUB HMN
        cases hpt : qpat s.data.toList
        · rw [hpt] at hq
          have HE := Lib.hid hq
          have HP0 := Lib.hid hpt
          clear hq hpt
          go_wp2_with (go_at_call 82; refine (HPAT.out _ HBV.out).mono ?_; rw [HP0.out]; rintro e U ⟨rfl, hb⟩; have HU := Lib.hid (HBV.out.trans (hb.mono HBV.out.size)); clear hb)
          go_ret
          exact HFIN.out 3 HE.out (by decide) U HU.out
        rw [hpt] at hq
        have HE : Hid (qnodeE qpat ((14 : Nat) : Int) s.data.toList 0 xs.length = 0) := hq
        have HP0 := Lib.hid hpt
        clear hq hpt
        go_wp2_with (go_at_call 82; refine (HPAT.out _ HBV.out).mono ?_; rw [HP0.out]; rintro e U ⟨rfl, hb⟩; have HU := Lib.hid (HBV.out.trans (hb.mono HBV.out.size)); obtain ⟨u0, u1, u2, u3⟩ := HCV.out U hb; clear hb)
      case' inr.inl =>
        obtain ⟨rfl, rfl⟩ := hnu hB
        subst hB
        have hq : qnodeE qpat (j : Int) s.data.toList 0 xs.length = if nokL s.data.toList = true ∧ ¬ ((j : Int) = 1 ∧ s.data.toList = [108, 101, 116]) then 0 else 3 := by rw [HND.out, if_neg (by omega), if_pos rfl]
        have hne := nokL_eq s
        have g14 : ((j : Int) == 14) = false := by rw [beq_eq_false_iff_ne]; omega
        clear hnu hns hnz h14 h15 HND HNB HUB HMN hA
        cases hok : nokL s.data.toList
        · rw [hok] at hq hne
          have HE : Hid (qnodeE qpat (j : Int) s.data.toList 0 xs.length = 3) := hq
          have HNE : Hid (nameE s = 3) := hne
          clear hq hok hne
          go_wp2_with (go_at_call 83; refine (HNAME.out _).mono ?_; rw [HNE.out]; rintro e U ⟨rfl, rfl⟩)
          go_ret
          exact HFIN.out 3 HE.out (by decide) V HBV.out
        rw [hok] at hq hne
        have HNE : Hid (nameE s = 0) := hne
        obtain ⟨U, hU⟩ : ∃ U, U = V := ⟨_, rfl⟩
        have HU : Hid (Below w.heap.size w U) := by rw [hU]; exact HBV
        have HE : Hid (qnodeE qpat (j : Int) s.data.toList 0 xs.length = 0) := by show _ = _; rw [hq, if_pos ⟨rfl, fun h => hJ (by omega)⟩]
        have hjs : ((j : Int) == 1) = false := by rw [beq_eq_false_iff_ne]; omega
        clear hq hok hne
        go_wp2_with (go_at_call 83; refine (HNAME.out _).mono ?_; rw [HNE.out]; rintro e U2 ⟨rfl, rfl⟩)
        rw [← hU]
      case' inr.inr.inl =>
        subst hJ
        obtain ⟨rfl, rfl⟩ := hnu hB
        subst hB
        have hq : qnodeE qpat ((1 : Nat) : Int) s.data.toList 0 xs.length = if nokL s.data.toList = true ∧ ¬ (((1 : Nat) : Int) = 1 ∧ s.data.toList = [108, 101, 116]) then 0 else 3 := by rw [HND.out, if_neg (by omega), if_pos rfl]
        have hne := nokL_eq s
        have g14 : (((1 : Nat) : Int) == 14) = false := by rw [beq_eq_false_iff_ne]; omega
        clear hnu hns hnz h14 h15 HND HNB HUB HMN hA
        cases hok : nokL s.data.toList
        · rw [hok] at hq hne
          have HE : Hid (qnodeE qpat ((1 : Nat) : Int) s.data.toList 0 xs.length = 3) := hq
          have HNE : Hid (nameE s = 3) := hne
          clear hq hok hne
          go_wp2_with (go_at_call 83; refine (HNAME.out _).mono ?_; rw [HNE.out]; rintro e U ⟨rfl, rfl⟩)
          go_ret
          exact HFIN.out 3 HE.out (by decide) V HBV.out
        rw [hok] at hq hne
        have HNE : Hid (nameE s = 0) := hne
        obtain ⟨U, hU⟩ : ∃ U, U = V := ⟨_, rfl⟩
        have HU : Hid (Below w.heap.size w U) := by rw [hU]; exact HBV
        by_cases hl : s.data.toList = [108, 101, 116]
        · have HE : Hid (qnodeE qpat ((1 : Nat) : Int) s.data.toList 0 xs.length = 3) := by show _ = _; rw [hq, if_neg (fun h => h.2 ⟨rfl, hl⟩)]
          have hsl : (s.toList == [108, 101, 116]) = true := by rw [Lib.toList_data, hl]; rfl
          clear hq hok hne hl
          go_wp2_with (go_at_call 83; refine (HNAME.out _).mono ?_; rw [HNE.out]; rintro e U2 ⟨rfl, rfl⟩)
          go_ret
          exact HFIN.out 3 HE.out (by decide) V HBV.out
        have HE : Hid (qnodeE qpat ((1 : Nat) : Int) s.data.toList 0 xs.length = 0) := by show _ = _; rw [hq, if_pos ⟨rfl, fun h => hl h.2⟩]
        have hsl : (s.toList == [108, 101, 116]) = false := by rw [Lib.toList_data, beq_eq_false_iff_ne]; exact hl
        clear hq hok hne hl
        go_wp2_with (go_at_call 83; refine (HNAME.out _).mono ?_; rw [HNE.out]; rintro e U2 ⟨rfl, rfl⟩)
        rw [← hU]
      case' inr.inr.inr.inl =>
        have hB2 := h15 hA
        have hse := isEmpty_of (hns hB)
        subst hA hB hB2
        have hq : qnodeE qpat ((15 : Nat) : Int) s.data.toList n xs.length = if n < 1 ∨ 3 < n then 4 else 0 := by
          rw [HND.out, if_neg (by decide), if_neg (by decide), if_pos (show ((15 : Nat) : Int) = 15 from rfl)]
        clear hnu hns hnz h14 h15 HND HNB HUB HMN
        by_cases n1 : n < 1
        · have HE : Hid (qnodeE qpat ((15 : Nat) : Int) s.data.toList n xs.length = 4) := by show _ = _; rw [hq, if_pos (.inl n1)]
          clear hq
          go_wp2
          go_ret
          exact HFIN.out 4 HE.out (by decide) V HBV.out
        by_cases n2 : 3 < n
        · have HE : Hid (qnodeE qpat ((15 : Nat) : Int) s.data.toList n xs.length = 4) := by show _ = _; rw [hq, if_pos (.inr n2)]
          clear hq
          go_wp2
          go_ret
          exact HFIN.out 4 HE.out (by decide) V HBV.out
        have HE : Hid (qnodeE qpat ((15 : Nat) : Int) s.data.toList n xs.length = 0) := by show _ = _; rw [hq, if_neg (by omega)]
        clear hq
        obtain ⟨U, hU⟩ : ∃ U, U = V := ⟨_, rfl⟩
        have HU : Hid (Below w.heap.size w U) := by rw [hU]; exact HBV
        go_wp2_with fail
        rw [← hU]
      case' inr.inr.inr.inr.inl =>
        have hse := isEmpty_of (hns hD)
        subst hD
        have g14 : ((j : Int) == 14) = false := by rw [beq_eq_false_iff_ne]; omega
        have g15 : ((j : Int) == 15) = false := by rw [beq_eq_false_iff_ne]; omega
        have hq : qnodeE qpat (j : Int) s.data.toList n xs.length = if n < 0 ∨ 100 < n then 4 else 0 := by
          rw [HND.out, if_neg (by omega), if_neg (by decide), if_neg (by omega)]
        have hnz2 := hnz
        clear hnu hns hnz h14 h15 HND HNB HUB HMN
        obtain ⟨U, hU⟩ : ∃ U, U = V := ⟨_, rfl⟩
        have HU : Hid (Below w.heap.size w U) := by rw [hU]; exact HBV
        subst hub
        clear hnz2
        by_cases n1 : n < 0
        · have HE : Hid (qnodeE qpat (j : Int) s.data.toList n xs.length = 4) := by show _ = _; rw [hq, if_pos (.inl n1)]
          clear hq
          go_wp2
          go_ret
          exact HFIN.out 4 HE.out (by decide) V HBV.out
        by_cases n2 : 100 < n
        · have HE : Hid (qnodeE qpat (j : Int) s.data.toList n xs.length = 4) := by show _ = _; rw [hq, if_pos (.inr n2)]
          clear hq
          go_wp2
          go_ret
          exact HFIN.out 4 HE.out (by decide) V HBV.out
        have HE : Hid (qnodeE qpat (j : Int) s.data.toList n xs.length = 0) := by show _ = _; rw [hq, if_neg (by omega)]
        clear hq
        go_wp2_with fail
        rw [← hU]
      case' inr.inr.inr.inr.inr =>
        have hse := isEmpty_of (hns hD)
        subst hD
        have g14 : ((j : Int) == 14) = false := by rw [beq_eq_false_iff_ne]; omega
        have g15 : ((j : Int) == 15) = false := by rw [beq_eq_false_iff_ne]; omega
        have hq : qnodeE qpat (j : Int) s.data.toList n xs.length = if n < 0 ∨ 100 < n then 4 else 0 := by
          rw [HND.out, if_neg (by omega), if_neg (by decide), if_neg (by omega)]
        have hnz2 := hnz
        clear hnu hns hnz h14 h15 HND HNB HUB HMN
        obtain ⟨U, hU⟩ : ∃ U, U = V := ⟨_, rfl⟩
        have HU : Hid (Below w.heap.size w U) := by rw [hU]; exact HBV
        obtain rfl := hnz2 hub
        subst hub
        clear hnz2
        have HE : Hid (qnodeE qpat (j : Int) s.data.toList 0 xs.length = 0) := by show _ = _; rw [hq, if_neg (by omega)]
        clear hq
        go_wp2_with fail
        rw [← hU]
      all_goals
        have HFIN2 := Lib.hid (fun (E : Int) (h : qchks qpat (qabss xs) = E) (u : World) (hu : Below w.heap.size w u) => (⟨by rw [HOK.out HE.out, h], hu⟩ : CheckPost _ w (.returned (.int .i64 E)) u))
        have HKU := Lib.hid (HK.out.below HU.out)
        have HTU := Lib.hid (HT.out.below HU.out)
        go_loopw [94] (fun i wr => ∃ m : Nat, m ≤ xs.length ∧ i = .int .i64 m ∧ Hid (∀ i y, i < m → xs[i]? = some y → qchk qpat (qabs y) = 0) ∧ Hid (Below U.heap.size U wr)) (fun i _ => xs.length - (intOf i).toNat)
        case atStart => exact ⟨0, Nat.zero_le _, rfl, fun i y h => by omega, Below.refl _ _⟩
        case round =>
          obtain ⟨m, hm, rfl, HS, HB⟩ := hrel
          by_cases hlt : m < xs.length
          · obtain ⟨x, hx⟩ : ∃ x, xs[m]? = some x := ⟨_, List.getElem?_eq_getElem hlt⟩
            obtain ⟨⟨b, o, rfl, hb, hf⟩, hqx⟩ := HKU.out.at hx
            obtain ⟨c0, c1, c2, c3⟩ := four_at (hf.below HB.out hb)
            have HCALL := Lib.hid (fun (u : World) (hu : Below wr.heap.size wr u) => IH.out x (List.mem_of_getElem? hx) u (hqx.below (HB.out.trans (hu.mono HB.out.size))) (HTU.out.below (HB.out.trans (hu.mono HB.out.size))))
            have HTK := Lib.hid (fun (h : qchk qpat (qabs x) ≠ 0) => qchks_take hx HS.out h)
            have HNX : Hid (qchk qpat (qabs x) = 0 → ∀ i y, i < m + 1 → xs[i]? = some y → qchk qpat (qabs y) = 0) := fun h i y hi hy => by
              rcases Nat.lt_or_ge i m with h1 | h1
              · exact HS.out i y h1 hy
              · obtain rfl : i = m := by omega
                rw [hx] at hy
                injection hy with hy
                subst hy; exact h
            have HAL : Hid (∀ o, Below wr.heap.size wr (wr.alloc o)) := fun o => (Below.refl _ _).alloc (Nat.le_refl _) o
            clear hqx hf hb
            obtain ⟨E, hE⟩ : ∃ E, qchk qpat (qabs x) = E := ⟨_, rfl⟩
            have HEE := Lib.hid hE
            by_cases h0 : E = 0
            · subst h0
              have HNX2 := Lib.hid (HNX.out hE)
              clear hE HNX HTK
              go_wp2_with (go_at_call 54; refine (HCALL.out _ (HAL.out _)).mono ?_; rintro e w5 ⟨he, hb5⟩; rw [HEE.out] at he; subst he; have HB5 := Lib.hid (HB.out.trans (((HAL.out _).trans (hb5.mono (HAL.out _).size)).mono HB.out.size)); clear hb5)
              go_roundw
              case rel => exact ⟨m + 1, by omega, by go_num, HNX2.out, HB5⟩
              case measure => simp [intOf]; omega
            · have HTK2 : Hid (qchks qpat (qabss xs) = E) := by show _ = _; rw [HTK.out (by rw [hE]; exact h0), hE]
              obtain ⟨i1, i2⟩ := int_ne' h0
              clear hE HNX HTK h0
              go_wp2_with (go_at_call 54; refine (HCALL.out _ (HAL.out _)).mono ?_; rintro e w5 ⟨he, hb5⟩; rw [HEE.out] at he; subst he; have HB5 := Lib.hid (HB.out.trans (((HAL.out _).trans (hb5.mono (HAL.out _).size)).mono HB.out.size)); clear hb5)
              go_ret
              exact HFIN2.out E HTK2.out _ (HU.out.trans (HB5.out.mono HU.out.size))
          · obtain rfl : m = xs.length := by omega
            have HALL : Hid (qchks qpat (qabss xs) = 0) := qchks_all fun i y hy => HS.out i y (by
              rcases Nat.lt_or_ge i xs.length with h1 | h1
              · exact h1
              · rw [List.getElem?_eq_none h1] at hy; cases hy) hy
            go_wp2
            go_ret
            exact HFIN2.out 0 HALL.out _ (HU.out.trans (HB.out.mono HU.out.size))
    · have HE : Hid (qnodeE qpat j s.data.toList n xs.length = 1) := by show _ = _; rw [HND.out, if_pos (.inl g3)]
      have e1 : ((xs.length : Int) == (mn : Int)) = false := by rw [beq_eq_false_iff_ne]; omega
      have e2 : ((xs.length : Int) != (mn : Int)) = true := by simp [bne, e1]
      go_wp2
      go_ret
      exact HFIN.out 1 HE.out (by decide) V HBV.out
end Go.Proofs.YteefncohknclcaaGreatDoor
namespace Go.Proofs.YteefncohknclcaaGreatDoor
theorem nok_len {s : List UInt8} (h : nokL s = true) : s.length ≤ 40 := by
  unfold nokL at h
  simp only [Bool.and_eq_true, decide_eq_true_eq] at h
  exact h.1.2
theorem pat_len {s : List UInt8} (h : qpat s = true) : s.length ≤ 60 := by
  have := qpat_pE h
  unfold pE at this
  split at this
  · cases this
  · omega
theorem itoa_len {n : Int} (h0 : 0 ≤ n) (h1 : n ≤ 100) : (Lib.itoa n).length ≤ 3 := by
  have h := itoa_small (n := n.toNat) (by omega)
  rw [show ((n.toNat : Nat) : Int) = n by omega] at h
  rw [h]
  unfold itoa3
  (repeat' split) <;> simp
theorem qtxt_len (x : QA) : qchk qpat x = 0 → (qtxt x).length ≤ 100 * qcnt x := by
  induction x using QA.ind with
  | h k s n xs ih =>
    intro hc
    obtain ⟨hn, hxs⟩ := qchk_zero.1 hc
    have ih2 : ∀ x ∈ xs, (qtxt x).length ≤ 100 * qcnt x := fun x hx => ih x hx (hxs x hx)
    have hcnt : qcnt (.mk k s n xs) = 1 + qcnts xs := rfl
    have hq : qtxt (.mk k s n xs) = qbody k s n (qtxts xs) := rfl
    rw [hq, hcnt]
    rcases node_cases hn with ⟨rfl, hm, rfl, h1, h2⟩ | ⟨rfl, hm, rfl, rfl⟩ | ⟨rfl, hm, rfl, h1⟩ | ⟨rfl, hm, rfl, h1⟩ | ⟨hk, hm, rfl, rfl⟩ | ⟨hk, hm, rfl, rfl⟩ | ⟨hk, hm, h1, h2, rfl⟩ | ⟨hk, hm, rfl, rfl⟩ | ⟨rfl, hm, rfl, h1⟩ | ⟨rfl, hm, h1, h2, rfl⟩
    · have := nok_len h1
      show s.length ≤ _
      omega
    · show 1 ≤ _
      omega
    · have := nok_len h1
      show (36 :: s).length ≤ _
      simp only [List.length_cons]
      omega
    · obtain ⟨x, y, rfl⟩ := len_two hm
      have := nok_len h1
      have i1 := ih2 x (by simp)
      have i2 := ih2 y (by simp)
      have e : qbody 4 s 0 (qtxts [x, y]) = [40, 108, 101, 116, 32] ++ (s ++ ([32, 61, 32] ++ (qtxt x ++ ([32, 105, 110, 32] ++ (qtxt y ++ [41]))))) := rfl
      rw [e, cnts_two']
      simp only [List.length_append, List.length_cons, List.length_nil]
      omega
    · obtain ⟨x, y, rfl⟩ := len_two hm
      have i1 := ih2 x (by simp)
      have i2 := ih2 y (by simp)
      have e : qbody k [] 0 (qtxts [x, y]) = 40 :: (qtxt x ++ (32 :: (qword k ++ (32 :: (qtxt y ++ [41]))))) := by rcases hk with rfl | rfl | rfl <;> rfl
      have hw : (qword k).length = 1 := by rcases hk with rfl | rfl | rfl <;> rfl
      rw [e, cnts_two']
      simp only [List.length_append, List.length_cons, List.length_nil, hw]
      omega
    · obtain ⟨x, rfl⟩ := len_one hm
      have i1 := ih2 x (by simp)
      have e : qbody k [] 0 (qtxts [x]) = qword k ++ (40 :: (qtxt x ++ [41])) := by rcases hk with rfl | rfl <;> rfl
      have hw : (qword k).length ≤ 5 := by rcases hk with rfl | rfl <;> decide
      rw [e, cnts_one']
      simp only [List.length_append, List.length_cons, List.length_nil]
      omega
    · obtain ⟨x, rfl⟩ := len_one hm
      have i1 := ih2 x (by simp)
      have e : qbody k [] n (qtxts [x]) = qword k ++ (40 :: (qtxt x ++ (44 :: 32 :: (Lib.itoa n ++ [41])))) := by rcases hk with rfl | rfl <;> rfl
      have hw : (qword k).length ≤ 5 := by rcases hk with rfl | rfl <;> decide
      have hl := itoa_len h1 h2
      rw [e, cnts_one']
      simp only [List.length_append, List.length_cons, List.length_nil]
      omega
    · obtain ⟨x, y, rfl⟩ := len_two hm
      have i1 := ih2 x (by simp)
      have i2 := ih2 y (by simp)
      have e : qbody k [] 0 (qtxts [x, y]) = qword k ++ (40 :: (qtxt x ++ (44 :: 32 :: (qtxt y ++ [41])))) := by rcases hk with rfl | rfl <;> rfl
      have hw : (qword k).length ≤ 5 := by rcases hk with rfl | rfl <;> decide
      rw [e, cnts_two']
      simp only [List.length_append, List.length_cons, List.length_nil]
      omega
    · obtain ⟨x, rfl⟩ := len_one hm
      have i1 := ih2 x (by simp)
      have hl := pat_len h1
      have e : qbody 14 s 0 (qtxts [x]) = qword 14 ++ (40 :: (s ++ (44 :: 32 :: (qtxt x ++ [41])))) := rfl
      have hw : (qword 14).length ≤ 5 := by decide
      rw [e, cnts_one']
      simp only [List.length_append, List.length_cons, List.length_nil]
      omega
    · obtain ⟨x, rfl⟩ := len_one hm
      have i1 := ih2 x (by simp)
      have e : qbody 15 [] n (qtxts [x]) = qkindw n ++ (40 :: (qtxt x ++ [41])) := rfl
      have hw : (qkindw n).length ≤ 5 := by rcases (by omega : n = 1 ∨ n = 2 ∨ n = 3) with rfl | rfl | rfl <;> decide
      rw [e, cnts_one']
      simp only [List.length_append, List.length_cons, List.length_nil]
      omega
where
  cnts_one' {x : QA} : qcnts [x] = qcnt x := by simp [qcnts]
  cnts_two' {x y : QA} : qcnts [x, y] = qcnt x + qcnt y := by simp [qcnts]
end Go.Proofs.YteefncohknclcaaGreatDoor
namespace Go.Proofs.YteefncohknclcaaGreatDoor
open Go.RowKit Go.Shelf
set_option maxHeartbeats 4000000 in
set_option maxRecDepth 100000 in
/-- ask.Check -/
theorem CheckA_ok (t : QT) (w : World) (hq : QIn w t) (hT : AskTabs w) (hc : qcnt (qabs t) ≤ 1099511627776) : Calls Tryz.prog 32 #[t.v] w fun e w' => e = .returned (.int .i64 (qE qpat (qabs t))) ∧ Below w.heap.size w w' := by
  obtain ⟨k, s, n, p, c, xs⟩ := t
  obtain ⟨W, hW, hBW, hS, hC⟩ := arg1 w (.int .i64 k) (.string s) (.int .i64 n) (.slice p xs.length c)
  have HC := Lib.hid hC
  have HBW := Lib.hid hBW
  have HCO := Lib.hid (countA_ok _ W (hq.below hBW) hc)
  have HCH := Lib.hid (fun (u : World) (hu : Below W.heap.size W u) => check_ok _ u (hq.below (hBW.trans (hu.mono hBW.size))) (hT.below (hBW.trans (hu.mono hBW.size))))
  have hE : qE qpat (qabs (.mk k s n p c xs)) = if 60 < qcnt (qabs (.mk k s n p c xs)) then 2 else qchk qpat (qabs (.mk k s n p c xs)) := rfl
  obtain ⟨k0, k1, k2, k3⟩ := HC.out W (Below.refl _ _)
  rw [hW] at k0 k1 k2 k3
  show Calls Tryz.prog 32 #[.agg #[.int .i64 k, .string s, .int .i64 n, .slice p xs.length c]] w _
  obtain ⟨m, hm⟩ : ∃ m, qcnt (qabs (.mk k s n p c xs)) = m := ⟨_, rfl⟩
  rw [hm] at hE hc HCO
  clear hq hT hBW hS hC hm
  go_enter Tryz.func32, Tryz.ntmps32
  by_cases h60 : 60 < m
  · rw [if_pos h60] at hE
    have HE := Lib.hid hE
    clear hE
    go_wp2_with (go_at_call 53; rw [← hW]; refine HCO.out.mono ?_; rintro e w2 ⟨rfl, hb⟩; have HB := Lib.hid (HBW.out.trans (hb.mono HBW.out.size)); clear hb)
    go_ret
    exact ⟨by rw [HE.out]; rfl, HB.out⟩
  · rw [if_neg h60] at hE
    have HE := Lib.hid hE
    clear hE
    go_wp2_with (first
      | (go_at_call 53; rw [← hW]; refine HCO.out.mono ?_; rintro e w2 ⟨rfl, hb⟩; have HB0 := Lib.hid hb; have HB := Lib.hid (HBW.out.trans (hb.mono HBW.out.size)); obtain ⟨u0, u1, u2, u3⟩ := HC.out w2 hb; clear hb)
      | (go_at_call 54; refine (HCH.out _ HB0.out).mono ?_; rintro e w3 ⟨rfl, hb⟩; have HB3 := Lib.hid (HB.out.trans (hb.mono HB.out.size)); clear hb))
    go_ret
    exact ⟨by rw [HE.out]; rfl, HB3.out⟩
/-- the texts of those in an ask, as values -/
def txtsV (l : List QT) : List Value := l.map fun t => .string (qtx (qtxt (qabs t)))
theorem txtsV_next {l : List QT} {k : Nat} {x : QT} (h : l[k]? = some x) : txtsV (l.take (k + 1)) = txtsV (l.take k) ++ [.string (qtx (qtxt (qabs x)))] := by
  have hk : k < l.length := by
    rcases Nat.lt_or_ge k l.length with h1 | h1
    · exact h1
    · rw [List.getElem?_eq_none h1] at h; cases h
  rw [List.getElem?_eq_getElem hk] at h
  injection h with h
  unfold txtsV
  rw [List.take_succ_eq_append_getElem hk, List.map_append, h]
  rfl
structure TxtTabs (w : World) : Prop where
  ask : AskTabs w
  kinds : Kinds w
  pow : Lib.TabIs Tryz.prog w "internal/strconv.uint64pow10" .u64 Lib.pow10Tab
theorem powG : Tryz.prog.globalNamed "internal/strconv.uint64pow10" = some 6 := by kernel_rfl
theorem pow_below {w w' : World} {zs : List Int} (h : Lib.TabIs Tryz.prog w "internal/strconv.uint64pow10" .u64 zs) (hb : Below w.heap.size w w') : Lib.TabIs Tryz.prog w' "internal/strconv.uint64pow10" .u64 zs := by
  have hlt : 6 < w.heap.size := by
    rcases Nat.lt_or_ge 6 w.heap.size with h1 | h1
    · exact h1
    · unfold Lib.TabIs World.var? at h
      simp [powG, Array.getElem?_eq_none h1] at h
  exact var?_below hb powG hlt h
theorem TxtTabs.below {w w' : World} (h : TxtTabs w) (hb : Below w.heap.size w w') : TxtTabs w' := ⟨h.ask.below hb, h.kinds.below hb, pow_below h.pow hb⟩
theorem ba_eq {a b : ByteArray} (h : a.data.toList = b.data.toList) : a = b := by rw [← list_qtx a, h, list_qtx]
theorem ba_app (a b : ByteArray) : (a ++ b).data.toList = a.data.toList ++ b.data.toList := by simp
theorem qtx_eq {a : ByteArray} {l : List UInt8} (h : a.data.toList = l) : a = qtx l := by rw [← h, list_qtx]
theorem own_below1 {w w' : World} {base e n : Nat} {v : Value} {xs : List Value} (h : w.ownsRow base e 1 v n xs) (hb : Below w.heap.size w w') : w'.ownsRow base e 1 v n xs := by
  refine h.kept (row := none) ⟨hb.os, hb.tape, hb.output, hb.size, fun k hk _ => hb.block k hk⟩ ?_
  cases hv : v.ownBlock
  · exact .inl rfl
  · exact .inr (by simp)
/-- what grows of a slice of the call's own grows behind -/
theorem own_grown1 {w w' : World} {base e n size : Nat} {v : Value} {xs : List Value} (h : w.ownsRow base e size v n xs) (hb : base ≤ w.heap.size) (hg : w.grownBy w' v.ownBlock) : Below base w w' :=
  ⟨hg.os, hg.tape, hg.output, hg.size, fun k hk => hg.block k (Nat.lt_of_lt_of_le hk hb) fun e => by
    have := (h.lt k e.symm).1
    omega⟩
theorem own_form1 {w : World} {base e n size : Nat} {v : Value} {xs : List Value} (h : w.ownsRow base e size v n xs) : ∃ (g : Option Addr) (c : Nat), v = .slice g n c ∧ ∀ b, v.ownBlock = some b → base ≤ b ∧ b < w.heap.size := by
  rcases h.2 with ⟨rfl, rfl⟩ | ⟨g, cap, cur, rfl, hb, hh, _⟩
  · exact ⟨none, 0, rfl, fun b hb => by cases hb⟩
  · exact ⟨_, cap, rfl, fun b hb' => h.lt b hb'⟩
theorem own_two {w : World} {base e c : Nat} {p : Option Addr} {u v : Value} (h : w.ownsRow base e 1 (.slice p 2 c) 2 [u, v]) : ∃ g, p = some ⟨g, 0, none⟩ ∧ w.cell? ⟨g, 0, none⟩ = some u ∧ w.cell? ⟨g, 1, none⟩ = some v := by
  obtain ⟨g, cap, hv, _, _⟩ := h.form (by omega)
  injection hv with e1 _ e3
  subst e1 e3
  exact ⟨g, rfl, h.cellAt 0 (by omega), h.cellAt 1 (by omega)⟩
theorem own_one {w : World} {base e c : Nat} {p : Option Addr} {u : Value} (h : w.ownsRow base e 1 (.slice p 1 c) 1 [u]) : ∃ g, p = some ⟨g, 0, none⟩ ∧ w.cell? ⟨g, 0, none⟩ = some u := by
  obtain ⟨g, cap, hv, _, _⟩ := h.form (by omega)
  injection hv with e1 _ e3
  subst e1 e3
  exact ⟨g, rfl, h.cellAt 0 (by omega)⟩
/-- two texts put together -/
theorem cat_run {P : Program} (a b : ByteArray) (h : a.size + b.size ≤ 4611686018427387904) : ∃ A : ByteArray, A.data.toList = a.data.toList ++ b.data.toList ∧ A.size = a.size + b.size ∧ ∀ w : World, (Op.stringOp .add a b).run P w = .ok (.string A) w := by
  refine ⟨a ++ b, ba_app a b, by simp, fun w => ?_⟩
  have hm : IntKind.i64.max = 9223372036854775807 := rfl
  have : ¬ (((a.size + b.size : Nat) : Int) > IntKind.i64.max) := by rw [hm]; omega
  simp only [Op.stringOp]
  rw [if_neg this]
  rfl
theorem own_cap {w : World} {base e n c size : Nat} {p : Option Addr} {xs : List Value} (h : w.ownsRow base e size (.slice p n c) n xs) : n ≤ c := by
  rcases h.2 with ⟨hv, hn⟩ | ⟨g, cap, cur, hv, _, _, hnc, _⟩
  · omega
  · injection hv with _ _ e3
    omega
/-- strings.Join of one, and of two -/
theorem join1 {w : World} {g c : Nat} {X : ByteArray} (hg : g < w.heap.size) (g0 : w.cell? ⟨g, 0, none⟩ = some (.string X)) (hc : 1 ≤ c) (hs : X.size ≤ 107374182400) (u : World) (hu : Below w.heap.size w u) :
    Calls Tryz.prog 99 #[.slice (some ⟨g, 0, none⟩) 1 c, .string ⟨#[44, 32]⟩] u fun e w' => e = .returned (.string X) ∧ Below u.heap.size u w' := by
  have hl : Lib.join ([X].map (·.data.toList)) (⟨#[44, 32]⟩ : ByteArray).data.toList = X.data.toList := by simp [Lib.join]
  have h := Tryz.strings_Join g 0 c [X] ⟨#[44, 32]⟩ u (fun j x hx => by
    match j, hx with
    | 0, hx => simp at hx; subst hx; exact (hu.cell hg).trans g0) (Nat.lt_of_lt_of_le hg hu.size) (by simp) hc (by
      have := ba_len X
      rw [hl]
      omega)
  refine h.mono ?_
  rintro e w' ⟨he, hb⟩
  refine ⟨?_, hb⟩
  rw [he, hl]
theorem join2 {w : World} {g c : Nat} {X Y : ByteArray} (hg : g < w.heap.size) (g0 : w.cell? ⟨g, 0, none⟩ = some (.string X)) (g1 : w.cell? ⟨g, 1, none⟩ = some (.string Y)) (hc : 2 ≤ c) (hs : X.size ≤ 107374182400) (ht : Y.size ≤ 107374182400) {Z : ByteArray} (hz : Z.data.toList = X.data.toList ++ (44 :: 32 :: Y.data.toList)) (u : World) (hu : Below w.heap.size w u) :
    Calls Tryz.prog 99 #[.slice (some ⟨g, 0, none⟩) 2 c, .string ⟨#[44, 32]⟩] u fun e w' => e = .returned (.string Z) ∧ Below u.heap.size u w' := by
  have hl : Lib.join ([X, Y].map (·.data.toList)) (⟨#[44, 32]⟩ : ByteArray).data.toList = Z.data.toList := by
    rw [hz]
    simp [Lib.join]
  have h := Tryz.strings_Join g 0 c [X, Y] ⟨#[44, 32]⟩ u (fun j x hx => by
    match j, hx with
    | 0, hx => simp at hx; subst hx; exact (hu.cell hg).trans g0
    | 1, hx => simp at hx; subst hx; exact (hu.cell hg).trans g1) (Nat.lt_of_lt_of_le hg hu.size) (by simp) hc (by
      have h1 := ba_len X
      have h2 := ba_len Y
      rw [hl, hz]
      simp only [List.length_append, List.length_cons]
      omega)
  refine h.mono ?_
  rintro e w' ⟨he, hb⟩
  refine ⟨?_, hb⟩
  rw [he, hl]
theorem below_grow_drew (w : World) (k : Nat) (os : Array Obj) : Below w.heap.size w (Go.Sort.grow (w.drewN k) os) :=
  ⟨rfl, rfl, rfl, by show w.heap.size ≤ (w.heap ++ os).size; simp, fun j hj => by
    show (w.heap ++ os)[j]? = _
    rw [Array.getElem?_append_left hj]⟩
def TextPost (t : QT) (w : World) (e : Ending) (w' : World) : Prop := e = .returned (.string (qtx (qtxt (qabs t)))) ∧ Below w.heap.size w w'
set_option maxHeartbeats 8000000 in
set_option maxRecDepth 100000 in
theorem text_ok : ∀ (t : QT) (w : World), QIn w t → TxtTabs w → qchk qpat (qabs t) = 0 → qcnt (qabs t) ≤ 1073741824 → Calls Tryz.prog 70 #[t.v] w (TextPost t w) := by
  intro t
  induction t using QT.ind with
  | h k s n p c xs ih =>
    intro w hq hT hch hcn
    have hqa : qabs (.mk k s n p c xs) = .mk k s.data.toList n (qabss xs) := rfl
    obtain ⟨hnode, hkids⟩ := qchk_zero.1 (hqa ▸ hch)
    rw [qabss_len] at hnode
    have hlen : ∀ x ∈ xs, qchk qpat (qabs x) = 0 ∧ qcnt (qabs x) ≤ 1073741824 := by
      intro x hx
      have hm : qabs x ∈ qabss xs := by rw [qabss_map]; exact List.mem_map.2 ⟨x, hx, rfl⟩
      refine ⟨hkids _ hm, ?_⟩
      have := qcnt_mem hm
      have e : qcnt (qabs (.mk k s n p c xs)) = 1 + qcnts (qabss xs) := rfl
      omega
    have IH := Lib.hid (fun x (hx : x ∈ xs) (u : World) (hu : QIn u x) (ht : TxtTabs u) => ih x hx u hu ht (hlen x hx).1 (hlen x hx).2)
    have HLN : Hid (∀ x ∈ xs, (qtxt (qabs x)).length ≤ 107374182400) := by
      show ∀ x ∈ xs, _
      intro x hx
      have := qtxt_len (qabs x) (hlen x hx).1
      have := (hlen x hx).2
      omega
    have HK : Hid (QsIn w p 0 xs) := hq.kids
    have hsm := hq.small.2
    have hss : s.size ≤ 1048576 := hq.small.1
    have hx2 : xs.length ≤ 2 := by rcases node_cases hnode with h | h | h | h | h | h | h | h | h | h <;> omega
    have hk1 : 1 ≤ k ∧ k ≤ 15 := by rcases node_cases hnode with h | h | h | h | h | h | h | h | h | h <;> omega
    have HND := Lib.hid (node_cases hnode)
    clear ih hq hsm hlen hkids hch hcn hnode
    obtain ⟨W, hW, hBW, hS, hC⟩ := arg1 w (.int .i64 k) (.string s) (.int .i64 n) (.slice p xs.length c)
    have HC := Lib.hid hC
    have HBW := Lib.hid hBW
    have HT := Lib.hid hT
    obtain ⟨k0, k1, k2, k3⟩ := HC.out W (Below.refl _ _)
    rw [hW] at k0 k1 k2 k3
    show Calls Tryz.prog 70 #[.agg #[.int .i64 k, .string s, .int .i64 n, .slice p xs.length c]] w _
    have HSZ := Lib.hid hS
    clear hBW hS hC hT hqa
    obtain ⟨j, rfl⟩ := Int.eq_ofNat_of_zero_le (show 0 ≤ k by omega)
    obtain ⟨f0, f1, f2, f3⟩ := (HT.out.ask.forms.below HBW.out) j (by omega)
    rw [show 4 * j = j * 4 by omega] at f0 f1 f2 f3
    obtain ⟨wd, hwd⟩ : ∃ wd, qtx (qword (j : Int)) = wd := ⟨_, rfl⟩
    rw [hwd] at f3
    have HWD := Lib.hid hwd
    clear hwd
    generalize qmany (j : Int) = mn at f0
    generalize qnamed (j : Int) = nb at f1
    generalize qnumd (j : Int) = ub at f2
    rw [hW] at f0 f1 f2 f3
    have hj1 : 1 ≤ j := by omega
    have hj2 : j ≤ 15 := by omega
    go_enter Tryz.func70, Tryz.ntmps70
    go_upto_region 2 with fail
    rw [← hW] at k0 k1 k2 k3 f0 f1 f2 f3 ⊢
    clear hW
    obtain ⟨V, hV⟩ : ∃ V : World, V = W.alloc (.cells #[.int .i64 (mn : Int), .bool nb, .bool ub, .string wd] 128) := ⟨_, rfl⟩
    have hBV : Below W.heap.size W V := by rw [hV]; exact (Below.refl _ _).alloc (Nat.le_refl _) _
    have HBV := Lib.hid (HBW.out.trans (hBV.mono HBW.out.size))
    have q3 : V.cell? ⟨W.heap.size, 3, none⟩ = some (.string wd) := by rw [hV, World.cell?_alloc_at _ _ _ _ rfl]; rfl
    have hlt : W.heap.size < V.heap.size := by rw [hV]; simp
    have HQ : Hid (∀ u, Below V.heap.size V u → u.cell? ⟨w.heap.size + 1, 3, none⟩ = some (.string wd) ∧ u.cell? ⟨w.heap.size, 0, none⟩ = some (.int .i64 (j : Int)) ∧ u.cell? ⟨w.heap.size, 1, none⟩ = some (.string s) ∧ u.cell? ⟨w.heap.size, 2, none⟩ = some (.int .i64 n) ∧ u.cell? ⟨w.heap.size, 3, none⟩ = some (.slice p xs.length c)) := by
      show ∀ u, _
      rw [HSZ.out] at q3 hlt
      exact fun u hu => ⟨(hu.cell hlt).trans q3, HC.out u (hBV.trans (hu.mono hBV.size))⟩
    obtain ⟨_, v0, v1, v2, v3⟩ := HQ.out V (Below.refl _ _)
    have HKV := Lib.hid (HK.out.below HBV.out)
    have HTV := Lib.hid (HT.out.below HBV.out)
    rw [← hV]
    clear hV hBV hlt k0 k1 k2 k3 f0 f1 f2 f3 q3
    go_wp2_with fail
    go_loopw [14, 4] (fun i v wr => ∃ m : Nat, m ≤ xs.length ∧ i = .int .i64 m ∧ Hid (wr.ownsRow V.heap.size 9 1 v m (txtsV (xs.take m))) ∧ Hid (Below V.heap.size V wr)) (fun i _ _ => xs.length - (intOf i).toNat)
    case atStart => exact ⟨0, Nat.zero_le _, rfl, ⟨rfl, .inl ⟨rfl, rfl⟩⟩, Below.refl _ _⟩
    case round =>
      obtain ⟨m, hm, rfl, HO, HB⟩ := hrel
      by_cases hlt : m < xs.length
      · obtain ⟨x, hx⟩ : ∃ x, xs[m]? = some x := ⟨_, List.getElem?_eq_getElem hlt⟩
        obtain ⟨⟨b, o, rfl, hb, hf⟩, hqx⟩ := HKV.out.at hx
        obtain ⟨c0, c1, c2, c3⟩ := four_at (hf.below HB.out hb)
        have HCALL := Lib.hid (fun (u : World) (hu : Below wr.heap.size wr u) => IH.out x (List.mem_of_getElem? hx) u (hqx.below (HB.out.trans (hu.mono HB.out.size))) (HTV.out.below (HB.out.trans (hu.mono HB.out.size))))
        have HNX := Lib.hid (txtsV_next hx)
        have HAL : Hid (∀ o, Below wr.heap.size wr (wr.alloc o)) := fun o => (Below.refl _ _).alloc (Nat.le_refl _) o
        clear hqx hf hb
        obtain ⟨y, hy⟩ : ∃ y, qtx (qtxt (qabs x)) = y := ⟨_, rfl⟩
        rw [hy] at HNX
        have HYY := Lib.hid hy
        clear hy
        go_wp2_with (first
          | (go_at_call 70; refine (HCALL.out _ (HAL.out _)).mono ?_; rintro e w5 ⟨rfl, hb5⟩; rw [HYY.out]; have HB5 := Lib.hid (HB.out.trans (((HAL.out _).trans (hb5.mono (HAL.out _).size)).mono HB.out.size)); have HO5 := Lib.hid (own_below1 HO.out ((HAL.out _).trans (hb5.mono (HAL.out _).size))); clear hb5)
          | (at_builtin; refine app_str _ rfl _ _ rfl V.heap.size _ m _ rfl (HO5.out.alloc _) _ (.string y) rfl rfl ?c1 (by omega) ?c2 ?_; rotate_right; intro v' w6 hown6 hgrow6; have HO6 : Hid (w6.ownsRow V.heap.size 9 1 v' (m + 1) (txtsV (xs.take (m + 1)))) := (by show World.ownsRow _ _ _ _ _ _ _; rw [HNX.out]; exact hown6); have HB6 : Hid (Below V.heap.size V w6) := (HB5.out.alloc HB5.out.size _).trans (own_grown1 (HO5.out.alloc _) (by have := HB5.out.size; simp; omega) hgrow6); clear hown6 hgrow6))
        case c1 => rw [World.cell?_alloc_at _ _ _ _ rfl]; rfl
        case c2 => have := HB5.out.size; simp; omega
        go_roundw
        case rel => exact ⟨m + 1, by omega, by go_num, HO6.out, HB6.out⟩
        case measure => simp [intOf]; omega
      · obtain rfl : m = xs.length := by omega
        rw [List.take_length] at HO
        obtain ⟨gp, gc, rfl, hgl⟩ := own_form1 HO.out
        have HW := Lib.hid (HBV.out.trans (HB.out.mono HBV.out.size))
        obtain ⟨q3, v0, v1, v2, v3⟩ := HQ.out wr HB.out
        have hnd := HND.out
        clear HND hlt hm hgl
        rcases hnd with ⟨hj, hm, rfl, h1, h2⟩ | ⟨hj, hm, rfl, hs0⟩ | ⟨hj, hm, rfl, h1⟩ | ⟨hj, hm, rfl, h1⟩ | ⟨hj, hm, rfl, hs0⟩ | ⟨hj, hm, rfl, hs0⟩ | ⟨hj, hm, n0, n1, hs0⟩ | ⟨hj, hm, rfl, hs0⟩ | ⟨hj, hm, rfl, h1⟩ | ⟨hj, hm, n0, n1, hs0⟩
        · obtain rfl : j = 1 := by omega
          obtain rfl := List.length_eq_zero_iff.1 hm
          go_wp2
          go_ret
          exact ⟨congrArg (fun x => Ending.returned (Value.string x)) (qtx_eq rfl), HW.out⟩
        · obtain rfl : j = 2 := by omega
          obtain rfl := List.length_eq_zero_iff.1 hm
          go_wp2
          go_ret
          exact ⟨rfl, HW.out⟩
        · obtain rfl : j = 3 := by omega
          obtain rfl := List.length_eq_zero_iff.1 hm
          go_wp2
          go_ret
          exact ⟨congrArg (fun x => Ending.returned (Value.string x)) (qtx_eq (by rw [ba_app]; rfl)), HW.out⟩
        · obtain rfl : j = 4 := by omega
          obtain ⟨x, y, rfl⟩ := len_two hm
          obtain ⟨X, hX⟩ : ∃ X, qtx (qtxt (qabs x)) = X := ⟨_, rfl⟩
          obtain ⟨Y, hY⟩ : ∃ Y, qtx (qtxt (qabs y)) = Y := ⟨_, rfl⟩
          have hO : txtsV [x, y] = [.string X, .string Y] := by unfold txtsV; simp [hX, hY]
          rw [hO] at HO
          obtain ⟨g, rfl, g0, g1⟩ := own_two HO.out
          have HX : Hid (X.data.toList = qtxt (qabs x)) := by show _ = _; rw [← hX, qtx_list]
          have HY : Hid (Y.data.toList = qtxt (qabs y)) := by show _ = _; rw [← hY, qtx_list]
          have hXs : X.size ≤ 107374182400 := by rw [← hX, qtx_size]; exact HLN.out x (by simp)
          have hYs : Y.size ≤ 107374182400 := by rw [← hY, qtx_size]; exact HLN.out y (by simp)
          obtain ⟨A1, a1, z1, r1⟩ := cat_run (P := Tryz.prog) ⟨#[40, 108, 101, 116, 32]⟩ s (by show 5 + _ ≤ _; omega)
          obtain ⟨A2, a2, z2, r2⟩ := cat_run (P := Tryz.prog) A1 ⟨#[32, 61, 32]⟩ (by show _ + 3 ≤ _; rw [z1]; show 5 + _ + 3 ≤ _; omega)
          obtain ⟨A3, a3, z3, r3⟩ := cat_run (P := Tryz.prog) A2 X (by rw [z2, z1]; show 5 + _ + 3 + _ ≤ _; omega)
          obtain ⟨A4, a4, z4, r4⟩ := cat_run (P := Tryz.prog) A3 ⟨#[32, 105, 110, 32]⟩ (by rw [z3, z2, z1]; show 5 + _ + 3 + _ + 4 ≤ _; omega)
          obtain ⟨A5, a5, z5, r5⟩ := cat_run (P := Tryz.prog) A4 Y (by rw [z4, z3, z2, z1]; show 5 + _ + 3 + _ + 4 + _ ≤ _; omega)
          obtain ⟨A6, a6, _, r6⟩ := cat_run (P := Tryz.prog) A5 ⟨#[41]⟩ (by rw [z5, z4, z3, z2, z1]; show 5 + _ + 3 + _ + 4 + _ + 1 ≤ _; omega)
          have HA : Hid (A6.data.toList = qtxt (qabs (.mk ((4 : Nat) : Int) s 0 p c [x, y]))) := by
            show _ = _
            rw [a6, a5, a4, a3, a2, a1, HX.out, HY.out]
            show (((((([40, 108, 101, 116, 32] ++ s.data.toList) ++ [32, 61, 32]) ++ qtxt (qabs x)) ++ [32, 105, 110, 32]) ++ qtxt (qabs y)) ++ [41]) = [40, 108, 101, 116, 32] ++ (s.data.toList ++ ([32, 61, 32] ++ (qtxt (qabs x) ++ ([32, 105, 110, 32] ++ (qtxt (qabs y) ++ [41])))))
            simp only [List.append_assoc]
          clear hX hY hO HO a1 a2 a3 a4 a5 a6 z1 z2 z3 z4 z5 hXs hYs
          go_wp2
          go_quiet (fail)
          go_wp2
          go_ret
          exact ⟨congrArg (fun x => Ending.returned (Value.string x)) (qtx_eq HA.out), below_drawsA HW.out _⟩
        · rcases hj with hj | hj | hj
          · obtain rfl : j = 5 := by omega
            obtain ⟨x, y, rfl⟩ := len_two hm
            obtain ⟨X, hX⟩ : ∃ X, qtx (qtxt (qabs x)) = X := ⟨_, rfl⟩
            obtain ⟨Y, hY⟩ : ∃ Y, qtx (qtxt (qabs y)) = Y := ⟨_, rfl⟩
            have hO : txtsV [x, y] = [.string X, .string Y] := by unfold txtsV; simp [hX, hY]
            rw [hO] at HO
            obtain ⟨g, rfl, g0, g1⟩ := own_two HO.out
            have HX : Hid (X.data.toList = qtxt (qabs x)) := by show _ = _; rw [← hX, qtx_list]
            have HY : Hid (Y.data.toList = qtxt (qabs y)) := by show _ = _; rw [← hY, qtx_list]
            have hXs : X.size ≤ 107374182400 := by rw [← hX, qtx_size]; exact HLN.out x (by simp)
            have hYs : Y.size ≤ 107374182400 := by rw [← hY, qtx_size]; exact HLN.out y (by simp)
            have hwl : wd.data.toList = qword 5 := by rw [← HWD.out, qtx_list]; rfl
            have hws : wd.size = 1 := by rw [← ba_len, hwl]; rfl
            obtain ⟨A1, a1, z1, r1⟩ := cat_run (P := Tryz.prog) ⟨#[40]⟩ X (by show 1 + _ ≤ _; omega)
            obtain ⟨A2, a2, z2, r2⟩ := cat_run (P := Tryz.prog) A1 ⟨#[32]⟩ (by rw [z1]; show 1 + _ + 1 ≤ _; omega)
            obtain ⟨A3, a3, z3, r3⟩ := cat_run (P := Tryz.prog) A2 wd (by rw [z2, z1]; show 1 + _ + 1 + _ ≤ _; omega)
            obtain ⟨A4, a4, z4, r4⟩ := cat_run (P := Tryz.prog) A3 ⟨#[32]⟩ (by rw [z3, z2, z1]; show 1 + _ + 1 + _ + 1 ≤ _; omega)
            obtain ⟨A5, a5, z5, r5⟩ := cat_run (P := Tryz.prog) A4 Y (by rw [z4, z3, z2, z1]; show 1 + _ + 1 + _ + 1 + _ ≤ _; omega)
            obtain ⟨A6, a6, z6, r6⟩ := cat_run (P := Tryz.prog) A5 ⟨#[41]⟩ (by rw [z5, z4, z3, z2, z1]; show 1 + _ + 1 + _ + 1 + _ + 1 ≤ _; omega)
            have HA : Hid (A6.data.toList = qtxt (qabs (.mk ((5 : Nat) : Int) s 0 p c [x, y]))) := by
              show _ = _
              rw [a6, a5, a4, a3, a2, a1, HX.out, HY.out, hwl]
              show (((((([40] ++ qtxt (qabs x)) ++ [32]) ++ qword 5) ++ [32]) ++ qtxt (qabs y)) ++ [41]) = 40 :: (qtxt (qabs x) ++ (32 :: (qword 5 ++ (32 :: (qtxt (qabs y) ++ [41])))))
              simp only [List.append_assoc, List.cons_append, List.nil_append]
            clear hX hY hO HO a1 a2 a3 a4 a5 a6 z1 z2 z3 z4 z5 hXs hYs hwl hws
            go_wp2
            go_quiet (fail)
            go_wp2
            go_ret
            exact ⟨congrArg (fun x => Ending.returned (Value.string x)) (qtx_eq HA.out), below_drawsA HW.out _⟩
          · obtain rfl : j = 6 := by omega
            obtain ⟨x, y, rfl⟩ := len_two hm
            obtain ⟨X, hX⟩ : ∃ X, qtx (qtxt (qabs x)) = X := ⟨_, rfl⟩
            obtain ⟨Y, hY⟩ : ∃ Y, qtx (qtxt (qabs y)) = Y := ⟨_, rfl⟩
            have hO : txtsV [x, y] = [.string X, .string Y] := by unfold txtsV; simp [hX, hY]
            rw [hO] at HO
            obtain ⟨g, rfl, g0, g1⟩ := own_two HO.out
            have HX : Hid (X.data.toList = qtxt (qabs x)) := by show _ = _; rw [← hX, qtx_list]
            have HY : Hid (Y.data.toList = qtxt (qabs y)) := by show _ = _; rw [← hY, qtx_list]
            have hXs : X.size ≤ 107374182400 := by rw [← hX, qtx_size]; exact HLN.out x (by simp)
            have hYs : Y.size ≤ 107374182400 := by rw [← hY, qtx_size]; exact HLN.out y (by simp)
            have hwl : wd.data.toList = qword 6 := by rw [← HWD.out, qtx_list]; rfl
            have hws : wd.size = 1 := by rw [← ba_len, hwl]; rfl
            obtain ⟨A1, a1, z1, r1⟩ := cat_run (P := Tryz.prog) ⟨#[40]⟩ X (by show 1 + _ ≤ _; omega)
            obtain ⟨A2, a2, z2, r2⟩ := cat_run (P := Tryz.prog) A1 ⟨#[32]⟩ (by rw [z1]; show 1 + _ + 1 ≤ _; omega)
            obtain ⟨A3, a3, z3, r3⟩ := cat_run (P := Tryz.prog) A2 wd (by rw [z2, z1]; show 1 + _ + 1 + _ ≤ _; omega)
            obtain ⟨A4, a4, z4, r4⟩ := cat_run (P := Tryz.prog) A3 ⟨#[32]⟩ (by rw [z3, z2, z1]; show 1 + _ + 1 + _ + 1 ≤ _; omega)
            obtain ⟨A5, a5, z5, r5⟩ := cat_run (P := Tryz.prog) A4 Y (by rw [z4, z3, z2, z1]; show 1 + _ + 1 + _ + 1 + _ ≤ _; omega)
            obtain ⟨A6, a6, z6, r6⟩ := cat_run (P := Tryz.prog) A5 ⟨#[41]⟩ (by rw [z5, z4, z3, z2, z1]; show 1 + _ + 1 + _ + 1 + _ + 1 ≤ _; omega)
            have HA : Hid (A6.data.toList = qtxt (qabs (.mk ((6 : Nat) : Int) s 0 p c [x, y]))) := by
              show _ = _
              rw [a6, a5, a4, a3, a2, a1, HX.out, HY.out, hwl]
              show (((((([40] ++ qtxt (qabs x)) ++ [32]) ++ qword 6) ++ [32]) ++ qtxt (qabs y)) ++ [41]) = 40 :: (qtxt (qabs x) ++ (32 :: (qword 6 ++ (32 :: (qtxt (qabs y) ++ [41])))))
              simp only [List.append_assoc, List.cons_append, List.nil_append]
            clear hX hY hO HO a1 a2 a3 a4 a5 a6 z1 z2 z3 z4 z5 hXs hYs hwl hws
            go_wp2
            go_quiet (fail)
            go_wp2
            go_ret
            exact ⟨congrArg (fun x => Ending.returned (Value.string x)) (qtx_eq HA.out), below_drawsA HW.out _⟩
          · obtain rfl : j = 7 := by omega
            obtain ⟨x, y, rfl⟩ := len_two hm
            obtain ⟨X, hX⟩ : ∃ X, qtx (qtxt (qabs x)) = X := ⟨_, rfl⟩
            obtain ⟨Y, hY⟩ : ∃ Y, qtx (qtxt (qabs y)) = Y := ⟨_, rfl⟩
            have hO : txtsV [x, y] = [.string X, .string Y] := by unfold txtsV; simp [hX, hY]
            rw [hO] at HO
            obtain ⟨g, rfl, g0, g1⟩ := own_two HO.out
            have HX : Hid (X.data.toList = qtxt (qabs x)) := by show _ = _; rw [← hX, qtx_list]
            have HY : Hid (Y.data.toList = qtxt (qabs y)) := by show _ = _; rw [← hY, qtx_list]
            have hXs : X.size ≤ 107374182400 := by rw [← hX, qtx_size]; exact HLN.out x (by simp)
            have hYs : Y.size ≤ 107374182400 := by rw [← hY, qtx_size]; exact HLN.out y (by simp)
            have hwl : wd.data.toList = qword 7 := by rw [← HWD.out, qtx_list]; rfl
            have hws : wd.size = 1 := by rw [← ba_len, hwl]; rfl
            obtain ⟨A1, a1, z1, r1⟩ := cat_run (P := Tryz.prog) ⟨#[40]⟩ X (by show 1 + _ ≤ _; omega)
            obtain ⟨A2, a2, z2, r2⟩ := cat_run (P := Tryz.prog) A1 ⟨#[32]⟩ (by rw [z1]; show 1 + _ + 1 ≤ _; omega)
            obtain ⟨A3, a3, z3, r3⟩ := cat_run (P := Tryz.prog) A2 wd (by rw [z2, z1]; show 1 + _ + 1 + _ ≤ _; omega)
            obtain ⟨A4, a4, z4, r4⟩ := cat_run (P := Tryz.prog) A3 ⟨#[32]⟩ (by rw [z3, z2, z1]; show 1 + _ + 1 + _ + 1 ≤ _; omega)
            obtain ⟨A5, a5, z5, r5⟩ := cat_run (P := Tryz.prog) A4 Y (by rw [z4, z3, z2, z1]; show 1 + _ + 1 + _ + 1 + _ ≤ _; omega)
            obtain ⟨A6, a6, z6, r6⟩ := cat_run (P := Tryz.prog) A5 ⟨#[41]⟩ (by rw [z5, z4, z3, z2, z1]; show 1 + _ + 1 + _ + 1 + _ + 1 ≤ _; omega)
            have HA : Hid (A6.data.toList = qtxt (qabs (.mk ((7 : Nat) : Int) s 0 p c [x, y]))) := by
              show _ = _
              rw [a6, a5, a4, a3, a2, a1, HX.out, HY.out, hwl]
              show (((((([40] ++ qtxt (qabs x)) ++ [32]) ++ qword 7) ++ [32]) ++ qtxt (qabs y)) ++ [41]) = 40 :: (qtxt (qabs x) ++ (32 :: (qword 7 ++ (32 :: (qtxt (qabs y) ++ [41])))))
              simp only [List.append_assoc, List.cons_append, List.nil_append]
            clear hX hY hO HO a1 a2 a3 a4 a5 a6 z1 z2 z3 z4 z5 hXs hYs hwl hws
            go_wp2
            go_quiet (fail)
            go_wp2
            go_ret
            exact ⟨congrArg (fun x => Ending.returned (Value.string x)) (qtx_eq HA.out), below_drawsA HW.out _⟩
        · rcases hj with hj | hj
          · obtain rfl : j = 8 := by omega
            obtain ⟨x, rfl⟩ := len_one hm
            obtain ⟨X, hX⟩ : ∃ X, qtx (qtxt (qabs x)) = X := ⟨_, rfl⟩
            have hO : txtsV [x] = [.string X] := by unfold txtsV; simp [hX]
            rw [hO] at HO
            have HX : Hid (X.data.toList = qtxt (qabs x)) := by show _ = _; rw [← hX, qtx_list]
            have hXs : X.size ≤ 107374182400 := by rw [← hX, qtx_size]; exact HLN.out x (by simp)
            obtain ⟨g, rfl, g0⟩ := own_one HO.out
            have hglt : g < wr.heap.size := (HO.out.lt g rfl).2
            have hgc : 1 ≤ gc := own_cap HO.out
            have hwl : wd.data.toList = qword 8 := by rw [← HWD.out, qtx_list]; rfl
            have hws : wd.size ≤ 5 := by rw [← ba_len, hwl]; decide
            obtain ⟨A1, a1, z1, r1⟩ := cat_run (P := Tryz.prog) wd ⟨#[40]⟩ (by show _ + 1 ≤ _; omega)
            obtain ⟨A2, a2, z2, r2⟩ := cat_run (P := Tryz.prog) A1 X (by rw [z1]; show _ + 1 + _ ≤ _; omega)
            obtain ⟨A3, a3, _, r3⟩ := cat_run (P := Tryz.prog) A2 ⟨#[41]⟩ (by rw [z2, z1]; show _ + 1 + _ + 1 ≤ _; omega)
            have HA : Hid (A3.data.toList = qtxt (qabs (.mk ((8 : Nat) : Int) s 0 p c [x]))) := by
              show _ = _
              rw [a3, a2, a1, HX.out, hwl]
              show (((qword 8 ++ [40]) ++ qtxt (qabs x)) ++ [41]) = qword 8 ++ (40 :: (qtxt (qabs x) ++ [41]))
              simp only [List.append_assoc, List.cons_append, List.nil_append]
            have HJ := Lib.hid (fun (u : World) (hu : Below wr.heap.size wr u) => join1 (c := gc) hglt g0 hgc (by omega) u hu)
            clear hX hO HO a1 a2 a3 z1 z2 hXs hwl hws g0
            have hZ0 : [x].length = 1 := rfl
            have HQ3 := Lib.hid (fun (u : World) (hu : Below wr.heap.size wr u) => (HQ.out u (HB.out.trans (hu.mono HB.out.size))).1)
            go_upto_region 28 with fail
            rw [hZ0]
            go_region_with (go_at_call 99; refine (HJ.out _ (below_drawsA (Below.refl _ _) _)).mono ?_; rintro e w3 ⟨rfl, hb⟩; have q9 := HQ3.out _ ((below_drawsA (Below.refl wr.heap.size wr) _).trans (hb.mono (Nat.le_refl _))); have HB3 := Lib.hid hb; clear hb)
            all_goals
              go_wp2
              go_ret
              exact ⟨congrArg (fun x => Ending.returned (Value.string x)) (qtx_eq HA.out), (below_drawsA HW.out _).trans (HB3.out.mono HW.out.size)⟩
          · obtain rfl : j = 9 := by omega
            obtain ⟨x, rfl⟩ := len_one hm
            obtain ⟨X, hX⟩ : ∃ X, qtx (qtxt (qabs x)) = X := ⟨_, rfl⟩
            have hO : txtsV [x] = [.string X] := by unfold txtsV; simp [hX]
            rw [hO] at HO
            have HX : Hid (X.data.toList = qtxt (qabs x)) := by show _ = _; rw [← hX, qtx_list]
            have hXs : X.size ≤ 107374182400 := by rw [← hX, qtx_size]; exact HLN.out x (by simp)
            obtain ⟨g, rfl, g0⟩ := own_one HO.out
            have hglt : g < wr.heap.size := (HO.out.lt g rfl).2
            have hgc : 1 ≤ gc := own_cap HO.out
            have hwl : wd.data.toList = qword 9 := by rw [← HWD.out, qtx_list]; rfl
            have hws : wd.size ≤ 5 := by rw [← ba_len, hwl]; decide
            obtain ⟨A1, a1, z1, r1⟩ := cat_run (P := Tryz.prog) wd ⟨#[40]⟩ (by show _ + 1 ≤ _; omega)
            obtain ⟨A2, a2, z2, r2⟩ := cat_run (P := Tryz.prog) A1 X (by rw [z1]; show _ + 1 + _ ≤ _; omega)
            obtain ⟨A3, a3, _, r3⟩ := cat_run (P := Tryz.prog) A2 ⟨#[41]⟩ (by rw [z2, z1]; show _ + 1 + _ + 1 ≤ _; omega)
            have HA : Hid (A3.data.toList = qtxt (qabs (.mk ((9 : Nat) : Int) s 0 p c [x]))) := by
              show _ = _
              rw [a3, a2, a1, HX.out, hwl]
              show (((qword 9 ++ [40]) ++ qtxt (qabs x)) ++ [41]) = qword 9 ++ (40 :: (qtxt (qabs x) ++ [41]))
              simp only [List.append_assoc, List.cons_append, List.nil_append]
            have HJ := Lib.hid (fun (u : World) (hu : Below wr.heap.size wr u) => join1 (c := gc) hglt g0 hgc (by omega) u hu)
            clear hX hO HO a1 a2 a3 z1 z2 hXs hwl hws g0
            have hZ0 : [x].length = 1 := rfl
            have HQ3 := Lib.hid (fun (u : World) (hu : Below wr.heap.size wr u) => (HQ.out u (HB.out.trans (hu.mono HB.out.size))).1)
            go_upto_region 28 with fail
            rw [hZ0]
            go_region_with (go_at_call 99; refine (HJ.out _ (below_drawsA (Below.refl _ _) _)).mono ?_; rintro e w3 ⟨rfl, hb⟩; have q9 := HQ3.out _ ((below_drawsA (Below.refl wr.heap.size wr) _).trans (hb.mono (Nat.le_refl _))); have HB3 := Lib.hid hb; clear hb)
            all_goals
              go_wp2
              go_ret
              exact ⟨congrArg (fun x => Ending.returned (Value.string x)) (qtx_eq HA.out), (below_drawsA HW.out _).trans (HB3.out.mono HW.out.size)⟩
        · rcases hj with hj | hj
          · obtain rfl : j = 10 := by omega
            obtain ⟨x, rfl⟩ := len_one hm
            obtain ⟨X, hX⟩ : ∃ X, qtx (qtxt (qabs x)) = X := ⟨_, rfl⟩
            have hO : txtsV [x] = [.string X] := by unfold txtsV; simp [hX]
            rw [hO] at HO
            have HX : Hid (X.data.toList = qtxt (qabs x)) := by show _ = _; rw [← hX, qtx_list]
            have hXs : X.size ≤ 107374182400 := by rw [← hX, qtx_size]; exact HLN.out x (by simp)
            obtain ⟨N, hN⟩ : ∃ N : ByteArray, (⟨(Lib.itoa n).toArray⟩ : ByteArray) = N := ⟨_, rfl⟩
            have hNl : N.data.toList = Lib.itoa n := by rw [← hN]
            have hNs : N.size ≤ 3 := by rw [← ba_len, hNl]; exact itoa_len n0 n1
            have HITO := Lib.hid (fun (u : World) (hu : Below wr.heap.size wr u) => Tryz.strconv_Itoa n (by omega) (by omega) u ((HTV.out.below (HB.out.trans (hu.mono HB.out.size))).pow))
            rw [hN] at HITO
            have HN := Lib.hid hNl
            have hwl : wd.data.toList = qword 10 := by rw [← HWD.out, qtx_list]; rfl
            have hws : wd.size ≤ 5 := by rw [← ba_len, hwl]; decide
            obtain ⟨Z1, y1, x1, _⟩ := cat_run (P := Tryz.prog) X ⟨#[44, 32]⟩ (by show _ + 2 ≤ _; omega)
            obtain ⟨Z, y2, x2, _⟩ := cat_run (P := Tryz.prog) Z1 N (by rw [x1]; show _ + 2 + _ ≤ _; omega)
            have hz : Z.data.toList = X.data.toList ++ (44 :: 32 :: N.data.toList) := by rw [y2, y1, List.append_assoc]; rfl
            have hZs : Z.size ≤ 107374182405 := by rw [x2, x1]; show _ + 2 + _ ≤ _; omega
            obtain ⟨A1, a1, z1, r1⟩ := cat_run (P := Tryz.prog) wd ⟨#[40]⟩ (by show _ + 1 ≤ _; omega)
            obtain ⟨A2, a2, z2, r2⟩ := cat_run (P := Tryz.prog) A1 Z (by rw [z1]; show _ + 1 + _ ≤ _; omega)
            obtain ⟨A3, a3, _, r3⟩ := cat_run (P := Tryz.prog) A2 ⟨#[41]⟩ (by rw [z2, z1]; show _ + 1 + _ + 1 ≤ _; omega)
            have HA : Hid (A3.data.toList = qtxt (qabs (.mk ((10 : Nat) : Int) s n p c [x]))) := by
              show _ = _
              rw [a3, a2, a1, hz, HX.out, hwl, hNl]
              show (((qword 10 ++ [40]) ++ (qtxt (qabs x) ++ (44 :: 32 :: Lib.itoa n))) ++ [41]) = qword 10 ++ (40 :: (qtxt (qabs x) ++ (44 :: 32 :: (Lib.itoa n ++ [41]))))
              simp only [List.append_assoc, List.cons_append, List.nil_append]
            have HZ := Lib.hid hz
            clear hX hO a1 a2 a3 z1 z2 hwl hws y1 y2 x1 x2 hN hNl hz hZs
            go_upto_region 27 with fail
            have hVs : V.heap.size ≤ wr.heap.size := HB.out.size
            go_wp2_with (first
              | (go_at_call 98; refine (HITO.out _ (Below.refl _ _)).mono ?_; rintro e w4 ⟨rfl, kk, os, hw4⟩; have HB4 : Hid (Below wr.heap.size wr w4) := (by rw [hw4]; exact below_grow_drew wr kk os); have hs4 := HB4.out.size; clear hw4)
              | (at_builtin; refine app_str _ rfl _ _ rfl V.heap.size _ 1 _ rfl ((own_below1 HO.out HB4.out).alloc _) _ (.string N) rfl rfl ?c1 (by omega) ?c2 ?_; rotate_right; intro v' w6 hown6 hgrow6; have HB6 : Hid (Below V.heap.size V w6) := (HB.out.trans (HB4.out.mono hVs)).trans ((((Below.refl w4.heap.size w4).alloc (Nat.le_refl _) _).mono (by omega)).trans (own_grown1 ((own_below1 HO.out HB4.out).alloc _) (by simp; omega) hgrow6)); have HO6 := Lib.hid hown6; obtain ⟨g6, c6, rfl, _⟩ := own_form1 hown6; clear hown6 hgrow6))
            case c1 => rw [World.cell?_alloc_at _ _ _ _ rfl]; rfl
            case c2 => simp; omega
            obtain ⟨g, rfl, g0, g1⟩ := own_two HO6.out
            have hglt : g < w6.heap.size := (HO6.out.lt g rfl).2
            have hgc : 2 ≤ c6 := own_cap HO6.out
            have HJ := Lib.hid (fun (u : World) (hu : Below w6.heap.size w6 u) => join2 (c := c6) hglt g0 g1 hgc hXs (by omega) HZ.out u hu)
            have HW6 := Lib.hid (HBV.out.trans (HB6.out.mono HBV.out.size))
            have HQ3 := Lib.hid (fun (u : World) (hu : Below w6.heap.size w6 u) => (HQ.out u (HB6.out.trans (hu.mono HB6.out.size))).1)
            have q8 := HQ3.out w6 (Below.refl _ _)
            clear g0 g1
            go_region_with (go_at_call 99; refine (HJ.out _ (below_drawsA (Below.refl _ _) _)).mono ?_; rintro e w3 ⟨rfl, hb⟩; have q9 := HQ3.out _ ((below_drawsA (Below.refl w6.heap.size w6) _).trans (hb.mono (Nat.le_refl _))); have HB3 := Lib.hid hb; clear hb)
            all_goals
              go_wp2
              go_ret
              exact ⟨congrArg (fun x => Ending.returned (Value.string x)) (qtx_eq HA.out), (below_drawsA HW6.out _).trans (HB3.out.mono HW6.out.size)⟩
          · obtain rfl : j = 11 := by omega
            obtain ⟨x, rfl⟩ := len_one hm
            obtain ⟨X, hX⟩ : ∃ X, qtx (qtxt (qabs x)) = X := ⟨_, rfl⟩
            have hO : txtsV [x] = [.string X] := by unfold txtsV; simp [hX]
            rw [hO] at HO
            have HX : Hid (X.data.toList = qtxt (qabs x)) := by show _ = _; rw [← hX, qtx_list]
            have hXs : X.size ≤ 107374182400 := by rw [← hX, qtx_size]; exact HLN.out x (by simp)
            obtain ⟨N, hN⟩ : ∃ N : ByteArray, (⟨(Lib.itoa n).toArray⟩ : ByteArray) = N := ⟨_, rfl⟩
            have hNl : N.data.toList = Lib.itoa n := by rw [← hN]
            have hNs : N.size ≤ 3 := by rw [← ba_len, hNl]; exact itoa_len n0 n1
            have HITO := Lib.hid (fun (u : World) (hu : Below wr.heap.size wr u) => Tryz.strconv_Itoa n (by omega) (by omega) u ((HTV.out.below (HB.out.trans (hu.mono HB.out.size))).pow))
            rw [hN] at HITO
            have HN := Lib.hid hNl
            have hwl : wd.data.toList = qword 11 := by rw [← HWD.out, qtx_list]; rfl
            have hws : wd.size ≤ 5 := by rw [← ba_len, hwl]; decide
            obtain ⟨Z1, y1, x1, _⟩ := cat_run (P := Tryz.prog) X ⟨#[44, 32]⟩ (by show _ + 2 ≤ _; omega)
            obtain ⟨Z, y2, x2, _⟩ := cat_run (P := Tryz.prog) Z1 N (by rw [x1]; show _ + 2 + _ ≤ _; omega)
            have hz : Z.data.toList = X.data.toList ++ (44 :: 32 :: N.data.toList) := by rw [y2, y1, List.append_assoc]; rfl
            have hZs : Z.size ≤ 107374182405 := by rw [x2, x1]; show _ + 2 + _ ≤ _; omega
            obtain ⟨A1, a1, z1, r1⟩ := cat_run (P := Tryz.prog) wd ⟨#[40]⟩ (by show _ + 1 ≤ _; omega)
            obtain ⟨A2, a2, z2, r2⟩ := cat_run (P := Tryz.prog) A1 Z (by rw [z1]; show _ + 1 + _ ≤ _; omega)
            obtain ⟨A3, a3, _, r3⟩ := cat_run (P := Tryz.prog) A2 ⟨#[41]⟩ (by rw [z2, z1]; show _ + 1 + _ + 1 ≤ _; omega)
            have HA : Hid (A3.data.toList = qtxt (qabs (.mk ((11 : Nat) : Int) s n p c [x]))) := by
              show _ = _
              rw [a3, a2, a1, hz, HX.out, hwl, hNl]
              show (((qword 11 ++ [40]) ++ (qtxt (qabs x) ++ (44 :: 32 :: Lib.itoa n))) ++ [41]) = qword 11 ++ (40 :: (qtxt (qabs x) ++ (44 :: 32 :: (Lib.itoa n ++ [41]))))
              simp only [List.append_assoc, List.cons_append, List.nil_append]
            have HZ := Lib.hid hz
            clear hX hO a1 a2 a3 z1 z2 hwl hws y1 y2 x1 x2 hN hNl hz hZs
            go_upto_region 27 with fail
            have hVs : V.heap.size ≤ wr.heap.size := HB.out.size
            go_wp2_with (first
              | (go_at_call 98; refine (HITO.out _ (Below.refl _ _)).mono ?_; rintro e w4 ⟨rfl, kk, os, hw4⟩; have HB4 : Hid (Below wr.heap.size wr w4) := (by rw [hw4]; exact below_grow_drew wr kk os); have hs4 := HB4.out.size; clear hw4)
              | (at_builtin; refine app_str _ rfl _ _ rfl V.heap.size _ 1 _ rfl ((own_below1 HO.out HB4.out).alloc _) _ (.string N) rfl rfl ?c1 (by omega) ?c2 ?_; rotate_right; intro v' w6 hown6 hgrow6; have HB6 : Hid (Below V.heap.size V w6) := (HB.out.trans (HB4.out.mono hVs)).trans ((((Below.refl w4.heap.size w4).alloc (Nat.le_refl _) _).mono (by omega)).trans (own_grown1 ((own_below1 HO.out HB4.out).alloc _) (by simp; omega) hgrow6)); have HO6 := Lib.hid hown6; obtain ⟨g6, c6, rfl, _⟩ := own_form1 hown6; clear hown6 hgrow6))
            case c1 => rw [World.cell?_alloc_at _ _ _ _ rfl]; rfl
            case c2 => simp; omega
            obtain ⟨g, rfl, g0, g1⟩ := own_two HO6.out
            have hglt : g < w6.heap.size := (HO6.out.lt g rfl).2
            have hgc : 2 ≤ c6 := own_cap HO6.out
            have HJ := Lib.hid (fun (u : World) (hu : Below w6.heap.size w6 u) => join2 (c := c6) hglt g0 g1 hgc hXs (by omega) HZ.out u hu)
            have HW6 := Lib.hid (HBV.out.trans (HB6.out.mono HBV.out.size))
            have HQ3 := Lib.hid (fun (u : World) (hu : Below w6.heap.size w6 u) => (HQ.out u (HB6.out.trans (hu.mono HB6.out.size))).1)
            have q8 := HQ3.out w6 (Below.refl _ _)
            clear g0 g1
            go_region_with (go_at_call 99; refine (HJ.out _ (below_drawsA (Below.refl _ _) _)).mono ?_; rintro e w3 ⟨rfl, hb⟩; have q9 := HQ3.out _ ((below_drawsA (Below.refl w6.heap.size w6) _).trans (hb.mono (Nat.le_refl _))); have HB3 := Lib.hid hb; clear hb)
            all_goals
              go_wp2
              go_ret
              exact ⟨congrArg (fun x => Ending.returned (Value.string x)) (qtx_eq HA.out), (below_drawsA HW6.out _).trans (HB3.out.mono HW6.out.size)⟩
        · rcases hj with hj | hj
          · obtain rfl : j = 12 := by omega
            obtain ⟨x, y, rfl⟩ := len_two hm
            obtain ⟨X, hX⟩ : ∃ X, qtx (qtxt (qabs x)) = X := ⟨_, rfl⟩
            obtain ⟨Y, hY⟩ : ∃ Y, qtx (qtxt (qabs y)) = Y := ⟨_, rfl⟩
            have hO : txtsV [x, y] = [.string X, .string Y] := by unfold txtsV; simp [hX, hY]
            rw [hO] at HO
            have HX : Hid (X.data.toList = qtxt (qabs x)) := by show _ = _; rw [← hX, qtx_list]
            have HY : Hid (Y.data.toList = qtxt (qabs y)) := by show _ = _; rw [← hY, qtx_list]
            have hXs : X.size ≤ 107374182400 := by rw [← hX, qtx_size]; exact HLN.out x (by simp)
            have hYs : Y.size ≤ 107374182400 := by rw [← hY, qtx_size]; exact HLN.out y (by simp)
            obtain ⟨g, rfl, g0, g1⟩ := own_two HO.out
            have hglt : g < wr.heap.size := (HO.out.lt g rfl).2
            have hgc : 2 ≤ gc := own_cap HO.out
            have hwl : wd.data.toList = qword 12 := by rw [← HWD.out, qtx_list]; rfl
            have hws : wd.size ≤ 5 := by rw [← ba_len, hwl]; decide
            obtain ⟨Z1, y1, x1, _⟩ := cat_run (P := Tryz.prog) X ⟨#[44, 32]⟩ (by show _ + 2 ≤ _; omega)
            obtain ⟨Z, y2, x2, _⟩ := cat_run (P := Tryz.prog) Z1 Y (by rw [x1]; show _ + 2 + _ ≤ _; omega)
            have hz : Z.data.toList = X.data.toList ++ (44 :: 32 :: Y.data.toList) := by rw [y2, y1, List.append_assoc]; rfl
            have hZs : Z.size ≤ 214748364805 := by rw [x2, x1]; show _ + 2 + _ ≤ _; omega
            obtain ⟨A1, a1, z1, r1⟩ := cat_run (P := Tryz.prog) wd ⟨#[40]⟩ (by show _ + 1 ≤ _; omega)
            obtain ⟨A2, a2, z2, r2⟩ := cat_run (P := Tryz.prog) A1 Z (by rw [z1]; show _ + 1 + _ ≤ _; omega)
            obtain ⟨A3, a3, _, r3⟩ := cat_run (P := Tryz.prog) A2 ⟨#[41]⟩ (by rw [z2, z1]; show _ + 1 + _ + 1 ≤ _; omega)
            have HA : Hid (A3.data.toList = qtxt (qabs (.mk ((12 : Nat) : Int) s 0 p c [x, y]))) := by
              show _ = _
              rw [a3, a2, a1, hz, HX.out, HY.out, hwl]
              show (((qword 12 ++ [40]) ++ (qtxt (qabs x) ++ (44 :: 32 :: qtxt (qabs y)))) ++ [41]) = qword 12 ++ (40 :: (qtxt (qabs x) ++ (44 :: 32 :: (qtxt (qabs y) ++ [41]))))
              simp only [List.append_assoc, List.cons_append, List.nil_append]
            have HJ := Lib.hid (fun (u : World) (hu : Below wr.heap.size wr u) => join2 (c := gc) hglt g0 g1 hgc hXs hYs hz u hu)
            clear hX hY hO HO a1 a2 a3 z1 z2 hXs hYs hwl hws g0 g1 y1 y2 x1 x2 hz hZs
            have hZ0 : [x, y].length = 2 := rfl
            have HQ3 := Lib.hid (fun (u : World) (hu : Below wr.heap.size wr u) => (HQ.out u (HB.out.trans (hu.mono HB.out.size))).1)
            go_upto_region 28 with fail
            rw [hZ0]
            go_region_with (go_at_call 99; refine (HJ.out _ (below_drawsA (Below.refl _ _) _)).mono ?_; rintro e w3 ⟨rfl, hb⟩; have q9 := HQ3.out _ ((below_drawsA (Below.refl wr.heap.size wr) _).trans (hb.mono (Nat.le_refl _))); have HB3 := Lib.hid hb; clear hb)
            all_goals
              go_wp2
              go_ret
              exact ⟨congrArg (fun x => Ending.returned (Value.string x)) (qtx_eq HA.out), (below_drawsA HW.out _).trans (HB3.out.mono HW.out.size)⟩
          · obtain rfl : j = 13 := by omega
            obtain ⟨x, y, rfl⟩ := len_two hm
            obtain ⟨X, hX⟩ : ∃ X, qtx (qtxt (qabs x)) = X := ⟨_, rfl⟩
            obtain ⟨Y, hY⟩ : ∃ Y, qtx (qtxt (qabs y)) = Y := ⟨_, rfl⟩
            have hO : txtsV [x, y] = [.string X, .string Y] := by unfold txtsV; simp [hX, hY]
            rw [hO] at HO
            have HX : Hid (X.data.toList = qtxt (qabs x)) := by show _ = _; rw [← hX, qtx_list]
            have HY : Hid (Y.data.toList = qtxt (qabs y)) := by show _ = _; rw [← hY, qtx_list]
            have hXs : X.size ≤ 107374182400 := by rw [← hX, qtx_size]; exact HLN.out x (by simp)
            have hYs : Y.size ≤ 107374182400 := by rw [← hY, qtx_size]; exact HLN.out y (by simp)
            obtain ⟨g, rfl, g0, g1⟩ := own_two HO.out
            have hglt : g < wr.heap.size := (HO.out.lt g rfl).2
            have hgc : 2 ≤ gc := own_cap HO.out
            have hwl : wd.data.toList = qword 13 := by rw [← HWD.out, qtx_list]; rfl
            have hws : wd.size ≤ 5 := by rw [← ba_len, hwl]; decide
            obtain ⟨Z1, y1, x1, _⟩ := cat_run (P := Tryz.prog) X ⟨#[44, 32]⟩ (by show _ + 2 ≤ _; omega)
            obtain ⟨Z, y2, x2, _⟩ := cat_run (P := Tryz.prog) Z1 Y (by rw [x1]; show _ + 2 + _ ≤ _; omega)
            have hz : Z.data.toList = X.data.toList ++ (44 :: 32 :: Y.data.toList) := by rw [y2, y1, List.append_assoc]; rfl
            have hZs : Z.size ≤ 214748364805 := by rw [x2, x1]; show _ + 2 + _ ≤ _; omega
            obtain ⟨A1, a1, z1, r1⟩ := cat_run (P := Tryz.prog) wd ⟨#[40]⟩ (by show _ + 1 ≤ _; omega)
            obtain ⟨A2, a2, z2, r2⟩ := cat_run (P := Tryz.prog) A1 Z (by rw [z1]; show _ + 1 + _ ≤ _; omega)
            obtain ⟨A3, a3, _, r3⟩ := cat_run (P := Tryz.prog) A2 ⟨#[41]⟩ (by rw [z2, z1]; show _ + 1 + _ + 1 ≤ _; omega)
            have HA : Hid (A3.data.toList = qtxt (qabs (.mk ((13 : Nat) : Int) s 0 p c [x, y]))) := by
              show _ = _
              rw [a3, a2, a1, hz, HX.out, HY.out, hwl]
              show (((qword 13 ++ [40]) ++ (qtxt (qabs x) ++ (44 :: 32 :: qtxt (qabs y)))) ++ [41]) = qword 13 ++ (40 :: (qtxt (qabs x) ++ (44 :: 32 :: (qtxt (qabs y) ++ [41]))))
              simp only [List.append_assoc, List.cons_append, List.nil_append]
            have HJ := Lib.hid (fun (u : World) (hu : Below wr.heap.size wr u) => join2 (c := gc) hglt g0 g1 hgc hXs hYs hz u hu)
            clear hX hY hO HO a1 a2 a3 z1 z2 hXs hYs hwl hws g0 g1 y1 y2 x1 x2 hz hZs
            have hZ0 : [x, y].length = 2 := rfl
            have HQ3 := Lib.hid (fun (u : World) (hu : Below wr.heap.size wr u) => (HQ.out u (HB.out.trans (hu.mono HB.out.size))).1)
            go_upto_region 28 with fail
            rw [hZ0]
            go_region_with (go_at_call 99; refine (HJ.out _ (below_drawsA (Below.refl _ _) _)).mono ?_; rintro e w3 ⟨rfl, hb⟩; have q9 := HQ3.out _ ((below_drawsA (Below.refl wr.heap.size wr) _).trans (hb.mono (Nat.le_refl _))); have HB3 := Lib.hid hb; clear hb)
            all_goals
              go_wp2
              go_ret
              exact ⟨congrArg (fun x => Ending.returned (Value.string x)) (qtx_eq HA.out), (below_drawsA HW.out _).trans (HB3.out.mono HW.out.size)⟩
        · obtain rfl : j = 14 := by omega
          obtain ⟨x, rfl⟩ := len_one hm
          obtain ⟨X, hX⟩ : ∃ X, qtx (qtxt (qabs x)) = X := ⟨_, rfl⟩
          have hO : txtsV [x] = [.string X] := by unfold txtsV; simp [hX]
          rw [hO] at HO
          have HX : Hid (X.data.toList = qtxt (qabs x)) := by show _ = _; rw [← hX, qtx_list]
          have hXs : X.size ≤ 107374182400 := by rw [← hX, qtx_size]; exact HLN.out x (by simp)
          obtain ⟨g, rfl, g0⟩ := own_one HO.out
          have hwl : wd.data.toList = qword 14 := by rw [← HWD.out, qtx_list]; rfl
          have hws : wd.size ≤ 5 := by rw [← ba_len, hwl]; decide
          obtain ⟨Z1, y1, x1, _⟩ := cat_run (P := Tryz.prog) s ⟨#[44, 32]⟩ (by show _ + 2 ≤ _; omega)
          obtain ⟨Z, y2, x2, _⟩ := cat_run (P := Tryz.prog) Z1 X (by rw [x1]; show _ + 2 + _ ≤ _; omega)
          have hz : Z.data.toList = s.data.toList ++ (44 :: 32 :: X.data.toList) := by rw [y2, y1, List.append_assoc]; rfl
          have hZs : Z.size ≤ 107375230981 := by rw [x2, x1]; show _ + 2 + _ ≤ _; omega
          obtain ⟨A1, a1, z1, r1⟩ := cat_run (P := Tryz.prog) wd ⟨#[40]⟩ (by show _ + 1 ≤ _; omega)
          obtain ⟨A2, a2, z2, r2⟩ := cat_run (P := Tryz.prog) A1 Z (by rw [z1]; show _ + 1 + _ ≤ _; omega)
          obtain ⟨A3, a3, _, r3⟩ := cat_run (P := Tryz.prog) A2 ⟨#[41]⟩ (by rw [z2, z1]; show _ + 1 + _ + 1 ≤ _; omega)
          have HA : Hid (A3.data.toList = qtxt (qabs (.mk ((14 : Nat) : Int) s 0 p c [x]))) := by
            show _ = _
            rw [a3, a2, a1, hz, HX.out, hwl]
            show (((qword 14 ++ [40]) ++ (s.data.toList ++ (44 :: 32 :: qtxt (qabs x)))) ++ [41]) = qword 14 ++ (40 :: (s.data.toList ++ (44 :: 32 :: (qtxt (qabs x) ++ [41]))))
            simp only [List.append_assoc, List.cons_append, List.nil_append]
          have HZ := Lib.hid hz
          clear hX hO HO a1 a2 a3 z1 z2 hwl hws y1 y2 x1 x2 hz hZs
          have hZ0 : [x].length = 1 := rfl
          go_upto_region 24 with fail
          rw [hZ0]
          refine wp_region_still_tail 5 (by kernel_rfl) (by kernel_rfl) ?_
          simp only [List.take_succ_cons, List.take_zero, List.drop_succ_cons, List.drop_zero]
          obtain ⟨w5, hw5⟩ : ∃ Z : World, Z = { heap := wr.heap, tape := wr.tape, drawn := wr.drawn + 1, os := wr.os, output := wr.output } := ⟨_, rfl⟩
          have hb5 : Below wr.heap.size wr w5 := by rw [hw5]; exact (Below.refl _ _).drew
          rw [← hw5]
          have v15 : w5.cell? ⟨w.heap.size, 1, none⟩ = some (.string s) := by rw [hw5]; exact v1
          have g05 : w5.cell? ⟨g, 0, none⟩ = some (.string X) := by rw [hw5]; exact g0
          have HB5 := Lib.hid hb5
          clear hw5 g0 v1
          repeat still_step
          refine wpStill_nil ?_
          obtain ⟨w6, hw6⟩ : ∃ Z : World, Z = w5.alloc (.cells #[.string s, .string X] 9) := ⟨_, rfl⟩
          go_upto_region 28 with fail
          rw [← hw6]
          have hb6 : Below w5.heap.size w5 w6 := by rw [hw6]; exact (Below.refl _ _).alloc (Nat.le_refl _) _
          have hglt : w5.heap.size < w6.heap.size := by rw [hw6]; simp
          have g0 : w6.cell? ⟨w5.heap.size, 0, none⟩ = some (.string s) := by rw [hw6, World.cell?_alloc_at _ _ _ _ rfl]; rfl
          have g1 : w6.cell? ⟨w5.heap.size, 1, none⟩ = some (.string X) := by rw [hw6, World.cell?_alloc_at _ _ _ _ rfl]; rfl
          have HB6 : Hid (Below V.heap.size V w6) := HB.out.trans ((HB5.out.trans (hb6.mono HB5.out.size)).mono HB.out.size)
          have HJ := Lib.hid (fun (u : World) (hu : Below w6.heap.size w6 u) => join2 (c := 2) hglt g0 g1 (Nat.le_refl _) (by omega) hXs HZ.out u hu)
          have HW6 := Lib.hid (HBV.out.trans (HB6.out.mono HBV.out.size))
          have HQ3 := Lib.hid (fun (u : World) (hu : Below w6.heap.size w6 u) => (HQ.out u (HB6.out.trans (hu.mono HB6.out.size))).1)
          have q8 := HQ3.out w6 (Below.refl _ _)
          clear g0 g1 hw6 hb6 hglt
          go_region_with (go_at_call 99; refine (HJ.out _ (below_drawsA (Below.refl _ _) _)).mono ?_; rintro e w3 ⟨rfl, hb⟩; have q9 := HQ3.out _ ((below_drawsA (Below.refl w6.heap.size w6) _).trans (hb.mono (Nat.le_refl _))); have HB3 := Lib.hid hb; clear hb)
          all_goals
            go_wp2
            go_ret
            exact ⟨congrArg (fun x => Ending.returned (Value.string x)) (qtx_eq HA.out), (below_drawsA HW6.out _).trans (HB3.out.mono HW6.out.size)⟩
        · obtain rfl : j = 15 := by omega
          obtain ⟨x, rfl⟩ := len_one hm
          obtain ⟨X, hX⟩ : ∃ X, qtx (qtxt (qabs x)) = X := ⟨_, rfl⟩
          have hO : txtsV [x] = [.string X] := by unfold txtsV; simp [hX]
          rw [hO] at HO
          have HX : Hid (X.data.toList = qtxt (qabs x)) := by show _ = _; rw [← hX, qtx_list]
          have hXs : X.size ≤ 107374182400 := by rw [← hX, qtx_size]; exact HLN.out x (by simp)
          obtain ⟨g, rfl, g0⟩ := own_one HO.out
          obtain ⟨nn, rfl⟩ := Int.eq_ofNat_of_zero_le (show 0 ≤ n by omega)
          have hkd := (HTV.out.below HB.out).kinds nn (by omega)
          obtain ⟨kw, hkw⟩ : ∃ kw, qtx (qkindw (nn : Int)) = kw := ⟨_, rfl⟩
          rw [hkw] at hkd
          have hwl : kw.data.toList = qkindw (nn : Int) := by rw [← hkw, qtx_list]
          have hws : kw.size ≤ 5 := by rw [← ba_len, hwl]; rcases (by omega : nn = 1 ∨ nn = 2 ∨ nn = 3) with rfl | rfl | rfl <;> decide
          obtain ⟨A1, a1, z1, r1⟩ := cat_run (P := Tryz.prog) kw ⟨#[40]⟩ (by show _ + 1 ≤ _; omega)
          obtain ⟨A2, a2, z2, r2⟩ := cat_run (P := Tryz.prog) A1 X (by rw [z1]; show _ + 1 + _ ≤ _; omega)
          obtain ⟨A3, a3, _, r3⟩ := cat_run (P := Tryz.prog) A2 ⟨#[41]⟩ (by rw [z2, z1]; show _ + 1 + _ + 1 ≤ _; omega)
          have HA : Hid (A3.data.toList = qtxt (qabs (.mk ((15 : Nat) : Int) s (nn : Int) p c [x]))) := by
            show _ = _
            rw [a3, a2, a1, HX.out, hwl]
            show (((qkindw (nn : Int) ++ [40]) ++ qtxt (qabs x)) ++ [41]) = qkindw (nn : Int) ++ (40 :: (qtxt (qabs x) ++ [41]))
            simp only [List.append_assoc, List.cons_append, List.nil_append]
          clear hX hO HO a1 a2 a3 z1 z2 hXs hwl hws hkw
          have hn4 : (nn : Int) < 4 := by omega
          go_wp2
          go_quiet (fail)
          go_wp2
          go_ret
          exact ⟨congrArg (fun x => Ending.returned (Value.string x)) (qtx_eq HA.out), below_drawsA HW.out _⟩
end Go.Proofs.YteefncohknclcaaGreatDoor
namespace Go.Proofs.YteefncohknclcaaGreatDoor
open Go.RowKit Go.Shelf
theorem qE_chk {pat : List UInt8 → Bool} {x : QA} (h : qE pat x = 0) : qcnt x ≤ 60 ∧ qchk pat x = 0 := by
  unfold qE at h
  split at h
  · cases h
  · exact ⟨by omega, h⟩
set_option maxHeartbeats 4000000 in
set_option maxRecDepth 100000 in
theorem TextA_ok (t : QT) (w : World) (hq : QIn w t) (hT : TxtTabs w) (hc : qcnt (qabs t) ≤ 1099511627776) : Calls Tryz.prog 38 #[t.v] w fun e w' =>
    e = .returned (.tuple #[.string (if qE qpat (qabs t) = 0 then qtx (qtxt (qabs t)) else ⟨#[]⟩), .int .i64 (qE qpat (qabs t))]) ∧ Below w.heap.size w w' := by
  obtain ⟨k, s, n, p, c, xs⟩ := t
  obtain ⟨W, hW, hBW, hS, hC⟩ := arg1 w (.int .i64 k) (.string s) (.int .i64 n) (.slice p xs.length c)
  have HC := Lib.hid hC
  have HBW := Lib.hid hBW
  have HCH := Lib.hid (CheckA_ok _ W (hq.below hBW) (hT.ask.below hBW) hc)
  have HTX : Hid (qE qpat (qabs (.mk k s n p c xs)) = 0 → ∀ (u : World), Below W.heap.size W u → Calls Tryz.prog 70 #[(QT.mk k s n p c xs).v] u (TextPost (.mk k s n p c xs) u)) := by
    show _ → _
    intro h u hu
    obtain ⟨h1, h2⟩ := qE_chk h
    exact text_ok _ u (hq.below (hBW.trans (hu.mono hBW.size))) (hT.below (hBW.trans (hu.mono hBW.size))) h2 (by omega)
  obtain ⟨k0, k1, k2, k3⟩ := HC.out W (Below.refl _ _)
  rw [hW] at k0 k1 k2 k3
  show Calls Tryz.prog 38 #[.agg #[.int .i64 k, .string s, .int .i64 n, .slice p xs.length c]] w _
  obtain ⟨E, hE⟩ : ∃ E, qE qpat (qabs (.mk k s n p c xs)) = E := ⟨_, rfl⟩
  rw [hE] at HCH HTX ⊢
  obtain ⟨X, hX⟩ : ∃ X, qtx (qtxt (qabs (.mk k s n p c xs))) = X := ⟨_, rfl⟩
  unfold TextPost at HTX
  rw [hX] at HTX ⊢
  clear hq hT hBW hS hC hc hE hX
  go_enter Tryz.func38, Tryz.ntmps38
  by_cases h0 : E = 0
  · subst h0
    have HT2 := Lib.hid (HTX.out rfl)
    go_wp2_with (first
      | (go_at_call 32; rw [← hW]; refine HCH.out.mono ?_; rintro e w2 ⟨rfl, hb⟩; have HB0 := Lib.hid hb; have HB := Lib.hid (HBW.out.trans (hb.mono HBW.out.size)); obtain ⟨u0, u1, u2, u3⟩ := HC.out w2 hb; clear hb)
      | (go_at_call 70; refine (HT2.out _ HB0.out).mono ?_; rintro e w3 ⟨rfl, hb⟩; have HB3 := Lib.hid (HB.out.trans (hb.mono HB.out.size)); clear hb))
    go_ret2
    exact ⟨by first | rfl | (rw [if_pos rfl]; rfl), HB3.out⟩
  · obtain ⟨i1, i2⟩ := int_ne' h0
    have HNE : Hid (¬ E = 0) := h0
    clear h0
    go_wp2_with (go_at_call 32; rw [← hW]; refine HCH.out.mono ?_; rintro e w2 ⟨rfl, hb⟩; have HB := Lib.hid (HBW.out.trans (hb.mono HBW.out.size)); clear hb)
    go_ret2
    exact ⟨by first | rfl | (rw [if_neg HNE.out]; rfl), HB.out⟩
set_option maxHeartbeats 4000000 in
set_option maxRecDepth 100000 in
theorem textN_ok (t : QT) (w : World) (hq : QIn w t) (hT : TxtTabs w) (hc : qE qpat (qabs t) = 0) : Calls Tryz.prog 86 #[t.v] w (TextPost t w) := by
  obtain ⟨k, s, n, p, c, xs⟩ := t
  obtain ⟨W, hW, hBW, hS, hC⟩ := arg1 w (.int .i64 k) (.string s) (.int .i64 n) (.slice p xs.length c)
  have HBW := Lib.hid hBW
  have hx := TextA_ok _ W (hq.below hBW) (hT.below hBW) (by have := (qE_chk hc).1; omega)
  rw [hc, if_pos rfl] at hx
  have HX := Lib.hid hx
  obtain ⟨k0, k1, k2, k3⟩ := hC W (Below.refl _ _)
  rw [hW] at k0 k1 k2 k3
  show Calls Tryz.prog 86 #[.agg #[.int .i64 k, .string s, .int .i64 n, .slice p xs.length c]] w _
  clear hq hT hBW hS hC hc hx
  unfold TextPost
  generalize qtx (qtxt (qabs (.mk k s n p c xs))) = X at *
  go_enter Tryz.func86, Tryz.ntmps86
  go_wp2_with (go_at_call 38; rw [← hW]; refine HX.out.mono ?_; rintro e w2 ⟨rfl, hb⟩; have HB := Lib.hid (HBW.out.trans (hb.mono HBW.out.size)); clear hb)
  go_ret
  exact ⟨rfl, HB.out⟩
end Go.Proofs.YteefncohknclcaaGreatDoor
