/- The walks of strings.ContainsRune at the signs of a pattern, and of ask.pattern; the tables that the walks of asks read. Conditions: the tables read as listed. -/
import Derived.Test.YtcegmcnknkjcpaaDoorPatP
import Derived.Test.YtcegmcnknkjcpaaDoorFormsW
import Derived.Lib.MapLaws
import Derived.Lib.TrimAscii
import Derived.Shelf.Strings.MapGrows
import Derived.Laws.RangeAny
import Derived.Laws.Runes
import Derived.Deep.QuietTactic
import Derived.WalkMore
import Derived.BigQuiet
import Derived.Deep.LoopGhost
import Derived.Deep.DeepCutAuto
namespace Go.Proofs.YtcegmcnknkjcpaaDoor
open Go.RowKit Go.Shelf
def specB : ByteArray := ⟨#[42, 63, 91, 93, 33, 92]⟩
theorem enc_tail (r : Nat) (h : 128 ≤ r) : (∃ a b : UInt8, Utf8.encode (r : Int) = ⟨#[a, b]⟩ ∧ 128 ≤ b.toNat) ∨ (∃ a b c : UInt8, Utf8.encode (r : Int) = ⟨#[a, b, c]⟩ ∧ 128 ≤ c.toNat) ∨ (∃ a b c d : UInt8, Utf8.encode (r : Int) = ⟨#[a, b, c, d]⟩ ∧ 128 ≤ d.toNat) := by
  unfold Utf8.encode
  simp only
  generalize hc : (if Utf8.valid (r : Int) then (r : Int).toNat else Utf8.runeError) = c
  have hc1 : 128 ≤ c := by
    rw [← hc]
    split
    · simpa using h
    · decide
  rw [if_neg (by omega)]
  split
  · refine .inl ⟨_, _, rfl, ?_⟩
    rw [UInt8.toNat_ofNat']
    omega
  · split
    · refine .inr (.inl ⟨_, _, _, rfl, ?_⟩)
      rw [UInt8.toNat_ofNat']
      omega
    · refine .inr (.inr ⟨_, _, _, _, rfl, ?_⟩)
      rw [UInt8.toNat_ofNat']
      omega
theorem indexByte_none {l : List UInt8} {c : UInt8} (h : c ∉ l) : Lib.indexByte l c = -1 := by
  have := indexByte_ge l c
  have h2 : ¬ 0 ≤ Lib.indexByte l c := fun e => h (this.2.1 e)
  omega
theorem spec_ascii : ∀ i (h : i < specB.size), specB[i].toNat < 128 := by decide
theorem spec_tail (k : Nat) (c : UInt8) (hc : 128 ≤ c.toNat) : Lib.indexByte (specB.extract k specB.size).data.toList c = -1 := by
  rw [ba_drop]
  refine indexByte_none fun hm => ?_
  have hm2 := List.mem_of_mem_drop hm
  have : ∀ x ∈ specB.data.toList, x.toNat < 128 := by decide
  have := this c hm2
  omega
set_option maxHeartbeats 2000000 in
set_option maxRecDepth 1000000 in
theorem indexRune_far (r : Nat) (h1 : 128 ≤ r) (h2 : r ≤ 2147483647) (w : World) (hr : ¬ r = 65533) :
    Calls Tryd.prog 66 #[.string specB, .int .i32 r] w fun e w' => e = .returned (.int .i64 (-1)) ∧ Below w.heap.size w w' := by
  have hn : ¬ ((r : Int) < 128) := by omega
  have hn2 : ((r : Int) == 65533) = false := beq_eq_false_iff_ne.2 (by omega)
  have hsz : specB.size = 6 := rfl
  go_enter Tryd.func66, Tryd.ntmps66
  go_wp2_with fail
  refine (Tryd.utf8_ValidRune (r : Int) _).mono ?_
  cases hv : Lib.validRune (r : Int)
  all_goals rintro e w' ⟨rfl, rfl⟩
  · go_wp2
    go_ret
    exact ⟨rfl, Below.refl _ _⟩
  · rcases enc_tail r h1 with ⟨a, b, he, hb⟩ | ⟨a, b, c, he, hb⟩ | ⟨a, b, c, d, he, hb⟩
    · have hcv : ∀ u : World, (convert 21 9 (.int .i32 (r : Int))).run Tryd.prog u = .ok (.string ⟨#[a, b]⟩) u := fun u => by
        rw [run_convert_int_string u _ _ _ _ (by rw [Tryd.underlying21]; rfl) Tryd.underlying9, he]
      have hbne : (((specB[1]'(by decide)).toNat : Int) != (((⟨#[a, b]⟩ : ByteArray)[1]'(by show 1 < 2; decide)).toNat : Int)) = true := by
        show ((63 : Int) != (b.toNat : Int)) = true
        rw [bne_iff_ne]; omega
      have hie := spec_tail 2 b hb
      rw [hsz] at hie
      have hbk : ((((⟨#[a, b]⟩ : ByteArray)[1]'(by show 1 < 2; decide)).toNat : Int).toNat.toUInt8) = b := byte_back b
      clear he
      have hw2 : IntKind.i64.wrap 2 = 2 := by decide
      go_wp2
      go_step3
      go_wp2
      go_loop [9] (fun i => i = .int .i64 1) (fun _ => 0)
      case atStart => rfl
      case round =>
        subst hrel
        go_wp2
        go_step3
        go_wp2
        go_quiet (fail)
        go_wp2
        go_quiet ((go_at_call 68; refine (Tryd.strings_IndexByte _ _ _).mono ?_; rintro e w'' ⟨he, hw⟩; rw [hbk, hie] at he; exact ⟨he, _, hw⟩))
        go_wp2
        simp +zetaDelta only [Exit.noGoto_ret, Exit.inBlock, Exit.then]
        go_ret
        exact ⟨rfl, ⟨rfl, rfl, rfl, Nat.le_refl _, fun _ _ => rfl⟩⟩
    · have hcv : ∀ u : World, (convert 21 9 (.int .i32 (r : Int))).run Tryd.prog u = .ok (.string ⟨#[a, b, c]⟩) u := fun u => by
        rw [run_convert_int_string u _ _ _ _ (by rw [Tryd.underlying21]; rfl) Tryd.underlying9, he]
      have hbne : (((specB[2]'(by decide)).toNat : Int) != (((⟨#[a, b, c]⟩ : ByteArray)[2]'(by show 2 < 3; decide)).toNat : Int)) = true := by
        show ((91 : Int) != (c.toNat : Int)) = true
        rw [bne_iff_ne]; omega
      have hie := spec_tail 3 c hb
      rw [hsz] at hie
      have hbk : ((((⟨#[a, b, c]⟩ : ByteArray)[2]'(by show 2 < 3; decide)).toNat : Int).toNat.toUInt8) = c := byte_back c
      clear he
      have hw2 : IntKind.i64.wrap 3 = 3 := by decide
      go_wp2
      go_step3
      go_wp2
      go_loop [9] (fun i => i = .int .i64 2) (fun _ => 0)
      case atStart => rfl
      case round =>
        subst hrel
        go_wp2
        go_step3
        go_wp2
        go_quiet (fail)
        go_wp2
        go_quiet ((go_at_call 68; refine (Tryd.strings_IndexByte _ _ _).mono ?_; rintro e w'' ⟨he, hw⟩; rw [hbk, hie] at he; exact ⟨he, _, hw⟩))
        go_wp2
        simp +zetaDelta only [Exit.noGoto_ret, Exit.inBlock, Exit.then]
        go_ret
        exact ⟨rfl, ⟨rfl, rfl, rfl, Nat.le_refl _, fun _ _ => rfl⟩⟩
    · have hcv : ∀ u : World, (convert 21 9 (.int .i32 (r : Int))).run Tryd.prog u = .ok (.string ⟨#[a, b, c, d]⟩) u := fun u => by
        rw [run_convert_int_string u _ _ _ _ (by rw [Tryd.underlying21]; rfl) Tryd.underlying9, he]
      have hbne : (((specB[3]'(by decide)).toNat : Int) != (((⟨#[a, b, c, d]⟩ : ByteArray)[3]'(by show 3 < 4; decide)).toNat : Int)) = true := by
        show ((93 : Int) != (d.toNat : Int)) = true
        rw [bne_iff_ne]; omega
      have hie := spec_tail 4 d hb
      rw [hsz] at hie
      have hbk : ((((⟨#[a, b, c, d]⟩ : ByteArray)[3]'(by show 3 < 4; decide)).toNat : Int).toNat.toUInt8) = d := byte_back d
      clear he
      have hw2 : IntKind.i64.wrap 4 = 4 := by decide
      go_wp2
      go_step3
      go_wp2
      go_loop [9] (fun i => i = .int .i64 3) (fun _ => 0)
      case atStart => rfl
      case round =>
        subst hrel
        go_wp2
        go_step3
        go_wp2
        go_quiet (fail)
        go_wp2
        go_quiet ((go_at_call 68; refine (Tryd.strings_IndexByte _ _ _).mono ?_; rintro e w'' ⟨he, hw⟩; rw [hbk, hie] at he; exact ⟨he, _, hw⟩))
        go_wp2
        simp +zetaDelta only [Exit.noGoto_ret, Exit.inBlock, Exit.then]
        go_ret
        exact ⟨rfl, ⟨rfl, rfl, rfl, Nat.le_refl _, fun _ _ => rfl⟩⟩
set_option maxHeartbeats 1000000 in
set_option maxRecDepth 1000000 in
theorem indexRune_bad (w : World) : Calls Tryd.prog 66 #[.string specB, .int .i32 65533] w fun e w' => e = .returned (.int .i64 (-1)) ∧ Below w.heap.size w w' := by
  obtain ⟨s, hs⟩ : ∃ s : ByteArray, s = specB := ⟨_, rfl⟩
  have HA : Hid (∀ i (h : i < s.size), s[i].toNat < 128) := by
    show ∀ i (h : i < s.size), _
    intro i h
    subst hs
    exact spec_ascii i h
  rw [← hs]
  clear hs
  go_enter Tryd.func66, Tryd.ntmps66
  go_wp2_with fail
  go_loopg [5, 6] s.size (fun g _ _ wx => ∃ i : Nat, i + g = s.size ∧ wx = w.iter s i)
  case atStart => exact ⟨0, by omega, rfl⟩
  case round =>
    obtain ⟨i, hig, rfl⟩ := hrel
    cases gk with
    | zero =>
      obtain rfl : i = s.size := by omega
      have hnx := run_next_end (P := Tryd.prog) w s s.size
      go_wp2
      go_ret
      exact ⟨rfl, (Below.refl _ _).alloc (Nat.le_refl _) _⟩
    | succ g =>
      have hi : i < s.size := by omega
      have hx128 := HA.out i hi
      have hnx := fun ty => run_next_ascii (P := Tryd.prog) w s i ty hi hx128
      have hne : (((s[i].toNat : Nat) : Int) == 65533) = false := beq_eq_false_iff_ne.2 (by omega)
      go_wp2
      go_roundg g
      case measure => omega
      case rel => exact ⟨i + 1, by omega, rfl⟩
/-- is a rune one of the signs of a pattern? -/
def specR (r : Nat) : Bool := r == 42 || r == 63 || r == 91 || r == 93 || r == 33 || r == 92
theorem specR_ascii : ∀ r : Fin 128, decide (0 ≤ Lib.indexByte specB.data.toList (r.1 : Int).toNat.toUInt8) = specR r.1 := by decide +kernel
theorem specR_far {r : Nat} (h : 128 ≤ r) : specR r = false := by
  unfold specR
  simp only [Bool.or_eq_false_iff, beq_eq_false_iff_ne]
  omega
set_option maxHeartbeats 1000000 in
theorem containsR_ok (r : Nat) (h2 : r ≤ 1114111) (w : World) : Calls Tryd.prog 50 #[.string specB, .int .i32 r] w fun e w' => e = .returned (.bool (specR r)) ∧ Below w.heap.size w w' := by
  rcases Nat.lt_or_ge r 128 with h | h
  · refine (Tryd.strings_ContainsRune_ascii specB (r : Int) w (by omega) (by omega)).mono ?_
    rintro e w' ⟨rfl, rfl⟩
    have := specR_ascii ⟨r, h⟩
    simp only at this
    exact ⟨by rw [this], Below.refl _ _⟩
  · have hs := specR_far h
    have hf : Calls Tryd.prog 66 #[.string specB, .int .i32 r] w fun e w' => e = .returned (.int .i64 (-1)) ∧ Below w.heap.size w w' := by
      by_cases h3 : r = 65533
      · subst h3; exact indexRune_bad w
      · exact indexRune_far r h (by omega) w h3
    have HF := Lib.hid hf
    clear hf h2 h
    go_enter Tryd.func50, Tryd.ntmps50
    go_wp2_with (go_at_call 66; refine HF.out.mono ?_; rintro e w1 ⟨rfl, hb⟩; have HB := Lib.hid hb; clear hb)
    go_ret
    exact ⟨by rw [hs]; rfl, HB.out⟩
/-- a rune of a pattern, as one of a name -/
def plainR (c : Int) : Int := if specR c.toNat then 97 else c
set_option maxHeartbeats 1000000 in
theorem mapR_ok (r : Nat) (h2 : r ≤ 1114111) (w : World) : Calls Tryd.prog 49 #[.int .i32 r] w fun e w' => e = .returned (.int .i32 (plainR r)) ∧ Below w.heap.size w w' := by
  have HC := Lib.hid (fun u => containsR_ok r h2 u)
  have hp : plainR (r : Int) = if specR r then 97 else (r : Int) := rfl
  cases hs : specR r
  · rw [hs] at hp
    have HP : Hid (plainR (r : Int) = (r : Int)) := hp
    have HS := Lib.hid hs
    clear hp hs
    go_enter Tryd.func49, Tryd.ntmps49
    go_wp2_with (go_at_call 50; refine (HC.out _).mono ?_; rw [HS.out]; rintro e w1 ⟨rfl, hb⟩; have HB := Lib.hid hb; clear hb)
    go_ret
    exact ⟨by rw [HP.out]; rfl, HB.out⟩
  · rw [hs] at hp
    have HP : Hid (plainR (r : Int) = 97) := hp
    have HS := Lib.hid hs
    clear hp hs
    go_enter Tryd.func49, Tryd.ntmps49
    go_wp2_with (go_at_call 50; refine (HC.out _).mono ?_; rw [HS.out]; rintro e w1 ⟨rfl, hb⟩; have HB := Lib.hid hb; clear hb)
    go_ret
    exact ⟨by rw [HP.out]; rfl, HB.out⟩
theorem sign_low {c : UInt8} (h : signC c = true ∨ starC c = true) : c.toNat < 128 := by
  have key : ∀ n : Fin 256, (signC (UInt8.ofNat n.1) = true ∨ starC (UInt8.ofNat n.1) = true) → n.1 < 128 := by decide +kernel
  have h2 : UInt8.ofNat c.toNat = c := by simp
  have := key ⟨c.toNat, c.toNat_lt⟩
  rw [h2] at this
  exact this h
theorem star_spec (c : UInt8) : starC c = specR c.toNat := by
  have key : ∀ n : Fin 256, starC (UInt8.ofNat n.1) = specR n.1 := by decide +kernel
  have h2 : UInt8.ofNat c.toNat = c := by simp
  have := key ⟨c.toNat, c.toNat_lt⟩
  rwa [h2] at this
theorem decode_far {c : UInt8} {t : List UInt8} (h : 128 ≤ c.toNat) : 128 ≤ (Lib.decodeL (c :: t)).1 := by
  rw [Lib.decodeL_N]
  have e : ((c :: t).getD 0 0).toNat = c.toNat := rfl
  rw [e]
  generalize ((c :: t).getD 1 0).toNat = b1
  generalize ((c :: t).getD 2 0).toNat = b2
  generalize ((c :: t).getD 3 0).toNat = b3
  generalize (c :: t).length = n
  unfold Lib.decodeN
  rw [if_neg (by omega)]
  (repeat' split) <;> simp <;> omega
theorem encode_far {r : Int} (h : 128 ≤ r) : ∃ a l, Lib.encodeRune r = a :: l ∧ 128 ≤ a.toNat := by
  have hb : ∀ z : Int, 128 ≤ z → z < 256 → 128 ≤ (z.toNat.toUInt8).toNat := by
    intro z h1 h2
    have : (z.toNat.toUInt8).toNat = z.toNat % 256 := UInt8.toNat_ofNat'
    omega
  unfold Lib.encodeRune Lib.encodeRuneZ
  rw [if_neg (by omega)]
  split
  · exact ⟨_, _, rfl, hb _ (by omega) (by omega)⟩
  split
  · exact ⟨_, _, rfl, hb _ (by omega) (by omega)⟩
  split
  · exact ⟨_, _, rfl, hb _ (by omega) (by omega)⟩
  · exact ⟨_, _, rfl, hb _ (by omega) (by omega)⟩
theorem plain_nonneg (x : Nat) : 0 ≤ plainR (x : Int) := by unfold plainR; split <;> omega
theorem map_all : ∀ (n : Nat) (l : List UInt8), l.length ≤ n → (Lib.mapD plainR l).all signC = l.all (fun c => signC c || starC c) := by
  intro n
  induction n with
  | zero =>
    intro l h
    obtain rfl := List.length_eq_zero_iff.1 (Nat.le_zero.1 h)
    rfl
  | succ n ih =>
    intro l h
    cases l with
    | nil => rfl
    | cons c t =>
      rw [Lib.mapD_step plainR (c :: t) (by simp)]
      rw [if_pos (plain_nonneg _)]
      rcases Nat.lt_or_ge c.toNat 128 with hc | hc
      · rw [Lib.decodeL_ascii c t hc]
        show (Lib.encodeRune (plainR (c.toNat : Int)) ++ Lib.mapD plainR t).all signC = _
        rw [List.all_append, ih t (by simpa using h), List.all_cons]
        congr 1
        have hs := star_spec c
        unfold plainR
        rw [show ((c.toNat : Int)).toNat = c.toNat from rfl]
        cases hp : specR c.toNat
        · rw [hp] at hs
          rw [hs, Bool.or_false]
          show (Lib.encodeRune (c.toNat : Int)).all signC = _
          unfold Lib.encodeRune
          rw [Lib.encodeRuneZ_one (by omega) (by omega)]
          show (signC ((c.toNat : Int).toNat.toUInt8) && true) = _
          rw [byte_back, Bool.and_true]
        · rw [hp] at hs
          rw [hs, Bool.or_true]
          rfl
      · have hns : signC c = false ∧ starC c = false := by
          constructor
          · cases hh : signC c
            · rfl
            · have := sign_low (.inl hh); omega
          · cases hh : starC c
            · rfl
            · have := sign_low (.inr hh); omega
        rw [List.all_cons, hns.1, hns.2]
        have hd := decode_far (t := t) hc
        have hsp := specR_far hd
        have hpl : plainR ((Lib.decodeL (c :: t)).1 : Int) = ((Lib.decodeL (c :: t)).1 : Int) := by
          unfold plainR
          rw [show (((Lib.decodeL (c :: t)).1 : Nat) : Int).toNat = (Lib.decodeL (c :: t)).1 from rfl, hsp]
          rfl
        rw [hpl]
        obtain ⟨a, l, he, ha⟩ := encode_far (r := ((Lib.decodeL (c :: t)).1 : Int)) (by omega)
        rw [he, List.cons_append, List.all_cons]
        have : signC a = false := by
          cases hh : signC a
          · rfl
          · have := sign_low (.inl hh); omega
        rw [this]
        rfl
def strLen : Value → Nat
  | .string x => x.size
  | _ => 0
/-- the tables that the walks of asks read -/
structure AskTabs (w : World) : Prop where
  forms : Forms w
  utf : Lib.Utf8Tabs 4 5 w
theorem Utf.below {g3 g4 : Nat} {w w' : World} (h : Lib.Utf8Tabs g3 g4 w) (hb : Below w.heap.size w w') : Lib.Utf8Tabs g3 g4 w' := by
  have lt : ∀ {g o : Nat} {v : Value}, w.cell? ⟨g, o, none⟩ = some v → g < w.heap.size := by
    intro g o v hv
    rcases Nat.lt_or_ge g w.heap.size with hlt | hge
    · exact hlt
    · unfold World.cell? at hv
      simp [Array.getElem?_eq_none hge] at hv
  refine ⟨fun c hc => ?_, fun i hi => ?_⟩
  · have := h.1 c hc
    exact (hb.cell (lt this)).trans this
  · obtain ⟨h1, h2⟩ := h.2 i hi
    exact ⟨(hb.cell (lt h1)).trans h1, (hb.cell (lt h2)).trans h2⟩
theorem AskTabs.below {w w' : World} (h : AskTabs w) (hb : Below w.heap.size w w') : AskTabs w' := ⟨h.forms.below hb, Utf.below h.utf hb⟩
set_option maxHeartbeats 4000000 in
set_option maxRecDepth 100000 in
theorem pattern_ok (s : ByteArray) (hs : s.size ≤ 1048576) (w : World) (hT : AskTabs w) : Calls Tryd.prog 34 #[.string s] w fun e w' => e = .returned (.bool (qpat s.data.toList)) ∧ Below w.heap.size w w' := by
  have hmap := Tryd.strings_Map_grows 49 #[] (enters_of Tryd.func49 (by kernel_rfl) rfl) plainR s w (by omega) (fun W x hx _ => mapR_ok x hx W) (fun x hx => by have := plain_nonneg x; unfold plainR at this ⊢; split <;> omega) hT.utf
  have hall := map_all _ s.data.toList (Nat.le_refl _)
  obtain ⟨m, hm⟩ : ∃ m : ByteArray, (⟨(Lib.mapD plainR s.data.toList).toArray⟩ : ByteArray) = m := ⟨_, rfl⟩
  have hml : m.data.toList = Lib.mapD plainR s.data.toList := by rw [← hm]
  rw [hm] at hmap
  rw [← hml] at hall
  have HM := Lib.hid hmap
  have HALL := Lib.hid hall
  have HG := Lib.hid (fun u => CheckG_ok s (by omega) u)
  have HQ : Hid (qpat s.data.toList = (s.data.toList.all (fun c => signC c || starC c) && decide (pE s.data.toList = 0))) := rfl
  clear hmap hall hm hml hT
  go_enter Tryd.func34, Tryd.ntmps34
  go_wp2_with (go_at_call 48; refine HM.out.mono ?_; rintro e w1 ⟨rfl, hb1⟩; have HB1 := Lib.hid hb1; clear hb1)
  go_loop [3] (fun pv => ∃ (x : ByteArray) (k : Nat), pv = .string x ∧ Hid (x.data.toList = m.data.toList.drop k) ∧ Hid ((m.data.toList.take k).all signC = true)) (fun pv => strLen pv)
  case atStart => exact ⟨m, 0, rfl, rfl, rfl⟩
  case round =>
    obtain ⟨x, k, rfl, HX, HA⟩ := hrel
    have hxl := ba_len x
    by_cases hx0 : x.size = 0
    · have he : x = ⟨#[]⟩ := empty_eq hx0
      subst he
      have hAll : m.data.toList.all signC = true := by
        have h1 := HX.out
        have h2 := HA.out
        have h3 : m.data.toList = m.data.toList.take k := by
          have := List.take_append_drop k m.data.toList
          rw [← h1] at this
          simpa using this.symm
        rw [h3]; exact h2
      have HV : Hid (qpat s.data.toList = decide (pE s.data.toList = 0)) := by
        show _ = _
        rw [HQ.out, ← HALL.out, hAll, Bool.true_and]
      obtain ⟨E, hE⟩ : ∃ E, pE s.data.toList = E := ⟨_, rfl⟩
      rw [hE] at HV HG
      clear hAll hE hxl hx0
      by_cases h0 : E = 0
      · subst h0
        go_wp2_with (go_at_call 51; refine (HG.out _).mono ?_; rintro e w2 ⟨rfl, hb2⟩; have HB2 := Lib.hid (HB1.out.trans (hb2.mono HB1.out.size)); clear hb2)
        go_ret
        exact ⟨by rw [HV.out]; rfl, HB2.out⟩
      · obtain ⟨i1, i2⟩ := int_ne' h0
        have HD : Hid (decide (E = 0) = false) := decide_eq_false h0
        clear h0
        go_wp2_with (go_at_call 51; refine (HG.out _).mono ?_; rintro e w2 ⟨rfl, hb2⟩; have HB2 := Lib.hid (HB1.out.trans (hb2.mono HB1.out.size)); clear hb2)
        go_ret
        exact ⟨by rw [HV.out, HD.out]; rfl, HB2.out⟩
    · have hxe : x.toList.isEmpty = false := by
        rw [Lib.toList_data]
        cases hl : x.data.toList with
        | nil => rw [hl] at hxl; exact absurd hxl.symm hx0
        | cons a l => rfl
      obtain ⟨n, hn⟩ : ∃ n, n = min x.size 40 := ⟨_, rfl⟩
      have hn1 : n ≤ x.size := by omega
      have hn2 : n ≤ 40 := by omega
      have hn3 : 0 < n := by omega
      have hmin : min (x.size : Int) 40 = (n : Int) := by omega
      have hsz : (x.extract 0 n).size = n := by rw [ByteArray.size_extract]; omega
      have hdl : (x.extract 0 n).data.toList = x.data.toList.take n := Lib.extract_from_zero x n
      have hcheck := fun u => CheckN_ok (x.extract 0 n) (by omega) u
      have hnE : nameE (x.extract 0 n) = if (x.data.toList.take n).all signC then 0 else 3 := by
        unfold nameE
        rw [if_neg (by omega), hdl]
      have hnext : m.data.toList.take (k + n) = m.data.toList.take k ++ x.data.toList.take n := by rw [HX.out, List.take_add]
      cases hal : (x.data.toList.take n).all signC
      · rw [hal] at hnE
        have HNE : Hid (nameE (x.extract 0 n) = 3) := hnE
        have HC := Lib.hid hcheck
        have HV : Hid (qpat s.data.toList = false) := by
          show _ = _
          rw [HQ.out, ← HALL.out]
          have : m.data.toList.all signC = false := by
            have h2 := List.take_append_drop (k + n) m.data.toList
            rw [← h2, List.all_append, hnext, List.all_append, hal]
            simp
          rw [this, Bool.false_and]
        clear hal hnE hcheck hnext hsz hdl hn hxl hx0
        go_wp2_with (go_at_call 35; refine (HC.out _).mono ?_; rw [HNE.out]; rintro e w2 ⟨rfl, rfl⟩)
        go_ret
        exact ⟨by rw [HV.out]; rfl, HB1.out⟩
      · rw [hal] at hnE
        have HNE : Hid (nameE (x.extract 0 n) = 0) := hnE
        have HC := Lib.hid hcheck
        have HA2 : Hid ((m.data.toList.take (k + n)).all signC = true) := by
          show _ = _
          rw [hnext, List.all_append, HA.out, hal]; rfl
        have HX2 : Hid ((x.extract n x.size).data.toList = m.data.toList.drop (k + n)) := by
          show _ = _
          rw [ba_drop, HX.out, List.drop_drop]
        have HSZ : Hid ((x.extract n x.size).size < x.size) := by
          show _ < _
          rw [ByteArray.size_extract]; omega
        clear hal hnE hcheck hnext hsz hdl hn hxl hx0
        go_wp2_with (go_at_call 35; refine (HC.out _).mono ?_; rw [HNE.out]; rintro e w2 ⟨rfl, rfl⟩)
        go_round
        case rel => exact ⟨_, k + n, rfl, HX2.out, HA2.out⟩
        case measure => exact HSZ.out
end Go.Proofs.YtcegmcnknkjcpaaDoor
