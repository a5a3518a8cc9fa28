/- The walk of macro.parse, at whatever functions are handed the pieces and the calls. Conditions: the text is at most 2^20 bytes; the machine's MaxLen is laid. -/
import Derived.Test.YtmeenhfclnkjhaaDoorMacroQ
import Derived.Test.YtmeenhfclnkjhaaDoorStemW
import Derived.WalkKit
import Derived.Lib.Hide
import Derived.Deep.LoopGhost
import Derived.Lib.IndexBytes
namespace Go.Proofs.YtmeenhfclnkjhaaDoor
open Go.RowKit Go.Shelf
def MLm (w : World) : Prop := ∃ m : Int, w.cell? ⟨0, 0, none⟩ = some (.int .i64 m)
theorem MLm.below {w w' : World} (h : MLm w) (hb : Below w.heap.size w w') : MLm w' := by
  obtain ⟨m, h⟩ := h
  exact ⟨m, (hb.cell (World.block_lt_of_cell? w _ h)).trans h⟩
theorem MLm.drew {w : World} (h : MLm w) (n : Nat) : MLm (w.drewN n) := h.below (below_drawsP (Below.refl _ _) n)
theorem MLm.of {w : World} (h : w.ShapedOpen Tryd.prog) : MLm w := Tryd.laysM219.s1_3 w h
def okM (n : Bs) : Bool := nameE (txt n) == 0
theorem lib_cut (b : UInt8) (s : Bs) : Lib.cut s [b] = match cut1 b s with | none => (s, [], false) | some (a, r) => (a, r, true) := by
  unfold Lib.cut
  rw [Lib.index_one]
  obtain ⟨h1, h2⟩ := indexByte_ge s b
  rcases cut1_cases b s with ⟨h, e⟩ | ⟨a, r, e, h, e2⟩
  · rw [e, if_neg (fun g => h (h2.1 g))]
  · rw [e2]
    subst e
    have hi : Lib.indexByte (a ++ b :: r) b = (a.length : Int) := by
      have h0 : 0 ≤ Lib.indexByte (a ++ b :: r) b := h2.2 (by simp)
      obtain ⟨o, ho⟩ := Int.eq_ofNat_of_zero_le h0
      obtain ⟨g1, g2⟩ := Lib.indexByte_some ho
      rcases Nat.lt_trichotomy o a.length with hlt | heq | hgt
      · rw [List.getElem?_append_left hlt] at g1
        exact absurd (List.mem_of_getElem? g1) h
      · rw [ho, heq]
      · exact absurd (by simp) (g2 a.length hgt)
    rw [hi, if_pos (by omega)]
    simp
theorem pre_hit (x : UInt8) (r : Bs) : Lib.hasPrefix (x :: r) [x] = true ∧ Lib.trimPrefix (x :: r) [x] = r := by
  have h : Lib.hasPrefix (x :: r) [x] = true := by simp [Lib.hasPrefix]
  exact ⟨h, by unfold Lib.trimPrefix; rw [if_pos h]; rfl⟩
theorem pre_miss {x : UInt8} {r : Bs} (h : r.head? ≠ some x) : Lib.hasPrefix r [x] = false ∧ Lib.trimPrefix r [x] = r := by
  have h : Lib.hasPrefix r [x] = false := by
    cases r with
    | nil => simp [Lib.hasPrefix]
    | cons y r =>
      have : x ≠ y := fun e => h (by rw [e]; rfl)
      simp [Lib.hasPrefix, List.isPrefixOf, this]
  exact ⟨h, by unfold Lib.trimPrefix; rw [if_neg (by rw [h]; decide)]⟩
theorem cutS_ok (s a r : Bs) (c : UInt8) (m : Bool) (h : Lib.cut s [c] = (a, r, m)) (hs : s.length ≤ 1048576) (w : World) (hM : MLm w) :
    Calls Tryd.prog 73 #[.string (txt s), .string ⟨#[c]⟩] w fun e w' => e = .returned (.tuple #[.string (txt a), .string (txt r), .bool m]) ∧ ∃ n, w' = w.drewN n := by
  obtain ⟨k, hk⟩ := hM
  have := Tryd.strings_Cut (txt s) ⟨#[c]⟩ k w (by rw [txt_size]; omega) hk
  rw [txt_list, show (⟨#[c]⟩ : ByteArray).data.toList = [c] from rfl, h] at this
  exact this
theorem cutP_ok (s r : Bs) (c : UInt8) (m : Bool) (h1 : Lib.trimPrefix s [c] = r) (h2 : Lib.hasPrefix s [c] = m) (w : World) :
    Calls Tryd.prog 74 #[.string (txt s), .string ⟨#[c]⟩] w fun e w' => e = .returned (.tuple #[.string (txt r), .bool m]) ∧ w' = w := by
  have := Tryd.strings_CutPrefix (txt s) ⟨#[c]⟩ w
  rw [txt_list, show (⟨#[c]⟩ : ByteArray).data.toList = [c] from rfl, h1, h2] at this
  exact this
/-- what is asked of the functions that are handed the pieces (T) and the calls (C) of the text s0 -/
structure Feeds (s0 : Bs) (J : List Tok → World → Prop) (fT : Nat) (cT : Array Value) (fC : Nat) (cC : Array Value) : Prop where
  eT : ∀ args w, (callFunc fT args).run Tryd.prog w = .ok (.enter fT args) w
  eC : ∀ args w, (callFunc fC args).run Tryd.prog w = .ok (.enter fC args) w
  text : ∀ pre s W, J pre W → s.length ≤ 1048576 → Calls Tryd.prog fT (#[.string (txt s)] ++ cT) W fun e W' => e = .returned (.tuple #[]) ∧ J (pre ++ [.t s]) W'
  call : ∀ pre n W, J pre W → Tok.c n ∈ (prs okM s0).1 → okM n = true → Calls Tryd.prog fC (#[.string (txt n)] ++ cC) W fun e W' => e = .returned (.tuple #[]) ∧ J (pre ++ [.c n]) W'
  cell : ∀ pre W, J pre W → MLm W
  drew : ∀ pre W n, J pre W → J pre (W.drewN n)
theorem cut_esc {a r : Bs} {x : UInt8} (h : x ∉ a) : Lib.cut (a ++ x :: r) [x] = (a, r, true) := by rw [lib_cut, cut1_hit h]
theorem cut_not {s : Bs} {x : UInt8} (h : x ∉ s) : Lib.cut s [x] = (s, [], false) := by rw [lib_cut, cut1_miss h]
theorem okM_few {n : Bs} (h : okM n = true) : n.length ≤ 40 := by
  unfold okM nameE at h
  split at h
  · cases h
  · rename_i g
    rw [txt_size] at g
    omega
set_option maxHeartbeats 4000000 in
set_option maxRecDepth 100000 in
theorem parseM_ok (s0 : Bs) (J : List Tok → World → Prop) (fT : Nat) (cT : Array Value) (fC : Nat) (cC : Array Value) (hF : Feeds s0 J fT cT fC cC) (hs : s0.length ≤ 1048576) (w : World) (h0 : J [] w) :
    Calls Tryd.prog 50 #[.string (txt s0), .func (.func fT) #[] cT, .func (.func fC) #[] cC] w fun e w' => e = .returned (.bool (prs okM s0).2) ∧ J (prs okM s0).1 w' := by
  have eT := hF.eT
  have eC := hF.eC
  have HF := Lib.hid hF
  have H0 := Lib.hid h0
  clear hF h0
  go_enter Tryd.func50, Tryd.ntmps50
  go_wp2
  go_loopg [0] s0.length (fun gg v wr => ∃ (pre : List Tok) (s : Bs), v = .string (txt s) ∧ s.length ≤ gg ∧ s.length ≤ 1048576 ∧ Hid (prs okM s0 = (pre ++ (prs okM s).1, (prs okM s).2)) ∧ Hid (J pre wr))
  case atStart => exact ⟨[], s0, rfl, Nat.le_refl _, hs, by show _ = _; simp, H0⟩
  case round =>
    obtain ⟨pre, s, rfl, hsg, hsb, HP, HJ⟩ := hrel
    rcases txt_cases s with h1 | ⟨a, r, ha, rfl⟩ | ⟨a, n, r, ha, hn, rfl⟩ | ⟨a, r, ha, hr, rfl⟩ | ⟨a, r, ha, h1, h2, rfl⟩
    · have HE := Lib.hid (prs_last (ok := okM) h1)
      have HC1 := Lib.hid (cutS_ok s s [] 36 false (cut_not h1) hsb)
      have HT1 := Lib.hid (fun W hW => HF.out.text pre s W hW hsb)
      clear h1
      go_wp2_with (first
        | (go_at_call 73; refine (HC1.out _ (HF.out.cell _ _ HJ.out)).mono ?_; rintro e w1 ⟨rfl, n1, rfl⟩)
        | (go_at_fn fT; refine (HT1.out _ (HF.out.drew _ _ _ HJ.out)).mono ?_; rintro e w2 ⟨rfl, hj⟩; have HJ2 := Lib.hid hj; clear hj))
      go_ret
      refine ⟨by rw [HP.out, HE.out]; rfl, ?_⟩
      rw [HP.out, HE.out]
      exact HJ2.out
    · have hlg := hsg
      have hlb := hsb
      simp only [List.length_append, List.length_cons] at hlg hlb
      have HE := Lib.hid (prs_esc (ok := okM) ha r)
      have HC1 := Lib.hid (cutS_ok _ a (36 :: r) 36 true (cut_esc ha) hsb)
      have HT1 := Lib.hid (fun W hW => HF.out.text pre a W hW (by omega))
      have HP1 := Lib.hid (cutP_ok (36 :: r) r 36 true (pre_hit 36 r).2 (pre_hit 36 r).1)
      have HT2 := Lib.hid (fun W hW => HF.out.text (pre ++ [.t a]) [36] W hW (by decide))
      clear ha
      go_wp2_with (first
        | (go_at_call 73; have hh := HC1.out; clear HC1; refine (hh _ (HF.out.cell _ _ HJ.out)).mono ?_; clear hh; rintro e w1 ⟨rfl, n1, rfl⟩)
        | (go_at_fn fT; have hh := HT1.out; clear HT1; refine (hh _ (HF.out.drew _ _ _ HJ.out)).mono ?_; clear hh; rintro e w2 ⟨rfl, hj⟩; have HJ2 := Lib.hid hj; clear hj)
        | (go_at_call 74; have hh := HP1.out; clear HP1; refine (hh _).mono ?_; clear hh; rintro e w3 ⟨rfl, hw3⟩; rw [hw3]; clear hw3)
        | (go_at_fn fT; refine (HT2.out _ HJ2.out).mono ?_; rintro e w4 ⟨rfl, hj⟩; have HJ3 := Lib.hid hj; clear hj))
      go_roundg r.length
      case measure => omega
      case rel => exact ⟨pre ++ [.t a] ++ [.t [36]], r, rfl, Nat.le_refl _, by omega, by show _ = _; rw [HP.out, HE.out]; simp, HJ3⟩
    · have hlg := hsg
      have hlb := hsb
      simp only [List.length_append, List.length_cons] at hlg hlb
      have HE := Lib.hid (prs_call (ok := okM) ha hn r)
      have HC1 := Lib.hid (cutS_ok _ a (40 :: (n ++ 41 :: r)) 36 true (cut_esc ha) hsb)
      have HT1 := Lib.hid (fun W hW => HF.out.text pre a W hW (by omega))
      have hpm := pre_miss (x := 36) (r := 40 :: (n ++ 41 :: r)) (by simp)
      have HP1 := Lib.hid (cutP_ok (40 :: (n ++ 41 :: r)) _ 36 false hpm.2 hpm.1)
      have hc2 : Lib.cut (40 :: (n ++ 41 :: r)) [41] = (40 :: n, r, true) := cut_esc (a := 40 :: n) (by simp [hn])
      have HC2 := Lib.hid (cutS_ok _ (40 :: n) r 41 true hc2 (by simp only [List.length_append, List.length_cons]; omega))
      have HP2 := Lib.hid (cutP_ok (40 :: n) n 40 true (pre_hit 40 n).2 (pre_hit 40 n).1)
      have HN := Lib.hid (CheckN_ok (txt n) (by rw [txt_size]; omega))
      clear ha hn hpm hc2
      by_cases hok : okM n = true
      · have HNE : Hid (nameE (txt n) = 0) := by show _ = _; unfold okM at hok; simpa using hok
        have HMM : Hid (Tok.c n ∈ (prs okM s0).1) := by show _ ∈ _; rw [HP.out, HE.out, if_pos hok]; simp
        have HCC := Lib.hid (fun W hW => HF.out.call (pre ++ [.t a]) n W hW HMM.out hok)
        rw [if_pos hok] at HE
        clear hok
        go_wp2_with (first
          | (go_at_call 73; have hh := HC1.out; clear HC1; refine (hh _ (HF.out.cell _ _ HJ.out)).mono ?_; clear hh; rintro e w1 ⟨rfl, n1, rfl⟩)
          | (go_at_fn fT; have hh := HT1.out; clear HT1; refine (hh _ (HF.out.drew _ _ _ HJ.out)).mono ?_; clear hh; rintro e w2 ⟨rfl, hj⟩; have HJ2 := Lib.hid hj; clear hj)
          | (go_at_call 74; have hh := HP1.out; clear HP1; refine (hh _).mono ?_; clear hh; rintro e w3 ⟨rfl, hw3⟩; rw [hw3]; clear hw3)
          | (go_at_call 73; refine (HC2.out _ (HF.out.cell _ _ HJ2.out)).mono ?_; rintro e w4 ⟨rfl, n4, rfl⟩)
          | (go_at_call 74; refine (HP2.out _).mono ?_; rintro e w5 ⟨rfl, hw5⟩; rw [hw5]; clear hw5)
          | (go_at_call 43; refine (HN.out _).mono ?_; rw [HNE.out]; rintro e w6 ⟨rfl, rfl⟩)
          | (go_at_fn fC; refine (HCC.out _ (HF.out.drew _ _ _ HJ2.out)).mono ?_; rintro e w7 ⟨rfl, hj⟩; have HJ3 := Lib.hid hj; clear hj))
        go_roundg r.length
        case measure => omega
        case rel => exact ⟨pre ++ [.t a] ++ [.c n], r, rfl, Nat.le_refl _, by omega, by show _ = _; rw [HP.out, HE.out]; simp, HJ3⟩
      · have HNE : Hid (nameE (txt n) = 3) := by
          show _ = _
          rcases nameE_cases (txt n) with h | h
          · exact absurd (by unfold okM; rw [h]; rfl) hok
          · exact h
        rw [if_neg hok] at HE
        clear hok
        go_wp2_with (first
          | (go_at_call 73; have hh := HC1.out; clear HC1; refine (hh _ (HF.out.cell _ _ HJ.out)).mono ?_; clear hh; rintro e w1 ⟨rfl, n1, rfl⟩)
          | (go_at_fn fT; have hh := HT1.out; clear HT1; refine (hh _ (HF.out.drew _ _ _ HJ.out)).mono ?_; clear hh; rintro e w2 ⟨rfl, hj⟩; have HJ2 := Lib.hid hj; clear hj)
          | (go_at_call 74; have hh := HP1.out; clear HP1; refine (hh _).mono ?_; clear hh; rintro e w3 ⟨rfl, hw3⟩; rw [hw3]; clear hw3)
          | (go_at_call 73; refine (HC2.out _ (HF.out.cell _ _ HJ2.out)).mono ?_; rintro e w4 ⟨rfl, n4, rfl⟩)
          | (go_at_call 74; refine (HP2.out _).mono ?_; rintro e w5 ⟨rfl, hw5⟩; rw [hw5]; clear hw5)
          | (go_at_call 43; refine (HN.out _).mono ?_; rw [HNE.out]; rintro e w6 ⟨rfl, rfl⟩))
        go_ret
        refine ⟨by rw [HP.out, HE.out]; rfl, ?_⟩
        rw [HP.out, HE.out]
        exact HF.out.drew _ _ _ HJ2.out
    · have hlg := hsg
      have hlb := hsb
      simp only [List.length_append, List.length_cons] at hlg hlb
      have HE := Lib.hid (prs_open (ok := okM) ha hr)
      have HC1 := Lib.hid (cutS_ok _ a (40 :: r) 36 true (cut_esc ha) hsb)
      have HT1 := Lib.hid (fun W hW => HF.out.text pre a W hW (by omega))
      have hpm := pre_miss (x := 36) (r := 40 :: r) (by simp)
      have HP1 := Lib.hid (cutP_ok (40 :: r) _ 36 false hpm.2 hpm.1)
      have HC2 := Lib.hid (cutS_ok _ (40 :: r) [] 41 false (cut_not (by simp [hr])) (by simp only [List.length_cons]; omega))
      have HP2 := Lib.hid (cutP_ok (40 :: r) r 40 true (pre_hit 40 r).2 (pre_hit 40 r).1)
      clear ha hr hpm
      go_wp2_with (first
        | (go_at_call 73; have hh := HC1.out; clear HC1; refine (hh _ (HF.out.cell _ _ HJ.out)).mono ?_; clear hh; rintro e w1 ⟨rfl, n1, rfl⟩)
        | (go_at_fn fT; have hh := HT1.out; clear HT1; refine (hh _ (HF.out.drew _ _ _ HJ.out)).mono ?_; clear hh; rintro e w2 ⟨rfl, hj⟩; have HJ2 := Lib.hid hj; clear hj)
        | (go_at_call 74; have hh := HP1.out; clear HP1; refine (hh _).mono ?_; clear hh; rintro e w3 ⟨rfl, hw3⟩; rw [hw3]; clear hw3)
        | (go_at_call 73; refine (HC2.out _ (HF.out.cell _ _ HJ2.out)).mono ?_; rintro e w4 ⟨rfl, n4, rfl⟩)
        | (go_at_call 74; refine (HP2.out _).mono ?_; rintro e w5 ⟨rfl, hw5⟩; rw [hw5]; clear hw5))
      go_ret
      refine ⟨by rw [HP.out, HE.out]; rfl, ?_⟩
      rw [HP.out, HE.out]
      exact HF.out.drew _ _ _ HJ2.out
    · have hlg := hsg
      have hlb := hsb
      simp only [List.length_append, List.length_cons] at hlg hlb
      have HE := Lib.hid (prs_bad (ok := okM) ha h1 h2)
      have HC1 := Lib.hid (cutS_ok _ a r 36 true (cut_esc ha) hsb)
      have HT1 := Lib.hid (fun W hW => HF.out.text pre a W hW (by omega))
      have HP1 := Lib.hid (cutP_ok r r 36 false (pre_miss h1).2 (pre_miss h1).1)
      obtain ⟨q, r', m, hcq, hq, hql⟩ : ∃ q r' m, Lib.cut r [41] = (q, r', m) ∧ q.head? ≠ some 40 ∧ q.length ≤ r.length := by
        rcases cut1_cases 41 r with ⟨_, e⟩ | ⟨q, r', e, _, e2⟩
        · exact ⟨r, [], false, by rw [lib_cut, e], h2, Nat.le_refl _⟩
        · refine ⟨q, r', true, by rw [lib_cut, e2], fun g => h2 ?_, by rw [e]; simp⟩
          rw [e]
          cases q with
          | nil => cases g
          | cons y q => exact g
      have HC2 := Lib.hid (cutS_ok r q r' 41 m hcq (by omega))
      have HP2 := Lib.hid (cutP_ok q q 40 false (pre_miss hq).2 (pre_miss hq).1)
      clear ha h1 h2 hcq hq
      go_wp2_with (first
        | (go_at_call 73; have hh := HC1.out; clear HC1; refine (hh _ (HF.out.cell _ _ HJ.out)).mono ?_; clear hh; rintro e w1 ⟨rfl, n1, rfl⟩)
        | (go_at_fn fT; have hh := HT1.out; clear HT1; refine (hh _ (HF.out.drew _ _ _ HJ.out)).mono ?_; clear hh; rintro e w2 ⟨rfl, hj⟩; have HJ2 := Lib.hid hj; clear hj)
        | (go_at_call 74; have hh := HP1.out; clear HP1; refine (hh _).mono ?_; clear hh; rintro e w3 ⟨rfl, hw3⟩; rw [hw3]; clear hw3)
        | (go_at_call 73; refine (HC2.out _ (HF.out.cell _ _ HJ2.out)).mono ?_; rintro e w4 ⟨rfl, n4, rfl⟩)
        | (go_at_call 74; refine (HP2.out _).mono ?_; rintro e w5 ⟨rfl, hw5⟩; rw [hw5]; clear hw5))
      go_ret
      refine ⟨by rw [HP.out, HE.out]; rfl, ?_⟩
      rw [HP.out, HE.out]
      exact HF.out.drew _ _ _ HJ2.out
end Go.Proofs.YtmeenhfclnkjhaaDoor
