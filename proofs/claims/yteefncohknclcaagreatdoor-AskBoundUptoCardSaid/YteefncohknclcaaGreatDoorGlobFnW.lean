/- The walks through glob.pieces, Check, Match and the fact globs. Conditions: texts shorter than 2^62 bytes. -/
import Derived.Test.YteefncohknclcaaGreatDoorNfaW
import Derived.Test.YteefncohknclcaaGreatDoorGoodP
namespace Go.Proofs.YteefncohknclcaaGreatDoor
open Go.RowKit
theorem onePc_four {c : UInt8} {s : Txt} {x : Pc × Txt} (h : onePc c s = some x) : x.1.set.length = 4 := by
  unfold onePc at h
  split at h
  · injection h with h; subst h; rfl
  · split at h
    · injection h with h; subst h; rfl
    · split at h
      · rw [Option.map_eq_some_iff] at h
        obtain ⟨y, h1, rfl⟩ := h
        exact clsOf_len h1
      · split at h
        · cases h
        · split at h
          · split at h
            · cases h
            · injection h with h; subst h; exact setN_len _ _ _
          · injection h with h; subst h; exact setN_len _ _ _
theorem prs_four {s : Txt} {l : List Pc} (h : prs s = some l) : ∀ p ∈ l, p.set.length = 4 := by
  induction l generalizing s with
  | nil => intro p hp; cases hp
  | cons q l ih =>
    cases s with
    | nil => rw [prs_nil] at h; cases h
    | cons c s =>
      rw [prs_cons, Option.bind_eq_some_iff] at h
      obtain ⟨x, h1, h2⟩ := h
      rw [Option.map_eq_some_iff] at h2
      obtain ⟨m, h3, h4⟩ := h2
      injection h4 with h4 h5
      subst h4 h5
      intro p hp
      rcases List.mem_cons.1 hp with rfl | hp
      · exact onePc_four h1
      · exact ih h3 p hp
theorem pcs_own {w : World} {base : Nat} {g : Option Addr} {c : Nat} {l : List Pc} (h : w.ownsRow base 172 5 (.slice g l.length c) l.length (pcsL l)) (h4 : ∀ q ∈ l, q.set.length = 4) : PcsAt w g l := by
  refine ⟨h4, fun hn => ?_⟩
  obtain ⟨b, cap, hv, _, hlt⟩ := h.form hn
  have hp : g = some ⟨b, 0, none⟩ := by injection hv
  subst hp
  refine ⟨b, rfl, hlt, fun j u hu => ?_⟩
  have := h.cells (g := b) rfl j u hu
  have e : (⟨b, 0, none⟩ : Addr).add j = ⟨b, j, none⟩ := by
    unfold Addr.add
    split
    · rename_i h; subst h; rfl
    · simp
  rw [e] at this
  exact this
/-- the error of a pattern -/
def pE (p : Txt) : Int := if 60 < p.length then 2 else if prs p = none then 3 else 0
/-- what pieces answers -/
def PiecesPost (p : Txt) (w : World) (e : Ending) (w' : World) : Prop :=
  Below w.heap.size w w' ∧ ((∃ (l : List Pc) (g : Option Addr) (c : Nat), p.length ≤ 60 ∧ prs p = some l ∧ l.length ≤ 60 ∧ pE p = 0 ∧ e = .returned (.tuple #[.slice g l.length c, .int .i64 0]) ∧ PcsAt w' g l) ∨
  (pE p ≠ 0 ∧ (60 < p.length ∨ prs p = none) ∧ e = .returned (.tuple #[.slice none 0 0, .int .i64 (pE p)])))
set_option maxHeartbeats 1000000 in
theorem pieces_ok (p : ByteArray) (hp : p.size ≤ 4611686018427387904) (w : World) : Calls Tryz.prog 96 #[.string p] w (PiecesPost p.data.toList w) := by
  have hl := ba_len p
  by_cases h : 60 < p.size
  · have HE : Hid (pE p.data.toList = 2) := by show _ = _; unfold pE; rw [if_pos (by omega)]
    have HL : Hid (60 < p.data.toList.length) := by show _ < _; omega
    clear hl
    go_enter Tryz.func96, Tryz.ntmps96
    go_wp2
    go_ret2
    exact ⟨Below.refl _ _, .inr ⟨by rw [HE.out]; decide, .inl HL.out, by rw [HE.out]; rfl⟩⟩
  · have HL : Hid (p.data.toList.length ≤ 60) := by show _ ≤ _; omega
    clear hl
    go_enter Tryz.func96, Tryz.ntmps96
    go_wp2_with fail
    refine (parse_ok p (by omega) w).mono ?_
    rintro e w1 ⟨hb, ⟨l, g, c, hpr, hll, rfl, hown⟩ | ⟨hpr, rfl⟩⟩
    · have HP : Hid (PcsAt w1 g l) := pcs_own hown (prs_four hpr)
      have HE : Hid (pE p.data.toList = 0) := by show _ = _; unfold pE; rw [if_neg (by have := HL.out; omega), hpr]; rfl
      have HR := Lib.hid hpr
      have HLL : Hid (l.length ≤ 60) := Nat.le_trans hll HL.out
      clear hown hpr hll
      go_wp2
      go_ret2
      exact ⟨hb, .inl ⟨l, g, c, HL.out, HR.out, HLL.out, HE.out, rfl, HP.out⟩⟩
    · have HE : Hid (pE p.data.toList = 3) := by show _ = _; unfold pE; rw [if_neg (by have := HL.out; omega), hpr]; rfl
      have HR := Lib.hid hpr
      clear hpr
      go_wp2
      go_ret2
      exact ⟨hb, .inr ⟨by rw [HE.out]; decide, .inr HR.out, by rw [HE.out]; rfl⟩⟩
set_option maxHeartbeats 1000000 in
theorem CheckG_ok (p : ByteArray) (hp : p.size ≤ 4611686018427387904) (w : World) : Calls Tryz.prog 124 #[.string p] w fun e w' => e = .returned (.int .i64 (pE p.data.toList)) ∧ Below w.heap.size w w' := by
  go_enter Tryz.func124, Tryz.ntmps124
  go_wp2_with fail
  refine (pieces_ok p hp w).mono ?_
  rintro e w1 ⟨hb, ⟨l, g, c, _, hpr, hll, hE, rfl, hP⟩ | ⟨hE, _, rfl⟩⟩
  · have HE := Lib.hid hE
    clear hP hE hpr
    go_wp2
    go_ret
    exact ⟨by rw [HE.out]; rfl, hb⟩
  · clear hE
    go_wp2
    go_ret
    exact ⟨rfl, hb⟩
/-- what Match answers: does it match, and the error -/
def mB (p s : Txt) : Bool := if 60 < p.length then false else match prs p with
  | none => false
  | some l => if 2000 < s.length then false else mt l s
def mE (p s : Txt) : Int := if pE p ≠ 0 then pE p else if 2000 < s.length then 2 else 0
theorem m_bad {p : Txt} (h : pE p ≠ 0) (s : Txt) : mB p s = false ∧ mE p s = pE p := by
  refine ⟨?_, by unfold mE; rw [if_pos h]⟩
  unfold pE at h
  unfold mB
  split at h
  · rename_i h1; rw [if_pos h1]
  · rename_i h1
    rw [if_neg h1]
    split at h
    · rename_i h2; rw [h2]
    · exact absurd rfl h
theorem m_good {p : Txt} {l : List Pc} (h1 : p.length ≤ 60) (h2 : prs p = some l) (s : Txt) : mB p s = (if 2000 < s.length then false else mt l s) ∧ mE p s = if 2000 < s.length then 2 else 0 := by
  have hE : pE p = 0 := by unfold pE; rw [if_neg (by omega), h2]; rfl
  refine ⟨?_, by unfold mE; rw [if_neg (by rw [hE]; simp)]⟩
  unfold mB
  rw [if_neg (by omega), h2]
set_option maxHeartbeats 1000000 in
theorem Match_ok (p s : ByteArray) (hp : p.size ≤ 4611686018427387904) (hs : s.size ≤ 4611686018427387904) (w : World) :
    Calls Tryz.prog 69 #[.string p, .string s] w fun e w' => e = .returned (.tuple #[.bool (mB p.data.toList s.data.toList), .int .i64 (mE p.data.toList s.data.toList)]) ∧ Below w.heap.size w w' := by
  have hsl := ba_len s
  have HSL := Lib.hid hsl
  clear hsl
  go_enter Tryz.func69, Tryz.ntmps69
  go_wp2_with fail
  refine (pieces_ok p hp w).mono ?_
  rintro e w1 ⟨hb, ⟨l, g, c, hpl, hpr, hll, hE, rfl, hP⟩ | ⟨hE, _, rfl⟩⟩
  · obtain ⟨m1, m2⟩ := m_good hpl hpr s.data.toList
    rw [HSL.out] at m1 m2
    have HM1 := Lib.hid m1
    have HM2 := Lib.hid m2
    have HMT := Lib.hid (match_mt hll s.data.toList)
    clear hE hpr m1 m2
    by_cases hbig : 2000 < s.size
    · go_wp2
      go_ret2
      exact ⟨by rw [HM1.out, HM2.out, if_pos hbig, if_pos hbig]; rfl, hb⟩
    · have HMO := Lib.hid (match_ok l hll g c s (by omega) w1 hP)
      clear hP
      go_wp2_with fail
      refine HMO.out.mono ?_
      rintro e w2 ⟨rfl, hb2⟩
      have hbb : Below w.heap.size w w2 := hb.trans (hb2.mono hb.size)
      clear HMO
      go_wp2
      go_ret2
      exact ⟨by rw [HM1.out, HM2.out, if_neg hbig, if_neg hbig, ← HMT.out]; rfl, hbb⟩
  · obtain ⟨m1, m2⟩ := m_bad hE s.data.toList
    have HM1 := Lib.hid m1
    have HM2 := Lib.hid m2
    obtain ⟨h1, h2⟩ := int_ne' hE
    clear hE m1 m2
    go_wp2
    go_ret2
    exact ⟨by rw [HM1.out, HM2.out]; rfl, hb⟩
theorem globs_fact : mB [97, 42] [97, 98] = true ∧ mE [97, 42] [97, 98] = 0 := by decide +kernel
end Go.Proofs.YteefncohknclcaaGreatDoor
