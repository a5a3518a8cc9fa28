/- The walks of infer.of, infer.Of and the law InferFirst. Conditions: the slices read as listed. -/
import Derived.Test.YtoiolepengcagaaGreatDoorInferW
import Derived.Test.YtoiolepengcagaaGreatDoorNameStemW
import Derived.Test.YtoiolepengcagaaGreatDoorNLArg
import Derived.Test.YtoiolepengcagaaGreatDoorGoodP
namespace Go.Proofs.YtoiolepengcagaaGreatDoor
open Go.RowKit Go.Shelf Go.ChangeShapes
def stC (s : ByteArray) : Prop := Lib.lastIndexByte s 46 ≤ Lib.lastIndexByte s 47 + 1
instance (s : ByteArray) : Decidable (stC s) := by unfold stC; infer_instance
def stA (s : ByteArray) : ByteArray := if stC s then s else s.extract 0 (Lib.lastIndexByte s 46).toNat
def stB (s : ByteArray) : ByteArray := if stC s then ⟨#[]⟩ else s.extract (Lib.lastIndexByte s 46).toNat s.size
theorem stA_size (s : ByteArray) : (stA s).size ≤ s.size := by
  unfold stA
  split
  · exact Nat.le_refl _
  · rw [ByteArray.size_extract]; omega
theorem Stem_fn (s : ByteArray) (hs : s.size < 4611686018427387904) (w : World) : Calls Tryz.prog 123 #[.string s] w fun e w' => e = .returned (.tuple #[.string (stA s), .string (stB s)]) ∧ Below w.heap.size w w' := by
  refine (Stem_ok s hs w).mono ?_
  rintro e w' ⟨hb, ⟨h, rfl⟩ | ⟨h, k, h2, _, rfl⟩⟩
  · refine ⟨?_, hb⟩
    have h' : stC s := h
    unfold stA stB
    rw [if_pos h', if_pos h']
  · refine ⟨?_, hb⟩
    have hn : ¬ stC s := by unfold stC; omega
    unfold stA stB
    rw [if_neg hn, if_neg hn, h2]
    rfl
set_option maxHeartbeats 4000000 in
theorem ofI_ok (p q : Option Addr) (n c m d : Nat) (l : List Inf) (zs : List ByteArray) (s : ByteArray) (w : World) (h : InfsIn w p n c l) (hz : NL w q m d zs) (hs : s.size ≤ 100) (hsm : ∀ x ∈ l, x.1.size ≤ 100) :
    Calls Tryz.prog 87 #[.slice p n c, .slice q m d, .string s] w fun e w' => e = .returned (.tuple #[.string ((infOf l zs (stA s) (stB s)).getD ⟨#[]⟩), .bool (infOf l zs (stA s) (stB s)).isSome]) ∧ Below w.heap.size w w' := by
  have hl := h.at_.len
  have hbig := h.at_.big
  subst hl
  have HI := Lib.hid h
  have HZ := Lib.hid hz
  have HSM := Lib.hid hsm
  have hsa := stA_size s
  have HST := Lib.hid (Stem_fn s (by omega) w)
  clear h hz hsm
  generalize stA s = st at *
  generalize stB s = en at *
  go_enter Tryz.func87, Tryz.ntmps87
  go_wp2_with (go_at_call 123; refine HST.out.mono ?_; rintro e w1 ⟨rfl, hb⟩; have HB1 := Lib.hid hb; clear hb)
  go_loopw [19] (fun i wr => ∃ k : Nat, k ≤ l.length ∧ i = .int .i64 k ∧ Below w.heap.size w wr ∧ Hid (infOf l zs st en = infOf (l.drop k) zs st en)) (fun i _ => l.length - (intOf i).toNat)
  case atStart => exact ⟨0, Nat.zero_le _, rfl, HB1.out, rfl⟩
  case round =>
    obtain ⟨k, hk, rfl, hbr, HK⟩ := hrel
    have HBR := Lib.hid hbr
    by_cases hlt : k < l.length
    · have hel := List.getElem?_eq_getElem hlt
      have hgd : l.getD k inf0 = l[k] := by rw [List.getD_eq_getElem?_getD, hel]; rfl
      obtain ⟨b, o, rfl, hbl, c1, c2⟩ := (HI.out.at_.below hbr).cell hel
      have hmm : l[k] ∈ l := List.getElem_mem hlt
      have hsz := HSM.out _ hmm
      have hnx := infOf_next hlt zs st en
      rw [hgd] at hnx
      have HNX := Lib.hid hnx
      have HZR := Lib.hid (fun o => (HZ.out.below hbr).below (below1I wr o))
      rw [← Nat.add_assoc] at c2
      unfold iF at c1
      unfold iG at c2
      clear hgd hel hmm hbr hnx
      generalize l[k] = y at *
      obtain ⟨y1, y2⟩ := y
      simp only at c1 c2 hsz HNX
      have hl1 : (k : Int) < (l.length : Int) := by omega
      have hno : ¬ (9223372036854775807 < st.size + y1.size) := by omega
      cases he : (y2.toList == en.toList)
      · have HN : Hid (infOf l zs st en = infOf (l.drop (k + 1)) zs st en) := by
          show _ = _
          rw [HK.out, HNX.out, if_neg]
          rintro ⟨e1, _⟩
          rw [str_eq, e1] at he
          simp at he
        go_wp2
        go_roundw
        case rel => exact ⟨k + 1, by omega, by go_num, HBR.out.trans ((below1I wr _).mono HBR.out.size), HN.out⟩
        case measure => simp [intOf]; omega
      · have hye : y2 = en := by rw [str_eq] at he; exact of_decide_eq_true he
        cases hc : Lib.containsS zs (st ++ y1)
        · have HN : Hid (infOf l zs st en = infOf (l.drop (k + 1)) zs st en) := by
            show _ = _
            rw [HK.out, HNX.out, if_neg]
            rintro ⟨_, e1⟩
            rw [e1] at hc
            cases hc
          have HC := Lib.hid hc
          clear hc hye
          go_wp2_with (go_at_call 78; refine (nl_contains (HZR.out _) _).mono ?_; rw [HC.out]; rintro e w2 ⟨rfl, hw2⟩; rw [hw2]; clear hw2)
          go_roundw
          case rel => exact ⟨k + 1, by omega, by go_num, HBR.out.trans ((below1I wr _).mono HBR.out.size), HN.out⟩
          case measure => simp [intOf]; omega
        · have HN : Hid (infOf l zs st en = some (st ++ y1)) := by
            show _ = _
            rw [HK.out, HNX.out, if_pos ⟨hye, hc⟩]
          have HC := Lib.hid hc
          clear hc hye
          go_wp2_with (go_at_call 78; refine (nl_contains (HZR.out _) _).mono ?_; rw [HC.out]; rintro e w2 ⟨rfl, hw2⟩; rw [hw2]; clear hw2)
          go_ret2
          exact ⟨by rw [HN.out]; rfl, HBR.out.trans ((below1I wr _).mono HBR.out.size)⟩
    · obtain rfl : k = l.length := by omega
      have HN : Hid (infOf l zs st en = none) := by
        show _ = _
        rw [HK.out, List.drop_length]
        rfl
      go_wp2
      go_ret2
      exact ⟨by rw [HN.out]; rfl, HBR.out⟩
/-- the error of Of -/
def ofE (l : List Inf) (zs : List ByteArray) (s : ByteArray) : Int := if infE l ≠ 0 then infE l else if (zs.all fun x => nameE x == 0) = false then 3 else nameE s
theorem all_okI (us : List ByteArray) : (us.all fun s => nameE s == 0) = true ↔ okN us us.length := by
  rw [okN_mem rfl, List.all_eq_true]
  simp
theorem names_ok (q : Option Addr) (m d : Nat) (zs : List ByteArray) (w : World) (hz : NL w q m d zs) :
    Calls Tryz.prog 85 #[.slice q m d] w fun e w' => e = .returned (.int .i64 (if (zs.all fun x => nameE x == 0) = false then 3 else 0)) ∧ Below w.heap.size w w' := by
  have hl := hz.at_.len
  subst hl
  by_cases hok : okN zs zs.length
  · have h1 : (if (zs.all fun x => nameE x == 0) = false then (3 : Int) else 0) = 0 := by rw [(all_okI zs).2 hok]; rfl
    rw [h1]
    have HS := Lib.hid (Sort_yes q zs.length d zs w hz hok)
    clear h1 hz hok
    go_enter Tryz.func85, Tryz.ntmps85
    go_wp2_with (go_at_call 53; refine HS.out.mono ?_; rintro e w1 ⟨g, c, rfl, _, hb⟩; have HB := Lib.hid hb; clear hb)
    go_ret
    exact ⟨rfl, HB.out⟩
  · have h1 : (if (zs.all fun x => nameE x == 0) = false then (3 : Int) else 0) = 3 := by
      rw [if_pos]
      rw [← Bool.not_eq_true]
      exact fun h => hok ((all_okI zs).1 h)
    rw [h1]
    have HS := Lib.hid (Sort_no q zs.length d zs w hz.at_ hok)
    clear h1 hz hok
    go_enter Tryz.func85, Tryz.ntmps85
    go_wp2_with (go_at_call 53; refine HS.out.mono ?_; rintro e w1 ⟨rfl, rfl⟩)
    go_ret
    exact ⟨rfl, Below.refl _ _⟩
theorem suf_size {s : ByteArray} (h : sufB s = true) : s.size ≤ 10 := by
  unfold sufB at h
  simp only [Bool.and_eq_true, decide_eq_true_iff] at h
  exact h.1.1.1.2
theorem infE_size {l : List Inf} (h : infE l = 0) : ∀ x ∈ l, x.1.size ≤ 100 := by
  intro x hx
  obtain ⟨k, hk, e⟩ := List.mem_iff_getElem.1 hx
  have := infAt_zero.1 (((infE_zero l).1 h).2 k hk)
  have hg : l.getD k inf0 = x := by rw [List.getD_eq_getElem?_getD, List.getElem?_eq_getElem hk, e]; rfl
  rw [hg] at this
  have := suf_size this.1
  omega
/-- what Of answers -/
def OfPost (l : List Inf) (zs : List ByteArray) (s : ByteArray) (w : World) (e : Ending) (w' : World) : Prop :=
  ((ofE l zs s ≠ 0 ∧ e = .returned (.tuple #[.string ⟨#[]⟩, .bool false, .int .i64 (ofE l zs s)])) ∨
    (ofE l zs s = 0 ∧ e = .returned (.tuple #[.string ((infOf l zs (stA s) (stB s)).getD ⟨#[]⟩), .bool (infOf l zs (stA s) (stB s)).isSome, .int .i64 0]))) ∧ Below w.heap.size w w'
def InfsAt (w : World) (v : Value) (_ : Unit) : Prop := ∃ p n c l, v = .slice p n c ∧ InfsIn w p n c l ∧ (p = none → c = 0)
abbrev Short := {s : ByteArray // s.size ≤ maxLen}
theorem P2At.map {α β : Type} {f g : α → Value} {f' g' : β → Value} (φ : α → β) (hf : ∀ x, f' (φ x) = f x) (hg : ∀ x, g' (φ x) = g x) {w : World} {p : Option Addr} {n c : Nat} {l : List α} (h : P2At f g w p n c l) : P2At f' g' w p n c (l.map φ) := by
  refine ⟨by rw [List.length_map]; exact h.len, fun h0 => ?_, h.big⟩
  obtain ⟨b, o, e, h1, h2⟩ := h.at_ h0
  refine ⟨b, o, e, h1, fun k x hx => ?_⟩
  rw [List.getElem?_map, Option.map_eq_some_iff] at hx
  obtain ⟨y, hy, rfl⟩ := hx
  rw [hf, hg]
  exact h2 k y hy
theorem slice_capI {P : Program} {W : World} {b0 : Nat} {r : Reach} {a : Option Addr} {len cap : Nat} {t e : TypeId} (ht : P.underlying t = some (.slice e)) (h : Value.okWide P W r b0 t (.slice a len cap)) : len ≤ cap := by
  simp only [Value.okWide, ht, Cell.okWide] at h
  unfold Cell.ok at h
  rw [ht] at h
  cases a with
  | none =>
    revert h
    cases len <;> cases cap <;> simp
  | some ad => exact h.1
set_option maxRecDepth 100000 in
theorem infs_arg {H : Type} {enc : TypeId × Value → H} {W : World} {r : Reach} {b0 : Nat} {v : Value} {d : DataW H} {p : List MemPlace}
    (hok : Value.okWide Tryz.prog W r b0 40 v) (hf : DataW.Trod enc Tryz.prog W 0 (fun _ => true) true 40 v d p)
    (hsz : ∀ n, n ∈ d.weights Tryz.prog 40 → n ≤ reachBytes) : ∃ g, InfsAt W v g := by
  obtain ⟨a0, n0, c0, rfl⟩ := Go.WideShapes.okWide_slice Tryz.underlying40 hok
  obtain ⟨fuel, hf⟩ := hf
  have hS : ∀ n v x, DataW.trod enc Tryz.prog W 0 (fun _ => true) true n 9 [v] = some x → ∃ a : Short, v = Value.string a.1 := by
    intro n v x h
    obtain ⟨s, e, _, hs⟩ := DataW.trod_string Tryz.underlying9 h
    injection e with e _
    exact ⟨⟨s, hs⟩, e⟩
  obtain ⟨l, hE⟩ := p2_arg (A := Short) (B := Short) (fun a => Value.string a.1) (fun a => Value.string a.1) Tryz.underlying40 Tryz.underlying100 (by kernel_rfl) rfl rfl (by kernel_rfl) (by kernel_rfl) hS hS (by decide +kernel) hf hsz
  refine ⟨(), a0, n0, c0, l.map (fun x => (x.1.1, x.2.1)), rfl, ⟨hE.map _ (fun _ => rfl) (fun _ => rfl), fun x hx => ?_, slice_capI Tryz.underlying40 hok⟩, (slice_plain Tryz.underlying40 hok).1⟩
  obtain ⟨y, _, rfl⟩ := List.mem_map.1 hx
  exact ⟨y.1.2, y.2.2⟩
end Go.Proofs.YtoiolepengcagaaGreatDoor
