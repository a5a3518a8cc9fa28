/- Texts joined: RulesArg, FileEqW, SameFileW, SameW2, ReadP, ReadStW. Conditions: theirs. -/
import Derived.Test.YtoiolepengcagaaGreatDoorFileOrderLWM9
import Derived.Test.YtoiolepengcagaaGreatDoorFileOrderLWM7
import Derived.Test.YtoiolepengcagaaGreatDoorFileOrderLWM8
import Derived.Deep.QuietTactic
import Derived.BigQuiet
import Derived.Test.YtoiolepengcagaaGreatDoorWordsP
import Derived.Test.YtoiolepengcagaaGreatDoorRuleP
import Derived.Test.YtoiolepengcagaaGreatDoorFileOrderLWM1
import Derived.Maps.OwnSet
namespace Go.Proofs.YtoiolepengcagaaGreatDoor
open Go.RowKit Go.Shelf Go.ChangeShapes Go.WideShapes
def WkOk (W : World) (a : Option Addr) (len cap : Nat) : Prop := (∃ zs, NLw W a len cap zs) ∧ len ≤ cap
theorem nlw_any {H : Type} {enc : TypeId × Value → H} {W : World} {fuel : Nat} {v : Value} {d : DataW H} {p : List MemPlace}
    (hf : DataW.trod enc Tryz.prog W 0 (fun _ => true) true fuel 23 [v] = some (d, p))
    (hsz : ∀ n, n ∈ d.weights Tryz.prog 23 → n ≤ reachBytes) : ∃ a len cap, v = .slice a len cap ∧ WkOk W a len cap := by
  have ht := Tryz.underlying23
  have he := Tryz.underlying9
  have hc : Tryz.prog.cellsOf 9 = 1 := by kernel_rfl
  rcases open_strings ht he hc hf with ⟨h1, h2⟩ | ⟨ad, ln, cp, zs, h1, h2, h3, h4, h5, h6, h7, h8⟩
  · injection h1 with h1 _
    subst h1
    exact ⟨none, 0, 0, rfl, ⟨[], ⟨rfl, Reads.none_, fun s hs => (by cases hs), by omega⟩, fun h => by omega, by omega⟩, Nat.le_refl _⟩
  · injection h1 with h1 _
    subst h1
    obtain ⟨ss, hS⟩ := str_arg ht he hc hf hsz
    refine ⟨some ad, ln, cp, rfl, ⟨ss, hS, fun h0 ad' e => ?_, ?_⟩, ?_⟩
    · injection e with e
      subst e
      obtain ⟨b, o, s⟩ := ad
      have h5' := h5
      simp only [if_true] at h5'
      have hcell := h7 0 (by omega)
      have hs : s = none := by simpa [Addr.add] using World.cell?_spot hcell
      subst hs
      refine ⟨b, o, rfl, ?_⟩
      have := World.block_lt_of_cell? W _ hcell
      rwa [block_of_add] at this
    · injection h6 with h6 h6'
      have hw : d.weights Tryz.prog 23 = ((strs (H := H) (zs.take ln)).length + (strs (H := H) (zs.drop ln)).length) * Tryz.prog.bytesOf 9 :: (DataW.weightsAll Tryz.prog 9 (strs (H := H) (zs.take ln)) ++ DataW.weightsAll Tryz.prog 9 (strs (H := H) (zs.drop ln))) := by
        rw [h6, DataW.weights, ht]
      have hb := hsz _ (by rw [hw]; exact List.mem_cons_self)
      have hby : Tryz.prog.bytesOf 9 = 16 := by kernel_rfl
      rw [hby] at hb
      unfold reachBytes at hb
      simp only [if_true] at h5
      have hl1 : (strs (H := H) (zs.take ln)).length = ln := by unfold strs; rw [List.length_map, List.length_take]; omega
      rw [hl1] at hb
      omega
    · omega
theorem weightsAll_mem {H : Type} {P : Program} {e : TypeId} {d : DataW H} {n : Nat} (hn : n ∈ d.weights P e) : ∀ {ds : List (DataW H)}, d ∈ ds → n ∈ DataW.weightsAll P e ds := by
  intro ds
  induction ds with
  | nil => intro h; cases h
  | cons x ds ih =>
    intro h
    rw [DataW.weightsAll]
    rcases List.mem_cons.1 h with rfl | h
    · exact List.mem_append_left _ hn
    · exact List.mem_append_right _ (ih h)
/-- the slice of pairs that a law is handed, each field of a weight that is told -/
theorem p2_argw {A B H : Type} {enc : TypeId × Value → H} {P : Program} {W : World} {fuel len cap : Nat} {a : Option Addr} {d : DataW H} {p : List MemPlace} {t e : TypeId} {f0 f1 : Field} (F : A → Value) (G : B → Value)
    (ht : P.underlying t = some (.slice e)) (he : P.underlying e = some (.struct #[f0, f1])) (ce : P.cellsOf e = 2) (o0 : f0.offset = 0) (o1 : f1.offset = 1) (c0 : P.cellsOf f0.type = 1) (c1 : P.cellsOf f1.type = 1)
    (hF : ∀ n v x, DataW.trod enc P W 0 (fun _ => true) true n f0.type [v] = some x → (∀ k, k ∈ x.1.weights P f0.type → k ≤ reachBytes) → ∃ a, v = F a)
    (hG : ∀ n v x, DataW.trod enc P W 0 (fun _ => true) true n f1.type [v] = some x → (∀ k, k ∈ x.1.weights P f1.type → k ≤ reachBytes) → ∃ b, v = G b)
    (hby : 16 ≤ P.bytesOf e) (hf : DataW.trod enc P W 0 (fun _ => true) true fuel t [.slice a len cap] = some (d, p)) (hsz : ∀ n, n ∈ d.weights P t → n ≤ reachBytes) :
    ∃ l : List (A × B), P2At (fun x => F x.1) (fun x => G x.2) W a len cap l := by
  rcases Go.Deep.open_slice_pairs ht he ce o0 o1 c0 c1 hf with ⟨h1, _⟩ | ⟨ad, ln, cp, m, n, V0, V1, D0, D1, P0, P1, h1, _, h3, _, h5, h6, h7⟩
  · injection h1 with h1 _
    injection h1 with e1 e2 e3
    subst e1 e2 e3
    exact ⟨[], rfl, fun h => by omega, by omega⟩
  · injection h1 with h1 _
    injection h1 with e1 e2 e3
    subst e1 e2 e3
    simp only [if_true] at h5
    subst h5
    injection h6 with h6 _
    have hel : ∀ i, i < len → ∀ k, k ∈ (DataW.agg [D0 i, D1 i]).weights P e → k ≤ reachBytes := by
      intro i hi k hk
      refine hsz k ?_
      rw [h6, DataW.weights, ht]
      refine List.mem_cons_of_mem _ (List.mem_append_left _ (weightsAll_mem hk ?_))
      exact List.mem_map.2 ⟨i, List.mem_range.2 hi, rfl⟩
    have hex : ∀ i, i < len → ∃ q : A × B, W.cell? (ad.add (i * 2)) = some (F q.1) ∧ W.cell? (ad.add (i * 2 + 1)) = some (G q.2) := by
      intro i hi
      obtain ⟨k1, k2, k3, k4⟩ := h7 i (by omega)
      obtain ⟨x, hx⟩ := hF _ _ _ k3 (fun k hk => hel i hi k (by simp only [DataW.weights, he, List.map_cons, List.map_nil, DataW.weightsEach, List.mem_append]; exact .inl hk))
      obtain ⟨y, hy⟩ := hG _ _ _ k4 (fun k hk => hel i hi k (by simp only [DataW.weights, he, List.map_cons, List.map_nil, DataW.weightsEach, List.mem_append]; exact .inr (.inl hk)))
      exact ⟨(x, y), by rw [k1, hx], by rw [k2, hy]⟩
    obtain ⟨l, hl, hq⟩ := list_of len _ hex
    have hb := hsz ((len + (m - len)) * P.bytesOf e) (by
      rw [h6, DataW.weights, ht]
      simp)
    have hrb : reachBytes < 2 ^ 47 := reachBytes_lt
    have hmul : (len + (m - len)) * 16 ≤ (len + (m - len)) * P.bytesOf e := Nat.mul_le_mul_left _ hby
    refine ⟨l, hl, fun hn => ?_, by omega⟩
    obtain ⟨b, o, s⟩ := ad
    have hs : s = none := by
      have h0 := (h7 0 (by omega)).1
      simpa [Addr.add] using World.cell?_spot h0
    subst hs
    refine ⟨b, o, rfl, ?_, fun k x hx => ?_⟩
    · have := World.block_lt_of_cell? W _ (h7 0 (by omega)).1
      rwa [block_of_add] at this
    · have := hq k x hx
      rw [Addr.add_lit, Addr.add_lit] at this
      exact this
def RulesAt (w : World) (v : Value) (_ : Unit) : Prop := ∃ p n c l, v = .slice p n c ∧ RulesIn w p n c l
set_option maxRecDepth 100000 in
theorem rules_arg {H : Type} {enc : TypeId × Value → H} {W : World} {r : Reach} {b0 : Nat} {v : Value} {d : DataW H} {p : List MemPlace}
    (hok : Value.okWide Tryz.prog W r b0 41 v) (hf : DataW.Trod enc Tryz.prog W 0 (fun _ => true) true 41 v d p)
    (hsz : ∀ n, n ∈ d.weights Tryz.prog 41 → n ≤ reachBytes) : ∃ g, RulesAt W v g := by
  obtain ⟨a0, n0, c0, rfl⟩ := Go.WideShapes.okWide_slice Tryz.underlying41 hok
  obtain ⟨fuel, hf⟩ := hf
  have hS : ∀ n v x, DataW.trod enc Tryz.prog W 0 (fun _ => true) true n 23 [v] = some x → (∀ k, k ∈ x.1.weights Tryz.prog 23 → k ≤ reachBytes) → ∃ a : {x : Hd // x.ok W}, v = a.1.v := by
    rintro n v ⟨d, p⟩ h hw
    obtain ⟨a, len, cap, rfl, ⟨zs, hN⟩, hc⟩ := nlw_any h hw
    exact ⟨⟨⟨a, len, cap, zs⟩, hN, hc⟩, rfl⟩
  obtain ⟨l, hE⟩ := p2_argw (A := {x : Hd // x.ok W}) (B := {x : Hd // x.ok W}) (fun a => a.1.v) (fun a => a.1.v) Tryz.underlying41 Tryz.underlying61 (by kernel_rfl) rfl rfl (by kernel_rfl) (by kernel_rfl) hS hS (by decide +kernel) hf hsz
  refine ⟨(), a0, n0, c0, l.map (fun x => (x.1.1, x.2.1)), rfl, ⟨by rw [List.length_map]; exact hE.len, fun h0 => ?_, hE.big⟩, fun x hx => ?_, slice_cap Tryz.underlying41 hok⟩
  · obtain ⟨b, o, e, hb, hc⟩ := hE.at_ h0
    refine ⟨b, o, e, hb, fun k x hx => ?_⟩
    rw [List.getElem?_map, Option.map_eq_some_iff] at hx
    obtain ⟨y, hy, rfl⟩ := hx
    exact hc k y hy
  · obtain ⟨y, _, rfl⟩ := List.mem_map.1 hx
    exact ⟨y.1.2, y.2.2⟩
end Go.Proofs.YtoiolepengcagaaGreatDoor
namespace Go.Proofs.YtoiolepengcagaaGreatDoor
open Go.RowKit Go.Shelf Go.Maps
theorem nlw_equalG {w : World} {p q : Option Addr} {n m c d : Nat} {zs ys : List ByteArray} (h : NLw w p n c zs) (h2 : NLw w q m d ys) :
    Calls Tryz.prog 10 #[.slice p n c, .slice q m d] w fun e w' => e = .returned (.bool (decide (zs = ys))) ∧ ∃ k, w' = w.drewN k := by
  have hl := h.at_.len
  have hl2 := h2.at_.len
  have hb := h.at_.big
  have hb2 := h2.at_.big
  subst hl hl2
  by_cases hne : zs.length = ys.length
  · rcases Nat.eq_zero_or_pos zs.length with h0 | h0
    · have e1 : zs = [] := List.length_eq_zero_iff.1 h0
      have e2 : ys = [] := List.length_eq_zero_iff.1 (by omega)
      subst e1 e2
      refine (Tryz.slices_Equal_string_empty p q c 0 d w (by omega)).mono ?_
      rintro e w' ⟨he, rfl⟩
      exact ⟨by simpa using he, 0, rfl⟩
    · obtain ⟨ad, rfl, _⟩ := h.at_.reads.2 h0
      obtain ⟨b, o, rfl, _⟩ := h.plain h0 _ rfl
      obtain ⟨ad, rfl, _⟩ := h2.at_.reads.2 (by omega)
      obtain ⟨b2, o2, rfl, _⟩ := h2.plain (by omega) _ rfl
      refine (Tryz.slices_Equal_string b o zs.length c b2 o2 ys.length d zs ys w (Nat.le_refl _) (Nat.le_refl _) (by omega) (by omega) h.cellAt h2.cellAt).mono ?_
      rintro e w' ⟨he, hw⟩
      rw [List.take_length, List.take_length] at he
      exact ⟨he, hw⟩
  · have HE : Hid (zs ≠ ys) := fun e => hne (by rw [e])
    have hd : ((zs.length : Int) != (ys.length : Int)) = true := by
      have : ¬ (zs.length : Int) = (ys.length : Int) := by omega
      simpa using this
    have hd2 : ((zs.length : Int) == (ys.length : Int)) = false := by
      have : ¬ (zs.length : Int) = (ys.length : Int) := by omega
      simpa using this
    clear hne h h2
    go_enter Tryz.func10, Tryz.ntmps10
    go_wp2
    go_ret
    exact ⟨by rw [decide_eq_false HE.out]; rfl, 0, rfl⟩
theorem take_eq_next {α : Type} {l m : List α} {k : Nat} (h : l.take k = m.take k) {x y : α} (hx : l[k]? = some x) (hy : m[k]? = some y) : (l.take (k + 1) = m.take (k + 1) ↔ x = y) := by
  rw [List.take_add_one, List.take_add_one, hx, hy, h]
  simp
theorem run_neqM (x1 x2 y1 y2 : ByteArray) (u : World) : (binOp .neq 86 (.agg #[.string x1, .string x2]) (.agg #[.string y1, .string y2])).run Tryz.prog u = .ok (.bool (!(x1.toList == y1.toList && x2.toList == y2.toList))) u := by
  have ht := Tryz.underlying86
  have hu : Tryz.prog.underlying 86 = some (.struct (Tryz.prog.fieldsOf 86)) := by unfold Program.fieldsOf; rw [ht]
  have hs : Tryz.prog.stoodInHeld 86 = false := by kernel_rfl
  rw [run_neq_struct, run_equalIn_agg u 9999 86 _ _ hu hs]
  simp only [Program.fieldsOf, ht]
  cases h1 : (x1.toList == y1.toList)
  · simp [Op.eqFields, part, h1, run_equalIn_string, Tryz.underlying9]
  · simp [Op.eqFields, part, h1, run_equalIn_string, Tryz.underlying9]
    by_cases h : x2.toList = y2.toList <;> simp [h]
set_option maxHeartbeats 4000000 in
set_option maxRecDepth 100000 in
theorem equalMG (p q : Option Addr) (n m c d : Nat) (l k : List Inf) (w : World) (h1 : P2At iF iG w p n c l) (h2 : P2At iF iG w q m d k) :
    Calls Tryz.prog 44 #[.slice p n c, .slice q m d] w fun e w' => e = .returned (.bool (decide (l = k))) ∧ Below w.heap.size w w' := by
  have hln := h1.len
  have hlm := h2.len
  have hbig := h1.big
  have hbig2 := h2.big
  subst hln hlm
  have H1 := Lib.hid (fun u (hu : Below w.heap.size w u) => h1.below hu)
  have H2 := Lib.hid (fun u (hu : Below w.heap.size w u) => h2.below hu)
  clear h1 h2
  by_cases hne : l.length = k.length
  · obtain ⟨N, hN⟩ : ∃ N, N = l.length := ⟨_, rfl⟩
    have hK : k.length = N := by omega
    rw [← hN] at H1 hbig ⊢
    rw [hK] at H2 hbig2 ⊢
    have HLN := Lib.hid hN
    have HLK := Lib.hid hK
    have hnn : ((N : Int) != (N : Int)) = false := by simp
    clear hN hK hne
    go_enter Tryz.func44, Tryz.ntmps44
    go_wp2
    go_loopw [13] (fun i wr => ∃ j : Nat, j ≤ N ∧ i = .int .i64 j ∧ Hid (l.take j = k.take j) ∧ Hid (Below w.heap.size w wr)) (fun i _ => N - (intOf i).toNat)
    case atStart => exact ⟨0, Nat.zero_le _, rfl, rfl, Below.refl _ _⟩
    case round =>
      obtain ⟨j, hj, rfl, HT, HB⟩ := hrel
      by_cases hlt : j < N
      · obtain ⟨x, hx⟩ : ∃ x, l[j]? = some x := ⟨_, List.getElem?_eq_getElem (by have := HLN.out; omega)⟩
        obtain ⟨y, hy⟩ : ∃ y, k[j]? = some y := ⟨_, List.getElem?_eq_getElem (by have := HLK.out; omega)⟩
        obtain ⟨b1, o1, rfl, _, c1, c2⟩ := (H1.out _ HB.out).cell hx
        obtain ⟨b2, o2, rfl, _, d1, d2⟩ := (H2.out _ HB.out).cell hy
        rw [← Nat.add_assoc] at c2 d2
        have HNX := Lib.hid (take_eq_next HT.out hx hy)
        have HXK : Hid (x ≠ y → l ≠ k) := fun h e => h (by rw [e, hy] at hx; injection hx with hx; exact hx.symm)
        clear hx hy
        obtain ⟨x1, x2⟩ := x
        obtain ⟨y1, y2⟩ := y
        simp only [iF, iG] at c1 c2 d1 d2
        have hji : (j : Int) < (N : Int) := by omega
        have hrun := fun u => run_neqM x1 x2 y1 y2 u
        by_cases hxy : (x1, x2) = (y1, y2)
        · have HY := Lib.hid (HNX.out.2 hxy)
          have hv : (x1.toList == y1.toList && x2.toList == y2.toList) = true := infEq (x := (x1, x2)) (y := (y1, y2)) |>.2 hxy.symm
          rw [hv] at hrun
          clear hv hxy
          go_upto_region 6 with fail
          go_quiet (fail)
          go_wp2
          go_roundw
          case rel => exact ⟨j + 1, by omega, by go_num, HY.out, below_drawsP HB.out _⟩
          case measure => simp [intOf]; omega
        · have HY := Lib.hid (HXK.out hxy)
          have hv : (x1.toList == y1.toList && x2.toList == y2.toList) = false := by
            cases hc : (x1.toList == y1.toList && x2.toList == y2.toList) with
            | false => rfl
            | true => exact absurd (infEq (x := (x1, x2)) (y := (y1, y2)) |>.1 hc).symm hxy
          rw [hv] at hrun
          clear hv hxy
          go_upto_region 6 with fail
          go_quiet (fail)
          go_wp2
          go_ret
          exact ⟨by rw [decide_eq_false HY.out]; rfl, below_drawsP HB.out _⟩
      · obtain rfl : j = N := by omega
        have HE : Hid (l = k) := by
          show l = k
          have := HT.out
          rwa [List.take_of_length_le (by have := HLN.out; omega), List.take_of_length_le (by have := HLK.out; omega)] at this
        go_wp2
        go_ret
        exact ⟨by rw [decide_eq_true HE.out]; rfl, HB.out⟩
  · have hd : ((l.length : Int) != (k.length : Int)) = true := by
      have : ¬ (l.length : Int) = (k.length : Int) := by omega
      simpa using this
    have hd2 : ((l.length : Int) == (k.length : Int)) = false := by
      have : ¬ (l.length : Int) = (k.length : Int) := by omega
      simpa using this
    have HE : Hid (l ≠ k) := fun e => hne (by rw [e])
    clear hne
    go_enter Tryz.func44, Tryz.ntmps44
    go_wp2
    go_ret
    exact ⟨by rw [decide_eq_false HE.out]; rfl, Below.refl _ _⟩
theorem run_neqI (x1 x2 y1 y2 : ByteArray) (u : World) : (binOp .neq 100 (.agg #[.string x1, .string x2]) (.agg #[.string y1, .string y2])).run Tryz.prog u = .ok (.bool (!(x1.toList == y1.toList && x2.toList == y2.toList))) u := by
  have ht := Tryz.underlying100
  have hu : Tryz.prog.underlying 100 = some (.struct (Tryz.prog.fieldsOf 100)) := by unfold Program.fieldsOf; rw [ht]
  have hs : Tryz.prog.stoodInHeld 100 = false := by kernel_rfl
  rw [run_neq_struct, run_equalIn_agg u 9999 100 _ _ hu hs]
  simp only [Program.fieldsOf, ht]
  cases h1 : (x1.toList == y1.toList)
  · simp [Op.eqFields, part, h1, run_equalIn_string, Tryz.underlying9]
  · simp [Op.eqFields, part, h1, run_equalIn_string, Tryz.underlying9]
    by_cases h : x2.toList = y2.toList <;> simp [h]
set_option maxHeartbeats 4000000 in
set_option maxRecDepth 100000 in
theorem equalIG (p q : Option Addr) (n m c d : Nat) (l k : List Inf) (w : World) (h1 : P2At iF iG w p n c l) (h2 : P2At iF iG w q m d k) :
    Calls Tryz.prog 45 #[.slice p n c, .slice q m d] w fun e w' => e = .returned (.bool (decide (l = k))) ∧ Below w.heap.size w w' := by
  have hln := h1.len
  have hlm := h2.len
  have hbig := h1.big
  have hbig2 := h2.big
  subst hln hlm
  have H1 := Lib.hid (fun u (hu : Below w.heap.size w u) => h1.below hu)
  have H2 := Lib.hid (fun u (hu : Below w.heap.size w u) => h2.below hu)
  clear h1 h2
  by_cases hne : l.length = k.length
  · obtain ⟨N, hN⟩ : ∃ N, N = l.length := ⟨_, rfl⟩
    have hK : k.length = N := by omega
    rw [← hN] at H1 hbig ⊢
    rw [hK] at H2 hbig2 ⊢
    have HLN := Lib.hid hN
    have HLK := Lib.hid hK
    have hnn : ((N : Int) != (N : Int)) = false := by simp
    clear hN hK hne
    go_enter Tryz.func45, Tryz.ntmps45
    go_wp2
    go_loopw [13] (fun i wr => ∃ j : Nat, j ≤ N ∧ i = .int .i64 j ∧ Hid (l.take j = k.take j) ∧ Hid (Below w.heap.size w wr)) (fun i _ => N - (intOf i).toNat)
    case atStart => exact ⟨0, Nat.zero_le _, rfl, rfl, Below.refl _ _⟩
    case round =>
      obtain ⟨j, hj, rfl, HT, HB⟩ := hrel
      by_cases hlt : j < N
      · obtain ⟨x, hx⟩ : ∃ x, l[j]? = some x := ⟨_, List.getElem?_eq_getElem (by have := HLN.out; omega)⟩
        obtain ⟨y, hy⟩ : ∃ y, k[j]? = some y := ⟨_, List.getElem?_eq_getElem (by have := HLK.out; omega)⟩
        obtain ⟨b1, o1, rfl, _, c1, c2⟩ := (H1.out _ HB.out).cell hx
        obtain ⟨b2, o2, rfl, _, d1, d2⟩ := (H2.out _ HB.out).cell hy
        rw [← Nat.add_assoc] at c2 d2
        have HNX := Lib.hid (take_eq_next HT.out hx hy)
        have HXK : Hid (x ≠ y → l ≠ k) := fun h e => h (by rw [e, hy] at hx; injection hx with hx; exact hx.symm)
        clear hx hy
        obtain ⟨x1, x2⟩ := x
        obtain ⟨y1, y2⟩ := y
        simp only [iF, iG] at c1 c2 d1 d2
        have hji : (j : Int) < (N : Int) := by omega
        have hrun := fun u => run_neqI x1 x2 y1 y2 u
        by_cases hxy : (x1, x2) = (y1, y2)
        · have HY := Lib.hid (HNX.out.2 hxy)
          have hv : (x1.toList == y1.toList && x2.toList == y2.toList) = true := infEq (x := (x1, x2)) (y := (y1, y2)) |>.2 hxy.symm
          rw [hv] at hrun
          clear hv hxy
          go_upto_region 6 with fail
          go_quiet (fail)
          go_wp2
          go_roundw
          case rel => exact ⟨j + 1, by omega, by go_num, HY.out, below_drawsP HB.out _⟩
          case measure => simp [intOf]; omega
        · have HY := Lib.hid (HXK.out hxy)
          have hv : (x1.toList == y1.toList && x2.toList == y2.toList) = false := by
            cases hc : (x1.toList == y1.toList && x2.toList == y2.toList) with
            | false => rfl
            | true => exact absurd (infEq (x := (x1, x2)) (y := (y1, y2)) |>.1 hc).symm hxy
          rw [hv] at hrun
          clear hv hxy
          go_upto_region 6 with fail
          go_quiet (fail)
          go_wp2
          go_ret
          exact ⟨by rw [decide_eq_false HY.out]; rfl, below_drawsP HB.out _⟩
      · obtain rfl : j = N := by omega
        have HE : Hid (l = k) := by
          show l = k
          have := HT.out
          rwa [List.take_of_length_le (by have := HLN.out; omega), List.take_of_length_le (by have := HLK.out; omega)] at this
        go_wp2
        go_ret
        exact ⟨by rw [decide_eq_true HE.out]; rfl, HB.out⟩
  · have hd : ((l.length : Int) != (k.length : Int)) = true := by
      have : ¬ (l.length : Int) = (k.length : Int) := by omega
      simpa using this
    have hd2 : ((l.length : Int) == (k.length : Int)) = false := by
      have : ¬ (l.length : Int) = (k.length : Int) := by omega
      simpa using this
    have HE : Hid (l ≠ k) := fun e => hne (by rw [e])
    clear hne
    go_enter Tryz.func45, Tryz.ntmps45
    go_wp2
    go_ret
    exact ⟨by rw [decide_eq_false HE.out]; rfl, Below.refl _ _⟩
end Go.Proofs.YtoiolepengcagaaGreatDoor
namespace Go.Proofs.YtoiolepengcagaaGreatDoor
open Go.RowKit Go.Shelf Go.Maps
/-- a file in memory, as it reads -/
structure FileIn (w : World) (F : FileV) (pm : Option Addr) (nm cm : Nat) (pp : Option Addr) (np cp : Nat) (pi : Option Addr) (ni ci : Nat) (pr : Option Addr) (nr cr : Nat) (hl : List (Hd × Hd)) : Prop where
  ms : P2At mF mG w pm nm cm F.ms
  ph : NLw w pp np cp F.ph
  inf : P2At iF iG w pi ni ci F.inf
  rs : RulesIn w pr nr cr hl
  same : hl.map rl = F.rs
section
variable {w w' : World} {F : FileV} {pm pp pi pr : Option Addr} {nm cm np cp ni ci nr cr : Nat} {hl : List (Hd × Hd)}
theorem RulesIn.belowF {p : Option Addr} {n c : Nat} (h : RulesIn w p n c hl) (hb : Below w.heap.size w w') : RulesIn w' p n c hl :=
  ⟨h.at_.below hb, fun x hx => ⟨(h.ok x hx).1.below hb, (h.ok x hx).2.below hb⟩, h.cap⟩
theorem FileIn.below (h : FileIn w F pm nm cm pp np cp pi ni ci pr nr cr hl) (hb : Below w.heap.size w w') : FileIn w' F pm nm cm pp np cp pi ni ci pr nr cr hl :=
  ⟨h.ms.below hb, h.ph.below hb, h.inf.below hb, h.rs.belowF hb, h.same⟩
end
def hdRV (r : RV) : Hd × Hd := (⟨some ⟨r.g1, 0, none⟩, r.T.length, r.T.length, r.T⟩, ⟨some ⟨r.g2, 0, none⟩, r.N.length, r.N.length, r.N⟩)
theorem p2_mapF {α β : Type} {f g : α → Value} {f' g' : β → Value} (φ : α → β) (hf : ∀ x, f' (φ x) = f x) (hg : ∀ x, g' (φ x) = g x) {w : World} {p : Option Addr} {n c : Nat} {l : List α} (h : P2At f g w p n c l) : P2At f' g' w p n c (l.map φ) := by
  refine ⟨by rw [List.length_map]; exact h.len, fun h0 => ?_, h.big⟩
  obtain ⟨b, o, e, h1, h2⟩ := h.at_ h0
  refine ⟨b, o, e, h1, fun k x hx => ?_⟩
  rw [List.getElem?_map, Option.map_eq_some_iff] at hx
  obtain ⟨y, hy, rfl⟩ := hx
  rw [hf, hg]
  exact h2 k y hy
theorem FSt.fin {base B : Nat} {F : FileV} {s : FV} {rl' : List RV} {w : World} (h : FSt base B F s rl' [] w) (h1 : F.ms.length ≤ 1000000) (h2 : F.ph.length ≤ 1000000) (h3 : F.inf.length ≤ 1000000) (h4 : F.rs.length ≤ 1000000) :
    FileIn w F s.pm F.ms.length s.cm s.pp F.ph.length s.cp s.pi F.inf.length s.ci s.pr F.rs.length s.cr (rl'.map hdRV) := by
  refine ⟨(P2At.own h.ms (by omega)), ?_, P2At.own h.inf (by omega), ⟨p2_mapF hdRV (fun _ => rfl) (fun _ => rfl) (P2At.own h.rs (by omega)), fun x hx => ?_, ?_⟩, ?_⟩
  · exact (NL_own h.ph (fun x hx => by have := h.sp x hx; omega) (by omega)).weak
  · obtain ⟨r, hr, rfl⟩ := List.mem_map.1 hx
    obtain ⟨k1, k2, _⟩ := h.own r (by rw [List.append_nil]; exact hr)
    exact ⟨⟨k1.nl.weak, Nat.le_refl _⟩, ⟨k2.nl.weak, Nat.le_refl _⟩⟩
  · rcases h.rs.2 with ⟨hv, hn⟩ | ⟨g, cap, cur, hv, _, _, hc, _⟩
    · omega
    · have hv' : Value.slice s.pr F.rs.length s.cr = .slice (some ⟨g, 0, none⟩) F.rs.length cap := hv
      injection hv' with _ _ e2
      omega
  · rw [List.map_map, ← h.same]
    rfl
def mB (m : Mac) : Inf := (txt m.1, txt m.2)
theorem mB_inj {l k : List Mac} : l.map mB = k.map mB ↔ l = k := by
  constructor
  · intro h
    have key : ∀ l : List Mac, (l.map mB).map (fun x => (x.1.data.toList, x.2.data.toList)) = l := fun l => by
      rw [List.map_map]
      have : (fun x : Inf => (x.1.data.toList, x.2.data.toList)) ∘ mB = id := by
        funext m
        show ((txt m.1).data.toList, (txt m.2).data.toList) = m
        rw [txt_list, txt_list]
      rw [this, List.map_id]
    rw [← key l, ← key k, h]
  · rintro rfl; rfl
set_option maxHeartbeats 4000000 in
theorem sameFile1_ok (x y : Hd × Hd) (w : World) (hx : x.1.ok w ∧ x.2.ok w) (hy : y.1.ok w ∧ y.2.ok w) :
    Calls Tryz.prog 47 #[.agg #[x.1.v, x.2.v], .agg #[y.1.v, y.2.v]] w fun e w' => e = .returned (.bool (decide (rl x = rl y))) ∧ Below w.heap.size w w' := by
  obtain ⟨⟨p1, n1, k1, T1⟩, ⟨p2, n2, k2, T2⟩⟩ := x
  obtain ⟨⟨q1, m1, l1, S1⟩, ⟨q2, m2, l2, S2⟩⟩ := y
  obtain ⟨⟨a1, _⟩, ⟨a2, _⟩⟩ := hx
  obtain ⟨⟨b1, _⟩, ⟨b2, _⟩⟩ := hy
  simp only at a1 a2 b1 b2
  have hb : ∀ o1 o2, Below w.heap.size w ((w.alloc o1).alloc o2) := fun o1 o2 => ((Below.refl _ _).alloc (Nat.le_refl _) o1).alloc (by simp) o2
  have HB := Lib.hid hb
  have HQ1 := Lib.hid (fun o1 o2 => nlw_equalG (a1.below (hb o1 o2)) (b1.below (hb o1 o2)))
  have HQ2 := Lib.hid (fun o1 o2 k => nlw_equalG ((a2.below (hb o1 o2)).drew k) ((b2.below (hb o1 o2)).drew k))
  clear hb a1 a2 b1 b2
  show Calls Tryz.prog 47 #[.agg #[.slice p1 n1 k1, .slice p2 n2 k2], .agg #[.slice q1 m1 l1, .slice q2 m2 l2]] w fun e w' => e = .returned (.bool (decide ((T1, T2) = (S1, S2)))) ∧ Below w.heap.size w w'
  by_cases h1 : T1 = S1
  · rw [decide_eq_true h1] at HQ1
    have hd : decide ((T1, T2) = (S1, S2)) = decide (T2 = S2) := by rw [h1]; simp
    rw [hd]
    clear h1 hd
    generalize decide (T2 = S2) = bv at *
    go_enter Tryz.func47, Tryz.ntmps47
    go_wp2_with (go_at_call 10; (first
      | (have hq := HQ1.out; clear HQ1; refine (hq _ _).mono ?_; clear hq; rintro e w1 ⟨rfl, k1, rfl⟩)
      | (refine (HQ2.out _ _ _).mono ?_; rintro e w2 ⟨rfl, k2, rfl⟩)))
    go_ret
    exact ⟨rfl, below_drawsP (HB.out _ _) _⟩
  · rw [decide_eq_false h1] at HQ1
    have hd : decide ((T1, T2) = (S1, S2)) = false := decide_eq_false (fun e => h1 (Prod.mk.inj e).1)
    rw [hd]
    clear h1 hd
    go_enter Tryz.func47, Tryz.ntmps47
    go_wp2_with (go_at_call 10; refine (HQ1.out _ _).mono ?_; rintro e w1 ⟨rfl, k1, rfl⟩)
    go_ret
    exact ⟨rfl, below_drawsP (HB.out _ _) _⟩
set_option maxHeartbeats 4000000 in
set_option maxRecDepth 100000 in
theorem sameFileF_ok (p q : Option Addr) (n m c d : Nat) (l k : List (Hd × Hd)) (w : World) (h1 : RulesIn w p n c l) (h2 : RulesIn w q m d k) :
    Calls Tryz.prog 46 #[.slice p n c, .slice q m d, .func (.func 47) #[] #[]] w fun e w' => (∃ r : Bool, e = .returned (.bool r) ∧ (r = true ↔ l.map rl = k.map rl)) ∧ Below w.heap.size w w' := by
  have hln := h1.at_.len
  have hlm := h2.at_.len
  have hbig := h1.at_.big
  have hbig2 := h2.at_.big
  subst hln hlm
  have H1 := Lib.hid (fun u (hu : Below w.heap.size w u) => h1.belowF hu)
  have H2 := Lib.hid (fun u (hu : Below w.heap.size w u) => h2.belowF hu)
  clear h1 h2
  by_cases hne : l.length = k.length
  · obtain ⟨N, hN⟩ : ∃ N, N = l.length := ⟨_, rfl⟩
    have hK : k.length = N := by omega
    rw [← hN] at H1 hbig ⊢
    rw [hK] at H2 hbig2 ⊢
    have HLN := Lib.hid hN
    have HLK := Lib.hid hK
    have hnn : ((N : Int) != (N : Int)) = false := by simp
    clear hN hK hne
    go_enter Tryz.func46, Tryz.ntmps46
    go_wp2
    go_loopw [17] (fun i wr => ∃ j : Nat, j ≤ N ∧ i = .int .i64 j ∧ Hid ((l.map rl).take j = (k.map rl).take j) ∧ Hid (Below w.heap.size w wr)) (fun i _ => N - (intOf i).toNat)
    case atStart => exact ⟨0, Nat.zero_le _, rfl, rfl, Below.refl _ _⟩
    case round =>
      obtain ⟨j, hj, rfl, HT, HB⟩ := hrel
      by_cases hlt : j < N
      · obtain ⟨x, hx⟩ : ∃ x, l[j]? = some x := ⟨_, List.getElem?_eq_getElem (by have := HLN.out; omega)⟩
        obtain ⟨y, hy⟩ : ∃ y, k[j]? = some y := ⟨_, List.getElem?_eq_getElem (by have := HLK.out; omega)⟩
        obtain ⟨b1, o1, rfl, hb1, c1, c2⟩ := (H1.out _ HB.out).at_.cell hx
        obtain ⟨b2, o2, rfl, hb2, d1, d2⟩ := (H2.out _ HB.out).at_.cell hy
        rw [← Nat.add_assoc] at c2 d2
        have hbb : b2 < wr.heap.size := by have := HB.out.size; omega
        have hd1 : ∀ o, (wr.alloc o).cell? ⟨b2, o2 + j * 2, none⟩ = some (rF y) := fun o => (World.cell?_alloc_lt _ _ _ hbb).trans d1
        have hd2 : ∀ o, (wr.alloc o).cell? ⟨b2, o2 + j * 2 + 1, none⟩ = some (rG y) := fun o => (World.cell?_alloc_lt _ _ _ hbb).trans d2
        have HNX := Lib.hid (take_eq_next HT.out (x := rl x) (y := rl y) (by rw [List.getElem?_map, hx]; rfl) (by rw [List.getElem?_map, hy]; rfl))
        have HXK : Hid (rl x ≠ rl y → l.map rl ≠ k.map rl) := fun h e => h (by
          have h1 : (l.map rl)[j]? = some (rl x) := by rw [List.getElem?_map, hx]; rfl
          have h2 : (k.map rl)[j]? = some (rl y) := by rw [List.getElem?_map, hy]; rfl
          rw [e, h2] at h1; injection h1 with h1; exact h1.symm)
        have HAL : Hid (∀ o o2, Below wr.heap.size wr ((wr.alloc o).alloc o2)) := fun o o2 => ((Below.refl _ _).alloc (Nat.le_refl _) o).alloc (by simp) o2
        have HCALL := Lib.hid (fun o o2 => sameFile1_ok x y ((wr.alloc o).alloc o2) ((H1.out _ (HB.out.trans ((HAL.out o o2).mono HB.out.size))).ok x (List.mem_of_getElem? hx)) ((H2.out _ (HB.out.trans ((HAL.out o o2).mono HB.out.size))).ok y (List.mem_of_getElem? hy)))
        clear hx hy d1 d2
        obtain ⟨⟨p1, n1, k1, T1⟩, ⟨p2, n2, k2, T2⟩⟩ := x
        obtain ⟨⟨q1, m1, l1, S1⟩, ⟨q2, m2, l2, S2⟩⟩ := y
        simp only [rF, rG, Hd.v] at c1 c2 hd1 hd2 HCALL
        have hji : (j : Int) < (N : Int) := by omega
        generalize hrx : rl ((⟨p1, n1, k1, T1⟩ : Hd), (⟨p2, n2, k2, T2⟩ : Hd)) = rx at *
        generalize hry : rl ((⟨q1, m1, l1, S1⟩ : Hd), (⟨q2, m2, l2, S2⟩ : Hd)) = ry at *
        clear hrx hry
        by_cases hxy : rx = ry
        · have HY := Lib.hid (HNX.out.2 hxy)
          rw [decide_eq_true hxy] at HCALL
          clear hxy HNX HXK
          go_wp2_with (go_at_call 47; refine (HCALL.out _ _).mono ?_; rintro e w5 ⟨rfl, hb5⟩; have HB5 := Lib.hid (HB.out.trans (((HAL.out _ _).trans (hb5.mono (HAL.out _ _).size)).mono HB.out.size)); clear hb5)
          go_roundw
          case rel => exact ⟨j + 1, by omega, by go_num, HY.out, HB5.out⟩
          case measure => simp [intOf]; omega
        · have HY := Lib.hid (HXK.out hxy)
          rw [decide_eq_false hxy] at HCALL
          clear hxy HNX HXK
          go_wp2_with (go_at_call 47; refine (HCALL.out _ _).mono ?_; rintro e w5 ⟨rfl, hb5⟩; have HB5 := Lib.hid (HB.out.trans (((HAL.out _ _).trans (hb5.mono (HAL.out _ _).size)).mono HB.out.size)); clear hb5)
          go_ret
          exact ⟨⟨false, rfl, ⟨fun e => (by cases e), fun e => absurd e HY.out⟩⟩, HB5.out⟩
      · obtain rfl : j = N := by omega
        have HE : Hid (l.map rl = k.map rl) := by
          show _ = _
          have := HT.out
          rwa [List.take_of_length_le (by rw [List.length_map]; have := HLN.out; omega), List.take_of_length_le (by rw [List.length_map]; have := HLK.out; omega)] at this
        go_wp2
        go_ret
        exact ⟨⟨true, rfl, ⟨fun _ => HE.out, fun _ => rfl⟩⟩, HB.out⟩
  · have hd : ((l.length : Int) != (k.length : Int)) = true := by
      have : ¬ (l.length : Int) = (k.length : Int) := by omega
      simpa using this
    have hd2 : ((l.length : Int) == (k.length : Int)) = false := by
      have : ¬ (l.length : Int) = (k.length : Int) := by omega
      simpa using this
    have HE : Hid (l.map rl ≠ k.map rl) := fun e => hne (by have := congrArg List.length e; rwa [List.length_map, List.length_map] at this)
    clear hne
    go_enter Tryz.func46, Tryz.ntmps46
    go_wp2
    go_ret
    exact ⟨⟨false, rfl, ⟨fun e => (by cases e), fun e => absurd e HE.out⟩⟩, Below.refl _ _⟩
set_option maxHeartbeats 8000000 in
set_option maxRecDepth 100000 in
theorem sameFile_ok (F G : FileV) (w : World) (pm pp pi pr qm qp qi qr : Option Addr) (nm cm np cp ni ci nr cr am bm ap bp ai bi ar br : Nat) (hl kl : List (Hd × Hd))
    (h1 : FileIn w F pm nm cm pp np cp pi ni ci pr nr cr hl) (h2 : FileIn w G qm am bm qp ap bp qi ai bi qr ar br kl) :
    Calls Tryz.prog 19 #[.agg #[.slice pm nm cm, .slice pp np cp, .slice pi ni ci, .slice pr nr cr], .agg #[.slice qm am bm, .slice qp ap bp, .slice qi ai bi, .slice qr ar br]] w fun e w' => (∃ r : Bool, e = .returned (.bool r) ∧ (r = true ↔ F = G)) ∧ Below w.heap.size w w' := by
  obtain ⟨W0, hW0⟩ : ∃ W0, W0 = w.alloc (.cells #[.slice pm nm cm, .slice pp np cp, .slice pi ni ci, .slice pr nr cr] 43) := ⟨_, rfl⟩
  have hb0 : Below w.heap.size w W0 := by rw [hW0]; exact rb1w _ _
  have hs0 : W0.heap.size = w.heap.size + 1 := by rw [hW0]; simp
  have hz0 : W0.heap[w.heap.size]? = some (.cells #[.slice pm nm cm, .slice pp np cp, .slice pi ni ci, .slice pr nr cr] 43 (0, 0)) := by rw [hW0]; exact rb_new w _
  obtain ⟨W, hW⟩ : ∃ W, W = W0.alloc (.cells #[.slice qm am bm, .slice qp ap bp, .slice qi ai bi, .slice qr ar br] 43) := ⟨_, rfl⟩
  have hb1 : Below W0.heap.size W0 W := by rw [hW]; exact rb1w _ _
  have hs1 : W.heap.size = W0.heap.size + 1 := by rw [hW]; simp
  have hz1 : W.heap[W0.heap.size]? = some (.cells #[.slice qm am bm, .slice qp ap bp, .slice qi ai bi, .slice qr ar br] 43 (0, 0)) := by rw [hW]; exact rb_new W0 _
  have hbW := hb0.trans (hb1.mono hb0.size)
  have HC : Hid (∀ u : World, Below W.heap.size W u → ((u.cell? ⟨w.heap.size, 0, none⟩ = some (.slice pm nm cm) ∧ u.cell? ⟨w.heap.size, 1, none⟩ = some (.slice pp np cp) ∧ u.cell? ⟨w.heap.size, 2, none⟩ = some (.slice pi ni ci) ∧ u.cell? ⟨w.heap.size, 3, none⟩ = some (.slice pr nr cr)) ∧
      (u.cell? ⟨w.heap.size + 1, 0, none⟩ = some (.slice qm am bm) ∧ u.cell? ⟨w.heap.size + 1, 1, none⟩ = some (.slice qp ap bp) ∧ u.cell? ⟨w.heap.size + 1, 2, none⟩ = some (.slice qi ai bi) ∧ u.cell? ⟨w.heap.size + 1, 3, none⟩ = some (.slice qr ar br))) ∧
      Below w.heap.size w u ∧ FileIn u F pm nm cm pp np cp pi ni ci pr nr cr hl ∧ FileIn u G qm am bm qp ap bp qi ai bi qr ar br kl) := by
    show ∀ u : World, _
    intro u hu
    have hbu : Below w.heap.size w u := hbW.trans (hu.mono (by omega))
    have g0 : u.heap[w.heap.size]? = some (.cells #[.slice pm nm cm, .slice pp np cp, .slice pi ni ci, .slice pr nr cr] 43 (0, 0)) := by rw [hu.block _ (by omega), hb1.block _ (by omega)]; exact hz0
    have g1 : u.heap[w.heap.size + 1]? = some (.cells #[.slice qm am bm, .slice qp ap bp, .slice qi ai bi, .slice qr ar br] 43 (0, 0)) := by rw [← hs0, hu.block _ (by omega)]; exact hz1
    exact ⟨⟨(boxF g0).1, (boxF g1).1⟩, hbu, h1.below hbu, h2.below hbu⟩
  have hmi : F.ms = G.ms ↔ F.ms.map mB = G.ms.map mB := mB_inj.symm
  have HS1 := Lib.hid h1.same
  have HS2 := Lib.hid h2.same
  have HE1 : Hid (∀ u : World, Below W.heap.size W u → Calls Tryz.prog 44 #[.slice pm nm cm, .slice qm am bm] u fun e w' => e = .returned (.bool (decide (F.ms.map mB = G.ms.map mB))) ∧ Below u.heap.size u w') := by
    show ∀ u : World, _
    intro u hu
    obtain ⟨_, _, k1, k2⟩ := HC.out u hu
    exact equalMG pm qm nm am cm bm _ _ u (p2_mapF mB (fun _ => rfl) (fun _ => rfl) k1.ms) (p2_mapF mB (fun _ => rfl) (fun _ => rfl) k2.ms)
  have HE2 : Hid (∀ u : World, Below W.heap.size W u → Calls Tryz.prog 10 #[.slice pp np cp, .slice qp ap bp] u fun e w' => e = .returned (.bool (decide (F.ph = G.ph))) ∧ Below u.heap.size u w') := by
    show ∀ u : World, _
    intro u hu
    obtain ⟨_, _, k1, k2⟩ := HC.out u hu
    refine (nlw_equalG k1.ph k2.ph).mono ?_
    rintro e w' ⟨he, k, rfl⟩
    exact ⟨he, below_drawsP (Below.refl _ _) k⟩
  have HE3 : Hid (∀ u : World, Below W.heap.size W u → Calls Tryz.prog 45 #[.slice pi ni ci, .slice qi ai bi] u fun e w' => e = .returned (.bool (decide (F.inf = G.inf))) ∧ Below u.heap.size u w') := by
    show ∀ u : World, _
    intro u hu
    obtain ⟨_, _, k1, k2⟩ := HC.out u hu
    exact equalIG pi qi ni ai ci bi _ _ u k1.inf k2.inf
  have HE4 : Hid (∀ u : World, Below W.heap.size W u → Calls Tryz.prog 46 #[.slice pr nr cr, .slice qr ar br, .func (.func 47) #[] #[]] u fun e w' => (∃ r : Bool, e = .returned (.bool r) ∧ (r = true ↔ F.rs = G.rs)) ∧ Below u.heap.size u w') := by
    show ∀ u : World, _
    intro u hu
    obtain ⟨_, _, k1, k2⟩ := HC.out u hu
    rw [← HS1.out, ← HS2.out]
    exact sameFileF_ok pr qr nr ar cr br _ _ u k1.rs k2.rs
  have HFI : Hid (∀ u : World, Below W.heap.size W u → Below w.heap.size w u) := fun u hu => (HC.out u hu).2.1
  have HIFF : Hid (F = G ↔ F.ms.map mB = G.ms.map mB ∧ F.ph = G.ph ∧ F.inf = G.inf ∧ F.rs = G.rs) := by
    show _ ↔ _
    rw [← hmi]
    constructor
    · rintro rfl; exact ⟨rfl, rfl, rfl, rfl⟩
    · obtain ⟨a1, a2, a3, a4⟩ := F
      obtain ⟨b1, b2, b3, b4⟩ := G
      rintro ⟨rfl, rfl, rfl, rfl⟩; rfl
  obtain ⟨⟨⟨c0, c1, c2, c3⟩, ⟨d0, d1, d2, d3⟩⟩, _⟩ := HC.out W (Below.refl _ _)
  clear hb0 hs0 hz0 hb1 hs1 hz1 hbW h1 h2 hmi
  have HBR : Hid (Below W.heap.size W W) := Below.refl _ _
  by_cases e1 : F.ms.map mB = G.ms.map mB
  · rw [decide_eq_true e1] at HE1
    have E1 := Lib.hid e1
    clear e1
    by_cases e2 : F.ph = G.ph
    · rw [decide_eq_true e2] at HE2
      have E2 := Lib.hid e2
      clear e2
      by_cases e3 : F.inf = G.inf
      · rw [decide_eq_true e3] at HE3
        have E3 := Lib.hid e3
        clear e3
        go_enter Tryz.func19, Tryz.ntmps19
        go_upto_region 1 with fail
        rw [← hW0, ← hW]
        clear hW hW0
        go_wp2_with (first | (go_at_call 44; refine (HE1.out _ HBR.out).mono ?_; rintro e u1 ⟨rfl, hb⟩; have HB1 := Lib.hid (HBR.out.trans (hb.mono HBR.out.size)); obtain ⟨⟨⟨x0, x1, x2, x3⟩, ⟨y0, y1, y2, y3⟩⟩, _⟩ := HC.out u1 HB1.out; clear hb) | (go_at_call 10; refine (HE2.out _ HB1.out).mono ?_; rintro e u2 ⟨rfl, hb⟩; have HB2 := Lib.hid (HB1.out.trans (hb.mono HB1.out.size)); obtain ⟨⟨⟨x0, x1, x2, x3⟩, ⟨y0, y1, y2, y3⟩⟩, _⟩ := HC.out u2 HB2.out; clear hb) | (go_at_call 45; refine (HE3.out _ HB2.out).mono ?_; rintro e u3 ⟨rfl, hb⟩; have HB3 := Lib.hid (HB2.out.trans (hb.mono HB2.out.size)); obtain ⟨⟨⟨x0, x1, x2, x3⟩, ⟨y0, y1, y2, y3⟩⟩, _⟩ := HC.out u3 HB3.out; clear hb) | (go_at_call 46; refine (HE4.out _ HB3.out).mono ?_; rintro e u4 ⟨⟨r, rfl, hr⟩, hb⟩; have HR := Lib.hid hr; have HB4 := Lib.hid (HB3.out.trans (hb.mono HB3.out.size)); clear hb hr))
        go_ret
        exact ⟨⟨r, rfl, by rw [HR.out, HIFF.out]; exact ⟨fun h => ⟨E1.out, E2.out, E3.out, h⟩, fun h => h.2.2.2⟩⟩, HFI.out _ HB4.out⟩
      · rw [decide_eq_false e3] at HE3
        have E3 := Lib.hid e3
        clear e3
        go_enter Tryz.func19, Tryz.ntmps19
        go_upto_region 1 with fail
        rw [← hW0, ← hW]
        clear hW hW0
        go_wp2_with (first | (go_at_call 44; refine (HE1.out _ HBR.out).mono ?_; rintro e u1 ⟨rfl, hb⟩; have HB1 := Lib.hid (HBR.out.trans (hb.mono HBR.out.size)); obtain ⟨⟨⟨x0, x1, x2, x3⟩, ⟨y0, y1, y2, y3⟩⟩, _⟩ := HC.out u1 HB1.out; clear hb) | (go_at_call 10; refine (HE2.out _ HB1.out).mono ?_; rintro e u2 ⟨rfl, hb⟩; have HB2 := Lib.hid (HB1.out.trans (hb.mono HB1.out.size)); obtain ⟨⟨⟨x0, x1, x2, x3⟩, ⟨y0, y1, y2, y3⟩⟩, _⟩ := HC.out u2 HB2.out; clear hb) | (go_at_call 45; refine (HE3.out _ HB2.out).mono ?_; rintro e u3 ⟨rfl, hb⟩; have HB3 := Lib.hid (HB2.out.trans (hb.mono HB2.out.size)); obtain ⟨⟨⟨x0, x1, x2, x3⟩, ⟨y0, y1, y2, y3⟩⟩, _⟩ := HC.out u3 HB3.out; clear hb))
        go_ret
        exact ⟨⟨false, rfl, ⟨fun e => (by cases e), fun e => absurd (by have h := HIFF.out.1 e; exact h.2.2.1) E3.out⟩⟩, HFI.out _ HB3.out⟩
    · rw [decide_eq_false e2] at HE2
      have E2 := Lib.hid e2
      clear e2
      go_enter Tryz.func19, Tryz.ntmps19
      go_upto_region 1 with fail
      rw [← hW0, ← hW]
      clear hW hW0
      go_wp2_with (first | (go_at_call 44; refine (HE1.out _ HBR.out).mono ?_; rintro e u1 ⟨rfl, hb⟩; have HB1 := Lib.hid (HBR.out.trans (hb.mono HBR.out.size)); obtain ⟨⟨⟨x0, x1, x2, x3⟩, ⟨y0, y1, y2, y3⟩⟩, _⟩ := HC.out u1 HB1.out; clear hb) | (go_at_call 10; refine (HE2.out _ HB1.out).mono ?_; rintro e u2 ⟨rfl, hb⟩; have HB2 := Lib.hid (HB1.out.trans (hb.mono HB1.out.size)); obtain ⟨⟨⟨x0, x1, x2, x3⟩, ⟨y0, y1, y2, y3⟩⟩, _⟩ := HC.out u2 HB2.out; clear hb))
      go_ret
      exact ⟨⟨false, rfl, ⟨fun e => (by cases e), fun e => absurd (by have h := HIFF.out.1 e; exact h.2.1) E2.out⟩⟩, HFI.out _ HB2.out⟩
  · rw [decide_eq_false e1] at HE1
    have E1 := Lib.hid e1
    clear e1
    go_enter Tryz.func19, Tryz.ntmps19
    go_upto_region 1 with fail
    rw [← hW0, ← hW]
    clear hW hW0
    go_wp2_with (first | (go_at_call 44; refine (HE1.out _ HBR.out).mono ?_; rintro e u1 ⟨rfl, hb⟩; have HB1 := Lib.hid (HBR.out.trans (hb.mono HBR.out.size)); obtain ⟨⟨⟨x0, x1, x2, x3⟩, ⟨y0, y1, y2, y3⟩⟩, _⟩ := HC.out u1 HB1.out; clear hb))
    go_ret
    exact ⟨⟨false, rfl, ⟨fun e => (by cases e), fun e => absurd (by have h := HIFF.out.1 e; exact h.1) E1.out⟩⟩, HFI.out _ HB1.out⟩
end Go.Proofs.YtoiolepengcagaaGreatDoor
namespace Go.Proofs.YtoiolepengcagaaGreatDoor
open Go.RowKit Go.Shelf Go.Maps
set_option maxHeartbeats 4000000 in
theorem fsame1_ok (x y : Hd × Hd) (w : World) (hx : x.1.ok w ∧ x.2.ok w) (hy : y.1.ok w ∧ y.2.ok w) :
    Calls Tryz.prog 82 #[.agg #[x.1.v, x.2.v], .agg #[y.1.v, y.2.v]] w fun e w' => e = .returned (.bool (decide (rl x = rl y))) ∧ Below w.heap.size w w' := by
  obtain ⟨⟨p1, n1, k1, T1⟩, ⟨p2, n2, k2, T2⟩⟩ := x
  obtain ⟨⟨q1, m1, l1, S1⟩, ⟨q2, m2, l2, S2⟩⟩ := y
  obtain ⟨⟨a1, _⟩, ⟨a2, _⟩⟩ := hx
  obtain ⟨⟨b1, _⟩, ⟨b2, _⟩⟩ := hy
  simp only at a1 a2 b1 b2
  have hb : ∀ o1 o2, Below w.heap.size w ((w.alloc o1).alloc o2) := fun o1 o2 => ((Below.refl _ _).alloc (Nat.le_refl _) o1).alloc (by simp) o2
  have HB := Lib.hid hb
  have HQ1 := Lib.hid (fun o1 o2 => nlw_equalG (a1.below (hb o1 o2)) (b1.below (hb o1 o2)))
  have HQ2 := Lib.hid (fun o1 o2 k => nlw_equalG ((a2.below (hb o1 o2)).drew k) ((b2.below (hb o1 o2)).drew k))
  clear hb a1 a2 b1 b2
  show Calls Tryz.prog 82 #[.agg #[.slice p1 n1 k1, .slice p2 n2 k2], .agg #[.slice q1 m1 l1, .slice q2 m2 l2]] w fun e w' => e = .returned (.bool (decide ((T1, T2) = (S1, S2)))) ∧ Below w.heap.size w w'
  by_cases h1 : T1 = S1
  · rw [decide_eq_true h1] at HQ1
    have hd : decide ((T1, T2) = (S1, S2)) = decide (T2 = S2) := by rw [h1]; simp
    rw [hd]
    clear h1 hd
    generalize decide (T2 = S2) = bv at *
    go_enter Tryz.func82, Tryz.ntmps82
    go_wp2_with (go_at_call 10; (first
      | (have hq := HQ1.out; clear HQ1; refine (hq _ _).mono ?_; clear hq; rintro e w1 ⟨rfl, k1, rfl⟩)
      | (refine (HQ2.out _ _ _).mono ?_; rintro e w2 ⟨rfl, k2, rfl⟩)))
    go_ret
    exact ⟨rfl, below_drawsP (HB.out _ _) _⟩
  · rw [decide_eq_false h1] at HQ1
    have hd : decide ((T1, T2) = (S1, S2)) = false := decide_eq_false (fun e => h1 (Prod.mk.inj e).1)
    rw [hd]
    clear h1 hd
    go_enter Tryz.func82, Tryz.ntmps82
    go_wp2_with (go_at_call 10; refine (HQ1.out _ _).mono ?_; rintro e w1 ⟨rfl, k1, rfl⟩)
    go_ret
    exact ⟨rfl, below_drawsP (HB.out _ _) _⟩
set_option maxHeartbeats 4000000 in
set_option maxRecDepth 100000 in
theorem fsameF_ok (p q : Option Addr) (n m c d : Nat) (l k : List (Hd × Hd)) (w : World) (h1 : RulesIn w p n c l) (h2 : RulesIn w q m d k) :
    Calls Tryz.prog 46 #[.slice p n c, .slice q m d, .func (.func 82) #[] #[]] w fun e w' => (∃ r : Bool, e = .returned (.bool r) ∧ (r = true ↔ l.map rl = k.map rl)) ∧ Below w.heap.size w w' := by
  have hln := h1.at_.len
  have hlm := h2.at_.len
  have hbig := h1.at_.big
  have hbig2 := h2.at_.big
  subst hln hlm
  have H1 := Lib.hid (fun u (hu : Below w.heap.size w u) => h1.belowF hu)
  have H2 := Lib.hid (fun u (hu : Below w.heap.size w u) => h2.belowF hu)
  clear h1 h2
  by_cases hne : l.length = k.length
  · obtain ⟨N, hN⟩ : ∃ N, N = l.length := ⟨_, rfl⟩
    have hK : k.length = N := by omega
    rw [← hN] at H1 hbig ⊢
    rw [hK] at H2 hbig2 ⊢
    have HLN := Lib.hid hN
    have HLK := Lib.hid hK
    have hnn : ((N : Int) != (N : Int)) = false := by simp
    clear hN hK hne
    go_enter Tryz.func46, Tryz.ntmps46
    go_wp2
    go_loopw [17] (fun i wr => ∃ j : Nat, j ≤ N ∧ i = .int .i64 j ∧ Hid ((l.map rl).take j = (k.map rl).take j) ∧ Hid (Below w.heap.size w wr)) (fun i _ => N - (intOf i).toNat)
    case atStart => exact ⟨0, Nat.zero_le _, rfl, rfl, Below.refl _ _⟩
    case round =>
      obtain ⟨j, hj, rfl, HT, HB⟩ := hrel
      by_cases hlt : j < N
      · obtain ⟨x, hx⟩ : ∃ x, l[j]? = some x := ⟨_, List.getElem?_eq_getElem (by have := HLN.out; omega)⟩
        obtain ⟨y, hy⟩ : ∃ y, k[j]? = some y := ⟨_, List.getElem?_eq_getElem (by have := HLK.out; omega)⟩
        obtain ⟨b1, o1, rfl, hb1, c1, c2⟩ := (H1.out _ HB.out).at_.cell hx
        obtain ⟨b2, o2, rfl, hb2, d1, d2⟩ := (H2.out _ HB.out).at_.cell hy
        rw [← Nat.add_assoc] at c2 d2
        have hbb : b2 < wr.heap.size := by have := HB.out.size; omega
        have hd1 : ∀ o, (wr.alloc o).cell? ⟨b2, o2 + j * 2, none⟩ = some (rF y) := fun o => (World.cell?_alloc_lt _ _ _ hbb).trans d1
        have hd2 : ∀ o, (wr.alloc o).cell? ⟨b2, o2 + j * 2 + 1, none⟩ = some (rG y) := fun o => (World.cell?_alloc_lt _ _ _ hbb).trans d2
        have HNX := Lib.hid (take_eq_next HT.out (x := rl x) (y := rl y) (by rw [List.getElem?_map, hx]; rfl) (by rw [List.getElem?_map, hy]; rfl))
        have HXK : Hid (rl x ≠ rl y → l.map rl ≠ k.map rl) := fun h e => h (by
          have h1 : (l.map rl)[j]? = some (rl x) := by rw [List.getElem?_map, hx]; rfl
          have h2 : (k.map rl)[j]? = some (rl y) := by rw [List.getElem?_map, hy]; rfl
          rw [e, h2] at h1; injection h1 with h1; exact h1.symm)
        have HAL : Hid (∀ o o2, Below wr.heap.size wr ((wr.alloc o).alloc o2)) := fun o o2 => ((Below.refl _ _).alloc (Nat.le_refl _) o).alloc (by simp) o2
        have HCALL := Lib.hid (fun o o2 => fsame1_ok x y ((wr.alloc o).alloc o2) ((H1.out _ (HB.out.trans ((HAL.out o o2).mono HB.out.size))).ok x (List.mem_of_getElem? hx)) ((H2.out _ (HB.out.trans ((HAL.out o o2).mono HB.out.size))).ok y (List.mem_of_getElem? hy)))
        clear hx hy d1 d2
        obtain ⟨⟨p1, n1, k1, T1⟩, ⟨p2, n2, k2, T2⟩⟩ := x
        obtain ⟨⟨q1, m1, l1, S1⟩, ⟨q2, m2, l2, S2⟩⟩ := y
        simp only [rF, rG, Hd.v] at c1 c2 hd1 hd2 HCALL
        have hji : (j : Int) < (N : Int) := by omega
        generalize hrx : rl ((⟨p1, n1, k1, T1⟩ : Hd), (⟨p2, n2, k2, T2⟩ : Hd)) = rx at *
        generalize hry : rl ((⟨q1, m1, l1, S1⟩ : Hd), (⟨q2, m2, l2, S2⟩ : Hd)) = ry at *
        clear hrx hry
        by_cases hxy : rx = ry
        · have HY := Lib.hid (HNX.out.2 hxy)
          rw [decide_eq_true hxy] at HCALL
          clear hxy HNX HXK
          go_wp2_with (go_at_call 82; refine (HCALL.out _ _).mono ?_; rintro e w5 ⟨rfl, hb5⟩; have HB5 := Lib.hid (HB.out.trans (((HAL.out _ _).trans (hb5.mono (HAL.out _ _).size)).mono HB.out.size)); clear hb5)
          go_roundw
          case rel => exact ⟨j + 1, by omega, by go_num, HY.out, HB5.out⟩
          case measure => simp [intOf]; omega
        · have HY := Lib.hid (HXK.out hxy)
          rw [decide_eq_false hxy] at HCALL
          clear hxy HNX HXK
          go_wp2_with (go_at_call 82; refine (HCALL.out _ _).mono ?_; rintro e w5 ⟨rfl, hb5⟩; have HB5 := Lib.hid (HB.out.trans (((HAL.out _ _).trans (hb5.mono (HAL.out _ _).size)).mono HB.out.size)); clear hb5)
          go_ret
          exact ⟨⟨false, rfl, ⟨fun e => (by cases e), fun e => absurd e HY.out⟩⟩, HB5.out⟩
      · obtain rfl : j = N := by omega
        have HE : Hid (l.map rl = k.map rl) := by
          show _ = _
          have := HT.out
          rwa [List.take_of_length_le (by rw [List.length_map]; have := HLN.out; omega), List.take_of_length_le (by rw [List.length_map]; have := HLK.out; omega)] at this
        go_wp2
        go_ret
        exact ⟨⟨true, rfl, ⟨fun _ => HE.out, fun _ => rfl⟩⟩, HB.out⟩
  · have hd : ((l.length : Int) != (k.length : Int)) = true := by
      have : ¬ (l.length : Int) = (k.length : Int) := by omega
      simpa using this
    have hd2 : ((l.length : Int) == (k.length : Int)) = false := by
      have : ¬ (l.length : Int) = (k.length : Int) := by omega
      simpa using this
    have HE : Hid (l.map rl ≠ k.map rl) := fun e => hne (by have := congrArg List.length e; rwa [List.length_map, List.length_map] at this)
    clear hne
    go_enter Tryz.func46, Tryz.ntmps46
    go_wp2
    go_ret
    exact ⟨⟨false, rfl, ⟨fun e => (by cases e), fun e => absurd e HE.out⟩⟩, Below.refl _ _⟩
set_option maxHeartbeats 8000000 in
set_option maxRecDepth 100000 in
theorem fsame_ok (F G : FileV) (w : World) (pm pp pi pr qm qp qi qr : Option Addr) (nm cm np cp ni ci nr cr am bm ap bp ai bi ar br : Nat) (hl kl : List (Hd × Hd))
    (h1 : FileIn w F pm nm cm pp np cp pi ni ci pr nr cr hl) (h2 : FileIn w G qm am bm qp ap bp qi ai bi qr ar br kl) :
    Calls Tryz.prog 49 #[.agg #[.slice pm nm cm, .slice pp np cp, .slice pi ni ci, .slice pr nr cr], .agg #[.slice qm am bm, .slice qp ap bp, .slice qi ai bi, .slice qr ar br]] w fun e w' => (∃ r : Bool, e = .returned (.bool r) ∧ (r = true ↔ F = G)) ∧ Below w.heap.size w w' := by
  obtain ⟨W0, hW0⟩ : ∃ W0, W0 = w.alloc (.cells #[.slice pm nm cm, .slice pp np cp, .slice pi ni ci, .slice pr nr cr] 43) := ⟨_, rfl⟩
  have hb0 : Below w.heap.size w W0 := by rw [hW0]; exact rb1w _ _
  have hs0 : W0.heap.size = w.heap.size + 1 := by rw [hW0]; simp
  have hz0 : W0.heap[w.heap.size]? = some (.cells #[.slice pm nm cm, .slice pp np cp, .slice pi ni ci, .slice pr nr cr] 43 (0, 0)) := by rw [hW0]; exact rb_new w _
  obtain ⟨W, hW⟩ : ∃ W, W = W0.alloc (.cells #[.slice qm am bm, .slice qp ap bp, .slice qi ai bi, .slice qr ar br] 43) := ⟨_, rfl⟩
  have hb1 : Below W0.heap.size W0 W := by rw [hW]; exact rb1w _ _
  have hs1 : W.heap.size = W0.heap.size + 1 := by rw [hW]; simp
  have hz1 : W.heap[W0.heap.size]? = some (.cells #[.slice qm am bm, .slice qp ap bp, .slice qi ai bi, .slice qr ar br] 43 (0, 0)) := by rw [hW]; exact rb_new W0 _
  have hbW := hb0.trans (hb1.mono hb0.size)
  have HC : Hid (∀ u : World, Below W.heap.size W u → ((u.cell? ⟨w.heap.size, 0, none⟩ = some (.slice pm nm cm) ∧ u.cell? ⟨w.heap.size, 1, none⟩ = some (.slice pp np cp) ∧ u.cell? ⟨w.heap.size, 2, none⟩ = some (.slice pi ni ci) ∧ u.cell? ⟨w.heap.size, 3, none⟩ = some (.slice pr nr cr)) ∧
      (u.cell? ⟨w.heap.size + 1, 0, none⟩ = some (.slice qm am bm) ∧ u.cell? ⟨w.heap.size + 1, 1, none⟩ = some (.slice qp ap bp) ∧ u.cell? ⟨w.heap.size + 1, 2, none⟩ = some (.slice qi ai bi) ∧ u.cell? ⟨w.heap.size + 1, 3, none⟩ = some (.slice qr ar br))) ∧
      Below w.heap.size w u ∧ FileIn u F pm nm cm pp np cp pi ni ci pr nr cr hl ∧ FileIn u G qm am bm qp ap bp qi ai bi qr ar br kl) := by
    show ∀ u : World, _
    intro u hu
    have hbu : Below w.heap.size w u := hbW.trans (hu.mono (by omega))
    have g0 : u.heap[w.heap.size]? = some (.cells #[.slice pm nm cm, .slice pp np cp, .slice pi ni ci, .slice pr nr cr] 43 (0, 0)) := by rw [hu.block _ (by omega), hb1.block _ (by omega)]; exact hz0
    have g1 : u.heap[w.heap.size + 1]? = some (.cells #[.slice qm am bm, .slice qp ap bp, .slice qi ai bi, .slice qr ar br] 43 (0, 0)) := by rw [← hs0, hu.block _ (by omega)]; exact hz1
    exact ⟨⟨(boxF g0).1, (boxF g1).1⟩, hbu, h1.below hbu, h2.below hbu⟩
  have hmi : F.ms = G.ms ↔ F.ms.map mB = G.ms.map mB := mB_inj.symm
  have HS1 := Lib.hid h1.same
  have HS2 := Lib.hid h2.same
  have HE1 : Hid (∀ u : World, Below W.heap.size W u → Calls Tryz.prog 44 #[.slice pm nm cm, .slice qm am bm] u fun e w' => e = .returned (.bool (decide (F.ms.map mB = G.ms.map mB))) ∧ Below u.heap.size u w') := by
    show ∀ u : World, _
    intro u hu
    obtain ⟨_, _, k1, k2⟩ := HC.out u hu
    exact equalMG pm qm nm am cm bm _ _ u (p2_mapF mB (fun _ => rfl) (fun _ => rfl) k1.ms) (p2_mapF mB (fun _ => rfl) (fun _ => rfl) k2.ms)
  have HE2 : Hid (∀ u : World, Below W.heap.size W u → Calls Tryz.prog 10 #[.slice pp np cp, .slice qp ap bp] u fun e w' => e = .returned (.bool (decide (F.ph = G.ph))) ∧ Below u.heap.size u w') := by
    show ∀ u : World, _
    intro u hu
    obtain ⟨_, _, k1, k2⟩ := HC.out u hu
    refine (nlw_equalG k1.ph k2.ph).mono ?_
    rintro e w' ⟨he, k, rfl⟩
    exact ⟨he, below_drawsP (Below.refl _ _) k⟩
  have HE3 : Hid (∀ u : World, Below W.heap.size W u → Calls Tryz.prog 45 #[.slice pi ni ci, .slice qi ai bi] u fun e w' => e = .returned (.bool (decide (F.inf = G.inf))) ∧ Below u.heap.size u w') := by
    show ∀ u : World, _
    intro u hu
    obtain ⟨_, _, k1, k2⟩ := HC.out u hu
    exact equalIG pi qi ni ai ci bi _ _ u k1.inf k2.inf
  have HE4 : Hid (∀ u : World, Below W.heap.size W u → Calls Tryz.prog 46 #[.slice pr nr cr, .slice qr ar br, .func (.func 82) #[] #[]] u fun e w' => (∃ r : Bool, e = .returned (.bool r) ∧ (r = true ↔ F.rs = G.rs)) ∧ Below u.heap.size u w') := by
    show ∀ u : World, _
    intro u hu
    obtain ⟨_, _, k1, k2⟩ := HC.out u hu
    rw [← HS1.out, ← HS2.out]
    exact fsameF_ok pr qr nr ar cr br _ _ u k1.rs k2.rs
  have HFI : Hid (∀ u : World, Below W.heap.size W u → Below w.heap.size w u) := fun u hu => (HC.out u hu).2.1
  have HIFF : Hid (F = G ↔ F.ms.map mB = G.ms.map mB ∧ F.ph = G.ph ∧ F.inf = G.inf ∧ F.rs = G.rs) := by
    show _ ↔ _
    rw [← hmi]
    constructor
    · rintro rfl; exact ⟨rfl, rfl, rfl, rfl⟩
    · obtain ⟨a1, a2, a3, a4⟩ := F
      obtain ⟨b1, b2, b3, b4⟩ := G
      rintro ⟨rfl, rfl, rfl, rfl⟩; rfl
  obtain ⟨⟨⟨c0, c1, c2, c3⟩, ⟨d0, d1, d2, d3⟩⟩, _⟩ := HC.out W (Below.refl _ _)
  clear hb0 hs0 hz0 hb1 hs1 hz1 hbW h1 h2 hmi
  have HBR : Hid (Below W.heap.size W W) := Below.refl _ _
  by_cases e1 : F.ms.map mB = G.ms.map mB
  · rw [decide_eq_true e1] at HE1
    have E1 := Lib.hid e1
    clear e1
    by_cases e2 : F.ph = G.ph
    · rw [decide_eq_true e2] at HE2
      have E2 := Lib.hid e2
      clear e2
      by_cases e3 : F.inf = G.inf
      · rw [decide_eq_true e3] at HE3
        have E3 := Lib.hid e3
        clear e3
        go_enter Tryz.func49, Tryz.ntmps49
        go_upto_region 1 with fail
        rw [← hW0, ← hW]
        clear hW hW0
        go_wp2_with (first | (go_at_call 44; refine (HE1.out _ HBR.out).mono ?_; rintro e u1 ⟨rfl, hb⟩; have HB1 := Lib.hid (HBR.out.trans (hb.mono HBR.out.size)); obtain ⟨⟨⟨x0, x1, x2, x3⟩, ⟨y0, y1, y2, y3⟩⟩, _⟩ := HC.out u1 HB1.out; clear hb) | (go_at_call 10; refine (HE2.out _ HB1.out).mono ?_; rintro e u2 ⟨rfl, hb⟩; have HB2 := Lib.hid (HB1.out.trans (hb.mono HB1.out.size)); obtain ⟨⟨⟨x0, x1, x2, x3⟩, ⟨y0, y1, y2, y3⟩⟩, _⟩ := HC.out u2 HB2.out; clear hb) | (go_at_call 45; refine (HE3.out _ HB2.out).mono ?_; rintro e u3 ⟨rfl, hb⟩; have HB3 := Lib.hid (HB2.out.trans (hb.mono HB2.out.size)); obtain ⟨⟨⟨x0, x1, x2, x3⟩, ⟨y0, y1, y2, y3⟩⟩, _⟩ := HC.out u3 HB3.out; clear hb) | (go_at_call 46; refine (HE4.out _ HB3.out).mono ?_; rintro e u4 ⟨⟨r, rfl, hr⟩, hb⟩; have HR := Lib.hid hr; have HB4 := Lib.hid (HB3.out.trans (hb.mono HB3.out.size)); clear hb hr))
        go_ret
        exact ⟨⟨r, rfl, by rw [HR.out, HIFF.out]; exact ⟨fun h => ⟨E1.out, E2.out, E3.out, h⟩, fun h => h.2.2.2⟩⟩, HFI.out _ HB4.out⟩
      · rw [decide_eq_false e3] at HE3
        have E3 := Lib.hid e3
        clear e3
        go_enter Tryz.func49, Tryz.ntmps49
        go_upto_region 1 with fail
        rw [← hW0, ← hW]
        clear hW hW0
        go_wp2_with (first | (go_at_call 44; refine (HE1.out _ HBR.out).mono ?_; rintro e u1 ⟨rfl, hb⟩; have HB1 := Lib.hid (HBR.out.trans (hb.mono HBR.out.size)); obtain ⟨⟨⟨x0, x1, x2, x3⟩, ⟨y0, y1, y2, y3⟩⟩, _⟩ := HC.out u1 HB1.out; clear hb) | (go_at_call 10; refine (HE2.out _ HB1.out).mono ?_; rintro e u2 ⟨rfl, hb⟩; have HB2 := Lib.hid (HB1.out.trans (hb.mono HB1.out.size)); obtain ⟨⟨⟨x0, x1, x2, x3⟩, ⟨y0, y1, y2, y3⟩⟩, _⟩ := HC.out u2 HB2.out; clear hb) | (go_at_call 45; refine (HE3.out _ HB2.out).mono ?_; rintro e u3 ⟨rfl, hb⟩; have HB3 := Lib.hid (HB2.out.trans (hb.mono HB2.out.size)); obtain ⟨⟨⟨x0, x1, x2, x3⟩, ⟨y0, y1, y2, y3⟩⟩, _⟩ := HC.out u3 HB3.out; clear hb))
        go_ret
        exact ⟨⟨false, rfl, ⟨fun e => (by cases e), fun e => absurd (by have h := HIFF.out.1 e; exact h.2.2.1) E3.out⟩⟩, HFI.out _ HB3.out⟩
    · rw [decide_eq_false e2] at HE2
      have E2 := Lib.hid e2
      clear e2
      go_enter Tryz.func49, Tryz.ntmps49
      go_upto_region 1 with fail
      rw [← hW0, ← hW]
      clear hW hW0
      go_wp2_with (first | (go_at_call 44; refine (HE1.out _ HBR.out).mono ?_; rintro e u1 ⟨rfl, hb⟩; have HB1 := Lib.hid (HBR.out.trans (hb.mono HBR.out.size)); obtain ⟨⟨⟨x0, x1, x2, x3⟩, ⟨y0, y1, y2, y3⟩⟩, _⟩ := HC.out u1 HB1.out; clear hb) | (go_at_call 10; refine (HE2.out _ HB1.out).mono ?_; rintro e u2 ⟨rfl, hb⟩; have HB2 := Lib.hid (HB1.out.trans (hb.mono HB1.out.size)); obtain ⟨⟨⟨x0, x1, x2, x3⟩, ⟨y0, y1, y2, y3⟩⟩, _⟩ := HC.out u2 HB2.out; clear hb))
      go_ret
      exact ⟨⟨false, rfl, ⟨fun e => (by cases e), fun e => absurd (by have h := HIFF.out.1 e; exact h.2.1) E2.out⟩⟩, HFI.out _ HB2.out⟩
  · rw [decide_eq_false e1] at HE1
    have E1 := Lib.hid e1
    clear e1
    go_enter Tryz.func49, Tryz.ntmps49
    go_upto_region 1 with fail
    rw [← hW0, ← hW]
    clear hW hW0
    go_wp2_with (first | (go_at_call 44; refine (HE1.out _ HBR.out).mono ?_; rintro e u1 ⟨rfl, hb⟩; have HB1 := Lib.hid (HBR.out.trans (hb.mono HBR.out.size)); obtain ⟨⟨⟨x0, x1, x2, x3⟩, ⟨y0, y1, y2, y3⟩⟩, _⟩ := HC.out u1 HB1.out; clear hb))
    go_ret
    exact ⟨⟨false, rfl, ⟨fun e => (by cases e), fun e => absurd (by have h := HIFF.out.1 e; exact h.1) E1.out⟩⟩, HFI.out _ HB1.out⟩
end Go.Proofs.YtoiolepengcagaaGreatDoor
namespace Go.Proofs.YtoiolepengcagaaGreatDoor
/-! ### a text behind one whose last line ends -/
/-- ends with a line's end that is not put off -/
def EndedL (w : Bl) : Prop := ∃ v, w = v ++ [10] ∧ Lib.hasSuffix v [92] = false
theorem suf_iff (l : Bl) : Lib.hasSuffix l [92] = true ↔ ∃ a, l = a ++ [92] := by
  unfold Lib.hasSuffix
  rw [List.isSuffixOf_iff_suffix]
  constructor
  · rintro ⟨a, h⟩; exact ⟨a, h.symm⟩
  · rintro ⟨a, h⟩; exact ⟨a, h.symm⟩
theorem suf_behind {a b : Bl} (h : Lib.hasSuffix (a ++ b) [92] = false) : Lib.hasSuffix b [92] = false := by
  rw [← Bool.not_eq_true, suf_iff] at h ⊢
  rintro ⟨c, rfl⟩
  exact h ⟨a ++ c, by simp⟩
theorem onl_end (text : Bl) {v : Bl} (h : Lib.hasSuffix v [92] = false) : Lib.hasSuffix (onl text v) [92] = false := by
  unfold onl
  split
  · exact h
  · unfold Lib.trimLeftS
    have : ∃ a, v = a ++ v.dropWhile (fun x => ([32, 9] : List UInt8).contains x) := ⟨v.takeWhile _, (List.takeWhile_append_dropWhile).symm⟩
    obtain ⟨a, ha⟩ := this
    rw [ha] at h
    exact suf_behind h
theorem nl_ended {w : Bl} (h : EndedL w) : (∃ v, nl w = (v, []) ∧ w = v ++ [10] ∧ (10 : UInt8) ∉ v ∧ Lib.hasSuffix v [92] = false) ∨ ∃ u r, nl w = (u, r) ∧ w = u ++ 10 :: r ∧ (10 : UInt8) ∉ u ∧ EndedL r := by
  obtain ⟨v, rfl, hs⟩ := h
  rcases nl_split v with ⟨h1, _⟩ | ⟨u, r, h1, h2, _⟩
  · left
    exact ⟨v, by rw [nl_yes h1], rfl, h1, hs⟩
  · right
    refine ⟨u, r ++ [10], ?_, by rw [h1]; simp, h2, r, rfl, ?_⟩
    · rw [h1, List.append_assoc, List.cons_append, nl_yes h2]
    · rw [h1, show u ++ 10 :: r = (u ++ [10]) ++ r by simp] at hs
      exact suf_behind hs
theorem lg_behindE : ∀ n text w t at_, w.length ≤ n → EndedL w → lg text (w ++ t) at_ = ((lg text w at_).1, (lg text w at_).2.1 ++ t, (lg text w at_).2.2) ∧
    ((lg text w at_).2.1 = [] ∨ EndedL (lg text w at_).2.1) ∧ (lg text w at_).2.2 + (lg text w at_).2.1.count 10 + 1 = at_ + w.count 10 := by
  intro n
  induction n with
  | zero =>
    intro text w t at_ h hw
    obtain ⟨v, rfl, _⟩ := hw
    simp at h
  | succ n ih =>
    intro text w t at_ h hw
    rcases nl_ended hw with ⟨v, h1, h2, h3, h5⟩ | ⟨u, r, h1, h2, h3, h4⟩
    · have e : nl (w ++ t) = (v, t) := by
        rw [h2, show v ++ [10] ++ t = v ++ 10 :: t by simp, nl_yes h3]
      rw [lg_eq text (w ++ t), lg_eq text w, e, h1]
      simp only [onl_end text h5]
      rw [if_neg (by simp), if_neg (by simp)]
      refine ⟨rfl, .inl rfl, ?_⟩
      have hc : v.count 10 = 0 := List.count_eq_zero.2 h3
      rw [h2, List.count_append, hc]
      simp
    · have e : nl (w ++ t) = (u, r ++ t) := by rw [h2, List.append_assoc, List.cons_append, nl_yes h3]
      have hr : r ≠ [] := by obtain ⟨v, rfl, _⟩ := h4; simp
      have hrt : r ++ t ≠ [] := by simp [hr]
      have hcw : w.count 10 = r.count 10 + 1 := by
        have hc : u.count 10 = 0 := List.count_eq_zero.2 h3
        rw [h2, List.count_append, hc]
        simp
      rw [lg_eq text (w ++ t), lg_eq text w, e, h1]
      by_cases hs : Lib.hasSuffix (onl text u) [92] = true
      · rw [if_pos ⟨hs, hrt⟩, if_pos ⟨hs, hr⟩]
        have hlr : r.length ≤ n := by rw [h2] at h; simp at h; omega
        obtain ⟨i1, i2, i3⟩ := ih (text ++ Lib.trimSuffix (onl text u) [92] ++ [32]) r t (at_ + 1) hlr h4
        exact ⟨i1, i2, by rw [hcw]; simp only; omega⟩
      · rw [if_neg (fun g => hs g.1), if_neg (fun g => hs g.1)]
        exact ⟨rfl, .inr h4, by rw [hcw]; show at_ + r.count 10 + 1 = _; omega⟩
theorem jg_behindE (t : Bl) : ∀ n w at_, w.length ≤ n → (w = [] ∨ EndedL w) → jg (w ++ t) at_ = jg w at_ ++ jg t (at_ + w.count 10) := by
  intro n
  induction n with
  | zero =>
    intro w at_ h hw
    have : w = [] := List.length_eq_zero_iff.1 (by omega)
    subst this
    rw [jg_nil]; rfl
  | succ n ih =>
    intro w at_ h hw
    rcases hw with rfl | hw
    · rw [jg_nil]; rfl
    · have hne : w ≠ [] := by obtain ⟨v, rfl, _⟩ := hw; simp
      have hnt : w ++ t ≠ [] := by simp [hne]
      obtain ⟨i1, i2, i3⟩ := lg_behindE _ [] w t (at_ + 1) (Nat.le_refl _) hw
      have hl := lg_len _ [] w (at_ + 1) (Nat.le_refl _) hne
      rw [jg_eq hnt, jg_eq hne, i1]
      simp only
      rw [ih _ _ (by omega) i2, List.append_assoc, show (lg [] w (at_ + 1)).2.2 + (lg [] w (at_ + 1)).2.1.count 10 = at_ + w.count 10 by omega]
theorem join_behindE (w t : Bl) (h : EndedL w) : joinL (w ++ t) = joinL w ++ moved (w.count 10) (joinL t) := by
  unfold joinL
  rw [jg_behindE t _ _ _ (Nat.le_refl _) (.inr h), jg_moved _ _ _ _ (Nat.le_refl _)]
/-- the texts of the lines -/
def txsL (s : Bl) : List Bl := (joinL s).map (·.2)
theorem txs_behind (w t : Bl) (h : EndedL w) : txsL (w ++ t) = txsL w ++ txsL t := by
  unfold txsL
  rw [join_behindE w t h, List.map_append]
  congr 1
  unfold moved
  rw [List.map_map]
  rfl
/-! ### the reader -/
def incW : Bl := [105, 110, 99, 108, 117, 100, 101]
def joinEL (s : Bl) : Int := if 20000 < s.length then 2 else if badB s = true then 3 else 0
mutual
/-- read a text: how many lines, what is told, the error -/
def readR (T : Bl → Option Bl) : Nat → List Bl → Nat → List Bl → Bl → Nat × List Bl × Int
  | f, op, many, out, s => if joinEL s ≠ 0 then (many, out, joinEL s) else readG T f op (txsL s) many out
  termination_by f => (f, 1, 0)
def readG (T : Bl → Option Bl) : Nat → List Bl → List Bl → Nat → List Bl → Nat × List Bl × Int
  | _, _, [], many, out => (many, out, 0)
  | f, op, x :: l, many, out =>
    if 200 < many + 1 then (many + 1, out, 2)
    else if (wordsL x).getD 0 [] ≠ incW then readG T f op l (many + 1) (out ++ [x])
    else if (wordsL x).length ≠ 2 then (many + 1, out, 3)
    else match T ((wordsL x).getD 1 []) with
      | none => (many + 1, out, 5)
      | some t => if (wordsL x).getD 1 [] ∈ op then (many + 1, out, 8) else
        match f with
        | 0 => (many + 1, out, 8)
        | f + 1 =>
          if (readR T f (op ++ [(wordsL x).getD 1 []]) (many + 1) out t).2.2 ≠ 0 then readR T f (op ++ [(wordsL x).getD 1 []]) (many + 1) out t
          else readG T (f + 1) op l (readR T f (op ++ [(wordsL x).getD 1 []]) (many + 1) out t).1 (readR T f (op ++ [(wordsL x).getD 1 []]) (many + 1) out t).2.1
  termination_by f _ l => (f, 0, l.length)
end
variable {T : Bl → Option Bl}
theorem readR_eq (f : Nat) (op : List Bl) (many : Nat) (out : List Bl) (s : Bl) : readR T f op many out s = if joinEL s ≠ 0 then (many, out, joinEL s) else readG T f op (txsL s) many out := by rw [readR]
theorem readG_nil (f : Nat) (op : List Bl) (many : Nat) (out : List Bl) : readG T f op [] many out = (many, out, 0) := by rw [readG]
theorem readG_text (f : Nat) (op : List Bl) (x : Bl) (l : List Bl) (many : Nat) (out : List Bl) (h : (wordsL x).getD 0 [] ≠ incW) :
    readG T f op (x :: l) many out = if 200 < many + 1 then (many + 1, out, 2) else readG T f op l (many + 1) (out ++ [x]) := by rw [readG, if_pos h]
theorem readG_inc (f : Nat) (op : List Bl) (x : Bl) (l : List Bl) (many : Nat) (out : List Bl) (t : Bl) (hm : ¬ 200 < many + 1) (h : (wordsL x).getD 0 [] = incW) (h2 : (wordsL x).length = 2) (hT : T ((wordsL x).getD 1 []) = some t) (ho : (wordsL x).getD 1 [] ∉ op) :
    readG T (f + 1) op (x :: l) many out = if (readR T f (op ++ [(wordsL x).getD 1 []]) (many + 1) out t).2.2 ≠ 0 then readR T f (op ++ [(wordsL x).getD 1 []]) (many + 1) out t
          else readG T (f + 1) op l (readR T f (op ++ [(wordsL x).getD 1 []]) (many + 1) out t).1 (readR T f (op ++ [(wordsL x).getD 1 []]) (many + 1) out t).2.1 := by
  rw [readG, if_neg hm, if_neg (fun e => e h), if_neg (fun e => e h2), hT]
  simp only
  rw [if_neg ho]
theorem readG_cyc (f : Nat) (op : List Bl) (x : Bl) (l : List Bl) (many : Nat) (out : List Bl) (t : Bl) (hm : ¬ 200 < many + 1) (h : (wordsL x).getD 0 [] = incW) (h2 : (wordsL x).length = 2) (hT : T ((wordsL x).getD 1 []) = some t) (ho : (wordsL x).getD 1 [] ∈ op) :
    readG T f op (x :: l) many out = (many + 1, out, 8) := by
  rw [readG, if_neg hm, if_neg (fun e => e h), if_neg (fun e => e h2), hT]
  simp only
  rw [if_pos ho]
/-- lines that include nothing -/
theorem readG_flat (f : Nat) (op : List Bl) : ∀ (l : List Bl) (many : Nat) (out : List Bl), (∀ x ∈ l, (wordsL x).getD 0 [] ≠ incW) → (readG T f op l many out).2.2 = 0 → readG T f op l many out = (many + l.length, out ++ l, 0) ∧ (l ≠ [] → many + l.length ≤ 200) := by
  intro l
  induction l with
  | nil => intro many out _ _; rw [readG_nil]; simp
  | cons x l ih =>
    intro many out h h0
    rw [readG_text _ _ _ _ _ _ (h x List.mem_cons_self)] at h0 ⊢
    by_cases hm : 200 < many + 1
    · rw [if_pos hm] at h0; cases h0
    · rw [if_neg hm] at h0 ⊢
      obtain ⟨h1, h2⟩ := ih (many + 1) (out ++ [x]) (fun y hy => h y (List.mem_cons_of_mem _ hy)) h0
      rw [h1]
      refine ⟨by rw [List.length_cons, List.append_assoc]; simp; omega, fun _ => ?_⟩
      rw [List.length_cons]
      by_cases hl : l = []
      · subst hl; simp; omega
      · have := h2 hl; omega
theorem readG_ahead (f : Nat) (op : List Bl) : ∀ (l m : List Bl) (many : Nat) (out : List Bl), (∀ x ∈ l, (wordsL x).getD 0 [] ≠ incW) → many + l.length ≤ 200 → readG T f op (l ++ m) many out = readG T f op m (many + l.length) (out ++ l) := by
  intro l
  induction l with
  | nil => intro m many out _ _; simp
  | cons x l ih =>
    intro m many out h h0
    rw [List.length_cons] at h0
    rw [List.cons_append, readG_text _ _ _ _ _ _ (h x List.mem_cons_self), if_neg (by omega), ih _ _ _ (fun y hy => h y (List.mem_cons_of_mem _ hy)) (by omega), List.append_assoc, List.length_cons, Nat.add_assoc, Nat.add_comm 1]
    rfl
/-- where there are no texts, nothing is included -/
theorem readG_none (f : Nat) (op : List Bl) : ∀ (l : List Bl) (many : Nat) (out : List Bl), (readG (fun _ => none) f op l many out).2.2 = 0 → ∀ x ∈ l, (wordsL x).getD 0 [] ≠ incW := by
  intro l
  induction l with
  | nil => intro _ _ _ x hx; cases hx
  | cons y l ih =>
    intro many out h x hx
    by_cases hy : (wordsL y).getD 0 [] = incW
    · exfalso
      rw [readG] at h
      by_cases hm : 200 < many + 1
      · rw [if_pos hm] at h; cases h
      · rw [if_neg hm, if_neg (fun e => e hy)] at h
        by_cases h2 : (wordsL y).length ≠ 2
        · rw [if_pos h2] at h; cases h
        · rw [if_neg h2] at h; cases h
    · rw [readG_text _ _ _ _ _ _ hy] at h
      by_cases hm : 200 < many + 1
      · rw [if_pos hm] at h; cases h
      · rw [if_neg hm] at h
        rcases List.mem_cons.1 hx with rfl | hx
        · exact hy
        · exact ih _ _ h x hx
/-! ### a line that includes -/
theorem shw_none {x : Bl} (h : (35 : UInt8) ∉ x) : shw x = x := by
  rw [shw_flat]
  induction x with
  | nil => rfl
  | cons c x ih =>
    have hc : c ≠ 35 := fun e => h (by rw [e]; exact List.mem_cons_self)
    rw [List.flatMap_cons, if_neg hc, ih (fun hm => h (List.mem_cons_of_mem _ hm))]
    rfl
theorem suf_none {x : Bl} (h : (92 : UInt8) ∉ x) : Lib.hasSuffix x [92] = false := by
  rw [← Bool.not_eq_true, suf_iff]
  rintro ⟨a, rfl⟩
  exact h (by simp)
theorem trimR_last {a : Bl} {c : UInt8} (h : blk c = false) : Lib.trimRightS (a ++ [c]) [32, 9] = a ++ [c] := by
  unfold Lib.trimRightS
  rw [List.reverse_append, List.reverse_cons, List.reverse_nil, List.nil_append, List.singleton_append, List.dropWhile_cons, if_neg (by rw [blk_has, h]; decide), List.reverse_cons, List.reverse_reverse]
theorem lg_one {x : Bl} (h10 : (10 : UInt8) ∉ x) (h92 : (92 : UInt8) ∉ x) (at_ : Nat) : lg [] x at_ = (x, [], at_) ∧ ∀ s, lg [] (x ++ 10 :: s) at_ = (x, s, at_) := by
  have ht : Lib.trimSuffix (onl [] x) [92] = x := by
    have : onl [] x = x := rfl
    rw [this]
    unfold Lib.trimSuffix
    rw [suf_none h92]
    rfl
  have hs : Lib.hasSuffix (onl [] x) [92] = false := suf_none h92
  refine ⟨?_, fun s => ?_⟩
  · rw [lg_eq, nl_no h10, if_neg (fun g => g.2 rfl)]
    simp only [ht, List.nil_append]
  · rw [lg_eq, nl_yes h10]
    simp only [hs, ht, List.nil_append]
    rw [if_neg (by simp)]
theorem tx_one {x : Bl} (hx : x ≠ []) (h35 : (35 : UInt8) ∉ x) (h10 : (10 : UInt8) ∉ x) (h92 : (92 : UInt8) ∉ x) (hb : Lib.trimRightS x [32, 9] = x) : txsL x = [x] ∧ txsL (x ++ [10]) = [x] := by
  have hc : cutL x = x := by
    have := cutL_shw x
    rw [shw_none h35, hb] at this
    exact this
  constructor
  · unfold txsL joinL
    rw [jg_eq hx, (lg_one h10 h92 _).1]
    simp only [hc, if_neg hx, jg_nil, List.append_nil, List.map_cons, List.map_nil]
  · unfold txsL joinL
    rw [jg_eq (by simp), (lg_one h10 h92 _).2 []]
    simp only [hc, if_neg hx, jg_nil, List.append_nil, List.map_cons, List.map_nil]
/-- the line that includes n -/
def incL (n : Bl) : Bl := incW ++ [32] ++ n
theorem name_facts {n : Bl} (h : nameE (txt n) = 0) : n ≠ [] ∧ (35 : UInt8) ∉ n ∧ (10 : UInt8) ∉ n ∧ (92 : UInt8) ∉ n ∧ (∀ c ∈ n, blk c = false) ∧ (∀ c ∈ n, signC c = true) ∧ n.length ≤ 40 := by
  obtain ⟨h1, _⟩ := name_bytes h
  rw [txt_list] at h1
  have hz : ∀ c ∈ n, signC c = true := by
    unfold nameE at h
    split at h
    · cases h
    · split at h
      · rename_i h2
        rw [txt_list] at h2
        exact List.all_eq_true.1 h2
      · cases h
  have hl : n.length ≤ 40 := by
    unfold nameE at h
    split at h
    · cases h
    · rename_i h3; rw [txt_size] at h3; omega
  exact ⟨h1.1, fun hc => absurd (hz _ hc) (by decide), fun hc => absurd (hz _ hc) (by decide), fun hc => absurd (hz _ hc) (by decide), h1.2, hz, hl⟩
theorem inc_words {n : Bl} (h : nameE (txt n) = 0) : wordsL (incL n) = [incW, n] := by
  obtain ⟨h1, _, _, _, h5, _⟩ := name_facts h
  have := words_join (ws := [incW, n]) (fun w hw => by
    rcases List.mem_cons.1 hw with rfl | hw
    · exact ⟨by decide, by decide⟩
    · rw [List.mem_singleton.1 hw]; exact ⟨h1, h5⟩)
  rwa [show Lib.join [incW, n] [32] = incL n from by rw [join_two, Lib.join_one]; rfl] at this
theorem inc_tx {n : Bl} (h : nameE (txt n) = 0) : txsL (incL n) = [incL n] ∧ txsL (incL n ++ [10]) = [incL n] := by
  obtain ⟨h1, h2, h3, h4, h5, _⟩ := name_facts h
  have ha : ∀ c : UInt8, c ∉ incW ++ [32] → c ∉ n → c ∉ incL n := fun c q1 q2 q3 => by
    rcases List.mem_append.1 q3 with q | q
    · exact q1 q
    · exact q2 q
  refine tx_one (by simp [incL]) (ha _ (by decide) h2) (ha _ (by decide) h3) (ha _ (by decide) h4) ?_
  rcases List.eq_nil_or_concat n with e | ⟨n', c, e⟩
  · exact absurd e h1
  · rw [List.concat_eq_append] at e
    have hc : blk c = false := h5 c (by rw [e]; simp)
    unfold incL
    rw [e, ← List.append_assoc]
    exact trimR_last hc
theorem badB_app (a b : Bl) : badB (a ++ b) = (badB a || badB b) := by unfold badB; rw [List.any_append]
theorem sign_good {c : UInt8} (h : signC c = true) : badC c = false := by
  have key : ∀ n : Fin 256, signC (UInt8.ofNat n.1) = true → badC (UInt8.ofNat n.1) = false := by decide +kernel
  have := key ⟨c.toNat, c.toNat_lt⟩
  simp only [UInt8.ofNat_toNat] at this
  exact this h
/-! ### the law FileIncludes -/
theorem includes_law {f : Nat} {s n t : Bl} {ma mb mc : Nat} {a b c : List Bl} (hn : nameE (txt n) = 0) (hs : Lib.hasSuffix s [92] = false)
    (ha : readR (fun _ => none) f [] 0 [] t = (ma, a, 0)) (hb : readR (fun x => if x = n then some t else none) (f + 1) [] 0 [] (s ++ [10] ++ (incL n ++ [10])) = (mb, b, 0)) (hc : readR (fun _ => none) f [] 0 [] (s ++ [10]) = (mc, c, 0)) : b = c ++ a := by
  rw [readR_eq] at ha hb hc
  split at ha
  · rename_i h; injection ha with _ ha; injection ha with _ ha; exact absurd ha h
  split at hb
  · rename_i h; injection hb with _ hb; injection hb with _ hb; exact absurd hb h
  split at hc
  · rename_i h; injection hc with _ hc; injection hc with _ hc; exact absurd hc h
  rename_i et eb ec
  have fa := readG_none f [] (txsL t) 0 [] (by rw [ha])
  have fc := readG_none f [] (txsL (s ++ [10])) 0 [] (by rw [hc])
  obtain ⟨ga, ga2⟩ := readG_flat f [] _ 0 [] fa (by rw [ha])
  obtain ⟨gc, gc2⟩ := readG_flat f [] _ 0 [] fc (by rw [hc])
  rw [ha] at ga
  rw [hc] at gc
  injection ga with _ ga; injection ga with ga _
  injection gc with _ gc; injection gc with gc _
  rw [List.nil_append] at ga gc
  have hlen : (txsL (s ++ [10])).length ≤ 200 := by
    by_cases h : txsL (s ++ [10]) = []
    · rw [h]; simp
    · have := gc2 h; omega
  rw [txs_behind _ _ ⟨s, rfl, hs⟩, (inc_tx hn).2, readG_ahead _ _ _ _ _ _ fc (by omega)] at hb
  rw [Nat.zero_add, List.nil_append] at hb
  by_cases hm : 200 < (txsL (s ++ [10])).length + 1
  · rw [readG, if_pos hm] at hb
    injection hb with _ hb; injection hb with _ hb; cases hb
  · have hw := inc_words hn
    rw [readG_inc f [] (incL n) [] _ _ t hm (by rw [hw]; rfl) (by rw [hw]; rfl) (by rw [hw]; simp) (by simp)] at hb
    split at hb
    · rename_i h; rw [hb] at h; exact absurd rfl h
    rename_i h
    rw [readG_nil] at hb
    injection hb with _ hb; injection hb with hb _
    have h0 : (readR (fun x => if x = n then some t else none) f ([] ++ [(wordsL (incL n)).getD 1 []]) ((txsL (s ++ [10])).length + 1) (txsL (s ++ [10])) t).2.2 = 0 := by
      rcases Decidable.em ((readR (fun x => if x = n then some t else none) f ([] ++ [(wordsL (incL n)).getD 1 []]) ((txsL (s ++ [10])).length + 1) (txsL (s ++ [10])) t).2.2 = 0) with e | e
      · exact e
      · exact absurd e h
    rw [readR_eq, if_neg et] at h0 hb
    rw [(readG_flat _ _ _ _ _ fa h0).1] at hb
    rw [← hb, ga, gc]
/-! ### the law FileCycle -/
theorem cycle_law {k : Nat} {nm : Nat → Bl} (hk : k ≤ 8) (hnm : ∀ i, nameE (txt (nm i)) = 0) (hinj : ∀ i j, i ≤ k → j ≤ k → nm i = nm j → i = j) (hT : ∀ i, i ≤ k → T (nm i) = some (incL (nm ((i + 1) % (k + 1))) ++ [10])) :
    ∀ d i, i + d = k + 1 → ∀ f, d ≤ f → ∀ s, (s = incL (nm (i % (k + 1))) ∨ s = incL (nm (i % (k + 1))) ++ [10]) → (readR T f ((List.range i).map nm) i [] s).2.2 = 8 := by
  have hle : ∀ n : Bl, nameE (txt n) = 0 → joinEL (incL n) = 0 ∧ joinEL (incL n ++ [10]) = 0 := by
    intro n hn
    obtain ⟨_, _, _, _, _, h6, h7⟩ := name_facts hn
    have hl : (incL n).length ≤ 48 := by unfold incL incW; simp; omega
    have hbad : badB n = false := by
      unfold badB
      rw [List.any_eq_false]
      intro c hc e
      rw [sign_good (h6 c hc)] at e
      cases e
    have hb1 : badB (incL n) = false := by
      unfold incL
      rw [badB_app, hbad, show badB (incW ++ [32]) = false from by decide]
      rfl
    have hb2 : badB (incL n ++ [10]) = false := by
      rw [badB_app, hb1]
      decide
    have hl2 : (incL n ++ [10]).length ≤ 49 := by rw [List.length_append]; simp; omega
    unfold joinEL
    constructor
    · rw [if_neg (by omega), hb1]; rfl
    · rw [if_neg (by omega), hb2]; rfl
  intro d
  induction d with
  | zero =>
    intro i hi f _ s hs
    obtain rfl : i = k + 1 := by omega
    have hj := hle _ (hnm ((k + 1) % (k + 1)))
    have hx := inc_tx (hnm ((k + 1) % (k + 1)))
    have hr : readR T f ((List.range (k + 1)).map nm) (k + 1) [] s = readG T f ((List.range (k + 1)).map nm) [incL (nm ((k + 1) % (k + 1)))] (k + 1) [] := by
      rcases hs with rfl | rfl
      · rw [readR_eq, if_neg (fun e => e hj.1), hx.1]
      · rw [readR_eq, if_neg (fun e => e hj.2), hx.2]
    have hw := inc_words (hnm ((k + 1) % (k + 1)))
    rw [hr, readG_cyc f _ _ _ _ _ _ (by omega) (by rw [hw]; rfl) (by rw [hw]; rfl) (by rw [hw]; show T (nm ((k + 1) % (k + 1))) = _; rw [Nat.mod_self]; exact hT 0 (by omega)) (by rw [hw]; show nm ((k + 1) % (k + 1)) ∈ _; rw [Nat.mod_self]; exact List.mem_map.2 ⟨0, by simp, rfl⟩)]
  | succ d ih =>
    intro i hi f hf s hs
    obtain ⟨f', rfl⟩ : ∃ f', f = f' + 1 := ⟨f - 1, by omega⟩
    have him : i % (k + 1) = i := Nat.mod_eq_of_lt (by omega)
    rw [him] at hs
    have hj := hle _ (hnm i)
    have hx := inc_tx (hnm i)
    have hr : readR T (f' + 1) ((List.range i).map nm) i [] s = readG T (f' + 1) ((List.range i).map nm) [incL (nm i)] i [] := by
      rcases hs with rfl | rfl
      · rw [readR_eq, if_neg (fun e => e hj.1), hx.1]
      · rw [readR_eq, if_neg (fun e => e hj.2), hx.2]
    have hw := inc_words (hnm i)
    have hw1 : (wordsL (incL (nm i))).getD 1 [] = nm i := by rw [hw]; rfl
    have hop : nm i ∉ (List.range i).map nm := by
      rw [List.mem_map]
      rintro ⟨j, hj, e⟩
      have := hinj j i (by have := List.mem_range.1 hj; omega) (by omega) e
      have := List.mem_range.1 hj
      omega
    have hnext := ih (i + 1) (by omega) f' (by omega) (incL (nm ((i + 1) % (k + 1))) ++ [10]) (.inr rfl)
    rw [List.range_succ, List.map_append] at hnext
    rw [hr, readG_inc f' _ _ _ _ _ _ (by omega) (by rw [hw]; rfl) (by rw [hw]; rfl) (by rw [hw1]; exact hT i (by omega)) (by rw [hw1]; exact hop), hw1]
    rw [show (List.map nm [i]) = [nm i] from rfl] at hnext
    rw [if_pos (by rw [hnext]; decide)]
    exact hnext
end Go.Proofs.YtoiolepengcagaaGreatDoor
namespace Go.Proofs.YtoiolepengcagaaGreatDoor
open Go.RowKit Go.Shelf Go.Maps Go.WideMaps
/-! ### what a line does, plainly -/
section
variable {T : Bl → Option Bl}
/-- a line that includes: how many lines, what is told, the error -/
def incR (T : Bl → Option Bl) (f : Nat) (op : List Bl) (many : Nat) (out : List Bl) (ws : List Bl) : Nat × List Bl × Int :=
  if ws.length ≠ 2 then (many, out, 3) else match T (ws.getD 1 []) with
    | none => (many, out, 5)
    | some t => if ws.getD 1 [] ∈ op then (many, out, 8) else match f with
      | 0 => (many, out, 8)
      | f + 1 => readR T f (op ++ [ws.getD 1 []]) many out t
theorem readG_cons (f : Nat) (op : List Bl) (x : Bl) (l : List Bl) (many : Nat) (out : List Bl) : readG T f op (x :: l) many out =
    if 200 < many + 1 then (many + 1, out, 2) else if (wordsL x).getD 0 [] ≠ incW then readG T f op l (many + 1) (out ++ [x])
    else if (incR T f op (many + 1) out (wordsL x)).2.2 ≠ 0 then incR T f op (many + 1) out (wordsL x) else readG T f op l (incR T f op (many + 1) out (wordsL x)).1 (incR T f op (many + 1) out (wordsL x)).2.1 := by
  rw [readG]
  by_cases h1 : 200 < many + 1
  · rw [if_pos h1, if_pos h1]
  · rw [if_neg h1, if_neg h1]
    by_cases h2 : (wordsL x).getD 0 [] ≠ incW
    · rw [if_pos h2, if_pos h2]
    · rw [if_neg h2, if_neg h2]
      unfold incR
      by_cases h3 : (wordsL x).length ≠ 2
      · simp only [if_pos h3]
        exact (if_pos (show (3 : Int) ≠ 0 by decide)).symm
      · simp only [if_neg h3]
        cases hT : T ((wordsL x).getD 1 []) with
        | none => exact (if_pos (show (5 : Int) ≠ 0 by decide)).symm
        | some t =>
          simp only
          by_cases h4 : (wordsL x).getD 1 [] ∈ op
          · simp only [if_pos h4]
            exact (if_pos (show (8 : Int) ≠ 0 by decide)).symm
          · simp only [if_neg h4]
            cases f with
            | zero => exact (if_pos (show (8 : Int) ≠ 0 by decide)).symm
            | succ f => rfl
theorem txs_drop {s : Bl} {k : Nat} (h : k < (txsL s).length) : (txsL s).drop k = (txsL s).getD k [] :: (txsL s).drop (k + 1) := by
  rw [List.drop_eq_getElem_cons h, List.getD_eq_getElem?_getD, List.getElem?_eq_getElem h]; rfl
theorem blk_sp {c : UInt8} (h : blk c = true) : ([32, 9] : List UInt8).contains c = true := by rw [blk_has]; exact h
/-- a line that is told bears a word -/
theorem trimR_words {l : Bl} (h : Lib.trimRightS l [32, 9] ≠ []) : wordsL (Lib.trimRightS l [32, 9]) ≠ [] := by
  intro e
  rw [words_empty] at e
  unfold Lib.trimRightS at h e
  apply h
  rw [List.reverse_eq_nil_iff]
  cases hd : l.reverse.dropWhile (fun x => ([32, 9] : List UInt8).contains x) with
  | nil => rfl
  | cons c r =>
    exfalso
    have h1 := List.head?_dropWhile_not (p := fun x => ([32, 9] : List UInt8).contains x) (l := l.reverse)
    rw [hd] at h1 e
    have h2 := e c (by simp)
    have h3 : ([32, 9] : List UInt8).contains c = true := blk_sp h2
    rw [List.head?_cons] at h1
    rw [h1] at h3
    cases h3
theorem jg_words : ∀ n s at_, s.length ≤ n → ∀ x ∈ jg s at_, wordsL x.2 ≠ [] := by
  intro n
  induction n with
  | zero =>
    intro s at_ h x hx
    have : s = [] := List.length_eq_zero_iff.1 (by omega)
    subst this
    cases hx
  | succ n ih =>
    intro s at_ h x hx
    by_cases hs : s = []
    · subst hs; cases hx
    · have hl := lg_len _ [] s (at_ + 1) (Nat.le_refl _) hs
      rw [jg_eq hs] at hx
      rcases List.mem_append.1 hx with hx | hx
      · split at hx
        · cases hx
        · rename_i hc
          rw [List.mem_singleton.1 hx]
          exact trimR_words hc
      · exact ih _ _ (by omega) x hx
theorem txs_words {s x : Bl} (h : x ∈ txsL s) : wordsL x ≠ [] := by
  obtain ⟨y, hy, rfl⟩ := List.mem_map.1 h
  exact jg_words _ s 0 (Nat.le_refl _) y hy
theorem txs_len (s : Bl) : (txsL s).length = (joinL s).length := List.length_map ..
end
/-! ### in memory -/
theorem lawT : Keyed Tryz.prog 9 := string_keyed Tryz.underlying9
def rawT (v : Value) : Option (DataW Value × List MemPlace) := some (.held v, [])
/-- the texts that can be included -/
def MapT (w : World) (b n : Nat) (T : Bl → Option Bl) : Prop :=
  ∃ D : DataW Value, w.ownsMap Tryz.prog 9 rawT b n D ∧ (∀ s, D.atKey (.string s) (.held (.string ⟨#[]⟩)) = .held (.string (txt ((T s).getD [])))) ∧ ∀ s, has D (.string s) = (T s).isSome
theorem MapT.kept {w w' : World} {b n : Nat} {T : Bl → Option Bl} (h : MapT w b n T) {row : Option Nat} (hg : w.grownBy w' row) (hne : some b ≠ row) : MapT w' b n T := by
  obtain ⟨D, h1, h2, h3⟩ := h
  exact ⟨D, h1.kept hg hne, h2, h3⟩
theorem MapT.lt {w : World} {b n : Nat} {T : Bl → Option Bl} (h : MapT w b n T) : b < w.heap.size := by
  obtain ⟨D, h1, _⟩ := h
  exact h1.lt
theorem MapT.below {w w' : World} {b n : Nat} {T : Bl → Option Bl} (h : MapT w b n T) (hb : Below w.heap.size w w') : MapT w' b n T :=
  h.kept (row := none) ⟨hb.os, hb.tape, hb.output, hb.size, fun k hk _ => hb.block k hk⟩ (by simp)
theorem MapT.set {w : World} {b n B i : Nat} {T : Bl → Option Bl} {u : Value} (h : MapT w b n T) (hne : b ≠ B) : MapT (w.setCell ⟨B, i, none⟩ u) b n T :=
  h.kept (grown_setF w _ _) (fun e => by injection e with e; exact hne e)
theorem MapT.look {w : World} {b n : Nat} {T : Bl → Option Bl} (h : MapT w b n T) (s : ByteArray) (hs : s.size ≤ maxLen) :
    Sem.run Tryz.prog (Instr.lookup 67 (.map (some b)) (.string s) true) w = .ok (.tuple #[.string (txt ((T s.data.toList).getD [])), .bool (T s.data.toList).isSome]) w := by
  obtain ⟨D, h1, h2, h3⟩ := h
  obtain ⟨v, ps, hrun, hat⟩ := h1.look_ok lawT Tryz.underlying67 (Tryz.zeroValue9 w) (zd := .held (.string ⟨#[]⟩)) (zp := []) rfl (keyOf_string_mk Tryz.underlying9 hs)
  rw [h2] at hat
  have hv : v = .string (txt ((T s.data.toList).getD [])) := by
    have h4 : (DataW.held v : DataW Value) = .held _ := congrArg Prod.fst (Option.some.inj hat)
    exact DataW.held.inj h4
  subst hv
  rw [h3] at hrun
  exact hrun
/-- where the reader's rows lie -/
structure RR where
  bm : Nat
  nm : Nat
  po : Option Addr
  co : Nat
  pq : Option Addr
  cq : Nat
def RR.o (r : RR) (op : List Bl) : Value := .slice r.po op.length r.co
def RR.q (r : RR) (out : List Bl) : Value := .slice r.pq out.length r.cq
structure RSt (base B : Nat) (T : Bl → Option Bl) (op : List Bl) (many : Nat) (out : List Bl) (r : RR) (w : World) : Prop where
  box : w.heap[B]? = some (.cells #[.map (some r.bm), r.o op, .int .i64 (many : Int), r.q out] 69 (0, 0))
  lt : B < base
  map : MapT w r.bm r.nm T
  mlt : r.bm < B
  rowO : w.ownsRow base 9 1 (r.o op) op.length (strsV (op.map txt))
  rowQ : w.ownsRow base 9 1 (r.q out) out.length (strsV (out.map txt))
  apart : (r.o op).ownBlock = none ∨ (r.o op).ownBlock ≠ (r.q out).ownBlock
  so : ∀ x ∈ op, x.length ≤ 1048576
  sq : ∀ x ∈ out, x.length ≤ 1048576
  lo : op.length ≤ 1000
  lq : out.length ≤ many
  lm : many ≤ 201
/-- what a call keeps: all blocks but the box and two rows -/
structure Kp (w w' : World) (B : Nat) (a b : Option Nat) : Prop where
  os : w'.os = w.os
  tape : w'.tape = w.tape
  output : w'.output = w.output
  size : w.heap.size ≤ w'.heap.size
  block : ∀ k, k < w.heap.size → k ≠ B → some k ≠ a → some k ≠ b → w'.heap[k]? = w.heap[k]?
theorem Kp.refl (w : World) (B : Nat) (a b : Option Nat) : Kp w w B a b := ⟨rfl, rfl, rfl, Nat.le_refl _, fun _ _ _ _ _ => rfl⟩
theorem Kp.of_below {w w' : World} {B : Nat} {a b : Option Nat} (h : Below w.heap.size w w') : Kp w w' B a b := ⟨h.os, h.tape, h.output, h.size, fun k hk _ _ _ => h.block k hk⟩
theorem Kp.trans {w w1 w2 : World} {B : Nat} {a b a1 b1 : Option Nat} (h : Kp w w1 B a b) (h2 : Kp w1 w2 B a1 b1) (ha : a1 = a ∨ ∀ k, a1 = some k → w.heap.size ≤ k) (hb : b1 = b ∨ ∀ k, b1 = some k → w.heap.size ≤ k) : Kp w w2 B a b :=
  ⟨h2.os.trans h.os, h2.tape.trans h.tape, h2.output.trans h.output, Nat.le_trans h.size h2.size, fun k hk h0 h3 h4 => by
    rw [h2.block k (Nat.lt_of_lt_of_le hk h.size) h0 (fun e => by
      rcases ha with rfl | ha
      · exact h3 e
      · have := ha k e.symm; omega) (fun e => by
      rcases hb with rfl | hb
      · exact h4 e
      · have := hb k e.symm; omega)]
    exact h.block k hk h0 h3 h4⟩
theorem Kp.grown {w u z : World} {B : Nat} {a b r : Option Nat} (h : Kp w u B a b) (g : u.grownBy z r) (hr : r = a ∨ r = b ∨ ∀ k, r = some k → w.heap.size ≤ k) : Kp w z B a b :=
  ⟨g.os.trans h.os, g.tape.trans h.tape, g.output.trans h.output, Nat.le_trans h.size g.size, fun k hk h0 h3 h4 => by
    rw [g.block k (Nat.lt_of_lt_of_le hk h.size) (fun e => by
      rcases hr with rfl | rfl | hr
      · exact h3 e
      · exact h4 e
      · have := hr k e.symm; omega)]
    exact h.block k hk h0 h3 h4⟩
theorem Kp.set {w u : World} {B i : Nat} {a b : Option Nat} {x : Value} (h : Kp w u B a b) : Kp w (u.setCell ⟨B, i, none⟩ x) B a b :=
  ⟨h.os, h.tape, h.output, by simp; exact h.size, fun k hk h0 h3 h4 => by rw [heap_setCell_other u _ _ _ h0]; exact h.block k hk h0 h3 h4⟩
/-- a row of another kind stays -/
theorem Kp.row {w w' : World} {B base lo e k n : Nat} {T : Bl → Option Bl} {op : List Bl} {many : Nat} {out : List Bl} {r : RR} {v : Value} {xs : List Value} (h : Kp w w' B (r.o op).ownBlock (r.q out).ownBlock) (hR : RSt base B T op many out r w)
    (hv : w.ownsRow lo e k v n xs) (hlo : B < lo) (he : 9 ≠ e) : w'.ownsRow lo e k v n xs := by
  refine ⟨hv.1, ?_⟩
  rcases hv.2 with h1 | ⟨g, cap, cur, rfl, h2, h3, h4⟩
  · exact .inl h1
  · refine .inr ⟨g, cap, cur, rfl, h2, ?_, h4⟩
    have ho := own_apart (v' := .slice (some ⟨g, 0, none⟩) n cap) hR.rowO ⟨hv.1, .inr ⟨g, cap, cur, rfl, h2, h3, h4⟩⟩ he
    have hq := own_apart (v' := .slice (some ⟨g, 0, none⟩) n cap) hR.rowQ ⟨hv.1, .inr ⟨g, cap, cur, rfl, h2, h3, h4⟩⟩ he
    rw [h.block g (Array.getElem?_eq_some_iff.1 h3).1 (by omega) (fun e => by
      rcases ho with ho | ho
      · rw [ho] at e; cases e
      · exact ho e.symm) (fun e => by
      rcases hq with hq | hq
      · rw [hq] at e; cases e
      · exact hq e.symm)]
    exact h3
section
variable {base B : Nat} {T : Bl → Option Bl} {op : List Bl} {many : Nat} {out : List Bl} {r : RR} {w w5 : World}
theorem RSt.blt (h : RSt base B T op many out r w) : B < w.heap.size := (Array.getElem?_eq_some_iff.1 h.box).1
theorem RSt.below (h : RSt base B T op many out r w) (hb : Below w.heap.size w w5) : RSt base B T op many out r w5 :=
  { h with box := by rw [hb.block B h.blt]; exact h.box
           map := h.map.below hb
           rowO := own_belowR h.rowO hb
           rowQ := own_belowR h.rowQ hb }
theorem RSt.drew (h : RSt base B T op many out r w) : RSt base B T op many out r w.drew := h.below ((Below.refl _ _).drew)
theorem RSt.boxAt (h : RSt base B T op many out r w) {x : Option Nat} (hg : w.grownBy w5 x) (hr : ∀ k, x = some k → base ≤ k) : w5.heap[B]? = some (.cells #[.map (some r.bm), r.o op, .int .i64 (many : Int), r.q out] 69 (0, 0)) := by
  rw [hg.block B h.blt (fun e => by have := hr B e.symm; have := h.lt; omega)]
  exact h.box
/-- one line more is counted -/
theorem RSt.count (h : RSt base B T op many out r w) (hm : many + 1 ≤ 201) : RSt base B T op (many + 1) out r (w.setCell ⟨B, 2, none⟩ (.int .i64 ((many : Int) + 1))) where
  box := (boxF_set h.box (.int .i64 ((many : Int) + 1))).2.2.1
  lt := h.lt
  map := h.map.set (by have := h.mlt; omega)
  mlt := h.mlt
  rowO := own_set h.rowO h.lt
  rowQ := own_set h.rowQ h.lt
  apart := h.apart
  so := h.so
  sq := h.sq
  lo := h.lo
  lq := Nat.le_succ_of_le h.lq
  lm := hm
/-- a text more is told -/
theorem RSt.text (h : RSt base B T op many out r w) {x : Bl} {p : Option Addr} {c : Nat} (hx : x.length ≤ 1048576) (hg : w.grownBy w5 (r.q out).ownBlock) (hl : out.length + 1 ≤ many)
    (ho : w5.ownsRow base 9 1 (.slice p (out.length + 1) c) (out.length + 1) (strsV (out.map txt ++ [txt x])))
    (hlies : (Value.slice p (out.length + 1) c).ownBlock = (r.q out).ownBlock ∨ (Value.slice p (out.length + 1) c).ownBlock = some w.heap.size) :
    w5.heap[B]? = some (.cells #[.map (some r.bm), r.o op, .int .i64 (many : Int), r.q out] 69 (0, 0)) ∧ RSt base B T op many (out ++ [x]) { r with pq := p, cq := c } (w5.setCell ⟨B, 3, none⟩ (.slice p (out.length + 1) c)) := by
  have hb := h.boxAt hg (fun k hk => (h.rowQ.lt k hk).1)
  have hln : (out ++ [x]).length = out.length + 1 := by simp
  refine ⟨hb, ⟨?_, h.lt, ?_, h.mlt, ?_, ?_, ?_, h.so, ?_, h.lo, by rw [hln]; exact hl, h.lm⟩⟩
  · have := (boxF_set hb (.slice p (out.length + 1) c)).2.2.2
    rw [this]
    unfold RR.q
    rw [hln]
    rfl
  · exact (h.map.kept hg (fun e => by have := (h.rowQ.lt _ e.symm).1; have := h.mlt; have := h.lt; omega)).set (by have := h.mlt; show r.bm ≠ B; omega)
  · exact own_step h.rowO hg h.apart h.lt
  · have := own_set (i := 3) (u := .slice p (out.length + 1) c) ho h.lt
    unfold RR.q
    rw [hln, List.map_append]
    exact this
  · show (r.o op).ownBlock = none ∨ (r.o op).ownBlock ≠ _
    unfold RR.q
    rw [hln]
    rcases hlies with e | e
    · rw [e]; exact h.apart
    · rw [e]
      right
      intro e2
      have := (h.rowO.lt _ e2).2
      omega
  · intro y hy
    rcases List.mem_append.1 hy with hy | hy
    · exact h.sq y hy
    · rw [List.mem_singleton.1 hy]; exact hx
end
/-- what a call of read or include leaves -/
def ReadPost (base B : Nat) (T : Bl → Option Bl) (op : List Bl) (out : List Bl) (r : RR) (R : Nat × List Bl × Int) (w : World) (e : Ending) (w' : World) : Prop :=
  e = .returned (.int .i64 R.2.2) ∧ (∃ r', RSt base B T op R.1 R.2.1 r' w' ∧ ((r'.o op).ownBlock = (r.o op).ownBlock ∨ ∀ k, (r'.o op).ownBlock = some k → w.heap.size ≤ k) ∧ ((r'.q R.2.1).ownBlock = (r.q out).ownBlock ∨ ∀ k, (r'.q R.2.1).ownBlock = some k → w.heap.size ≤ k)) ∧ Kp w w' B (r.o op).ownBlock (r.q out).ownBlock ∧ (R.2.2 = 0 → R.1 ≤ 200)
end Go.Proofs.YtoiolepengcagaaGreatDoor
