/- The walks of slices.Clone, slices.ContainsFunc and span.Sum at any times; the law SpanSum. Conditions: the slices read as listed. -/
import Derived.Test.YtlhomgbibhacoaaSpanMostW
import Derived.WalkSpells
import Derived.WalkSmall
namespace Go.Proofs.Ytlhomgbibhacoaa
open Go.RowKit
theorem rightN_iff (x : Nat) : rightN x = true ↔ x ≤ INF := by unfold rightN; simp
set_option maxHeartbeats 400000 in
theorem bad_ok (x : B) (w : World) : Calls Try.prog 20 #[.float .f64 (un x)] w fun e w' => e = .returned (.bool (!rightN (un x))) ∧ w = w' := by
  go_enter Try.func20, Try.ntmps20
  go_wp2_with (go_at_call 16; refine (right_ok _ _).mono ?_; rintro e w' ⟨rfl, rfl⟩)
  go_ret
  exact ⟨rfl, rfl⟩
def BadAt (l : List B) (i : Int) : Prop := (i = -1 ∧ ∀ x ∈ l, un x ≤ INF) ∨ (0 ≤ i ∧ ∃ x ∈ l, ¬ un x ≤ INF)
def AllR (l : List B) (k : Nat) : Prop := ∀ x ∈ l.take k, un x ≤ INF
theorem allr_step {l : List B} {k : Nat} (hk : k < l.length) (h : AllR l k) (hx : rightN (un (l.getD k 0#64)) = true) : AllR l (k + 1) := by
  intro x hm
  rw [take_snoc_d hk] at hm
  rcases List.mem_append.1 hm with hm | hm
  · exact h x hm
  · rw [List.mem_singleton.1 hm]; exact (rightN_iff _).1 hx
theorem getD_mem {l : List B} {k : Nat} (hk : k < l.length) : l.getD k 0#64 ∈ l := by
  rw [List.getD_eq_getElem?_getD, List.getElem?_eq_getElem hk]; exact List.getElem_mem hk
set_option maxHeartbeats 1000000 in
theorem indexBad_ok (l : List B) (p : Option Addr) (n c : Nat) (w : World) (hr : FltsAt w p n l) :
    Calls Try.prog 33 #[.slice p n c, .func (.func 20) #[] #[]] w fun e w' => (∃ i : Int, e = .returned (.int .i64 i) ∧ BadAt l i) ∧ w = w' := by
  have hl := hr.len
  subst hl
  have hbig := hr.big
  go_enter Try.func33, Try.ntmps33
  go_wp2
  go_loop [8] (fun i => ∃ k : Nat, k ≤ l.length ∧ i = .int .i64 k ∧ AllR l k) (fun i => l.length - (intOf i).toNat)
  case atStart => exact ⟨0, Nat.zero_le _, rfl, fun x hx => by simp at hx⟩
  case round =>
    obtain ⟨k, hk, rfl, hA⟩ := hrel
    have HA := Lib.hid hA
    clear hA
    by_cases hlt : k < l.length
    · obtain ⟨ad, rfl, _, hcell⟩ := hr.cell hlt
      clear hr
      have K1 : Hid (rightN (un (l.getD k 0#64)) = true → AllR l (k + 1)) := by show _ → _; exact allr_step hlt HA.out
      have K2 : Hid (rightN (un (l.getD k 0#64)) = false → BadAt l k) := by
        show _ → _
        exact fun h => .inr ⟨by omega, _, getD_mem hlt, fun h2 => by rw [(rightN_iff _).2 h2] at h; cases h⟩
      generalize l.getD k 0#64 = x at *
      cases hx : rightN (un x)
      · have HX := Lib.hid hx
        clear hx
        go_wp2_with (go_at_call 20; refine (bad_ok _ _).mono ?_; rintro e w' ⟨rfl, rfl⟩; rw [HX.out])
        go_ret
        exact ⟨⟨_, rfl, K2.out HX.out⟩, rfl⟩
      · have HX := Lib.hid hx
        clear hx
        go_wp2_with (go_at_call 20; refine (bad_ok _ _).mono ?_; rintro e w' ⟨rfl, rfl⟩; rw [HX.out])
        go_round
        case rel => exact ⟨k + 1, by omega, by go_num, K1.out HX.out⟩
        case measure => simp [intOf]; omega
    · have hke : k = l.length := by omega
      subst hke
      go_wp2
      go_ret
      exact ⟨⟨_, rfl, .inl ⟨rfl, fun x hx => HA.out x (by rw [List.take_length]; exact hx)⟩⟩, rfl⟩
def BadB (l : List B) (b : Bool) : Prop := (b = false ∧ ∀ x ∈ l, un x ≤ INF) ∨ (b = true ∧ ∃ x ∈ l, ¬ un x ≤ INF)
set_option maxHeartbeats 400000 in
theorem containsBad_ok (l : List B) (p : Option Addr) (n c : Nat) (w : World) (hr : FltsAt w p n l) :
    Calls Try.prog 19 #[.slice p n c, .func (.func 20) #[] #[]] w fun e w' => (∃ b : Bool, e = .returned (.bool b) ∧ BadB l b) ∧ w = w' := by
  go_enter Try.func19, Try.ntmps19
  go_wp2_with (go_at_call 33; refine (indexBad_ok l _ _ _ _ hr).mono ?_; rintro e w' ⟨⟨i, rfl, hi⟩, rfl⟩; have HI := Lib.hid hi; clear hi)
  go_ret
  refine ⟨⟨_, rfl, ?_⟩, rfl⟩
  rcases HI.out with ⟨h1, h2⟩ | ⟨h1, h2⟩
  · exact .inl ⟨by simp; omega, h2⟩
  · exact .inr ⟨by simp; omega, h2⟩
theorem info_f64 : (Try.prog.info? 22).map (fun i => (i.zero, i.size, i.bytes)) = some (some (.float .f64 0), 1, 8) := by kernel_rfl
/-- append of listed times to a slice of the call's own -/
theorem app_f64 (w : World) {ops : Array Oper} {rest : List Oper} {o : Oper} {a : Act} {Q : Exit → Act → World → Prop} (hgd : o.guard = none) (s x : Operand)
    (ho : o.op = .call { callee := .builtin .append, args := #[s, x], argTypes := #[37, 37] })
    (base : Nat) (v : Value) (n : Nat) (xs : List B) (hs : a.eval s = v) (hown : w.ownsRow base 22 1 v n (flts xs))
    (ad : Addr) (m c : Nat) (l : List B) (hx : a.eval x = .slice (some ad) m c) (hl : l.length = m) (hcell : ∀ j u, (flts l)[j]? = some u → w.cell? (ad.add j) = some u)
    (hn : n + m ≤ 17592186044416) (hbase : base ≤ w.heap.size)
    (h : ∀ v' w', w'.ownsRow base 22 1 v' (n + m) (flts (xs ++ l)) → w.grownBy w' v.ownBlock → wpList Try.prog ops Q rest (a.put o.dst v') w') : wpList Try.prog ops Q (o :: rest) a w := by
  obtain ⟨i0, hi, hz0, hz1, hz2⟩ := info_parts info_f64
  refine wpList_append_own w hgd s x 37 ho base 22 i0 (.float .f64 0) 1 8 Try.underlying37 hi hz0 hz1 hz2 rfl (by decide) v n (flts xs) hs hown ad m c (flts l) hx (by simp [flts, hl]) hcell ?_ (by unfold maxLen; omega) (by omega) hbase (fun v' w' h1 h2 _ => h v' w' (by unfold flts at *; rw [List.map_append]; exact h1) h2)
  intro u hu
  obtain ⟨x, _, rfl⟩ := List.mem_map.1 hu
  rfl
theorem f64_own {w : World} {base n : Nat} {v : Value} {xs : List Value} (h : w.ownsRow base 22 1 v n xs) : ∃ (g : Option Addr) (c : Nat), v = .slice g n c := by
  rcases h.2 with ⟨rfl, rfl⟩ | ⟨g, cap, _, rfl, _⟩
  · have := h.1
    simp at this
    subst this
    exact ⟨none, 0, rfl⟩
  · exact ⟨_, _, rfl⟩
set_option maxHeartbeats 400000 in
theorem clone_ok (l : List B) (p : Option Addr) (n c : Nat) (w : World) (hr : FltsAt w p n l) :
    Calls Try.prog 21 #[.slice p n c] w fun e w' => (∃ (g : Option Addr) (cg : Nat), e = .returned (.slice g n cg) ∧ w'.ownsRow w.heap.size 22 1 (.slice g n cg) n (flts l)) ∧ Below w.heap.size w w' := by
  have hl := hr.len
  have hbig := hr.big
  cases p with
  | none =>
    have hn : n = 0 := by
      rcases Nat.eq_zero_or_pos n with h | h
      · exact h
      · obtain ⟨ad, h1, _⟩ := hr.reads.2 h; cases h1
    subst hn
    have hl0 : l = [] := List.length_eq_zero_iff.1 hl
    subst hl0
    have hnil := Lib.run_eql_slice_nil (P := Try.prog) w 37 22 none 0 c 0 0 Try.underlying37
    go_enter Try.func21, Try.ntmps21
    go_wp2
    go_ret
    exact ⟨⟨none, 0, rfl, World.ownsRow_nil _ _ _ _⟩, Below.refl _ _⟩
  | some ad =>
    have hsrc : ∀ j u, (flts l)[j]? = some u → (w.alloc (.cells #[] 22)).cell? (ad.add j) = some u := by
      intro j u hj
      have hjn : j < n := by
        have := (List.getElem?_eq_some_iff.1 hj).1
        simp [flts] at this; omega
      obtain ⟨ad', had, hb, _⟩ := hr.cell hjn
      obtain ⟨ad2, had2, _, hc⟩ := hr.reads.2 (by omega)
      injection had with had
      injection had2 with had2
      subst had had2
      rw [World.cell?_alloc_lt _ _ _ (by rw [block_of_add]; exact hb)]
      exact hc j u hj
    have hown : (w.alloc (.cells #[] 22)).ownsRow w.heap.size 22 1 (.slice (some ⟨w.heap.size, 0, none⟩) 0 0) 0 (flts []) :=
      World.ownsRow_made w #[] 0 (Nat.le_refl _) (Nat.zero_le _) rfl
    have hnil := Lib.run_eql_slice_nil (P := Try.prog) w 37 22 (some ad) n c 0 0 Try.underlying37
    go_enter Try.func21, Try.ntmps21
    go_wp2_with (at_builtin; refine app_f64 _ rfl _ _ rfl w.heap.size _ 0 [] rfl hown ad n c l rfl hl hsrc (by omega) (by simp) ?_; intro v' w' h1 h2; have HG := Lib.hid h2; clear h2)
    have H1 := Lib.hid h1
    clear h1
    obtain ⟨g, cg, rfl⟩ := f64_own H1.out
    go_ret
    rw [Nat.zero_add, List.nil_append] at H1
    exact ⟨⟨g, cg, by rw [Nat.zero_add]; rfl, H1.out⟩, ((Below.refl _ _).alloc (Nat.le_refl _) _).grown HG.out (by simp) (fun k hk => by cases hk; exact Nat.le_refl _)⟩
theorem w64_un_of {z : Nat} (h : (Lit.float .f64 z).wf = true) : ∃ x : B, z = un x := f64_of h
theorem run_addf_any (x y : Nat) (w : World) : ∃ (z : Nat) (w' : World), (binOp .add 22 (.float .f64 x) (.float .f64 y)).run Try.prog w = .ok (.float .f64 z) w' ∧ ∃ nq, w' = w.drewN nq := by
  cases h : floatBits .add .f64 x y with
  | some r => exact ⟨r, w, run_float_arith w .add 22 .f64 x y r h, 0, rfl⟩
  | none =>
    unfold floatBits at h
    simp only at h
    refine ⟨(Question.nanBits .f64 x y).cut (w.tape w.drawn (.nanBits .f64 x y)), w.drew, ?_, 1, rfl⟩
    show (Op.floatArith .add .f64 x y).run Try.prog w = _
    unfold Op.floatArith
    simp [h, Question.forced]
theorem drewN_trans (w : World) (a b : Nat) : ∃ n, (w.drewN a).drewN b = w.drewN n := ⟨a + b, by simp [World.drewN, Nat.add_assoc]⟩
set_option maxHeartbeats 1000000 in
theorem sum_any (l : List B) (p : Option Addr) (n c : Nat) (w : World) (hr : FltsAt w p n l) :
    Calls Try.prog 18 #[.slice p n c] w fun e w' => ∃ r nq : Nat, e = .returned (.float .f64 r) ∧ w' = w.drewN nq := by
  have hl := hr.len
  subst hl
  have hbig := hr.big
  go_enter Try.func18, Try.ntmps18
  go_wp2
  go_loopw [3, 8] (fun s i wr => ∃ (k : Nat) (r nq : Nat), k ≤ l.length ∧ i = .int .i64 k ∧ s = .float .f64 r ∧ wr = w.drewN nq) (fun _ i _ => l.length - (intOf i).toNat)
  case atStart => exact ⟨0, _, 0, Nat.zero_le _, rfl, rfl, rfl⟩
  case round =>
    obtain ⟨k, r, nq, hk, rfl, rfl, rfl⟩ := hrel
    by_cases hlt : k < l.length
    · obtain ⟨ad, rfl, _, hcell⟩ := hr.cell hlt
      have hcell' : (w.drewN nq).cell? (ad.add k) = some (.float .f64 (un (l.getD k 0#64))) := hcell
      generalize l.getD k 0#64 = x at hcell hcell'
      obtain ⟨z, w2, hadd, n2, hw2⟩ := run_addf_any r (un x) (w.drewN nq)
      obtain ⟨n3, hw3⟩ := drewN_trans w nq n2
      rw [hw2, hw3] at hadd
      clear hcell hr hw2 hw3
      go_wp2
      go_roundw
      case rel => exact ⟨k + 1, _, _, by omega, by go_num, rfl, rfl⟩
      case measure => simp [intOf]; omega
    · clear hr
      go_wp2_with (first | (go_at_call 32; refine (isnan_ok _ _).mono ?_; rintro e w' ⟨rfl, rfl⟩) | (go_at_call 13; refine (nan_ok _).mono ?_; rintro e w' ⟨rfl, rfl⟩))
      · go_ret
        exact ⟨_, _, rfl, rfl⟩
      · go_ret
        exact ⟨_, _, rfl, rfl⟩
theorem sumN_ge (l : List B) (h : ∀ x ∈ l, un x ≤ INF) : ∀ x ∈ l, un x ≤ sumN l := by
  suffices H : ∀ (l : List B) (s : Nat), s ≤ INF → (∀ x ∈ l, un x ≤ INF) → s ≤ l.foldl (fun s x => plus s (un x)) s ∧ ∀ x ∈ l, un x ≤ l.foldl (fun s x => plus s (un x)) s by
    intro x hx; unfold sumN; exact (H l 0 (Nat.zero_le _) h).2 x hx
  intro l
  induction l with
  | nil => exact fun s _ _ => ⟨Nat.le_refl _, fun x hx => by cases hx⟩
  | cons a l ih =>
    intro s hs hl
    obtain ⟨h1, h2⟩ := ih (plus s (un a)) (plus_le _ _) (fun x hx => hl x (List.mem_cons_of_mem _ hx))
    rw [List.foldl_cons]
    refine ⟨Nat.le_trans (le_plus _ hs) h1, fun x hx => ?_⟩
    rcases List.mem_cons.1 hx with rfl | hx
    · exact Nat.le_trans (le_plus_right _ (hl x List.mem_cons_self)) h1
    · exact h2 x hx
theorem ord_le_of {a b : Nat} (hb : b ≤ INF) (h : a ≤ b) : ordN a b ≤ 0 := by rw [ord_le, key_right (by omega) hb]; exact h
theorem flts_one (x : B) : flts [x] = [Value.float .f64 (un x)] := rfl
theorem most_sum {l : List B} {n : Nat} {y : B} (hA : ∀ x ∈ l, un x ≤ INF) (hl : l.length = n) (h : (n = 0 ∧ y = 0#64) ∨ Mx l n y) : ordN (un y) (sumN l) ≤ 0 := by
  rcases h with ⟨_, rfl⟩ | h
  · exact ord_le_of (sumN_le l) (Nat.zero_le _)
  · have hm := h.1
    rw [← hl, List.take_length] at hm
    exact ord_le_of (sumN_le l) (sumN_ge l hA y hm)
theorem bad_cases {l : List B} {x : B} {b : Bool} (hN : ¬((∀ x ∈ l, un x ≤ INF) ∧ un x ≤ INF)) (hb : BadB l b) : b = true ∨ (b = false ∧ rightN (un x) = false) := by
  rcases hb with ⟨h1, h2⟩ | ⟨h1, _⟩
  · right
    refine ⟨h1, ?_⟩
    rw [Bool.eq_false_iff]
    intro h3
    exact hN ⟨h2, (rightN_iff _).1 h3⟩
  · exact .inl h1
set_option maxHeartbeats 2000000 in
theorem spanSum_right (l : List B) (x : B) (p : Option Addr) (n c : Nat) (w : World) (hr : FltsAt w p n l) (hA : ∀ x ∈ l, un x ≤ INF) (hx : un x ≤ INF) :
    Calls Try.prog 6 #[.slice p n c, .float .f64 (un x)] w fun e w' => e = .returned (.bool true) ∧ Below w.heap.size w w' := by
  have hlen := hr.len
  have hbig := hr.big
  have HS := Lib.hid (sumN_le l)
  have HS2 := Lib.hid (sumN_le (l ++ [x]))
  have O2 : ordN (sumN l) (sumN (l ++ [x])) ≤ 0 := ord_le_of (sumN_le _) (by rw [sumN_snoc]; exact le_plus _ (sumN_le l))
  have O3 : ordN (un x) (sumN (l ++ [x])) ≤ 0 := ord_le_of (sumN_le _) (by rw [sumN_snoc]; exact le_plus_right _ hx)
  have HR1 := Lib.hid ((rightN_iff (un x)).2 hx)
  have HR2 := Lib.hid ((rightN_iff (sumN l)).2 (sumN_le l))
  have HX := Lib.hid hx
  have HA := Lib.hid hA
  have HF := Lib.hid hr
  have HAll : Hid (∀ y ∈ l ++ [x], un y ≤ INF) := by
    refine Lib.hid ?_
    intro y hy
    rcases List.mem_append.1 hy with h | h
    · exact hA y h
    · rw [List.mem_singleton.1 h]; exact hx
  clear hA hr hx
  go_enter Try.func6, Try.ntmps6
  go_wp2_with (first
    | (go_at_call 8; refine (spans_ok _).mono ?_; rintro e w1 ⟨rfl, hb1⟩)
    | (go_at_call 19; refine (containsBad_ok l _ _ _ _ (HF.out.below hb1)).mono ?_; rintro e w' ⟨⟨b, rfl, hb⟩, rfl⟩; obtain rfl : b = false := (by rcases hb with ⟨h, _⟩ | ⟨_, y, hy, hn⟩; (· exact h); (· exact absurd (HA.out y hy) hn)); clear hb)
    | (go_at_call 21; refine (clone_ok l _ _ _ _ (HF.out.below hb1)).mono ?_; rintro e w2 ⟨⟨g, cg, rfl, hown⟩, hb2⟩; have HO := Lib.hid hown; clear hown)
    | (go_at_call 16; refine (right_any (by first | exact W64.un _ | exact W64.of HS.out) _).mono ?_; rintro e w' ⟨rfl, rfl⟩; first | rw [HR1.out] | rw [HR2.out])
    | (go_at_call 18; with_reducible refine (sum_ok l HA.out p n c _ _ (HF.out.below hb1).reads ?_).mono ?_; (unfold maxLen; omega); (rintro e w' ⟨rfl, rfl⟩))
    | (at_builtin; refine app_f64 _ rfl _ _ rfl w1.heap.size _ n l rfl (HO.out.alloc _) ⟨w2.heap.size, 0, none⟩ 1 1 [x] rfl rfl ?c1 ?c2 ?c3 ?_; (· intro j u hj; (match j, hj with | 0, hj => (simp [flts] at hj; subst hj; simp [Addr.add]))); omega; (have := hb2.size; simp; omega);
        intro v' w3 h1 h2; obtain ⟨g3, c3, rfl⟩ := f64_own h1; have HB := Lib.hid ((hb2.alloc hb2.size _).grown h2 (by have := hb2.size; simp; omega) (fun k hk => by have := (HO.out.lt k hk).1; omega)); have HV := Lib.hid h1; clear h1 h2)
    | (go_at_call 18; refine (sum_ok (l ++ [x]) HAll.out _ _ _ _ _ (Reads.of_own HV.out) ?_).mono ?_; (unfold maxLen; omega); (rintro e w' ⟨rfl, rfl⟩))
    | (go_at_call 22; refine (most_any l _ _ _ _ ((HF.out.below hb1).below HB.out)).mono ?_; (rintro e w' ⟨⟨y, rfl, hy⟩, rfl⟩); have O1 := most_sum HA.out hlen hy; clear hy)
    | (go_at_call 9; refine (order_any (by first | exact W64.un _ | exact W64.of HS.out | exact W64.of HS2.out) (by first | exact W64.un _ | exact W64.of HS.out | exact W64.of HS2.out) _).mono ?_; rintro e w' ⟨rfl, rfl⟩))
  go_ret
  exact ⟨rfl, hb1.trans (HB.out.mono hb1.size)⟩
set_option maxHeartbeats 2000000 in
theorem spanSum_wrong (l : List B) (x : B) (p : Option Addr) (n c : Nat) (w : World) (hr : FltsAt w p n l) (hN : ¬((∀ x ∈ l, un x ≤ INF) ∧ un x ≤ INF)) :
    Calls Try.prog 6 #[.slice p n c, .float .f64 (un x)] w fun e w' => e = .returned (.bool true) ∧ Below w.heap.size w w' := by
  have HN := Lib.hid hN
  have HF := Lib.hid hr
  clear hN hr
  go_enter Try.func6, Try.ntmps6
  go_wp2_with (first
    | (go_at_call 8; refine (spans_ok _).mono ?_; rintro e w1 ⟨rfl, hb1⟩)
    | (go_at_call 18; refine (sum_any l _ _ _ _ (HF.out.below hb1)).mono ?_; (rintro e w' ⟨r, nq, rfl, rfl⟩))
    | (go_at_call 19; refine (containsBad_ok l _ _ _ _ (HF.out.below (below_drewN hb1 _))).mono ?_; (rintro e w' ⟨⟨b, rfl, hb⟩, rfl⟩); have hbx : b = true ∨ (b = false ∧ rightN (un x) = false) := bad_cases HN.out hb; clear hb; rcases hbx with rfl | ⟨rfl, hx⟩)
    | (go_at_call 16; refine (right_any (by first | exact W64.un _) _).mono ?_; rintro e w' ⟨rfl, rfl⟩; rw [hx]))
  all_goals go_ret
  all_goals exact ⟨rfl, below_drewN hb1 _⟩
theorem spanSum_walk (l : List B) (x : B) (p : Option Addr) (n c : Nat) (w : World) (hr : FltsAt w p n l) :
    Calls Try.prog 6 #[.slice p n c, .float .f64 (un x)] w fun e w' => e = .returned (.bool true) ∧ Below w.heap.size w w' := by
  by_cases h : (∀ x ∈ l, un x ≤ INF) ∧ un x ≤ INF
  · exact spanSum_right l x p n c w hr h.1 h.2
  · exact spanSum_wrong l x p n c w hr h
end Go.Proofs.Ytlhomgbibhacoaa
