/- The walks of slices.Clone, slices.ContainsFunc and span.Sum at any times; the law SpanSum. Conditions: the slices read as listed. -/
import Derived.Test.YtlhomgbibhacoaaDoorSpanMostW
import Derived.WalkSpells
import Derived.WalkSmall
namespace Go.Proofs.YtlhomgbibhacoaaDoor
open Go.RowKit
theorem rightN_iff (x : Nat) : rightN x = true ↔ x ≤ INF := by unfold rightN; simp
def BadAt (l : List B) (i : Int) : Prop := (i = -1 ∧ ∀ x ∈ l, un x ≤ INF) ∨ (0 ≤ i ∧ ∃ x ∈ l, ¬ un x ≤ INF)
def AllR (l : List B) (k : Nat) : Prop := ∀ x ∈ l.take k, un x ≤ INF
theorem allr_step {l : List B} {k : Nat} (hk : k < l.length) (h : AllR l k) (hx : rightN (un (l.getD k 0#64)) = true) : AllR l (k + 1) := by
  intro x hm
  rw [take_snoc_d hk] at hm
  rcases List.mem_append.1 hm with hm | hm
  · exact h x hm
  · rw [List.mem_singleton.1 hm]; exact (rightN_iff _).1 hx
theorem getD_mem {l : List B} {k : Nat} (hk : k < l.length) : l.getD k 0#64 ∈ l := by
  rw [List.getD_eq_getElem?_getD, List.getElem?_eq_getElem hk]; exact List.getElem_mem hk
def BadB (l : List B) (b : Bool) : Prop := (b = false ∧ ∀ x ∈ l, un x ≤ INF) ∨ (b = true ∧ ∃ x ∈ l, ¬ un x ≤ INF)
theorem info_f64 : (Tryd.prog.info? 22).map (fun i => (i.zero, i.size, i.bytes)) = some (some (.float .f64 0), 1, 8) := by kernel_rfl
/-- append of listed times to a slice of the call's own -/
theorem app_f64 (w : World) {ops : Array Oper} {rest : List Oper} {o : Oper} {a : Act} {Q : Exit → Act → World → Prop} (hgd : o.guard = none) (s x : Operand)
    (ho : o.op = .call { callee := .builtin .append, args := #[s, x], argTypes := #[32, 32] })
    (base : Nat) (v : Value) (n : Nat) (xs : List B) (hs : a.eval s = v) (hown : w.ownsRow base 22 1 v n (flts xs))
    (ad : Addr) (m c : Nat) (l : List B) (hx : a.eval x = .slice (some ad) m c) (hl : l.length = m) (hcell : ∀ j u, (flts l)[j]? = some u → w.cell? (ad.add j) = some u)
    (hn : n + m ≤ 17592186044416) (hbase : base ≤ w.heap.size)
    (h : ∀ v' w', w'.ownsRow base 22 1 v' (n + m) (flts (xs ++ l)) → w.grownBy w' v.ownBlock → wpList Tryd.prog ops Q rest (a.put o.dst v') w') : wpList Tryd.prog ops Q (o :: rest) a w := by
  obtain ⟨i0, hi, hz0, hz1, hz2⟩ := info_parts info_f64
  refine wpList_append_own w hgd s x 32 ho base 22 i0 (.float .f64 0) 1 8 Tryd.underlying32 hi hz0 hz1 hz2 rfl (by decide) v n (flts xs) hs hown ad m c (flts l) hx (by simp [flts, hl]) hcell ?_ (by unfold maxLen; omega) (by omega) hbase (fun v' w' h1 h2 _ => h v' w' (by unfold flts at *; rw [List.map_append]; exact h1) h2)
  intro u hu
  obtain ⟨x, _, rfl⟩ := List.mem_map.1 hu
  rfl
theorem f64_own {w : World} {base n : Nat} {v : Value} {xs : List Value} (h : w.ownsRow base 22 1 v n xs) : ∃ (g : Option Addr) (c : Nat), v = .slice g n c := by
  rcases h.2 with ⟨rfl, rfl⟩ | ⟨g, cap, _, rfl, _⟩
  · have := h.1
    simp at this
    subst this
    exact ⟨none, 0, rfl⟩
  · exact ⟨_, _, rfl⟩
set_option maxHeartbeats 400000 in
theorem clone_ok (l : List B) (p : Option Addr) (n c : Nat) (w : World) (hr : FltsAt w p n l) :
    Calls Tryd.prog 14 #[.slice p n c] w fun e w' => (∃ (g : Option Addr) (cg : Nat), e = .returned (.slice g n cg) ∧ w'.ownsRow w.heap.size 22 1 (.slice g n cg) n (flts l)) ∧ Below w.heap.size w w' := by
  have hl := hr.len
  have hbig := hr.big
  cases p with
  | none =>
    have hn : n = 0 := by
      rcases Nat.eq_zero_or_pos n with h | h
      · exact h
      · obtain ⟨ad, h1, _⟩ := hr.reads.2 h; cases h1
    subst hn
    have hl0 : l = [] := List.length_eq_zero_iff.1 hl
    subst hl0
    have hnil := Lib.run_eql_slice_nil (P := Tryd.prog) w 32 22 none 0 c 0 0 Tryd.underlying32
    go_enter Tryd.func14, Tryd.ntmps14
    go_wp2
    go_ret
    exact ⟨⟨none, 0, rfl, World.ownsRow_nil _ _ _ _⟩, Below.refl _ _⟩
  | some ad =>
    have hsrc : ∀ j u, (flts l)[j]? = some u → (w.alloc (.cells #[] 22)).cell? (ad.add j) = some u := by
      intro j u hj
      have hjn : j < n := by
        have := (List.getElem?_eq_some_iff.1 hj).1
        simp [flts] at this; omega
      obtain ⟨ad', had, hb, _⟩ := hr.cell hjn
      obtain ⟨ad2, had2, _, hc⟩ := hr.reads.2 (by omega)
      injection had with had
      injection had2 with had2
      subst had had2
      rw [World.cell?_alloc_lt _ _ _ (by rw [block_of_add]; exact hb)]
      exact hc j u hj
    have hown : (w.alloc (.cells #[] 22)).ownsRow w.heap.size 22 1 (.slice (some ⟨w.heap.size, 0, none⟩) 0 0) 0 (flts []) :=
      World.ownsRow_made w #[] 0 (Nat.le_refl _) (Nat.zero_le _) rfl
    have hnil := Lib.run_eql_slice_nil (P := Tryd.prog) w 32 22 (some ad) n c 0 0 Tryd.underlying32
    go_enter Tryd.func14, Tryd.ntmps14
    go_wp2_with (at_builtin; refine app_f64 _ rfl _ _ rfl w.heap.size _ 0 [] rfl hown ad n c l rfl hl hsrc (by omega) (by simp) ?_; intro v' w' h1 h2; have HG := Lib.hid h2; clear h2)
    have H1 := Lib.hid h1
    clear h1
    obtain ⟨g, cg, rfl⟩ := f64_own H1.out
    go_ret
    rw [Nat.zero_add, List.nil_append] at H1
    exact ⟨⟨g, cg, by rw [Nat.zero_add]; rfl, H1.out⟩, ((Below.refl _ _).alloc (Nat.le_refl _) _).grown HG.out (by simp) (fun k hk => by cases hk; exact Nat.le_refl _)⟩
theorem w64_un_of {z : Nat} (h : (Lit.float .f64 z).wf = true) : ∃ x : B, z = un x := f64_of h
theorem run_addf_any (x y : Nat) (w : World) : ∃ (z : Nat) (w' : World), (binOp .add 22 (.float .f64 x) (.float .f64 y)).run Tryd.prog w = .ok (.float .f64 z) w' ∧ ∃ nq, w' = w.drewN nq := by
  cases h : floatBits .add .f64 x y with
  | some r => exact ⟨r, w, run_float_arith w .add 22 .f64 x y r h, 0, rfl⟩
  | none =>
    unfold floatBits at h
    simp only at h
    refine ⟨(Question.nanBits .f64 x y).cut (w.tape w.drawn (.nanBits .f64 x y)), w.drew, ?_, 1, rfl⟩
    show (Op.floatArith .add .f64 x y).run Tryd.prog w = _
    unfold Op.floatArith
    simp [h, Question.forced]
theorem drewN_trans (w : World) (a b : Nat) : ∃ n, (w.drewN a).drewN b = w.drewN n := ⟨a + b, by simp [World.drewN, Nat.add_assoc]⟩
set_option maxHeartbeats 1000000 in
theorem sum_any (l : List B) (p : Option Addr) (n c : Nat) (w : World) (hr : FltsAt w p n l) :
    Calls Tryd.prog 19 #[.slice p n c] w fun e w' => ∃ r nq : Nat, e = .returned (.float .f64 r) ∧ w' = w.drewN nq := by
  have hl := hr.len
  subst hl
  have hbig := hr.big
  go_enter Tryd.func19, Tryd.ntmps19
  go_wp2
  go_loopw [3, 8] (fun s i wr => ∃ (k : Nat) (r nq : Nat), k ≤ l.length ∧ i = .int .i64 k ∧ s = .float .f64 r ∧ wr = w.drewN nq) (fun _ i _ => l.length - (intOf i).toNat)
  case atStart => exact ⟨0, _, 0, Nat.zero_le _, rfl, rfl, rfl⟩
  case round =>
    obtain ⟨k, r, nq, hk, rfl, rfl, rfl⟩ := hrel
    by_cases hlt : k < l.length
    · obtain ⟨ad, rfl, _, hcell⟩ := hr.cell hlt
      have hcell' : (w.drewN nq).cell? (ad.add k) = some (.float .f64 (un (l.getD k 0#64))) := hcell
      generalize l.getD k 0#64 = x at hcell hcell'
      obtain ⟨z, w2, hadd, n2, hw2⟩ := run_addf_any r (un x) (w.drewN nq)
      obtain ⟨n3, hw3⟩ := drewN_trans w nq n2
      rw [hw2, hw3] at hadd
      clear hcell hr hw2 hw3
      go_wp2
      go_roundw
      case rel => exact ⟨k + 1, _, _, by omega, by go_num, rfl, rfl⟩
      case measure => simp [intOf]; omega
    · clear hr
      go_wp2_with (first | (go_at_call 35; refine (isnan_ok _ _).mono ?_; rintro e w' ⟨rfl, rfl⟩) | (go_at_call 36; refine (nan_ok _).mono ?_; rintro e w' ⟨rfl, rfl⟩))
      · go_ret
        exact ⟨_, _, rfl, rfl⟩
      · go_ret
        exact ⟨_, _, rfl, rfl⟩
theorem sumN_ge (l : List B) (h : ∀ x ∈ l, un x ≤ INF) : ∀ x ∈ l, un x ≤ sumN l := by
  suffices H : ∀ (l : List B) (s : Nat), s ≤ INF → (∀ x ∈ l, un x ≤ INF) → s ≤ l.foldl (fun s x => plus s (un x)) s ∧ ∀ x ∈ l, un x ≤ l.foldl (fun s x => plus s (un x)) s by
    intro x hx; unfold sumN; exact (H l 0 (Nat.zero_le _) h).2 x hx
  intro l
  induction l with
  | nil => exact fun s _ _ => ⟨Nat.le_refl _, fun x hx => by cases hx⟩
  | cons a l ih =>
    intro s hs hl
    obtain ⟨h1, h2⟩ := ih (plus s (un a)) (plus_le _ _) (fun x hx => hl x (List.mem_cons_of_mem _ hx))
    rw [List.foldl_cons]
    refine ⟨Nat.le_trans (le_plus _ hs) h1, fun x hx => ?_⟩
    rcases List.mem_cons.1 hx with rfl | hx
    · exact Nat.le_trans (le_plus_right _ (hl x List.mem_cons_self)) h1
    · exact h2 x hx
theorem ord_le_of {a b : Nat} (hb : b ≤ INF) (h : a ≤ b) : ordN a b ≤ 0 := by rw [ord_le, key_right (by omega) hb]; exact h
theorem flts_one (x : B) : flts [x] = [Value.float .f64 (un x)] := rfl
theorem most_sum {l : List B} {n : Nat} {y : B} (hA : ∀ x ∈ l, un x ≤ INF) (hl : l.length = n) (h : (n = 0 ∧ y = 0#64) ∨ Mx l n y) : ordN (un y) (sumN l) ≤ 0 := by
  rcases h with ⟨_, rfl⟩ | h
  · exact ord_le_of (sumN_le l) (Nat.zero_le _)
  · have hm := h.1
    rw [← hl, List.take_length] at hm
    exact ord_le_of (sumN_le l) (sumN_ge l hA y hm)
theorem bad_cases {l : List B} {x : B} {b : Bool} (hN : ¬((∀ x ∈ l, un x ≤ INF) ∧ un x ≤ INF)) (hb : BadB l b) : b = true ∨ (b = false ∧ rightN (un x) = false) := by
  rcases hb with ⟨h1, h2⟩ | ⟨h1, _⟩
  · right
    refine ⟨h1, ?_⟩
    rw [Bool.eq_false_iff]
    intro h3
    exact hN ⟨h2, (rightN_iff _).1 h3⟩
  · exact .inl h1
end Go.Proofs.YtlhomgbibhacoaaDoor
