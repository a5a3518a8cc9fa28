/- Numbers that are tied, found in one walk (TARJAN): plainly. Conditions: none. -/
import Derived.Test.YtklikjjipoghlaaDoorLevel
namespace Go.Proofs.YtklikjjipoghlaaDoor
/-- the walker: when each was met, how low it comes back to, who is at hand, the number of those met, the parts found -/
structure TS where
  met : List Nat
  low : List Nat
  st : List Nat
  on : B
  now : Nat
  out : List B
def TS.mt (t : TS) (x : Nat) : Nat := t.met.getD x 0
def TS.lw (t : TS) (x : Nat) : Nat := t.low.getD x 0
def TS.dn (t : TS) (x : Nat) : Prop := ∃ s ∈ t.out, has s x = true
/-- a part: those that come to each other -/
def Tied (r : List B) (s : B) : Prop := (∃ x, has s x = true) ∧ ∀ x y, has s x = true → (has s y = true ↔ Rch r x y ∧ Rch r y x)
/-- how the walker stands; G: who is at work -/
structure WW (r : List B) (G : Nat → Prop) (t : TS) : Prop where
  lm : t.met.length = r.length
  ll : t.low.length = r.length
  le : ∀ x, t.mt x ≤ t.now
  on_ : ∀ x, has t.on x = true ↔ x ∈ t.st
  vs : ∀ x, t.mt x ≠ 0 ↔ x ∈ t.st ∨ t.dn x
  dj : ∀ x, x ∈ t.st → ¬ t.dn x
  gs : ∀ x, G x → x ∈ t.st
  ex : ∀ x y, t.mt x ≠ 0 → ¬ G x → has (row r x) y = true → t.mt y ≠ 0
  so : t.st.Pairwise fun a b => t.mt a < t.mt b
  dw : ∀ y, y ∈ t.st → ∃ x, G x ∧ t.mt x ≤ t.mt y ∧ Rch r y x
  up : ∀ x y, G x → y ∈ t.st → t.mt x ≤ t.mt y → Rch r x y
  sc : ∀ s ∈ t.out, Tied r s
  ds : t.out.Pairwise fun a b => a &&& b = 0#64
  cl : ∀ x y, t.dn x → has (row r x) y = true → t.dn y
def Gi (G : Nat → Prop) (i : Nat) (x : Nat) : Prop := G x ∨ x = i
/-- i is at work: those of ks are looked at -/
structure Mid (r : List B) (G : Nat → Prop) (t0 : TS) (i : Nat) (ks : Nat → Prop) (t : TS) : Prop where
  ww : WW r (Gi G i) t
  old : ∀ x, t0.mt x ≠ 0 → t.mt x = t0.mt x
  mi : t.mt i = t0.now + 1
  now : t0.now + 1 ≤ t.now
  seg : ∃ sg, t.st = t0.st ++ i :: sg
  lo1 : t.lw i ≤ t.mt i
  lo2 : ∃ y ∈ t.st, t.mt y = t.lw i ∧ Rch r i y
  lo3 : ∀ x y, x ∈ t.st → x ∉ t0.st → has (row r x) y = true → y ∈ t0.st → (x ≠ i ∨ ks y) → t.lw i ≤ t.mt y
  ch : ∀ y, ks y → has (row r i) y = true → t.mt y ≠ 0
  oll : ∀ x, t0.mt x ≠ 0 → t.lw x = t0.lw x
/-- i is done -/
structure Aft (r : List B) (G : Nat → Prop) (t0 : TS) (i : Nat) (t : TS) : Prop where
  ww : WW r G t
  old : ∀ x, t0.mt x ≠ 0 → t.mt x = t0.mt x
  mi : t.mt i = t0.now + 1
  now : t0.now + 1 ≤ t.now
  seg : ∃ sg, t.st = t0.st ++ sg
  lo1 : t.lw i ≤ t.mt i
  lo2 : (∃ y ∈ t.st, t.mt y = t.lw i ∧ Rch r i y) ∨ t.lw i = t.mt i
  lo3 : ∀ x y, x ∈ t.st → x ∉ t0.st → has (row r x) y = true → y ∈ t0.st → t.lw i ≤ t.mt y
  oll : ∀ x, t0.mt x ≠ 0 → t.lw x = t0.lw x
/-- i is met -/
def push (t : TS) (i : Nat) : TS := ⟨t.met.set i (t.now + 1), t.low.set i (t.now + 1), t.st ++ [i], t.on ||| 1#64 <<< i, t.now + 1, t.out⟩
def lows (t : TS) (i m : Nat) : TS := ⟨t.met, t.low.set i m, t.st, t.on, t.now, t.out⟩
/-- the part of i is found -/
def popP (t : TS) (st sg : List Nat) : TS := ⟨t.met, t.low, st, t.on &&& ~~~ofL sg, t.now, t.out ++ [ofL sg]⟩
theorem has_bit_orS {s : B} {k m : Nat} (hk : k < 64) : has (s ||| 1#64 <<< k) m = true ↔ has s m = true ∨ m = k := by
  rw [has_or, Bool.or_eq_true]
  have h1 : has (1#64 <<< k) m = true ↔ m = k := by
    rcases Nat.lt_or_ge m 64 with h | h
    · rw [has_one k m h]; simp
    · rw [has_ge h]; simp; omega
  rw [h1]
theorem has_ofL' {xs : List Nat} (h : ∀ x ∈ xs, x < 64) {n : Nat} : has (ofL xs) n = true ↔ n ∈ xs := by
  rcases Nat.lt_or_ge n 64 with h1 | h1
  · rw [has_ofL _ _ h1, decide_eq_true_iff]
  · rw [has_ge h1]
    constructor
    · intro h2; cases h2
    · intro h2; have := h n h2; omega
section
variable {r : List B} {G : Nat → Prop} {t0 t t1 : TS} {i k : Nat} {ks : Nat → Prop}
theorem mt_push (h : i < t.met.length) (x : Nat) : (push t i).mt x = if i = x then t.now + 1 else t.mt x := getD_set t.met i _ x h
theorem lw_push (h : i < t.low.length) (x : Nat) : (push t i).lw x = if i = x then t.now + 1 else t.lw x := getD_set t.low i _ x h
theorem lw_lows (h : i < t.low.length) (m x : Nat) : (lows t i m).lw x = if i = x then m else t.lw x := getD_set t.low i m x h
theorem WW.lt (h : WW r G t) {x : Nat} (hx : t.mt x ≠ 0) : x < r.length := by
  rcases Nat.lt_or_ge x r.length with h1 | h1
  · exact h1
  · exfalso; apply hx
    unfold TS.mt
    rw [← h.lm] at h1
    simp [h1]
theorem WW.st_vis (h : WW r G t) {x : Nat} (hx : x ∈ t.st) : t.mt x ≠ 0 := (h.vs x).2 (.inl hx)
theorem WW.nodup (h : WW r G t) : t.st.Nodup := h.so.imp fun {a b} hab he => by subst he; omega
/-- going in -/
theorem mid_enter (hv : Valid r) (h : WW r G t) (hi : i < r.length) (h0 : t.mt i = 0) (hg : ∀ g, G g → Rch r g i) : Mid r G t i (fun _ => False) (push t i) := by
  have e1 := mt_push (t := t) (i := i) (by rw [h.lm]; exact hi)
  have e2 := lw_push (t := t) (i := i) (by rw [h.ll]; exact hi)
  have hi64 : i < 64 := by have := hv.1; omega
  have hni : ∀ x, t.mt x ≠ 0 → i ≠ x := fun x hx he => by subst he; exact hx h0
  have e1o : ∀ x, t.mt x ≠ 0 → (push t i).mt x = t.mt x := fun x hx => by rw [e1, if_neg (hni x hx)]
  have e1i : (push t i).mt i = t.now + 1 := by rw [e1, if_pos rfl]
  have hnG : ¬ G i := fun hh => h.st_vis (h.gs i hh) h0
  have hst : ∀ x, x ∈ (push t i).st ↔ x ∈ t.st ∨ x = i := fun x => by show x ∈ t.st ++ [i] ↔ _; simp
  have hdn : ∀ x, (push t i).dn x ↔ t.dn x := fun x => Iff.rfl
  have hvis : ∀ x, (push t i).mt x ≠ 0 ↔ t.mt x ≠ 0 ∨ x = i := fun x => by
    rw [e1]
    by_cases hx : i = x
    · subst hx; simp
    · rw [if_neg hx]; constructor
      · exact .inl
      · rintro (h1 | h1)
        · exact h1
        · exact absurd h1.symm hx
  refine ⟨⟨?_, ?_, ?_, ?_, ?_, ?_, ?_, ?_, ?_, ?_, ?_, h.sc, h.ds, h.cl⟩, e1o, e1i, Nat.le_refl _, ⟨[], rfl⟩, ?_, ?_, ?_, fun y hy => hy.elim, ?_⟩
  · show (t.met.set i _).length = _; rw [List.length_set]; exact h.lm
  · show (t.low.set i _).length = _; rw [List.length_set]; exact h.ll
  · intro x; rw [e1]; have := h.le x; show _ ≤ t.now + 1; split <;> omega
  · intro x; show has (t.on ||| 1#64 <<< i) x = true ↔ _; rw [has_bit_orS hi64, h.on_, hst]
  · intro x; rw [hvis, hst, h.vs, hdn]; constructor
    · rintro ((h1 | h1) | h1)
      · exact .inl (.inl h1)
      · exact .inr h1
      · exact .inl (.inr h1)
    · rintro ((h1 | h1) | h1)
      · exact .inl (.inl h1)
      · exact .inr h1
      · exact .inl (.inr h1)
  · intro x hx hd
    rcases (hst x).1 hx with h1 | rfl
    · exact h.dj x h1 hd
    · exact (h.vs x).2 (.inr hd) h0
  · rintro x (hx | rfl)
    · exact (hst x).2 (.inl (h.gs x hx))
    · exact (hst x).2 (.inr rfl)
  · intro x y hx hnx hxy
    rcases (hvis x).1 hx with h1 | rfl
    · exact (hvis y).2 (.inl (h.ex x y h1 (fun hh => hnx (.inl hh)) hxy))
    · exact absurd (.inr rfl) hnx
  · show (t.st ++ [i]).Pairwise _
    rw [List.pairwise_append]
    refine ⟨h.so.imp_of_mem fun {a b} ha hb hab => ?_, List.pairwise_singleton _ _, fun a ha b hb => ?_⟩
    · rw [e1o a (h.st_vis ha), e1o b (h.st_vis hb)]; exact hab
    · have : b = i := by simpa using hb
      subst this
      rw [e1o a (h.st_vis ha), e1i]
      have := h.le a; omega
  · intro y hy
    rcases (hst y).1 hy with h1 | rfl
    · obtain ⟨x, hx, h2, h3⟩ := h.dw y h1
      refine ⟨x, .inl hx, ?_, h3⟩
      rw [e1o x (h.st_vis (h.gs x hx)), e1o y (h.st_vis h1)]; exact h2
    · exact ⟨y, .inr rfl, Nat.le_refl _, .refl _⟩
  · rintro x y hx hy hxy
    rcases (hst y).1 hy with h1 | rfl
    · rw [e1o y (h.st_vis h1)] at hxy
      rcases hx with hx | rfl
      · rw [e1o x (h.st_vis (h.gs x hx))] at hxy
        exact h.up x y hx h1 hxy
      · rw [e1i] at hxy; have := h.le y; omega
    · rcases hx with hx | rfl
      · exact hg x hx
      · exact .refl _
  · rw [e1i, e2, if_pos rfl]; exact Nat.le_refl _
  · exact ⟨i, (hst i).2 (.inr rfl), by rw [e1i, e2, if_pos rfl], .refl _⟩
  · intro x y hx hxn _ _ hc
    rcases (hst x).1 hx with h1 | rfl
    · exact absurd h1 hxn
    · rcases hc with h1 | h1
      · exact absurd rfl h1
      · exact h1.elim
  · intro x hx; rw [e2, if_neg (hni x hx)]
theorem mid_pre (hg : ∀ g, G g → Rch r g i) (hk : has (row r i) k = true) : ∀ g, Gi G i g → Rch r g k := by
  rintro g (h1 | rfl)
  · exact .tail (hg g h1) hk
  · exact .tail (.refl _) hk
/-- what was done to low alone -/
theorem ww_lows {m : Nat} (h : WW r G t) : WW r G (lows t i m) :=
  ⟨h.lm, by show (t.low.set i m).length = _; rw [List.length_set]; exact h.ll, h.le, h.on_, h.vs, h.dj, h.gs, h.ex, h.so, h.dw, h.up, h.sc, h.ds, h.cl⟩
/-- a child that is new was walked -/
theorem mid_new (h : Mid r G t0 i ks t) (h0i : t0.mt i = 0) (hk : has (row r i) k = true) (hk0 : t.mt k = 0) (hp : Aft r (Gi G i) t k t1) :
    Mid r G t0 i (fun y => ks y ∨ y = k) (lows t1 i (min (t1.lw i) (t1.lw k))) := by
  have hiv : t.mt i ≠ 0 := by rw [h.mi]; omega
  have hil : i < t1.low.length := by rw [hp.ww.ll]; exact row_lt hk
  have e2 := lw_lows (t := t1) (i := i) hil (min (t1.lw i) (t1.lw k))
  have hli : (lows t1 i (min (t1.lw i) (t1.lw k))).lw i = min (t1.lw i) (t1.lw k) := by rw [e2, if_pos rfl]
  have hlo := hp.oll i hiv
  have hmi := hp.old i hiv
  obtain ⟨sg, hsg⟩ := h.seg
  obtain ⟨sk, hsk⟩ := hp.seg
  have hold : ∀ x, t0.mt x ≠ 0 → t.mt x ≠ 0 := fun x hx => by rw [h.old x hx]; exact hx
  refine ⟨ww_lows hp.ww, fun x hx => (hp.old x (hold x hx)).trans (h.old x hx), hmi.trans h.mi, ?_, ⟨sg ++ sk, ?_⟩, ?_, ?_, ?_, ?_, ?_⟩
  · have := h.now; have := hp.now; show _ ≤ t1.now; omega
  · show t1.st = _; rw [hsk, hsg]; simp
  · rw [hli]; have := h.lo1; show _ ≤ t1.mt i; omega
  · rw [hli]
    have hmem : ∀ y, y ∈ t.st → y ∈ t1.st := fun y hy => by rw [hsk]; exact List.mem_append_left _ hy
    obtain ⟨y, hy, hy1, hy2⟩ := h.lo2
    have hyo := hp.old y (h.ww.st_vis hy)
    by_cases hc : t1.lw i ≤ t1.lw k
    · refine ⟨y, hmem y hy, ?_, hy2⟩
      show t1.mt y = _; omega
    · rcases hp.lo2 with ⟨z, hz, hz1, hz2⟩ | hz
      · refine ⟨z, hz, ?_, .head hk hz2⟩
        show t1.mt z = _; omega
      · exfalso
        have h1 := hp.mi
        have h2 := h.lo1
        have h3 := h.ww.le i
        omega
  · intro x y hx hxn hxy hy hc
    rw [hli]
    show _ ≤ t1.mt y
    have hyt : y ∈ t.st := by rw [hsg]; exact List.mem_append_left _ hy
    have hyo := hp.old y (h.ww.st_vis hyt)
    by_cases hxt : x ∈ t.st
    · by_cases hxi : x = i
      · subst hxi
        rcases hc with h1 | h1
        · exact absurd rfl h1
        · rcases h1 with h1 | rfl
          · have := h.lo3 x y hxt hxn hxy hy (.inr h1); omega
          · exact absurd hk0 (h.ww.st_vis hyt)
      · have := h.lo3 x y hxt hxn hxy hy (.inl hxi); omega
    · have := hp.lo3 x y hx hxt hxy hyt; omega
  · intro y hy hiy
    show t1.mt y ≠ 0
    rcases hy with hy | rfl
    · have := h.ch y hy hiy
      rw [hp.old y this]; exact this
    · rw [hp.mi]; omega
  · intro x hx
    have hne : i ≠ x := fun he => by subst he; exact hx h0i
    rw [e2, if_neg hne, hp.oll x (hold x hx), h.oll x hx]
/-- a child that is at hand -/
theorem mid_on (h : Mid r G t0 i ks t) (h0i : t0.mt i = 0) (hk : has (row r i) k = true) (hon : has t.on k = true) :
    Mid r G t0 i (fun y => ks y ∨ y = k) (lows t i (min (t.lw i) (t.mt k))) := by
  have hil : i < t.low.length := by rw [h.ww.ll]; exact row_lt hk
  have e2 := lw_lows (t := t) (i := i) hil (min (t.lw i) (t.mt k))
  have hli : (lows t i (min (t.lw i) (t.mt k))).lw i = min (t.lw i) (t.mt k) := by rw [e2, if_pos rfl]
  have hks := (h.ww.on_ k).1 hon
  refine ⟨ww_lows h.ww, h.old, h.mi, h.now, h.seg, ?_, ?_, ?_, ?_, ?_⟩
  · rw [hli]; have := h.lo1; show _ ≤ t.mt i; omega
  · rw [hli]
    obtain ⟨y, hy, hy1, hy2⟩ := h.lo2
    by_cases hc : t.lw i ≤ t.mt k
    · exact ⟨y, hy, by show t.mt y = _; omega, hy2⟩
    · exact ⟨k, hks, by show t.mt k = _; omega, .tail (.refl _) hk⟩
  · intro x y hx hxn hxy hy hc
    rw [hli]
    show _ ≤ t.mt y
    rcases hc with h1 | h1
    · have := h.lo3 x y hx hxn hxy hy (.inl h1); omega
    · rcases h1 with h1 | rfl
      · have := h.lo3 x y hx hxn hxy hy (.inr h1); omega
      · omega
  · intro y hy hiy
    show t.mt y ≠ 0
    rcases hy with hy | rfl
    · exact h.ch y hy hiy
    · exact h.ww.st_vis hks
  · intro x hx
    have hne : i ≠ x := fun he => by subst he; exact hx h0i
    rw [e2, if_neg hne]; exact h.oll x hx
/-- a child that is done with -/
theorem mid_out (h : Mid r G t0 i ks t) (hk0 : t.mt k ≠ 0) (hon : has t.on k = false) : Mid r G t0 i (fun y => ks y ∨ y = k) t := by
  have hks : k ∉ t.st := fun hh => by rw [(h.ww.on_ k).2 hh] at hon; cases hon
  obtain ⟨sg, hsg⟩ := h.seg
  refine ⟨h.ww, h.old, h.mi, h.now, h.seg, h.lo1, h.lo2, ?_, ?_, h.oll⟩
  · intro x y hx hxn hxy hy hc
    rcases hc with h1 | h1
    · exact h.lo3 x y hx hxn hxy hy (.inl h1)
    · rcases h1 with h1 | rfl
      · exact h.lo3 x y hx hxn hxy hy (.inr h1)
      · exact absurd (by rw [hsg]; exact List.mem_append_left _ hy) hks
  · rintro y (hy | rfl) hiy
    · exact h.ch y hy hiy
    · exact hk0
/-- i comes back to one before it -/
theorem aft_stay (hw0 : WW r G t0) (h : Mid r G t0 i ks t) (hks : ∀ y, has (row r i) y = true → ks y) (hne : t.lw i ≠ t.mt i) : Aft r G t0 i t := by
  obtain ⟨sg, hsg⟩ := h.seg
  have hlt : t.lw i < t.mt i := by have := h.lo1; omega
  have hi : i ∈ t.st := by rw [hsg]; simp
  obtain ⟨z, hz, hz1, hz2⟩ := h.lo2
  have hso := h.ww.so
  rw [hsg, List.pairwise_append, List.pairwise_cons] at hso
  have hz0 : z ∈ t0.st := by
    rw [hsg] at hz
    rcases List.mem_append.1 hz with h1 | h1
    · exact h1
    · rcases List.mem_cons.1 h1 with rfl | h2
      · omega
      · have := hso.2.1.1 z h2; omega
  obtain ⟨x, hx, hx1, hx2⟩ := hw0.dw z hz0
  have hzo := h.old z (hw0.st_vis hz0)
  have hxo := h.old x (hw0.st_vis (hw0.gs x hx))
  refine ⟨⟨h.ww.lm, h.ww.ll, h.ww.le, h.ww.on_, h.ww.vs, h.ww.dj, fun y hy => h.ww.gs y (.inl hy), ?_, h.ww.so, ?_, fun a b ha hb hab => h.ww.up a b (.inl ha) hb hab, h.ww.sc, h.ww.ds, h.ww.cl⟩, h.old, h.mi, h.now, ⟨_, hsg⟩, h.lo1, .inl h.lo2, ?_, h.oll⟩
  · intro a b ha hna hab
    by_cases hai : a = i
    · subst hai; exact h.ch b (hks b hab) hab
    · exact h.ww.ex a b ha (fun hh => by rcases hh with h1 | h1; exact hna h1; exact hai h1) hab
  · intro y hy
    obtain ⟨g, hg, hg1, hg2⟩ := h.ww.dw y hy
    rcases hg with hg | rfl
    · exact ⟨g, hg, hg1, hg2⟩
    · exact ⟨x, hx, by omega, (hg2.trans hz2).trans hx2⟩
  · intro a b ha hna hab hb
    exact h.lo3 a b ha hna hab hb (by by_cases hai : a = i; · subst hai; exact .inr (hks b hab)
                                      · exact .inl hai)
/-- i is the first of its part -/
theorem aft_pop (hv : Valid r) (hw0 : WW r G t0) (h : Mid r G t0 i ks t) (hks : ∀ y, has (row r i) y = true → ks y) (heq : t.lw i = t.mt i) {sg : List Nat} (hsg : t.st = t0.st ++ sg) (hi : ∃ tl, sg = i :: tl) :
    Aft r G t0 i (popP t t0.st sg) := by
  have hnd := h.ww.nodup
  rw [hsg, List.nodup_append] at hnd
  have hmem : ∀ x, x ∈ t.st ↔ x ∈ t0.st ∨ x ∈ sg := fun x => by rw [hsg, List.mem_append]
  have hlt64 : ∀ x ∈ sg, x < 64 := fun x hx => by
    have := h.ww.lt (h.ww.st_vis ((hmem x).2 (.inr hx))); have := hv.1; omega
  have hhs := fun n => has_ofL' (xs := sg) hlt64 (n := n)
  obtain ⟨tl, htl⟩ := hi
  have hisg : i ∈ sg := by rw [htl]; simp
  have hso := h.ww.so
  rw [hsg, List.pairwise_append] at hso
  have hge : ∀ x ∈ sg, t.mt i ≤ t.mt x := by
    intro x hx
    rw [htl] at hx
    rcases List.mem_cons.1 hx with rfl | h2
    · exact Nat.le_refl _
    · have h3 := hso.2.1
      rw [htl, List.pairwise_cons] at h3
      exact Nat.le_of_lt (h3.1 x h2)
  have hlo : ∀ x ∈ t0.st, t.mt x < t.mt i := fun x hx => hso.2.2 x hx i hisg
  -- edges out of the part
  have hedge : ∀ x y, x ∈ sg → has (row r x) y = true → y ∈ sg ∨ t.dn y := by
    intro x y hx hxy
    have hxs : x ∈ t.st := (hmem x).2 (.inr hx)
    have hx0 : x ∉ t0.st := fun hh => hnd.2.2 x hh x hx rfl
    have hyv : t.mt y ≠ 0 := by
      by_cases hxi : x = i
      · subst hxi; exact h.ch y (hks y hxy) hxy
      · refine h.ww.ex x y (h.ww.st_vis hxs) ?_ hxy
        rintro (hh | hh)
        · exact hx0 (hw0.gs x hh)
        · exact hxi hh
    rcases (h.ww.vs y).1 hyv with h1 | h1
    · rcases (hmem y).1 h1 with h2 | h2
      · have h3 := h.lo3 x y hxs hx0 hxy h2 (by by_cases hai : x = i; · subst hai; exact .inr (hks y hxy)
                                                · exact .inl hai)
        have := hlo y h2
        omega
      · exact .inl h2
    · exact .inr h1
  have hrch : ∀ x y, (x ∈ sg ∨ t.dn x) → Rch r x y → (y ∈ sg ∨ t.dn y) := by
    intro x y hx hr
    induction hr with
    | refl => exact hx
    | tail _ e ih =>
      rcases ih with h1 | h1
      · exact hedge _ _ h1 e
      · exact .inr (h.ww.cl _ _ h1 e)
  have hdr : ∀ x y, t.dn x → Rch r x y → t.dn y := by
    intro x y hx hr
    induction hr with
    | refl => exact hx
    | tail _ e ih => exact h.ww.cl _ _ ih e
  have hto : ∀ x ∈ sg, Rch r i x := fun x hx => h.ww.up i x (.inr rfl) ((hmem x).2 (.inr hx)) (hge x hx)
  have hfrom : ∀ x ∈ sg, Rch r x i := by
    intro x hx
    obtain ⟨g, hg, _, hg2⟩ := h.ww.dw x ((hmem x).2 (.inr hx))
    rcases hg with hg | rfl
    · exfalso
      have hg0 := hw0.gs g hg
      rcases hrch x g (.inl hx) hg2 with h1 | h1
      · exact hnd.2.2 g hg0 g h1 rfl
      · exact h.ww.dj g ((hmem g).2 (.inl hg0)) h1
    · exact hg2
  have hT : Tied r (ofL sg) := by
    refine ⟨⟨i, (hhs i).2 hisg⟩, fun x y hx => ?_⟩
    rw [hhs] at hx
    rw [hhs]
    constructor
    · intro hy; exact ⟨(hfrom x hx).trans (hto y hy), (hfrom y hy).trans (hto x hx)⟩
    · rintro ⟨h1, h2⟩
      rcases hrch x y (.inl hx) h1 with h3 | h3
      · exact h3
      · exact absurd (hdr y x h3 h2) (h.ww.dj x ((hmem x).2 (.inr hx)))
  have hdn : ∀ x, (popP t t0.st sg).dn x ↔ t.dn x ∨ x ∈ sg := by
    intro x
    unfold TS.dn
    show (∃ s ∈ t.out ++ [ofL sg], has s x = true) ↔ _
    constructor
    · rintro ⟨s, hs, hsx⟩
      rcases List.mem_append.1 hs with h1 | h1
      · exact .inl ⟨s, h1, hsx⟩
      · have : s = ofL sg := by simpa using h1
        subst this
        exact .inr ((hhs x).1 hsx)
    · rintro (⟨s, hs, hsx⟩ | hx)
      · exact ⟨s, List.mem_append_left _ hs, hsx⟩
      · exact ⟨ofL sg, by simp, (hhs x).2 hx⟩
  refine ⟨⟨h.ww.lm, h.ww.ll, h.ww.le, ?_, ?_, ?_, hw0.gs, ?_, ?_, ?_, ?_, ?_, ?_, ?_⟩, h.old, h.mi, h.now, ⟨[], by show t0.st = _; simp⟩, h.lo1, .inr heq, ?_, h.oll⟩
  · intro x
    show has (t.on &&& ~~~ofL sg) x = true ↔ x ∈ t0.st
    rw [has_and, Bool.and_eq_true, h.ww.on_, hmem]
    rcases Nat.lt_or_ge x 64 with h1 | h1
    · rw [has_not _ _ h1]
      have : (!has (ofL sg) x) = true ↔ x ∉ sg := by rw [← hhs x]; simp
      rw [this]
      constructor
      · rintro ⟨h2 | h2, h3⟩
        · exact h2
        · exact absurd h2 h3
      · intro h2; exact ⟨.inl h2, fun h3 => hnd.2.2 x h2 x h3 rfl⟩
    · rw [has_ge h1]
      constructor
      · rintro ⟨_, h2⟩; cases h2
      · intro h2; have := hw0.lt (hw0.st_vis h2); have := hv.1; omega
  · intro x
    rw [hdn]
    show t.mt x ≠ 0 ↔ x ∈ t0.st ∨ _
    rw [h.ww.vs, hmem]
    constructor
    · rintro ((h1 | h1) | h1)
      · exact .inl h1
      · exact .inr (.inr h1)
      · exact .inr (.inl h1)
    · rintro (h1 | h1 | h1)
      · exact .inl (.inl h1)
      · exact .inr h1
      · exact .inl (.inr h1)
  · intro x hx hd
    rw [hdn] at hd
    rcases hd with h1 | h1
    · exact h.ww.dj x ((hmem x).2 (.inl hx)) h1
    · exact hnd.2.2 x hx x h1 rfl
  · intro a b ha hna hab
    by_cases hai : a = i
    · subst hai; exact h.ch b (hks b hab) hab
    · exact h.ww.ex a b ha (fun hh => by rcases hh with h1 | h1; exact hna h1; exact hai h1) hab
  · show t0.st.Pairwise _; exact hso.1
  · intro y hy
    obtain ⟨x, hx, h1, h2⟩ := hw0.dw y hy
    refine ⟨x, hx, ?_, h2⟩
    show t.mt x ≤ t.mt y
    rw [h.old x (hw0.st_vis (hw0.gs x hx)), h.old y (hw0.st_vis hy)]; exact h1
  · intro x y hx hy hxy
    exact h.ww.up x y (.inl hx) ((hmem y).2 (.inl hy)) hxy
  · intro s hs
    rcases List.mem_append.1 (show s ∈ t.out ++ [ofL sg] from hs) with h1 | h1
    · exact h.ww.sc s h1
    · have : s = ofL sg := by simpa using h1
      subst this; exact hT
  · show (t.out ++ [ofL sg]).Pairwise _
    rw [List.pairwise_append]
    refine ⟨h.ww.ds, List.pairwise_singleton _ _, fun a ha b hb => ?_⟩
    have : b = ofL sg := by simpa using hb
    subst this
    refine eq_zero_iff.2 fun x => ?_
    rw [has_and]
    cases h1 : has a x with
    | false => rfl
    | true =>
      cases h2 : has (ofL sg) x with
      | false => rfl
      | true => exact absurd ⟨a, ha, h1⟩ (h.ww.dj x ((hmem x).2 (.inr ((hhs x).1 h2))))
  · intro x y hx hxy
    rw [hdn] at hx ⊢
    rcases hx with h1 | h1
    · exact .inl (h.ww.cl x y h1 hxy)
    · rcases hedge x y h1 hxy with h2 | h2
      · exact .inr h2
      · exact .inl h2
  · intro x y hx hxn _ _
    exact absurd hx hxn
end
/-- nobody is met -/
def ts0 (n : Nat) : TS := ⟨List.replicate n 0, List.replicate n 0, [], 0#64, 0, []⟩
theorem getD_rep (n x : Nat) : (List.replicate n 0).getD x 0 = 0 := by
  rw [List.getD_eq_getElem?_getD, List.getElem?_replicate]
  by_cases h : x < n <;> simp [h]
theorem ww_start (r : List B) : WW r (fun _ => False) (ts0 r.length) := by
  have e : ∀ x, (ts0 r.length).mt x = 0 := fun x => getD_rep _ x
  have hd : ∀ x, ¬ (ts0 r.length).dn x := by rintro x ⟨s, hs, _⟩; cases hs
  refine ⟨by simp [ts0], by simp [ts0], fun x => by rw [e]; exact Nat.zero_le _, fun x => ?_, fun x => ?_, fun x hx => (List.not_mem_nil hx).elim, fun x hx => False.elim hx, fun x y hx => absurd (e x) hx, List.Pairwise.nil, fun y hy => (List.not_mem_nil hy).elim, fun x y hx => False.elim hx, fun s hs => (List.not_mem_nil hs).elim, List.Pairwise.nil, fun x y hx => absurd hx (hd x)⟩
  · show has 0#64 x = true ↔ x ∈ []
    rw [has_zero]; simp
  · rw [e]
    constructor
    · intro h; exact absurd rfl h
    · rintro (h | h)
      · cases h
      · exact absurd h (hd x)
/-- nobody is at work: nobody is at hand -/
theorem ww_idle {r : List B} {t : TS} (h : WW r (fun _ => False) t) : t.st = [] := by
  cases hs : t.st with
  | nil => rfl
  | cons x l =>
    obtain ⟨g, hg, _⟩ := h.dw x (by rw [hs]; simp)
    exact hg.elim
/-- the parts of all -/
structure Parts (r : List B) (P : List B) : Prop where
  tied : ∀ s ∈ P, Tied r s
  apart : P.Pairwise fun a b => a &&& b = 0#64
  all : ∀ x, x < r.length ↔ ∃ s ∈ P, has s x = true
theorem parts_of {r : List B} {t : TS} (h : WW r (fun _ => False) t) (hall : ∀ x, x < r.length → t.mt x ≠ 0) : Parts r t.out := by
  refine ⟨h.sc, h.ds, fun x => ⟨fun hx => ?_, fun hx => ?_⟩⟩
  · rcases (h.vs x).1 (hall x hx) with h1 | h1
    · rw [ww_idle h] at h1; cases h1
    · exact h1
  · exact h.lt ((h.vs x).2 (.inr hx))
/-- how many are not met -/
def unv (r : List B) (t : TS) : Nat := ((List.range r.length).filter fun x => decide (t.mt x = 0)).length
theorem filter_le {l : List Nat} {p q : Nat → Bool} (h : ∀ x ∈ l, p x = true → q x = true) : (l.filter p).length ≤ (l.filter q).length := by
  induction l with
  | nil => simp
  | cons x l ih =>
    have ih := ih fun y hy => h y (by simp [hy])
    have hx := h x (by simp)
    simp only [List.filter_cons]
    cases hp : p x <;> cases hq : q x <;> simp <;> first | omega | (rw [hx hp] at hq; cases hq)
theorem filter_lt {l : List Nat} {p q : Nat → Bool} (h : ∀ x ∈ l, p x = true → q x = true) {z : Nat} (hz : z ∈ l) (hzq : q z = true) (hzp : p z = false) : (l.filter p).length < (l.filter q).length := by
  induction l with
  | nil => cases hz
  | cons x l ih =>
    have hx := h x (by simp)
    simp only [List.filter_cons]
    rcases List.mem_cons.1 hz with rfl | hz
    · have := filter_le (l := l) fun y hy => h y (by simp [hy])
      rw [hzp, hzq]; simp; omega
    · have ih := ih (fun y hy => h y (by simp [hy])) hz
      cases hp : p x <;> cases hq : q x <;> simp <;> first | omega | (rw [hx hp] at hq; cases hq)
theorem unv_lt {r : List B} {G : Nat → Prop} {t0 t : TS} {i : Nat} {ks : Nat → Prop} (h : Mid r G t0 i ks t) (hi : i < r.length) (h0 : t0.mt i = 0) : unv r t < unv r t0 := by
  unfold unv
  refine filter_lt (fun x _ hx => ?_) (List.mem_range.2 hi) (decide_eq_true h0) (decide_eq_false ?_)
  · rw [decide_eq_true_iff] at hx ⊢
    rcases Nat.eq_zero_or_pos (t0.mt x) with h1 | h1
    · exact h1
    · have := h.old x (by omega); omega
  · rw [h.mi]; omega
end Go.Proofs.YtklikjjipoghlaaDoor
