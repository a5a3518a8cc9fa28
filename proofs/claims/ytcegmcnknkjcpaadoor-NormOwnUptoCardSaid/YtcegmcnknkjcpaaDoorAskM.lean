/- The asks in memory: what they are, and that they stay where nothing is written. Conditions: none. -/
import Derived.Test.YtcegmcnknkjcpaaDoorAskP
import Derived.Below
import Derived.Test.YtcegmcnknkjcpaaDoorProg
namespace Go.Proofs.YtcegmcnknkjcpaaDoor
open Go.RowKit
/-- an ask as it lies in memory: its list's place and room besides -/
inductive QT where
  | mk (kind : Int) (name : ByteArray) (num : Int) (p : Option Addr) (cap : Nat) (xs : List QT)
namespace QT
def kind : QT → Int | mk k _ _ _ _ _ => k
def name : QT → ByteArray | mk _ s _ _ _ _ => s
def num : QT → Int | mk _ _ n _ _ _ => n
def p : QT → Option Addr | mk _ _ _ p _ _ => p
def cap : QT → Nat | mk _ _ _ _ c _ => c
def xs : QT → List QT | mk _ _ _ _ _ l => l
/-- the list's value -/
def sl (t : QT) : Value := .slice t.p t.xs.length t.cap
def v (t : QT) : Value := .agg #[.int .i64 t.kind, .string t.name, .int .i64 t.num, .slice t.p t.xs.length t.cap]
end QT
mutual
/-- the plain ask of it -/
def qabs : QT → QA
  | .mk k s n _ _ xs => .mk k s.data.toList n (qabss xs)
def qabss : List QT → List QA
  | [] => []
  | x :: r => qabs x :: qabss r
end
theorem qabss_map (l : List QT) : qabss l = l.map qabs := by
  induction l with
  | nil => rfl
  | cons x l ih => rw [qabss, ih]; rfl
theorem qabss_len (l : List QT) : (qabss l).length = l.length := by rw [qabss_map, List.length_map]
/-- four cells of a block -/
def Four (w : World) (b o : Nat) (t : QT) : Prop :=
  w.cell? ⟨b, o, none⟩ = some (.int .i64 t.kind) ∧ w.cell? ⟨b, o + 1, none⟩ = some (.string t.name) ∧ w.cell? ⟨b, o + 2, none⟩ = some (.int .i64 t.num) ∧ w.cell? ⟨b, o + 3, none⟩ = some (.slice t.p t.xs.length t.cap)
mutual
/-- what is in an ask lies in memory -/
def QIn (w : World) : QT → Prop
  | .mk _ s _ p c xs => s.size ≤ 1048576 ∧ xs.length ≤ c ∧ xs.length ≤ 1048576 ∧ QsIn w p 0 xs
def QsIn (w : World) (p : Option Addr) : Nat → List QT → Prop
  | _, [] => True
  | i, x :: r => ((∃ b o, p = some ⟨b, o, none⟩ ∧ b < w.heap.size ∧ Four w b (o + 4 * i) x) ∧ QIn w x) ∧ QsIn w p (i + 1) r
end
theorem QsIn.at {w : World} {p : Option Addr} : ∀ {l : List QT} {i : Nat}, QsIn w p i l → ∀ {j : Nat} {x : QT}, l[j]? = some x → (∃ b o, p = some ⟨b, o, none⟩ ∧ b < w.heap.size ∧ Four w b (o + 4 * (i + j)) x) ∧ QIn w x := by
  intro l
  induction l with
  | nil => intro i _ j x h; simp at h
  | cons y l ih =>
    intro i h j x hx
    rw [QsIn] at h
    cases j with
    | zero => simp only [List.getElem?_cons_zero, Option.some.injEq] at hx; subst hx; exact h.1
    | succ j =>
      have := ih h.2 (j := j) (x := x) (by simpa using hx)
      rwa [show i + 1 + j = i + (j + 1) by omega] at this
theorem QsIn.mk {w : World} {p : Option Addr} : ∀ {l : List QT} {i : Nat}, (∀ j x, l[j]? = some x → (∃ b o, p = some ⟨b, o, none⟩ ∧ b < w.heap.size ∧ Four w b (o + 4 * (i + j)) x) ∧ QIn w x) → QsIn w p i l := by
  intro l
  induction l with
  | nil => intro i _; trivial
  | cons y l ih =>
    intro i h
    rw [QsIn]
    refine ⟨h 0 y rfl, ih fun j x hx => ?_⟩
    have := h (j + 1) x (by simpa using hx)
    rwa [show i + (j + 1) = i + 1 + j by omega] at this
theorem QT.ind {P : QT → Prop} (h : ∀ k s n p c xs, (∀ x ∈ xs, P x) → P (.mk k s n p c xs)) : ∀ x, P x := by
  have key : ∀ (c : Nat) (x : QT), qcnt (qabs x) ≤ c → P x := by
    intro c
    induction c with
    | zero => intro x hx; have := qcnt_pos (qabs x); omega
    | succ c ih =>
      intro x hx
      cases x with
      | mk k s n p d xs =>
        refine h k s n p d xs fun y hy => ih y ?_
        have hm : qabs y ∈ qabss xs := by rw [qabss_map]; exact List.mem_map.2 ⟨y, hy, rfl⟩
        have := qcnt_mem hm
        have e : qcnt (qabs (.mk k s n p d xs)) = 1 + qcnts (qabss xs) := rfl
        omega
  exact fun x => key _ x (Nat.le_refl _)
theorem Four.below {w w' : World} {b o n : Nat} {t : QT} (h : Four w b o t) (hb : Below n w w') (hn : b < n) : Four w' b o t := by
  obtain ⟨h1, h2, h3, h4⟩ := h
  refine ⟨?_, ?_, ?_, ?_⟩
  · rw [hb.cell (p := ⟨b, o, none⟩) hn]; exact h1
  · rw [hb.cell (p := ⟨b, o + 1, none⟩) hn]; exact h2
  · rw [hb.cell (p := ⟨b, o + 2, none⟩) hn]; exact h3
  · rw [hb.cell (p := ⟨b, o + 3, none⟩) hn]; exact h4
theorem QIn.kids {w : World} {t : QT} (h : QIn w t) : QsIn w t.p 0 t.xs := by cases t; rw [QIn] at h; exact h.2.2.2
theorem QIn.small {w : World} {t : QT} (h : QIn w t) : t.name.size ≤ 1048576 ∧ t.xs.length ≤ t.cap ∧ t.xs.length ≤ 1048576 := by cases t; rw [QIn] at h; exact ⟨h.1, h.2.1, h.2.2.1⟩
theorem QIn.of {w : World} {t : QT} (h1 : t.name.size ≤ 1048576) (h2 : t.xs.length ≤ t.cap) (h3 : t.xs.length ≤ 1048576) (h4 : QsIn w t.p 0 t.xs) : QIn w t := by cases t; rw [QIn]; exact ⟨h1, h2, h3, h4⟩
/-- asks stay where nothing below is written -/
theorem QIn.below {w w' : World} (hb : Below w.heap.size w w') : ∀ {t : QT}, QIn w t → QIn w' t := by
  intro t
  induction t using QT.ind with
  | h k s n p c xs ih =>
    intro h
    rw [QIn] at h ⊢
    refine ⟨h.1, h.2.1, h.2.2.1, QsIn.mk fun j x hx => ?_⟩
    obtain ⟨⟨b, o, h1, h2, h3⟩, h4⟩ := h.2.2.2.at hx
    exact ⟨⟨b, o, h1, Nat.lt_of_lt_of_le h2 hb.size, h3.below hb h2⟩, ih x (List.mem_of_getElem? hx) h4⟩
theorem QsIn.below {w w' : World} (hb : Below w.heap.size w w') {p : Option Addr} {l : List QT} (h : QsIn w p 0 l) : QsIn w' p 0 l :=
  QsIn.mk fun j x hx => by
    obtain ⟨⟨b, o, h1, h2, h3⟩, h4⟩ := h.at hx
    exact ⟨⟨b, o, h1, Nat.lt_of_lt_of_le h2 hb.size, h3.below hb h2⟩, h4.below hb⟩
/-- an ask all of whose lists are blocks of their own, laid at n or behind -/
inductive QOw (w : World) (n : Nat) : QT → Prop where
  | mk {k : Int} {s : ByteArray} {m : Int} {p : Option Addr} {c : Nat} {xs : List QT}
    (h : (p = none ∧ c = 0 ∧ xs = []) ∨ ∃ b cur, p = some ⟨b, 0, none⟩ ∧ n ≤ b ∧ b < w.heap.size ∧ w.heap[b]? = some (.cells cur 24 (0, 0)) ∧ cur.size = 4 * c ∧ c ≤ 9223372036854775807)
    (hx : ∀ x ∈ xs, QOw w n x) : QOw w n (.mk k s m p c xs)
theorem QOw.kids {w : World} {n : Nat} {t : QT} (h : QOw w n t) : ∀ x ∈ t.xs, QOw w n x := by cases h; assumption
theorem QOw.place {w : World} {n : Nat} {t : QT} (h : QOw w n t) : (t.p = none ∧ t.cap = 0 ∧ t.xs = []) ∨ ∃ b cur, t.p = some ⟨b, 0, none⟩ ∧ n ≤ b ∧ b < w.heap.size ∧ w.heap[b]? = some (.cells cur 24 (0, 0)) ∧ cur.size = 4 * t.cap ∧ t.cap ≤ 9223372036854775807 := by cases h; assumption
theorem QOw.of {w : World} {n : Nat} {t : QT} (h : (t.p = none ∧ t.cap = 0 ∧ t.xs = []) ∨ ∃ b cur, t.p = some ⟨b, 0, none⟩ ∧ n ≤ b ∧ b < w.heap.size ∧ w.heap[b]? = some (.cells cur 24 (0, 0)) ∧ cur.size = 4 * t.cap ∧ t.cap ≤ 9223372036854775807) (hx : ∀ x ∈ t.xs, QOw w n x) : QOw w n t := by cases t; exact .mk h hx
/-- they stay where their blocks stay -/
theorem QOw.keep {w w' : World} {n : Nat} (hs : w.heap.size ≤ w'.heap.size) {t : QT} (h : QOw w n t) (hk : ∀ b, n ≤ b → b < w.heap.size → w'.heap[b]? = w.heap[b]?) : QOw w' n t := by
  induction t using QT.ind with
  | h k s m p c xs ih =>
    refine .mk ?_ fun x hx => ih x hx (h.kids x hx)
    rcases h.place with h1 | ⟨b, cur, h1, h2, h3, h4, h5⟩
    · exact .inl h1
    · exact .inr ⟨b, cur, h1, h2, by omega, (hk b h2 h3).trans h4, h5⟩
theorem QOw.later {w w' : World} {n : Nat} {t : QT} (h : QOw w n t) (hb : Below w.heap.size w w') : QOw w' n t := h.keep hb.size fun b _ h2 => hb.block b h2
theorem QOw.lower {w : World} {n m : Nat} {t : QT} (h : QOw w n t) (hm : m ≤ n) : QOw w m t := by
  induction t using QT.ind with
  | h k s q p c xs ih =>
    refine .mk ?_ fun x hx => ih x hx (h.kids x hx)
    rcases h.place with h1 | ⟨b, cur, h1, h2, h3⟩
    · exact .inl h1
    · exact .inr ⟨b, cur, h1, by omega, h3⟩
/-- what is in an ask of its own stays where the blocks from n on stay, but for one that is none of its -/
theorem QIn.keep {w w' : World} {n : Nat} (hs : w.heap.size ≤ w'.heap.size) {t : QT} (h : QIn w t) (ho : QOw w n t) (hk : ∀ b, n ≤ b → b < w.heap.size → w'.heap[b]? = w.heap[b]?) : QIn w' t := by
  induction t using QT.ind with
  | h k s m p c xs ih =>
    refine QIn.of h.small.1 h.small.2.1 h.small.2.2 (QsIn.mk fun j x hx => ?_)
    obtain ⟨⟨b, o, h1, h2, h3⟩, h4⟩ := h.kids.at hx
    have hm := List.mem_of_getElem? hx
    refine ⟨⟨b, o, h1, by omega, ?_⟩, ih x hm h4 (ho.kids x hm)⟩
    rcases ho.place with ⟨_, _, hno⟩ | ⟨b', cur, h5, h6, h7, _⟩
    · rw [hno] at hx; simp at hx
    · have e : (some ⟨b', 0, none⟩ : Option Addr) = some ⟨b, o, none⟩ := h5.symm.trans h1
      injection e with e
      injection e with e1 e2
      subst e1
      have hc : ∀ i, w'.cell? ⟨b', i, none⟩ = w.cell? ⟨b', i, none⟩ := fun i => by simp only [World.cell?, hk b' h6 h7]
      obtain ⟨q0, q1, q2, q3⟩ := h3
      exact ⟨(hc _).trans q0, (hc _).trans q1, (hc _).trans q2, (hc _).trans q3⟩
/-- none of its lists lies at a block -/
inductive QAv (g : Nat) : QT → Prop where
  | mk {k : Int} {s : ByteArray} {m : Int} {p : Option Addr} {c : Nat} {xs : List QT} (h : ∀ b o, p = some ⟨b, o, none⟩ → b ≠ g) (hx : ∀ x ∈ xs, QAv g x) : QAv g (.mk k s m p c xs)
theorem QAv.kids {g : Nat} {t : QT} (h : QAv g t) : ∀ x ∈ t.xs, QAv g x := by cases h; assumption
theorem QAv.place {g : Nat} {t : QT} (h : QAv g t) : ∀ b o, t.p = some ⟨b, o, none⟩ → b ≠ g := by cases h; assumption
theorem QAv.of {g : Nat} {t : QT} (h : ∀ b o, t.p = some ⟨b, o, none⟩ → b ≠ g) (hx : ∀ x ∈ t.xs, QAv g x) : QAv g t := by cases t; exact .mk h hx
theorem QOw.av_lt {w : World} {n g : Nat} {t : QT} (h : QOw w n t) (hg : g < n) : QAv g t := by
  induction t using QT.ind with
  | h k s m p c xs ih =>
    refine .mk (fun b o e => ?_) fun x hx => ih x hx (h.kids x hx)
    rcases h.place with ⟨h1, _⟩ | ⟨b', cur, h1, h2, _⟩
    · rw [show p = none from h1] at e; cases e
    · rw [show p = _ from h1] at e; injection e with e; injection e with e _; omega
theorem QOw.av_ge {w : World} {n g : Nat} {t : QT} (h : QOw w n t) (hg : w.heap.size ≤ g) : QAv g t := by
  induction t using QT.ind with
  | h k s m p c xs ih =>
    refine .mk (fun b o e => ?_) fun x hx => ih x hx (h.kids x hx)
    rcases h.place with ⟨h1, _⟩ | ⟨b', cur, h1, _, h2, _⟩
    · rw [show p = none from h1] at e; cases e
    · rw [show p = _ from h1] at e; injection e with e; injection e with e _; omega
/-- asks of their own stay where one block grows that is none of theirs -/
theorem QOw.grown {w w' : World} {n : Nat} {row : Option Nat} {t : QT} (ho : QOw w n t) (hs : w.heap.size ≤ w'.heap.size) (hb : ∀ k, k < w.heap.size → some k ≠ row → w'.heap[k]? = w.heap[k]?) (hne : ∀ b, row = some b → QAv b t) : QOw w' n t := by
  induction t using QT.ind with
  | h k s m p c xs ih =>
    refine .mk ?_ fun x hx => ih x hx (ho.kids x hx) fun b e => (hne b e).kids x hx
    rcases ho.place with h1 | ⟨b, cur, h1, h2, h3, h4, h5⟩
    · exact .inl h1
    · exact .inr ⟨b, cur, h1, h2, by omega, (hb b h3 fun e => (hne b e.symm).place b 0 h1 rfl).trans h4, h5⟩
theorem QIn.grown {w w' : World} {n : Nat} {row : Option Nat} {t : QT} (h : QIn w t) (ho : QOw w n t) (hs : w.heap.size ≤ w'.heap.size) (hb : ∀ k, k < w.heap.size → some k ≠ row → w'.heap[k]? = w.heap[k]?) (hne : ∀ b, row = some b → QAv b t) : QIn w' t := by
  induction t using QT.ind with
  | h k s m p c xs ih =>
    refine QIn.of h.small.1 h.small.2.1 h.small.2.2 (QsIn.mk fun j x hx => ?_)
    obtain ⟨⟨b, o, h1, h2, h3⟩, h4⟩ := h.kids.at hx
    have hm := List.mem_of_getElem? hx
    refine ⟨⟨b, o, h1, by omega, ?_⟩, ih x hm h4 (ho.kids x hm) fun b e => (hne b e).kids x hm⟩
    have hc : ∀ i, w'.cell? ⟨b, i, none⟩ = w.cell? ⟨b, i, none⟩ := fun i => by simp only [World.cell?, hb b h2 fun e => (hne b e.symm).place b o h1 rfl]
    obtain ⟨q0, q1, q2, q3⟩ := h3
    exact ⟨(hc _).trans q0, (hc _).trans q1, (hc _).trans q2, (hc _).trans q3⟩
/-- the ask of a law, by value -/
def AskAt (w : World) (v : Value) (t : QT) : Prop := v = t.v ∧ QIn w t
end Go.Proofs.YtcegmcnknkjcpaaDoor
