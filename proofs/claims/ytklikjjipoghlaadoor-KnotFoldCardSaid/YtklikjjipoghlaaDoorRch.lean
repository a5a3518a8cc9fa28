/- Walks along rows: who comes to whom, and the same the other way. Conditions: none. -/
import Derived.Test.YtklikjjipoghlaaDoorBackW
namespace Go.Proofs.YtklikjjipoghlaaDoor
/-- from a one comes to b -/
inductive Rch (r : List B) : Nat → Nat → Prop
  | refl (a : Nat) : Rch r a a
  | tail {a b c : Nat} (h : Rch r a b) (e : has (row r b) c = true) : Rch r a c
theorem Rch.head {r : List B} {a b c : Nat} (e : has (row r a) b = true) (h : Rch r b c) : Rch r a c := by
  induction h with
  | refl => exact .tail (.refl a) e
  | tail _ e2 ih => exact .tail ih e2
theorem Rch.trans {r : List B} {a b c : Nat} (h : Rch r a b) (h2 : Rch r b c) : Rch r a c := by
  induction h2 with
  | refl => exact h
  | tail _ e ih => exact .tail ih e
theorem has_cls {r : List B} {s : B} {b : Nat} : has (cls r s) b = true ↔ ∃ a, has s a = true ∧ Rch r a b := by
  constructor
  · intro h
    have : ∀ i k, has (ball r i s) k = true → ∃ a, has s a = true ∧ Rch r a k := by
      intro i
      induction i with
      | zero => intro k hk; exact ⟨k, hk, .refl k⟩
      | succ i ih =>
        intro k hk
        rcases has_ball_succ.1 hk with hk | ⟨n, hn, hk⟩
        · exact ih k hk
        · obtain ⟨a, ha, hr⟩ := ih n hn
          exact ⟨a, ha, .tail hr hk⟩
    exact this 64 b h
  · rintro ⟨a, ha, hr⟩
    induction hr with
    | refl => exact cls_self ha
    | tail _ e ih => exact cls_closed r s _ _ ih e
theorem has_cls_one {r : List B} {a b : Nat} (ha : a < 64) : has (cls r (1#64 <<< a)) b = true ↔ Rch r a b := by
  rw [has_cls]
  constructor
  · rintro ⟨x, hx, h⟩
    rw [has_one a x (has_lt hx)] at hx
    have : x = a := by simpa using hx
    subst this; exact h
  · intro h; exact ⟨a, by rw [has_one a a ha]; simp, h⟩
theorem edge_bk {r : List B} (hv : Valid r) {a b : Nat} : has (row (bk r) b) a = true ↔ has (row r a) b = true := by
  rw [has_bk hv.1]
  exact ⟨fun h => h.2, fun h => ⟨hv.2 a b h, h⟩⟩
theorem valid_bk {r : List B} (hv : Valid r) : Valid (bk r) := by
  refine ⟨by rw [bk_len]; exact hv.1, fun i k h => ?_⟩
  rw [edge_bk hv] at h
  rw [bk_len]; exact row_lt h
theorem bk_bk {r : List B} (hv : Valid r) : bk (bk r) = r := by
  refine list_ext_row (by rw [bk_len, bk_len]) fun k _ => eq_of_iff fun a => ?_
  rw [edge_bk (valid_bk hv), edge_bk hv]
theorem rch_bk {r : List B} (hv : Valid r) {a b : Nat} : Rch (bk r) a b ↔ Rch r b a := by
  constructor
  · intro h
    induction h with
    | refl => exact .refl _
    | tail _ e ih => exact .head ((edge_bk hv).1 e) ih
  · intro h
    induction h with
    | refl => exact .refl _
    | tail _ e ih => exact .head ((edge_bk hv).2 e) ih
theorem chks_bits {r : List B} (hv : Valid r) {ss : List B} (h : ∀ s ∈ ss, ∀ k, has s k = true → k < r.length) : chks r ss = 0 := chks_zero.2 ⟨hv, h⟩
theorem chks_bit {r : List B} (hv : Valid r) {a : Nat} (ha : a < r.length) : chks r [1#64 <<< a] = 0 := chks_bits hv fun s hs k hk => by
  have : s = 1#64 <<< a := by simpa using hs
  subst this
  rw [has_one a k (has_lt hk)] at hk
  have : k = a := by simpa using hk
  omega
end Go.Proofs.YtklikjjipoghlaaDoor
