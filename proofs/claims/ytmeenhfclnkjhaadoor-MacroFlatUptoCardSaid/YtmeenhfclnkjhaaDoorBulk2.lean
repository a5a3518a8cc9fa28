/- What a law is handed, of bounded bulk: a slice of structs of two fields. Conditions: none. -/
import Derived.Test.YtmeenhfclnkjhaaDoorRows
import Derived.Test.YtmeenhfclnkjhaaDoorPairs
namespace Go.Proofs.YtmeenhfclnkjhaaDoor
open Go.ChangeShapes Go.RowKit Go.WideShapes
theorem bulk_sum {A H : Type} (wt : A → Nat) : ∀ (l : List A) (ds : List (DataW H)), l.length = ds.length → (∀ (i : Nat) (q : A) (d : DataW H), l[i]? = some q → ds[i]? = some d → wt q ≤ Rows.uptoBulk d) → (l.map wt).sum ≤ Rows.uptoBulkAll ds
  | [], _, _, _ => by simp
  | q :: l, [], h, _ => by simp at h
  | q :: l, d :: ds, h, hb => by
    have h1 := hb 0 q d rfl rfl
    have h2 := bulk_sum wt l ds (by simpa using h) (fun i q' d' e1 e2 => hb (i + 1) q' d' (by simpa using e1) (by simpa using e2))
    simp only [List.map_cons, List.sum_cons, Rows.uptoBulkAll]
    omega
theorem sum_mem {A : Type} (wt : A → Nat) {l : List A} {x : A} (h : x ∈ l) : wt x ≤ (l.map wt).sum := by
  induction l with
  | nil => cases h
  | cons y l ih =>
    simp only [List.map_cons, List.sum_cons]
    rcases List.mem_cons.1 h with rfl | h
    · omega
    · have := ih h; omega
theorem sum_len {A : Type} (wt : A → Nat) {l : List A} (h : ∀ x, 1 ≤ wt x) : l.length ≤ (l.map wt).sum := by
  induction l with
  | nil => simp
  | cons y l ih =>
    simp only [List.map_cons, List.sum_cons, List.length_cons]
    have := h y
    omega
/-- the slice of pairs that a law is handed, and its bulk -/
theorem p2_bulk {A B H : Type} {enc : TypeId × Value → H} {P : Program} {W : World} {fuel len cap : Nat} {a : Option Addr} {d : DataW H} {p : List MemPlace} {t e : TypeId} {f0 f1 : Field} (F : A → Value) (G : B → Value) (wf : A → Nat) (wg : B → Nat)
    (ht : P.underlying t = some (.slice e)) (he : P.underlying e = some (.struct #[f0, f1])) (ce : P.cellsOf e = 2) (o0 : f0.offset = 0) (o1 : f1.offset = 1) (c0 : P.cellsOf f0.type = 1) (c1 : P.cellsOf f1.type = 1)
    (hF : ∀ n v x, DataW.trod enc P W 0 (fun _ => true) true n f0.type [v] = some x → ∃ a, v = F a ∧ wf a ≤ Rows.uptoBulk x.1) (hG : ∀ n v x, DataW.trod enc P W 0 (fun _ => true) true n f1.type [v] = some x → ∃ b, v = G b ∧ wg b ≤ Rows.uptoBulk x.1)
    (hby : 16 ≤ P.bytesOf e) (hf : DataW.trod enc P W 0 (fun _ => true) true fuel t [.slice a len cap] = some (d, p)) (hsz : ∀ n, n ∈ d.weights P t → n ≤ reachBytes) :
    ∃ l : List (A × B), P2At (fun x => F x.1) (fun x => G x.2) W a len cap l ∧ (l.map fun x => wf x.1 + wg x.2 + 1).sum ≤ Rows.uptoBulk d := by
  rcases Go.Deep.open_slice_pairs ht he ce o0 o1 c0 c1 hf with ⟨h1, h2⟩ | ⟨ad, ln, cp, m, n, V0, V1, D0, D1, P0, P1, h1, _, h3, _, h5, h6, h7⟩
  · injection h1 with h1 _
    injection h1 with e1 e2 e3
    subst e1 e2 e3
    exact ⟨[], ⟨rfl, fun h => by omega, by omega⟩, by simp⟩
  · injection h1 with h1 _
    injection h1 with e1 e2 e3
    subst e1 e2 e3
    simp only [if_true] at h5
    subst h5
    have hex : ∀ i, i < len → ∃ q : A × B, (W.cell? (ad.add (i * 2)) = some (F q.1) ∧ W.cell? (ad.add (i * 2 + 1)) = some (G q.2)) ∧ wf q.1 ≤ Rows.uptoBulk (D0 i) ∧ wg q.2 ≤ Rows.uptoBulk (D1 i) := by
      intro i hi
      obtain ⟨k1, k2, k3, k4⟩ := h7 i (by omega)
      obtain ⟨x, hx, wx⟩ := hF _ _ _ k3
      obtain ⟨y, hy, wy⟩ := hG _ _ _ k4
      exact ⟨(x, y), ⟨by rw [k1, hx], by rw [k2, hy]⟩, wx, wy⟩
    obtain ⟨l, hl, hq⟩ := list_of len _ hex
    injection h6 with h6 _
    have hb := hsz ((len + (m - len)) * P.bytesOf e) (by
      rw [h6, DataW.weights, ht]
      simp)
    have hrb : reachBytes < 2 ^ 47 := reachBytes_lt
    have hmul : (len + (m - len)) * 16 ≤ (len + (m - len)) * P.bytesOf e := Nat.mul_le_mul_left _ hby
    refine ⟨l, ⟨hl, fun hn => ?_, by omega⟩, ?_⟩
    · obtain ⟨b, o, s⟩ := ad
      have hs : s = none := by
        have h0 := (h7 0 (by omega)).1
        simpa [Addr.add] using World.cell?_spot h0
      subst hs
      refine ⟨b, o, rfl, ?_, fun k x hx => ?_⟩
      · have := World.block_lt_of_cell? W _ (h7 0 (by omega)).1
        rwa [block_of_add] at this
      · have := (hq k x hx).1
        rw [Addr.add_lit, Addr.add_lit] at this
        exact this
    · have hsum := bulk_sum (fun x : A × B => wf x.1 + wg x.2 + 1) l ((List.range len).map fun i => DataW.agg [D0 i, D1 i]) (by simp [hl]) (fun i q d' e1 e2 => by
        have hi : i < len := by have := (List.getElem?_eq_some_iff.1 e1).1; omega
        rw [List.getElem?_map, List.getElem?_range hi] at e2
        have e3 : DataW.agg [D0 i, D1 i] = d' := by simpa using e2
        subst e3
        obtain ⟨_, w1, w2⟩ := hq i q e1
        simp only [Rows.uptoBulk, Rows.uptoBulkAll]
        omega)
      rw [h6]
      simp only [Rows.uptoBulk]
      omega
end Go.Proofs.YtmeenhfclnkjhaaDoor
