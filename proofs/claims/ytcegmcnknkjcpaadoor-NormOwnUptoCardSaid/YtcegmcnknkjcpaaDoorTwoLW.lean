/- The walk of the laws' two. Conditions: the asks lie in memory. -/
import Derived.Test.YtcegmcnknkjcpaaDoorNormRuleW
namespace Go.Proofs.YtcegmcnknkjcpaaDoor
open Go.RowKit Go.Shelf
theorem arg3r (w : World) (v0 v1 v2 v3 u0 u1 u2 u3 : Value) : ∃ W, W = ((w.alloc (.cells #[v0, v1, v2, v3] 24)).alloc (.cells #[u0, u1, u2, u3] 24)).alloc (.cells #[.int .i64 0, .string ⟨#[]⟩, .int .i64 0, .slice none 0 0] 24) ∧ Below w.heap.size w W ∧ W.heap.size = w.heap.size + 3 ∧
    ∀ u : World, Below W.heap.size W u → u.heap[w.heap.size]? = some (.cells #[v0, v1, v2, v3] 24 (0, 0)) ∧ u.heap[w.heap.size + 1]? = some (.cells #[u0, u1, u2, u3] 24 (0, 0)) ∧ u.heap[w.heap.size + 2]? = some (.cells #[.int .i64 0, .string ⟨#[]⟩, .int .i64 0, .slice none 0 0] 24 (0, 0)) := by
  obtain ⟨A, hA⟩ : ∃ A, A = w.alloc (.cells #[v0, v1, v2, v3] 24) := ⟨_, rfl⟩
  obtain ⟨B, hB⟩ : ∃ B, B = A.alloc (.cells #[u0, u1, u2, u3] 24) := ⟨_, rfl⟩
  obtain ⟨W, hW⟩ : ∃ W, W = B.alloc (.cells #[.int .i64 0, .string ⟨#[]⟩, .int .i64 0, .slice none 0 0] 24) := ⟨_, rfl⟩
  have sA : A.heap.size = w.heap.size + 1 := by rw [hA]; simp
  have sB : B.heap.size = w.heap.size + 2 := by rw [hB]; simp; omega
  have hs : W.heap.size = w.heap.size + 3 := by rw [hW]; simp; omega
  refine ⟨W, by rw [hW, hB, hA], by rw [hW, hB, hA]; exact (((Below.refl _ _).alloc (Nat.le_refl _) _).alloc (by simp) _).alloc (by simp; omega) _, hs, fun u hu => ?_⟩
  rw [hu.block _ (by omega), hu.block _ (by omega), hu.block _ (by omega)]
  have e0 : A.heap[w.heap.size]? = some (.cells #[v0, v1, v2, v3] 24 (0, 0)) := by rw [hA]; exact hanQ w _
  have e1 : B.heap[w.heap.size + 1]? = some (.cells #[u0, u1, u2, u3] 24 (0, 0)) := by rw [hB, ← sA]; exact hanQ A _
  have e2 : W.heap[w.heap.size + 2]? = some (.cells #[.int .i64 0, .string ⟨#[]⟩, .int .i64 0, .slice none 0 0] 24 (0, 0)) := by rw [hW, ← sB]; exact hanQ B _
  refine ⟨?_, ?_, e2⟩
  · rw [hW, haoQ _ _ _ (by omega), hB, haoQ _ _ _ (by omega)]; exact e0
  · rw [hW, haoQ _ _ _ (by omega)]; exact e1
def TwoPost (k : Int) (x y : QT) (w : World) (e : Ending) (w' : World) : Prop := ∃ t : QT, e = .returned t.v ∧ qabs t = .mk k [] 0 [qabs x, qabs y] ∧ QIn w' t ∧ Below w.heap.size w w'
theorem two_fin (k : Int) {x y : QT} {w W u : World} (hx : QIn w x) (hy : QIn w y) (hBW : Below w.heap.size w W) (hS : W.heap.size = w.heap.size + 3)
    (hu : u = W.alloc (.cells #[.int .i64 x.kind, .string x.name, .int .i64 x.num, .slice x.p x.xs.length x.cap, .int .i64 y.kind, .string y.name, .int .i64 y.num, .slice y.p y.xs.length y.cap] 24)) (u0 u1 u2 u3 : Value) :
    TwoPost k x y w (.returned (QT.mk k ⟨#[]⟩ 0 (some ⟨W.heap.size, 0, none⟩) 2 [x, y]).v) ((((u.setCell ⟨w.heap.size + 2, 0, none⟩ u0).setCell ⟨w.heap.size + 2, 1, none⟩ u1).setCell ⟨w.heap.size + 2, 2, none⟩ u2).setCell ⟨w.heap.size + 2, 3, none⟩ u3) := by
  have hBu : Below w.heap.size w u := by rw [hu]; exact hBW.alloc hBW.size _
  have hB := below_set4Q (b := w.heap.size + 2) hBu (by omega) u0 u1 u2 u3
  have hh : u.heap[W.heap.size]? = some (.cells #[.int .i64 x.kind, .string x.name, .int .i64 x.num, .slice x.p x.xs.length x.cap, .int .i64 y.kind, .string y.name, .int .i64 y.num, .slice y.p y.xs.length y.cap] 24 (0, 0)) := by rw [hu]; exact hanQ W _
  have hh2 := (set4Q_other u (w.heap.size + 2) W.heap.size u0 u1 u2 u3 (by omega)).trans hh
  generalize ((((u.setCell ⟨w.heap.size + 2, 0, none⟩ u0).setCell ⟨w.heap.size + 2, 1, none⟩ u1).setCell ⟨w.heap.size + 2, 2, none⟩ u2).setCell ⟨w.heap.size + 2, 3, none⟩ u3) = z at hB hh2 ⊢
  have hlt := (Array.getElem?_eq_some_iff.1 hh2).1
  have hc : ∀ i v, #[Value.int .i64 x.kind, .string x.name, .int .i64 x.num, .slice x.p x.xs.length x.cap, .int .i64 y.kind, .string y.name, .int .i64 y.num, .slice y.p y.xs.length y.cap][i]? = some v → z.cell? ⟨W.heap.size, i, none⟩ = some v := by
    intro i v hv
    simp only [World.cell?, hh2]
    exact hv
  refine ⟨_, rfl, rfl, QIn.of (by show 0 ≤ _; omega) (by show 2 ≤ 2; omega) (by show 2 ≤ _; omega) (QsIn.mk fun j q hq => ?_), hB⟩
  match j, hq with
  | 0, hq =>
    have hq : some x = some q := hq
    injection hq with hq
    subst hq
    exact ⟨⟨W.heap.size, 0, rfl, hlt, hc 0 _ rfl, hc 1 _ rfl, hc 2 _ rfl, hc 3 _ rfl⟩, hx.below hB⟩
  | 1, hq =>
    have hq : some y = some q := hq
    injection hq with hq
    subst hq
    exact ⟨⟨W.heap.size, 0, rfl, hlt, hc 4 _ rfl, hc 5 _ rfl, hc 6 _ rfl, hc 7 _ rfl⟩, hy.below hB⟩
  | j + 2, hq => exact absurd hq (by show ([] : List QT)[j]? ≠ _; simp)
set_option maxHeartbeats 4000000 in
set_option maxRecDepth 100000 in
theorem twoL_ok (k : Int) (x y : QT) (w : World) (hx : QIn w x) (hy : QIn w y) : Calls Tryd.prog 14 #[.int .i64 k, x.v, y.v] w (TwoPost k x y w) := by
  obtain ⟨kx, sx, nx, px, cx, xs⟩ := x
  obtain ⟨ky, sy, ny, py, cy, ys⟩ := y
  obtain ⟨W, hW, hBW, hS, hC⟩ := arg3r w (.int .i64 kx) (.string sx) (.int .i64 nx) (.slice px xs.length cx) (.int .i64 ky) (.string sy) (.int .i64 ny) (.slice py ys.length cy)
  have HC := Lib.hid hC
  have HF := Lib.hid (fun u hu => two_fin (u := u) k hx hy hBW hS hu)
  have HS := Lib.hid hS
  obtain ⟨B0, B1, B2⟩ := HC.out W (Below.refl _ _)
  obtain ⟨k0, k1, k2, k3, _⟩ := box4Q B0
  obtain ⟨m0, m1, m2, m3, _⟩ := box4Q B1
  have HAL : Hid (∀ o, (W.alloc o).heap[w.heap.size + 2]? = some (.cells #[.int .i64 0, .string ⟨#[]⟩, .int .i64 0, .slice none 0 0] 24 (0, 0))) := by
    show ∀ o, _
    intro o
    rw [haoQ _ _ _ (by omega)]
    exact B2
  obtain ⟨r0, r1, r2, r3, r4⟩ := box4Q (HAL.out (.cells #[.int .i64 kx, .string sx, .int .i64 nx, .slice px xs.length cx, .int .i64 ky, .string sy, .int .i64 ny, .slice py ys.length cy] 24))
  show Calls Tryd.prog 14 #[.int .i64 k, .agg #[.int .i64 kx, .string sx, .int .i64 nx, .slice px xs.length cx], .agg #[.int .i64 ky, .string sy, .int .i64 ny, .slice py ys.length cy]] w _
  clear hx hy hBW hS hC B0 B1 B2
  go_enter Tryd.func14, Tryd.ntmps14
  go_upto_region 1 with fail
  rw [← hW]
  clear hW
  go_wp2_with fail
  refine bodyPost_ret (v := (QT.mk k ⟨#[]⟩ 0 (some ⟨W.heap.size, 0, none⟩) 2 [.mk kx sx nx px cx xs, .mk ky sy ny py cy ys]).v) (results_cell_row Tryd.results14 _ _ (w.heap.size + 2) 24 _ (0, 0) _ rfl (box4Q_all (HAL.out _) _ _ _ _) Tryd.underlying24 rfl (by kernel_rfl)) rfl (HF.out _ rfl _ _ _ _)
end Go.Proofs.YtcegmcnknkjcpaaDoor
