/- The ask that a law is handed, of bounded bulk, read as a tree. Conditions: none. -/
import Derived.Test.YtcegmcnknkjcpaaDoorAskM
import Derived.Test.YtcegmcnknkjcpaaDoorRows
import Derived.ChangeArms
import Derived.WideShapes
namespace Go.Proofs.YtcegmcnknkjcpaaDoor
open Go.RowKit Go.ChangeShapes Go.WideShapes
theorem add_plainQ (b o j : Nat) : (⟨b, o, none⟩ : Addr).add j = ⟨b, o + j, none⟩ := by
  unfold Addr.add
  split
  · rename_i h; subst h; rfl
  · rfl
theorem bulk_mem {H : Type} {d : DataW H} {l : List (DataW H)} (h : d ∈ l) : Rows.uptoBulk d ≤ Rows.uptoBulkAll l := by
  induction l with
  | nil => cases h
  | cons x l ih =>
    unfold Rows.uptoBulkAll
    rcases List.mem_cons.1 h with rfl | h
    · omega
    · have := ih h; omega
theorem bulk_pos {H : Type} (d : DataW H) : 1 ≤ Rows.uptoBulk d := by
  unfold Rows.uptoBulk
  split <;> omega
theorem bulkq_len {H : Type} (l : List (DataW H)) : l.length ≤ Rows.uptoBulkAll l := by
  induction l with
  | nil => simp
  | cons x l ih => unfold Rows.uptoBulkAll; have := bulk_pos x; simp only [List.length_cons]; omega
theorem cnts_bulk {H : Type} : ∀ (l : List QT) (ds : List (DataW H)), l.length = ds.length → (∀ (i : Nat) (t : QT) (d : DataW H), l[i]? = some t → ds[i]? = some d → qcnt (qabs t) ≤ Rows.uptoBulk d) → qcnts (qabss l) ≤ Rows.uptoBulkAll ds := by
  intro l
  induction l with
  | nil => intro ds _ _; simp [qabss, qcnts]
  | cons x l ih =>
    intro ds h hb
    cases ds with
    | nil => simp at h
    | cons d ds =>
      have h1 := hb 0 x d rfl rfl
      have h2 := ih ds (by simpa using h) fun i t d h1 h2 => hb (i + 1) t d (by simpa using h1) (by simpa using h2)
      simp only [qabss, qcnts, Rows.uptoBulkAll]
      omega
theorem list_ofQ {P : Nat → QT → Prop} : ∀ (n : Nat), (∀ i, i < n → ∃ t, P i t) → ∃ l : List QT, l.length = n ∧ ∀ i t, l[i]? = some t → P i t := by
  intro n
  induction n generalizing P with
  | zero => exact fun _ => ⟨[], rfl, fun i t h => by simp at h⟩
  | succ n ih =>
    intro h
    obtain ⟨x, hx⟩ := h 0 (by omega)
    obtain ⟨l, h1, h2⟩ := ih (P := fun i t => P (i + 1) t) fun i hi => h (i + 1) (by omega)
    refine ⟨x :: l, by simp [h1], fun i t hi => ?_⟩
    cases i with
    | zero => simp only [List.getElem?_cons_zero, Option.some.injEq] at hi; subst hi; exact hx
    | succ i => exact h2 i t (by simpa using hi)
set_option maxRecDepth 100000 in
theorem ask_read {H : Type} {enc : TypeId × Value → H} {W : World} : ∀ (fuel : Nat) (cs : List Value) (d : DataW H) (p : List MemPlace),
    DataW.trod enc Tryd.prog W 0 (fun _ => true) true fuel 24 cs = some (d, p) → Rows.uptoBulk d ≤ 1048576 →
    ∃ t : QT, cs = [.int .i64 t.kind, .string t.name, .int .i64 t.num, .slice t.p t.xs.length t.cap] ∧ QIn W t ∧ qcnt (qabs t) ≤ Rows.uptoBulk d := by
  intro fuel
  induction fuel using Nat.strongRecOn with
  | _ fuel ih =>
    intro cs d p hf hbk
    have ht := Tryd.underlying24
    obtain ⟨xs, k, hfu, hxy, hlen, hxl, hff⟩ := DataW.trod_struct ht hf
    have hc4 : Tryd.prog.cellsOf 24 = 4 := by kernel_rfl
    have s0 : Tryd.prog.cellsOf 3 = 1 := by kernel_rfl
    have s1 : Tryd.prog.cellsOf 9 = 1 := by kernel_rfl
    have s3 : Tryd.prog.cellsOf 22 = 1 := by kernel_rfl
    rw [hc4] at hlen
    match cs, hlen, xs, hxl with
    | [v0, v1, v2, v3], _, [y0, y1, y2, y3], _ =>
      have g0 := hff 0 _ rfl
      have g1 := hff 1 _ rfl
      have g2 := hff 2 _ rfl
      have g3 := hff 3 _ rfl
      simp [s0, s1, s3] at g0 g1 g2 g3
      obtain ⟨z0, e0, x0, _⟩ := DataW.trod_int Tryd.underlying3 g0
      obtain ⟨z1, e1, x1, _⟩ := DataW.trod_string Tryd.underlying9 g1
      obtain ⟨z2, e2, x2, _⟩ := DataW.trod_int Tryd.underlying3 g2
      injection e0 with e0 _
      injection e1 with e1 _
      injection e2 with e2 _
      subst e0 e1 e2
      injection hxy with hd _
      have hbs : z1.size + Rows.uptoBulk y3.1 + 3 ≤ Rows.uptoBulk d := by
        rw [hd, x0, x1, x2]
        simp only [List.map_cons, List.map_nil, Rows.uptoBulk, Rows.uptoBulkAll]
        rw [Lib.size_eq]
        omega
      rcases DataW.trod_slice Tryd.underlying22 g3 with ⟨h, _⟩ | ⟨ad, len, cap, elems, rest, n, hk, h, hx3, _, hlc, _, hel, hi, hsp, _⟩
      · injection h with h _
        subst h
        refine ⟨.mk z0 z1 z2 none 0 [], rfl, ?_, ?_⟩
        · rw [QIn]; exact ⟨by omega, Nat.le_refl _, by simp, trivial⟩
        · show qcnt (.mk _ _ _ []) ≤ _
          simp only [qcnt, qcnts]
          omega
      · injection h with h _
        subst h
        have hb3 : Rows.uptoBulkAll (elems.map (·.1)) + Rows.uptoBulkAll (rest.map (·.1)) + 1 = Rows.uptoBulk y3.1 := by
          rw [hx3]
          simp only [Rows.uptoBulk]
        have hcap : cap ≤ 1048576 := by
          obtain ⟨hr, _⟩ := hsp rfl
          have l1 := bulkq_len (elems.map (·.1))
          have l2 := bulkq_len (rest.map (·.1))
          rw [List.length_map] at l1 l2
          omega
        obtain ⟨l, hl, hP⟩ := list_ofQ (P := fun i t => (∃ b o, some ad = some ⟨b, o, none⟩ ∧ b < W.heap.size ∧ Four W b (o + 4 * i) t) ∧ QIn W t ∧ ∀ x, elems[i]? = some x → qcnt (qabs t) ≤ Rows.uptoBulk x.1) len (by
          intro i hil
          have hx := hi i hil
          obtain ⟨x0, hx0⟩ : ∃ x0, elems[i]? = some x0 := ⟨_, List.getElem?_eq_getElem (by omega)⟩
          rw [hx0, hc4] at hx
          obtain ⟨cs2, hcs2, htr⟩ := Option.bind_eq_some_iff.1 hx
          obtain ⟨_, hl2, hcell⟩ := World.cells?_some hcs2
          have hbx : Rows.uptoBulk x0.1 ≤ 1048576 := by
            have := bulk_mem (List.mem_map.2 ⟨x0, List.mem_of_getElem? hx0, rfl⟩ : x0.1 ∈ elems.map (·.1))
            omega
          obtain ⟨t, hb, hq, hcn⟩ := ih n (by omega) cs2 _ _ htr hbx
          subst hb
          have c0 := hcell 0 (by omega)
          have c1 := hcell 1 (by omega)
          have c2 := hcell 2 (by omega)
          have c3 := hcell 3 (by omega)
          obtain ⟨kb, o, s⟩ := ad
          have hs : s = none := by
            have hx2 := hi 0 (by omega)
            obtain ⟨x2, hx3⟩ : ∃ x2, elems[0]? = some x2 := ⟨_, List.getElem?_eq_getElem (by omega)⟩
            rw [hx3, hc4] at hx2
            obtain ⟨cs3, hcs3, _⟩ := Option.bind_eq_some_iff.1 hx2
            obtain ⟨_, hl3, hcell2⟩ := World.cells?_some hcs3
            have h4 := hcell2 0 (by omega)
            rw [List.getElem?_eq_getElem (by omega)] at h4
            simpa [Addr.add] using World.cell?_spot h4
          subst hs
          simp only [add_plainQ] at c0 c1 c2 c3
          refine ⟨t, ⟨kb, o, rfl, World.block_lt_of_cell? W _ c0, ?_, ?_, ?_, ?_⟩, hq, fun x hx => ?_⟩
          · rw [show o + 4 * i = o + i * 4 + 0 by omega]; exact c0
          · rw [show o + 4 * i + 1 = o + i * 4 + 1 by omega]; exact c1
          · rw [show o + 4 * i + 2 = o + i * 4 + 2 by omega]; exact c2
          · rw [show o + 4 * i + 3 = o + i * 4 + 3 by omega]; exact c3
          · rw [hx0] at hx; injection hx with hx; subst hx; exact hcn)
        subst hl
        have hcs : qcnts (qabss l) ≤ Rows.uptoBulkAll (elems.map (·.1)) := by
          refine cnts_bulk l _ (by rw [List.length_map, hel]) fun i t d h1 h2 => ?_
          rw [List.getElem?_map, Option.map_eq_some_iff] at h2
          obtain ⟨x, hx, rfl⟩ := h2
          exact (hP i t h1).2.2 x hx
        refine ⟨.mk z0 z1 z2 (some ad) cap l, rfl, ?_, ?_⟩
        · rw [QIn]
          refine ⟨by omega, hlc, by omega, QsIn.mk fun j x hx => ?_⟩
          obtain ⟨⟨b, o, h1, h2, h3⟩, h4, _⟩ := hP j x hx
          exact ⟨⟨b, o, h1, h2, by rw [Nat.zero_add]; exact h3⟩, h4⟩
        · show qcnt (.mk _ _ _ (qabss l)) ≤ _
          simp only [qcnt]
          omega
/-- the ask that a law is handed -/
def AskArg (w : World) (v : Value) (t : QT) : Prop := v = t.v ∧ QIn w t ∧ qcnt (qabs t) ≤ 1048576
set_option maxRecDepth 100000 in
theorem ask_arg_upto {H : Type} {enc : TypeId × Value → H} {W : World} {r : Reach} {b0 : Nat} {v : Value} {d : DataW H} {p : List MemPlace}
    (hok : Value.okWide Tryd.prog W r b0 24 v) (hf : DataW.Trod enc Tryd.prog W 0 (fun _ => true) true 24 v d p)
    (_hsz : ∀ n, n ∈ d.weights Tryd.prog 24 → n ≤ reachBytes) (hbk : Rows.uptoBulk d ≤ 1048576) : ∃ t, AskArg W v t := by
  have ht := Tryd.underlying24
  have hok2 := hok
  simp only [Value.okWide, ht] at hok2
  obtain ⟨cs, rfl, _, _⟩ := hok2
  obtain ⟨fuel, hf⟩ := hf
  obtain ⟨t, h1, h2, h3⟩ := ask_read fuel _ d p hf hbk
  obtain ⟨l, rfl⟩ : ∃ l : List Value, cs = l.toArray := ⟨cs.toList, by simp⟩
  refine ⟨t, ?_, h2, by omega⟩
  have : l = [.int .i64 t.kind, .string t.name, .int .i64 t.num, .slice t.p t.xs.length t.cap] := by simpa [Value.cells] using h1
  rw [this]; rfl
end Go.Proofs.YtcegmcnknkjcpaaDoor
