/- What each law of this seat shares: the table of math/bits reads as listed, at the start and in the walk. Conditions: none. -/
import Derived.Test.YtlhhcgiifgkngaaDoorRows
import Derived.Test.YtlhhcgiifgkngaaDoorShelf
import Derived.Test.YtlhhcgiifgkngaaDoorMem
import Derived.Test.YtlhhcgiifgkngaaDoorUn
import Derived.WalkKit
import Derived.ProofKit
import Derived.LaidMore
import Derived.OpenShut
import Derived.Stop.Joined
import Derived.Lib.LaidTab
import Derived.FnData
import Derived.Shelf.Spec.TrailingZeros
import Derived.Lib.Split
namespace Go.Proofs.YtlhhcgiifgkngaaDoor
open Go.ChangeShapes Go.WideShapes Go.ChangeAt Go.RowKit
def laidL : List (String × DataW Unit) := Rows.graphPartRow.laid
def tabName : String := "math/bits.deBruijn64tab"
def tabInts : List Int := Lib.deBruijn64tab.map Int.ofNat
theorem ownK : ownKnob Tryd.prog.godebug = none := by kernel_rfl
theorem laidOutK : laidOutB Tryd.prog = true := by kernel_rfl
theorem tabG : Tryd.prog.globalNamed tabName = some 1 := by kernel_rfl
theorem tabTD : (Tryd.prog.globals[1]?).map (·.type) = some 202 := by kernel_rfl
theorem tabCE : Tryd.prog.cellsOf 5 = 1 := by kernel_rfl
theorem tabCT : Tryd.prog.cellsOf 202 = 64 := by kernel_rfl
theorem laid_one {P : Program} {w : World} : ∀ {l : List (String × DataW Unit)} {ps : List MemPlace}, DataW.LaidVars P w l ps → ∀ x ∈ l, ∃ g t cs fuel p, P.globalNamed x.1 = some g ∧ (P.globals[g]?).map (·.type) = some t ∧ w.var? P x.1 = some cs ∧ DataW.trod (fun _ => ()) P w 0 (fun _ => true) false fuel t cs.toList = some (x.2, p) := by
  intro l
  induction l with
  | nil => intro ps _ x hx; cases hx
  | cons y l ih =>
    intro ps h x hx
    obtain ⟨n, d⟩ := y
    obtain ⟨g, t, cs, fuel, p, q, h1, h2, h3, h4, h5, _⟩ := h
    rcases List.mem_cons.1 hx with rfl | hx
    · exact ⟨g, t, cs, fuel, p, h1, h2, h3, h4⟩
    · exact ih h5 x hx
/-- a table of numbers that is on the list reads as listed -/
theorem laid_tab {w : World} (h : laidMetH Tryd.prog laidL w) {name : String} {k : IntKind} {zs : List Int} {g : Nat} {t e : TypeId} {n : Nat} (hm : (name, (Lib.tabData k zs : DataW Unit)) ∈ laidL)
    (hg : Tryd.prog.globalNamed name = some g) (hty : (Tryd.prog.globals[g]?).map (·.type) = some t) (ht : Tryd.prog.underlying t = some (.array n e)) (he : Tryd.prog.underlying e = some (.int k)) (hce : Tryd.prog.cellsOf e = 1) (hct : Tryd.prog.cellsOf t = n) : Lib.TabIs Tryd.prog w name k zs := by
  rw [MakeChecks.laidMetH_plain _ _ _ (by kernel_rfl)] at h
  obtain ⟨ps, hl, _⟩ := h
  obtain ⟨g', t', cs, fuel, p, hg', ht', hvar, hd⟩ := laid_one hl _ hm
  obtain rfl := Option.some.inj (hg.symm.trans hg')
  obtain rfl := Option.some.inj (hty.symm.trans ht')
  unfold Lib.TabIs
  rw [hvar, ← Lib.cells_of_tab ht he hce hct hd]
/-- the table's cells -/
def Tab (w : World) : Prop := TabAt 1 Lib.deBruijn64tab w
theorem tab_of {w : World} (h : laidMetH Tryd.prog laidL w) : Tab w := by
  have hT := laid_tab h (name := tabName) (k := .u8) (zs := tabInts) (by show _ ∈ [_]; repeat (first | exact List.Mem.head _ | apply List.Mem.tail)) tabG tabTD Tryd.underlying202 Tryd.underlying5 tabCE tabCT
  intro j hj
  have hc := hT.cell tabG j (by simpa [tabInts] using hj)
  rw [hc]
  have e : tabInts.getD j 0 = ((Lib.deBruijn64tab.getD j 0 : Nat) : Int) := by
    unfold tabInts
    rw [List.getD_eq_getElem?_getD, List.getD_eq_getElem?_getD, List.getElem?_map]
    cases Lib.deBruijn64tab[j]? <;> rfl
  rw [e]
theorem Tab.keep {w w' : World} (h : Tab w) (hk : ∀ j : Nat, w'.cell? ⟨1, j, none⟩ = w.cell? ⟨1, j, none⟩) : Tab w' :=
  fun j hj => (hk j).trans (h j hj)
theorem Tab.lt {w : World} (h : Tab w) : 1 < w.heap.size := by
  have := h 0 (by decide)
  rcases Nat.lt_or_ge 1 w.heap.size with hlt | hge
  · exact hlt
  · unfold World.cell? at this
    simp [Array.getElem?_eq_none hge] at this
theorem Tab.below {w w' : World} (h : Tab w) (hb : Below w.heap.size w w') : Tab w' := h.keep fun _ => hb.cell h.lt
theorem Tab.belowB {w w' : World} {b : Nat} (h : Tab w) (hg : 1 < b) (hb : Below b w w') : Tab w' := h.keep fun _ => hb.cell hg
theorem Tab.alloc {w : World} (h : Tab w) (o : Obj) : Tab (w.alloc o) := h.keep fun _ => World.cell?_alloc_lt w o _ h.lt
theorem Tab.drew {w : World} (h : Tab w) : Tab w.drew := h
theorem Tab.drewN {w : World} (h : Tab w) (n : Nat) : Tab (w.drewN n) := h
end Go.Proofs.YtlhhcgiifgkngaaDoor
