/- What each law of this seat shares: the table of math/bits reads as listed, at the start and in the walk. Conditions: none. -/
import Derived.Test.YtklikjjipoghlaaDoorRows
import Derived.Test.YtklikjjipoghlaaDoorShelf
import Derived.Test.YtklikjjipoghlaaDoorMem
import Derived.Test.YtklikjjipoghlaaDoorUn
import Derived.WalkKit
import Derived.ProofKit
import Derived.LaidMore
import Derived.OpenShut
import Derived.Stop.Joined
import Derived.Lib.LaidTab
import Derived.Shelf.Spec.TrailingZeros
namespace Go.Proofs.YtklikjjipoghlaaDoor
open Go.ChangeShapes Go.WideShapes Go.ChangeAt Go.RowKit
def laidL : List (String × DataW Unit) := Rows.chainMirskyRow.laid
def tabName : String := Rows.chainMirskyRow.named.headD ""
def tabInts : List Int := Lib.deBruijn64tab.map Int.ofNat
theorem ownK : ownKnob Tryd.prog.godebug = none := by kernel_rfl
theorem laidOutK : laidOutB Tryd.prog = true := by kernel_rfl
theorem tabG : Tryd.prog.globalNamed tabName = some 0 := by kernel_rfl
theorem tabT : (Tryd.prog.globals[0]?).map (·.type) = some 105 := by kernel_rfl
theorem tabCE : Tryd.prog.cellsOf 5 = 1 := by kernel_rfl
theorem tabCT : Tryd.prog.cellsOf 105 = 64 := by kernel_rfl
theorem door_met (os : Os) (args : Array Value) : laidMetH Tryd.prog laidL ((World.doorLaid Tryd.prog 400 os).forCall (fun _ _ => 0) ⟨#[], args, []⟩).memory :=
  laidMetH_of_parts3 (fuel := 8) (laidMet_of_run' 8 (by kernel_rfl) (by kernel_rfl)) (by kernel_rfl) (by kernel_rfl)
/-- the table's cells -/
def Tab (w : World) : Prop := TabAt 0 Lib.deBruijn64tab w
theorem tab_of {w : World} (h : laidMetH Tryd.prog laidL w) : Tab w := by
  rw [MakeChecks.laidMetH_plain _ _ _ (by kernel_rfl)] at h
  have hd : laidL = [(tabName, Lib.tabData .u8 tabInts)] := rfl
  rw [hd] at h
  have hT := Lib.tabIs_of_head tabG tabT Tryd.underlying105 Tryd.underlying5 tabCE tabCT h
  intro j hj
  have hc := hT.cell tabG j (by simpa [tabInts] using hj)
  rw [hc]
  have e : tabInts.getD j 0 = ((Lib.deBruijn64tab.getD j 0 : Nat) : Int) := by
    unfold tabInts
    rw [List.getD_eq_getElem?_getD, List.getD_eq_getElem?_getD, List.getElem?_map]
    cases Lib.deBruijn64tab[j]? <;> rfl
  rw [e]
theorem Tab.keep {w w' : World} (h : Tab w) (hk : ∀ j : Nat, w'.cell? ⟨0, j, none⟩ = w.cell? ⟨0, j, none⟩) : Tab w' :=
  fun j hj => (hk j).trans (h j hj)
theorem Tab.lt {w : World} (h : Tab w) : 0 < w.heap.size := by
  have := h 0 (by decide)
  rcases Nat.lt_or_ge 0 w.heap.size with hlt | hge
  · exact hlt
  · unfold World.cell? at this
    simp [Array.getElem?_eq_none hge] at this
theorem Tab.below {w w' : World} (h : Tab w) (hb : Below w.heap.size w w') : Tab w' := h.keep fun _ => hb.cell h.lt
theorem Tab.belowB {w w' : World} {b : Nat} (h : Tab w) (hg : 0 < b) (hb : Below b w w') : Tab w' := h.keep fun _ => hb.cell hg
theorem Tab.alloc {w : World} (h : Tab w) (o : Obj) : Tab (w.alloc o) := h.keep fun _ => World.cell?_alloc_lt w o _ h.lt
theorem Tab.drew {w : World} (h : Tab w) : Tab w.drew := h
theorem Tab.drewN {w : World} (h : Tab w) (n : Nat) : Tab (w.drewN n) := h
end Go.Proofs.YtklikjjipoghlaaDoor
