/-
  A world in which the listed variables hold what their initialisers lay, and what the closed runs look at of them. Conditions: none.
-/
import Derived.Test.YthoenpmifmomaaaGreatDoorCards
import Derived.Test.YthoenpmifmomaaaGreatDoorTie
import Derived.WalkKit
import Derived.ProofKit
import Derived.OpenShut
import Derived.LaidMore
import Derived.LaidHandle
import Derived.Deep.DeepHandedRow
import Derived.Deep.DeepWitnessRowRef
import Derived.Lib.LaidTab
import Derived.Lib.LaidU8
import Derived.Test.YthoenpmifmomaaaGreatDoorKC0
namespace Go.Am
open Go Go.RowKit

/-- A function without parameters, where what it looks at of the package variables is known. -/
theorem PCall.closedG {P : Program} {G : Gl} {f : FuncId} {b : Bool} (h : PCall P G f [] [.returned (.bool b)]) (w : World) (hG : ∀ g o x, G g o = some x → ∃ v, w.cell? ⟨g, o, none⟩ = some v ∧ ∀ S : Sh, VRel S x v) :
    Calls P f #[] w fun e w' => e = .returned (.bool b) ∧ Below w.heap.size w w' := by
  have hi : Inv G ({ Sh.none with im := fun g o => if (G g o).isSome then w.cell? ⟨g, o, none⟩ else none } : Sh).bare AH.nil w := by
    refine Inv.nil ?_ ?_
    · intro g o v hv
      dsimp only at hv
      split at hv
      · exact hv
      · cases hv
    · intro g o x hx
      obtain ⟨v, h1, h2⟩ := hG g o x hx
      exact ⟨v, by dsimp only; rw [hx]; simpa using h1, h2 _⟩
  refine (h.below hi .nil).mono ?_
  rintro e w' ⟨x, hx, S', _, r1, hb⟩
  obtain rfl := List.mem_singleton.1 hx
  cases r1 with
  | returned v u hv =>
    cases hv
    exact ⟨rfl, hb⟩

end Go.Am
namespace Go.Proofs.YthoenpmifmomaaaGreatDoor
open Go.ChangeShapes Go.WideShapes Go.ChangeAt Go.RowKit Go.Am

theorem own : ownKnob Tryz.prog.godebug = none := by kernel_rfl

set_option maxRecDepth 1000000 in
theorem laid_met (os : Os) (args : Array Value) : laidMetH Tryz.prog Rows.shapeNamesRow.laid ((World.doorLaid Tryz.prog 200 os).forCall (fun _ _ => 0) ⟨#[], args, []⟩).memory :=
  laidMetH_of_parts3 (fuel := 8) (laidMet_of_run' 8 (by kernel_rfl) (by kernel_rfl)) (by kernel_rfl) (by kernel_rfl)

theorem words {W : World} (h : laidMetH Tryz.prog Rows.shapeNamesRow.laid W) : W.cell? ⟨0, 0, none⟩ = some (.int .i64 (-2147483648)) ∧ W.cell? ⟨0, 1, none⟩ = some (.int .i64 2147483647) := by
  have hp : laidMet Tryz.prog [("sheafworks/word.laws", Rows.laid_sheafworks_word_laws), ("sheafworks/word.neutrals", Rows.laid_sheafworks_word_neutrals), ("sheafworks/shape.words", Rows.laid_sheafworks_shape_words)] W := (show laidMet Tryz.prog _ W ∧ handlesMet Tryz.prog _ W from h).1
  obtain ⟨g, t, cs, fuel, p, hg, ht, hv, hd⟩ := Lib.laidMet.reads hp (.tail _ (.tail _ (.head _)))
  obtain rfl := Option.some.inj ((show Tryz.prog.globalNamed "sheafworks/shape.words" = some 0 by kernel_rfl).symm.trans hg)
  obtain rfl := Option.some.inj ((show (Tryz.prog.globals[0]?).map (·.type) = some 139 by kernel_rfl).symm.trans ht)
  have e := Lib.ints_of_struct (k := .i64) (zs := [-2147483648, 2147483647]) Tryz.underlying139 (fun i f hi => by
    match i, hi with
    | 0, hi => cases hi; exact ⟨by kernel_rfl, by kernel_rfl, by kernel_rfl⟩
    | 1, hi => cases hi; exact ⟨by kernel_rfl, by kernel_rfl, by kernel_rfl⟩
    | n + 2, hi => simp at hi) (by kernel_rfl) hd
  have h0 := World.var?_cell hg hv 0
  have h1 := World.var?_cell hg hv 1
  rw [← Array.getElem?_toList, e] at h0 h1
  exact ⟨h0, h1⟩

end Go.Proofs.YthoenpmifmomaaaGreatDoor
