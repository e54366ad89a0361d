/-
  What a call that is proved on values read in memory says of the program, where package variables are known. Conditions: none.
-/
import Derived.Test.YtnmolpkkemljoaaGreatDoorM16
set_option linter.unusedVariables false
set_option linter.unusedSimpArgs false
noncomputable section
namespace Go.Am
open Go Go.RowKit
theorem Inv.memG {G : Gl} (w : World) (hG : ∀ g o x, G g o = some x → ∃ v, w.cell? ⟨g, o, none⟩ = some v ∧ ∀ S : Sh, VRel S x v) : Inv G (memSh w) AH.nil w := by
 rw [← memSh_bare]
 exact Inv.nil (fun _ _ _ h => h) fun g o x hx => by
  obtain ⟨v, h1, h2⟩ := hG g o x hx
  exact ⟨v, h1, h2 _⟩
theorem QuietJ.callsG {P : Program} {G : Gl} {f : FuncId} {args : List AV} {b : Bool} (h : QuietJ P G f args (.bool b)) {w : World} (hG : ∀ g o x, G g o = some x → ∃ v, w.cell? ⟨g, o, none⟩ = some v ∧ ∀ S : Sh, VRel S x v) {vs : List Value} (hl : LRel (memSh w) args vs) :
  Calls P f ⟨vs⟩ w fun e w' => e = .returned (.bool b) ∧ Below w.heap.size w w' := by
 refine callsIn_wide.1 ((h AH.nil (memSh w) w vs (Inv.memG w hG) hl).mono ?_)
 rintro e w' ⟨x, rfl, S', _, f1, r1⟩
 refine ⟨?_, f1.os, f1.tape, f1.output, f1.size, fun k hk => f1.keep k hk not_owned_nil⟩
 cases r1 with
 | returned v u hv =>
  cases hv
  rfl
end Go.Am
end