/-
  What the closed runs of this program share: which package variable is looked at, and which functions are handed values alone. Conditions: none.
-/
import Derived.Test.YthoenpmifmomaaaGreatDoorAm34
import Derived.Test.YthoenpmifmomaaaGreatDoorProg
import Derived.KernelRfl
namespace Go.Proofs.YthoenpmifmomaaaGreatDoor
open Go Go.Am

/-- shape.words. -/
def gS : Gl := fun g o =>
  match g, o with
  | 0, 0 => some (.int .i64 (-2147483648))
  | 0, 1 => some (.int .i64 2147483647)
  | _, _ => none
def mu0 : Oper → Bool := fun _ => false
/-- Functions that are handed values alone. -/
def pu0 (f : Nat) : Bool := [6, 32, 33, 34, 35, 36, 37, 38, 39, 40, 46, 72, 94, 95, 96, 103, 106, 107, 108, 109, 122, 125, 139, 142, 143, 146, 149, 150, 172, 188, 198, 199, 202, 204, 205, 207, 212, 215, 247, 248, 249, 250, 287, 290, 307, 308, 353, 354, 355].contains f

theorem hmix : Tryz.prog.follows .mixedOrders = true := by kernel_rfl
end Go.Proofs.YthoenpmifmomaaaGreatDoor
