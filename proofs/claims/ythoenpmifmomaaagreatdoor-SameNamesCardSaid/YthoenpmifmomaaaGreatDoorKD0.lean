/-
  What the closed runs of this program share: which functions are handed values alone. Conditions: none.
-/
import Derived.Test.YthoenpmifmomaaaGreatDoorKCJ
import Derived.KernelRfl
namespace Go.Proofs.YthoenpmifmomaaaGreatDoor
open Go Go.Am

def mu0 : Oper → Bool := fun _ => false
/-- Functions that are handed values alone. -/
def pu0 (f : Nat) : Bool := [5, 13, 24, 25, 26, 27, 28, 29, 30, 31, 46, 55, 70, 72, 74, 82, 106, 107, 108, 109, 116, 122, 125, 130, 135, 143, 146, 149, 150, 168, 172, 182, 183, 185, 198, 199, 202, 204, 205, 207, 212, 242, 244, 245, 285, 286, 303, 315, 319, 350].contains f

theorem hmix : Tryz.prog.follows .mixedOrders = true := by kernel_rfl
end Go.Proofs.YthoenpmifmomaaaGreatDoor
