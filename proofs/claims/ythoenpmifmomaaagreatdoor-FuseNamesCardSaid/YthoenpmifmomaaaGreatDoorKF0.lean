/-
  What the closed runs of this program share: which functions are handed values alone, and which append makes a row that grows. Conditions: none.
-/
import Derived.Test.YthoenpmifmomaaaGreatDoorAm34
import Derived.Test.YthoenpmifmomaaaGreatDoorProg
import Derived.KernelRfl
namespace Go.Proofs.YthoenpmifmomaaaGreatDoor
open Go Go.Am

/-- The row that grows: the code that is put together. -/
def mu0 : Oper → Bool := fun o => o.dst == some 16 && o.type == 34 && (match o.op with | .call c => c.args.size == 2 | _ => false)
/-- Functions that are handed values alone. -/
def pu0 (f : Nat) : Bool := [3, 7, 8, 9, 10, 11, 12, 13, 14, 33, 43, 45, 46, 53, 55, 56, 57, 72, 104, 106, 107, 109, 115, 116, 117, 122, 139, 142, 143, 149, 150, 151, 154, 198, 199, 202, 204, 205, 207, 212, 347].contains f

theorem hmix : Tryz.prog.follows .mixedOrders = true := by kernel_rfl
end Go.Proofs.YthoenpmifmomaaaGreatDoor
