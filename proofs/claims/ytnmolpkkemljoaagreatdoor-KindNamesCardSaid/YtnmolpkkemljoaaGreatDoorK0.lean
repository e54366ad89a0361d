/-
  What the closed runs of this program share. Conditions: none.
-/
import Derived.Test.YtnmolpkkemljoaaGreatDoorAm34
import Derived.Test.YtnmolpkkemljoaaGreatDoorProg
import Derived.KernelRfl
namespace Go.Proofs.YtnmolpkkemljoaaGreatDoor
open Go Go.Am

/-- The row that grows: what a map's list is appended to. -/
def mu0 : Oper → Bool := fun o => o.dst == some 17 && o.type == 27 && (match o.op with | .call c => c.args.size == 2 | _ => false)
/-- Functions that are handed values alone. -/
def pu0 (f : Nat) : Bool := (14 ≤ f && f ≤ 50 && f != 49) || [53,60,61,62,63,67,68,69,72,73,76,77,80,81,84,86,87,89,90,91,92,93,98,99,100,101,104,105,106,109,110,111,112,113,120,121,122,124,125,126,127,128,137,138,139,140,141,142].contains f

theorem hmix : Tryz.prog.follows .mixedOrders = true := by kernel_rfl
end Go.Proofs.YtnmolpkkemljoaaGreatDoor
