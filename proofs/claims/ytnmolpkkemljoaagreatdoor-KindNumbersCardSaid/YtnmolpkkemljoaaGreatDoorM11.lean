/-
  What the proof is built of: What is known of the table of powers of ten. Numbers as texts: up to three figures. Types as texts: what they come to. The document's examples, run. KindChecks: the hooks. KindPuts: the hooks. KindChecks returns true. KindPuts returns true. KindNumbers: the hooks. The conditions of KindNumbers, evaluated. Other numbers for variables: the numbered type stays the same. KindNumbers returns true. A world in which the listed variables hold what their initialisers lay. What the laid variables hold, as far as the walks look at it. Conditions: none.
-/
import Derived.Test.YtnmolpkkemljoaaGreatDoorM9
import Derived.Test.YtnmolpkkemljoaaGreatDoorM10
import Derived.Shelf.Small.Wraps
import Derived.Shelf.Strconv.Atoi
import Derived.Shelf.Strconv.Itoa0
import Derived.Test.YtnmolpkkemljoaaGreatDoorProg
import Derived.Test.YtnmolpkkemljoaaGreatDoorM8
import Derived.Test.YtnmolpkkemljoaaGreatDoorM6
import Derived.Test.YtnmolpkkemljoaaGreatDoorCards
import Derived.Test.YtnmolpkkemljoaaGreatDoorTie
import Derived.WalkKit
import Derived.ProofKit
import Derived.OpenShut
import Derived.Deep.DeepHandedRow
import Derived.Deep.DeepWitnessRowRef
import Derived.Lib.LaidTab
import Derived.Lib.LaidU8
import Derived.Lib.ItoaNum
section
noncomputable section
namespace Go.Proofs.YtnmolpkkemljoaaGreatDoor
open Go Go.Am Kd

def pow10 : List Nat := [1, 10, 100, 1000, 10000, 100000, 1000000, 10000000, 100000000, 1000000000, 10000000000, 100000000000, 1000000000000, 10000000000000, 100000000000000, 1000000000000000, 10000000000000000, 100000000000000000, 1000000000000000000, 10000000000000000000]
/-- The table. -/
def gT : Gl := fun g o => match g == 0 with
  | true => match nthR pow10 o with | some n => some (.int .u64 n) | none => none
  | false => none
def runT (hk : Hooks) (n : Nat) (f : FuncId) (args : List AV) (A : AH) (K : AFin → Prop) : Prop := sFuncR Tryz.prog (Rm.W Tryz.prog gT els mu0 hk n) f args A K

end Go.Proofs.YtnmolpkkemljoaaGreatDoor
end
end

section
set_option maxRecDepth 100000
namespace Kd
end Kd
noncomputable section
namespace Go.Proofs.YtnmolpkkemljoaaGreatDoor
open Go Go.Am Kd

abbrev QT := QuietJ Tryz.prog gT

theorem QT.by {hk : Hooks} {f : FuncId} {args : List AV} {v : AV} (ha : AV.stillL args = true) (hv : v.still = true) (hh : Hooks.Ok Tryz.prog gT hk) (h : runT hk 60 f args AH.nil (retIs Tryz.prog 5 v)) : QT f args v :=
  QuietJ.ret (P := Tryz.prog) (G := gT) (f := f) 5 ha hv (FuncJ.run (el := els) (mu := mu0) (hk := hk) hmix hh (n := 60) h)

end Go.Proofs.YtnmolpkkemljoaaGreatDoor
end
end

section
set_option maxRecDepth 100000
namespace Kd
open Go.Am Go.Proofs.YtnmolpkkemljoaaGreatDoor

structure WSt where
  i : Nat
  acc : List UInt8
end Kd
noncomputable section
namespace Go.Proofs.YtnmolpkkemljoaaGreatDoor
open Go Go.Am Kd

end Go.Proofs.YtnmolpkkemljoaaGreatDoor
end
end

section
noncomputable section
namespace Go.Proofs.YtnmolpkkemljoaaGreatDoor.closed
open Go Go.Am

/-- The row that grows: what a map's list is appended to. -/
def muC : Oper → Bool := fun o => o.dst == some 17 && o.type == 27 && (match o.op with | .call c => c.args.size == 2 | _ => false)
/-- Functions that are handed values alone. -/
def puC (f : Nat) : Bool := (14 ≤ f && f ≤ 50 && f != 49) || [53,60,61,62,63,67,68,69,72,73,76,77,80,81,84,86,87,89,90,91,92,93,98,99,100,101,104,105,106,109,110,111,112,113,120,121,122,124,125,126,127,128,137,138,139,140,141,142].contains f

theorem c0 : PCall Tryz.prog g0 109 [.agg [.int .i64 1, .int .i64 0, .isl true none 0 []], .int .i64 12] [.returned (.int .i64 1)] := pRun_ok hmix (Orc.table_ok Orc.tabNil) (pu := puC) (mu := muC) (n := 1000) (by kernel_rfl)
def a0 : AV := .agg [.int .i64 0, .str [117, 110, 105, 116], .str [], .str [], .int .i64 0, .fn (.func 116) [] [], .int .i64 0, .str [105, 110, 116], .str [], .str [], .int .i64 1, .fn (.func 116) [] [], .int .i64 2, .str [40], .str [32, 42, 32], .str [41], .int .i64 0, .fn (.func 116) [] [], .int .i64 2, .str [40], .str [32, 43, 32], .str [41], .int .i64 1, .fn (.func 116) [] [], .int .i64 1, .str [91], .str [], .str [93], .int .i64 2, .fn (.func 117) [] [], .int .i64 2, .str [40], .str [32, 45, 62, 32], .str [41], .int .i64 0, .fn (.func 116) [] [], .int .i64 0, .str [39], .str [], .str [], .int .i64 0, .fn (.func 116) [] []]
theorem c1 : PCall Tryz.prog g0 81 [] [.returned a0] := pRun_ok hmix (Orc.table_ok Orc.tabNil) (pu := puC) (mu := muC) (n := 1000) (by kernel_rfl)
theorem c2 : PCall Tryz.prog g0 76 [.agg [.int .i64 1, .int .i64 0, .isl true none 0 []]] [.returned (.bool true)] := pRun_ok hmix (Orc.table_ok (Orc.tabCons c0 (Orc.tabCons c1 Orc.tabNil))) (pu := puC) (mu := muC) (n := 1000) (by kernel_rfl)
theorem c3 : PCall Tryz.prog g0 76 [.agg [.int .i64 0, .int .i64 0, .isl true none 0 []]] [.returned (.bool true)] := pRun_ok hmix (Orc.table_ok (Orc.tabCons c1 Orc.tabNil)) (pu := puC) (mu := muC) (n := 1000) (by kernel_rfl)
def a1 : AV := .agg [.int .i64 4, .int .i64 0, .isl false none 0 [.agg [.int .i64 6, .int .i64 1, .isl true none 0 []]]]
def a2 : AV := .isl false none 0 [.agg [.int .i64 6, .int .i64 0, .isl true none 0 []], a1]
theorem c4 : PCall Tryz.prog g0 109 [.agg [.int .i64 2, .int .i64 0, a2], .int .i64 12] [.returned (.int .i64 3)] := pRun_ok hmix (Orc.table_ok Orc.tabNil) (pu := puC) (mu := muC) (n := 1000) (by kernel_rfl)
theorem c5 : PCall Tryz.prog g0 76 [.agg [.int .i64 2, .int .i64 0, a2]] [.returned (.bool true)] := pRun_ok hmix (Orc.table_ok (Orc.tabCons c4 (Orc.tabCons c1 Orc.tabNil))) (pu := puC) (mu := muC) (n := 1000) (by kernel_rfl)
def a3 : AV := .isl false none 0 [.agg [.int .i64 1, .int .i64 0, .isl true none 0 []], .agg [.int .i64 0, .int .i64 0, .isl true none 0 []]]
theorem c6 : PCall Tryz.prog g0 109 [.agg [.int .i64 3, .int .i64 0, a3], .int .i64 11] [.returned (.int .i64 2)] := pRun_ok hmix (Orc.table_ok Orc.tabNil) (pu := puC) (mu := muC) (n := 1000) (by kernel_rfl)
def a4 : AV := .agg [.int .i64 4, .int .i64 0, .isl false none 0 [.agg [.int .i64 1, .int .i64 0, .isl true none 0 []]]]
theorem c7 : PCall Tryz.prog g0 109 [.agg [.int .i64 4, .int .i64 0, .isl false none 0 [a4]], .int .i64 11] [.returned (.int .i64 3)] := pRun_ok hmix (Orc.table_ok Orc.tabNil) (pu := puC) (mu := muC) (n := 1000) (by kernel_rfl)
def a5 : AV := .isl false none 0 [.agg [.int .i64 3, .int .i64 0, a3], .agg [.int .i64 4, .int .i64 0, .isl false none 0 [a4]]]
theorem c8 : PCall Tryz.prog g0 76 [.agg [.int .i64 2, .int .i64 0, a5]] [.returned (.bool true)] := pRun_ok hmix (Orc.table_ok (Orc.tabCons c6 (Orc.tabCons c7 (Orc.tabCons c1 Orc.tabNil)))) (pu := puC) (mu := muC) (n := 1000) (by kernel_rfl)
def a6 : AV := .isl false none 0 [.agg [.int .i64 6, .int .i64 2, .isl true none 0 []], .agg [.int .i64 6, .int .i64 5, .isl true none 0 []]]
def a7 : AV := .isl false none 0 [.agg [.int .i64 6, .int .i64 5, .isl true none 0 []], .agg [.int .i64 5, .int .i64 0, a6]]
theorem c10 : PCall Tryz.prog g0 68 [.agg [.int .i64 6, .int .i64 2, .isl true none 0 []]] [.returned (.agg [.int .i64 6, .int .i64 2, .isl true none 0 []])] := pRun_ok hmix (Orc.table_ok Orc.tabNil) (pu := puC) (mu := muC) (n := 1000) (by kernel_rfl)
theorem c11 : PCall Tryz.prog g0 68 [.agg [.int .i64 6, .int .i64 0, .isl true none 0 []]] [.returned (.agg [.int .i64 6, .int .i64 0, .isl true none 0 []])] := pRun_ok hmix (Orc.table_ok Orc.tabNil) (pu := puC) (mu := muC) (n := 1000) (by kernel_rfl)
theorem c12 : PCall Tryz.prog g0 68 [.agg [.int .i64 6, .int .i64 1, .isl true none 0 []]] [.returned (.agg [.int .i64 6, .int .i64 1, .isl true none 0 []])] := pRun_ok hmix (Orc.table_ok Orc.tabNil) (pu := puC) (mu := muC) (n := 1000) (by kernel_rfl)
def a11 : AV := .isl false none 0 [.agg [.int .i64 6, .int .i64 0, .isl true none 0 []], .agg [.int .i64 6, .int .i64 1, .isl true none 0 []]]
theorem c14 : PCall Tryz.prog g0 76 [.agg [.int .i64 2, .int .i64 0, a11]] [.returned (.bool true)] := pRun_ok hmix (Orc.table_ok (Orc.tabCons c1 Orc.tabNil)) (pu := puC) (mu := muC) (n := 1000) (by kernel_rfl)
def a12 : AV := .agg [.int .i64 4, .int .i64 0, .isl false none 0 [.agg [.int .i64 6, .int .i64 0, .isl true none 0 []]]]
theorem c15 : PCall Tryz.prog g0 76 [a12] [.returned (.bool true)] := pRun_ok hmix (Orc.table_ok (Orc.tabCons c1 Orc.tabNil)) (pu := puC) (mu := muC) (n := 1000) (by kernel_rfl)
theorem c16 : PCall Tryz.prog g0 68 [.agg [.int .i64 4, .int .i64 0, .isl true none 0 []]] [.returned (.agg [.int .i64 4, .int .i64 0, .isl true none 0 []])] := pRun_ok hmix (Orc.table_ok Orc.tabNil) (pu := puC) (mu := muC) (n := 1000) (by kernel_rfl)
theorem c17 : PCall Tryz.prog g0 138 [.int .u64 2] [.returned (.int .i64 2)] := pRun_ok hmix (Orc.table_ok Orc.tabNil) (pu := puC) (mu := muC) (n := 1000) (by kernel_rfl)
theorem c18 : PCall Tryz.prog g0 124 [.int .u64 2] [.returned (.int .i64 2)] := pRun_ok hmix (Orc.table_ok (Orc.tabCons c17 Orc.tabNil)) (pu := puC) (mu := muC) (n := 1000) (by kernel_rfl)
def a13 : AV := .agg [.int .i64 4, .int .i64 0, .isl false none 0 [.agg [.int .i64 6, .int .i64 2, .isl true none 0 []]]]
def a14 : AV := .isl false none 0 [a13, .agg [.int .i64 6, .int .i64 3, .isl true none 0 []]]
def a15 : AV := .agg [.int .i64 0, .int .i64 4, .int .i64 0, .isl false none 0 [.agg [.int .i64 6, .int .i64 2, .isl true none 0 []]]]
def a16 : AV := .agg [.int .i64 3, .int .i64 4, .int .i64 0, .isl false none 0 [.agg [.int .i64 6, .int .i64 1, .isl true none 0 []]]]
theorem c19 : PCall Tryz.prog g0 16 [.agg [.int .i64 2, .int .i64 0, a2], .agg [.int .i64 2, .int .i64 0, a14]] [.returned (.tup [.isl false none 0 [a15, a16], .int .i64 0])] := pRun_ok hmix (Orc.table_ok (Orc.tabCons c5 (Orc.tabCons c1 (Orc.tabCons c16 (Orc.tabCons c10 (Orc.tabCons c12 (Orc.tabCons c18 Orc.tabNil))))))) (pu := puC) (mu := muC) (n := 1000) (by kernel_rfl)
def a17 : AV := .isl false none 0 [.agg [.int .i64 6, .int .i64 1, .isl true none 0 []], .agg [.int .i64 6, .int .i64 2, .isl true none 0 []]]
def a18 : AV := .isl false none 0 [.agg [.int .i64 1, .int .i64 6, .int .i64 0, .isl true none 0 []], .agg [.int .i64 2, .int .i64 6, .int .i64 0, .isl true none 0 []]]
theorem c20 : PCall Tryz.prog g0 16 [.agg [.int .i64 2, .int .i64 0, a11], .agg [.int .i64 2, .int .i64 0, a17]] [.returned (.tup [a18, .int .i64 0])] := pRun_ok hmix (Orc.table_ok (Orc.tabCons c14 (Orc.tabCons c1 (Orc.tabCons c11 (Orc.tabCons c18 Orc.tabNil))))) (pu := puC) (mu := muC) (n := 1000) (by kernel_rfl)
def a19 : AV := .isl false none 0 [.agg [.int .i64 1, .int .i64 0, .isl true none 0 []], a4]
def a20 : AV := .agg [.int .i64 4, .int .i64 0, .isl false none 0 [.agg [.int .i64 0, .int .i64 0, .isl true none 0 []]]]
def a21 : AV := .isl false none 0 [.agg [.int .i64 0, .int .i64 0, .isl true none 0 []], a20]
def a22 : AV := .isl false none 0 [.agg [.int .i64 2, .int .i64 0, a19], .agg [.int .i64 2, .int .i64 0, a21]]
theorem c21 : PCall Tryz.prog g0 53 [a22] [.returned (.tup [])] := pRun_ok hmix (Orc.table_ok (Orc.tabCons c1 Orc.tabNil)) (pu := puC) (mu := muC) (n := 1000) (by kernel_rfl)
def a23 : AV := .str [40, 39, 48, 32, 42, 32, 91, 39, 49, 93, 41]
def a24 : AV := .tup [.agg [.int .i64 2, .int .i64 0, a2], .int .i64 0]
theorem c22 : PCall Tryz.prog g0 24 [a23] [.returned a24] := pRun_ok hmix (Orc.table_ok (Orc.tabCons c1 (Orc.tabCons c5 Orc.tabNil))) (pu := puC) (mu := muC) (n := 1000) (by kernel_rfl)
theorem c23 : PCall Tryz.prog g0 76 [.agg [.int .i64 3, .int .i64 0, a3]] [.returned (.bool true)] := pRun_ok hmix (Orc.table_ok (Orc.tabCons c1 Orc.tabNil)) (pu := puC) (mu := muC) (n := 1000) (by kernel_rfl)
theorem c24 : PCall Tryz.prog g0 28 [.agg [.int .i64 3, .int .i64 0, a3]] [.returned (.bool true)] := pRun_ok hmix (Orc.table_ok (Orc.tabCons c23 Orc.tabNil)) (pu := puC) (mu := muC) (n := 1000) (by kernel_rfl)
theorem c25 : PCall Tryz.prog g0 28 [.agg [.int .i64 1, .int .i64 0, .isl true none 0 []]] [.returned (.bool true)] := pRun_ok hmix (Orc.table_ok (Orc.tabCons c2 Orc.tabNil)) (pu := puC) (mu := muC) (n := 1000) (by kernel_rfl)
theorem c26 : PCall Tryz.prog g0 30 [.agg [.int .i64 1, .int .i64 0, .isl true none 0 []]] [.returned (.int .i64 1)] := pRun_ok hmix (Orc.table_ok (Orc.tabCons c25 (Orc.tabCons c1 Orc.tabNil))) (pu := puC) (mu := muC) (n := 1000) (by kernel_rfl)
theorem c27 : PCall Tryz.prog g0 31 [.agg [.int .i64 1, .int .i64 0, .isl true none 0 []]] [.returned (.int .i64 0)] := pRun_ok hmix (Orc.table_ok (Orc.tabCons c25 (Orc.tabCons c1 Orc.tabNil))) (pu := puC) (mu := muC) (n := 1000) (by kernel_rfl)
theorem c28 : PCall Tryz.prog g0 31 [.agg [.int .i64 0, .int .i64 0, .isl true none 0 []]] [.returned (.int .i64 0)] := pRun_ok hmix (Orc.table_ok (Orc.tabCons c3 (Orc.tabCons c1 Orc.tabNil))) (pu := puC) (mu := muC) (n := 1000) (by kernel_rfl)
theorem c29 : PCall Tryz.prog g0 76 [.agg [.int .i64 4, .int .i64 0, .isl false none 0 [a4]]] [.returned (.bool true)] := pRun_ok hmix (Orc.table_ok (Orc.tabCons c1 Orc.tabNil)) (pu := puC) (mu := muC) (n := 1000) (by kernel_rfl)
theorem c30 : PCall Tryz.prog g0 28 [.agg [.int .i64 4, .int .i64 0, .isl false none 0 [a4]]] [.returned (.bool true)] := pRun_ok hmix (Orc.table_ok (Orc.tabCons c29 Orc.tabNil)) (pu := puC) (mu := muC) (n := 1000) (by kernel_rfl)
theorem c31 : PCall Tryz.prog g0 109 [a4, .int .i64 12] [.returned (.int .i64 2)] := pRun_ok hmix (Orc.table_ok Orc.tabNil) (pu := puC) (mu := muC) (n := 1000) (by kernel_rfl)
theorem c32 : PCall Tryz.prog g0 76 [a4] [.returned (.bool true)] := pRun_ok hmix (Orc.table_ok (Orc.tabCons c31 (Orc.tabCons c1 Orc.tabNil))) (pu := puC) (mu := muC) (n := 1000) (by kernel_rfl)
theorem c33 : PCall Tryz.prog g0 28 [a4] [.returned (.bool true)] := pRun_ok hmix (Orc.table_ok (Orc.tabCons c32 Orc.tabNil)) (pu := puC) (mu := muC) (n := 1000) (by kernel_rfl)
theorem c34 : PCall Tryz.prog g0 15 [] [.returned (.bool true)] := pRun_ok hmix (Orc.table_ok (Orc.tabCons c19 (Orc.tabCons c20 (Orc.tabCons c1 (Orc.tabCons c15 (Orc.tabCons c5 (Orc.tabCons c8 (Orc.tabCons c18 (Orc.tabCons c21 (Orc.tabCons c22 (Orc.tabCons c24 (Orc.tabCons c26 (Orc.tabCons c27 (Orc.tabCons c3 (Orc.tabCons c28 (Orc.tabCons c30 (Orc.tabCons c33 Orc.tabNil))))))))))))))))) (pu := puC) (mu := muC) (n := 1000) (by kernel_rfl)

theorem alive_ok : QJ 15 [] (.bool true) := QuietJ.ofCall rfl c34

def aliveQ : QSpec
  | [], K => K (.bool true)
  | _, _ => False

theorem alive_hook : QSpec.Ok Tryz.prog g0 15 aliveQ := by
  intro args K h'
  unfold aliveQ at h'
  split at h'
  · exact ⟨_, alive_ok, h'⟩
  · exact h'.elim

end Go.Proofs.YtnmolpkkemljoaaGreatDoor.closed
end
end

section
namespace Kd
open Go.Am Go.Proofs.YtnmolpkkemljoaaGreatDoor
def vlF (t : Ty) : List Int := if validB t = true then varsL t else []
def errF (t : Ty) : Int := if validB t = true then 0 else 1
def vbF (t : Ty) : Bool := if validB t = true then nilB (varsL t) else true
def numF (t : Ty) : Ty := if validB t = true then numT t else .mk 0 0 true []
end Kd
noncomputable section
namespace Go.Proofs.YtnmolpkkemljoaaGreatDoor
open Go Go.Am Kd

/-- One type is handed over. -/
def tyQ (r : Ty → AV) : QSpec
  | [t], K => argTy t fun t => (cnt t ≤ 1000) ∧ K (r t)
  | _, _ => False
def kvQ : QSpec := tyQ fun t => .tup [.isl (vbF t) none 0 (encI (vlF t)), .int .i64 (errF t)]
def knQ : QSpec := tyQ fun t => .tup [encD (numF t), .int .i64 (errF t)]
def ckQ : QSpec := tyQ fun t => .int .i64 (checkN t)
def smeQ : QSpec
  | [t, u], K => argTy t fun t => argTy u fun u => (cnt t ≤ 1000 ∧ cnt u ≤ 1000) ∧ K (.bool (sameB t u))
  | _, _ => False
end Go.Proofs.YtnmolpkkemljoaaGreatDoor
end
end

section
noncomputable section
namespace Go.Proofs.YtnmolpkkemljoaaGreatDoor
open Go Go.Am Kd
def pQ : QSpec
  | [l, t], K => argBinds l fun _ l => argTy t fun t => (cnt t ≤ 1000 ∧ l.length ≤ 2000 ∧ allC l) ∧ K (putV l t)
  | _, _ => False
end Go.Proofs.YtnmolpkkemljoaaGreatDoor
end
end

section
set_option maxRecDepth 100000
noncomputable section
namespace Go.Proofs.YtnmolpkkemljoaaGreatDoor
open Go Go.Am Kd

theorem tyQ_ok {G : Gl} {f : FuncId} {r : Ty → AV} (h : ∀ t, cnt t ≤ 1000 → QuietJ Tryz.prog G f [enc t] (r t)) : QSpec.Ok Tryz.prog G f (tyQ r) := by
  intro args K h'
  unfold tyQ at h'
  split at h'
  · obtain ⟨t, rfl, h1, h2⟩ := argTy_elim h'
    exact ⟨_, h t h1, h2⟩
  · exact h'.elim

end Go.Proofs.YtnmolpkkemljoaaGreatDoor
end
end

section
set_option maxRecDepth 100000
noncomputable section
namespace Go.Proofs.YtnmolpkkemljoaaGreatDoor
open Go Go.Am Kd

theorem kp_hook : QSpec.Ok Tryz.prog g0 34 pQ := by
  intro args K h'
  unfold pQ at h'
  split at h'
  · obtain ⟨b, l, rfl, h⟩ := argBinds_elim h'
    obtain ⟨t, rfl, h1, h2⟩ := argTy_elim h
    exact ⟨_, kput_ok b l t h1.1 h1.2.1 h1.2.2, h2⟩
  · exact h'.elim
theorem sme_hook0 : QSpec.Ok Tryz.prog g0 23 smeQ := by
  intro args K h'
  unfold smeQ at h'
  split at h'
  · obtain ⟨t, rfl, h2⟩ := argTy_elim h'
    obtain ⟨u, rfl, h3, h4⟩ := argTy_elim h2
    exact ⟨_, same_ok t u h3.1 h3.2, h4⟩
  · exact h'.elim

theorem put_cnt (l : List (Int × Ty)) (t : Ty) : cnt (putT l t) ≤ 1000 := by
  rcases put_cases l t with ⟨h1, h2, h3⟩ | ⟨h0, h1, h2, h3⟩ | ⟨h0, h4, h1, h2, h3⟩ | ⟨h0, h4, h1, h2, h3⟩
  · rw [h2]; simp [cnt, cntL]
  · rw [h2]; simp [cnt, cntL]
  · rw [h2]; simp [cnt, cntL]
  · rw [h2]; have := ((valid_eq _).1 h1).2.1; omega

end Go.Proofs.YtnmolpkkemljoaaGreatDoor
end
end

section
namespace Kd
open Go.Am Go.Proofs.YtnmolpkkemljoaaGreatDoor
/-- Another number, by so many. -/
def byV (k n : Int) : Int := Int.tmod (n + k) 1000
def byL (k : Int) (m : List Int) : List (Int × Ty) := m.map fun n => (n, varT (byV k n))
def rangeOk (o : List Int) (n : Nat) : Prop := ∀ j : Nat, j < n → o[j]? = some (j : Int)
def inVars (m : List Int) : Prop := ∀ n ∈ m, 0 ≤ n ∧ n < 1000
def nbInv (k : Int) (m o : List Int) (p x : Nat) : Prop := x ≤ m.length ∧ ph0 p x ∧ m.length ≤ 2000 ∧ rangeOk o m.length ∧ inVars m ∧ 0 ≤ k ∧ k ≤ 65535
end Kd
noncomputable section
namespace Go.Proofs.YtnmolpkkemljoaaGreatDoor
open Go Go.Am Kd
def nbAcc (p : Nat) (xs : List AV) : AV := match p with | 0 => .isl true none 0 [] | _ => .isl false (some 2) 0 xs
def nbFam (p n : Nat) : List (Nat × Nat) := match p with | 0 => [(1, 3)] | _ => [(1, 3), (1, 4), (n, 4)]
def nbNf (p : Nat) : Nat := match p with | 0 => 1 | _ => 3
def nbSt (k : Int) (t a : Ty) (b c : Bool) (m o : List Int) : LSN Nat (List (Int × Ty)) where
  m := 2
  ways := 2
  n _ := 2
  nf p := nbNf p
  rd := none
  fr p x := frm 135 [(1, .int .u16 k), (2, .ptr 0 0), (5, .ptr 1 0), (7, .isl b none 0 (encI m)), (9, .isl c none 0 (encI o)), (11, nbAcc p (encB (byL k (m.take x)))), (71, .isl b none 0 (encI m)), (72, .int .i64 (encI m).length), (73, .int .i64 x)]
  hp p x := ⟨[tyC t, tyC a], nbFam p x⟩
  inv p x := nbInv k m o p x
  res _ _ := byL k m
  sel r := wayN r
  wn _ := 2
  wnf w := nbNf w
  out w r := ⟨.exit 0, frm 135 [(2, .ptr 0 0), (5, .ptr 1 0), (11, nbAcc w (encB r))], ⟨[tyC t, tyC a], nbFam w r.length⟩⟩
def nbHk0 : Hooks := hooks [(32, varQ)] [] []
def nbQs : List (Nat × QSpec) := [(14, weakQ 3 greatQ), (15, closed.aliveQ), (38, knQ), (27, ckQ), (36, kvQ), (48, szQ0), (34, weakQ 3 pQ), (23, smeQ)]
def nbHk (k : Int) (t : Ty) : Hooks := hooks nbQs [] [(12, ⟨13, 0, (nbSt k t (numF t) (vbF t) (vbF (numF t)) (vlF t) (vlF (numF t))).spec⟩)]
end Go.Proofs.YtnmolpkkemljoaaGreatDoor
end
end

section
noncomputable section
namespace Go.Proofs.YtnmolpkkemljoaaGreatDoor
open Go Go.Am Kd
set_option maxRecDepth 100000

theorem v32_top (n : Int) (r : Ty) : (runF hk0 60 32 [.int .i64 n] AH.nil (retIs Tryz.prog 5 (encD r))) = ( AV.agg [AV.int IntKind.i64 (6), AV.int IntKind.i64 n, AV.isl true none (0) []] = AV.agg [AV.int IntKind.i64 (Ty.kind r), AV.int IntKind.i64 (Ty.n r), AV.isl (Ty.nl r) none (0) (encL (Ty.l r))]) := by kernel_rfl

theorem nb_loop0 (k : Int) (t a : Ty) (b c : Bool) (m o : List Int) (meas : Nat → Nat) (x : Nat) : (runN nbHk0 60 13 0 (nbSt k t a b c m o) meas 0 x) = ( bothR (decide (iC x < iC (List.length (encI m)))) (0 ≤ iC x ∧ ∃ x_1, (encI m)[Int.toNat (iC x)]? = some (AV.int IntKind.i64 x_1) ∧ 0 ≤ iC x ∧ ∃ x_2, (encI o)[Int.toNat (iC x)]? = some (AV.int IntKind.i64 x_2) ∧ bothR (!decide (x_2 = iC x)) False (IntKind.i64 = IntKind.i64 ∧ (1000 : Int) ≠ 0 ∧ (Nat.le (48) (35184372088832) ∧ Nat.le (1) (1152921504606846976)) ∧ true = true ∧ ((∃ y, nbInv k m o (1) y ∧ meas y < meas x ∧ byL k m = byL k m ∧
 AV.int IntKind.u16 k = AV.int IntKind.u16 k ∧ AV.ptr (0) (0) = AV.ptr (0) (0) ∧ AV.ptr (1) (0) = AV.ptr (1) (0) ∧ AV.isl b none (0) (encI m) = AV.isl b none (0) (encI m) ∧ AV.isl c none (0) (encI o) = AV.isl c none (0) (encI o) ∧ AV.isl false (some (2)) (0) [AV.agg [AV.int IntKind.i64 x_1, AV.int IntKind.i64 (Ty.kind (varT (Int.tmod (IntKind.wrap IntKind.i64 (x_1 + IntKind.wrap IntKind.i64 k)) ((1000 : Int))))), AV.int IntKind.i64 (Ty.n (varT (Int.tmod (IntKind.wrap IntKind.i64 (x_1 + IntKind.wrap IntKind.i64 k)) ((1000 : Int))))),
 AV.isl (Ty.nl (varT (Int.tmod (IntKind.wrap IntKind.i64 (x_1 + IntKind.wrap IntKind.i64 k)) ((1000 : Int))))) none (0) []]] = AV.isl false (some (2)) (0) (encB (byL k (List.take y m))) ∧ AV.isl b none (0) (encI m) = AV.isl b none (0) (encI m) ∧ AV.int IntKind.i64 (iC (List.length (encI m))) = AV.int IntKind.i64 (iC (List.length (encI m))) ∧ AV.int IntKind.i64 (IntKind.wrap IntKind.i64 (iC x + (1 : Int))) = AV.int IntKind.i64 (iC y) ∧ 24 = 24 ∧ AV.int IntKind.i64 (Ty.kind t) = AV.int IntKind.i64 (Ty.kind t) ∧ AV.int IntKind.i64 (Ty.n t) = AV.int IntKind.i64 (Ty.n t) ∧
 AV.isl (Ty.nl t) none (0) (encL (Ty.l t)) = AV.isl (Ty.nl t) none (0) (encL (Ty.l t)) ∧ 24 = 24 ∧ AV.int IntKind.i64 (Ty.kind a) = AV.int IntKind.i64 (Ty.kind a) ∧ AV.int IntKind.i64 (Ty.n a) = AV.int IntKind.i64 (Ty.n a) ∧ AV.isl (Ty.nl a) none (0) (encL (Ty.l a)) = AV.isl (Ty.nl a) none (0) (encL (Ty.l a)) ∧ [(1, 3), (1, 4), (1, 4)] = [(1, 3), (1, 4), (y, 4)] ∧ True) ∨ ∃ y, nbInv k m o (0) y ∧ meas y < meas x ∧ byL k m = byL k m ∧ AV.int IntKind.u16 k = AV.int IntKind.u16 k ∧ AV.ptr (0) (0) = AV.ptr (0) (0) ∧ AV.ptr (1) (0) = AV.ptr (1) (0) ∧
 AV.isl b none (0) (encI m) = AV.isl b none (0) (encI m) ∧ AV.isl c none (0) (encI o) = AV.isl c none (0) (encI o) ∧ (false = true ∧ [AV.agg [AV.int IntKind.i64 x_1, AV.int IntKind.i64 (Ty.kind (varT (Int.tmod (IntKind.wrap IntKind.i64 (x_1 + IntKind.wrap IntKind.i64 k)) ((1000 : Int))))), AV.int IntKind.i64 (Ty.n (varT (Int.tmod (IntKind.wrap IntKind.i64 (x_1 + IntKind.wrap IntKind.i64 k)) ((1000 : Int))))), AV.isl (Ty.nl (varT (Int.tmod (IntKind.wrap IntKind.i64 (x_1 + IntKind.wrap IntKind.i64 k)) ((1000 : Int))))) none (0) []]] = []) ∧
 AV.isl b none (0) (encI m) = AV.isl b none (0) (encI m) ∧ AV.int IntKind.i64 (iC (List.length (encI m))) = AV.int IntKind.i64 (iC (List.length (encI m))) ∧ AV.int IntKind.i64 (IntKind.wrap IntKind.i64 (iC x + (1 : Int))) = AV.int IntKind.i64 (iC y) ∧ 24 = 24 ∧ AV.int IntKind.i64 (Ty.kind t) = AV.int IntKind.i64 (Ty.kind t) ∧ AV.int IntKind.i64 (Ty.n t) = AV.int IntKind.i64 (Ty.n t) ∧ AV.isl (Ty.nl t) none (0) (encL (Ty.l t)) = AV.isl (Ty.nl t) none (0) (encL (Ty.l t)) ∧ 24 = 24 ∧ AV.int IntKind.i64 (Ty.kind a) = AV.int IntKind.i64 (Ty.kind a) ∧
 AV.int IntKind.i64 (Ty.n a) = AV.int IntKind.i64 (Ty.n a) ∧ AV.isl (Ty.nl a) none (0) (encL (Ty.l a)) = AV.isl (Ty.nl a) none (0) (encL (Ty.l a)) ∧ [(1, 3)] = [(1, 3)] ∧ True))) (wayN (byL k m) = 1 ∧ AV.ptr (0) (0) = AV.ptr (0) (0) ∧ AV.ptr (1) (0) = AV.ptr (1) (0) ∧ AV.isl true none (0) [] = AV.isl false (some (2)) (0) (encB (byL k m)) ∧ 24 = 24 ∧ AV.int IntKind.i64 (Ty.kind t) = AV.int IntKind.i64 (Ty.kind t) ∧ AV.int IntKind.i64 (Ty.n t) = AV.int IntKind.i64 (Ty.n t) ∧ AV.isl (Ty.nl t) none (0) (encL (Ty.l t)) = AV.isl (Ty.nl t) none (0) (encL (Ty.l t)) ∧ 24 = 24 ∧
 AV.int IntKind.i64 (Ty.kind a) = AV.int IntKind.i64 (Ty.kind a) ∧ AV.int IntKind.i64 (Ty.n a) = AV.int IntKind.i64 (Ty.n a) ∧ AV.isl (Ty.nl a) none (0) (encL (Ty.l a)) = AV.isl (Ty.nl a) none (0) (encL (Ty.l a)) ∧ [(1, 3)] = [(1, 3), (1, 4), (List.length (byL k m), 4)] ∧ True ∨ wayN (byL k m) = 0 ∧ AV.ptr (0) (0) = AV.ptr (0) (0) ∧ AV.ptr (1) (0) = AV.ptr (1) (0) ∧ AV.isl true none (0) [] = AV.isl true none (0) [] ∧ 24 = 24 ∧ AV.int IntKind.i64 (Ty.kind t) = AV.int IntKind.i64 (Ty.kind t) ∧ AV.int IntKind.i64 (Ty.n t) = AV.int IntKind.i64 (Ty.n t) ∧
 AV.isl (Ty.nl t) none (0) (encL (Ty.l t)) = AV.isl (Ty.nl t) none (0) (encL (Ty.l t)) ∧ 24 = 24 ∧ AV.int IntKind.i64 (Ty.kind a) = AV.int IntKind.i64 (Ty.kind a) ∧ AV.int IntKind.i64 (Ty.n a) = AV.int IntKind.i64 (Ty.n a) ∧ AV.isl (Ty.nl a) none (0) (encL (Ty.l a)) = AV.isl (Ty.nl a) none (0) (encL (Ty.l a)) ∧ [(1, 3)] = [(1, 3)] ∧ True)) := by kernel_rfl

theorem nb_loop1 (k : Int) (t a : Ty) (b c : Bool) (m o : List Int) (meas : Nat → Nat) (x : Nat) : (runN nbHk0 60 13 0 (nbSt k t a b c m o) meas 1 x) = ( bothR (decide (iC x < iC (List.length (encI m)))) (0 ≤ iC x ∧ ∃ x_1, (encI m)[Int.toNat (iC x)]? = some (AV.int IntKind.i64 x_1) ∧ 0 ≤ iC x ∧ ∃ x_2, (encI o)[Int.toNat (iC x)]? = some (AV.int IntKind.i64 x_2) ∧ bothR (!decide (x_2 = iC x)) False (IntKind.i64 = IntKind.i64 ∧ (1000 : Int) ≠ 0 ∧ ((List.length (encB (byL k (List.take x m))) + 1) * 48 ≤ 35184372088832 ∧ List.length (encB (byL k (List.take x m))) + 1 ≤ 1152921504606846976) ∧
 true = true ∧ some (x, 4) = some (0 + List.length (encB (byL k (List.take x m))), 4) ∧ List.all (encB (byL k (List.take x m))) (oneSz (3 + 1)) = true ∧ ∃ y, nbInv k m o (1) y ∧ meas y < meas x ∧ byL k m = byL k m ∧ AV.int IntKind.u16 k = AV.int IntKind.u16 k ∧ AV.ptr (0) (0) = AV.ptr (0) (0) ∧ AV.ptr (1) (0) = AV.ptr (1) (0) ∧ AV.isl b none (0) (encI m) = AV.isl b none (0) (encI m) ∧ AV.isl c none (0) (encI o) = AV.isl c none (0) (encI o) ∧ AV.isl false (some (2)) (0) (encB (byL k (List.take x m)) ++ [AV.agg [AV.int IntKind.i64 x_1, AV.int IntKind.i64
 (Ty.kind (varT (Int.tmod (IntKind.wrap IntKind.i64 (x_1 + IntKind.wrap IntKind.i64 k)) ((1000 : Int))))), AV.int IntKind.i64 (Ty.n (varT (Int.tmod (IntKind.wrap IntKind.i64 (x_1 + IntKind.wrap IntKind.i64 k)) ((1000 : Int))))), AV.isl (Ty.nl (varT (Int.tmod (IntKind.wrap IntKind.i64 (x_1 + IntKind.wrap IntKind.i64 k)) ((1000 : Int))))) none (0) []]]) = AV.isl false (some (2)) (0) (encB (byL k (List.take y m))) ∧ AV.isl b none (0) (encI m) = AV.isl b none (0) (encI m) ∧ AV.int IntKind.i64 (iC (List.length (encI m))) = AV.int IntKind.i64 (iC (List.length (encI m))) ∧
 AV.int IntKind.i64 (IntKind.wrap IntKind.i64 (iC x + (1 : Int))) = AV.int IntKind.i64 (iC y) ∧ 24 = 24 ∧ AV.int IntKind.i64 (Ty.kind t) = AV.int IntKind.i64 (Ty.kind t) ∧ AV.int IntKind.i64 (Ty.n t) = AV.int IntKind.i64 (Ty.n t) ∧ AV.isl (Ty.nl t) none (0) (encL (Ty.l t)) = AV.isl (Ty.nl t) none (0) (encL (Ty.l t)) ∧ 24 = 24 ∧ AV.int IntKind.i64 (Ty.kind a) = AV.int IntKind.i64 (Ty.kind a) ∧ AV.int IntKind.i64 (Ty.n a) = AV.int IntKind.i64 (Ty.n a) ∧ AV.isl (Ty.nl a) none (0) (encL (Ty.l a)) = AV.isl (Ty.nl a) none (0) (encL (Ty.l a)) ∧ [(1, 3), (1, 4),
 (0 + List.length (encB (byL k (List.take x m))) + 1, 4)] = [(1, 3), (1, 4), (y, 4)] ∧ True)) (wayN (byL k m) = 1 ∧ AV.ptr (0) (0) = AV.ptr (0) (0) ∧ AV.ptr (1) (0) = AV.ptr (1) (0) ∧ AV.isl false (some (2)) (0) (encB (byL k (List.take x m))) = AV.isl false (some (2)) (0) (encB (byL k m)) ∧ 24 = 24 ∧ AV.int IntKind.i64 (Ty.kind t) = AV.int IntKind.i64 (Ty.kind t) ∧ AV.int IntKind.i64 (Ty.n t) = AV.int IntKind.i64 (Ty.n t) ∧ AV.isl (Ty.nl t) none (0) (encL (Ty.l t)) = AV.isl (Ty.nl t) none (0) (encL (Ty.l t)) ∧ 24 = 24 ∧ AV.int IntKind.i64 (Ty.kind a) = AV.int IntKind.i64 (Ty.kind a) ∧
 AV.int IntKind.i64 (Ty.n a) = AV.int IntKind.i64 (Ty.n a) ∧ AV.isl (Ty.nl a) none (0) (encL (Ty.l a)) = AV.isl (Ty.nl a) none (0) (encL (Ty.l a)) ∧ [(1, 3), (1, 4), (x, 4)] = [(1, 3), (1, 4), (List.length (byL k m), 4)] ∧ True)) := by kernel_rfl

theorem nb_top (k : Int) (t : Ty) : (runF (nbHk k t) 60 13 [encD t, .int .u16 k] AH.nil (retIs Tryz.prog 5 (.bool true))) = ( ∃ l, encL (Ty.l t) = encL l ∧ bothR (greatB (Ty.mk (Ty.kind t) (Ty.n t) (Ty.nl t) l)) (AV.bool true = AV.bool true) (∃ l, encL (Ty.l t) = encL l ∧ cnt (Ty.mk (Ty.kind t) (Ty.n t) (Ty.nl t) l) ≤ 1000 ∧ ∃ l_1, encL (Ty.l t) = encL l_1 ∧ cnt (Ty.mk (Ty.kind t) (Ty.n t) (Ty.nl t) l_1) ≤ 1000 ∧ bothR (!decide (checkN (Ty.mk (Ty.kind t) (Ty.n t) (Ty.nl t) l_1) = (0 : Int)))
 (bothR (decide (errF (Ty.mk (Ty.kind t) (Ty.n t) (Ty.nl t) l) = (1 : Int))) (AV.bool true = AV.bool true) (AV.bool false = AV.bool true)) (∃ l_2, encL (Ty.l t) = encL l_2 ∧ cnt (Ty.mk (Ty.kind t) (Ty.n t) (Ty.nl t) l_2) ≤ 1000 ∧ ∃ l_3, encL (Ty.l (numF (Ty.mk (Ty.kind t) (Ty.n t) (Ty.nl t) l))) = encL l_3 ∧ cnt (Ty.mk (Ty.kind (numF (Ty.mk (Ty.kind t) (Ty.n t) (Ty.nl t) l))) (Ty.n (numF (Ty.mk (Ty.kind t) (Ty.n t) (Ty.nl t) l))) (Ty.nl (numF (Ty.mk (Ty.kind t) (Ty.n t) (Ty.nl t) l))) l_3) ≤ 1000 ∧
 bothR (!decide (errF (Ty.mk (Ty.kind t) (Ty.n t) (Ty.nl t) l) = (0 : Int))) (AV.bool false = AV.bool true) (bothR (!decide (errF (Ty.mk (Ty.kind t) (Ty.n t) (Ty.nl t) l_2) = (0 : Int))) (AV.bool false = AV.bool true) (bothR (!decide (errF (Ty.mk (Ty.kind (numF (Ty.mk (Ty.kind t) (Ty.n t) (Ty.nl t) l))) (Ty.n (numF (Ty.mk (Ty.kind t) (Ty.n t) (Ty.nl t) l))) (Ty.nl (numF (Ty.mk (Ty.kind t) (Ty.n t) (Ty.nl t) l))) l_3) = (0 : Int))) (AV.bool false = AV.bool true) (bothR (!decide (iC (List.length (encI (vlF
 (Ty.mk (Ty.kind (numF (Ty.mk (Ty.kind t) (Ty.n t) (Ty.nl t) l))) (Ty.n (numF (Ty.mk (Ty.kind t) (Ty.n t) (Ty.nl t) l))) (Ty.nl (numF (Ty.mk (Ty.kind t) (Ty.n t) (Ty.nl t) l))) l_3)))) = iC (List.length (encI (vlF (Ty.mk (Ty.kind t) (Ty.n t) (Ty.nl t) l_2)))))) (AV.bool false = AV.bool true) (∃ l_4, encL (Ty.l (numF (Ty.mk (Ty.kind t) (Ty.n t) (Ty.nl t) l))) = encL l_4 ∧ (Int.NonNeg (300) ∧ Int.NonNeg (700)) ∧ ∃ l_5, encL (Ty.l t) = encL l_5 ∧ (Int.NonNeg (300) ∧ Int.NonNeg (700)) ∧ bothR (!decide (sizeT (Ty.mk (Ty.kind (numF (Ty.mk (Ty.kind t) (Ty.n t) (Ty.nl t) l)))
 (Ty.n (numF (Ty.mk (Ty.kind t) (Ty.n t) (Ty.nl t) l))) (Ty.nl (numF (Ty.mk (Ty.kind t) (Ty.n t) (Ty.nl t) l))) l_4) ((300 : Int)) = sizeT (Ty.mk (Ty.kind t) (Ty.n t) (Ty.nl t) l_5) ((300 : Int)))) (AV.bool false = AV.bool true) (codeIs (loopOf Tryz.prog 13 0) Tryz.prog 13 0 (∃ x, nbInv k (vlF t) (vlF (numF t)) (0) x ∧ AV.int IntKind.u16 k = AV.int IntKind.u16 k ∧ AV.ptr (0) (0) = AV.ptr (0) (0) ∧ AV.ptr (1) (0) = AV.ptr (1) (0) ∧ AV.isl (vbF (Ty.mk (Ty.kind t) (Ty.n t) (Ty.nl t) l_2)) none (0) (encI (vlF (Ty.mk (Ty.kind t) (Ty.n t) (Ty.nl t) l_2))) = AV.isl (vbF t) none (0) (encI (vlF t)) ∧
 AV.isl (vbF (Ty.mk (Ty.kind (numF (Ty.mk (Ty.kind t) (Ty.n t) (Ty.nl t) l))) (Ty.n (numF (Ty.mk (Ty.kind t) (Ty.n t) (Ty.nl t) l))) (Ty.nl (numF (Ty.mk (Ty.kind t) (Ty.n t) (Ty.nl t) l))) l_3)) none (0) (encI (vlF (Ty.mk (Ty.kind (numF (Ty.mk (Ty.kind t) (Ty.n t) (Ty.nl t) l))) (Ty.n (numF (Ty.mk (Ty.kind t) (Ty.n t) (Ty.nl t) l))) (Ty.nl (numF (Ty.mk (Ty.kind t) (Ty.n t) (Ty.nl t) l))) l_3))) = AV.isl (vbF (numF t)) none (0) (encI (vlF (numF t))) ∧ AV.isl true none (0) [] = AV.isl true none (0) [] ∧ AV.isl (vbF (Ty.mk (Ty.kind t) (Ty.n t) (Ty.nl t) l_2)) none (0)
 (encI (vlF (Ty.mk (Ty.kind t) (Ty.n t) (Ty.nl t) l_2))) = AV.isl (vbF t) none (0) (encI (vlF t)) ∧ AV.int IntKind.i64 (iC (List.length (encI (vlF (Ty.mk (Ty.kind t) (Ty.n t) (Ty.nl t) l_2))))) = AV.int IntKind.i64 (iC (List.length (encI (vlF t)))) ∧ AV.int IntKind.i64 (0) = AV.int IntKind.i64 (iC x) ∧ 24 = 24 ∧ AV.int IntKind.i64 (Ty.kind t) = AV.int IntKind.i64 (Ty.kind t) ∧ AV.int IntKind.i64 (Ty.n t) = AV.int IntKind.i64 (Ty.n t) ∧ AV.isl (Ty.nl t) none (0) (encL (Ty.l t)) = AV.isl (Ty.nl t) none (0) (encL (Ty.l t)) ∧ 24 = 24 ∧
 AV.int IntKind.i64 (Ty.kind (numF (Ty.mk (Ty.kind t) (Ty.n t) (Ty.nl t) l))) = AV.int IntKind.i64 (Ty.kind (numF t)) ∧ AV.int IntKind.i64 (Ty.n (numF (Ty.mk (Ty.kind t) (Ty.n t) (Ty.nl t) l))) = AV.int IntKind.i64 (Ty.n (numF t)) ∧ AV.isl (Ty.nl (numF (Ty.mk (Ty.kind t) (Ty.n t) (Ty.nl t) l))) none (0) (encL (Ty.l (numF (Ty.mk (Ty.kind t) (Ty.n t) (Ty.nl t) l)))) = AV.isl (Ty.nl (numF t)) none (0) (encL (Ty.l (numF t))) ∧ [(1, 3)] = [(1, 3)] ∧ (wayN (byL k (vlF t)) = 1 → ∃ l, encB (byL k (vlF t)) = encB l ∧ ∃ l_6, encL (Ty.l t) = encL l_6 ∧
 (cnt (Ty.mk (Ty.kind t) (Ty.n t) (Ty.nl t) l_6) ≤ 1000 ∧ List.length l ≤ 2000 ∧ allC l) ∧ ∃ l_7, encL (Ty.l (putT l (Ty.mk (Ty.kind t) (Ty.n t) (Ty.nl t) l_6))) = encL l_7 ∧ cnt (Ty.mk (Ty.kind (putT l (Ty.mk (Ty.kind t) (Ty.n t) (Ty.nl t) l_6))) (Ty.n (putT l (Ty.mk (Ty.kind t) (Ty.n t) (Ty.nl t) l_6))) (Ty.nl (putT l (Ty.mk (Ty.kind t) (Ty.n t) (Ty.nl t) l_6))) l_7) ≤ 1000 ∧ ∃ l_8, encL (Ty.l (numF t)) = encL l_8 ∧ cnt (Ty.mk (Ty.kind (numF t)) (Ty.n (numF t)) (Ty.nl (numF t)) l_8) ≤ 1000 ∧ bothR (decide (putE l (Ty.mk (Ty.kind t) (Ty.n t) (Ty.nl t) l_6) = (0 : Int))) (bothR (decide (errF
 (Ty.mk (Ty.kind (putT l (Ty.mk (Ty.kind t) (Ty.n t) (Ty.nl t) l_6))) (Ty.n (putT l (Ty.mk (Ty.kind t) (Ty.n t) (Ty.nl t) l_6))) (Ty.nl (putT l (Ty.mk (Ty.kind t) (Ty.n t) (Ty.nl t) l_6))) l_7) = (0 : Int))) (∃ l_9, encL (Ty.l (numF (Ty.mk (Ty.kind (putT l (Ty.mk (Ty.kind t) (Ty.n t) (Ty.nl t) l_6))) (Ty.n (putT l (Ty.mk (Ty.kind t) (Ty.n t) (Ty.nl t) l_6))) (Ty.nl (putT l (Ty.mk (Ty.kind t) (Ty.n t) (Ty.nl t) l_6))) l_7))) = encL l_9 ∧ ∃ l_10, encL (Ty.l (numF t)) = encL l_10 ∧ (cnt (Ty.mk (Ty.kind (numF (Ty.mk (Ty.kind (putT l (Ty.mk (Ty.kind t) (Ty.n t) (Ty.nl t) l_6))) (Ty.n (putT l
 (Ty.mk (Ty.kind t) (Ty.n t) (Ty.nl t) l_6))) (Ty.nl (putT l (Ty.mk (Ty.kind t) (Ty.n t) (Ty.nl t) l_6))) l_7))) (Ty.n (numF (Ty.mk (Ty.kind (putT l (Ty.mk (Ty.kind t) (Ty.n t) (Ty.nl t) l_6))) (Ty.n (putT l (Ty.mk (Ty.kind t) (Ty.n t) (Ty.nl t) l_6))) (Ty.nl (putT l (Ty.mk (Ty.kind t) (Ty.n t) (Ty.nl t) l_6))) l_7))) (Ty.nl (numF (Ty.mk (Ty.kind (putT l (Ty.mk (Ty.kind t) (Ty.n t) (Ty.nl t) l_6))) (Ty.n (putT l (Ty.mk (Ty.kind t) (Ty.n t) (Ty.nl t) l_6))) (Ty.nl (putT l (Ty.mk (Ty.kind t) (Ty.n t) (Ty.nl t) l_6))) l_7))) l_9) ≤ 1000 ∧ cnt (Ty.mk (Ty.kind (numF t))
 (Ty.n (numF t)) (Ty.nl (numF t)) l_10) ≤ 1000) ∧ bothR (sameB (Ty.mk (Ty.kind (numF (Ty.mk (Ty.kind (putT l (Ty.mk (Ty.kind t) (Ty.n t) (Ty.nl t) l_6))) (Ty.n (putT l (Ty.mk (Ty.kind t) (Ty.n t) (Ty.nl t) l_6))) (Ty.nl (putT l (Ty.mk (Ty.kind t) (Ty.n t) (Ty.nl t) l_6))) l_7))) (Ty.n (numF (Ty.mk (Ty.kind (putT l (Ty.mk (Ty.kind t) (Ty.n t) (Ty.nl t) l_6))) (Ty.n (putT l (Ty.mk (Ty.kind t) (Ty.n t) (Ty.nl t) l_6))) (Ty.nl (putT l (Ty.mk (Ty.kind t) (Ty.n t) (Ty.nl t) l_6))) l_7))) (Ty.nl (numF (Ty.mk (Ty.kind (putT l (Ty.mk (Ty.kind t) (Ty.n t) (Ty.nl t) l_6))) (Ty.n (putT l
 (Ty.mk (Ty.kind t) (Ty.n t) (Ty.nl t) l_6))) (Ty.nl (putT l (Ty.mk (Ty.kind t) (Ty.n t) (Ty.nl t) l_6))) l_7))) l_9) (Ty.mk (Ty.kind (numF t)) (Ty.n (numF t)) (Ty.nl (numF t)) l_10)) (bothR (decide (errF (Ty.mk (Ty.kind (numF t)) (Ty.n (numF t)) (Ty.nl (numF t)) l_8) = (0 : Int))) (∃ l, encL (Ty.l (numF (Ty.mk (Ty.kind (numF t)) (Ty.n (numF t)) (Ty.nl (numF t)) l_8))) = encL l ∧ ∃ l_11, encL (Ty.l (numF t)) = encL l_11 ∧ (cnt (Ty.mk (Ty.kind (numF (Ty.mk (Ty.kind (numF t)) (Ty.n (numF t)) (Ty.nl (numF t)) l_8))) (Ty.n (numF (Ty.mk (Ty.kind (numF t)) (Ty.n (numF t)) (Ty.nl (numF t)) l_8)))
 (Ty.nl (numF (Ty.mk (Ty.kind (numF t)) (Ty.n (numF t)) (Ty.nl (numF t)) l_8))) l) ≤ 1000 ∧ cnt (Ty.mk (Ty.kind (numF t)) (Ty.n (numF t)) (Ty.nl (numF t)) l_11) ≤ 1000) ∧ bothR (sameB (Ty.mk (Ty.kind (numF (Ty.mk (Ty.kind (numF t)) (Ty.n (numF t)) (Ty.nl (numF t)) l_8))) (Ty.n (numF (Ty.mk (Ty.kind (numF t)) (Ty.n (numF t)) (Ty.nl (numF t)) l_8))) (Ty.nl (numF (Ty.mk (Ty.kind (numF t)) (Ty.n (numF t)) (Ty.nl (numF t)) l_8))) l) (Ty.mk (Ty.kind (numF t)) (Ty.n (numF t)) (Ty.nl (numF t)) l_11)) (AV.bool true = AV.bool true) (AV.bool false = AV.bool true)) (AV.bool false = AV.bool true))
 (AV.bool false = AV.bool true)) (AV.bool false = AV.bool true)) (AV.bool false = AV.bool true)) ∧ (wayN (byL k (vlF t)) = 0 → ∃ l, [] = encB l ∧ ∃ l_6, encL (Ty.l t) = encL l_6 ∧ (cnt (Ty.mk (Ty.kind t) (Ty.n t) (Ty.nl t) l_6) ≤ 1000 ∧ List.length l ≤ 2000 ∧ allC l) ∧ ∃ l_7, encL (Ty.l (putT l (Ty.mk (Ty.kind t) (Ty.n t) (Ty.nl t) l_6))) = encL l_7 ∧ cnt (Ty.mk (Ty.kind (putT l (Ty.mk (Ty.kind t) (Ty.n t) (Ty.nl t) l_6))) (Ty.n (putT l (Ty.mk (Ty.kind t) (Ty.n t) (Ty.nl t) l_6))) (Ty.nl (putT l (Ty.mk (Ty.kind t) (Ty.n t) (Ty.nl t) l_6))) l_7) ≤ 1000 ∧ ∃ l_8, encL (Ty.l (numF t)) = encL l_8 ∧
 cnt (Ty.mk (Ty.kind (numF t)) (Ty.n (numF t)) (Ty.nl (numF t)) l_8) ≤ 1000 ∧ bothR (decide (putE l (Ty.mk (Ty.kind t) (Ty.n t) (Ty.nl t) l_6) = (0 : Int))) (bothR (decide (errF (Ty.mk (Ty.kind (putT l (Ty.mk (Ty.kind t) (Ty.n t) (Ty.nl t) l_6))) (Ty.n (putT l (Ty.mk (Ty.kind t) (Ty.n t) (Ty.nl t) l_6))) (Ty.nl (putT l (Ty.mk (Ty.kind t) (Ty.n t) (Ty.nl t) l_6))) l_7) = (0 : Int))) (∃ l_9, encL (Ty.l (numF (Ty.mk (Ty.kind (putT l (Ty.mk (Ty.kind t) (Ty.n t) (Ty.nl t) l_6))) (Ty.n (putT l (Ty.mk (Ty.kind t) (Ty.n t) (Ty.nl t) l_6))) (Ty.nl (putT l (Ty.mk (Ty.kind t) (Ty.n t) (Ty.nl t) l_6)))
 l_7))) = encL l_9 ∧ ∃ l_10, encL (Ty.l (numF t)) = encL l_10 ∧ (cnt (Ty.mk (Ty.kind (numF (Ty.mk (Ty.kind (putT l (Ty.mk (Ty.kind t) (Ty.n t) (Ty.nl t) l_6))) (Ty.n (putT l (Ty.mk (Ty.kind t) (Ty.n t) (Ty.nl t) l_6))) (Ty.nl (putT l (Ty.mk (Ty.kind t) (Ty.n t) (Ty.nl t) l_6))) l_7))) (Ty.n (numF (Ty.mk (Ty.kind (putT l (Ty.mk (Ty.kind t) (Ty.n t) (Ty.nl t) l_6))) (Ty.n (putT l (Ty.mk (Ty.kind t) (Ty.n t) (Ty.nl t) l_6))) (Ty.nl (putT l (Ty.mk (Ty.kind t) (Ty.n t) (Ty.nl t) l_6))) l_7))) (Ty.nl (numF (Ty.mk (Ty.kind (putT l (Ty.mk (Ty.kind t) (Ty.n t) (Ty.nl t) l_6))) (Ty.n (putT l
 (Ty.mk (Ty.kind t) (Ty.n t) (Ty.nl t) l_6))) (Ty.nl (putT l (Ty.mk (Ty.kind t) (Ty.n t) (Ty.nl t) l_6))) l_7))) l_9) ≤ 1000 ∧ cnt (Ty.mk (Ty.kind (numF t)) (Ty.n (numF t)) (Ty.nl (numF t)) l_10) ≤ 1000) ∧ bothR (sameB (Ty.mk (Ty.kind (numF (Ty.mk (Ty.kind (putT l (Ty.mk (Ty.kind t) (Ty.n t) (Ty.nl t) l_6))) (Ty.n (putT l (Ty.mk (Ty.kind t) (Ty.n t) (Ty.nl t) l_6))) (Ty.nl (putT l (Ty.mk (Ty.kind t) (Ty.n t) (Ty.nl t) l_6))) l_7))) (Ty.n (numF (Ty.mk (Ty.kind (putT l (Ty.mk (Ty.kind t) (Ty.n t) (Ty.nl t) l_6))) (Ty.n (putT l (Ty.mk (Ty.kind t) (Ty.n t) (Ty.nl t) l_6))) (Ty.nl (putT l
 (Ty.mk (Ty.kind t) (Ty.n t) (Ty.nl t) l_6))) l_7))) (Ty.nl (numF (Ty.mk (Ty.kind (putT l (Ty.mk (Ty.kind t) (Ty.n t) (Ty.nl t) l_6))) (Ty.n (putT l (Ty.mk (Ty.kind t) (Ty.n t) (Ty.nl t) l_6))) (Ty.nl (putT l (Ty.mk (Ty.kind t) (Ty.n t) (Ty.nl t) l_6))) l_7))) l_9) (Ty.mk (Ty.kind (numF t)) (Ty.n (numF t)) (Ty.nl (numF t)) l_10)) (bothR (decide (errF (Ty.mk (Ty.kind (numF t)) (Ty.n (numF t)) (Ty.nl (numF t)) l_8) = (0 : Int))) (∃ l, encL (Ty.l (numF (Ty.mk (Ty.kind (numF t)) (Ty.n (numF t)) (Ty.nl (numF t)) l_8))) = encL l ∧ ∃ l_11, encL (Ty.l (numF t)) = encL l_11 ∧ (cnt (Ty.mk (Ty.kind (numF
 (Ty.mk (Ty.kind (numF t)) (Ty.n (numF t)) (Ty.nl (numF t)) l_8))) (Ty.n (numF (Ty.mk (Ty.kind (numF t)) (Ty.n (numF t)) (Ty.nl (numF t)) l_8))) (Ty.nl (numF (Ty.mk (Ty.kind (numF t)) (Ty.n (numF t)) (Ty.nl (numF t)) l_8))) l) ≤ 1000 ∧ cnt (Ty.mk (Ty.kind (numF t)) (Ty.n (numF t)) (Ty.nl (numF t)) l_11) ≤ 1000) ∧ bothR (sameB (Ty.mk (Ty.kind (numF (Ty.mk (Ty.kind (numF t)) (Ty.n (numF t)) (Ty.nl (numF t)) l_8))) (Ty.n (numF (Ty.mk (Ty.kind (numF t)) (Ty.n (numF t)) (Ty.nl (numF t)) l_8))) (Ty.nl (numF (Ty.mk (Ty.kind (numF t)) (Ty.n (numF t)) (Ty.nl (numF t)) l_8))) l)
 (Ty.mk (Ty.kind (numF t)) (Ty.n (numF t)) (Ty.nl (numF t)) l_11)) (AV.bool true = AV.bool true) (AV.bool false = AV.bool true)) (AV.bool false = AV.bool true)) (AV.bool false = AV.bool true)) (AV.bool false = AV.bool true)) (AV.bool false = AV.bool true))))))))))) := by kernel_rfl

end Go.Proofs.YtnmolpkkemljoaaGreatDoor
end
end

section
set_option maxRecDepth 100000
set_option linter.unusedSimpArgs false
set_option linter.unusedVariables false
namespace Kd
open Go.Am Go.Proofs.YtnmolpkkemljoaaGreatDoor

mutual
/-- Each variable within a type is such a one. -/
def allV (p : Int → Prop) : Ty → Prop
  | .mk k n _ l => (k = 6 → p n) ∧ allVL p l
def allVL (p : Int → Prop) : List Ty → Prop
  | [] => True
  | x :: xs => allV p x ∧ allVL p xs
end

theorem allV_imp {p q : Int → Prop} (h : ∀ n, p n → q n) : (∀ t, allV p t → allV q t) ∧ ∀ l, allVL p l → allVL q l := by
  have key : ∀ (N : Nat), (∀ t, SizeOf.sizeOf t < N → allV p t → allV q t) ∧ ∀ l, SizeOf.sizeOf l < N → allVL p l → allVL q l := by
    intro N
    induction N with
    | zero => exact ⟨fun _ h => by omega, fun _ h => by omega⟩
    | succ N ih =>
      obtain ⟨ih1, ih2⟩ := ih
      constructor
      · intro t ht ha
        cases t with
        | mk k n b l =>
          simp only [Ty.mk.sizeOf_spec] at ht
          simp only [allV] at ha ⊢
          exact ⟨fun hk => h n (ha.1 hk), ih2 l (by omega) ha.2⟩
      · intro l hl ha
        cases l with
        | nil => trivial
        | cons x xs =>
          simp only [List.cons.sizeOf_spec] at hl
          simp only [allVL] at ha ⊢
          exact ⟨ih1 x (by omega) ha.1, ih2 xs (by omega) ha.2⟩
  exact ⟨fun t => (key (SizeOf.sizeOf t + 1)).1 t (by omega), fun l => (key (SizeOf.sizeOf l + 1)).2 l (by omega)⟩

theorem okT_range : ∀ t, okT t = true → allV (fun n => 0 ≤ n ∧ n < 1000) t := by
  have key : ∀ (N : Nat), (∀ t, SizeOf.sizeOf t < N → okT t = true → allV (fun n => 0 ≤ n ∧ n < 1000) t) ∧ ∀ l, SizeOf.sizeOf l < N → okL l = true → allVL (fun n => 0 ≤ n ∧ n < 1000) l := by
    intro N
    induction N with
    | zero => exact ⟨fun _ h => by omega, fun _ h => by omega⟩
    | succ N ih =>
      obtain ⟨ih1, ih2⟩ := ih
      constructor
      · intro t ht h
        cases t with
        | mk k n b l =>
          simp only [Ty.mk.sizeOf_spec] at ht
          obtain ⟨h1, h2⟩ := ok_node h
          simp only [NodeOk] at h1
          simp only [allV]
          exact ⟨h1.2.2.2.2.2, ih2 l (by omega) h2⟩
      · intro l hl h
        cases l with
        | nil => trivial
        | cons x xs =>
          simp only [List.cons.sizeOf_spec] at hl
          simp only [okL, Bool.and_eq_true] at h
          simp only [allVL]
          exact ⟨ih1 x (by omega) h.1, ih2 xs (by omega) h.2⟩
  exact fun t => (key (SizeOf.sizeOf t + 1)).1 t (by omega)

theorem addV_sub {l : List Int} {n m : Int} : m ∈ addV l n ↔ m ∈ l ∨ m = n := by
  unfold addV
  split
  · rename_i h
    have h : n ∈ l := by simpa using h
    exact ⟨.inl, fun h' => h'.elim id fun e => e ▸ h⟩
  · simp
/-- What was there stays; what stands in the type is there. -/
theorem first_mem : (∀ (t : Ty) (xs : List Int), (∀ n ∈ xs, n ∈ firstT t xs) ∧ allV (fun n => n ∈ firstT t xs) t) ∧ ∀ (l : List Ty) (xs : List Int), (∀ n ∈ xs, n ∈ firstL l xs) ∧ allVL (fun n => n ∈ firstL l xs) l := by
  have key : ∀ (N : Nat), (∀ (t : Ty) (xs : List Int), SizeOf.sizeOf t < N → (∀ n ∈ xs, n ∈ firstT t xs) ∧ allV (fun n => n ∈ firstT t xs) t) ∧
      ∀ (l : List Ty) (xs : List Int), SizeOf.sizeOf l < N → (∀ n ∈ xs, n ∈ firstL l xs) ∧ allVL (fun n => n ∈ firstL l xs) l := by
    intro N
    induction N with
    | zero => exact ⟨fun _ _ h => by omega, fun _ _ h => by omega⟩
    | succ N ih =>
      obtain ⟨ih1, ih2⟩ := ih
      constructor
      · intro t xs ht
        cases t with
        | mk k n b l =>
          simp only [Ty.mk.sizeOf_spec] at ht
          obtain ⟨h1, h2⟩ := ih2 l (if k = 6 then addV xs n else xs) (by omega)
          simp only [firstT, allV]
          refine ⟨fun m hm => h1 m ?_, fun hk => h1 n ?_, h2⟩
          · split
            · exact addV_sub.2 (.inl hm)
            · exact hm
          · rw [if_pos hk]; exact addV_sub.2 (.inr rfl)
      · intro l xs hl
        cases l with
        | nil => exact ⟨fun n h => h, trivial⟩
        | cons x l =>
          simp only [List.cons.sizeOf_spec] at hl
          obtain ⟨h1, h2⟩ := ih1 x xs (by omega)
          obtain ⟨h3, h4⟩ := ih2 l (firstT x xs) (by omega)
          simp only [firstL, allVL]
          exact ⟨fun n h => h3 n (h1 n h), (allV_imp fun n h => h3 n h).1 x h2, h4⟩
  exact ⟨fun t xs => (key (SizeOf.sizeOf t + 1)).1 t xs (by omega), fun l xs => (key (SizeOf.sizeOf l + 1)).2 l xs (by omega)⟩
theorem vars_all (t : Ty) : allV (fun n => n ∈ varsL t) t := (first_mem.1 t []).2

/-- All that comes out is from the list or from the type. -/
theorem first_of {p : Int → Prop} : (∀ (t : Ty) (xs : List Int), allV p t → (∀ n ∈ xs, p n) → ∀ n ∈ firstT t xs, p n) ∧ ∀ (l : List Ty) (xs : List Int), allVL p l → (∀ n ∈ xs, p n) → ∀ n ∈ firstL l xs, p n := by
  have key : ∀ (N : Nat), (∀ (t : Ty) (xs : List Int), SizeOf.sizeOf t < N → allV p t → (∀ n ∈ xs, p n) → ∀ n ∈ firstT t xs, p n) ∧
      ∀ (l : List Ty) (xs : List Int), SizeOf.sizeOf l < N → allVL p l → (∀ n ∈ xs, p n) → ∀ n ∈ firstL l xs, p n := by
    intro N
    induction N with
    | zero => exact ⟨fun _ _ h => by omega, fun _ _ h => by omega⟩
    | succ N ih =>
      obtain ⟨ih1, ih2⟩ := ih
      constructor
      · intro t xs ht ha hx
        cases t with
        | mk k n b l =>
          simp only [Ty.mk.sizeOf_spec] at ht
          simp only [allV] at ha
          simp only [firstT]
          refine ih2 l _ (by omega) ha.2 ?_
          split
          · rename_i hk
            intro m hm
            rcases addV_sub.1 hm with h | rfl
            · exact hx m h
            · exact ha.1 hk
          · exact hx
      · intro l xs hl ha hx
        cases l with
        | nil => exact hx
        | cons x l =>
          simp only [List.cons.sizeOf_spec] at hl
          simp only [allVL] at ha
          simp only [firstL]
          exact ih2 l _ (by omega) ha.2 (ih1 x xs (by omega) ha.1 hx)
  exact ⟨fun t xs => (key (SizeOf.sizeOf t + 1)).1 t xs (by omega), fun l xs => (key (SizeOf.sizeOf l + 1)).2 l xs (by omega)⟩

theorem contains_map {p : Int → Prop} {ρ : Int → Int} (hi : ∀ a b, p a → p b → ρ a = ρ b → a = b) {xs : List Int} {n : Int} (hx : ∀ m ∈ xs, p m) (hn : p n) : (xs.map ρ).contains (ρ n) = xs.contains n := by
  rw [Bool.eq_iff_iff]
  simp only [List.contains_iff_mem, List.mem_map]
  exact ⟨fun ⟨m, hm, e⟩ => hi m n (hx m hm) hn e ▸ hm, fun h => ⟨n, h, rfl⟩⟩
theorem addV_map {p : Int → Prop} {ρ : Int → Int} (hi : ∀ a b, p a → p b → ρ a = ρ b → a = b) {xs : List Int} {n : Int} (hx : ∀ m ∈ xs, p m) (hn : p n) : addV (xs.map ρ) (ρ n) = (addV xs n).map ρ := by
  unfold addV
  rw [contains_map hi hx hn]
  split <;> simp

/-- With other numbers, the variables are the others. -/
theorem first_ren {p : Int → Prop} {ρ : Int → Int} (hi : ∀ a b, p a → p b → ρ a = ρ b → a = b) {bs : List (Int × Ty)} :
    (∀ (t : Ty) (xs : List Int), okT t = true → allV (fun n => p n ∧ boundO bs n = some (varT (ρ n))) t → (∀ n ∈ xs, p n) → firstT (withT bs t) (xs.map ρ) = (firstT t xs).map ρ) ∧
    ∀ (l : List Ty) (xs : List Int), okL l = true → allVL (fun n => p n ∧ boundO bs n = some (varT (ρ n))) l → (∀ n ∈ xs, p n) → firstL (withL bs l) (xs.map ρ) = (firstL l xs).map ρ := by
  have key : ∀ (N : Nat), (∀ (t : Ty) (xs : List Int), SizeOf.sizeOf t < N → okT t = true → allV (fun n => p n ∧ boundO bs n = some (varT (ρ n))) t → (∀ n ∈ xs, p n) → firstT (withT bs t) (xs.map ρ) = (firstT t xs).map ρ) ∧
      ∀ (l : List Ty) (xs : List Int), SizeOf.sizeOf l < N → okL l = true → allVL (fun n => p n ∧ boundO bs n = some (varT (ρ n))) l → (∀ n ∈ xs, p n) → firstL (withL bs l) (xs.map ρ) = (firstL l xs).map ρ := by
    intro N
    induction N with
    | zero => exact ⟨fun _ _ h => by omega, fun _ _ h => by omega⟩
    | succ N ih =>
      obtain ⟨ih1, ih2⟩ := ih
      constructor
      · intro t xs ht ho ha hx
        cases t with
        | mk k n b l =>
          simp only [Ty.mk.sizeOf_spec] at ht
          obtain ⟨h1, h2⟩ := ok_node ho
          simp only [allV] at ha
          by_cases hk : k = 6
          · simp only [NodeOk] at h1
            have hl : l = [] := List.eq_nil_of_length_eq_zero (h1.2.2.1 (.inr (.inr hk)))
            obtain ⟨hp, hb⟩ := ha.1 hk
            subst hl hk
            have e : withT bs (.mk 6 n b []) = varT (ρ n) := by
              simp only [withT, if_true, boundT, hb, Option.getD_some]; rfl
            rw [e]
            simp only [varT, firstT, firstL, if_true]
            exact addV_map hi hx hp
          · simp only [withT, if_neg hk, firstT]
            exact ih2 l xs (by omega) h2 ha.2 hx
      · intro l xs hl ho ha hx
        cases l with
        | nil => rfl
        | cons x l =>
          simp only [List.cons.sizeOf_spec] at hl
          simp only [okL, Bool.and_eq_true] at ho
          simp only [allVL] at ha
          simp only [withL, firstL]
          rw [ih1 x xs (by omega) ho.1 ha.1 hx]
          exact ih2 l _ (by omega) ho.2 ha.2 (first_of.1 x xs ((allV_imp fun n h => h.1).1 x ha.1) hx)
  exact ⟨fun t xs => (key (SizeOf.sizeOf t + 1)).1 t xs (by omega), fun l xs => (key (SizeOf.sizeOf l + 1)).2 l xs (by omega)⟩

theorem numB_map {p : Int → Prop} {ρ : Int → Int} (hi : ∀ a b, p a → p b → ρ a = ρ b → a = b) : ∀ (xs : List Int) (n : Int) (i : Nat), (∀ m ∈ xs, p m) → p n → boundO (numB (xs.map ρ) i) (ρ n) = boundO (numB xs i) n
  | [], _, _, _, _ => rfl
  | x :: xs, n, i, hx, hn => by
    simp only [List.map_cons, numB, boundO]
    by_cases h : x = n
    · subst h; rw [if_pos rfl, if_pos rfl]
    · rw [if_neg h, if_neg (fun e => h (hi x n (hx x (by simp)) hn e))]
      exact numB_map hi xs n (i + 1) (fun m hm => hx m (by simp [hm])) hn

theorem with_ren {p : Int → Prop} {ρ : Int → Int} (hi : ∀ a b, p a → p b → ρ a = ρ b → a = b) {bs : List (Int × Ty)} {xs : List Int} (hx : ∀ m ∈ xs, p m) :
    (∀ (t : Ty), okT t = true → allV (fun n => (p n ∧ n ∈ xs) ∧ boundO bs n = some (varT (ρ n))) t → withT (numB (xs.map ρ) 0) (withT bs t) = withT (numB xs 0) t) ∧
    ∀ (l : List Ty), okL l = true → allVL (fun n => (p n ∧ n ∈ xs) ∧ boundO bs n = some (varT (ρ n))) l → withL (numB (xs.map ρ) 0) (withL bs l) = withL (numB xs 0) l := by
  have key : ∀ (N : Nat), (∀ (t : Ty), SizeOf.sizeOf t < N → okT t = true → allV (fun n => (p n ∧ n ∈ xs) ∧ boundO bs n = some (varT (ρ n))) t → withT (numB (xs.map ρ) 0) (withT bs t) = withT (numB xs 0) t) ∧
      ∀ (l : List Ty), SizeOf.sizeOf l < N → okL l = true → allVL (fun n => (p n ∧ n ∈ xs) ∧ boundO bs n = some (varT (ρ n))) l → withL (numB (xs.map ρ) 0) (withL bs l) = withL (numB xs 0) l := by
    intro N
    induction N with
    | zero => exact ⟨fun _ h => by omega, fun _ h => by omega⟩
    | succ N ih =>
      obtain ⟨ih1, ih2⟩ := ih
      constructor
      · intro t ht ho ha
        cases t with
        | mk k n b l =>
          simp only [Ty.mk.sizeOf_spec] at ht
          obtain ⟨h1, h2⟩ := ok_node ho
          simp only [allV] at ha
          by_cases hk : k = 6
          · simp only [NodeOk] at h1
            have hl : l = [] := List.eq_nil_of_length_eq_zero (h1.2.2.1 (.inr (.inr hk)))
            obtain ⟨⟨hp, hm⟩, hb⟩ := ha.1 hk
            subst hl hk
            have e : withT bs (.mk 6 n b []) = varT (ρ n) := by
              simp only [withT, if_true, boundT, hb, Option.getD_some]; rfl
            rw [e]
            simp only [varT, withT, if_true, boundT, numB_map hi xs n 0 hx hp]
            have : ∃ u, boundO (numB xs 0) n = some u := by
              have key : ∀ (xs : List Int) (i : Nat), n ∈ xs → ∃ u, boundO (numB xs i) n = some u := by
                intro xs
                induction xs with
                | nil => intro _ h; cases h
                | cons y ys ih =>
                  intro i h
                  simp only [numB, boundO]
                  by_cases hy : y = n
                  · exact ⟨_, if_pos hy⟩
                  · rw [if_neg hy]
                    rcases List.mem_cons.1 h with h | h
                    · exact absurd h.symm hy
                    · exact ih (i + 1) h
              exact key xs 0 hm
            obtain ⟨u, hu⟩ := this
            rw [hu]; rfl
          · have e : withT bs (.mk k n b l) = .mk k 0 (nilB l) (withL bs l) := by simp only [withT, if_neg hk]
            have hn : nilB (withL bs l) = nilB l := by simp only [nilB, withL_len]
            rw [e]
            simp only [withT, if_neg hk, hn]
            rw [ih2 l (by omega) h2 ha.2]
      · intro l hl ho ha
        cases l with
        | nil => rfl
        | cons x l =>
          simp only [List.cons.sizeOf_spec] at hl
          simp only [okL, Bool.and_eq_true] at ho
          simp only [allVL] at ha
          simp only [withL]
          rw [ih1 x (by omega) ho.1 ha.1, ih2 l (by omega) ho.2 ha.2]
  exact ⟨fun t => (key (SizeOf.sizeOf t + 1)).1 t (by omega), fun l => (key (SizeOf.sizeOf l + 1)).2 l (by omega)⟩

theorem allV_and {p q : Int → Prop} : (∀ t, allV p t → allV q t → allV (fun n => p n ∧ q n) t) ∧ ∀ l, allVL p l → allVL q l → allVL (fun n => p n ∧ q n) l := by
  have key : ∀ (N : Nat), (∀ t, SizeOf.sizeOf t < N → allV p t → allV q t → allV (fun n => p n ∧ q n) t) ∧ ∀ l, SizeOf.sizeOf l < N → allVL p l → allVL q l → allVL (fun n => p n ∧ q n) l := by
    intro N
    induction N with
    | zero => exact ⟨fun _ h => by omega, fun _ h => by omega⟩
    | succ N ih =>
      obtain ⟨ih1, ih2⟩ := ih
      constructor
      · intro t ht h1 h2
        cases t with
        | mk k n b l =>
          simp only [Ty.mk.sizeOf_spec] at ht
          simp only [allV] at h1 h2 ⊢
          exact ⟨fun hk => ⟨h1.1 hk, h2.1 hk⟩, ih2 l (by omega) h1.2 h2.2⟩
      · intro l hl h1 h2
        cases l with
        | nil => trivial
        | cons x xs =>
          simp only [List.cons.sizeOf_spec] at hl
          simp only [allVL] at h1 h2 ⊢
          exact ⟨ih1 x (by omega) h1.1 h2.1, ih2 xs (by omega) h1.2 h2.2⟩
  exact ⟨fun t => (key (SizeOf.sizeOf t + 1)).1 t (by omega), fun l => (key (SizeOf.sizeOf l + 1)).2 l (by omega)⟩

/-- OTHER NUMBERS make no difference to the numbered type. -/
theorem num_ren {p : Int → Prop} {ρ : Int → Int} (hi : ∀ a b, p a → p b → ρ a = ρ b → a = b) {bs : List (Int × Ty)} {t : Ty} (ho : okT t = true) (ha : allV (fun n => p n ∧ boundO bs n = some (varT (ρ n))) t) :
    varsL (withT bs t) = (varsL t).map ρ ∧ numT (withT bs t) = numT t := by
  have h1 : varsL (withT bs t) = (varsL t).map ρ := first_ren hi (bs := bs) |>.1 t [] ho ha (by simp)
  refine ⟨h1, ?_⟩
  have hp : ∀ m ∈ varsL t, p m := first_of.1 t [] ((allV_imp fun n h => h.1).1 t ha) (by simp)
  show withT (numB (varsL (withT bs t)) 0) (withT bs t) = withT (numB (varsL t) 0) t
  rw [h1]
  exact (with_ren hi hp).1 t ho ((allV_imp fun n h => ⟨⟨h.1.1, h.2⟩, h.1.2⟩).1 t (allV_and.1 t ha (vars_all t)))
end Kd
end

section
set_option maxRecDepth 100000
set_option linter.unusedSimpArgs false
set_option linter.unusedVariables false
namespace Kd
open Go.Am Go.Proofs.YtnmolpkkemljoaaGreatDoor

/-- Where a number stands. -/
def idxN : List Int → Int → Nat → Nat
  | [], _, i => i
  | x :: l, n, i => if x = n then i else idxN l n (i + 1)
theorem idxN_bound : ∀ (xs : List Int) (n : Int) (i : Nat), n ∈ xs → boundO (numB xs i) n = some (varT (idxN xs n i : Nat))
  | x :: xs, n, i, h => by
    simp only [numB, boundO, idxN]
    by_cases hx : x = n
    · rw [if_pos hx, if_pos hx]
    · rw [if_neg hx, if_neg hx]
      exact idxN_bound xs n (i + 1) ((List.mem_cons.1 h).elim (fun e => absurd e.symm hx) id)
theorem idxN_get : ∀ (xs : List Int) (n : Int) (i : Nat), n ∈ xs → i ≤ idxN xs n i ∧ xs[idxN xs n i - i]? = some n
  | x :: xs, n, i, h => by
    simp only [idxN]
    by_cases hx : x = n
    · rw [if_pos hx]; simp [hx]
    · rw [if_neg hx]
      obtain ⟨h1, h2⟩ := idxN_get xs n (i + 1) ((List.mem_cons.1 h).elim (fun e => absurd e.symm hx) id)
      refine ⟨by omega, ?_⟩
      rw [show idxN xs n (i + 1) - i = (idxN xs n (i + 1) - (i + 1)) + 1 by omega, List.getElem?_cons_succ]
      exact h2
theorem idxN_inj {xs : List Int} {a b : Int} (ha : a ∈ xs) (hb : b ∈ xs) (h : idxN xs a 0 = idxN xs b 0) : a = b := by
  have h1 := (idxN_get xs a 0 ha).2
  have h2 := (idxN_get xs b 0 hb).2
  rw [h] at h1
  exact Option.some.inj (h1.symm.trans h2)
theorem idxN_at : ∀ (xs : List Int) (i j : Nat), xs.Nodup → (h : j < xs.length) → idxN xs xs[j] i = i + j
  | x :: xs, i, 0, _, _ => by simp [idxN]
  | x :: xs, i, j + 1, hn, h => by
    simp only [List.length_cons, List.getElem_cons_succ] at h ⊢
    have hn2 := List.nodup_cons.1 hn
    have hne : x ≠ xs[j] := fun e => hn2.1 (e ▸ List.getElem_mem (by omega))
    simp only [idxN, if_neg hne]
    rw [idxN_at xs (i + 1) j hn2.2 (by omega)]
    omega

theorem varsL_nodup (t : Ty) : (varsL t).Nodup := first_nodup t [] (by simp)

theorem num_num {t : Ty} (ho : okT t = true) : rangeOk (varsL (numT t)) (varsL t).length ∧ (varsL (numT t)).length = (varsL t).length ∧ numT (numT t) = numT t := by
  have key := num_ren (p := fun n => n ∈ varsL t) (ρ := fun n => ((idxN (varsL t) n 0 : Nat) : Int)) (fun a b ha hb e => idxN_inj ha hb (Int.ofNat.inj e)) (bs := numB (varsL t) 0) (t := t) ho
    ((allV_imp fun n h => ⟨h, idxN_bound _ _ _ h⟩).1 t (vars_all t))
  obtain ⟨h1, h2⟩ := key
  refine ⟨fun j hj => ?_, ?_, h2⟩
  · show (varsL (withT (numB (varsL t) 0) t))[j]? = _
    rw [h1, List.getElem?_map, List.getElem?_eq_getElem hj]
    simp only [Option.map_some, idxN_at _ 0 j (varsL_nodup t) hj, Nat.zero_add]
  · show (varsL (withT (numB (varsL t) 0) t)).length = _
    rw [h1, List.length_map]

theorem byV_range {k n : Int} (hn : 0 ≤ n) (hk : 0 ≤ k) : 0 ≤ byV k n ∧ byV k n < 1000 := by
  unfold byV
  rw [Int.tmod_eq_emod_of_nonneg (by omega)]
  omega
theorem byV_inj {k a b : Int} (ha : 0 ≤ a ∧ a < 1000) (hb : 0 ≤ b ∧ b < 1000) (hk : 0 ≤ k) (h : byV k a = byV k b) : a = b := by
  unfold byV at h
  rw [Int.tmod_eq_emod_of_nonneg (by omega), Int.tmod_eq_emod_of_nonneg (by omega)] at h
  omega
theorem byL_bound : ∀ (k : Int) (xs : List Int) (n : Int), n ∈ xs → boundO (byL k xs) n = some (varT (byV k n))
  | k, x :: xs, n, h => by
    simp only [byL, List.map_cons, boundO]
    by_cases hx : x = n
    · subst hx; rw [if_pos rfl]
    · rw [if_neg hx]
      exact byL_bound k xs n ((List.mem_cons.1 h).elim (fun e => absurd e.symm hx) id)
theorem byL_some : ∀ (k : Int) (xs : List Int) (n : Int) (u : Ty), boundO (byL k xs) n = some u → n ∈ xs ∧ u = varT (byV k n)
  | k, [], n, u, h => by cases h
  | k, x :: xs, n, u, h => by
    simp only [byL, List.map_cons, boundO] at h
    split at h
    · rename_i hx
      cases h
      exact ⟨by simp [hx], by rw [hx]⟩
    · obtain ⟨h1, h2⟩ := byL_some k xs n u h
      exact ⟨by simp [h1], h2⟩
theorem valid_var {j : Int} (h1 : 0 ≤ j) (h2 : j < 1000) : validB (varT j) = true :=
  (valid_eq _).2 ⟨by simp [varT, depT, depG], by simp [varT, cnt, cntL], ok_var h1 h2⟩
theorem byL_binds {k : Int} (hk : 0 ≤ k) : ∀ (xs pre : List Int), (pre ++ xs).Nodup → (∀ n ∈ xs, 0 ≤ n ∧ n < 1000) → bindsG (byL k pre) (byL k xs) = true
  | [], pre, _, _ => rfl
  | x :: xs, pre, hn, hr => by
    have hx := hr x (by simp)
    have hb := byV_range (k := k) hx.1 hk
    have h1 : hasV (byL k pre) x = false := by
      simp only [hasV, byL, List.any_map, List.any_eq_false, Function.comp, decide_eq_true_eq]
      intro m hm e
      have h3 := List.nodup_append.1 hn
      exact h3.2.2 m hm x (by simp) e
    have h2 : okB1 (x, varT (byV k x)) = true := by
      simp only [okB1, Bool.and_eq_true, decide_eq_true_eq]
      exact ⟨by omega, valid_var hb.1 hb.2⟩
    have e : byL k pre ++ [(x, varT (byV k x))] = byL k (pre ++ [x]) := by simp [byL]
    simp only [byL, List.map_cons, bindsG]
    rw [show List.map (fun n => (n, varT (byV k n))) pre = byL k pre from rfl, show List.map (fun n => (n, varT (byV k n))) xs = byL k xs from rfl, h1, h2, e]
    simp only [Bool.not_false, Bool.and_self, Bool.true_and]
    exact byL_binds hk xs (pre ++ [x]) (by simpa using hn) fun n h => hr n (by simp [h])

theorem vars_range {t : Ty} (ho : okT t = true) : ∀ n ∈ varsL t, 0 ≤ n ∧ n < 1000 := first_of.1 t [] (okT_range t ho) (by simp)

/-- What KindNumbers puts, and what it makes of it. -/
theorem by_put {k : Int} {t : Ty} (hk : 0 ≤ k) (hv : validB t = true) : putE (byL k (varsL t)) t = 0 ∧ validB (putT (byL k (varsL t)) t) = true ∧ numT (putT (byL k (varsL t)) t) = numT t := by
  obtain ⟨h1, h2, h3⟩ := (valid_eq t).1 hv
  have hr := vars_range h3
  have hb : bindsB (byL k (varsL t)) = true := byL_binds hk (varsL t) [] (by simpa using varsL_nodup t) hr
  obtain ⟨w1, w2, w3⟩ := with_vars (bs := byL k (varsL t)) (fun n u hu => by
    obtain ⟨q1, rfl⟩ := byL_some _ _ _ _ hu
    have := byV_range (k := k) (hr n q1).1 hk
    exact ⟨_, rfl, this.1, this.2⟩) t h3
  have hw : validB (withT (byL k (varsL t)) t) = true := (valid_eq _).2 ⟨by rw [w3]; exact h1, by rw [w2]; exact h2, w1⟩
  obtain ⟨e1, e2⟩ := num_ren (p := fun n => 0 ≤ n ∧ n < 1000) (ρ := byV k) (fun a b ha hb' e => byV_inj ha hb' hk e) (bs := byL k (varsL t)) (t := t) h3
    ((allV_imp fun n h => ⟨h.1, byL_bound k _ n h.2⟩).1 t (allV_and.1 t (okT_range t h3) (vars_all t)))
  rcases put_cases (byL k (varsL t)) t with ⟨q1, q2, q3⟩ | ⟨q0, q1, q2, q3⟩ | ⟨q0, q4, q1, q2, q3⟩ | ⟨q0, q4, q1, q2, q3⟩
  · rw [hv] at q1; cases q1
  · rw [hb] at q1; cases q1
  · rw [hw] at q1; cases q1
  · rw [q2]
    exact ⟨q3, hw, e2⟩
theorem byL_take (k : Int) (m : List Int) (x : Nat) (h : x < m.length) : byL k (m.take (x + 1)) = byL k (m.take x) ++ [(m[x], varT (byV k m[x]))] := by
  have e : m.take (x + 1) = m.take x ++ [m[x]] := by rw [List.take_add_one, List.getElem?_eq_getElem h]; rfl
  rw [e]
  simp only [byL, List.map_append, List.map_cons, List.map_nil]
theorem byL_len (k : Int) (m : List Int) : (byL k m).length = m.length := by simp [byL]
end Kd
noncomputable section
namespace Go.Proofs.YtnmolpkkemljoaaGreatDoor
open Go Go.Am Kd

theorem kn_hook0 : QSpec.Ok Tryz.prog g0 38 knQ := tyQ_ok fun t hc => by
  have h := knum_ok t hc
  unfold numF errF
  by_cases hv : validB t = true
  · simp only [if_pos hv] at h ⊢; exact h
  · simp only [if_neg hv] at h ⊢; exact h
theorem kv_hook0 : QSpec.Ok Tryz.prog g0 36 kvQ := tyQ_ok fun t hc => by
  have h := kvars_ok t hc
  unfold vbF vlF errF
  by_cases hv : validB t = true
  · simp only [if_pos hv] at h ⊢; exact h
  · simp only [if_neg hv] at h ⊢; exact h
theorem v32_ok (n : Int) : QJ 32 [.int .i64 n] (encD (varT n)) := by
  refine QJ.by rfl (encD_still _) hk0_ok ?_
  rw [v32_top]; rfl
theorem v32_hook : QSpec.Ok Tryz.prog g0 32 varQ := by
  intro args K h'
  unfold varQ at h'
  split at h'
  · obtain ⟨n, rfl, h⟩ := argInt_elim h'
    exact ⟨_, v32_ok n, h⟩
  · exact h'.elim

theorem nb_ok (k : Int) (t a : Ty) (b c : Bool) (m o : List Int) : LHook.Ok Tryz.prog g0 ⟨13, 0, (nbSt k t a b c m o).spec⟩ := by
  have hh : Hooks.Ok Tryz.prog g0 nbHk0 := mkHooks_ok (all_cons v32_hook all_nil) all_nil all_nil
  refine LSN.ok (nbSt k t a b c m o) (fun x => m.length - x) (by intro p l h; cases h) ?_ ?_ ?_
  · intro p x hp _
    have hp : p = 0 ∨ p = 1 := by have : p < 2 := hp; omega
    rcases hp with rfl | rfl
    · exact Whole.frm rfl rfl (by simp [nbSt, nbAcc, AV.bnd, AV.bndL, AV.still_bndL, encI_still]) (by simp [nbSt, tyC, ABlk.bnd, AV.bnd, AV.bndL, encL_bnd])
    · exact Whole.frm rfl rfl (by simp [nbSt, nbAcc, nbNf, AV.bnd, AV.bndL, AV.still_bndL, encI_still, encB_still]) (by simp [nbSt, tyC, ABlk.bnd, AV.bnd, AV.bndL, encL_bnd])
  · intro p x w hp hw _ hs
    have hw : w = 0 ∨ w = 1 := by have : w < 2 := hw; omega
    rcases hw with rfl | rfl
    · exact Whole.frm rfl rfl (by simp [nbSt, nbAcc, AV.bnd, AV.bndL]) (by simp [nbSt, tyC, ABlk.bnd, AV.bnd, AV.bndL, encL_bnd])
    · exact Whole.frm rfl rfl (by simp [nbSt, nbAcc, nbNf, AV.bnd, AV.bndL, AV.still_bndL, encB_still]) (by simp [nbSt, tyC, ABlk.bnd, AV.bnd, AV.bndL, encL_bnd])
  · intro p x hp hx
    have hp : p = 0 ∨ p = 1 := by have : p < 2 := hp; omega
    obtain ⟨hi, hph, hl, hro, hin, hk0, hk1⟩ := hx
    have next : ∀ (h : x < m.length), nbInv k m o 1 (x + 1) := fun h => ⟨by omega, by unfold ph0; omega, hl, hro, hin, hk0, hk1⟩
    have val : ∀ (h : x < m.length), AV.agg [AV.int .i64 m[x], AV.int .i64 (Ty.kind (varT (Int.tmod (IntKind.i64.wrap (m[x] + IntKind.i64.wrap k)) 1000))), AV.int .i64 (Ty.n (varT (Int.tmod (IntKind.i64.wrap (m[x] + IntKind.i64.wrap k)) 1000))), AV.isl (Ty.nl (varT (Int.tmod (IntKind.i64.wrap (m[x] + IntKind.i64.wrap k)) 1000))) none 0 []] = bindD (m[x], varT (byV k m[x])) := by
      intro h
      have := hin m[x] (List.getElem_mem h)
      rw [wrap_id (n := k) (by omega) (by omega), wrap_id (n := m[x] + k) (by omega) (by omega)]
      rfl
    rcases hp with rfl | rfl
    · refine CodeJ.run (el := els) (mu := mu0) hmix hh (n := 60) ?_
      show runN nbHk0 60 13 0 (nbSt k t a b c m o) (fun x => m.length - x) 0 x
      rw [nb_loop0]
      simp only [iC, encI_length, eq_self, true_and, and_true, Int.toNat_natCast, AV.int.injEq]
      have hx0 : x = 0 := hph.1 rfl
      refine bothR_dec (fun hlt => ?_) fun hge => .inr ?_
      · have hi' : x < m.length := by omega
        rw [ex_int hi']
        refine ⟨by omega, by omega, (x : Int), by rw [encI, List.getElem?_map, hro x hi']; rfl, bothR_ndec (fun h => absurd rfl h) fun _ => ⟨by omega, ⟨(show (48 : Nat) ≤ 35184372088832 by omega), (show (1 : Nat) ≤ 1152921504606846976 by omega)⟩, .inl ⟨x + 1, next hi', by omega, ?_, ?_, ?_⟩⟩⟩
        · rw [val hi', byL_take k m x hi']
          subst hx0
          rfl
        · rw [wrap_id (by omega) (by omega)]; rfl
        · subst hx0; rfl
      · refine wayN_0 ?_
        rw [byL_len]; omega
    · refine CodeJ.run (el := els) (mu := mu0) hmix hh (n := 60) ?_
      show runN nbHk0 60 13 0 (nbSt k t a b c m o) (fun x => m.length - x) 1 x
      rw [nb_loop1]
      simp only [iC, encI_length, encB_length, byL_len, eq_self, true_and, and_true, Int.toNat_natCast, AV.int.injEq, Nat.zero_add]
      have hx1 : x ≠ 0 := fun h => absurd (hph.2 h) (by omega)
      have hlt' : (m.take x).length = x := by simp; omega
      refine bothR_dec (fun hlt => ?_) fun hge => ?_
      · have hi' : x < m.length := by omega
        rw [ex_int hi', hlt']
        refine ⟨by omega, by omega, (x : Int), by rw [encI, List.getElem?_map, hro x hi']; rfl, bothR_ndec (fun h => absurd rfl h) fun _ => ⟨by omega, ⟨by omega, by omega⟩, rfl, encB_one _, x + 1, next hi', by omega, ?_, ?_⟩⟩
        · rw [val hi', byL_take k m x hi']
          exact congrArg _ (encB_snoc (byL k (m.take x)) m[x] (varT (byV k m[x])))
        · rw [wrap_id (by omega) (by omega)]; exact ⟨rfl, rfl⟩
      · have : x = m.length := by omega
        subst this
        rw [List.take_length]
        exact ⟨wayN_1 (by rw [byL_len]; omega), rfl, rfl⟩

theorem numbers_ok (t : Ty) (k : Int) (hk0 : 0 ≤ k) (hk1 : k ≤ 65535) : QJ 13 [enc t, .int .u16 k] (.bool true) := by
  have hst : (enc t).still = true := enc_still t
  have hh : Hooks.Ok Tryz.prog g0 (nbHk k t) := mkHooks_ok (all_cons (great_hook.weak 3) (all_cons closed.alive_hook (all_cons kn_hook0 (all_cons (tyQ_ok fun t h => check_ok t h) (all_cons kv_hook0 (all_cons sz_hook0 (all_cons (kp_hook.weak 3) (all_cons sme_hook0 all_nil)))))))) all_nil (all_cons (nb_ok k t (numF t) (vbF t) (vbF (numF t)) (vlF t) (vlF (numF t))) all_nil)
  rw [enc_D]
  refine QJ.by (hk := nbHk k t) (by rw [← enc_D]; simp [AV.stillL, AV.still, hst]) rfl hh ?_
  rw [nb_top]
  simp only [ex_enc, Ty.eta, eq_self, ex_encB, codeIs_self, true_and, and_true, iC, encI_length, AV.int.injEq]
  refine bothR_bool (fun _ => trivial) fun hg => ?_
  have hc : cnt t ≤ 1000 := by have := great_cnt hg; omega
  cases hv : validB t with
  | false => simp [checkN, errF, hv, hc, bothR]
  | true =>
    obtain ⟨v1, v2, v3⟩ := (valid_eq t).1 hv
    obtain ⟨q1, q2, q3, q4, q5⟩ := num_ok hv
    obtain ⟨r1, r2, r3⟩ := num_num v3
    have en : numF t = numT t := by simp [numF, hv]
    have ev : vlF t = varsL t := by simp [vlF, hv]
    have ev2 : vlF (numF t) = varsL (numT t) := by rw [en]; simp [vlF, q5]
    have ee : errF t = 0 := by simp [errF, hv]
    have ee2 : errF (numF t) = 0 := by rw [en]; simp [errF, q5]
    have ec : checkN t = 0 := by simp [checkN, hv]
    have en2 : numF (numF t) = numF t := by rw [en]; simp [numF, q5, r3]
    have hcn : cnt (numF t) ≤ 1000 := by rw [en, q3]; exact hc
    have hs : sizeT (numF t) 300 = sizeT t 300 := by
      rw [size_back t 300 (by omega), size_back (numF t) 300 (by rw [en, q3]; omega), en, q3]
    have hlen := vars_len t
    have fin : ∀ l, l = byL k (varsL t) → (cnt t ≤ 1000 ∧ l.length ≤ 2000 ∧ allC l) ∧ cnt (putT l t) ≤ 1000 ∧ cnt (numF t) ≤ 1000 ∧ putE l t = 0 ∧ errF (putT l t) = 0 ∧ (cnt (numF (putT l t)) ≤ 1000 ∧ cnt (numF t) ≤ 1000) ∧ numF (putT l t) = numF t := by
      rintro l rfl
      obtain ⟨b1, b2, b3⟩ := by_put hk0 hv
      have e3 : numF (putT (byL k (varsL t)) t) = numF t := by rw [en, ← b3]; simp [numF, b2]
      refine ⟨⟨hc, by rw [byL_len]; omega, ?_⟩, put_cnt _ _, hcn, b1, by simp [errF, b2], ⟨by rw [e3]; exact hcn, hcn⟩, e3⟩
      intro x hx
      simp only [byL, List.mem_map] at hx
      obtain ⟨n, _, rfl⟩ := hx
      simp [varT, cnt, cntL]
    rw [ev, ev2]
    refine ⟨hc, hc, bothR_ndec (fun h => absurd ec h) fun _ => ⟨hc, hcn, bothR_ndec (fun h => absurd ee h) fun _ => bothR_ndec (fun h => absurd ee h) fun _ => bothR_ndec (fun h => absurd ee2 h) fun _ =>
      bothR_ndec (fun h => absurd (by rw [r2]) h) fun _ => ⟨⟨nn 300, nn 700⟩, ⟨nn 300, nn 700⟩, bothR_ndec (fun h => absurd hs h) fun _ => ⟨0, ⟨by omega, ph0_0, by omega, r1, vars_range v3, hk0, hk1⟩, rfl, fun hw => ?_, fun hw => ?_⟩⟩⟩⟩
    · obtain ⟨f1, f2, f3, f4, f5, f6, f7⟩ := fin _ rfl
      simp only [f2, f3, f4, f5, f7, ee2, en2, hcn, sameB_refl, decide_true, bothR, and_self, true_and, and_true]
      exact f1
    · obtain ⟨f1, f2, f3, f4, f5, f6, f7⟩ := fin [] (nil_of_0 hw).symm
      refine ⟨[], rfl, f1, ?_⟩
      simp only [f2, f3, f4, f5, f7, ee2, en2, hcn, sameB_refl, decide_true, bothR, and_self, true_and, and_true]

end Go.Proofs.YtnmolpkkemljoaaGreatDoor
end
end

section
namespace Go.Proofs.YtnmolpkkemljoaaGreatDoor
open Go.ChangeShapes Go.WideShapes Go.ChangeAt Go.RowKit

theorem own : ownKnob Tryz.prog.godebug = none := by kernel_rfl

def cellsOf {H : Type} : DataW H → Array Value
  | .agg l => (l.map fun | .lit (.int k n) => Value.int k n | _ => undef).toArray
  | _ => #[]

def wordOf {H : Type} : DataW H → Array Value
  | .iface _ (.ptr (.agg [.lit (.string l)])) => #[.string ⟨l.toArray⟩]
  | _ => #[]

noncomputable def laidWorld (os : Os) : World :=
  let N := (World.settled Tryz.prog os).heap.size
  let w0 := World.holding Tryz.prog os ⟨#[.cells (wordOf (Rows.laid_strconv_ErrSyntax (H := Unit))) 203, .cells (wordOf (Rows.laid_strconv_ErrRange (H := Unit))) 203], #[], []⟩
  let put (h : Array Obj) (g : Nat) (cs : Array Value) : Array Obj := h.modify g fun
    | .cells _ t frozen => .cells cs t frozen
    | o => o
  let h0 := put (put w0.heap 1 #[.iface 201 (.pointer (some ⟨N, 0, none⟩))]) 2 #[.iface 201 (.pointer (some ⟨N + 1, 0, none⟩))]
  let h1 := put h0 0 (cellsOf (Rows.laid_internal_strconv_uint64pow10 (H := Unit)))
  let h2 := put h1 3 (cellsOf (Rows.laid_math_bits_deBruijn32tab (H := Unit)))
  let h3 := put h2 4 (cellsOf (Rows.laid_math_bits_deBruijn64tab (H := Unit)))
  { w0 with heap := h3 }

set_option maxRecDepth 1000000 in
theorem laid_met (os : Os) (args : Array Value) : laidMet Tryz.prog Rows.kindNamesRow.laid ((laidWorld os).forCall (fun _ _ => 0) ⟨#[], args, []⟩).memory :=
  laidMet_of_run' 8 (by kernel_rfl) (by kernel_rfl)

end Go.Proofs.YtnmolpkkemljoaaGreatDoor
end

section
noncomputable section
namespace Go.Proofs.YtnmolpkkemljoaaGreatDoor
open Go Go.Am Go.RowKit Go.ChangeShapes Go.WideShapes Go.ChangeAt

theorem pow10_tab {W : World} (h : laidMet Tryz.prog Rows.kindNamesRow.laid W) : Lib.TabIs Tryz.prog W "internal/strconv.uint64pow10" .u64 Lib.pow10Tab := by
  obtain ⟨g, t, cs, fuel, p, hg, ht, hv, hd⟩ := Lib.laidMet.reads h (.tail _ (.tail _ (.head _)))
  obtain rfl := Option.some.inj ((show Tryz.prog.globalNamed "internal/strconv.uint64pow10" = some 0 by kernel_rfl).symm.trans hg)
  obtain rfl := Option.some.inj ((show (Tryz.prog.globals[0]?).map (·.type) = some 190 by kernel_rfl).symm.trans ht)
  unfold Lib.TabIs
  have e := Lib.cells_of_tab (k := .u64) (zs := Lib.pow10Tab) (n := 20) (e := 166) (by kernel_rfl) (by kernel_rfl) (by kernel_rfl) (by kernel_rfl) hd
  rw [hv, ← e]

theorem gT_met {W : World} (h : laidMet Tryz.prog Rows.kindNamesRow.laid W) : ∀ g o x, gT g o = some x → ∃ v, W.cell? ⟨g, o, none⟩ = some v ∧ ∀ S : Sh, VRel S x v := by
  intro g o x hx
  unfold gT at hx
  split at hx
  · rename_i hg
    simp only [beq_iff_eq] at hg
    subst hg
    split at hx
    · rename_i n hn
      cases hx
      rw [nthR_eq] at hn
      have ho : o < 20 := by
        have := (List.getElem?_eq_some_iff.1 hn).1
        simpa [pow10] using this
      have hc := (pow10_tab h).cell (show Tryz.prog.globalNamed "internal/strconv.uint64pow10" = some 0 by kernel_rfl) o (by rw [Lib.pow10Tab_length]; exact ho)
      rw [Lib.pow10Tab_at o ho] at hc
      have : n = 10 ^ o := by
        have key : ∀ i : Nat, i < 20 → pow10[i]? = some (10 ^ i) := by decide
        rw [key o ho] at hn
        exact (Option.some.inj hn).symm
      subst this
      exact ⟨_, hc, fun S => .int _ _⟩
    · cases hx
  · cases hx

end Go.Proofs.YtnmolpkkemljoaaGreatDoor
end
end
