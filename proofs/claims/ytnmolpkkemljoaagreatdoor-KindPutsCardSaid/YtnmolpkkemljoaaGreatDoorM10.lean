/-
  What the proof is built of: What is known of the table of powers of ten. Numbers as texts: up to three figures. Types as texts: what they come to. The document's examples, run. KindChecks: the hooks. KindPuts: the hooks. The condition of KindPuts, evaluated. KindPuts returns true. A world in which the listed variables hold what their initialisers lay. What the laid variables hold, as far as the walks look at it. Conditions: none.
-/
import Derived.Test.YtnmolpkkemljoaaGreatDoorM8
import Derived.Test.YtnmolpkkemljoaaGreatDoorM9
import Derived.Shelf.Small.Wraps
import Derived.Shelf.Strconv.Atoi
import Derived.Shelf.Strconv.Itoa0
import Derived.Test.YtnmolpkkemljoaaGreatDoorProg
import Derived.Test.YtnmolpkkemljoaaGreatDoorM6
import Derived.Test.YtnmolpkkemljoaaGreatDoorCards
import Derived.Test.YtnmolpkkemljoaaGreatDoorTie
import Derived.WalkKit
import Derived.ProofKit
import Derived.OpenShut
import Derived.Deep.DeepHandedRow
import Derived.Deep.DeepWitnessRowRef
import Derived.Lib.LaidTab
import Derived.Lib.LaidU8
import Derived.Lib.ItoaNum
section
noncomputable section
namespace Go.Proofs.YtnmolpkkemljoaaGreatDoor
open Go Go.Am Kd

def pow10 : List Nat := [1, 10, 100, 1000, 10000, 100000, 1000000, 10000000, 100000000, 1000000000, 10000000000, 100000000000, 1000000000000, 10000000000000, 100000000000000, 1000000000000000, 10000000000000000, 100000000000000000, 1000000000000000000, 10000000000000000000]
/-- The table. -/
def gT : Gl := fun g o => match g == 0 with
  | true => match nthR pow10 o with | some n => some (.int .u64 n) | none => none
  | false => none
def runT (hk : Hooks) (n : Nat) (f : FuncId) (args : List AV) (A : AH) (K : AFin → Prop) : Prop := sFuncR Tryz.prog (Rm.W Tryz.prog gT els mu0 hk n) f args A K

end Go.Proofs.YtnmolpkkemljoaaGreatDoor
end
end

section
set_option maxRecDepth 100000
namespace Kd
end Kd
noncomputable section
namespace Go.Proofs.YtnmolpkkemljoaaGreatDoor
open Go Go.Am Kd

abbrev QT := QuietJ Tryz.prog gT

theorem QT.by {hk : Hooks} {f : FuncId} {args : List AV} {v : AV} (ha : AV.stillL args = true) (hv : v.still = true) (hh : Hooks.Ok Tryz.prog gT hk) (h : runT hk 60 f args AH.nil (retIs Tryz.prog 5 v)) : QT f args v :=
  QuietJ.ret (P := Tryz.prog) (G := gT) (f := f) 5 ha hv (FuncJ.run (el := els) (mu := mu0) (hk := hk) hmix hh (n := 60) h)

end Go.Proofs.YtnmolpkkemljoaaGreatDoor
end
end

section
set_option maxRecDepth 100000
namespace Kd
open Go.Am Go.Proofs.YtnmolpkkemljoaaGreatDoor

structure WSt where
  i : Nat
  acc : List UInt8
end Kd
noncomputable section
namespace Go.Proofs.YtnmolpkkemljoaaGreatDoor
open Go Go.Am Kd

end Go.Proofs.YtnmolpkkemljoaaGreatDoor
end
end

section
noncomputable section
namespace Go.Proofs.YtnmolpkkemljoaaGreatDoor.closed
open Go Go.Am

/-- The row that grows: what a map's list is appended to. -/
def muC : Oper → Bool := fun o => o.dst == some 17 && o.type == 27 && (match o.op with | .call c => c.args.size == 2 | _ => false)
/-- Functions that are handed values alone. -/
def puC (f : Nat) : Bool := (14 ≤ f && f ≤ 50 && f != 49) || [53,60,61,62,63,67,68,69,72,73,76,77,80,81,84,86,87,89,90,91,92,93,98,99,100,101,104,105,106,109,110,111,112,113,120,121,122,124,125,126,127,128,137,138,139,140,141,142].contains f

theorem c0 : PCall Tryz.prog g0 109 [.agg [.int .i64 1, .int .i64 0, .isl true none 0 []], .int .i64 12] [.returned (.int .i64 1)] := pRun_ok hmix (Orc.table_ok Orc.tabNil) (pu := puC) (mu := muC) (n := 1000) (by kernel_rfl)
def a0 : AV := .agg [.int .i64 0, .str [117, 110, 105, 116], .str [], .str [], .int .i64 0, .fn (.func 116) [] [], .int .i64 0, .str [105, 110, 116], .str [], .str [], .int .i64 1, .fn (.func 116) [] [], .int .i64 2, .str [40], .str [32, 42, 32], .str [41], .int .i64 0, .fn (.func 116) [] [], .int .i64 2, .str [40], .str [32, 43, 32], .str [41], .int .i64 1, .fn (.func 116) [] [], .int .i64 1, .str [91], .str [], .str [93], .int .i64 2, .fn (.func 117) [] [], .int .i64 2, .str [40], .str [32, 45, 62, 32], .str [41], .int .i64 0, .fn (.func 116) [] [], .int .i64 0, .str [39], .str [], .str [], .int .i64 0, .fn (.func 116) [] []]
theorem c1 : PCall Tryz.prog g0 81 [] [.returned a0] := pRun_ok hmix (Orc.table_ok Orc.tabNil) (pu := puC) (mu := muC) (n := 1000) (by kernel_rfl)
theorem c2 : PCall Tryz.prog g0 76 [.agg [.int .i64 1, .int .i64 0, .isl true none 0 []]] [.returned (.bool true)] := pRun_ok hmix (Orc.table_ok (Orc.tabCons c0 (Orc.tabCons c1 Orc.tabNil))) (pu := puC) (mu := muC) (n := 1000) (by kernel_rfl)
theorem c3 : PCall Tryz.prog g0 76 [.agg [.int .i64 0, .int .i64 0, .isl true none 0 []]] [.returned (.bool true)] := pRun_ok hmix (Orc.table_ok (Orc.tabCons c1 Orc.tabNil)) (pu := puC) (mu := muC) (n := 1000) (by kernel_rfl)
def a1 : AV := .agg [.int .i64 4, .int .i64 0, .isl false none 0 [.agg [.int .i64 6, .int .i64 1, .isl true none 0 []]]]
def a2 : AV := .isl false none 0 [.agg [.int .i64 6, .int .i64 0, .isl true none 0 []], a1]
theorem c4 : PCall Tryz.prog g0 109 [.agg [.int .i64 2, .int .i64 0, a2], .int .i64 12] [.returned (.int .i64 3)] := pRun_ok hmix (Orc.table_ok Orc.tabNil) (pu := puC) (mu := muC) (n := 1000) (by kernel_rfl)
theorem c5 : PCall Tryz.prog g0 76 [.agg [.int .i64 2, .int .i64 0, a2]] [.returned (.bool true)] := pRun_ok hmix (Orc.table_ok (Orc.tabCons c4 (Orc.tabCons c1 Orc.tabNil))) (pu := puC) (mu := muC) (n := 1000) (by kernel_rfl)
def a3 : AV := .isl false none 0 [.agg [.int .i64 1, .int .i64 0, .isl true none 0 []], .agg [.int .i64 0, .int .i64 0, .isl true none 0 []]]
theorem c6 : PCall Tryz.prog g0 109 [.agg [.int .i64 3, .int .i64 0, a3], .int .i64 11] [.returned (.int .i64 2)] := pRun_ok hmix (Orc.table_ok Orc.tabNil) (pu := puC) (mu := muC) (n := 1000) (by kernel_rfl)
def a4 : AV := .agg [.int .i64 4, .int .i64 0, .isl false none 0 [.agg [.int .i64 1, .int .i64 0, .isl true none 0 []]]]
theorem c7 : PCall Tryz.prog g0 109 [.agg [.int .i64 4, .int .i64 0, .isl false none 0 [a4]], .int .i64 11] [.returned (.int .i64 3)] := pRun_ok hmix (Orc.table_ok Orc.tabNil) (pu := puC) (mu := muC) (n := 1000) (by kernel_rfl)
def a5 : AV := .isl false none 0 [.agg [.int .i64 3, .int .i64 0, a3], .agg [.int .i64 4, .int .i64 0, .isl false none 0 [a4]]]
theorem c8 : PCall Tryz.prog g0 76 [.agg [.int .i64 2, .int .i64 0, a5]] [.returned (.bool true)] := pRun_ok hmix (Orc.table_ok (Orc.tabCons c6 (Orc.tabCons c7 (Orc.tabCons c1 Orc.tabNil)))) (pu := puC) (mu := muC) (n := 1000) (by kernel_rfl)
def a6 : AV := .isl false none 0 [.agg [.int .i64 6, .int .i64 2, .isl true none 0 []], .agg [.int .i64 6, .int .i64 5, .isl true none 0 []]]
def a7 : AV := .isl false none 0 [.agg [.int .i64 6, .int .i64 5, .isl true none 0 []], .agg [.int .i64 5, .int .i64 0, a6]]
theorem c10 : PCall Tryz.prog g0 68 [.agg [.int .i64 6, .int .i64 2, .isl true none 0 []]] [.returned (.agg [.int .i64 6, .int .i64 2, .isl true none 0 []])] := pRun_ok hmix (Orc.table_ok Orc.tabNil) (pu := puC) (mu := muC) (n := 1000) (by kernel_rfl)
theorem c11 : PCall Tryz.prog g0 68 [.agg [.int .i64 6, .int .i64 0, .isl true none 0 []]] [.returned (.agg [.int .i64 6, .int .i64 0, .isl true none 0 []])] := pRun_ok hmix (Orc.table_ok Orc.tabNil) (pu := puC) (mu := muC) (n := 1000) (by kernel_rfl)
theorem c12 : PCall Tryz.prog g0 68 [.agg [.int .i64 6, .int .i64 1, .isl true none 0 []]] [.returned (.agg [.int .i64 6, .int .i64 1, .isl true none 0 []])] := pRun_ok hmix (Orc.table_ok Orc.tabNil) (pu := puC) (mu := muC) (n := 1000) (by kernel_rfl)
def a11 : AV := .isl false none 0 [.agg [.int .i64 6, .int .i64 0, .isl true none 0 []], .agg [.int .i64 6, .int .i64 1, .isl true none 0 []]]
theorem c14 : PCall Tryz.prog g0 76 [.agg [.int .i64 2, .int .i64 0, a11]] [.returned (.bool true)] := pRun_ok hmix (Orc.table_ok (Orc.tabCons c1 Orc.tabNil)) (pu := puC) (mu := muC) (n := 1000) (by kernel_rfl)
def a12 : AV := .agg [.int .i64 4, .int .i64 0, .isl false none 0 [.agg [.int .i64 6, .int .i64 0, .isl true none 0 []]]]
theorem c15 : PCall Tryz.prog g0 76 [a12] [.returned (.bool true)] := pRun_ok hmix (Orc.table_ok (Orc.tabCons c1 Orc.tabNil)) (pu := puC) (mu := muC) (n := 1000) (by kernel_rfl)
theorem c16 : PCall Tryz.prog g0 68 [.agg [.int .i64 4, .int .i64 0, .isl true none 0 []]] [.returned (.agg [.int .i64 4, .int .i64 0, .isl true none 0 []])] := pRun_ok hmix (Orc.table_ok Orc.tabNil) (pu := puC) (mu := muC) (n := 1000) (by kernel_rfl)
theorem c17 : PCall Tryz.prog g0 138 [.int .u64 2] [.returned (.int .i64 2)] := pRun_ok hmix (Orc.table_ok Orc.tabNil) (pu := puC) (mu := muC) (n := 1000) (by kernel_rfl)
theorem c18 : PCall Tryz.prog g0 124 [.int .u64 2] [.returned (.int .i64 2)] := pRun_ok hmix (Orc.table_ok (Orc.tabCons c17 Orc.tabNil)) (pu := puC) (mu := muC) (n := 1000) (by kernel_rfl)
def a13 : AV := .agg [.int .i64 4, .int .i64 0, .isl false none 0 [.agg [.int .i64 6, .int .i64 2, .isl true none 0 []]]]
def a14 : AV := .isl false none 0 [a13, .agg [.int .i64 6, .int .i64 3, .isl true none 0 []]]
def a15 : AV := .agg [.int .i64 0, .int .i64 4, .int .i64 0, .isl false none 0 [.agg [.int .i64 6, .int .i64 2, .isl true none 0 []]]]
def a16 : AV := .agg [.int .i64 3, .int .i64 4, .int .i64 0, .isl false none 0 [.agg [.int .i64 6, .int .i64 1, .isl true none 0 []]]]
theorem c19 : PCall Tryz.prog g0 16 [.agg [.int .i64 2, .int .i64 0, a2], .agg [.int .i64 2, .int .i64 0, a14]] [.returned (.tup [.isl false none 0 [a15, a16], .int .i64 0])] := pRun_ok hmix (Orc.table_ok (Orc.tabCons c5 (Orc.tabCons c1 (Orc.tabCons c16 (Orc.tabCons c10 (Orc.tabCons c12 (Orc.tabCons c18 Orc.tabNil))))))) (pu := puC) (mu := muC) (n := 1000) (by kernel_rfl)
def a17 : AV := .isl false none 0 [.agg [.int .i64 6, .int .i64 1, .isl true none 0 []], .agg [.int .i64 6, .int .i64 2, .isl true none 0 []]]
def a18 : AV := .isl false none 0 [.agg [.int .i64 1, .int .i64 6, .int .i64 0, .isl true none 0 []], .agg [.int .i64 2, .int .i64 6, .int .i64 0, .isl true none 0 []]]
theorem c20 : PCall Tryz.prog g0 16 [.agg [.int .i64 2, .int .i64 0, a11], .agg [.int .i64 2, .int .i64 0, a17]] [.returned (.tup [a18, .int .i64 0])] := pRun_ok hmix (Orc.table_ok (Orc.tabCons c14 (Orc.tabCons c1 (Orc.tabCons c11 (Orc.tabCons c18 Orc.tabNil))))) (pu := puC) (mu := muC) (n := 1000) (by kernel_rfl)
def a19 : AV := .isl false none 0 [.agg [.int .i64 1, .int .i64 0, .isl true none 0 []], a4]
def a20 : AV := .agg [.int .i64 4, .int .i64 0, .isl false none 0 [.agg [.int .i64 0, .int .i64 0, .isl true none 0 []]]]
def a21 : AV := .isl false none 0 [.agg [.int .i64 0, .int .i64 0, .isl true none 0 []], a20]
def a22 : AV := .isl false none 0 [.agg [.int .i64 2, .int .i64 0, a19], .agg [.int .i64 2, .int .i64 0, a21]]
theorem c21 : PCall Tryz.prog g0 53 [a22] [.returned (.tup [])] := pRun_ok hmix (Orc.table_ok (Orc.tabCons c1 Orc.tabNil)) (pu := puC) (mu := muC) (n := 1000) (by kernel_rfl)
def a23 : AV := .str [40, 39, 48, 32, 42, 32, 91, 39, 49, 93, 41]
def a24 : AV := .tup [.agg [.int .i64 2, .int .i64 0, a2], .int .i64 0]
theorem c22 : PCall Tryz.prog g0 24 [a23] [.returned a24] := pRun_ok hmix (Orc.table_ok (Orc.tabCons c1 (Orc.tabCons c5 Orc.tabNil))) (pu := puC) (mu := muC) (n := 1000) (by kernel_rfl)
theorem c23 : PCall Tryz.prog g0 76 [.agg [.int .i64 3, .int .i64 0, a3]] [.returned (.bool true)] := pRun_ok hmix (Orc.table_ok (Orc.tabCons c1 Orc.tabNil)) (pu := puC) (mu := muC) (n := 1000) (by kernel_rfl)
theorem c24 : PCall Tryz.prog g0 28 [.agg [.int .i64 3, .int .i64 0, a3]] [.returned (.bool true)] := pRun_ok hmix (Orc.table_ok (Orc.tabCons c23 Orc.tabNil)) (pu := puC) (mu := muC) (n := 1000) (by kernel_rfl)
theorem c25 : PCall Tryz.prog g0 28 [.agg [.int .i64 1, .int .i64 0, .isl true none 0 []]] [.returned (.bool true)] := pRun_ok hmix (Orc.table_ok (Orc.tabCons c2 Orc.tabNil)) (pu := puC) (mu := muC) (n := 1000) (by kernel_rfl)
theorem c26 : PCall Tryz.prog g0 30 [.agg [.int .i64 1, .int .i64 0, .isl true none 0 []]] [.returned (.int .i64 1)] := pRun_ok hmix (Orc.table_ok (Orc.tabCons c25 (Orc.tabCons c1 Orc.tabNil))) (pu := puC) (mu := muC) (n := 1000) (by kernel_rfl)
theorem c27 : PCall Tryz.prog g0 31 [.agg [.int .i64 1, .int .i64 0, .isl true none 0 []]] [.returned (.int .i64 0)] := pRun_ok hmix (Orc.table_ok (Orc.tabCons c25 (Orc.tabCons c1 Orc.tabNil))) (pu := puC) (mu := muC) (n := 1000) (by kernel_rfl)
theorem c28 : PCall Tryz.prog g0 31 [.agg [.int .i64 0, .int .i64 0, .isl true none 0 []]] [.returned (.int .i64 0)] := pRun_ok hmix (Orc.table_ok (Orc.tabCons c3 (Orc.tabCons c1 Orc.tabNil))) (pu := puC) (mu := muC) (n := 1000) (by kernel_rfl)
theorem c29 : PCall Tryz.prog g0 76 [.agg [.int .i64 4, .int .i64 0, .isl false none 0 [a4]]] [.returned (.bool true)] := pRun_ok hmix (Orc.table_ok (Orc.tabCons c1 Orc.tabNil)) (pu := puC) (mu := muC) (n := 1000) (by kernel_rfl)
theorem c30 : PCall Tryz.prog g0 28 [.agg [.int .i64 4, .int .i64 0, .isl false none 0 [a4]]] [.returned (.bool true)] := pRun_ok hmix (Orc.table_ok (Orc.tabCons c29 Orc.tabNil)) (pu := puC) (mu := muC) (n := 1000) (by kernel_rfl)
theorem c31 : PCall Tryz.prog g0 109 [a4, .int .i64 12] [.returned (.int .i64 2)] := pRun_ok hmix (Orc.table_ok Orc.tabNil) (pu := puC) (mu := muC) (n := 1000) (by kernel_rfl)
theorem c32 : PCall Tryz.prog g0 76 [a4] [.returned (.bool true)] := pRun_ok hmix (Orc.table_ok (Orc.tabCons c31 (Orc.tabCons c1 Orc.tabNil))) (pu := puC) (mu := muC) (n := 1000) (by kernel_rfl)
theorem c33 : PCall Tryz.prog g0 28 [a4] [.returned (.bool true)] := pRun_ok hmix (Orc.table_ok (Orc.tabCons c32 Orc.tabNil)) (pu := puC) (mu := muC) (n := 1000) (by kernel_rfl)
theorem c34 : PCall Tryz.prog g0 15 [] [.returned (.bool true)] := pRun_ok hmix (Orc.table_ok (Orc.tabCons c19 (Orc.tabCons c20 (Orc.tabCons c1 (Orc.tabCons c15 (Orc.tabCons c5 (Orc.tabCons c8 (Orc.tabCons c18 (Orc.tabCons c21 (Orc.tabCons c22 (Orc.tabCons c24 (Orc.tabCons c26 (Orc.tabCons c27 (Orc.tabCons c3 (Orc.tabCons c28 (Orc.tabCons c30 (Orc.tabCons c33 Orc.tabNil))))))))))))))))) (pu := puC) (mu := muC) (n := 1000) (by kernel_rfl)

theorem alive_ok : QJ 15 [] (.bool true) := QuietJ.ofCall rfl c34

def aliveQ : QSpec
  | [], K => K (.bool true)
  | _, _ => False

theorem alive_hook : QSpec.Ok Tryz.prog g0 15 aliveQ := by
  intro args K h'
  unfold aliveQ at h'
  split at h'
  · exact ⟨_, alive_ok, h'⟩
  · exact h'.elim

end Go.Proofs.YtnmolpkkemljoaaGreatDoor.closed
end
end

section
namespace Kd
open Go.Am Go.Proofs.YtnmolpkkemljoaaGreatDoor
end Kd
noncomputable section
namespace Go.Proofs.YtnmolpkkemljoaaGreatDoor
open Go Go.Am Kd

def smeQ : QSpec
  | [t, u], K => argTy t fun t => argTy u fun u => (cnt t ≤ 1000 ∧ cnt u ≤ 1000) ∧ K (.bool (sameB t u))
  | _, _ => False
end Go.Proofs.YtnmolpkkemljoaaGreatDoor
end
end

section
noncomputable section
namespace Go.Proofs.YtnmolpkkemljoaaGreatDoor
open Go Go.Am Kd
def pQ : QSpec
  | [l, t], K => argBinds l fun _ l => argTy t fun t => (cnt t ≤ 1000 ∧ l.length ≤ 2000 ∧ allC l) ∧ K (putV l t)
  | _, _ => False
def putsHk : Hooks := hooks [(14, weakQ 3 greatQ), (15, closed.aliveQ), (33, manyQ), (34, pQ), (35, pQ), (23, smeQ)] [] []
end Go.Proofs.YtnmolpkkemljoaaGreatDoor
end
end

section
noncomputable section
namespace Go.Proofs.YtnmolpkkemljoaaGreatDoor
open Go Go.Am Kd
set_option maxRecDepth 100000

theorem puts_top (b : Bool) (l : List (Int × Ty)) (t : Ty) : (runF putsHk 60 7 [.isl b none 0 (encB l), encD t] AH.nil (retIs Tryz.prog 5 (.bool true))) = ( ∃ l_1, encL (Ty.l t) = encL l_1 ∧ bothR (greatB (Ty.mk (Ty.kind t) (Ty.n t) (Ty.nl t) l_1)) (AV.bool true = AV.bool true) (∃ l_2, encB l = encB l_2 ∧ List.length l_2 ≤ 9223372036854775807 ∧ bothR (manyB l_2) (AV.bool true = AV.bool true) (∃ l_3, encB l = encB l_3 ∧ ∃ l_4, encL (Ty.l t) = encL l_4 ∧ (cnt (Ty.mk (Ty.kind t) (Ty.n t) (Ty.nl t) l_4) ≤ 1000 ∧ List.length l_3 ≤ 2000 ∧ allC l_3) ∧ ∃ l_5, encB l = encB l_5 ∧ ∃ l,
 encL (Ty.l t) = encL l ∧ (cnt (Ty.mk (Ty.kind t) (Ty.n t) (Ty.nl t) l) ≤ 1000 ∧ List.length l_5 ≤ 2000 ∧ allC l_5) ∧ ∃ l_6, encL (Ty.l (putT l_3 (Ty.mk (Ty.kind t) (Ty.n t) (Ty.nl t) l_4))) = encL l_6 ∧ ∃ l_7, encL (Ty.l (putT l_5 (Ty.mk (Ty.kind t) (Ty.n t) (Ty.nl t) l))) = encL l_7 ∧ (cnt (Ty.mk (Ty.kind (putT l_3 (Ty.mk (Ty.kind t) (Ty.n t) (Ty.nl t) l_4))) (Ty.n (putT l_3 (Ty.mk (Ty.kind t) (Ty.n t) (Ty.nl t) l_4))) (Ty.nl (putT l_3 (Ty.mk (Ty.kind t) (Ty.n t) (Ty.nl t) l_4))) l_6) ≤ 1000 ∧ cnt
 (Ty.mk (Ty.kind (putT l_5 (Ty.mk (Ty.kind t) (Ty.n t) (Ty.nl t) l))) (Ty.n (putT l_5 (Ty.mk (Ty.kind t) (Ty.n t) (Ty.nl t) l))) (Ty.nl (putT l_5 (Ty.mk (Ty.kind t) (Ty.n t) (Ty.nl t) l))) l_7) ≤ 1000) ∧ bothR (sameB (Ty.mk (Ty.kind (putT l_3 (Ty.mk (Ty.kind t) (Ty.n t) (Ty.nl t) l_4))) (Ty.n (putT l_3 (Ty.mk (Ty.kind t) (Ty.n t) (Ty.nl t) l_4))) (Ty.nl (putT l_3 (Ty.mk (Ty.kind t) (Ty.n t) (Ty.nl t) l_4))) l_6) (Ty.mk (Ty.kind (putT l_5 (Ty.mk (Ty.kind t) (Ty.n t) (Ty.nl t) l))) (Ty.n (putT l_5 (Ty.mk (Ty.kind t) (Ty.n t) (Ty.nl t) l)))
 (Ty.nl (putT l_5 (Ty.mk (Ty.kind t) (Ty.n t) (Ty.nl t) l))) l_7)) (bothR (decide (putE l_3 (Ty.mk (Ty.kind t) (Ty.n t) (Ty.nl t) l_4) = putE l_5 (Ty.mk (Ty.kind t) (Ty.n t) (Ty.nl t) l))) (AV.bool true = AV.bool true) (AV.bool false = AV.bool true)) (AV.bool false = AV.bool true)))) := by kernel_rfl

end Go.Proofs.YtnmolpkkemljoaaGreatDoor
end
end

section
set_option maxRecDepth 100000
noncomputable section
namespace Go.Proofs.YtnmolpkkemljoaaGreatDoor
open Go Go.Am Kd

theorem kp_hook : QSpec.Ok Tryz.prog g0 34 pQ := by
  intro args K h'
  unfold pQ at h'
  split at h'
  · obtain ⟨b, l, rfl, h⟩ := argBinds_elim h'
    obtain ⟨t, rfl, h1, h2⟩ := argTy_elim h
    exact ⟨_, kput_ok b l t h1.1 h1.2.1 h1.2.2, h2⟩
  · exact h'.elim
theorem rp_hook : QSpec.Ok Tryz.prog g0 35 pQ := by
  intro args K h'
  unfold pQ at h'
  split at h'
  · obtain ⟨b, l, rfl, h⟩ := argBinds_elim h'
    obtain ⟨t, rfl, h1, h2⟩ := argTy_elim h
    exact ⟨_, rput_ok b l t h1.1 h1.2.1 h1.2.2, h2⟩
  · exact h'.elim
theorem sme_hook0 : QSpec.Ok Tryz.prog g0 23 smeQ := by
  intro args K h'
  unfold smeQ at h'
  split at h'
  · obtain ⟨t, rfl, h2⟩ := argTy_elim h'
    obtain ⟨u, rfl, h3, h4⟩ := argTy_elim h2
    exact ⟨_, same_ok t u h3.1 h3.2, h4⟩
  · exact h'.elim

theorem many_all {l : List (Int × Ty)} (h : manyB l = false) : l.length ≤ 2000 ∧ allC l := by
  simp only [manyB, Bool.or_eq_false_iff, decide_eq_false_iff_not] at h
  refine ⟨by omega, ?_⟩
  have key : ∀ (l : List (Int × Ty)), manyG l = false → allC l := by
    intro l
    induction l with
    | nil => intro _ x hx; cases hx
    | cons x l ih =>
      intro h
      simp only [manyG, Bool.or_eq_false_iff] at h
      intro y hy
      rcases List.mem_cons.1 hy with rfl | hy
      · have := great_cnt h.1; omega
      · exact ih h.2 y hy
  exact key l h.1

theorem put_cnt (l : List (Int × Ty)) (t : Ty) : cnt (putT l t) ≤ 1000 := by
  rcases put_cases l t with ⟨h1, h2, h3⟩ | ⟨h0, h1, h2, h3⟩ | ⟨h0, h4, h1, h2, h3⟩ | ⟨h0, h4, h1, h2, h3⟩
  · rw [h2]; simp [cnt, cntL]
  · rw [h2]; simp [cnt, cntL]
  · rw [h2]; simp [cnt, cntL]
  · rw [h2]; have := ((valid_eq _).1 h1).2.1; omega

theorem puts_ok (b : Bool) (l : List (Int × Ty)) (t : Ty) (hl : l.length ≤ 9223372036854775807) : QJ 7 [.isl b none 0 (encB l), enc t] (.bool true) := by
  have hst : (enc t).still = true := enc_still t
  have hh : Hooks.Ok Tryz.prog g0 putsHk := mkHooks_ok (all_cons (great_hook.weak 3) (all_cons closed.alive_hook (all_cons many_hook (all_cons kp_hook (all_cons rp_hook (all_cons sme_hook0 all_nil)))))) all_nil all_nil
  rw [enc_D]
  refine QJ.by (hk := putsHk) (by rw [← enc_D]; simp [AV.stillL, AV.still, hst, encB_still]) rfl hh ?_
  rw [puts_top]
  simp only [ex_enc, Ty.eta, eq_self, ex_encB]
  refine bothR_bool (fun _ => trivial) fun hg => ⟨hl, bothR_bool (fun _ => trivial) fun hm => ?_⟩
  have hc : cnt t ≤ 1000 := by have := great_cnt hg; omega
  obtain ⟨h1, h2⟩ := many_all hm
  have hp := put_cnt l t
  simp only [hc, h1, h2, hp, sameB_refl, decide_true, bothR, and_self]

end Go.Proofs.YtnmolpkkemljoaaGreatDoor
end
end

section
namespace Go.Proofs.YtnmolpkkemljoaaGreatDoor
open Go.ChangeShapes Go.WideShapes Go.ChangeAt Go.RowKit

theorem own : ownKnob Tryz.prog.godebug = none := by kernel_rfl

def cellsOf {H : Type} : DataW H → Array Value
  | .agg l => (l.map fun | .lit (.int k n) => Value.int k n | _ => undef).toArray
  | _ => #[]

def wordOf {H : Type} : DataW H → Array Value
  | .iface _ (.ptr (.agg [.lit (.string l)])) => #[.string ⟨l.toArray⟩]
  | _ => #[]

noncomputable def laidWorld (os : Os) : World :=
  let N := (World.settled Tryz.prog os).heap.size
  let w0 := World.holding Tryz.prog os ⟨#[.cells (wordOf (Rows.laid_strconv_ErrSyntax (H := Unit))) 203, .cells (wordOf (Rows.laid_strconv_ErrRange (H := Unit))) 203], #[], []⟩
  let put (h : Array Obj) (g : Nat) (cs : Array Value) : Array Obj := h.modify g fun
    | .cells _ t frozen => .cells cs t frozen
    | o => o
  let h0 := put (put w0.heap 1 #[.iface 201 (.pointer (some ⟨N, 0, none⟩))]) 2 #[.iface 201 (.pointer (some ⟨N + 1, 0, none⟩))]
  let h1 := put h0 0 (cellsOf (Rows.laid_internal_strconv_uint64pow10 (H := Unit)))
  let h2 := put h1 3 (cellsOf (Rows.laid_math_bits_deBruijn32tab (H := Unit)))
  let h3 := put h2 4 (cellsOf (Rows.laid_math_bits_deBruijn64tab (H := Unit)))
  { w0 with heap := h3 }

set_option maxRecDepth 1000000 in
theorem laid_met (os : Os) (args : Array Value) : laidMet Tryz.prog Rows.kindNamesRow.laid ((laidWorld os).forCall (fun _ _ => 0) ⟨#[], args, []⟩).memory :=
  laidMet_of_run' 8 (by kernel_rfl) (by kernel_rfl)

end Go.Proofs.YtnmolpkkemljoaaGreatDoor
end

section
noncomputable section
namespace Go.Proofs.YtnmolpkkemljoaaGreatDoor
open Go Go.Am Go.RowKit Go.ChangeShapes Go.WideShapes Go.ChangeAt

theorem pow10_tab {W : World} (h : laidMet Tryz.prog Rows.kindNamesRow.laid W) : Lib.TabIs Tryz.prog W "internal/strconv.uint64pow10" .u64 Lib.pow10Tab := by
  obtain ⟨g, t, cs, fuel, p, hg, ht, hv, hd⟩ := Lib.laidMet.reads h (.tail _ (.tail _ (.head _)))
  obtain rfl := Option.some.inj ((show Tryz.prog.globalNamed "internal/strconv.uint64pow10" = some 0 by kernel_rfl).symm.trans hg)
  obtain rfl := Option.some.inj ((show (Tryz.prog.globals[0]?).map (·.type) = some 190 by kernel_rfl).symm.trans ht)
  unfold Lib.TabIs
  have e := Lib.cells_of_tab (k := .u64) (zs := Lib.pow10Tab) (n := 20) (e := 166) (by kernel_rfl) (by kernel_rfl) (by kernel_rfl) (by kernel_rfl) hd
  rw [hv, ← e]

theorem gT_met {W : World} (h : laidMet Tryz.prog Rows.kindNamesRow.laid W) : ∀ g o x, gT g o = some x → ∃ v, W.cell? ⟨g, o, none⟩ = some v ∧ ∀ S : Sh, VRel S x v := by
  intro g o x hx
  unfold gT at hx
  split at hx
  · rename_i hg
    simp only [beq_iff_eq] at hg
    subst hg
    split at hx
    · rename_i n hn
      cases hx
      rw [nthR_eq] at hn
      have ho : o < 20 := by
        have := (List.getElem?_eq_some_iff.1 hn).1
        simpa [pow10] using this
      have hc := (pow10_tab h).cell (show Tryz.prog.globalNamed "internal/strconv.uint64pow10" = some 0 by kernel_rfl) o (by rw [Lib.pow10Tab_length]; exact ho)
      rw [Lib.pow10Tab_at o ho] at hc
      have : n = 10 ^ o := by
        have key : ∀ i : Nat, i < 20 → pow10[i]? = some (10 ^ i) := by decide
        rw [key o ho] at hn
        exact (Option.some.inj hn).symm
      subst this
      exact ⟨_, hc, fun S => .int _ _⟩
    · cases hx
  · cases hx

end Go.Proofs.YtnmolpkkemljoaaGreatDoor
end
end
