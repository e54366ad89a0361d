/-
  What the proof is built of: The document's examples, run. KindChecks: the hooks. KindPuts: the hooks. KindChecks returns true. KindPuts returns true. KindInstances: the hooks. KindMost: bindings that are the same; the hooks. The conditions of K63, evaluated. Bindings that are the same. Conditions: none.
-/
import Derived.Test.YtnmolpkkemljoaaGreatDoorM13
import Derived.Test.YtnmolpkkemljoaaGreatDoorM4
import Derived.Test.YtnmolpkkemljoaaGreatDoorM10
import Derived.Test.YtnmolpkkemljoaaGreatDoorM8
import Derived.Test.YtnmolpkkemljoaaGreatDoorM12
set_option linter.unusedVariables false
set_option linter.unusedSimpArgs false
set_option maxHeartbeats 8000000
set_option maxRecDepth 100000
section
noncomputable section
namespace Go.Proofs.YtnmolpkkemljoaaGreatDoor.closed
open Go Go.Am
def muC : Oper → Bool := fun o => o.dst == some 17 && o.type == 27 && (match o.op with | .call c => c.args.size == 2 | _ => false)
def puC (f : Nat) : Bool := (14 ≤ f && f ≤ 50 && f != 49) || [53,60,61,62,63,67,68,69,72,73,76,77,80,81,84,86,87,89,90,91,92,93,98,99,100,101,104,105,106,109,110,111,112,113,120,121,122,124,125,126,127,128,137,138,139,140,141,142].contains f
theorem c0 : PCall Tryz.prog g0 109 [.agg [.int .i64 1, .int .i64 0, .isl true none 0 []], .int .i64 12] [.returned (.int .i64 1)] := pRunL_ok hmix (Orc.table_ok Orc.tabNil) (pu := puC) (mu := muC) (n := 1000) (by kernel_rfl)
def a0 : AV := .agg [.int .i64 0, .str [117, 110, 105, 116], .str [], .str [], .int .i64 0, .fn (.func 116) [] [], .int .i64 0, .str [105, 110, 116], .str [], .str [], .int .i64 1, .fn (.func 116) [] [], .int .i64 2, .str [40], .str [32, 42, 32], .str [41], .int .i64 0, .fn (.func 116) [] [], .int .i64 2, .str [40], .str [32, 43, 32], .str [41], .int .i64 1, .fn (.func 116) [] [], .int .i64 1, .str [91], .str [], .str [93], .int .i64 2, .fn (.func 117) [] [], .int .i64 2, .str [40], .str [32, 45, 62, 32], .str [41], .int .i64 0, .fn (.func 116) [] [], .int .i64 0, .str [39], .str [], .str [], .int .i64 0, .fn (.func 116) [] []]
theorem c1 : PCall Tryz.prog g0 81 [] [.returned a0] := pRunL_ok hmix (Orc.table_ok Orc.tabNil) (pu := puC) (mu := muC) (n := 1000) (by kernel_rfl)
theorem c2 : PCall Tryz.prog g0 76 [.agg [.int .i64 1, .int .i64 0, .isl true none 0 []]] [.returned (.bool true)] := pRunL_ok hmix (Orc.table_ok (Orc.tabCons c0 (Orc.tabCons c1 Orc.tabNil))) (pu := puC) (mu := muC) (n := 1000) (by kernel_rfl)
theorem c3 : PCall Tryz.prog g0 76 [.agg [.int .i64 0, .int .i64 0, .isl true none 0 []]] [.returned (.bool true)] := pRunL_ok hmix (Orc.table_ok (Orc.tabCons c1 Orc.tabNil)) (pu := puC) (mu := muC) (n := 1000) (by kernel_rfl)
def a1 : AV := .agg [.int .i64 4, .int .i64 0, .isl false none 0 [.agg [.int .i64 6, .int .i64 1, .isl true none 0 []]]]
def a2 : AV := .isl false none 0 [.agg [.int .i64 6, .int .i64 0, .isl true none 0 []], a1]
theorem c4 : PCall Tryz.prog g0 109 [.agg [.int .i64 2, .int .i64 0, a2], .int .i64 12] [.returned (.int .i64 3)] := pRunL_ok hmix (Orc.table_ok Orc.tabNil) (pu := puC) (mu := muC) (n := 1000) (by kernel_rfl)
theorem c5 : PCall Tryz.prog g0 76 [.agg [.int .i64 2, .int .i64 0, a2]] [.returned (.bool true)] := pRunL_ok hmix (Orc.table_ok (Orc.tabCons c4 (Orc.tabCons c1 Orc.tabNil))) (pu := puC) (mu := muC) (n := 1000) (by kernel_rfl)
def a3 : AV := .isl false none 0 [.agg [.int .i64 1, .int .i64 0, .isl true none 0 []], .agg [.int .i64 0, .int .i64 0, .isl true none 0 []]]
theorem c6 : PCall Tryz.prog g0 109 [.agg [.int .i64 3, .int .i64 0, a3], .int .i64 11] [.returned (.int .i64 2)] := pRunL_ok hmix (Orc.table_ok Orc.tabNil) (pu := puC) (mu := muC) (n := 1000) (by kernel_rfl)
def a4 : AV := .agg [.int .i64 4, .int .i64 0, .isl false none 0 [.agg [.int .i64 1, .int .i64 0, .isl true none 0 []]]]
theorem c7 : PCall Tryz.prog g0 109 [.agg [.int .i64 4, .int .i64 0, .isl false none 0 [a4]], .int .i64 11] [.returned (.int .i64 3)] := pRunL_ok hmix (Orc.table_ok Orc.tabNil) (pu := puC) (mu := muC) (n := 1000) (by kernel_rfl)
def a5 : AV := .isl false none 0 [.agg [.int .i64 3, .int .i64 0, a3], .agg [.int .i64 4, .int .i64 0, .isl false none 0 [a4]]]
theorem c8 : PCall Tryz.prog g0 76 [.agg [.int .i64 2, .int .i64 0, a5]] [.returned (.bool true)] := pRunL_ok hmix (Orc.table_ok (Orc.tabCons c6 (Orc.tabCons c7 (Orc.tabCons c1 Orc.tabNil)))) (pu := puC) (mu := muC) (n := 1000) (by kernel_rfl)
def a6 : AV := .isl false none 0 [.agg [.int .i64 6, .int .i64 2, .isl true none 0 []], .agg [.int .i64 6, .int .i64 5, .isl true none 0 []]]
def a7 : AV := .isl false none 0 [.agg [.int .i64 6, .int .i64 5, .isl true none 0 []], .agg [.int .i64 5, .int .i64 0, a6]]
theorem c9 : PCall Tryz.prog g0 76 [.agg [.int .i64 5, .int .i64 0, a7]] [.returned (.bool true)] := pRunL_ok hmix (Orc.table_ok (Orc.tabCons c1 Orc.tabNil)) (pu := puC) (mu := muC) (n := 1000) (by kernel_rfl)
theorem c10 : PCall Tryz.prog g0 68 [.agg [.int .i64 6, .int .i64 2, .isl true none 0 []]] [.returned (.agg [.int .i64 6, .int .i64 2, .isl true none 0 []])] := pRunL_ok hmix (Orc.table_ok Orc.tabNil) (pu := puC) (mu := muC) (n := 1000) (by kernel_rfl)
theorem c11 : PCall Tryz.prog g0 68 [.agg [.int .i64 6, .int .i64 0, .isl true none 0 []]] [.returned (.agg [.int .i64 6, .int .i64 0, .isl true none 0 []])] := pRunL_ok hmix (Orc.table_ok Orc.tabNil) (pu := puC) (mu := muC) (n := 1000) (by kernel_rfl)
theorem c12 : PCall Tryz.prog g0 68 [.agg [.int .i64 6, .int .i64 1, .isl true none 0 []]] [.returned (.agg [.int .i64 6, .int .i64 1, .isl true none 0 []])] := pRunL_ok hmix (Orc.table_ok Orc.tabNil) (pu := puC) (mu := muC) (n := 1000) (by kernel_rfl)
def a8 : AV := .isl false none 0 [.agg [.int .i64 6, .int .i64 1, .isl true none 0 []], .agg [.int .i64 6, .int .i64 0, .isl true none 0 []]]
def a9 : AV := .isl false none 0 [.agg [.int .i64 6, .int .i64 0, .isl true none 0 []], .agg [.int .i64 5, .int .i64 0, a8]]
def a11 : AV := .isl false none 0 [.agg [.int .i64 6, .int .i64 0, .isl true none 0 []], .agg [.int .i64 6, .int .i64 1, .isl true none 0 []]]
theorem c14 : PCall Tryz.prog g0 76 [.agg [.int .i64 2, .int .i64 0, a11]] [.returned (.bool true)] := pRunL_ok hmix (Orc.table_ok (Orc.tabCons c1 Orc.tabNil)) (pu := puC) (mu := muC) (n := 1000) (by kernel_rfl)
def a12 : AV := .agg [.int .i64 4, .int .i64 0, .isl false none 0 [.agg [.int .i64 6, .int .i64 0, .isl true none 0 []]]]
theorem c15 : PCall Tryz.prog g0 76 [a12] [.returned (.bool true)] := pRunL_ok hmix (Orc.table_ok (Orc.tabCons c1 Orc.tabNil)) (pu := puC) (mu := muC) (n := 1000) (by kernel_rfl)
theorem c16 : PCall Tryz.prog g0 68 [.agg [.int .i64 4, .int .i64 0, .isl true none 0 []]] [.returned (.agg [.int .i64 4, .int .i64 0, .isl true none 0 []])] := pRunL_ok hmix (Orc.table_ok Orc.tabNil) (pu := puC) (mu := muC) (n := 1000) (by kernel_rfl)
theorem c17 : PCall Tryz.prog g0 138 [.int .u64 2] [.returned (.int .i64 2)] := pRunL_ok hmix (Orc.table_ok Orc.tabNil) (pu := puC) (mu := muC) (n := 1000) (by kernel_rfl)
theorem c18 : PCall Tryz.prog g0 124 [.int .u64 2] [.returned (.int .i64 2)] := pRunL_ok hmix (Orc.table_ok (Orc.tabCons c17 Orc.tabNil)) (pu := puC) (mu := muC) (n := 1000) (by kernel_rfl)
def a13 : AV := .agg [.int .i64 4, .int .i64 0, .isl false none 0 [.agg [.int .i64 6, .int .i64 2, .isl true none 0 []]]]
def a14 : AV := .isl false none 0 [a13, .agg [.int .i64 6, .int .i64 3, .isl true none 0 []]]
def a15 : AV := .agg [.int .i64 0, .int .i64 4, .int .i64 0, .isl false none 0 [.agg [.int .i64 6, .int .i64 2, .isl true none 0 []]]]
def a16 : AV := .agg [.int .i64 3, .int .i64 4, .int .i64 0, .isl false none 0 [.agg [.int .i64 6, .int .i64 1, .isl true none 0 []]]]
theorem c19 : PCall Tryz.prog g0 16 [.agg [.int .i64 2, .int .i64 0, a2], .agg [.int .i64 2, .int .i64 0, a14]] [.returned (.tup [.isl false none 0 [a15, a16], .int .i64 0])] := pRunL_ok hmix (Orc.table_ok (Orc.tabCons c5 (Orc.tabCons c1 (Orc.tabCons c16 (Orc.tabCons c10 (Orc.tabCons c12 (Orc.tabCons c18 Orc.tabNil))))))) (pu := puC) (mu := muC) (n := 1000) (by kernel_rfl)
def a17 : AV := .isl false none 0 [.agg [.int .i64 6, .int .i64 1, .isl true none 0 []], .agg [.int .i64 6, .int .i64 2, .isl true none 0 []]]
def a18 : AV := .isl false none 0 [.agg [.int .i64 1, .int .i64 6, .int .i64 0, .isl true none 0 []], .agg [.int .i64 2, .int .i64 6, .int .i64 0, .isl true none 0 []]]
theorem c20 : PCall Tryz.prog g0 16 [.agg [.int .i64 2, .int .i64 0, a11], .agg [.int .i64 2, .int .i64 0, a17]] [.returned (.tup [a18, .int .i64 0])] := pRunL_ok hmix (Orc.table_ok (Orc.tabCons c14 (Orc.tabCons c1 (Orc.tabCons c11 (Orc.tabCons c18 Orc.tabNil))))) (pu := puC) (mu := muC) (n := 1000) (by kernel_rfl)
def a19 : AV := .isl false none 0 [.agg [.int .i64 1, .int .i64 0, .isl true none 0 []], a4]
def a20 : AV := .agg [.int .i64 4, .int .i64 0, .isl false none 0 [.agg [.int .i64 0, .int .i64 0, .isl true none 0 []]]]
def a21 : AV := .isl false none 0 [.agg [.int .i64 0, .int .i64 0, .isl true none 0 []], a20]
def a22 : AV := .isl false none 0 [.agg [.int .i64 2, .int .i64 0, a19], .agg [.int .i64 2, .int .i64 0, a21]]
theorem c21 : PCall Tryz.prog g0 53 [a22] [.returned (.tup [])] := pRunL_ok hmix (Orc.table_ok (Orc.tabCons c1 Orc.tabNil)) (pu := puC) (mu := muC) (n := 1000) (by kernel_rfl)
def a23 : AV := .str [40, 39, 48, 32, 42, 32, 91, 39, 49, 93, 41]
def a24 : AV := .tup [.agg [.int .i64 2, .int .i64 0, a2], .int .i64 0]
theorem c22 : PCall Tryz.prog g0 24 [a23] [.returned a24] := pRunL_ok hmix (Orc.table_ok (Orc.tabCons c1 (Orc.tabCons c5 Orc.tabNil))) (pu := puC) (mu := muC) (n := 1000) (by kernel_rfl)
theorem c23 : PCall Tryz.prog g0 76 [.agg [.int .i64 3, .int .i64 0, a3]] [.returned (.bool true)] := pRunL_ok hmix (Orc.table_ok (Orc.tabCons c1 Orc.tabNil)) (pu := puC) (mu := muC) (n := 1000) (by kernel_rfl)
theorem c24 : PCall Tryz.prog g0 28 [.agg [.int .i64 3, .int .i64 0, a3]] [.returned (.bool true)] := pRunL_ok hmix (Orc.table_ok (Orc.tabCons c23 Orc.tabNil)) (pu := puC) (mu := muC) (n := 1000) (by kernel_rfl)
theorem c25 : PCall Tryz.prog g0 28 [.agg [.int .i64 1, .int .i64 0, .isl true none 0 []]] [.returned (.bool true)] := pRunL_ok hmix (Orc.table_ok (Orc.tabCons c2 Orc.tabNil)) (pu := puC) (mu := muC) (n := 1000) (by kernel_rfl)
theorem c26 : PCall Tryz.prog g0 30 [.agg [.int .i64 1, .int .i64 0, .isl true none 0 []]] [.returned (.int .i64 1)] := pRunL_ok hmix (Orc.table_ok (Orc.tabCons c25 (Orc.tabCons c1 Orc.tabNil))) (pu := puC) (mu := muC) (n := 1000) (by kernel_rfl)
theorem c27 : PCall Tryz.prog g0 31 [.agg [.int .i64 1, .int .i64 0, .isl true none 0 []]] [.returned (.int .i64 0)] := pRunL_ok hmix (Orc.table_ok (Orc.tabCons c25 (Orc.tabCons c1 Orc.tabNil))) (pu := puC) (mu := muC) (n := 1000) (by kernel_rfl)
theorem c28 : PCall Tryz.prog g0 31 [.agg [.int .i64 0, .int .i64 0, .isl true none 0 []]] [.returned (.int .i64 0)] := pRunL_ok hmix (Orc.table_ok (Orc.tabCons c3 (Orc.tabCons c1 Orc.tabNil))) (pu := puC) (mu := muC) (n := 1000) (by kernel_rfl)
theorem c29 : PCall Tryz.prog g0 76 [.agg [.int .i64 4, .int .i64 0, .isl false none 0 [a4]]] [.returned (.bool true)] := pRunL_ok hmix (Orc.table_ok (Orc.tabCons c1 Orc.tabNil)) (pu := puC) (mu := muC) (n := 1000) (by kernel_rfl)
theorem c30 : PCall Tryz.prog g0 28 [.agg [.int .i64 4, .int .i64 0, .isl false none 0 [a4]]] [.returned (.bool true)] := pRunL_ok hmix (Orc.table_ok (Orc.tabCons c29 Orc.tabNil)) (pu := puC) (mu := muC) (n := 1000) (by kernel_rfl)
theorem c31 : PCall Tryz.prog g0 109 [a4, .int .i64 12] [.returned (.int .i64 2)] := pRunL_ok hmix (Orc.table_ok Orc.tabNil) (pu := puC) (mu := muC) (n := 1000) (by kernel_rfl)
theorem c32 : PCall Tryz.prog g0 76 [a4] [.returned (.bool true)] := pRunL_ok hmix (Orc.table_ok (Orc.tabCons c31 (Orc.tabCons c1 Orc.tabNil))) (pu := puC) (mu := muC) (n := 1000) (by kernel_rfl)
theorem c33 : PCall Tryz.prog g0 28 [a4] [.returned (.bool true)] := pRunL_ok hmix (Orc.table_ok (Orc.tabCons c32 Orc.tabNil)) (pu := puC) (mu := muC) (n := 1000) (by kernel_rfl)
theorem c34 : PCall Tryz.prog g0 15 [] [.returned (.bool true)] := pRunL_ok hmix (Orc.table_ok (Orc.tabCons c19 (Orc.tabCons c20 (Orc.tabCons c1 (Orc.tabCons c15 (Orc.tabCons c5 (Orc.tabCons c8 (Orc.tabCons c18 (Orc.tabCons c21 (Orc.tabCons c22 (Orc.tabCons c24 (Orc.tabCons c26 (Orc.tabCons c27 (Orc.tabCons c3 (Orc.tabCons c28 (Orc.tabCons c30 (Orc.tabCons c33 Orc.tabNil))))))))))))))))) (pu := puC) (mu := muC) (n := 1000) (by kernel_rfl)
theorem alive_ok : QJ 15 [] (.bool true) := QuietJ.ofCall rfl c34
def aliveQ : QSpec
 | [], K => K (.bool true)
 | _, _ => False
theorem alive_hook : QSpec.Ok Tryz.prog g0 15 aliveQ := by
 intro args K h'
 unfold aliveQ at h'
 split at h'
 ·exact ⟨_, alive_ok, h'⟩
 ·exact h'.elim
end Go.Proofs.YtnmolpkkemljoaaGreatDoor.closed
end
end
section
namespace Kd
open Go.Am Go.Proofs.YtnmolpkkemljoaaGreatDoor
def vlF (t : Ty) : List Int := if validB t = true then varsL t else []
def errF (t : Ty) : Int := if validB t = true then 0 else 1
def numF (t : Ty) : Ty := if validB t = true then numT t else .mk 0 0 true []
end Kd
noncomputable section
namespace Go.Proofs.YtnmolpkkemljoaaGreatDoor
open Go Go.Am Kd
def smeQ : QSpec
 | [t, u], K => argTy t fun t => argTy u fun u => (cnt t ≤ 1000 ∧ cnt u ≤ 1000) ∧ K (.bool (sameB t u))
 | _, _ => False
end Go.Proofs.YtnmolpkkemljoaaGreatDoor
end
end
section
noncomputable section
namespace Go.Proofs.YtnmolpkkemljoaaGreatDoor
open Go Go.Am Kd
def pQ : QSpec
 | [l, t], K => argBinds l fun _ l => argTy t fun t => (cnt t ≤ 1000 ∧ l.length ≤ 2000 ∧ allC l) ∧ K (putV l t)
 | _, _ => False
end Go.Proofs.YtnmolpkkemljoaaGreatDoor
end
end
section
noncomputable section
namespace Go.Proofs.YtnmolpkkemljoaaGreatDoor
open Go Go.Am Kd
theorem sme_hook : QSpec.Ok Tryz.prog gT 23 smeQ := by
 intro args K h'
 unfold smeQ at h'
 split at h'
 ·obtain ⟨t, rfl, h2⟩ := argTy_elim h'
  obtain ⟨u, rfl, h3, h4⟩ := argTy_elim h2
  exact ⟨_, (same_ok t u h3.1 h3.2).lift, h4⟩
 ·exact h'.elim
end Go.Proofs.YtnmolpkkemljoaaGreatDoor
end
end
section
noncomputable section
namespace Go.Proofs.YtnmolpkkemljoaaGreatDoor
open Go Go.Am Kd
theorem kp_hook : QSpec.Ok Tryz.prog g0 34 pQ := by
 intro args K h'
 unfold pQ at h'
 split at h'
 ·obtain ⟨b, l, rfl, h⟩ := argBinds_elim h'
  obtain ⟨t, rfl, h1, h2⟩ := argTy_elim h
  exact ⟨_, kput_ok b l t h1.1 h1.2.1 h1.2.2, h2⟩
 ·exact h'.elim
theorem sme_hook0 : QSpec.Ok Tryz.prog g0 23 smeQ := by
 intro args K h'
 unfold smeQ at h'
 split at h'
 ·obtain ⟨t, rfl, h2⟩ := argTy_elim h'
  obtain ⟨u, rfl, h3, h4⟩ := argTy_elim h2
  exact ⟨_, same_ok t u h3.1 h3.2, h4⟩
 ·exact h'.elim
theorem many_all {l : List (Int × Ty)} (h : manyB l = false) : l.length ≤ 2000 ∧ allC l := by
 simp only [manyB, Bool.or_eq_false_iff, decide_eq_false_iff_not] at h
 refine ⟨by omega, ?_⟩
 have key : ∀ (l : List (Int × Ty)), manyG l = false → allC l := by
  intro l
  induction l with
  | nil => intro _ x hx; cases hx
  | cons x l ih =>
   intro h
   simp only [manyG, Bool.or_eq_false_iff] at h
   intro y hy
   rcases List.mem_cons.1 hy with rfl | hy
   ·have := great_cnt h.1; omega
   ·exact ih h.2 y hy
 exact key l h.1
theorem put_cnt (l : List (Int × Ty)) (t : Ty) : cnt (putT l t) ≤ 1000 := by
 rcases put_cases l t with ⟨h1, h2, h3⟩ | ⟨h0, h1, h2, h3⟩ | ⟨h0, h4, h1, h2, h3⟩ | ⟨h0, h4, h1, h2, h3⟩
 ·rw [h2]; simp [cnt, cntL]
 ·rw [h2]; simp [cnt, cntL]
 ·rw [h2]; simp [cnt, cntL]
 ·rw [h2]; have := ((valid_eq _).1 h1).2.1; omega
end Go.Proofs.YtnmolpkkemljoaaGreatDoor
end
end
section
noncomputable section
namespace Go.Proofs.YtnmolpkkemljoaaGreatDoor
open Go Go.Am Kd
def mmQ : QSpec
 | [t, u], K => argTy t fun t => argTy u fun u => (cnt t ≤ 1000 ∧ cnt u ≤ 1000) ∧ K (.tup [.isl (nilB (mtU t u)) none 0 (encB (mtU t u)), .int .i64 (mtN t u)])
 | _, _ => False
end Go.Proofs.YtnmolpkkemljoaaGreatDoor
end
end
section
noncomputable section
namespace Go.Proofs.YtnmolpkkemljoaaGreatDoor
open Go Go.Am Kd
def bdSt (b c : Bool) (l : List (Int × Ty)) : LSt Nat Bool where
 n := 0
 nf := 0
 rd := none
 fr x := frm 42 [(0, .isl b none 0 (encB l)), (1, .isl c none 0 (encB l)), (5, .int .i64 x)]
 hp _ := ⟨[], []⟩
 inv x := x ≤ l.length ∧ l.length ≤ 2000 ∧ allC l
 res _ := true
 sel r := r
 out b' _ := match b' with
  | true => ⟨.exit 0, frm 42 [], ⟨[], []⟩⟩
  | false => ⟨.ret, frm 42 [(4, .bool false)], ⟨[], []⟩⟩
def bdH : Hooks := hooks [(23, smeQ)] [] []
def bdH' (b c : Bool) (l : List (Int × Ty)) : Hooks := hooks [] [] [(4, ⟨22, 0, (bdSt b c l).spec⟩)]
def bdQ : QSpec
 | [x, y], K => argBinds x fun _ l => argBinds y fun _ m => (l = m ∧ l.length ≤ 2000 ∧ allC l) ∧ K (.bool true)
 | _, _ => False
end Go.Proofs.YtnmolpkkemljoaaGreatDoor
end
end
section
noncomputable section
namespace Go.Proofs.YtnmolpkkemljoaaGreatDoor
open Go Go.Am Kd Go.Am.AV Go.IntKind
theorem bd_loop (b c : Bool) (l : List (Int × Ty)) (meas : Nat → Nat) (x : Nat) : (runL bdH 60 22 0 (bdSt b c l) meas x) = ( bothR (decide (iC x < iC (List.length (encB l)))) (0 ≤ iC x ∧ ∃ x_1, (encB l)[Int.toNat (iC x)]? = some (agg [int i64 (Prod.fst x_1), int i64 (Ty.kind (Prod.snd x_1)), int i64 (Ty.n (Prod.snd x_1)), isl (Ty.nl (Prod.snd x_1)) none (0) (encL (Ty.l (Prod.snd x_1)))]) ∧ 0 ≤ iC x ∧ ∃ x_2, (encB l)[Int.toNat (iC x)]? = some (agg
 [int i64 (Prod.fst x_2), int i64 (Ty.kind (Prod.snd x_2)), int i64 (Ty.n (Prod.snd x_2)), isl (Ty.nl (Prod.snd x_2)) none (0) (encL (Ty.l (Prod.snd x_2)))]) ∧ bothR (!decide (Prod.fst x_1 = Prod.fst x_2)) (true = false ∧ bool false = bool false ∧ 0 = 0 ∧ True) (0 ≤ iC x ∧ ∃ x_3, (encB l)[Int.toNat (iC x)]? = some (agg [int i64 (Prod.fst x_3), int i64 (Ty.kind (Prod.snd x_3)), int i64 (Ty.n (Prod.snd x_3)), isl (Ty.nl (Prod.snd x_3)) none (0) (encL (Ty.l (Prod.snd x_3)))]) ∧ 0 ≤ iC x ∧ ∃ x_4,
 (encB l)[Int.toNat (iC x)]? = some (agg [int i64 (Prod.fst x_4), int i64 (Ty.kind (Prod.snd x_4)), int i64 (Ty.n (Prod.snd x_4)), isl (Ty.nl (Prod.snd x_4)) none (0) (encL (Ty.l (Prod.snd x_4)))]) ∧ ∃ l_1, encL (Ty.l (Prod.snd x_3)) = encL l_1 ∧ ∃ l_2, encL (Ty.l (Prod.snd x_4)) = encL l_2 ∧ (cnt (Ty.mk (Ty.kind (Prod.snd x_3)) (Ty.n (Prod.snd x_3)) (Ty.nl (Prod.snd x_3)) l_1) ≤ 1000 ∧ cnt (Ty.mk (Ty.kind (Prod.snd x_4)) (Ty.n (Prod.snd x_4)) (Ty.nl (Prod.snd x_4)) l_2) ≤ 1000) ∧ bothR
 (!sameB (Ty.mk (Ty.kind (Prod.snd x_3)) (Ty.n (Prod.snd x_3)) (Ty.nl (Prod.snd x_3)) l_1) (Ty.mk (Ty.kind (Prod.snd x_4)) (Ty.n (Prod.snd x_4)) (Ty.nl (Prod.snd x_4)) l_2)) (true = false ∧ bool false = bool false ∧ 0 = 0 ∧ True) (∃ y, (y ≤ List.length l ∧ List.length l ≤ 2000 ∧ allC l) ∧ meas y < meas x ∧ true = true ∧ isl b none (0) (encB l) = isl b none (0) (encB l) ∧ isl c none (0) (encB l) = isl c none (0) (encB l) ∧ int i64 (IntKind.wrap IntKind.i64 (iC x + (1 : Int))) = int i64 (iC y) ∧ 0 = 0 ∧ True)))
 (true = true ∧ 0 = 0 ∧ True)) := by kernel_rfl
theorem bd_top (b c : Bool) (l : List (Int × Ty)) : (runF (bdH' b c l) 60 22 [.isl b none 0 (encB l), .isl c none 0 (encB l)] AH.nil (retIs Tryz.prog 5 (.bool true))) = ( bothR (!decide (iC (List.length (encB l)) = iC (List.length (encB l)))) (bool false = bool true) (codeIs (loopOf Tryz.prog 22 0) Tryz.prog 22 0 (∃ x, (x ≤ List.length l ∧ List.length l ≤ 2000 ∧ allC l) ∧ isl b none (0) (encB l) = isl b none (0) (encB l) ∧ isl c none (0) (encB l) = isl c none (0) (encB l) ∧
 int i64 (0) = int i64 (iC x) ∧ 0 = 0 ∧ bool true = bool true))) := by kernel_rfl
end Go.Proofs.YtnmolpkkemljoaaGreatDoor
end
end
section
noncomputable section
namespace Go.Proofs.YtnmolpkkemljoaaGreatDoor
open Go Go.Am Kd
theorem bsame_ok (b c : Bool) (l : List (Int × Ty)) (hl : l.length ≤ 2000) (ha : allC l) : QJ 22 [.isl b none 0 (encB l), .isl c none 0 (encB l)] (.bool true) := by
 have hlp : LHook.Ok Tryz.prog g0 ⟨22, 0, (bdSt b c l).spec⟩ := by
  refine LSt.by (hk := bdH) (bdSt b c l) (fun x => l.length - x) (mkHooks_ok (all_cons sme_hook0 all_nil) all_nil all_nil) rfl ?_ ?_ ?_
  ·intro x _
   exact Whole.frm rfl rfl (by simp [AV.bnd, AV.still_bndL, encB_still]) rfl
  ·intro x b' _
   cases b' <;> exact Whole.frm rfl rfl rfl rfl
  ·rintro i ⟨hi, hb, hc⟩
   rw [bd_loop]
   simp only [iC, encB_length, eq_self, true_and, and_true, Int.toNat_natCast, AV.int.injEq, ex_enc, Ty.eta]
   refine bothR_dec (fun hlt => ?_) fun hge => trivial
   have hi' : i < l.length := by omega
   refine ⟨by omega, ?_⟩
   rw [ex_bind hi']
   refine ⟨by omega, ?_⟩
   rw [ex_bind hi']
   refine bothR_ndec (fun hne => absurd rfl hne) fun _ => ⟨by omega, ?_⟩
   rw [ex_bind hi']
   refine ⟨by omega, ?_⟩
   rw [ex_bind hi']
   have h1 := ha _ (List.getElem_mem hi')
   refine ⟨⟨h1, h1⟩, ?_⟩
   rw [sameB_refl]
   refine ⟨i + 1, ⟨by omega, hb, hc⟩, by omega, ?_⟩
   rw [wrap_id (by omega) (by omega)]; rfl
 refine QJ.by (hk := bdH' b c l) (by simp [AV.stillL, AV.still, encB_still]) rfl (mkHooks_ok all_nil all_nil (all_cons hlp all_nil)) ?_
 rw [bd_top]
 simp only [iC, eq_self, true_and, codeIs_self, AV.int.injEq, and_true]
 exact bothR_ndec (fun h => absurd trivial h) fun _ => ⟨0, ⟨by omega, hl, ha⟩, rfl⟩
theorem bd_hook : QSpec.Ok Tryz.prog g0 22 bdQ := by
 intro args K h'
 unfold bdQ at h'
 split at h'
 ·obtain ⟨b, l, rfl, h⟩ := argBinds_elim h'
  obtain ⟨c, m, rfl, ⟨rfl, h2, h3⟩, h4⟩ := argBinds_elim h
  exact ⟨_, bsame_ok b c l h2 h3, h4⟩
 ·exact h'.elim
end Go.Proofs.YtnmolpkkemljoaaGreatDoor
end
end