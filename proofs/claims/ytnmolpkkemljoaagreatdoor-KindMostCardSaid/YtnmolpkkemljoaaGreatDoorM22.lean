/-
  What the proof is built of: KindMost: the hooks. The conditions of KindMost, evaluated. What a type and its instance have in common; what matches. KindInstances: the plain law. KindMost: the law. KindMost returns true. A type that is handed over, read in memory. Bindings, texts and numbers that are handed over, read in memory. A world in which the listed variables hold what their initialisers lay. What the laid variables hold, as far as the walks look at it. Conditions: none.
-/
import Derived.Test.YtnmolpkkemljoaaGreatDoorM14
import Derived.Test.YtnmolpkkemljoaaGreatDoorM21
import Derived.Test.YtnmolpkkemljoaaGreatDoorM18
import Derived.Test.YtnmolpkkemljoaaGreatDoorM4
import Derived.Test.YtnmolpkkemljoaaGreatDoorM16
import Derived.Test.YtnmolpkkemljoaaGreatDoorProg
import Derived.KernelRfl
import Derived.Test.YtnmolpkkemljoaaGreatDoorM8
import Derived.ChangeMaps5
import Derived.Test.YtnmolpkkemljoaaGreatDoorCards
import Derived.Test.YtnmolpkkemljoaaGreatDoorTie
import Derived.WalkKit
import Derived.ProofKit
import Derived.OpenShut
import Derived.Deep.DeepHandedRow
import Derived.Deep.DeepWitnessRowRef
import Derived.Lib.LaidTab
import Derived.Test.YtnmolpkkemljoaaGreatDoorM10
import Derived.Lib.LaidU8
import Derived.Lib.ItoaNum
set_option linter.unusedVariables false
set_option linter.unusedSimpArgs false
set_option maxHeartbeats 8000000
set_option maxRecDepth 100000
section
noncomputable section
namespace Kd
open Go Go.Am Go.Proofs.YtnmolpkkemljoaaGreatDoor
def uniL (t u : Ty) : List (Int × Ty) := (uniR t u).1
def uniE (t u : Ty) : Int := (uniR t u).2
end Kd
namespace Go.Proofs.YtnmolpkkemljoaaGreatDoor
open Go Go.Am Kd
def uniQ : QSpec
 | [t, u], K => argTy t fun t => argTy u fun u => (cnt t ≤ 1000 ∧ cnt u ≤ 1000) ∧ K (.tup [.isl (nilB (uniL t u)) none 0 (encB (uniL t u)), .int .i64 (uniE t u)])
 | _, _ => False
theorem uni_hook {G : Gl} : QSpec.Ok Tryz.prog G 16 uniQ := by
 intro args K h'
 unfold uniQ at h'
 split at h'
 ·obtain ⟨t, rfl, h2⟩ := argTy_elim h'
  obtain ⟨u, rfl, h3, h4⟩ := argTy_elim h2
  exact ⟨_, uni_ok t u h3.1 h3.2, h4⟩
 ·exact h'.elim
def mostQs : List (Nat × QSpec) := [(14, weakQ 3 greatQ), (15, closed.aliveQ), (33, manyQ), (34, pQ), (16, uniQ), (22, bdQ), (18, mmQ), (23, smeQ)]
def mostHk : Hooks := hooks mostQs [] []
end Go.Proofs.YtnmolpkkemljoaaGreatDoor
end
end
section
noncomputable section
namespace Go.Proofs.YtnmolpkkemljoaaGreatDoor
open Go Go.Am Kd Go.Am.AV Go.IntKind
def rt (t : Ty) (l : List Ty) : Ty := .mk (Ty.kind t) (Ty.n t) (Ty.nl t) l
theorem most_top (t u : Ty) (b : Bool) (l : List (Int × Ty)) : (runT mostHk 160 8 [encD t, encD u, .isl b none 0 (encB l)] AH.nil (retIs Tryz.prog 5 (.bool true))) = ( ∃ l_1, encL (Ty.l t) =
 encL l_1 ∧ ∃ l_2, encL (Ty.l u) = encL l_2 ∧ bothR (greatB (rt t l_1) || greatB (rt u l_2)) (bool true = bool true) (∃ l_3, encB l = encB l_3 ∧ List.length l_3 ≤ 9223372036854775807 ∧
 bothR (manyB l_3) (bool true = bool true) (∃ l_4, encL (Ty.l t) = encL l_4 ∧ ∃ l_5, encL (Ty.l u) = encL l_5 ∧ (cnt (rt t l_4) ≤ 1000 ∧ cnt (rt u l_5) ≤ 1000) ∧ ∃ l_6, encL (Ty.l u) =
 encL l_6 ∧ ∃ l_7, encL (Ty.l t) = encL l_7 ∧ (cnt (rt u l_6) ≤ 1000 ∧ cnt (rt t l_7) ≤ 1000) ∧ bothR (!decide (uniE (rt t l_4) (rt u l_5) = uniE (rt u l_6) (rt t l_7))) (bool false =
 bool true) (∃ l_8, encB (uniL (rt t l_4) (rt u l_5)) = encB l_8 ∧ ∃ l_9, encB (uniL (rt u l_6) (rt t l_7)) = encB l_9 ∧ (l_8 = l_9 ∧ List.length l_8 ≤ 2000 ∧ allC l_8) ∧ ∃ l_10, encB l =
 encB l_10 ∧ ∃ l_11, encL (Ty.l t) = encL l_11 ∧ (cnt (rt t l_11) ≤ 1000 ∧ List.length l_10 ≤ 2000 ∧ allC l_10) ∧ ∃ l_12, encB l = encB l_12 ∧ ∃ l, encL (Ty.l u) = encL l ∧ (cnt (rt u l) ≤
 1000 ∧ List.length l_12 ≤ 2000 ∧ allC l_12) ∧ bothR (decide (putE l_10 (rt t l_11) = (0 : Int))) (bothR (decide (putE l_12 (rt u l) = (0 : Int))) (∃ l_13, encL (Ty.l (putT l_10 (rt t l_11)))
 = encL l_13 ∧ ∃ l_14, encL (Ty.l (putT l_12 (rt u l))) = encL l_14 ∧ (cnt (rt (putT l_10 (rt t l_11)) l_13) ≤ 1000 ∧ cnt (rt (putT l_12 (rt u l)) l_14) ≤ 1000) ∧ bothR (!decide (uniE (rt t
 l_4) (rt u l_5) = (0 : Int))) (bothR (decide (iC (List.length (encB (uniL (rt t l_4) (rt u l_5)))) = (0 : Int))) (bothR (!decide (uniE (rt t l_4) (rt u l_5) = (15 : Int))) (bool true =
 bool true) (bothR (!sameB (rt (putT l_10 (rt t l_11)) l_13) (rt (putT l_12 (rt u l)) l_14)) (bool true = bool true) (bool false = bool true))) (bool false = bool true))
 (∃ l_15, encB (uniL (rt t l_4) (rt u l_5)) = encB l_15 ∧ ∃ l_16, encL (Ty.l t) = encL l_16 ∧ (cnt (rt t l_16) ≤ 1000 ∧ List.length l_15 ≤ 2000 ∧ allC l_15) ∧ ∃ l_17, encB (uniL (rt t l_4)
 (rt u l_5)) = encB l_17 ∧ ∃ l_18, encL (Ty.l u) = encL l_18 ∧ (cnt (rt u l_18) ≤ 1000 ∧ List.length l_17 ≤ 2000 ∧ allC l_17) ∧ bothR (!decide (putE l_15 (rt t l_16) = putE l_17 (rt u l_18)))
 (bool false = bool true) (bothR (!decide (putE l_15 (rt t l_16) = (0 : Int))) (bothR (!decide (putE l_15 (rt t l_16) = (9 : Int))) (bool false = bool true) (∃ l_19, encL (Ty.l
 (putT l_15 (rt t l_16))) = encL l_19 ∧ ∃ l_20, encL (Ty.l (putT l_17 (rt u l_18))) = encL l_20 ∧ (cnt (rt (putT l_15 (rt t l_16)) l_19) ≤ 1000 ∧ cnt (rt (putT l_17 (rt u l_18)) l_20) ≤ 1000)
 ∧ bothR (!sameB (rt (putT l_15 (rt t l_16)) l_19) (rt (putT l_17 (rt u l_18)) l_20)) (bool false = bool true) (bothR (!decide (putE l_15 (rt t l_16) = (0 : Int))) (bool true =
 bool true) (∃ l_21, encB (uniL (rt t l_4) (rt u l_5)) = encB l_21 ∧ ∃ l_22, encL (Ty.l (putT l_15 (rt t l_16))) = encL l_22 ∧ (cnt (rt (putT l_15 (rt t l_16)) l_22) ≤ 1000 ∧ List.length
 l_21 ≤ 2000 ∧ allC l_21) ∧ ∃ l_23, encL (Ty.l (putT l_15 (rt t l_16))) = encL l_23 ∧ ∃ l_24, encL (Ty.l (putT l_10 (rt t l_11))) = encL l_24 ∧ (cnt (rt (putT l_15 (rt t l_16)) l_23) ≤ 1000 ∧
 cnt (rt (putT l_10 (rt t l_11)) l_24) ≤ 1000) ∧ bothR (decide (putE l_21 (rt (putT l_15 (rt t l_16)) l_22) = (0 : Int))) (∃ l_25, encL (Ty.l (putT l_21 (rt (putT l_15 (rt t l_16)) l_22))) =
 encL l_25 ∧ ∃ l_26, encL (Ty.l (putT l_15 (rt t l_16))) = encL l_26 ∧ (cnt (rt (putT l_21 (rt (putT l_15 (rt t l_16)) l_22)) l_25) ≤ 1000 ∧ cnt (rt (putT l_15 (rt t l_16)) l_26) ≤ 1000) ∧
 bothR (sameB (rt (putT l_21 (rt (putT l_15 (rt t l_16)) l_22)) l_25) (rt (putT l_15 (rt t l_16)) l_26)) (bothR (!sameB (rt (putT l_10 (rt t l_11)) l_13) (rt (putT l_12 (rt u l)) l_14))
 (bool true = bool true) (bothR (decide (mtN (rt (putT l_15 (rt t l_16)) l_23) (rt (putT l_10 (rt t l_11)) l_24) = (0 : Int))) (bool true = bool true) (bool false = bool
 true))) (bool false = bool true)) (bool false = bool true))))) (∃ l_19, encL (Ty.l (putT l_15 (rt t l_16))) = encL l_19 ∧ ∃ l_20, encL (Ty.l (putT l_17 (rt u l_18))) = encL l_20
 ∧ (cnt (rt (putT l_15 (rt t l_16)) l_19) ≤ 1000 ∧ cnt (rt (putT l_17 (rt u l_18)) l_20) ≤ 1000) ∧ bothR (!sameB (rt (putT l_15 (rt t l_16)) l_19) (rt (putT l_17 (rt u l_18)) l_20)) (bool
 false = bool true) (bothR (!decide (putE l_15 (rt t l_16) = (0 : Int))) (bool true = bool true) (∃ l_21, encB (uniL (rt t l_4) (rt u l_5)) = encB l_21 ∧ ∃ l_22, encL (Ty.l (putT
 l_15 (rt t l_16))) = encL l_22 ∧ (cnt (rt (putT l_15 (rt t l_16)) l_22) ≤ 1000 ∧ List.length l_21 ≤ 2000 ∧ allC l_21) ∧ ∃ l_23, encL (Ty.l (putT l_15 (rt t l_16))) = encL l_23 ∧ ∃ l_24, encL
 (Ty.l (putT l_10 (rt t l_11))) = encL l_24 ∧ (cnt (rt (putT l_15 (rt t l_16)) l_23) ≤ 1000 ∧ cnt (rt (putT l_10 (rt t l_11)) l_24) ≤ 1000) ∧ bothR (decide (putE l_21 (rt (putT l_15 (rt t
 l_16)) l_22) = (0 : Int))) (∃ l_25, encL (Ty.l (putT l_21 (rt (putT l_15 (rt t l_16)) l_22))) = encL l_25 ∧ ∃ l_26, encL (Ty.l (putT l_15 (rt t l_16))) = encL l_26 ∧ (cnt (rt (putT l_21 (rt
 (putT l_15 (rt t l_16)) l_22)) l_25) ≤ 1000 ∧ cnt (rt (putT l_15 (rt t l_16)) l_26) ≤ 1000) ∧ bothR (sameB (rt (putT l_21 (rt (putT l_15 (rt t l_16)) l_22)) l_25) (rt (putT l_15 (rt t l_16))
 l_26)) (bothR (!sameB (rt (putT l_10 (rt t l_11)) l_13) (rt (putT l_12 (rt u l)) l_14)) (bool true = bool true) (bothR (decide (mtN (rt (putT l_15 (rt t l_16)) l_23) (rt (putT l_10 (rt
 t l_11)) l_24) = (0 : Int))) (bool true = bool true) (bool false = bool true))) (bool false = bool true)) (bool false = bool true))))))) (bothR (!decide (uniE (rt t
 l_4) (rt u l_5) = (0 : Int))) (bothR (decide (iC (List.length (encB (uniL (rt t l_4) (rt u l_5)))) = (0 : Int))) (bothR (!decide (uniE (rt t l_4) (rt u l_5) = (15 : Int))) (bool true =
 bool true) (bool true = bool true)) (bool false = bool true)) (∃ l, encB (uniL (rt t l_4) (rt u l_5)) = encB l ∧ ∃ l_13, encL (Ty.l t) = encL l_13 ∧ (cnt (rt t l_13) ≤ 1000 ∧
 List.length l ≤ 2000 ∧ allC l) ∧ ∃ l_14, encB (uniL (rt t l_4) (rt u l_5)) = encB l_14 ∧ ∃ l_15, encL (Ty.l u) = encL l_15 ∧ (cnt (rt u l_15) ≤ 1000 ∧ List.length l_14 ≤ 2000 ∧ allC l_14) ∧
 bothR (!decide (putE l (rt t l_13) = putE l_14 (rt u l_15))) (bool false = bool true) (bothR (!decide (putE l (rt t l_13) = (0 : Int))) (bothR (!decide (putE l (rt t l_13) = (9 :
 Int))) (bool false = bool true) (∃ l_16, encL (Ty.l (putT l (rt t l_13))) = encL l_16 ∧ ∃ l_17, encL (Ty.l (putT l_14 (rt u l_15))) = encL l_17 ∧ (cnt (rt (putT l (rt t l_13)) l_16) ≤
 1000 ∧ cnt (rt (putT l_14 (rt u l_15)) l_17) ≤ 1000) ∧ bothR (!sameB (rt (putT l (rt t l_13)) l_16) (rt (putT l_14 (rt u l_15)) l_17)) (bool false = bool true) (bothR (!decide (putE l
 (rt t l_13) = (0 : Int))) (bool true = bool true) (∃ l_18, encB (uniL (rt t l_4) (rt u l_5)) = encB l_18 ∧ ∃ l_19, encL (Ty.l (putT l (rt t l_13))) = encL l_19 ∧ (cnt (rt (putT l (rt t
 l_13)) l_19) ≤ 1000 ∧ List.length l_18 ≤ 2000 ∧ allC l_18) ∧ ∃ l_20, encL (Ty.l (putT l (rt t l_13))) = encL l_20 ∧ ∃ l_21, encL (Ty.l (putT l_10 (rt t l_11))) = encL l_21 ∧ (cnt (rt (putT l
 (rt t l_13)) l_20) ≤ 1000 ∧ cnt (rt (putT l_10 (rt t l_11)) l_21) ≤ 1000) ∧ bothR (decide (putE l_18 (rt (putT l (rt t l_13)) l_19) = (0 : Int))) (∃ l_22, encL (Ty.l (putT l_18 (rt (putT l
 (rt t l_13)) l_19))) = encL l_22 ∧ ∃ l_23, encL (Ty.l (putT l (rt t l_13))) = encL l_23 ∧ (cnt (rt (putT l_18 (rt (putT l (rt t l_13)) l_19)) l_22) ≤ 1000 ∧ cnt (rt (putT l (rt t l_13))
 l_23) ≤ 1000) ∧ bothR (sameB (rt (putT l_18 (rt (putT l (rt t l_13)) l_19)) l_22) (rt (putT l (rt t l_13)) l_23)) (bool true = bool true) (bool false = bool true)) (bool false
 = bool true))))) (∃ l_16, encL (Ty.l (putT l (rt t l_13))) = encL l_16 ∧ ∃ l_17, encL (Ty.l (putT l_14 (rt u l_15))) = encL l_17 ∧ (cnt (rt (putT l (rt t l_13)) l_16) ≤ 1000 ∧ cnt (rt
 (putT l_14 (rt u l_15)) l_17) ≤ 1000) ∧ bothR (!sameB (rt (putT l (rt t l_13)) l_16) (rt (putT l_14 (rt u l_15)) l_17)) (bool false = bool true) (bothR (!decide (putE l (rt t l_13) =
 (0 : Int))) (bool true = bool true) (∃ l_18, encB (uniL (rt t l_4) (rt u l_5)) = encB l_18 ∧ ∃ l_19, encL (Ty.l (putT l (rt t l_13))) = encL l_19 ∧ (cnt (rt (putT l (rt t l_13)) l_19)
 ≤ 1000 ∧ List.length l_18 ≤ 2000 ∧ allC l_18) ∧ ∃ l_20, encL (Ty.l (putT l (rt t l_13))) = encL l_20 ∧ ∃ l_21, encL (Ty.l (putT l_10 (rt t l_11))) = encL l_21 ∧ (cnt (rt (putT l (rt t l_13))
 l_20) ≤ 1000 ∧ cnt (rt (putT l_10 (rt t l_11)) l_21) ≤ 1000) ∧ bothR (decide (putE l_18 (rt (putT l (rt t l_13)) l_19) = (0 : Int))) (∃ l_22, encL (Ty.l (putT l_18 (rt (putT l (rt t l_13))
 l_19))) = encL l_22 ∧ ∃ l_23, encL (Ty.l (putT l (rt t l_13))) = encL l_23 ∧ (cnt (rt (putT l_18 (rt (putT l (rt t l_13)) l_19)) l_22) ≤ 1000 ∧ cnt (rt (putT l (rt t l_13)) l_23) ≤ 1000) ∧
 bothR (sameB (rt (putT l_18 (rt (putT l (rt t l_13)) l_19)) l_22) (rt (putT l (rt t l_13)) l_23)) (bool true = bool true) (bool false = bool true)) (bool false = bool
 true)))))))) (bothR (!decide (uniE (rt t l_4) (rt u l_5) = (0 : Int))) (bothR (decide (iC (List.length (encB (uniL (rt t l_4) (rt u l_5)))) = (0 : Int))) (bothR (!decide (uniE (rt t l_4) (rt
 u l_5) = (15 : Int))) (bool true = bool true) (bool true = bool true)) (bool false = bool true)) (∃ l, encB (uniL (rt t l_4) (rt u l_5)) = encB l ∧ ∃ l_13, encL (Ty.l t) =
 encL l_13 ∧ (cnt (rt t l_13) ≤ 1000 ∧ List.length l ≤ 2000 ∧ allC l) ∧ ∃ l_14, encB (uniL (rt t l_4) (rt u l_5)) = encB l_14 ∧ ∃ l_15, encL (Ty.l u) = encL l_15 ∧ (cnt (rt u l_15) ≤ 1000 ∧
 List.length l_14 ≤ 2000 ∧ allC l_14) ∧ bothR (!decide (putE l (rt t l_13) = putE l_14 (rt u l_15))) (bool false = bool true) (bothR (!decide (putE l (rt t l_13) = (0 : Int))) (bothR
 (!decide (putE l (rt t l_13) = (9 : Int))) (bool false = bool true) (∃ l_16, encL (Ty.l (putT l (rt t l_13))) = encL l_16 ∧ ∃ l_17, encL (Ty.l (putT l_14 (rt u l_15))) = encL l_17 ∧
 (cnt (rt (putT l (rt t l_13)) l_16) ≤ 1000 ∧ cnt (rt (putT l_14 (rt u l_15)) l_17) ≤ 1000) ∧ bothR (!sameB (rt (putT l (rt t l_13)) l_16) (rt (putT l_14 (rt u l_15)) l_17)) (bool false =
 bool true) (bothR (!decide (putE l (rt t l_13) = (0 : Int))) (bool true = bool true) (∃ l_18, encB (uniL (rt t l_4) (rt u l_5)) = encB l_18 ∧ ∃ l_19, encL (Ty.l (putT l (rt t
 l_13))) = encL l_19 ∧ (cnt (rt (putT l (rt t l_13)) l_19) ≤ 1000 ∧ List.length l_18 ≤ 2000 ∧ allC l_18) ∧ ∃ l_20, encL (Ty.l (putT l (rt t l_13))) = encL l_20 ∧ ∃ l_21, encL (Ty.l (putT l_10
 (rt t l_11))) = encL l_21 ∧ (cnt (rt (putT l (rt t l_13)) l_20) ≤ 1000 ∧ cnt (rt (putT l_10 (rt t l_11)) l_21) ≤ 1000) ∧ bothR (decide (putE l_18 (rt (putT l (rt t l_13)) l_19) = (0 : Int)))
 (∃ l_22, encL (Ty.l (putT l_18 (rt (putT l (rt t l_13)) l_19))) = encL l_22 ∧ ∃ l_23, encL (Ty.l (putT l (rt t l_13))) = encL l_23 ∧ (cnt (rt (putT l_18 (rt (putT l (rt t l_13)) l_19)) l_22)
 ≤ 1000 ∧ cnt (rt (putT l (rt t l_13)) l_23) ≤ 1000) ∧ bothR (sameB (rt (putT l_18 (rt (putT l (rt t l_13)) l_19)) l_22) (rt (putT l (rt t l_13)) l_23)) (bool true = bool true) (bool
 false = bool true)) (bool false = bool true))))) (∃ l_16, encL (Ty.l (putT l (rt t l_13))) = encL l_16 ∧ ∃ l_17, encL (Ty.l (putT l_14 (rt u l_15))) = encL l_17 ∧ (cnt (rt (putT l
 (rt t l_13)) l_16) ≤ 1000 ∧ cnt (rt (putT l_14 (rt u l_15)) l_17) ≤ 1000) ∧ bothR (!sameB (rt (putT l (rt t l_13)) l_16) (rt (putT l_14 (rt u l_15)) l_17)) (bool false = bool true)
 (bothR (!decide (putE l (rt t l_13) = (0 : Int))) (bool true = bool true) (∃ l_18, encB (uniL (rt t l_4) (rt u l_5)) = encB l_18 ∧ ∃ l_19, encL (Ty.l (putT l (rt t l_13))) = encL l_19
 ∧ (cnt (rt (putT l (rt t l_13)) l_19) ≤ 1000 ∧ List.length l_18 ≤ 2000 ∧ allC l_18) ∧ ∃ l_20, encL (Ty.l (putT l (rt t l_13))) = encL l_20 ∧ ∃ l_21, encL (Ty.l (putT l_10 (rt t l_11))) =
 encL l_21 ∧ (cnt (rt (putT l (rt t l_13)) l_20) ≤ 1000 ∧ cnt (rt (putT l_10 (rt t l_11)) l_21) ≤ 1000) ∧ bothR (decide (putE l_18 (rt (putT l (rt t l_13)) l_19) = (0 : Int))) (∃ l_22, encL
 (Ty.l (putT l_18 (rt (putT l (rt t l_13)) l_19))) = encL l_22 ∧ ∃ l_23, encL (Ty.l (putT l (rt t l_13))) = encL l_23 ∧ (cnt (rt (putT l_18 (rt (putT l (rt t l_13)) l_19)) l_22) ≤ 1000 ∧ cnt
 (rt (putT l (rt t l_13)) l_23) ≤ 1000) ∧ bothR (sameB (rt (putT l_18 (rt (putT l (rt t l_13)) l_19)) l_22) (rt (putT l (rt t l_13)) l_23)) (bool true = bool true) (bool false =
 bool true)) (bool false = bool true))))))))))) := by kernel_rfl
end Go.Proofs.YtnmolpkkemljoaaGreatDoor
end
end
section
namespace Kd
open Go Go.Am Go.Proofs.YtnmolpkkemljoaaGreatDoor
theorem same_eq : (∀ a b, sameB a b = true → cleanT a = cleanT b) ∧ ∀ l m, l.length = m.length → sameL l m = true → cleanL l = cleanL m := by
 refine Ty.ind (P := fun a => ∀ b, sameB a b = true → cleanT a = cleanT b) (Q := fun l => ∀ m, l.length = m.length → sameL l m = true → cleanL l = cleanL m) (fun k n b l ih u h => ?_) (fun m h1 h2 => ?_) fun x xs h1 h2 m hl h => ?_
 ·obtain ⟨k', n', b', l'⟩ := u
  simp only [sameB, Bool.and_eq_true, Bool.or_eq_true, decide_eq_true_eq, Bool.not_eq_true', decide_eq_false_iff_not] at h
  obtain ⟨rfl, hn, hl, hs⟩ := h
  have e := ih l' hl hs
  simp only [cleanT, e, nilB, hl]
  by_cases h6 : k = 6
  ·rw [hn.resolve_left (by simpa using h6)]
  ·simp only [if_neg h6]
 ·have : m = [] := List.length_eq_zero_iff.1 h1.symm
  subst this; rfl
 ·cases m with
  | nil => simp at hl
  | cons y ys =>
   simp only [sameL, Bool.and_eq_true] at h
   simp only [cleanL, h1 y h.1, h2 ys (by simpa using hl) h.2]
end Kd
end
section
namespace Kd
open Go Go.Am Go.Proofs.YtnmolpkkemljoaaGreatDoor
def Ext (a b : Es) : Prop := ∀ n o, boundM a n = some o → boundM b n = some o
theorem Ext.refl (a : Es) : Ext a a := fun _ _ h => h
theorem Ext.trans {a b c : Es} (h : Ext a b) (k : Ext b c) : Ext a c := fun n o x => k n o (h n o x)
theorem boundO_mem {l : List (Int × Ty)} {n : Int} {u : Ty} (h : (n, u) ∈ l) (hn : (l.map fun x => x.1).Nodup) : boundO l n = some u := by
 induction l with
 | nil => cases h
 | cons x l ih =>
  simp only [List.map_cons, List.nodup_cons] at hn
  simp only [boundO]
  rcases List.mem_cons.1 h with rfl | h
  ·simp
  ·have : x.1 ≠ n := fun e => hn.1 (List.mem_map.2 ⟨(n, u), h, e.symm⟩)
   rw [if_neg this]
   exact ih h hn.2
theorem binds_of : ∀ (l pre : List (Int × Ty)), (∀ x ∈ l, okB1 x = true) → ((pre ++ l).map fun x => x.1).Nodup → bindsG pre l = true
 | [], _, _, _ => rfl
 | x :: l, pre, h, hn => by
  have hx : hasV pre x.1 = false := by
   rw [hasV, List.any_eq_false]
   intro y hy
   simp only [decide_eq_true_eq]
   intro e
   rw [List.map_append, List.nodup_append] at hn
   exact hn.2.2 _ (List.mem_map.2 ⟨y, hy, rfl⟩) _ (List.mem_map.2 ⟨x, List.mem_cons_self .., rfl⟩) e
  simp only [bindsG, h x (List.mem_cons_self ..), hx, Bool.not_false, Bool.and_self, Bool.true_and]
  exact binds_of l (pre ++ [x]) (fun y hy => h y (List.mem_cons_of_mem _ hy)) (by rw [List.append_assoc]; exact hn)
end Kd
end
section
noncomputable section
namespace Go.Proofs.YtnmolpkkemljoaaGreatDoor
open Go Go.Am Kd
theorem uni_cases (t u : Ty) : (uniE t u ≠ 0 ∧ uniL t u = [] ∧ (uniE t u = 15 → ∀ θ : Int → Ty, subT θ t = subT θ u → False)) ∨
  (uniE t u = 0 ∧ validB t = true ∧ validB u = true ∧ ∃ σ, CanMgu σ t u ∧ uniL t u = bindsL σ ∧ ∀ n, σ n ≠ varT n → Fits (σ n) 60 1) := by
 classical
 unfold uniE uniL
 by_cases hv : validB t = true ∧ validB u = true
 ·by_cases hm : ∃ σ, CanMgu σ t u
  ·obtain ⟨σ, hσ⟩ := hm
   rw [uniR_some hv.1 hv.2 hσ]
   by_cases hf : ∃ n, σ n ≠ varT n ∧ ¬ Fits (σ n) 60 1
   ·rw [if_pos hf]
    exact .inl ⟨(by decide : (9 : Int) ≠ 0), rfl, fun h => absurd h (by decide : ¬ (9 : Int) = 15)⟩
   ·rw [if_neg hf]
    refine .inr ⟨rfl, hv.1, hv.2, σ, hσ, rfl, fun n hn => ?_⟩
    by_cases h : Fits (σ n) 60 1
    ·exact h
    ·exact absurd ⟨n, hn, h⟩ hf
  ·by_cases hθ : ∃ θ : Int → Ty, subT θ t = subT θ u
   ·have : uniR t u = ([], 9) := by
     unfold uniR
     rw [if_pos hv, dif_neg hm, if_pos hθ]
    rw [this]
    exact .inl ⟨(by decide : (9 : Int) ≠ 0), rfl, fun h => absurd h (by decide : ¬ (9 : Int) = 15)⟩
   ·have : uniR t u = ([], 15) := by
     unfold uniR
     rw [if_pos hv, dif_neg hm, if_neg hθ]
    rw [this]
    exact .inl ⟨(by decide : (15 : Int) ≠ 0), rfl, fun _ θ h => hθ ⟨θ, h⟩⟩
 ·rw [uniR_no fun h1 h2 => hv ⟨h1, h2⟩]
  exact .inl ⟨(by decide : (1 : Int) ≠ 0), rfl, fun h => absurd h (by decide : ¬ (1 : Int) = 15)⟩
theorem uni_symm (t u : Ty) : uniR u t = uniR t u := by
 classical
 by_cases hv : validB t = true ∧ validB u = true
 ·by_cases hm : ∃ σ, CanMgu σ t u
  ·obtain ⟨σ, hσ⟩ := hm
   rw [uniR_some hv.1 hv.2 hσ, uniR_some hv.2 hv.1 hσ.symm]
  ·have hm' : ¬ ∃ σ, CanMgu σ u t := fun ⟨σ, h⟩ => hm ⟨σ, h.symm⟩
   have e : (∃ θ : Int → Ty, subT θ u = subT θ t) ↔ ∃ θ : Int → Ty, subT θ t = subT θ u := ⟨fun ⟨θ, h⟩ => ⟨θ, h.symm⟩, fun ⟨θ, h⟩ => ⟨θ, h.symm⟩⟩
   unfold uniR
   rw [if_pos hv, dif_neg hm, if_pos ⟨hv.2, hv.1⟩, dif_neg hm']
   simp only [e]
 ·rw [uniR_no fun h1 h2 => hv ⟨h1, h2⟩, uniR_no fun h1 h2 => hv ⟨h2, h1⟩]
theorem put_sub {l : List (Int × Ty)} {t : Ty} (h : putE l t = 0) : validB t = true ∧ validB (putT l t) = true ∧ putT l t = subT (fun n => cleanT (boundT l n)) t := by
 rcases put_cases l t with ⟨_, _, h1⟩ | ⟨_, _, _, h1⟩ | ⟨_, _, _, _, h1⟩ | ⟨h1, h2, h3, h4, _⟩
 ·rw [h1] at h; cases h
 ·rw [h1] at h; cases h
 ·rw [h1] at h; cases h
 ·rw [h4]
  exact ⟨h1, h3, (with_sub l).1 t⟩
theorem put_one {l : List (Int × Ty)} {t u : Ty} (h1 : putE l t = 0) (h2 : putE l u = 0) (h3 : sameB (putT l t) (putT l u) = true) : ∃ θ : Int → Ty, subT θ t = subT θ u ∧ putT l t = subT θ t ∧ ∀ n, cleanT (θ n) = θ n := by
 obtain ⟨_, _, e1⟩ := put_sub h1
 obtain ⟨_, _, e2⟩ := put_sub h2
 refine ⟨_, ?_, e1, fun n => clean_clean.1 _⟩
 have := same_eq.1 _ _ h3
 rw [e1, e2, (sub_clean fun n => clean_clean.1 _).1, (sub_clean fun n => clean_clean.1 _).1] at this
 exact this
section
variable {σ : Int → Ty} {t u : Ty}
theorem binds_len (σ : Int → Ty) : (bindsL σ).length ≤ 1000 := by
 unfold bindsL
 rw [List.length_map]
 refine Nat.le_trans (List.length_filter_le _ _) ?_
 simp
theorem binds_nodup (σ : Int → Ty) : ((bindsL σ).map fun x => x.1).Nodup := by
 unfold List.Nodup
 rw [List.pairwise_map]
 exact (binds_strict σ).imp fun {x y} h e => by omega
theorem binds_valid (hM : CanMgu σ t u) (hf : ∀ n, σ n ≠ varT n → Fits (σ n) 60 1) : ∀ x ∈ bindsL σ, (0 ≤ x.1 ∧ x.1 < 1000) ∧ validB x.2 = true ∧ cnt x.2 ≤ 60 := by
 intro x hx
 obtain ⟨h1, h2, h3, h4⟩ := (binds_mem σ x).1 hx
 have h5 := hf _ h3
 have h6 := hM.good _ h3
 unfold Fits at h5
 rw [h4]
 exact ⟨⟨h1, h2⟩, (valid_eq _).2 ⟨by omega, by omega, h6⟩, by omega⟩
theorem binds_good (hM : CanMgu σ t u) (hf : ∀ n, σ n ≠ varT n → Fits (σ n) 60 1) : bindsB (bindsL σ) = true := by
 refine binds_of _ [] (fun x hx => ?_) (by simpa using binds_nodup σ)
 obtain ⟨h1, h2, _⟩ := binds_valid hM hf x hx
 simp only [okB1, h2, Bool.and_true, Bool.and_eq_true, decide_eq_true_eq]
 omega
theorem boundO_none {l : List (Int × Ty)} {n : Int} (h : ∀ x ∈ l, x.1 ≠ n) : boundO l n = none := by
 induction l with
 | nil => rfl
 | cons x l ih =>
  simp only [boundO]
  rw [if_neg (h x (by simp))]
  exact ih fun y hy => h y (by simp [hy])
theorem CanMgu.cl (hM : CanMgu σ t u) (n : Int) : cleanT (σ n) = σ n := by
 rw [← hM.clean n]
 exact (sub_clean fun _ => rfl).1 _
theorem binds_with (hM : CanMgu σ t u) {x : Ty} (hx : okT x = true) : withT (bindsL σ) x = subT σ x := by
 rw [(with_sub _).1]
 refine sub_congr.1 x ((allV_imp fun n hn => ?_).1 x (okT_range x hx))
 show cleanT (boundT _ n) = σ n
 unfold boundT
 by_cases h : σ n = varT n
 ·rw [boundO_none fun y hy e => ?_]
  ·rw [h]; rfl
  ·obtain ⟨_, _, h3, _⟩ := (binds_mem σ y).1 hy
   rw [e] at h3
   exact h3 h
 ·rw [boundO_mem ((binds_mem σ (n, σ n)).2 ⟨hn.1, hn.2, h, rfl⟩) (binds_nodup σ)]
  exact hM.cl n
theorem binds_put (hM : CanMgu σ t u) (hf : ∀ n, σ n ≠ varT n → Fits (σ n) 60 1) {x : Ty} (hx : validB x = true) : (validB (subT σ x) = true ∧ putE (bindsL σ) x = 0 ∧ putT (bindsL σ) x = subT σ x) ∨ (validB (subT σ x) = false ∧ putE (bindsL σ) x = 9 ∧ putT (bindsL σ) x = .mk 0 0 true []) := by
 have hw := binds_with hM ((valid_eq x).1 hx).2.2
 rcases put_cases (bindsL σ) x with ⟨h1, _⟩ | ⟨_, h1, _⟩ | ⟨_, _, h1, h2, h3⟩ | ⟨_, _, h1, h2, h3⟩
 ·rw [hx] at h1; cases h1
 ·rw [binds_good hM hf] at h1; cases h1
 ·rw [hw] at h1
  exact .inr ⟨h1, h3, h2⟩
 ·rw [hw] at h1 h2
  exact .inl ⟨h1, h3, h2⟩
theorem CanMgu.idem (hM : CanMgu σ t u) (x : Ty) : subT σ (subT σ x) = subT σ x := by
 rw [(sub_sub σ σ).1]
 have : (fun n => subT σ (σ n)) = σ := by
  funext n
  exact (hM.gen σ hM.one n).symm
 rw [this]
end
end Go.Proofs.YtnmolpkkemljoaaGreatDoor
end
end
section
noncomputable section
namespace Go.Proofs.YtnmolpkkemljoaaGreatDoor
open Go Go.Am Kd
theorem most_ok (t u : Ty) (b : Bool) (l : List (Int × Ty)) (hl : l.length ≤ 9223372036854775807) : QT 8 [enc t, enc u, .isl b none 0 (encB l)] (.bool true) := by
 have hst : ∀ t, (enc t).still = true := fun t => enc_still t
 have hh : Hooks.Ok Tryz.prog gT mostHk := mkHooks_ok (all_cons (great_hook.lift.weak 3) (all_cons closed.alive_hook.lift (all_cons many_hook.lift (all_cons kp_hook.lift (all_cons uni_hook (all_cons bd_hook.lift (all_cons mm_hook (all_cons sme_hook all_nil)))))))) all_nil all_nil
 rw [enc_D, enc_D]
 refine QuietJ.ret (P := Tryz.prog) (G := gT) (f := 8) 5 (by simp only [← enc_D]; simp [AV.stillL, AV.still, hst, encB_still]) rfl (FuncJ.run (el := els) (mu := mu0) (hk := mostHk) hmix hh (n := 160) ?_)
 show runT mostHk 160 8 _ AH.nil _
 rw [most_top]
 simp only [rt, ex_enc, Ty.eta, eq_self, ex_encB]
 refine bothR_bool (fun _ => trivial) fun hg => ⟨hl, bothR_bool (fun _ => trivial) fun hm1 => ?_⟩
 simp only [Bool.or_eq_false_iff] at hg
 have c1 := great_cnt hg.1
 have c2 := great_cnt hg.2
 have d1 : cnt t ≤ 1000 := by omega
 have d2 : cnt u ≤ 1000 := by omega
 obtain ⟨h1, h2⟩ := many_all hm1
 have hs : uniR u t = uniR t u := uni_symm t u
 have hsE : uniE u t = uniE t u := by unfold uniE; rw [hs]
 have hsL : uniL u t = uniL t u := by unfold uniL; rw [hs]
 have p1 := put_cnt l t
 have p2 := put_cnt l u
 simp only [hsE, hsL, d1, d2, h1, h2, p1, p2, decide_true, Bool.not_true, true_and, and_self]
 rcases uni_cases t u with ⟨e1, e2, e3⟩ | ⟨e1, hvt, hvu, σ, hM, e2, hf⟩
 ·have a0 : allC (uniL t u) := by rw [e2]; intro x hx; cases hx
  have a1 : (uniL t u).length ≤ 2000 := by rw [e2]; simp
  have a2 : iC (encB (uniL t u)).length = 0 := by rw [e2]; rfl
  simp only [a0, a1, a2, e1, decide_false, decide_true, Bool.not_false, Bool.not_true, true_and, bothR]
  by_cases g1 : putE l t = 0
  ·by_cases g2 : putE l u = 0
   ·by_cases g3 : uniE t u = 15
    ·cases hsb : sameB (putT l t) (putT l u) with
     | true =>
      obtain ⟨θ, hθ, _⟩ := put_one g1 g2 hsb
      exact (e3 g3 θ hθ).elim
     | false => simp [g1, g2, g3]
    ·simp [g1, g2, g3]
   ·by_cases g3 : uniE t u = 15
    ·simp [g1, g2, g3]
    ·simp [g1, g2, g3]
  ·by_cases g3 : uniE t u = 15
   ·simp [g1, g3]
   ·simp [g1, g3]
 ·have b0 := binds_valid hM hf
  have a0 : allC (uniL t u) := by rw [e2]; intro x hx; have := (b0 x hx).2.2; omega
  have a1 : (uniL t u).length ≤ 2000 := by rw [e2]; have := binds_len σ; omega
  have hone := hM.one
  rcases binds_put hM hf hvt with ⟨q1, q2, q3⟩ | ⟨q1, q2, q3⟩
  ·rcases binds_put hM hf hvu with ⟨r1, r2, r3⟩ | ⟨r1, _⟩
   ·rw [← hone] at r3
    have hcs : cnt (subT σ t) ≤ 1000 := by have := ((valid_eq _).1 q1).2.1; omega
    have hid := hM.idem t
    rcases binds_put hM hf q1 with ⟨s1, s2, s3⟩ | ⟨s1, _⟩
    ·rw [hid] at s3
     have hmt : putE l t = 0 → putE l u = 0 → sameB (putT l t) (putT l u) = true → mtN (subT σ t) (putT l t) = 0 := fun g1 g2 g3 => by
      obtain ⟨θ, hθ, hp, hc⟩ := put_one g1 g2 g3
      have hv := (put_sub g1).2.1
      have hgen : subT θ (subT σ t) = subT θ t := by
       rw [(sub_sub σ θ).1]
       have : (fun n => subT θ (σ n)) = θ := by
        funext n
        exact (hM.gen θ hθ n).symm
       rw [this]
      rw [hp, ← hgen] at hv ⊢
      have : mtB (subT σ t) (subT θ (subT σ t)) [] 0 = true := ((mt_sub hc).1 (subT σ t) ((valid_eq _).1 q1).2.2 [] 0 (fun e h => by simp at h)).1
      unfold mtN
      rw [if_pos ⟨q1, hv⟩, if_pos this]
     rw [e2] at a0 a1 ⊢
     simp only [q2, q3, r2, r3, s2, s3, a0, a1, e1, hcs, sameB_refl, decide_true, Bool.not_true, true_and, and_self, bothR]
     by_cases g1 : putE l t = 0
     ·by_cases g2 : putE l u = 0
      ·cases hsb : sameB (putT l t) (putT l u) with
       | true => simp [g1, g2, hmt g1 g2 hsb]
       | false => simp [g1, g2]
      ·simp [g1, g2]
     ·simp [g1]
    ·rw [hid, q1] at s1; cases s1
   ·rw [← hone, q1] at r1; cases r1
  ·rcases binds_put hM hf hvu with ⟨r1, _⟩ | ⟨r1, r2, r3⟩
   ·rw [← hone, q1] at r1; cases r1
   ·have hc0 : cnt (Ty.mk 0 0 true []) ≤ 1000 := by simp [cnt, cntL]
    have h9 : (decide ((9 : Int) = 0)) = false := by decide
    rw [e2] at a0 a1 ⊢
    simp only [q2, q3, r2, r3, a0, a1, e1, hc0, h9, sameB_refl, decide_true, Bool.not_true, Bool.not_false, true_and, and_self, bothR]
    by_cases g1 : putE l t = 0
    ·by_cases g2 : putE l u = 0
     ·simp [g1, g2]
     ·simp [g1, g2]
    ·simp [g1]
end Go.Proofs.YtnmolpkkemljoaaGreatDoor
end
end
section
noncomputable section
namespace Go.Proofs.YtnmolpkkemljoaaGreatDoor
open Go Go.Am Go.RowKit Go.ChangeShapes Go.WideShapes
theorem laidOut : laidOutB Tryz.prog = true := by kernel_rfl
theorem cells24 : Tryz.prog.cellsOf 24 = 3 := by kernel_rfl
theorem cells22 : Tryz.prog.cellsOf 22 = 1 := by kernel_rfl
theorem cells3 : Tryz.prog.cellsOf 3 = 1 := by kernel_rfl
theorem three {α : Type} : ∀ {cs : List α}, cs.length = 3 → ∃ a b c, cs = [a, b, c]
 | [a, b, c], _ => ⟨a, b, c, rfl⟩
theorem encL_of {xs : List AV} (h : ∀ v ∈ xs, ∃ t, v = enc t) : ∃ l, xs = encL l := by
 induction xs with
 | nil => exact ⟨[], rfl⟩
 | cons x xs ih =>
  obtain ⟨t, rfl⟩ := h x (by simp)
  obtain ⟨l, rfl⟩ := ih fun v hv => h v (by simp [hv])
  exact ⟨t :: l, rfl⟩
variable {H : Type} {enc' : TypeId × Value → H} {w : World}
theorem read_ty {held : Bool} : ∀ (fuel : Nat) (cs : List Value) (x : DataW H × List MemPlace), DataW.trod enc' Tryz.prog w 0 (fun _ => true) held fuel 24 cs = some x → ∃ t : Ty, LRel (memSh w) (enc t).cells cs := by
 intro fuel
 induction fuel using Nat.strongRecOn with
 | _ fuel ih =>
 intro cs x h
 obtain ⟨xs, n, rfl, -, hlen, hxl, hf⟩ := DataW.trod_struct Tryz.underlying24 h
 rw [cells24] at hlen
 have hxl : xs.length = 3 := hxl
 have h0 : DataW.trod enc' Tryz.prog w 0 (fun _ => true) held n 3 ((cs.drop 0).take (Tryz.prog.cellsOf 3)) = xs[0]? := hf 0 _ rfl
 have h1 : DataW.trod enc' Tryz.prog w 0 (fun _ => true) held n 3 ((cs.drop 1).take (Tryz.prog.cellsOf 3)) = xs[1]? := hf 1 _ rfl
 have h2 : DataW.trod enc' Tryz.prog w 0 (fun _ => true) held n 22 ((cs.drop 2).take (Tryz.prog.cellsOf 22)) = xs[2]? := hf 2 _ rfl
 rw [List.getElem?_eq_getElem (by omega)] at h0 h1 h2
 simp only [cells3, cells22] at h0 h1 h2
 obtain ⟨a, b, c, rfl⟩ := three hlen
 simp only [List.drop_zero, List.take_succ_cons, List.take_zero, List.drop_succ_cons] at h0 h1 h2
 obtain ⟨k, e0, -⟩ := DataW.trod_int Tryz.underlying3 h0
 obtain ⟨m, e1, -⟩ := DataW.trod_int Tryz.underlying3 h1
 obtain ⟨nl, l, hl, -, hrel⟩ := read_slice Tryz.underlying22 (by rw [cells24]; omega) (R := fun v => ∃ t, v = enc t) (fun n' cs' x' hlt h' => by
  obtain ⟨t, ht⟩ := ih n' (by omega) cs' x' h'
  refine ⟨enc t, ⟨t, rfl⟩, ?_, ht⟩
  cases t
  rw [cells24]; rfl) h2
 obtain ⟨l, rfl⟩ := encL_of hl
 simp only [List.cons.injEq, and_true] at e0 e1
 subst e0 e1
 exact ⟨.mk k m nl l, .cons _ _ _ _ (.int _ _) (.cons _ _ _ _ (.int _ _) hrel)⟩
theorem arg_ty {base : Nat} {v : Value} {d : DataW H} {ps : List MemPlace} (hv : Value.okWide Tryz.prog w .any base 24 v) (h : DataW.Trod enc' Tryz.prog w 0 (fun _ => true) true 24 v d ps) : ∃ t : Ty, VRel (memSh w) (enc t) v := by
 obtain ⟨fuel, h⟩ := h
 obtain ⟨t, ht⟩ := read_ty fuel _ _ h
 unfold Value.okWide at hv
 rw [Tryz.underlying24] at hv
 obtain ⟨cs, rfl, -⟩ := hv
 refine ⟨t, ?_⟩
 obtain ⟨k, n, b, l⟩ := t
 obtain ⟨cs⟩ := cs
 exact .agg _ _ ht
end Go.Proofs.YtnmolpkkemljoaaGreatDoor
end
end
section
noncomputable section
namespace Go.Proofs.YtnmolpkkemljoaaGreatDoor
open Go Go.Am Kd Go.RowKit Go.ChangeShapes Go.WideShapes
theorem cells58 : Tryz.prog.cellsOf 58 = 4 := by kernel_rfl
theorem four {α : Type} : ∀ {cs : List α}, cs.length = 4 → ∃ a b c d, cs = [a, b, c, d]
 | [a, b, c, d], _ => ⟨a, b, c, d, rfl⟩
theorem encB_of {xs : List AV} (h : ∀ v ∈ xs, ∃ x, v = bindD x) : ∃ l, xs = encB l := by
 induction xs with
 | nil => exact ⟨[], rfl⟩
 | cons x xs ih =>
  obtain ⟨t, rfl⟩ := h x (by simp)
  obtain ⟨l, rfl⟩ := ih fun v hv => h v (by simp [hv])
  exact ⟨t :: l, rfl⟩
variable {H : Type} {enc' : TypeId × Value → H} {w : World}
theorem read_bind {held : Bool} (fuel : Nat) (cs : List Value) (x : DataW H × List MemPlace) (h : DataW.trod enc' Tryz.prog w 0 (fun _ => true) held fuel 58 cs = some x) : ∃ y : Int × Ty, LRel (memSh w) (bindD y).cells cs := by
 obtain ⟨xs, n, rfl, -, hlen, hxl, hf⟩ := DataW.trod_struct Tryz.underlying58 h
 rw [cells58] at hlen
 have hxl : xs.length = 2 := hxl
 have h0 : DataW.trod enc' Tryz.prog w 0 (fun _ => true) held n 3 ((cs.drop 0).take (Tryz.prog.cellsOf 3)) = xs[0]? := hf 0 _ rfl
 have h1 : DataW.trod enc' Tryz.prog w 0 (fun _ => true) held n 24 ((cs.drop 1).take (Tryz.prog.cellsOf 24)) = xs[1]? := hf 1 _ rfl
 rw [List.getElem?_eq_getElem (by omega)] at h0 h1
 simp only [cells3, cells24] at h0 h1
 obtain ⟨a, b, c, d, rfl⟩ := four hlen
 simp only [List.drop_zero, List.take_succ_cons, List.take_zero, List.drop_succ_cons] at h0 h1
 obtain ⟨k, e0, -⟩ := DataW.trod_int Tryz.underlying3 h0
 obtain ⟨t, ht⟩ := read_ty _ _ _ h1
 simp only [List.cons.injEq, and_true] at e0
 subst e0
 obtain ⟨tk, tn, tb, tl⟩ := t
 exact ⟨(k, .mk tk tn tb tl), .cons _ _ _ _ (.int _ _) ht⟩
theorem arg_binds {base : Nat} {v : Value} {d : DataW H} {ps : List MemPlace} (hv : Value.okWide Tryz.prog w .any base 27 v) (h : DataW.Trod enc' Tryz.prog w 0 (fun _ => true) true 27 v d ps) :
  ∃ (b : Bool) (l : List (Int × Ty)), VRel (memSh w) (.isl b none 0 (encB l)) v ∧ l.length ≤ maxLen := by
 obtain ⟨fuel, h⟩ := h
 obtain ⟨b, xs, hx, -, hrel, hlen⟩ := read_sliceB Tryz.underlying27 (by rw [cells58]; omega) (R := fun v => ∃ x, v = bindD x) (fun n' cs' x' hlt h' => by
  obtain ⟨y, hy⟩ := read_bind n' cs' x' h'
  exact ⟨bindD y, ⟨y, rfl⟩, by rw [cells58]; rfl, hy⟩) h
 obtain ⟨l, rfl⟩ := encB_of hx
 refine ⟨b, l, ?_, by simpa [encB] using hlen⟩
 have key : ∀ {cs : List Value}, LRel (memSh w) [.isl b none 0 (encB l)] cs → ∃ u, cs = [u] ∧ VRel (memSh w) (.isl b none 0 (encB l)) u := by
  intro cs hc
  cases hc with
  | cons _ _ u _ hu hn => cases hn; exact ⟨u, rfl, hu⟩
 obtain ⟨u, hu, hr⟩ := key hrel
 cases v with
 | agg cs =>
  unfold Value.okWide at hv
  rw [Tryz.underlying27] at hv
  simp [Cell.okWide, Tryz.underlying27, Cell.ok] at hv
 | _ => simp [Value.cells] at hu; subst hu; exact hr
end Go.Proofs.YtnmolpkkemljoaaGreatDoor
end
end
section
namespace Go.Proofs.YtnmolpkkemljoaaGreatDoor
open Go.ChangeShapes Go.WideShapes Go.ChangeAt Go.RowKit
theorem own : ownKnob Tryz.prog.godebug = none := by kernel_rfl
def cellsOf {H : Type} : DataW H → Array Value
 | .agg l => (l.map fun | .lit (.int k n) => Value.int k n | _ => undef).toArray
 | _ => #[]
def wordOf {H : Type} : DataW H → Array Value
 | .iface _ (.ptr (.agg [.lit (.string l)])) => #[.string ⟨l.toArray⟩]
 | _ => #[]
noncomputable def laidWorld (os : Os) : World :=
 let N := (World.settled Tryz.prog os).heap.size
 let w0 := World.holding Tryz.prog os ⟨#[.cells (wordOf (Rows.laid_strconv_ErrSyntax (H := Unit))) 203, .cells (wordOf (Rows.laid_strconv_ErrRange (H := Unit))) 203], #[], []⟩
 let put (h : Array Obj) (g : Nat) (cs : Array Value) : Array Obj := h.modify g fun
  | .cells _ t frozen => .cells cs t frozen
  | o => o
 let h0 := put (put w0.heap 1 #[.iface 201 (.pointer (some ⟨N, 0, none⟩))]) 2 #[.iface 201 (.pointer (some ⟨N + 1, 0, none⟩))]
 let h1 := put h0 0 (cellsOf (Rows.laid_internal_strconv_uint64pow10 (H := Unit)))
 let h2 := put h1 3 (cellsOf (Rows.laid_math_bits_deBruijn32tab (H := Unit)))
 let h3 := put h2 4 (cellsOf (Rows.laid_math_bits_deBruijn64tab (H := Unit)))
 { w0 with heap := h3 }
theorem laid_met (os : Os) (args : Array Value) : laidMet Tryz.prog Rows.kindNamesRow.laid ((laidWorld os).forCall (fun _ _ => 0) ⟨#[], args, []⟩).memory :=
 laidMet_of_run' 8 (by kernel_rfl) (by kernel_rfl)
end Go.Proofs.YtnmolpkkemljoaaGreatDoor
end
section
noncomputable section
namespace Go.Proofs.YtnmolpkkemljoaaGreatDoor
open Go Go.Am Go.RowKit Go.ChangeShapes Go.WideShapes Go.ChangeAt
theorem pow10_tab {W : World} (h : laidMet Tryz.prog Rows.kindNamesRow.laid W) : Lib.TabIs Tryz.prog W "internal/strconv.uint64pow10" .u64 Lib.pow10Tab := by
 obtain ⟨g, t, cs, fuel, p, hg, ht, hv, hd⟩ := Lib.laidMet.reads h (.tail _ (.tail _ (.head _)))
 obtain rfl := Option.some.inj ((show Tryz.prog.globalNamed "internal/strconv.uint64pow10" = some 0 by kernel_rfl).symm.trans hg)
 obtain rfl := Option.some.inj ((show (Tryz.prog.globals[0]?).map (·.type) = some 190 by kernel_rfl).symm.trans ht)
 unfold Lib.TabIs
 have e := Lib.cells_of_tab (k := .u64) (zs := Lib.pow10Tab) (n := 20) (e := 166) (by kernel_rfl) (by kernel_rfl) (by kernel_rfl) (by kernel_rfl) hd
 rw [hv, ← e]
theorem gT_met {W : World} (h : laidMet Tryz.prog Rows.kindNamesRow.laid W) : ∀ g o x, gT g o = some x → ∃ v, W.cell? ⟨g, o, none⟩ = some v ∧ ∀ S : Sh, VRel S x v := by
 intro g o x hx
 unfold gT at hx
 split at hx
 ·rename_i hg
  simp only [beq_iff_eq] at hg
  subst hg
  split at hx
  ·rename_i n hn
   cases hx
   rw [nthR_eq] at hn
   have ho : o < 20 := by
    have := (List.getElem?_eq_some_iff.1 hn).1
    simpa [pow10] using this
   have hc := (pow10_tab h).cell (show Tryz.prog.globalNamed "internal/strconv.uint64pow10" = some 0 by kernel_rfl) o (by rw [Lib.pow10Tab_length]; exact ho)
   rw [Lib.pow10Tab_at o ho] at hc
   have : n = 10 ^ o := by
    have key : ∀ i : Nat, i < 20 → pow10[i]? = some (10 ^ i) := by decide
    rw [key o ho] at hn
    exact (Option.some.inj hn).symm
   subst this
   exact ⟨_, hc, fun S => .int _ _⟩
  ·cases hx
 ·cases hx
end Go.Proofs.YtnmolpkkemljoaaGreatDoor
end
end