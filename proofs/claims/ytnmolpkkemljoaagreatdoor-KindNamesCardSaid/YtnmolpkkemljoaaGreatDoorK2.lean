/-
  Closed runs, one lemma each. Conditions: none.
-/
import Derived.Test.YtnmolpkkemljoaaGreatDoorK0
import Derived.Test.YtnmolpkkemljoaaGreatDoorAm34
namespace Go.Proofs.YtnmolpkkemljoaaGreatDoor
open Go Go.Am
theorem c0 : PCall Tryz.prog g0 109 [.agg [.int .i64 1, .int .i64 0, .isl true none 0 []], .int .i64 12] [.returned (.int .i64 1)] := pRun_ok hmix (Orc.table_ok Orc.tabNil) (pu := pu0) (mu := mu0) (n := 1000) (by kernel_rfl)
def a0 : AV := .agg [.int .i64 0, .str [117, 110, 105, 116], .str [], .str [], .int .i64 0, .fn (.func 116) [] [], .int .i64 0, .str [105, 110, 116], .str [], .str [], .int .i64 1, .fn (.func 116) [] [], .int .i64 2, .str [40], .str [32, 42, 32], .str [41], .int .i64 0, .fn (.func 116) [] [], .int .i64 2, .str [40], .str [32, 43, 32], .str [41], .int .i64 1, .fn (.func 116) [] [], .int .i64 1, .str [91], .str [], .str [93], .int .i64 2, .fn (.func 117) [] [], .int .i64 2, .str [40], .str [32, 45, 62, 32], .str [41], .int .i64 0, .fn (.func 116) [] [], .int .i64 0, .str [39], .str [], .str [], .int .i64 0, .fn (.func 116) [] []]
theorem c1 : PCall Tryz.prog g0 81 [] [.returned a0] := pRun_ok hmix (Orc.table_ok Orc.tabNil) (pu := pu0) (mu := mu0) (n := 1000) (by kernel_rfl)
theorem c2 : PCall Tryz.prog g0 76 [.agg [.int .i64 1, .int .i64 0, .isl true none 0 []]] [.returned (.bool true)] := pRun_ok hmix (Orc.table_ok (Orc.tabCons c0 (Orc.tabCons c1 Orc.tabNil))) (pu := pu0) (mu := mu0) (n := 1000) (by kernel_rfl)
theorem c3 : PCall Tryz.prog g0 76 [.agg [.int .i64 0, .int .i64 0, .isl true none 0 []]] [.returned (.bool true)] := pRun_ok hmix (Orc.table_ok (Orc.tabCons c1 Orc.tabNil)) (pu := pu0) (mu := mu0) (n := 1000) (by kernel_rfl)
def a1 : AV := .agg [.int .i64 4, .int .i64 0, .isl false none 0 [.agg [.int .i64 6, .int .i64 1, .isl true none 0 []]]]
def a2 : AV := .isl false none 0 [.agg [.int .i64 6, .int .i64 0, .isl true none 0 []], a1]
theorem c4 : PCall Tryz.prog g0 109 [.agg [.int .i64 2, .int .i64 0, a2], .int .i64 12] [.returned (.int .i64 3)] := pRun_ok hmix (Orc.table_ok Orc.tabNil) (pu := pu0) (mu := mu0) (n := 1000) (by kernel_rfl)
theorem c5 : PCall Tryz.prog g0 76 [.agg [.int .i64 2, .int .i64 0, a2]] [.returned (.bool true)] := pRun_ok hmix (Orc.table_ok (Orc.tabCons c4 (Orc.tabCons c1 Orc.tabNil))) (pu := pu0) (mu := mu0) (n := 1000) (by kernel_rfl)
def a3 : AV := .isl false none 0 [.agg [.int .i64 1, .int .i64 0, .isl true none 0 []], .agg [.int .i64 0, .int .i64 0, .isl true none 0 []]]
theorem c6 : PCall Tryz.prog g0 109 [.agg [.int .i64 3, .int .i64 0, a3], .int .i64 11] [.returned (.int .i64 2)] := pRun_ok hmix (Orc.table_ok Orc.tabNil) (pu := pu0) (mu := mu0) (n := 1000) (by kernel_rfl)
def a4 : AV := .agg [.int .i64 4, .int .i64 0, .isl false none 0 [.agg [.int .i64 1, .int .i64 0, .isl true none 0 []]]]
theorem c7 : PCall Tryz.prog g0 109 [.agg [.int .i64 4, .int .i64 0, .isl false none 0 [a4]], .int .i64 11] [.returned (.int .i64 3)] := pRun_ok hmix (Orc.table_ok Orc.tabNil) (pu := pu0) (mu := mu0) (n := 1000) (by kernel_rfl)
def a5 : AV := .isl false none 0 [.agg [.int .i64 3, .int .i64 0, a3], .agg [.int .i64 4, .int .i64 0, .isl false none 0 [a4]]]
theorem c8 : PCall Tryz.prog g0 76 [.agg [.int .i64 2, .int .i64 0, a5]] [.returned (.bool true)] := pRun_ok hmix (Orc.table_ok (Orc.tabCons c6 (Orc.tabCons c7 (Orc.tabCons c1 Orc.tabNil)))) (pu := pu0) (mu := mu0) (n := 1000) (by kernel_rfl)
def a6 : AV := .isl false none 0 [.agg [.int .i64 6, .int .i64 2, .isl true none 0 []], .agg [.int .i64 6, .int .i64 5, .isl true none 0 []]]
def a7 : AV := .isl false none 0 [.agg [.int .i64 6, .int .i64 5, .isl true none 0 []], .agg [.int .i64 5, .int .i64 0, a6]]
theorem c9 : PCall Tryz.prog g0 76 [.agg [.int .i64 5, .int .i64 0, a7]] [.returned (.bool true)] := pRun_ok hmix (Orc.table_ok (Orc.tabCons c1 Orc.tabNil)) (pu := pu0) (mu := mu0) (n := 1000) (by kernel_rfl)
theorem c10 : PCall Tryz.prog g0 68 [.agg [.int .i64 6, .int .i64 2, .isl true none 0 []]] [.returned (.agg [.int .i64 6, .int .i64 2, .isl true none 0 []])] := pRun_ok hmix (Orc.table_ok Orc.tabNil) (pu := pu0) (mu := mu0) (n := 1000) (by kernel_rfl)
theorem c11 : PCall Tryz.prog g0 68 [.agg [.int .i64 6, .int .i64 0, .isl true none 0 []]] [.returned (.agg [.int .i64 6, .int .i64 0, .isl true none 0 []])] := pRun_ok hmix (Orc.table_ok Orc.tabNil) (pu := pu0) (mu := mu0) (n := 1000) (by kernel_rfl)
theorem c12 : PCall Tryz.prog g0 68 [.agg [.int .i64 6, .int .i64 1, .isl true none 0 []]] [.returned (.agg [.int .i64 6, .int .i64 1, .isl true none 0 []])] := pRun_ok hmix (Orc.table_ok Orc.tabNil) (pu := pu0) (mu := mu0) (n := 1000) (by kernel_rfl)
def a8 : AV := .isl false none 0 [.agg [.int .i64 6, .int .i64 1, .isl true none 0 []], .agg [.int .i64 6, .int .i64 0, .isl true none 0 []]]
def a9 : AV := .isl false none 0 [.agg [.int .i64 6, .int .i64 0, .isl true none 0 []], .agg [.int .i64 5, .int .i64 0, a8]]
def a10 : AV := .tup [.agg [.int .i64 5, .int .i64 0, a9], .int .i64 0]
theorem c13 : PCall Tryz.prog g0 38 [.agg [.int .i64 5, .int .i64 0, a7]] [.returned a10] := pRun_ok hmix (Orc.table_ok (Orc.tabCons c9 (Orc.tabCons c10 (Orc.tabCons c11 (Orc.tabCons c12 (Orc.tabCons c1 Orc.tabNil)))))) (pu := pu0) (mu := mu0) (n := 1000) (by kernel_rfl)
def a11 : AV := .isl false none 0 [.agg [.int .i64 6, .int .i64 0, .isl true none 0 []], .agg [.int .i64 6, .int .i64 1, .isl true none 0 []]]
theorem c14 : PCall Tryz.prog g0 76 [.agg [.int .i64 2, .int .i64 0, a11]] [.returned (.bool true)] := pRun_ok hmix (Orc.table_ok (Orc.tabCons c1 Orc.tabNil)) (pu := pu0) (mu := mu0) (n := 1000) (by kernel_rfl)
def a12 : AV := .agg [.int .i64 4, .int .i64 0, .isl false none 0 [.agg [.int .i64 6, .int .i64 0, .isl true none 0 []]]]
theorem c15 : PCall Tryz.prog g0 76 [a12] [.returned (.bool true)] := pRun_ok hmix (Orc.table_ok (Orc.tabCons c1 Orc.tabNil)) (pu := pu0) (mu := mu0) (n := 1000) (by kernel_rfl)
theorem c16 : PCall Tryz.prog g0 68 [.agg [.int .i64 4, .int .i64 0, .isl true none 0 []]] [.returned (.agg [.int .i64 4, .int .i64 0, .isl true none 0 []])] := pRun_ok hmix (Orc.table_ok Orc.tabNil) (pu := pu0) (mu := mu0) (n := 1000) (by kernel_rfl)
theorem c17 : PCall Tryz.prog g0 138 [.int .u64 2] [.returned (.int .i64 2)] := pRun_ok hmix (Orc.table_ok Orc.tabNil) (pu := pu0) (mu := mu0) (n := 1000) (by kernel_rfl)
theorem c18 : PCall Tryz.prog g0 124 [.int .u64 2] [.returned (.int .i64 2)] := pRun_ok hmix (Orc.table_ok (Orc.tabCons c17 Orc.tabNil)) (pu := pu0) (mu := mu0) (n := 1000) (by kernel_rfl)
def a13 : AV := .agg [.int .i64 4, .int .i64 0, .isl false none 0 [.agg [.int .i64 6, .int .i64 2, .isl true none 0 []]]]
def a14 : AV := .isl false none 0 [a13, .agg [.int .i64 6, .int .i64 3, .isl true none 0 []]]
def a15 : AV := .agg [.int .i64 0, .int .i64 4, .int .i64 0, .isl false none 0 [.agg [.int .i64 6, .int .i64 2, .isl true none 0 []]]]
def a16 : AV := .agg [.int .i64 3, .int .i64 4, .int .i64 0, .isl false none 0 [.agg [.int .i64 6, .int .i64 1, .isl true none 0 []]]]
theorem c19 : PCall Tryz.prog g0 16 [.agg [.int .i64 2, .int .i64 0, a2], .agg [.int .i64 2, .int .i64 0, a14]] [.returned (.tup [.isl false none 0 [a15, a16], .int .i64 0])] := pRun_ok hmix (Orc.table_ok (Orc.tabCons c5 (Orc.tabCons c1 (Orc.tabCons c16 (Orc.tabCons c10 (Orc.tabCons c12 (Orc.tabCons c18 Orc.tabNil))))))) (pu := pu0) (mu := mu0) (n := 1000) (by kernel_rfl)
def a17 : AV := .isl false none 0 [.agg [.int .i64 6, .int .i64 1, .isl true none 0 []], .agg [.int .i64 6, .int .i64 2, .isl true none 0 []]]
def a18 : AV := .isl false none 0 [.agg [.int .i64 1, .int .i64 6, .int .i64 0, .isl true none 0 []], .agg [.int .i64 2, .int .i64 6, .int .i64 0, .isl true none 0 []]]
theorem c20 : PCall Tryz.prog g0 16 [.agg [.int .i64 2, .int .i64 0, a11], .agg [.int .i64 2, .int .i64 0, a17]] [.returned (.tup [a18, .int .i64 0])] := pRun_ok hmix (Orc.table_ok (Orc.tabCons c14 (Orc.tabCons c1 (Orc.tabCons c11 (Orc.tabCons c18 Orc.tabNil))))) (pu := pu0) (mu := mu0) (n := 1000) (by kernel_rfl)
def a19 : AV := .isl false none 0 [.agg [.int .i64 1, .int .i64 0, .isl true none 0 []], a4]
def a20 : AV := .agg [.int .i64 4, .int .i64 0, .isl false none 0 [.agg [.int .i64 0, .int .i64 0, .isl true none 0 []]]]
def a21 : AV := .isl false none 0 [.agg [.int .i64 0, .int .i64 0, .isl true none 0 []], a20]
def a22 : AV := .isl false none 0 [.agg [.int .i64 2, .int .i64 0, a19], .agg [.int .i64 2, .int .i64 0, a21]]
theorem c21 : PCall Tryz.prog g0 53 [a22] [.returned (.tup [])] := pRun_ok hmix (Orc.table_ok (Orc.tabCons c1 Orc.tabNil)) (pu := pu0) (mu := mu0) (n := 1000) (by kernel_rfl)
def a23 : AV := .str [40, 39, 48, 32, 42, 32, 91, 39, 49, 93, 41]
def a24 : AV := .tup [.agg [.int .i64 2, .int .i64 0, a2], .int .i64 0]
theorem c22 : PCall Tryz.prog g0 24 [a23] [.returned a24] := pRun_ok hmix (Orc.table_ok (Orc.tabCons c1 (Orc.tabCons c5 Orc.tabNil))) (pu := pu0) (mu := mu0) (n := 1000) (by kernel_rfl)
theorem c23 : PCall Tryz.prog g0 76 [.agg [.int .i64 3, .int .i64 0, a3]] [.returned (.bool true)] := pRun_ok hmix (Orc.table_ok (Orc.tabCons c1 Orc.tabNil)) (pu := pu0) (mu := mu0) (n := 1000) (by kernel_rfl)
theorem c24 : PCall Tryz.prog g0 28 [.agg [.int .i64 3, .int .i64 0, a3]] [.returned (.bool true)] := pRun_ok hmix (Orc.table_ok (Orc.tabCons c23 Orc.tabNil)) (pu := pu0) (mu := mu0) (n := 1000) (by kernel_rfl)
theorem c25 : PCall Tryz.prog g0 28 [.agg [.int .i64 1, .int .i64 0, .isl true none 0 []]] [.returned (.bool true)] := pRun_ok hmix (Orc.table_ok (Orc.tabCons c2 Orc.tabNil)) (pu := pu0) (mu := mu0) (n := 1000) (by kernel_rfl)
theorem c26 : PCall Tryz.prog g0 30 [.agg [.int .i64 1, .int .i64 0, .isl true none 0 []]] [.returned (.int .i64 1)] := pRun_ok hmix (Orc.table_ok (Orc.tabCons c25 (Orc.tabCons c1 Orc.tabNil))) (pu := pu0) (mu := mu0) (n := 1000) (by kernel_rfl)
theorem c27 : PCall Tryz.prog g0 31 [.agg [.int .i64 1, .int .i64 0, .isl true none 0 []]] [.returned (.int .i64 0)] := pRun_ok hmix (Orc.table_ok (Orc.tabCons c25 (Orc.tabCons c1 Orc.tabNil))) (pu := pu0) (mu := mu0) (n := 1000) (by kernel_rfl)
theorem c28 : PCall Tryz.prog g0 31 [.agg [.int .i64 0, .int .i64 0, .isl true none 0 []]] [.returned (.int .i64 0)] := pRun_ok hmix (Orc.table_ok (Orc.tabCons c3 (Orc.tabCons c1 Orc.tabNil))) (pu := pu0) (mu := mu0) (n := 1000) (by kernel_rfl)
theorem c29 : PCall Tryz.prog g0 76 [.agg [.int .i64 4, .int .i64 0, .isl false none 0 [a4]]] [.returned (.bool true)] := pRun_ok hmix (Orc.table_ok (Orc.tabCons c1 Orc.tabNil)) (pu := pu0) (mu := mu0) (n := 1000) (by kernel_rfl)
theorem c30 : PCall Tryz.prog g0 28 [.agg [.int .i64 4, .int .i64 0, .isl false none 0 [a4]]] [.returned (.bool true)] := pRun_ok hmix (Orc.table_ok (Orc.tabCons c29 Orc.tabNil)) (pu := pu0) (mu := mu0) (n := 1000) (by kernel_rfl)
theorem c31 : PCall Tryz.prog g0 109 [a4, .int .i64 12] [.returned (.int .i64 2)] := pRun_ok hmix (Orc.table_ok Orc.tabNil) (pu := pu0) (mu := mu0) (n := 1000) (by kernel_rfl)
theorem c32 : PCall Tryz.prog g0 76 [a4] [.returned (.bool true)] := pRun_ok hmix (Orc.table_ok (Orc.tabCons c31 (Orc.tabCons c1 Orc.tabNil))) (pu := pu0) (mu := mu0) (n := 1000) (by kernel_rfl)
theorem c33 : PCall Tryz.prog g0 28 [a4] [.returned (.bool true)] := pRun_ok hmix (Orc.table_ok (Orc.tabCons c32 Orc.tabNil)) (pu := pu0) (mu := mu0) (n := 1000) (by kernel_rfl)
theorem c34 : PCall Tryz.prog g0 15 [] [.returned (.bool true)] := pRun_ok hmix (Orc.table_ok (Orc.tabCons c19 (Orc.tabCons c20 (Orc.tabCons c1 (Orc.tabCons c15 (Orc.tabCons c5 (Orc.tabCons c8 (Orc.tabCons c18 (Orc.tabCons c21 (Orc.tabCons c22 (Orc.tabCons c24 (Orc.tabCons c26 (Orc.tabCons c27 (Orc.tabCons c3 (Orc.tabCons c28 (Orc.tabCons c30 (Orc.tabCons c33 Orc.tabNil))))))))))))))))) (pu := pu0) (mu := mu0) (n := 1000) (by kernel_rfl)
theorem cTop : PCall Tryz.prog g0 11 [] [.returned (.bool true)] := pRun_ok hmix (Orc.table_ok (Orc.tabCons c2 (Orc.tabCons c3 (Orc.tabCons c1 (Orc.tabCons c5 (Orc.tabCons c8 (Orc.tabCons c13 (Orc.tabCons c9 (Orc.tabCons c14 (Orc.tabCons c15 (Orc.tabCons c11 (Orc.tabCons c12 (Orc.tabCons c34 Orc.tabNil))))))))))))) (pu := pu0) (mu := mu0) (n := 1000) (by kernel_rfl)

end Go.Proofs.YtnmolpkkemljoaaGreatDoor
