/-
  Closed runs, one lemma each. Conditions: none.
-/
import Derived.Test.YthoenpmifmomaaaGreatDoorKC0
import Derived.Test.YthoenpmifmomaaaGreatDoorAm34
namespace Go.Proofs.YthoenpmifmomaaaGreatDoor
open Go Go.Am
def a0 : AV := .agg [.int .i64 1, .int .i64 1, .int .i64 1, .fn (.func 199) [] [], .fn (.func 200) [] [], .int .i64 2, .int .i64 2, .int .i64 1, .fn (.func 198) [] [], .fn (.func 258) [] [.iptr (.fn (.func 203) [] [])], .int .i64 3, .int .i64 3, .int .i64 1, .fn (.func 204) [] [], .fn (.func 261) [] [.iptr (.fn (.func 206) [] [])], .int .i64 2, .int .i64 2, .int .i64 1, .fn (.func 204) [] [], .fn (.func 265) [] [.iptr (.fn (.func 208) [] [])], .int .i64 3, .int .i64 3, .int .i64 1, .fn (.func 204) [] [], .fn (.func 261) [] [.iptr (.fn (.func 209) [] [])], .int .i64 2, .int .i64 2, .int .i64 1, .fn (.func 204) [] [], .fn (.func 265) [] [.iptr (.fn (.func 210) [] [])], .int .i64 2, .int .i64 2, .int .i64 1, .fn (.func 204) [] [], .fn (.func 265) [] [.iptr (.fn (.func 211) [] [])], .int .i64 1, .int .i64 1, .int .i64 1, .fn (.func 204) [] [], .fn (.func 268) [] [.iptr (.fn (.func 213) [] [])], .int .i64 2, .int .i64 2, .int .i64 1, .fn (.func 204) [] [], .fn (.func 265) [] [.iptr (.fn (.func 214) [] [])], .int .i64 2, .int .i64 2, .int .i64 1, .fn (.func 215) [] [], .fn (.func 258) [] [.iptr (.fn (.func 216) [] [])], .int .i64 2, .int .i64 2, .int .i64 1, .fn (.func 215) [] [], .fn (.func 258) [] [.iptr (.fn (.func 217) [] [])], .int .i64 2, .int .i64 2, .int .i64 1, .fn (.func 204) [] [], .fn (.func 265) [] [.iptr (.fn (.func 218) [] [])], .int .i64 2, .int .i64 2, .int .i64 1, .fn (.func 204) [] [], .fn (.func 265) [] [.iptr (.fn (.func 219) [] [])], .int .i64 1, .int .i64 1, .int .i64 1, .fn (.func 204) [] [], .fn (.func 268) [] [.iptr (.fn (.func 220) [] [])], .int .i64 1, .int .i64 100, .int .i64 1, .fn (.func 204) [] [], .fn (.func 221) [] [], .int .i64 1, .int .i64 1, .int .i64 0, .fn (.func 204) [] [], .fn (.func 223) [] [], .int .i64 1, .int .i64 100, .int .i64 (-1), .fn (.func 204) [] [], .nilf, .int .i64 1, .int .i64 100, .int .i64 (-1), .fn (.func 204) [] [], .nilf]
theorem c0 : PCall Tryz.prog gS 149 [] [.returned a0] := pRun_ok hmix (Orc.table_ok Orc.tabNil) (pu := pu0) (mu := mu0) (n := 1000) (by kernel_rfl)
theorem c1 : PCall Tryz.prog gS 106 [.int .i64 2, .int .i64 2, .int .i64 2] [.returned (.bool true)] := pRun_ok hmix (Orc.table_ok Orc.tabNil) (pu := pu0) (mu := mu0) (n := 1000) (by kernel_rfl)
def a1 : AV := .isl false none 0 [.isl false none 0 [.int .i64 0, .int .i64 1], .isl false none 0 [.int .i64 2]]
theorem c2 : PCall Tryz.prog gS 143 [a1] [.returned (.isl false none 0 [.int .i64 0, .int .i64 1, .int .i64 2])] := pRun_ok hmix (Orc.table_ok Orc.tabNil) (pu := pu0) (mu := mu0) (n := 1000) (by kernel_rfl)
theorem c3 : PCall Tryz.prog gS 106 [.int .i64 0, .int .i64 0, .int .i64 3999] [.returned (.bool true)] := pRun_ok hmix (Orc.table_ok Orc.tabNil) (pu := pu0) (mu := mu0) (n := 1000) (by kernel_rfl)
theorem c4 : PCall Tryz.prog gS 106 [.int .i64 1, .int .i64 0, .int .i64 3999] [.returned (.bool true)] := pRun_ok hmix (Orc.table_ok Orc.tabNil) (pu := pu0) (mu := mu0) (n := 1000) (by kernel_rfl)
theorem c5 : PCall Tryz.prog gS 106 [.int .i64 2, .int .i64 0, .int .i64 3999] [.returned (.bool true)] := pRun_ok hmix (Orc.table_ok Orc.tabNil) (pu := pu0) (mu := mu0) (n := 1000) (by kernel_rfl)
def a2 : AV := .agg [.int .i64 1, .int .i64 0, .isl false none 0 [.int .i64 2], .isl false none 0 [.int .i64 0, .int .i64 1], .isl true none 0 []]
theorem c6 : PCall Tryz.prog gS 107 [a2] [.returned (.bool true)] := pRun_ok hmix (Orc.table_ok (Orc.tabCons c0 (Orc.tabCons c1 (Orc.tabCons c2 (Orc.tabCons c3 (Orc.tabCons c4 (Orc.tabCons c5 Orc.tabNil))))))) (pu := pu0) (mu := mu0) (n := 1000) (by kernel_rfl)
theorem c7 : PCall Tryz.prog gS 150 [.int .i64 3] [.returned (.bool true)] := pRun_ok hmix (Orc.table_ok Orc.tabNil) (pu := pu0) (mu := mu0) (n := 1000) (by kernel_rfl)
def a3 : AV := .agg [.int .i64 13, .int .i64 0, .isl false none 0 [.int .i64 3], .isl false none 0 [.int .i64 2], .isl true none 0 []]
theorem c8 : PCall Tryz.prog gS 107 [a3] [.returned (.bool true)] := pRun_ok hmix (Orc.table_ok (Orc.tabCons c0 (Orc.tabCons c5 (Orc.tabCons c7 Orc.tabNil)))) (pu := pu0) (mu := mu0) (n := 1000) (by kernel_rfl)
def a4 : AV := .agg [.int .i64 9, .int .i64 0, .isl false none 0 [.int .i64 4], .isl false none 0 [.int .i64 2, .int .i64 3], .isl true none 0 []]
theorem c9 : PCall Tryz.prog gS 107 [a4] [.returned (.bool true)] := pRun_ok hmix (Orc.table_ok (Orc.tabCons c0 (Orc.tabCons c1 (Orc.tabCons c5 (Orc.tabCons c7 Orc.tabNil))))) (pu := pu0) (mu := mu0) (n := 1000) (by kernel_rfl)
def a5 : AV := .agg [.int .i64 3, .int .i64 0, .isl false none 0 [.int .i64 5], .isl false none 0 [.int .i64 1, .int .i64 2], .isl true none 0 []]
theorem c10 : PCall Tryz.prog gS 107 [a5] [.returned (.bool true)] := pRun_ok hmix (Orc.table_ok (Orc.tabCons c0 (Orc.tabCons c1 (Orc.tabCons c4 (Orc.tabCons c5 Orc.tabNil))))) (pu := pu0) (mu := mu0) (n := 1000) (by kernel_rfl)
def a6 : AV := .agg [.int .i64 16, .int .i64 1, .isl false none 0 [.int .i64 6], .isl false none 0 [.int .i64 5], .isl true none 0 []]
theorem c11 : PCall Tryz.prog gS 107 [a6] [.returned (.bool true)] := pRun_ok hmix (Orc.table_ok (Orc.tabCons c0 Orc.tabNil)) (pu := pu0) (mu := mu0) (n := 1000) (by kernel_rfl)
def a7 : AV := .isl false none 0 [a2, a3, a4, a5, a6]
def a8 : AV := .agg [.int .i64 2, a7, .isl false none 0 [.int .i64 4, .int .i64 6], .isl true none 0 []]
def a9 : AV := .agg [.int .i64 1, .int .i64 2, .isl false none 0 [.int .i64 1], .isl false none 0 [.int .i64 0, .int .i64 0], .isl true none 0 []]
def a10 : AV := .agg [.int .i64 1, .isl false none 0 [a9], .isl false none 0 [.int .i64 1], .isl true none 0 []]
theorem c12 : PCall Tryz.prog gS 108 [.agg [.isl false none 0 [a8, a10], .int .i64 0], a6] [.returned (.bool true)] := pRun_ok hmix (Orc.table_ok Orc.tabNil) (pu := pu0) (mu := mu0) (n := 1000) (by kernel_rfl)
theorem c13 : PCall Tryz.prog gS 109 [.int .i64 2, a7, .isl false none 0 [.int .i64 4, .int .i64 6]] [.returned (.bool true)] := pRun_ok hmix (Orc.table_ok Orc.tabNil) (pu := pu0) (mu := mu0) (n := 1000) (by kernel_rfl)
theorem c14 : PCall Tryz.prog gS 107 [a9] [.returned (.bool true)] := pRun_ok hmix (Orc.table_ok (Orc.tabCons c0 (Orc.tabCons c1 (Orc.tabCons c3 (Orc.tabCons c4 Orc.tabNil))))) (pu := pu0) (mu := mu0) (n := 1000) (by kernel_rfl)
theorem c15 : PCall Tryz.prog gS 109 [.int .i64 1, .isl false none 0 [a9], .isl false none 0 [.int .i64 1]] [.returned (.bool true)] := pRun_ok hmix (Orc.table_ok Orc.tabNil) (pu := pu0) (mu := mu0) (n := 1000) (by kernel_rfl)
theorem c16 : PCall Tryz.prog gS 46 [.agg [.isl false none 0 [a8, a10], .int .i64 0]] [.returned (.int .i64 0)] := pRun_ok hmix (Orc.table_ok (Orc.tabCons c6 (Orc.tabCons c8 (Orc.tabCons c9 (Orc.tabCons c10 (Orc.tabCons c11 (Orc.tabCons c12 (Orc.tabCons c13 (Orc.tabCons c14 (Orc.tabCons c15 Orc.tabNil)))))))))) (pu := pu0) (mu := mu0) (n := 1000) (by kernel_rfl)
def a11 : AV := .isl false none 0 [.int .i64 0, .int .i64 0, .int .i64 0, .int .i64 3, .int .i64 3, .int .i64 5, .int .i64 6]
theorem c17 : PCall Tryz.prog gS 33 [.agg [.isl false none 0 [a8, a10], .int .i64 0], .int .i64 0] [.returned (.tup [a11, .int .i64 0])] := pRun_ok hmix (Orc.table_ok (Orc.tabCons c16 (Orc.tabCons c2 Orc.tabNil))) (pu := pu0) (mu := mu0) (n := 1000) (by kernel_rfl)
theorem c18 : PCall Tryz.prog gS 143 [.isl false none 0 [.isl false none 0 [.int .i64 0], .isl false none 0 [.int .i64 2]]] [.returned (.isl false none 0 [.int .i64 0, .int .i64 2])] := pRun_ok hmix (Orc.table_ok Orc.tabNil) (pu := pu0) (mu := mu0) (n := 1000) (by kernel_rfl)
def a12 : AV := .agg [.int .i64 0, .int .i64 3, .isl false none 0 [.int .i64 2], .isl false none 0 [.int .i64 0], .isl true none 0 []]
theorem c19 : PCall Tryz.prog gS 107 [a12] [.returned (.bool true)] := pRun_ok hmix (Orc.table_ok (Orc.tabCons c0 (Orc.tabCons c18 (Orc.tabCons c3 (Orc.tabCons c5 Orc.tabNil))))) (pu := pu0) (mu := mu0) (n := 1000) (by kernel_rfl)
def a13 : AV := .isl false none 0 [.isl false none 0 [.int .i64 0, .int .i64 2], .isl false none 0 [.int .i64 3]]
theorem c20 : PCall Tryz.prog gS 143 [a13] [.returned (.isl false none 0 [.int .i64 0, .int .i64 2, .int .i64 3])] := pRun_ok hmix (Orc.table_ok Orc.tabNil) (pu := pu0) (mu := mu0) (n := 1000) (by kernel_rfl)
def a14 : AV := .agg [.int .i64 1, .int .i64 5, .isl false none 0 [.int .i64 3], .isl false none 0 [.int .i64 0, .int .i64 2], .isl true none 0 []]
theorem c21 : PCall Tryz.prog gS 107 [a14] [.returned (.bool true)] := pRun_ok hmix (Orc.table_ok (Orc.tabCons c0 (Orc.tabCons c1 (Orc.tabCons c20 (Orc.tabCons c3 (Orc.tabCons c5 (Orc.tabCons c7 Orc.tabNil))))))) (pu := pu0) (mu := mu0) (n := 1000) (by kernel_rfl)
def a15 : AV := .isl false none 0 [.isl false none 0 [.int .i64 3, .int .i64 0], .isl false none 0 [.int .i64 4]]
theorem c22 : PCall Tryz.prog gS 143 [a15] [.returned (.isl false none 0 [.int .i64 3, .int .i64 0, .int .i64 4])] := pRun_ok hmix (Orc.table_ok Orc.tabNil) (pu := pu0) (mu := mu0) (n := 1000) (by kernel_rfl)
def a16 : AV := .agg [.int .i64 3, .int .i64 0, .isl false none 0 [.int .i64 4], .isl false none 0 [.int .i64 3, .int .i64 0], .isl true none 0 []]
theorem c23 : PCall Tryz.prog gS 107 [a16] [.returned (.bool true)] := pRun_ok hmix (Orc.table_ok (Orc.tabCons c0 (Orc.tabCons c1 (Orc.tabCons c22 (Orc.tabCons c7 (Orc.tabCons c3 Orc.tabNil)))))) (pu := pu0) (mu := mu0) (n := 1000) (by kernel_rfl)
def a17 : AV := .isl false none 0 [.isl false none 0 [.int .i64 3, .int .i64 2], .isl false none 0 [.int .i64 5]]
theorem c24 : PCall Tryz.prog gS 143 [a17] [.returned (.isl false none 0 [.int .i64 3, .int .i64 2, .int .i64 5])] := pRun_ok hmix (Orc.table_ok Orc.tabNil) (pu := pu0) (mu := mu0) (n := 1000) (by kernel_rfl)
def a18 : AV := .agg [.int .i64 3, .int .i64 0, .isl false none 0 [.int .i64 5], .isl false none 0 [.int .i64 3, .int .i64 2], .isl true none 0 []]
theorem c25 : PCall Tryz.prog gS 107 [a18] [.returned (.bool true)] := pRun_ok hmix (Orc.table_ok (Orc.tabCons c0 (Orc.tabCons c1 (Orc.tabCons c24 (Orc.tabCons c7 (Orc.tabCons c5 Orc.tabNil)))))) (pu := pu0) (mu := mu0) (n := 1000) (by kernel_rfl)
def a19 : AV := .isl false none 0 [.isl false none 0 [.int .i64 4, .int .i64 5], .isl false none 0 [.int .i64 6]]
theorem c26 : PCall Tryz.prog gS 143 [a19] [.returned (.isl false none 0 [.int .i64 4, .int .i64 5, .int .i64 6])] := pRun_ok hmix (Orc.table_ok Orc.tabNil) (pu := pu0) (mu := mu0) (n := 1000) (by kernel_rfl)
def a20 : AV := .agg [.int .i64 1, .int .i64 0, .isl false none 0 [.int .i64 6], .isl false none 0 [.int .i64 4, .int .i64 5], .isl true none 0 []]
theorem c27 : PCall Tryz.prog gS 107 [a20] [.returned (.bool true)] := pRun_ok hmix (Orc.table_ok (Orc.tabCons c0 (Orc.tabCons c1 (Orc.tabCons c26 Orc.tabNil)))) (pu := pu0) (mu := mu0) (n := 1000) (by kernel_rfl)
theorem c28 : PCall Tryz.prog gS 143 [.isl false none 0 [.isl false none 0 [.int .i64 1], .isl false none 0 [.int .i64 7]]] [.returned (.isl false none 0 [.int .i64 1, .int .i64 7])] := pRun_ok hmix (Orc.table_ok Orc.tabNil) (pu := pu0) (mu := mu0) (n := 1000) (by kernel_rfl)
def a21 : AV := .agg [.int .i64 7, .int .i64 0, .isl false none 0 [.int .i64 7], .isl false none 0 [.int .i64 1], .isl true none 0 []]
theorem c29 : PCall Tryz.prog gS 107 [a21] [.returned (.bool true)] := pRun_ok hmix (Orc.table_ok (Orc.tabCons c0 (Orc.tabCons c28 (Orc.tabCons c4 Orc.tabNil)))) (pu := pu0) (mu := mu0) (n := 1000) (by kernel_rfl)
def a22 : AV := .isl false none 0 [.isl false none 0 [.int .i64 1, .int .i64 1], .isl false none 0 [.int .i64 8]]
theorem c30 : PCall Tryz.prog gS 143 [a22] [.returned (.isl false none 0 [.int .i64 1, .int .i64 1, .int .i64 8])] := pRun_ok hmix (Orc.table_ok Orc.tabNil) (pu := pu0) (mu := mu0) (n := 1000) (by kernel_rfl)
def a23 : AV := .agg [.int .i64 8, .int .i64 0, .isl false none 0 [.int .i64 8], .isl false none 0 [.int .i64 1, .int .i64 1], .isl true none 0 []]
theorem c31 : PCall Tryz.prog gS 107 [a23] [.returned (.bool true)] := pRun_ok hmix (Orc.table_ok (Orc.tabCons c0 (Orc.tabCons c1 (Orc.tabCons c30 (Orc.tabCons c4 Orc.tabNil))))) (pu := pu0) (mu := mu0) (n := 1000) (by kernel_rfl)
def a24 : AV := .isl false none 0 [a12, a14, a16, a18, a20, a21, a23]
theorem c32 : PCall Tryz.prog gS 109 [.int .i64 2, a24, .isl false none 0 [.int .i64 6]] [.returned (.bool true)] := pRun_ok hmix (Orc.table_ok Orc.tabNil) (pu := pu0) (mu := mu0) (n := 1000) (by kernel_rfl)
def a25 : AV := .agg [.int .i64 2, a24, .isl false none 0 [.int .i64 6], .isl true none 0 []]
theorem c33 : PCall Tryz.prog gS 46 [.agg [.isl false none 0 [a25], .int .i64 0]] [.returned (.int .i64 0)] := pRun_ok hmix (Orc.table_ok (Orc.tabCons c19 (Orc.tabCons c21 (Orc.tabCons c23 (Orc.tabCons c25 (Orc.tabCons c27 (Orc.tabCons c29 (Orc.tabCons c31 (Orc.tabCons c32 Orc.tabNil))))))))) (pu := pu0) (mu := mu0) (n := 1000) (by kernel_rfl)
theorem c34 : PCall Tryz.prog gS 36 [.agg [.isl false none 0 [a25], .int .i64 0], .int .i64 0, .int .i64 0, .int .i64 1] [.returned (.tup [.bool false, .int .i64 0])] := pRun_ok hmix (Orc.table_ok (Orc.tabCons c33 (Orc.tabCons c20 (Orc.tabCons c26 Orc.tabNil)))) (pu := pu0) (mu := mu0) (n := 1000) (by kernel_rfl)
def a26 : AV := .isl false none 0 [.int .i64 0, .int .i64 1, .int .i64 0, .int .i64 0, .int .i64 4, .int .i64 4, .int .i64 4, .int .i64 7, .int .i64 7]
theorem c35 : PCall Tryz.prog gS 33 [.agg [.isl false none 0 [a25], .int .i64 0], .int .i64 0] [.returned (.tup [a26, .int .i64 0])] := pRun_ok hmix (Orc.table_ok (Orc.tabCons c33 (Orc.tabCons c20 (Orc.tabCons c26 Orc.tabNil)))) (pu := pu0) (mu := mu0) (n := 1000) (by kernel_rfl)
theorem c36 : PCall Tryz.prog gS 36 [.agg [.isl false none 0 [a25], .int .i64 0], .int .i64 0, .int .i64 4, .int .i64 6] [.returned (.tup [.bool true, .int .i64 0])] := pRun_ok hmix (Orc.table_ok (Orc.tabCons c33 (Orc.tabCons c20 (Orc.tabCons c26 Orc.tabNil)))) (pu := pu0) (mu := mu0) (n := 1000) (by kernel_rfl)
def a27 : AV := .isl false none 0 [.agg [.int .i64 (-2147483648), .int .i64 2147483647], .agg [.int .i64 (-2147483648), .int .i64 2147483647], .agg [.int .i64 3, .int .i64 3], .agg [.int .i64 0, .int .i64 1], .agg [.int .i64 (-2147483648), .int .i64 2147483647], .agg [.int .i64 3, .int .i64 3], .agg [.int .i64 (-2147483648), .int .i64 2147483647], .agg [.int .i64 0, .int .i64 2147483646], .agg [.int .i64 (-2147483648), .int .i64 2147483647]]
theorem c37 : PCall Tryz.prog gS 38 [.agg [.isl false none 0 [a25], .int .i64 0], .int .i64 0] [.returned (.tup [a27, .int .i64 0])] := pRun_ok hmix (Orc.table_ok (Orc.tabCons c33 Orc.tabNil)) (pu := pu0) (mu := mu0) (n := 1000) (by kernel_rfl)
theorem c38 : PCall Tryz.prog gS 34 [.agg [.isl false none 0 [a25], .int .i64 0], .int .i64 0] [.returned (.tup [.isl false none 0 [.int .i64 3], .int .i64 0])] := pRun_ok hmix (Orc.table_ok (Orc.tabCons c33 Orc.tabNil)) (pu := pu0) (mu := mu0) (n := 1000) (by kernel_rfl)
def a28 : AV := .tup [.isl false none 0 [.agg [.int .i64 1, .int .i64 7]], .int .i64 0]
theorem c39 : PCall Tryz.prog gS 35 [.agg [.isl false none 0 [a25], .int .i64 0], .int .i64 0] [.returned a28] := pRun_ok hmix (Orc.table_ok (Orc.tabCons c33 (Orc.tabCons c20 (Orc.tabCons c26 Orc.tabNil)))) (pu := pu0) (mu := mu0) (n := 1000) (by kernel_rfl)
theorem c40 : PCall Tryz.prog gS 6 [] [.returned (.bool true)] := pRun_ok hmix (Orc.table_ok (Orc.tabCons c17 (Orc.tabCons c16 (Orc.tabCons c2 (Orc.tabCons c34 (Orc.tabCons c33 (Orc.tabCons c35 (Orc.tabCons c36 (Orc.tabCons c37 (Orc.tabCons c38 (Orc.tabCons c39 Orc.tabNil))))))))))) (pu := pu0) (mu := mu0) (n := 1000) (by kernel_rfl)

end Go.Proofs.YthoenpmifmomaaaGreatDoor
