/-
  What the proof is built of: The conditions of K22, evaluated. put: its walk comes to what it says. put, wherever the map lies. The conditions of K23, evaluated. put comes to what it says, wherever the map lies. The program's Number. The conditions of K24, evaluated. The program's Number comes to what put makes of the variables. A numbered type: put and the reference's With make the same of it, and it is valid. A type is the same as itself, a list is. Conditions: none.
-/
import Derived.Test.YtnmolpkkemljoaaGreatDoorM8
section
noncomputable section
namespace Go.Proofs.YtnmolpkkemljoaaGreatDoor
open Go Go.Am Kd
set_option maxRecDepth 100000

theorem pm_top0 (es : List (Int × Ty × Nat)) (c : Nat) (left d left' : Int) (u : Ty) (b : Bool) (N : Nat) (r : List Ty) (rb : Bool) : (runF (pmHk N) 60 103 [.isl b none 0 [], .fn (.func 119) [] [.ptr 5 0, .ptr 7 0]] (pwM es c left d u) (hpFz Tryz.prog 8 0 5 (.returned (.isl rb none 0 (encL r))) (pwM es c left' d u))) = ( AEnd.returned (AV.isl true none (0) []) = AEnd.returned (AV.isl rb none (0) (encL r)) ∧ encM es = encM es ∧ c = c ∧ 74 = 74 ∧ SubR [AV.map (0)] [AV.map (0)] (24 = 24 ∧ 24 = 24 ∧ 3 = 3 ∧ AV.int IntKind.i64 left = AV.int IntKind.i64 left' ∧ 145 = 145 ∧ SubR
 [AV.fn (Fn.func (118)) [] [AV.ptr (1) (0), AV.ptr (4) (0), AV.ptr (5) (0)]] [AV.fn (Fn.func (118)) [] [AV.ptr (1) (0), AV.ptr (4) (0), AV.ptr (5) (0)]] (24 = 24 ∧ AV.int IntKind.i64 (Ty.kind u) = AV.int IntKind.i64 (Ty.kind u) ∧ AV.int IntKind.i64 (Ty.n u) = AV.int IntKind.i64 (Ty.n u) ∧ AV.isl (Ty.nl u) none (0) (encL (Ty.l u)) = AV.isl (Ty.nl u) none (0) (encL (Ty.l u)) ∧ 3 = 3 ∧ AV.int IntKind.i64 d = AV.int IntKind.i64 d ∧ 0 = 0 ∧ True))) := by kernel_rfl

theorem pm_top1 (es : List (Int × Ty × Nat)) (c : Nat) (left d left' : Int) (u : Ty) (b : Bool) (x : Ty) (N : Nat) (r : List Ty) (rb : Bool) : (runF (pmHk N) 60 103 [.isl b none 0 [encD x], .fn (.func 119) [] [.ptr 5 0, .ptr 7 0]] (pwM es c left d u) (hpFz Tryz.prog 8 0 5 (.returned (.isl rb none 0 (encL r))) (pwM es c left' d u))) = ( ∃ l, encL (Ty.l x) = encL l ∧ ∃ es_1, encM es = encM es_1 ∧ (SizeOf.sizeOf (Ty.mk (Ty.kind x) (Ty.n x) (Ty.nl x) l) < N ∧
 okT (Ty.mk (Ty.kind x) (Ty.n x) (Ty.nl x) l) = true ∧ okMs es_1 ∧ iC (cnt (pwT es_1 (Ty.mk (Ty.kind x) (Ty.n x) (Ty.nl x) l))) ≤ left ∧ left ≤ 1000) ∧ encM es = encM es_1 ∧ c = c ∧ 74 = 74 ∧ SubR [AV.map (0)] [AV.map (0)] (24 = 24 ∧ 24 = 24 ∧ 3 = 3 ∧ AV.int IntKind.i64 left = AV.int IntKind.i64 left ∧ 145 = 145 ∧ SubR [AV.fn (Fn.func (118)) [] [AV.ptr (1) (0), AV.ptr (4) (0), AV.ptr (5) (0)]] [AV.fn (Fn.func (118)) [] [AV.ptr (1) (0), AV.ptr (4) (0), AV.ptr (5) (0)]] (0 = 0 ∧ AEnd.returned (AV.isl false none (0) [AV.agg
 [AV.int IntKind.i64 (Ty.kind (pwT es_1 (Ty.mk (Ty.kind x) (Ty.n x) (Ty.nl x) l))), AV.int IntKind.i64 (Ty.n (pwT es_1 (Ty.mk (Ty.kind x) (Ty.n x) (Ty.nl x) l))), AV.isl (Ty.nl (pwT es_1 (Ty.mk (Ty.kind x) (Ty.n x) (Ty.nl x) l))) none (0) (encL (Ty.l (pwT es_1 (Ty.mk (Ty.kind x) (Ty.n x) (Ty.nl x) l))))]]) = AEnd.returned (AV.isl rb none (0) (encL r)) ∧ encM es_1 = encM es ∧ c = c ∧ 74 = 74 ∧ SubR [AV.map (0)] [AV.map (0)] (24 = 24 ∧ 24 = 24 ∧ 3 = 3 ∧ AV.int IntKind.i64 (left - iC (cnt (pwT es_1 (Ty.mk (Ty.kind x) (Ty.n x) (Ty.nl x) l)))) = AV.int IntKind.i64 left' ∧ 145 = 145 ∧ SubR
 [AV.fn (Fn.func (118)) [] [AV.ptr (1) (0), AV.ptr (4) (0), AV.ptr (5) (0)]] [AV.fn (Fn.func (118)) [] [AV.ptr (1) (0), AV.ptr (4) (0), AV.ptr (5) (0)]] (24 = 24 ∧ AV.int IntKind.i64 (Ty.kind u) = AV.int IntKind.i64 (Ty.kind u) ∧ AV.int IntKind.i64 (Ty.n u) = AV.int IntKind.i64 (Ty.n u) ∧ AV.isl (Ty.nl u) none (0) (encL (Ty.l u)) = AV.isl (Ty.nl u) none (0) (encL (Ty.l u)) ∧ 3 = 3 ∧ AV.int IntKind.i64 d = AV.int IntKind.i64 d ∧ 0 = 0 ∧ True))))) := by kernel_rfl

theorem pm_top2 (es : List (Int × Ty × Nat)) (c : Nat) (left d left' : Int) (u : Ty) (b : Bool) (x y : Ty) (N : Nat) (r : List Ty) (rb : Bool) : (runF (pmHk N) 60 103 [.isl b none 0 [encD x, encD y], .fn (.func 119) [] [.ptr 5 0, .ptr 7 0]] (pwM es c left d u) (hpFz Tryz.prog 8 0 5 (.returned (.isl rb none 0 (encL r))) (pwM es c left' d u))) = ( ∃ l, encL (Ty.l x) = encL l ∧ ∃ es_1, encM es = encM es_1 ∧ (SizeOf.sizeOf (Ty.mk (Ty.kind x) (Ty.n x) (Ty.nl x) l) < N ∧
 okT (Ty.mk (Ty.kind x) (Ty.n x) (Ty.nl x) l) = true ∧ okMs es_1 ∧ iC (cnt (pwT es_1 (Ty.mk (Ty.kind x) (Ty.n x) (Ty.nl x) l))) ≤ left ∧ left ≤ 1000) ∧ encM es = encM es_1 ∧ c = c ∧ 74 = 74 ∧ SubR [AV.map (0)] [AV.map (0)] (24 = 24 ∧ 24 = 24 ∧ 3 = 3 ∧ AV.int IntKind.i64 left = AV.int IntKind.i64 left ∧ 145 = 145 ∧ SubR [AV.fn (Fn.func (118)) [] [AV.ptr (1) (0), AV.ptr (4) (0), AV.ptr (5) (0)]] [AV.fn (Fn.func (118)) [] [AV.ptr (1) (0), AV.ptr (4) (0), AV.ptr (5) (0)]] (0 = 0 ∧ ∃ l_1, encL (Ty.l y) = encL l_1 ∧ ∃ es_2, encM es_1 = encM es_2 ∧
 (SizeOf.sizeOf (Ty.mk (Ty.kind y) (Ty.n y) (Ty.nl y) l_1) < N ∧ okT (Ty.mk (Ty.kind y) (Ty.n y) (Ty.nl y) l_1) = true ∧ okMs es_2 ∧ iC (cnt (pwT es_2 (Ty.mk (Ty.kind y) (Ty.n y) (Ty.nl y) l_1))) ≤ left - iC (cnt (pwT es_1 (Ty.mk (Ty.kind x) (Ty.n x) (Ty.nl x) l))) ∧ left - iC (cnt (pwT es_1 (Ty.mk (Ty.kind x) (Ty.n x) (Ty.nl x) l))) ≤ 1000) ∧ encM es_1 = encM es_2 ∧ c = c ∧ 74 = 74 ∧ SubR [AV.map (0)] [AV.map (0)] (24 = 24 ∧ 24 = 24 ∧ 3 = 3 ∧ AV.int IntKind.i64 (left - iC (cnt (pwT es_1 (Ty.mk (Ty.kind x) (Ty.n x) (Ty.nl x) l)))) =
 AV.int IntKind.i64 (left - iC (cnt (pwT es_1 (Ty.mk (Ty.kind x) (Ty.n x) (Ty.nl x) l)))) ∧ 145 = 145 ∧ SubR [AV.fn (Fn.func (118)) [] [AV.ptr (1) (0), AV.ptr (4) (0), AV.ptr (5) (0)]] [AV.fn (Fn.func (118)) [] [AV.ptr (1) (0), AV.ptr (4) (0), AV.ptr (5) (0)]] (0 = 0 ∧ AEnd.returned (AV.isl false none (0) [AV.agg [AV.int IntKind.i64 (Ty.kind (pwT es_1 (Ty.mk (Ty.kind x) (Ty.n x) (Ty.nl x) l))), AV.int IntKind.i64 (Ty.n (pwT es_1 (Ty.mk (Ty.kind x) (Ty.n x) (Ty.nl x) l))), AV.isl (Ty.nl (pwT es_1 (Ty.mk (Ty.kind x) (Ty.n x) (Ty.nl x) l))) none (0)
 (encL (Ty.l (pwT es_1 (Ty.mk (Ty.kind x) (Ty.n x) (Ty.nl x) l))))], AV.agg [AV.int IntKind.i64 (Ty.kind (pwT es_2 (Ty.mk (Ty.kind y) (Ty.n y) (Ty.nl y) l_1))), AV.int IntKind.i64 (Ty.n (pwT es_2 (Ty.mk (Ty.kind y) (Ty.n y) (Ty.nl y) l_1))), AV.isl (Ty.nl (pwT es_2 (Ty.mk (Ty.kind y) (Ty.n y) (Ty.nl y) l_1))) none (0) (encL (Ty.l (pwT es_2 (Ty.mk (Ty.kind y) (Ty.n y) (Ty.nl y) l_1))))]]) = AEnd.returned (AV.isl rb none (0) (encL r)) ∧ encM es_2 = encM es ∧ c = c ∧ 74 = 74 ∧ SubR [AV.map (0)] [AV.map (0)] (24 = 24 ∧ 24 = 24 ∧ 3 = 3 ∧ AV.int IntKind.i64
 (left - iC (cnt (pwT es_1 (Ty.mk (Ty.kind x) (Ty.n x) (Ty.nl x) l))) - iC (cnt (pwT es_2 (Ty.mk (Ty.kind y) (Ty.n y) (Ty.nl y) l_1)))) = AV.int IntKind.i64 left' ∧ 145 = 145 ∧ SubR [AV.fn (Fn.func (118)) [] [AV.ptr (1) (0), AV.ptr (4) (0), AV.ptr (5) (0)]] [AV.fn (Fn.func (118)) [] [AV.ptr (1) (0), AV.ptr (4) (0), AV.ptr (5) (0)]] (24 = 24 ∧ AV.int IntKind.i64 (Ty.kind u) = AV.int IntKind.i64 (Ty.kind u) ∧ AV.int IntKind.i64 (Ty.n u) = AV.int IntKind.i64 (Ty.n u) ∧ AV.isl (Ty.nl u) none (0) (encL (Ty.l u)) = AV.isl (Ty.nl u) none (0) (encL (Ty.l u)) ∧ 3 = 3 ∧
 AV.int IntKind.i64 d = AV.int IntKind.i64 d ∧ 0 = 0 ∧ True))))))) := by kernel_rfl

theorem pw_top (es : List (Int × Ty × Nat)) (c : Nat) (left d left' : Int) (t : Ty) (N : Nat) (r : Ty) : (runF (pwHk N) 60 118 [encD t, .int .i64 d, .ptr 1 0, .ptr 4 0, .ptr 5 0] (pwA es c left) (hpIs 0 (.returned (encD r)) (pwA es c left'))) = ( keyFind (AV.int IntKind.i64 (Ty.n t)) (encM es) 0 = some none ∧ bothR (!decide ((0 : Int) ≤ IntKind.wrap IntKind.i64 (left - (1 : Int)))) (AEnd.panicked [(AV.iface (117) (AV.agg [AV.int IntKind.i64 (9)]), false)] = AEnd.returned (AV.agg [AV.int IntKind.i64 (Ty.kind r), AV.int IntKind.i64 (Ty.n r), AV.isl (Ty.nl r) none (0) (encL (Ty.l r))]) ∧
 encM es = encM es ∧ c = c ∧ 74 = 74 ∧ SubR [AV.map (0)] [AV.map (0)] (24 = 24 ∧ 24 = 24 ∧ 3 = 3 ∧ AV.int IntKind.i64 (IntKind.wrap IntKind.i64 (left - (1 : Int))) = AV.int IntKind.i64 left' ∧ 145 = 145 ∧ SubR [AV.fn (Fn.func (118)) [] [AV.ptr (1) (0), AV.ptr (4) (0), AV.ptr (5) (0)]] [AV.fn (Fn.func (118)) [] [AV.ptr (1) (0), AV.ptr (4) (0), AV.ptr (5) (0)]] (0 = 0 ∧ True))) (∃ l, encL (Ty.l t) = encL l ∧ ∃ es_1, encM es = encM es_1 ∧ ∃ l_1, encL (Ty.l t) = encL l_1 ∧ (SizeOf.sizeOf l < N ∧ (List.length l ≤ 2 ∧ okL l = true) ∧ okMs es_1 ∧
 iC (cntL (pwL es_1 l)) ≤ IntKind.wrap IntKind.i64 (left - (1 : Int)) ∧ IntKind.wrap IntKind.i64 (left - (1 : Int)) ≤ 1000) ∧ encM es = encM es_1 ∧ c = c ∧ 74 = 74 ∧ SubR [AV.map (0)] [AV.map (0)] (24 = 24 ∧ 24 = 24 ∧ 3 = 3 ∧ AV.int IntKind.i64 (IntKind.wrap IntKind.i64 (left - (1 : Int))) = AV.int IntKind.i64 (IntKind.wrap IntKind.i64 (left - (1 : Int))) ∧ 145 = 145 ∧ SubR [AV.fn (Fn.func (118)) [] [AV.ptr (1) (0), AV.ptr (4) (0), AV.ptr (5) (0)]] [AV.fn (Fn.func (118)) [] [AV.ptr (1) (0), AV.ptr (4) (0), AV.ptr (5) (0)]] (24 = 24 ∧
 AV.int IntKind.i64 (Ty.kind t) = AV.int IntKind.i64 (Ty.kind t) ∧ AV.int IntKind.i64 (Ty.n t) = AV.int IntKind.i64 (Ty.n t) ∧ AV.isl (Ty.nl t) none (0) (encL (Ty.l t)) = AV.isl (Ty.nl t) none (0) (encL l_1) ∧ 3 = 3 ∧ AV.int IntKind.i64 d = AV.int IntKind.i64 d ∧ 0 = 0 ∧ AV.ptr (6) (0) = AV.ptr (6) (0) ∧ AV.int IntKind.i64 (Ty.kind t) = AV.int IntKind.i64 (Ty.kind t) ∧ AV.ptr (6) (1) = AV.ptr (6) (1) ∧ AV.int IntKind.i64 (Ty.n t) = AV.int IntKind.i64 (Ty.n t) ∧ AEnd.returned (AV.agg [AV.int IntKind.i64 (Ty.kind t), AV.int IntKind.i64 (Ty.n t), AV.isl (nilB l) none (0) (encL (pwL es_1 l))]) =
 AEnd.returned (AV.agg [AV.int IntKind.i64 (Ty.kind r), AV.int IntKind.i64 (Ty.n r), AV.isl (Ty.nl r) none (0) (encL (Ty.l r))]) ∧ encM es_1 = encM es ∧ c = c ∧ 74 = 74 ∧ SubR [AV.map (0)] [AV.map (0)] (24 = 24 ∧ 24 = 24 ∧ 3 = 3 ∧ AV.int IntKind.i64 (IntKind.wrap IntKind.i64 (left - (1 : Int)) - iC (cntL (pwL es_1 l))) = AV.int IntKind.i64 left' ∧ 145 = 145 ∧ SubR [AV.fn (Fn.func (118)) [] [AV.ptr (1) (0), AV.ptr (4) (0), AV.ptr (5) (0)]] [AV.fn (Fn.func (118)) [] [AV.ptr (1) (0), AV.ptr (4) (0), AV.ptr (5) (0)]] (0 = 0 ∧ True))))) ∨ ∃ j x, keyFind (AV.int IntKind.i64 (Ty.n t)) (encM es) 0 =
 some (some (j, AV.agg [AV.int IntKind.i64 (Ty.kind x), AV.int IntKind.i64 (Ty.n x), AV.isl (Ty.nl x) none (0) (encL (Ty.l x))])) ∧ bothR (decide (Ty.kind t = (6 : Int))) (∃ l, encL (Ty.l x) = encL l ∧ ∃ l_1, encL l = encL l_1 ∧ ∃ es_1, encM es = encM es_1 ∧ ∃ l, encL (Ty.l x) = encL l ∧ (cnt (Ty.mk (Ty.kind x) (Ty.n x) (Ty.nl x) l_1) ≤ 1000 ∧ Int.NonNeg (0) ∧ (0 : Int) + iC (cnt (Ty.mk (Ty.kind x) (Ty.n x) (Ty.nl x) l_1)) ≤ 1000) ∧ encM es = encM es_1 ∧ c = c ∧ 74 = 74 ∧ SubR [AV.map (0)] [AV.map (0)] (24 = 24 ∧ 24 = 24 ∧ 3 = 3 ∧ AV.int IntKind.i64 left = AV.int IntKind.i64 left ∧ 145 = 145 ∧
 SubR [AV.fn (Fn.func (118)) [] [AV.ptr (1) (0), AV.ptr (4) (0), AV.ptr (5) (0)]] [AV.fn (Fn.func (118)) [] [AV.ptr (1) (0), AV.ptr (4) (0), AV.ptr (5) (0)]] (24 = 24 ∧ 3 = 3 ∧ AV.int IntKind.i64 d = AV.int IntKind.i64 d ∧ 24 = 24 ∧ 24 = 24 ∧ AV.int IntKind.i64 (Ty.kind x) = AV.int IntKind.i64 (Ty.kind x) ∧ AV.int IntKind.i64 (Ty.n x) = AV.int IntKind.i64 (Ty.n x) ∧ AV.isl (Ty.nl x) none (0) (encL (Ty.l x)) = AV.isl (Ty.nl x) none (0) (encL l) ∧ 3 = 3 ∧ SubR [AV.int IntKind.i64 (0)] [AV.int IntKind.i64 (0)] ((LoopState.ready = LoopState.ready ∧ (none : Option Code) = none ∧
 ((Array.mk (α := Nat) [26]), rA (76) (1), rB (118) (0)) = ((Array.mk (α := Nat) [26]), rA (76) (1), rB (118) (0)) ∧ 11 = 11) ∧ AV.ptr (10) (0) = AV.ptr (10) (0) ∧ 42 = 42 ∧ SubR [AV.fn (Fn.yield (12)) [] []] [AV.fn (Fn.yield (12)) [] []] (42 = 42 ∧ SubR [AV.fn (Fn.func (115)) [] [AV.ptr (13) (0), AV.ptr (14) (0)]] [AV.fn (Fn.func (115)) [] [AV.ptr (13) (0), AV.ptr (14) (0)]] (0 = 0 ∧ bothR (!decide ((0 : Int) ≤ IntKind.wrap IntKind.i64 (left - ((0 : Int) + iC (cnt (Ty.mk (Ty.kind x) (Ty.n x) (Ty.nl x) l_1)))))) (AEnd.panicked [(AV.iface (117) (AV.agg [AV.int IntKind.i64 (9)]), false)] =
 AEnd.returned (AV.agg [AV.int IntKind.i64 (Ty.kind r), AV.int IntKind.i64 (Ty.n r), AV.isl (Ty.nl r) none (0) (encL (Ty.l r))]) ∧ encM es_1 = encM es ∧ c = c ∧ 74 = 74 ∧ SubR [AV.map (0)] [AV.map (0)] (24 = 24 ∧ 24 = 24 ∧ 3 = 3 ∧ AV.int IntKind.i64 (IntKind.wrap IntKind.i64 (left - ((0 : Int) + iC (cnt (Ty.mk (Ty.kind x) (Ty.n x) (Ty.nl x) l_1))))) = AV.int IntKind.i64 left' ∧ 145 = 145 ∧ SubR [AV.fn (Fn.func (118)) [] [AV.ptr (1) (0), AV.ptr (4) (0), AV.ptr (5) (0)]] [AV.fn (Fn.func (118)) [] [AV.ptr (1) (0), AV.ptr (4) (0), AV.ptr (5) (0)]] (0 = 0 ∧ True))) (∃ l_2, encL l = encL l_2 ∧
 okT (Ty.mk (Ty.kind x) (Ty.n x) (Ty.nl x) l_2) = true ∧ AEnd.returned (AV.agg [AV.int IntKind.i64 (Ty.kind (cleanT (Ty.mk (Ty.kind x) (Ty.n x) (Ty.nl x) l_2))), AV.int IntKind.i64 (Ty.n (cleanT (Ty.mk (Ty.kind x) (Ty.n x) (Ty.nl x) l_2))), AV.isl (Ty.nl (cleanT (Ty.mk (Ty.kind x) (Ty.n x) (Ty.nl x) l_2))) none (0) (encL (Ty.l (cleanT (Ty.mk (Ty.kind x) (Ty.n x) (Ty.nl x) l_2))))]) = AEnd.returned (AV.agg [AV.int IntKind.i64 (Ty.kind r), AV.int IntKind.i64 (Ty.n r), AV.isl (Ty.nl r) none (0) (encL (Ty.l r))]) ∧ encM es_1 = encM es ∧ c = c ∧ 74 = 74 ∧ SubR [AV.map (0)] [AV.map (0)] (24 = 24 ∧
 24 = 24 ∧ 3 = 3 ∧ AV.int IntKind.i64 (IntKind.wrap IntKind.i64 (left - ((0 : Int) + iC (cnt (Ty.mk (Ty.kind x) (Ty.n x) (Ty.nl x) l_1))))) = AV.int IntKind.i64 left' ∧ 145 = 145 ∧ SubR [AV.fn (Fn.func (118)) [] [AV.ptr (1) (0), AV.ptr (4) (0), AV.ptr (5) (0)]] [AV.fn (Fn.func (118)) [] [AV.ptr (1) (0), AV.ptr (4) (0), AV.ptr (5) (0)]] (0 = 0 ∧ True))))))))) (bothR (!decide ((0 : Int) ≤ IntKind.wrap IntKind.i64 (left - (1 : Int)))) (AEnd.panicked [(AV.iface (117) (AV.agg [AV.int IntKind.i64 (9)]), false)] =
 AEnd.returned (AV.agg [AV.int IntKind.i64 (Ty.kind r), AV.int IntKind.i64 (Ty.n r), AV.isl (Ty.nl r) none (0) (encL (Ty.l r))]) ∧ encM es = encM es ∧ c = c ∧ 74 = 74 ∧ SubR [AV.map (0)] [AV.map (0)] (24 = 24 ∧ 24 = 24 ∧ 3 = 3 ∧ AV.int IntKind.i64 (IntKind.wrap IntKind.i64 (left - (1 : Int))) = AV.int IntKind.i64 left' ∧ 145 = 145 ∧ SubR [AV.fn (Fn.func (118)) [] [AV.ptr (1) (0), AV.ptr (4) (0), AV.ptr (5) (0)]] [AV.fn (Fn.func (118)) [] [AV.ptr (1) (0), AV.ptr (4) (0), AV.ptr (5) (0)]] (0 = 0 ∧ True))) (∃ l, encL (Ty.l t) = encL l ∧ ∃ es_1, encM es = encM es_1 ∧ ∃ l_1,
 encL (Ty.l t) = encL l_1 ∧ (SizeOf.sizeOf l < N ∧ (List.length l ≤ 2 ∧ okL l = true) ∧ okMs es_1 ∧ iC (cntL (pwL es_1 l)) ≤ IntKind.wrap IntKind.i64 (left - (1 : Int)) ∧ IntKind.wrap IntKind.i64 (left - (1 : Int)) ≤ 1000) ∧ encM es = encM es_1 ∧ c = c ∧ 74 = 74 ∧ SubR [AV.map (0)] [AV.map (0)] (24 = 24 ∧ 24 = 24 ∧ 3 = 3 ∧ AV.int IntKind.i64 (IntKind.wrap IntKind.i64 (left - (1 : Int))) = AV.int IntKind.i64 (IntKind.wrap IntKind.i64 (left - (1 : Int))) ∧ 145 = 145 ∧ SubR [AV.fn (Fn.func (118)) [] [AV.ptr (1) (0), AV.ptr (4) (0), AV.ptr (5) (0)]] [AV.fn (Fn.func (118)) []
 [AV.ptr (1) (0), AV.ptr (4) (0), AV.ptr (5) (0)]] (24 = 24 ∧ AV.int IntKind.i64 (Ty.kind t) = AV.int IntKind.i64 (Ty.kind t) ∧ AV.int IntKind.i64 (Ty.n t) = AV.int IntKind.i64 (Ty.n t) ∧ AV.isl (Ty.nl t) none (0) (encL (Ty.l t)) = AV.isl (Ty.nl t) none (0) (encL l_1) ∧ 3 = 3 ∧ AV.int IntKind.i64 d = AV.int IntKind.i64 d ∧ 0 = 0 ∧ AV.ptr (6) (0) = AV.ptr (6) (0) ∧ AV.int IntKind.i64 (Ty.kind t) = AV.int IntKind.i64 (Ty.kind t) ∧ AV.ptr (6) (1) = AV.ptr (6) (1) ∧ AV.int IntKind.i64 (Ty.n t) = AV.int IntKind.i64 (Ty.n t) ∧ AEnd.returned (AV.agg
 [AV.int IntKind.i64 (Ty.kind t), AV.int IntKind.i64 (Ty.n t), AV.isl (nilB l) none (0) (encL (pwL es_1 l))]) = AEnd.returned (AV.agg [AV.int IntKind.i64 (Ty.kind r), AV.int IntKind.i64 (Ty.n r), AV.isl (Ty.nl r) none (0) (encL (Ty.l r))]) ∧ encM es_1 = encM es ∧ c = c ∧ 74 = 74 ∧ SubR [AV.map (0)] [AV.map (0)] (24 = 24 ∧ 24 = 24 ∧ 3 = 3 ∧ AV.int IntKind.i64 (IntKind.wrap IntKind.i64 (left - (1 : Int)) - iC (cntL (pwL es_1 l))) = AV.int IntKind.i64 left' ∧ 145 = 145 ∧ SubR [AV.fn (Fn.func (118)) [] [AV.ptr (1) (0), AV.ptr (4) (0), AV.ptr (5) (0)]] [AV.fn (Fn.func (118)) []
 [AV.ptr (1) (0), AV.ptr (4) (0), AV.ptr (5) (0)]] (0 = 0 ∧ True))))))) := by kernel_rfl

end Go.Proofs.YtnmolpkkemljoaaGreatDoor
end
end

section
set_option maxRecDepth 100000
set_option linter.unusedSimpArgs false
set_option linter.unusedVariables false
noncomputable section
namespace Go.Proofs.YtnmolpkkemljoaaGreatDoor
open Go Go.Am Kd

theorem BlkR_self {x : ABlk} {R : Prop} (h : R) : BlkR x x R := by
  cases x <;> simp only [BlkR, true_and, and_self] <;> first
    | exact h
    | exact SubR_self h
theorem BlksR_self : ∀ {xs : List ABlk} {R : Prop}, R → BlksR xs xs R
  | [], _, h => by simpa [BlksR] using h
  | x :: xs, _, h => by
    simp only [BlksR]
    exact BlkR_self (BlksR_self h)
theorem hpIs_self {nf : Nat} {e : AEnd} {A : AH} (h : A.fams.length = nf) : hpIs nf e A ⟨e, A⟩ := by
  refine ⟨rfl, BlksR_self ?_⟩
  unfold FamR
  split
  · rename_i h1
    rw [h1] at h
    exact ⟨h.symm, trivial⟩
  · exact ⟨by rw [← h, List.take_length], trivial⟩

theorem keyFind_none {es : List (Int × Ty × Nat)} {n : Int} (h : boundM es n = none) : ∀ i, keyFind (.int .i64 n) (encM es) i = some none := by
  induction es with
  | nil => intro i; rfl
  | cons x l ih =>
    intro i
    simp only [boundM] at h
    split at h
    · cases h
    · rename_i hne
      simp only [encM, List.map_cons, entM, keyFind, keyEq, if_true, decide_eq_false hne]
      exact ih h (i + 1)
theorem keyFind_some {es : List (Int × Ty × Nat)} {n : Int} {u : Ty} (h : boundM es n = some u) : ∀ i, ∃ j, keyFind (.int .i64 n) (encM es) i = some (some (j, encD u)) := by
  induction es with
  | nil => cases h
  | cons x l ih =>
    intro i
    simp only [boundM] at h
    split at h
    · rename_i he
      cases h
      refine ⟨i, ?_⟩
      simp only [encM, List.map_cons, entM, keyFind, keyEq, if_true, decide_eq_true he]
    · rename_i hne
      obtain ⟨j, hj⟩ := ih h (i + 1)
      refine ⟨j, ?_⟩
      simp only [encM, List.map_cons, entM, keyFind, keyEq, if_true, decide_eq_false hne]
      exact hj
theorem boundM_mem {es : List (Int × Ty × Nat)} {n : Int} {u : Ty} (h : boundM es n = some u) : ∃ x ∈ es, x.2.1 = u := by
  induction es with
  | nil => cases h
  | cons x l ih =>
    simp only [boundM] at h
    split at h
    · cases h; exact ⟨x, by simp, rfl⟩
    · obtain ⟨y, h1, h2⟩ := ih h
      exact ⟨y, by simp [h1], h2⟩
theorem cnt_clean : ∀ t, cnt (cleanT t) = cnt t := by
  have key : ∀ (N : Nat), (∀ t, SizeOf.sizeOf t < N → cnt (cleanT t) = cnt t) ∧ ∀ l, SizeOf.sizeOf l < N → cntL (cleanL l) = cntL l := by
    intro N
    induction N with
    | zero => exact ⟨fun _ h => by omega, fun _ h => by omega⟩
    | succ N ih =>
      obtain ⟨ih1, ih2⟩ := ih
      constructor
      · intro t ht
        cases t with
        | mk k n b l =>
          simp only [Ty.mk.sizeOf_spec] at ht
          simp only [cleanT, cnt, ih2 l (by omega)]
      · intro l hl
        cases l with
        | nil => rfl
        | cons x xs =>
          simp only [List.cons.sizeOf_spec] at hl
          simp only [cleanL, cntL, ih1 x (by omega), ih2 xs (by omega)]
  exact fun t => (key (SizeOf.sizeOf t + 1)).1 t (by omega)

def PWalkJ (es : List (Int × Ty × Nat)) (c : Nat) (left d : Int) (t : Ty) : Prop := FJ 118 [enc t, .int .i64 d, .ptr 1 0, .ptr 4 0, .ptr 5 0] (pwA es c left) (hpIs 0 (.returned (encD (pwT es t))) (pwA es c (left - cnt (pwT es t))))
def PMapJ (es : List (Int × Ty × Nat)) (c : Nat) (left d : Int) (u : Ty) (b : Bool) (l : List Ty) : Prop :=
  FJ 103 [.isl b none 0 (encL l), .fn (.func 119) [] [.ptr 5 0, .ptr 7 0]] (pwM es c left d u) (hpIs 0 (.returned (.isl (nilB l) none 0 (encL (pwL es l)))) (pwM es c (left - cntL (pwL es l)) d u))

theorem pwA_ok (es : List (Int × Ty × Nat)) (c : Nat) (left : Int) : (pwA es c left).ok 6 0 = true := by
  simp [AH.ok, pwA, pwB, top3, ABlk.bnd, AV.bnd, AV.bndL, encM_bnd]
theorem pwM_ok (es : List (Int × Ty × Nat)) (c : Nat) (left d : Int) (u : Ty) : (pwM es c left d u).ok 8 0 = true := by
  simp [AH.ok, pwM, pwB, top3, tyC, ABlk.bnd, AV.bnd, AV.bndL, encM_bnd, encL_bnd]

theorem argPw_elim {A : AH} {K : List (Int × Ty × Nat) → Nat → Int → Prop} (h : argPw A K) : ∃ es c left, K es c left := by
  unfold argPw at h
  split at h
  · obtain ⟨es, _, h⟩ := h
    exact ⟨es, _, _, h⟩
  · exact h.elim
theorem argPm_elim {A : AH} {K : List (Int × Ty × Nat) → Nat → Int → Int → Ty → Prop} (h : argPm A K) : ∃ es c left d u, K es c left d u := by
  unfold argPm at h
  split at h
  · obtain ⟨es, _, l, _, h⟩ := h
    exact ⟨es, _, _, _, _, h⟩
  · exact h.elim

theorem pwalk_hook {N : Nat} (ih : ∀ (es : List (Int × Ty × Nat)) (c : Nat) (left d : Int) (t : Ty), SizeOf.sizeOf t < N → okT t = true → okMs es → (cnt (pwT es t) : Int) ≤ left → left ≤ 1000 → PWalkJ es c left d t) : HSpec.Ok Tryz.prog g0 118 (pwalkH N) := by
  intro args A K h'
  unfold pwalkH at h'
  split at h'
  · obtain ⟨t, rfl, h⟩ := argTy_elim h'
    obtain ⟨es, c, left, ⟨h1, h2, h3, h4, h5⟩, h⟩ := argPw_elim h
    obtain ⟨hK, hr⟩ := FuncJ.on (n := 6) h (ih es c left _ t h1 h2 h3 h4 h5) (pwA_ok ..) (pwA_ok ..) (by simp [AV.bndL, AV.bnd, AV.still_bnd, enc_still]) (by simp [AEnd.bnd, AV.still_bnd, encD_still])
    exact ⟨_, hr, hK⟩
  · exact h'.elim
theorem pmap_hook {N : Nat} (ih : ∀ (es : List (Int × Ty × Nat)) (c : Nat) (left d : Int) (u : Ty) (b : Bool) (l : List Ty), SizeOf.sizeOf l < N → l.length ≤ 2 → okL l = true → okMs es → (cntL (pwL es l) : Int) ≤ left → left ≤ 1000 → PMapJ es c left d u b l) : HSpec.Ok Tryz.prog g0 103 (pmapH N) := by
  intro args A K h'
  unfold pmapH at h'
  split at h'
  · obtain ⟨l, rfl, h⟩ := h'
    obtain ⟨es, c, left, d, u, ⟨h1, ⟨h2, h6⟩, h3, h4, h5⟩, h⟩ := argPm_elim h
    obtain ⟨hK, hr⟩ := FuncJ.on (n := 8) h (ih es c left d u _ l h1 h2 h6 h3 h4 h5) (pwM_ok ..) (pwM_ok ..) (by simp [AV.bndL, AV.bnd, encL_bnd]) (by simp [AEnd.bnd, AV.bnd, encL_bnd])
    exact ⟨_, hr, hK⟩
  · exact h'.elim

theorem pmap_ok {N : Nat} (ih : ∀ (es : List (Int × Ty × Nat)) (c : Nat) (left d : Int) (t : Ty), SizeOf.sizeOf t < N → okT t = true → okMs es → (cnt (pwT es t) : Int) ≤ left → left ≤ 1000 → PWalkJ es c left d t)
    (es : List (Int × Ty × Nat)) (c : Nat) (left d : Int) (u : Ty) (b : Bool) (l : List Ty) (hN : SizeOf.sizeOf l ≤ N) (h2 : l.length ≤ 2) (ho : okL l = true) (hm : okMs es) (hle : (cntL (pwL es l) : Int) ≤ left) (hle2 : left ≤ 1000) : PMapJ es c left d u b l := by
  have hh : Hooks.Ok Tryz.prog g0 (pmHk N) := mkHooks_ok all_nil (all_cons (pwalk_hook ih) all_nil) all_nil
  refine FuncJ.mono (K := fun o => o = ⟨.returned (.isl (nilB l) none 0 (encL (pwL es l))), pwM es c (left - cntL (pwL es l)) d u⟩) ?_ fun o ho => by subst ho; exact hpIs_self rfl
  have hok := pwM_ok es c (left - cntL (pwL es l)) d u
  simp only [AH.ok, Bool.and_eq_true, decide_eq_true_eq] at hok
  refine FuncJ.fz (n := 8) (nf := 0) (k := 5) ?_ hok.1 hok.2.1 (Nat.le_refl _) (Nat.le_refl _) hok.2.2.1 (by simp [AEnd.bnd, AV.bnd, encL_bnd])
  refine FuncJ.run (el := els) (mu := mu0) (hk := pmHk N) hmix hh (n := 60) ?_
  match l, h2, ho, hN, hle with
  | [], _, _, _, _ =>
    show runF (pmHk N) 60 103 [.isl b none 0 [], .fn (.func 119) [] [.ptr 5 0, .ptr 7 0]] (pwM es c left d u) _
    rw [pm_top0]
    simp only [eq_self, true_and, and_true, SubR_id, ex_encM, ex_enc, Ty.eta]
    refine ⟨rfl, ?_⟩
    simp [pwL, cntL]
  | [x], _, ho, hN, hle =>
    have e : encL [x] = [encD x] := by simp only [encL, enc_D]
    rw [e]
    show runF (pmHk N) 60 103 [.isl b none 0 [encD x], .fn (.func 119) [] [.ptr 5 0, .ptr 7 0]] (pwM es c left d u) _
    rw [pm_top1]
    simp only [List.cons.sizeOf_spec] at hN
    simp only [pwL, cntL] at hle
    simp only [eq_self, true_and, and_true, SubR_id, ex_encM, ex_enc, Ty.eta, encL_sing]
    refine ⟨⟨by omega, okL_mem ho x (by simp), hm, by simpa using hle, hle2⟩, rfl, ?_⟩
    simp [pwL, cntL]
  | [x, y], _, ho, hN, hle =>
    have e : encL [x, y] = [encD x, encD y] := by simp only [encL, enc_D]
    rw [e]
    show runF (pmHk N) 60 103 [.isl b none 0 [encD x, encD y], .fn (.func 119) [] [.ptr 5 0, .ptr 7 0]] (pwM es c left d u) _
    rw [pm_top2]
    simp only [List.cons.sizeOf_spec] at hN
    simp only [pwL, cntL, Nat.add_zero, Int.natCast_add] at hle
    have e2 : ∀ u v : Ty, [AV.agg [.int .i64 u.kind, .int .i64 u.n, .isl u.nl none 0 (encL u.l)], AV.agg [.int .i64 v.kind, .int .i64 v.n, .isl v.nl none 0 (encL v.l)]] = encL [u, v] := fun u v => by
      simp only [encL, enc_D]; rfl
    simp only [eq_self, true_and, and_true, SubR_id, ex_encM, ex_enc, Ty.eta, e2, iC]
    refine ⟨⟨by omega, okL_mem ho x (by simp), hm, by omega, hle2⟩, ⟨by omega, okL_mem ho y (by simp), hm, by omega, by omega⟩, rfl, ?_⟩
    simp only [pwL, cntL, Nat.add_zero, Int.natCast_add, AV.int.injEq, true_and]
    omega

theorem okL_of {k n : Int} {b : Bool} {l : List Ty} (h : okT (.mk k n b l) = true) : l.length ≤ 2 ∧ okL l = true := by
  refine ⟨?_, (ok_node h).2⟩
  rcases parts_cases h with rfl | ⟨x, rfl, _⟩ | ⟨x, y, rfl, _⟩ <;> simp

theorem pwalk_ok (es : List (Int × Ty × Nat)) (c : Nat) (left d : Int) (t : Ty) (ho : okT t = true) (hm : okMs es) (hle : (cnt (pwT es t) : Int) ≤ left) (hle2 : left ≤ 1000) : PWalkJ es c left d t := by
  have key : ∀ (N : Nat) (es : List (Int × Ty × Nat)) (c : Nat) (left d : Int) (t : Ty), SizeOf.sizeOf t < N → okT t = true → okMs es → (cnt (pwT es t) : Int) ≤ left → left ≤ 1000 → PWalkJ es c left d t := by
    intro N
    induction N with
    | zero => intro es c left d t h; omega
    | succ N ih =>
      intro es c left d t ht ho hm hle hle2
      have hh : Hooks.Ok Tryz.prog g0 (pwHk N) := mkHooks_ok (all_cons kcl_hook0 (all_cons parts_hook all_nil)) (all_cons cwalk_hook0 (all_cons (pmap_hook fun es c left d u b l h1 h2 h3 h4 h5 h6 => pmap_ok ih es c left d u b l (by omega) h2 h3 h4 h5 h6) all_nil)) all_nil
      obtain ⟨k, n, nl, ts⟩ := t
      have hol := okL_of ho
      simp only [Ty.mk.sizeOf_spec] at ht
      unfold PWalkJ
      rw [enc_D]
      refine FuncJ.run (el := els) (mu := mu0) (hk := pwHk N) hmix hh (n := 60) ?_
      show runF (pwHk N) 60 118 [encD (.mk k n nl ts), .int .i64 d, .ptr 1 0, .ptr 4 0, .ptr 5 0] (pwA es c left) _
      rw [pw_top]
      simp only [eq_self, true_and, and_true, SubR_id, ex_encM, ex_enc, Ty.eta, tk_mk, tn_mk, tl_mk, tb_mk, iC]
      have plain (h : ¬ (k = 6 ∧ (boundM es n).isSome = true)) : pwT es (.mk k n nl ts) = .mk k n (nilB ts) (pwL es ts) := by simp only [pwT, h, if_false]
      cases hb : boundM es n with
      | none =>
        have hp := plain (by rw [hb]; simp)
        rw [hp] at hle ⊢
        simp only [cnt, Int.natCast_add, Int.cast_ofNat_Int] at hle ⊢
        refine .inl ⟨keyFind_none hb 0, bothR_ndec (fun h => ?_) fun h => ?_⟩
        · rw [wrap_id (by omega) (by omega)] at h; omega
        · rw [wrap_id (by omega) (by omega)]
          exact ⟨⟨by omega, hol, hm, by omega, by omega⟩, rfl, congrArg _ (by omega)⟩
      | some u =>
        obtain ⟨j, hj⟩ := keyFind_some hb 0
        obtain ⟨x, hx, rfl⟩ := boundM_mem hb
        have hxo := hm x hx
        refine .inr ⟨j, x.2.1, hj, bothR_dec (fun h6 => ?_) fun h6 => bothR_ndec (fun h => ?_) fun h => ?_⟩
        · have hp : pwT es (.mk k n nl ts) = cleanT x.2.1 := by simp only [pwT, hb, h6, Option.isSome_some, and_self, if_true, Option.getD_some]
          rw [hp, cnt_clean] at hle ⊢
          refine ⟨⟨by omega, nn 0, by omega⟩, ?_⟩
          rw [wrap_id (by omega) (by omega)]
          refine bothR_ndec (fun h => by omega) fun h => ⟨hxo.1, rfl, congrArg _ (by omega)⟩
        · have hp := plain (fun h => h6 h.1)
          rw [hp] at hle
          simp only [cnt, Int.natCast_add, Int.cast_ofNat_Int] at hle
          rw [wrap_id (by omega) (by omega)] at h; omega
        · have hp := plain (fun h => h6 h.1)
          rw [hp] at hle ⊢
          simp only [cnt, Int.natCast_add, Int.cast_ofNat_Int] at hle ⊢
          rw [wrap_id (by omega) (by omega)]
          exact ⟨⟨by omega, hol, hm, by omega, by omega⟩, rfl, congrArg _ (by omega)⟩
  exact key _ es c left d t (Nat.lt_succ_self _) ho hm hle hle2

end Go.Proofs.YtnmolpkkemljoaaGreatDoor
end
end

section
noncomputable section
namespace Go.Proofs.YtnmolpkkemljoaaGreatDoor
open Go Go.Am Kd

def pwalkH0 : HSpec := fun args A K =>
  match args with
  | [t, .int .i64 _, .ptr 1 0, .ptr 4 0, .ptr 5 0] => argTy t fun t => argPw A fun es c left => (okT t = true ∧ okMs es ∧ (cnt (pwT es t) : Int) ≤ left ∧ left ≤ 1000) ∧ onR 0 A (pwA es c left) (K ⟨.returned (encD (pwT es t)), (pwA es c (left - cnt (pwT es t))).onto A⟩)
  | _ => False
def ptHk : Hooks := mkHooks Tryz.prog [(68, kclQ0), (76, validQ)] [(118, pwalkH0)] []
def mapA (es : List (Int × Ty × Nat)) (c : Nat) : AH := ⟨[.map (encM es) c], []⟩
/-- put does not stop. -/
def putOk (es : List (Int × Ty × Nat)) (t : Ty) : Prop := okT (cleanT t) = true ∧ okT t = true ∧ okMs es ∧ cnt (pwT es (cleanT t)) ≤ 60 ∧ validB (pwT es (cleanT t)) = true
def putH : HSpec := fun args A K =>
  match args with
  | [.map b, t] => argTy t fun t =>
    match nthR A.blks b with
    | some (.map m c) => ∃ es, m = encM es ∧ putOk es t ∧ K ⟨.returned (encD (pwT es (cleanT t))), A.put b (.map m c)⟩
    | _ => False
  | _ => False

end Go.Proofs.YtnmolpkkemljoaaGreatDoor
end
end

section
noncomputable section
namespace Go.Proofs.YtnmolpkkemljoaaGreatDoor
open Go Go.Am Kd
set_option maxRecDepth 100000

theorem pt_top (es : List (Int × Ty × Nat)) (c : Nat) (t r : Ty) : (runF ptHk 60 83 [.map 0, encD t] (mapA es c) (hpIs 0 (.returned (encD r)) (mapA es c))) = ( ∃ l, encL (Ty.l t) = encL l ∧ okT (Ty.mk (Ty.kind t) (Ty.n t) (Ty.nl t) l) = true ∧ ∃ l_1, encL (Ty.l (cleanT (Ty.mk (Ty.kind t) (Ty.n t) (Ty.nl t) l))) = encL l_1 ∧ ∃ es_1, encM es = encM es_1 ∧ (okT (Ty.mk (Ty.kind (cleanT (Ty.mk (Ty.kind t) (Ty.n t) (Ty.nl t) l))) (Ty.n (cleanT (Ty.mk (Ty.kind t) (Ty.n t) (Ty.nl t) l))) (Ty.nl (cleanT (Ty.mk (Ty.kind t) (Ty.n t) (Ty.nl t) l))) l_1) = true ∧ okMs es_1 ∧ iC (cnt (pwT es_1
 (Ty.mk (Ty.kind (cleanT (Ty.mk (Ty.kind t) (Ty.n t) (Ty.nl t) l))) (Ty.n (cleanT (Ty.mk (Ty.kind t) (Ty.n t) (Ty.nl t) l))) (Ty.nl (cleanT (Ty.mk (Ty.kind t) (Ty.n t) (Ty.nl t) l))) l_1))) ≤ 60 ∧ Int.NonNeg (940)) ∧ encM es = encM es_1 ∧ c = c ∧ 74 = 74 ∧ SubR [AV.map (0)] [AV.map (0)] (24 = 24 ∧ 24 = 24 ∧ 3 = 3 ∧ SubR [AV.int IntKind.i64 (60)] [AV.int IntKind.i64 (60)] (145 = 145 ∧ SubR [AV.fn (Fn.func (118)) [] [AV.ptr (1) (0), AV.ptr (4) (0), AV.ptr (5) (0)]] [AV.fn (Fn.func (118)) [] [AV.ptr (1) (0), AV.ptr (4) (0), AV.ptr (5) (0)]] (0 = 0 ∧ ∃ l_2, encL (Ty.l (pwT es_1
 (Ty.mk (Ty.kind (cleanT (Ty.mk (Ty.kind t) (Ty.n t) (Ty.nl t) l))) (Ty.n (cleanT (Ty.mk (Ty.kind t) (Ty.n t) (Ty.nl t) l))) (Ty.nl (cleanT (Ty.mk (Ty.kind t) (Ty.n t) (Ty.nl t) l))) l_1))) = encL l_2 ∧ cnt (Ty.mk (Ty.kind (pwT es_1 (Ty.mk (Ty.kind (cleanT (Ty.mk (Ty.kind t) (Ty.n t) (Ty.nl t) l))) (Ty.n (cleanT (Ty.mk (Ty.kind t) (Ty.n t) (Ty.nl t) l))) (Ty.nl (cleanT (Ty.mk (Ty.kind t) (Ty.n t) (Ty.nl t) l))) l_1))) (Ty.n (pwT es_1 (Ty.mk (Ty.kind (cleanT (Ty.mk (Ty.kind t) (Ty.n t) (Ty.nl t) l))) (Ty.n (cleanT (Ty.mk (Ty.kind t) (Ty.n t) (Ty.nl t) l)))
 (Ty.nl (cleanT (Ty.mk (Ty.kind t) (Ty.n t) (Ty.nl t) l))) l_1))) (Ty.nl (pwT es_1 (Ty.mk (Ty.kind (cleanT (Ty.mk (Ty.kind t) (Ty.n t) (Ty.nl t) l))) (Ty.n (cleanT (Ty.mk (Ty.kind t) (Ty.n t) (Ty.nl t) l))) (Ty.nl (cleanT (Ty.mk (Ty.kind t) (Ty.n t) (Ty.nl t) l))) l_1))) l_2) ≤ 1000 ∧ bothR (!validB (Ty.mk (Ty.kind (pwT es_1 (Ty.mk (Ty.kind (cleanT (Ty.mk (Ty.kind t) (Ty.n t) (Ty.nl t) l))) (Ty.n (cleanT (Ty.mk (Ty.kind t) (Ty.n t) (Ty.nl t) l))) (Ty.nl (cleanT (Ty.mk (Ty.kind t) (Ty.n t) (Ty.nl t) l))) l_1))) (Ty.n (pwT es_1
 (Ty.mk (Ty.kind (cleanT (Ty.mk (Ty.kind t) (Ty.n t) (Ty.nl t) l))) (Ty.n (cleanT (Ty.mk (Ty.kind t) (Ty.n t) (Ty.nl t) l))) (Ty.nl (cleanT (Ty.mk (Ty.kind t) (Ty.n t) (Ty.nl t) l))) l_1))) (Ty.nl (pwT es_1 (Ty.mk (Ty.kind (cleanT (Ty.mk (Ty.kind t) (Ty.n t) (Ty.nl t) l))) (Ty.n (cleanT (Ty.mk (Ty.kind t) (Ty.n t) (Ty.nl t) l))) (Ty.nl (cleanT (Ty.mk (Ty.kind t) (Ty.n t) (Ty.nl t) l))) l_1))) l_2)) (AEnd.panicked [(AV.iface (117) (AV.agg [AV.int IntKind.i64 (9)]), false)] = AEnd.returned
 (AV.agg [AV.int IntKind.i64 (Ty.kind r), AV.int IntKind.i64 (Ty.n r), AV.isl (Ty.nl r) none (0) (encL (Ty.l r))]) ∧ encM es_1 = encM es ∧ c = c ∧ 0 = 0 ∧ True) (AEnd.returned (AV.agg [AV.int IntKind.i64 (Ty.kind (pwT es_1 (Ty.mk (Ty.kind (cleanT (Ty.mk (Ty.kind t) (Ty.n t) (Ty.nl t) l))) (Ty.n (cleanT (Ty.mk (Ty.kind t) (Ty.n t) (Ty.nl t) l))) (Ty.nl (cleanT (Ty.mk (Ty.kind t) (Ty.n t) (Ty.nl t) l))) l_1))), AV.int IntKind.i64 (Ty.n (pwT es_1 (Ty.mk (Ty.kind (cleanT (Ty.mk (Ty.kind t) (Ty.n t) (Ty.nl t) l)))
 (Ty.n (cleanT (Ty.mk (Ty.kind t) (Ty.n t) (Ty.nl t) l))) (Ty.nl (cleanT (Ty.mk (Ty.kind t) (Ty.n t) (Ty.nl t) l))) l_1))), AV.isl (Ty.nl (pwT es_1 (Ty.mk (Ty.kind (cleanT (Ty.mk (Ty.kind t) (Ty.n t) (Ty.nl t) l))) (Ty.n (cleanT (Ty.mk (Ty.kind t) (Ty.n t) (Ty.nl t) l))) (Ty.nl (cleanT (Ty.mk (Ty.kind t) (Ty.n t) (Ty.nl t) l))) l_1))) none (0) (encL (Ty.l (pwT es_1 (Ty.mk (Ty.kind (cleanT (Ty.mk (Ty.kind t) (Ty.n t) (Ty.nl t) l))) (Ty.n (cleanT (Ty.mk (Ty.kind t) (Ty.n t) (Ty.nl t) l))) (Ty.nl (cleanT (Ty.mk (Ty.kind t) (Ty.n t) (Ty.nl t) l))) l_1))))]) = AEnd.returned
 (AV.agg [AV.int IntKind.i64 (Ty.kind r), AV.int IntKind.i64 (Ty.n r), AV.isl (Ty.nl r) none (0) (encL (Ty.l r))]) ∧ encM es_1 = encM es ∧ c = c ∧ 0 = 0 ∧ True))))) := by kernel_rfl

end Go.Proofs.YtnmolpkkemljoaaGreatDoor
end
end

section
set_option maxRecDepth 100000
set_option linter.unusedSimpArgs false
set_option linter.unusedVariables false
noncomputable section
namespace Go.Proofs.YtnmolpkkemljoaaGreatDoor
open Go Go.Am Kd

theorem pwalk_hook0 : HSpec.Ok Tryz.prog g0 118 pwalkH0 := by
  intro args A K h'
  unfold pwalkH0 at h'
  split at h'
  · obtain ⟨t, rfl, h⟩ := argTy_elim h'
    obtain ⟨es, c, left, ⟨h2, h3, h4, h5⟩, h⟩ := argPw_elim h
    obtain ⟨hK, hr⟩ := FuncJ.on (n := 6) h (pwalk_ok es c left _ t h2 h3 h4 h5) (pwA_ok ..) (pwA_ok ..) (by simp [AV.bndL, AV.bnd, AV.still_bnd, enc_still]) (by simp [AEnd.bnd, AV.still_bnd, encD_still])
    exact ⟨_, hr, hK⟩
  · exact h'.elim

theorem put_ok (es : List (Int × Ty × Nat)) (c : Nat) (t : Ty) (h : putOk es t) : FJ 83 [.map 0, enc t] (mapA es c) (hpIs 0 (.returned (encD (pwT es (cleanT t)))) (mapA es c)) := by
  have hh : Hooks.Ok Tryz.prog g0 ptHk := mkHooks_ok (all_cons kcl_hook0 (all_cons valid_hook all_nil)) (all_cons pwalk_hook0 all_nil) all_nil
  obtain ⟨h1, h2, h3, h4, h5⟩ := h
  rw [enc_D]
  refine FuncJ.run (el := els) (mu := mu0) (hk := ptHk) hmix hh (n := 60) ?_
  show runF ptHk 60 83 [.map 0, encD t] (mapA es c) _
  rw [pt_top]
  simp only [eq_self, true_and, and_true, SubR_id, ex_encM, ex_enc, Ty.eta, iC, h5, Bool.not_true, bR_f]
  exact ⟨h2, ⟨h1, h3, by omega, nn 940⟩, by omega⟩

theorem put_hook : HSpec.Ok Tryz.prog g0 83 putH := by
  intro args A K h'
  unfold putH at h'
  split at h'
  · obtain ⟨t, rfl, h⟩ := argTy_elim h'
    split at h
    · rename_i b t' m c hb
      obtain ⟨es, rfl, hp, hK⟩ := h
      rw [nthR_eq] at hb
      have hr := FuncJ.one (A := A) (b := b) (x' := .map (encM es) c) (put_ok es c t hp) (by simp [AV.stillL, enc_still]) (by simp [ABlk.bnd, encM_bnd]) (by simp [ABlk.bnd, encM_bnd]) (by simp [ABlk.bnd, encM_bnd]) (by simp [AEnd.bnd, AV.still_bnd, encD_still]) (by simp) (by simp) hb
      exact ⟨_, hr, hK⟩
    · exact h.elim
  · exact h'.elim

end Go.Proofs.YtnmolpkkemljoaaGreatDoor
end
end

section
namespace Kd
open Go.Am Go.Proofs.YtnmolpkkemljoaaGreatDoor
def numM : List Int → Nat → List (Int × Ty × Nat)
  | [], _ => []
  | n :: m, i => (n, varT i, i) :: numM m (i + 1)
def varsL (t : Ty) : List Int := firstT t []
end Kd
noncomputable section
namespace Go.Proofs.YtnmolpkkemljoaaGreatDoor
open Go Go.Am Kd

def kvarsQ : QSpec
  | [t], K => argTy t fun t => (cnt t ≤ 1000) ∧ bothR (validB t) (K (.tup [.isl (nilB (varsL t)) none 0 (encI (varsL t)), .int .i64 0])) (K (.tup [.isl true none 0 [], .int .i64 1]))
  | _, _ => False

def nmFr (ix : List (Nat × AV)) : AAct := ⟨(frm 35 ([(1, .ptr 0 0), (2, .ptr 1 0), (3, .ptr 2 0), (6, .map 3), (19, .map 3)] ++ ix)).tmps, [.fn (.func 88) [] [.ptr 2 0]]⟩
def nmH (t : Ty) (es : List (Int × Ty × Nat)) (c : Nat) : AH := ⟨[tyC t, top3, .cells [.int .i64 0] 28, .map (encM es) c], []⟩
def nmSt (t : Ty) (b : Bool) (l : List Int) : LSt Nat Nat where
  n := 4
  nf := 0
  rd := none
  fr x := nmFr [(20, .isl b none 0 (encI l)), (21, .int .i64 (encI l).length), (22, .int .i64 x)]
  hp x := nmH t (numM (l.take x) 0) x
  inv x := x ≤ l.length ∧ l.Nodup ∧ l.length ≤ 1000
  res _ := 0
  sel _ := true
  out _ _ := ⟨.exit 0, nmFr [], nmH t (numM l 0) l.length⟩
def nmHk (t : Ty) : Hooks := mkHooks Tryz.prog [(36, kvarsQ)] [(83, putH)] [(6, ⟨38, 0, (nmSt t (nilB (varsL t)) (varsL t)).spec⟩)]

end Go.Proofs.YtnmolpkkemljoaaGreatDoor
end
end

section
noncomputable section
namespace Go.Proofs.YtnmolpkkemljoaaGreatDoor
open Go Go.Am Kd
set_option maxRecDepth 100000

theorem nm_loop (t : Ty) (b : Bool) (l : List Int) (meas : Nat → Nat) (x : Nat) : (runL hk0 60 38 0 (nmSt t b l) meas x) = ( bothR (decide (iC x < iC (List.length (encI l)))) (0 ≤ iC x ∧ ∃ x_1, (encI l)[Int.toNat (iC x)]? = some (AV.int IntKind.i64 x_1) ∧ ((keyFind (AV.int IntKind.i64 x_1) (encM (numM (List.take x l) 0)) 0 = some none ∧ ∃ y, (y ≤ List.length l ∧ List.Nodup l ∧ List.length l ≤ 1000) ∧ meas y < meas x ∧ 0 = 0 ∧ AV.ptr (0) (0) = AV.ptr (0) (0) ∧ AV.ptr (1) (0) = AV.ptr (1) (0) ∧ AV.ptr (2) (0) = AV.ptr (2) (0) ∧ AV.map (3) = AV.map (3) ∧ AV.map (3) = AV.map (3) ∧
 AV.isl b none (0) (encI l) = AV.isl b none (0) (encI l) ∧ AV.int IntKind.i64 (iC (List.length (encI l))) = AV.int IntKind.i64 (iC (List.length (encI l))) ∧ AV.int IntKind.i64 (IntKind.wrap IntKind.i64 (iC x + (1 : Int))) = AV.int IntKind.i64 (iC y) ∧ [ADef.fn (Fn.func (88)) [] [AV.ptr (2) (0)]] = [ADef.fn (Fn.func (88)) [] [AV.ptr (2) (0)]] ∧ 24 = 24 ∧ AV.int IntKind.i64 (Ty.kind t) = AV.int IntKind.i64 (Ty.kind t) ∧ AV.int IntKind.i64 (Ty.n t) = AV.int IntKind.i64 (Ty.n t) ∧ AV.isl (Ty.nl t) none (0) (encL (Ty.l t)) = AV.isl (Ty.nl t) none (0) (encL (Ty.l t)) ∧ 24 = 24 ∧ 28 = 28 ∧
 SubR [AV.int IntKind.i64 (0)] [AV.int IntKind.i64 (0)] (encM (numM (List.take x l) 0) ++ [(AV.int IntKind.i64 x_1, AV.agg [AV.int IntKind.i64 (6), AV.int IntKind.i64 (iC x), AV.isl true none (0) []], x)] = encM (numM (List.take y l) 0) ∧ x + 1 = y ∧ 0 = 0 ∧ True)) ∨ ∃ j y c, keyFind (AV.int IntKind.i64 x_1) (encM (numM (List.take x l) 0)) 0 = some (some (j, y)) ∧ (encM (numM (List.take x l) 0))[j]? = some (AV.int IntKind.i64 x_1, y, c) ∧ ∃ y, (y ≤ List.length l ∧ List.Nodup l ∧ List.length l ≤ 1000) ∧ meas y < meas x ∧ 0 = 0 ∧ AV.ptr (0) (0) = AV.ptr (0) (0) ∧
 AV.ptr (1) (0) = AV.ptr (1) (0) ∧ AV.ptr (2) (0) = AV.ptr (2) (0) ∧ AV.map (3) = AV.map (3) ∧ AV.map (3) = AV.map (3) ∧ AV.isl b none (0) (encI l) = AV.isl b none (0) (encI l) ∧ AV.int IntKind.i64 (iC (List.length (encI l))) = AV.int IntKind.i64 (iC (List.length (encI l))) ∧ AV.int IntKind.i64 (IntKind.wrap IntKind.i64 (iC x + (1 : Int))) = AV.int IntKind.i64 (iC y) ∧ [ADef.fn (Fn.func (88)) [] [AV.ptr (2) (0)]] = [ADef.fn (Fn.func (88)) [] [AV.ptr (2) (0)]] ∧ 24 = 24 ∧ AV.int IntKind.i64 (Ty.kind t) = AV.int IntKind.i64 (Ty.kind t) ∧
 AV.int IntKind.i64 (Ty.n t) = AV.int IntKind.i64 (Ty.n t) ∧ AV.isl (Ty.nl t) none (0) (encL (Ty.l t)) = AV.isl (Ty.nl t) none (0) (encL (Ty.l t)) ∧ 24 = 24 ∧ 28 = 28 ∧ SubR [AV.int IntKind.i64 (0)] [AV.int IntKind.i64 (0)] (List.set (encM (numM (List.take x l) 0)) j (AV.int IntKind.i64 x_1, AV.agg [AV.int IntKind.i64 (6), AV.int IntKind.i64 (iC x), AV.isl true none (0) []], c) = encM (numM (List.take y l) 0) ∧ x = y ∧ 0 = 0 ∧ True))) (true = true ∧ AV.ptr (0) (0) = AV.ptr (0) (0) ∧ AV.ptr (1) (0) = AV.ptr (1) (0) ∧ AV.ptr (2) (0) = AV.ptr (2) (0) ∧ AV.map (3) = AV.map (3) ∧
 AV.map (3) = AV.map (3) ∧ [ADef.fn (Fn.func (88)) [] [AV.ptr (2) (0)]] = [ADef.fn (Fn.func (88)) [] [AV.ptr (2) (0)]] ∧ 24 = 24 ∧ AV.int IntKind.i64 (Ty.kind t) = AV.int IntKind.i64 (Ty.kind t) ∧ AV.int IntKind.i64 (Ty.n t) = AV.int IntKind.i64 (Ty.n t) ∧ AV.isl (Ty.nl t) none (0) (encL (Ty.l t)) = AV.isl (Ty.nl t) none (0) (encL (Ty.l t)) ∧ 24 = 24 ∧ 28 = 28 ∧ SubR [AV.int IntKind.i64 (0)] [AV.int IntKind.i64 (0)] (encM (numM (List.take x l) 0) = encM (numM l 0) ∧ x = List.length l ∧ 0 = 0 ∧ True))) := by kernel_rfl

theorem nm_top (t r : Ty) (e : Int) : (runF (nmHk t) 60 38 [encD t] AH.nil (retIs Tryz.prog 5 (.tup [encD r, .int .i64 e]))) = ( ∃ l, encL (Ty.l t) = encL l ∧ cnt (Ty.mk (Ty.kind t) (Ty.n t) (Ty.nl t) l) ≤ 1000 ∧ bothR (validB (Ty.mk (Ty.kind t) (Ty.n t) (Ty.nl t) l)) (codeIs (loopOf Tryz.prog 38 0) Tryz.prog 38 0 (∃ x, (x ≤ List.length (varsL t) ∧ List.Nodup (varsL t) ∧ List.length (varsL t) ≤ 1000) ∧ AV.ptr (0) (0) = AV.ptr (0) (0) ∧ AV.ptr (1) (0) = AV.ptr (1) (0) ∧ AV.ptr (2) (0) = AV.ptr (2) (0) ∧ AV.map (3) = AV.map (3) ∧ AV.map (3) = AV.map (3) ∧
 AV.isl (nilB (varsL (Ty.mk (Ty.kind t) (Ty.n t) (Ty.nl t) l))) none (0) (encI (varsL (Ty.mk (Ty.kind t) (Ty.n t) (Ty.nl t) l))) = AV.isl (nilB (varsL t)) none (0) (encI (varsL t)) ∧ AV.int IntKind.i64 (iC (List.length (encI (varsL (Ty.mk (Ty.kind t) (Ty.n t) (Ty.nl t) l))))) = AV.int IntKind.i64 (iC (List.length (encI (varsL t)))) ∧ AV.int IntKind.i64 (0) = AV.int IntKind.i64 (iC x) ∧ [ADef.fn (Fn.func (88)) [] [AV.ptr (2) (0)]] = [ADef.fn (Fn.func (88)) [] [AV.ptr (2) (0)]] ∧ 24 = 24 ∧ AV.int IntKind.i64 (Ty.kind t) = AV.int IntKind.i64 (Ty.kind t) ∧
 AV.int IntKind.i64 (Ty.n t) = AV.int IntKind.i64 (Ty.n t) ∧ AV.isl (Ty.nl t) none (0) (encL (Ty.l t)) = AV.isl (Ty.nl t) none (0) (encL (Ty.l t)) ∧ 24 = 24 ∧ 28 = 28 ∧ SubR [AV.int IntKind.i64 (0)] [AV.int IntKind.i64 (0)] ([] = encM (numM (List.take x (varsL t)) 0) ∧ 0 = x ∧ 0 = 0 ∧ ∃ l, encL (Ty.l t) = encL l ∧ ∃ es, encM (numM (varsL t) 0) = encM es ∧ (okT (cleanT (Ty.mk (Ty.kind t) (Ty.n t) (Ty.nl t) l)) = true ∧ okT (Ty.mk (Ty.kind t) (Ty.n t) (Ty.nl t) l) = true ∧ okMs es ∧ cnt (pwT es (cleanT (Ty.mk (Ty.kind t) (Ty.n t) (Ty.nl t) l))) ≤ 60 ∧
 validB (pwT es (cleanT (Ty.mk (Ty.kind t) (Ty.n t) (Ty.nl t) l))) = true) ∧ AV.tup [AV.agg [AV.int IntKind.i64 (Ty.kind (pwT es (cleanT (Ty.mk (Ty.kind t) (Ty.n t) (Ty.nl t) l)))), AV.int IntKind.i64 (Ty.n (pwT es (cleanT (Ty.mk (Ty.kind t) (Ty.n t) (Ty.nl t) l)))), AV.isl (Ty.nl (pwT es (cleanT (Ty.mk (Ty.kind t) (Ty.n t) (Ty.nl t) l)))) none (0) (encL (Ty.l (pwT es (cleanT (Ty.mk (Ty.kind t) (Ty.n t) (Ty.nl t) l)))))], AV.int IntKind.i64 (0)] = AV.tup [AV.agg [AV.int IntKind.i64 (Ty.kind r), AV.int IntKind.i64 (Ty.n r), AV.isl (Ty.nl r) none (0) (encL (Ty.l r))], AV.int IntKind.i64 e])))
 (AV.tup [AV.agg [AV.int IntKind.i64 (0), AV.int IntKind.i64 (0), AV.isl true none (0) []], AV.int IntKind.i64 (1)] = AV.tup [AV.agg [AV.int IntKind.i64 (Ty.kind r), AV.int IntKind.i64 (Ty.n r), AV.isl (Ty.nl r) none (0) (encL (Ty.l r))], AV.int IntKind.i64 e])) := by kernel_rfl

end Go.Proofs.YtnmolpkkemljoaaGreatDoor
end
end

section
set_option maxRecDepth 100000
set_option linter.unusedSimpArgs false
set_option linter.unusedVariables false
namespace Kd
open Go.Am Go.Proofs.YtnmolpkkemljoaaGreatDoor

theorem numM_snoc : ∀ (m : List Int) (n : Int) (i : Nat), numM (m ++ [n]) i = numM m i ++ [(n, varT ((i + m.length : Nat) : Int), i + m.length)]
  | [], n, i => rfl
  | x :: m, n, i => by
    simp only [List.cons_append, numM, numM_snoc m n (i + 1), List.length_cons]
    rw [show i + 1 + m.length = i + (m.length + 1) by omega]
theorem boundM_num : ∀ (m : List Int) (n : Int) (i : Nat), n ∉ m → boundM (numM m i) n = none
  | [], n, i, _ => rfl
  | x :: m, n, i, h => by
    simp only [List.mem_cons, not_or] at h
    simp only [numM, boundM, if_neg h.1]
    exact boundM_num m n (i + 1) h.2
theorem addV_nodup {l : List Int} (h : l.Nodup) (n : Int) : (addV l n).Nodup := by
  unfold addV
  split
  · exact h
  · rename_i hn
    rw [List.nodup_append]
    refine ⟨h, by simp, fun a ha b hb => ?_⟩
    simp at hb
    subst hb
    intro e
    subst e
    exact hn (by simpa using ha)
theorem first_nodup : ∀ (t : Ty) (l : List Int), l.Nodup → (firstT t l).Nodup := by
  have key : ∀ (N : Nat), (∀ (t : Ty) (l : List Int), SizeOf.sizeOf t < N → l.Nodup → (firstT t l).Nodup) ∧ ∀ (ts : List Ty) (l : List Int), SizeOf.sizeOf ts < N → l.Nodup → (firstL ts l).Nodup := by
    intro N
    induction N with
    | zero => exact ⟨fun _ _ h => by omega, fun _ _ h => by omega⟩
    | succ N ih =>
      obtain ⟨ih1, ih2⟩ := ih
      constructor
      · intro t l ht hl
        cases t with
        | mk k n b ts =>
          simp only [Ty.mk.sizeOf_spec] at ht
          simp only [firstT]
          refine ih2 ts _ (by omega) ?_
          split
          · exact addV_nodup hl n
          · exact hl
      · intro ts l ht hl
        cases ts with
        | nil => exact hl
        | cons x xs =>
          simp only [List.cons.sizeOf_spec] at ht
          simp only [firstL]
          exact ih2 xs _ (by omega) (ih1 x l (by omega) hl)
  exact fun t l => (key (SizeOf.sizeOf t + 1)).1 t l (by omega)
end Kd
noncomputable section
namespace Go.Proofs.YtnmolpkkemljoaaGreatDoor
open Go Go.Am Kd

theorem kvars_hook : QSpec.Ok Tryz.prog g0 36 kvarsQ := by
  intro args K h'
  unfold kvarsQ at h'
  split at h'
  · obtain ⟨t, rfl, h1, h2⟩ := argTy_elim h'
    refine ⟨_, kvars_ok t h1, ?_⟩
    cases h : validB t with
    | true => rw [h] at h2; exact h2
    | false => rw [h] at h2; exact h2
  · exact h'.elim

theorem nm_loop_ok (t : Ty) (b : Bool) (l : List Int) : LHook.Ok Tryz.prog g0 ⟨38, 0, (nmSt t b l).spec⟩ := by
  refine LSt.by (hk := hk0) (nmSt t b l) (fun x => l.length - x) hk0_ok rfl ?_ ?_ ?_
  · intro x _
    exact ⟨rfl, rfl, frm_bnd (by simp [AV.bnd, AV.still_bndL, encI_still, nmSt]), by simp [nmSt, nmFr, ADef.bnd, AV.bndL, AV.bnd], by simp [nmSt, nmH, top3, tyC, ABlk.bnd, AV.bnd, AV.bndL, encM_bnd, encL_bnd]⟩
  · intro x b' _
    exact ⟨rfl, rfl, frm_bnd (by simp [AV.bnd, AV.still_bndL, encI_still, nmSt]), by simp [nmSt, nmFr, ADef.bnd, AV.bndL, AV.bnd], by simp [nmSt, nmH, top3, tyC, ABlk.bnd, AV.bnd, AV.bndL, encM_bnd, encL_bnd]⟩
  · rintro i ⟨hi, hnd, hlen⟩
    rw [nm_loop]
    simp only [iC, encI_length, eq_self, true_and, and_true, Int.toNat_natCast, AV.int.injEq, SubR_id]
    refine bothR_dec (fun hlt => ?_) fun hge => ?_
    · have hi' : i < l.length := by omega
      rw [ex_int hi']
      have hn : l[i] ∉ l.take i := by
        intro hm
        obtain ⟨j, hj, he⟩ := List.getElem_of_mem hm
        simp only [List.length_take] at hj
        rw [List.getElem_take] at he
        have := (List.getElem_inj (h₀ := by omega) (h₁ := hi') hnd).1 he
        omega
      have ht : l.take (i + 1) = l.take i ++ [l[i]] := by rw [List.take_add_one, List.getElem?_eq_getElem hi']; rfl
      refine ⟨by omega, .inl ⟨keyFind_none (boundM_num _ _ 0 hn) 0, i + 1, ⟨by omega, hnd, hlen⟩, by omega, ?_, ?_⟩⟩
      · rw [wrap_id (by omega) (by omega)]; rfl
      · rw [ht, numM_snoc]
        have hl : (l.take i).length = i := by simp; omega
        rw [hl, Nat.zero_add]
        simp only [encM, List.map_append, List.map_cons, List.map_nil, entM]
        exact ⟨rfl, trivial⟩
    · have : i = l.length := by omega
      rw [this, List.take_length]
      exact ⟨rfl, rfl⟩

theorem knumber_ok (t : Ty) (hc : cnt t ≤ 1000) (hp : validB t = true → putOk (numM (varsL t) 0) t) : QJ 38 [enc t] (if validB t = true then .tup [encD (pwT (numM (varsL t) 0) (cleanT t)), .int .i64 0] else .tup [encD (.mk 0 0 true []), .int .i64 1]) := by
  have hh : Hooks.Ok Tryz.prog g0 (nmHk t) := mkHooks_ok (all_cons kvars_hook all_nil) (all_cons put_hook all_nil) (all_cons (nm_loop_ok _ _ _) all_nil)
  have hl := (first_len t []).2
  simp only [List.length_nil, Nat.zero_add] at hl
  rw [enc_D]
  by_cases h : validB t = true
  · rw [if_pos h]
    refine QJ.by (hk := nmHk t) (by simp [AV.stillL, encD_still]) (by simp [AV.still, AV.stillL, encD_still]) hh ?_
    rw [nm_top]
    simp only [ex_enc, Ty.eta, h, bR_t, eq_self, true_and, and_true, SubR_id, codeIs_self, ex_encM, iC]
    refine ⟨hc, 0, ⟨by omega, first_nodup t [] (by simp), by simpa [varsL] using (by omega)⟩, rfl, rfl, rfl, hp h⟩
  · rw [if_neg h]
    simp only [Bool.not_eq_true] at h
    refine QJ.by (hk := nmHk t) (by simp [AV.stillL, encD_still]) rfl hh ?_
    rw [nm_top]
    simp only [ex_enc, Ty.eta, h, bR_f]
    exact ⟨hc, rfl⟩

end Go.Proofs.YtnmolpkkemljoaaGreatDoor
end
end

section
set_option maxRecDepth 100000
set_option linter.unusedSimpArgs false
set_option linter.unusedVariables false
namespace Kd
open Go.Am Go.Proofs.YtnmolpkkemljoaaGreatDoor

theorem ok_mk {k n : Int} {b : Bool} {l : List Ty} (h1 : NodeOk (.mk k n b l)) (h2 : okL l = true) : okT (.mk k n b l) = true := by
  simp only [okT, Bool.and_eq_true, decide_eq_true_eq]
  exact ⟨h1, h2⟩
theorem node_of {k n m : Int} {b b' : Bool} {l l' : List Ty} (h : NodeOk (.mk k n b l)) (hl : l'.length = l.length) (hm : k = 6 → m = n) : NodeOk (.mk k m b' l') := by
  simp only [NodeOk] at h ⊢
  obtain ⟨h1, h2, h3, h4, h5, h6⟩ := h
  rw [hl]
  exact ⟨h1, h2, h3, h4, h5, fun h => by rw [hm h]; exact h6 h⟩
theorem ok_var {j : Int} (h1 : 0 ≤ j) (h2 : j < 1000) : okT (varT j) = true :=
  ok_mk (by simp only [NodeOk]; exact ⟨by omega, by omega, fun _ => rfl, by omega, by omega, fun _ => ⟨h1, h2⟩⟩) rfl

theorem ok_clean : ∀ t, okT t = true → okT (cleanT t) = true := by
  have key : ∀ (N : Nat), (∀ t, SizeOf.sizeOf t < N → okT t = true → okT (cleanT t) = true) ∧ ∀ l, SizeOf.sizeOf l < N → okL l = true → okL (cleanL l) = true := by
    intro N
    induction N with
    | zero => exact ⟨fun _ h => by omega, fun _ h => by omega⟩
    | succ N ih =>
      obtain ⟨ih1, ih2⟩ := ih
      constructor
      · intro t ht h
        cases t with
        | mk k n b l =>
          simp only [Ty.mk.sizeOf_spec] at ht
          obtain ⟨h1, h2⟩ := ok_node h
          simp only [cleanT]
          exact ok_mk (node_of h1 (cleanL_len l) fun h => by rw [if_pos h]) (ih2 l (by omega) h2)
      · intro l hl h
        cases l with
        | nil => rfl
        | cons x xs =>
          simp only [List.cons.sizeOf_spec] at hl
          simp only [okL, Bool.and_eq_true] at h
          simp only [cleanL, okL, Bool.and_eq_true]
          exact ⟨ih1 x (by omega) h.1, ih2 xs (by omega) h.2⟩
  exact fun t => (key (SizeOf.sizeOf t + 1)).1 t (by omega)

theorem bM_bO : ∀ (m : List Int) (n : Int) (i : Nat), boundM (numM m i) n = boundO (numB m i) n
  | [], _, _ => rfl
  | x :: m, n, i => by
    simp only [numM, numB, boundM, boundO]
    by_cases h : n = x
    · rw [if_pos h, if_pos h.symm]
    · rw [if_neg h, if_neg (fun e => h e.symm)]
      exact bM_bO m n (i + 1)
theorem nil_clean (l : List Ty) : nilB (cleanL l) = nilB l := by simp only [nilB, cleanL_len]

theorem pw_with {es : List (Int × Ty × Nat)} {bs : List (Int × Ty)} (hb : ∀ n, boundM es n = boundO bs n) : ∀ t, okT t = true → pwT es (cleanT t) = withT bs t := by
  have key : ∀ (N : Nat), (∀ t, SizeOf.sizeOf t < N → okT t = true → pwT es (cleanT t) = withT bs t) ∧ ∀ l, SizeOf.sizeOf l < N → okL l = true → pwL es (cleanL l) = withL bs l := by
    intro N
    induction N with
    | zero => exact ⟨fun _ h => by omega, fun _ h => by omega⟩
    | succ N ih =>
      obtain ⟨ih1, ih2⟩ := ih
      constructor
      · intro t ht h
        cases t with
        | mk k n b l =>
          simp only [Ty.mk.sizeOf_spec] at ht
          obtain ⟨h1, h2⟩ := ok_node h
          by_cases h6 : k = 6
          · simp only [NodeOk] at h1
            have hl : l = [] := List.eq_nil_of_length_eq_zero (h1.2.2.1 (.inr (.inr h6)))
            subst h6 hl
            simp only [cleanT, cleanL, pwT, withT, if_true, true_and, hb, boundT]
            cases boundO bs n with
            | none => simp [varT, cleanT, cleanL, nilB, pwL]
            | some u => simp
          · simp only [cleanT, pwT, withT, h6, if_false, false_and, nil_clean, ih2 l (by omega) h2]
      · intro l hl h
        cases l with
        | nil => rfl
        | cons x xs =>
          simp only [List.cons.sizeOf_spec] at hl
          simp only [okL, Bool.and_eq_true] at h
          simp only [cleanL, pwL, withL, ih1 x (by omega) h.1, ih2 xs (by omega) h.2]
  exact fun t => (key (SizeOf.sizeOf t + 1)).1 t (by omega)

theorem numB_bound : ∀ (m : List Int) (n : Int) (i : Nat) (u : Ty), boundO (numB m i) n = some u → ∃ j : Nat, u = varT j ∧ j < i + m.length
  | [], _, _, _, h => by cases h
  | x :: m, n, i, u, h => by
    simp only [numB, boundO] at h
    split at h
    · cases h; exact ⟨i, rfl, by simp⟩
    · obtain ⟨j, h1, h2⟩ := numB_bound m n (i + 1) u h
      exact ⟨j, h1, by simp only [List.length_cons]; omega⟩

/-- Other numbers for variables: all else stays. -/
theorem with_vars {bs : List (Int × Ty)} (hb : ∀ n u, boundO bs n = some u → ∃ j : Int, u = varT j ∧ 0 ≤ j ∧ j < 1000) : ∀ t, okT t = true → okT (withT bs t) = true ∧ cnt (withT bs t) = cnt t ∧ depT (withT bs t) = depT t := by
  have key : ∀ (N : Nat), (∀ t, SizeOf.sizeOf t < N → okT t = true → okT (withT bs t) = true ∧ cnt (withT bs t) = cnt t ∧ depT (withT bs t) = depT t) ∧
      ∀ l, SizeOf.sizeOf l < N → okL l = true → okL (withL bs l) = true ∧ cntL (withL bs l) = cntL l ∧ ∀ n, depG (withL bs l) n = depG l n := by
    intro N
    induction N with
    | zero => exact ⟨fun _ h => by omega, fun _ h => by omega⟩
    | succ N ih =>
      obtain ⟨ih1, ih2⟩ := ih
      constructor
      · intro t ht h
        cases t with
        | mk k n b l =>
          simp only [Ty.mk.sizeOf_spec] at ht
          obtain ⟨h1, h2⟩ := ok_node h
          by_cases h6 : k = 6
          · simp only [NodeOk] at h1
            have hl : l = [] := List.eq_nil_of_length_eq_zero (h1.2.2.1 (.inr (.inr h6)))
            have hn := h1.2.2.2.2.2 h6
            subst h6 hl
            have : ∃ j : Int, withT bs (.mk 6 n b []) = varT j ∧ 0 ≤ j ∧ j < 1000 := by
              simp only [withT, if_true, boundT]
              cases hq : boundO bs n with
              | none => exact ⟨n, by simp [varT, cleanT, cleanL, nilB], hn.1, hn.2⟩
              | some u =>
                obtain ⟨j, rfl, h3, h4⟩ := hb n u hq
                exact ⟨j, by simp [varT, cleanT, cleanL, nilB], h3, h4⟩
            obtain ⟨j, e, h3, h4⟩ := this
            rw [e]
            exact ⟨ok_var h3 h4, by simp [varT, cnt, cntL], by simp [varT, depT, depG]⟩
          · obtain ⟨r1, r2, r3⟩ := ih2 l (by omega) h2
            have e : withT bs (.mk k n b l) = .mk k 0 (nilB l) (withL bs l) := by simp only [withT, h6, if_false]
            rw [e]
            exact ⟨ok_mk (node_of h1 (withL_len bs l) fun h => absurd h h6) r1, by simp only [cnt, r2], by simp only [depT, r3]⟩
      · intro l hl h
        cases l with
        | nil => exact ⟨rfl, rfl, fun _ => rfl⟩
        | cons x xs =>
          simp only [List.cons.sizeOf_spec] at hl
          simp only [okL, Bool.and_eq_true] at h
          obtain ⟨a1, a2, a3⟩ := ih1 x (by omega) h.1
          obtain ⟨b1, b2, b3⟩ := ih2 xs (by omega) h.2
          refine ⟨by simp only [withL, okL, a1, b1, Bool.and_self], by simp only [withL, cntL, a2, b2], fun n => by simp only [withL, depG, a3, b3]⟩
  exact fun t => (key (SizeOf.sizeOf t + 1)).1 t (by omega)

theorem vars_len (t : Ty) : (varsL t).length ≤ cnt t := by have := (first_len t []).2; simp only [List.length_nil, Nat.zero_add] at this; exact this

theorem num_ok {t : Ty} (h : validB t = true) : pwT (numM (varsL t) 0) (cleanT t) = numT t ∧ okT (numT t) = true ∧ cnt (numT t) = cnt t ∧ depT (numT t) = depT t ∧ validB (numT t) = true := by
  obtain ⟨h1, h2, h3⟩ := (valid_eq t).1 h
  have hv := vars_len t
  have e := pw_with (fun n => bM_bO (varsL t) n 0) t h3
  have hb : ∀ n u, boundO (numB (varsL t) 0) n = some u → ∃ j : Int, u = varT j ∧ 0 ≤ j ∧ j < 1000 := by
    intro n u hu
    obtain ⟨j, r1, r2⟩ := numB_bound _ _ _ _ hu
    exact ⟨j, r1, by omega, by omega⟩
  obtain ⟨w1, w2, w3⟩ := with_vars hb t h3
  refine ⟨e, w1, w2, w3, (valid_eq _).2 ⟨?_, ?_, w1⟩⟩
  · show depT (withT (numB (varsL t) 0) t) ≤ 12
    rw [w3]; exact h1
  · show cnt (withT (numB (varsL t) 0) t) ≤ 60
    rw [w2]; exact h2

theorem put_num {t : Ty} (h : validB t = true) : putOk (numM (varsL t) 0) t := by
  obtain ⟨h1, h2, h3⟩ := (valid_eq t).1 h
  obtain ⟨e, w1, w2, w3, w4⟩ := num_ok h
  have hv := vars_len t
  have key : ∀ (m : List Int) (i : Nat), i + m.length ≤ 1000 → okMs (numM m i) := by
    intro m
    induction m with
    | nil => intro i _ x hx; cases hx
    | cons n m ih =>
      intro i hi x hx
      simp only [List.length_cons] at hi
      simp only [numM, List.mem_cons] at hx
      rcases hx with rfl | hx
      · exact ⟨ok_var (by omega) (by omega), by simp [varT, cnt, cntL]⟩
      · exact ih (i + 1) (by omega) x hx
  exact ⟨ok_clean t h3, h3, key _ 0 (by omega), by rw [e, w2]; exact h2, by rw [e]; exact w4⟩
end Kd
noncomputable section
namespace Go.Proofs.YtnmolpkkemljoaaGreatDoor
open Go Go.Am Kd

theorem knum_ok (t : Ty) (hc : cnt t ≤ 1000) : QJ 38 [enc t] (if validB t = true then .tup [encD (numT t), .int .i64 0] else .tup [encD (.mk 0 0 true []), .int .i64 1]) := by
  have h := knumber_ok t hc fun h => put_num h
  by_cases hv : validB t = true
  · rw [if_pos hv] at h ⊢
    rw [(num_ok hv).1] at h
    exact h
  · rw [if_neg hv] at h ⊢
    exact h

end Go.Proofs.YtnmolpkkemljoaaGreatDoor
end
end

section
set_option linter.unusedSimpArgs false
namespace Kd
open Go.Am Go.Proofs.YtnmolpkkemljoaaGreatDoor

theorem sameB_refl : ∀ t, sameB t t = true := by
  have key : ∀ (N : Nat), (∀ t, SizeOf.sizeOf t < N → sameB t t = true) ∧ ∀ l, SizeOf.sizeOf l < N → sameL l l = true := by
    intro N
    induction N with
    | zero => exact ⟨fun _ h => by omega, fun _ h => by omega⟩
    | succ N ih =>
      obtain ⟨ih1, ih2⟩ := ih
      constructor
      · intro t ht
        cases t with
        | mk k n b l =>
          simp only [Ty.mk.sizeOf_spec] at ht
          simp [sameB, ih2 l (by omega)]
      · intro l hl
        cases l with
        | nil => rfl
        | cons x xs =>
          simp only [List.cons.sizeOf_spec] at hl
          simp only [sameL, ih1 x (by omega), ih2 xs (by omega), Bool.and_self]
  exact fun t => (key (SizeOf.sizeOf t + 1)).1 t (by omega)
theorem intsL_refl : ∀ l, intsL l l = true
  | [] => rfl
  | x :: l => by simp [intsL, intsL_refl l]
end Kd
end
