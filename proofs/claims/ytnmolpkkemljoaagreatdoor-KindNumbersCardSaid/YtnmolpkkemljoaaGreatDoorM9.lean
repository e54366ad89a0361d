/-
  What the proof is built of: The conditions of K33, evaluated. Bindings that are valid, many, and both Puts come to what they say. Both Puts come to what they say. A type is the same as itself, a list is. Conditions: none.
-/
import Derived.Test.YtnmolpkkemljoaaGreatDoorM8
section
noncomputable section
namespace Go.Proofs.YtnmolpkkemljoaaGreatDoor
open Go Go.Am Kd
set_option maxRecDepth 100000

theorem pp_loop (t : Ty) (b : Bool) (l : List (Int × Ty)) (meas : Nat → Nat) (x : Nat) : (runL ppHk 60 34 0 (ppSt t b l) meas x) = ( bothR (decide (iC x < iC (List.length (encB l)))) (0 ≤ iC x ∧ ∃ x_1, (encB l)[Int.toNat (iC x)]? = some (AV.agg [AV.int IntKind.i64 (Prod.fst x_1), AV.int IntKind.i64 (Ty.kind (Prod.snd x_1)), AV.int IntKind.i64 (Ty.n (Prod.snd x_1)), AV.isl (Ty.nl (Prod.snd x_1)) none (0) (encL (Ty.l (Prod.snd x_1)))]) ∧ (keyFind (AV.int IntKind.i64 (Prod.fst x_1)) (encM (Kd.bindM (List.take x l) 0)) 0 = some none ∧ bothR (decide ((0 : Int) ≤ Prod.fst x_1))
 (bothR (decide (Prod.fst x_1 < (1000 : Int))) (Int.NonNeg (0) ∧ ∃ x_2, some (AV.agg [AV.int IntKind.i64 (Ty.kind (Prod.snd x_1)), AV.int IntKind.i64 (Ty.n (Prod.snd x_1)), AV.isl (Ty.nl (Prod.snd x_1)) none (0) (encL (Ty.l (Prod.snd x_1)))]) = some (AV.agg [AV.int IntKind.i64 (Ty.kind x_2), AV.int IntKind.i64 (Ty.n x_2), AV.isl (Ty.nl x_2) none (0) (encL (Ty.l x_2))]) ∧ ∃ l_1, encL (Ty.l x_2) = encL l_1 ∧ cnt (Ty.mk (Ty.kind x_2) (Ty.n x_2) (Ty.nl x_2) l_1) ≤ 1000 ∧ bothR (!validB (Ty.mk (Ty.kind x_2) (Ty.n x_2) (Ty.nl x_2) l_1)) (([(AV.iface (117) (AV.agg [AV.int IntKind.i64 (1)]), false)] =
 [(AV.iface (117) (AV.agg [AV.int IntKind.i64 (1)]), false)] ∧ true = true) ∧ bindsG (List.take x l) (List.drop x l) = false ∧ AV.ptr (1) (0) = AV.ptr (1) (0) ∧ AV.ptr (2) (0) = AV.ptr (2) (0) ∧ [ADef.fn (Fn.func (82)) [] [AV.ptr (2) (0)]] = [ADef.fn (Fn.func (82)) [] [AV.ptr (2) (0)]] ∧ 24 = 24 ∧ AV.int IntKind.i64 (Ty.kind t) = AV.int IntKind.i64 (Ty.kind t) ∧ AV.int IntKind.i64 (Ty.n t) = AV.int IntKind.i64 (Ty.n t) ∧ AV.isl (Ty.nl t) none (0) (encL (Ty.l t)) = AV.isl (Ty.nl t) none (0) (encL (Ty.l t)) ∧ 24 = 24 ∧
 SubR [AV.int IntKind.i64 (0), AV.int IntKind.i64 (0), AV.isl true none (0) []] [AV.int IntKind.i64 (0), AV.int IntKind.i64 (0), AV.isl true none (0) []] (28 = 28 ∧ SubR [AV.int IntKind.i64 (0)] [AV.int IntKind.i64 (0)] (24 = 24 ∧ encM (Kd.bindM (List.take x l) 0) = encM (Kd.bindM (List.take (x + goodN (List.take x l) (List.drop x l)) l) 0) ∧ x = x + goodN (List.take x l) (List.drop x l) ∧ [(1, 3)] = [(1, 3)] ∧ True))) ((keyFind (AV.int IntKind.i64 (Prod.fst x_1)) (encM (Kd.bindM (List.take x l) 0)) 0 = some none ∧ ∃ y, (y ≤ List.length l ∧ List.length l ≤ 2000 ∧ allC l) ∧ meas y < meas x ∧
 (bindsG (List.take y l) (List.drop y l), y + goodN (List.take y l) (List.drop y l)) = (bindsG (List.take x l) (List.drop x l), x + goodN (List.take x l) (List.drop x l)) ∧ AV.ptr (0) (0) = AV.ptr (0) (0) ∧ AV.ptr (1) (0) = AV.ptr (1) (0) ∧ AV.ptr (2) (0) = AV.ptr (2) (0) ∧ AV.map (4) = AV.map (4) ∧ AV.map (4) = AV.map (4) ∧ AV.isl b none (0) (encB l) = AV.isl b none (0) (encB l) ∧ AV.int IntKind.i64 (iC (List.length (encB l))) = AV.int IntKind.i64 (iC (List.length (encB l))) ∧ AV.int IntKind.i64 (IntKind.wrap IntKind.i64 (iC x + (1 : Int))) = AV.int IntKind.i64 (iC y) ∧
 [ADef.fn (Fn.func (82)) [] [AV.ptr (2) (0)]] = [ADef.fn (Fn.func (82)) [] [AV.ptr (2) (0)]] ∧ 24 = 24 ∧ AV.int IntKind.i64 (Ty.kind t) = AV.int IntKind.i64 (Ty.kind t) ∧ AV.int IntKind.i64 (Ty.n t) = AV.int IntKind.i64 (Ty.n t) ∧ AV.isl (Ty.nl t) none (0) (encL (Ty.l t)) = AV.isl (Ty.nl t) none (0) (encL (Ty.l t)) ∧ 24 = 24 ∧ SubR [AV.int IntKind.i64 (0), AV.int IntKind.i64 (0), AV.isl true none (0) []] [AV.int IntKind.i64 (0), AV.int IntKind.i64 (0), AV.isl true none (0) []] (28 = 28 ∧ SubR [AV.int IntKind.i64 (0)] [AV.int IntKind.i64 (0)] (24 = 24 ∧ encM (Kd.bindM (List.take x l) 0) ++
 [(AV.int IntKind.i64 (Prod.fst x_1), AV.agg [AV.int IntKind.i64 (Ty.kind (Prod.snd x_1)), AV.int IntKind.i64 (Ty.n (Prod.snd x_1)), AV.isl (Ty.nl (Prod.snd x_1)) none (0) (encL (Ty.l (Prod.snd x_1)))], x)] = encM (Kd.bindM (List.take y l) 0) ∧ x + 1 = y ∧ [(1, 3)] = [(1, 3)] ∧ True))) ∨ ∃ j y c, keyFind (AV.int IntKind.i64 (Prod.fst x_1)) (encM (Kd.bindM (List.take x l) 0)) 0 = some (some (j, y)) ∧ (encM (Kd.bindM (List.take x l) 0))[j]? = some (AV.int IntKind.i64 (Prod.fst x_1), y, c) ∧ ∃ y, (y ≤ List.length l ∧ List.length l ≤ 2000 ∧ allC l) ∧ meas y < meas x ∧
 (bindsG (List.take y l) (List.drop y l), y + goodN (List.take y l) (List.drop y l)) = (bindsG (List.take x l) (List.drop x l), x + goodN (List.take x l) (List.drop x l)) ∧ AV.ptr (0) (0) = AV.ptr (0) (0) ∧ AV.ptr (1) (0) = AV.ptr (1) (0) ∧ AV.ptr (2) (0) = AV.ptr (2) (0) ∧ AV.map (4) = AV.map (4) ∧ AV.map (4) = AV.map (4) ∧ AV.isl b none (0) (encB l) = AV.isl b none (0) (encB l) ∧ AV.int IntKind.i64 (iC (List.length (encB l))) = AV.int IntKind.i64 (iC (List.length (encB l))) ∧ AV.int IntKind.i64 (IntKind.wrap IntKind.i64 (iC x + (1 : Int))) = AV.int IntKind.i64 (iC y) ∧
 [ADef.fn (Fn.func (82)) [] [AV.ptr (2) (0)]] = [ADef.fn (Fn.func (82)) [] [AV.ptr (2) (0)]] ∧ 24 = 24 ∧ AV.int IntKind.i64 (Ty.kind t) = AV.int IntKind.i64 (Ty.kind t) ∧ AV.int IntKind.i64 (Ty.n t) = AV.int IntKind.i64 (Ty.n t) ∧ AV.isl (Ty.nl t) none (0) (encL (Ty.l t)) = AV.isl (Ty.nl t) none (0) (encL (Ty.l t)) ∧ 24 = 24 ∧ SubR [AV.int IntKind.i64 (0), AV.int IntKind.i64 (0), AV.isl true none (0) []] [AV.int IntKind.i64 (0), AV.int IntKind.i64 (0), AV.isl true none (0) []] (28 = 28 ∧ SubR [AV.int IntKind.i64 (0)] [AV.int IntKind.i64 (0)] (24 = 24 ∧
 List.set (encM (Kd.bindM (List.take x l) 0)) j (AV.int IntKind.i64 (Prod.fst x_1), AV.agg [AV.int IntKind.i64 (Ty.kind (Prod.snd x_1)), AV.int IntKind.i64 (Ty.n (Prod.snd x_1)), AV.isl (Ty.nl (Prod.snd x_1)) none (0) (encL (Ty.l (Prod.snd x_1)))], c) = encM (Kd.bindM (List.take y l) 0) ∧ x = y ∧ [(1, 3)] = [(1, 3)] ∧ True)))) (([(AV.iface (117) (AV.agg [AV.int IntKind.i64 (1)]), false)] = [(AV.iface (117) (AV.agg [AV.int IntKind.i64 (1)]), false)] ∧ true = true) ∧ bindsG (List.take x l) (List.drop x l) = false ∧ AV.ptr (1) (0) = AV.ptr (1) (0) ∧ AV.ptr (2) (0) = AV.ptr (2) (0) ∧
 [ADef.fn (Fn.func (82)) [] [AV.ptr (2) (0)]] = [ADef.fn (Fn.func (82)) [] [AV.ptr (2) (0)]] ∧ 24 = 24 ∧ AV.int IntKind.i64 (Ty.kind t) = AV.int IntKind.i64 (Ty.kind t) ∧ AV.int IntKind.i64 (Ty.n t) = AV.int IntKind.i64 (Ty.n t) ∧ AV.isl (Ty.nl t) none (0) (encL (Ty.l t)) = AV.isl (Ty.nl t) none (0) (encL (Ty.l t)) ∧ 24 = 24 ∧ SubR [AV.int IntKind.i64 (0), AV.int IntKind.i64 (0), AV.isl true none (0) []] [AV.int IntKind.i64 (0), AV.int IntKind.i64 (0), AV.isl true none (0) []] (28 = 28 ∧ SubR [AV.int IntKind.i64 (0)] [AV.int IntKind.i64 (0)] (24 = 24 ∧
 encM (Kd.bindM (List.take x l) 0) = encM (Kd.bindM (List.take (x + goodN (List.take x l) (List.drop x l)) l) 0) ∧ x = x + goodN (List.take x l) (List.drop x l) ∧ [(1, 3)] = [(1, 3)] ∧ True)))) (([(AV.iface (117) (AV.agg [AV.int IntKind.i64 (1)]), false)] = [(AV.iface (117) (AV.agg [AV.int IntKind.i64 (1)]), false)] ∧ true = true) ∧ bindsG (List.take x l) (List.drop x l) = false ∧ AV.ptr (1) (0) = AV.ptr (1) (0) ∧ AV.ptr (2) (0) = AV.ptr (2) (0) ∧ [ADef.fn (Fn.func (82)) [] [AV.ptr (2) (0)]] = [ADef.fn (Fn.func (82)) [] [AV.ptr (2) (0)]] ∧ 24 = 24 ∧
 AV.int IntKind.i64 (Ty.kind t) = AV.int IntKind.i64 (Ty.kind t) ∧ AV.int IntKind.i64 (Ty.n t) = AV.int IntKind.i64 (Ty.n t) ∧ AV.isl (Ty.nl t) none (0) (encL (Ty.l t)) = AV.isl (Ty.nl t) none (0) (encL (Ty.l t)) ∧ 24 = 24 ∧ SubR [AV.int IntKind.i64 (0), AV.int IntKind.i64 (0), AV.isl true none (0) []] [AV.int IntKind.i64 (0), AV.int IntKind.i64 (0), AV.isl true none (0) []] (28 = 28 ∧ SubR [AV.int IntKind.i64 (0)] [AV.int IntKind.i64 (0)] (24 = 24 ∧ encM (Kd.bindM (List.take x l) 0) = encM (Kd.bindM (List.take (x + goodN (List.take x l) (List.drop x l)) l) 0) ∧
 x = x + goodN (List.take x l) (List.drop x l) ∧ [(1, 3)] = [(1, 3)] ∧ True))) ∨ ∃ j x_2, keyFind (AV.int IntKind.i64 (Prod.fst x_1)) (encM (Kd.bindM (List.take x l) 0)) 0 = some (some (j, AV.agg [AV.int IntKind.i64 (Ty.kind x_2), AV.int IntKind.i64 (Ty.n x_2), AV.isl (Ty.nl x_2) none (0) (encL (Ty.l x_2))])) ∧ bothR (decide ((0 : Int) ≤ Prod.fst x_1)) (bothR (decide (Prod.fst x_1 < (1000 : Int))) (([(AV.iface (117) (AV.agg [AV.int IntKind.i64 (1)]), false)] = [(AV.iface (117) (AV.agg [AV.int IntKind.i64 (1)]), false)] ∧ true = true) ∧ bindsG (List.take x l) (List.drop x l) = false ∧
 AV.ptr (1) (0) = AV.ptr (1) (0) ∧ AV.ptr (2) (0) = AV.ptr (2) (0) ∧ [ADef.fn (Fn.func (82)) [] [AV.ptr (2) (0)]] = [ADef.fn (Fn.func (82)) [] [AV.ptr (2) (0)]] ∧ 24 = 24 ∧ AV.int IntKind.i64 (Ty.kind t) = AV.int IntKind.i64 (Ty.kind t) ∧ AV.int IntKind.i64 (Ty.n t) = AV.int IntKind.i64 (Ty.n t) ∧ AV.isl (Ty.nl t) none (0) (encL (Ty.l t)) = AV.isl (Ty.nl t) none (0) (encL (Ty.l t)) ∧ 24 = 24 ∧ SubR [AV.int IntKind.i64 (0), AV.int IntKind.i64 (0), AV.isl true none (0) []] [AV.int IntKind.i64 (0), AV.int IntKind.i64 (0), AV.isl true none (0) []] (28 = 28 ∧
 SubR [AV.int IntKind.i64 (0)] [AV.int IntKind.i64 (0)] (24 = 24 ∧ encM (Kd.bindM (List.take x l) 0) = encM (Kd.bindM (List.take (x + goodN (List.take x l) (List.drop x l)) l) 0) ∧ x = x + goodN (List.take x l) (List.drop x l) ∧ [(1, 3)] = [(1, 3)] ∧ True))) (([(AV.iface (117) (AV.agg [AV.int IntKind.i64 (1)]), false)] = [(AV.iface (117) (AV.agg [AV.int IntKind.i64 (1)]), false)] ∧ true = true) ∧ bindsG (List.take x l) (List.drop x l) = false ∧ AV.ptr (1) (0) = AV.ptr (1) (0) ∧ AV.ptr (2) (0) = AV.ptr (2) (0) ∧ [ADef.fn (Fn.func (82)) [] [AV.ptr (2) (0)]] =
 [ADef.fn (Fn.func (82)) [] [AV.ptr (2) (0)]] ∧ 24 = 24 ∧ AV.int IntKind.i64 (Ty.kind t) = AV.int IntKind.i64 (Ty.kind t) ∧ AV.int IntKind.i64 (Ty.n t) = AV.int IntKind.i64 (Ty.n t) ∧ AV.isl (Ty.nl t) none (0) (encL (Ty.l t)) = AV.isl (Ty.nl t) none (0) (encL (Ty.l t)) ∧ 24 = 24 ∧ SubR [AV.int IntKind.i64 (0), AV.int IntKind.i64 (0), AV.isl true none (0) []] [AV.int IntKind.i64 (0), AV.int IntKind.i64 (0), AV.isl true none (0) []] (28 = 28 ∧ SubR [AV.int IntKind.i64 (0)] [AV.int IntKind.i64 (0)] (24 = 24 ∧
 encM (Kd.bindM (List.take x l) 0) = encM (Kd.bindM (List.take (x + goodN (List.take x l) (List.drop x l)) l) 0) ∧ x = x + goodN (List.take x l) (List.drop x l) ∧ [(1, 3)] = [(1, 3)] ∧ True)))) (([(AV.iface (117) (AV.agg [AV.int IntKind.i64 (1)]), false)] = [(AV.iface (117) (AV.agg [AV.int IntKind.i64 (1)]), false)] ∧ true = true) ∧ bindsG (List.take x l) (List.drop x l) = false ∧ AV.ptr (1) (0) = AV.ptr (1) (0) ∧ AV.ptr (2) (0) = AV.ptr (2) (0) ∧ [ADef.fn (Fn.func (82)) [] [AV.ptr (2) (0)]] = [ADef.fn (Fn.func (82)) [] [AV.ptr (2) (0)]] ∧ 24 = 24 ∧
 AV.int IntKind.i64 (Ty.kind t) = AV.int IntKind.i64 (Ty.kind t) ∧ AV.int IntKind.i64 (Ty.n t) = AV.int IntKind.i64 (Ty.n t) ∧ AV.isl (Ty.nl t) none (0) (encL (Ty.l t)) = AV.isl (Ty.nl t) none (0) (encL (Ty.l t)) ∧ 24 = 24 ∧ SubR [AV.int IntKind.i64 (0), AV.int IntKind.i64 (0), AV.isl true none (0) []] [AV.int IntKind.i64 (0), AV.int IntKind.i64 (0), AV.isl true none (0) []] (28 = 28 ∧ SubR [AV.int IntKind.i64 (0)] [AV.int IntKind.i64 (0)] (24 = 24 ∧ encM (Kd.bindM (List.take x l) 0) = encM (Kd.bindM (List.take (x + goodN (List.take x l) (List.drop x l)) l) 0) ∧
 x = x + goodN (List.take x l) (List.drop x l) ∧ [(1, 3)] = [(1, 3)] ∧ True))))) (bindsG (List.take x l) (List.drop x l) = true ∧ AV.ptr (0) (0) = AV.ptr (0) (0) ∧ AV.ptr (1) (0) = AV.ptr (1) (0) ∧ AV.ptr (2) (0) = AV.ptr (2) (0) ∧ AV.map (4) = AV.map (4) ∧ [ADef.fn (Fn.func (82)) [] [AV.ptr (2) (0)]] = [ADef.fn (Fn.func (82)) [] [AV.ptr (2) (0)]] ∧ 24 = 24 ∧ AV.int IntKind.i64 (Ty.kind t) = AV.int IntKind.i64 (Ty.kind t) ∧ AV.int IntKind.i64 (Ty.n t) = AV.int IntKind.i64 (Ty.n t) ∧ AV.isl (Ty.nl t) none (0) (encL (Ty.l t)) = AV.isl (Ty.nl t) none (0) (encL (Ty.l t)) ∧ 24 = 24 ∧
 SubR [AV.int IntKind.i64 (0), AV.int IntKind.i64 (0), AV.isl true none (0) []] [AV.int IntKind.i64 (0), AV.int IntKind.i64 (0), AV.isl true none (0) []] (28 = 28 ∧ SubR [AV.int IntKind.i64 (0)] [AV.int IntKind.i64 (0)] (24 = 24 ∧ encM (Kd.bindM (List.take x l) 0) = encM (Kd.bindM (List.take (x + goodN (List.take x l) (List.drop x l)) l) 0) ∧ x = x + goodN (List.take x l) (List.drop x l) ∧ [(1, 3)] = [(1, 3)] ∧ True)))) := by kernel_rfl

theorem pp_top (t : Ty) (b : Bool) (l : List (Int × Ty)) (r : Ty) (e : Int) : (runF (ppHk' t b l) 60 34 [.isl b none 0 (encB l), encD t] AH.nil (retIs Tryz.prog 5 (.tup [encD r, .int .i64 e]))) = ( Int.NonNeg (0) ∧ ∃ x, some (AV.agg [AV.int IntKind.i64 (Ty.kind t), AV.int IntKind.i64 (Ty.n t), AV.isl (Ty.nl t) none (0) (encL (Ty.l t))]) = some (AV.agg [AV.int IntKind.i64 (Ty.kind x), AV.int IntKind.i64 (Ty.n x), AV.isl (Ty.nl x) none (0) (encL (Ty.l x))]) ∧ ∃ l_1, encL (Ty.l x) = encL l_1 ∧ cnt (Ty.mk (Ty.kind x) (Ty.n x) (Ty.nl x) l_1) ≤ 1000 ∧
 bothR (!validB (Ty.mk (Ty.kind x) (Ty.n x) (Ty.nl x) l_1)) (AV.tup [AV.agg [AV.int IntKind.i64 (0), AV.int IntKind.i64 (0), AV.isl true none (0) []], AV.int IntKind.i64 (1)] = AV.tup [AV.agg [AV.int IntKind.i64 (Ty.kind r), AV.int IntKind.i64 (Ty.n r), AV.isl (Ty.nl r) none (0) (encL (Ty.l r))], AV.int IntKind.i64 e]) (codeIs (loopOf Tryz.prog 34 0) Tryz.prog 34 0 (∃ x, (x ≤ List.length l ∧ List.length l ≤ 2000 ∧ allC l) ∧ AV.ptr (0) (0) = AV.ptr (0) (0) ∧ AV.ptr (1) (0) = AV.ptr (1) (0) ∧ AV.ptr (2) (0) = AV.ptr (2) (0) ∧ AV.map (4) = AV.map (4) ∧ AV.map (4) = AV.map (4) ∧
 AV.isl b none (0) (encB l) = AV.isl b none (0) (encB l) ∧ AV.int IntKind.i64 (iC (List.length (encB l))) = AV.int IntKind.i64 (iC (List.length (encB l))) ∧ AV.int IntKind.i64 (0) = AV.int IntKind.i64 (iC x) ∧ [ADef.fn (Fn.func (82)) [] [AV.ptr (2) (0)]] = [ADef.fn (Fn.func (82)) [] [AV.ptr (2) (0)]] ∧ 24 = 24 ∧ AV.int IntKind.i64 (Ty.kind t) = AV.int IntKind.i64 (Ty.kind t) ∧ AV.int IntKind.i64 (Ty.n t) = AV.int IntKind.i64 (Ty.n t) ∧ AV.isl (Ty.nl t) none (0) (encL (Ty.l t)) = AV.isl (Ty.nl t) none (0) (encL (Ty.l t)) ∧ 24 = 24 ∧
 SubR [AV.int IntKind.i64 (0), AV.int IntKind.i64 (0), AV.isl true none (0) []] [AV.int IntKind.i64 (0), AV.int IntKind.i64 (0), AV.isl true none (0) []] (28 = 28 ∧ SubR [AV.int IntKind.i64 (0)] [AV.int IntKind.i64 (0)] (24 = 24 ∧ [] = encM (Kd.bindM (List.take x l) 0) ∧ 0 = x ∧ [(1, 3)] = [(1, 3)] ∧ bothR (bindsG (List.take x l) (List.drop x l)) (∃ l_2, encL (Ty.l t) = encL l_2 ∧ ∃ es, encM (Kd.bindM (List.take (x + goodN (List.take x l) (List.drop x l)) l) 0) = encM es ∧ (okT (Ty.mk (Ty.kind t) (Ty.n t) (Ty.nl t) l_2) = true ∧ okMs es) ∧
 bothR (putB es (Ty.mk (Ty.kind t) (Ty.n t) (Ty.nl t) l_2)) (AV.tup [AV.agg [AV.int IntKind.i64 (Ty.kind (pwT es (cleanT (Ty.mk (Ty.kind t) (Ty.n t) (Ty.nl t) l_2)))), AV.int IntKind.i64 (Ty.n (pwT es (cleanT (Ty.mk (Ty.kind t) (Ty.n t) (Ty.nl t) l_2)))), AV.isl (Ty.nl (pwT es (cleanT (Ty.mk (Ty.kind t) (Ty.n t) (Ty.nl t) l_2)))) none (0) (encL (Ty.l (pwT es (cleanT (Ty.mk (Ty.kind t) (Ty.n t) (Ty.nl t) l_2)))))], AV.int IntKind.i64 (0)] = AV.tup [AV.agg [AV.int IntKind.i64 (Ty.kind r), AV.int IntKind.i64 (Ty.n r), AV.isl (Ty.nl r) none (0) (encL (Ty.l r))], AV.int IntKind.i64 e]) (AV.tup
 [AV.agg [AV.int IntKind.i64 (0), AV.int IntKind.i64 (0), AV.isl true none (0) []], AV.int IntKind.i64 (9)] = AV.tup [AV.agg [AV.int IntKind.i64 (Ty.kind r), AV.int IntKind.i64 (Ty.n r), AV.isl (Ty.nl r) none (0) (encL (Ty.l r))], AV.int IntKind.i64 e])) (AV.tup [AV.agg [AV.int IntKind.i64 (0), AV.int IntKind.i64 (0), AV.isl true none (0) []], AV.int IntKind.i64 (1)] = AV.tup [AV.agg [AV.int IntKind.i64 (Ty.kind r), AV.int IntKind.i64 (Ty.n r), AV.isl (Ty.nl r) none (0) (encL (Ty.l r))], AV.int IntKind.i64 e])))))) := by kernel_rfl

end Go.Proofs.YtnmolpkkemljoaaGreatDoor
end
end

section
set_option maxRecDepth 100000
set_option linter.unusedSimpArgs false
set_option linter.unusedVariables false
namespace Kd
open Go.Am Go.Proofs.YtnmolpkkemljoaaGreatDoor

theorem boundM_has : ∀ (l : List (Int × Ty)) (n : Int) (i : Nat), hasV l n = false → boundM (bindM l i) n = none
  | [], _, _, _ => rfl
  | x :: l, n, i, h => by
    simp only [hasV, List.any_cons, Bool.or_eq_false_iff, decide_eq_false_iff_not] at h
    simp only [bindM, boundM, if_neg (fun e => h.1 (Eq.symm e))]
    exact boundM_has l n (i + 1) h.2
theorem boundM_hasT : ∀ (l : List (Int × Ty)) (n : Int) (i : Nat), hasV l n = true → ∃ u, boundM (bindM l i) n = some u
  | [], _, _, h => by cases h
  | x :: l, n, i, h => by
    simp only [hasV, List.any_cons, Bool.or_eq_true, decide_eq_true_eq] at h
    simp only [bindM, boundM]
    by_cases hx : n = x.1
    · exact ⟨x.2, if_pos hx⟩
    · rw [if_neg hx]
      refine boundM_hasT l n (i + 1) ?_
      rcases h with h | h
      · exact absurd h.symm hx
      · exact h
theorem bindM_snoc : ∀ (l : List (Int × Ty)) (x : Int × Ty) (i : Nat), bindM (l ++ [x]) i = bindM l i ++ [(x.1, x.2, i + l.length)]
  | [], x, i => rfl
  | y :: l, x, i => by
    simp only [List.cons_append, bindM, bindM_snoc l x (i + 1), List.length_cons]
    rw [show i + 1 + l.length = i + (l.length + 1) by omega]
theorem bindM_O : ∀ (l : List (Int × Ty)) (n : Int) (i : Nat), boundM (bindM l i) n = boundO l n
  | [], _, _ => rfl
  | x :: l, n, i => by
    simp only [bindM, boundM, boundO]
    by_cases h : n = x.1
    · rw [if_pos h, if_pos h.symm]
    · rw [if_neg h, if_neg (fun e => h e.symm)]
      exact bindM_O l n (i + 1)
theorem goodN_all : ∀ (l pre : List (Int × Ty)), bindsG pre l = true → goodN pre l = l.length
  | [], _, _ => rfl
  | x :: l, pre, h => by
    simp only [bindsG, Bool.and_eq_true (okB1 x && !hasV pre x.1)] at h
    simp only [goodN, if_pos h.1, goodN_all l _ h.2, List.length_cons]
theorem binds_ok1 : ∀ (l pre : List (Int × Ty)), bindsG pre l = true → ∀ x ∈ l, okB1 x = true
  | [], _, _, x, hx => by cases hx
  | y :: l, pre, h, x, hx => by
    simp only [bindsG, Bool.and_eq_true] at h
    rcases List.mem_cons.1 hx with rfl | hx
    · exact h.1.1
    · exact binds_ok1 l _ h.2 x hx
theorem bindM_mem : ∀ (l : List (Int × Ty)) (i : Nat), ∀ y ∈ bindM l i, ∃ x ∈ l, y.2.1 = x.2
  | [], _, y, h => by cases h
  | x :: l, i, y, h => by
    simp only [bindM, List.mem_cons] at h
    rcases h with rfl | h
    · exact ⟨x, by simp, rfl⟩
    · obtain ⟨z, h1, h2⟩ := bindM_mem l (i + 1) y h
      exact ⟨z, by simp [h1], h2⟩
theorem binds_okMs {l : List (Int × Ty)} (h : bindsB l = true) : okMs (bindM l 0) := by
  intro y hy
  obtain ⟨x, hx, e⟩ := bindM_mem l 0 y hy
  have := binds_ok1 l [] h x hx
  simp only [okB1, Bool.and_eq_true] at this
  obtain ⟨h1, h2, h3⟩ := (valid_eq _).1 this.2
  rw [e]
  exact ⟨h3, by omega⟩
theorem put_with {l : List (Int × Ty)} {t : Ty} (ht : validB t = true) : pwT (bindM l 0) (cleanT t) = withT l t :=
  pw_with (fun n => bindM_O l n 0) t ((valid_eq t).1 ht).2.2
theorem putB_eq {l : List (Int × Ty)} {t : Ty} (ht : validB t = true) : putB (bindM l 0) t = validB (withT l t) := by
  simp only [putB, fitsB, put_with ht]
  cases hv : validB (withT l t) with
  | false => simp
  | true =>
    obtain ⟨h1, h2, h3⟩ := (valid_eq _).1 hv
    simp only [Bool.and_true, decide_eq_true_eq]; omega

/-- What Put hands back. -/
def putT (l : List (Int × Ty)) (t : Ty) : Ty := if (validB t && bindsB l && validB (withT l t)) = true then withT l t else .mk 0 0 true []
def putE (l : List (Int × Ty)) (t : Ty) : Int := if (validB t && bindsB l) = true then (if validB (withT l t) = true then 0 else 9) else 1

end Kd
noncomputable section
namespace Go.Proofs.YtnmolpkkemljoaaGreatDoor
open Go Go.Am Kd

end Go.Proofs.YtnmolpkkemljoaaGreatDoor
end
end

section
set_option maxRecDepth 100000
set_option linter.unusedSimpArgs false
set_option linter.unusedVariables false
noncomputable section
namespace Go.Proofs.YtnmolpkkemljoaaGreatDoor
open Go Go.Am Kd

theorem pp_ok (t : Ty) (b : Bool) (l : List (Int × Ty)) : LHook.Ok Tryz.prog g0 ⟨34, 0, (ppSt t b l).spec⟩ := by
  refine LSt.by (hk := ppHk) (ppSt t b l) (fun x => l.length - x) (mkHooks_ok (all_cons valid_hook all_nil) all_nil all_nil) rfl ?_ ?_ ?_
  · intro x _
    exact ⟨rfl, rfl, frm_bnd (by simp [AV.bnd, AV.still_bndL, encB_still, ppSt]), by simp [ppSt, ppFr, ADef.bnd, AV.bndL, AV.bnd], by simp [ppSt, ppH, top3, tyC, ABlk.bnd, AV.bnd, AV.bndL, encM_bnd, encL_bnd]⟩
  · intro x b' _
    cases b'
    · exact ⟨rfl, rfl, frm_bnd (by simp [AV.bnd, AV.still_bndL, encB_still, ppSt]), by simp [ppSt, ppFr, ADef.bnd, AV.bndL, AV.bnd], by simp [ppSt, ppH, top3, tyC, ABlk.bnd, AV.bnd, AV.bndL, encM_bnd, encL_bnd]⟩
    · exact ⟨rfl, rfl, frm_bnd (by simp [AV.bnd, AV.still_bndL, encB_still, ppSt]), by simp [ppSt, ppFr, ADef.bnd, AV.bndL, AV.bnd], by simp [ppSt, ppH, top3, tyC, ABlk.bnd, AV.bnd, AV.bndL, encM_bnd, encL_bnd]⟩
  · rintro i ⟨hi, hl, hc⟩
    rw [pp_loop]
    simp only [iC, encB_length, eq_self, true_and, and_true, Int.toNat_natCast, AV.int.injEq, SubR_id]
    refine bothR_dec (fun hlt => ?_) fun hge => ?_
    · have hi' : i < l.length := by omega
      have hd : l.drop i = l[i] :: l.drop (i + 1) := List.drop_eq_getElem_cons hi'
      have ht : l.take (i + 1) = l.take i ++ [l[i]] := by rw [List.take_add_one, List.getElem?_eq_getElem hi']; rfl
      have hlen : (l.take i).length = i := by simp; omega
      rw [ex_bind hi']
      refine ⟨by omega, ?_⟩
      have bad : (okB1 l[i] && !hasV (l.take i) l[i].1) = false → bindsG (l.take i) (l.drop i) = false ∧ encM (bindM (l.take i) 0) = encM (bindM (l.take (i + goodN (l.take i) (l.drop i))) 0) ∧ i = i + goodN (l.take i) (l.drop i) := by
        intro h
        have hg : goodN (l.take i) (l.drop i) = 0 := by rw [hd]; simp only [goodN, h, Bool.false_eq_true, if_false]
        rw [hg]
        exact ⟨by rw [hd]; simp only [bindsG, h, Bool.false_and], rfl, rfl⟩
      cases hh : hasV (l.take i) l[i].1 with
      | true =>
        have hb := bad (by rw [hh]; simp)
        obtain ⟨u, hu⟩ := boundM_hasT _ _ 0 hh
        obtain ⟨j, hj⟩ := keyFind_some hu 0
        exact .inr ⟨j, u, hj, bothR_dec (fun _ => bothR_dec (fun _ => hb) fun _ => hb) fun _ => hb⟩
      | false =>
        have hk := keyFind_none (boundM_has _ _ 0 hh) 0
        refine .inl ⟨hk, bothR_dec (fun h0 => bothR_dec (fun h1 => ⟨nn 0, l[i].2, rfl, ?_⟩) fun h1 => bad ?_) fun h0 => bad ?_⟩
        · simp only [ex_enc, Ty.eta]
          refine ⟨hc _ (List.getElem_mem hi'), bothR_nbool (fun hv => bad ?_) fun hv => .inl ⟨hk, i + 1, ⟨by omega, hl, hc⟩, by omega, ?_, ?_⟩⟩
          · simp only [okB1, hv, Bool.and_false, Bool.false_and]
          · have hok : (okB1 l[i] && !hasV (l.take i) l[i].1) = true := by
              simp only [okB1, hv, hh, Bool.not_false, Bool.and_true, Bool.and_eq_true, decide_eq_true_eq]
              omega
            rw [hd, ht]
            simp only [bindsG, goodN, hok, Bool.true_and, if_true, Prod.mk.injEq, true_and]
            omega
          · rw [wrap_id (by omega) (by omega), ht, bindM_snoc, hlen, Nat.zero_add]
            refine ⟨rfl, ?_, rfl⟩
            simp only [encM, List.map_append, List.map_cons, List.map_nil, entM]
            rfl
        · have : decide (l[i].1 ≤ 999) = false := by simp; omega
          simp only [okB1, this, Bool.and_false, Bool.false_and]
        · have : decide (0 ≤ l[i].1) = false := by simp; omega
          simp only [okB1, this, Bool.false_and]
    · have : i = l.length := by omega
      subst this
      rw [List.drop_of_length_le (Nat.le_refl _), List.take_length]
      simp [bindsG, goodN, List.take_length]

def putV (l : List (Int × Ty)) (t : Ty) : AV := .tup [encD (putT l t), .int .i64 (putE l t)]

theorem put_cases (l : List (Int × Ty)) (t : Ty) : (validB t = false ∧ putT l t = .mk 0 0 true [] ∧ putE l t = 1) ∨ (validB t = true ∧ bindsB l = false ∧ putT l t = .mk 0 0 true [] ∧ putE l t = 1) ∨
    (validB t = true ∧ bindsB l = true ∧ validB (withT l t) = false ∧ putT l t = .mk 0 0 true [] ∧ putE l t = 9) ∨ (validB t = true ∧ bindsB l = true ∧ validB (withT l t) = true ∧ putT l t = withT l t ∧ putE l t = 0) := by
  unfold putT putE
  cases validB t <;> cases bindsB l <;> cases validB (withT l t) <;> simp

theorem kput_ok (b : Bool) (l : List (Int × Ty)) (t : Ty) (ht : cnt t ≤ 1000) (hl : l.length ≤ 2000) (hc : allC l) : QJ 34 [.isl b none 0 (encB l), enc t] (putV l t) := by
  have hst : (enc t).still = true := enc_still t
  have hh : Hooks.Ok Tryz.prog g0 (ppHk' t b l) := mkHooks_ok (all_cons valid_hook all_nil) (all_cons putG_hook all_nil) (all_cons (pp_ok t b l) all_nil)
  rw [enc_D]
  refine QJ.by (hk := ppHk' t b l) (by rw [← enc_D]; simp [AV.stillL, AV.still, hst, encB_still]) (by simp [putV, AV.still, AV.stillL, encD_still]) hh ?_
  unfold putV
  rw [pp_top]
  simp only [ex_enc, Ty.eta, eq_self, true_and, and_true, SubR_id, codeIs_self, ex_encM, iC, encB_length, AV.int.injEq]
  refine ⟨nn 0, t, rfl, ?_⟩
  refine ⟨ht, ?_⟩
  rcases put_cases l t with ⟨h1, h2, h3⟩ | ⟨h0, h1, h2, h3⟩ | ⟨h0, h4, h1, h2, h3⟩ | ⟨h0, h4, h1, h2, h3⟩
  · rw [h1, h2, h3]; rfl
  · rw [h0, h2, h3]
    refine ⟨0, ⟨by omega, hl, hc⟩, rfl, rfl, rfl, ?_⟩
    have : bindsG (l.take 0) (l.drop 0) = false := h1
    rw [this]; rfl
  · rw [h0, h2, h3]
    refine ⟨0, ⟨by omega, hl, hc⟩, rfl, rfl, rfl, ?_⟩
    have hb : bindsG (l.take 0) (l.drop 0) = true := h4
    have hg : 0 + goodN (l.take 0) (l.drop 0) = l.length := by rw [Nat.zero_add]; exact goodN_all l [] h4
    rw [hb, hg, List.take_length]
    refine ⟨⟨((valid_eq t).1 h0).2.2, binds_okMs h4⟩, ?_⟩
    rw [putB_eq h0, h1]; rfl
  · rw [h0, h2, h3]
    refine ⟨0, ⟨by omega, hl, hc⟩, rfl, rfl, rfl, ?_⟩
    have hb : bindsG (l.take 0) (l.drop 0) = true := h4
    have hg : 0 + goodN (l.take 0) (l.drop 0) = l.length := by rw [Nat.zero_add]; exact goodN_all l [] h4
    rw [hb, hg, List.take_length]
    refine ⟨⟨((valid_eq t).1 h0).2.2, binds_okMs h4⟩, ?_⟩
    rw [putB_eq h0, h1, put_with h0]; rfl

end Go.Proofs.YtnmolpkkemljoaaGreatDoor
end
end

section
set_option linter.unusedSimpArgs false
namespace Kd
open Go.Am Go.Proofs.YtnmolpkkemljoaaGreatDoor

theorem sameB_refl : ∀ t, sameB t t = true := by
  have key : ∀ (N : Nat), (∀ t, SizeOf.sizeOf t < N → sameB t t = true) ∧ ∀ l, SizeOf.sizeOf l < N → sameL l l = true := by
    intro N
    induction N with
    | zero => exact ⟨fun _ h => by omega, fun _ h => by omega⟩
    | succ N ih =>
      obtain ⟨ih1, ih2⟩ := ih
      constructor
      · intro t ht
        cases t with
        | mk k n b l =>
          simp only [Ty.mk.sizeOf_spec] at ht
          simp [sameB, ih2 l (by omega)]
      · intro l hl
        cases l with
        | nil => rfl
        | cons x xs =>
          simp only [List.cons.sizeOf_spec] at hl
          simp only [sameL, ih1 x (by omega), ih2 xs (by omega), Bool.and_self]
  exact fun t => (key (SizeOf.sizeOf t + 1)).1 t (by omega)
end Kd
end
