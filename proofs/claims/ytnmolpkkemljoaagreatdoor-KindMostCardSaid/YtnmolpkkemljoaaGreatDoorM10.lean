/-
  What the proof is built of: What is known of the table of powers of ten. Numbers as texts: up to three figures. Numbers as texts: up to three figures. Types as texts: what they come to. put, where it may be too much: what it comes to. The conditions of K32, evaluated. put comes to what it says, where it may be too much. equal, and slices.EqualFunc at types: what they come to. The conditions of K49, evaluated. equal comes to what it says. list: the bindings of a map, in order. The map's entries as they lie in memory; the comparing function. list (59): the walk, up to what slices.SortFunc says. slices.SortFunc over this program, laid by the kit's shelf tool. list (59): slices.SortFunc at bindings. Conditions: none.
-/
import Derived.Test.YtnmolpkkemljoaaGreatDoorM8
import Derived.Test.YtnmolpkkemljoaaGreatDoorM9
import Derived.Shelf.Small.Wraps
import Derived.Shelf.Strconv.Atoi
import Derived.Shelf.Strconv.Itoa0
import Derived.Test.YtnmolpkkemljoaaGreatDoorProg
import Derived.Test.YtnmolpkkemljoaaGreatDoorM4
import Derived.Maps.RangeWalk
import Derived.Maps.AppendAt
import Derived.WalkKit
import Derived.LoopN
import Derived.Shelf.SlSortCmp.InsertionK
import Derived.Shelf.SlGeneric
import Derived.Shelf.SlSortCmp.WholeK
import Derived.Shelf.SlSortCmp.NoneTotal
import Derived.Ground.SlsfProg
set_option linter.unusedVariables false
set_option linter.unusedSimpArgs false
set_option maxHeartbeats 8000000
set_option maxRecDepth 100000
section
noncomputable section
namespace Go.Proofs.YtnmolpkkemljoaaGreatDoor
open Go Go.Am Kd
def pow10 : List Nat := [1, 10, 100, 1000, 10000, 100000, 1000000, 10000000, 100000000, 1000000000, 10000000000, 100000000000, 1000000000000, 10000000000000, 100000000000000, 1000000000000000, 10000000000000000, 100000000000000000, 1000000000000000000, 10000000000000000000]
def gT : Gl := fun g o => match g == 0 with
 | true => match nthR pow10 o with | some n => some (.int .u64 n) | none => none
 | false => none
def runT (hk : Hooks) (n : Nat) (f : FuncId) (args : List AV) (A : AH) (K : AFin → Prop) : Prop := sFuncR Tryz.prog (Rm.W Tryz.prog gT els mu0 hk n) f args A K
end Go.Proofs.YtnmolpkkemljoaaGreatDoor
end
end
section
namespace Kd
end Kd
noncomputable section
namespace Go.Proofs.YtnmolpkkemljoaaGreatDoor
open Go Go.Am Kd
abbrev QT := QuietJ Tryz.prog gT
end Go.Proofs.YtnmolpkkemljoaaGreatDoor
end
end
section
namespace Kd
open Go Go.Am
def dig (n : Nat) : UInt8 := UInt8.ofNat (48 + n)
def itoaN (n : Nat) : List UInt8 := if n < 10 then [dig n] else if n < 100 then [dig (n / 10), dig (n % 10)] else [dig (n / 100), dig (n / 10 % 10), dig (n % 10)]
def itoaL (n : Int) : List UInt8 := itoaN n.toNat
end Kd
noncomputable section
namespace Go.Proofs.YtnmolpkkemljoaaGreatDoor
open Go Go.Am Kd
end Go.Proofs.YtnmolpkkemljoaaGreatDoor
end
end
section
namespace Kd
open Go.Am Go.Proofs.YtnmolpkkemljoaaGreatDoor
def befS (k : Int) : List UInt8 := if k = 0 then [117, 110, 105, 116] else if k = 1 then [105, 110, 116] else if k = 4 then [91] else if k = 6 then [39] else [40]
def btwS (k : Int) : List UInt8 := if k = 2 then [32, 42, 32] else if k = 3 then [32, 43, 32] else if k = 5 then [32, 45, 62, 32] else []
def aftS (k : Int) : List UInt8 := if k = 4 then [93] else if k = 0 ∨ k = 1 ∨ k = 6 then [] else [41]
mutual
def writeS : Ty → List UInt8
 | .mk k n _ l => (befS k ++ if k = 6 then itoaL n else []) ++ writeL (btwS k) l true ++ aftS k
def writeL (s : List UInt8) : List Ty → Bool → List UInt8
 | [], _ => []
 | x :: xs, first => (if first then [] else s) ++ writeS x ++ writeL s xs false
end
structure WSt where
 i : Nat
 acc : List UInt8
end Kd
noncomputable section
namespace Go.Proofs.YtnmolpkkemljoaaGreatDoor
open Go Go.Am Kd
end Go.Proofs.YtnmolpkkemljoaaGreatDoor
end
end
section
namespace Kd
open Go.Am Go.Proofs.YtnmolpkkemljoaaGreatDoor
def fitsB (es : List (Int × Ty × Nat)) (t : Ty) (r : Int) : Bool := decide ((cnt (pwT es t) : Int) ≤ r)
def fitsL (es : List (Int × Ty × Nat)) (l : List Ty) (r : Int) : Bool := decide ((cntL (pwL es l) : Int) ≤ r)
mutual
def pwF (es : List (Int × Ty × Nat)) : Ty → Int → Int
 | .mk k n _ l, r => if k = 6 ∧ (boundM es n).isSome = true then r - cnt ((boundM es n).getD (varT n)) else if r - 1 < 0 then r - 1 else pwFL es l (r - 1)
def pwFL (es : List (Int × Ty × Nat)) : List Ty → Int → Int
 | [], r => r
 | x :: xs, r => if fitsB es x r = true then pwFL es xs (r - cnt (pwT es x)) else pwF es x r
end
def putB (es : List (Int × Ty × Nat)) (t : Ty) : Bool := fitsB es (cleanT t) 60 && validB (pwT es (cleanT t))
theorem pwF_fit (es : List (Int × Ty × Nat)) : (∀ t r, fitsB es t r = true → pwF es t r = r - cnt (pwT es t)) ∧ ∀ l r, fitsL es l r = true → pwFL es l r = r - cntL (pwL es l) := by
 have key : ∀ (N : Nat), (∀ t r, SizeOf.sizeOf t < N → fitsB es t r = true → pwF es t r = r - cnt (pwT es t)) ∧ ∀ l r, SizeOf.sizeOf l < N → fitsL es l r = true → pwFL es l r = r - cntL (pwL es l) := by
  intro N
  induction N with
  | zero => exact ⟨fun _ _ h => by omega, fun _ _ h => by omega⟩
  | succ N ih =>
   obtain ⟨ih1, ih2⟩ := ih
   constructor
   ·intro t r ht h
    cases t with
    | mk k n b l =>
     simp only [Ty.mk.sizeOf_spec] at ht
     simp only [fitsB, decide_eq_true_eq] at h
     simp only [pwF, pwT] at h ⊢
     split
     ·rename_i hk
      rw [if_pos hk] at h
      rw [cnt_clean] at h ⊢
     ·rename_i hk
      rw [if_neg hk] at h
      simp only [cnt, Int.natCast_add, Int.cast_ofNat_Int] at h ⊢
      rw [if_neg (by omega), ih2 l (r - 1) (by omega) (by simp only [fitsL, decide_eq_true_eq]; omega)]
      omega
   ·intro l r hl h
    cases l with
    | nil => simp [pwFL, pwL, cntL]
    | cons x xs =>
     simp only [List.cons.sizeOf_spec] at hl
     simp only [fitsL, decide_eq_true_eq, pwL, cntL, Int.natCast_add] at h
     have hx : fitsB es x r = true := by simp only [fitsB, decide_eq_true_eq]; omega
     simp only [pwFL, if_pos hx, pwL, cntL, Int.natCast_add]
     rw [ih2 xs _ (by omega) (by simp only [fitsL, decide_eq_true_eq]; omega)]
     omega
 exact ⟨fun t r => (key (SizeOf.sizeOf t + 1)).1 t r (by omega), fun l r => (key (SizeOf.sizeOf l + 1)).2 l r (by omega)⟩
end Kd
noncomputable section
namespace Go.Proofs.YtnmolpkkemljoaaGreatDoor
open Go Go.Am Kd
def stopC (e : Int) : AChain := [(.iface 117 (.agg [.int .i64 e]), false)]
def pwalkG (N : Nat) : HSpec := fun args A K =>
 match args with
 | [t, .int .i64 _, .ptr 1 0, .ptr 4 0, .ptr 5 0] => argTy t fun t => argPw A fun es c left => (SizeOf.sizeOf t < N ∧ okT t = true ∧ okMs es ∧ 0 ≤ left ∧ left ≤ 1000) ∧
   onR 0 A (pwA es c left) (bothR (fitsB es t left) (K ⟨.returned (encD (pwT es t)), (pwA es c (left - cnt (pwT es t))).onto A⟩) (K ⟨.panicked (stopC 9), (pwA es c (pwF es t left)).onto A⟩))
 | _ => False
def pwalkG0 : HSpec := fun args A K =>
 match args with
 | [t, .int .i64 _, .ptr 1 0, .ptr 4 0, .ptr 5 0] => argTy t fun t => argPw A fun es c left => (okT t = true ∧ okMs es ∧ 0 ≤ left ∧ left ≤ 1000) ∧
   onR 0 A (pwA es c left) (bothR (fitsB es t left) (K ⟨.returned (encD (pwT es t)), (pwA es c (left - cnt (pwT es t))).onto A⟩) (K ⟨.panicked (stopC 9), (pwA es c (pwF es t left)).onto A⟩))
 | _ => False
def pmapG (N : Nat) : HSpec := fun args A K =>
 match args with
 | [.isl _ none 0 xs, .fn (.func 119) [] [.ptr 5 0, .ptr 7 0]] => ∃ l, xs = encL l ∧ argPm A fun es c left d u => (SizeOf.sizeOf l < N ∧ (l.length ≤ 2 ∧ okL l = true) ∧ okMs es ∧ 0 ≤ left ∧ left ≤ 1000) ∧
   onR 0 A (pwM es c left d u) (bothR (fitsL es l left) (K ⟨.returned (.isl (nilB l) none 0 (encL (pwL es l))), (pwM es c (left - cntL (pwL es l)) d u).onto A⟩) (K ⟨.panicked (stopC 9), (pwM es c (pwFL es l left) d u).onto A⟩))
 | _ => False
def pmHkG (N : Nat) : Hooks := mkHooks Tryz.prog [] [(118, pwalkG N)] []
def pwHkG (N : Nat) : Hooks := mkHooks Tryz.prog [(68, kclQ0), (80, partsQ)] [(115, cwalkH0), (103, pmapG N)] []
def ptHkG : Hooks := mkHooks Tryz.prog [(68, kclQ0), (76, validQ)] [(118, pwalkG0)] []
def putG : HSpec := fun args A K =>
 match args with
 | [.map b, t] => argTy t fun t =>
  match nthR A.blks b with
  | some (.map m c) => ∃ es, m = encM es ∧ (okT t = true ∧ okMs es) ∧ bothR (putB es t) (K ⟨.returned (encD (pwT es (cleanT t))), A.put b (.map m c)⟩) (K ⟨.panicked (stopC 9), A.put b (.map m c)⟩)
  | _ => False
 | _ => False
end Go.Proofs.YtnmolpkkemljoaaGreatDoor
end
end
section
noncomputable section
namespace Go.Proofs.YtnmolpkkemljoaaGreatDoor
open Go Go.Am Kd Go.Am.AV Go.IntKind
theorem pg_top0 (es : List (Int × Ty × Nat)) (c : Nat) (left d left' : Int) (u : Ty) (b : Bool) (N : Nat) (e : AEnd) : (runF (pmHkG N) 60 103 [.isl b none 0 [], .fn (.func 119) [] [.ptr 5 0, .ptr 7 0]] (pwM es c left d u) (hpFz Tryz.prog 8 0 5 e (pwM es c left' d u))) = ( AEnd.returned (isl true none (0) []) = e ∧ encM es = encM es ∧ c = c ∧ 74 = 74 ∧ SubR [AV.map (0)] [AV.map (0)] (24 = 24 ∧ 24 = 24 ∧ 3 = 3 ∧ int i64 left = int i64 left' ∧ 145 = 145 ∧ SubR [AV.fn (Fn.func (118)) [] [ptr (1) (0), ptr (4) (0), ptr (5) (0)]] [AV.fn (Fn.func (118)) []
 [ptr (1) (0), ptr (4) (0), ptr (5) (0)]] (24 = 24 ∧ int i64 (Ty.kind u) = int i64 (Ty.kind u) ∧ int i64 (Ty.n u) = int i64 (Ty.n u) ∧ isl (Ty.nl u) none (0) (encL (Ty.l u)) = isl (Ty.nl u) none (0) (encL (Ty.l u)) ∧ 3 = 3 ∧ int i64 d = int i64 d ∧ 0 = 0 ∧ True))) := by kernel_rfl
theorem pg_top1 (es : List (Int × Ty × Nat)) (c : Nat) (left d left' : Int) (u : Ty) (b : Bool) (x : Ty) (N : Nat) (e : AEnd) : (runF (pmHkG N) 60 103 [.isl b none 0 [encD x], .fn (.func 119) [] [.ptr 5 0, .ptr 7 0]] (pwM es c left d u) (hpFz Tryz.prog 8 0 5 e (pwM es c left' d u))) = ( ∃ l, encL (Ty.l x) = encL l ∧ ∃ es_1, encM es = encM es_1 ∧ (SizeOf.sizeOf (Ty.mk (Ty.kind x) (Ty.n x) (Ty.nl x) l) < N ∧ okT (Ty.mk (Ty.kind x) (Ty.n x) (Ty.nl x) l) = true ∧ okMs es_1 ∧ 0 ≤ left ∧ left ≤ 1000) ∧ encM es = encM es_1 ∧ c = c ∧ 74 = 74 ∧ SubR [AV.map (0)] [AV.map (0)] (24 = 24 ∧ 24 = 24 ∧
 3 = 3 ∧ int i64 left = int i64 left ∧ 145 = 145 ∧ SubR [AV.fn (Fn.func (118)) [] [ptr (1) (0), ptr (4) (0), ptr (5) (0)]] [AV.fn (Fn.func (118)) [] [ptr (1) (0), ptr (4) (0), ptr (5) (0)]] (0 = 0 ∧ bothR (fitsB es_1 (Ty.mk (Ty.kind x) (Ty.n x) (Ty.nl x) l) left) (AEnd.returned (isl false none (0) [agg [int i64 (Ty.kind (pwT es_1 (Ty.mk (Ty.kind x) (Ty.n x) (Ty.nl x) l))), int i64 (Ty.n (pwT es_1 (Ty.mk (Ty.kind x) (Ty.n x) (Ty.nl x) l))), isl (Ty.nl (pwT es_1 (Ty.mk (Ty.kind x) (Ty.n x) (Ty.nl x) l))) none (0)
 (encL (Ty.l (pwT es_1 (Ty.mk (Ty.kind x) (Ty.n x) (Ty.nl x) l))))]]) = e ∧ encM es_1 = encM es ∧ c = c ∧ 74 = 74 ∧ SubR [AV.map (0)] [AV.map (0)] (24 = 24 ∧ 24 = 24 ∧ 3 = 3 ∧ int i64 (left - iC (cnt (pwT es_1 (Ty.mk (Ty.kind x) (Ty.n x) (Ty.nl x) l)))) = int i64 left' ∧ 145 = 145 ∧ SubR [AV.fn (Fn.func (118)) [] [ptr (1) (0), ptr (4) (0), ptr (5) (0)]] [AV.fn (Fn.func (118)) [] [ptr (1) (0), ptr (4) (0), ptr (5) (0)]] (24 = 24 ∧ int i64 (Ty.kind u) = int i64 (Ty.kind u) ∧ int i64 (Ty.n u) = int i64 (Ty.n u) ∧
 isl (Ty.nl u) none (0) (encL (Ty.l u)) = isl (Ty.nl u) none (0) (encL (Ty.l u)) ∧ 3 = 3 ∧ int i64 d = int i64 d ∧ 0 = 0 ∧ True))) (AEnd.panicked [(AV.iface (117) (agg [int i64 (9)]), false)] = e ∧ encM es_1 = encM es ∧ c = c ∧ 74 = 74 ∧ SubR [AV.map (0)] [AV.map (0)] (24 = 24 ∧ 24 = 24 ∧ 3 = 3 ∧ int i64 (pwF es_1 (Ty.mk (Ty.kind x) (Ty.n x) (Ty.nl x) l) left) = int i64 left' ∧ 145 = 145 ∧ SubR [AV.fn (Fn.func (118)) [] [ptr (1) (0), ptr (4) (0), ptr (5) (0)]] [AV.fn (Fn.func (118)) [] [ptr (1) (0), ptr (4) (0),
 ptr (5) (0)]] (24 = 24 ∧ int i64 (Ty.kind u) = int i64 (Ty.kind u) ∧ int i64 (Ty.n u) = int i64 (Ty.n u) ∧ isl (Ty.nl u) none (0) (encL (Ty.l u)) = isl (Ty.nl u) none (0) (encL (Ty.l u)) ∧ 3 = 3 ∧ int i64 d = int i64 d ∧ 0 = 0 ∧ True)))))) := by kernel_rfl
theorem pg_top2 (es : List (Int × Ty × Nat)) (c : Nat) (left d left' : Int) (u : Ty) (b : Bool) (x y : Ty) (N : Nat) (e : AEnd) : (runF (pmHkG N) 60 103 [.isl b none 0 [encD x, encD y], .fn (.func 119) [] [.ptr 5 0, .ptr 7 0]] (pwM es c left d u) (hpFz Tryz.prog 8 0 5 e (pwM es c left' d u))) = ( ∃ l, encL (Ty.l x) = encL l ∧ ∃ es_1, encM es = encM es_1 ∧ (SizeOf.sizeOf (Ty.mk (Ty.kind x) (Ty.n x) (Ty.nl x) l) < N ∧ okT (Ty.mk (Ty.kind x) (Ty.n x) (Ty.nl x) l) = true ∧ okMs es_1 ∧ 0 ≤ left ∧ left ≤ 1000) ∧ encM es = encM es_1 ∧ c = c ∧ 74 = 74 ∧ SubR [AV.map (0)] [AV.map (0)] (24 = 24 ∧
 24 = 24 ∧ 3 = 3 ∧ int i64 left = int i64 left ∧ 145 = 145 ∧ SubR [AV.fn (Fn.func (118)) [] [ptr (1) (0), ptr (4) (0), ptr (5) (0)]] [AV.fn (Fn.func (118)) [] [ptr (1) (0), ptr (4) (0), ptr (5) (0)]] (0 = 0 ∧ bothR (fitsB es_1 (Ty.mk (Ty.kind x) (Ty.n x) (Ty.nl x) l) left) (∃ l_1, encL (Ty.l y) = encL l_1 ∧ ∃ es_2, encM es_1 = encM es_2 ∧ (SizeOf.sizeOf (Ty.mk (Ty.kind y) (Ty.n y) (Ty.nl y) l_1) < N ∧ okT (Ty.mk (Ty.kind y) (Ty.n y) (Ty.nl y) l_1) = true ∧ okMs es_2 ∧ 0 ≤ left - iC (cnt (pwT es_1 (Ty.mk (Ty.kind x) (Ty.n x) (Ty.nl x) l))) ∧
 left - iC (cnt (pwT es_1 (Ty.mk (Ty.kind x) (Ty.n x) (Ty.nl x) l))) ≤ 1000) ∧ encM es_1 = encM es_2 ∧ c = c ∧ 74 = 74 ∧ SubR [AV.map (0)] [AV.map (0)] (24 = 24 ∧ 24 = 24 ∧ 3 = 3 ∧ int i64 (left - iC (cnt (pwT es_1 (Ty.mk (Ty.kind x) (Ty.n x) (Ty.nl x) l)))) = int i64 (left - iC (cnt (pwT es_1 (Ty.mk (Ty.kind x) (Ty.n x) (Ty.nl x) l)))) ∧ 145 = 145 ∧ SubR [AV.fn (Fn.func (118)) [] [ptr (1) (0), ptr (4) (0), ptr (5) (0)]] [AV.fn (Fn.func (118)) [] [ptr (1) (0), ptr (4) (0), ptr (5) (0)]] (0 = 0 ∧ bothR
 (fitsB es_2 (Ty.mk (Ty.kind y) (Ty.n y) (Ty.nl y) l_1) (left - iC (cnt (pwT es_1 (Ty.mk (Ty.kind x) (Ty.n x) (Ty.nl x) l))))) (AEnd.returned (isl false none (0) [agg [int i64 (Ty.kind (pwT es_1 (Ty.mk (Ty.kind x) (Ty.n x) (Ty.nl x) l))), int i64 (Ty.n (pwT es_1 (Ty.mk (Ty.kind x) (Ty.n x) (Ty.nl x) l))), isl (Ty.nl (pwT es_1 (Ty.mk (Ty.kind x) (Ty.n x) (Ty.nl x) l))) none (0) (encL (Ty.l (pwT es_1 (Ty.mk (Ty.kind x) (Ty.n x) (Ty.nl x) l))))], agg [int i64 (Ty.kind (pwT es_2 (Ty.mk (Ty.kind y) (Ty.n y) (Ty.nl y) l_1))),
 int i64 (Ty.n (pwT es_2 (Ty.mk (Ty.kind y) (Ty.n y) (Ty.nl y) l_1))), isl (Ty.nl (pwT es_2 (Ty.mk (Ty.kind y) (Ty.n y) (Ty.nl y) l_1))) none (0) (encL (Ty.l (pwT es_2 (Ty.mk (Ty.kind y) (Ty.n y) (Ty.nl y) l_1))))]]) = e ∧ encM es_2 = encM es ∧ c = c ∧ 74 = 74 ∧ SubR [AV.map (0)] [AV.map (0)] (24 = 24 ∧ 24 = 24 ∧ 3 = 3 ∧ int i64 (left - iC (cnt (pwT es_1 (Ty.mk (Ty.kind x) (Ty.n x) (Ty.nl x) l))) - iC (cnt (pwT es_2 (Ty.mk (Ty.kind y) (Ty.n y) (Ty.nl y) l_1)))) = int i64 left' ∧ 145 = 145 ∧ SubR [AV.fn (Fn.func (118)) [] [ptr (1) (0), ptr (4) (0),
 ptr (5) (0)]] [AV.fn (Fn.func (118)) [] [ptr (1) (0), ptr (4) (0), ptr (5) (0)]] (24 = 24 ∧ int i64 (Ty.kind u) = int i64 (Ty.kind u) ∧ int i64 (Ty.n u) = int i64 (Ty.n u) ∧ isl (Ty.nl u) none (0) (encL (Ty.l u)) = isl (Ty.nl u) none (0) (encL (Ty.l u)) ∧ 3 = 3 ∧ int i64 d = int i64 d ∧ 0 = 0 ∧ True))) (AEnd.panicked [(AV.iface (117) (agg [int i64 (9)]), false)] = e ∧ encM es_2 = encM es ∧ c = c ∧ 74 = 74 ∧ SubR [AV.map (0)] [AV.map (0)] (24 = 24 ∧ 24 = 24 ∧ 3 = 3 ∧ int i64
 (pwF es_2 (Ty.mk (Ty.kind y) (Ty.n y) (Ty.nl y) l_1) (left - iC (cnt (pwT es_1 (Ty.mk (Ty.kind x) (Ty.n x) (Ty.nl x) l))))) = int i64 left' ∧ 145 = 145 ∧ SubR [AV.fn (Fn.func (118)) [] [ptr (1) (0), ptr (4) (0), ptr (5) (0)]] [AV.fn (Fn.func (118)) [] [ptr (1) (0), ptr (4) (0), ptr (5) (0)]] (24 = 24 ∧ int i64 (Ty.kind u) = int i64 (Ty.kind u) ∧ int i64 (Ty.n u) = int i64 (Ty.n u) ∧ isl (Ty.nl u) none (0) (encL (Ty.l u)) = isl (Ty.nl u) none (0) (encL (Ty.l u)) ∧ 3 = 3 ∧
 int i64 d = int i64 d ∧ 0 = 0 ∧ True)))))) (AEnd.panicked [(AV.iface (117) (agg [int i64 (9)]), false)] = e ∧ encM es_1 = encM es ∧ c = c ∧ 74 = 74 ∧ SubR [AV.map (0)] [AV.map (0)] (24 = 24 ∧ 24 = 24 ∧ 3 = 3 ∧ int i64 (pwF es_1 (Ty.mk (Ty.kind x) (Ty.n x) (Ty.nl x) l) left) = int i64 left' ∧ 145 = 145 ∧ SubR [AV.fn (Fn.func (118)) [] [ptr (1) (0), ptr (4) (0), ptr (5) (0)]] [AV.fn (Fn.func (118)) [] [ptr (1) (0), ptr (4) (0), ptr (5) (0)]] (24 = 24 ∧ int i64 (Ty.kind u) = int i64 (Ty.kind u) ∧
 int i64 (Ty.n u) = int i64 (Ty.n u) ∧ isl (Ty.nl u) none (0) (encL (Ty.l u)) = isl (Ty.nl u) none (0) (encL (Ty.l u)) ∧ 3 = 3 ∧ int i64 d = int i64 d ∧ 0 = 0 ∧ True)))))) := by kernel_rfl
theorem pwg_top (es : List (Int × Ty × Nat)) (c : Nat) (left d left' : Int) (t : Ty) (N : Nat) (e : AEnd) : (runF (pwHkG N) 60 118 [encD t, .int .i64 d, .ptr 1 0, .ptr 4 0, .ptr 5 0] (pwA es c left) (hpIs 0 e (pwA es c left'))) = ( keyFind (int i64 (Ty.n t)) (encM es) 0 = some none ∧ bothR (!decide ((0 : Int) ≤ IntKind.wrap IntKind.i64 (left - (1 : Int)))) (AEnd.panicked [(AV.iface (117) (agg [int i64 (9)]), false)] = e ∧ encM es = encM es ∧ c = c ∧ 74 = 74 ∧ SubR [AV.map (0)] [AV.map (0)] (24 = 24 ∧ 24 = 24 ∧ 3 = 3 ∧
 int i64 (IntKind.wrap IntKind.i64 (left - (1 : Int))) = int i64 left' ∧ 145 = 145 ∧ SubR [AV.fn (Fn.func (118)) [] [ptr (1) (0), ptr (4) (0), ptr (5) (0)]] [AV.fn (Fn.func (118)) [] [ptr (1) (0), ptr (4) (0), ptr (5) (0)]] (0 = 0 ∧ True))) (∃ l, encL (Ty.l t) = encL l ∧ ∃ es_1, encM es = encM es_1 ∧ ∃ l_1, encL (Ty.l t) = encL l_1 ∧ (SizeOf.sizeOf l < N ∧ (List.length l ≤ 2 ∧ okL l = true) ∧ okMs es_1 ∧ 0 ≤ IntKind.wrap IntKind.i64 (left - (1 : Int)) ∧ IntKind.wrap IntKind.i64 (left - (1 : Int)) ≤ 1000) ∧ encM es = encM es_1 ∧ c = c ∧ 74 = 74 ∧
 SubR [AV.map (0)] [AV.map (0)] (24 = 24 ∧ 24 = 24 ∧ 3 = 3 ∧ int i64 (IntKind.wrap IntKind.i64 (left - (1 : Int))) = int i64 (IntKind.wrap IntKind.i64 (left - (1 : Int))) ∧ 145 = 145 ∧ SubR [AV.fn (Fn.func (118)) [] [ptr (1) (0), ptr (4) (0), ptr (5) (0)]] [AV.fn (Fn.func (118)) [] [ptr (1) (0), ptr (4) (0), ptr (5) (0)]] (24 = 24 ∧ int i64 (Ty.kind t) = int i64 (Ty.kind t) ∧ int i64 (Ty.n t) = int i64 (Ty.n t) ∧ isl (Ty.nl t) none (0) (encL (Ty.l t)) = isl (Ty.nl t) none (0) (encL l_1) ∧ 3 = 3 ∧
 int i64 d = int i64 d ∧ 0 = 0 ∧ bothR (fitsL es_1 l (IntKind.wrap IntKind.i64 (left - (1 : Int)))) (ptr (6) (0) = ptr (6) (0) ∧ int i64 (Ty.kind t) = int i64 (Ty.kind t) ∧ ptr (6) (1) = ptr (6) (1) ∧ int i64 (Ty.n t) = int i64 (Ty.n t) ∧ AEnd.returned (agg [int i64 (Ty.kind t), int i64 (Ty.n t), isl (nilB l) none (0) (encL (pwL es_1 l))]) = e ∧ encM es_1 = encM es ∧ c = c ∧ 74 = 74 ∧ SubR [AV.map (0)] [AV.map (0)] (24 = 24 ∧ 24 = 24 ∧ 3 = 3 ∧
 int i64 (IntKind.wrap IntKind.i64 (left - (1 : Int)) - iC (cntL (pwL es_1 l))) = int i64 left' ∧ 145 = 145 ∧ SubR [AV.fn (Fn.func (118)) [] [ptr (1) (0), ptr (4) (0), ptr (5) (0)]] [AV.fn (Fn.func (118)) [] [ptr (1) (0), ptr (4) (0), ptr (5) (0)]] (0 = 0 ∧ True))) (AEnd.panicked [(AV.iface (117) (agg [int i64 (9)]), false)] = e ∧ encM es_1 = encM es ∧ c = c ∧ 74 = 74 ∧ SubR [AV.map (0)] [AV.map (0)] (24 = 24 ∧ 24 = 24 ∧ 3 = 3 ∧ int i64 (pwFL es_1 l (IntKind.wrap IntKind.i64 (left - (1 : Int)))) = int i64 left' ∧
 145 = 145 ∧ SubR [AV.fn (Fn.func (118)) [] [ptr (1) (0), ptr (4) (0), ptr (5) (0)]] [AV.fn (Fn.func (118)) [] [ptr (1) (0), ptr (4) (0), ptr (5) (0)]] (0 = 0 ∧ True)))))) ∨ ∃ j x, keyFind (int i64 (Ty.n t)) (encM es) 0 = some (some (j, agg [int i64 (Ty.kind x), int i64 (Ty.n x), isl (Ty.nl x) none (0) (encL (Ty.l x))])) ∧ bothR (decide (Ty.kind t = (6 : Int))) (∃ l, encL (Ty.l x) = encL l ∧ ∃ l_1, encL l = encL l_1 ∧ ∃ es_1, encM es = encM es_1 ∧ ∃ l, encL (Ty.l x) = encL l ∧ (cnt (Ty.mk (Ty.kind x) (Ty.n x) (Ty.nl x) l_1) ≤ 1000 ∧
 Int.NonNeg (0) ∧ (0 : Int) + iC (cnt (Ty.mk (Ty.kind x) (Ty.n x) (Ty.nl x) l_1)) ≤ 1000) ∧ encM es = encM es_1 ∧ c = c ∧ 74 = 74 ∧ SubR [AV.map (0)] [AV.map (0)] (24 = 24 ∧ 24 = 24 ∧ 3 = 3 ∧ int i64 left = int i64 left ∧ 145 = 145 ∧ SubR [AV.fn (Fn.func (118)) [] [ptr (1) (0), ptr (4) (0), ptr (5) (0)]] [AV.fn (Fn.func (118)) [] [ptr (1) (0), ptr (4) (0), ptr (5) (0)]] (24 = 24 ∧ 3 = 3 ∧ int i64 d = int i64 d ∧ 24 = 24 ∧ 24 = 24 ∧ int i64 (Ty.kind x) = int i64 (Ty.kind x) ∧
 int i64 (Ty.n x) = int i64 (Ty.n x) ∧ isl (Ty.nl x) none (0) (encL (Ty.l x)) = isl (Ty.nl x) none (0) (encL l) ∧ 3 = 3 ∧ SubR [int i64 (0)] [int i64 (0)] ((LoopState.ready = LoopState.ready ∧ (none : Option Code) = none ∧ ((Array.mk (α := Nat) [26]), rA (76) (1), rB (118) (0)) = ((Array.mk (α := Nat) [26]), rA (76) (1), rB (118) (0)) ∧ 11 = 11) ∧ ptr (10) (0) = ptr (10) (0) ∧ 42 = 42 ∧ SubR [AV.fn (Fn.yield (12)) [] []] [AV.fn (Fn.yield (12)) [] []] (42 = 42 ∧ SubR [AV.fn (Fn.func (115)) [] [ptr (13) (0), ptr (14) (0)]]
 [AV.fn (Fn.func (115)) [] [ptr (13) (0), ptr (14) (0)]] (0 = 0 ∧ bothR (!decide ((0 : Int) ≤ IntKind.wrap IntKind.i64 (left - ((0 : Int) + iC (cnt (Ty.mk (Ty.kind x) (Ty.n x) (Ty.nl x) l_1)))))) (AEnd.panicked [(AV.iface (117) (agg [int i64 (9)]), false)] = e ∧ encM es_1 = encM es ∧ c = c ∧ 74 = 74 ∧ SubR [AV.map (0)] [AV.map (0)] (24 = 24 ∧ 24 = 24 ∧ 3 = 3 ∧ int i64 (IntKind.wrap IntKind.i64 (left - ((0 : Int) + iC (cnt (Ty.mk (Ty.kind x) (Ty.n x) (Ty.nl x) l_1))))) = int i64 left' ∧ 145 = 145 ∧ SubR [AV.fn (Fn.func (118)) [] [ptr (1) (0),
 ptr (4) (0), ptr (5) (0)]] [AV.fn (Fn.func (118)) [] [ptr (1) (0), ptr (4) (0), ptr (5) (0)]] (0 = 0 ∧ True))) (∃ l_2, encL l = encL l_2 ∧ okT (Ty.mk (Ty.kind x) (Ty.n x) (Ty.nl x) l_2) = true ∧ AEnd.returned (agg [int i64 (Ty.kind (cleanT (Ty.mk (Ty.kind x) (Ty.n x) (Ty.nl x) l_2))), int i64 (Ty.n (cleanT (Ty.mk (Ty.kind x) (Ty.n x) (Ty.nl x) l_2))), isl (Ty.nl (cleanT (Ty.mk (Ty.kind x) (Ty.n x) (Ty.nl x) l_2))) none (0) (encL (Ty.l (cleanT (Ty.mk (Ty.kind x) (Ty.n x) (Ty.nl x) l_2))))]) = e ∧ encM es_1 = encM es ∧ c = c ∧ 74 = 74 ∧
 SubR [AV.map (0)] [AV.map (0)] (24 = 24 ∧ 24 = 24 ∧ 3 = 3 ∧ int i64 (IntKind.wrap IntKind.i64 (left - ((0 : Int) + iC (cnt (Ty.mk (Ty.kind x) (Ty.n x) (Ty.nl x) l_1))))) = int i64 left' ∧ 145 = 145 ∧ SubR [AV.fn (Fn.func (118)) [] [ptr (1) (0), ptr (4) (0), ptr (5) (0)]] [AV.fn (Fn.func (118)) [] [ptr (1) (0), ptr (4) (0), ptr (5) (0)]] (0 = 0 ∧ True))))))))) (bothR (!decide ((0 : Int) ≤ IntKind.wrap IntKind.i64 (left - (1 : Int)))) (AEnd.panicked [(AV.iface (117) (agg [int i64 (9)]), false)] = e ∧ encM es = encM es ∧ c = c ∧ 74 = 74 ∧
 SubR [AV.map (0)] [AV.map (0)] (24 = 24 ∧ 24 = 24 ∧ 3 = 3 ∧ int i64 (IntKind.wrap IntKind.i64 (left - (1 : Int))) = int i64 left' ∧ 145 = 145 ∧ SubR [AV.fn (Fn.func (118)) [] [ptr (1) (0), ptr (4) (0), ptr (5) (0)]] [AV.fn (Fn.func (118)) [] [ptr (1) (0), ptr (4) (0), ptr (5) (0)]] (0 = 0 ∧ True))) (∃ l, encL (Ty.l t) = encL l ∧ ∃ es_1, encM es = encM es_1 ∧ ∃ l_1, encL (Ty.l t) = encL l_1 ∧ (SizeOf.sizeOf l < N ∧ (List.length l ≤ 2 ∧ okL l = true) ∧
 okMs es_1 ∧ 0 ≤ IntKind.wrap IntKind.i64 (left - (1 : Int)) ∧ IntKind.wrap IntKind.i64 (left - (1 : Int)) ≤ 1000) ∧ encM es = encM es_1 ∧ c = c ∧ 74 = 74 ∧ SubR [AV.map (0)] [AV.map (0)] (24 = 24 ∧ 24 = 24 ∧ 3 = 3 ∧ int i64 (IntKind.wrap IntKind.i64 (left - (1 : Int))) = int i64 (IntKind.wrap IntKind.i64 (left - (1 : Int))) ∧ 145 = 145 ∧ SubR [AV.fn (Fn.func (118)) [] [ptr (1) (0), ptr (4) (0), ptr (5) (0)]] [AV.fn (Fn.func (118)) [] [ptr (1) (0), ptr (4) (0), ptr (5) (0)]] (24 = 24 ∧ int i64 (Ty.kind t) = int i64 (Ty.kind t) ∧
 int i64 (Ty.n t) = int i64 (Ty.n t) ∧ isl (Ty.nl t) none (0) (encL (Ty.l t)) = isl (Ty.nl t) none (0) (encL l_1) ∧ 3 = 3 ∧ int i64 d = int i64 d ∧ 0 = 0 ∧ bothR (fitsL es_1 l (IntKind.wrap IntKind.i64 (left - (1 : Int)))) (ptr (6) (0) = ptr (6) (0) ∧ int i64 (Ty.kind t) = int i64 (Ty.kind t) ∧ ptr (6) (1) = ptr (6) (1) ∧ int i64 (Ty.n t) = int i64 (Ty.n t) ∧ AEnd.returned (agg [int i64 (Ty.kind t), int i64 (Ty.n t), isl (nilB l) none (0) (encL (pwL es_1 l))]) =
 e ∧ encM es_1 = encM es ∧ c = c ∧ 74 = 74 ∧ SubR [AV.map (0)] [AV.map (0)] (24 = 24 ∧ 24 = 24 ∧ 3 = 3 ∧ int i64 (IntKind.wrap IntKind.i64 (left - (1 : Int)) - iC (cntL (pwL es_1 l))) = int i64 left' ∧ 145 = 145 ∧ SubR [AV.fn (Fn.func (118)) [] [ptr (1) (0), ptr (4) (0), ptr (5) (0)]] [AV.fn (Fn.func (118)) [] [ptr (1) (0), ptr (4) (0), ptr (5) (0)]] (0 = 0 ∧ True))) (AEnd.panicked [(AV.iface (117) (agg [int i64 (9)]), false)] = e ∧ encM es_1 = encM es ∧ c = c ∧ 74 = 74 ∧ SubR [AV.map (0)] [AV.map (0)] (24 = 24 ∧ 24 = 24 ∧ 3 = 3 ∧
 int i64 (pwFL es_1 l (IntKind.wrap IntKind.i64 (left - (1 : Int)))) = int i64 left' ∧ 145 = 145 ∧ SubR [AV.fn (Fn.func (118)) [] [ptr (1) (0), ptr (4) (0), ptr (5) (0)]] [AV.fn (Fn.func (118)) [] [ptr (1) (0), ptr (4) (0), ptr (5) (0)]] (0 = 0 ∧ True)))))))) := by kernel_rfl
theorem ptg_top (es : List (Int × Ty × Nat)) (c : Nat) (t : Ty) (e : AEnd) : (runF ptHkG 60 83 [.map 0, encD t] (mapA es c) (hpIs 0 e (mapA es c))) = ( ∃ l, encL (Ty.l t) = encL l ∧ okT (Ty.mk (Ty.kind t) (Ty.n t) (Ty.nl t) l) = true ∧ ∃ l_1, encL (Ty.l (cleanT (Ty.mk (Ty.kind t) (Ty.n t) (Ty.nl t) l))) = encL l_1 ∧ ∃ es_1, encM es = encM es_1 ∧ (okT (Ty.mk (Ty.kind (cleanT (Ty.mk (Ty.kind t) (Ty.n t) (Ty.nl t) l))) (Ty.n (cleanT (Ty.mk (Ty.kind t) (Ty.n t) (Ty.nl t) l))) (Ty.nl (cleanT (Ty.mk (Ty.kind t) (Ty.n t) (Ty.nl t) l))) l_1) = true ∧ okMs es_1 ∧ Int.NonNeg (60) ∧ Int.NonNeg (940)) ∧
 encM es = encM es_1 ∧ c = c ∧ 74 = 74 ∧ SubR [AV.map (0)] [AV.map (0)] (24 = 24 ∧ 24 = 24 ∧ 3 = 3 ∧ SubR [int i64 (60)] [int i64 (60)] (145 = 145 ∧ SubR [AV.fn (Fn.func (118)) [] [ptr (1) (0), ptr (4) (0), ptr (5) (0)]] [AV.fn (Fn.func (118)) [] [ptr (1) (0), ptr (4) (0), ptr (5) (0)]] (0 = 0 ∧ bothR (fitsB es_1 (Ty.mk (Ty.kind (cleanT (Ty.mk (Ty.kind t) (Ty.n t) (Ty.nl t) l))) (Ty.n (cleanT (Ty.mk (Ty.kind t) (Ty.n t) (Ty.nl t) l))) (Ty.nl (cleanT (Ty.mk (Ty.kind t) (Ty.n t) (Ty.nl t) l))) l_1) ((60 : Int))) (∃ l_2, encL (Ty.l (pwT es_1
 (Ty.mk (Ty.kind (cleanT (Ty.mk (Ty.kind t) (Ty.n t) (Ty.nl t) l))) (Ty.n (cleanT (Ty.mk (Ty.kind t) (Ty.n t) (Ty.nl t) l))) (Ty.nl (cleanT (Ty.mk (Ty.kind t) (Ty.n t) (Ty.nl t) l))) l_1))) = encL l_2 ∧ cnt (Ty.mk (Ty.kind (pwT es_1 (Ty.mk (Ty.kind (cleanT (Ty.mk (Ty.kind t) (Ty.n t) (Ty.nl t) l))) (Ty.n (cleanT (Ty.mk (Ty.kind t) (Ty.n t) (Ty.nl t) l))) (Ty.nl (cleanT (Ty.mk (Ty.kind t) (Ty.n t) (Ty.nl t) l))) l_1))) (Ty.n (pwT es_1 (Ty.mk (Ty.kind (cleanT (Ty.mk (Ty.kind t) (Ty.n t) (Ty.nl t) l))) (Ty.n (cleanT (Ty.mk (Ty.kind t) (Ty.n t) (Ty.nl t) l)))
 (Ty.nl (cleanT (Ty.mk (Ty.kind t) (Ty.n t) (Ty.nl t) l))) l_1))) (Ty.nl (pwT es_1 (Ty.mk (Ty.kind (cleanT (Ty.mk (Ty.kind t) (Ty.n t) (Ty.nl t) l))) (Ty.n (cleanT (Ty.mk (Ty.kind t) (Ty.n t) (Ty.nl t) l))) (Ty.nl (cleanT (Ty.mk (Ty.kind t) (Ty.n t) (Ty.nl t) l))) l_1))) l_2) ≤ 1000 ∧ bothR (!validB (Ty.mk (Ty.kind (pwT es_1 (Ty.mk (Ty.kind (cleanT (Ty.mk (Ty.kind t) (Ty.n t) (Ty.nl t) l))) (Ty.n (cleanT (Ty.mk (Ty.kind t) (Ty.n t) (Ty.nl t) l))) (Ty.nl (cleanT (Ty.mk (Ty.kind t) (Ty.n t) (Ty.nl t) l))) l_1))) (Ty.n (pwT es_1 (Ty.mk (Ty.kind (cleanT (Ty.mk (Ty.kind t) (Ty.n t) (Ty.nl t) l)))
 (Ty.n (cleanT (Ty.mk (Ty.kind t) (Ty.n t) (Ty.nl t) l))) (Ty.nl (cleanT (Ty.mk (Ty.kind t) (Ty.n t) (Ty.nl t) l))) l_1))) (Ty.nl (pwT es_1 (Ty.mk (Ty.kind (cleanT (Ty.mk (Ty.kind t) (Ty.n t) (Ty.nl t) l))) (Ty.n (cleanT (Ty.mk (Ty.kind t) (Ty.n t) (Ty.nl t) l))) (Ty.nl (cleanT (Ty.mk (Ty.kind t) (Ty.n t) (Ty.nl t) l))) l_1))) l_2)) (AEnd.panicked [(AV.iface (117) (agg [int i64 (9)]), false)] = e ∧ encM es_1 = encM es ∧ c = c ∧ 0 = 0 ∧ True) (AEnd.returned (agg [int i64 (Ty.kind (pwT es_1 (Ty.mk (Ty.kind (cleanT (Ty.mk (Ty.kind t) (Ty.n t) (Ty.nl t) l)))
 (Ty.n (cleanT (Ty.mk (Ty.kind t) (Ty.n t) (Ty.nl t) l))) (Ty.nl (cleanT (Ty.mk (Ty.kind t) (Ty.n t) (Ty.nl t) l))) l_1))), int i64 (Ty.n (pwT es_1 (Ty.mk (Ty.kind (cleanT (Ty.mk (Ty.kind t) (Ty.n t) (Ty.nl t) l))) (Ty.n (cleanT (Ty.mk (Ty.kind t) (Ty.n t) (Ty.nl t) l))) (Ty.nl (cleanT (Ty.mk (Ty.kind t) (Ty.n t) (Ty.nl t) l))) l_1))), isl (Ty.nl (pwT es_1 (Ty.mk (Ty.kind (cleanT (Ty.mk (Ty.kind t) (Ty.n t) (Ty.nl t) l))) (Ty.n (cleanT (Ty.mk (Ty.kind t) (Ty.n t) (Ty.nl t) l))) (Ty.nl (cleanT (Ty.mk (Ty.kind t) (Ty.n t) (Ty.nl t) l))) l_1))) none (0) (encL (Ty.l (pwT es_1
 (Ty.mk (Ty.kind (cleanT (Ty.mk (Ty.kind t) (Ty.n t) (Ty.nl t) l))) (Ty.n (cleanT (Ty.mk (Ty.kind t) (Ty.n t) (Ty.nl t) l))) (Ty.nl (cleanT (Ty.mk (Ty.kind t) (Ty.n t) (Ty.nl t) l))) l_1))))]) = e ∧ encM es_1 = encM es ∧ c = c ∧ 0 = 0 ∧ True)) (AEnd.panicked [(AV.iface (117) (agg [int i64 (9)]), false)] = e ∧ encM es_1 = encM es ∧ c = c ∧ 0 = 0 ∧ True))))) := by kernel_rfl
end Go.Proofs.YtnmolpkkemljoaaGreatDoor
end
end
section
noncomputable section
namespace Go.Proofs.YtnmolpkkemljoaaGreatDoor
open Go Go.Am Kd
def pwEnd (es : List (Int × Ty × Nat)) (t : Ty) (r : Int) : AEnd := match fitsB es t r with | true => .returned (encD (pwT es t)) | false => .panicked (stopC 9)
def pmEnd (es : List (Int × Ty × Nat)) (l : List Ty) (r : Int) : AEnd := match fitsL es l r with | true => .returned (.isl (nilB l) none 0 (encL (pwL es l))) | false => .panicked (stopC 9)
def PWalkG (es : List (Int × Ty × Nat)) (c : Nat) (left d : Int) (t : Ty) : Prop := FJ 118 [enc t, .int .i64 d, .ptr 1 0, .ptr 4 0, .ptr 5 0] (pwA es c left) (hpIs 0 (pwEnd es t left) (pwA es c (pwF es t left)))
def PMapG (es : List (Int × Ty × Nat)) (c : Nat) (left d : Int) (u : Ty) (b : Bool) (l : List Ty) : Prop :=
 FJ 103 [.isl b none 0 (encL l), .fn (.func 119) [] [.ptr 5 0, .ptr 7 0]] (pwM es c left d u) (hpIs 0 (pmEnd es l left) (pwM es c (pwFL es l left) d u))
theorem stop_bnd (n nf : Nat) (e : Int) : AEnd.bnd n nf (.panicked (stopC e)) = true := rfl
theorem pwalkG_hook {N : Nat} (ih : ∀ (es : List (Int × Ty × Nat)) (c : Nat) (left d : Int) (t : Ty), SizeOf.sizeOf t < N → okT t = true → okMs es → 0 ≤ left → left ≤ 1000 → PWalkG es c left d t) : HSpec.Ok Tryz.prog g0 118 (pwalkG N) := by
 intro args A K h'
 unfold pwalkG at h'
 split at h'
 ·obtain ⟨t, rfl, h⟩ := argTy_elim h'
  obtain ⟨es, c, left, ⟨h1, h2, h3, h4, h5⟩, h⟩ := argPw_elim h
  have hj := fun d => ih es c left d t h1 h2 h3 h4 h5
  simp only [PWalkG, pwEnd] at hj
  cases hf : fitsB es t left with
  | true =>
   simp only [hf, (pwF_fit es).1 t left hf] at h hj
   obtain ⟨hK, hr⟩ := FuncJ.on (n := 6) h (hj _) (pwA_ok ..) (pwA_ok ..) (by simp [AV.bndL, AV.bnd, AV.still_bnd, enc_still]) (by simp [AEnd.bnd, AV.still_bnd, encD_still])
   exact ⟨_, hr, hK⟩
  | false =>
   simp only [hf] at h hj
   obtain ⟨hK, hr⟩ := FuncJ.on (n := 6) h (hj _) (pwA_ok ..) (pwA_ok ..) (by simp [AV.bndL, AV.bnd, AV.still_bnd, enc_still]) (stop_bnd ..)
   exact ⟨_, hr, hK⟩
 ·exact h'.elim
theorem pmapG_hook {N : Nat} (ih : ∀ (es : List (Int × Ty × Nat)) (c : Nat) (left d : Int) (u : Ty) (b : Bool) (l : List Ty), SizeOf.sizeOf l < N → l.length ≤ 2 → okL l = true → okMs es → 0 ≤ left → left ≤ 1000 → PMapG es c left d u b l) : HSpec.Ok Tryz.prog g0 103 (pmapG N) := by
 intro args A K h'
 unfold pmapG at h'
 split at h'
 ·obtain ⟨l, rfl, h⟩ := h'
  obtain ⟨es, c, left, d, u, ⟨h1, ⟨h2, h6⟩, h3, h4, h5⟩, h⟩ := argPm_elim h
  have hj := fun b => ih es c left d u b l h1 h2 h6 h3 h4 h5
  simp only [PMapG, pmEnd] at hj
  cases hf : fitsL es l left with
  | true =>
   simp only [hf, (pwF_fit es).2 l left hf] at h hj
   obtain ⟨hK, hr⟩ := FuncJ.on (n := 8) h (hj _) (pwM_ok ..) (pwM_ok ..) (by simp [AV.bndL, AV.bnd, encL_bnd]) (by simp [AEnd.bnd, AV.bnd, encL_bnd])
   exact ⟨_, hr, hK⟩
  | false =>
   simp only [hf] at h hj
   obtain ⟨hK, hr⟩ := FuncJ.on (n := 8) h (hj _) (pwM_ok ..) (pwM_ok ..) (by simp [AV.bndL, AV.bnd, encL_bnd]) (stop_bnd ..)
   exact ⟨_, hr, hK⟩
 ·exact h'.elim
theorem pmapG_ok {N : Nat} (ih : ∀ (es : List (Int × Ty × Nat)) (c : Nat) (left d : Int) (t : Ty), SizeOf.sizeOf t < N → okT t = true → okMs es → 0 ≤ left → left ≤ 1000 → PWalkG es c left d t)
  (es : List (Int × Ty × Nat)) (c : Nat) (left d : Int) (u : Ty) (b : Bool) (l : List Ty) (hN : SizeOf.sizeOf l ≤ N) (h2 : l.length ≤ 2) (ho : okL l = true) (hm : okMs es) (h0 : 0 ≤ left) (h1 : left ≤ 1000) : PMapG es c left d u b l := by
 have hh : Hooks.Ok Tryz.prog g0 (pmHkG N) := mkHooks_ok all_nil (all_cons (pwalkG_hook ih) all_nil) all_nil
 refine FuncJ.mono (K := fun o => o = ⟨pmEnd es l left, pwM es c (pwFL es l left) d u⟩) ?_ fun o ho => by subst ho; exact hpIs_self rfl
 have hok := pwM_ok es c (pwFL es l left) d u
 simp only [AH.ok, Bool.and_eq_true, decide_eq_true_eq] at hok
 have hbe : (pmEnd es l left).bnd 8 0 = true := by
  unfold pmEnd
  split
  ·simp [AEnd.bnd, AV.bnd, encL_bnd]
  ·rfl
 refine FuncJ.fz (n := 8) (nf := 0) (k := 5) ?_ hok.1 hok.2.1 (Nat.le_refl _) (Nat.le_refl _) hok.2.2.1 hbe
 refine FuncJ.run (el := els) (mu := mu0) (hk := pmHkG N) hmix hh (n := 60) ?_
 match l, h2, ho, hN with
 | [], _, _, _ =>
  show runF (pmHkG N) 60 103 [.isl b none 0 [], .fn (.func 119) [] [.ptr 5 0, .ptr 7 0]] (pwM es c left d u) _
  rw [pg_top0]
  have hf : fitsL es [] left = true := by simp [fitsL, pwL, cntL, h0]
  simp only [eq_self, true_and, and_true, SubR_id, ex_encM, ex_enc, Ty.eta]
  refine ⟨by unfold pmEnd; rw [hf]; rfl, by simp [pwFL]⟩
 | [x], _, ho, hN =>
  have e : encL [x] = [encD x] := by simp only [encL, enc_D]
  rw [e]
  show runF (pmHkG N) 60 103 [.isl b none 0 [encD x], .fn (.func 119) [] [.ptr 5 0, .ptr 7 0]] (pwM es c left d u) _
  rw [pg_top1]
  simp only [List.cons.sizeOf_spec] at hN
  have hfl : fitsL es [x] left = fitsB es x left := by simp [fitsL, fitsB, pwL, cntL]
  simp only [eq_self, true_and, and_true, SubR_id, ex_encM, ex_enc, Ty.eta, encL_sing]
  refine ⟨⟨by omega, okL_mem ho x (by simp), hm, h0, h1⟩, bothR_bool (fun hf => ?_) fun hf => ?_⟩
  ·refine ⟨by unfold pmEnd; rw [hfl, hf]; rfl, ?_⟩
   simp only [pwFL, hf, if_true]
  ·refine ⟨by unfold pmEnd; rw [hfl, hf]; rfl, ?_⟩
   simp only [pwFL, hf, Bool.false_eq_true, if_false]
 | [x, y], _, ho, hN =>
  have e : encL [x, y] = [encD x, encD y] := by simp only [encL, enc_D]
  rw [e]
  show runF (pmHkG N) 60 103 [.isl b none 0 [encD x, encD y], .fn (.func 119) [] [.ptr 5 0, .ptr 7 0]] (pwM es c left d u) _
  rw [pg_top2]
  simp only [List.cons.sizeOf_spec] at hN
  have e2 : ∀ u v : Ty, [AV.agg [.int .i64 u.kind, .int .i64 u.n, .isl u.nl none 0 (encL u.l)], AV.agg [.int .i64 v.kind, .int .i64 v.n, .isl v.nl none 0 (encL v.l)]] = encL [u, v] := fun u v => by
   simp only [encL, enc_D]; rfl
  simp only [eq_self, true_and, and_true, SubR_id, ex_encM, ex_enc, Ty.eta, e2, iC]
  refine ⟨⟨by omega, okL_mem ho x (by simp), hm, h0, h1⟩, bothR_bool (fun hf => ?_) fun hf => ?_⟩
  ·have hx : (cnt (pwT es x) : Int) ≤ left := by simpa [fitsB] using hf
   refine ⟨⟨by omega, okL_mem ho y (by simp), hm, by omega, by omega⟩, bothR_bool (fun hg => ?_) fun hg => ?_⟩
   ·have hy : (cnt (pwT es y) : Int) ≤ left - cnt (pwT es x) := by simpa [fitsB] using hg
    have hfl : fitsL es [x, y] left = true := by simp only [fitsL, pwL, cntL, decide_eq_true_eq, Int.natCast_add]; omega
    refine ⟨by unfold pmEnd; rw [hfl]; rfl, ?_⟩
    simp only [pwFL, hf, hg, if_true]
   ·have hy : ¬ (cnt (pwT es y) : Int) ≤ left - cnt (pwT es x) := by simpa [fitsB] using hg
    have hfl : fitsL es [x, y] left = false := by simp only [fitsL, pwL, cntL, decide_eq_false_iff_not, Int.natCast_add]; omega
    refine ⟨by unfold pmEnd; rw [hfl]; rfl, ?_⟩
    simp only [pwFL, hf, hg, if_true, Bool.false_eq_true, if_false]
  ·have hx : ¬ (cnt (pwT es x) : Int) ≤ left := by simpa [fitsB] using hf
   have hfl : fitsL es [x, y] left = false := by simp only [fitsL, pwL, cntL, decide_eq_false_iff_not, Int.natCast_add]; omega
   refine ⟨by unfold pmEnd; rw [hfl]; rfl, ?_⟩
   simp only [pwFL, hf, Bool.false_eq_true, if_false]
theorem pwalkG_ok (es : List (Int × Ty × Nat)) (c : Nat) (left d : Int) (t : Ty) (ho : okT t = true) (hm : okMs es) (h0 : 0 ≤ left) (h1 : left ≤ 1000) : PWalkG es c left d t := by
 have key : ∀ (N : Nat) (es : List (Int × Ty × Nat)) (c : Nat) (left d : Int) (t : Ty), SizeOf.sizeOf t < N → okT t = true → okMs es → 0 ≤ left → left ≤ 1000 → PWalkG es c left d t := by
  intro N
  induction N with
  | zero => intro es c left d t h; omega
  | succ N ih =>
   intro es c left d t ht ho hm h0 h1
   have hh : Hooks.Ok Tryz.prog g0 (pwHkG N) := mkHooks_ok (all_cons kcl_hook0 (all_cons parts_hook all_nil)) (all_cons cwalk_hook0 (all_cons (pmapG_hook fun es c left d u b l h1 h2 h3 h4 h5 h6 => pmapG_ok ih es c left d u b l (by omega) h2 h3 h4 h5 h6) all_nil)) all_nil
   obtain ⟨k, n, nl, ts⟩ := t
   have hol := okL_of ho
   simp only [Ty.mk.sizeOf_spec] at ht
   unfold PWalkG
   rw [enc_D]
   refine FuncJ.run (el := els) (mu := mu0) (hk := pwHkG N) hmix hh (n := 60) ?_
   show runF (pwHkG N) 60 118 [encD (.mk k n nl ts), .int .i64 d, .ptr 1 0, .ptr 4 0, .ptr 5 0] (pwA es c left) _
   rw [pwg_top]
   simp only [eq_self, true_and, and_true, SubR_id, ex_encM, ex_enc, Ty.eta, tk_mk, tn_mk, tl_mk, tb_mk, iC]
   have plain (h : ¬ (k = 6 ∧ (boundM es n).isSome = true)) : pwT es (.mk k n nl ts) = .mk k n (nilB ts) (pwL es ts) := by simp only [pwT, h, if_false]
   have plainF (h : ¬ (k = 6 ∧ (boundM es n).isSome = true)) : pwF es (.mk k n nl ts) left = if left - 1 < 0 then left - 1 else pwFL es ts (left - 1) := by simp only [pwF, h, if_false]
   have node (h : ¬ (k = 6 ∧ (boundM es n).isSome = true)) (hneg : left - 1 < 0) : AEnd.panicked (stopC 9) = pwEnd es (.mk k n nl ts) left ∧ left - 1 = pwF es (.mk k n nl ts) left := by
    have hf : fitsB es (.mk k n nl ts) left = false := by
     simp only [fitsB, plain h, cnt, decide_eq_false_iff_not, Int.natCast_add, Int.cast_ofNat_Int]; omega
    refine ⟨by unfold pwEnd; rw [hf], ?_⟩
    rw [plainF h, if_pos hneg]
   have fl (h : ¬ (k = 6 ∧ (boundM es n).isSome = true)) : fitsB es (.mk k n nl ts) left = fitsL es ts (left - 1) := by
    simp only [fitsB, fitsL, plain h, cnt, Int.natCast_add, Int.cast_ofNat_Int]
    congr 1
    exact propext ⟨fun h => by omega, fun h => by omega⟩
   cases hb : boundM es n with
   | none =>
    have hno : ¬ (k = 6 ∧ (boundM es n).isSome = true) := by rw [hb]; simp
    refine .inl ⟨keyFind_none hb 0, ?_⟩
    rw [wrap_id (by omega) (by omega)]
    refine bothR_ndec (fun h => ?_) fun h => ⟨⟨by omega, hol, hm, by omega, by omega⟩, bothR_bool (fun hf => ?_) fun hf => ?_⟩
    ·obtain ⟨n1, n2⟩ := node hno (by omega)
     exact ⟨n1, by rw [n2]⟩
    ·have hF := (pwF_fit es).2 ts (left - 1) hf
     refine ⟨by unfold pwEnd; rw [fl hno, hf, plain hno]; rfl, ?_⟩
     rw [plainF hno, if_neg (by omega), hF]
    ·refine ⟨by unfold pwEnd; rw [fl hno, hf]; rfl, ?_⟩
     rw [plainF hno, if_neg (by omega)]
   | some u =>
    obtain ⟨j, hj⟩ := keyFind_some hb 0
    obtain ⟨x, hx, rfl⟩ := boundM_mem hb
    have hxo := hm x hx
    refine .inr ⟨j, x.2.1, hj, bothR_dec (fun h6 => ?_) fun h6 => ?_⟩
    ·have hp : pwT es (.mk k n nl ts) = cleanT x.2.1 := by simp only [pwT, hb, h6, Option.isSome_some, and_self, if_true, Option.getD_some]
     have hpF : pwF es (.mk k n nl ts) left = left - cnt x.2.1 := by simp only [pwF, hb, h6, Option.isSome_some, and_self, if_true, Option.getD_some]
     refine ⟨⟨by omega, nn 0, by omega⟩, ?_⟩
     rw [wrap_id (by omega) (by omega)]
     refine bothR_ndec (fun h => ?_) fun h => ?_
     ·have hf : fitsB es (.mk k n nl ts) left = false := by simp only [fitsB, hp, cnt_clean, decide_eq_false_iff_not]; omega
      refine ⟨by unfold pwEnd; rw [hf]; rfl, ?_⟩
      rw [hpF]; exact congrArg _ (by omega)
     ·have hf : fitsB es (.mk k n nl ts) left = true := by simp only [fitsB, hp, cnt_clean, decide_eq_true_eq]; omega
      refine ⟨hxo.1, by unfold pwEnd; rw [hf, hp]; rfl, ?_⟩
      rw [hpF]; exact congrArg _ (by omega)
    ·have hno : ¬ (k = 6 ∧ (boundM es n).isSome = true) := fun h => h6 h.1
     rw [wrap_id (by omega) (by omega)]
     refine bothR_ndec (fun h => ?_) fun h => ⟨⟨by omega, hol, hm, by omega, by omega⟩, bothR_bool (fun hf => ?_) fun hf => ?_⟩
     ·obtain ⟨n1, n2⟩ := node hno (by omega)
      exact ⟨n1, by rw [n2]⟩
     ·have hF := (pwF_fit es).2 ts (left - 1) hf
      refine ⟨by unfold pwEnd; rw [fl hno, hf, plain hno]; rfl, ?_⟩
      rw [plainF hno, if_neg (by omega), hF]
     ·refine ⟨by unfold pwEnd; rw [fl hno, hf]; rfl, ?_⟩
      rw [plainF hno, if_neg (by omega)]
 exact key _ es c left d t (Nat.lt_succ_self _) ho hm h0 h1
theorem pwalkG_hook0 : HSpec.Ok Tryz.prog g0 118 pwalkG0 := by
 intro args A K h'
 unfold pwalkG0 at h'
 split at h'
 ·obtain ⟨t, rfl, h⟩ := argTy_elim h'
  obtain ⟨es, c, left, ⟨h2, h3, h4, h5⟩, h⟩ := argPw_elim h
  have hj := fun d => pwalkG_ok es c left d t h2 h3 h4 h5
  simp only [PWalkG, pwEnd] at hj
  cases hf : fitsB es t left with
  | true =>
   simp only [hf, (pwF_fit es).1 t left hf] at h hj
   obtain ⟨hK, hr⟩ := FuncJ.on (n := 6) h (hj _) (pwA_ok ..) (pwA_ok ..) (by simp [AV.bndL, AV.bnd, AV.still_bnd, enc_still]) (by simp [AEnd.bnd, AV.still_bnd, encD_still])
   exact ⟨_, hr, hK⟩
  | false =>
   simp only [hf] at h hj
   obtain ⟨hK, hr⟩ := FuncJ.on (n := 6) h (hj _) (pwA_ok ..) (pwA_ok ..) (by simp [AV.bndL, AV.bnd, AV.still_bnd, enc_still]) (stop_bnd ..)
   exact ⟨_, hr, hK⟩
 ·exact h'.elim
def putEnd (es : List (Int × Ty × Nat)) (t : Ty) : AEnd := match putB es t with | true => .returned (encD (pwT es (cleanT t))) | false => .panicked (stopC 9)
theorem putG_ok (es : List (Int × Ty × Nat)) (c : Nat) (t : Ty) (h2 : okT t = true) (h3 : okMs es) : FJ 83 [.map 0, enc t] (mapA es c) (hpIs 0 (putEnd es t) (mapA es c)) := by
 have hh : Hooks.Ok Tryz.prog g0 ptHkG := mkHooks_ok (all_cons kcl_hook0 (all_cons valid_hook all_nil)) (all_cons pwalkG_hook0 all_nil) all_nil
 rw [enc_D]
 refine FuncJ.run (el := els) (mu := mu0) (hk := ptHkG) hmix hh (n := 60) ?_
 show runF ptHkG 60 83 [.map 0, encD t] (mapA es c) _
 rw [ptg_top]
 simp only [eq_self, true_and, and_true, SubR_id, ex_encM, ex_enc, Ty.eta, iC]
 refine ⟨h2, ⟨ok_clean t h2, h3, nn 60, nn 940⟩, bothR_bool (fun hf => ?_) fun hf => ?_⟩
 ·have hc : (cnt (pwT es (cleanT t)) : Int) ≤ 60 := by simpa [fitsB] using hf
  refine ⟨by omega, bothR_nbool (fun hv => ?_) fun hv => ?_⟩
  ·unfold putEnd putB; rw [hf, hv]; rfl
  ·unfold putEnd putB; rw [hf, hv]; rfl
 ·unfold putEnd putB; rw [hf]; rfl
theorem putG_hook : HSpec.Ok Tryz.prog g0 83 putG := by
 intro args A K h'
 unfold putG at h'
 split at h'
 ·obtain ⟨t, rfl, h⟩ := argTy_elim h'
  split at h
  ·rename_i b t' m c hb
   obtain ⟨es, rfl, ⟨hp, hm⟩, hK⟩ := h
   rw [nthR_eq] at hb
   have hj := putG_ok es c t hp hm
   unfold putEnd at hj
   cases hf : putB es t with
   | true =>
    rw [hf] at hK hj
    have hr := FuncJ.one (A := A) (b := b) (x' := .map (encM es) c) hj (by simp [AV.stillL, enc_still]) (by simp [ABlk.bnd, encM_bnd]) (by simp [ABlk.bnd, encM_bnd]) (by simp [ABlk.bnd, encM_bnd]) (by simp [AEnd.bnd, AV.still_bnd, encD_still]) (by simp) (by simp) hb
    exact ⟨_, hr, hK⟩
   | false =>
    rw [hf] at hK hj
    have hr := FuncJ.one (A := A) (b := b) (x' := .map (encM es) c) hj (by simp [AV.stillL, enc_still]) (by simp [ABlk.bnd, encM_bnd]) (by simp [ABlk.bnd, encM_bnd]) (by simp [ABlk.bnd, encM_bnd]) (stop_bnd ..) (by simp) (by simp) hb
    exact ⟨_, hr, hK⟩
  ·exact h.elim
 ·exact h'.elim
end Go.Proofs.YtnmolpkkemljoaaGreatDoor
end
end
section
namespace Kd
open Go.Am
def eqL (l m : List Ty) : Bool := decide (l.length = m.length) && sameL l m
end Kd
noncomputable section
namespace Go.Proofs.YtnmolpkkemljoaaGreatDoor
open Go Go.Am Kd
def efQ (N : Nat) : QSpec
 | [.isl _ none 0 xs, .isl _ none 0 ys, .fn (.func 67) [] []], K => ∃ l, xs = encL l ∧ ∃ m, ys = encL m ∧ (SizeOf.sizeOf l < N ∧ okL l = true ∧ okL m = true ∧ l.length ≤ 2 ∧ m.length ≤ 2) ∧ K (.bool (eqL l m))
 | _, _ => False
def eqQ (N : Nat) : QSpec
 | [x, y], K => argTy x fun t => argTy y fun u => (SizeOf.sizeOf t < N ∧ okT t = true ∧ okT u = true) ∧ K (.bool (sameB t u))
 | _, _ => False
def eqQ0 : QSpec
 | [x, y], K => argTy x fun t => argTy y fun u => (okT t = true ∧ okT u = true) ∧ K (.bool (sameB t u))
 | _, _ => False
def eqHk (N : Nat) : Hooks := mkHooks Tryz.prog [(102, efQ N)] [] []
def efHk (N : Nat) : Hooks := mkHooks Tryz.prog [(67, eqQ N)] [] []
def f67 : AV := .fn (.func 67) [] []
end Go.Proofs.YtnmolpkkemljoaaGreatDoor
end
end
section
noncomputable section
namespace Go.Proofs.YtnmolpkkemljoaaGreatDoor
open Go Go.Am Kd Go.Am.AV Go.IntKind
theorem eq_top (a b : Ty) (N : Nat) (r : Bool) : (runF (eqHk N) 60 67 [encD a, encD b] AH.nil (retIs Tryz.prog 5 (.bool r))) = ( bothR (decide (Ty.kind a = Ty.kind b)) (bothR (!decide (Ty.kind a = (6 : Int))) (∃ l, encL (Ty.l a) = encL l ∧ ∃ m, encL (Ty.l b) = encL m ∧ (SizeOf.sizeOf l < N ∧ okL l = true ∧ okL m = true ∧ List.length l ≤ 2 ∧ List.length m ≤ 2) ∧ bool (eqL l m) = bool r) (bothR (decide (Ty.n a = Ty.n b)) (∃ l, encL (Ty.l a) = encL l ∧ ∃ m, encL (Ty.l b) = encL m ∧
 (SizeOf.sizeOf l < N ∧ okL l = true ∧ okL m = true ∧ List.length l ≤ 2 ∧ List.length m ≤ 2) ∧ bool (eqL l m) = bool r) (bool false = bool r))) (bool false = bool r)) := by kernel_rfl
theorem ef_00 (b c : Bool) (N : Nat) (r : Bool) : (runF (efHk N) 60 102 [.isl b none 0 [], .isl c none 0 [], f67] AH.nil (retIs Tryz.prog 5 (.bool r))) = ( bool true = bool r) := by kernel_rfl
theorem ef_01 (b c : Bool) (u : Ty) (N : Nat) (r : Bool) : (runF (efHk N) 60 102 [.isl b none 0 [], .isl c none 0 [encD u], f67] AH.nil (retIs Tryz.prog 5 (.bool r))) = ( bool false = bool r) := by kernel_rfl
theorem ef_02 (b c : Bool) (u v : Ty) (N : Nat) (r : Bool) : (runF (efHk N) 60 102 [.isl b none 0 [], .isl c none 0 [encD u, encD v], f67] AH.nil (retIs Tryz.prog 5 (.bool r))) = ( bool false = bool r) := by kernel_rfl
theorem ef_10 (b c : Bool) (x : Ty) (N : Nat) (r : Bool) : (runF (efHk N) 60 102 [.isl b none 0 [encD x], .isl c none 0 [], f67] AH.nil (retIs Tryz.prog 5 (.bool r))) = ( bool false = bool r) := by kernel_rfl
theorem ef_11 (b c : Bool) (x u : Ty) (N : Nat) (r : Bool) : (runF (efHk N) 60 102 [.isl b none 0 [encD x], .isl c none 0 [encD u], f67] AH.nil (retIs Tryz.prog 5 (.bool r))) = ( Int.NonNeg (0) ∧ ∃ x_1, some (agg [int i64 (Ty.kind x), int i64 (Ty.n x), isl (Ty.nl x) none (0) (encL (Ty.l x))]) = some (agg [int i64 (Ty.kind x_1), int i64 (Ty.n x_1), isl (Ty.nl x_1) none (0) (encL (Ty.l x_1))]) ∧ Int.NonNeg (0) ∧ ∃ x, some (agg [int i64 (Ty.kind u), int i64 (Ty.n u), isl (Ty.nl u) none (0) (encL (Ty.l u))]) =
 some (agg [int i64 (Ty.kind x), int i64 (Ty.n x), isl (Ty.nl x) none (0) (encL (Ty.l x))]) ∧ ∃ l, encL (Ty.l x_1) = encL l ∧ ∃ l_1, encL (Ty.l x) = encL l_1 ∧ (SizeOf.sizeOf (Ty.mk (Ty.kind x_1) (Ty.n x_1) (Ty.nl x_1) l) < N ∧ okT (Ty.mk (Ty.kind x_1) (Ty.n x_1) (Ty.nl x_1) l) = true ∧ okT (Ty.mk (Ty.kind x) (Ty.n x) (Ty.nl x) l_1) = true) ∧ bothR (!sameB (Ty.mk (Ty.kind x_1) (Ty.n x_1) (Ty.nl x_1) l) (Ty.mk (Ty.kind x) (Ty.n x) (Ty.nl x) l_1)) (bool false = bool r) (bool true = bool r)) := by kernel_rfl
theorem ef_12 (b c : Bool) (x u v : Ty) (N : Nat) (r : Bool) : (runF (efHk N) 60 102 [.isl b none 0 [encD x], .isl c none 0 [encD u, encD v], f67] AH.nil (retIs Tryz.prog 5 (.bool r))) = ( bool false = bool r) := by kernel_rfl
theorem ef_20 (b c : Bool) (x y : Ty) (N : Nat) (r : Bool) : (runF (efHk N) 60 102 [.isl b none 0 [encD x, encD y], .isl c none 0 [], f67] AH.nil (retIs Tryz.prog 5 (.bool r))) = ( bool false = bool r) := by kernel_rfl
theorem ef_21 (b c : Bool) (x y u : Ty) (N : Nat) (r : Bool) : (runF (efHk N) 60 102 [.isl b none 0 [encD x, encD y], .isl c none 0 [encD u], f67] AH.nil (retIs Tryz.prog 5 (.bool r))) = ( bool false = bool r) := by kernel_rfl
theorem ef_22 (b c : Bool) (x y u v : Ty) (N : Nat) (r : Bool) : (runF (efHk N) 60 102 [.isl b none 0 [encD x, encD y], .isl c none 0 [encD u, encD v], f67] AH.nil (retIs Tryz.prog 5 (.bool r))) = ( Int.NonNeg (0) ∧ ∃ x_1, some (agg [int i64 (Ty.kind x), int i64 (Ty.n x), isl (Ty.nl x) none (0) (encL (Ty.l x))]) = some (agg [int i64 (Ty.kind x_1), int i64 (Ty.n x_1), isl (Ty.nl x_1) none (0) (encL (Ty.l x_1))]) ∧ Int.NonNeg (0) ∧ ∃ x,
 some (agg [int i64 (Ty.kind u), int i64 (Ty.n u), isl (Ty.nl u) none (0) (encL (Ty.l u))]) = some (agg [int i64 (Ty.kind x), int i64 (Ty.n x), isl (Ty.nl x) none (0) (encL (Ty.l x))]) ∧ ∃ l, encL (Ty.l x_1) = encL l ∧ ∃ l_1, encL (Ty.l x) = encL l_1 ∧ (SizeOf.sizeOf (Ty.mk (Ty.kind x_1) (Ty.n x_1) (Ty.nl x_1) l) < N ∧ okT (Ty.mk (Ty.kind x_1) (Ty.n x_1) (Ty.nl x_1) l) = true ∧ okT (Ty.mk (Ty.kind x) (Ty.n x) (Ty.nl x) l_1) = true) ∧
 bothR (!sameB (Ty.mk (Ty.kind x_1) (Ty.n x_1) (Ty.nl x_1) l) (Ty.mk (Ty.kind x) (Ty.n x) (Ty.nl x) l_1)) (bool false = bool r) (Int.NonNeg (1) ∧ ∃ x, some (agg [int i64 (Ty.kind y), int i64 (Ty.n y), isl (Ty.nl y) none (0) (encL (Ty.l y))]) = some (agg [int i64 (Ty.kind x), int i64 (Ty.n x), isl (Ty.nl x) none (0) (encL (Ty.l x))]) ∧ Int.NonNeg (1) ∧ ∃ x_2, some (agg [int i64 (Ty.kind v), int i64 (Ty.n v), isl (Ty.nl v) none (0) (encL (Ty.l v))]) =
 some (agg [int i64 (Ty.kind x_2), int i64 (Ty.n x_2), isl (Ty.nl x_2) none (0) (encL (Ty.l x_2))]) ∧ ∃ l, encL (Ty.l x) = encL l ∧ ∃ l_2, encL (Ty.l x_2) = encL l_2 ∧ (SizeOf.sizeOf (Ty.mk (Ty.kind x) (Ty.n x) (Ty.nl x) l) < N ∧ okT (Ty.mk (Ty.kind x) (Ty.n x) (Ty.nl x) l) = true ∧ okT (Ty.mk (Ty.kind x_2) (Ty.n x_2) (Ty.nl x_2) l_2) = true) ∧ bothR (!sameB (Ty.mk (Ty.kind x) (Ty.n x) (Ty.nl x) l) (Ty.mk (Ty.kind x_2) (Ty.n x_2) (Ty.nl x_2) l_2)) (bool false = bool r) (bool true = bool r))) := by kernel_rfl
end Go.Proofs.YtnmolpkkemljoaaGreatDoor
end
end
section
noncomputable section
namespace Go.Proofs.YtnmolpkkemljoaaGreatDoor
open Go Go.Am Kd
theorem ef_hook {N : Nat} (ih : ∀ (b c : Bool) (l m : List Ty), SizeOf.sizeOf l < N → okL l = true → okL m = true → l.length ≤ 2 → m.length ≤ 2 → QJ 102 [.isl b none 0 (encL l), .isl c none 0 (encL m), f67] (.bool (eqL l m))) : QSpec.Ok Tryz.prog g0 102 (efQ N) := by
 intro args K h'
 unfold efQ at h'
 split at h'
 ·obtain ⟨l, rfl, m, rfl, ⟨h1, h2, h3, h4, h5⟩, hK⟩ := h'
  exact ⟨_, ih _ _ l m h1 h2 h3 h4 h5, hK⟩
 ·exact h'.elim
theorem eq_hook {N : Nat} (ih : ∀ (t u : Ty), SizeOf.sizeOf t < N → okT t = true → okT u = true → QJ 67 [enc t, enc u] (.bool (sameB t u))) : QSpec.Ok Tryz.prog g0 67 (eqQ N) := by
 intro args K h'
 unfold eqQ at h'
 split at h'
 ·obtain ⟨t, rfl, h2⟩ := argTy_elim h'
  obtain ⟨u, rfl, h3, h4⟩ := argTy_elim h2
  exact ⟨_, ih t u h3.1 h3.2.1 h3.2.2, h4⟩
 ·exact h'.elim
theorem eqf_ok {N : Nat} (ih : ∀ (t u : Ty), SizeOf.sizeOf t < N → okT t = true → okT u = true → QJ 67 [enc t, enc u] (.bool (sameB t u))) (b c : Bool) (l m : List Ty) (hN : SizeOf.sizeOf l ≤ N) (hl : okL l = true) (hm : okL m = true) (h1 : l.length ≤ 2) (h2 : m.length ≤ 2) :
  QJ 102 [.isl b none 0 (encL l), .isl c none 0 (encL m), f67] (.bool (eqL l m)) := by
 have hh : Hooks.Ok Tryz.prog g0 (efHk N) := mkHooks_ok (all_cons (eq_hook ih) all_nil) all_nil all_nil
 refine QuietJ.ret (P := Tryz.prog) (G := g0) (f := 102) 5 (by simp [AV.stillL, AV.still, encL_still, f67]) rfl (FuncJ.run (el := els) (mu := mu0) (hk := efHk N) hmix hh (n := 60) ?_)
 have e0 : encL [] = [] := by simp only [encL]
 have e1 : ∀ x, encL [x] = [encD x] := fun x => by simp only [encL, enc_D]
 have e2 : ∀ x y, encL [x, y] = [encD x, encD y] := fun x y => by simp only [encL, enc_D]
 match l, m, h1, h2, hl, hm, hN with
 | [], [], _, _, _, _, _ => simp only [e0, e1, e2]; exact Eq.mpr (ef_00 b c N _) rfl
 | [], [u], _, _, _, _, _ => simp only [e0, e1, e2]; exact Eq.mpr (ef_01 b c u N _) rfl
 | [], [u, v], _, _, _, _, _ => simp only [e0, e1, e2]; exact Eq.mpr (ef_02 b c u v N _) rfl
 | [x], [], _, _, _, _, _ => simp only [e0, e1, e2]; exact Eq.mpr (ef_10 b c x N _) rfl
 | [x, y], [], _, _, _, _, _ => simp only [e0, e1, e2]; exact Eq.mpr (ef_20 b c x y N _) rfl
 | [x], [u, v], _, _, _, _, _ => simp only [e0, e1, e2]; exact Eq.mpr (ef_12 b c x u v N _) rfl
 | [x, y], [u], _, _, _, _, _ => simp only [e0, e1, e2]; exact Eq.mpr (ef_21 b c x y u N _) rfl
 | [x], [u], _, _, hl, hm, hN =>
  rw [e1, e1]
  simp only [okL, Bool.and_true] at hl hm
  simp only [List.cons.sizeOf_spec] at hN
  show runF (efHk N) 60 102 [.isl b none 0 [encD x], .isl c none 0 [encD u], f67] AH.nil _
  rw [ef_11]
  refine ⟨nn 0, x, rfl, nn 0, u, rfl, x.l, rfl, u.l, rfl, ?_⟩
  rw [Ty.eta, Ty.eta]
  refine ⟨⟨by omega, hl, hm⟩, bothR_nbool (fun h => ?_) fun h => ?_⟩
  ·simp [eqL, sameL, h]
  ·simp [eqL, sameL, h]
 | [x, y], [u, v], _, _, hl, hm, hN =>
  rw [e2, e2]
  simp only [okL, Bool.and_true, Bool.and_eq_true] at hl hm
  simp only [List.cons.sizeOf_spec] at hN
  show runF (efHk N) 60 102 [.isl b none 0 [encD x, encD y], .isl c none 0 [encD u, encD v], f67] AH.nil _
  rw [ef_22]
  refine ⟨nn 0, x, rfl, nn 0, u, rfl, x.l, rfl, u.l, rfl, ?_⟩
  rw [Ty.eta, Ty.eta]
  refine ⟨⟨by omega, hl.1, hm.1⟩, bothR_nbool (fun h => ?_) fun h => ⟨nn 1, y, rfl, nn 1, v, rfl, y.l, rfl, v.l, rfl, ?_⟩⟩
  ·simp [eqL, sameL, h]
  rw [Ty.eta, Ty.eta]
  refine ⟨⟨by omega, hl.2, hm.2⟩, bothR_nbool (fun h' => ?_) fun h' => ?_⟩
  ·simp [eqL, sameL, h, h']
  ·simp [eqL, sameL, h, h']
theorem equal_ok : ∀ (t u : Ty), okT t = true → okT u = true → QJ 67 [enc t, enc u] (.bool (sameB t u)) := by
 have key : ∀ (N : Nat) (t u : Ty), SizeOf.sizeOf t < N → okT t = true → okT u = true → QJ 67 [enc t, enc u] (.bool (sameB t u)) := by
  intro N
  induction N with
  | zero => intro t u h; omega
  | succ N ih =>
   intro t u ht hot hou
   have hh : Hooks.Ok Tryz.prog g0 (eqHk N) := mkHooks_ok (all_cons (ef_hook fun b c l m h1 h2 h3 h4 h5 => eqf_ok ih b c l m (by omega) h2 h3 h4 h5) all_nil) all_nil all_nil
   refine QuietJ.ret (P := Tryz.prog) (G := g0) (f := 67) 5 (by simp [AV.stillL, enc_still]) rfl (FuncJ.run (el := els) (mu := mu0) (hk := eqHk N) hmix hh (n := 60) ?_)
   rw [enc_D, enc_D]
   show runF (eqHk N) 60 67 [encD t, encD u] AH.nil _
   rw [eq_top]
   obtain ⟨k, n, b, l⟩ := t
   obtain ⟨k', n', b', l'⟩ := u
   obtain ⟨l1, l2⟩ := okL_of hot
   obtain ⟨m1, m2⟩ := okL_of hou
   simp only [Ty.mk.sizeOf_spec] at ht
   simp only [tk_mk, tn_mk, tb_mk, tl_mk, ex_enc, sameB]
   have hc : (SizeOf.sizeOf l < N ∧ okL l = true ∧ okL l' = true ∧ l.length ≤ 2 ∧ l'.length ≤ 2) := ⟨by omega, l2, m2, l1, m1⟩
   refine bothR_dec (fun hk => bothR_ndec (fun h6 => ⟨hc, ?_⟩) fun h6 => bothR_dec (fun hn => ⟨hc, ?_⟩) fun hn => ?_) fun hk => ?_
   ·simp [hk, h6, eqL, show ¬ k' = 6 from hk ▸ h6]
   ·simp [hk, hn, eqL]
   ·subst h6; subst hk; simp [hn]
   ·simp [hk]
 exact fun t => fun u => key (SizeOf.sizeOf t + 1) t u (by omega)
theorem eq_hook0 : QSpec.Ok Tryz.prog g0 67 eqQ0 := by
 intro args K h'
 unfold eqQ0 at h'
 split at h'
 ·obtain ⟨t, rfl, h2⟩ := argTy_elim h'
  obtain ⟨u, rfl, h3, h4⟩ := argTy_elim h2
  exact ⟨_, equal_ok t u h3.1 h3.2, h4⟩
 ·exact h'.elim
end Go.Proofs.YtnmolpkkemljoaaGreatDoor
end
end
section
namespace Go.Proofs.YtnmolpkkemljoaaGreatDoor
open Go Go.RowKit Go.Sort
structure Ent where
 n : Int
 k : Int
 m : Int
 sp : Option Addr
 sl : Nat
 sc : Nat
 born : Nat
 h0 : 0 ≤ n
 h1 : n < 1000
instance : Inhabited Ent := ⟨⟨0, 0, 0, none, 0, 0, 0, by decide, by decide⟩⟩
def Ent.cells (x : Ent) : List Value := [.int .i64 x.n, .int .i64 x.k, .int .i64 x.m, (.slice x.sp x.sl x.sc)]
def Ent.entry (x : Ent) : MapEntry := ⟨.int .i64 x.n, .agg #[.int .i64 x.k, .int .i64 x.m, (.slice x.sp x.sl x.sc)], x.born⟩
def Ent.cmp (x y : Ent) : Int := x.n - y.n
theorem Ent.lt (x y : Ent) : ltOf Ent.cmp x y = decide (x.n < y.n) := by
 unfold ltOf Ent.cmp
 by_cases h : x.n < y.n
 ·simp [h]; omega
 ·simp [h]; omega
theorem Ent.swo : SWO (ltOf Ent.cmp) where
 irrefl x := by rw [Ent.lt]; simp
 trans x y z h1 h2 := by rw [Ent.lt] at *; simp at *; omega
 ntrans x y z h1 h2 := by rw [Ent.lt] at *; simp at *; omega
theorem cmp97 (x y : Ent) (W : World) : Calls Tryz.prog 97 #[.agg x.cells.toArray, .agg y.cells.toArray] W fun e w' => e = .returned (.int .i64 (Ent.cmp x y)) ∧ ∃ q os', w' = grow (W.drewN q) os' := by
 have hw : IntKind.i64.wrap (x.n - y.n) = x.n - y.n := by
  have a1 := x.h0; have a2 := x.h1; have a3 := y.h0; have a4 := y.h1
  exact wrap_id (by omega) (by omega)
 obtain ⟨xn, xk, xm, xp, xl, xc, xb, x0, x1⟩ := x
 obtain ⟨yn, yk, ym, yp, yl, yc, yb, y0, y1⟩ := y
 simp only [Ent.cells, Ent.cmp] at *
 go_enter Tryz.func97, Tryz.ntmps97
 go_wp2
 go_ret
 exact ⟨rfl, 0, _, by rw [alloc_eq_grow, alloc_eq_grow, grow_grow]; rfl⟩
section
variable {P : Program} (w : World) {ops : Array Oper} {rest : List Oper} {o : Oper} {a : Act} {Q : Exit → Act → World → Prop}
theorem wpList_range_raw (hg : o.guard = none) (m : Operand) (t : TypeId) (hop : o.op = Op.range t m) (k e : TypeId) (ht : P.underlying t = some (.map k e)) (b : Nat) (es : Array MapEntry) (clock : Nat)
  (hm : a.eval m = .map (some b)) (hb : w.heap[b]? = some (.map es clock))
  (hK : wpList P ops Q rest (a.put o.dst (.pointer (some ⟨w.heap.size, 0, none⟩))) (w.alloc (.mapIter (some b) clock #[] clock))) :
  wpList P ops Q (o :: rest) a w := by
 refine wpList_plain hg fun K' hK' => ?_
 have hrun := run_range_map (P := P) w t k e b es clock ht hb
 unfold Oper.wp
 simp [execOp, hop, hm, hrun, Result.andThen]
 exact hK' _ _ hK
theorem wpList_next_raw (hg : o.guard = none) (it : Operand) (hop : o.op = Op.next it false) (b r since c0 : Nat) (seen : Array Nat) (l : List Ent) (clock : Nat)
  (hit : a.eval it = .pointer (some ⟨r, 0, none⟩)) (hr : w.heap[r]? = some (.mapIter (some b) since seen c0)) (hb : w.heap[b]? = some (.map (l.map Ent.entry).toArray clock))
  (hold : ∀ x ∈ l, x.born < since) (hsc : since ≤ c0) (hnd : (l.map (·.born)).Nodup)
  (hDone : (∀ x ∈ l, seen.contains x.born = true) → wpList P ops Q rest (a.put o.dst (.tuple #[.bool false])) w)
  (hMore : ∀ (x : Ent) (w' : World), x ∈ l → seen.contains x.born = false → w.grownBy w' (some r) → w'.heap.size = w.heap.size → w'.heap[r]? = some (.mapIter (some b) since (seen.push x.born) clock) → w'.heap[b]? = some (.map (l.map Ent.entry).toArray clock) →
   w'.rangeLeft b r < w.rangeLeft b r →
   (Instr.entry (.pointer (some ⟨r, 0, none⟩))).run P w' = .ok (.tuple #[.int .i64 x.n, .agg #[.int .i64 x.k, .int .i64 x.m, (.slice x.sp x.sl x.sc)]]) w' → wpList P ops Q rest (a.put o.dst (.tuple #[.bool true, .int .i64 x.n, .agg #[.int .i64 x.k, .int .i64 x.m, (.slice x.sp x.sl x.sc)]])) w') :
  wpList P ops Q (o :: rest) a w := by
 refine wpList_plain hg fun K' hK' => ?_
 have hne : r ≠ b := by
  intro e
  rw [e, hb] at hr
  cases hr
 unfold Oper.wp
 rcases run_next_at (P := P) w o.type r b since c0 seen _ clock hr hb (by simpa [Ent.entry] using hold) hsc with ⟨h0, hrun⟩ | ⟨e, he, w1, hal, hrun⟩
 ·simp [execOp, hop, hit, hrun, Result.andThen]
  refine hK' _ _ (hDone fun x hx => ?_)
  exact all_seen _ seen h0 (Ent.entry x) (by simpa using ⟨x, hx, rfl⟩)
 ·obtain ⟨hem, hes⟩ := mem_left he
  obtain ⟨x, hx, rfl⟩ : ∃ x ∈ l, Ent.entry x = e := by simpa using hem
  simp [execOp, hop, hit, hrun, Result.andThen]
  have hr1 : w1.heap[r]? = some (.mapIter (some b) since seen c0) := by rcases hal with rfl | rfl <;> exact hr
  have hb1 : w1.heap[b]? = some (.map (l.map Ent.entry).toArray clock) := by rcases hal with rfl | rfl <;> exact hb
  have hset := Go.MapKept.heap_set (o' := .mapIter (some b) since (seen.push (Ent.entry x).born) clock) hr1
  have hb' := (hset.2 b (fun e1 => hne e1.symm)).trans hb1
  refine hK' _ _ (hMore x _ hx hes ?_ ?_ hset.1 hb' ?_ ?_)
  ·rcases hal with rfl | rfl <;> exact ⟨rfl, rfl, rfl, by simp [ChangeMaps.setBlock], fun i _ hi => hset.2 i (fun e1 => hi (by rw [e1]))⟩
  ·rcases hal with rfl | rfl <;> simp [ChangeMaps.setBlock]
  ·have q1 : (ChangeMaps.setBlock w1 r (.mapIter (some b) since (seen.push (Ent.entry x).born) clock)).heap[r]? = _ := hset.1
   have q2 : (ChangeMaps.setBlock w1 r (.mapIter (some b) since (seen.push (Ent.entry x).born) clock)).heap[b]? = _ := hb'
   simp only [World.rangeLeft, q1, q2, hb, hr]
   exact left_shrinks _ seen _ he
  ·exact run_entry_at _ r b since seen _ clock _ hset.1 hb' hem (by simpa [Function.comp_def, Ent.entry] using hnd)
end
end Go.Proofs.YtnmolpkkemljoaaGreatDoor
end
section
namespace Go.Proofs.YtnmolpkkemljoaaGreatDoor
open Go Go.RowKit Go.Sort
def Listed (B : Nat) (l : List Ent) (v : Value) (w' : World) : Prop :=
 (l = [] ∧ v = .slice none 0 0) ∨ ∃ (g cap : Nat) (cur : Array Value) (d : List Ent), l ≠ [] ∧ v = .slice (some ⟨g, 0, none⟩) l.length cap ∧ B ≤ g ∧ w'.heap[g]? = some (.cells cur 58 (0, 0)) ∧ l.length ≤ cap ∧ d.Perm l ∧ d.Pairwise (fun x y => x.n ≤ y.n) ∧ (∀ (j : Nat) (u : Value), (d.flatMap Ent.cells)[j]? = some u → cur[j]? = some u)
theorem info58 : (Tryz.prog.info? 58).map (fun i => (i.zero, i.size, i.bytes)) = some (some (.agg #[.int .i64 0, .int .i64 0, .int .i64 0, .slice none 0 0]), 4, 48) := by kernel_rfl
theorem cells_len (x : Ent) : x.cells.length = 4 := rfl
theorem cells_one (x : Ent) : ∀ v ∈ x.cells, v.oneCell' = true := by
 intro v hv
 simp only [Ent.cells, List.mem_cons, List.not_mem_nil, or_false] at hv
 rcases hv with rfl | rfl | rfl | rfl
 ·rfl
 ·rfl
 ·rfl
 ·rfl
theorem flat_len (l : List Ent) : (l.flatMap Ent.cells).length = l.length * 4 := by
 induction l with
 | nil => rfl
 | cons x l ih => simp only [List.flatMap_cons, List.length_append, cells_len, ih, List.length_cons]; omega
def SortSays : Prop := ∀ (g cap : Nat) (ds : List Ent) (cur : Array Value) (w : World), w.heap[g]? = some (.cells cur 58 (0, 0)) → cur.size = cap * 4 → ds.length ≤ cap → cur.toList.take (ds.length * 4) = ds.flatMap Ent.cells → ds.length ≤ 1000 →
 Calls Tryz.prog 96 #[.slice (some ⟨g, 0, none⟩) ds.length cap, .func (.func 97) #[] #[]] w fun e w' => e = .returned (.tuple #[]) ∧ w.grownBy w' (some g) ∧ ∃ (d : List Ent) (cur' : Array Value), w'.heap[g]? = some (.cells cur' 58 (0, 0)) ∧ d.Perm ds ∧ d.Pairwise (fun x y => x.n ≤ y.n) ∧ (∀ (j : Nat) (u : Value), (d.flatMap Ent.cells)[j]? = some u → cur'[j]? = some u)
def SortNone : Prop := ∀ w : World, Calls Tryz.prog 96 #[.slice none 0 0, .func (.func 97) #[] #[]] w fun e w' => e = .returned (.tuple #[]) ∧ w' = w
theorem cell_four_new (w : World) (x1 x2 x3 x4 : Value) (t : TypeId) : ∀ j u, [x1, x2, x3, x4][j]? = some u → (w.alloc (.cells #[x1, x2, x3, x4] t)).cell? ((⟨w.heap.size, 0, none⟩ : Addr).add j) = some u := by
 intro j u hj
 match j, hj with
 | 0, hj => simp at hj; simp [Addr.add, hj]
 | 1, hj => simp at hj; simp [Addr.add, hj]
 | 2, hj => simp at hj; simp [Addr.add, hj]
 | 3, hj => simp at hj; simp [Addr.add, hj]
theorem rest_nil {ds rest l : List Ent} (hp : (ds ++ rest).Perm l) (hnd : (l.map (·.born)).Nodup) (hall : ∀ x ∈ l, ∃ a, a ∈ ds ∧ a.born = x.born) : rest = [] := by
 cases rest with
 | nil => rfl
 | cons y r =>
  obtain ⟨a, ha, he⟩ := hall y (hp.mem_iff.1 (by simp))
  have h1 := (hp.map (·.born)).nodup_iff.2 hnd
  rw [List.map_append, List.nodup_append] at h1
  exact absurd he (h1.2.2 _ (List.mem_map.2 ⟨a, ha, rfl⟩) _ (by simp))
theorem stopHere {p : Prop} (h : p ∧ True) : p := h.1
theorem list_run (hsort : SortSays) (hnone : SortNone) (w : World) (b : Nat) (l : List Ent) (clock : Nat) (hb : w.heap[b]? = some (.map (l.map Ent.entry).toArray clock)) (hold : ∀ x ∈ l, x.born < clock) (hnd : (l.map (·.born)).Nodup) (hl : l.length ≤ 1000) :
  Calls Tryz.prog 59 #[.map (some b)] w fun e w' => Below w.heap.size w w' ∧ ∃ v, e = .returned v ∧ Listed w.heap.size l v w' := by
 obtain ⟨i0, hi, hz0, hz1, hz2⟩ := info_parts info58
 have hbl : b < w.heap.size := (Array.getElem?_eq_some_iff.1 hb).1
 go_enter Tryz.func59, Tryz.ntmps59
 go_wp2_with (first
  | (at_range; refine wpList_range_raw _ rfl _ 74 rfl 3 24 (by kernel_rfl) b _ clock rfl hb ?_)
  | go_in)
 go_frame
 go_loopw [2] (fun v wr => ∃ (ds rest : List Ent) (c0 : Nat), (ds ++ rest).Perm l ∧ wr.heap[w.heap.size]? = some (.mapIter (some b) clock (ds.map (·.born)).toArray c0) ∧ clock ≤ c0 ∧ wr.heap[b]? = some (.map (l.map Ent.entry).toArray clock) ∧
   wr.ownsRow (w.heap.size + 1) 58 4 v ds.length (ds.flatMap Ent.cells) ∧ Below w.heap.size w wr ∧ (ds = [] → v = .slice none 0 0))
  (fun _ wr => wr.rangeLeft b w.heap.size)
 case atStart =>
  exact ⟨[], l, clock, .refl _, heap_alloc_new _ _, Nat.le_refl _, by rw [Below.heap_alloc _ _ _ hbl]; exact hb, World.ownsRow_nil _ _ _ _, (Below.refl _ _).alloc (Nat.le_refl _) _, fun _ => rfl⟩
 case round =>
  obtain ⟨ds, rest, c0, hp, hr, hsc, hbr, hrow, hnx, hnl⟩ := hrel
  go_wp2_with (first
   | (at_next; refine wpList_next_raw _ rfl _ rfl b w.heap.size clock c0 _ l clock rfl hr hbr hold hsc hnd ?_ ?_)
   | go_in)
  ·intro hall
   obtain rfl := rest_nil hp hnd hall
   rw [List.append_nil] at hp
   have hlen := hp.length_eq
   rcases hrow.2 with ⟨rfl, hn0⟩ | ⟨g, cap, cur, rfl, hbase, hcur, h1, h2, h3, h4⟩
   ·have hc := hnone wr
    have hl0 : l = [] := List.length_eq_zero_iff.1 (by omega)
    go_wp2_with (go_at_call 96; refine hc.mono ?_; rintro e w' ⟨rfl, rfl⟩)
    go_ret
    exact ⟨hnx, _, rfl, .inl ⟨hl0, rfl⟩⟩
   ·have hds : ds.length ≤ 1000 := by omega
    have hbg : w.heap.size ≤ g := by omega
    have hln : l ≠ [] := fun h => by
     have h9 : ds = [] := List.length_eq_zero_iff.1 (by rw [hlen, h]; rfl)
     have := hnl h9
     cases this
    have hcl : l.length ≤ cap := by omega
    have hc := hsort g cap ds cur wr hcur h3 h1 h4 hds
    rw [hlen] at hc
    clear hall hnl hcur h3 h1 h4 hrow
    rw [hlen]
    go_wp2_with (go_at_call 96; refine hc.mono ?_; rintro e w' ⟨rfl, hg9, d, cur', hc1, hc2, hc3, hc4⟩)
    go_ret
    exact ⟨hnx.grown hg9 hnx.size (fun j hj => by cases hj; exact hbg), _, rfl, .inr ⟨g, cap, cur', d, hln, rfl, hbg, hc1, hcl, hc2.trans hp, hc3, hc4⟩⟩
  ·intro x w1 hx hxs hg1 hs1 hr1 hb1 hlt hen
   clear hs1
   have hne : some w.heap.size ≠ u2.ownBlock := fun e1 => by
    have := (hrow.lt _ e1.symm).1
    omega
   have hdl : ds.length ≤ 1000 := by
    have := hp.length_eq
    simp only [List.length_append] at this
    omega
   have hsz := hg1.size
   have hsz2 := hnx.size
   have hrl : w.heap.size < wr.heap.size := (Array.getElem?_eq_some_iff.1 hr).1
   have hrow2 := (((hrow.kept hg1 (Or.inr hne.symm)).alloc (.cells #[.int .i64 x.k, .int .i64 x.m, .slice x.sp x.sl x.sc] 24)).alloc (.cells #[.int .i64 x.n, .int .i64 x.k, .int .i64 x.m, .slice x.sp x.sl x.sc] 58))
   go_wp2_with (first
    | (at_builtin; refine stopHere ?_)
    | go_in)
   refine ⟨?_, trivial⟩
   refine wpList_append_own _ rfl _ _ 27 rfl (w.heap.size + 1) 58 i0 (.agg #[.int .i64 0, .int .i64 0, .int .i64 0, .slice none 0 0]) 4 48 (by kernel_rfl) hi hz0 hz1 hz2 rfl (by decide) _ _ _ rfl hrow2 ⟨w1.heap.size + 1, 0, none⟩ 1 1 x.cells rfl rfl (by have := cell_four_new (w1.alloc (.cells #[.int .i64 x.k, .int .i64 x.m, .slice x.sp x.sl x.sc] 24)) (.int .i64 x.n) (.int .i64 x.k) (.int .i64 x.m) (.slice x.sp x.sl x.sc) 58; simpa [Ent.cells] using this) (cells_one x) (by unfold maxLen; omega) (by omega) (by simp; omega) ?_; 
   intro v' w3 hown' hg3 hnil3
   go_frame
   go_wp2
   have q1 : w3.heap[w.heap.size]? = w1.heap[w.heap.size]? := by
    rw [hg3.block _ (by simp; omega) hne, Below.heap_alloc _ _ _ (by simp; omega), Below.heap_alloc _ _ _ (by omega)]
   have q2 : w3.heap[b]? = w1.heap[b]? := by
    rw [hg3.block _ (by simp; omega) (fun e1 => by have := (hrow.lt _ e1.symm).1; omega), Below.heap_alloc _ _ _ (by simp; omega), Below.heap_alloc _ _ _ (by omega)]
   go_roundw
   case rel =>
    have hxd : x ∉ ds := fun h => hxs x h rfl
    have hxr : x ∈ rest := by
     rcases List.mem_append.1 (hp.mem_iff.2 hx) with h | h
     ·exact absurd h hxd
     ·exact h
    obtain ⟨s, t, rfl⟩ := List.append_of_mem hxr
    refine ⟨ds ++ [x], s ++ t, clock, ?_, ?_, Nat.le_refl _, q2.trans hb1, ?_, ?_, fun h => by simp at h⟩
    ·refine .trans ?_ hp
     rw [List.append_assoc]
     exact List.Perm.append_left ds (List.Perm.symm List.perm_middle : (x :: (s ++ t)).Perm (s ++ x :: t))
    ·rw [q1, hr1]; simp
    ·simpa using hown'
    ·exact (((hnx.grown hg1 hsz2 (fun j hj => by cases hj; exact Nat.le_refl _)).alloc (by omega) _).alloc (by simp; omega) _).grown hg3 (by simp; omega) (fun j hj => by have := (hrow.lt j hj).1; omega)
   case measure =>
    have : w3.rangeLeft b w.heap.size = w1.rangeLeft b w.heap.size := by simp only [World.rangeLeft, q1, q2]
    rw [this]; exact hlt
end Go.Proofs.YtnmolpkkemljoaaGreatDoor
end
section
namespace Go.Proofs
open Go.Shelf
def Tryz.sortBind_ren : Go.Shelf.Ren := ⟨fun | 6 => 96 | 15 => 124 | 14 => 123 | 28 => 137 | 29 => 138 | 20 => 129 | 21 => 130 | 22 => 131 | 23 => 132 | 24 => 133 | 25 => 134 | 26 => 135 | 27 => 136 | 46 => 143 | 47 => 144 | 48 => 145 | 49 => 146 | 50 => 147 | 57 => 158 | n => n, fun | 22 => 27 | 24 => 58 | 25 => 132 | 3 => 3 | 39 => 150 | 0 => 0 | 53 => 164 | 55 => 166 | 4 => 4 | 46 => 158 | 45 => 157 | 50 => 93 | 5 => 5 | 9 => 9 | 66 => 169 | 70 => 173 | 76 => 187 | 77 => 109 | n => n, fun | n => n⟩
theorem Tryz.sortBind : Go.Proofs.SlLaysF0.n6 Tryz.prog Tryz.sortBind_ren := {
 mixed := by kernel_rfl
 f6 := ⟨Tryz.f96.name, by decide, Tryz.func96.trans (congrArg some (by kernel_rfl))⟩
 f14 := ⟨Tryz.f123.name, by decide, Tryz.func123.trans (congrArg some (by kernel_rfl))⟩
 f15 := Tryz.func124.trans (congrArg some (by kernel_rfl))
 f20 := ⟨Tryz.f129.name, by decide, Tryz.func129.trans (congrArg some (by kernel_rfl))⟩
 f21 := ⟨Tryz.f130.name, by decide, Tryz.func130.trans (congrArg some (by kernel_rfl))⟩
 f22 := ⟨Tryz.f131.name, by decide, Tryz.func131.trans (congrArg some (by kernel_rfl))⟩
 f23 := ⟨Tryz.f132.name, by decide, Tryz.func132.trans (congrArg some (by kernel_rfl))⟩
 f24 := ⟨Tryz.f133.name, by decide, Tryz.func133.trans (congrArg some (by kernel_rfl))⟩
 f25 := ⟨Tryz.f134.name, by decide, Tryz.func134.trans (congrArg some (by kernel_rfl))⟩
 f26 := ⟨Tryz.f135.name, by decide, Tryz.func135.trans (congrArg some (by kernel_rfl))⟩
 f27 := ⟨Tryz.f136.name, by decide, Tryz.func136.trans (congrArg some (by kernel_rfl))⟩
 f28 := Tryz.func137.trans (congrArg some (by kernel_rfl))
 f29 := Tryz.func138.trans (congrArg some (by kernel_rfl))
 f46 := ⟨Tryz.f143.name, by decide, Tryz.func143.trans (congrArg some (by kernel_rfl))⟩
 f47 := Tryz.func144.trans (congrArg some (by kernel_rfl))
 f48 := Tryz.func145.trans (congrArg some (by kernel_rfl))
 f49 := ⟨Tryz.f146.name, by decide, Tryz.func146.trans (congrArg some (by kernel_rfl))⟩
 f50 := ⟨Tryz.f147.name, by decide, Tryz.func147.trans (congrArg some (by kernel_rfl))⟩
 f57 := ⟨Tryz.f158.name, by decide, Tryz.func158.trans (congrArg some (by kernel_rfl))⟩
 t0 := Tryz.underlying0
 a0 := Tryz.isAgg0
 z0 := Tryz.sizeOf0
 v0 := Tryz.zeroValue0
 t3 := Tryz.underlying3
 a3 := Tryz.isAgg3
 z3 := Tryz.sizeOf3
 v3 := Tryz.zeroValue3
 t4 := Tryz.underlying4
 a4 := Tryz.isAgg4
 z4 := Tryz.sizeOf4
 v4 := Tryz.zeroValue4
 t5 := Tryz.underlying5
 a5 := Tryz.isAgg5
 z5 := Tryz.sizeOf5
 v5 := Tryz.zeroValue5
 t9 := Tryz.underlying9
 a9 := Tryz.isAgg9
 z9 := Tryz.sizeOf9
 v9 := Tryz.zeroValue9
 t22 := Tryz.underlying27
 a22 := Tryz.isAgg27
 z22 := Tryz.sizeOf27
 v22 := Tryz.zeroValue27
 t25 := Tryz.underlying132
 a25 := Tryz.isAgg132
 z25 := Tryz.sizeOf132
 v25 := Tryz.zeroValue132
 t39 := Tryz.underlying150
 a39 := Tryz.isAgg150
 z39 := Tryz.sizeOf150
 v39 := Tryz.zeroValue150
 t45 := Tryz.underlying157
 a45 := Tryz.isAgg157
 z45 := Tryz.sizeOf157
 v45 := Tryz.zeroValue157
 t46 := Tryz.underlying158
 a46 := Tryz.isAgg158
 z46 := Tryz.sizeOf158
 v46 := Tryz.zeroValue158
 t50 := Tryz.underlying93
 a50 := Tryz.isAgg93
 z50 := Tryz.sizeOf93
 v50 := Tryz.zeroValue93
 t53 := Tryz.underlying164
 a53 := Tryz.isAgg164
 z53 := Tryz.sizeOf164
 v53 := Tryz.zeroValue164
 t55 := Tryz.underlying166
 a55 := Tryz.isAgg166
 z55 := Tryz.sizeOf166
 v55 := Tryz.zeroValue166
 t66 := Tryz.underlying169
 a66 := Tryz.isAgg169
 z66 := Tryz.sizeOf169
 v66 := Tryz.zeroValue169
 t70 := Tryz.underlying173
 a70 := Tryz.isAgg173
 z70 := Tryz.sizeOf173
 v70 := Tryz.zeroValue173
 t76 := Tryz.underlying187
 a76 := Tryz.isAgg187
 z76 := Tryz.sizeOf187
 v76 := Tryz.zeroValue187
 t77 := Tryz.underlying109
 a77 := Tryz.isAgg109
 z77 := Tryz.sizeOf109
 v77 := Tryz.zeroValue109 }
end Go.Proofs
end
section
namespace Go.Proofs.YtnmolpkkemljoaaGreatDoor
open Go Go.RowKit Go.Sort Go.Shelf Go.Lib
theorem flat_get : ∀ (l : List Ent) (j : Nat), j < l.length * 4 → (l.flatMap Ent.cells)[j]? = some ((Ent.cells l.toArray[j / 4]!)[j % 4]!)
 | [], j, h => by simp at h
 | x :: l, j, h => by
  simp only [List.flatMap_cons]
  by_cases hj : j < 4
  ·rw [List.getElem?_append_left (by rw [cells_len]; exact hj), show j / 4 = 0 by omega, show j % 4 = j by omega]
   match j, hj with
   | 0, _ => rfl
   | 1, _ => rfl
   | 2, _ => rfl
   | 3, _ => rfl
  ·rw [List.getElem?_append_right (by rw [cells_len]; omega), cells_len, flat_get l (j - 4) (by simp at h; omega)]
   obtain ⟨i, rfl⟩ : ∃ i, j = i + 4 := ⟨j - 4, by omega⟩
   rw [show (i + 4) / 4 = i / 4 + 1 by omega, show (i + 4) % 4 = i % 4 by omega, Nat.add_sub_cancel]
   simp
theorem heap_put {w : World} {g n : Nat} {os : Array Obj} {cur F : Array Value} {e : TypeId} {fr : Nat × Nat} (hb : w.heap[g]? = some (.cells cur e fr)) :
  (grow (putRow id (Sort.ahead w n) g 0 F) os).heap[g]? = some (.cells (putCells id 0 F cur) e fr) := by
 have hg : g < w.heap.size := (Array.getElem?_eq_some_iff.1 hb).1
 rw [heap_grow_old _ _ (by simpa using hg)]
 simp [putRow, mapBlock, Sort.ahead, Array.getElem?_modify, hb, onCells]
theorem grownBy_put {w : World} {g n : Nat} {os : Array Obj} (F : Array Value) : w.grownBy (grow (putRow id (Sort.ahead w n) g 0 F) os) (some g) := by
 refine ⟨rfl, rfl, rfl, by simp, fun k hk hne => ?_⟩
 rw [heap_grow_old _ _ (by simpa using hk)]
 have : g ≠ k := fun e => hne (by rw [e])
 simp [putRow, mapBlock, Sort.ahead, Array.getElem?_modify, this]
theorem sort_says : SortSays := by
 intro g cap ds cur w hcur hsz hle htake hl
 have eg : ∀ args w, (callFunc 97 args).run Tryz.prog w = .ok (.enter 97 args) w := enters_of Tryz.func97 (by kernel_rfl) rfl
 have hg : g < w.heap.size := (Array.getElem?_eq_some_iff.1 hcur).1
 have hH : HoldsK Ent.cells 4 w g 0 ds.toArray := by
  intro j hj
  simp only [size_flatK, List.size_toArray] at hj
  refine ⟨?_, by simp [World.frozen?, hcur]⟩
  rw [get_flatK _ _ _ _ (by simpa using hj)]
  have h1 := congrArg (·[j]?) htake
  simp only [List.getElem?_take_of_lt hj] at h1
  rw [flat_get ds j hj] at h1
  simp only [World.cell?, hcur, Nat.zero_add, Option.isSome_none, Bool.false_eq_true, if_false, id_eq]
  rw [← Array.getElem?_toList, h1]
 have hcon := AnyQ.slices_SortFunc Tryz.sortBind 4 Tryz.isAgg58 Tryz.sizeOf58 Ent.cells cells_len cells_one Ent.cmp Ent.swo 97 #[] g 0 cap ds.toArray w eg (fun _ _ _ _ x y => cmp97 x y _) hH hg (by simp; omega)
 change Calls Tryz.prog 96 _ _ _ at hcon
 refine hcon.mono ?_
 rintro e w' ⟨rfl, d', n, os, ⟨hp1, _, hp3⟩, hs, rfl⟩
 have hsz' : d'.size = ds.length := by simpa using hp1
 refine ⟨rfl, grownBy_put _, d'.toList, _, heap_put hcur, ?_, ?_, ?_⟩
 ·have e1 : d'.extract 0 ds.toArray.size = d' := by rw [List.size_toArray, ← hsz']; simp
  rw [e1] at hp3
  simpa using hp3
 ·rw [List.pairwise_iff_getElem]
  intro i j hi hj hij
  simp only [Array.length_toList] at hi hj
  have := hs i j (Nat.zero_le _) hij (by simpa [hsz'] using hj)
  rw [Ent.lt, decide_eq_false_iff_not, getElem!_pos d' i hi, getElem!_pos d' j hj] at this
  simpa using this
 ·intro j u hu
  have hj : j < d'.size * 4 := by
   have := (List.getElem?_eq_some_iff.1 hu).1
   rw [flat_len] at this
   simpa using this
  rw [flat_get _ _ (by simpa using hj)] at hu
  have hjc : j < cur.size := by omega
  have hf := get_flatK Ent.cells 4 d' j hj
  rw [getElem!_pos _ _ (by simpa using hj)] at hf
  simp only [putCells, Array.getElem?_mapIdx, Array.getElem?_eq_getElem hjc, Option.map_some, size_flatK, Nat.zero_le, Nat.zero_add, true_and, hj, if_true, Nat.sub_zero, id_eq]
  rw [getElem!_pos _ _ (by simpa using hj), hf]
  simpa using hu
theorem sort_none : SortNone := by
 intro w
 have hcon := AnyF.slices_SortFunc_none Tryz.sortBind none 0 (.func (.func 97) #[] #[]) w
 change Calls Tryz.prog 96 _ _ _ at hcon
 exact hcon
end Go.Proofs.YtnmolpkkemljoaaGreatDoor
end