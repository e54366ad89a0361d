/-
  What the proof is built of: Lists of numbers, and types, that are the same; the variables of a type, by the reference. The conditions of K17, evaluated. Lists of numbers, and types, that are the same; the variables of a type: what the reference's functions come to. Types with bindings put in them, numbered types: the reference's functions. The conditions of K18, evaluated. Types with bindings put in them, numbered types: what the reference's functions come to. The program's Vars: the range and its walk. The conditions of K19, evaluated. The program's Vars comes to the variables. The program's clean; a map of bindings. The conditions of K20, evaluated. The program's clean comes to what the reference's does. put: how many types there are in what is put. The conditions of K21, evaluated. put: how many types there are in what is put, is counted. put: its walk. Conditions: none.
-/
import Derived.Test.YtnmolpkkemljoaaGreatDoorM6
import Derived.Test.YtnmolpkkemljoaaGreatDoorM7
section
namespace Kd
open Go.Am Go.Proofs.YtnmolpkkemljoaaGreatDoor

def encI (l : List Int) : List AV := l.map (AV.int .i64)
theorem encI_length (l : List Int) : (encI l).length = l.length := by simp [encI]
theorem encI_get (l : List Int) (i : Nat) (h : i < l.length) : (encI l)[i]? = some (AV.int .i64 l[i]) := by simp [encI, h]
theorem encI_append (l m : List Int) : encI l ++ encI m = encI (l ++ m) := by simp [encI]
theorem encI_still (l : List Int) : AV.stillL (encI l) = true := by
  induction l with
  | nil => rfl
  | cons x l ih => simp only [encI, List.map_cons, AV.stillL, AV.still, Bool.true_and]; exact ih
theorem encI_inj {l m : List Int} (h : encI l = encI m) : l = m := by
  induction l generalizing m with
  | nil => cases m <;> simp_all [encI]
  | cons x l ih =>
    cases m with
    | nil => simp [encI] at h
    | cons y m =>
      simp only [encI, List.map_cons, List.cons.injEq, AV.int.injEq, true_and] at h
      rw [h.1, ih h.2]
theorem encI_one (l : List Int) : (encI l).all (oneSz 1) = true := by
  simp [encI, oneSz, AV.cells, AV.one]

mutual
def sameB : Ty → Ty → Bool
  | .mk k n _ l, .mk k' n' _ l' => decide (k = k') && ((!decide (k = 6) || decide (n = n')) && (decide (l.length = l'.length) && sameL l l'))
def sameL : List Ty → List Ty → Bool
  | x :: xs, y :: ys => sameB x y && sameL xs ys
  | _, _ => true
end

def intsL : List Int → List Int → Bool
  | x :: xs, y :: ys => decide (x = y) && intsL xs ys
  | _, _ => true

def addV (l : List Int) (n : Int) : List Int := if l.contains n then l else l ++ [n]
mutual
/-- The variables, behind some. -/
def firstT : Ty → List Int → List Int
  | .mk k n _ l, xs => firstL l (if k = 6 then addV xs n else xs)
def firstL : List Ty → List Int → List Int
  | [], xs => xs
  | x :: l, xs => firstL l (firstT x xs)
end
/-- What first comes to, its being nil too. -/
def nlF (b : Bool) (l l' : List Int) : Bool := b && decide (l'.length = l.length)
end Kd
noncomputable section
namespace Go.Proofs.YtnmolpkkemljoaaGreatDoor
open Go Go.Am Kd

def inSt (b c : Bool) (l m : List Int) : LSt Nat Bool where
  n := 0
  nf := 0
  rd := none
  fr x := frm 26 [(0, .isl b none 0 (encI l)), (1, .isl c none 0 (encI m)), (5, .int .i64 x)]
  hp _ := ⟨[], []⟩
  inv x := x ≤ l.length ∧ l.length = m.length ∧ l.length ≤ 2000
  res x := intsL (l.drop x) (m.drop x)
  sel r := r
  out b' _ := match b' with
    | true => ⟨.exit 0, frm 26 [], ⟨[], []⟩⟩
    | false => ⟨.ret, frm 26 [(4, .bool false)], ⟨[], []⟩⟩
def inH' (b c : Bool) (l m : List Int) : Hooks := hooks [] [] [(4, ⟨45, 0, (inSt b c l m).spec⟩)]

def tyC (t : Ty) : ABlk := .cells [.int .i64 t.kind, .int .i64 t.n, .isl t.nl none 0 (encL t.l)] 24
def saSt (t u : Ty) : LSt Nat Bool where
  n := 2
  nf := 0
  rd := none
  fr x := frm 51 [(2, .ptr 0 0), (3, .ptr 1 0), (5, .int .i64 x)]
  hp _ := ⟨[tyC t, tyC u], []⟩
  inv x := x ≤ t.l.length ∧ t.l.length = u.l.length
  res x := sameL (t.l.drop x) (u.l.drop x)
  sel r := r
  out b' _ := match b' with
    | true => ⟨.exit 0, frm 51 [], ⟨[tyC t, tyC u], []⟩⟩
    | false => ⟨.ret, frm 51 [(4, .bool false)], ⟨[tyC t, tyC u], []⟩⟩
def saQ (N : Nat) : QSpec
  | [t, u], K => argTy t fun t => argTy u fun u => (SizeOf.sizeOf t < N ∧ cnt t ≤ 1000 ∧ cnt u ≤ 1000) ∧ K (.bool (sameB t u))
  | _, _ => False
def saH (N : Nat) : Hooks := hooks [(23, saQ N)] [] []
def saH' (t u : Ty) : Hooks := hooks [] [] [(4, ⟨23, 0, (saSt t u).spec⟩)]

def hasSt (b : Bool) (l : List Int) (n : Int) : LSt Nat Bool where
  n := 0
  nf := 0
  rd := none
  fr x := frm 18 [(0, .isl b none 0 (encI l)), (1, .int .i64 n), (5, .int .i64 x)]
  hp _ := ⟨[], []⟩
  inv x := x ≤ l.length ∧ l.length ≤ 2000
  res x := (l.drop x).contains n
  sel r := r
  out b' _ := match b' with
    | false => ⟨.exit 0, frm 18 [], ⟨[], []⟩⟩
    | true => ⟨.ret, frm 18 [(4, .bool true)], ⟨[], []⟩⟩
def hasH' (b : Bool) (l : List Int) (n : Int) : Hooks := hooks [] [] [(2, ⟨122, 0, (hasSt b l n).spec⟩)]
def argInts (v : AV) (K : Bool → List Int → Prop) : Prop :=
  match v with
  | .isl b none 0 xs => ∃ l, xs = encI l ∧ K b l
  | _ => False
theorem argInts_elim {v : AV} {K : Bool → List Int → Prop} (h : argInts v K) : ∃ b l, v = .isl b none 0 (encI l) ∧ K b l := by
  unfold argInts at h
  split at h
  · obtain ⟨l, rfl, h⟩ := h
    exact ⟨_, _, rfl, h⟩
  · exact h.elim
def hasQ : QSpec
  | [l, n], K => argInts l fun _ l => argInt n fun n => (l.length ≤ 2000) ∧ K (.bool (l.contains n))
  | _, _ => False

structure FSt where
  i : Nat
  b : Bool
  l : List Int
  e : Nat
def fiFam (p e : Nat) : List (Nat × Nat) := match p with | 0 => [] | _ => [(e, 1)]
def fiSt (t : Ty) : LSN FSt (List Int × Bool × Nat × Nat) where
  m := 2
  ways := 2
  n _ := 1
  nf p := p
  rd := none
  fr _ x := frm 38 [(1, .isl x.b none 0 (encI x.l)), (2, .ptr 0 0), (5, .int .i64 x.i)]
  hp p x := ⟨[tyC t], fiFam p x.e⟩
  inv _ x := x.i ≤ t.l.length ∧ x.l.length + cntL (t.l.drop x.i) ≤ 2000 ∧ cnt t ≤ 1000
  res p x := (firstL (t.l.drop x.i) x.l, nlF x.b x.l (firstL (t.l.drop x.i) x.l), p, x.e)
  sel r := r.2.2.1
  wn _ := 1
  wnf w := w
  out w r := ⟨.exit 0, frm 38 [(1, .isl r.2.1 none 0 (encI r.1))], ⟨[tyC t], fiFam w r.2.2.2⟩⟩
def fiQ (N : Nat) : QSpec
  | [t, l], K => argTy t fun t => argInts l fun b l => (SizeOf.sizeOf t < N ∧ cnt t ≤ 1000 ∧ l.length + cnt t ≤ 2000) ∧ K (.isl (nlF b l (firstT t l)) none 0 (encI (firstT t l)))
  | _, _ => False
def fiH (N : Nat) : Hooks := hooks [(87, fiQ N)] [] []
def fiH' (t : Ty) : Hooks := hooks [(122, hasQ)] [] [(4, ⟨87, 0, (fiSt t).spec⟩)]
def runN {ι ρ : Type} (hk : Hooks) (n : Nat) (f k : Nat) (s : LSN ι ρ) (meas : ι → Nat) (p : Nat) (x : ι) : Prop := runC hk n s.rd (loopC f k) (s.fr p x) (s.hp p x) (s.post meas p x)

end Go.Proofs.YtnmolpkkemljoaaGreatDoor
end
end

section
noncomputable section
namespace Go.Proofs.YtnmolpkkemljoaaGreatDoor
open Go Go.Am Kd
set_option maxRecDepth 100000

theorem in_loop (b c : Bool) (l m : List Int) (meas : Nat → Nat) (x : Nat) : (runL hk0 60 45 0 (inSt b c l m) meas x) = ( bothR (decide (iC x < iC (List.length (encI l)))) (0 ≤ iC x ∧ ∃ x_1, (encI l)[Int.toNat (iC x)]? = some (AV.int IntKind.i64 x_1) ∧ 0 ≤ iC x ∧ ∃ x_2, (encI m)[Int.toNat (iC x)]? = some (AV.int IntKind.i64 x_2) ∧ bothR (!decide (x_1 = x_2)) (intsL (List.drop x l) (List.drop x m) = false ∧ AV.bool false = AV.bool false ∧ 0 = 0 ∧ True) (∃ y, (y ≤ List.length l ∧ List.length l = List.length m ∧ List.length l ≤ 2000) ∧ meas y < meas x ∧
 intsL (List.drop y l) (List.drop y m) = intsL (List.drop x l) (List.drop x m) ∧ AV.isl b none (0) (encI l) = AV.isl b none (0) (encI l) ∧ AV.isl c none (0) (encI m) = AV.isl c none (0) (encI m) ∧ AV.int IntKind.i64 (IntKind.wrap IntKind.i64 (iC x + (1 : Int))) = AV.int IntKind.i64 (iC y) ∧ 0 = 0 ∧ True)) (intsL (List.drop x l) (List.drop x m) = true ∧ 0 = 0 ∧ True)) := by kernel_rfl

theorem ints_top (b c : Bool) (l m : List Int) (r : Bool) : (runF (inH' b c l m) 60 45 [.isl b none 0 (encI l), .isl c none 0 (encI m)] AH.nil (retIs Tryz.prog 5 (.bool r))) = ( bothR (!decide (iC (List.length (encI l)) = iC (List.length (encI m)))) (AV.bool false = AV.bool r) (codeIs (loopOf Tryz.prog 45 0) Tryz.prog 45 0 (∃ x, (x ≤ List.length l ∧ List.length l = List.length m ∧ List.length l ≤ 2000) ∧ AV.isl b none (0) (encI l) = AV.isl b none (0) (encI l) ∧ AV.isl c none (0) (encI m) = AV.isl c none (0) (encI m) ∧ AV.int IntKind.i64 (0) = AV.int IntKind.i64 (iC x) ∧
 0 = 0 ∧ bothR (intsL (List.drop x l) (List.drop x m)) (AV.bool true = AV.bool r) (AV.bool false = AV.bool r)))) := by kernel_rfl

theorem sa_loop (t u : Ty) (N : Nat) (meas : Nat → Nat) (x : Nat) : (runL (saH N) 60 23 0 (saSt t u) meas x) = ( bothR (decide (iC x < iC (List.length (encL (Ty.l t))))) (0 ≤ iC x ∧ ∃ x_1, (encL (Ty.l t))[Int.toNat (iC x)]? = some (AV.agg [AV.int IntKind.i64 (Ty.kind x_1), AV.int IntKind.i64 (Ty.n x_1), AV.isl (Ty.nl x_1) none (0) (encL (Ty.l x_1))]) ∧ 0 ≤ iC x ∧ ∃ x_2, (encL (Ty.l u))[Int.toNat (iC x)]? = some (AV.agg [AV.int IntKind.i64 (Ty.kind x_2), AV.int IntKind.i64 (Ty.n x_2), AV.isl (Ty.nl x_2) none (0) (encL (Ty.l x_2))]) ∧ ∃ l, encL (Ty.l x_1) = encL l ∧ ∃ l_1,
 encL (Ty.l x_2) = encL l_1 ∧ (SizeOf.sizeOf (Ty.mk (Ty.kind x_1) (Ty.n x_1) (Ty.nl x_1) l) < N ∧ cnt (Ty.mk (Ty.kind x_1) (Ty.n x_1) (Ty.nl x_1) l) ≤ 1000 ∧ cnt (Ty.mk (Ty.kind x_2) (Ty.n x_2) (Ty.nl x_2) l_1) ≤ 1000) ∧ bothR (!sameB (Ty.mk (Ty.kind x_1) (Ty.n x_1) (Ty.nl x_1) l) (Ty.mk (Ty.kind x_2) (Ty.n x_2) (Ty.nl x_2) l_1)) (sameL (List.drop x (Ty.l t)) (List.drop x (Ty.l u)) = false ∧ AV.bool false = AV.bool false ∧ 24 = 24 ∧ AV.int IntKind.i64 (Ty.kind t) = AV.int IntKind.i64 (Ty.kind t) ∧ AV.int IntKind.i64 (Ty.n t) = AV.int IntKind.i64 (Ty.n t) ∧
 AV.isl (Ty.nl t) none (0) (encL (Ty.l t)) = AV.isl (Ty.nl t) none (0) (encL (Ty.l t)) ∧ 24 = 24 ∧ AV.int IntKind.i64 (Ty.kind u) = AV.int IntKind.i64 (Ty.kind u) ∧ AV.int IntKind.i64 (Ty.n u) = AV.int IntKind.i64 (Ty.n u) ∧ AV.isl (Ty.nl u) none (0) (encL (Ty.l u)) = AV.isl (Ty.nl u) none (0) (encL (Ty.l u)) ∧ 0 = 0 ∧ True) (∃ y, (y ≤ List.length (Ty.l t) ∧ List.length (Ty.l t) = List.length (Ty.l u)) ∧ meas y < meas x ∧ sameL (List.drop y (Ty.l t)) (List.drop y (Ty.l u)) = sameL (List.drop x (Ty.l t)) (List.drop x (Ty.l u)) ∧ AV.ptr (0) (0) = AV.ptr (0) (0) ∧
 AV.ptr (1) (0) = AV.ptr (1) (0) ∧ AV.int IntKind.i64 (IntKind.wrap IntKind.i64 (iC x + (1 : Int))) = AV.int IntKind.i64 (iC y) ∧ 24 = 24 ∧ AV.int IntKind.i64 (Ty.kind t) = AV.int IntKind.i64 (Ty.kind t) ∧ AV.int IntKind.i64 (Ty.n t) = AV.int IntKind.i64 (Ty.n t) ∧ AV.isl (Ty.nl t) none (0) (encL (Ty.l t)) = AV.isl (Ty.nl t) none (0) (encL (Ty.l t)) ∧ 24 = 24 ∧ AV.int IntKind.i64 (Ty.kind u) = AV.int IntKind.i64 (Ty.kind u) ∧ AV.int IntKind.i64 (Ty.n u) = AV.int IntKind.i64 (Ty.n u) ∧ AV.isl (Ty.nl u) none (0) (encL (Ty.l u)) = AV.isl (Ty.nl u) none (0) (encL (Ty.l u)) ∧ 0 = 0 ∧ True))
 (sameL (List.drop x (Ty.l t)) (List.drop x (Ty.l u)) = true ∧ 24 = 24 ∧ AV.int IntKind.i64 (Ty.kind t) = AV.int IntKind.i64 (Ty.kind t) ∧ AV.int IntKind.i64 (Ty.n t) = AV.int IntKind.i64 (Ty.n t) ∧ AV.isl (Ty.nl t) none (0) (encL (Ty.l t)) = AV.isl (Ty.nl t) none (0) (encL (Ty.l t)) ∧ 24 = 24 ∧ AV.int IntKind.i64 (Ty.kind u) = AV.int IntKind.i64 (Ty.kind u) ∧ AV.int IntKind.i64 (Ty.n u) = AV.int IntKind.i64 (Ty.n u) ∧ AV.isl (Ty.nl u) none (0) (encL (Ty.l u)) = AV.isl (Ty.nl u) none (0) (encL (Ty.l u)) ∧ 0 = 0 ∧ True)) := by kernel_rfl

theorem sa_top (t u : Ty) (r : Bool) : (runF (saH' t u) 60 23 [encD t, encD u] AH.nil (retIs Tryz.prog 5 (.bool r))) = ( bothR (!decide (Ty.kind t = Ty.kind u)) (AV.bool false = AV.bool r) (bothR (decide (Ty.kind t = (6 : Int))) (bothR (!decide (Ty.n t = Ty.n u)) (AV.bool false = AV.bool r) (bothR (!decide (iC (List.length (encL (Ty.l t))) = iC (List.length (encL (Ty.l u))))) (AV.bool false = AV.bool r) (codeIs (loopOf Tryz.prog 23 0) Tryz.prog 23 0 (∃ x, (x ≤ List.length (Ty.l t) ∧ List.length (Ty.l t) = List.length (Ty.l u)) ∧ AV.ptr (0) (0) = AV.ptr (0) (0) ∧
 AV.ptr (1) (0) = AV.ptr (1) (0) ∧ AV.int IntKind.i64 (0) = AV.int IntKind.i64 (iC x) ∧ 24 = 24 ∧ AV.int IntKind.i64 (Ty.kind t) = AV.int IntKind.i64 (Ty.kind t) ∧ AV.int IntKind.i64 (Ty.n t) = AV.int IntKind.i64 (Ty.n t) ∧ AV.isl (Ty.nl t) none (0) (encL (Ty.l t)) = AV.isl (Ty.nl t) none (0) (encL (Ty.l t)) ∧ 24 = 24 ∧ AV.int IntKind.i64 (Ty.kind u) = AV.int IntKind.i64 (Ty.kind u) ∧ AV.int IntKind.i64 (Ty.n u) = AV.int IntKind.i64 (Ty.n u) ∧ AV.isl (Ty.nl u) none (0) (encL (Ty.l u)) = AV.isl (Ty.nl u) none (0) (encL (Ty.l u)) ∧ 0 = 0 ∧
 bothR (sameL (List.drop x (Ty.l t)) (List.drop x (Ty.l u))) (AV.bool true = AV.bool r) (AV.bool false = AV.bool r))))) (bothR (!decide (iC (List.length (encL (Ty.l t))) = iC (List.length (encL (Ty.l u))))) (AV.bool false = AV.bool r) (codeIs (loopOf Tryz.prog 23 0) Tryz.prog 23 0 (∃ x, (x ≤ List.length (Ty.l t) ∧ List.length (Ty.l t) = List.length (Ty.l u)) ∧ AV.ptr (0) (0) = AV.ptr (0) (0) ∧ AV.ptr (1) (0) = AV.ptr (1) (0) ∧ AV.int IntKind.i64 (0) = AV.int IntKind.i64 (iC x) ∧ 24 = 24 ∧ AV.int IntKind.i64 (Ty.kind t) = AV.int IntKind.i64 (Ty.kind t) ∧
 AV.int IntKind.i64 (Ty.n t) = AV.int IntKind.i64 (Ty.n t) ∧ AV.isl (Ty.nl t) none (0) (encL (Ty.l t)) = AV.isl (Ty.nl t) none (0) (encL (Ty.l t)) ∧ 24 = 24 ∧ AV.int IntKind.i64 (Ty.kind u) = AV.int IntKind.i64 (Ty.kind u) ∧ AV.int IntKind.i64 (Ty.n u) = AV.int IntKind.i64 (Ty.n u) ∧ AV.isl (Ty.nl u) none (0) (encL (Ty.l u)) = AV.isl (Ty.nl u) none (0) (encL (Ty.l u)) ∧ 0 = 0 ∧ bothR (sameL (List.drop x (Ty.l t)) (List.drop x (Ty.l u))) (AV.bool true = AV.bool r) (AV.bool false = AV.bool r)))))) := by kernel_rfl

theorem has_loop (b : Bool) (l : List Int) (n : Int) (meas : Nat → Nat) (x : Nat) : (runL hk0 60 122 0 (hasSt b l n) meas x) = ( bothR (decide (iC x < iC (List.length (encI l)))) (0 ≤ iC x ∧ ∃ x_1, (encI l)[Int.toNat (iC x)]? = some (AV.int IntKind.i64 x_1) ∧ bothR (decide (x_1 = n)) (List.elem n (List.drop x l) = true ∧ AV.bool true = AV.bool true ∧ 0 = 0 ∧ True) (∃ y, (y ≤ List.length l ∧ List.length l ≤ 2000) ∧ meas y < meas x ∧ List.elem n (List.drop y l) = List.elem n (List.drop x l) ∧ AV.isl b none (0) (encI l) = AV.isl b none (0) (encI l) ∧ AV.int IntKind.i64 n = AV.int IntKind.i64 n ∧
 AV.int IntKind.i64 (IntKind.wrap IntKind.i64 (iC x + (1 : Int))) = AV.int IntKind.i64 (iC y) ∧ 0 = 0 ∧ True)) (List.elem n (List.drop x l) = false ∧ 0 = 0 ∧ True)) := by kernel_rfl

theorem has_top (b : Bool) (l : List Int) (n : Int) (r : Bool) : (runF (hasH' b l n) 60 122 [.isl b none 0 (encI l), .int .i64 n] AH.nil (retIs Tryz.prog 5 (.bool r))) = ( codeIs (loopOf Tryz.prog 122 0) Tryz.prog 122 0 (∃ x, (x ≤ List.length l ∧ List.length l ≤ 2000) ∧ AV.isl b none (0) (encI l) = AV.isl b none (0) (encI l) ∧ AV.int IntKind.i64 n = AV.int IntKind.i64 n ∧ AV.int IntKind.i64 (0) = AV.int IntKind.i64 (iC x) ∧ 0 = 0 ∧ bothR (List.elem n (List.drop x l)) (AV.bool true = AV.bool r) (AV.bool false = AV.bool r))) := by kernel_rfl

theorem fi_loop0 (t : Ty) (N : Nat) (meas : FSt → Nat) (x : FSt) : (runN (fiH N) 60 87 0 (fiSt t) meas 0 x) = ( bothR (decide (iC (FSt.i x) < iC (List.length (encL (Ty.l t))))) (0 ≤ iC (FSt.i x) ∧ ∃ x_1, (encL (Ty.l t))[Int.toNat (iC (FSt.i x))]? = some (AV.agg [AV.int IntKind.i64 (Ty.kind x_1), AV.int IntKind.i64 (Ty.n x_1), AV.isl (Ty.nl x_1) none (0) (encL (Ty.l x_1))]) ∧ ∃ l, encL (Ty.l x_1) = encL l ∧ ∃ l_1, encI (FSt.l x) = encI l_1 ∧ (SizeOf.sizeOf (Ty.mk (Ty.kind x_1) (Ty.n x_1) (Ty.nl x_1) l) < N ∧ cnt (Ty.mk (Ty.kind x_1) (Ty.n x_1) (Ty.nl x_1) l) ≤ 1000 ∧
 List.length l_1 + cnt (Ty.mk (Ty.kind x_1) (Ty.n x_1) (Ty.nl x_1) l) ≤ 2000) ∧ ((∃ y, (FSt.i y ≤ List.length (Ty.l t) ∧ List.length (FSt.l y) + cntL (List.drop (FSt.i y) (Ty.l t)) ≤ 2000 ∧ cnt t ≤ 1000) ∧ meas y < meas x ∧ (firstL (List.drop (FSt.i y) (Ty.l t)) (FSt.l y), nlF (FSt.b y) (FSt.l y) (firstL (List.drop (FSt.i y) (Ty.l t)) (FSt.l y)), 1, FSt.e y) = (firstL (List.drop (FSt.i x) (Ty.l t)) (FSt.l x), nlF (FSt.b x) (FSt.l x) (firstL (List.drop (FSt.i x) (Ty.l t)) (FSt.l x)), 0, FSt.e x) ∧ AV.isl (nlF (FSt.b x) l_1 (firstT (Ty.mk (Ty.kind x_1) (Ty.n x_1) (Ty.nl x_1) l) l_1)) none (0)
 (encI (firstT (Ty.mk (Ty.kind x_1) (Ty.n x_1) (Ty.nl x_1) l) l_1)) = AV.isl (FSt.b y) none (0) (encI (FSt.l y)) ∧ AV.ptr (0) (0) = AV.ptr (0) (0) ∧ AV.int IntKind.i64 (IntKind.wrap IntKind.i64 (iC (FSt.i x) + (1 : Int))) = AV.int IntKind.i64 (iC (FSt.i y)) ∧ 24 = 24 ∧ AV.int IntKind.i64 (Ty.kind t) = AV.int IntKind.i64 (Ty.kind t) ∧ AV.int IntKind.i64 (Ty.n t) = AV.int IntKind.i64 (Ty.n t) ∧ AV.isl (Ty.nl t) none (0) (encL (Ty.l t)) = AV.isl (Ty.nl t) none (0) (encL (Ty.l t)) ∧ [] = [(FSt.e y, 1)] ∧ True) ∨ ∃ y,
 (FSt.i y ≤ List.length (Ty.l t) ∧ List.length (FSt.l y) + cntL (List.drop (FSt.i y) (Ty.l t)) ≤ 2000 ∧ cnt t ≤ 1000) ∧ meas y < meas x ∧ (firstL (List.drop (FSt.i y) (Ty.l t)) (FSt.l y), nlF (FSt.b y) (FSt.l y) (firstL (List.drop (FSt.i y) (Ty.l t)) (FSt.l y)), 0, FSt.e y) = (firstL (List.drop (FSt.i x) (Ty.l t)) (FSt.l x), nlF (FSt.b x) (FSt.l x) (firstL (List.drop (FSt.i x) (Ty.l t)) (FSt.l x)), 0, FSt.e x) ∧ AV.isl (nlF (FSt.b x) l_1 (firstT (Ty.mk (Ty.kind x_1) (Ty.n x_1) (Ty.nl x_1) l) l_1)) none (0) (encI (firstT (Ty.mk (Ty.kind x_1) (Ty.n x_1) (Ty.nl x_1) l) l_1)) =
 AV.isl (FSt.b y) none (0) (encI (FSt.l y)) ∧ AV.ptr (0) (0) = AV.ptr (0) (0) ∧ AV.int IntKind.i64 (IntKind.wrap IntKind.i64 (iC (FSt.i x) + (1 : Int))) = AV.int IntKind.i64 (iC (FSt.i y)) ∧ 24 = 24 ∧ AV.int IntKind.i64 (Ty.kind t) = AV.int IntKind.i64 (Ty.kind t) ∧ AV.int IntKind.i64 (Ty.n t) = AV.int IntKind.i64 (Ty.n t) ∧ AV.isl (Ty.nl t) none (0) (encL (Ty.l t)) = AV.isl (Ty.nl t) none (0) (encL (Ty.l t)) ∧ 0 = 0 ∧ True)) (0 = 1 ∧ AV.isl (FSt.b x) none (0) (encI (FSt.l x)) =
 AV.isl (nlF (FSt.b x) (FSt.l x) (firstL (List.drop (FSt.i x) (Ty.l t)) (FSt.l x))) none (0) (encI (firstL (List.drop (FSt.i x) (Ty.l t)) (FSt.l x))) ∧ 24 = 24 ∧ AV.int IntKind.i64 (Ty.kind t) = AV.int IntKind.i64 (Ty.kind t) ∧ AV.int IntKind.i64 (Ty.n t) = AV.int IntKind.i64 (Ty.n t) ∧ AV.isl (Ty.nl t) none (0) (encL (Ty.l t)) = AV.isl (Ty.nl t) none (0) (encL (Ty.l t)) ∧ [] = [(FSt.e x, 1)] ∧ True ∨ 0 = 0 ∧ AV.isl (FSt.b x) none (0) (encI (FSt.l x)) =
 AV.isl (nlF (FSt.b x) (FSt.l x) (firstL (List.drop (FSt.i x) (Ty.l t)) (FSt.l x))) none (0) (encI (firstL (List.drop (FSt.i x) (Ty.l t)) (FSt.l x))) ∧ 24 = 24 ∧ AV.int IntKind.i64 (Ty.kind t) = AV.int IntKind.i64 (Ty.kind t) ∧ AV.int IntKind.i64 (Ty.n t) = AV.int IntKind.i64 (Ty.n t) ∧ AV.isl (Ty.nl t) none (0) (encL (Ty.l t)) = AV.isl (Ty.nl t) none (0) (encL (Ty.l t)) ∧ 0 = 0 ∧ True)) := by kernel_rfl

theorem fi_loop1 (t : Ty) (N : Nat) (meas : FSt → Nat) (x : FSt) : (runN (fiH N) 60 87 0 (fiSt t) meas 1 x) = ( bothR (decide (iC (FSt.i x) < iC (List.length (encL (Ty.l t))))) (0 ≤ iC (FSt.i x) ∧ ∃ x_1, (encL (Ty.l t))[Int.toNat (iC (FSt.i x))]? = some (AV.agg [AV.int IntKind.i64 (Ty.kind x_1), AV.int IntKind.i64 (Ty.n x_1), AV.isl (Ty.nl x_1) none (0) (encL (Ty.l x_1))]) ∧ ∃ l, encL (Ty.l x_1) = encL l ∧ ∃ l_1, encI (FSt.l x) = encI l_1 ∧ (SizeOf.sizeOf (Ty.mk (Ty.kind x_1) (Ty.n x_1) (Ty.nl x_1) l) < N ∧ cnt (Ty.mk (Ty.kind x_1) (Ty.n x_1) (Ty.nl x_1) l) ≤ 1000 ∧
 List.length l_1 + cnt (Ty.mk (Ty.kind x_1) (Ty.n x_1) (Ty.nl x_1) l) ≤ 2000) ∧ ∃ y, (FSt.i y ≤ List.length (Ty.l t) ∧ List.length (FSt.l y) + cntL (List.drop (FSt.i y) (Ty.l t)) ≤ 2000 ∧ cnt t ≤ 1000) ∧ meas y < meas x ∧ (firstL (List.drop (FSt.i y) (Ty.l t)) (FSt.l y), nlF (FSt.b y) (FSt.l y) (firstL (List.drop (FSt.i y) (Ty.l t)) (FSt.l y)), 1, FSt.e y) = (firstL (List.drop (FSt.i x) (Ty.l t)) (FSt.l x), nlF (FSt.b x) (FSt.l x) (firstL (List.drop (FSt.i x) (Ty.l t)) (FSt.l x)), 1, FSt.e x) ∧ AV.isl (nlF (FSt.b x) l_1 (firstT (Ty.mk (Ty.kind x_1) (Ty.n x_1) (Ty.nl x_1) l) l_1)) none (0)
 (encI (firstT (Ty.mk (Ty.kind x_1) (Ty.n x_1) (Ty.nl x_1) l) l_1)) = AV.isl (FSt.b y) none (0) (encI (FSt.l y)) ∧ AV.ptr (0) (0) = AV.ptr (0) (0) ∧ AV.int IntKind.i64 (IntKind.wrap IntKind.i64 (iC (FSt.i x) + (1 : Int))) = AV.int IntKind.i64 (iC (FSt.i y)) ∧ 24 = 24 ∧ AV.int IntKind.i64 (Ty.kind t) = AV.int IntKind.i64 (Ty.kind t) ∧ AV.int IntKind.i64 (Ty.n t) = AV.int IntKind.i64 (Ty.n t) ∧ AV.isl (Ty.nl t) none (0) (encL (Ty.l t)) = AV.isl (Ty.nl t) none (0) (encL (Ty.l t)) ∧ [(FSt.e x, 1)] = [(FSt.e y, 1)] ∧ True) (1 = 1 ∧ AV.isl (FSt.b x) none (0) (encI (FSt.l x)) =
 AV.isl (nlF (FSt.b x) (FSt.l x) (firstL (List.drop (FSt.i x) (Ty.l t)) (FSt.l x))) none (0) (encI (firstL (List.drop (FSt.i x) (Ty.l t)) (FSt.l x))) ∧ 24 = 24 ∧ AV.int IntKind.i64 (Ty.kind t) = AV.int IntKind.i64 (Ty.kind t) ∧ AV.int IntKind.i64 (Ty.n t) = AV.int IntKind.i64 (Ty.n t) ∧ AV.isl (Ty.nl t) none (0) (encL (Ty.l t)) = AV.isl (Ty.nl t) none (0) (encL (Ty.l t)) ∧ [(FSt.e x, 1)] = [(FSt.e x, 1)] ∧ True)) := by kernel_rfl

theorem fi_top (t : Ty) (b : Bool) (l : List Int) (r : Bool) (z : List Int) : (runF (fiH' t) 60 87 [encD t, .isl b none 0 (encI l)] AH.nil (retIs Tryz.prog 5 (.isl r none 0 (encI z)))) = ( bothR (decide (Ty.kind t = (6 : Int))) (∃ l_1, encI l = encI l_1 ∧ List.length l_1 ≤ 2000 ∧ bothR (!List.elem (Ty.n t) l_1) (bothR (decide (List.length (encI l) = 0)) (AV.isl b none (0) (encI l) = AV.isl b none (0) (encI l) ∧ AV.ptr (0) (1) = AV.ptr (0) (1) ∧ AV.ptr (0) (1) = AV.ptr (0) (1) ∧ AV.int IntKind.i64 (Ty.n t) = AV.int IntKind.i64 (Ty.n t) ∧
 AV.int IntKind.i64 (Ty.n t) = AV.int IntKind.i64 (Ty.n t) ∧ AV.isl false none (0) [AV.int IntKind.i64 (Ty.n t)] = AV.isl false none (0) [AV.int IntKind.i64 (Ty.n t)] ∧ AV.isl false none (0) [AV.int IntKind.i64 (Ty.n t)] = AV.isl false none (0) [AV.int IntKind.i64 (Ty.n t)] ∧ (Nat.le (8) (35184372088832) ∧ Nat.le (1) (1152921504606846976)) ∧ true = true ∧ some (0, 1) = some (0, 1) ∧ true = true ∧ codeIs (loopOf Tryz.prog 87 0) Tryz.prog 87 0 (∃ x, (FSt.i x ≤ List.length (Ty.l t) ∧ List.length (FSt.l x) + cntL (List.drop (FSt.i x) (Ty.l t)) ≤ 2000 ∧ cnt t ≤ 1000) ∧
 (false = FSt.b x ∧ [AV.int IntKind.i64 (Ty.n t)] = encI (FSt.l x)) ∧ AV.ptr (0) (0) = AV.ptr (0) (0) ∧ AV.int IntKind.i64 (0) = AV.int IntKind.i64 (iC (FSt.i x)) ∧ 24 = 24 ∧ AV.int IntKind.i64 (Ty.kind t) = AV.int IntKind.i64 (Ty.kind t) ∧ AV.int IntKind.i64 (Ty.n t) = AV.int IntKind.i64 (Ty.n t) ∧ AV.isl (Ty.nl t) none (0) (encL (Ty.l t)) = AV.isl (Ty.nl t) none (0) (encL (Ty.l t)) ∧ [(1, 1)] = [(FSt.e x, 1)] ∧ (1 = 1 → AV.isl (nlF (FSt.b x) (FSt.l x) (firstL (List.drop (FSt.i x) (Ty.l t)) (FSt.l x))) none (0) (encI (firstL (List.drop (FSt.i x) (Ty.l t)) (FSt.l x))) =
 AV.isl r none (0) (encI z)) ∧ (1 = 0 → AV.isl (nlF (FSt.b x) (FSt.l x) (firstL (List.drop (FSt.i x) (Ty.l t)) (FSt.l x))) none (0) (encI (firstL (List.drop (FSt.i x) (Ty.l t)) (FSt.l x))) = AV.isl r none (0) (encI z)))) (((0 + List.length (encI l)) * 8 ≤ 35184372088832 ∧ 0 + List.length (encI l) ≤ 1152921504606846976) ∧ List.all (encI l) (oneSz (0 + 1)) = true ∧ some (0, 1) = some (0, 1) ∧ true = true ∧ AV.isl b none (0) (encI l) = AV.isl b none (0) (encI l) ∧ AV.ptr (0) (1) = AV.ptr (0) (1) ∧ AV.ptr (0) (1) = AV.ptr (0) (1) ∧ AV.int IntKind.i64 (Ty.n t) = AV.int IntKind.i64 (Ty.n t) ∧
 AV.int IntKind.i64 (Ty.n t) = AV.int IntKind.i64 (Ty.n t) ∧ AV.isl false none (0) [AV.int IntKind.i64 (Ty.n t)] = AV.isl false none (0) [AV.int IntKind.i64 (Ty.n t)] ∧ AV.isl false none (0) [AV.int IntKind.i64 (Ty.n t)] = AV.isl false none (0) [AV.int IntKind.i64 (Ty.n t)] ∧ ((List.length (encI l) + 1) * 8 ≤ 35184372088832 ∧ List.length (encI l) + 1 ≤ 1152921504606846976) ∧ true = true ∧ some (0 + List.length (encI l), 1) = some (0 + List.length (encI l), 1) ∧ List.all (encI l) (oneSz (0 + 1)) = true ∧ codeIs (loopOf Tryz.prog 87 0) Tryz.prog 87 0 (∃ x, (FSt.i x ≤ List.length (Ty.l t) ∧
 List.length (FSt.l x) + cntL (List.drop (FSt.i x) (Ty.l t)) ≤ 2000 ∧ cnt t ≤ 1000) ∧ (false = FSt.b x ∧ encI l ++ [AV.int IntKind.i64 (Ty.n t)] = encI (FSt.l x)) ∧ AV.ptr (0) (0) = AV.ptr (0) (0) ∧ AV.int IntKind.i64 (0) = AV.int IntKind.i64 (iC (FSt.i x)) ∧ 24 = 24 ∧ AV.int IntKind.i64 (Ty.kind t) = AV.int IntKind.i64 (Ty.kind t) ∧ AV.int IntKind.i64 (Ty.n t) = AV.int IntKind.i64 (Ty.n t) ∧ AV.isl (Ty.nl t) none (0) (encL (Ty.l t)) = AV.isl (Ty.nl t) none (0) (encL (Ty.l t)) ∧ [(0 + List.length (encI l) + 1, 1)] = [(FSt.e x, 1)] ∧ (1 = 1 →
 AV.isl (nlF (FSt.b x) (FSt.l x) (firstL (List.drop (FSt.i x) (Ty.l t)) (FSt.l x))) none (0) (encI (firstL (List.drop (FSt.i x) (Ty.l t)) (FSt.l x))) = AV.isl r none (0) (encI z)) ∧ (1 = 0 → AV.isl (nlF (FSt.b x) (FSt.l x) (firstL (List.drop (FSt.i x) (Ty.l t)) (FSt.l x))) none (0) (encI (firstL (List.drop (FSt.i x) (Ty.l t)) (FSt.l x))) = AV.isl r none (0) (encI z))))) (codeIs (loopOf Tryz.prog 87 0) Tryz.prog 87 0 (∃ x, (FSt.i x ≤ List.length (Ty.l t) ∧ List.length (FSt.l x) + cntL (List.drop (FSt.i x) (Ty.l t)) ≤ 2000 ∧ cnt t ≤ 1000) ∧
 AV.isl b none (0) (encI l) = AV.isl (FSt.b x) none (0) (encI (FSt.l x)) ∧ AV.ptr (0) (0) = AV.ptr (0) (0) ∧ AV.int IntKind.i64 (0) = AV.int IntKind.i64 (iC (FSt.i x)) ∧ 24 = 24 ∧ AV.int IntKind.i64 (Ty.kind t) = AV.int IntKind.i64 (Ty.kind t) ∧ AV.int IntKind.i64 (Ty.n t) = AV.int IntKind.i64 (Ty.n t) ∧ AV.isl (Ty.nl t) none (0) (encL (Ty.l t)) = AV.isl (Ty.nl t) none (0) (encL (Ty.l t)) ∧ 0 = 0 ∧ (0 = 1 → AV.isl (nlF (FSt.b x) (FSt.l x) (firstL (List.drop (FSt.i x) (Ty.l t)) (FSt.l x))) none (0) (encI (firstL (List.drop (FSt.i x) (Ty.l t)) (FSt.l x))) = AV.isl r none (0) (encI z)) ∧ (0 = 0 →
 AV.isl (nlF (FSt.b x) (FSt.l x) (firstL (List.drop (FSt.i x) (Ty.l t)) (FSt.l x))) none (0) (encI (firstL (List.drop (FSt.i x) (Ty.l t)) (FSt.l x))) = AV.isl r none (0) (encI z))))) (codeIs (loopOf Tryz.prog 87 0) Tryz.prog 87 0 (∃ x, (FSt.i x ≤ List.length (Ty.l t) ∧ List.length (FSt.l x) + cntL (List.drop (FSt.i x) (Ty.l t)) ≤ 2000 ∧ cnt t ≤ 1000) ∧ AV.isl b none (0) (encI l) = AV.isl (FSt.b x) none (0) (encI (FSt.l x)) ∧ AV.ptr (0) (0) = AV.ptr (0) (0) ∧ AV.int IntKind.i64 (0) = AV.int IntKind.i64 (iC (FSt.i x)) ∧ 24 = 24 ∧ AV.int IntKind.i64 (Ty.kind t) = AV.int IntKind.i64 (Ty.kind t) ∧
 AV.int IntKind.i64 (Ty.n t) = AV.int IntKind.i64 (Ty.n t) ∧ AV.isl (Ty.nl t) none (0) (encL (Ty.l t)) = AV.isl (Ty.nl t) none (0) (encL (Ty.l t)) ∧ 0 = 0 ∧ (0 = 1 → AV.isl (nlF (FSt.b x) (FSt.l x) (firstL (List.drop (FSt.i x) (Ty.l t)) (FSt.l x))) none (0) (encI (firstL (List.drop (FSt.i x) (Ty.l t)) (FSt.l x))) = AV.isl r none (0) (encI z)) ∧ (0 = 0 → AV.isl (nlF (FSt.b x) (FSt.l x) (firstL (List.drop (FSt.i x) (Ty.l t)) (FSt.l x))) none (0) (encI (firstL (List.drop (FSt.i x) (Ty.l t)) (FSt.l x))) = AV.isl r none (0) (encI z))))) := by kernel_rfl

end Go.Proofs.YtnmolpkkemljoaaGreatDoor
end
end

section
set_option maxRecDepth 100000
set_option linter.unusedSimpArgs false
noncomputable section
namespace Go.Proofs.YtnmolpkkemljoaaGreatDoor
open Go Go.Am Kd

theorem tl_mk (k n : Int) (b : Bool) (l : List Ty) : (Ty.mk k n b l).l = l := rfl
theorem tk_mk (k n : Int) (b : Bool) (l : List Ty) : (Ty.mk k n b l).kind = k := rfl
theorem tn_mk (k n : Int) (b : Bool) (l : List Ty) : (Ty.mk k n b l).n = n := rfl
theorem tb_mk (k n : Int) (b : Bool) (l : List Ty) : (Ty.mk k n b l).nl = b := rfl
theorem ex_int {l : List Int} {i : Nat} (h : i < l.length) {P : Int → Prop} : (∃ x, (encI l)[i]? = some (AV.int .i64 x) ∧ P x) = P l[i] := by
  refine propext ⟨fun ⟨x, h1, h2⟩ => ?_, fun hp => ⟨l[i], encI_get l i h, hp⟩⟩
  rw [encI_get l i h] at h1
  simp only [Option.some.injEq, AV.int.injEq, true_and] at h1
  rw [h1]; exact h2
theorem ex_encI {l : List Int} {P : List Int → Prop} : (∃ l', encI l = encI l' ∧ P l') = P l :=
  propext ⟨fun ⟨l', h, hp⟩ => by rw [encI_inj h]; exact hp, fun h => ⟨l, rfl, h⟩⟩

theorem ints_ok (b c : Bool) (l m : List Int) (hl : l.length ≤ 2000) : QJ 45 [.isl b none 0 (encI l), .isl c none 0 (encI m)] (.bool (decide (l.length = m.length) && intsL l m)) := by
  have hlp : LHook.Ok Tryz.prog g0 ⟨45, 0, (inSt b c l m).spec⟩ := by
    refine LSt.by (hk := hk0) (inSt b c l m) (fun x => l.length - x) hk0_ok rfl ?_ ?_ ?_
    · intro x _
      exact Whole.frm rfl rfl (by simp [AV.bnd, AV.still_bndL, encI_still]) rfl
    · intro x b' _
      cases b' <;> exact Whole.frm rfl rfl rfl rfl
    · rintro i ⟨hi, he, hb⟩
      rw [in_loop]
      simp only [iC, encI_length, eq_self, true_and, and_true, Int.toNat_natCast, AV.int.injEq]
      refine bothR_dec (fun hlt => ?_) fun hge => ?_
      · have hi' : i < l.length := by omega
        have hj' : i < m.length := by omega
        have hd : l.drop i = l[i] :: l.drop (i + 1) := List.drop_eq_getElem_cons hi'
        have hd' : m.drop i = m[i] :: m.drop (i + 1) := List.drop_eq_getElem_cons hj'
        rw [ex_int hi']
        refine ⟨by omega, by omega, ?_⟩
        rw [ex_int hj']
        refine bothR_ndec (fun hne => ?_) fun heq => ⟨i + 1, ⟨by omega, by omega, by omega⟩, by omega, ?_, ?_⟩
        · rw [hd, hd']; simp only [intsL, decide_eq_false hne, Bool.false_and]
        · rw [hd, hd']; simp only [intsL, decide_eq_true heq, Bool.true_and]
        · rw [wrap_id (by omega) (by omega)]; rfl
      · rw [List.drop_of_length_le (by omega), List.drop_of_length_le (by omega)]; rfl
  refine QJ.by (hk := inH' b c l m) (by simp [AV.stillL, AV.still, encI_still]) rfl (mkHooks_ok all_nil all_nil (all_cons hlp all_nil)) ?_
  rw [ints_top]
  simp only [iC, encI_length, eq_self, true_and, codeIs_self, AV.bool.injEq, AV.int.injEq]
  refine bothR_ndec (fun h => ?_) fun h => ⟨0, ⟨by omega, by omega, by omega⟩, rfl, ?_⟩
  · rw [decide_eq_false (by omega)]; rfl
  · rw [decide_eq_true (by omega), List.drop_zero, List.drop_zero, Bool.true_and]
    exact bothR_bool (fun h => h.symm) fun h => h.symm

theorem sa_hook {N : Nat} (ih : ∀ t u, SizeOf.sizeOf t < N → cnt t ≤ 1000 → cnt u ≤ 1000 → QJ 23 [enc t, enc u] (.bool (sameB t u))) : QSpec.Ok Tryz.prog g0 23 (saQ N) := by
  intro args K h'
  unfold saQ at h'
  split at h'
  · obtain ⟨t, rfl, h1⟩ := argTy_elim h'
    obtain ⟨u, rfl, h2, h3⟩ := argTy_elim h1
    exact ⟨_, ih t u h2.1 h2.2.1 h2.2.2, h3⟩
  · exact h'.elim

theorem same_ok (t u : Ty) (hc : cnt t ≤ 1000) (hd : cnt u ≤ 1000) : QJ 23 [enc t, enc u] (.bool (sameB t u)) := by
  have key : ∀ (N : Nat) (t u : Ty), SizeOf.sizeOf t < N → cnt t ≤ 1000 → cnt u ≤ 1000 → QJ 23 [enc t, enc u] (.bool (sameB t u)) := by
    intro N
    induction N with
    | zero => intro t u h; omega
    | succ N ih =>
      intro t u ht hc hd
      have hl : LHook.Ok Tryz.prog g0 ⟨23, 0, (saSt t u).spec⟩ := by
        refine LSt.by (hk := saH N) (saSt t u) (fun x => t.l.length - x) (mkHooks_ok (all_cons (sa_hook ih) all_nil) all_nil all_nil) rfl ?_ ?_ ?_
        · intro x _
          exact Whole.frm rfl rfl rfl (by simp [saSt, tyC, ABlk.bnd, AV.bndL, AV.bnd, encL_bnd])
        · intro x b' _
          cases b' <;> exact Whole.frm rfl rfl rfl (by simp [saSt, tyC, ABlk.bnd, AV.bndL, AV.bnd, encL_bnd])
        · rintro i ⟨hi, he⟩
          obtain ⟨k, n, b, l⟩ := t
          obtain ⟨k', n', b', l'⟩ := u
          simp only [tl_mk] at hi he
          simp only [cnt] at hc hd
          simp only [Ty.mk.sizeOf_spec] at ht
          have hlc := len_cnt l
          rw [sa_loop]
          simp only [iC, encL_length, eq_self, true_and, and_true, Int.toNat_natCast, AV.int.injEq, tl_mk]
          refine bothR_dec (fun hlt => ?_) fun hge => ?_
          · have hi' : i < l.length := by omega
            have hj' : i < l'.length := by omega
            have hs := List.sizeOf_lt_of_mem (List.getElem_mem hi')
            have hg := cnt_get hi'
            have hg' := cnt_get hj'
            have hd : l.drop i = l[i] :: l.drop (i + 1) := List.drop_eq_getElem_cons hi'
            have hd' : l'.drop i = l'[i] :: l'.drop (i + 1) := List.drop_eq_getElem_cons hj'
            rw [ex_get hi']
            refine ⟨by omega, by omega, ?_⟩
            rw [ex_get hj']
            simp only [ex_enc, Ty.eta]
            refine ⟨⟨by omega, by omega, by omega⟩, bothR_nbool (fun hb => ?_) fun hb => ⟨i + 1, ⟨by omega, he⟩, by omega, ?_, ?_⟩⟩
            · rw [hd, hd']; simp only [sameL, hb, Bool.false_and]
            · rw [hd, hd']; simp only [sameL, hb, Bool.true_and]
            · rw [wrap_id (by omega) (by omega)]; rfl
          · rw [List.drop_of_length_le (by omega), List.drop_of_length_le (by omega)]; rfl
      rw [enc_D, enc_D]
      refine QJ.by (hk := saH' t u) (by rw [← enc_D, ← enc_D]; simp [AV.stillL, enc_still]) rfl (mkHooks_ok all_nil all_nil (all_cons hl all_nil)) ?_
      rw [sa_top]
      obtain ⟨k, n, b, l⟩ := t
      obtain ⟨k', n', b', l'⟩ := u
      simp only [iC, encL_length, eq_self, true_and, codeIs_self, AV.bool.injEq, AV.int.injEq, sameB, tk_mk, tn_mk, tl_mk]
      have fin : bothR (sameL (List.drop 0 l) (List.drop 0 l')) (true = sameL l l') (false = sameL l l') := by
        rw [List.drop_zero, List.drop_zero]
        exact bothR_bool (fun h => h.symm) fun h => h.symm
      refine bothR_ndec (fun h => by rw [decide_eq_false h]; rfl) fun hk => bothR_dec (fun h6 => bothR_ndec (fun hn => ?_) fun hn => bothR_ndec (fun hl => ?_) fun hl => ⟨0, ⟨by omega, by omega⟩, rfl, ?_⟩) fun h6 => bothR_ndec (fun hl => ?_) fun hl => ⟨0, ⟨by omega, by omega⟩, rfl, ?_⟩
      · rw [decide_eq_true hk, decide_eq_true h6, decide_eq_false hn]; rfl
      · rw [decide_eq_true hk, decide_eq_true h6, decide_eq_true hn, decide_eq_false (p := l.length = l'.length) (by omega)]; rfl
      · rw [decide_eq_true hk, decide_eq_true h6, decide_eq_true hn, decide_eq_true (p := l.length = l'.length) (by omega)]; exact fin
      · rw [decide_eq_true hk, decide_eq_false h6, decide_eq_false (p := l.length = l'.length) (by omega)]; rfl
      · rw [decide_eq_true hk, decide_eq_false h6, decide_eq_true (p := l.length = l'.length) (by omega)]; exact fin
  exact key (SizeOf.sizeOf t + 1) t u (by omega) hc hd

theorem has_ok (b : Bool) (l : List Int) (n : Int) (hl : l.length ≤ 2000) : QJ 122 [.isl b none 0 (encI l), .int .i64 n] (.bool (l.contains n)) := by
  have hlp : LHook.Ok Tryz.prog g0 ⟨122, 0, (hasSt b l n).spec⟩ := by
    refine LSt.by (hk := hk0) (hasSt b l n) (fun x => l.length - x) hk0_ok rfl ?_ ?_ ?_
    · intro x _
      exact Whole.frm rfl rfl (by simp [AV.bnd, AV.still_bndL, encI_still]) rfl
    · intro x b' _
      cases b' <;> exact Whole.frm rfl rfl rfl rfl
    · rintro i ⟨hi, hb⟩
      rw [has_loop]
      simp only [iC, encI_length, eq_self, true_and, and_true, Int.toNat_natCast, AV.int.injEq]
      refine bothR_dec (fun hlt => ?_) fun hge => ?_
      · have hi' : i < l.length := by omega
        have hd : l.drop i = l[i] :: l.drop (i + 1) := List.drop_eq_getElem_cons hi'
        rw [ex_int hi', hd]
        refine ⟨by omega, bothR_dec (fun h => ?_) fun h => ⟨i + 1, ⟨by omega, by omega⟩, by omega, ?_, ?_⟩⟩
        · simp only [List.elem_cons, h, beq_self_eq_true]
        · have : (n == l[i]) = false := by simpa using fun e => h e.symm
          simp only [List.elem_cons, this]
        · rw [wrap_id (by omega) (by omega)]; rfl
      · rw [List.drop_of_length_le (by omega)]; rfl
  refine QJ.by (hk := hasH' b l n) (by simp [AV.stillL, AV.still, encI_still]) rfl (mkHooks_ok all_nil all_nil (all_cons hlp all_nil)) ?_
  rw [has_top]
  simp only [iC, encI_length, eq_self, true_and, codeIs_self, AV.bool.injEq, AV.int.injEq]
  refine ⟨0, ⟨by omega, by omega⟩, rfl, ?_⟩
  rw [List.drop_zero]
  exact bothR_bool (fun h => h.symm) fun h => h.symm
theorem has_hook : QSpec.Ok Tryz.prog g0 122 hasQ := by
  intro args K h'
  unfold hasQ at h'
  split at h'
  · obtain ⟨b, l, rfl, h1⟩ := argInts_elim h'
    obtain ⟨n, rfl, h2, h3⟩ := argInt_elim h1
    exact ⟨_, has_ok b l n h2, h3⟩
  · exact h'.elim

theorem first_len : (∀ (t : Ty) (l : List Int), l.length ≤ (firstT t l).length ∧ (firstT t l).length ≤ l.length + cnt t) := by
  have key : ∀ (N : Nat), (∀ (t : Ty) (l : List Int), SizeOf.sizeOf t < N → l.length ≤ (firstT t l).length ∧ (firstT t l).length ≤ l.length + cnt t) ∧ ∀ (ts : List Ty) (l : List Int), SizeOf.sizeOf ts < N → l.length ≤ (firstL ts l).length ∧ (firstL ts l).length ≤ l.length + cntL ts := by
    intro N
    induction N with
    | zero => exact ⟨fun _ _ h => by omega, fun _ _ h => by omega⟩
    | succ N ih =>
      obtain ⟨ih1, ih2⟩ := ih
      constructor
      · intro t l ht
        cases t with
        | mk k n b ts =>
          simp only [Ty.mk.sizeOf_spec] at ht
          simp only [firstT, cnt]
          have h := ih2 ts (if k = 6 then addV l n else l) (by omega)
          have : l.length ≤ (if k = 6 then addV l n else l).length ∧ (if k = 6 then addV l n else l).length ≤ l.length + 1 := by
            split
            · unfold addV; split <;> simp
            · omega
          omega
      · intro ts l hl
        cases ts with
        | nil => simp [firstL, cntL]
        | cons x xs =>
          simp only [List.cons.sizeOf_spec] at hl
          simp only [firstL, cntL]
          have h1 := ih1 x l (by omega)
          have h2 := ih2 xs (firstT x l) (by omega)
          omega
  exact fun t l => (key (SizeOf.sizeOf t + 1)).1 t l (by omega)
theorem firstL_len : ∀ (ts : List Ty) (l : List Int), l.length ≤ (firstL ts l).length ∧ (firstL ts l).length ≤ l.length + cntL ts
  | [], l => by simp [firstL, cntL]
  | x :: xs, l => by
    simp only [firstL, cntL]
    have h1 := first_len x l
    have h2 := firstL_len xs (firstT x l)
    omega

theorem nlF_trans (b : Bool) {l m n : List Int} (h1 : l.length ≤ m.length) (h2 : m.length ≤ n.length) : nlF (nlF b l m) m n = nlF b l n := by
  unfold nlF
  rw [Bool.and_assoc]
  congr 1
  by_cases hq : m.length = l.length
  · rw [decide_eq_true hq, Bool.true_and, hq]
  · rw [decide_eq_false hq, decide_eq_false (p := n.length = l.length) (by omega), Bool.false_and]
theorem nlF_long (b : Bool) {l m : List Int} (h : l.length < m.length) : nlF b l m = false := by
  unfold nlF
  rw [decide_eq_false (by omega), Bool.and_false]
theorem nlF_false (l m : List Int) : nlF false l m = false := rfl
theorem fi_hook {N : Nat} (ih : ∀ t b l, SizeOf.sizeOf t < N → cnt t ≤ 1000 → l.length + cnt t ≤ 2000 → QJ 87 [enc t, .isl b none 0 (encI l)] (.isl (nlF b l (firstT t l)) none 0 (encI (firstT t l)))) : QSpec.Ok Tryz.prog g0 87 (fiQ N) := by
  intro args K h'
  unfold fiQ at h'
  split at h'
  · obtain ⟨t, rfl, h1⟩ := argTy_elim h'
    obtain ⟨b, l, rfl, h2, h3⟩ := argInts_elim h1
    exact ⟨_, ih t b l h2.1 h2.2.1 h2.2.2, h3⟩
  · exact h'.elim

theorem first_ok (t : Ty) (b : Bool) (l : List Int) (hc : cnt t ≤ 1000) (hb : l.length + cnt t ≤ 2000) : QJ 87 [enc t, .isl b none 0 (encI l)] (.isl (nlF b l (firstT t l)) none 0 (encI (firstT t l))) := by
  have key : ∀ (N : Nat) (t : Ty) (b : Bool) (l : List Int), SizeOf.sizeOf t < N → cnt t ≤ 1000 → l.length + cnt t ≤ 2000 → QJ 87 [enc t, .isl b none 0 (encI l)] (.isl (nlF b l (firstT t l)) none 0 (encI (firstT t l))) := by
    intro N
    induction N with
    | zero => intro t b l h; omega
    | succ N ih =>
      intro t b l ht hc hb
      have hl : LHook.Ok Tryz.prog g0 ⟨87, 0, (fiSt t).spec⟩ := by
        have hh : Hooks.Ok Tryz.prog g0 (fiH N) := mkHooks_ok (all_cons (fi_hook ih) all_nil) all_nil all_nil
        refine LSN.ok (fiSt t) (fun x => t.l.length - x.i) (fun p l h => by cases h) ?_ ?_ ?_
        · intro p x hp _
          match p, hp with
          | 0, _ => exact Whole.frm rfl rfl (by simp [fiSt, AV.bnd, AV.still_bndL, encI_still]) (by simp [fiSt, tyC, ABlk.bnd, AV.bndL, AV.bnd, encL_bnd])
          | 1, _ => exact Whole.frm rfl rfl (by simp [fiSt, AV.bnd, AV.still_bndL, encI_still]) (by simp [fiSt, tyC, ABlk.bnd, AV.bndL, AV.bnd, encL_bnd])
        · intro p x w hp hw _ _
          match w, hw with
          | 0, _ => exact Whole.frm rfl rfl (by simp [fiSt, AV.bnd, AV.still_bndL, encI_still]) (by simp [fiSt, tyC, ABlk.bnd, AV.bndL, AV.bnd, encL_bnd])
          | 1, _ => exact Whole.frm rfl rfl (by simp [fiSt, AV.bnd, AV.still_bndL, encI_still]) (by simp [fiSt, tyC, ABlk.bnd, AV.bndL, AV.bnd, encL_bnd])
        · obtain ⟨k, n, nl, ts⟩ := t
          simp only [cnt] at hc hb
          simp only [Ty.mk.sizeOf_spec] at ht
          have hlc := len_cnt ts
          have main : ∀ (x : FSt) (hi : x.i < ts.length), x.l.length + cntL (ts.drop x.i) ≤ 2000 → SizeOf.sizeOf ts[x.i] < N ∧ cnt ts[x.i] ≤ 1000 ∧ x.l.length + cnt ts[x.i] ≤ 2000 ∧ (firstT ts[x.i] x.l).length + cntL (ts.drop (x.i + 1)) ≤ 2000 ∧ firstL (ts.drop x.i) x.l = firstL (ts.drop (x.i + 1)) (firstT ts[x.i] x.l) ∧
              nlF (nlF x.b x.l (firstT ts[x.i] x.l)) (firstT ts[x.i] x.l) (firstL (ts.drop x.i) x.l) = nlF x.b x.l (firstL (ts.drop x.i) x.l) := by
            intro x hi hx
            have hs := List.sizeOf_lt_of_mem (List.getElem_mem hi)
            have hg := cnt_get hi
            have hd : ts.drop x.i = ts[x.i] :: ts.drop (x.i + 1) := List.drop_eq_getElem_cons hi
            have h1 := first_len ts[x.i] x.l
            have h2 := firstL_len (ts.drop (x.i + 1)) (firstT ts[x.i] x.l)
            rw [hd] at hx ⊢
            simp only [cntL] at hx
            have e5 : firstL (ts[x.i] :: ts.drop (x.i + 1)) x.l = firstL (ts.drop (x.i + 1)) (firstT ts[x.i] x.l) := by simp only [firstL]
            refine ⟨by omega, by omega, by omega, by omega, e5, ?_⟩
            rw [e5]
            exact nlF_trans _ h1.1 h2.1
          have fin : ∀ (x : FSt), ts.length ≤ x.i → firstL (ts.drop x.i) x.l = x.l ∧ nlF x.b x.l x.l = x.b := by
            intro x hx
            rw [List.drop_of_length_le (by omega)]
            simp [firstL, nlF]
          intro p x hp ⟨hi, hx, _⟩
          simp only [tl_mk] at hi hx
          refine CodeJ.run (el := els) (mu := mu0) hmix hh (n := 60) ?_
          match p, hp with
          | 0, _ =>
            show runN (fiH N) 60 87 0 (fiSt (.mk k n nl ts)) (fun x => ts.length - x.i) 0 x
            rw [fi_loop0]
            simp only [iC, encL_length, eq_self, true_and, and_true, Int.toNat_natCast, AV.int.injEq, tl_mk]
            refine bothR_dec (fun hlt => ?_) fun hge => ?_
            · have hi' : x.i < ts.length := by omega
              obtain ⟨m1, m2, m3, m4, m5, m6⟩ := main x hi' hx
              rw [ex_get hi']
              simp only [ex_enc, ex_encI, Ty.eta]
              refine ⟨by omega, ⟨m1, m2, m3⟩, .inr ⟨⟨x.i + 1, nlF x.b x.l (firstT ts[x.i] x.l), firstT ts[x.i] x.l, x.e⟩, ⟨by simp only; omega, by simp only; omega, by simp only [cnt]; omega⟩, by simp only; omega, ?_, rfl, ?_⟩⟩
              · dsimp only
                rw [m5] at m6 ⊢
                rw [m6]
              · simp only; rw [wrap_id (by omega) (by omega)]; rfl
            · rw [(fin x (by omega)).1, (fin x (by omega)).2]; exact .inr rfl
          | 1, _ =>
            show runN (fiH N) 60 87 0 (fiSt (.mk k n nl ts)) (fun x => ts.length - x.i) 1 x
            rw [fi_loop1]
            simp only [iC, encL_length, eq_self, true_and, and_true, Int.toNat_natCast, AV.int.injEq, tl_mk]
            refine bothR_dec (fun hlt => ?_) fun hge => ?_
            · have hi' : x.i < ts.length := by omega
              obtain ⟨m1, m2, m3, m4, m5, m6⟩ := main x hi' hx
              rw [ex_get hi']
              simp only [ex_enc, ex_encI, Ty.eta]
              refine ⟨by omega, ⟨m1, m2, m3⟩, ⟨⟨x.i + 1, nlF x.b x.l (firstT ts[x.i] x.l), firstT ts[x.i] x.l, x.e⟩, ⟨by simp only; omega, by simp only; omega, by simp only [cnt]; omega⟩, by simp only; omega, ?_, rfl, ?_⟩⟩
              · dsimp only
                rw [m5] at m6 ⊢
                rw [m6]
              · simp only; rw [wrap_id (by omega) (by omega)]; exact ⟨rfl, trivial⟩
            · rw [(fin x (by omega)).1, (fin x (by omega)).2]
      rw [enc_D]
      refine QJ.by (hk := fiH' t) (by rw [← enc_D]; simp [AV.stillL, enc_still, AV.still, encI_still]) (by simp [AV.still, encI_still]) (mkHooks_ok (all_cons has_hook all_nil) all_nil (all_cons hl all_nil)) ?_
      rw [fi_top]
      obtain ⟨k, n, nl, ts⟩ := t
      simp only [iC, encI_length, eq_self, true_and, codeIs_self, AV.int.injEq, tk_mk, tn_mk, tl_mk, ex_encI, List.drop_zero]
      simp only [cnt] at hc hb
      have hone := encI_one l
      have h2 := firstL_len ts
      have same : ∀ (P : FSt → Prop), P ⟨0, b, l, 0⟩ → ∃ x, P x := fun P h => ⟨_, h⟩
      refine bothR_dec (fun h6 => ⟨by omega, bothR_nbool (fun hnot => bothR_dec (fun h0 => ?_) fun h0 => ?_) fun hin => ?_⟩) fun h6 => ?_
      · have e0 : l = [] := List.eq_nil_of_length_eq_zero h0
        subst e0
        refine ⟨⟨(by decide : 8 ≤ 35184372088832), (by decide : 1 ≤ 1152921504606846976)⟩, ⟨0, false, [n], 1⟩, ⟨by simp, by simp only [List.drop_zero, List.length_singleton]; omega, by simp only [cnt]; omega⟩, ⟨rfl, rfl⟩, rfl, rfl, fun _ => ?_, fun h => by cases h⟩
        have h3 := (h2 [n]).1
        simp only [List.length_singleton] at h3
        have : firstT (.mk k n nl ts) [] = firstL ts [n] := by simp [firstT, h6, addV]
        rw [this, List.drop_zero, nlF_long b (l := []) (by simp only [List.length_nil]; omega)]
        rfl
      · have e1 : firstT (.mk k n nl ts) l = firstL ts (l ++ [n]) := by
          simp only [firstT, h6, if_true, addV, hnot]; rfl
        have h3 := (h2 (l ++ [n])).1
        simp only [List.length_append, List.length_singleton] at h3
        refine ⟨⟨by omega, by omega⟩, hone, ⟨by omega, by omega⟩, hone, ⟨0, false, l ++ [n], 0 + l.length + 1⟩, ⟨by simp, by simp only [List.drop_zero, List.length_append, List.length_singleton]; omega, by simp only [cnt]; omega⟩, ⟨rfl, by simp [encI]⟩, rfl, rfl, fun _ => ?_, fun h => by cases h⟩
        rw [e1, List.drop_zero, nlF_long b (l := l) (by omega)]
        rfl
      · have e1 : firstT (.mk k n nl ts) l = firstL ts l := by
          simp only [firstT, h6, if_true, addV, hin]
        refine ⟨⟨0, b, l, 0⟩, ⟨by simp, by simp only [List.drop_zero]; omega, by simp only [cnt]; omega⟩, rfl, rfl, (fun h => by cases h), fun _ => ?_⟩
        rw [e1, List.drop_zero]
      · have e1 : firstT (.mk k n nl ts) l = firstL ts l := by
          simp only [firstT, h6, if_false]
        refine ⟨⟨0, b, l, 0⟩, ⟨by simp, by simp only [List.drop_zero]; omega, by simp only [cnt]; omega⟩, rfl, rfl, (fun h => by cases h), fun _ => ?_⟩
        rw [e1, List.drop_zero]
  exact key (SizeOf.sizeOf t + 1) t b l (by omega) hc hb

end Go.Proofs.YtnmolpkkemljoaaGreatDoor
end
end

section
namespace Kd
open Go.Am Go.Proofs.YtnmolpkkemljoaaGreatDoor

def encB (l : List (Int × Ty)) : List AV := l.map bindD
def varT (n : Int) : Ty := .mk 6 n true []
def nilB {α : Type} (l : List α) : Bool := decide (l.length = 0)
def wayN {α : Type} (l : List α) : Nat := if l.length = 0 then 0 else 1
mutual
def cleanT : Ty → Ty
  | .mk k n _ l => .mk k (if k = 6 then n else 0) (nilB l) (cleanL l)
def cleanL : List Ty → List Ty
  | [] => []
  | x :: xs => cleanT x :: cleanL xs
end
def clN (t : Ty) : Int := if t.kind = 6 then t.n else 0
def boundO : List (Int × Ty) → Int → Option Ty
  | [], _ => none
  | x :: l, n => if x.1 = n then some x.2 else boundO l n
def boundT (l : List (Int × Ty)) (n : Int) : Ty := (boundO l n).getD (varT n)
mutual
def withT (bs : List (Int × Ty)) : Ty → Ty
  | .mk k n _ l => if k = 6 then cleanT (boundT bs n) else .mk k 0 (nilB l) (withL bs l)
def withL (bs : List (Int × Ty)) : List Ty → List Ty
  | [] => []
  | x :: xs => withT bs x :: withL bs xs
end
def numB : List Int → Nat → List (Int × Ty)
  | [], _ => []
  | n :: m, i => (n, varT i) :: numB m (i + 1)
def allC (l : List (Int × Ty)) : Prop := ∀ x ∈ l, cnt x.2 ≤ 1000
def ph0 (p i : Nat) : Prop := p = 0 ↔ i = 0
end Kd
noncomputable section
namespace Go.Proofs.YtnmolpkkemljoaaGreatDoor
open Go Go.Am Kd

def argBinds (v : AV) (K : Bool → List (Int × Ty) → Prop) : Prop :=
  match v with
  | .isl b none 0 xs => ∃ l, xs = encB l ∧ K b l
  | _ => False
theorem argBinds_elim {v : AV} {K : Bool → List (Int × Ty) → Prop} (h : argBinds v K) : ∃ b l, v = .isl b none 0 (encB l) ∧ K b l := by
  unfold argBinds at h
  split at h
  · obtain ⟨l, rfl, h⟩ := h
    exact ⟨_, _, rfl, h⟩
  · exact h.elim

def varQ : QSpec
  | [n], K => argInt n fun n => K (encD (varT n))
  | _, _ => False

def top3 : ABlk := .cells [.top, .top, .top] 24
def accV (p : Nat) (xs : List AV) : AV := match p with | 0 => .isl true none 0 [] | _ => .isl false (some 0) 0 xs
def accF (p n sz : Nat) : List (Nat × Nat) := match p with | 0 => [] | _ => [(n, sz)]
structure ASt (α : Type) where
  i : Nat
  acc : List α

def boSt (b : Bool) (l : List (Int × Ty)) (n : Int) : LSt Nat (Option Ty) where
  n := 1
  nf := 0
  rd := none
  fr x := frm 26 [(0, .isl b none 0 (encB l)), (1, .int .i64 n), (4, .ptr 0 0), (5, .int .i64 x)]
  hp _ := ⟨[top3], []⟩
  inv x := x ≤ l.length ∧ l.length ≤ 2000
  res x := boundO (l.drop x) n
  sel r := r.isSome
  out b' r := match b' with
    | false => ⟨.exit 0, frm 26 [(1, .int .i64 n), (4, .ptr 0 0)], ⟨[top3], []⟩⟩
    | true => ⟨.ret, frm 26 [(4, .ptr 0 0)], ⟨[tyC (r.getD (varT n))], []⟩⟩
def boH' (b : Bool) (l : List (Int × Ty)) (n : Int) : Hooks := hooks [(106, varQ)] [] [(2, ⟨120, 0, (boSt b l n).spec⟩)]
def boQ : QSpec
  | [l, n], K => argBinds l fun _ l => argInt n fun n => (l.length ≤ 2000) ∧ K (encD (boundT l n))
  | _, _ => False

def clSt (t : Ty) : LSN (ASt Ty) (List Ty) where
  m := 2
  ways := 2
  n _ := 3
  nf p := p
  rd := none
  fr _ x := frm 33 [(1, .ptr 0 0), (2, .ptr 1 0), (3, .ptr 2 0), (4, .int .i64 x.i)]
  hp p x := ⟨[tyC t, top3, .cells [.int .i64 t.kind, .int .i64 (clN t), accV p (encL x.acc)] 24], accF p x.acc.length 3⟩
  inv p x := x.i ≤ t.l.length ∧ x.acc.length = x.i ∧ cnt t ≤ 1000 ∧ ph0 p x.i
  res _ x := x.acc ++ cleanL (t.l.drop x.i)
  sel r := wayN r
  wn _ := 3
  wnf w := w
  out w r := ⟨.exit 0, frm 33 [(1, .ptr 0 0), (2, .ptr 1 0), (3, .ptr 2 0)], ⟨[top3, top3, .cells [.int .i64 t.kind, .int .i64 (clN t), accV w (encL r)] 24], accF w r.length 3⟩⟩
def clQ (N : Nat) : QSpec
  | [t], K => argTy t fun t => (SizeOf.sizeOf t < N ∧ cnt t ≤ 1000) ∧ K (encD (cleanT t))
  | _, _ => False
def clQ0 : QSpec
  | [t], K => argTy t fun t => (cnt t ≤ 1000) ∧ K (encD (cleanT t))
  | _, _ => False
def clH (N : Nat) : Hooks := hooks [(104, clQ N)] [] []
def clH' (t : Ty) : Hooks := hooks [] [] [(5, ⟨104, 0, (clSt t).spec⟩)]

def wiSt (b : Bool) (bs : List (Int × Ty)) (t : Ty) : LSN (ASt Ty) (List Ty) where
  m := 2
  ways := 2
  n _ := 3
  nf p := p
  rd := none
  fr _ x := frm 38 [(0, .isl b none 0 (encB bs)), (3, .ptr 0 0), (4, .ptr 1 0), (5, .ptr 2 0), (6, .int .i64 x.i)]
  hp p x := ⟨[tyC t, top3, .cells [.int .i64 t.kind, .int .i64 0, accV p (encL x.acc)] 24], accF p x.acc.length 3⟩
  inv p x := x.i ≤ t.l.length ∧ x.acc.length = x.i ∧ cnt t ≤ 1000 ∧ ph0 p x.i
  res _ x := x.acc ++ withL bs (t.l.drop x.i)
  sel r := wayN r
  wn _ := 3
  wnf w := w
  out w r := ⟨.exit 0, frm 38 [(3, .ptr 0 0), (4, .ptr 1 0), (5, .ptr 2 0)], ⟨[top3, top3, .cells [.int .i64 t.kind, .int .i64 0, accV w (encL r)] 24], accF w r.length 3⟩⟩
def wiQ (N : Nat) : QSpec
  | [l, t], K => argBinds l fun _ l => argTy t fun t => (SizeOf.sizeOf t < N ∧ cnt t ≤ 1000 ∧ l.length ≤ 2000 ∧ allC l) ∧ K (encD (withT l t))
  | _, _ => False
def wiQ0 : QSpec
  | [l, t], K => argBinds l fun _ l => argTy t fun t => (cnt t ≤ 1000 ∧ l.length ≤ 2000 ∧ allC l) ∧ K (encD (withT l t))
  | _, _ => False
def wiH (N : Nat) : Hooks := hooks [(84, wiQ N)] [] []
def wiH' (b : Bool) (bs : List (Int × Ty)) (t : Ty) : Hooks := hooks [(120, boQ), (104, clQ0)] [] [(5, ⟨84, 0, (wiSt b bs t).spec⟩)]

def nuSt (t : Ty) (c : Bool) (m : List Int) : LSN (ASt (Int × Ty)) (List (Int × Ty)) where
  m := 2
  ways := 2
  n _ := 2
  nf p := p
  rd := none
  fr p x := frm 31 [(1, .isl c none 0 (encI m)), (2, .ptr 0 0), (4, .ptr 1 0), (5, .isl true none 0 []), (6, accV p (encB x.acc)), (7, .int .i64 x.i)]
  hp p x := ⟨[tyC t, top3], accF p x.acc.length 4⟩
  inv p x := x.i ≤ m.length ∧ x.acc.length = x.i ∧ m.length ≤ 2000 ∧ ph0 p x.i
  res _ x := x.acc ++ numB (m.drop x.i) x.i
  sel r := wayN r
  wn _ := 2
  wnf w := w
  out w r := ⟨.exit 0, frm 31 [(1, .isl c none 0 (encI m)), (2, .ptr 0 0), (4, .ptr 1 0), (6, accV w (encB r))], ⟨[tyC t, top3], accF w r.length 4⟩⟩
def nuH : Hooks := hooks [(106, varQ)] [] []
def fiQ0 : QSpec
  | [t, l], K => argTy t fun t => argInts l fun b l => (cnt t ≤ 1000 ∧ l.length + cnt t ≤ 2000) ∧ K (.isl (nlF b l (firstT t l)) none 0 (encI (firstT t l)))
  | _, _ => False
def nuH' (t : Ty) (c : Bool) (m : List Int) : Hooks := hooks [(87, fiQ0), (84, weakQ 3 wiQ0)] [] [(4, ⟨89, 0, (nuSt t c m).spec⟩)]
def nuQ0 : QSpec
  | [t, l], K => argTy t fun t => argInts l fun b l => (cnt t ≤ 1000 ∧ l.length + cnt t ≤ 2000) ∧ K (.tup [encD (withT (numB (firstT t l) 0) t), .isl (nlF b l (firstT t l)) none 0 (encI (firstT t l))])
  | _, _ => False
def rnHk : Hooks := hooks [(60, typeQ), (89, nuQ0), (87, fiQ0)] [] []

end Go.Proofs.YtnmolpkkemljoaaGreatDoor
end
end

section
noncomputable section
namespace Go.Proofs.YtnmolpkkemljoaaGreatDoor
open Go Go.Am Kd
set_option maxRecDepth 100000

theorem var_top (n : Int) (r : Ty) : (runF hk0 60 106 [.int .i64 n] AH.nil (retIs Tryz.prog 5 (encD r))) = ( AV.agg [AV.int IntKind.i64 (6), AV.int IntKind.i64 n, AV.isl true none (0) []] = AV.agg [AV.int IntKind.i64 (Ty.kind r), AV.int IntKind.i64 (Ty.n r), AV.isl (Ty.nl r) none (0) (encL (Ty.l r))]) := by kernel_rfl

theorem bo_loop (b : Bool) (l : List (Int × Ty)) (n : Int) (meas : Nat → Nat) (x : Nat) : (runL hk0 60 120 0 (boSt b l n) meas x) = ( bothR (decide (iC x < iC (List.length (encB l)))) (0 ≤ iC x ∧ ∃ x_1, (encB l)[Int.toNat (iC x)]? = some (AV.agg [AV.int IntKind.i64 (Prod.fst x_1), AV.int IntKind.i64 (Ty.kind (Prod.snd x_1)), AV.int IntKind.i64 (Ty.n (Prod.snd x_1)), AV.isl (Ty.nl (Prod.snd x_1)) none (0) (encL (Ty.l (Prod.snd x_1)))]) ∧ bothR (decide (Prod.fst x_1 = n)) (0 ≤ iC x ∧ ∃ x_2, (encB l)[Int.toNat (iC x)]? = some (AV.agg
 [AV.int IntKind.i64 (Prod.fst x_2), AV.int IntKind.i64 (Ty.kind (Prod.snd x_2)), AV.int IntKind.i64 (Ty.n (Prod.snd x_2)), AV.isl (Ty.nl (Prod.snd x_2)) none (0) (encL (Ty.l (Prod.snd x_2)))]) ∧ Option.isSome (boundO (List.drop x l) n) = true ∧ AV.ptr (0) (0) = AV.ptr (0) (0) ∧ 24 = 24 ∧ AV.int IntKind.i64 (Ty.kind (Prod.snd x_2)) = AV.int IntKind.i64 (Ty.kind (Option.getD (boundO (List.drop x l) n) (varT n))) ∧ AV.int IntKind.i64 (Ty.n (Prod.snd x_2)) = AV.int IntKind.i64 (Ty.n (Option.getD (boundO (List.drop x l) n) (varT n))) ∧
 AV.isl (Ty.nl (Prod.snd x_2)) none (0) (encL (Ty.l (Prod.snd x_2))) = AV.isl (Ty.nl (Option.getD (boundO (List.drop x l) n) (varT n))) none (0) (encL (Ty.l (Option.getD (boundO (List.drop x l) n) (varT n)))) ∧ 0 = 0 ∧ True) (∃ y, (y ≤ List.length l ∧ List.length l ≤ 2000) ∧ meas y < meas x ∧ boundO (List.drop y l) n = boundO (List.drop x l) n ∧ AV.isl b none (0) (encB l) = AV.isl b none (0) (encB l) ∧ AV.int IntKind.i64 n = AV.int IntKind.i64 n ∧ AV.ptr (0) (0) = AV.ptr (0) (0) ∧ AV.int IntKind.i64 (IntKind.wrap IntKind.i64 (iC x + (1 : Int))) = AV.int IntKind.i64 (iC y) ∧
 24 = 24 ∧ 0 = 0 ∧ True)) (Option.isSome (boundO (List.drop x l) n) = false ∧ AV.int IntKind.i64 n = AV.int IntKind.i64 n ∧ AV.ptr (0) (0) = AV.ptr (0) (0) ∧ 24 = 24 ∧ 0 = 0 ∧ True)) := by kernel_rfl

theorem bo_top (b : Bool) (l : List (Int × Ty)) (n : Int) (r : Ty) : (runF (boH' b l n) 60 120 [.isl b none 0 (encB l), .int .i64 n] AH.nil (retIs Tryz.prog 5 (encD r))) = ( codeIs (loopOf Tryz.prog 120 0) Tryz.prog 120 0 (∃ x, (x ≤ List.length l ∧ List.length l ≤ 2000) ∧ AV.isl b none (0) (encB l) = AV.isl b none (0) (encB l) ∧ AV.int IntKind.i64 n = AV.int IntKind.i64 n ∧ AV.ptr (0) (0) = AV.ptr (0) (0) ∧ AV.int IntKind.i64 (0) = AV.int IntKind.i64 (iC x) ∧ 24 = 24 ∧ 0 = 0 ∧ bothR (Option.isSome (boundO (List.drop x l) n)) (AV.agg
 [AV.int IntKind.i64 (Ty.kind (Option.getD (boundO (List.drop x l) n) (varT n))), AV.int IntKind.i64 (Ty.n (Option.getD (boundO (List.drop x l) n) (varT n))), AV.isl (Ty.nl (Option.getD (boundO (List.drop x l) n) (varT n))) none (0) (encL (Ty.l (Option.getD (boundO (List.drop x l) n) (varT n))))] = AV.agg [AV.int IntKind.i64 (Ty.kind r), AV.int IntKind.i64 (Ty.n r), AV.isl (Ty.nl r) none (0) (encL (Ty.l r))]) (AV.agg [AV.int IntKind.i64 (Ty.kind (varT n)), AV.int IntKind.i64 (Ty.n (varT n)), AV.isl (Ty.nl (varT n)) none (0) []] =
 AV.agg [AV.int IntKind.i64 (Ty.kind r), AV.int IntKind.i64 (Ty.n r), AV.isl (Ty.nl r) none (0) (encL (Ty.l r))]))) := by kernel_rfl

theorem cl_loop0 (t : Ty) (N : Nat) (meas : ASt Ty → Nat) (x : ASt Ty) : (runN (clH N) 60 104 0 (clSt t) meas 0 x) = ( bothR (decide (iC (ASt.i x) < iC (List.length (encL (Ty.l t))))) (0 ≤ iC (ASt.i x) ∧ ∃ x_1, (encL (Ty.l t))[Int.toNat (iC (ASt.i x))]? = some (AV.agg [AV.int IntKind.i64 (Ty.kind x_1), AV.int IntKind.i64 (Ty.n x_1), AV.isl (Ty.nl x_1) none (0) (encL (Ty.l x_1))]) ∧ ∃ l, encL (Ty.l x_1) = encL l ∧ (SizeOf.sizeOf (Ty.mk (Ty.kind x_1) (Ty.n x_1) (Ty.nl x_1) l) < N ∧ cnt (Ty.mk (Ty.kind x_1) (Ty.n x_1) (Ty.nl x_1) l) ≤ 1000) ∧
 (Nat.le (40) (35184372088832) ∧ Nat.le (1) (1152921504606846976)) ∧ true = true ∧ ((∃ y, (ASt.i y ≤ List.length (Ty.l t) ∧ List.length (ASt.acc y) = ASt.i y ∧ cnt t ≤ 1000 ∧ ph0 (1) (ASt.i y)) ∧ meas y < meas x ∧ ASt.acc y ++ cleanL (List.drop (ASt.i y) (Ty.l t)) = ASt.acc x ++ cleanL (List.drop (ASt.i x) (Ty.l t)) ∧ AV.ptr (0) (0) = AV.ptr (0) (0) ∧ AV.ptr (1) (0) = AV.ptr (1) (0) ∧ AV.ptr (2) (0) = AV.ptr (2) (0) ∧ AV.int IntKind.i64 (IntKind.wrap IntKind.i64 (iC (ASt.i x) + (1 : Int))) = AV.int IntKind.i64 (iC (ASt.i y)) ∧ 24 = 24 ∧
 AV.int IntKind.i64 (Ty.kind t) = AV.int IntKind.i64 (Ty.kind t) ∧ AV.int IntKind.i64 (Ty.n t) = AV.int IntKind.i64 (Ty.n t) ∧ AV.isl (Ty.nl t) none (0) (encL (Ty.l t)) = AV.isl (Ty.nl t) none (0) (encL (Ty.l t)) ∧ 24 = 24 ∧ 24 = 24 ∧ AV.int IntKind.i64 (Ty.kind t) = AV.int IntKind.i64 (Ty.kind t) ∧ AV.int IntKind.i64 (clN t) = AV.int IntKind.i64 (clN t) ∧ AV.isl false (some (0)) (0) [AV.agg [AV.int IntKind.i64 (Ty.kind (cleanT (Ty.mk (Ty.kind x_1) (Ty.n x_1) (Ty.nl x_1) l))), AV.int IntKind.i64 (Ty.n (cleanT (Ty.mk (Ty.kind x_1) (Ty.n x_1) (Ty.nl x_1) l))),
 AV.isl (Ty.nl (cleanT (Ty.mk (Ty.kind x_1) (Ty.n x_1) (Ty.nl x_1) l))) none (0) (encL (Ty.l (cleanT (Ty.mk (Ty.kind x_1) (Ty.n x_1) (Ty.nl x_1) l))))]] = AV.isl false (some (0)) (0) (encL (ASt.acc y)) ∧ [(1, 3)] = [(List.length (ASt.acc y), 3)] ∧ True) ∨ ∃ y, (ASt.i y ≤ List.length (Ty.l t) ∧ List.length (ASt.acc y) = ASt.i y ∧ cnt t ≤ 1000 ∧ ph0 (0) (ASt.i y)) ∧ meas y < meas x ∧ ASt.acc y ++ cleanL (List.drop (ASt.i y) (Ty.l t)) = ASt.acc x ++ cleanL (List.drop (ASt.i x) (Ty.l t)) ∧ AV.ptr (0) (0) = AV.ptr (0) (0) ∧ AV.ptr (1) (0) = AV.ptr (1) (0) ∧ AV.ptr (2) (0) = AV.ptr (2) (0) ∧
 AV.int IntKind.i64 (IntKind.wrap IntKind.i64 (iC (ASt.i x) + (1 : Int))) = AV.int IntKind.i64 (iC (ASt.i y)) ∧ 24 = 24 ∧ AV.int IntKind.i64 (Ty.kind t) = AV.int IntKind.i64 (Ty.kind t) ∧ AV.int IntKind.i64 (Ty.n t) = AV.int IntKind.i64 (Ty.n t) ∧ AV.isl (Ty.nl t) none (0) (encL (Ty.l t)) = AV.isl (Ty.nl t) none (0) (encL (Ty.l t)) ∧ 24 = 24 ∧ 24 = 24 ∧ AV.int IntKind.i64 (Ty.kind t) = AV.int IntKind.i64 (Ty.kind t) ∧ AV.int IntKind.i64 (clN t) = AV.int IntKind.i64 (clN t) ∧ (false = true ∧ [AV.agg [AV.int IntKind.i64 (Ty.kind (cleanT (Ty.mk (Ty.kind x_1) (Ty.n x_1) (Ty.nl x_1) l))),
 AV.int IntKind.i64 (Ty.n (cleanT (Ty.mk (Ty.kind x_1) (Ty.n x_1) (Ty.nl x_1) l))), AV.isl (Ty.nl (cleanT (Ty.mk (Ty.kind x_1) (Ty.n x_1) (Ty.nl x_1) l))) none (0) (encL (Ty.l (cleanT (Ty.mk (Ty.kind x_1) (Ty.n x_1) (Ty.nl x_1) l))))]] = []) ∧ 0 = 0 ∧ True)) (wayN (ASt.acc x ++ cleanL (List.drop (ASt.i x) (Ty.l t))) = 1 ∧ AV.ptr (0) (0) = AV.ptr (0) (0) ∧ AV.ptr (1) (0) = AV.ptr (1) (0) ∧ AV.ptr (2) (0) = AV.ptr (2) (0) ∧ 24 = 24 ∧ 24 = 24 ∧ 24 = 24 ∧ AV.int IntKind.i64 (Ty.kind t) = AV.int IntKind.i64 (Ty.kind t) ∧ AV.int IntKind.i64 (clN t) = AV.int IntKind.i64 (clN t) ∧
 AV.isl true none (0) [] = AV.isl false (some (0)) (0) (encL (ASt.acc x ++ cleanL (List.drop (ASt.i x) (Ty.l t)))) ∧ [] = [(List.length (ASt.acc x ++ cleanL (List.drop (ASt.i x) (Ty.l t))), 3)] ∧ True ∨ wayN (ASt.acc x ++ cleanL (List.drop (ASt.i x) (Ty.l t))) = 0 ∧ AV.ptr (0) (0) = AV.ptr (0) (0) ∧ AV.ptr (1) (0) = AV.ptr (1) (0) ∧ AV.ptr (2) (0) = AV.ptr (2) (0) ∧ 24 = 24 ∧ 24 = 24 ∧ 24 = 24 ∧ AV.int IntKind.i64 (Ty.kind t) = AV.int IntKind.i64 (Ty.kind t) ∧ AV.int IntKind.i64 (clN t) = AV.int IntKind.i64 (clN t) ∧
 SubR [AV.isl true none (0) []] [AV.isl true none (0) []] (0 = 0 ∧ True))) := by kernel_rfl

theorem cl_loop1 (t : Ty) (N : Nat) (meas : ASt Ty → Nat) (x : ASt Ty) : (runN (clH N) 60 104 0 (clSt t) meas 1 x) = ( bothR (decide (iC (ASt.i x) < iC (List.length (encL (Ty.l t))))) (0 ≤ iC (ASt.i x) ∧ ∃ x_1, (encL (Ty.l t))[Int.toNat (iC (ASt.i x))]? = some (AV.agg [AV.int IntKind.i64 (Ty.kind x_1), AV.int IntKind.i64 (Ty.n x_1), AV.isl (Ty.nl x_1) none (0) (encL (Ty.l x_1))]) ∧ ∃ l, encL (Ty.l x_1) = encL l ∧ (SizeOf.sizeOf (Ty.mk (Ty.kind x_1) (Ty.n x_1) (Ty.nl x_1) l) < N ∧ cnt (Ty.mk (Ty.kind x_1) (Ty.n x_1) (Ty.nl x_1) l) ≤ 1000) ∧
 ((List.length (encL (ASt.acc x)) + 1) * 40 ≤ 35184372088832 ∧ List.length (encL (ASt.acc x)) + 1 ≤ 1152921504606846976) ∧ true = true ∧ some (List.length (ASt.acc x), 3) = some (0 + List.length (encL (ASt.acc x)), 3) ∧ List.all (encL (ASt.acc x)) (oneSz (2 + 1)) = true ∧ ∃ y, (ASt.i y ≤ List.length (Ty.l t) ∧ List.length (ASt.acc y) = ASt.i y ∧ cnt t ≤ 1000 ∧ ph0 (1) (ASt.i y)) ∧ meas y < meas x ∧ ASt.acc y ++ cleanL (List.drop (ASt.i y) (Ty.l t)) = ASt.acc x ++ cleanL (List.drop (ASt.i x) (Ty.l t)) ∧ AV.ptr (0) (0) = AV.ptr (0) (0) ∧ AV.ptr (1) (0) = AV.ptr (1) (0) ∧
 AV.ptr (2) (0) = AV.ptr (2) (0) ∧ AV.int IntKind.i64 (IntKind.wrap IntKind.i64 (iC (ASt.i x) + (1 : Int))) = AV.int IntKind.i64 (iC (ASt.i y)) ∧ 24 = 24 ∧ AV.int IntKind.i64 (Ty.kind t) = AV.int IntKind.i64 (Ty.kind t) ∧ AV.int IntKind.i64 (Ty.n t) = AV.int IntKind.i64 (Ty.n t) ∧ AV.isl (Ty.nl t) none (0) (encL (Ty.l t)) = AV.isl (Ty.nl t) none (0) (encL (Ty.l t)) ∧ 24 = 24 ∧ 24 = 24 ∧ AV.int IntKind.i64 (Ty.kind t) = AV.int IntKind.i64 (Ty.kind t) ∧ AV.int IntKind.i64 (clN t) = AV.int IntKind.i64 (clN t) ∧ AV.isl false (some (0)) (0) (encL (ASt.acc x) ++ [AV.agg
 [AV.int IntKind.i64 (Ty.kind (cleanT (Ty.mk (Ty.kind x_1) (Ty.n x_1) (Ty.nl x_1) l))), AV.int IntKind.i64 (Ty.n (cleanT (Ty.mk (Ty.kind x_1) (Ty.n x_1) (Ty.nl x_1) l))), AV.isl (Ty.nl (cleanT (Ty.mk (Ty.kind x_1) (Ty.n x_1) (Ty.nl x_1) l))) none 0 (encL (Ty.l (cleanT (Ty.mk (Ty.kind x_1) (Ty.n x_1) (Ty.nl x_1) l))))]]) = AV.isl false (some (0)) (0) (encL (ASt.acc y)) ∧ [(0 + List.length (encL (ASt.acc x)) + 1, 3)] = [(List.length (ASt.acc y), 3)] ∧ True) (wayN (ASt.acc x ++ cleanL (List.drop (ASt.i x) (Ty.l t))) = 1 ∧ AV.ptr (0) (0) = AV.ptr (0) (0) ∧ AV.ptr (1) (0) = AV.ptr (1) (0) ∧
 AV.ptr (2) (0) = AV.ptr (2) (0) ∧ 24 = 24 ∧ 24 = 24 ∧ 24 = 24 ∧ AV.int IntKind.i64 (Ty.kind t) = AV.int IntKind.i64 (Ty.kind t) ∧ AV.int IntKind.i64 (clN t) = AV.int IntKind.i64 (clN t) ∧ AV.isl false (some (0)) (0) (encL (ASt.acc x)) = AV.isl false (some (0)) (0) (encL (ASt.acc x ++ cleanL (List.drop (ASt.i x) (Ty.l t)))) ∧ [(List.length (ASt.acc x), 3)] = [(List.length (ASt.acc x ++ cleanL (List.drop (ASt.i x) (Ty.l t))), 3)] ∧ True)) := by kernel_rfl

theorem cl_top (t : Ty) (r : Ty) : (runF (clH' t) 60 104 [encD t] AH.nil (retIs Tryz.prog 5 (encD r))) = ( bothR (decide (Ty.kind t = (6 : Int))) (codeIs (loopOf Tryz.prog 104 0) Tryz.prog 104 0 (∃ x, (ASt.i x ≤ List.length (Ty.l t) ∧ List.length (ASt.acc x) = ASt.i x ∧ cnt t ≤ 1000 ∧ ph0 (0) (ASt.i x)) ∧ AV.ptr (0) (0) = AV.ptr (0) (0) ∧ AV.ptr (1) (0) = AV.ptr (1) (0) ∧ AV.ptr (2) (0) = AV.ptr (2) (0) ∧ AV.int IntKind.i64 (0) = AV.int IntKind.i64 (iC (ASt.i x)) ∧ 24 = 24 ∧ AV.int IntKind.i64 (Ty.kind t) = AV.int IntKind.i64 (Ty.kind t) ∧
 AV.int IntKind.i64 (Ty.n t) = AV.int IntKind.i64 (Ty.n t) ∧ AV.isl (Ty.nl t) none (0) (encL (Ty.l t)) = AV.isl (Ty.nl t) none (0) (encL (Ty.l t)) ∧ 24 = 24 ∧ 24 = 24 ∧ AV.int IntKind.i64 (Ty.kind t) = AV.int IntKind.i64 (Ty.kind t) ∧ AV.int IntKind.i64 (Ty.n t) = AV.int IntKind.i64 (clN t) ∧ SubR [AV.isl true none (0) []] [AV.isl true none (0) []] (0 = 0 ∧ (wayN (ASt.acc x ++ cleanL (List.drop (ASt.i x) (Ty.l t))) = 1 → AV.agg [AV.int IntKind.i64 (Ty.kind t), AV.int IntKind.i64 (clN t), AV.isl false none (0) (encL (ASt.acc x ++ cleanL (List.drop (ASt.i x) (Ty.l t))))] =
 AV.agg [AV.int IntKind.i64 (Ty.kind r), AV.int IntKind.i64 (Ty.n r), AV.isl (Ty.nl r) none (0) (encL (Ty.l r))]) ∧ (wayN (ASt.acc x ++ cleanL (List.drop (ASt.i x) (Ty.l t))) = 0 → AV.agg [AV.int IntKind.i64 (Ty.kind t), AV.int IntKind.i64 (clN t), AV.isl true none (0) []] = AV.agg [AV.int IntKind.i64 (Ty.kind r), AV.int IntKind.i64 (Ty.n r), AV.isl (Ty.nl r) none (0) (encL (Ty.l r))])))) (codeIs (loopOf Tryz.prog 104 0) Tryz.prog 104 0 (∃ x, (ASt.i x ≤ List.length (Ty.l t) ∧ List.length (ASt.acc x) = ASt.i x ∧ cnt t ≤ 1000 ∧ ph0 (0) (ASt.i x)) ∧ AV.ptr (0) (0) = AV.ptr (0) (0) ∧
 AV.ptr (1) (0) = AV.ptr (1) (0) ∧ AV.ptr (2) (0) = AV.ptr (2) (0) ∧ AV.int IntKind.i64 (0) = AV.int IntKind.i64 (iC (ASt.i x)) ∧ 24 = 24 ∧ AV.int IntKind.i64 (Ty.kind t) = AV.int IntKind.i64 (Ty.kind t) ∧ AV.int IntKind.i64 (Ty.n t) = AV.int IntKind.i64 (Ty.n t) ∧ AV.isl (Ty.nl t) none (0) (encL (Ty.l t)) = AV.isl (Ty.nl t) none (0) (encL (Ty.l t)) ∧ 24 = 24 ∧ 24 = 24 ∧ AV.int IntKind.i64 (Ty.kind t) = AV.int IntKind.i64 (Ty.kind t) ∧ AV.int IntKind.i64 (0) = AV.int IntKind.i64 (clN t) ∧ SubR [AV.isl true none (0) []] [AV.isl true none (0) []] (0 = 0 ∧
 (wayN (ASt.acc x ++ cleanL (List.drop (ASt.i x) (Ty.l t))) = 1 → AV.agg [AV.int IntKind.i64 (Ty.kind t), AV.int IntKind.i64 (clN t), AV.isl false none (0) (encL (ASt.acc x ++ cleanL (List.drop (ASt.i x) (Ty.l t))))] = AV.agg [AV.int IntKind.i64 (Ty.kind r), AV.int IntKind.i64 (Ty.n r), AV.isl (Ty.nl r) none (0) (encL (Ty.l r))]) ∧ (wayN (ASt.acc x ++ cleanL (List.drop (ASt.i x) (Ty.l t))) = 0 → AV.agg [AV.int IntKind.i64 (Ty.kind t), AV.int IntKind.i64 (clN t), AV.isl true none (0) []] =
 AV.agg [AV.int IntKind.i64 (Ty.kind r), AV.int IntKind.i64 (Ty.n r), AV.isl (Ty.nl r) none (0) (encL (Ty.l r))]))))) := by kernel_rfl

theorem wi_loop0 (b : Bool) (bs : List (Int × Ty)) (t : Ty) (N : Nat) (meas : ASt Ty → Nat) (x : ASt Ty) : (runN (wiH N) 60 84 0 (wiSt b bs t) meas 0 x) = ( bothR (decide (iC (ASt.i x) < iC (List.length (encL (Ty.l t))))) (0 ≤ iC (ASt.i x) ∧ ∃ x_1, (encL (Ty.l t))[Int.toNat (iC (ASt.i x))]? = some (AV.agg [AV.int IntKind.i64 (Ty.kind x_1), AV.int IntKind.i64 (Ty.n x_1), AV.isl (Ty.nl x_1) none (0) (encL (Ty.l x_1))]) ∧ ∃ l, encB bs = encB l ∧ ∃ l_1, encL (Ty.l x_1) = encL l_1 ∧ (SizeOf.sizeOf (Ty.mk (Ty.kind x_1) (Ty.n x_1) (Ty.nl x_1) l_1) < N ∧
 cnt (Ty.mk (Ty.kind x_1) (Ty.n x_1) (Ty.nl x_1) l_1) ≤ 1000 ∧ List.length l ≤ 2000 ∧ allC l) ∧ (Nat.le (40) (35184372088832) ∧ Nat.le (1) (1152921504606846976)) ∧ true = true ∧ ((∃ y, (ASt.i y ≤ List.length (Ty.l t) ∧ List.length (ASt.acc y) = ASt.i y ∧ cnt t ≤ 1000 ∧ ph0 (1) (ASt.i y)) ∧ meas y < meas x ∧ ASt.acc y ++ withL bs (List.drop (ASt.i y) (Ty.l t)) = ASt.acc x ++ withL bs (List.drop (ASt.i x) (Ty.l t)) ∧ AV.isl b none (0) (encB bs) = AV.isl b none (0) (encB bs) ∧ AV.ptr (0) (0) = AV.ptr (0) (0) ∧ AV.ptr (1) (0) = AV.ptr (1) (0) ∧ AV.ptr (2) (0) = AV.ptr (2) (0) ∧
 AV.int IntKind.i64 (IntKind.wrap IntKind.i64 (iC (ASt.i x) + (1 : Int))) = AV.int IntKind.i64 (iC (ASt.i y)) ∧ 24 = 24 ∧ AV.int IntKind.i64 (Ty.kind t) = AV.int IntKind.i64 (Ty.kind t) ∧ AV.int IntKind.i64 (Ty.n t) = AV.int IntKind.i64 (Ty.n t) ∧ AV.isl (Ty.nl t) none (0) (encL (Ty.l t)) = AV.isl (Ty.nl t) none (0) (encL (Ty.l t)) ∧ 24 = 24 ∧ 24 = 24 ∧ AV.int IntKind.i64 (Ty.kind t) = AV.int IntKind.i64 (Ty.kind t) ∧ AV.int IntKind.i64 (0) = AV.int IntKind.i64 (0) ∧ AV.isl false (some (0)) (0) [AV.agg [AV.int IntKind.i64 (Ty.kind (withT l (Ty.mk (Ty.kind x_1) (Ty.n x_1) (Ty.nl x_1) l_1))),
 AV.int IntKind.i64 (Ty.n (withT l (Ty.mk (Ty.kind x_1) (Ty.n x_1) (Ty.nl x_1) l_1))), AV.isl (Ty.nl (withT l (Ty.mk (Ty.kind x_1) (Ty.n x_1) (Ty.nl x_1) l_1))) none (0) (encL (Ty.l (withT l (Ty.mk (Ty.kind x_1) (Ty.n x_1) (Ty.nl x_1) l_1))))]] = AV.isl false (some (0)) (0) (encL (ASt.acc y)) ∧ [(1, 3)] = [(List.length (ASt.acc y), 3)] ∧ True) ∨ ∃ y, (ASt.i y ≤ List.length (Ty.l t) ∧ List.length (ASt.acc y) = ASt.i y ∧ cnt t ≤ 1000 ∧ ph0 (0) (ASt.i y)) ∧ meas y < meas x ∧ ASt.acc y ++ withL bs (List.drop (ASt.i y) (Ty.l t)) = ASt.acc x ++ withL bs (List.drop (ASt.i x) (Ty.l t)) ∧
 AV.isl b none (0) (encB bs) = AV.isl b none (0) (encB bs) ∧ AV.ptr (0) (0) = AV.ptr (0) (0) ∧ AV.ptr (1) (0) = AV.ptr (1) (0) ∧ AV.ptr (2) (0) = AV.ptr (2) (0) ∧ AV.int IntKind.i64 (IntKind.wrap IntKind.i64 (iC (ASt.i x) + (1 : Int))) = AV.int IntKind.i64 (iC (ASt.i y)) ∧ 24 = 24 ∧ AV.int IntKind.i64 (Ty.kind t) = AV.int IntKind.i64 (Ty.kind t) ∧ AV.int IntKind.i64 (Ty.n t) = AV.int IntKind.i64 (Ty.n t) ∧ AV.isl (Ty.nl t) none (0) (encL (Ty.l t)) = AV.isl (Ty.nl t) none (0) (encL (Ty.l t)) ∧ 24 = 24 ∧ 24 = 24 ∧ AV.int IntKind.i64 (Ty.kind t) = AV.int IntKind.i64 (Ty.kind t) ∧
 AV.int IntKind.i64 (0) = AV.int IntKind.i64 (0) ∧ (false = true ∧ [AV.agg [AV.int IntKind.i64 (Ty.kind (withT l (Ty.mk (Ty.kind x_1) (Ty.n x_1) (Ty.nl x_1) l_1))), AV.int IntKind.i64 (Ty.n (withT l (Ty.mk (Ty.kind x_1) (Ty.n x_1) (Ty.nl x_1) l_1))), AV.isl (Ty.nl (withT l (Ty.mk (Ty.kind x_1) (Ty.n x_1) (Ty.nl x_1) l_1))) none (0) (encL (Ty.l (withT l (Ty.mk (Ty.kind x_1) (Ty.n x_1) (Ty.nl x_1) l_1))))]] = []) ∧ 0 = 0 ∧ True)) (wayN (ASt.acc x ++ withL bs (List.drop (ASt.i x) (Ty.l t))) = 1 ∧ AV.ptr (0) (0) = AV.ptr (0) (0) ∧ AV.ptr (1) (0) = AV.ptr (1) (0) ∧ AV.ptr (2) (0) = AV.ptr (2) (0) ∧
 24 = 24 ∧ 24 = 24 ∧ 24 = 24 ∧ AV.int IntKind.i64 (Ty.kind t) = AV.int IntKind.i64 (Ty.kind t) ∧ AV.int IntKind.i64 (0) = AV.int IntKind.i64 (0) ∧ AV.isl true none (0) [] = AV.isl false (some (0)) (0) (encL (ASt.acc x ++ withL bs (List.drop (ASt.i x) (Ty.l t)))) ∧ [] = [(List.length (ASt.acc x ++ withL bs (List.drop (ASt.i x) (Ty.l t))), 3)] ∧ True ∨ wayN (ASt.acc x ++ withL bs (List.drop (ASt.i x) (Ty.l t))) = 0 ∧ AV.ptr (0) (0) = AV.ptr (0) (0) ∧ AV.ptr (1) (0) = AV.ptr (1) (0) ∧ AV.ptr (2) (0) = AV.ptr (2) (0) ∧ 24 = 24 ∧ 24 = 24 ∧ 24 = 24 ∧
 AV.int IntKind.i64 (Ty.kind t) = AV.int IntKind.i64 (Ty.kind t) ∧ SubR [AV.int IntKind.i64 (0), AV.isl true none (0) []] [AV.int IntKind.i64 (0), AV.isl true none (0) []] (0 = 0 ∧ True))) := by kernel_rfl

theorem wi_loop1 (b : Bool) (bs : List (Int × Ty)) (t : Ty) (N : Nat) (meas : ASt Ty → Nat) (x : ASt Ty) : (runN (wiH N) 60 84 0 (wiSt b bs t) meas 1 x) = ( bothR (decide (iC (ASt.i x) < iC (List.length (encL (Ty.l t))))) (0 ≤ iC (ASt.i x) ∧ ∃ x_1, (encL (Ty.l t))[Int.toNat (iC (ASt.i x))]? = some (AV.agg [AV.int IntKind.i64 (Ty.kind x_1), AV.int IntKind.i64 (Ty.n x_1), AV.isl (Ty.nl x_1) none (0) (encL (Ty.l x_1))]) ∧ ∃ l, encB bs = encB l ∧ ∃ l_1, encL (Ty.l x_1) = encL l_1 ∧ (SizeOf.sizeOf (Ty.mk (Ty.kind x_1) (Ty.n x_1) (Ty.nl x_1) l_1) < N ∧
 cnt (Ty.mk (Ty.kind x_1) (Ty.n x_1) (Ty.nl x_1) l_1) ≤ 1000 ∧ List.length l ≤ 2000 ∧ allC l) ∧ ((List.length (encL (ASt.acc x)) + 1) * 40 ≤ 35184372088832 ∧ List.length (encL (ASt.acc x)) + 1 ≤ 1152921504606846976) ∧ true = true ∧ some (List.length (ASt.acc x), 3) = some (0 + List.length (encL (ASt.acc x)), 3) ∧ List.all (encL (ASt.acc x)) (oneSz (2 + 1)) = true ∧ ∃ y, (ASt.i y ≤ List.length (Ty.l t) ∧ List.length (ASt.acc y) = ASt.i y ∧ cnt t ≤ 1000 ∧ ph0 (1) (ASt.i y)) ∧ meas y < meas x ∧
 ASt.acc y ++ withL bs (List.drop (ASt.i y) (Ty.l t)) = ASt.acc x ++ withL bs (List.drop (ASt.i x) (Ty.l t)) ∧ AV.isl b none (0) (encB bs) = AV.isl b none (0) (encB bs) ∧ AV.ptr (0) (0) = AV.ptr (0) (0) ∧ AV.ptr (1) (0) = AV.ptr (1) (0) ∧ AV.ptr (2) (0) = AV.ptr (2) (0) ∧ AV.int IntKind.i64 (IntKind.wrap IntKind.i64 (iC (ASt.i x) + (1 : Int))) = AV.int IntKind.i64 (iC (ASt.i y)) ∧ 24 = 24 ∧ AV.int IntKind.i64 (Ty.kind t) = AV.int IntKind.i64 (Ty.kind t) ∧ AV.int IntKind.i64 (Ty.n t) = AV.int IntKind.i64 (Ty.n t) ∧
 AV.isl (Ty.nl t) none (0) (encL (Ty.l t)) = AV.isl (Ty.nl t) none (0) (encL (Ty.l t)) ∧ 24 = 24 ∧ 24 = 24 ∧ AV.int IntKind.i64 (Ty.kind t) = AV.int IntKind.i64 (Ty.kind t) ∧ AV.int IntKind.i64 (0) = AV.int IntKind.i64 (0) ∧ AV.isl false (some (0)) (0) (encL (ASt.acc x) ++ [AV.agg [AV.int IntKind.i64 (Ty.kind (withT l (Ty.mk (Ty.kind x_1) (Ty.n x_1) (Ty.nl x_1) l_1))), AV.int IntKind.i64 (Ty.n (withT l (Ty.mk (Ty.kind x_1) (Ty.n x_1) (Ty.nl x_1) l_1))), AV.isl (Ty.nl (withT l (Ty.mk (Ty.kind x_1) (Ty.n x_1) (Ty.nl x_1) l_1))) none 0
 (encL (Ty.l (withT l (Ty.mk (Ty.kind x_1) (Ty.n x_1) (Ty.nl x_1) l_1))))]]) = AV.isl false (some (0)) (0) (encL (ASt.acc y)) ∧ [(0 + List.length (encL (ASt.acc x)) + 1, 3)] = [(List.length (ASt.acc y), 3)] ∧ True) (wayN (ASt.acc x ++ withL bs (List.drop (ASt.i x) (Ty.l t))) = 1 ∧ AV.ptr (0) (0) = AV.ptr (0) (0) ∧ AV.ptr (1) (0) = AV.ptr (1) (0) ∧ AV.ptr (2) (0) = AV.ptr (2) (0) ∧ 24 = 24 ∧ 24 = 24 ∧ 24 = 24 ∧ AV.int IntKind.i64 (Ty.kind t) = AV.int IntKind.i64 (Ty.kind t) ∧ AV.int IntKind.i64 (0) = AV.int IntKind.i64 (0) ∧ AV.isl false (some (0)) (0) (encL (ASt.acc x)) =
 AV.isl false (some (0)) (0) (encL (ASt.acc x ++ withL bs (List.drop (ASt.i x) (Ty.l t)))) ∧ [(List.length (ASt.acc x), 3)] = [(List.length (ASt.acc x ++ withL bs (List.drop (ASt.i x) (Ty.l t))), 3)] ∧ True)) := by kernel_rfl

theorem wi_top (b : Bool) (bs : List (Int × Ty)) (t : Ty) (r : Ty) : (runF (wiH' b bs t) 60 84 [.isl b none 0 (encB bs), encD t] AH.nil (retIs Tryz.prog 5 (encD r))) = ( bothR (decide (Ty.kind t = (6 : Int))) (∃ l, encB bs = encB l ∧ List.length l ≤ 2000 ∧ ∃ l_1, encL (Ty.l (boundT l (Ty.n t))) = encL l_1 ∧ cnt (Ty.mk (Ty.kind (boundT l (Ty.n t))) (Ty.n (boundT l (Ty.n t))) (Ty.nl (boundT l (Ty.n t))) l_1) ≤ 1000 ∧ AV.agg [AV.int IntKind.i64 (Ty.kind (cleanT (Ty.mk (Ty.kind (boundT l (Ty.n t))) (Ty.n (boundT l (Ty.n t))) (Ty.nl (boundT l (Ty.n t))) l_1))),
 AV.int IntKind.i64 (Ty.n (cleanT (Ty.mk (Ty.kind (boundT l (Ty.n t))) (Ty.n (boundT l (Ty.n t))) (Ty.nl (boundT l (Ty.n t))) l_1))), AV.isl (Ty.nl (cleanT (Ty.mk (Ty.kind (boundT l (Ty.n t))) (Ty.n (boundT l (Ty.n t))) (Ty.nl (boundT l (Ty.n t))) l_1))) none (0) (encL (Ty.l (cleanT (Ty.mk (Ty.kind (boundT l (Ty.n t))) (Ty.n (boundT l (Ty.n t))) (Ty.nl (boundT l (Ty.n t))) l_1))))] = AV.agg [AV.int IntKind.i64 (Ty.kind r), AV.int IntKind.i64 (Ty.n r), AV.isl (Ty.nl r) none (0) (encL (Ty.l r))]) (codeIs (loopOf Tryz.prog 84 0) Tryz.prog 84 0 (∃ x,
 (ASt.i x ≤ List.length (Ty.l t) ∧ List.length (ASt.acc x) = ASt.i x ∧ cnt t ≤ 1000 ∧ ph0 (0) (ASt.i x)) ∧ AV.isl b none (0) (encB bs) = AV.isl b none (0) (encB bs) ∧ AV.ptr (0) (0) = AV.ptr (0) (0) ∧ AV.ptr (1) (0) = AV.ptr (1) (0) ∧ AV.ptr (2) (0) = AV.ptr (2) (0) ∧ AV.int IntKind.i64 (0) = AV.int IntKind.i64 (iC (ASt.i x)) ∧ 24 = 24 ∧ AV.int IntKind.i64 (Ty.kind t) = AV.int IntKind.i64 (Ty.kind t) ∧ AV.int IntKind.i64 (Ty.n t) = AV.int IntKind.i64 (Ty.n t) ∧ AV.isl (Ty.nl t) none (0) (encL (Ty.l t)) = AV.isl (Ty.nl t) none (0) (encL (Ty.l t)) ∧ 24 = 24 ∧ 24 = 24 ∧
 AV.int IntKind.i64 (Ty.kind t) = AV.int IntKind.i64 (Ty.kind t) ∧ SubR [AV.int IntKind.i64 (0), AV.isl true none (0) []] [AV.int IntKind.i64 (0), AV.isl true none (0) []] (0 = 0 ∧ (wayN (ASt.acc x ++ withL bs (List.drop (ASt.i x) (Ty.l t))) = 1 → AV.agg [AV.int IntKind.i64 (Ty.kind t), AV.int IntKind.i64 (0), AV.isl false none (0) (encL (ASt.acc x ++ withL bs (List.drop (ASt.i x) (Ty.l t))))] = AV.agg [AV.int IntKind.i64 (Ty.kind r), AV.int IntKind.i64 (Ty.n r), AV.isl (Ty.nl r) none (0) (encL (Ty.l r))]) ∧ (wayN (ASt.acc x ++ withL bs (List.drop (ASt.i x) (Ty.l t))) = 0 →
 AV.agg [AV.int IntKind.i64 (Ty.kind t), AV.int IntKind.i64 (0), AV.isl true none (0) []] = AV.agg [AV.int IntKind.i64 (Ty.kind r), AV.int IntKind.i64 (Ty.n r), AV.isl (Ty.nl r) none (0) (encL (Ty.l r))]))))) := by kernel_rfl

theorem nu_loop0 (t : Ty) (c : Bool) (m : List Int) (meas : ASt (Int × Ty) → Nat) (x : ASt (Int × Ty)) : (runN nuH 60 89 0 (nuSt t c m) meas 0 x) = ( bothR (decide (iC (ASt.i x) < iC (List.length (encI m)))) (0 ≤ iC (ASt.i x) ∧ ∃ x_1, (encI m)[Int.toNat (iC (ASt.i x))]? = some (AV.int IntKind.i64 x_1) ∧ (Nat.le (48) (35184372088832) ∧ Nat.le (1) (1152921504606846976)) ∧ true = true ∧ ((∃ y, (ASt.i y ≤ List.length m ∧ List.length (ASt.acc y) = ASt.i y ∧ List.length m ≤ 2000 ∧ ph0 (1) (ASt.i y)) ∧ meas y < meas x ∧
 ASt.acc y ++ numB (List.drop (ASt.i y) m) (ASt.i y) = ASt.acc x ++ numB (List.drop (ASt.i x) m) (ASt.i x) ∧ AV.isl c none (0) (encI m) = AV.isl c none (0) (encI m) ∧ AV.ptr (0) (0) = AV.ptr (0) (0) ∧ AV.ptr (1) (0) = AV.ptr (1) (0) ∧ AV.isl true none (0) [] = AV.isl true none (0) [] ∧ AV.isl false (some (0)) (0) [AV.agg [AV.int IntKind.i64 x_1, AV.int IntKind.i64 (Ty.kind (varT (iC (ASt.i x)))), AV.int IntKind.i64 (Ty.n (varT (iC (ASt.i x)))), AV.isl (Ty.nl (varT (iC (ASt.i x)))) none (0) []]] = AV.isl false (some (0)) (0) (encB (ASt.acc y)) ∧
 AV.int IntKind.i64 (IntKind.wrap IntKind.i64 (iC (ASt.i x) + (1 : Int))) = AV.int IntKind.i64 (iC (ASt.i y)) ∧ 24 = 24 ∧ AV.int IntKind.i64 (Ty.kind t) = AV.int IntKind.i64 (Ty.kind t) ∧ AV.int IntKind.i64 (Ty.n t) = AV.int IntKind.i64 (Ty.n t) ∧ AV.isl (Ty.nl t) none (0) (encL (Ty.l t)) = AV.isl (Ty.nl t) none (0) (encL (Ty.l t)) ∧ 24 = 24 ∧ [(1, 4)] = [(List.length (ASt.acc y), 4)] ∧ True) ∨ ∃ y, (ASt.i y ≤ List.length m ∧ List.length (ASt.acc y) = ASt.i y ∧ List.length m ≤ 2000 ∧ ph0 (0) (ASt.i y)) ∧ meas y < meas x ∧
 ASt.acc y ++ numB (List.drop (ASt.i y) m) (ASt.i y) = ASt.acc x ++ numB (List.drop (ASt.i x) m) (ASt.i x) ∧ AV.isl c none (0) (encI m) = AV.isl c none (0) (encI m) ∧ AV.ptr (0) (0) = AV.ptr (0) (0) ∧ AV.ptr (1) (0) = AV.ptr (1) (0) ∧ AV.isl true none (0) [] = AV.isl true none (0) [] ∧ (false = true ∧ [AV.agg [AV.int IntKind.i64 x_1, AV.int IntKind.i64 (Ty.kind (varT (iC (ASt.i x)))), AV.int IntKind.i64 (Ty.n (varT (iC (ASt.i x)))), AV.isl (Ty.nl (varT (iC (ASt.i x)))) none (0) []]] = []) ∧
 AV.int IntKind.i64 (IntKind.wrap IntKind.i64 (iC (ASt.i x) + (1 : Int))) = AV.int IntKind.i64 (iC (ASt.i y)) ∧ 24 = 24 ∧ AV.int IntKind.i64 (Ty.kind t) = AV.int IntKind.i64 (Ty.kind t) ∧ AV.int IntKind.i64 (Ty.n t) = AV.int IntKind.i64 (Ty.n t) ∧ AV.isl (Ty.nl t) none (0) (encL (Ty.l t)) = AV.isl (Ty.nl t) none (0) (encL (Ty.l t)) ∧ 24 = 24 ∧ 0 = 0 ∧ True)) (wayN (ASt.acc x ++ numB (List.drop (ASt.i x) m) (ASt.i x)) = 1 ∧ AV.isl c none (0) (encI m) = AV.isl c none (0) (encI m) ∧ AV.ptr (0) (0) = AV.ptr (0) (0) ∧ AV.ptr (1) (0) = AV.ptr (1) (0) ∧
 AV.isl true none (0) [] = AV.isl false (some (0)) (0) (encB (ASt.acc x ++ numB (List.drop (ASt.i x) m) (ASt.i x))) ∧ 24 = 24 ∧ AV.int IntKind.i64 (Ty.kind t) = AV.int IntKind.i64 (Ty.kind t) ∧ AV.int IntKind.i64 (Ty.n t) = AV.int IntKind.i64 (Ty.n t) ∧ AV.isl (Ty.nl t) none (0) (encL (Ty.l t)) = AV.isl (Ty.nl t) none (0) (encL (Ty.l t)) ∧ 24 = 24 ∧ [] = [(List.length (ASt.acc x ++ numB (List.drop (ASt.i x) m) (ASt.i x)), 4)] ∧ True ∨ wayN (ASt.acc x ++ numB (List.drop (ASt.i x) m) (ASt.i x)) = 0 ∧ AV.isl c none (0) (encI m) = AV.isl c none (0) (encI m) ∧ AV.ptr (0) (0) = AV.ptr (0) (0) ∧
 AV.ptr (1) (0) = AV.ptr (1) (0) ∧ AV.isl true none (0) [] = AV.isl true none (0) [] ∧ 24 = 24 ∧ AV.int IntKind.i64 (Ty.kind t) = AV.int IntKind.i64 (Ty.kind t) ∧ AV.int IntKind.i64 (Ty.n t) = AV.int IntKind.i64 (Ty.n t) ∧ AV.isl (Ty.nl t) none (0) (encL (Ty.l t)) = AV.isl (Ty.nl t) none (0) (encL (Ty.l t)) ∧ 24 = 24 ∧ 0 = 0 ∧ True)) := by kernel_rfl

theorem nu_loop1 (t : Ty) (c : Bool) (m : List Int) (meas : ASt (Int × Ty) → Nat) (x : ASt (Int × Ty)) : (runN nuH 60 89 0 (nuSt t c m) meas 1 x) = ( bothR (decide (iC (ASt.i x) < iC (List.length (encI m)))) (0 ≤ iC (ASt.i x) ∧ ∃ x_1, (encI m)[Int.toNat (iC (ASt.i x))]? = some (AV.int IntKind.i64 x_1) ∧ ((List.length (encB (ASt.acc x)) + 1) * 48 ≤ 35184372088832 ∧ List.length (encB (ASt.acc x)) + 1 ≤ 1152921504606846976) ∧ true = true ∧ some (List.length (ASt.acc x), 4) = some (0 + List.length (encB (ASt.acc x)), 4) ∧ List.all (encB (ASt.acc x)) (oneSz (3 + 1)) = true ∧ ∃ y,
 (ASt.i y ≤ List.length m ∧ List.length (ASt.acc y) = ASt.i y ∧ List.length m ≤ 2000 ∧ ph0 (1) (ASt.i y)) ∧ meas y < meas x ∧ ASt.acc y ++ numB (List.drop (ASt.i y) m) (ASt.i y) = ASt.acc x ++ numB (List.drop (ASt.i x) m) (ASt.i x) ∧ AV.isl c none (0) (encI m) = AV.isl c none (0) (encI m) ∧ AV.ptr (0) (0) = AV.ptr (0) (0) ∧ AV.ptr (1) (0) = AV.ptr (1) (0) ∧ AV.isl true none (0) [] = AV.isl true none (0) [] ∧ AV.isl false (some (0)) (0) (encB (ASt.acc x) ++ [AV.agg [AV.int IntKind.i64 x_1, AV.int IntKind.i64 (Ty.kind (varT (iC (ASt.i x)))),
 AV.int IntKind.i64 (Ty.n (varT (iC (ASt.i x)))), AV.isl (Ty.nl (varT (iC (ASt.i x)))) none 0 []]]) = AV.isl false (some (0)) (0) (encB (ASt.acc y)) ∧ AV.int IntKind.i64 (IntKind.wrap IntKind.i64 (iC (ASt.i x) + (1 : Int))) = AV.int IntKind.i64 (iC (ASt.i y)) ∧ 24 = 24 ∧ AV.int IntKind.i64 (Ty.kind t) = AV.int IntKind.i64 (Ty.kind t) ∧ AV.int IntKind.i64 (Ty.n t) = AV.int IntKind.i64 (Ty.n t) ∧ AV.isl (Ty.nl t) none (0) (encL (Ty.l t)) = AV.isl (Ty.nl t) none (0) (encL (Ty.l t)) ∧ 24 = 24 ∧ [(0 + List.length (encB (ASt.acc x)) + 1, 4)] = [(List.length (ASt.acc y), 4)] ∧ True)
 (wayN (ASt.acc x ++ numB (List.drop (ASt.i x) m) (ASt.i x)) = 1 ∧ AV.isl c none (0) (encI m) = AV.isl c none (0) (encI m) ∧ AV.ptr (0) (0) = AV.ptr (0) (0) ∧ AV.ptr (1) (0) = AV.ptr (1) (0) ∧ AV.isl false (some (0)) (0) (encB (ASt.acc x)) = AV.isl false (some (0)) (0) (encB (ASt.acc x ++ numB (List.drop (ASt.i x) m) (ASt.i x))) ∧ 24 = 24 ∧ AV.int IntKind.i64 (Ty.kind t) = AV.int IntKind.i64 (Ty.kind t) ∧ AV.int IntKind.i64 (Ty.n t) = AV.int IntKind.i64 (Ty.n t) ∧ AV.isl (Ty.nl t) none (0) (encL (Ty.l t)) = AV.isl (Ty.nl t) none (0) (encL (Ty.l t)) ∧ 24 = 24 ∧
 [(List.length (ASt.acc x), 4)] = [(List.length (ASt.acc x ++ numB (List.drop (ASt.i x) m) (ASt.i x)), 4)] ∧ True)) := by kernel_rfl

theorem nu_top (t : Ty) (c : Bool) (m : List Int) (b : Bool) (l : List Int) (r : Ty) (c' : Bool) (m' : List Int) : (runF (nuH' t c m) 60 89 [encD t, .isl b none 0 (encI l)] AH.nil (retIs Tryz.prog 5 (.tup [encD r, .isl c' none 0 (encI m')]))) = ( ∃ l_1, encL (Ty.l t) = encL l_1 ∧ ∃ l_2, encI l = encI l_2 ∧ (cnt (Ty.mk (Ty.kind t) (Ty.n t) (Ty.nl t) l_1) ≤ 1000 ∧ List.length l_2 + cnt (Ty.mk (Ty.kind t) (Ty.n t) (Ty.nl t) l_1) ≤ 2000) ∧ codeIs (loopOf Tryz.prog 89 0) Tryz.prog 89 0 (∃ x, (ASt.i x ≤ List.length m ∧ List.length (ASt.acc x) = ASt.i x ∧ List.length m ≤ 2000 ∧ ph0 (0) (ASt.i x)) ∧
 AV.isl (nlF b l_2 (firstT (Ty.mk (Ty.kind t) (Ty.n t) (Ty.nl t) l_1) l_2)) none (0) (encI (firstT (Ty.mk (Ty.kind t) (Ty.n t) (Ty.nl t) l_1) l_2)) = AV.isl c none (0) (encI m) ∧ AV.ptr (0) (0) = AV.ptr (0) (0) ∧ AV.ptr (1) (0) = AV.ptr (1) (0) ∧ AV.isl true none (0) [] = AV.isl true none (0) [] ∧ AV.isl true none (0) [] = AV.isl true none (0) [] ∧ AV.int IntKind.i64 (0) = AV.int IntKind.i64 (iC (ASt.i x)) ∧ 24 = 24 ∧ AV.int IntKind.i64 (Ty.kind t) = AV.int IntKind.i64 (Ty.kind t) ∧ AV.int IntKind.i64 (Ty.n t) = AV.int IntKind.i64 (Ty.n t) ∧
 AV.isl (Ty.nl t) none (0) (encL (Ty.l t)) = AV.isl (Ty.nl t) none (0) (encL (Ty.l t)) ∧ 24 = 24 ∧ 0 = 0 ∧ (wayN (ASt.acc x ++ numB (List.drop (ASt.i x) m) (ASt.i x)) = 1 → ∃ l, encB (ASt.acc x ++ numB (List.drop (ASt.i x) m) (ASt.i x)) = encB l ∧ ∃ l_3, encL (Ty.l t) = encL l_3 ∧ (cnt (Ty.mk (Ty.kind t) (Ty.n t) (Ty.nl t) l_3) ≤ 1000 ∧ List.length l ≤ 2000 ∧ allC l) ∧ AV.tup [AV.agg [AV.int IntKind.i64 (Ty.kind (withT l (Ty.mk (Ty.kind t) (Ty.n t) (Ty.nl t) l_3))), AV.int IntKind.i64 (Ty.n (withT l (Ty.mk (Ty.kind t) (Ty.n t) (Ty.nl t) l_3))),
 AV.isl (Ty.nl (withT l (Ty.mk (Ty.kind t) (Ty.n t) (Ty.nl t) l_3))) none (0) (encL (Ty.l (withT l (Ty.mk (Ty.kind t) (Ty.n t) (Ty.nl t) l_3))))], AV.isl c none (0) (encI m)] = AV.tup [AV.agg [AV.int IntKind.i64 (Ty.kind r), AV.int IntKind.i64 (Ty.n r), AV.isl (Ty.nl r) none (0) (encL (Ty.l r))], AV.isl c' none (0) (encI m')]) ∧ (wayN (ASt.acc x ++ numB (List.drop (ASt.i x) m) (ASt.i x)) = 0 → ∃ l, [] = encB l ∧ ∃ l_3, encL (Ty.l t) = encL l_3 ∧ (cnt (Ty.mk (Ty.kind t) (Ty.n t) (Ty.nl t) l_3) ≤ 1000 ∧ List.length l ≤ 2000 ∧ allC l) ∧ AV.tup [AV.agg
 [AV.int IntKind.i64 (Ty.kind (withT l (Ty.mk (Ty.kind t) (Ty.n t) (Ty.nl t) l_3))), AV.int IntKind.i64 (Ty.n (withT l (Ty.mk (Ty.kind t) (Ty.n t) (Ty.nl t) l_3))), AV.isl (Ty.nl (withT l (Ty.mk (Ty.kind t) (Ty.n t) (Ty.nl t) l_3))) none (0) (encL (Ty.l (withT l (Ty.mk (Ty.kind t) (Ty.n t) (Ty.nl t) l_3))))], AV.isl c none (0) (encI m)] = AV.tup [AV.agg [AV.int IntKind.i64 (Ty.kind r), AV.int IntKind.i64 (Ty.n r), AV.isl (Ty.nl r) none (0) (encL (Ty.l r))], AV.isl c' none (0) (encI m')]))) := by kernel_rfl

theorem rvars_top (t : Ty) (b : Bool) (l : List Int) (e : Int) : (runF rnHk 60 37 [encD t] AH.nil (retIs Tryz.prog 5 (.tup [.isl b none 0 (encI l), .int .i64 e]))) = ( ∃ l_1, encL (Ty.l t) = encL l_1 ∧ cnt (Ty.mk (Ty.kind t) (Ty.n t) (Ty.nl t) l_1) ≤ 1000 ∧ bothR (!validB (Ty.mk (Ty.kind t) (Ty.n t) (Ty.nl t) l_1)) (AV.tup [AV.isl true none (0) [], AV.int IntKind.i64 (1)] = AV.tup [AV.isl b none (0) (encI l), AV.int IntKind.i64 e]) (∃ l_2, encL (Ty.l t) = encL l_2 ∧ ∃ l_3, [] = encI l_3 ∧
 (cnt (Ty.mk (Ty.kind t) (Ty.n t) (Ty.nl t) l_2) ≤ 1000 ∧ List.length l_3 + cnt (Ty.mk (Ty.kind t) (Ty.n t) (Ty.nl t) l_2) ≤ 2000) ∧ AV.tup [AV.isl (nlF true l_3 (firstT (Ty.mk (Ty.kind t) (Ty.n t) (Ty.nl t) l_2) l_3)) none (0) (encI (firstT (Ty.mk (Ty.kind t) (Ty.n t) (Ty.nl t) l_2) l_3)), AV.int IntKind.i64 (0)] = AV.tup [AV.isl b none (0) (encI l), AV.int IntKind.i64 e])) := by kernel_rfl

theorem rnumber_top (t : Ty) (r : Ty) (e : Int) : (runF rnHk 60 39 [encD t] AH.nil (retIs Tryz.prog 5 (.tup [encD r, .int .i64 e]))) = ( ∃ l, encL (Ty.l t) = encL l ∧ cnt (Ty.mk (Ty.kind t) (Ty.n t) (Ty.nl t) l) ≤ 1000 ∧ bothR (!validB (Ty.mk (Ty.kind t) (Ty.n t) (Ty.nl t) l)) (AV.tup [AV.agg [AV.int IntKind.i64 (0), AV.int IntKind.i64 (0), AV.isl true none (0) []], AV.int IntKind.i64 (1)] = AV.tup [AV.agg [AV.int IntKind.i64 (Ty.kind r), AV.int IntKind.i64 (Ty.n r), AV.isl (Ty.nl r) none (0) (encL (Ty.l r))], AV.int IntKind.i64 e]) (∃ l, encL (Ty.l t) = encL l ∧ ∃ l_1, [] = encI l_1 ∧
 (cnt (Ty.mk (Ty.kind t) (Ty.n t) (Ty.nl t) l) ≤ 1000 ∧ List.length l_1 + cnt (Ty.mk (Ty.kind t) (Ty.n t) (Ty.nl t) l) ≤ 2000) ∧ AV.tup [AV.agg [AV.int IntKind.i64 (Ty.kind (withT (numB (firstT (Ty.mk (Ty.kind t) (Ty.n t) (Ty.nl t) l) l_1) 0) (Ty.mk (Ty.kind t) (Ty.n t) (Ty.nl t) l))), AV.int IntKind.i64 (Ty.n (withT (numB (firstT (Ty.mk (Ty.kind t) (Ty.n t) (Ty.nl t) l) l_1) 0) (Ty.mk (Ty.kind t) (Ty.n t) (Ty.nl t) l))), AV.isl (Ty.nl (withT (numB (firstT (Ty.mk (Ty.kind t) (Ty.n t) (Ty.nl t) l) l_1) 0) (Ty.mk (Ty.kind t) (Ty.n t) (Ty.nl t) l))) none (0)
 (encL (Ty.l (withT (numB (firstT (Ty.mk (Ty.kind t) (Ty.n t) (Ty.nl t) l) l_1) 0) (Ty.mk (Ty.kind t) (Ty.n t) (Ty.nl t) l))))], AV.int IntKind.i64 (0)] = AV.tup [AV.agg [AV.int IntKind.i64 (Ty.kind r), AV.int IntKind.i64 (Ty.n r), AV.isl (Ty.nl r) none (0) (encL (Ty.l r))], AV.int IntKind.i64 e])) := by kernel_rfl

end Go.Proofs.YtnmolpkkemljoaaGreatDoor
end
end

section
set_option maxRecDepth 100000
set_option linter.unusedSimpArgs false
set_option linter.unusedVariables false
noncomputable section
namespace Go.Proofs.YtnmolpkkemljoaaGreatDoor
open Go Go.Am Kd

theorem encB_length (l : List (Int × Ty)) : (encB l).length = l.length := by simp [encB]
theorem encB_get (l : List (Int × Ty)) (i : Nat) (h : i < l.length) : (encB l)[i]? = some (bindD l[i]) := by simp [encB, h]
theorem encB_still (l : List (Int × Ty)) : AV.stillL (encB l) = true := by
  induction l with
  | nil => rfl
  | cons x l ih => simp only [encB, List.map_cons, AV.stillL, bindD, AV.still, encL_still, Bool.true_and, Bool.and_true]; exact ih
theorem bindD_inj {x y : Int × Ty} (h : bindD x = bindD y) : x = y := by
  obtain ⟨a, t⟩ := x
  obtain ⟨b, u⟩ := y
  simp only [bindD, AV.agg.injEq, List.cons.injEq, AV.int.injEq, true_and, AV.isl.injEq, and_true] at h
  obtain ⟨h1, h2, h3, h4, h5⟩ := h
  have : enc t = enc u := by rw [enc_D, enc_D]; simp only [encD, h2, h3, h4, h5]
  rw [h1, enc_inj this]
theorem encB_inj {l m : List (Int × Ty)} (h : encB l = encB m) : l = m := by
  induction l generalizing m with
  | nil => cases m <;> simp_all [encB]
  | cons x l ih =>
    cases m with
    | nil => simp [encB] at h
    | cons y m =>
      simp only [encB, List.map_cons, List.cons.injEq] at h
      rw [bindD_inj h.1, ih h.2]
theorem encB_one (l : List (Int × Ty)) : (encB l).all (oneSz 4) = true := by
  simp [encB, oneSz, AV.cells, AV.one, bindD]
theorem encL_one (l : List Ty) : (encL l).all (oneSz 3) = true := by
  rw [encL_map]
  simp [oneSz, AV.cells, AV.one, enc_D, encD]
theorem encL_snoc (l : List Ty) (u : Ty) : encL l ++ [AV.agg [.int .i64 u.kind, .int .i64 u.n, .isl u.nl none 0 (encL u.l)]] = encL (l ++ [u]) := by
  have e : encL [u] = [AV.agg [.int .i64 u.kind, .int .i64 u.n, .isl u.nl none 0 (encL u.l)]] := by simp only [encL, enc_D]; rfl
  rw [← e, encL_map l, encL_map [u], encL_map (l ++ [u]), List.map_append]
theorem encL_sing (u : Ty) : [AV.agg [.int .i64 u.kind, .int .i64 u.n, .isl u.nl none 0 (encL u.l)]] = encL [u] := encL_snoc [] u
theorem encB_snoc (l : List (Int × Ty)) (n : Int) (u : Ty) : encB l ++ [AV.agg [.int .i64 n, .int .i64 u.kind, .int .i64 u.n, .isl u.nl none 0 (encL u.l)]] = encB (l ++ [(n, u)]) := by
  simp [encB, bindD]
theorem encB_sing (n : Int) (u : Ty) : [AV.agg [.int .i64 n, .int .i64 u.kind, .int .i64 u.n, .isl u.nl none 0 (encL u.l)]] = encB [(n, u)] := encB_snoc [] n u
theorem encD_is (u : Ty) : AV.agg [.int .i64 u.kind, .int .i64 u.n, .isl u.nl none 0 (encL u.l)] = encD u := rfl
theorem ex_bind {l : List (Int × Ty)} {i : Nat} (h : i < l.length) {P : Int × Ty → Prop} : (∃ x, (encB l)[i]? = some (AV.agg [.int .i64 (Prod.fst x), .int .i64 (Ty.kind (Prod.snd x)), .int .i64 (Ty.n (Prod.snd x)), .isl (Ty.nl (Prod.snd x)) none 0 (encL (Ty.l (Prod.snd x)))]) ∧ P x) = P l[i] := by
  have e := encB_get l i h
  refine propext ⟨fun ⟨x, h1, h2⟩ => ?_, fun hp => ⟨l[i], e, hp⟩⟩
  rw [e] at h1
  rw [bindD_inj (Option.some.inj h1)]; exact h2
theorem ex_encB {l : List (Int × Ty)} {P : List (Int × Ty) → Prop} : (∃ l', encB l = encB l' ∧ P l') = P l :=
  propext ⟨fun ⟨l', h, hp⟩ => by rw [encB_inj h]; exact hp, fun h => ⟨l, rfl, h⟩⟩
theorem encD_still (u : Ty) : (encD u).still = true := by rw [← enc_D]; exact enc_still u

theorem var_ok (n : Int) : QJ 106 [.int .i64 n] (encD (varT n)) := by
  refine QJ.by rfl rfl hk0_ok ?_
  rw [var_top]; rfl
theorem var_hook : QSpec.Ok Tryz.prog g0 106 varQ := by
  intro args K h'
  unfold varQ at h'
  split at h'
  · obtain ⟨n, rfl, h1⟩ := argInt_elim h'
    exact ⟨_, var_ok n, h1⟩
  · exact h'.elim

theorem bound_ok (b : Bool) (l : List (Int × Ty)) (n : Int) (hl : l.length ≤ 2000) : QJ 120 [.isl b none 0 (encB l), .int .i64 n] (encD (boundT l n)) := by
  have hlp : LHook.Ok Tryz.prog g0 ⟨120, 0, (boSt b l n).spec⟩ := by
    refine LSt.by (hk := hk0) (boSt b l n) (fun x => l.length - x) hk0_ok rfl ?_ ?_ ?_
    · intro x _
      exact Whole.frm rfl rfl (by simp [boSt, AV.bnd, AV.still_bndL, encB_still]) rfl
    · intro x b' _
      cases b' <;> exact Whole.frm rfl rfl rfl (by simp [boSt, top3, tyC, ABlk.bnd, AV.bndL, AV.bnd, encL_bnd])
    · rintro i ⟨hi, hb⟩
      rw [bo_loop]
      simp only [iC, encB_length, eq_self, true_and, and_true, Int.toNat_natCast, AV.int.injEq]
      refine bothR_dec (fun hlt => ?_) fun hge => ?_
      · have hi' : i < l.length := by omega
        have hd : l.drop i = l[i] :: l.drop (i + 1) := List.drop_eq_getElem_cons hi'
        rw [ex_bind hi', hd]
        refine ⟨by omega, bothR_dec (fun h => ?_) fun h => ?_⟩
        · rw [ex_bind hi']
          simp only [boundO, h, if_true, Option.isSome_some, Option.getD_some]
          exact ⟨by omega, trivial, trivial, trivial, trivial⟩
        · refine ⟨i + 1, ⟨by omega, hb⟩, by omega, ?_, ?_⟩
          · simp only [boundO, h, if_false]
          · rw [wrap_id (by omega) (by omega)]; rfl
      · rw [List.drop_of_length_le (by omega)]; rfl
  refine QJ.by (hk := boH' b l n) (by simp [AV.stillL, AV.still, encB_still]) (encD_still _) (mkHooks_ok (all_cons var_hook all_nil) all_nil (all_cons hlp all_nil)) ?_
  rw [bo_top]
  simp only [iC, eq_self, true_and, codeIs_self, AV.int.injEq]
  refine ⟨0, ⟨by omega, hl⟩, rfl, ?_⟩
  rw [List.drop_zero]
  refine bothR_bool (fun h => ?_) fun h => ?_
  · rfl
  · have : boundO l n = none := by cases e : boundO l n <;> simp_all
    simp only [boundT, this, Option.getD_none]; rfl
theorem bo_hook : QSpec.Ok Tryz.prog g0 120 boQ := by
  intro args K h'
  unfold boQ at h'
  split at h'
  · obtain ⟨b, l, rfl, h1⟩ := argBinds_elim h'
    obtain ⟨n, rfl, h2, h3⟩ := argInt_elim h1
    exact ⟨_, bound_ok b l n h2, h3⟩
  · exact h'.elim

theorem cl_hook {N : Nat} (ih : ∀ t, SizeOf.sizeOf t < N → cnt t ≤ 1000 → QJ 104 [enc t] (encD (cleanT t))) : QSpec.Ok Tryz.prog g0 104 (clQ N) := by
  intro args K h'
  unfold clQ at h'
  split at h'
  · obtain ⟨t, rfl, h1, h2⟩ := argTy_elim h'
    exact ⟨_, ih t h1.1 h1.2, h2⟩
  · exact h'.elim
theorem cleanL_len : ∀ l, (cleanL l).length = l.length
  | [] => rfl
  | x :: xs => by simp [cleanL, cleanL_len xs]
theorem withL_len (bs : List (Int × Ty)) : ∀ l, (withL bs l).length = l.length
  | [] => rfl
  | x :: xs => by simp [withL, withL_len bs xs]
theorem numB_len : ∀ (m : List Int) (i : Nat), (numB m i).length = m.length
  | [], _ => rfl
  | x :: xs, i => by simp [numB, numB_len xs]
theorem wayN_0 {α : Type} {l : List α} (h : l.length = 0) : wayN l = 0 := by simp [wayN, h]
theorem wayN_1 {α : Type} {l : List α} (h : l.length ≠ 0) : wayN l = 1 := by simp [wayN, h]
theorem nil_of_0 {α : Type} {l : List α} (h : wayN l = 0) : l = [] := by
  unfold wayN at h
  split at h
  · exact List.eq_nil_of_length_eq_zero ‹_›
  · cases h
theorem ne_of_1 {α : Type} {l : List α} (h : wayN l = 1) : l.length ≠ 0 := by
  unfold wayN at h
  split at h
  · cases h
  · assumption

theorem ph0_1 (i : Nat) : ph0 1 (i + 1) := ⟨(fun h => by cases h), fun h => by omega⟩
theorem ph0_0 : ph0 0 0 := ⟨fun _ => rfl, fun _ => rfl⟩

theorem clean_ok (t : Ty) (hc : cnt t ≤ 1000) : QJ 104 [enc t] (encD (cleanT t)) := by
  have key : ∀ (N : Nat) (t : Ty), SizeOf.sizeOf t < N → cnt t ≤ 1000 → QJ 104 [enc t] (encD (cleanT t)) := by
    intro N
    induction N with
    | zero => intro t h; omega
    | succ N ih =>
      intro t ht hc
      obtain ⟨k, n, nl, ts⟩ := t
      have hc0 := hc
      simp only [cnt] at hc
      simp only [Ty.mk.sizeOf_spec] at ht
      have hlc := len_cnt ts
      have hl : LHook.Ok Tryz.prog g0 ⟨104, 0, (clSt (.mk k n nl ts)).spec⟩ := by
        have hh : Hooks.Ok Tryz.prog g0 (clH N) := mkHooks_ok (all_cons (cl_hook ih) all_nil) all_nil all_nil
        refine LSN.ok (clSt (.mk k n nl ts)) (fun x => ts.length - x.i) (fun p l h => by cases h) ?_ ?_ ?_
        · intro p x hp _
          match p, hp with
          | 0, _ => exact Whole.frm rfl rfl rfl (by simp [clSt, top3, tyC, accV, ABlk.bnd, AV.bndL, AV.bnd, encL_bnd])
          | 1, _ => exact Whole.frm rfl rfl rfl (by simp [clSt, top3, tyC, accV, ABlk.bnd, AV.bndL, AV.bnd, encL_bnd])
        · intro p x w hp hw _ _
          match w, hw with
          | 0, _ => exact Whole.frm rfl rfl rfl (by simp [clSt, top3, tyC, accV, ABlk.bnd, AV.bndL, AV.bnd, encL_bnd])
          | 1, _ => exact Whole.frm rfl rfl rfl (by simp [clSt, top3, tyC, accV, ABlk.bnd, AV.bndL, AV.bnd, encL_bnd])
        · intro p x hp ⟨hi, ha, _, hph⟩
          simp only [tl_mk] at hi
          refine CodeJ.run (el := els) (mu := mu0) hmix hh (n := 60) ?_
          have step : ∀ (hi' : x.i < ts.length), (x.acc ++ [cleanT ts[x.i]]) ++ cleanL (ts.drop (x.i + 1)) = x.acc ++ cleanL (ts.drop x.i) := by
            intro hi'
            rw [List.drop_eq_getElem_cons hi']
            simp [cleanL]
          match p, hp with
          | 0, _ =>
            have h0 : x.i = 0 := hph.1 rfl
            have ha0 : x.acc = [] := List.eq_nil_of_length_eq_zero (by omega)
            show runN (clH N) 60 104 0 (clSt (.mk k n nl ts)) (fun x => ts.length - x.i) 0 x
            rw [cl_loop0]
            simp only [iC, encL_length, eq_self, true_and, and_true, Int.toNat_natCast, AV.int.injEq, tl_mk, SubR_id]
            refine bothR_dec (fun hlt => ?_) fun hge => ?_
            · have hi' : x.i < ts.length := by omega
              have hs := List.sizeOf_lt_of_mem (List.getElem_mem hi')
              have hg := cnt_get hi'
              rw [ex_get hi']
              simp only [ex_enc, Ty.eta]
              have st := step hi'
              rw [ha0] at st ⊢
              refine ⟨by omega, ⟨by omega, by omega⟩, ⟨(by decide : 40 ≤ 35184372088832), (by decide : 1 ≤ 1152921504606846976)⟩, .inl ⟨⟨x.i + 1, [] ++ [cleanT ts[x.i]]⟩, ⟨by simp only; omega, by simp [h0], hc0, ph0_1 _⟩, by simp only; omega, st, ?_, ?_⟩⟩
              · simp only; rw [wrap_id (by omega) (by omega)]; rfl
              · simp only [List.nil_append, List.length_singleton, encL_sing]; exact ⟨trivial, trivial⟩
            · have : x.acc ++ cleanL (ts.drop x.i) = [] := by rw [ha0, List.drop_of_length_le (by omega)]; rfl
              rw [this]
              exact .inr rfl
          | 1, _ =>
            have h0 : x.i ≠ 0 := fun h => by have := hph.2 h; cases this
            show runN (clH N) 60 104 0 (clSt (.mk k n nl ts)) (fun x => ts.length - x.i) 1 x
            rw [cl_loop1]
            simp only [iC, encL_length, eq_self, true_and, and_true, Int.toNat_natCast, AV.int.injEq, tl_mk, SubR_id, Nat.zero_add]
            refine bothR_dec (fun hlt => ?_) fun hge => ?_
            · have hi' : x.i < ts.length := by omega
              have hs := List.sizeOf_lt_of_mem (List.getElem_mem hi')
              have hg := cnt_get hi'
              rw [ex_get hi']
              simp only [ex_enc, Ty.eta]
              have st := step hi'
              refine ⟨by omega, ⟨by omega, by omega⟩, ⟨by omega, by omega⟩, encL_one _, ⟨⟨x.i + 1, x.acc ++ [cleanT ts[x.i]]⟩, ⟨by simp only; omega, by simp [ha], hc0, ph0_1 _⟩, by simp only; omega, st, ?_, ?_⟩⟩
              · simp only; rw [wrap_id (by omega) (by omega)]; rfl
              · simp only [List.length_append, List.length_singleton, encL_snoc]; exact ⟨trivial, trivial⟩
            · have : x.acc ++ cleanL (ts.drop x.i) = x.acc := by rw [List.drop_of_length_le (by omega)]; simp [cleanL]
              rw [this]
              exact ⟨wayN_1 (by omega), by simp⟩
      rw [enc_D]
      refine QJ.by (hk := clH' (.mk k n nl ts)) (by simp [AV.stillL, encD_still]) (encD_still _) (mkHooks_ok all_nil all_nil (all_cons hl all_nil)) ?_
      rw [cl_top]
      simp only [iC, eq_self, true_and, codeIs_self, AV.int.injEq, SubR_id, tk_mk, tn_mk, tl_mk]
      have fin : ∀ (hcl : clN (.mk k n nl ts) = (if k = 6 then n else 0)), (wayN ([] ++ cleanL (ts.drop 0)) = 1 → AV.agg [.int .i64 k, .int .i64 (clN (.mk k n nl ts)), .isl false none 0 (encL ([] ++ cleanL (ts.drop 0)))] = encD (cleanT (.mk k n nl ts))) ∧
          (wayN ([] ++ cleanL (ts.drop 0)) = 0 → AV.agg [.int .i64 k, .int .i64 (clN (.mk k n nl ts)), .isl true none 0 []] = encD (cleanT (.mk k n nl ts))) := by
        intro hcl
        rw [hcl, List.nil_append, List.drop_zero]
        have hln := cleanL_len ts
        constructor
        · intro h
          have := ne_of_1 h
          simp only [encD, cleanT, tk_mk, tn_mk, tl_mk, tb_mk, nilB]
          rw [decide_eq_false (by omega)]
        · intro h
          have h1 := nil_of_0 h
          have : ts.length = 0 := by rw [h1] at hln; simpa using hln.symm
          simp only [encD, cleanT, tk_mk, tn_mk, tl_mk, tb_mk, nilB]
          rw [decide_eq_true this, h1]
          rfl
      have hcl : clN (.mk k n nl ts) = (if k = 6 then n else 0) := rfl
      refine bothR_dec (fun h6 => ?_) fun h6 => ?_
      · exact ⟨⟨0, []⟩, ⟨by simp, rfl, hc0, ph0_0⟩, rfl, by rw [hcl, if_pos h6], fin hcl⟩
      · exact ⟨⟨0, []⟩, ⟨by simp, rfl, hc0, ph0_0⟩, rfl, by rw [hcl, if_neg h6], fin hcl⟩
  exact key (SizeOf.sizeOf t + 1) t (by omega) hc
theorem cl_hook0 : QSpec.Ok Tryz.prog g0 104 clQ0 := by
  intro args K h'
  unfold clQ0 at h'
  split at h'
  · obtain ⟨t, rfl, h1, h2⟩ := argTy_elim h'
    exact ⟨_, clean_ok t h1, h2⟩
  · exact h'.elim

theorem wi_hook {N : Nat} (ih : ∀ b bs t, SizeOf.sizeOf t < N → cnt t ≤ 1000 → bs.length ≤ 2000 → allC bs → QJ 84 [.isl b none 0 (encB bs), enc t] (encD (withT bs t))) : QSpec.Ok Tryz.prog g0 84 (wiQ N) := by
  intro args K h'
  unfold wiQ at h'
  split at h'
  · obtain ⟨b, bs, rfl, h1⟩ := argBinds_elim h'
    obtain ⟨t, rfl, h2, h3⟩ := argTy_elim h1
    exact ⟨_, ih b bs t h2.1 h2.2.1 h2.2.2.1 h2.2.2.2, h3⟩
  · exact h'.elim
theorem bound_cnt {bs : List (Int × Ty)} (h : allC bs) (n : Int) : cnt (boundT bs n) ≤ 1000 := by
  have key : ∀ (bs : List (Int × Ty)), allC bs → ∀ u, boundO bs n = some u → cnt u ≤ 1000 := by
    intro bs
    induction bs with
    | nil => intro _ u h; cases h
    | cons x l ih =>
      intro h u hu
      simp only [boundO] at hu
      split at hu
      · cases hu; exact h x (by simp)
      · exact ih (fun y hy => h y (by simp [hy])) u hu
  unfold boundT
  cases e : boundO bs n with
  | none => simp [varT, cnt, cntL]
  | some u => exact key bs h u e

theorem with_ok (b : Bool) (bs : List (Int × Ty)) (t : Ty) (hc : cnt t ≤ 1000) (hb : bs.length ≤ 2000) (hbs : allC bs) : QJ 84 [.isl b none 0 (encB bs), enc t] (encD (withT bs t)) := by
  have key : ∀ (N : Nat) (b : Bool) (bs : List (Int × Ty)) (t : Ty), SizeOf.sizeOf t < N → cnt t ≤ 1000 → bs.length ≤ 2000 → allC bs → QJ 84 [.isl b none 0 (encB bs), enc t] (encD (withT bs t)) := by
    intro N
    induction N with
    | zero => intro b bs t h; omega
    | succ N ih =>
      intro b bs t ht hc hb hbs
      obtain ⟨k, n, nl, ts⟩ := t
      have hc0 := hc
      simp only [cnt] at hc
      simp only [Ty.mk.sizeOf_spec] at ht
      have hlc := len_cnt ts
      have hl : LHook.Ok Tryz.prog g0 ⟨84, 0, (wiSt b bs (.mk k n nl ts)).spec⟩ := by
        have hh : Hooks.Ok Tryz.prog g0 (wiH N) := mkHooks_ok (all_cons (wi_hook ih) all_nil) all_nil all_nil
        refine LSN.ok (wiSt b bs (.mk k n nl ts)) (fun x => ts.length - x.i) (fun p l h => by cases h) ?_ ?_ ?_
        · intro p x hp _
          match p, hp with
          | 0, _ => exact Whole.frm rfl rfl (by simp [wiSt, AV.bnd, AV.still_bndL, encB_still]) (by simp [wiSt, top3, tyC, accV, ABlk.bnd, AV.bndL, AV.bnd, encL_bnd])
          | 1, _ => exact Whole.frm rfl rfl (by simp [wiSt, AV.bnd, AV.still_bndL, encB_still]) (by simp [wiSt, top3, tyC, accV, ABlk.bnd, AV.bndL, AV.bnd, encL_bnd])
        · intro p x w hp hw _ _
          match w, hw with
          | 0, _ => exact Whole.frm rfl rfl rfl (by simp [wiSt, top3, tyC, accV, ABlk.bnd, AV.bndL, AV.bnd, encL_bnd])
          | 1, _ => exact Whole.frm rfl rfl rfl (by simp [wiSt, top3, tyC, accV, ABlk.bnd, AV.bndL, AV.bnd, encL_bnd])
        · intro p x hp ⟨hi, ha, _, hph⟩
          simp only [tl_mk] at hi
          refine CodeJ.run (el := els) (mu := mu0) hmix hh (n := 60) ?_
          have step : ∀ (hi' : x.i < ts.length), (x.acc ++ [withT bs ts[x.i]]) ++ withL bs (ts.drop (x.i + 1)) = x.acc ++ withL bs (ts.drop x.i) := by
            intro hi'
            rw [List.drop_eq_getElem_cons hi']
            simp [withL]
          match p, hp with
          | 0, _ =>
            have h0 : x.i = 0 := hph.1 rfl
            have ha0 : x.acc = [] := List.eq_nil_of_length_eq_zero (by omega)
            show runN (wiH N) 60 84 0 (wiSt b bs (.mk k n nl ts)) (fun x => ts.length - x.i) 0 x
            rw [wi_loop0]
            simp only [iC, encL_length, eq_self, true_and, and_true, Int.toNat_natCast, AV.int.injEq, tl_mk, SubR_id, ex_encB]
            refine bothR_dec (fun hlt => ?_) fun hge => ?_
            · have hi' : x.i < ts.length := by omega
              have hs := List.sizeOf_lt_of_mem (List.getElem_mem hi')
              have hg := cnt_get hi'
              rw [ex_get hi']
              simp only [ex_enc, Ty.eta]
              have st := step hi'
              rw [ha0] at st ⊢
              refine ⟨by omega, ⟨by omega, by omega, hb, hbs⟩, ⟨(by decide : 40 ≤ 35184372088832), (by decide : 1 ≤ 1152921504606846976)⟩, .inl ⟨⟨x.i + 1, [] ++ [withT bs ts[x.i]]⟩, ⟨by simp only; omega, by simp [h0], hc0, ph0_1 _⟩, by simp only; omega, st, ?_, ?_⟩⟩
              · simp only; rw [wrap_id (by omega) (by omega)]; rfl
              · simp only [List.nil_append, List.length_singleton, encL_sing]; exact ⟨trivial, trivial⟩
            · have : x.acc ++ withL bs (ts.drop x.i) = [] := by rw [ha0, List.drop_of_length_le (by omega)]; rfl
              rw [this]
              exact .inr rfl
          | 1, _ =>
            have h0 : x.i ≠ 0 := fun h => by have := hph.2 h; cases this
            show runN (wiH N) 60 84 0 (wiSt b bs (.mk k n nl ts)) (fun x => ts.length - x.i) 1 x
            rw [wi_loop1]
            simp only [iC, encL_length, eq_self, true_and, and_true, Int.toNat_natCast, AV.int.injEq, tl_mk, SubR_id, Nat.zero_add, ex_encB]
            refine bothR_dec (fun hlt => ?_) fun hge => ?_
            · have hi' : x.i < ts.length := by omega
              have hs := List.sizeOf_lt_of_mem (List.getElem_mem hi')
              have hg := cnt_get hi'
              rw [ex_get hi']
              simp only [ex_enc, Ty.eta]
              have st := step hi'
              refine ⟨by omega, ⟨by omega, by omega, hb, hbs⟩, ⟨by omega, by omega⟩, encL_one _, ⟨⟨x.i + 1, x.acc ++ [withT bs ts[x.i]]⟩, ⟨by simp only; omega, by simp [ha], hc0, ph0_1 _⟩, by simp only; omega, st, ?_, ?_⟩⟩
              · simp only; rw [wrap_id (by omega) (by omega)]; rfl
              · simp only [List.length_append, List.length_singleton, encL_snoc]; exact ⟨trivial, trivial⟩
            · have : x.acc ++ withL bs (ts.drop x.i) = x.acc := by rw [List.drop_of_length_le (by omega)]; simp [withL]
              rw [this]
              exact ⟨wayN_1 (by omega), by simp⟩
      rw [enc_D]
      refine QJ.by (hk := wiH' b bs (.mk k n nl ts)) (by simp [AV.stillL, AV.still, encB_still, encD_still]) (encD_still _) (mkHooks_ok (all_cons bo_hook (all_cons cl_hook0 all_nil)) all_nil (all_cons hl all_nil)) ?_
      rw [wi_top]
      simp only [iC, eq_self, true_and, codeIs_self, AV.int.injEq, SubR_id, tk_mk, tn_mk, tl_mk, ex_encB, ex_enc, Ty.eta]
      refine bothR_dec (fun h6 => ?_) fun h6 => ?_
      · refine ⟨hb, bound_cnt hbs n, ?_⟩
        have : withT bs (.mk k n nl ts) = cleanT (boundT bs n) := by simp only [withT, h6, if_true]
        rw [this]
      · have hw : withT bs (.mk k n nl ts) = .mk k 0 (nilB ts) (withL bs ts) := by simp only [withT, h6, if_false]
        have hln := withL_len bs ts
        refine ⟨⟨0, []⟩, ⟨by simp, rfl, hc0, ph0_0⟩, rfl, fun h => ?_, fun h => ?_⟩
        · simp only [List.nil_append, List.drop_zero] at h ⊢
          have := ne_of_1 h
          simp only [hw, tk_mk, tn_mk, tl_mk, tb_mk, nilB]
          rw [decide_eq_false (by omega)]
        · simp only [List.nil_append, List.drop_zero] at h ⊢
          have h1 := nil_of_0 h
          have : ts.length = 0 := by rw [h1] at hln; simpa using hln.symm
          simp only [hw, tk_mk, tn_mk, tl_mk, tb_mk, nilB]
          rw [decide_eq_true this, h1]
          rfl
  exact key (SizeOf.sizeOf t + 1) b bs t (by omega) hc hb hbs
theorem wi_hook0 : QSpec.Ok Tryz.prog g0 84 wiQ0 := by
  intro args K h'
  unfold wiQ0 at h'
  split at h'
  · obtain ⟨b, bs, rfl, h1⟩ := argBinds_elim h'
    obtain ⟨t, rfl, h2, h3⟩ := argTy_elim h1
    exact ⟨_, with_ok b bs t h2.1 h2.2.1 h2.2.2, h3⟩
  · exact h'.elim
theorem fi_hook0 : QSpec.Ok Tryz.prog g0 87 fiQ0 := by
  intro args K h'
  unfold fiQ0 at h'
  split at h'
  · obtain ⟨t, rfl, h1⟩ := argTy_elim h'
    obtain ⟨b, l, rfl, h2, h3⟩ := argInts_elim h1
    exact ⟨_, first_ok t b l h2.1 h2.2, h3⟩
  · exact h'.elim

theorem numB_allC : ∀ (m : List Int) (i : Nat), allC (numB m i)
  | [], _ => fun x h => by cases h
  | n :: m, i => fun x h => by
    simp only [numB, List.mem_cons] at h
    rcases h with rfl | h
    · simp [varT, cnt, cntL]
    · exact numB_allC m (i + 1) x h

theorem numbered_ok (t : Ty) (b : Bool) (l : List Int) (hc : cnt t ≤ 1000) (hb : l.length + cnt t ≤ 2000) : QJ 89 [enc t, .isl b none 0 (encI l)] (.tup [encD (withT (numB (firstT t l) 0) t), .isl (nlF b l (firstT t l)) none 0 (encI (firstT t l))]) := by
  have hf := first_len t l
  generalize hm : firstT t l = m at hf
  generalize hcc : nlF b l m = c
  have hml : m.length ≤ 2000 := by omega
  have hl : LHook.Ok Tryz.prog g0 ⟨89, 0, (nuSt t c m).spec⟩ := by
    have hh : Hooks.Ok Tryz.prog g0 nuH := mkHooks_ok (all_cons var_hook all_nil) all_nil all_nil
    refine LSN.ok (nuSt t c m) (fun x => m.length - x.i) (fun p l h => by cases h) ?_ ?_ ?_
    · intro p x hp _
      match p, hp with
      | 0, _ => exact Whole.frm rfl rfl (by simp [nuSt, accV, AV.bnd, AV.bndL, AV.still_bndL, encB_still, encI_still]) (by simp [nuSt, top3, tyC, accV, ABlk.bnd, AV.bndL, AV.bnd, encL_bnd])
      | 1, _ => exact Whole.frm rfl rfl (by simp [nuSt, accV, AV.bnd, AV.bndL, AV.still_bndL, encB_still, encI_still]) (by simp [nuSt, top3, tyC, accV, ABlk.bnd, AV.bndL, AV.bnd, encL_bnd])
    · intro p x w hp hw _ _
      match w, hw with
      | 0, _ => exact Whole.frm rfl rfl (by simp [nuSt, accV, AV.bnd, AV.bndL, AV.still_bndL, encB_still, encI_still]) (by simp [nuSt, top3, tyC, accV, ABlk.bnd, AV.bndL, AV.bnd, encL_bnd])
      | 1, _ => exact Whole.frm rfl rfl (by simp [nuSt, accV, AV.bnd, AV.bndL, AV.still_bndL, encB_still, encI_still]) (by simp [nuSt, top3, tyC, accV, ABlk.bnd, AV.bndL, AV.bnd, encL_bnd])
    · intro p x hp ⟨hi, ha, _, hph⟩
      refine CodeJ.run (el := els) (mu := mu0) hmix hh (n := 60) ?_
      have step : ∀ (hi' : x.i < m.length), (x.acc ++ [(m[x.i], varT (x.i : Int))]) ++ numB (m.drop (x.i + 1)) (x.i + 1) = x.acc ++ numB (m.drop x.i) x.i := by
        intro hi'
        rw [List.drop_eq_getElem_cons hi']
        simp [numB]
      match p, hp with
      | 0, _ =>
        have h0 : x.i = 0 := hph.1 rfl
        have ha0 : x.acc = [] := List.eq_nil_of_length_eq_zero (by omega)
        show runN nuH 60 89 0 (nuSt t c m) (fun x => m.length - x.i) 0 x
        rw [nu_loop0]
        simp only [iC, encI_length, eq_self, true_and, and_true, Int.toNat_natCast, AV.int.injEq, SubR_id]
        refine bothR_dec (fun hlt => ?_) fun hge => ?_
        · have hi' : x.i < m.length := by omega
          rw [ex_int hi']
          have st := step hi'
          rw [ha0] at st ⊢
          refine ⟨by omega, ⟨(by decide : 48 ≤ 35184372088832), (by decide : 1 ≤ 1152921504606846976)⟩, .inl ⟨⟨x.i + 1, [] ++ [(m[x.i], varT (x.i : Int))]⟩, ⟨by simp only; omega, by simp [h0], hml, ph0_1 _⟩, by simp only; omega, st, ?_⟩⟩
          simp only [List.nil_append, List.length_singleton, encB_sing]
          rw [wrap_id (by omega) (by omega)]
          exact ⟨rfl, rfl, trivial⟩
        · have : x.acc ++ numB (m.drop x.i) x.i = [] := by rw [ha0, List.drop_of_length_le (by omega)]; rfl
          rw [this]
          exact .inr rfl
      | 1, _ =>
        have h0 : x.i ≠ 0 := fun h => by have := hph.2 h; cases this
        show runN nuH 60 89 0 (nuSt t c m) (fun x => m.length - x.i) 1 x
        rw [nu_loop1]
        simp only [iC, encI_length, encB_length, eq_self, true_and, and_true, Int.toNat_natCast, AV.int.injEq, SubR_id, Nat.zero_add]
        refine bothR_dec (fun hlt => ?_) fun hge => ?_
        · have hi' : x.i < m.length := by omega
          rw [ex_int hi']
          have st := step hi'
          refine ⟨by omega, ⟨by omega, by omega⟩, encB_one _, ⟨⟨x.i + 1, x.acc ++ [(m[x.i], varT (x.i : Int))]⟩, ⟨by simp only; omega, by simp [ha], hml, ph0_1 _⟩, by simp only; omega, st, ?_⟩⟩
          simp only [List.length_append, List.length_singleton, encB_snoc]
          rw [wrap_id (by omega) (by omega)]
          exact ⟨congrArg _ (encB_snoc x.acc m[x.i] (varT x.i)), rfl, trivial⟩
        · have : x.acc ++ numB (m.drop x.i) x.i = x.acc := by rw [List.drop_of_length_le (by omega)]; simp [numB]
          rw [this]
          exact ⟨wayN_1 (by omega), by simp⟩
  rw [enc_D]
  refine QJ.by (hk := nuH' t c m) (by simp [AV.stillL, AV.still, encI_still, encD_still]) (by simp [AV.still, AV.stillL, encD_still, encI_still]) (mkHooks_ok (all_cons fi_hook0 (all_cons (wi_hook0.weak 3) all_nil)) all_nil (all_cons hl all_nil)) ?_
  rw [nu_top]
  simp only [iC, eq_self, true_and, codeIs_self, AV.int.injEq, SubR_id, ex_encI, ex_enc, ex_encB, Ty.eta, hm, hcc]
  refine ⟨⟨hc, hb⟩, ⟨0, []⟩, ⟨by simp, rfl, hml, ph0_0⟩, rfl, fun h => ?_, fun h => ?_⟩
  · simp only [List.nil_append, List.drop_zero]
    exact ⟨⟨hc, by rw [numB_len]; exact hml, numB_allC _ _⟩, trivial⟩
  · simp only [List.nil_append, List.drop_zero] at h
    have h1 := nil_of_0 h
    refine ⟨[], rfl, ⟨hc, by simp, fun x h => by cases h⟩, ?_⟩
    rw [h1]

theorem nu_hook0 : QSpec.Ok Tryz.prog g0 89 nuQ0 := by
  intro args K h'
  unfold nuQ0 at h'
  split at h'
  · obtain ⟨t, rfl, h1⟩ := argTy_elim h'
    obtain ⟨b, l, rfl, h2, h3⟩ := argInts_elim h1
    exact ⟨_, numbered_ok t b l h2.1 h2.2, h3⟩
  · exact h'.elim

theorem bR_t {x y : Prop} : bothR true x y = x := rfl
theorem bR_f {x y : Prop} : bothR false x y = y := rfl
theorem rn_hooks : Hooks.Ok Tryz.prog g0 rnHk := mkHooks_ok (all_cons type_hook (all_cons nu_hook0 (all_cons fi_hook0 all_nil))) all_nil all_nil

/-- The variables; and whether there are none. -/
theorem rvars_ok (t : Ty) (hc : cnt t ≤ 1000) : QJ 37 [enc t] (if validB t = true then .tup [.isl (nlF true [] (firstT t [])) none 0 (encI (firstT t [])), .int .i64 0] else .tup [.isl true none 0 [], .int .i64 1]) := by
  rw [enc_D]
  by_cases h : validB t = true
  · rw [if_pos h]
    refine QJ.by (hk := rnHk) (by simp [AV.stillL, encD_still]) (by simp [AV.still, AV.stillL, encI_still]) rn_hooks ?_
    rw [rvars_top]
    simp only [ex_enc, Ty.eta, h, Bool.not_true, bR_f]
    exact ⟨hc, [], rfl, ⟨hc, by simp; omega⟩, rfl⟩
  · rw [if_neg h]
    simp only [Bool.not_eq_true] at h
    refine QJ.by (hk := rnHk) (by simp [AV.stillL, encD_still]) rfl rn_hooks ?_
    have e := rvars_top t true [] 1
    simp only [show encI [] = [] from rfl] at e
    rw [e]
    simp only [ex_enc, Ty.eta, h, Bool.not_false, bR_t]
    exact ⟨hc, trivial⟩

def numT (t : Ty) : Ty := withT (numB (firstT t []) 0) t

theorem rnumber_ok (t : Ty) (hc : cnt t ≤ 1000) : QJ 39 [enc t] (if validB t = true then .tup [encD (numT t), .int .i64 0] else .tup [encD (.mk 0 0 true []), .int .i64 1]) := by
  rw [enc_D]
  by_cases h : validB t = true
  · rw [if_pos h]
    refine QJ.by (hk := rnHk) (by simp [AV.stillL, encD_still]) (by simp [AV.still, AV.stillL, encD_still]) rn_hooks ?_
    rw [rnumber_top]
    simp only [ex_enc, Ty.eta, h, Bool.not_true, bR_f]
    exact ⟨hc, [], rfl, ⟨hc, by simp; omega⟩, rfl⟩
  · rw [if_neg h]
    simp only [Bool.not_eq_true] at h
    refine QJ.by (hk := rnHk) (by simp [AV.stillL, encD_still]) rfl rn_hooks ?_
    rw [rnumber_top]
    simp only [ex_enc, Ty.eta, h, Bool.not_false, bR_t]
    exact ⟨hc, rfl⟩

end Go.Proofs.YtnmolpkkemljoaaGreatDoor
end
end

section
namespace Kd
open Go.Am Go.Proofs.YtnmolpkkemljoaaGreatDoor
/-- What one type adds to the list. -/
def st1 (t : Ty) (l : List Int) : List Int := if t.kind = 6 then addV l t.n else l
def idxL : List Int → Int → Nat → Int
  | [], _, _ => -1
  | x :: l, n, i => if n = x then (i : Int) else idxL l n (i + 1)
end Kd
noncomputable section
namespace Go.Proofs.YtnmolpkkemljoaaGreatDoor
open Go Go.Am Kd

def ixSt (b : Bool) (l : List Int) (n : Int) : LSt Nat Int where
  n := 0
  nf := 0
  rd := none
  fr x := frm 19 [(0, .isl b none 0 (encI l)), (1, .int .i64 n), (6, .isl b none 0 (encI l)), (7, .int .i64 l.length), (8, .int .i64 x)]
  hp _ := ⟨[], []⟩
  inv x := x ≤ l.length ∧ l.length ≤ 2000
  res x := idxL (l.drop x) n x
  sel r := decide (0 ≤ r)
  out b' r := match b' with
    | false => ⟨.exit 0, frm 19 [], ⟨[], []⟩⟩
    | true => ⟨.ret, frm 19 [(4, .int .i64 r)], ⟨[], []⟩⟩
def ixH' (b : Bool) (l : List Int) (n : Int) : Hooks := hooks [] [] [(2, ⟨121, 0, (ixSt b l n).spec⟩)]

def ctQ : QSpec
  | [l, n], K => argInts l fun _ l => argInt n fun n => (l.length ≤ 2000) ∧ K (.bool (l.contains n))
  | _, _ => False
def ixQ : QSpec
  | [l, n], K => argInts l fun _ l => argInt n fun n => (l.length ≤ 2000) ∧ K (.int .i64 (idxL l n 0))
  | _, _ => False

def ixHk : Hooks := hooks [(121, ixQ)] [] []
def acc1 (p : Nat) (xs : List AV) : AV := match p with | 0 => .isl true none 0 [] | _ => .isl false (some 2) 0 xs
def fam1 (p n : Nat) : List (Nat × Nat) := match p with | 0 => [(1, 3)] | _ => [(1, 3), (1, 1), (n, 1)]
def nf1 (p : Nat) : Nat := match p with | 0 => 1 | _ => 3
def vsH (st : LoopState) (pd : Option Code) (p : Nat) (l : List Int) : AH :=
  ⟨[top3, .cells [.int .i64 0] 28, top3, .cells [acc1 p (encI l)] 50, .defers, .loop st pd (frm 28 [(4, .ptr 3 0)]).tmps (rP 36 0) (rA 36 0) (rB 36 0) 4], fam1 p l.length⟩
def vsG (p : Nat) (l : List Int) : AH := vsH .ready none p l
def vsW (A : AH) : AH := ⟨A.blks ++ [.cells [.fn (.yield 5) [] []] 42, .cells [.fn (.func 115) [] [.ptr 6 0, .ptr 7 0]] 42], A.fams⟩
def vsX (A : AH) : AH := ⟨(vsW A).blks ++ [top3], A.fams⟩

/-- One end or the other. -/
def vsPost (w : AH → AH) (l' : List Int) (o : AFin) : Prop :=
  match o.e with
  | .returned (.bool true) =>
    (wayN l' = 1 ∧ BlksR o.A.blks (w (vsG 1 l')).blks (FamR 3 o.A.fams (w (vsG 1 l')).fams True)) ∨
    (wayN l' = 0 ∧ BlksR o.A.blks (w (vsG 0 l')).blks (FamR 1 o.A.fams (w (vsG 0 l')).fams True))
  | _ => False

/-- The list that the range fills. -/
def argAcc (A : AH) (K : Nat → List Int → Prop) : Prop :=
  match nthR A.blks 3 with
  | some (.cells [.isl true none 0 []] 50) => K 0 []
  | some (.cells [.isl false (some 2) 0 xs] 50) => ∃ l, xs = encI l ∧ wayN l = 1 ∧ K 1 l
  | _ => False
def vsEnd (w : AH → AH) (A : AH) (l' : List Int) (K : AFin → Prop) : Prop :=
  (wayN l' = 1 → K ⟨.returned (.bool true), (w (vsG 1 l')).onto A⟩) ∧ (wayN l' = 0 → K ⟨.returned (.bool true), (w (vsG 0 l')).onto A⟩)

def vsRound : RSpec := fun l args A K =>
  match l, args with
  | 5, [t] => argTy t fun t => argAcc A fun p l => (l.length ≤ 2000) ∧ onG A (vsG p l) (vsEnd id A (st1 t l) K)
  | _, _ => False
def vwalkH (N : Nat) : HSpec := fun args A K =>
  match args with
  | [t, .ptr 6 0, .ptr 7 0] => argTy t fun t => argAcc A fun p l => (SizeOf.sizeOf t < N ∧ cnt t ≤ 1000 ∧ l.length + cnt t ≤ 2000) ∧ onG A (vsW (vsG p l)) (vsEnd vsW A (firstT t l) K)
  | _ => False

structure VSt where
  i : Nat
  l : List Int
def vwSt (bb : Bool) (ts : List Ty) : LSN VSt (List Int) where
  m := 2
  ways := 2
  n _ := 9
  nf p := nf1 p
  rd := none
  fr _ x := frm 23 [(2, .ptr 7 0), (12, .isl bb none 0 (encL ts)), (13, .int .i64 (encL ts).length), (14, .int .i64 x.i)]
  hp p x := vsX (vsG p x.l)
  inv p x := x.i ≤ ts.length ∧ wayN x.l = p ∧ cntL ts ≤ 1000 ∧ x.l.length + cntL (ts.drop x.i) ≤ 2000
  res _ x := firstL (ts.drop x.i) x.l
  sel r := wayN r
  wn _ := 9
  wnf w := nf1 w
  out w r := ⟨.exit 0, frm 23 [], vsX (vsG w r)⟩
def vwH1 (N : Nat) : Hooks := mkHooks Tryz.prog [] [(115, vwalkH N)] []
def vwH2 (bb : Bool) (ts : List Ty) : Hooks := mkHooks Tryz.prog [] [] [(4, ⟨115, 0, (vwSt bb ts).spec⟩)] (some vsRound)
def ctHk : Hooks := hooks [(86, weakQ 3 ctQ)] [] []
def vwalkH0 : HSpec := fun args A K =>
  match args with
  | [t, .ptr 6 0, .ptr 7 0] => argTy t fun t => argAcc A fun p l => (cnt t ≤ 1000 ∧ l.length + cnt t ≤ 2000) ∧ onG A (vsW (vsG p l)) (vsEnd vsW A (firstT t l) K)
  | _ => False
def varsHk : Hooks := mkHooks Tryz.prog [(76, validQ), (80, partsQ)] [(115, vwalkH0)] []

end Go.Proofs.YtnmolpkkemljoaaGreatDoor
end
end

section
noncomputable section
namespace Go.Proofs.YtnmolpkkemljoaaGreatDoor
open Go Go.Am Kd
set_option maxRecDepth 100000

theorem ix_loop (b : Bool) (l : List Int) (n : Int) (meas : Nat → Nat) (x : Nat) : (runL hk0 60 121 0 (ixSt b l n) meas x) = ( bothR (decide (iC x < iC (List.length l))) (0 ≤ iC x ∧ ∃ x_1, (encI l)[Int.toNat (iC x)]? = some (AV.int IntKind.i64 x_1) ∧ bothR (decide (n = x_1)) (decide ((0 : Int) ≤ idxL (List.drop x l) n x) = true ∧ AV.int IntKind.i64 (iC x) = AV.int IntKind.i64 (idxL (List.drop x l) n x) ∧ 0 = 0 ∧ True) (∃ y, (y ≤ List.length l ∧ List.length l ≤ 2000) ∧ meas y < meas x ∧ idxL (List.drop y l) n y = idxL (List.drop x l) n x ∧
 AV.isl b none (0) (encI l) = AV.isl b none (0) (encI l) ∧ AV.int IntKind.i64 n = AV.int IntKind.i64 n ∧ AV.isl b none (0) (encI l) = AV.isl b none (0) (encI l) ∧ AV.int IntKind.i64 (iC (List.length l)) = AV.int IntKind.i64 (iC (List.length l)) ∧ AV.int IntKind.i64 (IntKind.wrap IntKind.i64 (iC x + (1 : Int))) = AV.int IntKind.i64 (iC y) ∧ 0 = 0 ∧ True)) (decide ((0 : Int) ≤ idxL (List.drop x l) n x) = false ∧ 0 = 0 ∧ True)) := by kernel_rfl

theorem ix_top (b : Bool) (l : List Int) (n : Int) (r : Int) : (runF (ixH' b l n) 60 121 [.isl b none 0 (encI l), .int .i64 n] AH.nil (retIs Tryz.prog 5 (.int .i64 r))) = ( codeIs (loopOf Tryz.prog 121 0) Tryz.prog 121 0 (∃ x, (x ≤ List.length l ∧ List.length l ≤ 2000) ∧ AV.isl b none (0) (encI l) = AV.isl b none (0) (encI l) ∧ AV.int IntKind.i64 n = AV.int IntKind.i64 n ∧ AV.isl b none (0) (encI l) = AV.isl b none (0) (encI l) ∧ AV.int IntKind.i64 (iC (List.length (encI l))) = AV.int IntKind.i64 (iC (List.length l)) ∧ AV.int IntKind.i64 (0) = AV.int IntKind.i64 (iC x) ∧ 0 = 0 ∧
 bothR (decide ((0 : Int) ≤ idxL (List.drop x l) n x)) (AV.int IntKind.i64 (idxL (List.drop x l) n x) = AV.int IntKind.i64 r) (AV.int IntKind.i64 (-1) = AV.int IntKind.i64 r))) := by kernel_rfl

theorem ct_top (b : Bool) (l : List Int) (n : Int) (r : Bool) : (runF ixHk 60 86 [.isl b none 0 (encI l), .int .i64 n] AH.nil (retIs Tryz.prog 5 (.bool r))) = ( ∃ l_1, encI l = encI l_1 ∧ List.length l_1 ≤ 2000 ∧ AV.bool (decide ((0 : Int) ≤ idxL l_1 n 0)) = AV.bool r) := by kernel_rfl

theorem vs_round0 (t : Ty) (l' : List Int) : (runR ctHk 60 5 [encD t] (vsG 0 []) (vsPost id l')) = ( bothR (!decide (Ty.kind t = (6 : Int))) (wayN l' = 1 ∧ 24 = 24 ∧ 28 = 28 ∧ SubR [AV.int IntKind.i64 (0)] [AV.int IntKind.i64 (0)] (24 = 24 ∧ 50 = 50 ∧ AV.isl true none (0) [] = AV.isl false (some (2)) (0) (encI l') ∧ (LoopState.ready = LoopState.ready ∧ (none : Option Code) = none ∧ ((Array.mk (α := Nat) [12]), rA (36) (0), rB (36) (0)) = ((Array.mk (α := Nat) [12]), rA (36) (0), rB (36) (0)) ∧ 4 = 4) ∧ AV.ptr (3) (0) = AV.ptr (3) (0) ∧ [(1, 3)] = [(1, 3), (1, 1), (List.length l', 1)] ∧ True) ∨
 wayN l' = 0 ∧ 24 = 24 ∧ 28 = 28 ∧ SubR [AV.int IntKind.i64 (0)] [AV.int IntKind.i64 (0)] (24 = 24 ∧ 50 = 50 ∧ SubR [AV.isl true none (0) []] [AV.isl true none (0) []] ((LoopState.ready = LoopState.ready ∧ (none : Option Code) = none ∧ ((Array.mk (α := Nat) [12]), rA (36) (0), rB (36) (0)) = ((Array.mk (α := Nat) [12]), rA (36) (0), rB (36) (0)) ∧ 4 = 4) ∧ AV.ptr (3) (0) = AV.ptr (3) (0) ∧ [(1, 3)] = [(1, 3)] ∧ True))) (∃ l, [] = encI l ∧ List.length l ≤ 2000 ∧ bothR (List.elem (Ty.n t) l) (wayN l' = 1 ∧ 24 = 24 ∧ 28 = 28 ∧ SubR [AV.int IntKind.i64 (0)] [AV.int IntKind.i64 (0)] (24 = 24 ∧
 50 = 50 ∧ AV.isl true none (0) [] = AV.isl false (some (2)) (0) (encI l') ∧ (LoopState.ready = LoopState.ready ∧ (none : Option Code) = none ∧ ((Array.mk (α := Nat) [12]), rA (36) (0), rB (36) (0)) = ((Array.mk (α := Nat) [12]), rA (36) (0), rB (36) (0)) ∧ 4 = 4) ∧ AV.ptr (3) (0) = AV.ptr (3) (0) ∧ [(1, 3)] = [(1, 3), (1, 1), (List.length l', 1)] ∧ True) ∨ wayN l' = 0 ∧ 24 = 24 ∧ 28 = 28 ∧ SubR [AV.int IntKind.i64 (0)] [AV.int IntKind.i64 (0)] (24 = 24 ∧ 50 = 50 ∧ SubR [AV.isl true none (0) []] [AV.isl true none (0) []] ((LoopState.ready = LoopState.ready ∧ (none : Option Code) = none ∧
 ((Array.mk (α := Nat) [12]), rA (36) (0), rB (36) (0)) = ((Array.mk (α := Nat) [12]), rA (36) (0), rB (36) (0)) ∧ 4 = 4) ∧ AV.ptr (3) (0) = AV.ptr (3) (0) ∧ [(1, 3)] = [(1, 3)] ∧ True))) ((Nat.le (8) (35184372088832) ∧ Nat.le (1) (1152921504606846976)) ∧ true = true ∧ (wayN l' = 1 ∧ 24 = 24 ∧ 28 = 28 ∧ SubR [AV.int IntKind.i64 (0)] [AV.int IntKind.i64 (0)] (24 = 24 ∧ 50 = 50 ∧ AV.isl false (some (2)) (0) [AV.int IntKind.i64 (Ty.n t)] = AV.isl false (some (2)) (0) (encI l') ∧ (LoopState.ready = LoopState.ready ∧ (none : Option Code) = none ∧
 ((Array.mk (α := Nat) [12]), rA (36) (0), rB (36) (0)) = ((Array.mk (α := Nat) [12]), rA (36) (0), rB (36) (0)) ∧ 4 = 4) ∧ AV.ptr (3) (0) = AV.ptr (3) (0) ∧ [(1, 3), (1, 1), (1, 1)] = [(1, 3), (1, 1), (List.length l', 1)] ∧ True) ∨ wayN l' = 0 ∧ 24 = 24 ∧ 28 = 28 ∧ SubR [AV.int IntKind.i64 (0)] [AV.int IntKind.i64 (0)] (24 = 24 ∧ 50 = 50 ∧ (false = true ∧ [AV.int IntKind.i64 (Ty.n t)] = []) ∧ (LoopState.ready = LoopState.ready ∧ (none : Option Code) = none ∧ ((Array.mk (α := Nat) [12]), rA (36) (0), rB (36) (0)) = ((Array.mk (α := Nat) [12]), rA (36) (0), rB (36) (0)) ∧ 4 = 4) ∧
 AV.ptr (3) (0) = AV.ptr (3) (0) ∧ [(1, 3)] = [(1, 3)] ∧ True))))) := by kernel_rfl

theorem vs_round1 (t : Ty) (l l' : List Int) : (runR ctHk 60 5 [encD t] (vsG 1 l) (vsPost id l')) = ( bothR (!decide (Ty.kind t = (6 : Int))) (wayN l' = 1 ∧ 24 = 24 ∧ 28 = 28 ∧ SubR [AV.int IntKind.i64 (0)] [AV.int IntKind.i64 (0)] (24 = 24 ∧ 50 = 50 ∧ AV.isl false (some (2)) (0) (encI l) = AV.isl false (some (2)) (0) (encI l') ∧ (LoopState.ready = LoopState.ready ∧ (none : Option Code) = none ∧ ((Array.mk (α := Nat) [12]), rA (36) (0), rB (36) (0)) = ((Array.mk (α := Nat) [12]), rA (36) (0), rB (36) (0)) ∧ 4 = 4) ∧ AV.ptr (3) (0) = AV.ptr (3) (0) ∧ [(1, 3), (1, 1), (List.length l, 1)] =
 [(1, 3), (1, 1), (List.length l', 1)] ∧ True) ∨ wayN l' = 0 ∧ 24 = 24 ∧ 28 = 28 ∧ SubR [AV.int IntKind.i64 (0)] [AV.int IntKind.i64 (0)] (24 = 24 ∧ 50 = 50 ∧ (false = true ∧ encI l = []) ∧ (LoopState.ready = LoopState.ready ∧ (none : Option Code) = none ∧ ((Array.mk (α := Nat) [12]), rA (36) (0), rB (36) (0)) = ((Array.mk (α := Nat) [12]), rA (36) (0), rB (36) (0)) ∧ 4 = 4) ∧ AV.ptr (3) (0) = AV.ptr (3) (0) ∧ [(1, 3)] = [(1, 3)] ∧ True)) (∃ l_1, encI l = encI l_1 ∧ List.length l_1 ≤ 2000 ∧ bothR (List.elem (Ty.n t) l_1) (wayN l' = 1 ∧ 24 = 24 ∧ 28 = 28 ∧
 SubR [AV.int IntKind.i64 (0)] [AV.int IntKind.i64 (0)] (24 = 24 ∧ 50 = 50 ∧ AV.isl false (some (2)) (0) (encI l) = AV.isl false (some (2)) (0) (encI l') ∧ (LoopState.ready = LoopState.ready ∧ (none : Option Code) = none ∧ ((Array.mk (α := Nat) [12]), rA (36) (0), rB (36) (0)) = ((Array.mk (α := Nat) [12]), rA (36) (0), rB (36) (0)) ∧ 4 = 4) ∧ AV.ptr (3) (0) = AV.ptr (3) (0) ∧ [(1, 3), (1, 1), (List.length l, 1)] = [(1, 3), (1, 1), (List.length l', 1)] ∧ True) ∨ wayN l' = 0 ∧ 24 = 24 ∧ 28 = 28 ∧ SubR [AV.int IntKind.i64 (0)] [AV.int IntKind.i64 (0)] (24 = 24 ∧ 50 = 50 ∧
 (false = true ∧ encI l = []) ∧ (LoopState.ready = LoopState.ready ∧ (none : Option Code) = none ∧ ((Array.mk (α := Nat) [12]), rA (36) (0), rB (36) (0)) = ((Array.mk (α := Nat) [12]), rA (36) (0), rB (36) (0)) ∧ 4 = 4) ∧ AV.ptr (3) (0) = AV.ptr (3) (0) ∧ [(1, 3)] = [(1, 3)] ∧ True)) (((List.length (encI l) + 1) * 8 ≤ 35184372088832 ∧ List.length (encI l) + 1 ≤ 1152921504606846976) ∧ true = true ∧ some (List.length l, 1) = some (0 + List.length (encI l), 1) ∧ List.all (encI l) (oneSz (0 + 1)) = true ∧ (wayN l' = 1 ∧ 24 = 24 ∧ 28 = 28 ∧ SubR [AV.int IntKind.i64 (0)] [AV.int IntKind.i64 (0)]
 (24 = 24 ∧ 50 = 50 ∧ AV.isl false (some (2)) (0) (encI l ++ [AV.int IntKind.i64 (Ty.n t)]) = AV.isl false (some (2)) (0) (encI l') ∧ (LoopState.ready = LoopState.ready ∧ (none : Option Code) = none ∧ ((Array.mk (α := Nat) [12]), rA (36) (0), rB (36) (0)) = ((Array.mk (α := Nat) [12]), rA (36) (0), rB (36) (0)) ∧ 4 = 4) ∧ AV.ptr (3) (0) = AV.ptr (3) (0) ∧ [(1, 3), (1, 1), (0 + List.length (encI l) + 1, 1)] = [(1, 3), (1, 1), (List.length l', 1)] ∧ True) ∨ wayN l' = 0 ∧ 24 = 24 ∧ 28 = 28 ∧ SubR [AV.int IntKind.i64 (0)] [AV.int IntKind.i64 (0)] (24 = 24 ∧ 50 = 50 ∧
 (false = true ∧ encI l ++ [AV.int IntKind.i64 (Ty.n t)] = []) ∧ (LoopState.ready = LoopState.ready ∧ (none : Option Code) = none ∧ ((Array.mk (α := Nat) [12]), rA (36) (0), rB (36) (0)) = ((Array.mk (α := Nat) [12]), rA (36) (0), rB (36) (0)) ∧ 4 = 4) ∧ AV.ptr (3) (0) = AV.ptr (3) (0) ∧ [(1, 3)] = [(1, 3)] ∧ True))))) := by kernel_rfl

theorem vw_loop0 (bb : Bool) (ts : List Ty) (N : Nat) (meas : VSt → Nat) (x : VSt) : (runN (vwH1 N) 60 115 0 (vwSt bb ts) meas 0 x) = ( bothR (decide (iC (VSt.i x) < iC (List.length (encL ts)))) (0 ≤ iC (VSt.i x) ∧ ∃ x_1, (encL ts)[Int.toNat (iC (VSt.i x))]? = some (AV.agg [AV.int IntKind.i64 (Ty.kind x_1), AV.int IntKind.i64 (Ty.n x_1), AV.isl (Ty.nl x_1) none (0) (encL (Ty.l x_1))]) ∧ ∃ l, encL (Ty.l x_1) = encL l ∧ (SizeOf.sizeOf (Ty.mk (Ty.kind x_1) (Ty.n x_1) (Ty.nl x_1) l) < N ∧
 cnt (Ty.mk (Ty.kind x_1) (Ty.n x_1) (Ty.nl x_1) l) ≤ 1000 ∧ 0 + cnt (Ty.mk (Ty.kind x_1) (Ty.n x_1) (Ty.nl x_1) l) ≤ 2000) ∧ 24 = 24 ∧ 28 = 28 ∧ SubR [AV.int IntKind.i64 (0)] [AV.int IntKind.i64 (0)] (24 = 24 ∧ 50 = 50 ∧ SubR [AV.isl true none (0) []] [AV.isl true none (0) []] ((LoopState.ready = LoopState.ready ∧ (none : Option Code) = none ∧ ((Array.mk (α := Nat) [12]), rA (36) (0), rB (36) (0)) = ((Array.mk (α := Nat) [12]), rA (36) (0), rB (36) (0)) ∧ 4 = 4) ∧ AV.ptr (3) (0) = AV.ptr (3) (0) ∧ 42 = 42 ∧ SubR [AV.fn (Fn.yield (5)) [] []] [AV.fn (Fn.yield (5)) [] []] (42 = 42 ∧
 SubR [AV.fn (Fn.func (115)) [] [AV.ptr (6) (0), AV.ptr (7) (0)]] [AV.fn (Fn.func (115)) [] [AV.ptr (6) (0), AV.ptr (7) (0)]] ([(1, 3)] = [(1, 3)] ∧ (wayN (firstT (Ty.mk (Ty.kind x_1) (Ty.n x_1) (Ty.nl x_1) l) []) = 1 → (∃ y, (VSt.i y ≤ List.length ts ∧ wayN (VSt.l y) = 1 ∧ cntL ts ≤ 1000 ∧ List.length (VSt.l y) + cntL (List.drop (VSt.i y) ts) ≤ 2000) ∧ meas y < meas x ∧ firstL (List.drop (VSt.i y) ts) (VSt.l y) = firstL (List.drop (VSt.i x) ts) (VSt.l x) ∧ AV.ptr (7) (0) = AV.ptr (7) (0) ∧ AV.isl bb none (0) (encL ts) = AV.isl bb none (0) (encL ts) ∧
 AV.int IntKind.i64 (iC (List.length (encL ts))) = AV.int IntKind.i64 (iC (List.length (encL ts))) ∧ AV.int IntKind.i64 (IntKind.wrap IntKind.i64 (iC (VSt.i x) + (1 : Int))) = AV.int IntKind.i64 (iC (VSt.i y)) ∧ 24 = 24 ∧ 28 = 28 ∧ SubR [AV.int IntKind.i64 (0)] [AV.int IntKind.i64 (0)] (24 = 24 ∧ 50 = 50 ∧ AV.isl false (some (2)) (0) (encI (firstT (Ty.mk (Ty.kind x_1) (Ty.n x_1) (Ty.nl x_1) l) [])) = AV.isl false (some (2)) (0) (encI (VSt.l y)) ∧ (LoopState.ready = LoopState.ready ∧ (none : Option Code) = none ∧ ((Array.mk (α := Nat) [12]), rA (36) (0), rB (36) (0)) =
 ((Array.mk (α := Nat) [12]), rA (36) (0), rB (36) (0)) ∧ 4 = 4) ∧ AV.ptr (3) (0) = AV.ptr (3) (0) ∧ 42 = 42 ∧ SubR [AV.fn (Fn.yield (5)) [] []] [AV.fn (Fn.yield (5)) [] []] (42 = 42 ∧ SubR [AV.fn (Fn.func (115)) [] [AV.ptr (6) (0), AV.ptr (7) (0)]] [AV.fn (Fn.func (115)) [] [AV.ptr (6) (0), AV.ptr (7) (0)]] (24 = 24 ∧ [(1, 3), (1, 1), (List.length (firstT (Ty.mk (Ty.kind x_1) (Ty.n x_1) (Ty.nl x_1) l) []), 1)] = [(1, 3), (1, 1), (List.length (VSt.l y), 1)] ∧ True)))) ∨ ∃ y, (VSt.i y ≤ List.length ts ∧ wayN (VSt.l y) = 0 ∧
 cntL ts ≤ 1000 ∧ List.length (VSt.l y) + cntL (List.drop (VSt.i y) ts) ≤ 2000) ∧ meas y < meas x ∧ firstL (List.drop (VSt.i y) ts) (VSt.l y) = firstL (List.drop (VSt.i x) ts) (VSt.l x) ∧ AV.ptr (7) (0) = AV.ptr (7) (0) ∧ AV.isl bb none (0) (encL ts) = AV.isl bb none (0) (encL ts) ∧ AV.int IntKind.i64 (iC (List.length (encL ts))) = AV.int IntKind.i64 (iC (List.length (encL ts))) ∧ AV.int IntKind.i64 (IntKind.wrap IntKind.i64 (iC (VSt.i x) + (1 : Int))) = AV.int IntKind.i64 (iC (VSt.i y)) ∧ 24 = 24 ∧ 28 = 28 ∧ SubR [AV.int IntKind.i64 (0)] [AV.int IntKind.i64 (0)] (24 = 24 ∧ 50 = 50 ∧
 (false = true ∧ encI (firstT (Ty.mk (Ty.kind x_1) (Ty.n x_1) (Ty.nl x_1) l) []) = []) ∧ (LoopState.ready = LoopState.ready ∧ (none : Option Code) = none ∧ ((Array.mk (α := Nat) [12]), rA (36) (0), rB (36) (0)) = ((Array.mk (α := Nat) [12]), rA (36) (0), rB (36) (0)) ∧ 4 = 4) ∧ AV.ptr (3) (0) = AV.ptr (3) (0) ∧ 42 = 42 ∧ SubR [AV.fn (Fn.yield (5)) [] []] [AV.fn (Fn.yield (5)) [] []] (42 = 42 ∧ SubR [AV.fn (Fn.func (115)) [] [AV.ptr (6) (0), AV.ptr (7) (0)]] [AV.fn (Fn.func (115)) [] [AV.ptr (6) (0), AV.ptr (7) (0)]] (24 = 24 ∧ [(1, 3)] = [(1, 3)] ∧ True)))) ∧
 (wayN (firstT (Ty.mk (Ty.kind x_1) (Ty.n x_1) (Ty.nl x_1) l) []) = 0 → (∃ y, (VSt.i y ≤ List.length ts ∧ wayN (VSt.l y) = 1 ∧ cntL ts ≤ 1000 ∧ List.length (VSt.l y) + cntL (List.drop (VSt.i y) ts) ≤ 2000) ∧ meas y < meas x ∧ firstL (List.drop (VSt.i y) ts) (VSt.l y) = firstL (List.drop (VSt.i x) ts) (VSt.l x) ∧ AV.ptr (7) (0) = AV.ptr (7) (0) ∧ AV.isl bb none (0) (encL ts) = AV.isl bb none (0) (encL ts) ∧ AV.int IntKind.i64 (iC (List.length (encL ts))) = AV.int IntKind.i64 (iC (List.length (encL ts))) ∧ AV.int IntKind.i64 (IntKind.wrap IntKind.i64 (iC (VSt.i x) + (1 : Int))) =
 AV.int IntKind.i64 (iC (VSt.i y)) ∧ 24 = 24 ∧ 28 = 28 ∧ SubR [AV.int IntKind.i64 (0)] [AV.int IntKind.i64 (0)] (24 = 24 ∧ 50 = 50 ∧ AV.isl true none (0) [] = AV.isl false (some (2)) (0) (encI (VSt.l y)) ∧ (LoopState.ready = LoopState.ready ∧ (none : Option Code) = none ∧ ((Array.mk (α := Nat) [12]), rA (36) (0), rB (36) (0)) = ((Array.mk (α := Nat) [12]), rA (36) (0), rB (36) (0)) ∧ 4 = 4) ∧ AV.ptr (3) (0) = AV.ptr (3) (0) ∧ 42 = 42 ∧ SubR [AV.fn (Fn.yield (5)) [] []] [AV.fn (Fn.yield (5)) [] []] (42 = 42 ∧ SubR [AV.fn (Fn.func (115)) [] [AV.ptr (6) (0), AV.ptr (7) (0)]]
 [AV.fn (Fn.func (115)) [] [AV.ptr (6) (0), AV.ptr (7) (0)]] (24 = 24 ∧ [(1, 3)] = [(1, 3), (1, 1), (List.length (VSt.l y), 1)] ∧ True)))) ∨ ∃ y, (VSt.i y ≤ List.length ts ∧ wayN (VSt.l y) = 0 ∧ cntL ts ≤ 1000 ∧ List.length (VSt.l y) + cntL (List.drop (VSt.i y) ts) ≤ 2000) ∧ meas y < meas x ∧ firstL (List.drop (VSt.i y) ts) (VSt.l y) = firstL (List.drop (VSt.i x) ts) (VSt.l x) ∧ AV.ptr (7) (0) = AV.ptr (7) (0) ∧ AV.isl bb none (0) (encL ts) = AV.isl bb none (0) (encL ts) ∧ AV.int IntKind.i64 (iC (List.length (encL ts))) = AV.int IntKind.i64 (iC (List.length (encL ts))) ∧
 AV.int IntKind.i64 (IntKind.wrap IntKind.i64 (iC (VSt.i x) + (1 : Int))) = AV.int IntKind.i64 (iC (VSt.i y)) ∧ 24 = 24 ∧ 28 = 28 ∧ SubR [AV.int IntKind.i64 (0)] [AV.int IntKind.i64 (0)] (24 = 24 ∧ 50 = 50 ∧ SubR [AV.isl true none (0) []] [AV.isl true none (0) []] ((LoopState.ready = LoopState.ready ∧ (none : Option Code) = none ∧ ((Array.mk (α := Nat) [12]), rA (36) (0), rB (36) (0)) = ((Array.mk (α := Nat) [12]), rA (36) (0), rB (36) (0)) ∧ 4 = 4) ∧ AV.ptr (3) (0) = AV.ptr (3) (0) ∧ 42 = 42 ∧ SubR [AV.fn (Fn.yield (5)) [] []] [AV.fn (Fn.yield (5)) [] []] (42 = 42 ∧ SubR
 [AV.fn (Fn.func (115)) [] [AV.ptr (6) (0), AV.ptr (7) (0)]] [AV.fn (Fn.func (115)) [] [AV.ptr (6) (0), AV.ptr (7) (0)]] (24 = 24 ∧ [(1, 3)] = [(1, 3)] ∧ True)))))))))) (wayN (firstL (List.drop (VSt.i x) ts) (VSt.l x)) = 1 ∧ 24 = 24 ∧ 28 = 28 ∧ SubR [AV.int IntKind.i64 (0)] [AV.int IntKind.i64 (0)] (24 = 24 ∧ 50 = 50 ∧ AV.isl true none (0) [] = AV.isl false (some (2)) (0) (encI (firstL (List.drop (VSt.i x) ts) (VSt.l x))) ∧ (LoopState.ready = LoopState.ready ∧ (none : Option Code) = none ∧ ((Array.mk (α := Nat) [12]), rA (36) (0), rB (36) (0)) =
 ((Array.mk (α := Nat) [12]), rA (36) (0), rB (36) (0)) ∧ 4 = 4) ∧ AV.ptr (3) (0) = AV.ptr (3) (0) ∧ 42 = 42 ∧ SubR [AV.fn (Fn.yield (5)) [] []] [AV.fn (Fn.yield (5)) [] []] (42 = 42 ∧ SubR [AV.fn (Fn.func (115)) [] [AV.ptr (6) (0), AV.ptr (7) (0)]] [AV.fn (Fn.func (115)) [] [AV.ptr (6) (0), AV.ptr (7) (0)]] (24 = 24 ∧ [(1, 3)] = [(1, 3), (1, 1), (List.length (firstL (List.drop (VSt.i x) ts) (VSt.l x)), 1)] ∧ True))) ∨ wayN (firstL (List.drop (VSt.i x) ts) (VSt.l x)) = 0 ∧ 24 = 24 ∧ 28 = 28 ∧ SubR [AV.int IntKind.i64 (0)] [AV.int IntKind.i64 (0)] (24 = 24 ∧ 50 = 50 ∧
 SubR [AV.isl true none (0) []] [AV.isl true none (0) []] ((LoopState.ready = LoopState.ready ∧ (none : Option Code) = none ∧ ((Array.mk (α := Nat) [12]), rA (36) (0), rB (36) (0)) = ((Array.mk (α := Nat) [12]), rA (36) (0), rB (36) (0)) ∧ 4 = 4) ∧ AV.ptr (3) (0) = AV.ptr (3) (0) ∧ 42 = 42 ∧ SubR [AV.fn (Fn.yield (5)) [] []] [AV.fn (Fn.yield (5)) [] []] (42 = 42 ∧ SubR [AV.fn (Fn.func (115)) [] [AV.ptr (6) (0), AV.ptr (7) (0)]] [AV.fn (Fn.func (115)) [] [AV.ptr (6) (0), AV.ptr (7) (0)]] (24 = 24 ∧ [(1, 3)] = [(1, 3)] ∧ True)))))) := by kernel_rfl

theorem vw_loop1 (bb : Bool) (ts : List Ty) (N : Nat) (meas : VSt → Nat) (x : VSt) : (runN (vwH1 N) 60 115 0 (vwSt bb ts) meas 1 x) = ( bothR (decide (iC (VSt.i x) < iC (List.length (encL ts)))) (0 ≤ iC (VSt.i x) ∧ ∃ x_1, (encL ts)[Int.toNat (iC (VSt.i x))]? = some (AV.agg [AV.int IntKind.i64 (Ty.kind x_1), AV.int IntKind.i64 (Ty.n x_1), AV.isl (Ty.nl x_1) none (0) (encL (Ty.l x_1))]) ∧ ∃ l, encL (Ty.l x_1) = encL l ∧ ∃ l_1, encI (VSt.l x) = encI l_1 ∧ wayN l_1 = 1 ∧ (SizeOf.sizeOf (Ty.mk (Ty.kind x_1) (Ty.n x_1) (Ty.nl x_1) l) < N ∧ cnt (Ty.mk (Ty.kind x_1) (Ty.n x_1) (Ty.nl x_1) l) ≤ 1000 ∧
 List.length l_1 + cnt (Ty.mk (Ty.kind x_1) (Ty.n x_1) (Ty.nl x_1) l) ≤ 2000) ∧ 24 = 24 ∧ 28 = 28 ∧ SubR [AV.int IntKind.i64 (0)] [AV.int IntKind.i64 (0)] (24 = 24 ∧ 50 = 50 ∧ AV.isl false (some (2)) (0) (encI (VSt.l x)) = AV.isl false (some (2)) (0) (encI l_1) ∧ (LoopState.ready = LoopState.ready ∧ (none : Option Code) = none ∧ ((Array.mk (α := Nat) [12]), rA (36) (0), rB (36) (0)) = ((Array.mk (α := Nat) [12]), rA (36) (0), rB (36) (0)) ∧ 4 = 4) ∧ AV.ptr (3) (0) = AV.ptr (3) (0) ∧ 42 = 42 ∧ SubR [AV.fn (Fn.yield (5)) [] []] [AV.fn (Fn.yield (5)) [] []] (42 = 42 ∧
 SubR [AV.fn (Fn.func (115)) [] [AV.ptr (6) (0), AV.ptr (7) (0)]] [AV.fn (Fn.func (115)) [] [AV.ptr (6) (0), AV.ptr (7) (0)]] ([(1, 3), (1, 1), (List.length (VSt.l x), 1)] = [(1, 3), (1, 1), (List.length l_1, 1)] ∧ (wayN (firstT (Ty.mk (Ty.kind x_1) (Ty.n x_1) (Ty.nl x_1) l) l_1) = 1 → ∃ y, (VSt.i y ≤ List.length ts ∧ wayN (VSt.l y) = 1 ∧ cntL ts ≤ 1000 ∧ List.length (VSt.l y) + cntL (List.drop (VSt.i y) ts) ≤ 2000) ∧ meas y < meas x ∧ firstL (List.drop (VSt.i y) ts) (VSt.l y) = firstL (List.drop (VSt.i x) ts) (VSt.l x) ∧ AV.ptr (7) (0) = AV.ptr (7) (0) ∧
 AV.isl bb none (0) (encL ts) = AV.isl bb none (0) (encL ts) ∧ AV.int IntKind.i64 (iC (List.length (encL ts))) = AV.int IntKind.i64 (iC (List.length (encL ts))) ∧ AV.int IntKind.i64 (IntKind.wrap IntKind.i64 (iC (VSt.i x) + (1 : Int))) = AV.int IntKind.i64 (iC (VSt.i y)) ∧ 24 = 24 ∧ 28 = 28 ∧ SubR [AV.int IntKind.i64 (0)] [AV.int IntKind.i64 (0)] (24 = 24 ∧ 50 = 50 ∧ AV.isl false (some (2)) (0) (encI (firstT (Ty.mk (Ty.kind x_1) (Ty.n x_1) (Ty.nl x_1) l) l_1)) = AV.isl false (some (2)) (0) (encI (VSt.l y)) ∧ (LoopState.ready = LoopState.ready ∧ (none : Option Code) = none ∧
 ((Array.mk (α := Nat) [12]), rA (36) (0), rB (36) (0)) = ((Array.mk (α := Nat) [12]), rA (36) (0), rB (36) (0)) ∧ 4 = 4) ∧ AV.ptr (3) (0) = AV.ptr (3) (0) ∧ 42 = 42 ∧ SubR [AV.fn (Fn.yield (5)) [] []] [AV.fn (Fn.yield (5)) [] []] (42 = 42 ∧ SubR [AV.fn (Fn.func (115)) [] [AV.ptr (6) (0), AV.ptr (7) (0)]] [AV.fn (Fn.func (115)) [] [AV.ptr (6) (0), AV.ptr (7) (0)]] (24 = 24 ∧ [(1, 3), (1, 1), (List.length (firstT (Ty.mk (Ty.kind x_1) (Ty.n x_1) (Ty.nl x_1) l) l_1), 1)] = [(1, 3), (1, 1), (List.length (VSt.l y), 1)] ∧ True)))) ∧
 (wayN (firstT (Ty.mk (Ty.kind x_1) (Ty.n x_1) (Ty.nl x_1) l) l_1) = 0 → ∃ y, (VSt.i y ≤ List.length ts ∧ wayN (VSt.l y) = 1 ∧ cntL ts ≤ 1000 ∧ List.length (VSt.l y) + cntL (List.drop (VSt.i y) ts) ≤ 2000) ∧ meas y < meas x ∧ firstL (List.drop (VSt.i y) ts) (VSt.l y) = firstL (List.drop (VSt.i x) ts) (VSt.l x) ∧ AV.ptr (7) (0) = AV.ptr (7) (0) ∧ AV.isl bb none (0) (encL ts) = AV.isl bb none (0) (encL ts) ∧ AV.int IntKind.i64 (iC (List.length (encL ts))) = AV.int IntKind.i64 (iC (List.length (encL ts))) ∧ AV.int IntKind.i64 (IntKind.wrap IntKind.i64 (iC (VSt.i x) + (1 : Int))) =
 AV.int IntKind.i64 (iC (VSt.i y)) ∧ 24 = 24 ∧ 28 = 28 ∧ SubR [AV.int IntKind.i64 (0)] [AV.int IntKind.i64 (0)] (24 = 24 ∧ 50 = 50 ∧ AV.isl true none (0) [] = AV.isl false (some (2)) (0) (encI (VSt.l y)) ∧ (LoopState.ready = LoopState.ready ∧ (none : Option Code) = none ∧ ((Array.mk (α := Nat) [12]), rA (36) (0), rB (36) (0)) = ((Array.mk (α := Nat) [12]), rA (36) (0), rB (36) (0)) ∧ 4 = 4) ∧ AV.ptr (3) (0) = AV.ptr (3) (0) ∧ 42 = 42 ∧ SubR [AV.fn (Fn.yield (5)) [] []] [AV.fn (Fn.yield (5)) [] []] (42 = 42 ∧ SubR [AV.fn (Fn.func (115)) [] [AV.ptr (6) (0), AV.ptr (7) (0)]]
 [AV.fn (Fn.func (115)) [] [AV.ptr (6) (0), AV.ptr (7) (0)]] (24 = 24 ∧ [(1, 3), (1, 1), (List.length (VSt.l x), 1)] = [(1, 3), (1, 1), (List.length (VSt.l y), 1)] ∧ True)))))))) (wayN (firstL (List.drop (VSt.i x) ts) (VSt.l x)) = 1 ∧ 24 = 24 ∧ 28 = 28 ∧ SubR [AV.int IntKind.i64 (0)] [AV.int IntKind.i64 (0)] (24 = 24 ∧ 50 = 50 ∧ AV.isl false (some (2)) (0) (encI (VSt.l x)) = AV.isl false (some (2)) (0) (encI (firstL (List.drop (VSt.i x) ts) (VSt.l x))) ∧ (LoopState.ready = LoopState.ready ∧ (none : Option Code) = none ∧ ((Array.mk (α := Nat) [12]), rA (36) (0), rB (36) (0)) =
 ((Array.mk (α := Nat) [12]), rA (36) (0), rB (36) (0)) ∧ 4 = 4) ∧ AV.ptr (3) (0) = AV.ptr (3) (0) ∧ 42 = 42 ∧ SubR [AV.fn (Fn.yield (5)) [] []] [AV.fn (Fn.yield (5)) [] []] (42 = 42 ∧ SubR [AV.fn (Fn.func (115)) [] [AV.ptr (6) (0), AV.ptr (7) (0)]] [AV.fn (Fn.func (115)) [] [AV.ptr (6) (0), AV.ptr (7) (0)]] (24 = 24 ∧ [(1, 3), (1, 1), (List.length (VSt.l x), 1)] = [(1, 3), (1, 1), (List.length (firstL (List.drop (VSt.i x) ts) (VSt.l x)), 1)] ∧ True))))) := by kernel_rfl

theorem vw_top0 (t : Ty) (l' : List Int) : (runF (vwH2 t.nl t.l) 60 115 [encD t, .ptr 6 0, .ptr 7 0] (vsW (vsG 0 [])) (vsPost vsW l')) = ( ∃ l, encL (Ty.l t) = encL l ∧ Nat.le (0) (2000) ∧ 24 = 24 ∧ 28 = 28 ∧ SubR [AV.int IntKind.i64 (0)] [AV.int IntKind.i64 (0)] (24 = 24 ∧ 50 = 50 ∧ SubR [AV.isl true none (0) []] [AV.isl true none (0) []] ((LoopState.ready = LoopState.ready ∧ (none : Option Code) = none ∧ ((Array.mk (α := Nat) [12]), rA (36) (0), rB (36) (0)) = ((Array.mk (α := Nat) [12]), rA (36) (0), rB (36) (0)) ∧ 4 = 4) ∧ AV.ptr (3) (0) = AV.ptr (3) (0) ∧ [(1, 3)] = [(1, 3)] ∧
 (wayN (st1 (Ty.mk (Ty.kind t) (Ty.n t) (Ty.nl t) l) []) = 1 → codeIs (loopOf Tryz.prog 115 0) Tryz.prog 115 0 (∃ x, (VSt.i x ≤ List.length (Ty.l t) ∧ wayN (VSt.l x) = 1 ∧ cntL (Ty.l t) ≤ 1000 ∧ List.length (VSt.l x) + cntL (List.drop (VSt.i x) (Ty.l t)) ≤ 2000) ∧ AV.ptr (7) (0) = AV.ptr (7) (0) ∧ AV.isl (Ty.nl t) none (0) (encL (Ty.l t)) = AV.isl (Ty.nl t) none (0) (encL (Ty.l t)) ∧ AV.int IntKind.i64 (iC (List.length (encL (Ty.l t)))) = AV.int IntKind.i64 (iC (List.length (encL (Ty.l t)))) ∧ AV.int IntKind.i64 (0) = AV.int IntKind.i64 (iC (VSt.i x)) ∧ 24 = 24 ∧ 28 = 28 ∧
 SubR [AV.int IntKind.i64 (0)] [AV.int IntKind.i64 (0)] (24 = 24 ∧ 50 = 50 ∧ AV.isl false (some (2)) (0) (encI (st1 (Ty.mk (Ty.kind t) (Ty.n t) (Ty.nl t) l) [])) = AV.isl false (some (2)) (0) (encI (VSt.l x)) ∧ (LoopState.ready = LoopState.ready ∧ (none : Option Code) = none ∧ ((Array.mk (α := Nat) [12]), rA (36) (0), rB (36) (0)) = ((Array.mk (α := Nat) [12]), rA (36) (0), rB (36) (0)) ∧ 4 = 4) ∧ AV.ptr (3) (0) = AV.ptr (3) (0) ∧ 42 = 42 ∧ SubR [AV.fn (Fn.yield (5)) [] []] [AV.fn (Fn.yield (5)) [] []] (42 = 42 ∧ SubR [AV.fn (Fn.func (115)) [] [AV.ptr (6) (0), AV.ptr (7) (0)]]
 [AV.fn (Fn.func (115)) [] [AV.ptr (6) (0), AV.ptr (7) (0)]] (24 = 24 ∧ [(1, 3), (1, 1), (List.length (st1 (Ty.mk (Ty.kind t) (Ty.n t) (Ty.nl t) l) []), 1)] = [(1, 3), (1, 1), (List.length (VSt.l x), 1)] ∧ (wayN (firstL (List.drop (VSt.i x) (Ty.l t)) (VSt.l x)) = 1 → wayN l' = 1 ∧ 24 = 24 ∧ 28 = 28 ∧ SubR [AV.int IntKind.i64 (0)] [AV.int IntKind.i64 (0)] (24 = 24 ∧ 50 = 50 ∧ AV.isl false (some (2)) (0) (encI (firstL (List.drop (VSt.i x) (Ty.l t)) (VSt.l x))) = AV.isl false (some (2)) (0) (encI l') ∧ (LoopState.ready = LoopState.ready ∧ (none : Option Code) = none ∧
 ((Array.mk (α := Nat) [12]), rA (36) (0), rB (36) (0)) = ((Array.mk (α := Nat) [12]), rA (36) (0), rB (36) (0)) ∧ 4 = 4) ∧ AV.ptr (3) (0) = AV.ptr (3) (0) ∧ 42 = 42 ∧ SubR [AV.fn (Fn.yield (5)) [] []] [AV.fn (Fn.yield (5)) [] []] (42 = 42 ∧ SubR [AV.fn (Fn.func (115)) [] [AV.ptr (6) (0), AV.ptr (7) (0)]] [AV.fn (Fn.func (115)) [] [AV.ptr (6) (0), AV.ptr (7) (0)]] ([(1, 3), (1, 1), (List.length (firstL (List.drop (VSt.i x) (Ty.l t)) (VSt.l x)), 1)] = [(1, 3), (1, 1), (List.length l', 1)] ∧ True))) ∨ wayN l' = 0 ∧ 24 = 24 ∧ 28 = 28 ∧ SubR [AV.int IntKind.i64 (0)] [AV.int IntKind.i64 (0)]
 (24 = 24 ∧ 50 = 50 ∧ (false = true ∧ encI (firstL (List.drop (VSt.i x) (Ty.l t)) (VSt.l x)) = []) ∧ (LoopState.ready = LoopState.ready ∧ (none : Option Code) = none ∧ ((Array.mk (α := Nat) [12]), rA (36) (0), rB (36) (0)) = ((Array.mk (α := Nat) [12]), rA (36) (0), rB (36) (0)) ∧ 4 = 4) ∧ AV.ptr (3) (0) = AV.ptr (3) (0) ∧ 42 = 42 ∧ SubR [AV.fn (Fn.yield (5)) [] []] [AV.fn (Fn.yield (5)) [] []] (42 = 42 ∧ SubR [AV.fn (Fn.func (115)) [] [AV.ptr (6) (0), AV.ptr (7) (0)]] [AV.fn (Fn.func (115)) [] [AV.ptr (6) (0), AV.ptr (7) (0)]] ([(1, 3)] = [(1, 3)] ∧ True)))) ∧
 (wayN (firstL (List.drop (VSt.i x) (Ty.l t)) (VSt.l x)) = 0 → wayN l' = 1 ∧ 24 = 24 ∧ 28 = 28 ∧ SubR [AV.int IntKind.i64 (0)] [AV.int IntKind.i64 (0)] (24 = 24 ∧ 50 = 50 ∧ AV.isl true none (0) [] = AV.isl false (some (2)) (0) (encI l') ∧ (LoopState.ready = LoopState.ready ∧ (none : Option Code) = none ∧ ((Array.mk (α := Nat) [12]), rA (36) (0), rB (36) (0)) = ((Array.mk (α := Nat) [12]), rA (36) (0), rB (36) (0)) ∧ 4 = 4) ∧ AV.ptr (3) (0) = AV.ptr (3) (0) ∧ 42 = 42 ∧ SubR [AV.fn (Fn.yield (5)) [] []] [AV.fn (Fn.yield (5)) [] []] (42 = 42 ∧ SubR [AV.fn (Fn.func (115)) [] [AV.ptr (6) (0),
 AV.ptr (7) (0)]] [AV.fn (Fn.func (115)) [] [AV.ptr (6) (0), AV.ptr (7) (0)]] ([(1, 3)] = [(1, 3), (1, 1), (List.length l', 1)] ∧ True))) ∨ wayN l' = 0 ∧ 24 = 24 ∧ 28 = 28 ∧ SubR [AV.int IntKind.i64 (0)] [AV.int IntKind.i64 (0)] (24 = 24 ∧ 50 = 50 ∧ SubR [AV.isl true none (0) []] [AV.isl true none (0) []] ((LoopState.ready = LoopState.ready ∧ (none : Option Code) = none ∧ ((Array.mk (α := Nat) [12]), rA (36) (0), rB (36) (0)) = ((Array.mk (α := Nat) [12]), rA (36) (0), rB (36) (0)) ∧ 4 = 4) ∧ AV.ptr (3) (0) = AV.ptr (3) (0) ∧ 42 = 42 ∧ SubR [AV.fn (Fn.yield (5)) [] []]
 [AV.fn (Fn.yield (5)) [] []] (42 = 42 ∧ SubR [AV.fn (Fn.func (115)) [] [AV.ptr (6) (0), AV.ptr (7) (0)]] [AV.fn (Fn.func (115)) [] [AV.ptr (6) (0), AV.ptr (7) (0)]] ([(1, 3)] = [(1, 3)] ∧ True)))))))))) ∧ (wayN (st1 (Ty.mk (Ty.kind t) (Ty.n t) (Ty.nl t) l) []) = 0 → codeIs (loopOf Tryz.prog 115 0) Tryz.prog 115 0 (∃ x, (VSt.i x ≤ List.length (Ty.l t) ∧ wayN (VSt.l x) = 0 ∧ cntL (Ty.l t) ≤ 1000 ∧ List.length (VSt.l x) + cntL (List.drop (VSt.i x) (Ty.l t)) ≤ 2000) ∧ AV.ptr (7) (0) = AV.ptr (7) (0) ∧ AV.isl (Ty.nl t) none (0) (encL (Ty.l t)) = AV.isl (Ty.nl t) none (0) (encL (Ty.l t)) ∧
 AV.int IntKind.i64 (iC (List.length (encL (Ty.l t)))) = AV.int IntKind.i64 (iC (List.length (encL (Ty.l t)))) ∧ AV.int IntKind.i64 (0) = AV.int IntKind.i64 (iC (VSt.i x)) ∧ 24 = 24 ∧ 28 = 28 ∧ SubR [AV.int IntKind.i64 (0)] [AV.int IntKind.i64 (0)] (24 = 24 ∧ 50 = 50 ∧ SubR [AV.isl true none (0) []] [AV.isl true none (0) []] ((LoopState.ready = LoopState.ready ∧ (none : Option Code) = none ∧ ((Array.mk (α := Nat) [12]), rA (36) (0), rB (36) (0)) = ((Array.mk (α := Nat) [12]), rA (36) (0), rB (36) (0)) ∧ 4 = 4) ∧ AV.ptr (3) (0) = AV.ptr (3) (0) ∧ 42 = 42 ∧
 SubR [AV.fn (Fn.yield (5)) [] []] [AV.fn (Fn.yield (5)) [] []] (42 = 42 ∧ SubR [AV.fn (Fn.func (115)) [] [AV.ptr (6) (0), AV.ptr (7) (0)]] [AV.fn (Fn.func (115)) [] [AV.ptr (6) (0), AV.ptr (7) (0)]] (24 = 24 ∧ [(1, 3)] = [(1, 3)] ∧ (wayN (firstL (List.drop (VSt.i x) (Ty.l t)) (VSt.l x)) = 1 → wayN l' = 1 ∧ 24 = 24 ∧ 28 = 28 ∧ SubR [AV.int IntKind.i64 (0)] [AV.int IntKind.i64 (0)] (24 = 24 ∧ 50 = 50 ∧ AV.isl false (some (2)) (0) (encI (firstL (List.drop (VSt.i x) (Ty.l t)) (VSt.l x))) = AV.isl false (some (2)) (0) (encI l') ∧ (LoopState.ready = LoopState.ready ∧ (none : Option Code) = none ∧
 ((Array.mk (α := Nat) [12]), rA (36) (0), rB (36) (0)) = ((Array.mk (α := Nat) [12]), rA (36) (0), rB (36) (0)) ∧ 4 = 4) ∧ AV.ptr (3) (0) = AV.ptr (3) (0) ∧ 42 = 42 ∧ SubR [AV.fn (Fn.yield (5)) [] []] [AV.fn (Fn.yield (5)) [] []] (42 = 42 ∧ SubR [AV.fn (Fn.func (115)) [] [AV.ptr (6) (0), AV.ptr (7) (0)]] [AV.fn (Fn.func (115)) [] [AV.ptr (6) (0), AV.ptr (7) (0)]] ([(1, 3), (1, 1), (List.length (firstL (List.drop (VSt.i x) (Ty.l t)) (VSt.l x)), 1)] = [(1, 3), (1, 1), (List.length l', 1)] ∧ True))) ∨ wayN l' = 0 ∧ 24 = 24 ∧ 28 = 28 ∧ SubR [AV.int IntKind.i64 (0)] [AV.int IntKind.i64 (0)]
 (24 = 24 ∧ 50 = 50 ∧ (false = true ∧ encI (firstL (List.drop (VSt.i x) (Ty.l t)) (VSt.l x)) = []) ∧ (LoopState.ready = LoopState.ready ∧ (none : Option Code) = none ∧ ((Array.mk (α := Nat) [12]), rA (36) (0), rB (36) (0)) = ((Array.mk (α := Nat) [12]), rA (36) (0), rB (36) (0)) ∧ 4 = 4) ∧ AV.ptr (3) (0) = AV.ptr (3) (0) ∧ 42 = 42 ∧ SubR [AV.fn (Fn.yield (5)) [] []] [AV.fn (Fn.yield (5)) [] []] (42 = 42 ∧ SubR [AV.fn (Fn.func (115)) [] [AV.ptr (6) (0), AV.ptr (7) (0)]] [AV.fn (Fn.func (115)) [] [AV.ptr (6) (0), AV.ptr (7) (0)]] ([(1, 3)] = [(1, 3)] ∧ True)))) ∧
 (wayN (firstL (List.drop (VSt.i x) (Ty.l t)) (VSt.l x)) = 0 → wayN l' = 1 ∧ 24 = 24 ∧ 28 = 28 ∧ SubR [AV.int IntKind.i64 (0)] [AV.int IntKind.i64 (0)] (24 = 24 ∧ 50 = 50 ∧ AV.isl true none (0) [] = AV.isl false (some (2)) (0) (encI l') ∧ (LoopState.ready = LoopState.ready ∧ (none : Option Code) = none ∧ ((Array.mk (α := Nat) [12]), rA (36) (0), rB (36) (0)) = ((Array.mk (α := Nat) [12]), rA (36) (0), rB (36) (0)) ∧ 4 = 4) ∧ AV.ptr (3) (0) = AV.ptr (3) (0) ∧ 42 = 42 ∧ SubR [AV.fn (Fn.yield (5)) [] []] [AV.fn (Fn.yield (5)) [] []] (42 = 42 ∧ SubR [AV.fn (Fn.func (115)) [] [AV.ptr (6) (0),
 AV.ptr (7) (0)]] [AV.fn (Fn.func (115)) [] [AV.ptr (6) (0), AV.ptr (7) (0)]] ([(1, 3)] = [(1, 3), (1, 1), (List.length l', 1)] ∧ True))) ∨ wayN l' = 0 ∧ 24 = 24 ∧ 28 = 28 ∧ SubR [AV.int IntKind.i64 (0)] [AV.int IntKind.i64 (0)] (24 = 24 ∧ 50 = 50 ∧ SubR [AV.isl true none (0) []] [AV.isl true none (0) []] ((LoopState.ready = LoopState.ready ∧ (none : Option Code) = none ∧ ((Array.mk (α := Nat) [12]), rA (36) (0), rB (36) (0)) = ((Array.mk (α := Nat) [12]), rA (36) (0), rB (36) (0)) ∧ 4 = 4) ∧ AV.ptr (3) (0) = AV.ptr (3) (0) ∧ 42 = 42 ∧ SubR [AV.fn (Fn.yield (5)) [] []]
 [AV.fn (Fn.yield (5)) [] []] (42 = 42 ∧ SubR [AV.fn (Fn.func (115)) [] [AV.ptr (6) (0), AV.ptr (7) (0)]] [AV.fn (Fn.func (115)) [] [AV.ptr (6) (0), AV.ptr (7) (0)]] ([(1, 3)] = [(1, 3)] ∧ True)))))))))))))) := by kernel_rfl

theorem vw_top1 (t : Ty) (l l' : List Int) : (runF (vwH2 t.nl t.l) 60 115 [encD t, .ptr 6 0, .ptr 7 0] (vsW (vsG 1 l)) (vsPost vsW l')) = ( ∃ l_1, encL (Ty.l t) = encL l_1 ∧ ∃ l_2, encI l = encI l_2 ∧ wayN l_2 = 1 ∧ List.length l_2 ≤ 2000 ∧ 24 = 24 ∧ 28 = 28 ∧ SubR [AV.int IntKind.i64 (0)] [AV.int IntKind.i64 (0)] (24 = 24 ∧ 50 = 50 ∧ AV.isl false (some (2)) (0) (encI l) = AV.isl false (some (2)) (0) (encI l_2) ∧ (LoopState.ready = LoopState.ready ∧ (none : Option Code) = none ∧ ((Array.mk (α := Nat) [12]), rA (36) (0), rB (36) (0)) = ((Array.mk (α := Nat) [12]), rA (36) (0), rB (36) (0)) ∧
 4 = 4) ∧ AV.ptr (3) (0) = AV.ptr (3) (0) ∧ [(1, 3), (1, 1), (List.length l, 1)] = [(1, 3), (1, 1), (List.length l_2, 1)] ∧ (wayN (st1 (Ty.mk (Ty.kind t) (Ty.n t) (Ty.nl t) l_1) l_2) = 1 → codeIs (loopOf Tryz.prog 115 0) Tryz.prog 115 0 (∃ x, (VSt.i x ≤ List.length (Ty.l t) ∧ wayN (VSt.l x) = 1 ∧ cntL (Ty.l t) ≤ 1000 ∧ List.length (VSt.l x) + cntL (List.drop (VSt.i x) (Ty.l t)) ≤ 2000) ∧ AV.ptr (7) (0) = AV.ptr (7) (0) ∧ AV.isl (Ty.nl t) none (0) (encL (Ty.l t)) = AV.isl (Ty.nl t) none (0) (encL (Ty.l t)) ∧
 AV.int IntKind.i64 (iC (List.length (encL (Ty.l t)))) = AV.int IntKind.i64 (iC (List.length (encL (Ty.l t)))) ∧ AV.int IntKind.i64 (0) = AV.int IntKind.i64 (iC (VSt.i x)) ∧ 24 = 24 ∧ 28 = 28 ∧ SubR [AV.int IntKind.i64 (0)] [AV.int IntKind.i64 (0)] (24 = 24 ∧ 50 = 50 ∧ AV.isl false (some (2)) (0) (encI (st1 (Ty.mk (Ty.kind t) (Ty.n t) (Ty.nl t) l_1) l_2)) = AV.isl false (some (2)) (0) (encI (VSt.l x)) ∧ (LoopState.ready = LoopState.ready ∧ (none : Option Code) = none ∧ ((Array.mk (α := Nat) [12]), rA (36) (0), rB (36) (0)) = ((Array.mk (α := Nat) [12]), rA (36) (0), rB (36) (0)) ∧ 4 = 4) ∧
 AV.ptr (3) (0) = AV.ptr (3) (0) ∧ 42 = 42 ∧ SubR [AV.fn (Fn.yield (5)) [] []] [AV.fn (Fn.yield (5)) [] []] (42 = 42 ∧ SubR [AV.fn (Fn.func (115)) [] [AV.ptr (6) (0), AV.ptr (7) (0)]] [AV.fn (Fn.func (115)) [] [AV.ptr (6) (0), AV.ptr (7) (0)]] (24 = 24 ∧ [(1, 3), (1, 1), (List.length (st1 (Ty.mk (Ty.kind t) (Ty.n t) (Ty.nl t) l_1) l_2), 1)] = [(1, 3), (1, 1), (List.length (VSt.l x), 1)] ∧ (wayN (firstL (List.drop (VSt.i x) (Ty.l t)) (VSt.l x)) = 1 → wayN l' = 1 ∧ 24 = 24 ∧ 28 = 28 ∧ SubR [AV.int IntKind.i64 (0)] [AV.int IntKind.i64 (0)] (24 = 24 ∧ 50 = 50 ∧ AV.isl false (some (2)) (0)
 (encI (firstL (List.drop (VSt.i x) (Ty.l t)) (VSt.l x))) = AV.isl false (some (2)) (0) (encI l') ∧ (LoopState.ready = LoopState.ready ∧ (none : Option Code) = none ∧ ((Array.mk (α := Nat) [12]), rA (36) (0), rB (36) (0)) = ((Array.mk (α := Nat) [12]), rA (36) (0), rB (36) (0)) ∧ 4 = 4) ∧ AV.ptr (3) (0) = AV.ptr (3) (0) ∧ 42 = 42 ∧ SubR [AV.fn (Fn.yield (5)) [] []] [AV.fn (Fn.yield (5)) [] []] (42 = 42 ∧ SubR [AV.fn (Fn.func (115)) [] [AV.ptr (6) (0), AV.ptr (7) (0)]] [AV.fn (Fn.func (115)) [] [AV.ptr (6) (0), AV.ptr (7) (0)]] ([(1, 3), (1, 1),
 (List.length (firstL (List.drop (VSt.i x) (Ty.l t)) (VSt.l x)), 1)] = [(1, 3), (1, 1), (List.length l', 1)] ∧ True))) ∨ wayN l' = 0 ∧ 24 = 24 ∧ 28 = 28 ∧ SubR [AV.int IntKind.i64 (0)] [AV.int IntKind.i64 (0)] (24 = 24 ∧ 50 = 50 ∧ (false = true ∧ encI (firstL (List.drop (VSt.i x) (Ty.l t)) (VSt.l x)) = []) ∧ (LoopState.ready = LoopState.ready ∧ (none : Option Code) = none ∧ ((Array.mk (α := Nat) [12]), rA (36) (0), rB (36) (0)) = ((Array.mk (α := Nat) [12]), rA (36) (0), rB (36) (0)) ∧ 4 = 4) ∧ AV.ptr (3) (0) = AV.ptr (3) (0) ∧ 42 = 42 ∧ SubR [AV.fn (Fn.yield (5)) [] []]
 [AV.fn (Fn.yield (5)) [] []] (42 = 42 ∧ SubR [AV.fn (Fn.func (115)) [] [AV.ptr (6) (0), AV.ptr (7) (0)]] [AV.fn (Fn.func (115)) [] [AV.ptr (6) (0), AV.ptr (7) (0)]] ([(1, 3)] = [(1, 3)] ∧ True)))) ∧ (wayN (firstL (List.drop (VSt.i x) (Ty.l t)) (VSt.l x)) = 0 → wayN l' = 1 ∧ 24 = 24 ∧ 28 = 28 ∧ SubR [AV.int IntKind.i64 (0)] [AV.int IntKind.i64 (0)] (24 = 24 ∧ 50 = 50 ∧ AV.isl true none (0) [] = AV.isl false (some (2)) (0) (encI l') ∧ (LoopState.ready = LoopState.ready ∧ (none : Option Code) = none ∧ ((Array.mk (α := Nat) [12]), rA (36) (0), rB (36) (0)) =
 ((Array.mk (α := Nat) [12]), rA (36) (0), rB (36) (0)) ∧ 4 = 4) ∧ AV.ptr (3) (0) = AV.ptr (3) (0) ∧ 42 = 42 ∧ SubR [AV.fn (Fn.yield (5)) [] []] [AV.fn (Fn.yield (5)) [] []] (42 = 42 ∧ SubR [AV.fn (Fn.func (115)) [] [AV.ptr (6) (0), AV.ptr (7) (0)]] [AV.fn (Fn.func (115)) [] [AV.ptr (6) (0), AV.ptr (7) (0)]] ([(1, 3)] = [(1, 3), (1, 1), (List.length l', 1)] ∧ True))) ∨ wayN l' = 0 ∧ 24 = 24 ∧ 28 = 28 ∧ SubR [AV.int IntKind.i64 (0)] [AV.int IntKind.i64 (0)] (24 = 24 ∧ 50 = 50 ∧ SubR [AV.isl true none (0) []] [AV.isl true none (0) []] ((LoopState.ready = LoopState.ready ∧
 (none : Option Code) = none ∧ ((Array.mk (α := Nat) [12]), rA (36) (0), rB (36) (0)) = ((Array.mk (α := Nat) [12]), rA (36) (0), rB (36) (0)) ∧ 4 = 4) ∧ AV.ptr (3) (0) = AV.ptr (3) (0) ∧ 42 = 42 ∧ SubR [AV.fn (Fn.yield (5)) [] []] [AV.fn (Fn.yield (5)) [] []] (42 = 42 ∧ SubR [AV.fn (Fn.func (115)) [] [AV.ptr (6) (0), AV.ptr (7) (0)]] [AV.fn (Fn.func (115)) [] [AV.ptr (6) (0), AV.ptr (7) (0)]] ([(1, 3)] = [(1, 3)] ∧ True)))))))))) ∧ (wayN (st1 (Ty.mk (Ty.kind t) (Ty.n t) (Ty.nl t) l_1) l_2) = 0 → codeIs (loopOf Tryz.prog 115 0) Tryz.prog 115 0 (∃ x, (VSt.i x ≤ List.length (Ty.l t) ∧
 wayN (VSt.l x) = 1 ∧ cntL (Ty.l t) ≤ 1000 ∧ List.length (VSt.l x) + cntL (List.drop (VSt.i x) (Ty.l t)) ≤ 2000) ∧ AV.ptr (7) (0) = AV.ptr (7) (0) ∧ AV.isl (Ty.nl t) none (0) (encL (Ty.l t)) = AV.isl (Ty.nl t) none (0) (encL (Ty.l t)) ∧ AV.int IntKind.i64 (iC (List.length (encL (Ty.l t)))) = AV.int IntKind.i64 (iC (List.length (encL (Ty.l t)))) ∧ AV.int IntKind.i64 (0) = AV.int IntKind.i64 (iC (VSt.i x)) ∧ 24 = 24 ∧ 28 = 28 ∧ SubR [AV.int IntKind.i64 (0)] [AV.int IntKind.i64 (0)] (24 = 24 ∧ 50 = 50 ∧ AV.isl true none (0) [] = AV.isl false (some (2)) (0) (encI (VSt.l x)) ∧
 (LoopState.ready = LoopState.ready ∧ (none : Option Code) = none ∧ ((Array.mk (α := Nat) [12]), rA (36) (0), rB (36) (0)) = ((Array.mk (α := Nat) [12]), rA (36) (0), rB (36) (0)) ∧ 4 = 4) ∧ AV.ptr (3) (0) = AV.ptr (3) (0) ∧ 42 = 42 ∧ SubR [AV.fn (Fn.yield (5)) [] []] [AV.fn (Fn.yield (5)) [] []] (42 = 42 ∧ SubR [AV.fn (Fn.func (115)) [] [AV.ptr (6) (0), AV.ptr (7) (0)]] [AV.fn (Fn.func (115)) [] [AV.ptr (6) (0), AV.ptr (7) (0)]] (24 = 24 ∧ [(1, 3), (1, 1), (List.length l, 1)] = [(1, 3), (1, 1), (List.length (VSt.l x), 1)] ∧ (wayN (firstL (List.drop (VSt.i x) (Ty.l t)) (VSt.l x)) = 1 →
 wayN l' = 1 ∧ 24 = 24 ∧ 28 = 28 ∧ SubR [AV.int IntKind.i64 (0)] [AV.int IntKind.i64 (0)] (24 = 24 ∧ 50 = 50 ∧ AV.isl false (some (2)) (0) (encI (firstL (List.drop (VSt.i x) (Ty.l t)) (VSt.l x))) = AV.isl false (some (2)) (0) (encI l') ∧ (LoopState.ready = LoopState.ready ∧ (none : Option Code) = none ∧ ((Array.mk (α := Nat) [12]), rA (36) (0), rB (36) (0)) = ((Array.mk (α := Nat) [12]), rA (36) (0), rB (36) (0)) ∧ 4 = 4) ∧ AV.ptr (3) (0) = AV.ptr (3) (0) ∧ 42 = 42 ∧ SubR [AV.fn (Fn.yield (5)) [] []] [AV.fn (Fn.yield (5)) [] []] (42 = 42 ∧ SubR [AV.fn (Fn.func (115)) [] [AV.ptr (6) (0),
 AV.ptr (7) (0)]] [AV.fn (Fn.func (115)) [] [AV.ptr (6) (0), AV.ptr (7) (0)]] ([(1, 3), (1, 1), (List.length (firstL (List.drop (VSt.i x) (Ty.l t)) (VSt.l x)), 1)] = [(1, 3), (1, 1), (List.length l', 1)] ∧ True))) ∨ wayN l' = 0 ∧ 24 = 24 ∧ 28 = 28 ∧ SubR [AV.int IntKind.i64 (0)] [AV.int IntKind.i64 (0)] (24 = 24 ∧ 50 = 50 ∧ (false = true ∧ encI (firstL (List.drop (VSt.i x) (Ty.l t)) (VSt.l x)) = []) ∧ (LoopState.ready = LoopState.ready ∧ (none : Option Code) = none ∧ ((Array.mk (α := Nat) [12]), rA (36) (0), rB (36) (0)) = ((Array.mk (α := Nat) [12]), rA (36) (0), rB (36) (0)) ∧ 4 = 4) ∧
 AV.ptr (3) (0) = AV.ptr (3) (0) ∧ 42 = 42 ∧ SubR [AV.fn (Fn.yield (5)) [] []] [AV.fn (Fn.yield (5)) [] []] (42 = 42 ∧ SubR [AV.fn (Fn.func (115)) [] [AV.ptr (6) (0), AV.ptr (7) (0)]] [AV.fn (Fn.func (115)) [] [AV.ptr (6) (0), AV.ptr (7) (0)]] ([(1, 3)] = [(1, 3)] ∧ True)))) ∧ (wayN (firstL (List.drop (VSt.i x) (Ty.l t)) (VSt.l x)) = 0 → wayN l' = 1 ∧ 24 = 24 ∧ 28 = 28 ∧ SubR [AV.int IntKind.i64 (0)] [AV.int IntKind.i64 (0)] (24 = 24 ∧ 50 = 50 ∧ AV.isl true none (0) [] = AV.isl false (some (2)) (0) (encI l') ∧ (LoopState.ready = LoopState.ready ∧ (none : Option Code) = none ∧
 ((Array.mk (α := Nat) [12]), rA (36) (0), rB (36) (0)) = ((Array.mk (α := Nat) [12]), rA (36) (0), rB (36) (0)) ∧ 4 = 4) ∧ AV.ptr (3) (0) = AV.ptr (3) (0) ∧ 42 = 42 ∧ SubR [AV.fn (Fn.yield (5)) [] []] [AV.fn (Fn.yield (5)) [] []] (42 = 42 ∧ SubR [AV.fn (Fn.func (115)) [] [AV.ptr (6) (0), AV.ptr (7) (0)]] [AV.fn (Fn.func (115)) [] [AV.ptr (6) (0), AV.ptr (7) (0)]] ([(1, 3)] = [(1, 3), (1, 1), (List.length l', 1)] ∧ True))) ∨ wayN l' = 0 ∧ 24 = 24 ∧ 28 = 28 ∧ SubR [AV.int IntKind.i64 (0)] [AV.int IntKind.i64 (0)] (24 = 24 ∧ 50 = 50 ∧ SubR [AV.isl true none (0) []] [AV.isl true none (0) []]
 ((LoopState.ready = LoopState.ready ∧ (none : Option Code) = none ∧ ((Array.mk (α := Nat) [12]), rA (36) (0), rB (36) (0)) = ((Array.mk (α := Nat) [12]), rA (36) (0), rB (36) (0)) ∧ 4 = 4) ∧ AV.ptr (3) (0) = AV.ptr (3) (0) ∧ 42 = 42 ∧ SubR [AV.fn (Fn.yield (5)) [] []] [AV.fn (Fn.yield (5)) [] []] (42 = 42 ∧ SubR [AV.fn (Fn.func (115)) [] [AV.ptr (6) (0), AV.ptr (7) (0)]] [AV.fn (Fn.func (115)) [] [AV.ptr (6) (0), AV.ptr (7) (0)]] ([(1, 3)] = [(1, 3)] ∧ True)))))))))))) := by kernel_rfl

theorem kvars_top (t : Ty) (b : Bool) (l : List Int) (e : Int) : (runF varsHk 60 36 [encD t] AH.nil (retIs Tryz.prog 5 (.tup [.isl b none 0 (encI l), .int .i64 e]))) = ( Int.NonNeg (0) ∧ ∃ x, some (AV.agg [AV.int IntKind.i64 (Ty.kind t), AV.int IntKind.i64 (Ty.n t), AV.isl (Ty.nl t) none (0) (encL (Ty.l t))]) = some (AV.agg [AV.int IntKind.i64 (Ty.kind x), AV.int IntKind.i64 (Ty.n x), AV.isl (Ty.nl x) none (0) (encL (Ty.l x))]) ∧ ∃ l_1, encL (Ty.l x) = encL l_1 ∧ cnt (Ty.mk (Ty.kind x) (Ty.n x) (Ty.nl x) l_1) ≤ 1000 ∧ bothR (!validB (Ty.mk (Ty.kind x) (Ty.n x) (Ty.nl x) l_1))
 (AV.tup [AV.isl true none (0) [], AV.int IntKind.i64 (1)] = AV.tup [AV.isl b none (0) (encI l), AV.int IntKind.i64 e]) (∃ l_2, encL (Ty.l t) = encL l_2 ∧ ∃ l_3, encL l_2 = encL l_3 ∧ (cnt (Ty.mk (Ty.kind t) (Ty.n t) (Ty.nl t) l_3) ≤ 1000 ∧ 0 + cnt (Ty.mk (Ty.kind t) (Ty.n t) (Ty.nl t) l_3) ≤ 2000) ∧ 24 = 24 ∧ 28 = 28 ∧ SubR [AV.int IntKind.i64 (0)] [AV.int IntKind.i64 (0)] (24 = 24 ∧ 50 = 50 ∧ SubR [AV.isl true none (0) []] [AV.isl true none (0) []] ((LoopState.ready = LoopState.ready ∧ (none : Option Code) = none ∧ ((Array.mk (α := Nat) [12]), rA (36) (0), rB (36) (0)) =
 ((Array.mk (α := Nat) [12]), rA (36) (0), rB (36) (0)) ∧ 4 = 4) ∧ AV.ptr (3) (0) = AV.ptr (3) (0) ∧ 42 = 42 ∧ SubR [AV.fn (Fn.yield (5)) [] []] [AV.fn (Fn.yield (5)) [] []] (42 = 42 ∧ SubR [AV.fn (Fn.func (115)) [] [AV.ptr (6) (0), AV.ptr (7) (0)]] [AV.fn (Fn.func (115)) [] [AV.ptr (6) (0), AV.ptr (7) (0)]] ([(1, 3)] = [(1, 3)] ∧ (wayN (firstT (Ty.mk (Ty.kind t) (Ty.n t) (Ty.nl t) l_3) []) = 1 → AV.tup [AV.isl false none (0) (encI (firstT (Ty.mk (Ty.kind t) (Ty.n t) (Ty.nl t) l_3) [])), AV.int IntKind.i64 (0)] = AV.tup [AV.isl b none (0) (encI l), AV.int IntKind.i64 e]) ∧
 (wayN (firstT (Ty.mk (Ty.kind t) (Ty.n t) (Ty.nl t) l_3) []) = 0 → AV.tup [AV.isl true none (0) [], AV.int IntKind.i64 (0)] = AV.tup [AV.isl b none (0) (encI l), AV.int IntKind.i64 e]))))))) := by kernel_rfl

end Go.Proofs.YtnmolpkkemljoaaGreatDoor
end
end

section
set_option maxRecDepth 100000
set_option linter.unusedSimpArgs false
set_option linter.unusedVariables false
noncomputable section
namespace Go.Proofs.YtnmolpkkemljoaaGreatDoor
open Go Go.Am Kd

theorem idx_ge : ∀ (l : List Int) (n : Int) (i : Nat), -1 ≤ idxL l n i ∧ (decide (0 ≤ idxL l n i) = l.contains n)
  | [], n, i => by simp [idxL]
  | x :: l, n, i => by
    simp only [idxL]
    split
    · rename_i h
      subst h
      refine ⟨by omega, ?_⟩
      simp
    · rename_i h
      have := idx_ge l n (i + 1)
      refine ⟨this.1, ?_⟩
      rw [this.2]
      simp [h]

theorem ix_ok (b : Bool) (l : List Int) (n : Int) (hl : l.length ≤ 2000) : QJ 121 [.isl b none 0 (encI l), .int .i64 n] (.int .i64 (idxL l n 0)) := by
  have hlp : LHook.Ok Tryz.prog g0 ⟨121, 0, (ixSt b l n).spec⟩ := by
    refine LSt.by (hk := hk0) (ixSt b l n) (fun x => l.length - x) hk0_ok rfl ?_ ?_ ?_
    · intro x _
      exact Whole.frm rfl rfl (by simp [ixSt, AV.bnd, AV.still_bndL, encI_still]) rfl
    · intro x b' _
      cases b' <;> exact Whole.frm rfl rfl rfl rfl
    · rintro i ⟨hi, hb⟩
      rw [ix_loop]
      simp only [iC, encI_length, eq_self, true_and, and_true, Int.toNat_natCast, AV.int.injEq]
      refine bothR_dec (fun hlt => ?_) fun hge => ?_
      · have hi' : i < l.length := by omega
        have hd : l.drop i = l[i] :: l.drop (i + 1) := List.drop_eq_getElem_cons hi'
        rw [ex_int hi', hd]
        refine ⟨by omega, bothR_dec (fun h => ?_) fun h => ⟨i + 1, ⟨by omega, hb⟩, by omega, ?_, ?_⟩⟩
        · simp [idxL, h]
        · simp only [idxL, if_neg h]
        · rw [wrap_id (by omega) (by omega)]; rfl
      · rw [List.drop_of_length_le (by omega)]; rfl
  refine QJ.by (hk := ixH' b l n) (by simp [AV.stillL, AV.still, encI_still]) rfl (mkHooks_ok all_nil all_nil (all_cons hlp all_nil)) ?_
  rw [ix_top]
  simp only [iC, encI_length, eq_self, true_and, codeIs_self, AV.int.injEq]
  refine ⟨0, ⟨by omega, hl⟩, rfl, ?_⟩
  rw [List.drop_zero]
  have := (idx_ge l n 0).1
  exact bothR_dec (fun _ => rfl) fun h => by omega
theorem ix_hook : QSpec.Ok Tryz.prog g0 121 ixQ := by
  intro args K h'
  unfold ixQ at h'
  split at h'
  · obtain ⟨b, l, rfl, h1⟩ := argInts_elim h'
    obtain ⟨n, rfl, h2, h3⟩ := argInt_elim h1
    exact ⟨_, ix_ok b l n h2, h3⟩
  · exact h'.elim
theorem ct_hook : QSpec.Ok Tryz.prog g0 86 ctQ := by
  intro args K h'
  unfold ctQ at h'
  split at h'
  · obtain ⟨b, l, rfl, h1⟩ := argInts_elim h'
    obtain ⟨n, rfl, h2, h3⟩ := argInt_elim h1
    refine ⟨_, ?_, h3⟩
    refine QJ.by (hk := ixHk) (by simp [AV.stillL, AV.still, encI_still]) rfl (mkHooks_ok (all_cons ix_hook all_nil) all_nil all_nil) ?_
    rw [ct_top]
    simp only [ex_encI, AV.bool.injEq]
    exact ⟨h2, (idx_ge l n 0).2⟩
  · exact h'.elim

/-- What a state is turned into. -/
theorem vsPost_ok {P : Program} {w : AH → AH} {l' : List Int} {o : AFin} (h : vsPost w l' o) : hpIs (nf1 (wayN l')) (.returned (.bool true)) (w (vsG (wayN l') l')) o := by
  unfold vsPost at h
  split at h
  · rename_i he
    rcases h with ⟨h1, h2⟩ | ⟨h1, h2⟩
    · rw [h1]; exact ⟨he, h2⟩
    · rw [h1]; exact ⟨he, h2⟩
  · exact h.elim

theorem vs_round_ok (t : Ty) (l : List Int) (hl : l.length ≤ 2000) : RoundJ Tryz.prog g0 5 [enc t] (vsG (wayN l) l) (hpIs (nf1 (wayN (st1 t l))) (.returned (.bool true)) (vsG (wayN (st1 t l)) (st1 t l))) := by
  have hh : Hooks.Ok Tryz.prog g0 ctHk := mkHooks_ok (all_cons (ct_hook.weak 3) all_nil) all_nil all_nil
  have hst : ∀ (h : t.kind = 6), st1 t l = addV l t.n := fun h => by simp only [st1, h, if_true]
  have hsn : ∀ (h : ¬ t.kind = 6), st1 t l = l := fun h => by simp only [st1, h, if_false]
  refine RoundJ.mono (K := vsPost id (st1 t l)) ?_ fun o ho => vsPost_ok (P := Tryz.prog) ho
  rw [enc_D]
  refine RoundJ.run (el := els) (mu := mu0) (hk := ctHk) hmix hh (n := 60) ?_
  by_cases h0 : l = []
  · subst h0
    show runR ctHk 60 5 [encD t] (vsG 0 []) (vsPost id (st1 t []))
    rw [vs_round0]
    simp only [eq_self, true_and, and_true, SubR_id]
    refine bothR_ndec (fun hk => ?_) fun hk => ⟨[], rfl, by simp, bothR_bool (fun hb => by simp at hb) fun _ => ?_⟩
    · exact .inr (by rw [hsn hk]; rfl)
    · rw [hst hk]
      exact ⟨⟨(by decide : 8 ≤ 35184372088832), (by decide : 1 ≤ 1152921504606846976)⟩, .inl ⟨rfl, rfl, rfl⟩⟩
  · have hw : wayN l = 1 := wayN_1 fun h => h0 (List.eq_nil_of_length_eq_zero h)
    rw [hw]
    show runR ctHk 60 5 [encD t] (vsG 1 l) (vsPost id (st1 t l))
    rw [vs_round1]
    simp only [eq_self, true_and, and_true, SubR_id, ex_encI]
    have hc : (l ++ [t.n]).length ≠ 0 := by simp
    refine bothR_ndec (fun hk => ?_) fun hk => ⟨hl, bothR_bool (fun hb => ?_) fun hb => ?_⟩
    · rw [hsn hk]; exact .inl ⟨hw, rfl, rfl⟩
    · have : st1 t l = l := by rw [hst hk]; unfold addV; rw [if_pos hb]
      rw [this]; exact .inl ⟨hw, rfl, rfl⟩
    · have : st1 t l = l ++ [t.n] := by rw [hst hk]; unfold addV; rw [if_neg]; intro hq; rw [← List.elem_eq_contains, hb] at hq; cases hq
      rw [this]
      simp only [encI_length]
      refine ⟨⟨by omega, by omega⟩, by rw [Nat.zero_add], encI_one l, .inl ⟨wayN_1 hc, ?_, ?_⟩⟩
      · rw [← encI_append]; rfl
      · rw [Nat.zero_add, List.length_append]; rfl

theorem argAcc_elim {A : AH} {K : Nat → List Int → Prop} (h : argAcc A K) : ∃ l, K (wayN l) l := by
  unfold argAcc at h
  split at h
  · exact ⟨[], h⟩
  · obtain ⟨l, -, hw, h⟩ := h
    exact ⟨l, by rw [hw]; exact h⟩
  · exact h.elim

theorem way_or {α : Type} (l : List α) : wayN l = 0 ∨ wayN l = 1 := by unfold wayN; split <;> simp
theorem way_up {l m : List Int} (h : l.length ≤ m.length) (h1 : wayN l = 1) : wayN m = 1 := by
  have := ne_of_1 h1
  exact wayN_1 (by omega)
theorem nf_mono {l m : List Int} (h : l.length ≤ m.length) : nf1 (wayN l) ≤ nf1 (wayN m) := by
  rcases way_or l with h1 | h1
  · rcases way_or m with h2 | h2 <;> rw [h1, h2] <;> decide
  · rw [h1, way_up h h1]; exact Nat.le_refl _

theorem vsG_ok (l : List Int) : (vsG (wayN l) l).ok 6 (nf1 (wayN l)) = true := by
  rcases way_or l with h | h <;> rw [h] <;> simp [AH.ok, vsG, vsH, fam1, nf1, top3, acc1, ABlk.bnd, AV.bnd, AV.bndL, AV.still_bndL, encI_still, frm] <;> rfl
theorem vsW_ok (l : List Int) : (vsW (vsG (wayN l) l)).ok 8 (nf1 (wayN l)) = true := by
  rcases way_or l with h | h <;> rw [h] <;> simp [AH.ok, vsW, vsG, vsH, fam1, nf1, top3, acc1, ABlk.bnd, AV.bnd, AV.bndL, AV.still_bndL, encI_still, frm] <;> rfl

theorem st1_len (t : Ty) (l : List Int) : l.length ≤ (st1 t l).length ∧ (st1 t l).length ≤ l.length + 1 := by
  unfold st1 addV
  split
  · split <;> simp
  · simp

theorem vsEnd_elim {w : AH → AH} {A : AH} {l' : List Int} {K : AFin → Prop} (h : vsEnd w A l' K) : K ⟨.returned (.bool true), (w (vsG (wayN l') l')).onto A⟩ := by
  rcases way_or l' with h1 | h1
  · rw [h1]; exact h.2 h1
  · rw [h1]; exact h.1 h1

theorem vsRound_ok : RSpec.Ok Tryz.prog g0 vsRound := by
  intro l args A K h'
  unfold vsRound at h'
  split at h'
  · obtain ⟨t, rfl, h⟩ := argTy_elim h'
    obtain ⟨l, h1, h⟩ := argAcc_elim h
    obtain ⟨hK, hr⟩ := RoundJ.onG (n := 6) h (vs_round_ok t l h1) (vsG_ok l) (vsG_ok _) (nf_mono (st1_len t l).1) (by simp [AV.bndL, AV.still_bnd, enc_still]) rfl (by omega)
    exact hr.mono fun o ho => by subst ho; exact vsEnd_elim (w := id) hK
  · exact h'.elim

def VWalkJ (t : Ty) (l : List Int) : Prop := FJ 115 [enc t, .ptr 6 0, .ptr 7 0] (vsW (vsG (wayN l) l)) (hpIs (nf1 (wayN (firstT t l))) (.returned (.bool true)) (vsW (vsG (wayN (firstT t l)) (firstT t l))))

theorem vwalk_hook {N : Nat} (ih : ∀ t l, SizeOf.sizeOf t < N → cnt t ≤ 1000 → l.length + cnt t ≤ 2000 → VWalkJ t l) : HSpec.Ok Tryz.prog g0 115 (vwalkH N) := by
  intro args A K h'
  unfold vwalkH at h'
  split at h'
  · obtain ⟨t, rfl, h⟩ := argTy_elim h'
    obtain ⟨l, ⟨h1, h2, h3⟩, h⟩ := argAcc_elim h
    obtain ⟨hK, hr⟩ := FuncJ.onG (n := 8) h (ih t l h1 h2 h3) (vsW_ok l) (vsW_ok _) (nf_mono (first_len t l).1) (by simp [AV.bndL, AV.bnd, AV.still_bnd, enc_still]) rfl
    exact ⟨_, hr, vsEnd_elim hK⟩
  · exact h'.elim

theorem vwalk_ok (t : Ty) (l : List Int) (hc : cnt t ≤ 1000) (hb : l.length + cnt t ≤ 2000) : VWalkJ t l := by
  have key : ∀ (N : Nat) (t : Ty) (l : List Int), SizeOf.sizeOf t < N → cnt t ≤ 1000 → l.length + cnt t ≤ 2000 → VWalkJ t l := by
    intro N
    induction N with
    | zero => intro t l h; omega
    | succ N ih =>
      intro t l ht hc hb
      obtain ⟨k, n, nl, ts⟩ := t
      simp only [cnt] at hc hb
      simp only [Ty.mk.sizeOf_spec] at ht
      have hlc := len_cnt ts
      have hl : LHook.Ok Tryz.prog g0 ⟨115, 0, (vwSt nl ts).spec⟩ := by
        have hh : Hooks.Ok Tryz.prog g0 (vwH1 N) := mkHooks_ok all_nil (all_cons (vwalk_hook ih) all_nil) all_nil
        refine LSN.ok (vwSt nl ts) (fun x => ts.length - x.i) (fun p l h => by cases h) ?_ ?_ ?_
        · intro p x hp _
          match p, hp with
          | 0, _ => exact Whole.frm rfl rfl (by simp [vwSt, AV.bnd, encL_bnd]) (by simp [vwSt, vsX, vsW, vsG, vsH, fam1, nf1, top3, acc1, ABlk.bnd, AV.bnd, AV.bndL, AV.still_bndL, encI_still, frm]; rfl)
          | 1, _ => exact Whole.frm rfl rfl (by simp [vwSt, AV.bnd, encL_bnd]) (by simp [vwSt, vsX, vsW, vsG, vsH, fam1, nf1, top3, acc1, ABlk.bnd, AV.bnd, AV.bndL, AV.still_bndL, encI_still, frm]; rfl)
        · intro p x w hp hw _ _
          match w, hw with
          | 0, _ => exact Whole.frm rfl rfl rfl (by simp [vwSt, vsX, vsW, vsG, vsH, fam1, nf1, top3, acc1, ABlk.bnd, AV.bnd, AV.bndL, AV.still_bndL, encI_still, frm]; rfl)
          | 1, _ => exact Whole.frm rfl rfl rfl (by simp [vwSt, vsX, vsW, vsG, vsH, fam1, nf1, top3, acc1, ABlk.bnd, AV.bnd, AV.bndL, AV.still_bndL, encI_still, frm]; rfl)
        · intro p x hp ⟨hi, hx, _, hq⟩
          refine CodeJ.run (el := els) (mu := mu0) hmix hh (n := 60) ?_
          have step : ∀ (hi' : x.i < ts.length), firstL (ts.drop x.i) x.l = firstL (ts.drop (x.i + 1)) (firstT ts[x.i] x.l) ∧ (firstT ts[x.i] x.l).length + cntL (ts.drop (x.i + 1)) ≤ 2000 ∧ x.l.length + cnt ts[x.i] ≤ 2000 := by
            intro hi'
            have h1 := first_len ts[x.i] x.l
            rw [List.drop_eq_getElem_cons hi'] at hq ⊢
            simp only [cntL] at hq
            exact ⟨by simp only [firstL], by omega, by omega⟩
          match p, hp with
          | 0, _ =>
            have hx0 : x.l = [] := nil_of_0 hx
            show runN (vwH1 N) 60 115 0 (vwSt nl ts) (fun x => ts.length - x.i) 0 x
            rw [vw_loop0]
            simp only [iC, encL_length, eq_self, true_and, and_true, Int.toNat_natCast, AV.int.injEq, SubR_id, ex_encI]
            refine bothR_dec (fun hlt => ?_) fun hge => ?_
            · have hi' : x.i < ts.length := by omega
              have hs := List.sizeOf_lt_of_mem (List.getElem_mem hi')
              have hg := cnt_get hi'
              obtain ⟨s1, s2, s3⟩ := step hi'
              rw [ex_get hi']
              simp only [ex_enc, Ty.eta]
              have st := s1
              rw [hx0] at s1 s2 s3
              refine ⟨by omega, ⟨by omega, by omega, by simpa using s3⟩, fun h => .inl ⟨⟨x.i + 1, firstT ts[x.i] []⟩, ⟨by simp only; omega, h, by omega, s2⟩, by simp only; omega, ?_, ?_, rfl, rfl⟩, fun h => .inr ⟨⟨x.i + 1, firstT ts[x.i] []⟩, ⟨by simp only; omega, h, by omega, s2⟩, by simp only; omega, ?_, ?_⟩⟩
              · rw [hx0]; exact s1.symm
              · simp only; rw [wrap_id (by omega) (by omega)]; rfl
              · rw [hx0]; exact s1.symm
              · simp only; rw [wrap_id (by omega) (by omega)]; rfl
            · have : firstL (ts.drop x.i) x.l = [] := by rw [hx0, List.drop_of_length_le (by omega)]; rfl
              rw [this]; exact .inr rfl
          | 1, _ =>
            show runN (vwH1 N) 60 115 0 (vwSt nl ts) (fun x => ts.length - x.i) 1 x
            rw [vw_loop1]
            simp only [iC, encL_length, eq_self, true_and, and_true, Int.toNat_natCast, AV.int.injEq, SubR_id, ex_encI]
            refine bothR_dec (fun hlt => ?_) fun hge => ?_
            · have hi' : x.i < ts.length := by omega
              have hs := List.sizeOf_lt_of_mem (List.getElem_mem hi')
              have hg := cnt_get hi'
              obtain ⟨s1, s2, s3⟩ := step hi'
              rw [ex_get hi']
              simp only [ex_enc, Ty.eta]
              have h1 : wayN (firstT ts[x.i] x.l) = 1 := way_up (first_len ts[x.i] x.l).1 hx
              refine ⟨by omega, hx, ⟨by omega, by omega, s3⟩, fun h => ⟨⟨x.i + 1, firstT ts[x.i] x.l⟩, ⟨by simp only; omega, h, by omega, s2⟩, by simp only; omega, s1.symm, ?_, rfl, rfl⟩, fun h => by rw [h1] at h; cases h⟩
              simp only; rw [wrap_id (by omega) (by omega)]; rfl
            · have : firstL (ts.drop x.i) x.l = x.l := by rw [List.drop_of_length_le (by omega)]; rfl
              rw [this]; exact ⟨hx, rfl, rfl⟩
      have h : FJ 115 [enc (.mk k n nl ts), .ptr 6 0, .ptr 7 0] (vsW (vsG (wayN l) l)) (vsPost vsW (firstT (.mk k n nl ts) l)) := by
        rw [enc_D]
        refine FuncJ.run (el := els) (mu := mu0) (hk := vwH2 nl ts) hmix (mkHooks_ok all_nil all_nil (all_cons hl all_nil) (by intro s hs; cases hs; exact vsRound_ok)) (n := 60) ?_
        rcases way_or l with h0 | h0
        · have := nil_of_0 h0
          subst this
          show runF (vwH2 (Ty.mk k n nl ts).nl (Ty.mk k n nl ts).l) 60 115 _ (vsW (vsG 0 [])) _
          rw [vw_top0]
          simp only [eq_self, true_and, and_true, SubR_id, codeIs_self, iC, ex_enc, ex_encI, Ty.eta]
          simp only [tl_mk]
          have e1 : firstT (.mk k n nl ts) [] = firstL ts (st1 (.mk k n nl ts) []) := rfl
          have h2 := st1_len (.mk k n nl ts) []
          simp only [List.length_nil] at h2 hb
          have h3 := firstL_len ts (st1 (.mk k n nl ts) [])
          rw [e1]
          refine ⟨(by decide : 0 ≤ 2000), fun h => ⟨⟨0, st1 (.mk k n nl ts) []⟩, ⟨by simp, h, by omega, by simp only [List.drop_zero]; omega⟩, rfl, rfl, rfl, fun hw => ?_, fun hw => ?_⟩, fun h => ⟨⟨0, st1 (.mk k n nl ts) []⟩, ⟨by simp, h, by omega, by simp only [List.drop_zero]; omega⟩, rfl, fun hw => ?_, fun hw => ?_⟩⟩
          · simp only [List.drop_zero] at hw ⊢; exact .inl ⟨hw, by simp⟩
          · simp only [List.drop_zero] at hw ⊢; exact .inr hw
          · simp only [List.drop_zero] at hw ⊢; exact .inl ⟨hw, by simp⟩
          · simp only [List.drop_zero] at hw ⊢; exact .inr hw
        · rw [h0]
          show runF (vwH2 (Ty.mk k n nl ts).nl (Ty.mk k n nl ts).l) 60 115 _ (vsW (vsG 1 l)) _
          rw [vw_top1]
          simp only [eq_self, true_and, and_true, SubR_id, codeIs_self, iC, ex_enc, ex_encI, Ty.eta]
          simp only [tl_mk]
          have e1 : firstT (.mk k n nl ts) l = firstL ts (st1 (.mk k n nl ts) l) := rfl
          have h2 := st1_len (.mk k n nl ts) l
          have h3 := firstL_len ts (st1 (.mk k n nl ts) l)
          have w1 := way_up h2.1 h0
          rw [e1]
          refine ⟨h0, by omega, fun h => ⟨⟨0, st1 (.mk k n nl ts) l⟩, ⟨by simp, h, by omega, by simp only [List.drop_zero]; omega⟩, rfl, rfl, rfl, fun hw => ?_, fun hw => ?_⟩, fun h => by rw [w1] at h; cases h⟩
          · simp only [List.drop_zero] at hw ⊢; exact .inl ⟨hw, by simp⟩
          · simp only [List.drop_zero] at hw ⊢; exact .inr hw
      exact h.mono fun o ho => vsPost_ok (P := Tryz.prog) ho
  exact key _ t l (Nat.lt_succ_self _) hc hb

theorem vwalk_hook0 : HSpec.Ok Tryz.prog g0 115 vwalkH0 := by
  intro args A K h'
  unfold vwalkH0 at h'
  split at h'
  · obtain ⟨t, rfl, h⟩ := argTy_elim h'
    obtain ⟨l, ⟨h1, h2⟩, h⟩ := argAcc_elim h
    obtain ⟨hK, hr⟩ := FuncJ.onG (n := 8) h (vwalk_ok t l h1 h2) (vsW_ok l) (vsW_ok _) (nf_mono (first_len t l).1) (by simp [AV.bndL, AV.bnd, AV.still_bnd, enc_still]) rfl
    exact ⟨_, hr, vsEnd_elim hK⟩
  · exact h'.elim

/-- The program's Vars. -/
theorem kvars_ok (t : Ty) (hc : cnt t ≤ 1000) : QJ 36 [enc t] (if validB t = true then .tup [.isl (nilB (firstT t [])) none 0 (encI (firstT t [])), .int .i64 0] else .tup [.isl true none 0 [], .int .i64 1]) := by
  have hh : Hooks.Ok Tryz.prog g0 varsHk := mkHooks_ok (all_cons valid_hook (all_cons parts_hook all_nil)) (all_cons vwalk_hook0 all_nil) all_nil
  rw [enc_D]
  by_cases h : validB t = true
  · rw [if_pos h]
    refine QJ.by (hk := varsHk) (by simp [AV.stillL, encD_still]) (by simp [AV.still, AV.stillL, encI_still]) hh ?_
    rw [kvars_top]
    refine ⟨nn _, t, rfl, ?_⟩
    simp only [ex_enc, Ty.eta, h, Bool.not_true, bR_f, eq_self, true_and, and_true, SubR_id]
    refine ⟨hc, ⟨hc, by omega⟩, fun h => ?_, fun h => ?_⟩
    · rw [nilB, decide_eq_false (ne_of_1 h)]
    · rw [nil_of_0 h]; rfl
  · rw [if_neg h]
    simp only [Bool.not_eq_true] at h
    refine QJ.by (hk := varsHk) (by simp [AV.stillL, encD_still]) rfl hh ?_
    have e := kvars_top t true [] 1
    simp only [show encI [] = [] from rfl] at e
    rw [e]
    refine ⟨nn _, t, rfl, ?_⟩
    simp only [ex_enc, Ty.eta, h, Bool.not_false, bR_t]
    exact ⟨hc, trivial⟩

end Go.Proofs.YtnmolpkkemljoaaGreatDoor
end
end

section
namespace Kd
open Go.Am Go.Proofs.YtnmolpkkemljoaaGreatDoor
/-- The entries of a map of types, by numbers. -/
def entM (x : Int × Ty × Nat) : AV × AV × Nat := (.int .i64 x.1, encD x.2.1, x.2.2)
def encM (l : List (Int × Ty × Nat)) : List (AV × AV × Nat) := l.map entM
end Kd
noncomputable section
namespace Go.Proofs.YtnmolpkkemljoaaGreatDoor
open Go Go.Am Kd

def kclQ (N : Nat) : QSpec
  | [t], K => argTy t fun t => (SizeOf.sizeOf t < N ∧ okT t = true) ∧ K (encD (cleanT t))
  | _, _ => False
def kclQ0 : QSpec
  | [t], K => argTy t fun t => (okT t = true) ∧ K (encD (cleanT t))
  | _, _ => False
def kclH (N : Nat) : Hooks := hooks [(68, kclQ N)] [] []

end Go.Proofs.YtnmolpkkemljoaaGreatDoor
end
end

section
noncomputable section
namespace Go.Proofs.YtnmolpkkemljoaaGreatDoor
open Go Go.Am Kd
set_option maxRecDepth 100000

theorem kcl_top0 (k n : Int) (b : Bool) (N : Nat) (r : Ty) : (runF (kclH N) 60 68 [.agg [.int .i64 k, .int .i64 n, .isl b none 0 []]] AH.nil (retIs Tryz.prog 5 (encD r))) = ( bothR (decide (k = (6 : Int))) (AV.agg [AV.int IntKind.i64 k, AV.int IntKind.i64 n, AV.isl true none (0) []] = AV.agg [AV.int IntKind.i64 (Ty.kind r), AV.int IntKind.i64 (Ty.n r), AV.isl (Ty.nl r) none (0) (encL (Ty.l r))]) (AV.agg [AV.int IntKind.i64 k, AV.int IntKind.i64 (0), AV.isl true none (0) []] =
 AV.agg [AV.int IntKind.i64 (Ty.kind r), AV.int IntKind.i64 (Ty.n r), AV.isl (Ty.nl r) none (0) (encL (Ty.l r))])) := by kernel_rfl

theorem kcl_top1 (k n : Int) (b : Bool) (x : Ty) (N : Nat) (r : Ty) : (runF (kclH N) 60 68 [.agg [.int .i64 k, .int .i64 n, .isl b none 0 [encD x]]] AH.nil (retIs Tryz.prog 5 (encD r))) = ( bothR (decide (k = (6 : Int))) (∃ l, encL (Ty.l x) = encL l ∧ (SizeOf.sizeOf (Ty.mk (Ty.kind x) (Ty.n x) (Ty.nl x) l) < N ∧ okT (Ty.mk (Ty.kind x) (Ty.n x) (Ty.nl x) l) = true) ∧ AV.agg [AV.int IntKind.i64 k, AV.int IntKind.i64 n, AV.isl false none (0) [AV.agg
 [AV.int IntKind.i64 (Ty.kind (cleanT (Ty.mk (Ty.kind x) (Ty.n x) (Ty.nl x) l))), AV.int IntKind.i64 (Ty.n (cleanT (Ty.mk (Ty.kind x) (Ty.n x) (Ty.nl x) l))), AV.isl (Ty.nl (cleanT (Ty.mk (Ty.kind x) (Ty.n x) (Ty.nl x) l))) none (0) (encL (Ty.l (cleanT (Ty.mk (Ty.kind x) (Ty.n x) (Ty.nl x) l))))]]] = AV.agg [AV.int IntKind.i64 (Ty.kind r), AV.int IntKind.i64 (Ty.n r), AV.isl (Ty.nl r) none (0) (encL (Ty.l r))]) (∃ l, encL (Ty.l x) = encL l ∧ (SizeOf.sizeOf (Ty.mk (Ty.kind x) (Ty.n x) (Ty.nl x) l) < N ∧ okT (Ty.mk (Ty.kind x) (Ty.n x) (Ty.nl x) l) = true) ∧ AV.agg
 [AV.int IntKind.i64 k, AV.int IntKind.i64 (0), AV.isl false none (0) [AV.agg [AV.int IntKind.i64 (Ty.kind (cleanT (Ty.mk (Ty.kind x) (Ty.n x) (Ty.nl x) l))), AV.int IntKind.i64 (Ty.n (cleanT (Ty.mk (Ty.kind x) (Ty.n x) (Ty.nl x) l))), AV.isl (Ty.nl (cleanT (Ty.mk (Ty.kind x) (Ty.n x) (Ty.nl x) l))) none (0) (encL (Ty.l (cleanT (Ty.mk (Ty.kind x) (Ty.n x) (Ty.nl x) l))))]]] = AV.agg [AV.int IntKind.i64 (Ty.kind r), AV.int IntKind.i64 (Ty.n r), AV.isl (Ty.nl r) none (0) (encL (Ty.l r))])) := by kernel_rfl

theorem kcl_top2 (k n : Int) (b : Bool) (x y : Ty) (N : Nat) (r : Ty) : (runF (kclH N) 60 68 [.agg [.int .i64 k, .int .i64 n, .isl b none 0 [encD x, encD y]]] AH.nil (retIs Tryz.prog 5 (encD r))) = ( bothR (decide (k = (6 : Int))) (∃ l, encL (Ty.l x) = encL l ∧ (SizeOf.sizeOf (Ty.mk (Ty.kind x) (Ty.n x) (Ty.nl x) l) < N ∧ okT (Ty.mk (Ty.kind x) (Ty.n x) (Ty.nl x) l) = true) ∧ ∃ l_1, encL (Ty.l y) = encL l_1 ∧ (SizeOf.sizeOf (Ty.mk (Ty.kind y) (Ty.n y) (Ty.nl y) l_1) < N ∧ okT (Ty.mk (Ty.kind y) (Ty.n y) (Ty.nl y) l_1) = true) ∧ AV.agg [AV.int IntKind.i64 k, AV.int IntKind.i64 n,
 AV.isl false none (0) [AV.agg [AV.int IntKind.i64 (Ty.kind (cleanT (Ty.mk (Ty.kind x) (Ty.n x) (Ty.nl x) l))), AV.int IntKind.i64 (Ty.n (cleanT (Ty.mk (Ty.kind x) (Ty.n x) (Ty.nl x) l))), AV.isl (Ty.nl (cleanT (Ty.mk (Ty.kind x) (Ty.n x) (Ty.nl x) l))) none (0) (encL (Ty.l (cleanT (Ty.mk (Ty.kind x) (Ty.n x) (Ty.nl x) l))))], AV.agg [AV.int IntKind.i64 (Ty.kind (cleanT (Ty.mk (Ty.kind y) (Ty.n y) (Ty.nl y) l_1))), AV.int IntKind.i64 (Ty.n (cleanT (Ty.mk (Ty.kind y) (Ty.n y) (Ty.nl y) l_1))), AV.isl (Ty.nl (cleanT (Ty.mk (Ty.kind y) (Ty.n y) (Ty.nl y) l_1))) none (0)
 (encL (Ty.l (cleanT (Ty.mk (Ty.kind y) (Ty.n y) (Ty.nl y) l_1))))]]] = AV.agg [AV.int IntKind.i64 (Ty.kind r), AV.int IntKind.i64 (Ty.n r), AV.isl (Ty.nl r) none (0) (encL (Ty.l r))]) (∃ l, encL (Ty.l x) = encL l ∧ (SizeOf.sizeOf (Ty.mk (Ty.kind x) (Ty.n x) (Ty.nl x) l) < N ∧ okT (Ty.mk (Ty.kind x) (Ty.n x) (Ty.nl x) l) = true) ∧ ∃ l_1, encL (Ty.l y) = encL l_1 ∧ (SizeOf.sizeOf (Ty.mk (Ty.kind y) (Ty.n y) (Ty.nl y) l_1) < N ∧ okT (Ty.mk (Ty.kind y) (Ty.n y) (Ty.nl y) l_1) = true) ∧ AV.agg [AV.int IntKind.i64 k, AV.int IntKind.i64 (0), AV.isl false none (0) [AV.agg
 [AV.int IntKind.i64 (Ty.kind (cleanT (Ty.mk (Ty.kind x) (Ty.n x) (Ty.nl x) l))), AV.int IntKind.i64 (Ty.n (cleanT (Ty.mk (Ty.kind x) (Ty.n x) (Ty.nl x) l))), AV.isl (Ty.nl (cleanT (Ty.mk (Ty.kind x) (Ty.n x) (Ty.nl x) l))) none (0) (encL (Ty.l (cleanT (Ty.mk (Ty.kind x) (Ty.n x) (Ty.nl x) l))))], AV.agg [AV.int IntKind.i64 (Ty.kind (cleanT (Ty.mk (Ty.kind y) (Ty.n y) (Ty.nl y) l_1))), AV.int IntKind.i64 (Ty.n (cleanT (Ty.mk (Ty.kind y) (Ty.n y) (Ty.nl y) l_1))), AV.isl (Ty.nl (cleanT (Ty.mk (Ty.kind y) (Ty.n y) (Ty.nl y) l_1))) none (0)
 (encL (Ty.l (cleanT (Ty.mk (Ty.kind y) (Ty.n y) (Ty.nl y) l_1))))]]] = AV.agg [AV.int IntKind.i64 (Ty.kind r), AV.int IntKind.i64 (Ty.n r), AV.isl (Ty.nl r) none (0) (encL (Ty.l r))])) := by kernel_rfl

end Go.Proofs.YtnmolpkkemljoaaGreatDoor
end
end

section
set_option maxRecDepth 100000
set_option linter.unusedSimpArgs false
set_option linter.unusedVariables false
noncomputable section
namespace Go.Proofs.YtnmolpkkemljoaaGreatDoor
open Go Go.Am Kd

theorem ok_node {k n : Int} {b : Bool} {l : List Ty} (h : okT (.mk k n b l) = true) : NodeOk (.mk k n b l) ∧ okL l = true := by
  simp only [okT, Bool.and_eq_true, decide_eq_true_eq] at h
  exact h

/-- A type that is as it must be has two parts at the most. -/
theorem parts_cases {k n : Int} {b : Bool} {l : List Ty} (h : okT (.mk k n b l) = true) : l = [] ∨ (∃ x, l = [x] ∧ okT x = true) ∨ ∃ x y, l = [x, y] ∧ okT x = true ∧ okT y = true := by
  obtain ⟨hn, hl⟩ := ok_node h
  simp only [NodeOk] at hn
  obtain ⟨h1, h2, h3, h4, h5, h6⟩ := hn
  have hlen : l.length ≤ 2 := by
    have : k = 0 ∨ k = 1 ∨ k = 6 ∨ k = 2 ∨ k = 3 ∨ k = 5 ∨ k = 4 := by omega
    rcases this with h | h | h | h | h | h | h
    · have := h3 (.inl h); omega
    · have := h3 (.inr (.inl h)); omega
    · have := h3 (.inr (.inr h)); omega
    · have := h4 (.inl h); omega
    · have := h4 (.inr (.inl h)); omega
    · have := h4 (.inr (.inr h)); omega
    · have := h5 h; omega
  match l, hlen with
  | [], _ => exact .inl rfl
  | [x], _ => exact .inr (.inl ⟨x, rfl, okL_mem hl x (by simp)⟩)
  | [x, y], _ => exact .inr (.inr ⟨x, y, rfl, okL_mem hl x (by simp), okL_mem hl y (by simp)⟩)

theorem kcl_hook {N : Nat} (ih : ∀ t, SizeOf.sizeOf t < N → okT t = true → QJ 68 [enc t] (encD (cleanT t))) : QSpec.Ok Tryz.prog g0 68 (kclQ N) := by
  intro args K h'
  unfold kclQ at h'
  split at h'
  · obtain ⟨t, rfl, h1, h2⟩ := argTy_elim h'
    exact ⟨_, ih t h1.1 h1.2, h2⟩
  · exact h'.elim

theorem kclean_ok (t : Ty) (ho : okT t = true) : QJ 68 [enc t] (encD (cleanT t)) := by
  have key : ∀ (N : Nat) (t : Ty), SizeOf.sizeOf t < N → okT t = true → QJ 68 [enc t] (encD (cleanT t)) := by
    intro N
    induction N with
    | zero => intro t h; omega
    | succ N ih =>
      intro t ht ho
      obtain ⟨k, n, nl, ts⟩ := t
      simp only [Ty.mk.sizeOf_spec] at ht
      have hh : Hooks.Ok Tryz.prog g0 (kclH N) := mkHooks_ok (all_cons (kcl_hook ih) all_nil) all_nil all_nil
      refine QJ.by (hk := kclH N) (by simp [AV.stillL, enc_still]) (encD_still _) hh ?_
      rcases parts_cases ho with rfl | ⟨x, rfl, hx⟩ | ⟨x, y, rfl, hx, hy⟩
      · show runF (kclH N) 60 68 [.agg [.int .i64 k, .int .i64 n, .isl nl none 0 []]] AH.nil _
        rw [kcl_top0]
        refine bothR_dec (fun h6 => ?_) fun h6 => ?_
        · simp only [cleanT, h6, if_true]; rfl
        · simp only [cleanT, h6, if_false]; rfl
      · have e : enc (.mk k n nl [x]) = .agg [.int .i64 k, .int .i64 n, .isl nl none 0 [encD x]] := by simp only [enc, encL, enc_D]
        rw [e, kcl_top1]
        simp only [List.cons.sizeOf_spec] at ht
        simp only [ex_enc, Ty.eta]
        refine bothR_dec (fun h6 => ⟨⟨by omega, hx⟩, ?_⟩) fun h6 => ⟨⟨by omega, hx⟩, ?_⟩
        · simp only [encL_sing, cleanT, cleanL, h6, if_true]; rfl
        · simp only [encL_sing, cleanT, cleanL, h6, if_false]; rfl
      · have e : enc (.mk k n nl [x, y]) = .agg [.int .i64 k, .int .i64 n, .isl nl none 0 [encD x, encD y]] := by simp only [enc, encL, enc_D]
        rw [e, kcl_top2]
        simp only [List.cons.sizeOf_spec] at ht
        simp only [ex_enc, Ty.eta]
        have e2 : ∀ u v : Ty, [AV.agg [.int .i64 u.kind, .int .i64 u.n, .isl u.nl none 0 (encL u.l)], AV.agg [.int .i64 v.kind, .int .i64 v.n, .isl v.nl none 0 (encL v.l)]] = encL [u, v] := fun u v => by
          simp only [encL, enc_D]; rfl
        refine bothR_dec (fun h6 => ⟨⟨by omega, hx⟩, ⟨by omega, hy⟩, ?_⟩) fun h6 => ⟨⟨by omega, hx⟩, ⟨by omega, hy⟩, ?_⟩
        · simp only [e2, cleanT, cleanL, h6, if_true]; rfl
        · simp only [e2, cleanT, cleanL, h6, if_false]; rfl
  exact key (SizeOf.sizeOf t + 1) t (by omega) ho
theorem kcl_hook0 : QSpec.Ok Tryz.prog g0 68 kclQ0 := by
  intro args K h'
  unfold kclQ0 at h'
  split at h'
  · obtain ⟨t, rfl, h1, h2⟩ := argTy_elim h'
    exact ⟨_, kclean_ok t h1, h2⟩
  · exact h'.elim

end Go.Proofs.YtnmolpkkemljoaaGreatDoor
end
end

section
noncomputable section
namespace Go.Proofs.YtnmolpkkemljoaaGreatDoor
open Go Go.Am Kd

/-- What a walk of put is handed: the map, its box, what is left, the walk's own box. -/
def pwB (es : List (Int × Ty × Nat)) (c : Nat) (left : Int) : List ABlk :=
  [.map (encM es) c, .cells [.map 0] 74, top3, top3, .cells [.int .i64 left] 3, .cells [.fn (.func 118) [] [.ptr 1 0, .ptr 4 0, .ptr 5 0]] 145]
/-- And while it counts. -/
def cnH (es : List (Int × Ty × Nat)) (c : Nat) (left d : Int) (u : Ty) (n : Int) : AH :=
  ⟨pwB es c left ++ [top3, .cells [.int .i64 d] 3, top3, tyC u, .cells [.int .i64 n] 3, .defers, .loop .ready none (frm 51 [(10, .ptr 10 0)]).tmps (rP 118 0) (rA 118 0) (rB 118 0) 11], []⟩
def cnW (A : AH) : AH := ⟨A.blks ++ [.cells [.fn (.yield 12) [] []] 42, .cells [.fn (.func 115) [] [.ptr 13 0, .ptr 14 0]] 42], []⟩
def cnX (A : AH) : AH := ⟨(cnW A).blks ++ [top3], []⟩

def cnPost (A' : AH) (o : AFin) : Prop :=
  match o.e with
  | .returned (.bool true) => BlksR o.A.blks A'.blks (FamR 0 o.A.fams [] True)
  | _ => False
/-- The state of a count. -/
def argCn (A : AH) (K : List (Int × Ty × Nat) → Nat → Int → Int → Ty → Int → Prop) : Prop :=
  match nthR A.blks 0, nthR A.blks 4, nthR A.blks 7, nthR A.blks 9, nthR A.blks 10 with
  | some (.map m c), some (.cells [.int .i64 left] 3), some (.cells [.int .i64 d] 3), some (.cells [.int .i64 k, .int .i64 q, .isl b none 0 xs] 24), some (.cells [.int .i64 n] 3) => ∃ es, m = encM es ∧ ∃ l, xs = encL l ∧ K es c left d (.mk k q b l) n
  | _, _, _, _, _ => False

def cnRound : RSpec := fun l args A K =>
  match l, args with
  | 12, [t] => argTy t fun _ => argCn A fun es c left d u n => (0 ≤ n ∧ n ≤ 1000) ∧ onR 0 A (cnH es c left d u n) (K ⟨.returned (.bool true), (cnH es c left d u (n + 1)).onto A⟩)
  | _, _ => False
def cwalkH (N : Nat) : HSpec := fun args A K =>
  match args with
  | [t, .ptr 13 0, .ptr 14 0] => argTy t fun t => argCn A fun es c left d u n => (SizeOf.sizeOf t < N ∧ cnt t ≤ 1000 ∧ 0 ≤ n ∧ n + cnt t ≤ 1000) ∧ onR 0 A (cnW (cnH es c left d u n)) (K ⟨.returned (.bool true), (cnW (cnH es c left d u (n + cnt t))).onto A⟩)
  | _ => False
def cwalkH0 : HSpec := fun args A K =>
  match args with
  | [t, .ptr 13 0, .ptr 14 0] => argTy t fun t => argCn A fun es c left d u n => (cnt t ≤ 1000 ∧ 0 ≤ n ∧ n + cnt t ≤ 1000) ∧ onR 0 A (cnW (cnH es c left d u n)) (K ⟨.returned (.bool true), (cnW (cnH es c left d u (n + cnt t))).onto A⟩)
  | _ => False
def cwSt (es : List (Int × Ty × Nat)) (c : Nat) (left d : Int) (u : Ty) (bb : Bool) (ts : List Ty) : LSt (Nat × Int) Int where
  n := 16
  nf := 0
  rd := none
  fr x := frm 23 [(2, .ptr 14 0), (12, .isl bb none 0 (encL ts)), (13, .int .i64 (encL ts).length), (14, .int .i64 x.1)]
  hp x := cnX (cnH es c left d u x.2)
  inv x := x.1 ≤ ts.length ∧ cntL ts ≤ 1000 ∧ 0 ≤ x.2 ∧ x.2 + cntL (ts.drop x.1) ≤ 1000
  res x := x.2 + cntL (ts.drop x.1)
  sel _ := true
  out _ r := ⟨.exit 0, frm 23 [], cnX (cnH es c left d u r)⟩
def cwH1 (N : Nat) : Hooks := mkHooks Tryz.prog [] [(115, cwalkH N)] []
def cwH2 (es : List (Int × Ty × Nat)) (c : Nat) (left d : Int) (u : Ty) (bb : Bool) (ts : List Ty) : Hooks := mkHooks Tryz.prog [] [] [(4, ⟨115, 0, (cwSt es c left d u bb ts).spec⟩)] (some cnRound)

end Go.Proofs.YtnmolpkkemljoaaGreatDoor
end
end

section
noncomputable section
namespace Go.Proofs.YtnmolpkkemljoaaGreatDoor
open Go Go.Am Kd
set_option maxRecDepth 100000

theorem cn_round (es : List (Int × Ty × Nat)) (c : Nat) (left d : Int) (u : Ty) (n : Int) (t : Ty) : (runR hk0 60 12 [encD t] (cnH es c left d u n) (cnPost (cnH es c left d u (n + 1)))) = ( encM es = encM es ∧ c = c ∧ 74 = 74 ∧ SubR [AV.map (0)] [AV.map (0)] (24 = 24 ∧ 24 = 24 ∧ 3 = 3 ∧ AV.int IntKind.i64 left = AV.int IntKind.i64 left ∧ 145 = 145 ∧ SubR [AV.fn (Fn.func (118)) [] [AV.ptr (1) (0), AV.ptr (4) (0), AV.ptr (5) (0)]] [AV.fn (Fn.func (118)) [] [AV.ptr (1) (0), AV.ptr (4) (0), AV.ptr (5) (0)]] (24 = 24 ∧ 3 = 3 ∧ AV.int IntKind.i64 d = AV.int IntKind.i64 d ∧ 24 = 24 ∧ 24 = 24 ∧
 AV.int IntKind.i64 (Ty.kind u) = AV.int IntKind.i64 (Ty.kind u) ∧ AV.int IntKind.i64 (Ty.n u) = AV.int IntKind.i64 (Ty.n u) ∧ AV.isl (Ty.nl u) none (0) (encL (Ty.l u)) = AV.isl (Ty.nl u) none (0) (encL (Ty.l u)) ∧ 3 = 3 ∧ AV.int IntKind.i64 (IntKind.wrap IntKind.i64 (n + (1 : Int))) = AV.int IntKind.i64 (n + (1 : Int)) ∧ (LoopState.ready = LoopState.ready ∧ (none : Option Code) = none ∧ ((Array.mk (α := Nat) [26]), rA (76) (1), rB (118) (0)) = ((Array.mk (α := Nat) [26]), rA (76) (1), rB (118) (0)) ∧ 11 = 11) ∧ AV.ptr (10) (0) = AV.ptr (10) (0) ∧ 0 = 0 ∧ True))) := by kernel_rfl

theorem cw_loop (es : List (Int × Ty × Nat)) (c : Nat) (left d : Int) (u : Ty) (bb : Bool) (ts : List Ty) (N : Nat) (meas : Nat × Int → Nat) (x : Nat × Int) : (runL (cwH1 N) 60 115 0 (cwSt es c left d u bb ts) meas x) = ( bothR (decide (iC (Prod.fst x) < iC (List.length (encL ts)))) (0 ≤ iC (Prod.fst x) ∧ ∃ x_1, (encL ts)[Int.toNat (iC (Prod.fst x))]? = some (AV.agg [AV.int IntKind.i64 (Ty.kind x_1), AV.int IntKind.i64 (Ty.n x_1), AV.isl (Ty.nl x_1) none (0) (encL (Ty.l x_1))]) ∧ ∃ l, encL (Ty.l x_1) = encL l ∧ ∃ es_1, encM es = encM es_1 ∧ ∃ l_1, encL (Ty.l u) = encL l_1 ∧
 (SizeOf.sizeOf (Ty.mk (Ty.kind x_1) (Ty.n x_1) (Ty.nl x_1) l) < N ∧ cnt (Ty.mk (Ty.kind x_1) (Ty.n x_1) (Ty.nl x_1) l) ≤ 1000 ∧ 0 ≤ Prod.snd x ∧ Prod.snd x + iC (cnt (Ty.mk (Ty.kind x_1) (Ty.n x_1) (Ty.nl x_1) l)) ≤ 1000) ∧ encM es = encM es_1 ∧ c = c ∧ 74 = 74 ∧ SubR [AV.map (0)] [AV.map (0)] (24 = 24 ∧ 24 = 24 ∧ 3 = 3 ∧ AV.int IntKind.i64 left = AV.int IntKind.i64 left ∧ 145 = 145 ∧ SubR [AV.fn (Fn.func (118)) [] [AV.ptr (1) (0), AV.ptr (4) (0), AV.ptr (5) (0)]] [AV.fn (Fn.func (118)) [] [AV.ptr (1) (0), AV.ptr (4) (0), AV.ptr (5) (0)]] (24 = 24 ∧ 3 = 3 ∧
 AV.int IntKind.i64 d = AV.int IntKind.i64 d ∧ 24 = 24 ∧ 24 = 24 ∧ AV.int IntKind.i64 (Ty.kind u) = AV.int IntKind.i64 (Ty.kind u) ∧ AV.int IntKind.i64 (Ty.n u) = AV.int IntKind.i64 (Ty.n u) ∧ AV.isl (Ty.nl u) none (0) (encL (Ty.l u)) = AV.isl (Ty.nl u) none (0) (encL l_1) ∧ 3 = 3 ∧ AV.int IntKind.i64 (Prod.snd x) = AV.int IntKind.i64 (Prod.snd x) ∧ (LoopState.ready = LoopState.ready ∧ (none : Option Code) = none ∧ ((Array.mk (α := Nat) [26]), rA (76) (1), rB (118) (0)) = ((Array.mk (α := Nat) [26]), rA (76) (1), rB (118) (0)) ∧ 11 = 11) ∧ AV.ptr (10) (0) = AV.ptr (10) (0) ∧ 42 = 42 ∧
 SubR [AV.fn (Fn.yield (12)) [] []] [AV.fn (Fn.yield (12)) [] []] (42 = 42 ∧ SubR [AV.fn (Fn.func (115)) [] [AV.ptr (13) (0), AV.ptr (14) (0)]] [AV.fn (Fn.func (115)) [] [AV.ptr (13) (0), AV.ptr (14) (0)]] (0 = 0 ∧ ∃ y, (Prod.fst y ≤ List.length ts ∧ cntL ts ≤ 1000 ∧ 0 ≤ Prod.snd y ∧ Prod.snd y + iC (cntL (List.drop (Prod.fst y) ts)) ≤ 1000) ∧ meas y < meas x ∧ Prod.snd y + iC (cntL (List.drop (Prod.fst y) ts)) = Prod.snd x + iC (cntL (List.drop (Prod.fst x) ts)) ∧ AV.ptr (14) (0) = AV.ptr (14) (0) ∧ AV.isl bb none (0) (encL ts) = AV.isl bb none (0) (encL ts) ∧
 AV.int IntKind.i64 (iC (List.length (encL ts))) = AV.int IntKind.i64 (iC (List.length (encL ts))) ∧ AV.int IntKind.i64 (IntKind.wrap IntKind.i64 (iC (Prod.fst x) + (1 : Int))) = AV.int IntKind.i64 (iC (Prod.fst y)) ∧ encM es_1 = encM es ∧ c = c ∧ 74 = 74 ∧ SubR [AV.map (0)] [AV.map (0)] (24 = 24 ∧ 24 = 24 ∧ 3 = 3 ∧ AV.int IntKind.i64 left = AV.int IntKind.i64 left ∧ 145 = 145 ∧ SubR [AV.fn (Fn.func (118)) [] [AV.ptr (1) (0), AV.ptr (4) (0), AV.ptr (5) (0)]] [AV.fn (Fn.func (118)) [] [AV.ptr (1) (0), AV.ptr (4) (0), AV.ptr (5) (0)]] (24 = 24 ∧ 3 = 3 ∧
 AV.int IntKind.i64 d = AV.int IntKind.i64 d ∧ 24 = 24 ∧ 24 = 24 ∧ AV.int IntKind.i64 (Ty.kind u) = AV.int IntKind.i64 (Ty.kind u) ∧ AV.int IntKind.i64 (Ty.n u) = AV.int IntKind.i64 (Ty.n u) ∧ AV.isl (Ty.nl u) none (0) (encL l_1) = AV.isl (Ty.nl u) none (0) (encL (Ty.l u)) ∧ 3 = 3 ∧ AV.int IntKind.i64 (Prod.snd x + iC (cnt (Ty.mk (Ty.kind x_1) (Ty.n x_1) (Ty.nl x_1) l))) = AV.int IntKind.i64 (Prod.snd y) ∧ (LoopState.ready = LoopState.ready ∧ (none : Option Code) = none ∧ ((Array.mk (α := Nat) [26]), rA (76) (1), rB (118) (0)) = ((Array.mk (α := Nat) [26]), rA (76) (1), rB (118) (0)) ∧
 11 = 11) ∧ AV.ptr (10) (0) = AV.ptr (10) (0) ∧ 42 = 42 ∧ SubR [AV.fn (Fn.yield (12)) [] []] [AV.fn (Fn.yield (12)) [] []] (42 = 42 ∧ SubR [AV.fn (Fn.func (115)) [] [AV.ptr (13) (0), AV.ptr (14) (0)]] [AV.fn (Fn.func (115)) [] [AV.ptr (13) (0), AV.ptr (14) (0)]] (24 = 24 ∧ 0 = 0 ∧ True))))))))) (true = true ∧ encM es = encM es ∧ c = c ∧ 74 = 74 ∧ SubR [AV.map (0)] [AV.map (0)] (24 = 24 ∧ 24 = 24 ∧ 3 = 3 ∧ AV.int IntKind.i64 left = AV.int IntKind.i64 left ∧ 145 = 145 ∧ SubR [AV.fn (Fn.func (118)) [] [AV.ptr (1) (0), AV.ptr (4) (0), AV.ptr (5) (0)]] [AV.fn (Fn.func (118)) []
 [AV.ptr (1) (0), AV.ptr (4) (0), AV.ptr (5) (0)]] (24 = 24 ∧ 3 = 3 ∧ AV.int IntKind.i64 d = AV.int IntKind.i64 d ∧ 24 = 24 ∧ 24 = 24 ∧ AV.int IntKind.i64 (Ty.kind u) = AV.int IntKind.i64 (Ty.kind u) ∧ AV.int IntKind.i64 (Ty.n u) = AV.int IntKind.i64 (Ty.n u) ∧ AV.isl (Ty.nl u) none (0) (encL (Ty.l u)) = AV.isl (Ty.nl u) none (0) (encL (Ty.l u)) ∧ 3 = 3 ∧ AV.int IntKind.i64 (Prod.snd x) = AV.int IntKind.i64 (Prod.snd x + iC (cntL (List.drop (Prod.fst x) ts))) ∧ (LoopState.ready = LoopState.ready ∧ (none : Option Code) = none ∧ ((Array.mk (α := Nat) [26]), rA (76) (1), rB (118) (0)) =
 ((Array.mk (α := Nat) [26]), rA (76) (1), rB (118) (0)) ∧ 11 = 11) ∧ AV.ptr (10) (0) = AV.ptr (10) (0) ∧ 42 = 42 ∧ SubR [AV.fn (Fn.yield (12)) [] []] [AV.fn (Fn.yield (12)) [] []] (42 = 42 ∧ SubR [AV.fn (Fn.func (115)) [] [AV.ptr (13) (0), AV.ptr (14) (0)]] [AV.fn (Fn.func (115)) [] [AV.ptr (13) (0), AV.ptr (14) (0)]] (24 = 24 ∧ 0 = 0 ∧ True)))))) := by kernel_rfl

theorem cw_top (es : List (Int × Ty × Nat)) (c : Nat) (left d : Int) (u : Ty) (n m : Int) (t : Ty) : (runF (cwH2 es c left d u t.nl t.l) 60 115 [encD t, .ptr 13 0, .ptr 14 0] (cnW (cnH es c left d u n)) (cnPost (cnW (cnH es c left d u m)))) = ( ∃ l, encL (Ty.l t) = encL l ∧ ∃ es_1, encM es = encM es_1 ∧ ∃ l, encL (Ty.l u) = encL l ∧ (0 ≤ n ∧ n ≤ 1000) ∧ encM es = encM es_1 ∧ c = c ∧ 74 = 74 ∧ SubR [AV.map (0)] [AV.map (0)] (24 = 24 ∧ 24 = 24 ∧ 3 = 3 ∧ AV.int IntKind.i64 left = AV.int IntKind.i64 left ∧ 145 = 145 ∧ SubR [AV.fn (Fn.func (118)) [] [AV.ptr (1) (0), AV.ptr (4) (0), AV.ptr (5) (0)]]
 [AV.fn (Fn.func (118)) [] [AV.ptr (1) (0), AV.ptr (4) (0), AV.ptr (5) (0)]] (24 = 24 ∧ 3 = 3 ∧ AV.int IntKind.i64 d = AV.int IntKind.i64 d ∧ 24 = 24 ∧ 24 = 24 ∧ AV.int IntKind.i64 (Ty.kind u) = AV.int IntKind.i64 (Ty.kind u) ∧ AV.int IntKind.i64 (Ty.n u) = AV.int IntKind.i64 (Ty.n u) ∧ AV.isl (Ty.nl u) none (0) (encL (Ty.l u)) = AV.isl (Ty.nl u) none (0) (encL l) ∧ 3 = 3 ∧ AV.int IntKind.i64 n = AV.int IntKind.i64 n ∧ (LoopState.ready = LoopState.ready ∧ (none : Option Code) = none ∧ ((Array.mk (α := Nat) [26]), rA (76) (1), rB (118) (0)) =
 ((Array.mk (α := Nat) [26]), rA (76) (1), rB (118) (0)) ∧ 11 = 11) ∧ AV.ptr (10) (0) = AV.ptr (10) (0) ∧ 0 = 0 ∧ codeIs (loopOf Tryz.prog 115 0) Tryz.prog 115 0 (∃ x, (Prod.fst x ≤ List.length (Ty.l t) ∧ cntL (Ty.l t) ≤ 1000 ∧ 0 ≤ Prod.snd x ∧ Prod.snd x + iC (cntL (List.drop (Prod.fst x) (Ty.l t))) ≤ 1000) ∧ AV.ptr (14) (0) = AV.ptr (14) (0) ∧ AV.isl (Ty.nl t) none (0) (encL (Ty.l t)) = AV.isl (Ty.nl t) none (0) (encL (Ty.l t)) ∧ AV.int IntKind.i64 (iC (List.length (encL (Ty.l t)))) = AV.int IntKind.i64 (iC (List.length (encL (Ty.l t)))) ∧
 AV.int IntKind.i64 (0) = AV.int IntKind.i64 (iC (Prod.fst x)) ∧ encM es_1 = encM es ∧ c = c ∧ 74 = 74 ∧ SubR [AV.map (0)] [AV.map (0)] (24 = 24 ∧ 24 = 24 ∧ 3 = 3 ∧ AV.int IntKind.i64 left = AV.int IntKind.i64 left ∧ 145 = 145 ∧ SubR [AV.fn (Fn.func (118)) [] [AV.ptr (1) (0), AV.ptr (4) (0), AV.ptr (5) (0)]] [AV.fn (Fn.func (118)) [] [AV.ptr (1) (0), AV.ptr (4) (0), AV.ptr (5) (0)]] (24 = 24 ∧ 3 = 3 ∧ AV.int IntKind.i64 d = AV.int IntKind.i64 d ∧ 24 = 24 ∧ 24 = 24 ∧ AV.int IntKind.i64 (Ty.kind u) = AV.int IntKind.i64 (Ty.kind u) ∧ AV.int IntKind.i64 (Ty.n u) = AV.int IntKind.i64 (Ty.n u) ∧
 AV.isl (Ty.nl u) none (0) (encL l) = AV.isl (Ty.nl u) none (0) (encL (Ty.l u)) ∧ 3 = 3 ∧ AV.int IntKind.i64 (n + (1 : Int)) = AV.int IntKind.i64 (Prod.snd x) ∧ (LoopState.ready = LoopState.ready ∧ (none : Option Code) = none ∧ ((Array.mk (α := Nat) [26]), rA (76) (1), rB (118) (0)) = ((Array.mk (α := Nat) [26]), rA (76) (1), rB (118) (0)) ∧ 11 = 11) ∧ AV.ptr (10) (0) = AV.ptr (10) (0) ∧ 42 = 42 ∧ SubR [AV.fn (Fn.yield (12)) [] []] [AV.fn (Fn.yield (12)) [] []] (42 = 42 ∧ SubR [AV.fn (Fn.func (115)) [] [AV.ptr (13) (0), AV.ptr (14) (0)]] [AV.fn (Fn.func (115)) [] [AV.ptr (13) (0),
 AV.ptr (14) (0)]] (24 = 24 ∧ 0 = 0 ∧ encM es = encM es ∧ c = c ∧ 74 = 74 ∧ SubR [AV.map (0)] [AV.map (0)] (24 = 24 ∧ 24 = 24 ∧ 3 = 3 ∧ AV.int IntKind.i64 left = AV.int IntKind.i64 left ∧ 145 = 145 ∧ SubR [AV.fn (Fn.func (118)) [] [AV.ptr (1) (0), AV.ptr (4) (0), AV.ptr (5) (0)]] [AV.fn (Fn.func (118)) [] [AV.ptr (1) (0), AV.ptr (4) (0), AV.ptr (5) (0)]] (24 = 24 ∧ 3 = 3 ∧ AV.int IntKind.i64 d = AV.int IntKind.i64 d ∧ 24 = 24 ∧ 24 = 24 ∧ AV.int IntKind.i64 (Ty.kind u) = AV.int IntKind.i64 (Ty.kind u) ∧ AV.int IntKind.i64 (Ty.n u) = AV.int IntKind.i64 (Ty.n u) ∧ AV.isl (Ty.nl u) none (0) (encL
 (Ty.l u)) = AV.isl (Ty.nl u) none (0) (encL (Ty.l u)) ∧ 3 = 3 ∧ AV.int IntKind.i64 (Prod.snd x + iC (cntL (List.drop (Prod.fst x) (Ty.l t)))) = AV.int IntKind.i64 m ∧ (LoopState.ready = LoopState.ready ∧ (none : Option Code) = none ∧ ((Array.mk (α := Nat) [26]), rA (76) (1), rB (118) (0)) = ((Array.mk (α := Nat) [26]), rA (76) (1), rB (118) (0)) ∧ 11 = 11) ∧ AV.ptr (10) (0) = AV.ptr (10) (0) ∧ 42 = 42 ∧ SubR [AV.fn (Fn.yield (12)) [] []] [AV.fn (Fn.yield (12)) [] []] (42 = 42 ∧ SubR [AV.fn (Fn.func (115)) [] [AV.ptr (13) (0), AV.ptr (14) (0)]] [AV.fn (Fn.func (115)) [] [AV.ptr (13) (0),
 AV.ptr (14) (0)]] (0 = 0 ∧ True)))))))))))) := by kernel_rfl

end Go.Proofs.YtnmolpkkemljoaaGreatDoor
end
end

section
set_option maxRecDepth 100000
set_option linter.unusedSimpArgs false
set_option linter.unusedVariables false
noncomputable section
namespace Go.Proofs.YtnmolpkkemljoaaGreatDoor
open Go Go.Am Kd

theorem entM_inj {x y : Int × Ty × Nat} (h : entM x = entM y) : x = y := by
  obtain ⟨a, t, i⟩ := x
  obtain ⟨b, u, j⟩ := y
  simp only [entM, Prod.mk.injEq, AV.int.injEq, true_and] at h
  obtain ⟨rfl, h2, rfl⟩ := h
  have : enc t = enc u := by rw [enc_D, enc_D]; exact h2
  rw [enc_inj this]
theorem encM_inj {l m : List (Int × Ty × Nat)} (h : encM l = encM m) : l = m := by
  induction l generalizing m with
  | nil => cases m <;> simp_all [encM]
  | cons x l ih =>
    cases m with
    | nil => simp [encM] at h
    | cons y m =>
      simp only [encM, List.map_cons, List.cons.injEq] at h
      rw [entM_inj h.1, ih h.2]
theorem ex_encM {l : List (Int × Ty × Nat)} {P : List (Int × Ty × Nat) → Prop} : (∃ l', encM l = encM l' ∧ P l') = P l :=
  propext ⟨fun ⟨l', h, hp⟩ => by rw [encM_inj h]; exact hp, fun h => ⟨l, rfl, h⟩⟩
theorem encM_bnd (n nf : Nat) (l : List (Int × Ty × Nat)) : bndM n nf (encM l) = true := by
  induction l with
  | nil => rfl
  | cons x l ih =>
    simp only [encM, List.map_cons, entM, bndM, AV.bnd, Bool.true_and, Bool.and_eq_true]
    exact ⟨AV.still_bnd n nf _ (encD_still _), ih⟩

theorem cnPost_ok {A' : AH} {o : AFin} (hA : A'.fams = []) (h : cnPost A' o) : hpIs 0 (.returned (.bool true)) A' o := by
  unfold cnPost at h
  split at h
  · rename_i he
    exact ⟨he, by rw [hA]; exact h⟩
  · exact h.elim

theorem cn_ok (es : List (Int × Ty × Nat)) (c : Nat) (left d : Int) (u : Ty) (n : Int) : (cnH es c left d u n).ok 13 0 = true := by
  simp [AH.ok, cnH, pwB, top3, tyC, ABlk.bnd, AV.bnd, encL_bnd, AV.bndL, encM_bnd, frm]; rfl
theorem cnW_ok (es : List (Int × Ty × Nat)) (c : Nat) (left d : Int) (u : Ty) (n : Int) : (cnW (cnH es c left d u n)).ok 15 0 = true := by
  simp [AH.ok, cnW, cnH, pwB, top3, tyC, ABlk.bnd, AV.bnd, encL_bnd, AV.bndL, encM_bnd, frm]; rfl

theorem cn_round_ok (es : List (Int × Ty × Nat)) (c : Nat) (left d : Int) (u : Ty) (n : Int) (t : Ty) (h0 : 0 ≤ n) (h1 : n ≤ 1000) : RoundJ Tryz.prog g0 12 [enc t] (cnH es c left d u n) (hpIs 0 (.returned (.bool true)) (cnH es c left d u (n + 1))) := by
  refine RoundJ.mono (K := cnPost (cnH es c left d u (n + 1))) ?_ fun o ho => cnPost_ok rfl ho
  rw [enc_D]
  refine RoundJ.run (el := els) (mu := mu0) (hk := hk0) hmix hk0_ok (n := 60) ?_
  show runR hk0 60 12 [encD t] (cnH es c left d u n) _
  rw [cn_round]
  simp only [eq_self, true_and, and_true, SubR_id, AV.int.injEq]
  rw [wrap_id (by omega) (by omega)]

theorem argCn_elim {A : AH} {K : List (Int × Ty × Nat) → Nat → Int → Int → Ty → Int → Prop} (h : argCn A K) : ∃ es c left d u n, K es c left d u n := by
  unfold argCn at h
  split at h
  · obtain ⟨es, _, l, _, h⟩ := h
    exact ⟨es, _, _, _, _, _, h⟩
  · exact h.elim

theorem cnRound_ok : RSpec.Ok Tryz.prog g0 cnRound := by
  intro l args A K h'
  unfold cnRound at h'
  split at h'
  · obtain ⟨t, rfl, h⟩ := argTy_elim h'
    obtain ⟨es, c, left, d, u, n, ⟨h1, h2⟩, h⟩ := argCn_elim h
    obtain ⟨hK, hr⟩ := RoundJ.on (n := 13) h (cn_round_ok es c left d u n t h1 h2) (cn_ok ..) (cn_ok ..) (by simp [AV.bndL, AV.still_bnd, enc_still]) rfl (by omega)
    exact hr.mono fun o ho => by subst ho; exact hK
  · exact h'.elim

def CWalkJ (es : List (Int × Ty × Nat)) (c : Nat) (left d : Int) (u : Ty) (n : Int) (t : Ty) : Prop := FJ 115 [enc t, .ptr 13 0, .ptr 14 0] (cnW (cnH es c left d u n)) (hpIs 0 (.returned (.bool true)) (cnW (cnH es c left d u (n + cnt t))))

theorem cwalk_hook {N : Nat} (ih : ∀ (es : List (Int × Ty × Nat)) (c : Nat) (left d : Int) (u : Ty) (n : Int) (t : Ty), SizeOf.sizeOf t < N → cnt t ≤ 1000 → 0 ≤ n → n + cnt t ≤ 1000 → CWalkJ es c left d u n t) : HSpec.Ok Tryz.prog g0 115 (cwalkH N) := by
  intro args A K h'
  unfold cwalkH at h'
  split at h'
  · obtain ⟨t, rfl, h⟩ := argTy_elim h'
    obtain ⟨es, c, left, d, u, n, ⟨h1, h2, h3, h4⟩, h⟩ := argCn_elim h
    obtain ⟨hK, hr⟩ := FuncJ.on (n := 15) h (ih es c left d u n t h1 h2 h3 h4) (cnW_ok ..) (cnW_ok ..) (by simp [AV.bndL, AV.bnd, AV.still_bnd, enc_still]) rfl
    exact ⟨_, hr, hK⟩
  · exact h'.elim

theorem cwalk_ok (es : List (Int × Ty × Nat)) (c : Nat) (left d : Int) (u : Ty) (n : Int) (t : Ty) (hc : cnt t ≤ 1000) (h0 : 0 ≤ n) (h1 : n + cnt t ≤ 1000) : CWalkJ es c left d u n t := by
  have key : ∀ (N : Nat) (es : List (Int × Ty × Nat)) (c : Nat) (left d : Int) (u : Ty) (n : Int) (t : Ty), SizeOf.sizeOf t < N → cnt t ≤ 1000 → 0 ≤ n → n + cnt t ≤ 1000 → CWalkJ es c left d u n t := by
    intro N
    induction N with
    | zero => intro es c left d u n t h; omega
    | succ N ih =>
      intro es c left d u n t ht hc h0 h1
      obtain ⟨k, n0, nl, ts⟩ := t
      simp only [cnt] at hc h1
      simp only [Ty.mk.sizeOf_spec] at ht
      have hlc := len_cnt ts
      have hl : LHook.Ok Tryz.prog g0 ⟨115, 0, (cwSt es c left d u nl ts).spec⟩ := by
        refine LSt.by (hk := cwH1 N) (cwSt es c left d u nl ts) (fun x => ts.length - x.1) (mkHooks_ok all_nil (all_cons (cwalk_hook ih) all_nil) all_nil) rfl ?_ ?_ ?_
        · intro x _
          exact Whole.frm rfl rfl (by simp [cwSt, AV.bnd, encL_bnd]) (by simp [cwSt, cnX, cnW, cnH, pwB, top3, tyC, ABlk.bnd, AV.bnd, encL_bnd, AV.bndL, encM_bnd, frm]; rfl)
        · intro x b' _
          exact Whole.frm rfl rfl rfl (by simp [cwSt, cnX, cnW, cnH, pwB, top3, tyC, ABlk.bnd, AV.bnd, encL_bnd, AV.bndL, encM_bnd, frm]; rfl)
        · rintro ⟨i, m⟩ ⟨hi, _, hm0, hm⟩
          simp only at hi hm0 hm
          rw [cw_loop]
          simp only [iC, encL_length, eq_self, true_and, and_true, Int.toNat_natCast, AV.int.injEq, SubR_id, ex_encM]
          refine bothR_dec (fun hlt => ?_) fun hge => ?_
          · have hi' : i < ts.length := by omega
            have hs := List.sizeOf_lt_of_mem (List.getElem_mem hi')
            have hg := cnt_get hi'
            have hd := cntL_drop ts i hi'
            rw [ex_get hi']
            simp only [ex_enc, Ty.eta]
            refine ⟨by omega, ⟨by omega, by omega, by omega, by omega⟩, trivial, (i + 1, m + cnt ts[i]), ⟨by simp only; omega, by omega, by simp only; omega, by simp only; omega⟩, by simp only; omega, by simp only; omega, ?_⟩
            rw [wrap_id (by omega) (by omega)]
            simp
          · rw [List.drop_of_length_le (by omega)]
            simp [cntL]
      refine FuncJ.mono (K := cnPost (cnW (cnH es c left d u (n + cnt (.mk k n0 nl ts))))) ?_ fun o ho => cnPost_ok rfl ho
      rw [enc_D]
      refine FuncJ.run (el := els) (mu := mu0) (hk := cwH2 es c left d u nl ts) hmix (mkHooks_ok all_nil all_nil (all_cons hl all_nil) (by intro s hs; cases hs; exact cnRound_ok)) (n := 60) ?_
      show runF (cwH2 es c left d u (Ty.mk k n0 nl ts).nl (Ty.mk k n0 nl ts).l) 60 115 _ (cnW (cnH es c left d u n)) _
      rw [cw_top]
      simp only [eq_self, true_and, and_true, SubR_id, codeIs_self, iC, ex_enc, ex_encM, Ty.eta, tl_mk, AV.int.injEq]
      refine ⟨⟨h0, by omega⟩, (0, n + 1), ⟨by simp, by omega, by simp only; omega, by simp only [List.drop_zero]; omega⟩, rfl, rfl, ?_⟩
      simp only [List.drop_zero, cnt]
      omega
  exact key _ es c left d u n t (Nat.lt_succ_self _) hc h0 h1
theorem cwalk_hook0 : HSpec.Ok Tryz.prog g0 115 cwalkH0 := by
  intro args A K h'
  unfold cwalkH0 at h'
  split at h'
  · obtain ⟨t, rfl, h⟩ := argTy_elim h'
    obtain ⟨es, c, left, d, u, n, ⟨h2, h3, h4⟩, h⟩ := argCn_elim h
    obtain ⟨hK, hr⟩ := FuncJ.on (n := 15) h (cwalk_ok es c left d u n t h2 h3 h4) (cnW_ok ..) (cnW_ok ..) (by simp [AV.bndL, AV.bnd, AV.still_bnd, enc_still]) rfl
    exact ⟨_, hr, hK⟩
  · exact h'.elim

end Go.Proofs.YtnmolpkkemljoaaGreatDoor
end
end

section
namespace Kd
open Go.Am Go.Proofs.YtnmolpkkemljoaaGreatDoor
def boundM : List (Int × Ty × Nat) → Int → Option Ty
  | [], _ => none
  | x :: l, n => if n = x.1 then some x.2.1 else boundM l n
mutual
/-- What put makes of a type. -/
def pwT (es : List (Int × Ty × Nat)) : Ty → Ty
  | .mk k n _ l => if k = 6 ∧ (boundM es n).isSome = true then cleanT ((boundM es n).getD (varT n)) else .mk k n (nilB l) (pwL es l)
def pwL (es : List (Int × Ty × Nat)) : List Ty → List Ty
  | [] => []
  | x :: xs => pwT es x :: pwL es xs
end
def okMs (es : List (Int × Ty × Nat)) : Prop := ∀ x ∈ es, okT x.2.1 = true ∧ cnt x.2.1 ≤ 100
end Kd
noncomputable section
namespace Go.Proofs.YtnmolpkkemljoaaGreatDoor
open Go Go.Am Kd

def pwA (es : List (Int × Ty × Nat)) (c : Nat) (left : Int) : AH := ⟨pwB es c left, []⟩
def pwM (es : List (Int × Ty × Nat)) (c : Nat) (left d : Int) (u : Ty) : AH := ⟨pwB es c left ++ [tyC u, .cells [.int .i64 d] 3], []⟩

def argPw (A : AH) (K : List (Int × Ty × Nat) → Nat → Int → Prop) : Prop :=
  match nthR A.blks 0, nthR A.blks 4 with
  | some (.map m c), some (.cells [.int .i64 left] 3) => ∃ es, m = encM es ∧ K es c left
  | _, _ => False
def argPm (A : AH) (K : List (Int × Ty × Nat) → Nat → Int → Int → Ty → Prop) : Prop :=
  match nthR A.blks 0, nthR A.blks 4, nthR A.blks 6, nthR A.blks 7 with
  | some (.map m c), some (.cells [.int .i64 left] 3), some (.cells [.int .i64 k, .int .i64 q, .isl b none 0 xs] 24), some (.cells [.int .i64 d] 3) => ∃ es, m = encM es ∧ ∃ l, xs = encL l ∧ K es c left d (.mk k q b l)
  | _, _, _, _ => False

def pwalkH (N : Nat) : HSpec := fun args A K =>
  match args with
  | [t, .int .i64 _, .ptr 1 0, .ptr 4 0, .ptr 5 0] => argTy t fun t => argPw A fun es c left => (SizeOf.sizeOf t < N ∧ okT t = true ∧ okMs es ∧ (cnt (pwT es t) : Int) ≤ left ∧ left ≤ 1000) ∧ onR 0 A (pwA es c left) (K ⟨.returned (encD (pwT es t)), (pwA es c (left - cnt (pwT es t))).onto A⟩)
  | _ => False
def pmapH (N : Nat) : HSpec := fun args A K =>
  match args with
  | [.isl _ none 0 xs, .fn (.func 119) [] [.ptr 5 0, .ptr 7 0]] => ∃ l, xs = encL l ∧ argPm A fun es c left d u => (SizeOf.sizeOf l < N ∧ (l.length ≤ 2 ∧ okL l = true) ∧ okMs es ∧ (cntL (pwL es l) : Int) ≤ left ∧ left ≤ 1000) ∧ onR 0 A (pwM es c left d u) (K ⟨.returned (.isl (nilB l) none 0 (encL (pwL es l))), (pwM es c (left - cntL (pwL es l)) d u).onto A⟩)
  | _ => False
def pmHk (N : Nat) : Hooks := mkHooks Tryz.prog [] [(118, pwalkH N)] []
def pwHk (N : Nat) : Hooks := mkHooks Tryz.prog [(68, kclQ0), (80, partsQ)] [(115, cwalkH0), (103, pmapH N)] []

end Go.Proofs.YtnmolpkkemljoaaGreatDoor
end
end
