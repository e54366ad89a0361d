/-
  What the proof is built of: Lists of numbers, and types, that are the same; the variables of a type, by the reference. The conditions of K17, evaluated. Lists of numbers, and types, that are the same; the variables of a type: what the reference's functions come to. Types with bindings put in them, numbered types: the reference's functions. Bindings, texts and numbers that are handed over, read in memory. Types with bindings put in them, numbered types: what the reference's functions come to. The program's Vars: the range and its walk. The program's clean comes to what the reference's does. put: its walk. put: its walk comes to what it says. The program's Number. A numbered type: put and the reference's With make the same of it, and it is valid. Conditions: none.
-/
import Derived.Test.YtnmolpkkemljoaaGreatDoorM6
import Derived.Test.YtnmolpkkemljoaaGreatDoorM7
import Derived.ChangeMaps5
section
namespace Kd
open Go.Am Go.Proofs.YtnmolpkkemljoaaGreatDoor

mutual
def sameB : Ty → Ty → Bool
  | .mk k n _ l, .mk k' n' _ l' => decide (k = k') && ((!decide (k = 6) || decide (n = n')) && (decide (l.length = l'.length) && sameL l l'))
def sameL : List Ty → List Ty → Bool
  | x :: xs, y :: ys => sameB x y && sameL xs ys
  | _, _ => true
end

def addV (l : List Int) (n : Int) : List Int := if l.contains n then l else l ++ [n]
mutual
/-- The variables, behind some. -/
def firstT : Ty → List Int → List Int
  | .mk k n _ l, xs => firstL l (if k = 6 then addV xs n else xs)
def firstL : List Ty → List Int → List Int
  | [], xs => xs
  | x :: l, xs => firstL l (firstT x xs)
end
end Kd
noncomputable section
namespace Go.Proofs.YtnmolpkkemljoaaGreatDoor
open Go Go.Am Kd

def tyC (t : Ty) : ABlk := .cells [.int .i64 t.kind, .int .i64 t.n, .isl t.nl none 0 (encL t.l)] 24
def saSt (t u : Ty) : LSt Nat Bool where
  n := 2
  nf := 0
  rd := none
  fr x := frm 51 [(2, .ptr 0 0), (3, .ptr 1 0), (5, .int .i64 x)]
  hp _ := ⟨[tyC t, tyC u], []⟩
  inv x := x ≤ t.l.length ∧ t.l.length = u.l.length
  res x := sameL (t.l.drop x) (u.l.drop x)
  sel r := r
  out b' _ := match b' with
    | true => ⟨.exit 0, frm 51 [], ⟨[tyC t, tyC u], []⟩⟩
    | false => ⟨.ret, frm 51 [(4, .bool false)], ⟨[tyC t, tyC u], []⟩⟩
def saQ (N : Nat) : QSpec
  | [t, u], K => argTy t fun t => argTy u fun u => (SizeOf.sizeOf t < N ∧ cnt t ≤ 1000 ∧ cnt u ≤ 1000) ∧ K (.bool (sameB t u))
  | _, _ => False
def saH (N : Nat) : Hooks := hooks [(23, saQ N)] [] []
def saH' (t u : Ty) : Hooks := hooks [] [] [(4, ⟨23, 0, (saSt t u).spec⟩)]

structure FSt where
  i : Nat
  b : Bool
  l : List Int
  e : Nat
end Go.Proofs.YtnmolpkkemljoaaGreatDoor
end
end

section
noncomputable section
namespace Go.Proofs.YtnmolpkkemljoaaGreatDoor
open Go Go.Am Kd
set_option maxRecDepth 100000

theorem sa_loop (t u : Ty) (N : Nat) (meas : Nat → Nat) (x : Nat) : (runL (saH N) 60 23 0 (saSt t u) meas x) = ( bothR (decide (iC x < iC (List.length (encL (Ty.l t))))) (0 ≤ iC x ∧ ∃ x_1, (encL (Ty.l t))[Int.toNat (iC x)]? = some (AV.agg [AV.int IntKind.i64 (Ty.kind x_1), AV.int IntKind.i64 (Ty.n x_1), AV.isl (Ty.nl x_1) none (0) (encL (Ty.l x_1))]) ∧ 0 ≤ iC x ∧ ∃ x_2, (encL (Ty.l u))[Int.toNat (iC x)]? = some (AV.agg [AV.int IntKind.i64 (Ty.kind x_2), AV.int IntKind.i64 (Ty.n x_2), AV.isl (Ty.nl x_2) none (0) (encL (Ty.l x_2))]) ∧ ∃ l, encL (Ty.l x_1) = encL l ∧ ∃ l_1,
 encL (Ty.l x_2) = encL l_1 ∧ (SizeOf.sizeOf (Ty.mk (Ty.kind x_1) (Ty.n x_1) (Ty.nl x_1) l) < N ∧ cnt (Ty.mk (Ty.kind x_1) (Ty.n x_1) (Ty.nl x_1) l) ≤ 1000 ∧ cnt (Ty.mk (Ty.kind x_2) (Ty.n x_2) (Ty.nl x_2) l_1) ≤ 1000) ∧ bothR (!sameB (Ty.mk (Ty.kind x_1) (Ty.n x_1) (Ty.nl x_1) l) (Ty.mk (Ty.kind x_2) (Ty.n x_2) (Ty.nl x_2) l_1)) (sameL (List.drop x (Ty.l t)) (List.drop x (Ty.l u)) = false ∧ AV.bool false = AV.bool false ∧ 24 = 24 ∧ AV.int IntKind.i64 (Ty.kind t) = AV.int IntKind.i64 (Ty.kind t) ∧ AV.int IntKind.i64 (Ty.n t) = AV.int IntKind.i64 (Ty.n t) ∧
 AV.isl (Ty.nl t) none (0) (encL (Ty.l t)) = AV.isl (Ty.nl t) none (0) (encL (Ty.l t)) ∧ 24 = 24 ∧ AV.int IntKind.i64 (Ty.kind u) = AV.int IntKind.i64 (Ty.kind u) ∧ AV.int IntKind.i64 (Ty.n u) = AV.int IntKind.i64 (Ty.n u) ∧ AV.isl (Ty.nl u) none (0) (encL (Ty.l u)) = AV.isl (Ty.nl u) none (0) (encL (Ty.l u)) ∧ 0 = 0 ∧ True) (∃ y, (y ≤ List.length (Ty.l t) ∧ List.length (Ty.l t) = List.length (Ty.l u)) ∧ meas y < meas x ∧ sameL (List.drop y (Ty.l t)) (List.drop y (Ty.l u)) = sameL (List.drop x (Ty.l t)) (List.drop x (Ty.l u)) ∧ AV.ptr (0) (0) = AV.ptr (0) (0) ∧
 AV.ptr (1) (0) = AV.ptr (1) (0) ∧ AV.int IntKind.i64 (IntKind.wrap IntKind.i64 (iC x + (1 : Int))) = AV.int IntKind.i64 (iC y) ∧ 24 = 24 ∧ AV.int IntKind.i64 (Ty.kind t) = AV.int IntKind.i64 (Ty.kind t) ∧ AV.int IntKind.i64 (Ty.n t) = AV.int IntKind.i64 (Ty.n t) ∧ AV.isl (Ty.nl t) none (0) (encL (Ty.l t)) = AV.isl (Ty.nl t) none (0) (encL (Ty.l t)) ∧ 24 = 24 ∧ AV.int IntKind.i64 (Ty.kind u) = AV.int IntKind.i64 (Ty.kind u) ∧ AV.int IntKind.i64 (Ty.n u) = AV.int IntKind.i64 (Ty.n u) ∧ AV.isl (Ty.nl u) none (0) (encL (Ty.l u)) = AV.isl (Ty.nl u) none (0) (encL (Ty.l u)) ∧ 0 = 0 ∧ True))
 (sameL (List.drop x (Ty.l t)) (List.drop x (Ty.l u)) = true ∧ 24 = 24 ∧ AV.int IntKind.i64 (Ty.kind t) = AV.int IntKind.i64 (Ty.kind t) ∧ AV.int IntKind.i64 (Ty.n t) = AV.int IntKind.i64 (Ty.n t) ∧ AV.isl (Ty.nl t) none (0) (encL (Ty.l t)) = AV.isl (Ty.nl t) none (0) (encL (Ty.l t)) ∧ 24 = 24 ∧ AV.int IntKind.i64 (Ty.kind u) = AV.int IntKind.i64 (Ty.kind u) ∧ AV.int IntKind.i64 (Ty.n u) = AV.int IntKind.i64 (Ty.n u) ∧ AV.isl (Ty.nl u) none (0) (encL (Ty.l u)) = AV.isl (Ty.nl u) none (0) (encL (Ty.l u)) ∧ 0 = 0 ∧ True)) := by kernel_rfl

theorem sa_top (t u : Ty) (r : Bool) : (runF (saH' t u) 60 23 [encD t, encD u] AH.nil (retIs Tryz.prog 5 (.bool r))) = ( bothR (!decide (Ty.kind t = Ty.kind u)) (AV.bool false = AV.bool r) (bothR (decide (Ty.kind t = (6 : Int))) (bothR (!decide (Ty.n t = Ty.n u)) (AV.bool false = AV.bool r) (bothR (!decide (iC (List.length (encL (Ty.l t))) = iC (List.length (encL (Ty.l u))))) (AV.bool false = AV.bool r) (codeIs (loopOf Tryz.prog 23 0) Tryz.prog 23 0 (∃ x, (x ≤ List.length (Ty.l t) ∧ List.length (Ty.l t) = List.length (Ty.l u)) ∧ AV.ptr (0) (0) = AV.ptr (0) (0) ∧
 AV.ptr (1) (0) = AV.ptr (1) (0) ∧ AV.int IntKind.i64 (0) = AV.int IntKind.i64 (iC x) ∧ 24 = 24 ∧ AV.int IntKind.i64 (Ty.kind t) = AV.int IntKind.i64 (Ty.kind t) ∧ AV.int IntKind.i64 (Ty.n t) = AV.int IntKind.i64 (Ty.n t) ∧ AV.isl (Ty.nl t) none (0) (encL (Ty.l t)) = AV.isl (Ty.nl t) none (0) (encL (Ty.l t)) ∧ 24 = 24 ∧ AV.int IntKind.i64 (Ty.kind u) = AV.int IntKind.i64 (Ty.kind u) ∧ AV.int IntKind.i64 (Ty.n u) = AV.int IntKind.i64 (Ty.n u) ∧ AV.isl (Ty.nl u) none (0) (encL (Ty.l u)) = AV.isl (Ty.nl u) none (0) (encL (Ty.l u)) ∧ 0 = 0 ∧
 bothR (sameL (List.drop x (Ty.l t)) (List.drop x (Ty.l u))) (AV.bool true = AV.bool r) (AV.bool false = AV.bool r))))) (bothR (!decide (iC (List.length (encL (Ty.l t))) = iC (List.length (encL (Ty.l u))))) (AV.bool false = AV.bool r) (codeIs (loopOf Tryz.prog 23 0) Tryz.prog 23 0 (∃ x, (x ≤ List.length (Ty.l t) ∧ List.length (Ty.l t) = List.length (Ty.l u)) ∧ AV.ptr (0) (0) = AV.ptr (0) (0) ∧ AV.ptr (1) (0) = AV.ptr (1) (0) ∧ AV.int IntKind.i64 (0) = AV.int IntKind.i64 (iC x) ∧ 24 = 24 ∧ AV.int IntKind.i64 (Ty.kind t) = AV.int IntKind.i64 (Ty.kind t) ∧
 AV.int IntKind.i64 (Ty.n t) = AV.int IntKind.i64 (Ty.n t) ∧ AV.isl (Ty.nl t) none (0) (encL (Ty.l t)) = AV.isl (Ty.nl t) none (0) (encL (Ty.l t)) ∧ 24 = 24 ∧ AV.int IntKind.i64 (Ty.kind u) = AV.int IntKind.i64 (Ty.kind u) ∧ AV.int IntKind.i64 (Ty.n u) = AV.int IntKind.i64 (Ty.n u) ∧ AV.isl (Ty.nl u) none (0) (encL (Ty.l u)) = AV.isl (Ty.nl u) none (0) (encL (Ty.l u)) ∧ 0 = 0 ∧ bothR (sameL (List.drop x (Ty.l t)) (List.drop x (Ty.l u))) (AV.bool true = AV.bool r) (AV.bool false = AV.bool r)))))) := by kernel_rfl

end Go.Proofs.YtnmolpkkemljoaaGreatDoor
end
end

section
set_option maxRecDepth 100000
set_option linter.unusedSimpArgs false
noncomputable section
namespace Go.Proofs.YtnmolpkkemljoaaGreatDoor
open Go Go.Am Kd

theorem tl_mk (k n : Int) (b : Bool) (l : List Ty) : (Ty.mk k n b l).l = l := rfl
theorem tk_mk (k n : Int) (b : Bool) (l : List Ty) : (Ty.mk k n b l).kind = k := rfl
theorem tn_mk (k n : Int) (b : Bool) (l : List Ty) : (Ty.mk k n b l).n = n := rfl
theorem tb_mk (k n : Int) (b : Bool) (l : List Ty) : (Ty.mk k n b l).nl = b := rfl
theorem sa_hook {N : Nat} (ih : ∀ t u, SizeOf.sizeOf t < N → cnt t ≤ 1000 → cnt u ≤ 1000 → QJ 23 [enc t, enc u] (.bool (sameB t u))) : QSpec.Ok Tryz.prog g0 23 (saQ N) := by
  intro args K h'
  unfold saQ at h'
  split at h'
  · obtain ⟨t, rfl, h1⟩ := argTy_elim h'
    obtain ⟨u, rfl, h2, h3⟩ := argTy_elim h1
    exact ⟨_, ih t u h2.1 h2.2.1 h2.2.2, h3⟩
  · exact h'.elim

theorem same_ok (t u : Ty) (hc : cnt t ≤ 1000) (hd : cnt u ≤ 1000) : QJ 23 [enc t, enc u] (.bool (sameB t u)) := by
  have key : ∀ (N : Nat) (t u : Ty), SizeOf.sizeOf t < N → cnt t ≤ 1000 → cnt u ≤ 1000 → QJ 23 [enc t, enc u] (.bool (sameB t u)) := by
    intro N
    induction N with
    | zero => intro t u h; omega
    | succ N ih =>
      intro t u ht hc hd
      have hl : LHook.Ok Tryz.prog g0 ⟨23, 0, (saSt t u).spec⟩ := by
        refine LSt.by (hk := saH N) (saSt t u) (fun x => t.l.length - x) (mkHooks_ok (all_cons (sa_hook ih) all_nil) all_nil all_nil) rfl ?_ ?_ ?_
        · intro x _
          exact Whole.frm rfl rfl rfl (by simp [saSt, tyC, ABlk.bnd, AV.bndL, AV.bnd, encL_bnd])
        · intro x b' _
          cases b' <;> exact Whole.frm rfl rfl rfl (by simp [saSt, tyC, ABlk.bnd, AV.bndL, AV.bnd, encL_bnd])
        · rintro i ⟨hi, he⟩
          obtain ⟨k, n, b, l⟩ := t
          obtain ⟨k', n', b', l'⟩ := u
          simp only [tl_mk] at hi he
          simp only [cnt] at hc hd
          simp only [Ty.mk.sizeOf_spec] at ht
          have hlc := len_cnt l
          rw [sa_loop]
          simp only [iC, encL_length, eq_self, true_and, and_true, Int.toNat_natCast, AV.int.injEq, tl_mk]
          refine bothR_dec (fun hlt => ?_) fun hge => ?_
          · have hi' : i < l.length := by omega
            have hj' : i < l'.length := by omega
            have hs := List.sizeOf_lt_of_mem (List.getElem_mem hi')
            have hg := cnt_get hi'
            have hg' := cnt_get hj'
            have hd : l.drop i = l[i] :: l.drop (i + 1) := List.drop_eq_getElem_cons hi'
            have hd' : l'.drop i = l'[i] :: l'.drop (i + 1) := List.drop_eq_getElem_cons hj'
            rw [ex_get hi']
            refine ⟨by omega, by omega, ?_⟩
            rw [ex_get hj']
            simp only [ex_enc, Ty.eta]
            refine ⟨⟨by omega, by omega, by omega⟩, bothR_nbool (fun hb => ?_) fun hb => ⟨i + 1, ⟨by omega, he⟩, by omega, ?_, ?_⟩⟩
            · rw [hd, hd']; simp only [sameL, hb, Bool.false_and]
            · rw [hd, hd']; simp only [sameL, hb, Bool.true_and]
            · rw [wrap_id (by omega) (by omega)]; rfl
          · rw [List.drop_of_length_le (by omega), List.drop_of_length_le (by omega)]; rfl
      rw [enc_D, enc_D]
      refine QJ.by (hk := saH' t u) (by rw [← enc_D, ← enc_D]; simp [AV.stillL, enc_still]) rfl (mkHooks_ok all_nil all_nil (all_cons hl all_nil)) ?_
      rw [sa_top]
      obtain ⟨k, n, b, l⟩ := t
      obtain ⟨k', n', b', l'⟩ := u
      simp only [iC, encL_length, eq_self, true_and, codeIs_self, AV.bool.injEq, AV.int.injEq, sameB, tk_mk, tn_mk, tl_mk]
      have fin : bothR (sameL (List.drop 0 l) (List.drop 0 l')) (true = sameL l l') (false = sameL l l') := by
        rw [List.drop_zero, List.drop_zero]
        exact bothR_bool (fun h => h.symm) fun h => h.symm
      refine bothR_ndec (fun h => by rw [decide_eq_false h]; rfl) fun hk => bothR_dec (fun h6 => bothR_ndec (fun hn => ?_) fun hn => bothR_ndec (fun hl => ?_) fun hl => ⟨0, ⟨by omega, by omega⟩, rfl, ?_⟩) fun h6 => bothR_ndec (fun hl => ?_) fun hl => ⟨0, ⟨by omega, by omega⟩, rfl, ?_⟩
      · rw [decide_eq_true hk, decide_eq_true h6, decide_eq_false hn]; rfl
      · rw [decide_eq_true hk, decide_eq_true h6, decide_eq_true hn, decide_eq_false (p := l.length = l'.length) (by omega)]; rfl
      · rw [decide_eq_true hk, decide_eq_true h6, decide_eq_true hn, decide_eq_true (p := l.length = l'.length) (by omega)]; exact fin
      · rw [decide_eq_true hk, decide_eq_false h6, decide_eq_false (p := l.length = l'.length) (by omega)]; rfl
      · rw [decide_eq_true hk, decide_eq_false h6, decide_eq_true (p := l.length = l'.length) (by omega)]; exact fin
  exact key (SizeOf.sizeOf t + 1) t u (by omega) hc hd

theorem first_len : (∀ (t : Ty) (l : List Int), l.length ≤ (firstT t l).length ∧ (firstT t l).length ≤ l.length + cnt t) := by
  have key : ∀ (N : Nat), (∀ (t : Ty) (l : List Int), SizeOf.sizeOf t < N → l.length ≤ (firstT t l).length ∧ (firstT t l).length ≤ l.length + cnt t) ∧ ∀ (ts : List Ty) (l : List Int), SizeOf.sizeOf ts < N → l.length ≤ (firstL ts l).length ∧ (firstL ts l).length ≤ l.length + cntL ts := by
    intro N
    induction N with
    | zero => exact ⟨fun _ _ h => by omega, fun _ _ h => by omega⟩
    | succ N ih =>
      obtain ⟨ih1, ih2⟩ := ih
      constructor
      · intro t l ht
        cases t with
        | mk k n b ts =>
          simp only [Ty.mk.sizeOf_spec] at ht
          simp only [firstT, cnt]
          have h := ih2 ts (if k = 6 then addV l n else l) (by omega)
          have : l.length ≤ (if k = 6 then addV l n else l).length ∧ (if k = 6 then addV l n else l).length ≤ l.length + 1 := by
            split
            · unfold addV; split <;> simp
            · omega
          omega
      · intro ts l hl
        cases ts with
        | nil => simp [firstL, cntL]
        | cons x xs =>
          simp only [List.cons.sizeOf_spec] at hl
          simp only [firstL, cntL]
          have h1 := ih1 x l (by omega)
          have h2 := ih2 xs (firstT x l) (by omega)
          omega
  exact fun t l => (key (SizeOf.sizeOf t + 1)).1 t l (by omega)
end Go.Proofs.YtnmolpkkemljoaaGreatDoor
end
end

section
namespace Kd
open Go.Am Go.Proofs.YtnmolpkkemljoaaGreatDoor

def varT (n : Int) : Ty := .mk 6 n true []
def nilB {α : Type} (l : List α) : Bool := decide (l.length = 0)
mutual
def cleanT : Ty → Ty
  | .mk k n _ l => .mk k (if k = 6 then n else 0) (nilB l) (cleanL l)
def cleanL : List Ty → List Ty
  | [] => []
  | x :: xs => cleanT x :: cleanL xs
end
def boundO : List (Int × Ty) → Int → Option Ty
  | [], _ => none
  | x :: l, n => if x.1 = n then some x.2 else boundO l n
def boundT (l : List (Int × Ty)) (n : Int) : Ty := (boundO l n).getD (varT n)
mutual
def withT (bs : List (Int × Ty)) : Ty → Ty
  | .mk k n _ l => if k = 6 then cleanT (boundT bs n) else .mk k 0 (nilB l) (withL bs l)
def withL (bs : List (Int × Ty)) : List Ty → List Ty
  | [] => []
  | x :: xs => withT bs x :: withL bs xs
end
def numB : List Int → Nat → List (Int × Ty)
  | [], _ => []
  | n :: m, i => (n, varT i) :: numB m (i + 1)
end Kd
noncomputable section
namespace Go.Proofs.YtnmolpkkemljoaaGreatDoor
open Go Go.Am Kd

structure ASt (α : Type) where
  i : Nat
  acc : List α

end Go.Proofs.YtnmolpkkemljoaaGreatDoor
end
end

section
noncomputable section
namespace Go.Proofs.YtnmolpkkemljoaaGreatDoor
open Go Go.Am Kd Go.RowKit Go.ChangeShapes Go.WideShapes

variable {H : Type} {enc' : TypeId × Value → H} {w : World}

set_option maxRecDepth 100000 in
theorem arg_u16 {base : Nat} {v : Value} {d : DataW H} {ps : List MemPlace} (hv : Value.okWide Tryz.prog w .any base 37 v) (h : DataW.Trod enc' Tryz.prog w 0 (fun _ => true) true 37 v d ps) :
    ∃ n : Int, VRel (memSh w) (.int .u16 n) v ∧ 0 ≤ n ∧ n ≤ 65535 := by
  obtain ⟨n, rfl, -, -, hw⟩ := open_int Tryz.underlying37 hv h
  refine ⟨n, .int _ _, ?_⟩
  simpa [Lit.wf, IntKind.min, IntKind.max, IntKind.signed, IntKind.bits] using hw

end Go.Proofs.YtnmolpkkemljoaaGreatDoor
end
end

section
set_option maxRecDepth 100000
set_option linter.unusedSimpArgs false
set_option linter.unusedVariables false
noncomputable section
namespace Go.Proofs.YtnmolpkkemljoaaGreatDoor
open Go Go.Am Kd

theorem encD_still (u : Ty) : (encD u).still = true := by rw [← enc_D]; exact enc_still u

theorem cleanL_len : ∀ l, (cleanL l).length = l.length
  | [] => rfl
  | x :: xs => by simp [cleanL, cleanL_len xs]
theorem withL_len (bs : List (Int × Ty)) : ∀ l, (withL bs l).length = l.length
  | [] => rfl
  | x :: xs => by simp [withL, withL_len bs xs]
def numT (t : Ty) : Ty := withT (numB (firstT t []) 0) t

end Go.Proofs.YtnmolpkkemljoaaGreatDoor
end
end

section
namespace Kd
open Go.Am Go.Proofs.YtnmolpkkemljoaaGreatDoor
end Kd
noncomputable section
namespace Go.Proofs.YtnmolpkkemljoaaGreatDoor
open Go Go.Am Kd

structure VSt where
  i : Nat
  l : List Int
end Go.Proofs.YtnmolpkkemljoaaGreatDoor
end
end

section
set_option maxRecDepth 100000
set_option linter.unusedSimpArgs false
set_option linter.unusedVariables false
noncomputable section
namespace Go.Proofs.YtnmolpkkemljoaaGreatDoor
open Go Go.Am Kd

theorem ok_node {k n : Int} {b : Bool} {l : List Ty} (h : okT (.mk k n b l) = true) : NodeOk (.mk k n b l) ∧ okL l = true := by
  simp only [okT, Bool.and_eq_true, decide_eq_true_eq] at h
  exact h

end Go.Proofs.YtnmolpkkemljoaaGreatDoor
end
end

section
namespace Kd
open Go.Am Go.Proofs.YtnmolpkkemljoaaGreatDoor
def boundM : List (Int × Ty × Nat) → Int → Option Ty
  | [], _ => none
  | x :: l, n => if n = x.1 then some x.2.1 else boundM l n
mutual
/-- What put makes of a type. -/
def pwT (es : List (Int × Ty × Nat)) : Ty → Ty
  | .mk k n _ l => if k = 6 ∧ (boundM es n).isSome = true then cleanT ((boundM es n).getD (varT n)) else .mk k n (nilB l) (pwL es l)
def pwL (es : List (Int × Ty × Nat)) : List Ty → List Ty
  | [] => []
  | x :: xs => pwT es x :: pwL es xs
end
end Kd
noncomputable section
namespace Go.Proofs.YtnmolpkkemljoaaGreatDoor
open Go Go.Am Kd

end Go.Proofs.YtnmolpkkemljoaaGreatDoor
end
end

section
set_option maxRecDepth 100000
set_option linter.unusedSimpArgs false
set_option linter.unusedVariables false
noncomputable section
namespace Go.Proofs.YtnmolpkkemljoaaGreatDoor
open Go Go.Am Kd

theorem BlkR_self {x : ABlk} {R : Prop} (h : R) : BlkR x x R := by
  cases x <;> simp only [BlkR, true_and, and_self] <;> first
    | exact h
    | exact SubR_self h
theorem BlksR_self : ∀ {xs : List ABlk} {R : Prop}, R → BlksR xs xs R
  | [], _, h => by simpa [BlksR] using h
  | x :: xs, _, h => by
    simp only [BlksR]
    exact BlkR_self (BlksR_self h)
theorem hpIs_self {nf : Nat} {e : AEnd} {A : AH} (h : A.fams.length = nf) : hpIs nf e A ⟨e, A⟩ := by
  refine ⟨rfl, BlksR_self ?_⟩
  unfold FamR
  split
  · rename_i h1
    rw [h1] at h
    exact ⟨h.symm, trivial⟩
  · exact ⟨by rw [← h, List.take_length], trivial⟩

theorem cnt_clean : ∀ t, cnt (cleanT t) = cnt t := by
  have key : ∀ (N : Nat), (∀ t, SizeOf.sizeOf t < N → cnt (cleanT t) = cnt t) ∧ ∀ l, SizeOf.sizeOf l < N → cntL (cleanL l) = cntL l := by
    intro N
    induction N with
    | zero => exact ⟨fun _ h => by omega, fun _ h => by omega⟩
    | succ N ih =>
      obtain ⟨ih1, ih2⟩ := ih
      constructor
      · intro t ht
        cases t with
        | mk k n b l =>
          simp only [Ty.mk.sizeOf_spec] at ht
          simp only [cleanT, cnt, ih2 l (by omega)]
      · intro l hl
        cases l with
        | nil => rfl
        | cons x xs =>
          simp only [List.cons.sizeOf_spec] at hl
          simp only [cleanL, cntL, ih1 x (by omega), ih2 xs (by omega)]
  exact fun t => (key (SizeOf.sizeOf t + 1)).1 t (by omega)

end Go.Proofs.YtnmolpkkemljoaaGreatDoor
end
end

section
namespace Kd
open Go.Am Go.Proofs.YtnmolpkkemljoaaGreatDoor
def numM : List Int → Nat → List (Int × Ty × Nat)
  | [], _ => []
  | n :: m, i => (n, varT i, i) :: numM m (i + 1)
def varsL (t : Ty) : List Int := firstT t []
end Kd
noncomputable section
namespace Go.Proofs.YtnmolpkkemljoaaGreatDoor
open Go Go.Am Kd

end Go.Proofs.YtnmolpkkemljoaaGreatDoor
end
end

section
set_option maxRecDepth 100000
set_option linter.unusedSimpArgs false
set_option linter.unusedVariables false
namespace Kd
open Go.Am Go.Proofs.YtnmolpkkemljoaaGreatDoor

theorem ok_mk {k n : Int} {b : Bool} {l : List Ty} (h1 : NodeOk (.mk k n b l)) (h2 : okL l = true) : okT (.mk k n b l) = true := by
  simp only [okT, Bool.and_eq_true, decide_eq_true_eq]
  exact ⟨h1, h2⟩
theorem node_of {k n m : Int} {b b' : Bool} {l l' : List Ty} (h : NodeOk (.mk k n b l)) (hl : l'.length = l.length) (hm : k = 6 → m = n) : NodeOk (.mk k m b' l') := by
  simp only [NodeOk] at h ⊢
  obtain ⟨h1, h2, h3, h4, h5, h6⟩ := h
  rw [hl]
  exact ⟨h1, h2, h3, h4, h5, fun h => by rw [hm h]; exact h6 h⟩
theorem ok_var {j : Int} (h1 : 0 ≤ j) (h2 : j < 1000) : okT (varT j) = true :=
  ok_mk (by simp only [NodeOk]; exact ⟨by omega, by omega, fun _ => rfl, by omega, by omega, fun _ => ⟨h1, h2⟩⟩) rfl

theorem ok_clean : ∀ t, okT t = true → okT (cleanT t) = true := by
  have key : ∀ (N : Nat), (∀ t, SizeOf.sizeOf t < N → okT t = true → okT (cleanT t) = true) ∧ ∀ l, SizeOf.sizeOf l < N → okL l = true → okL (cleanL l) = true := by
    intro N
    induction N with
    | zero => exact ⟨fun _ h => by omega, fun _ h => by omega⟩
    | succ N ih =>
      obtain ⟨ih1, ih2⟩ := ih
      constructor
      · intro t ht h
        cases t with
        | mk k n b l =>
          simp only [Ty.mk.sizeOf_spec] at ht
          obtain ⟨h1, h2⟩ := ok_node h
          simp only [cleanT]
          exact ok_mk (node_of h1 (cleanL_len l) fun h => by rw [if_pos h]) (ih2 l (by omega) h2)
      · intro l hl h
        cases l with
        | nil => rfl
        | cons x xs =>
          simp only [List.cons.sizeOf_spec] at hl
          simp only [okL, Bool.and_eq_true] at h
          simp only [cleanL, okL, Bool.and_eq_true]
          exact ⟨ih1 x (by omega) h.1, ih2 xs (by omega) h.2⟩
  exact fun t => (key (SizeOf.sizeOf t + 1)).1 t (by omega)

theorem bM_bO : ∀ (m : List Int) (n : Int) (i : Nat), boundM (numM m i) n = boundO (numB m i) n
  | [], _, _ => rfl
  | x :: m, n, i => by
    simp only [numM, numB, boundM, boundO]
    by_cases h : n = x
    · rw [if_pos h, if_pos h.symm]
    · rw [if_neg h, if_neg (fun e => h e.symm)]
      exact bM_bO m n (i + 1)
theorem nil_clean (l : List Ty) : nilB (cleanL l) = nilB l := by simp only [nilB, cleanL_len]

theorem pw_with {es : List (Int × Ty × Nat)} {bs : List (Int × Ty)} (hb : ∀ n, boundM es n = boundO bs n) : ∀ t, okT t = true → pwT es (cleanT t) = withT bs t := by
  have key : ∀ (N : Nat), (∀ t, SizeOf.sizeOf t < N → okT t = true → pwT es (cleanT t) = withT bs t) ∧ ∀ l, SizeOf.sizeOf l < N → okL l = true → pwL es (cleanL l) = withL bs l := by
    intro N
    induction N with
    | zero => exact ⟨fun _ h => by omega, fun _ h => by omega⟩
    | succ N ih =>
      obtain ⟨ih1, ih2⟩ := ih
      constructor
      · intro t ht h
        cases t with
        | mk k n b l =>
          simp only [Ty.mk.sizeOf_spec] at ht
          obtain ⟨h1, h2⟩ := ok_node h
          by_cases h6 : k = 6
          · simp only [NodeOk] at h1
            have hl : l = [] := List.eq_nil_of_length_eq_zero (h1.2.2.1 (.inr (.inr h6)))
            subst h6 hl
            simp only [cleanT, cleanL, pwT, withT, if_true, true_and, hb, boundT]
            cases boundO bs n with
            | none => simp [varT, cleanT, cleanL, nilB, pwL]
            | some u => simp
          · simp only [cleanT, pwT, withT, h6, if_false, false_and, nil_clean, ih2 l (by omega) h2]
      · intro l hl h
        cases l with
        | nil => rfl
        | cons x xs =>
          simp only [List.cons.sizeOf_spec] at hl
          simp only [okL, Bool.and_eq_true] at h
          simp only [cleanL, pwL, withL, ih1 x (by omega) h.1, ih2 xs (by omega) h.2]
  exact fun t => (key (SizeOf.sizeOf t + 1)).1 t (by omega)

theorem numB_bound : ∀ (m : List Int) (n : Int) (i : Nat) (u : Ty), boundO (numB m i) n = some u → ∃ j : Nat, u = varT j ∧ j < i + m.length
  | [], _, _, _, h => by cases h
  | x :: m, n, i, u, h => by
    simp only [numB, boundO] at h
    split at h
    · cases h; exact ⟨i, rfl, by simp⟩
    · obtain ⟨j, h1, h2⟩ := numB_bound m n (i + 1) u h
      exact ⟨j, h1, by simp only [List.length_cons]; omega⟩

/-- Other numbers for variables: all else stays. -/
theorem with_vars {bs : List (Int × Ty)} (hb : ∀ n u, boundO bs n = some u → ∃ j : Int, u = varT j ∧ 0 ≤ j ∧ j < 1000) : ∀ t, okT t = true → okT (withT bs t) = true ∧ cnt (withT bs t) = cnt t ∧ depT (withT bs t) = depT t := by
  have key : ∀ (N : Nat), (∀ t, SizeOf.sizeOf t < N → okT t = true → okT (withT bs t) = true ∧ cnt (withT bs t) = cnt t ∧ depT (withT bs t) = depT t) ∧
      ∀ l, SizeOf.sizeOf l < N → okL l = true → okL (withL bs l) = true ∧ cntL (withL bs l) = cntL l ∧ ∀ n, depG (withL bs l) n = depG l n := by
    intro N
    induction N with
    | zero => exact ⟨fun _ h => by omega, fun _ h => by omega⟩
    | succ N ih =>
      obtain ⟨ih1, ih2⟩ := ih
      constructor
      · intro t ht h
        cases t with
        | mk k n b l =>
          simp only [Ty.mk.sizeOf_spec] at ht
          obtain ⟨h1, h2⟩ := ok_node h
          by_cases h6 : k = 6
          · simp only [NodeOk] at h1
            have hl : l = [] := List.eq_nil_of_length_eq_zero (h1.2.2.1 (.inr (.inr h6)))
            have hn := h1.2.2.2.2.2 h6
            subst h6 hl
            have : ∃ j : Int, withT bs (.mk 6 n b []) = varT j ∧ 0 ≤ j ∧ j < 1000 := by
              simp only [withT, if_true, boundT]
              cases hq : boundO bs n with
              | none => exact ⟨n, by simp [varT, cleanT, cleanL, nilB], hn.1, hn.2⟩
              | some u =>
                obtain ⟨j, rfl, h3, h4⟩ := hb n u hq
                exact ⟨j, by simp [varT, cleanT, cleanL, nilB], h3, h4⟩
            obtain ⟨j, e, h3, h4⟩ := this
            rw [e]
            exact ⟨ok_var h3 h4, by simp [varT, cnt, cntL], by simp [varT, depT, depG]⟩
          · obtain ⟨r1, r2, r3⟩ := ih2 l (by omega) h2
            have e : withT bs (.mk k n b l) = .mk k 0 (nilB l) (withL bs l) := by simp only [withT, h6, if_false]
            rw [e]
            exact ⟨ok_mk (node_of h1 (withL_len bs l) fun h => absurd h h6) r1, by simp only [cnt, r2], by simp only [depT, r3]⟩
      · intro l hl h
        cases l with
        | nil => exact ⟨rfl, rfl, fun _ => rfl⟩
        | cons x xs =>
          simp only [List.cons.sizeOf_spec] at hl
          simp only [okL, Bool.and_eq_true] at h
          obtain ⟨a1, a2, a3⟩ := ih1 x (by omega) h.1
          obtain ⟨b1, b2, b3⟩ := ih2 xs (by omega) h.2
          refine ⟨by simp only [withL, okL, a1, b1, Bool.and_self], by simp only [withL, cntL, a2, b2], fun n => by simp only [withL, depG, a3, b3]⟩
  exact fun t => (key (SizeOf.sizeOf t + 1)).1 t (by omega)

theorem vars_len (t : Ty) : (varsL t).length ≤ cnt t := by have := (first_len t []).2; simp only [List.length_nil, Nat.zero_add] at this; exact this

theorem num_ok {t : Ty} (h : validB t = true) : pwT (numM (varsL t) 0) (cleanT t) = numT t ∧ okT (numT t) = true ∧ cnt (numT t) = cnt t ∧ depT (numT t) = depT t ∧ validB (numT t) = true := by
  obtain ⟨h1, h2, h3⟩ := (valid_eq t).1 h
  have hv := vars_len t
  have e := pw_with (fun n => bM_bO (varsL t) n 0) t h3
  have hb : ∀ n u, boundO (numB (varsL t) 0) n = some u → ∃ j : Int, u = varT j ∧ 0 ≤ j ∧ j < 1000 := by
    intro n u hu
    obtain ⟨j, r1, r2⟩ := numB_bound _ _ _ _ hu
    exact ⟨j, r1, by omega, by omega⟩
  obtain ⟨w1, w2, w3⟩ := with_vars hb t h3
  refine ⟨e, w1, w2, w3, (valid_eq _).2 ⟨?_, ?_, w1⟩⟩
  · show depT (withT (numB (varsL t) 0) t) ≤ 12
    rw [w3]; exact h1
  · show cnt (withT (numB (varsL t) 0) t) ≤ 60
    rw [w2]; exact h2

end Kd
noncomputable section
namespace Go.Proofs.YtnmolpkkemljoaaGreatDoor
open Go Go.Am Kd

end Go.Proofs.YtnmolpkkemljoaaGreatDoor
end
end
