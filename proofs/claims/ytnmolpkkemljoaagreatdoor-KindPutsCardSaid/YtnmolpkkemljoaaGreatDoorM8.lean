/-
  What the proof is built of: Lists of numbers, and types, that are the same; the variables of a type, by the reference. The conditions of K17, evaluated. Lists of numbers, and types, that are the same; the variables of a type: what the reference's functions come to. Types with bindings put in them, numbered types: the reference's functions. Bindings, texts and numbers that are handed over, read in memory. The conditions of K18, evaluated. Types with bindings put in them, numbered types: what the reference's functions come to. The program's Vars: the range and its walk. The program's clean; a map of bindings. The conditions of K20, evaluated. The program's clean comes to what the reference's does. put: how many types there are in what is put. The conditions of K21, evaluated. put: how many types there are in what is put, is counted. put: its walk. put: its walk comes to what it says. put, wherever the map lies. A numbered type: put and the reference's With make the same of it, and it is valid. put, where it may be too much: what it comes to. The conditions of K32, evaluated. put comes to what it says, where it may be too much. Bindings that are valid; many; Put: what they come to. The conditions of K33, evaluated. Bindings that are valid, many, and both Puts come to what they say. Both Puts come to what they say. A type is the same as itself, a list is. Conditions: none.
-/
import Derived.Test.YtnmolpkkemljoaaGreatDoorM6
import Derived.Test.YtnmolpkkemljoaaGreatDoorM7
import Derived.ChangeMaps5
section
namespace Kd
open Go.Am Go.Proofs.YtnmolpkkemljoaaGreatDoor

mutual
def sameB : Ty → Ty → Bool
  | .mk k n _ l, .mk k' n' _ l' => decide (k = k') && ((!decide (k = 6) || decide (n = n')) && (decide (l.length = l'.length) && sameL l l'))
def sameL : List Ty → List Ty → Bool
  | x :: xs, y :: ys => sameB x y && sameL xs ys
  | _, _ => true
end

end Kd
noncomputable section
namespace Go.Proofs.YtnmolpkkemljoaaGreatDoor
open Go Go.Am Kd

def tyC (t : Ty) : ABlk := .cells [.int .i64 t.kind, .int .i64 t.n, .isl t.nl none 0 (encL t.l)] 24
def saSt (t u : Ty) : LSt Nat Bool where
  n := 2
  nf := 0
  rd := none
  fr x := frm 51 [(2, .ptr 0 0), (3, .ptr 1 0), (5, .int .i64 x)]
  hp _ := ⟨[tyC t, tyC u], []⟩
  inv x := x ≤ t.l.length ∧ t.l.length = u.l.length
  res x := sameL (t.l.drop x) (u.l.drop x)
  sel r := r
  out b' _ := match b' with
    | true => ⟨.exit 0, frm 51 [], ⟨[tyC t, tyC u], []⟩⟩
    | false => ⟨.ret, frm 51 [(4, .bool false)], ⟨[tyC t, tyC u], []⟩⟩
def saQ (N : Nat) : QSpec
  | [t, u], K => argTy t fun t => argTy u fun u => (SizeOf.sizeOf t < N ∧ cnt t ≤ 1000 ∧ cnt u ≤ 1000) ∧ K (.bool (sameB t u))
  | _, _ => False
def saH (N : Nat) : Hooks := hooks [(23, saQ N)] [] []
def saH' (t u : Ty) : Hooks := hooks [] [] [(4, ⟨23, 0, (saSt t u).spec⟩)]

structure FSt where
  i : Nat
  b : Bool
  l : List Int
  e : Nat
def runN {ι ρ : Type} (hk : Hooks) (n : Nat) (f k : Nat) (s : LSN ι ρ) (meas : ι → Nat) (p : Nat) (x : ι) : Prop := runC hk n s.rd (loopC f k) (s.fr p x) (s.hp p x) (s.post meas p x)

end Go.Proofs.YtnmolpkkemljoaaGreatDoor
end
end

section
noncomputable section
namespace Go.Proofs.YtnmolpkkemljoaaGreatDoor
open Go Go.Am Kd
set_option maxRecDepth 100000

theorem sa_loop (t u : Ty) (N : Nat) (meas : Nat → Nat) (x : Nat) : (runL (saH N) 60 23 0 (saSt t u) meas x) = ( bothR (decide (iC x < iC (List.length (encL (Ty.l t))))) (0 ≤ iC x ∧ ∃ x_1, (encL (Ty.l t))[Int.toNat (iC x)]? = some (AV.agg [AV.int IntKind.i64 (Ty.kind x_1), AV.int IntKind.i64 (Ty.n x_1), AV.isl (Ty.nl x_1) none (0) (encL (Ty.l x_1))]) ∧ 0 ≤ iC x ∧ ∃ x_2, (encL (Ty.l u))[Int.toNat (iC x)]? = some (AV.agg [AV.int IntKind.i64 (Ty.kind x_2), AV.int IntKind.i64 (Ty.n x_2), AV.isl (Ty.nl x_2) none (0) (encL (Ty.l x_2))]) ∧ ∃ l, encL (Ty.l x_1) = encL l ∧ ∃ l_1,
 encL (Ty.l x_2) = encL l_1 ∧ (SizeOf.sizeOf (Ty.mk (Ty.kind x_1) (Ty.n x_1) (Ty.nl x_1) l) < N ∧ cnt (Ty.mk (Ty.kind x_1) (Ty.n x_1) (Ty.nl x_1) l) ≤ 1000 ∧ cnt (Ty.mk (Ty.kind x_2) (Ty.n x_2) (Ty.nl x_2) l_1) ≤ 1000) ∧ bothR (!sameB (Ty.mk (Ty.kind x_1) (Ty.n x_1) (Ty.nl x_1) l) (Ty.mk (Ty.kind x_2) (Ty.n x_2) (Ty.nl x_2) l_1)) (sameL (List.drop x (Ty.l t)) (List.drop x (Ty.l u)) = false ∧ AV.bool false = AV.bool false ∧ 24 = 24 ∧ AV.int IntKind.i64 (Ty.kind t) = AV.int IntKind.i64 (Ty.kind t) ∧ AV.int IntKind.i64 (Ty.n t) = AV.int IntKind.i64 (Ty.n t) ∧
 AV.isl (Ty.nl t) none (0) (encL (Ty.l t)) = AV.isl (Ty.nl t) none (0) (encL (Ty.l t)) ∧ 24 = 24 ∧ AV.int IntKind.i64 (Ty.kind u) = AV.int IntKind.i64 (Ty.kind u) ∧ AV.int IntKind.i64 (Ty.n u) = AV.int IntKind.i64 (Ty.n u) ∧ AV.isl (Ty.nl u) none (0) (encL (Ty.l u)) = AV.isl (Ty.nl u) none (0) (encL (Ty.l u)) ∧ 0 = 0 ∧ True) (∃ y, (y ≤ List.length (Ty.l t) ∧ List.length (Ty.l t) = List.length (Ty.l u)) ∧ meas y < meas x ∧ sameL (List.drop y (Ty.l t)) (List.drop y (Ty.l u)) = sameL (List.drop x (Ty.l t)) (List.drop x (Ty.l u)) ∧ AV.ptr (0) (0) = AV.ptr (0) (0) ∧
 AV.ptr (1) (0) = AV.ptr (1) (0) ∧ AV.int IntKind.i64 (IntKind.wrap IntKind.i64 (iC x + (1 : Int))) = AV.int IntKind.i64 (iC y) ∧ 24 = 24 ∧ AV.int IntKind.i64 (Ty.kind t) = AV.int IntKind.i64 (Ty.kind t) ∧ AV.int IntKind.i64 (Ty.n t) = AV.int IntKind.i64 (Ty.n t) ∧ AV.isl (Ty.nl t) none (0) (encL (Ty.l t)) = AV.isl (Ty.nl t) none (0) (encL (Ty.l t)) ∧ 24 = 24 ∧ AV.int IntKind.i64 (Ty.kind u) = AV.int IntKind.i64 (Ty.kind u) ∧ AV.int IntKind.i64 (Ty.n u) = AV.int IntKind.i64 (Ty.n u) ∧ AV.isl (Ty.nl u) none (0) (encL (Ty.l u)) = AV.isl (Ty.nl u) none (0) (encL (Ty.l u)) ∧ 0 = 0 ∧ True))
 (sameL (List.drop x (Ty.l t)) (List.drop x (Ty.l u)) = true ∧ 24 = 24 ∧ AV.int IntKind.i64 (Ty.kind t) = AV.int IntKind.i64 (Ty.kind t) ∧ AV.int IntKind.i64 (Ty.n t) = AV.int IntKind.i64 (Ty.n t) ∧ AV.isl (Ty.nl t) none (0) (encL (Ty.l t)) = AV.isl (Ty.nl t) none (0) (encL (Ty.l t)) ∧ 24 = 24 ∧ AV.int IntKind.i64 (Ty.kind u) = AV.int IntKind.i64 (Ty.kind u) ∧ AV.int IntKind.i64 (Ty.n u) = AV.int IntKind.i64 (Ty.n u) ∧ AV.isl (Ty.nl u) none (0) (encL (Ty.l u)) = AV.isl (Ty.nl u) none (0) (encL (Ty.l u)) ∧ 0 = 0 ∧ True)) := by kernel_rfl

theorem sa_top (t u : Ty) (r : Bool) : (runF (saH' t u) 60 23 [encD t, encD u] AH.nil (retIs Tryz.prog 5 (.bool r))) = ( bothR (!decide (Ty.kind t = Ty.kind u)) (AV.bool false = AV.bool r) (bothR (decide (Ty.kind t = (6 : Int))) (bothR (!decide (Ty.n t = Ty.n u)) (AV.bool false = AV.bool r) (bothR (!decide (iC (List.length (encL (Ty.l t))) = iC (List.length (encL (Ty.l u))))) (AV.bool false = AV.bool r) (codeIs (loopOf Tryz.prog 23 0) Tryz.prog 23 0 (∃ x, (x ≤ List.length (Ty.l t) ∧ List.length (Ty.l t) = List.length (Ty.l u)) ∧ AV.ptr (0) (0) = AV.ptr (0) (0) ∧
 AV.ptr (1) (0) = AV.ptr (1) (0) ∧ AV.int IntKind.i64 (0) = AV.int IntKind.i64 (iC x) ∧ 24 = 24 ∧ AV.int IntKind.i64 (Ty.kind t) = AV.int IntKind.i64 (Ty.kind t) ∧ AV.int IntKind.i64 (Ty.n t) = AV.int IntKind.i64 (Ty.n t) ∧ AV.isl (Ty.nl t) none (0) (encL (Ty.l t)) = AV.isl (Ty.nl t) none (0) (encL (Ty.l t)) ∧ 24 = 24 ∧ AV.int IntKind.i64 (Ty.kind u) = AV.int IntKind.i64 (Ty.kind u) ∧ AV.int IntKind.i64 (Ty.n u) = AV.int IntKind.i64 (Ty.n u) ∧ AV.isl (Ty.nl u) none (0) (encL (Ty.l u)) = AV.isl (Ty.nl u) none (0) (encL (Ty.l u)) ∧ 0 = 0 ∧
 bothR (sameL (List.drop x (Ty.l t)) (List.drop x (Ty.l u))) (AV.bool true = AV.bool r) (AV.bool false = AV.bool r))))) (bothR (!decide (iC (List.length (encL (Ty.l t))) = iC (List.length (encL (Ty.l u))))) (AV.bool false = AV.bool r) (codeIs (loopOf Tryz.prog 23 0) Tryz.prog 23 0 (∃ x, (x ≤ List.length (Ty.l t) ∧ List.length (Ty.l t) = List.length (Ty.l u)) ∧ AV.ptr (0) (0) = AV.ptr (0) (0) ∧ AV.ptr (1) (0) = AV.ptr (1) (0) ∧ AV.int IntKind.i64 (0) = AV.int IntKind.i64 (iC x) ∧ 24 = 24 ∧ AV.int IntKind.i64 (Ty.kind t) = AV.int IntKind.i64 (Ty.kind t) ∧
 AV.int IntKind.i64 (Ty.n t) = AV.int IntKind.i64 (Ty.n t) ∧ AV.isl (Ty.nl t) none (0) (encL (Ty.l t)) = AV.isl (Ty.nl t) none (0) (encL (Ty.l t)) ∧ 24 = 24 ∧ AV.int IntKind.i64 (Ty.kind u) = AV.int IntKind.i64 (Ty.kind u) ∧ AV.int IntKind.i64 (Ty.n u) = AV.int IntKind.i64 (Ty.n u) ∧ AV.isl (Ty.nl u) none (0) (encL (Ty.l u)) = AV.isl (Ty.nl u) none (0) (encL (Ty.l u)) ∧ 0 = 0 ∧ bothR (sameL (List.drop x (Ty.l t)) (List.drop x (Ty.l u))) (AV.bool true = AV.bool r) (AV.bool false = AV.bool r)))))) := by kernel_rfl

end Go.Proofs.YtnmolpkkemljoaaGreatDoor
end
end

section
set_option maxRecDepth 100000
set_option linter.unusedSimpArgs false
noncomputable section
namespace Go.Proofs.YtnmolpkkemljoaaGreatDoor
open Go Go.Am Kd

theorem tl_mk (k n : Int) (b : Bool) (l : List Ty) : (Ty.mk k n b l).l = l := rfl
theorem tk_mk (k n : Int) (b : Bool) (l : List Ty) : (Ty.mk k n b l).kind = k := rfl
theorem tn_mk (k n : Int) (b : Bool) (l : List Ty) : (Ty.mk k n b l).n = n := rfl
theorem tb_mk (k n : Int) (b : Bool) (l : List Ty) : (Ty.mk k n b l).nl = b := rfl
theorem sa_hook {N : Nat} (ih : ∀ t u, SizeOf.sizeOf t < N → cnt t ≤ 1000 → cnt u ≤ 1000 → QJ 23 [enc t, enc u] (.bool (sameB t u))) : QSpec.Ok Tryz.prog g0 23 (saQ N) := by
  intro args K h'
  unfold saQ at h'
  split at h'
  · obtain ⟨t, rfl, h1⟩ := argTy_elim h'
    obtain ⟨u, rfl, h2, h3⟩ := argTy_elim h1
    exact ⟨_, ih t u h2.1 h2.2.1 h2.2.2, h3⟩
  · exact h'.elim

theorem same_ok (t u : Ty) (hc : cnt t ≤ 1000) (hd : cnt u ≤ 1000) : QJ 23 [enc t, enc u] (.bool (sameB t u)) := by
  have key : ∀ (N : Nat) (t u : Ty), SizeOf.sizeOf t < N → cnt t ≤ 1000 → cnt u ≤ 1000 → QJ 23 [enc t, enc u] (.bool (sameB t u)) := by
    intro N
    induction N with
    | zero => intro t u h; omega
    | succ N ih =>
      intro t u ht hc hd
      have hl : LHook.Ok Tryz.prog g0 ⟨23, 0, (saSt t u).spec⟩ := by
        refine LSt.by (hk := saH N) (saSt t u) (fun x => t.l.length - x) (mkHooks_ok (all_cons (sa_hook ih) all_nil) all_nil all_nil) rfl ?_ ?_ ?_
        · intro x _
          exact Whole.frm rfl rfl rfl (by simp [saSt, tyC, ABlk.bnd, AV.bndL, AV.bnd, encL_bnd])
        · intro x b' _
          cases b' <;> exact Whole.frm rfl rfl rfl (by simp [saSt, tyC, ABlk.bnd, AV.bndL, AV.bnd, encL_bnd])
        · rintro i ⟨hi, he⟩
          obtain ⟨k, n, b, l⟩ := t
          obtain ⟨k', n', b', l'⟩ := u
          simp only [tl_mk] at hi he
          simp only [cnt] at hc hd
          simp only [Ty.mk.sizeOf_spec] at ht
          have hlc := len_cnt l
          rw [sa_loop]
          simp only [iC, encL_length, eq_self, true_and, and_true, Int.toNat_natCast, AV.int.injEq, tl_mk]
          refine bothR_dec (fun hlt => ?_) fun hge => ?_
          · have hi' : i < l.length := by omega
            have hj' : i < l'.length := by omega
            have hs := List.sizeOf_lt_of_mem (List.getElem_mem hi')
            have hg := cnt_get hi'
            have hg' := cnt_get hj'
            have hd : l.drop i = l[i] :: l.drop (i + 1) := List.drop_eq_getElem_cons hi'
            have hd' : l'.drop i = l'[i] :: l'.drop (i + 1) := List.drop_eq_getElem_cons hj'
            rw [ex_get hi']
            refine ⟨by omega, by omega, ?_⟩
            rw [ex_get hj']
            simp only [ex_enc, Ty.eta]
            refine ⟨⟨by omega, by omega, by omega⟩, bothR_nbool (fun hb => ?_) fun hb => ⟨i + 1, ⟨by omega, he⟩, by omega, ?_, ?_⟩⟩
            · rw [hd, hd']; simp only [sameL, hb, Bool.false_and]
            · rw [hd, hd']; simp only [sameL, hb, Bool.true_and]
            · rw [wrap_id (by omega) (by omega)]; rfl
          · rw [List.drop_of_length_le (by omega), List.drop_of_length_le (by omega)]; rfl
      rw [enc_D, enc_D]
      refine QJ.by (hk := saH' t u) (by rw [← enc_D, ← enc_D]; simp [AV.stillL, enc_still]) rfl (mkHooks_ok all_nil all_nil (all_cons hl all_nil)) ?_
      rw [sa_top]
      obtain ⟨k, n, b, l⟩ := t
      obtain ⟨k', n', b', l'⟩ := u
      simp only [iC, encL_length, eq_self, true_and, codeIs_self, AV.bool.injEq, AV.int.injEq, sameB, tk_mk, tn_mk, tl_mk]
      have fin : bothR (sameL (List.drop 0 l) (List.drop 0 l')) (true = sameL l l') (false = sameL l l') := by
        rw [List.drop_zero, List.drop_zero]
        exact bothR_bool (fun h => h.symm) fun h => h.symm
      refine bothR_ndec (fun h => by rw [decide_eq_false h]; rfl) fun hk => bothR_dec (fun h6 => bothR_ndec (fun hn => ?_) fun hn => bothR_ndec (fun hl => ?_) fun hl => ⟨0, ⟨by omega, by omega⟩, rfl, ?_⟩) fun h6 => bothR_ndec (fun hl => ?_) fun hl => ⟨0, ⟨by omega, by omega⟩, rfl, ?_⟩
      · rw [decide_eq_true hk, decide_eq_true h6, decide_eq_false hn]; rfl
      · rw [decide_eq_true hk, decide_eq_true h6, decide_eq_true hn, decide_eq_false (p := l.length = l'.length) (by omega)]; rfl
      · rw [decide_eq_true hk, decide_eq_true h6, decide_eq_true hn, decide_eq_true (p := l.length = l'.length) (by omega)]; exact fin
      · rw [decide_eq_true hk, decide_eq_false h6, decide_eq_false (p := l.length = l'.length) (by omega)]; rfl
      · rw [decide_eq_true hk, decide_eq_false h6, decide_eq_true (p := l.length = l'.length) (by omega)]; exact fin
  exact key (SizeOf.sizeOf t + 1) t u (by omega) hc hd

end Go.Proofs.YtnmolpkkemljoaaGreatDoor
end
end

section
namespace Kd
open Go.Am Go.Proofs.YtnmolpkkemljoaaGreatDoor

def encB (l : List (Int × Ty)) : List AV := l.map bindD
def varT (n : Int) : Ty := .mk 6 n true []
def nilB {α : Type} (l : List α) : Bool := decide (l.length = 0)
def wayN {α : Type} (l : List α) : Nat := if l.length = 0 then 0 else 1
mutual
def cleanT : Ty → Ty
  | .mk k n _ l => .mk k (if k = 6 then n else 0) (nilB l) (cleanL l)
def cleanL : List Ty → List Ty
  | [] => []
  | x :: xs => cleanT x :: cleanL xs
end
def clN (t : Ty) : Int := if t.kind = 6 then t.n else 0
def boundO : List (Int × Ty) → Int → Option Ty
  | [], _ => none
  | x :: l, n => if x.1 = n then some x.2 else boundO l n
def boundT (l : List (Int × Ty)) (n : Int) : Ty := (boundO l n).getD (varT n)
mutual
def withT (bs : List (Int × Ty)) : Ty → Ty
  | .mk k n _ l => if k = 6 then cleanT (boundT bs n) else .mk k 0 (nilB l) (withL bs l)
def withL (bs : List (Int × Ty)) : List Ty → List Ty
  | [] => []
  | x :: xs => withT bs x :: withL bs xs
end
def allC (l : List (Int × Ty)) : Prop := ∀ x ∈ l, cnt x.2 ≤ 1000
def ph0 (p i : Nat) : Prop := p = 0 ↔ i = 0
end Kd
noncomputable section
namespace Go.Proofs.YtnmolpkkemljoaaGreatDoor
open Go Go.Am Kd

def argBinds (v : AV) (K : Bool → List (Int × Ty) → Prop) : Prop :=
  match v with
  | .isl b none 0 xs => ∃ l, xs = encB l ∧ K b l
  | _ => False
theorem argBinds_elim {v : AV} {K : Bool → List (Int × Ty) → Prop} (h : argBinds v K) : ∃ b l, v = .isl b none 0 (encB l) ∧ K b l := by
  unfold argBinds at h
  split at h
  · obtain ⟨l, rfl, h⟩ := h
    exact ⟨_, _, rfl, h⟩
  · exact h.elim

def varQ : QSpec
  | [n], K => argInt n fun n => K (encD (varT n))
  | _, _ => False

def top3 : ABlk := .cells [.top, .top, .top] 24
def accV (p : Nat) (xs : List AV) : AV := match p with | 0 => .isl true none 0 [] | _ => .isl false (some 0) 0 xs
def accF (p n sz : Nat) : List (Nat × Nat) := match p with | 0 => [] | _ => [(n, sz)]
structure ASt (α : Type) where
  i : Nat
  acc : List α

def boSt (b : Bool) (l : List (Int × Ty)) (n : Int) : LSt Nat (Option Ty) where
  n := 1
  nf := 0
  rd := none
  fr x := frm 26 [(0, .isl b none 0 (encB l)), (1, .int .i64 n), (4, .ptr 0 0), (5, .int .i64 x)]
  hp _ := ⟨[top3], []⟩
  inv x := x ≤ l.length ∧ l.length ≤ 2000
  res x := boundO (l.drop x) n
  sel r := r.isSome
  out b' r := match b' with
    | false => ⟨.exit 0, frm 26 [(1, .int .i64 n), (4, .ptr 0 0)], ⟨[top3], []⟩⟩
    | true => ⟨.ret, frm 26 [(4, .ptr 0 0)], ⟨[tyC (r.getD (varT n))], []⟩⟩
def boH' (b : Bool) (l : List (Int × Ty)) (n : Int) : Hooks := hooks [(106, varQ)] [] [(2, ⟨120, 0, (boSt b l n).spec⟩)]
def boQ : QSpec
  | [l, n], K => argBinds l fun _ l => argInt n fun n => (l.length ≤ 2000) ∧ K (encD (boundT l n))
  | _, _ => False

def clSt (t : Ty) : LSN (ASt Ty) (List Ty) where
  m := 2
  ways := 2
  n _ := 3
  nf p := p
  rd := none
  fr _ x := frm 33 [(1, .ptr 0 0), (2, .ptr 1 0), (3, .ptr 2 0), (4, .int .i64 x.i)]
  hp p x := ⟨[tyC t, top3, .cells [.int .i64 t.kind, .int .i64 (clN t), accV p (encL x.acc)] 24], accF p x.acc.length 3⟩
  inv p x := x.i ≤ t.l.length ∧ x.acc.length = x.i ∧ cnt t ≤ 1000 ∧ ph0 p x.i
  res _ x := x.acc ++ cleanL (t.l.drop x.i)
  sel r := wayN r
  wn _ := 3
  wnf w := w
  out w r := ⟨.exit 0, frm 33 [(1, .ptr 0 0), (2, .ptr 1 0), (3, .ptr 2 0)], ⟨[top3, top3, .cells [.int .i64 t.kind, .int .i64 (clN t), accV w (encL r)] 24], accF w r.length 3⟩⟩
def clQ (N : Nat) : QSpec
  | [t], K => argTy t fun t => (SizeOf.sizeOf t < N ∧ cnt t ≤ 1000) ∧ K (encD (cleanT t))
  | _, _ => False
def clQ0 : QSpec
  | [t], K => argTy t fun t => (cnt t ≤ 1000) ∧ K (encD (cleanT t))
  | _, _ => False
def clH (N : Nat) : Hooks := hooks [(104, clQ N)] [] []
def clH' (t : Ty) : Hooks := hooks [] [] [(5, ⟨104, 0, (clSt t).spec⟩)]

def wiSt (b : Bool) (bs : List (Int × Ty)) (t : Ty) : LSN (ASt Ty) (List Ty) where
  m := 2
  ways := 2
  n _ := 3
  nf p := p
  rd := none
  fr _ x := frm 38 [(0, .isl b none 0 (encB bs)), (3, .ptr 0 0), (4, .ptr 1 0), (5, .ptr 2 0), (6, .int .i64 x.i)]
  hp p x := ⟨[tyC t, top3, .cells [.int .i64 t.kind, .int .i64 0, accV p (encL x.acc)] 24], accF p x.acc.length 3⟩
  inv p x := x.i ≤ t.l.length ∧ x.acc.length = x.i ∧ cnt t ≤ 1000 ∧ ph0 p x.i
  res _ x := x.acc ++ withL bs (t.l.drop x.i)
  sel r := wayN r
  wn _ := 3
  wnf w := w
  out w r := ⟨.exit 0, frm 38 [(3, .ptr 0 0), (4, .ptr 1 0), (5, .ptr 2 0)], ⟨[top3, top3, .cells [.int .i64 t.kind, .int .i64 0, accV w (encL r)] 24], accF w r.length 3⟩⟩
def wiQ (N : Nat) : QSpec
  | [l, t], K => argBinds l fun _ l => argTy t fun t => (SizeOf.sizeOf t < N ∧ cnt t ≤ 1000 ∧ l.length ≤ 2000 ∧ allC l) ∧ K (encD (withT l t))
  | _, _ => False
def wiQ0 : QSpec
  | [l, t], K => argBinds l fun _ l => argTy t fun t => (cnt t ≤ 1000 ∧ l.length ≤ 2000 ∧ allC l) ∧ K (encD (withT l t))
  | _, _ => False
def wiH (N : Nat) : Hooks := hooks [(84, wiQ N)] [] []
def wiH' (b : Bool) (bs : List (Int × Ty)) (t : Ty) : Hooks := hooks [(120, boQ), (104, clQ0)] [] [(5, ⟨84, 0, (wiSt b bs t).spec⟩)]

end Go.Proofs.YtnmolpkkemljoaaGreatDoor
end
end

section
noncomputable section
namespace Go.Proofs.YtnmolpkkemljoaaGreatDoor
open Go Go.Am Kd Go.RowKit Go.ChangeShapes Go.WideShapes

theorem cells58 : Tryz.prog.cellsOf 58 = 4 := by kernel_rfl
theorem four {α : Type} : ∀ {cs : List α}, cs.length = 4 → ∃ a b c d, cs = [a, b, c, d]
  | [a, b, c, d], _ => ⟨a, b, c, d, rfl⟩
theorem encB_of {xs : List AV} (h : ∀ v ∈ xs, ∃ x, v = bindD x) : ∃ l, xs = encB l := by
  induction xs with
  | nil => exact ⟨[], rfl⟩
  | cons x xs ih =>
    obtain ⟨t, rfl⟩ := h x (by simp)
    obtain ⟨l, rfl⟩ := ih fun v hv => h v (by simp [hv])
    exact ⟨t :: l, rfl⟩

variable {H : Type} {enc' : TypeId × Value → H} {w : World}

theorem read_bind {held : Bool} (fuel : Nat) (cs : List Value) (x : DataW H × List MemPlace) (h : DataW.trod enc' Tryz.prog w 0 (fun _ => true) held fuel 58 cs = some x) : ∃ y : Int × Ty, LRel (memSh w) (bindD y).cells cs := by
  obtain ⟨xs, n, rfl, -, hlen, hxl, hf⟩ := DataW.trod_struct Tryz.underlying58 h
  rw [cells58] at hlen
  have hxl : xs.length = 2 := hxl
  have h0 : DataW.trod enc' Tryz.prog w 0 (fun _ => true) held n 3 ((cs.drop 0).take (Tryz.prog.cellsOf 3)) = xs[0]? := hf 0 _ rfl
  have h1 : DataW.trod enc' Tryz.prog w 0 (fun _ => true) held n 24 ((cs.drop 1).take (Tryz.prog.cellsOf 24)) = xs[1]? := hf 1 _ rfl
  rw [List.getElem?_eq_getElem (by omega)] at h0 h1
  simp only [cells3, cells24] at h0 h1
  obtain ⟨a, b, c, d, rfl⟩ := four hlen
  simp only [List.drop_zero, List.take_succ_cons, List.take_zero, List.drop_succ_cons] at h0 h1
  obtain ⟨k, e0, -⟩ := DataW.trod_int Tryz.underlying3 h0
  obtain ⟨t, ht⟩ := read_ty _ _ _ h1
  simp only [List.cons.injEq, and_true] at e0
  subst e0
  obtain ⟨tk, tn, tb, tl⟩ := t
  exact ⟨(k, .mk tk tn tb tl), .cons _ _ _ _ (.int _ _) ht⟩

set_option maxRecDepth 100000 in
theorem arg_binds {base : Nat} {v : Value} {d : DataW H} {ps : List MemPlace} (hv : Value.okWide Tryz.prog w .any base 27 v) (h : DataW.Trod enc' Tryz.prog w 0 (fun _ => true) true 27 v d ps) :
    ∃ (b : Bool) (l : List (Int × Ty)), VRel (memSh w) (.isl b none 0 (encB l)) v ∧ l.length ≤ maxLen := by
  obtain ⟨fuel, h⟩ := h
  obtain ⟨b, xs, hx, -, hrel, hlen⟩ := read_sliceB Tryz.underlying27 (by rw [cells58]; omega) (R := fun v => ∃ x, v = bindD x) (fun n' cs' x' hlt h' => by
    obtain ⟨y, hy⟩ := read_bind n' cs' x' h'
    exact ⟨bindD y, ⟨y, rfl⟩, by rw [cells58]; rfl, hy⟩) h
  obtain ⟨l, rfl⟩ := encB_of hx
  refine ⟨b, l, ?_, by simpa [encB] using hlen⟩
  have key : ∀ {cs : List Value}, LRel (memSh w) [.isl b none 0 (encB l)] cs → ∃ u, cs = [u] ∧ VRel (memSh w) (.isl b none 0 (encB l)) u := by
    intro cs hc
    cases hc with
    | cons _ _ u _ hu hn => cases hn; exact ⟨u, rfl, hu⟩
  obtain ⟨u, hu, hr⟩ := key hrel
  cases v with
  | agg cs =>
    unfold Value.okWide at hv
    rw [Tryz.underlying27] at hv
    simp [Cell.okWide, Tryz.underlying27, Cell.ok] at hv
  | _ => simp [Value.cells] at hu; subst hu; exact hr

end Go.Proofs.YtnmolpkkemljoaaGreatDoor
end
end

section
noncomputable section
namespace Go.Proofs.YtnmolpkkemljoaaGreatDoor
open Go Go.Am Kd
set_option maxRecDepth 100000

theorem var_top (n : Int) (r : Ty) : (runF hk0 60 106 [.int .i64 n] AH.nil (retIs Tryz.prog 5 (encD r))) = ( AV.agg [AV.int IntKind.i64 (6), AV.int IntKind.i64 n, AV.isl true none (0) []] = AV.agg [AV.int IntKind.i64 (Ty.kind r), AV.int IntKind.i64 (Ty.n r), AV.isl (Ty.nl r) none (0) (encL (Ty.l r))]) := by kernel_rfl

theorem bo_loop (b : Bool) (l : List (Int × Ty)) (n : Int) (meas : Nat → Nat) (x : Nat) : (runL hk0 60 120 0 (boSt b l n) meas x) = ( bothR (decide (iC x < iC (List.length (encB l)))) (0 ≤ iC x ∧ ∃ x_1, (encB l)[Int.toNat (iC x)]? = some (AV.agg [AV.int IntKind.i64 (Prod.fst x_1), AV.int IntKind.i64 (Ty.kind (Prod.snd x_1)), AV.int IntKind.i64 (Ty.n (Prod.snd x_1)), AV.isl (Ty.nl (Prod.snd x_1)) none (0) (encL (Ty.l (Prod.snd x_1)))]) ∧ bothR (decide (Prod.fst x_1 = n)) (0 ≤ iC x ∧ ∃ x_2, (encB l)[Int.toNat (iC x)]? = some (AV.agg
 [AV.int IntKind.i64 (Prod.fst x_2), AV.int IntKind.i64 (Ty.kind (Prod.snd x_2)), AV.int IntKind.i64 (Ty.n (Prod.snd x_2)), AV.isl (Ty.nl (Prod.snd x_2)) none (0) (encL (Ty.l (Prod.snd x_2)))]) ∧ Option.isSome (boundO (List.drop x l) n) = true ∧ AV.ptr (0) (0) = AV.ptr (0) (0) ∧ 24 = 24 ∧ AV.int IntKind.i64 (Ty.kind (Prod.snd x_2)) = AV.int IntKind.i64 (Ty.kind (Option.getD (boundO (List.drop x l) n) (varT n))) ∧ AV.int IntKind.i64 (Ty.n (Prod.snd x_2)) = AV.int IntKind.i64 (Ty.n (Option.getD (boundO (List.drop x l) n) (varT n))) ∧
 AV.isl (Ty.nl (Prod.snd x_2)) none (0) (encL (Ty.l (Prod.snd x_2))) = AV.isl (Ty.nl (Option.getD (boundO (List.drop x l) n) (varT n))) none (0) (encL (Ty.l (Option.getD (boundO (List.drop x l) n) (varT n)))) ∧ 0 = 0 ∧ True) (∃ y, (y ≤ List.length l ∧ List.length l ≤ 2000) ∧ meas y < meas x ∧ boundO (List.drop y l) n = boundO (List.drop x l) n ∧ AV.isl b none (0) (encB l) = AV.isl b none (0) (encB l) ∧ AV.int IntKind.i64 n = AV.int IntKind.i64 n ∧ AV.ptr (0) (0) = AV.ptr (0) (0) ∧ AV.int IntKind.i64 (IntKind.wrap IntKind.i64 (iC x + (1 : Int))) = AV.int IntKind.i64 (iC y) ∧
 24 = 24 ∧ 0 = 0 ∧ True)) (Option.isSome (boundO (List.drop x l) n) = false ∧ AV.int IntKind.i64 n = AV.int IntKind.i64 n ∧ AV.ptr (0) (0) = AV.ptr (0) (0) ∧ 24 = 24 ∧ 0 = 0 ∧ True)) := by kernel_rfl

theorem bo_top (b : Bool) (l : List (Int × Ty)) (n : Int) (r : Ty) : (runF (boH' b l n) 60 120 [.isl b none 0 (encB l), .int .i64 n] AH.nil (retIs Tryz.prog 5 (encD r))) = ( codeIs (loopOf Tryz.prog 120 0) Tryz.prog 120 0 (∃ x, (x ≤ List.length l ∧ List.length l ≤ 2000) ∧ AV.isl b none (0) (encB l) = AV.isl b none (0) (encB l) ∧ AV.int IntKind.i64 n = AV.int IntKind.i64 n ∧ AV.ptr (0) (0) = AV.ptr (0) (0) ∧ AV.int IntKind.i64 (0) = AV.int IntKind.i64 (iC x) ∧ 24 = 24 ∧ 0 = 0 ∧ bothR (Option.isSome (boundO (List.drop x l) n)) (AV.agg
 [AV.int IntKind.i64 (Ty.kind (Option.getD (boundO (List.drop x l) n) (varT n))), AV.int IntKind.i64 (Ty.n (Option.getD (boundO (List.drop x l) n) (varT n))), AV.isl (Ty.nl (Option.getD (boundO (List.drop x l) n) (varT n))) none (0) (encL (Ty.l (Option.getD (boundO (List.drop x l) n) (varT n))))] = AV.agg [AV.int IntKind.i64 (Ty.kind r), AV.int IntKind.i64 (Ty.n r), AV.isl (Ty.nl r) none (0) (encL (Ty.l r))]) (AV.agg [AV.int IntKind.i64 (Ty.kind (varT n)), AV.int IntKind.i64 (Ty.n (varT n)), AV.isl (Ty.nl (varT n)) none (0) []] =
 AV.agg [AV.int IntKind.i64 (Ty.kind r), AV.int IntKind.i64 (Ty.n r), AV.isl (Ty.nl r) none (0) (encL (Ty.l r))]))) := by kernel_rfl

theorem cl_loop0 (t : Ty) (N : Nat) (meas : ASt Ty → Nat) (x : ASt Ty) : (runN (clH N) 60 104 0 (clSt t) meas 0 x) = ( bothR (decide (iC (ASt.i x) < iC (List.length (encL (Ty.l t))))) (0 ≤ iC (ASt.i x) ∧ ∃ x_1, (encL (Ty.l t))[Int.toNat (iC (ASt.i x))]? = some (AV.agg [AV.int IntKind.i64 (Ty.kind x_1), AV.int IntKind.i64 (Ty.n x_1), AV.isl (Ty.nl x_1) none (0) (encL (Ty.l x_1))]) ∧ ∃ l, encL (Ty.l x_1) = encL l ∧ (SizeOf.sizeOf (Ty.mk (Ty.kind x_1) (Ty.n x_1) (Ty.nl x_1) l) < N ∧ cnt (Ty.mk (Ty.kind x_1) (Ty.n x_1) (Ty.nl x_1) l) ≤ 1000) ∧
 (Nat.le (40) (35184372088832) ∧ Nat.le (1) (1152921504606846976)) ∧ true = true ∧ ((∃ y, (ASt.i y ≤ List.length (Ty.l t) ∧ List.length (ASt.acc y) = ASt.i y ∧ cnt t ≤ 1000 ∧ ph0 (1) (ASt.i y)) ∧ meas y < meas x ∧ ASt.acc y ++ cleanL (List.drop (ASt.i y) (Ty.l t)) = ASt.acc x ++ cleanL (List.drop (ASt.i x) (Ty.l t)) ∧ AV.ptr (0) (0) = AV.ptr (0) (0) ∧ AV.ptr (1) (0) = AV.ptr (1) (0) ∧ AV.ptr (2) (0) = AV.ptr (2) (0) ∧ AV.int IntKind.i64 (IntKind.wrap IntKind.i64 (iC (ASt.i x) + (1 : Int))) = AV.int IntKind.i64 (iC (ASt.i y)) ∧ 24 = 24 ∧
 AV.int IntKind.i64 (Ty.kind t) = AV.int IntKind.i64 (Ty.kind t) ∧ AV.int IntKind.i64 (Ty.n t) = AV.int IntKind.i64 (Ty.n t) ∧ AV.isl (Ty.nl t) none (0) (encL (Ty.l t)) = AV.isl (Ty.nl t) none (0) (encL (Ty.l t)) ∧ 24 = 24 ∧ 24 = 24 ∧ AV.int IntKind.i64 (Ty.kind t) = AV.int IntKind.i64 (Ty.kind t) ∧ AV.int IntKind.i64 (clN t) = AV.int IntKind.i64 (clN t) ∧ AV.isl false (some (0)) (0) [AV.agg [AV.int IntKind.i64 (Ty.kind (cleanT (Ty.mk (Ty.kind x_1) (Ty.n x_1) (Ty.nl x_1) l))), AV.int IntKind.i64 (Ty.n (cleanT (Ty.mk (Ty.kind x_1) (Ty.n x_1) (Ty.nl x_1) l))),
 AV.isl (Ty.nl (cleanT (Ty.mk (Ty.kind x_1) (Ty.n x_1) (Ty.nl x_1) l))) none (0) (encL (Ty.l (cleanT (Ty.mk (Ty.kind x_1) (Ty.n x_1) (Ty.nl x_1) l))))]] = AV.isl false (some (0)) (0) (encL (ASt.acc y)) ∧ [(1, 3)] = [(List.length (ASt.acc y), 3)] ∧ True) ∨ ∃ y, (ASt.i y ≤ List.length (Ty.l t) ∧ List.length (ASt.acc y) = ASt.i y ∧ cnt t ≤ 1000 ∧ ph0 (0) (ASt.i y)) ∧ meas y < meas x ∧ ASt.acc y ++ cleanL (List.drop (ASt.i y) (Ty.l t)) = ASt.acc x ++ cleanL (List.drop (ASt.i x) (Ty.l t)) ∧ AV.ptr (0) (0) = AV.ptr (0) (0) ∧ AV.ptr (1) (0) = AV.ptr (1) (0) ∧ AV.ptr (2) (0) = AV.ptr (2) (0) ∧
 AV.int IntKind.i64 (IntKind.wrap IntKind.i64 (iC (ASt.i x) + (1 : Int))) = AV.int IntKind.i64 (iC (ASt.i y)) ∧ 24 = 24 ∧ AV.int IntKind.i64 (Ty.kind t) = AV.int IntKind.i64 (Ty.kind t) ∧ AV.int IntKind.i64 (Ty.n t) = AV.int IntKind.i64 (Ty.n t) ∧ AV.isl (Ty.nl t) none (0) (encL (Ty.l t)) = AV.isl (Ty.nl t) none (0) (encL (Ty.l t)) ∧ 24 = 24 ∧ 24 = 24 ∧ AV.int IntKind.i64 (Ty.kind t) = AV.int IntKind.i64 (Ty.kind t) ∧ AV.int IntKind.i64 (clN t) = AV.int IntKind.i64 (clN t) ∧ (false = true ∧ [AV.agg [AV.int IntKind.i64 (Ty.kind (cleanT (Ty.mk (Ty.kind x_1) (Ty.n x_1) (Ty.nl x_1) l))),
 AV.int IntKind.i64 (Ty.n (cleanT (Ty.mk (Ty.kind x_1) (Ty.n x_1) (Ty.nl x_1) l))), AV.isl (Ty.nl (cleanT (Ty.mk (Ty.kind x_1) (Ty.n x_1) (Ty.nl x_1) l))) none (0) (encL (Ty.l (cleanT (Ty.mk (Ty.kind x_1) (Ty.n x_1) (Ty.nl x_1) l))))]] = []) ∧ 0 = 0 ∧ True)) (wayN (ASt.acc x ++ cleanL (List.drop (ASt.i x) (Ty.l t))) = 1 ∧ AV.ptr (0) (0) = AV.ptr (0) (0) ∧ AV.ptr (1) (0) = AV.ptr (1) (0) ∧ AV.ptr (2) (0) = AV.ptr (2) (0) ∧ 24 = 24 ∧ 24 = 24 ∧ 24 = 24 ∧ AV.int IntKind.i64 (Ty.kind t) = AV.int IntKind.i64 (Ty.kind t) ∧ AV.int IntKind.i64 (clN t) = AV.int IntKind.i64 (clN t) ∧
 AV.isl true none (0) [] = AV.isl false (some (0)) (0) (encL (ASt.acc x ++ cleanL (List.drop (ASt.i x) (Ty.l t)))) ∧ [] = [(List.length (ASt.acc x ++ cleanL (List.drop (ASt.i x) (Ty.l t))), 3)] ∧ True ∨ wayN (ASt.acc x ++ cleanL (List.drop (ASt.i x) (Ty.l t))) = 0 ∧ AV.ptr (0) (0) = AV.ptr (0) (0) ∧ AV.ptr (1) (0) = AV.ptr (1) (0) ∧ AV.ptr (2) (0) = AV.ptr (2) (0) ∧ 24 = 24 ∧ 24 = 24 ∧ 24 = 24 ∧ AV.int IntKind.i64 (Ty.kind t) = AV.int IntKind.i64 (Ty.kind t) ∧ AV.int IntKind.i64 (clN t) = AV.int IntKind.i64 (clN t) ∧
 SubR [AV.isl true none (0) []] [AV.isl true none (0) []] (0 = 0 ∧ True))) := by kernel_rfl

theorem cl_loop1 (t : Ty) (N : Nat) (meas : ASt Ty → Nat) (x : ASt Ty) : (runN (clH N) 60 104 0 (clSt t) meas 1 x) = ( bothR (decide (iC (ASt.i x) < iC (List.length (encL (Ty.l t))))) (0 ≤ iC (ASt.i x) ∧ ∃ x_1, (encL (Ty.l t))[Int.toNat (iC (ASt.i x))]? = some (AV.agg [AV.int IntKind.i64 (Ty.kind x_1), AV.int IntKind.i64 (Ty.n x_1), AV.isl (Ty.nl x_1) none (0) (encL (Ty.l x_1))]) ∧ ∃ l, encL (Ty.l x_1) = encL l ∧ (SizeOf.sizeOf (Ty.mk (Ty.kind x_1) (Ty.n x_1) (Ty.nl x_1) l) < N ∧ cnt (Ty.mk (Ty.kind x_1) (Ty.n x_1) (Ty.nl x_1) l) ≤ 1000) ∧
 ((List.length (encL (ASt.acc x)) + 1) * 40 ≤ 35184372088832 ∧ List.length (encL (ASt.acc x)) + 1 ≤ 1152921504606846976) ∧ true = true ∧ some (List.length (ASt.acc x), 3) = some (0 + List.length (encL (ASt.acc x)), 3) ∧ List.all (encL (ASt.acc x)) (oneSz (2 + 1)) = true ∧ ∃ y, (ASt.i y ≤ List.length (Ty.l t) ∧ List.length (ASt.acc y) = ASt.i y ∧ cnt t ≤ 1000 ∧ ph0 (1) (ASt.i y)) ∧ meas y < meas x ∧ ASt.acc y ++ cleanL (List.drop (ASt.i y) (Ty.l t)) = ASt.acc x ++ cleanL (List.drop (ASt.i x) (Ty.l t)) ∧ AV.ptr (0) (0) = AV.ptr (0) (0) ∧ AV.ptr (1) (0) = AV.ptr (1) (0) ∧
 AV.ptr (2) (0) = AV.ptr (2) (0) ∧ AV.int IntKind.i64 (IntKind.wrap IntKind.i64 (iC (ASt.i x) + (1 : Int))) = AV.int IntKind.i64 (iC (ASt.i y)) ∧ 24 = 24 ∧ AV.int IntKind.i64 (Ty.kind t) = AV.int IntKind.i64 (Ty.kind t) ∧ AV.int IntKind.i64 (Ty.n t) = AV.int IntKind.i64 (Ty.n t) ∧ AV.isl (Ty.nl t) none (0) (encL (Ty.l t)) = AV.isl (Ty.nl t) none (0) (encL (Ty.l t)) ∧ 24 = 24 ∧ 24 = 24 ∧ AV.int IntKind.i64 (Ty.kind t) = AV.int IntKind.i64 (Ty.kind t) ∧ AV.int IntKind.i64 (clN t) = AV.int IntKind.i64 (clN t) ∧ AV.isl false (some (0)) (0) (encL (ASt.acc x) ++ [AV.agg
 [AV.int IntKind.i64 (Ty.kind (cleanT (Ty.mk (Ty.kind x_1) (Ty.n x_1) (Ty.nl x_1) l))), AV.int IntKind.i64 (Ty.n (cleanT (Ty.mk (Ty.kind x_1) (Ty.n x_1) (Ty.nl x_1) l))), AV.isl (Ty.nl (cleanT (Ty.mk (Ty.kind x_1) (Ty.n x_1) (Ty.nl x_1) l))) none 0 (encL (Ty.l (cleanT (Ty.mk (Ty.kind x_1) (Ty.n x_1) (Ty.nl x_1) l))))]]) = AV.isl false (some (0)) (0) (encL (ASt.acc y)) ∧ [(0 + List.length (encL (ASt.acc x)) + 1, 3)] = [(List.length (ASt.acc y), 3)] ∧ True) (wayN (ASt.acc x ++ cleanL (List.drop (ASt.i x) (Ty.l t))) = 1 ∧ AV.ptr (0) (0) = AV.ptr (0) (0) ∧ AV.ptr (1) (0) = AV.ptr (1) (0) ∧
 AV.ptr (2) (0) = AV.ptr (2) (0) ∧ 24 = 24 ∧ 24 = 24 ∧ 24 = 24 ∧ AV.int IntKind.i64 (Ty.kind t) = AV.int IntKind.i64 (Ty.kind t) ∧ AV.int IntKind.i64 (clN t) = AV.int IntKind.i64 (clN t) ∧ AV.isl false (some (0)) (0) (encL (ASt.acc x)) = AV.isl false (some (0)) (0) (encL (ASt.acc x ++ cleanL (List.drop (ASt.i x) (Ty.l t)))) ∧ [(List.length (ASt.acc x), 3)] = [(List.length (ASt.acc x ++ cleanL (List.drop (ASt.i x) (Ty.l t))), 3)] ∧ True)) := by kernel_rfl

theorem cl_top (t : Ty) (r : Ty) : (runF (clH' t) 60 104 [encD t] AH.nil (retIs Tryz.prog 5 (encD r))) = ( bothR (decide (Ty.kind t = (6 : Int))) (codeIs (loopOf Tryz.prog 104 0) Tryz.prog 104 0 (∃ x, (ASt.i x ≤ List.length (Ty.l t) ∧ List.length (ASt.acc x) = ASt.i x ∧ cnt t ≤ 1000 ∧ ph0 (0) (ASt.i x)) ∧ AV.ptr (0) (0) = AV.ptr (0) (0) ∧ AV.ptr (1) (0) = AV.ptr (1) (0) ∧ AV.ptr (2) (0) = AV.ptr (2) (0) ∧ AV.int IntKind.i64 (0) = AV.int IntKind.i64 (iC (ASt.i x)) ∧ 24 = 24 ∧ AV.int IntKind.i64 (Ty.kind t) = AV.int IntKind.i64 (Ty.kind t) ∧
 AV.int IntKind.i64 (Ty.n t) = AV.int IntKind.i64 (Ty.n t) ∧ AV.isl (Ty.nl t) none (0) (encL (Ty.l t)) = AV.isl (Ty.nl t) none (0) (encL (Ty.l t)) ∧ 24 = 24 ∧ 24 = 24 ∧ AV.int IntKind.i64 (Ty.kind t) = AV.int IntKind.i64 (Ty.kind t) ∧ AV.int IntKind.i64 (Ty.n t) = AV.int IntKind.i64 (clN t) ∧ SubR [AV.isl true none (0) []] [AV.isl true none (0) []] (0 = 0 ∧ (wayN (ASt.acc x ++ cleanL (List.drop (ASt.i x) (Ty.l t))) = 1 → AV.agg [AV.int IntKind.i64 (Ty.kind t), AV.int IntKind.i64 (clN t), AV.isl false none (0) (encL (ASt.acc x ++ cleanL (List.drop (ASt.i x) (Ty.l t))))] =
 AV.agg [AV.int IntKind.i64 (Ty.kind r), AV.int IntKind.i64 (Ty.n r), AV.isl (Ty.nl r) none (0) (encL (Ty.l r))]) ∧ (wayN (ASt.acc x ++ cleanL (List.drop (ASt.i x) (Ty.l t))) = 0 → AV.agg [AV.int IntKind.i64 (Ty.kind t), AV.int IntKind.i64 (clN t), AV.isl true none (0) []] = AV.agg [AV.int IntKind.i64 (Ty.kind r), AV.int IntKind.i64 (Ty.n r), AV.isl (Ty.nl r) none (0) (encL (Ty.l r))])))) (codeIs (loopOf Tryz.prog 104 0) Tryz.prog 104 0 (∃ x, (ASt.i x ≤ List.length (Ty.l t) ∧ List.length (ASt.acc x) = ASt.i x ∧ cnt t ≤ 1000 ∧ ph0 (0) (ASt.i x)) ∧ AV.ptr (0) (0) = AV.ptr (0) (0) ∧
 AV.ptr (1) (0) = AV.ptr (1) (0) ∧ AV.ptr (2) (0) = AV.ptr (2) (0) ∧ AV.int IntKind.i64 (0) = AV.int IntKind.i64 (iC (ASt.i x)) ∧ 24 = 24 ∧ AV.int IntKind.i64 (Ty.kind t) = AV.int IntKind.i64 (Ty.kind t) ∧ AV.int IntKind.i64 (Ty.n t) = AV.int IntKind.i64 (Ty.n t) ∧ AV.isl (Ty.nl t) none (0) (encL (Ty.l t)) = AV.isl (Ty.nl t) none (0) (encL (Ty.l t)) ∧ 24 = 24 ∧ 24 = 24 ∧ AV.int IntKind.i64 (Ty.kind t) = AV.int IntKind.i64 (Ty.kind t) ∧ AV.int IntKind.i64 (0) = AV.int IntKind.i64 (clN t) ∧ SubR [AV.isl true none (0) []] [AV.isl true none (0) []] (0 = 0 ∧
 (wayN (ASt.acc x ++ cleanL (List.drop (ASt.i x) (Ty.l t))) = 1 → AV.agg [AV.int IntKind.i64 (Ty.kind t), AV.int IntKind.i64 (clN t), AV.isl false none (0) (encL (ASt.acc x ++ cleanL (List.drop (ASt.i x) (Ty.l t))))] = AV.agg [AV.int IntKind.i64 (Ty.kind r), AV.int IntKind.i64 (Ty.n r), AV.isl (Ty.nl r) none (0) (encL (Ty.l r))]) ∧ (wayN (ASt.acc x ++ cleanL (List.drop (ASt.i x) (Ty.l t))) = 0 → AV.agg [AV.int IntKind.i64 (Ty.kind t), AV.int IntKind.i64 (clN t), AV.isl true none (0) []] =
 AV.agg [AV.int IntKind.i64 (Ty.kind r), AV.int IntKind.i64 (Ty.n r), AV.isl (Ty.nl r) none (0) (encL (Ty.l r))]))))) := by kernel_rfl

theorem wi_loop0 (b : Bool) (bs : List (Int × Ty)) (t : Ty) (N : Nat) (meas : ASt Ty → Nat) (x : ASt Ty) : (runN (wiH N) 60 84 0 (wiSt b bs t) meas 0 x) = ( bothR (decide (iC (ASt.i x) < iC (List.length (encL (Ty.l t))))) (0 ≤ iC (ASt.i x) ∧ ∃ x_1, (encL (Ty.l t))[Int.toNat (iC (ASt.i x))]? = some (AV.agg [AV.int IntKind.i64 (Ty.kind x_1), AV.int IntKind.i64 (Ty.n x_1), AV.isl (Ty.nl x_1) none (0) (encL (Ty.l x_1))]) ∧ ∃ l, encB bs = encB l ∧ ∃ l_1, encL (Ty.l x_1) = encL l_1 ∧ (SizeOf.sizeOf (Ty.mk (Ty.kind x_1) (Ty.n x_1) (Ty.nl x_1) l_1) < N ∧
 cnt (Ty.mk (Ty.kind x_1) (Ty.n x_1) (Ty.nl x_1) l_1) ≤ 1000 ∧ List.length l ≤ 2000 ∧ allC l) ∧ (Nat.le (40) (35184372088832) ∧ Nat.le (1) (1152921504606846976)) ∧ true = true ∧ ((∃ y, (ASt.i y ≤ List.length (Ty.l t) ∧ List.length (ASt.acc y) = ASt.i y ∧ cnt t ≤ 1000 ∧ ph0 (1) (ASt.i y)) ∧ meas y < meas x ∧ ASt.acc y ++ withL bs (List.drop (ASt.i y) (Ty.l t)) = ASt.acc x ++ withL bs (List.drop (ASt.i x) (Ty.l t)) ∧ AV.isl b none (0) (encB bs) = AV.isl b none (0) (encB bs) ∧ AV.ptr (0) (0) = AV.ptr (0) (0) ∧ AV.ptr (1) (0) = AV.ptr (1) (0) ∧ AV.ptr (2) (0) = AV.ptr (2) (0) ∧
 AV.int IntKind.i64 (IntKind.wrap IntKind.i64 (iC (ASt.i x) + (1 : Int))) = AV.int IntKind.i64 (iC (ASt.i y)) ∧ 24 = 24 ∧ AV.int IntKind.i64 (Ty.kind t) = AV.int IntKind.i64 (Ty.kind t) ∧ AV.int IntKind.i64 (Ty.n t) = AV.int IntKind.i64 (Ty.n t) ∧ AV.isl (Ty.nl t) none (0) (encL (Ty.l t)) = AV.isl (Ty.nl t) none (0) (encL (Ty.l t)) ∧ 24 = 24 ∧ 24 = 24 ∧ AV.int IntKind.i64 (Ty.kind t) = AV.int IntKind.i64 (Ty.kind t) ∧ AV.int IntKind.i64 (0) = AV.int IntKind.i64 (0) ∧ AV.isl false (some (0)) (0) [AV.agg [AV.int IntKind.i64 (Ty.kind (withT l (Ty.mk (Ty.kind x_1) (Ty.n x_1) (Ty.nl x_1) l_1))),
 AV.int IntKind.i64 (Ty.n (withT l (Ty.mk (Ty.kind x_1) (Ty.n x_1) (Ty.nl x_1) l_1))), AV.isl (Ty.nl (withT l (Ty.mk (Ty.kind x_1) (Ty.n x_1) (Ty.nl x_1) l_1))) none (0) (encL (Ty.l (withT l (Ty.mk (Ty.kind x_1) (Ty.n x_1) (Ty.nl x_1) l_1))))]] = AV.isl false (some (0)) (0) (encL (ASt.acc y)) ∧ [(1, 3)] = [(List.length (ASt.acc y), 3)] ∧ True) ∨ ∃ y, (ASt.i y ≤ List.length (Ty.l t) ∧ List.length (ASt.acc y) = ASt.i y ∧ cnt t ≤ 1000 ∧ ph0 (0) (ASt.i y)) ∧ meas y < meas x ∧ ASt.acc y ++ withL bs (List.drop (ASt.i y) (Ty.l t)) = ASt.acc x ++ withL bs (List.drop (ASt.i x) (Ty.l t)) ∧
 AV.isl b none (0) (encB bs) = AV.isl b none (0) (encB bs) ∧ AV.ptr (0) (0) = AV.ptr (0) (0) ∧ AV.ptr (1) (0) = AV.ptr (1) (0) ∧ AV.ptr (2) (0) = AV.ptr (2) (0) ∧ AV.int IntKind.i64 (IntKind.wrap IntKind.i64 (iC (ASt.i x) + (1 : Int))) = AV.int IntKind.i64 (iC (ASt.i y)) ∧ 24 = 24 ∧ AV.int IntKind.i64 (Ty.kind t) = AV.int IntKind.i64 (Ty.kind t) ∧ AV.int IntKind.i64 (Ty.n t) = AV.int IntKind.i64 (Ty.n t) ∧ AV.isl (Ty.nl t) none (0) (encL (Ty.l t)) = AV.isl (Ty.nl t) none (0) (encL (Ty.l t)) ∧ 24 = 24 ∧ 24 = 24 ∧ AV.int IntKind.i64 (Ty.kind t) = AV.int IntKind.i64 (Ty.kind t) ∧
 AV.int IntKind.i64 (0) = AV.int IntKind.i64 (0) ∧ (false = true ∧ [AV.agg [AV.int IntKind.i64 (Ty.kind (withT l (Ty.mk (Ty.kind x_1) (Ty.n x_1) (Ty.nl x_1) l_1))), AV.int IntKind.i64 (Ty.n (withT l (Ty.mk (Ty.kind x_1) (Ty.n x_1) (Ty.nl x_1) l_1))), AV.isl (Ty.nl (withT l (Ty.mk (Ty.kind x_1) (Ty.n x_1) (Ty.nl x_1) l_1))) none (0) (encL (Ty.l (withT l (Ty.mk (Ty.kind x_1) (Ty.n x_1) (Ty.nl x_1) l_1))))]] = []) ∧ 0 = 0 ∧ True)) (wayN (ASt.acc x ++ withL bs (List.drop (ASt.i x) (Ty.l t))) = 1 ∧ AV.ptr (0) (0) = AV.ptr (0) (0) ∧ AV.ptr (1) (0) = AV.ptr (1) (0) ∧ AV.ptr (2) (0) = AV.ptr (2) (0) ∧
 24 = 24 ∧ 24 = 24 ∧ 24 = 24 ∧ AV.int IntKind.i64 (Ty.kind t) = AV.int IntKind.i64 (Ty.kind t) ∧ AV.int IntKind.i64 (0) = AV.int IntKind.i64 (0) ∧ AV.isl true none (0) [] = AV.isl false (some (0)) (0) (encL (ASt.acc x ++ withL bs (List.drop (ASt.i x) (Ty.l t)))) ∧ [] = [(List.length (ASt.acc x ++ withL bs (List.drop (ASt.i x) (Ty.l t))), 3)] ∧ True ∨ wayN (ASt.acc x ++ withL bs (List.drop (ASt.i x) (Ty.l t))) = 0 ∧ AV.ptr (0) (0) = AV.ptr (0) (0) ∧ AV.ptr (1) (0) = AV.ptr (1) (0) ∧ AV.ptr (2) (0) = AV.ptr (2) (0) ∧ 24 = 24 ∧ 24 = 24 ∧ 24 = 24 ∧
 AV.int IntKind.i64 (Ty.kind t) = AV.int IntKind.i64 (Ty.kind t) ∧ SubR [AV.int IntKind.i64 (0), AV.isl true none (0) []] [AV.int IntKind.i64 (0), AV.isl true none (0) []] (0 = 0 ∧ True))) := by kernel_rfl

theorem wi_loop1 (b : Bool) (bs : List (Int × Ty)) (t : Ty) (N : Nat) (meas : ASt Ty → Nat) (x : ASt Ty) : (runN (wiH N) 60 84 0 (wiSt b bs t) meas 1 x) = ( bothR (decide (iC (ASt.i x) < iC (List.length (encL (Ty.l t))))) (0 ≤ iC (ASt.i x) ∧ ∃ x_1, (encL (Ty.l t))[Int.toNat (iC (ASt.i x))]? = some (AV.agg [AV.int IntKind.i64 (Ty.kind x_1), AV.int IntKind.i64 (Ty.n x_1), AV.isl (Ty.nl x_1) none (0) (encL (Ty.l x_1))]) ∧ ∃ l, encB bs = encB l ∧ ∃ l_1, encL (Ty.l x_1) = encL l_1 ∧ (SizeOf.sizeOf (Ty.mk (Ty.kind x_1) (Ty.n x_1) (Ty.nl x_1) l_1) < N ∧
 cnt (Ty.mk (Ty.kind x_1) (Ty.n x_1) (Ty.nl x_1) l_1) ≤ 1000 ∧ List.length l ≤ 2000 ∧ allC l) ∧ ((List.length (encL (ASt.acc x)) + 1) * 40 ≤ 35184372088832 ∧ List.length (encL (ASt.acc x)) + 1 ≤ 1152921504606846976) ∧ true = true ∧ some (List.length (ASt.acc x), 3) = some (0 + List.length (encL (ASt.acc x)), 3) ∧ List.all (encL (ASt.acc x)) (oneSz (2 + 1)) = true ∧ ∃ y, (ASt.i y ≤ List.length (Ty.l t) ∧ List.length (ASt.acc y) = ASt.i y ∧ cnt t ≤ 1000 ∧ ph0 (1) (ASt.i y)) ∧ meas y < meas x ∧
 ASt.acc y ++ withL bs (List.drop (ASt.i y) (Ty.l t)) = ASt.acc x ++ withL bs (List.drop (ASt.i x) (Ty.l t)) ∧ AV.isl b none (0) (encB bs) = AV.isl b none (0) (encB bs) ∧ AV.ptr (0) (0) = AV.ptr (0) (0) ∧ AV.ptr (1) (0) = AV.ptr (1) (0) ∧ AV.ptr (2) (0) = AV.ptr (2) (0) ∧ AV.int IntKind.i64 (IntKind.wrap IntKind.i64 (iC (ASt.i x) + (1 : Int))) = AV.int IntKind.i64 (iC (ASt.i y)) ∧ 24 = 24 ∧ AV.int IntKind.i64 (Ty.kind t) = AV.int IntKind.i64 (Ty.kind t) ∧ AV.int IntKind.i64 (Ty.n t) = AV.int IntKind.i64 (Ty.n t) ∧
 AV.isl (Ty.nl t) none (0) (encL (Ty.l t)) = AV.isl (Ty.nl t) none (0) (encL (Ty.l t)) ∧ 24 = 24 ∧ 24 = 24 ∧ AV.int IntKind.i64 (Ty.kind t) = AV.int IntKind.i64 (Ty.kind t) ∧ AV.int IntKind.i64 (0) = AV.int IntKind.i64 (0) ∧ AV.isl false (some (0)) (0) (encL (ASt.acc x) ++ [AV.agg [AV.int IntKind.i64 (Ty.kind (withT l (Ty.mk (Ty.kind x_1) (Ty.n x_1) (Ty.nl x_1) l_1))), AV.int IntKind.i64 (Ty.n (withT l (Ty.mk (Ty.kind x_1) (Ty.n x_1) (Ty.nl x_1) l_1))), AV.isl (Ty.nl (withT l (Ty.mk (Ty.kind x_1) (Ty.n x_1) (Ty.nl x_1) l_1))) none 0
 (encL (Ty.l (withT l (Ty.mk (Ty.kind x_1) (Ty.n x_1) (Ty.nl x_1) l_1))))]]) = AV.isl false (some (0)) (0) (encL (ASt.acc y)) ∧ [(0 + List.length (encL (ASt.acc x)) + 1, 3)] = [(List.length (ASt.acc y), 3)] ∧ True) (wayN (ASt.acc x ++ withL bs (List.drop (ASt.i x) (Ty.l t))) = 1 ∧ AV.ptr (0) (0) = AV.ptr (0) (0) ∧ AV.ptr (1) (0) = AV.ptr (1) (0) ∧ AV.ptr (2) (0) = AV.ptr (2) (0) ∧ 24 = 24 ∧ 24 = 24 ∧ 24 = 24 ∧ AV.int IntKind.i64 (Ty.kind t) = AV.int IntKind.i64 (Ty.kind t) ∧ AV.int IntKind.i64 (0) = AV.int IntKind.i64 (0) ∧ AV.isl false (some (0)) (0) (encL (ASt.acc x)) =
 AV.isl false (some (0)) (0) (encL (ASt.acc x ++ withL bs (List.drop (ASt.i x) (Ty.l t)))) ∧ [(List.length (ASt.acc x), 3)] = [(List.length (ASt.acc x ++ withL bs (List.drop (ASt.i x) (Ty.l t))), 3)] ∧ True)) := by kernel_rfl

theorem wi_top (b : Bool) (bs : List (Int × Ty)) (t : Ty) (r : Ty) : (runF (wiH' b bs t) 60 84 [.isl b none 0 (encB bs), encD t] AH.nil (retIs Tryz.prog 5 (encD r))) = ( bothR (decide (Ty.kind t = (6 : Int))) (∃ l, encB bs = encB l ∧ List.length l ≤ 2000 ∧ ∃ l_1, encL (Ty.l (boundT l (Ty.n t))) = encL l_1 ∧ cnt (Ty.mk (Ty.kind (boundT l (Ty.n t))) (Ty.n (boundT l (Ty.n t))) (Ty.nl (boundT l (Ty.n t))) l_1) ≤ 1000 ∧ AV.agg [AV.int IntKind.i64 (Ty.kind (cleanT (Ty.mk (Ty.kind (boundT l (Ty.n t))) (Ty.n (boundT l (Ty.n t))) (Ty.nl (boundT l (Ty.n t))) l_1))),
 AV.int IntKind.i64 (Ty.n (cleanT (Ty.mk (Ty.kind (boundT l (Ty.n t))) (Ty.n (boundT l (Ty.n t))) (Ty.nl (boundT l (Ty.n t))) l_1))), AV.isl (Ty.nl (cleanT (Ty.mk (Ty.kind (boundT l (Ty.n t))) (Ty.n (boundT l (Ty.n t))) (Ty.nl (boundT l (Ty.n t))) l_1))) none (0) (encL (Ty.l (cleanT (Ty.mk (Ty.kind (boundT l (Ty.n t))) (Ty.n (boundT l (Ty.n t))) (Ty.nl (boundT l (Ty.n t))) l_1))))] = AV.agg [AV.int IntKind.i64 (Ty.kind r), AV.int IntKind.i64 (Ty.n r), AV.isl (Ty.nl r) none (0) (encL (Ty.l r))]) (codeIs (loopOf Tryz.prog 84 0) Tryz.prog 84 0 (∃ x,
 (ASt.i x ≤ List.length (Ty.l t) ∧ List.length (ASt.acc x) = ASt.i x ∧ cnt t ≤ 1000 ∧ ph0 (0) (ASt.i x)) ∧ AV.isl b none (0) (encB bs) = AV.isl b none (0) (encB bs) ∧ AV.ptr (0) (0) = AV.ptr (0) (0) ∧ AV.ptr (1) (0) = AV.ptr (1) (0) ∧ AV.ptr (2) (0) = AV.ptr (2) (0) ∧ AV.int IntKind.i64 (0) = AV.int IntKind.i64 (iC (ASt.i x)) ∧ 24 = 24 ∧ AV.int IntKind.i64 (Ty.kind t) = AV.int IntKind.i64 (Ty.kind t) ∧ AV.int IntKind.i64 (Ty.n t) = AV.int IntKind.i64 (Ty.n t) ∧ AV.isl (Ty.nl t) none (0) (encL (Ty.l t)) = AV.isl (Ty.nl t) none (0) (encL (Ty.l t)) ∧ 24 = 24 ∧ 24 = 24 ∧
 AV.int IntKind.i64 (Ty.kind t) = AV.int IntKind.i64 (Ty.kind t) ∧ SubR [AV.int IntKind.i64 (0), AV.isl true none (0) []] [AV.int IntKind.i64 (0), AV.isl true none (0) []] (0 = 0 ∧ (wayN (ASt.acc x ++ withL bs (List.drop (ASt.i x) (Ty.l t))) = 1 → AV.agg [AV.int IntKind.i64 (Ty.kind t), AV.int IntKind.i64 (0), AV.isl false none (0) (encL (ASt.acc x ++ withL bs (List.drop (ASt.i x) (Ty.l t))))] = AV.agg [AV.int IntKind.i64 (Ty.kind r), AV.int IntKind.i64 (Ty.n r), AV.isl (Ty.nl r) none (0) (encL (Ty.l r))]) ∧ (wayN (ASt.acc x ++ withL bs (List.drop (ASt.i x) (Ty.l t))) = 0 →
 AV.agg [AV.int IntKind.i64 (Ty.kind t), AV.int IntKind.i64 (0), AV.isl true none (0) []] = AV.agg [AV.int IntKind.i64 (Ty.kind r), AV.int IntKind.i64 (Ty.n r), AV.isl (Ty.nl r) none (0) (encL (Ty.l r))]))))) := by kernel_rfl

end Go.Proofs.YtnmolpkkemljoaaGreatDoor
end
end

section
set_option maxRecDepth 100000
set_option linter.unusedSimpArgs false
set_option linter.unusedVariables false
noncomputable section
namespace Go.Proofs.YtnmolpkkemljoaaGreatDoor
open Go Go.Am Kd

theorem encB_length (l : List (Int × Ty)) : (encB l).length = l.length := by simp [encB]
theorem encB_get (l : List (Int × Ty)) (i : Nat) (h : i < l.length) : (encB l)[i]? = some (bindD l[i]) := by simp [encB, h]
theorem encB_still (l : List (Int × Ty)) : AV.stillL (encB l) = true := by
  induction l with
  | nil => rfl
  | cons x l ih => simp only [encB, List.map_cons, AV.stillL, bindD, AV.still, encL_still, Bool.true_and, Bool.and_true]; exact ih
theorem bindD_inj {x y : Int × Ty} (h : bindD x = bindD y) : x = y := by
  obtain ⟨a, t⟩ := x
  obtain ⟨b, u⟩ := y
  simp only [bindD, AV.agg.injEq, List.cons.injEq, AV.int.injEq, true_and, AV.isl.injEq, and_true] at h
  obtain ⟨h1, h2, h3, h4, h5⟩ := h
  have : enc t = enc u := by rw [enc_D, enc_D]; simp only [encD, h2, h3, h4, h5]
  rw [h1, enc_inj this]
theorem encB_inj {l m : List (Int × Ty)} (h : encB l = encB m) : l = m := by
  induction l generalizing m with
  | nil => cases m <;> simp_all [encB]
  | cons x l ih =>
    cases m with
    | nil => simp [encB] at h
    | cons y m =>
      simp only [encB, List.map_cons, List.cons.injEq] at h
      rw [bindD_inj h.1, ih h.2]
theorem encL_one (l : List Ty) : (encL l).all (oneSz 3) = true := by
  rw [encL_map]
  simp [oneSz, AV.cells, AV.one, enc_D, encD]
theorem encL_snoc (l : List Ty) (u : Ty) : encL l ++ [AV.agg [.int .i64 u.kind, .int .i64 u.n, .isl u.nl none 0 (encL u.l)]] = encL (l ++ [u]) := by
  have e : encL [u] = [AV.agg [.int .i64 u.kind, .int .i64 u.n, .isl u.nl none 0 (encL u.l)]] := by simp only [encL, enc_D]; rfl
  rw [← e, encL_map l, encL_map [u], encL_map (l ++ [u]), List.map_append]
theorem encL_sing (u : Ty) : [AV.agg [.int .i64 u.kind, .int .i64 u.n, .isl u.nl none 0 (encL u.l)]] = encL [u] := encL_snoc [] u
theorem ex_bind {l : List (Int × Ty)} {i : Nat} (h : i < l.length) {P : Int × Ty → Prop} : (∃ x, (encB l)[i]? = some (AV.agg [.int .i64 (Prod.fst x), .int .i64 (Ty.kind (Prod.snd x)), .int .i64 (Ty.n (Prod.snd x)), .isl (Ty.nl (Prod.snd x)) none 0 (encL (Ty.l (Prod.snd x)))]) ∧ P x) = P l[i] := by
  have e := encB_get l i h
  refine propext ⟨fun ⟨x, h1, h2⟩ => ?_, fun hp => ⟨l[i], e, hp⟩⟩
  rw [e] at h1
  rw [bindD_inj (Option.some.inj h1)]; exact h2
theorem ex_encB {l : List (Int × Ty)} {P : List (Int × Ty) → Prop} : (∃ l', encB l = encB l' ∧ P l') = P l :=
  propext ⟨fun ⟨l', h, hp⟩ => by rw [encB_inj h]; exact hp, fun h => ⟨l, rfl, h⟩⟩
theorem encD_still (u : Ty) : (encD u).still = true := by rw [← enc_D]; exact enc_still u

theorem var_ok (n : Int) : QJ 106 [.int .i64 n] (encD (varT n)) := by
  refine QJ.by rfl rfl hk0_ok ?_
  rw [var_top]; rfl
theorem var_hook : QSpec.Ok Tryz.prog g0 106 varQ := by
  intro args K h'
  unfold varQ at h'
  split at h'
  · obtain ⟨n, rfl, h1⟩ := argInt_elim h'
    exact ⟨_, var_ok n, h1⟩
  · exact h'.elim

theorem bound_ok (b : Bool) (l : List (Int × Ty)) (n : Int) (hl : l.length ≤ 2000) : QJ 120 [.isl b none 0 (encB l), .int .i64 n] (encD (boundT l n)) := by
  have hlp : LHook.Ok Tryz.prog g0 ⟨120, 0, (boSt b l n).spec⟩ := by
    refine LSt.by (hk := hk0) (boSt b l n) (fun x => l.length - x) hk0_ok rfl ?_ ?_ ?_
    · intro x _
      exact Whole.frm rfl rfl (by simp [boSt, AV.bnd, AV.still_bndL, encB_still]) rfl
    · intro x b' _
      cases b' <;> exact Whole.frm rfl rfl rfl (by simp [boSt, top3, tyC, ABlk.bnd, AV.bndL, AV.bnd, encL_bnd])
    · rintro i ⟨hi, hb⟩
      rw [bo_loop]
      simp only [iC, encB_length, eq_self, true_and, and_true, Int.toNat_natCast, AV.int.injEq]
      refine bothR_dec (fun hlt => ?_) fun hge => ?_
      · have hi' : i < l.length := by omega
        have hd : l.drop i = l[i] :: l.drop (i + 1) := List.drop_eq_getElem_cons hi'
        rw [ex_bind hi', hd]
        refine ⟨by omega, bothR_dec (fun h => ?_) fun h => ?_⟩
        · rw [ex_bind hi']
          simp only [boundO, h, if_true, Option.isSome_some, Option.getD_some]
          exact ⟨by omega, trivial, trivial, trivial, trivial⟩
        · refine ⟨i + 1, ⟨by omega, hb⟩, by omega, ?_, ?_⟩
          · simp only [boundO, h, if_false]
          · rw [wrap_id (by omega) (by omega)]; rfl
      · rw [List.drop_of_length_le (by omega)]; rfl
  refine QJ.by (hk := boH' b l n) (by simp [AV.stillL, AV.still, encB_still]) (encD_still _) (mkHooks_ok (all_cons var_hook all_nil) all_nil (all_cons hlp all_nil)) ?_
  rw [bo_top]
  simp only [iC, eq_self, true_and, codeIs_self, AV.int.injEq]
  refine ⟨0, ⟨by omega, hl⟩, rfl, ?_⟩
  rw [List.drop_zero]
  refine bothR_bool (fun h => ?_) fun h => ?_
  · rfl
  · have : boundO l n = none := by cases e : boundO l n <;> simp_all
    simp only [boundT, this, Option.getD_none]; rfl
theorem bo_hook : QSpec.Ok Tryz.prog g0 120 boQ := by
  intro args K h'
  unfold boQ at h'
  split at h'
  · obtain ⟨b, l, rfl, h1⟩ := argBinds_elim h'
    obtain ⟨n, rfl, h2, h3⟩ := argInt_elim h1
    exact ⟨_, bound_ok b l n h2, h3⟩
  · exact h'.elim

theorem cl_hook {N : Nat} (ih : ∀ t, SizeOf.sizeOf t < N → cnt t ≤ 1000 → QJ 104 [enc t] (encD (cleanT t))) : QSpec.Ok Tryz.prog g0 104 (clQ N) := by
  intro args K h'
  unfold clQ at h'
  split at h'
  · obtain ⟨t, rfl, h1, h2⟩ := argTy_elim h'
    exact ⟨_, ih t h1.1 h1.2, h2⟩
  · exact h'.elim
theorem cleanL_len : ∀ l, (cleanL l).length = l.length
  | [] => rfl
  | x :: xs => by simp [cleanL, cleanL_len xs]
theorem withL_len (bs : List (Int × Ty)) : ∀ l, (withL bs l).length = l.length
  | [] => rfl
  | x :: xs => by simp [withL, withL_len bs xs]
theorem wayN_1 {α : Type} {l : List α} (h : l.length ≠ 0) : wayN l = 1 := by simp [wayN, h]
theorem nil_of_0 {α : Type} {l : List α} (h : wayN l = 0) : l = [] := by
  unfold wayN at h
  split at h
  · exact List.eq_nil_of_length_eq_zero ‹_›
  · cases h
theorem ne_of_1 {α : Type} {l : List α} (h : wayN l = 1) : l.length ≠ 0 := by
  unfold wayN at h
  split at h
  · cases h
  · assumption

theorem ph0_1 (i : Nat) : ph0 1 (i + 1) := ⟨(fun h => by cases h), fun h => by omega⟩
theorem ph0_0 : ph0 0 0 := ⟨fun _ => rfl, fun _ => rfl⟩

theorem clean_ok (t : Ty) (hc : cnt t ≤ 1000) : QJ 104 [enc t] (encD (cleanT t)) := by
  have key : ∀ (N : Nat) (t : Ty), SizeOf.sizeOf t < N → cnt t ≤ 1000 → QJ 104 [enc t] (encD (cleanT t)) := by
    intro N
    induction N with
    | zero => intro t h; omega
    | succ N ih =>
      intro t ht hc
      obtain ⟨k, n, nl, ts⟩ := t
      have hc0 := hc
      simp only [cnt] at hc
      simp only [Ty.mk.sizeOf_spec] at ht
      have hlc := len_cnt ts
      have hl : LHook.Ok Tryz.prog g0 ⟨104, 0, (clSt (.mk k n nl ts)).spec⟩ := by
        have hh : Hooks.Ok Tryz.prog g0 (clH N) := mkHooks_ok (all_cons (cl_hook ih) all_nil) all_nil all_nil
        refine LSN.ok (clSt (.mk k n nl ts)) (fun x => ts.length - x.i) (fun p l h => by cases h) ?_ ?_ ?_
        · intro p x hp _
          match p, hp with
          | 0, _ => exact Whole.frm rfl rfl rfl (by simp [clSt, top3, tyC, accV, ABlk.bnd, AV.bndL, AV.bnd, encL_bnd])
          | 1, _ => exact Whole.frm rfl rfl rfl (by simp [clSt, top3, tyC, accV, ABlk.bnd, AV.bndL, AV.bnd, encL_bnd])
        · intro p x w hp hw _ _
          match w, hw with
          | 0, _ => exact Whole.frm rfl rfl rfl (by simp [clSt, top3, tyC, accV, ABlk.bnd, AV.bndL, AV.bnd, encL_bnd])
          | 1, _ => exact Whole.frm rfl rfl rfl (by simp [clSt, top3, tyC, accV, ABlk.bnd, AV.bndL, AV.bnd, encL_bnd])
        · intro p x hp ⟨hi, ha, _, hph⟩
          simp only [tl_mk] at hi
          refine CodeJ.run (el := els) (mu := mu0) hmix hh (n := 60) ?_
          have step : ∀ (hi' : x.i < ts.length), (x.acc ++ [cleanT ts[x.i]]) ++ cleanL (ts.drop (x.i + 1)) = x.acc ++ cleanL (ts.drop x.i) := by
            intro hi'
            rw [List.drop_eq_getElem_cons hi']
            simp [cleanL]
          match p, hp with
          | 0, _ =>
            have h0 : x.i = 0 := hph.1 rfl
            have ha0 : x.acc = [] := List.eq_nil_of_length_eq_zero (by omega)
            show runN (clH N) 60 104 0 (clSt (.mk k n nl ts)) (fun x => ts.length - x.i) 0 x
            rw [cl_loop0]
            simp only [iC, encL_length, eq_self, true_and, and_true, Int.toNat_natCast, AV.int.injEq, tl_mk, SubR_id]
            refine bothR_dec (fun hlt => ?_) fun hge => ?_
            · have hi' : x.i < ts.length := by omega
              have hs := List.sizeOf_lt_of_mem (List.getElem_mem hi')
              have hg := cnt_get hi'
              rw [ex_get hi']
              simp only [ex_enc, Ty.eta]
              have st := step hi'
              rw [ha0] at st ⊢
              refine ⟨by omega, ⟨by omega, by omega⟩, ⟨(by decide : 40 ≤ 35184372088832), (by decide : 1 ≤ 1152921504606846976)⟩, .inl ⟨⟨x.i + 1, [] ++ [cleanT ts[x.i]]⟩, ⟨by simp only; omega, by simp [h0], hc0, ph0_1 _⟩, by simp only; omega, st, ?_, ?_⟩⟩
              · simp only; rw [wrap_id (by omega) (by omega)]; rfl
              · simp only [List.nil_append, List.length_singleton, encL_sing]; exact ⟨trivial, trivial⟩
            · have : x.acc ++ cleanL (ts.drop x.i) = [] := by rw [ha0, List.drop_of_length_le (by omega)]; rfl
              rw [this]
              exact .inr rfl
          | 1, _ =>
            have h0 : x.i ≠ 0 := fun h => by have := hph.2 h; cases this
            show runN (clH N) 60 104 0 (clSt (.mk k n nl ts)) (fun x => ts.length - x.i) 1 x
            rw [cl_loop1]
            simp only [iC, encL_length, eq_self, true_and, and_true, Int.toNat_natCast, AV.int.injEq, tl_mk, SubR_id, Nat.zero_add]
            refine bothR_dec (fun hlt => ?_) fun hge => ?_
            · have hi' : x.i < ts.length := by omega
              have hs := List.sizeOf_lt_of_mem (List.getElem_mem hi')
              have hg := cnt_get hi'
              rw [ex_get hi']
              simp only [ex_enc, Ty.eta]
              have st := step hi'
              refine ⟨by omega, ⟨by omega, by omega⟩, ⟨by omega, by omega⟩, encL_one _, ⟨⟨x.i + 1, x.acc ++ [cleanT ts[x.i]]⟩, ⟨by simp only; omega, by simp [ha], hc0, ph0_1 _⟩, by simp only; omega, st, ?_, ?_⟩⟩
              · simp only; rw [wrap_id (by omega) (by omega)]; rfl
              · simp only [List.length_append, List.length_singleton, encL_snoc]; exact ⟨trivial, trivial⟩
            · have : x.acc ++ cleanL (ts.drop x.i) = x.acc := by rw [List.drop_of_length_le (by omega)]; simp [cleanL]
              rw [this]
              exact ⟨wayN_1 (by omega), by simp⟩
      rw [enc_D]
      refine QJ.by (hk := clH' (.mk k n nl ts)) (by simp [AV.stillL, encD_still]) (encD_still _) (mkHooks_ok all_nil all_nil (all_cons hl all_nil)) ?_
      rw [cl_top]
      simp only [iC, eq_self, true_and, codeIs_self, AV.int.injEq, SubR_id, tk_mk, tn_mk, tl_mk]
      have fin : ∀ (hcl : clN (.mk k n nl ts) = (if k = 6 then n else 0)), (wayN ([] ++ cleanL (ts.drop 0)) = 1 → AV.agg [.int .i64 k, .int .i64 (clN (.mk k n nl ts)), .isl false none 0 (encL ([] ++ cleanL (ts.drop 0)))] = encD (cleanT (.mk k n nl ts))) ∧
          (wayN ([] ++ cleanL (ts.drop 0)) = 0 → AV.agg [.int .i64 k, .int .i64 (clN (.mk k n nl ts)), .isl true none 0 []] = encD (cleanT (.mk k n nl ts))) := by
        intro hcl
        rw [hcl, List.nil_append, List.drop_zero]
        have hln := cleanL_len ts
        constructor
        · intro h
          have := ne_of_1 h
          simp only [encD, cleanT, tk_mk, tn_mk, tl_mk, tb_mk, nilB]
          rw [decide_eq_false (by omega)]
        · intro h
          have h1 := nil_of_0 h
          have : ts.length = 0 := by rw [h1] at hln; simpa using hln.symm
          simp only [encD, cleanT, tk_mk, tn_mk, tl_mk, tb_mk, nilB]
          rw [decide_eq_true this, h1]
          rfl
      have hcl : clN (.mk k n nl ts) = (if k = 6 then n else 0) := rfl
      refine bothR_dec (fun h6 => ?_) fun h6 => ?_
      · exact ⟨⟨0, []⟩, ⟨by simp, rfl, hc0, ph0_0⟩, rfl, by rw [hcl, if_pos h6], fin hcl⟩
      · exact ⟨⟨0, []⟩, ⟨by simp, rfl, hc0, ph0_0⟩, rfl, by rw [hcl, if_neg h6], fin hcl⟩
  exact key (SizeOf.sizeOf t + 1) t (by omega) hc
theorem cl_hook0 : QSpec.Ok Tryz.prog g0 104 clQ0 := by
  intro args K h'
  unfold clQ0 at h'
  split at h'
  · obtain ⟨t, rfl, h1, h2⟩ := argTy_elim h'
    exact ⟨_, clean_ok t h1, h2⟩
  · exact h'.elim

theorem wi_hook {N : Nat} (ih : ∀ b bs t, SizeOf.sizeOf t < N → cnt t ≤ 1000 → bs.length ≤ 2000 → allC bs → QJ 84 [.isl b none 0 (encB bs), enc t] (encD (withT bs t))) : QSpec.Ok Tryz.prog g0 84 (wiQ N) := by
  intro args K h'
  unfold wiQ at h'
  split at h'
  · obtain ⟨b, bs, rfl, h1⟩ := argBinds_elim h'
    obtain ⟨t, rfl, h2, h3⟩ := argTy_elim h1
    exact ⟨_, ih b bs t h2.1 h2.2.1 h2.2.2.1 h2.2.2.2, h3⟩
  · exact h'.elim
theorem bound_cnt {bs : List (Int × Ty)} (h : allC bs) (n : Int) : cnt (boundT bs n) ≤ 1000 := by
  have key : ∀ (bs : List (Int × Ty)), allC bs → ∀ u, boundO bs n = some u → cnt u ≤ 1000 := by
    intro bs
    induction bs with
    | nil => intro _ u h; cases h
    | cons x l ih =>
      intro h u hu
      simp only [boundO] at hu
      split at hu
      · cases hu; exact h x (by simp)
      · exact ih (fun y hy => h y (by simp [hy])) u hu
  unfold boundT
  cases e : boundO bs n with
  | none => simp [varT, cnt, cntL]
  | some u => exact key bs h u e

theorem with_ok (b : Bool) (bs : List (Int × Ty)) (t : Ty) (hc : cnt t ≤ 1000) (hb : bs.length ≤ 2000) (hbs : allC bs) : QJ 84 [.isl b none 0 (encB bs), enc t] (encD (withT bs t)) := by
  have key : ∀ (N : Nat) (b : Bool) (bs : List (Int × Ty)) (t : Ty), SizeOf.sizeOf t < N → cnt t ≤ 1000 → bs.length ≤ 2000 → allC bs → QJ 84 [.isl b none 0 (encB bs), enc t] (encD (withT bs t)) := by
    intro N
    induction N with
    | zero => intro b bs t h; omega
    | succ N ih =>
      intro b bs t ht hc hb hbs
      obtain ⟨k, n, nl, ts⟩ := t
      have hc0 := hc
      simp only [cnt] at hc
      simp only [Ty.mk.sizeOf_spec] at ht
      have hlc := len_cnt ts
      have hl : LHook.Ok Tryz.prog g0 ⟨84, 0, (wiSt b bs (.mk k n nl ts)).spec⟩ := by
        have hh : Hooks.Ok Tryz.prog g0 (wiH N) := mkHooks_ok (all_cons (wi_hook ih) all_nil) all_nil all_nil
        refine LSN.ok (wiSt b bs (.mk k n nl ts)) (fun x => ts.length - x.i) (fun p l h => by cases h) ?_ ?_ ?_
        · intro p x hp _
          match p, hp with
          | 0, _ => exact Whole.frm rfl rfl (by simp [wiSt, AV.bnd, AV.still_bndL, encB_still]) (by simp [wiSt, top3, tyC, accV, ABlk.bnd, AV.bndL, AV.bnd, encL_bnd])
          | 1, _ => exact Whole.frm rfl rfl (by simp [wiSt, AV.bnd, AV.still_bndL, encB_still]) (by simp [wiSt, top3, tyC, accV, ABlk.bnd, AV.bndL, AV.bnd, encL_bnd])
        · intro p x w hp hw _ _
          match w, hw with
          | 0, _ => exact Whole.frm rfl rfl rfl (by simp [wiSt, top3, tyC, accV, ABlk.bnd, AV.bndL, AV.bnd, encL_bnd])
          | 1, _ => exact Whole.frm rfl rfl rfl (by simp [wiSt, top3, tyC, accV, ABlk.bnd, AV.bndL, AV.bnd, encL_bnd])
        · intro p x hp ⟨hi, ha, _, hph⟩
          simp only [tl_mk] at hi
          refine CodeJ.run (el := els) (mu := mu0) hmix hh (n := 60) ?_
          have step : ∀ (hi' : x.i < ts.length), (x.acc ++ [withT bs ts[x.i]]) ++ withL bs (ts.drop (x.i + 1)) = x.acc ++ withL bs (ts.drop x.i) := by
            intro hi'
            rw [List.drop_eq_getElem_cons hi']
            simp [withL]
          match p, hp with
          | 0, _ =>
            have h0 : x.i = 0 := hph.1 rfl
            have ha0 : x.acc = [] := List.eq_nil_of_length_eq_zero (by omega)
            show runN (wiH N) 60 84 0 (wiSt b bs (.mk k n nl ts)) (fun x => ts.length - x.i) 0 x
            rw [wi_loop0]
            simp only [iC, encL_length, eq_self, true_and, and_true, Int.toNat_natCast, AV.int.injEq, tl_mk, SubR_id, ex_encB]
            refine bothR_dec (fun hlt => ?_) fun hge => ?_
            · have hi' : x.i < ts.length := by omega
              have hs := List.sizeOf_lt_of_mem (List.getElem_mem hi')
              have hg := cnt_get hi'
              rw [ex_get hi']
              simp only [ex_enc, Ty.eta]
              have st := step hi'
              rw [ha0] at st ⊢
              refine ⟨by omega, ⟨by omega, by omega, hb, hbs⟩, ⟨(by decide : 40 ≤ 35184372088832), (by decide : 1 ≤ 1152921504606846976)⟩, .inl ⟨⟨x.i + 1, [] ++ [withT bs ts[x.i]]⟩, ⟨by simp only; omega, by simp [h0], hc0, ph0_1 _⟩, by simp only; omega, st, ?_, ?_⟩⟩
              · simp only; rw [wrap_id (by omega) (by omega)]; rfl
              · simp only [List.nil_append, List.length_singleton, encL_sing]; exact ⟨trivial, trivial⟩
            · have : x.acc ++ withL bs (ts.drop x.i) = [] := by rw [ha0, List.drop_of_length_le (by omega)]; rfl
              rw [this]
              exact .inr rfl
          | 1, _ =>
            have h0 : x.i ≠ 0 := fun h => by have := hph.2 h; cases this
            show runN (wiH N) 60 84 0 (wiSt b bs (.mk k n nl ts)) (fun x => ts.length - x.i) 1 x
            rw [wi_loop1]
            simp only [iC, encL_length, eq_self, true_and, and_true, Int.toNat_natCast, AV.int.injEq, tl_mk, SubR_id, Nat.zero_add, ex_encB]
            refine bothR_dec (fun hlt => ?_) fun hge => ?_
            · have hi' : x.i < ts.length := by omega
              have hs := List.sizeOf_lt_of_mem (List.getElem_mem hi')
              have hg := cnt_get hi'
              rw [ex_get hi']
              simp only [ex_enc, Ty.eta]
              have st := step hi'
              refine ⟨by omega, ⟨by omega, by omega, hb, hbs⟩, ⟨by omega, by omega⟩, encL_one _, ⟨⟨x.i + 1, x.acc ++ [withT bs ts[x.i]]⟩, ⟨by simp only; omega, by simp [ha], hc0, ph0_1 _⟩, by simp only; omega, st, ?_, ?_⟩⟩
              · simp only; rw [wrap_id (by omega) (by omega)]; rfl
              · simp only [List.length_append, List.length_singleton, encL_snoc]; exact ⟨trivial, trivial⟩
            · have : x.acc ++ withL bs (ts.drop x.i) = x.acc := by rw [List.drop_of_length_le (by omega)]; simp [withL]
              rw [this]
              exact ⟨wayN_1 (by omega), by simp⟩
      rw [enc_D]
      refine QJ.by (hk := wiH' b bs (.mk k n nl ts)) (by simp [AV.stillL, AV.still, encB_still, encD_still]) (encD_still _) (mkHooks_ok (all_cons bo_hook (all_cons cl_hook0 all_nil)) all_nil (all_cons hl all_nil)) ?_
      rw [wi_top]
      simp only [iC, eq_self, true_and, codeIs_self, AV.int.injEq, SubR_id, tk_mk, tn_mk, tl_mk, ex_encB, ex_enc, Ty.eta]
      refine bothR_dec (fun h6 => ?_) fun h6 => ?_
      · refine ⟨hb, bound_cnt hbs n, ?_⟩
        have : withT bs (.mk k n nl ts) = cleanT (boundT bs n) := by simp only [withT, h6, if_true]
        rw [this]
      · have hw : withT bs (.mk k n nl ts) = .mk k 0 (nilB ts) (withL bs ts) := by simp only [withT, h6, if_false]
        have hln := withL_len bs ts
        refine ⟨⟨0, []⟩, ⟨by simp, rfl, hc0, ph0_0⟩, rfl, fun h => ?_, fun h => ?_⟩
        · simp only [List.nil_append, List.drop_zero] at h ⊢
          have := ne_of_1 h
          simp only [hw, tk_mk, tn_mk, tl_mk, tb_mk, nilB]
          rw [decide_eq_false (by omega)]
        · simp only [List.nil_append, List.drop_zero] at h ⊢
          have h1 := nil_of_0 h
          have : ts.length = 0 := by rw [h1] at hln; simpa using hln.symm
          simp only [hw, tk_mk, tn_mk, tl_mk, tb_mk, nilB]
          rw [decide_eq_true this, h1]
          rfl
  exact key (SizeOf.sizeOf t + 1) b bs t (by omega) hc hb hbs
theorem wi_hook0 : QSpec.Ok Tryz.prog g0 84 wiQ0 := by
  intro args K h'
  unfold wiQ0 at h'
  split at h'
  · obtain ⟨b, bs, rfl, h1⟩ := argBinds_elim h'
    obtain ⟨t, rfl, h2, h3⟩ := argTy_elim h1
    exact ⟨_, with_ok b bs t h2.1 h2.2.1 h2.2.2, h3⟩
  · exact h'.elim
end Go.Proofs.YtnmolpkkemljoaaGreatDoor
end
end

section
namespace Kd
open Go.Am Go.Proofs.YtnmolpkkemljoaaGreatDoor
end Kd
noncomputable section
namespace Go.Proofs.YtnmolpkkemljoaaGreatDoor
open Go Go.Am Kd

structure VSt where
  i : Nat
  l : List Int
end Go.Proofs.YtnmolpkkemljoaaGreatDoor
end
end

section
namespace Kd
open Go.Am Go.Proofs.YtnmolpkkemljoaaGreatDoor
/-- The entries of a map of types, by numbers. -/
def entM (x : Int × Ty × Nat) : AV × AV × Nat := (.int .i64 x.1, encD x.2.1, x.2.2)
def encM (l : List (Int × Ty × Nat)) : List (AV × AV × Nat) := l.map entM
end Kd
noncomputable section
namespace Go.Proofs.YtnmolpkkemljoaaGreatDoor
open Go Go.Am Kd

def kclQ (N : Nat) : QSpec
  | [t], K => argTy t fun t => (SizeOf.sizeOf t < N ∧ okT t = true) ∧ K (encD (cleanT t))
  | _, _ => False
def kclQ0 : QSpec
  | [t], K => argTy t fun t => (okT t = true) ∧ K (encD (cleanT t))
  | _, _ => False
def kclH (N : Nat) : Hooks := hooks [(68, kclQ N)] [] []

end Go.Proofs.YtnmolpkkemljoaaGreatDoor
end
end

section
noncomputable section
namespace Go.Proofs.YtnmolpkkemljoaaGreatDoor
open Go Go.Am Kd
set_option maxRecDepth 100000

theorem kcl_top0 (k n : Int) (b : Bool) (N : Nat) (r : Ty) : (runF (kclH N) 60 68 [.agg [.int .i64 k, .int .i64 n, .isl b none 0 []]] AH.nil (retIs Tryz.prog 5 (encD r))) = ( bothR (decide (k = (6 : Int))) (AV.agg [AV.int IntKind.i64 k, AV.int IntKind.i64 n, AV.isl true none (0) []] = AV.agg [AV.int IntKind.i64 (Ty.kind r), AV.int IntKind.i64 (Ty.n r), AV.isl (Ty.nl r) none (0) (encL (Ty.l r))]) (AV.agg [AV.int IntKind.i64 k, AV.int IntKind.i64 (0), AV.isl true none (0) []] =
 AV.agg [AV.int IntKind.i64 (Ty.kind r), AV.int IntKind.i64 (Ty.n r), AV.isl (Ty.nl r) none (0) (encL (Ty.l r))])) := by kernel_rfl

theorem kcl_top1 (k n : Int) (b : Bool) (x : Ty) (N : Nat) (r : Ty) : (runF (kclH N) 60 68 [.agg [.int .i64 k, .int .i64 n, .isl b none 0 [encD x]]] AH.nil (retIs Tryz.prog 5 (encD r))) = ( bothR (decide (k = (6 : Int))) (∃ l, encL (Ty.l x) = encL l ∧ (SizeOf.sizeOf (Ty.mk (Ty.kind x) (Ty.n x) (Ty.nl x) l) < N ∧ okT (Ty.mk (Ty.kind x) (Ty.n x) (Ty.nl x) l) = true) ∧ AV.agg [AV.int IntKind.i64 k, AV.int IntKind.i64 n, AV.isl false none (0) [AV.agg
 [AV.int IntKind.i64 (Ty.kind (cleanT (Ty.mk (Ty.kind x) (Ty.n x) (Ty.nl x) l))), AV.int IntKind.i64 (Ty.n (cleanT (Ty.mk (Ty.kind x) (Ty.n x) (Ty.nl x) l))), AV.isl (Ty.nl (cleanT (Ty.mk (Ty.kind x) (Ty.n x) (Ty.nl x) l))) none (0) (encL (Ty.l (cleanT (Ty.mk (Ty.kind x) (Ty.n x) (Ty.nl x) l))))]]] = AV.agg [AV.int IntKind.i64 (Ty.kind r), AV.int IntKind.i64 (Ty.n r), AV.isl (Ty.nl r) none (0) (encL (Ty.l r))]) (∃ l, encL (Ty.l x) = encL l ∧ (SizeOf.sizeOf (Ty.mk (Ty.kind x) (Ty.n x) (Ty.nl x) l) < N ∧ okT (Ty.mk (Ty.kind x) (Ty.n x) (Ty.nl x) l) = true) ∧ AV.agg
 [AV.int IntKind.i64 k, AV.int IntKind.i64 (0), AV.isl false none (0) [AV.agg [AV.int IntKind.i64 (Ty.kind (cleanT (Ty.mk (Ty.kind x) (Ty.n x) (Ty.nl x) l))), AV.int IntKind.i64 (Ty.n (cleanT (Ty.mk (Ty.kind x) (Ty.n x) (Ty.nl x) l))), AV.isl (Ty.nl (cleanT (Ty.mk (Ty.kind x) (Ty.n x) (Ty.nl x) l))) none (0) (encL (Ty.l (cleanT (Ty.mk (Ty.kind x) (Ty.n x) (Ty.nl x) l))))]]] = AV.agg [AV.int IntKind.i64 (Ty.kind r), AV.int IntKind.i64 (Ty.n r), AV.isl (Ty.nl r) none (0) (encL (Ty.l r))])) := by kernel_rfl

theorem kcl_top2 (k n : Int) (b : Bool) (x y : Ty) (N : Nat) (r : Ty) : (runF (kclH N) 60 68 [.agg [.int .i64 k, .int .i64 n, .isl b none 0 [encD x, encD y]]] AH.nil (retIs Tryz.prog 5 (encD r))) = ( bothR (decide (k = (6 : Int))) (∃ l, encL (Ty.l x) = encL l ∧ (SizeOf.sizeOf (Ty.mk (Ty.kind x) (Ty.n x) (Ty.nl x) l) < N ∧ okT (Ty.mk (Ty.kind x) (Ty.n x) (Ty.nl x) l) = true) ∧ ∃ l_1, encL (Ty.l y) = encL l_1 ∧ (SizeOf.sizeOf (Ty.mk (Ty.kind y) (Ty.n y) (Ty.nl y) l_1) < N ∧ okT (Ty.mk (Ty.kind y) (Ty.n y) (Ty.nl y) l_1) = true) ∧ AV.agg [AV.int IntKind.i64 k, AV.int IntKind.i64 n,
 AV.isl false none (0) [AV.agg [AV.int IntKind.i64 (Ty.kind (cleanT (Ty.mk (Ty.kind x) (Ty.n x) (Ty.nl x) l))), AV.int IntKind.i64 (Ty.n (cleanT (Ty.mk (Ty.kind x) (Ty.n x) (Ty.nl x) l))), AV.isl (Ty.nl (cleanT (Ty.mk (Ty.kind x) (Ty.n x) (Ty.nl x) l))) none (0) (encL (Ty.l (cleanT (Ty.mk (Ty.kind x) (Ty.n x) (Ty.nl x) l))))], AV.agg [AV.int IntKind.i64 (Ty.kind (cleanT (Ty.mk (Ty.kind y) (Ty.n y) (Ty.nl y) l_1))), AV.int IntKind.i64 (Ty.n (cleanT (Ty.mk (Ty.kind y) (Ty.n y) (Ty.nl y) l_1))), AV.isl (Ty.nl (cleanT (Ty.mk (Ty.kind y) (Ty.n y) (Ty.nl y) l_1))) none (0)
 (encL (Ty.l (cleanT (Ty.mk (Ty.kind y) (Ty.n y) (Ty.nl y) l_1))))]]] = AV.agg [AV.int IntKind.i64 (Ty.kind r), AV.int IntKind.i64 (Ty.n r), AV.isl (Ty.nl r) none (0) (encL (Ty.l r))]) (∃ l, encL (Ty.l x) = encL l ∧ (SizeOf.sizeOf (Ty.mk (Ty.kind x) (Ty.n x) (Ty.nl x) l) < N ∧ okT (Ty.mk (Ty.kind x) (Ty.n x) (Ty.nl x) l) = true) ∧ ∃ l_1, encL (Ty.l y) = encL l_1 ∧ (SizeOf.sizeOf (Ty.mk (Ty.kind y) (Ty.n y) (Ty.nl y) l_1) < N ∧ okT (Ty.mk (Ty.kind y) (Ty.n y) (Ty.nl y) l_1) = true) ∧ AV.agg [AV.int IntKind.i64 k, AV.int IntKind.i64 (0), AV.isl false none (0) [AV.agg
 [AV.int IntKind.i64 (Ty.kind (cleanT (Ty.mk (Ty.kind x) (Ty.n x) (Ty.nl x) l))), AV.int IntKind.i64 (Ty.n (cleanT (Ty.mk (Ty.kind x) (Ty.n x) (Ty.nl x) l))), AV.isl (Ty.nl (cleanT (Ty.mk (Ty.kind x) (Ty.n x) (Ty.nl x) l))) none (0) (encL (Ty.l (cleanT (Ty.mk (Ty.kind x) (Ty.n x) (Ty.nl x) l))))], AV.agg [AV.int IntKind.i64 (Ty.kind (cleanT (Ty.mk (Ty.kind y) (Ty.n y) (Ty.nl y) l_1))), AV.int IntKind.i64 (Ty.n (cleanT (Ty.mk (Ty.kind y) (Ty.n y) (Ty.nl y) l_1))), AV.isl (Ty.nl (cleanT (Ty.mk (Ty.kind y) (Ty.n y) (Ty.nl y) l_1))) none (0)
 (encL (Ty.l (cleanT (Ty.mk (Ty.kind y) (Ty.n y) (Ty.nl y) l_1))))]]] = AV.agg [AV.int IntKind.i64 (Ty.kind r), AV.int IntKind.i64 (Ty.n r), AV.isl (Ty.nl r) none (0) (encL (Ty.l r))])) := by kernel_rfl

end Go.Proofs.YtnmolpkkemljoaaGreatDoor
end
end

section
set_option maxRecDepth 100000
set_option linter.unusedSimpArgs false
set_option linter.unusedVariables false
noncomputable section
namespace Go.Proofs.YtnmolpkkemljoaaGreatDoor
open Go Go.Am Kd

theorem ok_node {k n : Int} {b : Bool} {l : List Ty} (h : okT (.mk k n b l) = true) : NodeOk (.mk k n b l) ∧ okL l = true := by
  simp only [okT, Bool.and_eq_true, decide_eq_true_eq] at h
  exact h

/-- A type that is as it must be has two parts at the most. -/
theorem parts_cases {k n : Int} {b : Bool} {l : List Ty} (h : okT (.mk k n b l) = true) : l = [] ∨ (∃ x, l = [x] ∧ okT x = true) ∨ ∃ x y, l = [x, y] ∧ okT x = true ∧ okT y = true := by
  obtain ⟨hn, hl⟩ := ok_node h
  simp only [NodeOk] at hn
  obtain ⟨h1, h2, h3, h4, h5, h6⟩ := hn
  have hlen : l.length ≤ 2 := by
    have : k = 0 ∨ k = 1 ∨ k = 6 ∨ k = 2 ∨ k = 3 ∨ k = 5 ∨ k = 4 := by omega
    rcases this with h | h | h | h | h | h | h
    · have := h3 (.inl h); omega
    · have := h3 (.inr (.inl h)); omega
    · have := h3 (.inr (.inr h)); omega
    · have := h4 (.inl h); omega
    · have := h4 (.inr (.inl h)); omega
    · have := h4 (.inr (.inr h)); omega
    · have := h5 h; omega
  match l, hlen with
  | [], _ => exact .inl rfl
  | [x], _ => exact .inr (.inl ⟨x, rfl, okL_mem hl x (by simp)⟩)
  | [x, y], _ => exact .inr (.inr ⟨x, y, rfl, okL_mem hl x (by simp), okL_mem hl y (by simp)⟩)

theorem kcl_hook {N : Nat} (ih : ∀ t, SizeOf.sizeOf t < N → okT t = true → QJ 68 [enc t] (encD (cleanT t))) : QSpec.Ok Tryz.prog g0 68 (kclQ N) := by
  intro args K h'
  unfold kclQ at h'
  split at h'
  · obtain ⟨t, rfl, h1, h2⟩ := argTy_elim h'
    exact ⟨_, ih t h1.1 h1.2, h2⟩
  · exact h'.elim

theorem kclean_ok (t : Ty) (ho : okT t = true) : QJ 68 [enc t] (encD (cleanT t)) := by
  have key : ∀ (N : Nat) (t : Ty), SizeOf.sizeOf t < N → okT t = true → QJ 68 [enc t] (encD (cleanT t)) := by
    intro N
    induction N with
    | zero => intro t h; omega
    | succ N ih =>
      intro t ht ho
      obtain ⟨k, n, nl, ts⟩ := t
      simp only [Ty.mk.sizeOf_spec] at ht
      have hh : Hooks.Ok Tryz.prog g0 (kclH N) := mkHooks_ok (all_cons (kcl_hook ih) all_nil) all_nil all_nil
      refine QJ.by (hk := kclH N) (by simp [AV.stillL, enc_still]) (encD_still _) hh ?_
      rcases parts_cases ho with rfl | ⟨x, rfl, hx⟩ | ⟨x, y, rfl, hx, hy⟩
      · show runF (kclH N) 60 68 [.agg [.int .i64 k, .int .i64 n, .isl nl none 0 []]] AH.nil _
        rw [kcl_top0]
        refine bothR_dec (fun h6 => ?_) fun h6 => ?_
        · simp only [cleanT, h6, if_true]; rfl
        · simp only [cleanT, h6, if_false]; rfl
      · have e : enc (.mk k n nl [x]) = .agg [.int .i64 k, .int .i64 n, .isl nl none 0 [encD x]] := by simp only [enc, encL, enc_D]
        rw [e, kcl_top1]
        simp only [List.cons.sizeOf_spec] at ht
        simp only [ex_enc, Ty.eta]
        refine bothR_dec (fun h6 => ⟨⟨by omega, hx⟩, ?_⟩) fun h6 => ⟨⟨by omega, hx⟩, ?_⟩
        · simp only [encL_sing, cleanT, cleanL, h6, if_true]; rfl
        · simp only [encL_sing, cleanT, cleanL, h6, if_false]; rfl
      · have e : enc (.mk k n nl [x, y]) = .agg [.int .i64 k, .int .i64 n, .isl nl none 0 [encD x, encD y]] := by simp only [enc, encL, enc_D]
        rw [e, kcl_top2]
        simp only [List.cons.sizeOf_spec] at ht
        simp only [ex_enc, Ty.eta]
        have e2 : ∀ u v : Ty, [AV.agg [.int .i64 u.kind, .int .i64 u.n, .isl u.nl none 0 (encL u.l)], AV.agg [.int .i64 v.kind, .int .i64 v.n, .isl v.nl none 0 (encL v.l)]] = encL [u, v] := fun u v => by
          simp only [encL, enc_D]; rfl
        refine bothR_dec (fun h6 => ⟨⟨by omega, hx⟩, ⟨by omega, hy⟩, ?_⟩) fun h6 => ⟨⟨by omega, hx⟩, ⟨by omega, hy⟩, ?_⟩
        · simp only [e2, cleanT, cleanL, h6, if_true]; rfl
        · simp only [e2, cleanT, cleanL, h6, if_false]; rfl
  exact key (SizeOf.sizeOf t + 1) t (by omega) ho
theorem kcl_hook0 : QSpec.Ok Tryz.prog g0 68 kclQ0 := by
  intro args K h'
  unfold kclQ0 at h'
  split at h'
  · obtain ⟨t, rfl, h1, h2⟩ := argTy_elim h'
    exact ⟨_, kclean_ok t h1, h2⟩
  · exact h'.elim

end Go.Proofs.YtnmolpkkemljoaaGreatDoor
end
end

section
noncomputable section
namespace Go.Proofs.YtnmolpkkemljoaaGreatDoor
open Go Go.Am Kd

/-- What a walk of put is handed: the map, its box, what is left, the walk's own box. -/
def pwB (es : List (Int × Ty × Nat)) (c : Nat) (left : Int) : List ABlk :=
  [.map (encM es) c, .cells [.map 0] 74, top3, top3, .cells [.int .i64 left] 3, .cells [.fn (.func 118) [] [.ptr 1 0, .ptr 4 0, .ptr 5 0]] 145]
/-- And while it counts. -/
def cnH (es : List (Int × Ty × Nat)) (c : Nat) (left d : Int) (u : Ty) (n : Int) : AH :=
  ⟨pwB es c left ++ [top3, .cells [.int .i64 d] 3, top3, tyC u, .cells [.int .i64 n] 3, .defers, .loop .ready none (frm 51 [(10, .ptr 10 0)]).tmps (rP 118 0) (rA 118 0) (rB 118 0) 11], []⟩
def cnW (A : AH) : AH := ⟨A.blks ++ [.cells [.fn (.yield 12) [] []] 42, .cells [.fn (.func 115) [] [.ptr 13 0, .ptr 14 0]] 42], []⟩
def cnX (A : AH) : AH := ⟨(cnW A).blks ++ [top3], []⟩

def cnPost (A' : AH) (o : AFin) : Prop :=
  match o.e with
  | .returned (.bool true) => BlksR o.A.blks A'.blks (FamR 0 o.A.fams [] True)
  | _ => False
/-- The state of a count. -/
def argCn (A : AH) (K : List (Int × Ty × Nat) → Nat → Int → Int → Ty → Int → Prop) : Prop :=
  match nthR A.blks 0, nthR A.blks 4, nthR A.blks 7, nthR A.blks 9, nthR A.blks 10 with
  | some (.map m c), some (.cells [.int .i64 left] 3), some (.cells [.int .i64 d] 3), some (.cells [.int .i64 k, .int .i64 q, .isl b none 0 xs] 24), some (.cells [.int .i64 n] 3) => ∃ es, m = encM es ∧ ∃ l, xs = encL l ∧ K es c left d (.mk k q b l) n
  | _, _, _, _, _ => False

def cnRound : RSpec := fun l args A K =>
  match l, args with
  | 12, [t] => argTy t fun _ => argCn A fun es c left d u n => (0 ≤ n ∧ n ≤ 1000) ∧ onR 0 A (cnH es c left d u n) (K ⟨.returned (.bool true), (cnH es c left d u (n + 1)).onto A⟩)
  | _, _ => False
def cwalkH (N : Nat) : HSpec := fun args A K =>
  match args with
  | [t, .ptr 13 0, .ptr 14 0] => argTy t fun t => argCn A fun es c left d u n => (SizeOf.sizeOf t < N ∧ cnt t ≤ 1000 ∧ 0 ≤ n ∧ n + cnt t ≤ 1000) ∧ onR 0 A (cnW (cnH es c left d u n)) (K ⟨.returned (.bool true), (cnW (cnH es c left d u (n + cnt t))).onto A⟩)
  | _ => False
def cwalkH0 : HSpec := fun args A K =>
  match args with
  | [t, .ptr 13 0, .ptr 14 0] => argTy t fun t => argCn A fun es c left d u n => (cnt t ≤ 1000 ∧ 0 ≤ n ∧ n + cnt t ≤ 1000) ∧ onR 0 A (cnW (cnH es c left d u n)) (K ⟨.returned (.bool true), (cnW (cnH es c left d u (n + cnt t))).onto A⟩)
  | _ => False
def cwSt (es : List (Int × Ty × Nat)) (c : Nat) (left d : Int) (u : Ty) (bb : Bool) (ts : List Ty) : LSt (Nat × Int) Int where
  n := 16
  nf := 0
  rd := none
  fr x := frm 23 [(2, .ptr 14 0), (12, .isl bb none 0 (encL ts)), (13, .int .i64 (encL ts).length), (14, .int .i64 x.1)]
  hp x := cnX (cnH es c left d u x.2)
  inv x := x.1 ≤ ts.length ∧ cntL ts ≤ 1000 ∧ 0 ≤ x.2 ∧ x.2 + cntL (ts.drop x.1) ≤ 1000
  res x := x.2 + cntL (ts.drop x.1)
  sel _ := true
  out _ r := ⟨.exit 0, frm 23 [], cnX (cnH es c left d u r)⟩
def cwH1 (N : Nat) : Hooks := mkHooks Tryz.prog [] [(115, cwalkH N)] []
def cwH2 (es : List (Int × Ty × Nat)) (c : Nat) (left d : Int) (u : Ty) (bb : Bool) (ts : List Ty) : Hooks := mkHooks Tryz.prog [] [] [(4, ⟨115, 0, (cwSt es c left d u bb ts).spec⟩)] (some cnRound)

end Go.Proofs.YtnmolpkkemljoaaGreatDoor
end
end

section
noncomputable section
namespace Go.Proofs.YtnmolpkkemljoaaGreatDoor
open Go Go.Am Kd
set_option maxRecDepth 100000

theorem cn_round (es : List (Int × Ty × Nat)) (c : Nat) (left d : Int) (u : Ty) (n : Int) (t : Ty) : (runR hk0 60 12 [encD t] (cnH es c left d u n) (cnPost (cnH es c left d u (n + 1)))) = ( encM es = encM es ∧ c = c ∧ 74 = 74 ∧ SubR [AV.map (0)] [AV.map (0)] (24 = 24 ∧ 24 = 24 ∧ 3 = 3 ∧ AV.int IntKind.i64 left = AV.int IntKind.i64 left ∧ 145 = 145 ∧ SubR [AV.fn (Fn.func (118)) [] [AV.ptr (1) (0), AV.ptr (4) (0), AV.ptr (5) (0)]] [AV.fn (Fn.func (118)) [] [AV.ptr (1) (0), AV.ptr (4) (0), AV.ptr (5) (0)]] (24 = 24 ∧ 3 = 3 ∧ AV.int IntKind.i64 d = AV.int IntKind.i64 d ∧ 24 = 24 ∧ 24 = 24 ∧
 AV.int IntKind.i64 (Ty.kind u) = AV.int IntKind.i64 (Ty.kind u) ∧ AV.int IntKind.i64 (Ty.n u) = AV.int IntKind.i64 (Ty.n u) ∧ AV.isl (Ty.nl u) none (0) (encL (Ty.l u)) = AV.isl (Ty.nl u) none (0) (encL (Ty.l u)) ∧ 3 = 3 ∧ AV.int IntKind.i64 (IntKind.wrap IntKind.i64 (n + (1 : Int))) = AV.int IntKind.i64 (n + (1 : Int)) ∧ (LoopState.ready = LoopState.ready ∧ (none : Option Code) = none ∧ ((Array.mk (α := Nat) [26]), rA (76) (1), rB (118) (0)) = ((Array.mk (α := Nat) [26]), rA (76) (1), rB (118) (0)) ∧ 11 = 11) ∧ AV.ptr (10) (0) = AV.ptr (10) (0) ∧ 0 = 0 ∧ True))) := by kernel_rfl

theorem cw_loop (es : List (Int × Ty × Nat)) (c : Nat) (left d : Int) (u : Ty) (bb : Bool) (ts : List Ty) (N : Nat) (meas : Nat × Int → Nat) (x : Nat × Int) : (runL (cwH1 N) 60 115 0 (cwSt es c left d u bb ts) meas x) = ( bothR (decide (iC (Prod.fst x) < iC (List.length (encL ts)))) (0 ≤ iC (Prod.fst x) ∧ ∃ x_1, (encL ts)[Int.toNat (iC (Prod.fst x))]? = some (AV.agg [AV.int IntKind.i64 (Ty.kind x_1), AV.int IntKind.i64 (Ty.n x_1), AV.isl (Ty.nl x_1) none (0) (encL (Ty.l x_1))]) ∧ ∃ l, encL (Ty.l x_1) = encL l ∧ ∃ es_1, encM es = encM es_1 ∧ ∃ l_1, encL (Ty.l u) = encL l_1 ∧
 (SizeOf.sizeOf (Ty.mk (Ty.kind x_1) (Ty.n x_1) (Ty.nl x_1) l) < N ∧ cnt (Ty.mk (Ty.kind x_1) (Ty.n x_1) (Ty.nl x_1) l) ≤ 1000 ∧ 0 ≤ Prod.snd x ∧ Prod.snd x + iC (cnt (Ty.mk (Ty.kind x_1) (Ty.n x_1) (Ty.nl x_1) l)) ≤ 1000) ∧ encM es = encM es_1 ∧ c = c ∧ 74 = 74 ∧ SubR [AV.map (0)] [AV.map (0)] (24 = 24 ∧ 24 = 24 ∧ 3 = 3 ∧ AV.int IntKind.i64 left = AV.int IntKind.i64 left ∧ 145 = 145 ∧ SubR [AV.fn (Fn.func (118)) [] [AV.ptr (1) (0), AV.ptr (4) (0), AV.ptr (5) (0)]] [AV.fn (Fn.func (118)) [] [AV.ptr (1) (0), AV.ptr (4) (0), AV.ptr (5) (0)]] (24 = 24 ∧ 3 = 3 ∧
 AV.int IntKind.i64 d = AV.int IntKind.i64 d ∧ 24 = 24 ∧ 24 = 24 ∧ AV.int IntKind.i64 (Ty.kind u) = AV.int IntKind.i64 (Ty.kind u) ∧ AV.int IntKind.i64 (Ty.n u) = AV.int IntKind.i64 (Ty.n u) ∧ AV.isl (Ty.nl u) none (0) (encL (Ty.l u)) = AV.isl (Ty.nl u) none (0) (encL l_1) ∧ 3 = 3 ∧ AV.int IntKind.i64 (Prod.snd x) = AV.int IntKind.i64 (Prod.snd x) ∧ (LoopState.ready = LoopState.ready ∧ (none : Option Code) = none ∧ ((Array.mk (α := Nat) [26]), rA (76) (1), rB (118) (0)) = ((Array.mk (α := Nat) [26]), rA (76) (1), rB (118) (0)) ∧ 11 = 11) ∧ AV.ptr (10) (0) = AV.ptr (10) (0) ∧ 42 = 42 ∧
 SubR [AV.fn (Fn.yield (12)) [] []] [AV.fn (Fn.yield (12)) [] []] (42 = 42 ∧ SubR [AV.fn (Fn.func (115)) [] [AV.ptr (13) (0), AV.ptr (14) (0)]] [AV.fn (Fn.func (115)) [] [AV.ptr (13) (0), AV.ptr (14) (0)]] (0 = 0 ∧ ∃ y, (Prod.fst y ≤ List.length ts ∧ cntL ts ≤ 1000 ∧ 0 ≤ Prod.snd y ∧ Prod.snd y + iC (cntL (List.drop (Prod.fst y) ts)) ≤ 1000) ∧ meas y < meas x ∧ Prod.snd y + iC (cntL (List.drop (Prod.fst y) ts)) = Prod.snd x + iC (cntL (List.drop (Prod.fst x) ts)) ∧ AV.ptr (14) (0) = AV.ptr (14) (0) ∧ AV.isl bb none (0) (encL ts) = AV.isl bb none (0) (encL ts) ∧
 AV.int IntKind.i64 (iC (List.length (encL ts))) = AV.int IntKind.i64 (iC (List.length (encL ts))) ∧ AV.int IntKind.i64 (IntKind.wrap IntKind.i64 (iC (Prod.fst x) + (1 : Int))) = AV.int IntKind.i64 (iC (Prod.fst y)) ∧ encM es_1 = encM es ∧ c = c ∧ 74 = 74 ∧ SubR [AV.map (0)] [AV.map (0)] (24 = 24 ∧ 24 = 24 ∧ 3 = 3 ∧ AV.int IntKind.i64 left = AV.int IntKind.i64 left ∧ 145 = 145 ∧ SubR [AV.fn (Fn.func (118)) [] [AV.ptr (1) (0), AV.ptr (4) (0), AV.ptr (5) (0)]] [AV.fn (Fn.func (118)) [] [AV.ptr (1) (0), AV.ptr (4) (0), AV.ptr (5) (0)]] (24 = 24 ∧ 3 = 3 ∧
 AV.int IntKind.i64 d = AV.int IntKind.i64 d ∧ 24 = 24 ∧ 24 = 24 ∧ AV.int IntKind.i64 (Ty.kind u) = AV.int IntKind.i64 (Ty.kind u) ∧ AV.int IntKind.i64 (Ty.n u) = AV.int IntKind.i64 (Ty.n u) ∧ AV.isl (Ty.nl u) none (0) (encL l_1) = AV.isl (Ty.nl u) none (0) (encL (Ty.l u)) ∧ 3 = 3 ∧ AV.int IntKind.i64 (Prod.snd x + iC (cnt (Ty.mk (Ty.kind x_1) (Ty.n x_1) (Ty.nl x_1) l))) = AV.int IntKind.i64 (Prod.snd y) ∧ (LoopState.ready = LoopState.ready ∧ (none : Option Code) = none ∧ ((Array.mk (α := Nat) [26]), rA (76) (1), rB (118) (0)) = ((Array.mk (α := Nat) [26]), rA (76) (1), rB (118) (0)) ∧
 11 = 11) ∧ AV.ptr (10) (0) = AV.ptr (10) (0) ∧ 42 = 42 ∧ SubR [AV.fn (Fn.yield (12)) [] []] [AV.fn (Fn.yield (12)) [] []] (42 = 42 ∧ SubR [AV.fn (Fn.func (115)) [] [AV.ptr (13) (0), AV.ptr (14) (0)]] [AV.fn (Fn.func (115)) [] [AV.ptr (13) (0), AV.ptr (14) (0)]] (24 = 24 ∧ 0 = 0 ∧ True))))))))) (true = true ∧ encM es = encM es ∧ c = c ∧ 74 = 74 ∧ SubR [AV.map (0)] [AV.map (0)] (24 = 24 ∧ 24 = 24 ∧ 3 = 3 ∧ AV.int IntKind.i64 left = AV.int IntKind.i64 left ∧ 145 = 145 ∧ SubR [AV.fn (Fn.func (118)) [] [AV.ptr (1) (0), AV.ptr (4) (0), AV.ptr (5) (0)]] [AV.fn (Fn.func (118)) []
 [AV.ptr (1) (0), AV.ptr (4) (0), AV.ptr (5) (0)]] (24 = 24 ∧ 3 = 3 ∧ AV.int IntKind.i64 d = AV.int IntKind.i64 d ∧ 24 = 24 ∧ 24 = 24 ∧ AV.int IntKind.i64 (Ty.kind u) = AV.int IntKind.i64 (Ty.kind u) ∧ AV.int IntKind.i64 (Ty.n u) = AV.int IntKind.i64 (Ty.n u) ∧ AV.isl (Ty.nl u) none (0) (encL (Ty.l u)) = AV.isl (Ty.nl u) none (0) (encL (Ty.l u)) ∧ 3 = 3 ∧ AV.int IntKind.i64 (Prod.snd x) = AV.int IntKind.i64 (Prod.snd x + iC (cntL (List.drop (Prod.fst x) ts))) ∧ (LoopState.ready = LoopState.ready ∧ (none : Option Code) = none ∧ ((Array.mk (α := Nat) [26]), rA (76) (1), rB (118) (0)) =
 ((Array.mk (α := Nat) [26]), rA (76) (1), rB (118) (0)) ∧ 11 = 11) ∧ AV.ptr (10) (0) = AV.ptr (10) (0) ∧ 42 = 42 ∧ SubR [AV.fn (Fn.yield (12)) [] []] [AV.fn (Fn.yield (12)) [] []] (42 = 42 ∧ SubR [AV.fn (Fn.func (115)) [] [AV.ptr (13) (0), AV.ptr (14) (0)]] [AV.fn (Fn.func (115)) [] [AV.ptr (13) (0), AV.ptr (14) (0)]] (24 = 24 ∧ 0 = 0 ∧ True)))))) := by kernel_rfl

theorem cw_top (es : List (Int × Ty × Nat)) (c : Nat) (left d : Int) (u : Ty) (n m : Int) (t : Ty) : (runF (cwH2 es c left d u t.nl t.l) 60 115 [encD t, .ptr 13 0, .ptr 14 0] (cnW (cnH es c left d u n)) (cnPost (cnW (cnH es c left d u m)))) = ( ∃ l, encL (Ty.l t) = encL l ∧ ∃ es_1, encM es = encM es_1 ∧ ∃ l, encL (Ty.l u) = encL l ∧ (0 ≤ n ∧ n ≤ 1000) ∧ encM es = encM es_1 ∧ c = c ∧ 74 = 74 ∧ SubR [AV.map (0)] [AV.map (0)] (24 = 24 ∧ 24 = 24 ∧ 3 = 3 ∧ AV.int IntKind.i64 left = AV.int IntKind.i64 left ∧ 145 = 145 ∧ SubR [AV.fn (Fn.func (118)) [] [AV.ptr (1) (0), AV.ptr (4) (0), AV.ptr (5) (0)]]
 [AV.fn (Fn.func (118)) [] [AV.ptr (1) (0), AV.ptr (4) (0), AV.ptr (5) (0)]] (24 = 24 ∧ 3 = 3 ∧ AV.int IntKind.i64 d = AV.int IntKind.i64 d ∧ 24 = 24 ∧ 24 = 24 ∧ AV.int IntKind.i64 (Ty.kind u) = AV.int IntKind.i64 (Ty.kind u) ∧ AV.int IntKind.i64 (Ty.n u) = AV.int IntKind.i64 (Ty.n u) ∧ AV.isl (Ty.nl u) none (0) (encL (Ty.l u)) = AV.isl (Ty.nl u) none (0) (encL l) ∧ 3 = 3 ∧ AV.int IntKind.i64 n = AV.int IntKind.i64 n ∧ (LoopState.ready = LoopState.ready ∧ (none : Option Code) = none ∧ ((Array.mk (α := Nat) [26]), rA (76) (1), rB (118) (0)) =
 ((Array.mk (α := Nat) [26]), rA (76) (1), rB (118) (0)) ∧ 11 = 11) ∧ AV.ptr (10) (0) = AV.ptr (10) (0) ∧ 0 = 0 ∧ codeIs (loopOf Tryz.prog 115 0) Tryz.prog 115 0 (∃ x, (Prod.fst x ≤ List.length (Ty.l t) ∧ cntL (Ty.l t) ≤ 1000 ∧ 0 ≤ Prod.snd x ∧ Prod.snd x + iC (cntL (List.drop (Prod.fst x) (Ty.l t))) ≤ 1000) ∧ AV.ptr (14) (0) = AV.ptr (14) (0) ∧ AV.isl (Ty.nl t) none (0) (encL (Ty.l t)) = AV.isl (Ty.nl t) none (0) (encL (Ty.l t)) ∧ AV.int IntKind.i64 (iC (List.length (encL (Ty.l t)))) = AV.int IntKind.i64 (iC (List.length (encL (Ty.l t)))) ∧
 AV.int IntKind.i64 (0) = AV.int IntKind.i64 (iC (Prod.fst x)) ∧ encM es_1 = encM es ∧ c = c ∧ 74 = 74 ∧ SubR [AV.map (0)] [AV.map (0)] (24 = 24 ∧ 24 = 24 ∧ 3 = 3 ∧ AV.int IntKind.i64 left = AV.int IntKind.i64 left ∧ 145 = 145 ∧ SubR [AV.fn (Fn.func (118)) [] [AV.ptr (1) (0), AV.ptr (4) (0), AV.ptr (5) (0)]] [AV.fn (Fn.func (118)) [] [AV.ptr (1) (0), AV.ptr (4) (0), AV.ptr (5) (0)]] (24 = 24 ∧ 3 = 3 ∧ AV.int IntKind.i64 d = AV.int IntKind.i64 d ∧ 24 = 24 ∧ 24 = 24 ∧ AV.int IntKind.i64 (Ty.kind u) = AV.int IntKind.i64 (Ty.kind u) ∧ AV.int IntKind.i64 (Ty.n u) = AV.int IntKind.i64 (Ty.n u) ∧
 AV.isl (Ty.nl u) none (0) (encL l) = AV.isl (Ty.nl u) none (0) (encL (Ty.l u)) ∧ 3 = 3 ∧ AV.int IntKind.i64 (n + (1 : Int)) = AV.int IntKind.i64 (Prod.snd x) ∧ (LoopState.ready = LoopState.ready ∧ (none : Option Code) = none ∧ ((Array.mk (α := Nat) [26]), rA (76) (1), rB (118) (0)) = ((Array.mk (α := Nat) [26]), rA (76) (1), rB (118) (0)) ∧ 11 = 11) ∧ AV.ptr (10) (0) = AV.ptr (10) (0) ∧ 42 = 42 ∧ SubR [AV.fn (Fn.yield (12)) [] []] [AV.fn (Fn.yield (12)) [] []] (42 = 42 ∧ SubR [AV.fn (Fn.func (115)) [] [AV.ptr (13) (0), AV.ptr (14) (0)]] [AV.fn (Fn.func (115)) [] [AV.ptr (13) (0),
 AV.ptr (14) (0)]] (24 = 24 ∧ 0 = 0 ∧ encM es = encM es ∧ c = c ∧ 74 = 74 ∧ SubR [AV.map (0)] [AV.map (0)] (24 = 24 ∧ 24 = 24 ∧ 3 = 3 ∧ AV.int IntKind.i64 left = AV.int IntKind.i64 left ∧ 145 = 145 ∧ SubR [AV.fn (Fn.func (118)) [] [AV.ptr (1) (0), AV.ptr (4) (0), AV.ptr (5) (0)]] [AV.fn (Fn.func (118)) [] [AV.ptr (1) (0), AV.ptr (4) (0), AV.ptr (5) (0)]] (24 = 24 ∧ 3 = 3 ∧ AV.int IntKind.i64 d = AV.int IntKind.i64 d ∧ 24 = 24 ∧ 24 = 24 ∧ AV.int IntKind.i64 (Ty.kind u) = AV.int IntKind.i64 (Ty.kind u) ∧ AV.int IntKind.i64 (Ty.n u) = AV.int IntKind.i64 (Ty.n u) ∧ AV.isl (Ty.nl u) none (0) (encL
 (Ty.l u)) = AV.isl (Ty.nl u) none (0) (encL (Ty.l u)) ∧ 3 = 3 ∧ AV.int IntKind.i64 (Prod.snd x + iC (cntL (List.drop (Prod.fst x) (Ty.l t)))) = AV.int IntKind.i64 m ∧ (LoopState.ready = LoopState.ready ∧ (none : Option Code) = none ∧ ((Array.mk (α := Nat) [26]), rA (76) (1), rB (118) (0)) = ((Array.mk (α := Nat) [26]), rA (76) (1), rB (118) (0)) ∧ 11 = 11) ∧ AV.ptr (10) (0) = AV.ptr (10) (0) ∧ 42 = 42 ∧ SubR [AV.fn (Fn.yield (12)) [] []] [AV.fn (Fn.yield (12)) [] []] (42 = 42 ∧ SubR [AV.fn (Fn.func (115)) [] [AV.ptr (13) (0), AV.ptr (14) (0)]] [AV.fn (Fn.func (115)) [] [AV.ptr (13) (0),
 AV.ptr (14) (0)]] (0 = 0 ∧ True)))))))))))) := by kernel_rfl

end Go.Proofs.YtnmolpkkemljoaaGreatDoor
end
end

section
set_option maxRecDepth 100000
set_option linter.unusedSimpArgs false
set_option linter.unusedVariables false
noncomputable section
namespace Go.Proofs.YtnmolpkkemljoaaGreatDoor
open Go Go.Am Kd

theorem entM_inj {x y : Int × Ty × Nat} (h : entM x = entM y) : x = y := by
  obtain ⟨a, t, i⟩ := x
  obtain ⟨b, u, j⟩ := y
  simp only [entM, Prod.mk.injEq, AV.int.injEq, true_and] at h
  obtain ⟨rfl, h2, rfl⟩ := h
  have : enc t = enc u := by rw [enc_D, enc_D]; exact h2
  rw [enc_inj this]
theorem encM_inj {l m : List (Int × Ty × Nat)} (h : encM l = encM m) : l = m := by
  induction l generalizing m with
  | nil => cases m <;> simp_all [encM]
  | cons x l ih =>
    cases m with
    | nil => simp [encM] at h
    | cons y m =>
      simp only [encM, List.map_cons, List.cons.injEq] at h
      rw [entM_inj h.1, ih h.2]
theorem ex_encM {l : List (Int × Ty × Nat)} {P : List (Int × Ty × Nat) → Prop} : (∃ l', encM l = encM l' ∧ P l') = P l :=
  propext ⟨fun ⟨l', h, hp⟩ => by rw [encM_inj h]; exact hp, fun h => ⟨l, rfl, h⟩⟩
theorem encM_bnd (n nf : Nat) (l : List (Int × Ty × Nat)) : bndM n nf (encM l) = true := by
  induction l with
  | nil => rfl
  | cons x l ih =>
    simp only [encM, List.map_cons, entM, bndM, AV.bnd, Bool.true_and, Bool.and_eq_true]
    exact ⟨AV.still_bnd n nf _ (encD_still _), ih⟩

theorem cnPost_ok {A' : AH} {o : AFin} (hA : A'.fams = []) (h : cnPost A' o) : hpIs 0 (.returned (.bool true)) A' o := by
  unfold cnPost at h
  split at h
  · rename_i he
    exact ⟨he, by rw [hA]; exact h⟩
  · exact h.elim

theorem cn_ok (es : List (Int × Ty × Nat)) (c : Nat) (left d : Int) (u : Ty) (n : Int) : (cnH es c left d u n).ok 13 0 = true := by
  simp [AH.ok, cnH, pwB, top3, tyC, ABlk.bnd, AV.bnd, encL_bnd, AV.bndL, encM_bnd, frm]; rfl
theorem cnW_ok (es : List (Int × Ty × Nat)) (c : Nat) (left d : Int) (u : Ty) (n : Int) : (cnW (cnH es c left d u n)).ok 15 0 = true := by
  simp [AH.ok, cnW, cnH, pwB, top3, tyC, ABlk.bnd, AV.bnd, encL_bnd, AV.bndL, encM_bnd, frm]; rfl

theorem cn_round_ok (es : List (Int × Ty × Nat)) (c : Nat) (left d : Int) (u : Ty) (n : Int) (t : Ty) (h0 : 0 ≤ n) (h1 : n ≤ 1000) : RoundJ Tryz.prog g0 12 [enc t] (cnH es c left d u n) (hpIs 0 (.returned (.bool true)) (cnH es c left d u (n + 1))) := by
  refine RoundJ.mono (K := cnPost (cnH es c left d u (n + 1))) ?_ fun o ho => cnPost_ok rfl ho
  rw [enc_D]
  refine RoundJ.run (el := els) (mu := mu0) (hk := hk0) hmix hk0_ok (n := 60) ?_
  show runR hk0 60 12 [encD t] (cnH es c left d u n) _
  rw [cn_round]
  simp only [eq_self, true_and, and_true, SubR_id, AV.int.injEq]
  rw [wrap_id (by omega) (by omega)]

theorem argCn_elim {A : AH} {K : List (Int × Ty × Nat) → Nat → Int → Int → Ty → Int → Prop} (h : argCn A K) : ∃ es c left d u n, K es c left d u n := by
  unfold argCn at h
  split at h
  · obtain ⟨es, _, l, _, h⟩ := h
    exact ⟨es, _, _, _, _, _, h⟩
  · exact h.elim

theorem cnRound_ok : RSpec.Ok Tryz.prog g0 cnRound := by
  intro l args A K h'
  unfold cnRound at h'
  split at h'
  · obtain ⟨t, rfl, h⟩ := argTy_elim h'
    obtain ⟨es, c, left, d, u, n, ⟨h1, h2⟩, h⟩ := argCn_elim h
    obtain ⟨hK, hr⟩ := RoundJ.on (n := 13) h (cn_round_ok es c left d u n t h1 h2) (cn_ok ..) (cn_ok ..) (by simp [AV.bndL, AV.still_bnd, enc_still]) rfl (by omega)
    exact hr.mono fun o ho => by subst ho; exact hK
  · exact h'.elim

def CWalkJ (es : List (Int × Ty × Nat)) (c : Nat) (left d : Int) (u : Ty) (n : Int) (t : Ty) : Prop := FJ 115 [enc t, .ptr 13 0, .ptr 14 0] (cnW (cnH es c left d u n)) (hpIs 0 (.returned (.bool true)) (cnW (cnH es c left d u (n + cnt t))))

theorem cwalk_hook {N : Nat} (ih : ∀ (es : List (Int × Ty × Nat)) (c : Nat) (left d : Int) (u : Ty) (n : Int) (t : Ty), SizeOf.sizeOf t < N → cnt t ≤ 1000 → 0 ≤ n → n + cnt t ≤ 1000 → CWalkJ es c left d u n t) : HSpec.Ok Tryz.prog g0 115 (cwalkH N) := by
  intro args A K h'
  unfold cwalkH at h'
  split at h'
  · obtain ⟨t, rfl, h⟩ := argTy_elim h'
    obtain ⟨es, c, left, d, u, n, ⟨h1, h2, h3, h4⟩, h⟩ := argCn_elim h
    obtain ⟨hK, hr⟩ := FuncJ.on (n := 15) h (ih es c left d u n t h1 h2 h3 h4) (cnW_ok ..) (cnW_ok ..) (by simp [AV.bndL, AV.bnd, AV.still_bnd, enc_still]) rfl
    exact ⟨_, hr, hK⟩
  · exact h'.elim

theorem cwalk_ok (es : List (Int × Ty × Nat)) (c : Nat) (left d : Int) (u : Ty) (n : Int) (t : Ty) (hc : cnt t ≤ 1000) (h0 : 0 ≤ n) (h1 : n + cnt t ≤ 1000) : CWalkJ es c left d u n t := by
  have key : ∀ (N : Nat) (es : List (Int × Ty × Nat)) (c : Nat) (left d : Int) (u : Ty) (n : Int) (t : Ty), SizeOf.sizeOf t < N → cnt t ≤ 1000 → 0 ≤ n → n + cnt t ≤ 1000 → CWalkJ es c left d u n t := by
    intro N
    induction N with
    | zero => intro es c left d u n t h; omega
    | succ N ih =>
      intro es c left d u n t ht hc h0 h1
      obtain ⟨k, n0, nl, ts⟩ := t
      simp only [cnt] at hc h1
      simp only [Ty.mk.sizeOf_spec] at ht
      have hlc := len_cnt ts
      have hl : LHook.Ok Tryz.prog g0 ⟨115, 0, (cwSt es c left d u nl ts).spec⟩ := by
        refine LSt.by (hk := cwH1 N) (cwSt es c left d u nl ts) (fun x => ts.length - x.1) (mkHooks_ok all_nil (all_cons (cwalk_hook ih) all_nil) all_nil) rfl ?_ ?_ ?_
        · intro x _
          exact Whole.frm rfl rfl (by simp [cwSt, AV.bnd, encL_bnd]) (by simp [cwSt, cnX, cnW, cnH, pwB, top3, tyC, ABlk.bnd, AV.bnd, encL_bnd, AV.bndL, encM_bnd, frm]; rfl)
        · intro x b' _
          exact Whole.frm rfl rfl rfl (by simp [cwSt, cnX, cnW, cnH, pwB, top3, tyC, ABlk.bnd, AV.bnd, encL_bnd, AV.bndL, encM_bnd, frm]; rfl)
        · rintro ⟨i, m⟩ ⟨hi, _, hm0, hm⟩
          simp only at hi hm0 hm
          rw [cw_loop]
          simp only [iC, encL_length, eq_self, true_and, and_true, Int.toNat_natCast, AV.int.injEq, SubR_id, ex_encM]
          refine bothR_dec (fun hlt => ?_) fun hge => ?_
          · have hi' : i < ts.length := by omega
            have hs := List.sizeOf_lt_of_mem (List.getElem_mem hi')
            have hg := cnt_get hi'
            have hd := cntL_drop ts i hi'
            rw [ex_get hi']
            simp only [ex_enc, Ty.eta]
            refine ⟨by omega, ⟨by omega, by omega, by omega, by omega⟩, trivial, (i + 1, m + cnt ts[i]), ⟨by simp only; omega, by omega, by simp only; omega, by simp only; omega⟩, by simp only; omega, by simp only; omega, ?_⟩
            rw [wrap_id (by omega) (by omega)]
            simp
          · rw [List.drop_of_length_le (by omega)]
            simp [cntL]
      refine FuncJ.mono (K := cnPost (cnW (cnH es c left d u (n + cnt (.mk k n0 nl ts))))) ?_ fun o ho => cnPost_ok rfl ho
      rw [enc_D]
      refine FuncJ.run (el := els) (mu := mu0) (hk := cwH2 es c left d u nl ts) hmix (mkHooks_ok all_nil all_nil (all_cons hl all_nil) (by intro s hs; cases hs; exact cnRound_ok)) (n := 60) ?_
      show runF (cwH2 es c left d u (Ty.mk k n0 nl ts).nl (Ty.mk k n0 nl ts).l) 60 115 _ (cnW (cnH es c left d u n)) _
      rw [cw_top]
      simp only [eq_self, true_and, and_true, SubR_id, codeIs_self, iC, ex_enc, ex_encM, Ty.eta, tl_mk, AV.int.injEq]
      refine ⟨⟨h0, by omega⟩, (0, n + 1), ⟨by simp, by omega, by simp only; omega, by simp only [List.drop_zero]; omega⟩, rfl, rfl, ?_⟩
      simp only [List.drop_zero, cnt]
      omega
  exact key _ es c left d u n t (Nat.lt_succ_self _) hc h0 h1
theorem cwalk_hook0 : HSpec.Ok Tryz.prog g0 115 cwalkH0 := by
  intro args A K h'
  unfold cwalkH0 at h'
  split at h'
  · obtain ⟨t, rfl, h⟩ := argTy_elim h'
    obtain ⟨es, c, left, d, u, n, ⟨h2, h3, h4⟩, h⟩ := argCn_elim h
    obtain ⟨hK, hr⟩ := FuncJ.on (n := 15) h (cwalk_ok es c left d u n t h2 h3 h4) (cnW_ok ..) (cnW_ok ..) (by simp [AV.bndL, AV.bnd, AV.still_bnd, enc_still]) rfl
    exact ⟨_, hr, hK⟩
  · exact h'.elim

end Go.Proofs.YtnmolpkkemljoaaGreatDoor
end
end

section
namespace Kd
open Go.Am Go.Proofs.YtnmolpkkemljoaaGreatDoor
def boundM : List (Int × Ty × Nat) → Int → Option Ty
  | [], _ => none
  | x :: l, n => if n = x.1 then some x.2.1 else boundM l n
mutual
/-- What put makes of a type. -/
def pwT (es : List (Int × Ty × Nat)) : Ty → Ty
  | .mk k n _ l => if k = 6 ∧ (boundM es n).isSome = true then cleanT ((boundM es n).getD (varT n)) else .mk k n (nilB l) (pwL es l)
def pwL (es : List (Int × Ty × Nat)) : List Ty → List Ty
  | [] => []
  | x :: xs => pwT es x :: pwL es xs
end
def okMs (es : List (Int × Ty × Nat)) : Prop := ∀ x ∈ es, okT x.2.1 = true ∧ cnt x.2.1 ≤ 100
end Kd
noncomputable section
namespace Go.Proofs.YtnmolpkkemljoaaGreatDoor
open Go Go.Am Kd

def pwA (es : List (Int × Ty × Nat)) (c : Nat) (left : Int) : AH := ⟨pwB es c left, []⟩
def pwM (es : List (Int × Ty × Nat)) (c : Nat) (left d : Int) (u : Ty) : AH := ⟨pwB es c left ++ [tyC u, .cells [.int .i64 d] 3], []⟩

def argPw (A : AH) (K : List (Int × Ty × Nat) → Nat → Int → Prop) : Prop :=
  match nthR A.blks 0, nthR A.blks 4 with
  | some (.map m c), some (.cells [.int .i64 left] 3) => ∃ es, m = encM es ∧ K es c left
  | _, _ => False
def argPm (A : AH) (K : List (Int × Ty × Nat) → Nat → Int → Int → Ty → Prop) : Prop :=
  match nthR A.blks 0, nthR A.blks 4, nthR A.blks 6, nthR A.blks 7 with
  | some (.map m c), some (.cells [.int .i64 left] 3), some (.cells [.int .i64 k, .int .i64 q, .isl b none 0 xs] 24), some (.cells [.int .i64 d] 3) => ∃ es, m = encM es ∧ ∃ l, xs = encL l ∧ K es c left d (.mk k q b l)
  | _, _, _, _ => False

end Go.Proofs.YtnmolpkkemljoaaGreatDoor
end
end

section
set_option maxRecDepth 100000
set_option linter.unusedSimpArgs false
set_option linter.unusedVariables false
noncomputable section
namespace Go.Proofs.YtnmolpkkemljoaaGreatDoor
open Go Go.Am Kd

theorem BlkR_self {x : ABlk} {R : Prop} (h : R) : BlkR x x R := by
  cases x <;> simp only [BlkR, true_and, and_self] <;> first
    | exact h
    | exact SubR_self h
theorem BlksR_self : ∀ {xs : List ABlk} {R : Prop}, R → BlksR xs xs R
  | [], _, h => by simpa [BlksR] using h
  | x :: xs, _, h => by
    simp only [BlksR]
    exact BlkR_self (BlksR_self h)
theorem hpIs_self {nf : Nat} {e : AEnd} {A : AH} (h : A.fams.length = nf) : hpIs nf e A ⟨e, A⟩ := by
  refine ⟨rfl, BlksR_self ?_⟩
  unfold FamR
  split
  · rename_i h1
    rw [h1] at h
    exact ⟨h.symm, trivial⟩
  · exact ⟨by rw [← h, List.take_length], trivial⟩

theorem keyFind_none {es : List (Int × Ty × Nat)} {n : Int} (h : boundM es n = none) : ∀ i, keyFind (.int .i64 n) (encM es) i = some none := by
  induction es with
  | nil => intro i; rfl
  | cons x l ih =>
    intro i
    simp only [boundM] at h
    split at h
    · cases h
    · rename_i hne
      simp only [encM, List.map_cons, entM, keyFind, keyEq, if_true, decide_eq_false hne]
      exact ih h (i + 1)
theorem keyFind_some {es : List (Int × Ty × Nat)} {n : Int} {u : Ty} (h : boundM es n = some u) : ∀ i, ∃ j, keyFind (.int .i64 n) (encM es) i = some (some (j, encD u)) := by
  induction es with
  | nil => cases h
  | cons x l ih =>
    intro i
    simp only [boundM] at h
    split at h
    · rename_i he
      cases h
      refine ⟨i, ?_⟩
      simp only [encM, List.map_cons, entM, keyFind, keyEq, if_true, decide_eq_true he]
    · rename_i hne
      obtain ⟨j, hj⟩ := ih h (i + 1)
      refine ⟨j, ?_⟩
      simp only [encM, List.map_cons, entM, keyFind, keyEq, if_true, decide_eq_false hne]
      exact hj
theorem boundM_mem {es : List (Int × Ty × Nat)} {n : Int} {u : Ty} (h : boundM es n = some u) : ∃ x ∈ es, x.2.1 = u := by
  induction es with
  | nil => cases h
  | cons x l ih =>
    simp only [boundM] at h
    split at h
    · cases h; exact ⟨x, by simp, rfl⟩
    · obtain ⟨y, h1, h2⟩ := ih h
      exact ⟨y, by simp [h1], h2⟩
theorem cnt_clean : ∀ t, cnt (cleanT t) = cnt t := by
  have key : ∀ (N : Nat), (∀ t, SizeOf.sizeOf t < N → cnt (cleanT t) = cnt t) ∧ ∀ l, SizeOf.sizeOf l < N → cntL (cleanL l) = cntL l := by
    intro N
    induction N with
    | zero => exact ⟨fun _ h => by omega, fun _ h => by omega⟩
    | succ N ih =>
      obtain ⟨ih1, ih2⟩ := ih
      constructor
      · intro t ht
        cases t with
        | mk k n b l =>
          simp only [Ty.mk.sizeOf_spec] at ht
          simp only [cleanT, cnt, ih2 l (by omega)]
      · intro l hl
        cases l with
        | nil => rfl
        | cons x xs =>
          simp only [List.cons.sizeOf_spec] at hl
          simp only [cleanL, cntL, ih1 x (by omega), ih2 xs (by omega)]
  exact fun t => (key (SizeOf.sizeOf t + 1)).1 t (by omega)

theorem pwA_ok (es : List (Int × Ty × Nat)) (c : Nat) (left : Int) : (pwA es c left).ok 6 0 = true := by
  simp [AH.ok, pwA, pwB, top3, ABlk.bnd, AV.bnd, AV.bndL, encM_bnd]
theorem pwM_ok (es : List (Int × Ty × Nat)) (c : Nat) (left d : Int) (u : Ty) : (pwM es c left d u).ok 8 0 = true := by
  simp [AH.ok, pwM, pwB, top3, tyC, ABlk.bnd, AV.bnd, AV.bndL, encM_bnd, encL_bnd]

theorem argPw_elim {A : AH} {K : List (Int × Ty × Nat) → Nat → Int → Prop} (h : argPw A K) : ∃ es c left, K es c left := by
  unfold argPw at h
  split at h
  · obtain ⟨es, _, h⟩ := h
    exact ⟨es, _, _, h⟩
  · exact h.elim
theorem argPm_elim {A : AH} {K : List (Int × Ty × Nat) → Nat → Int → Int → Ty → Prop} (h : argPm A K) : ∃ es c left d u, K es c left d u := by
  unfold argPm at h
  split at h
  · obtain ⟨es, _, l, _, h⟩ := h
    exact ⟨es, _, _, _, _, h⟩
  · exact h.elim

theorem okL_of {k n : Int} {b : Bool} {l : List Ty} (h : okT (.mk k n b l) = true) : l.length ≤ 2 ∧ okL l = true := by
  refine ⟨?_, (ok_node h).2⟩
  rcases parts_cases h with rfl | ⟨x, rfl, _⟩ | ⟨x, y, rfl, _⟩ <;> simp

end Go.Proofs.YtnmolpkkemljoaaGreatDoor
end
end

section
noncomputable section
namespace Go.Proofs.YtnmolpkkemljoaaGreatDoor
open Go Go.Am Kd

def mapA (es : List (Int × Ty × Nat)) (c : Nat) : AH := ⟨[.map (encM es) c], []⟩
end Go.Proofs.YtnmolpkkemljoaaGreatDoor
end
end

section
set_option maxRecDepth 100000
set_option linter.unusedSimpArgs false
set_option linter.unusedVariables false
namespace Kd
open Go.Am Go.Proofs.YtnmolpkkemljoaaGreatDoor

theorem ok_mk {k n : Int} {b : Bool} {l : List Ty} (h1 : NodeOk (.mk k n b l)) (h2 : okL l = true) : okT (.mk k n b l) = true := by
  simp only [okT, Bool.and_eq_true, decide_eq_true_eq]
  exact ⟨h1, h2⟩
theorem node_of {k n m : Int} {b b' : Bool} {l l' : List Ty} (h : NodeOk (.mk k n b l)) (hl : l'.length = l.length) (hm : k = 6 → m = n) : NodeOk (.mk k m b' l') := by
  simp only [NodeOk] at h ⊢
  obtain ⟨h1, h2, h3, h4, h5, h6⟩ := h
  rw [hl]
  exact ⟨h1, h2, h3, h4, h5, fun h => by rw [hm h]; exact h6 h⟩
theorem ok_clean : ∀ t, okT t = true → okT (cleanT t) = true := by
  have key : ∀ (N : Nat), (∀ t, SizeOf.sizeOf t < N → okT t = true → okT (cleanT t) = true) ∧ ∀ l, SizeOf.sizeOf l < N → okL l = true → okL (cleanL l) = true := by
    intro N
    induction N with
    | zero => exact ⟨fun _ h => by omega, fun _ h => by omega⟩
    | succ N ih =>
      obtain ⟨ih1, ih2⟩ := ih
      constructor
      · intro t ht h
        cases t with
        | mk k n b l =>
          simp only [Ty.mk.sizeOf_spec] at ht
          obtain ⟨h1, h2⟩ := ok_node h
          simp only [cleanT]
          exact ok_mk (node_of h1 (cleanL_len l) fun h => by rw [if_pos h]) (ih2 l (by omega) h2)
      · intro l hl h
        cases l with
        | nil => rfl
        | cons x xs =>
          simp only [List.cons.sizeOf_spec] at hl
          simp only [okL, Bool.and_eq_true] at h
          simp only [cleanL, okL, Bool.and_eq_true]
          exact ⟨ih1 x (by omega) h.1, ih2 xs (by omega) h.2⟩
  exact fun t => (key (SizeOf.sizeOf t + 1)).1 t (by omega)

theorem nil_clean (l : List Ty) : nilB (cleanL l) = nilB l := by simp only [nilB, cleanL_len]

theorem pw_with {es : List (Int × Ty × Nat)} {bs : List (Int × Ty)} (hb : ∀ n, boundM es n = boundO bs n) : ∀ t, okT t = true → pwT es (cleanT t) = withT bs t := by
  have key : ∀ (N : Nat), (∀ t, SizeOf.sizeOf t < N → okT t = true → pwT es (cleanT t) = withT bs t) ∧ ∀ l, SizeOf.sizeOf l < N → okL l = true → pwL es (cleanL l) = withL bs l := by
    intro N
    induction N with
    | zero => exact ⟨fun _ h => by omega, fun _ h => by omega⟩
    | succ N ih =>
      obtain ⟨ih1, ih2⟩ := ih
      constructor
      · intro t ht h
        cases t with
        | mk k n b l =>
          simp only [Ty.mk.sizeOf_spec] at ht
          obtain ⟨h1, h2⟩ := ok_node h
          by_cases h6 : k = 6
          · simp only [NodeOk] at h1
            have hl : l = [] := List.eq_nil_of_length_eq_zero (h1.2.2.1 (.inr (.inr h6)))
            subst h6 hl
            simp only [cleanT, cleanL, pwT, withT, if_true, true_and, hb, boundT]
            cases boundO bs n with
            | none => simp [varT, cleanT, cleanL, nilB, pwL]
            | some u => simp
          · simp only [cleanT, pwT, withT, h6, if_false, false_and, nil_clean, ih2 l (by omega) h2]
      · intro l hl h
        cases l with
        | nil => rfl
        | cons x xs =>
          simp only [List.cons.sizeOf_spec] at hl
          simp only [okL, Bool.and_eq_true] at h
          simp only [cleanL, pwL, withL, ih1 x (by omega) h.1, ih2 xs (by omega) h.2]
  exact fun t => (key (SizeOf.sizeOf t + 1)).1 t (by omega)

end Kd
noncomputable section
namespace Go.Proofs.YtnmolpkkemljoaaGreatDoor
open Go Go.Am Kd

end Go.Proofs.YtnmolpkkemljoaaGreatDoor
end
end

section
namespace Kd
open Go.Am Go.Proofs.YtnmolpkkemljoaaGreatDoor
/-- Does it fit into what is left? -/
def fitsB (es : List (Int × Ty × Nat)) (t : Ty) (r : Int) : Bool := decide ((cnt (pwT es t) : Int) ≤ r)
def fitsL (es : List (Int × Ty × Nat)) (l : List Ty) (r : Int) : Bool := decide ((cntL (pwL es l) : Int) ≤ r)
mutual
/-- What is left behind it. -/
def pwF (es : List (Int × Ty × Nat)) : Ty → Int → Int
  | .mk k n _ l, r => if k = 6 ∧ (boundM es n).isSome = true then r - cnt ((boundM es n).getD (varT n)) else if r - 1 < 0 then r - 1 else pwFL es l (r - 1)
def pwFL (es : List (Int × Ty × Nat)) : List Ty → Int → Int
  | [], r => r
  | x :: xs, r => if fitsB es x r = true then pwFL es xs (r - cnt (pwT es x)) else pwF es x r
end
/-- put does not stop. -/
def putB (es : List (Int × Ty × Nat)) (t : Ty) : Bool := fitsB es (cleanT t) 60 && validB (pwT es (cleanT t))

theorem pwF_fit (es : List (Int × Ty × Nat)) : (∀ t r, fitsB es t r = true → pwF es t r = r - cnt (pwT es t)) ∧ ∀ l r, fitsL es l r = true → pwFL es l r = r - cntL (pwL es l) := by
  have key : ∀ (N : Nat), (∀ t r, SizeOf.sizeOf t < N → fitsB es t r = true → pwF es t r = r - cnt (pwT es t)) ∧ ∀ l r, SizeOf.sizeOf l < N → fitsL es l r = true → pwFL es l r = r - cntL (pwL es l) := by
    intro N
    induction N with
    | zero => exact ⟨fun _ _ h => by omega, fun _ _ h => by omega⟩
    | succ N ih =>
      obtain ⟨ih1, ih2⟩ := ih
      constructor
      · intro t r ht h
        cases t with
        | mk k n b l =>
          simp only [Ty.mk.sizeOf_spec] at ht
          simp only [fitsB, decide_eq_true_eq] at h
          simp only [pwF, pwT] at h ⊢
          split
          · rename_i hk
            rw [if_pos hk] at h
            rw [cnt_clean] at h ⊢
          · rename_i hk
            rw [if_neg hk] at h
            simp only [cnt, Int.natCast_add, Int.cast_ofNat_Int] at h ⊢
            rw [if_neg (by omega), ih2 l (r - 1) (by omega) (by simp only [fitsL, decide_eq_true_eq]; omega)]
            omega
      · intro l r hl h
        cases l with
        | nil => simp [pwFL, pwL, cntL]
        | cons x xs =>
          simp only [List.cons.sizeOf_spec] at hl
          simp only [fitsL, decide_eq_true_eq, pwL, cntL, Int.natCast_add] at h
          have hx : fitsB es x r = true := by simp only [fitsB, decide_eq_true_eq]; omega
          simp only [pwFL, if_pos hx, pwL, cntL, Int.natCast_add]
          rw [ih2 xs _ (by omega) (by simp only [fitsL, decide_eq_true_eq]; omega)]
          omega
  exact ⟨fun t r => (key (SizeOf.sizeOf t + 1)).1 t r (by omega), fun l r => (key (SizeOf.sizeOf l + 1)).2 l r (by omega)⟩
end Kd
noncomputable section
namespace Go.Proofs.YtnmolpkkemljoaaGreatDoor
open Go Go.Am Kd

/-- The panic of what is refused. -/
def stopC (e : Int) : AChain := [(.iface 117 (.agg [.int .i64 e]), false)]

def pwalkG (N : Nat) : HSpec := fun args A K =>
  match args with
  | [t, .int .i64 _, .ptr 1 0, .ptr 4 0, .ptr 5 0] => argTy t fun t => argPw A fun es c left => (SizeOf.sizeOf t < N ∧ okT t = true ∧ okMs es ∧ 0 ≤ left ∧ left ≤ 1000) ∧
      onR 0 A (pwA es c left) (bothR (fitsB es t left) (K ⟨.returned (encD (pwT es t)), (pwA es c (left - cnt (pwT es t))).onto A⟩) (K ⟨.panicked (stopC 9), (pwA es c (pwF es t left)).onto A⟩))
  | _ => False
def pwalkG0 : HSpec := fun args A K =>
  match args with
  | [t, .int .i64 _, .ptr 1 0, .ptr 4 0, .ptr 5 0] => argTy t fun t => argPw A fun es c left => (okT t = true ∧ okMs es ∧ 0 ≤ left ∧ left ≤ 1000) ∧
      onR 0 A (pwA es c left) (bothR (fitsB es t left) (K ⟨.returned (encD (pwT es t)), (pwA es c (left - cnt (pwT es t))).onto A⟩) (K ⟨.panicked (stopC 9), (pwA es c (pwF es t left)).onto A⟩))
  | _ => False
def pmapG (N : Nat) : HSpec := fun args A K =>
  match args with
  | [.isl _ none 0 xs, .fn (.func 119) [] [.ptr 5 0, .ptr 7 0]] => ∃ l, xs = encL l ∧ argPm A fun es c left d u => (SizeOf.sizeOf l < N ∧ (l.length ≤ 2 ∧ okL l = true) ∧ okMs es ∧ 0 ≤ left ∧ left ≤ 1000) ∧
      onR 0 A (pwM es c left d u) (bothR (fitsL es l left) (K ⟨.returned (.isl (nilB l) none 0 (encL (pwL es l))), (pwM es c (left - cntL (pwL es l)) d u).onto A⟩) (K ⟨.panicked (stopC 9), (pwM es c (pwFL es l left) d u).onto A⟩))
  | _ => False
def pmHkG (N : Nat) : Hooks := mkHooks Tryz.prog [] [(118, pwalkG N)] []
def pwHkG (N : Nat) : Hooks := mkHooks Tryz.prog [(68, kclQ0), (80, partsQ)] [(115, cwalkH0), (103, pmapG N)] []
def ptHkG : Hooks := mkHooks Tryz.prog [(68, kclQ0), (76, validQ)] [(118, pwalkG0)] []
def putG : HSpec := fun args A K =>
  match args with
  | [.map b, t] => argTy t fun t =>
    match nthR A.blks b with
    | some (.map m c) => ∃ es, m = encM es ∧ (okT t = true ∧ okMs es) ∧ bothR (putB es t) (K ⟨.returned (encD (pwT es (cleanT t))), A.put b (.map m c)⟩) (K ⟨.panicked (stopC 9), A.put b (.map m c)⟩)
    | _ => False
  | _ => False

end Go.Proofs.YtnmolpkkemljoaaGreatDoor
end
end

section
noncomputable section
namespace Go.Proofs.YtnmolpkkemljoaaGreatDoor
open Go Go.Am Kd
set_option maxRecDepth 100000

theorem pg_top0 (es : List (Int × Ty × Nat)) (c : Nat) (left d left' : Int) (u : Ty) (b : Bool) (N : Nat) (e : AEnd) : (runF (pmHkG N) 60 103 [.isl b none 0 [], .fn (.func 119) [] [.ptr 5 0, .ptr 7 0]] (pwM es c left d u) (hpFz Tryz.prog 8 0 5 e (pwM es c left' d u))) = ( AEnd.returned (AV.isl true none (0) []) = e ∧ encM es = encM es ∧ c = c ∧ 74 = 74 ∧ SubR [AV.map (0)] [AV.map (0)] (24 = 24 ∧ 24 = 24 ∧ 3 = 3 ∧ AV.int IntKind.i64 left = AV.int IntKind.i64 left' ∧ 145 = 145 ∧ SubR [AV.fn (Fn.func (118)) [] [AV.ptr (1) (0), AV.ptr (4) (0), AV.ptr (5) (0)]] [AV.fn (Fn.func (118)) []
 [AV.ptr (1) (0), AV.ptr (4) (0), AV.ptr (5) (0)]] (24 = 24 ∧ AV.int IntKind.i64 (Ty.kind u) = AV.int IntKind.i64 (Ty.kind u) ∧ AV.int IntKind.i64 (Ty.n u) = AV.int IntKind.i64 (Ty.n u) ∧ AV.isl (Ty.nl u) none (0) (encL (Ty.l u)) = AV.isl (Ty.nl u) none (0) (encL (Ty.l u)) ∧ 3 = 3 ∧ AV.int IntKind.i64 d = AV.int IntKind.i64 d ∧ 0 = 0 ∧ True))) := by kernel_rfl

theorem pg_top1 (es : List (Int × Ty × Nat)) (c : Nat) (left d left' : Int) (u : Ty) (b : Bool) (x : Ty) (N : Nat) (e : AEnd) : (runF (pmHkG N) 60 103 [.isl b none 0 [encD x], .fn (.func 119) [] [.ptr 5 0, .ptr 7 0]] (pwM es c left d u) (hpFz Tryz.prog 8 0 5 e (pwM es c left' d u))) = ( ∃ l, encL (Ty.l x) = encL l ∧ ∃ es_1, encM es = encM es_1 ∧ (SizeOf.sizeOf (Ty.mk (Ty.kind x) (Ty.n x) (Ty.nl x) l) < N ∧ okT (Ty.mk (Ty.kind x) (Ty.n x) (Ty.nl x) l) = true ∧ okMs es_1 ∧ 0 ≤ left ∧ left ≤ 1000) ∧ encM es = encM es_1 ∧ c = c ∧ 74 = 74 ∧ SubR [AV.map (0)] [AV.map (0)] (24 = 24 ∧ 24 = 24 ∧
 3 = 3 ∧ AV.int IntKind.i64 left = AV.int IntKind.i64 left ∧ 145 = 145 ∧ SubR [AV.fn (Fn.func (118)) [] [AV.ptr (1) (0), AV.ptr (4) (0), AV.ptr (5) (0)]] [AV.fn (Fn.func (118)) [] [AV.ptr (1) (0), AV.ptr (4) (0), AV.ptr (5) (0)]] (0 = 0 ∧ bothR (fitsB es_1 (Ty.mk (Ty.kind x) (Ty.n x) (Ty.nl x) l) left) (AEnd.returned (AV.isl false none (0) [AV.agg [AV.int IntKind.i64 (Ty.kind (pwT es_1 (Ty.mk (Ty.kind x) (Ty.n x) (Ty.nl x) l))), AV.int IntKind.i64 (Ty.n (pwT es_1 (Ty.mk (Ty.kind x) (Ty.n x) (Ty.nl x) l))), AV.isl (Ty.nl (pwT es_1 (Ty.mk (Ty.kind x) (Ty.n x) (Ty.nl x) l))) none (0)
 (encL (Ty.l (pwT es_1 (Ty.mk (Ty.kind x) (Ty.n x) (Ty.nl x) l))))]]) = e ∧ encM es_1 = encM es ∧ c = c ∧ 74 = 74 ∧ SubR [AV.map (0)] [AV.map (0)] (24 = 24 ∧ 24 = 24 ∧ 3 = 3 ∧ AV.int IntKind.i64 (left - iC (cnt (pwT es_1 (Ty.mk (Ty.kind x) (Ty.n x) (Ty.nl x) l)))) = AV.int IntKind.i64 left' ∧ 145 = 145 ∧ SubR [AV.fn (Fn.func (118)) [] [AV.ptr (1) (0), AV.ptr (4) (0), AV.ptr (5) (0)]] [AV.fn (Fn.func (118)) [] [AV.ptr (1) (0), AV.ptr (4) (0), AV.ptr (5) (0)]] (24 = 24 ∧ AV.int IntKind.i64 (Ty.kind u) = AV.int IntKind.i64 (Ty.kind u) ∧ AV.int IntKind.i64 (Ty.n u) = AV.int IntKind.i64 (Ty.n u) ∧
 AV.isl (Ty.nl u) none (0) (encL (Ty.l u)) = AV.isl (Ty.nl u) none (0) (encL (Ty.l u)) ∧ 3 = 3 ∧ AV.int IntKind.i64 d = AV.int IntKind.i64 d ∧ 0 = 0 ∧ True))) (AEnd.panicked [(AV.iface (117) (AV.agg [AV.int IntKind.i64 (9)]), false)] = e ∧ encM es_1 = encM es ∧ c = c ∧ 74 = 74 ∧ SubR [AV.map (0)] [AV.map (0)] (24 = 24 ∧ 24 = 24 ∧ 3 = 3 ∧ AV.int IntKind.i64 (pwF es_1 (Ty.mk (Ty.kind x) (Ty.n x) (Ty.nl x) l) left) = AV.int IntKind.i64 left' ∧ 145 = 145 ∧ SubR [AV.fn (Fn.func (118)) [] [AV.ptr (1) (0), AV.ptr (4) (0), AV.ptr (5) (0)]] [AV.fn (Fn.func (118)) [] [AV.ptr (1) (0), AV.ptr (4) (0),
 AV.ptr (5) (0)]] (24 = 24 ∧ AV.int IntKind.i64 (Ty.kind u) = AV.int IntKind.i64 (Ty.kind u) ∧ AV.int IntKind.i64 (Ty.n u) = AV.int IntKind.i64 (Ty.n u) ∧ AV.isl (Ty.nl u) none (0) (encL (Ty.l u)) = AV.isl (Ty.nl u) none (0) (encL (Ty.l u)) ∧ 3 = 3 ∧ AV.int IntKind.i64 d = AV.int IntKind.i64 d ∧ 0 = 0 ∧ True)))))) := by kernel_rfl

theorem pg_top2 (es : List (Int × Ty × Nat)) (c : Nat) (left d left' : Int) (u : Ty) (b : Bool) (x y : Ty) (N : Nat) (e : AEnd) : (runF (pmHkG N) 60 103 [.isl b none 0 [encD x, encD y], .fn (.func 119) [] [.ptr 5 0, .ptr 7 0]] (pwM es c left d u) (hpFz Tryz.prog 8 0 5 e (pwM es c left' d u))) = ( ∃ l, encL (Ty.l x) = encL l ∧ ∃ es_1, encM es = encM es_1 ∧ (SizeOf.sizeOf (Ty.mk (Ty.kind x) (Ty.n x) (Ty.nl x) l) < N ∧ okT (Ty.mk (Ty.kind x) (Ty.n x) (Ty.nl x) l) = true ∧ okMs es_1 ∧ 0 ≤ left ∧ left ≤ 1000) ∧ encM es = encM es_1 ∧ c = c ∧ 74 = 74 ∧ SubR [AV.map (0)] [AV.map (0)] (24 = 24 ∧
 24 = 24 ∧ 3 = 3 ∧ AV.int IntKind.i64 left = AV.int IntKind.i64 left ∧ 145 = 145 ∧ SubR [AV.fn (Fn.func (118)) [] [AV.ptr (1) (0), AV.ptr (4) (0), AV.ptr (5) (0)]] [AV.fn (Fn.func (118)) [] [AV.ptr (1) (0), AV.ptr (4) (0), AV.ptr (5) (0)]] (0 = 0 ∧ bothR (fitsB es_1 (Ty.mk (Ty.kind x) (Ty.n x) (Ty.nl x) l) left) (∃ l_1, encL (Ty.l y) = encL l_1 ∧ ∃ es_2, encM es_1 = encM es_2 ∧ (SizeOf.sizeOf (Ty.mk (Ty.kind y) (Ty.n y) (Ty.nl y) l_1) < N ∧ okT (Ty.mk (Ty.kind y) (Ty.n y) (Ty.nl y) l_1) = true ∧ okMs es_2 ∧ 0 ≤ left - iC (cnt (pwT es_1 (Ty.mk (Ty.kind x) (Ty.n x) (Ty.nl x) l))) ∧
 left - iC (cnt (pwT es_1 (Ty.mk (Ty.kind x) (Ty.n x) (Ty.nl x) l))) ≤ 1000) ∧ encM es_1 = encM es_2 ∧ c = c ∧ 74 = 74 ∧ SubR [AV.map (0)] [AV.map (0)] (24 = 24 ∧ 24 = 24 ∧ 3 = 3 ∧ AV.int IntKind.i64 (left - iC (cnt (pwT es_1 (Ty.mk (Ty.kind x) (Ty.n x) (Ty.nl x) l)))) = AV.int IntKind.i64 (left - iC (cnt (pwT es_1 (Ty.mk (Ty.kind x) (Ty.n x) (Ty.nl x) l)))) ∧ 145 = 145 ∧ SubR [AV.fn (Fn.func (118)) [] [AV.ptr (1) (0), AV.ptr (4) (0), AV.ptr (5) (0)]] [AV.fn (Fn.func (118)) [] [AV.ptr (1) (0), AV.ptr (4) (0), AV.ptr (5) (0)]] (0 = 0 ∧ bothR
 (fitsB es_2 (Ty.mk (Ty.kind y) (Ty.n y) (Ty.nl y) l_1) (left - iC (cnt (pwT es_1 (Ty.mk (Ty.kind x) (Ty.n x) (Ty.nl x) l))))) (AEnd.returned (AV.isl false none (0) [AV.agg [AV.int IntKind.i64 (Ty.kind (pwT es_1 (Ty.mk (Ty.kind x) (Ty.n x) (Ty.nl x) l))), AV.int IntKind.i64 (Ty.n (pwT es_1 (Ty.mk (Ty.kind x) (Ty.n x) (Ty.nl x) l))), AV.isl (Ty.nl (pwT es_1 (Ty.mk (Ty.kind x) (Ty.n x) (Ty.nl x) l))) none (0) (encL (Ty.l (pwT es_1 (Ty.mk (Ty.kind x) (Ty.n x) (Ty.nl x) l))))], AV.agg [AV.int IntKind.i64 (Ty.kind (pwT es_2 (Ty.mk (Ty.kind y) (Ty.n y) (Ty.nl y) l_1))),
 AV.int IntKind.i64 (Ty.n (pwT es_2 (Ty.mk (Ty.kind y) (Ty.n y) (Ty.nl y) l_1))), AV.isl (Ty.nl (pwT es_2 (Ty.mk (Ty.kind y) (Ty.n y) (Ty.nl y) l_1))) none (0) (encL (Ty.l (pwT es_2 (Ty.mk (Ty.kind y) (Ty.n y) (Ty.nl y) l_1))))]]) = e ∧ encM es_2 = encM es ∧ c = c ∧ 74 = 74 ∧ SubR [AV.map (0)] [AV.map (0)] (24 = 24 ∧ 24 = 24 ∧ 3 = 3 ∧ AV.int IntKind.i64 (left - iC (cnt (pwT es_1 (Ty.mk (Ty.kind x) (Ty.n x) (Ty.nl x) l))) - iC (cnt (pwT es_2 (Ty.mk (Ty.kind y) (Ty.n y) (Ty.nl y) l_1)))) = AV.int IntKind.i64 left' ∧ 145 = 145 ∧ SubR [AV.fn (Fn.func (118)) [] [AV.ptr (1) (0), AV.ptr (4) (0),
 AV.ptr (5) (0)]] [AV.fn (Fn.func (118)) [] [AV.ptr (1) (0), AV.ptr (4) (0), AV.ptr (5) (0)]] (24 = 24 ∧ AV.int IntKind.i64 (Ty.kind u) = AV.int IntKind.i64 (Ty.kind u) ∧ AV.int IntKind.i64 (Ty.n u) = AV.int IntKind.i64 (Ty.n u) ∧ AV.isl (Ty.nl u) none (0) (encL (Ty.l u)) = AV.isl (Ty.nl u) none (0) (encL (Ty.l u)) ∧ 3 = 3 ∧ AV.int IntKind.i64 d = AV.int IntKind.i64 d ∧ 0 = 0 ∧ True))) (AEnd.panicked [(AV.iface (117) (AV.agg [AV.int IntKind.i64 (9)]), false)] = e ∧ encM es_2 = encM es ∧ c = c ∧ 74 = 74 ∧ SubR [AV.map (0)] [AV.map (0)] (24 = 24 ∧ 24 = 24 ∧ 3 = 3 ∧ AV.int IntKind.i64
 (pwF es_2 (Ty.mk (Ty.kind y) (Ty.n y) (Ty.nl y) l_1) (left - iC (cnt (pwT es_1 (Ty.mk (Ty.kind x) (Ty.n x) (Ty.nl x) l))))) = AV.int IntKind.i64 left' ∧ 145 = 145 ∧ SubR [AV.fn (Fn.func (118)) [] [AV.ptr (1) (0), AV.ptr (4) (0), AV.ptr (5) (0)]] [AV.fn (Fn.func (118)) [] [AV.ptr (1) (0), AV.ptr (4) (0), AV.ptr (5) (0)]] (24 = 24 ∧ AV.int IntKind.i64 (Ty.kind u) = AV.int IntKind.i64 (Ty.kind u) ∧ AV.int IntKind.i64 (Ty.n u) = AV.int IntKind.i64 (Ty.n u) ∧ AV.isl (Ty.nl u) none (0) (encL (Ty.l u)) = AV.isl (Ty.nl u) none (0) (encL (Ty.l u)) ∧ 3 = 3 ∧
 AV.int IntKind.i64 d = AV.int IntKind.i64 d ∧ 0 = 0 ∧ True)))))) (AEnd.panicked [(AV.iface (117) (AV.agg [AV.int IntKind.i64 (9)]), false)] = e ∧ encM es_1 = encM es ∧ c = c ∧ 74 = 74 ∧ SubR [AV.map (0)] [AV.map (0)] (24 = 24 ∧ 24 = 24 ∧ 3 = 3 ∧ AV.int IntKind.i64 (pwF es_1 (Ty.mk (Ty.kind x) (Ty.n x) (Ty.nl x) l) left) = AV.int IntKind.i64 left' ∧ 145 = 145 ∧ SubR [AV.fn (Fn.func (118)) [] [AV.ptr (1) (0), AV.ptr (4) (0), AV.ptr (5) (0)]] [AV.fn (Fn.func (118)) [] [AV.ptr (1) (0), AV.ptr (4) (0), AV.ptr (5) (0)]] (24 = 24 ∧ AV.int IntKind.i64 (Ty.kind u) = AV.int IntKind.i64 (Ty.kind u) ∧
 AV.int IntKind.i64 (Ty.n u) = AV.int IntKind.i64 (Ty.n u) ∧ AV.isl (Ty.nl u) none (0) (encL (Ty.l u)) = AV.isl (Ty.nl u) none (0) (encL (Ty.l u)) ∧ 3 = 3 ∧ AV.int IntKind.i64 d = AV.int IntKind.i64 d ∧ 0 = 0 ∧ True)))))) := by kernel_rfl

theorem pwg_top (es : List (Int × Ty × Nat)) (c : Nat) (left d left' : Int) (t : Ty) (N : Nat) (e : AEnd) : (runF (pwHkG N) 60 118 [encD t, .int .i64 d, .ptr 1 0, .ptr 4 0, .ptr 5 0] (pwA es c left) (hpIs 0 e (pwA es c left'))) = ( keyFind (AV.int IntKind.i64 (Ty.n t)) (encM es) 0 = some none ∧ bothR (!decide ((0 : Int) ≤ IntKind.wrap IntKind.i64 (left - (1 : Int)))) (AEnd.panicked [(AV.iface (117) (AV.agg [AV.int IntKind.i64 (9)]), false)] = e ∧ encM es = encM es ∧ c = c ∧ 74 = 74 ∧ SubR [AV.map (0)] [AV.map (0)] (24 = 24 ∧ 24 = 24 ∧ 3 = 3 ∧
 AV.int IntKind.i64 (IntKind.wrap IntKind.i64 (left - (1 : Int))) = AV.int IntKind.i64 left' ∧ 145 = 145 ∧ SubR [AV.fn (Fn.func (118)) [] [AV.ptr (1) (0), AV.ptr (4) (0), AV.ptr (5) (0)]] [AV.fn (Fn.func (118)) [] [AV.ptr (1) (0), AV.ptr (4) (0), AV.ptr (5) (0)]] (0 = 0 ∧ True))) (∃ l, encL (Ty.l t) = encL l ∧ ∃ es_1, encM es = encM es_1 ∧ ∃ l_1, encL (Ty.l t) = encL l_1 ∧ (SizeOf.sizeOf l < N ∧ (List.length l ≤ 2 ∧ okL l = true) ∧ okMs es_1 ∧ 0 ≤ IntKind.wrap IntKind.i64 (left - (1 : Int)) ∧ IntKind.wrap IntKind.i64 (left - (1 : Int)) ≤ 1000) ∧ encM es = encM es_1 ∧ c = c ∧ 74 = 74 ∧
 SubR [AV.map (0)] [AV.map (0)] (24 = 24 ∧ 24 = 24 ∧ 3 = 3 ∧ AV.int IntKind.i64 (IntKind.wrap IntKind.i64 (left - (1 : Int))) = AV.int IntKind.i64 (IntKind.wrap IntKind.i64 (left - (1 : Int))) ∧ 145 = 145 ∧ SubR [AV.fn (Fn.func (118)) [] [AV.ptr (1) (0), AV.ptr (4) (0), AV.ptr (5) (0)]] [AV.fn (Fn.func (118)) [] [AV.ptr (1) (0), AV.ptr (4) (0), AV.ptr (5) (0)]] (24 = 24 ∧ AV.int IntKind.i64 (Ty.kind t) = AV.int IntKind.i64 (Ty.kind t) ∧ AV.int IntKind.i64 (Ty.n t) = AV.int IntKind.i64 (Ty.n t) ∧ AV.isl (Ty.nl t) none (0) (encL (Ty.l t)) = AV.isl (Ty.nl t) none (0) (encL l_1) ∧ 3 = 3 ∧
 AV.int IntKind.i64 d = AV.int IntKind.i64 d ∧ 0 = 0 ∧ bothR (fitsL es_1 l (IntKind.wrap IntKind.i64 (left - (1 : Int)))) (AV.ptr (6) (0) = AV.ptr (6) (0) ∧ AV.int IntKind.i64 (Ty.kind t) = AV.int IntKind.i64 (Ty.kind t) ∧ AV.ptr (6) (1) = AV.ptr (6) (1) ∧ AV.int IntKind.i64 (Ty.n t) = AV.int IntKind.i64 (Ty.n t) ∧ AEnd.returned (AV.agg [AV.int IntKind.i64 (Ty.kind t), AV.int IntKind.i64 (Ty.n t), AV.isl (nilB l) none (0) (encL (pwL es_1 l))]) = e ∧ encM es_1 = encM es ∧ c = c ∧ 74 = 74 ∧ SubR [AV.map (0)] [AV.map (0)] (24 = 24 ∧ 24 = 24 ∧ 3 = 3 ∧
 AV.int IntKind.i64 (IntKind.wrap IntKind.i64 (left - (1 : Int)) - iC (cntL (pwL es_1 l))) = AV.int IntKind.i64 left' ∧ 145 = 145 ∧ SubR [AV.fn (Fn.func (118)) [] [AV.ptr (1) (0), AV.ptr (4) (0), AV.ptr (5) (0)]] [AV.fn (Fn.func (118)) [] [AV.ptr (1) (0), AV.ptr (4) (0), AV.ptr (5) (0)]] (0 = 0 ∧ True))) (AEnd.panicked [(AV.iface (117) (AV.agg [AV.int IntKind.i64 (9)]), false)] = e ∧ encM es_1 = encM es ∧ c = c ∧ 74 = 74 ∧ SubR [AV.map (0)] [AV.map (0)] (24 = 24 ∧ 24 = 24 ∧ 3 = 3 ∧ AV.int IntKind.i64 (pwFL es_1 l (IntKind.wrap IntKind.i64 (left - (1 : Int)))) = AV.int IntKind.i64 left' ∧
 145 = 145 ∧ SubR [AV.fn (Fn.func (118)) [] [AV.ptr (1) (0), AV.ptr (4) (0), AV.ptr (5) (0)]] [AV.fn (Fn.func (118)) [] [AV.ptr (1) (0), AV.ptr (4) (0), AV.ptr (5) (0)]] (0 = 0 ∧ True)))))) ∨ ∃ j x, keyFind (AV.int IntKind.i64 (Ty.n t)) (encM es) 0 = some (some (j, AV.agg [AV.int IntKind.i64 (Ty.kind x), AV.int IntKind.i64 (Ty.n x), AV.isl (Ty.nl x) none (0) (encL (Ty.l x))])) ∧ bothR (decide (Ty.kind t = (6 : Int))) (∃ l, encL (Ty.l x) = encL l ∧ ∃ l_1, encL l = encL l_1 ∧ ∃ es_1, encM es = encM es_1 ∧ ∃ l, encL (Ty.l x) = encL l ∧ (cnt (Ty.mk (Ty.kind x) (Ty.n x) (Ty.nl x) l_1) ≤ 1000 ∧
 Int.NonNeg (0) ∧ (0 : Int) + iC (cnt (Ty.mk (Ty.kind x) (Ty.n x) (Ty.nl x) l_1)) ≤ 1000) ∧ encM es = encM es_1 ∧ c = c ∧ 74 = 74 ∧ SubR [AV.map (0)] [AV.map (0)] (24 = 24 ∧ 24 = 24 ∧ 3 = 3 ∧ AV.int IntKind.i64 left = AV.int IntKind.i64 left ∧ 145 = 145 ∧ SubR [AV.fn (Fn.func (118)) [] [AV.ptr (1) (0), AV.ptr (4) (0), AV.ptr (5) (0)]] [AV.fn (Fn.func (118)) [] [AV.ptr (1) (0), AV.ptr (4) (0), AV.ptr (5) (0)]] (24 = 24 ∧ 3 = 3 ∧ AV.int IntKind.i64 d = AV.int IntKind.i64 d ∧ 24 = 24 ∧ 24 = 24 ∧ AV.int IntKind.i64 (Ty.kind x) = AV.int IntKind.i64 (Ty.kind x) ∧
 AV.int IntKind.i64 (Ty.n x) = AV.int IntKind.i64 (Ty.n x) ∧ AV.isl (Ty.nl x) none (0) (encL (Ty.l x)) = AV.isl (Ty.nl x) none (0) (encL l) ∧ 3 = 3 ∧ SubR [AV.int IntKind.i64 (0)] [AV.int IntKind.i64 (0)] ((LoopState.ready = LoopState.ready ∧ (none : Option Code) = none ∧ ((Array.mk (α := Nat) [26]), rA (76) (1), rB (118) (0)) = ((Array.mk (α := Nat) [26]), rA (76) (1), rB (118) (0)) ∧ 11 = 11) ∧ AV.ptr (10) (0) = AV.ptr (10) (0) ∧ 42 = 42 ∧ SubR [AV.fn (Fn.yield (12)) [] []] [AV.fn (Fn.yield (12)) [] []] (42 = 42 ∧ SubR [AV.fn (Fn.func (115)) [] [AV.ptr (13) (0), AV.ptr (14) (0)]]
 [AV.fn (Fn.func (115)) [] [AV.ptr (13) (0), AV.ptr (14) (0)]] (0 = 0 ∧ bothR (!decide ((0 : Int) ≤ IntKind.wrap IntKind.i64 (left - ((0 : Int) + iC (cnt (Ty.mk (Ty.kind x) (Ty.n x) (Ty.nl x) l_1)))))) (AEnd.panicked [(AV.iface (117) (AV.agg [AV.int IntKind.i64 (9)]), false)] = e ∧ encM es_1 = encM es ∧ c = c ∧ 74 = 74 ∧ SubR [AV.map (0)] [AV.map (0)] (24 = 24 ∧ 24 = 24 ∧ 3 = 3 ∧ AV.int IntKind.i64 (IntKind.wrap IntKind.i64 (left - ((0 : Int) + iC (cnt (Ty.mk (Ty.kind x) (Ty.n x) (Ty.nl x) l_1))))) = AV.int IntKind.i64 left' ∧ 145 = 145 ∧ SubR [AV.fn (Fn.func (118)) [] [AV.ptr (1) (0),
 AV.ptr (4) (0), AV.ptr (5) (0)]] [AV.fn (Fn.func (118)) [] [AV.ptr (1) (0), AV.ptr (4) (0), AV.ptr (5) (0)]] (0 = 0 ∧ True))) (∃ l_2, encL l = encL l_2 ∧ okT (Ty.mk (Ty.kind x) (Ty.n x) (Ty.nl x) l_2) = true ∧ AEnd.returned (AV.agg [AV.int IntKind.i64 (Ty.kind (cleanT (Ty.mk (Ty.kind x) (Ty.n x) (Ty.nl x) l_2))), AV.int IntKind.i64 (Ty.n (cleanT (Ty.mk (Ty.kind x) (Ty.n x) (Ty.nl x) l_2))), AV.isl (Ty.nl (cleanT (Ty.mk (Ty.kind x) (Ty.n x) (Ty.nl x) l_2))) none (0) (encL (Ty.l (cleanT (Ty.mk (Ty.kind x) (Ty.n x) (Ty.nl x) l_2))))]) = e ∧ encM es_1 = encM es ∧ c = c ∧ 74 = 74 ∧
 SubR [AV.map (0)] [AV.map (0)] (24 = 24 ∧ 24 = 24 ∧ 3 = 3 ∧ AV.int IntKind.i64 (IntKind.wrap IntKind.i64 (left - ((0 : Int) + iC (cnt (Ty.mk (Ty.kind x) (Ty.n x) (Ty.nl x) l_1))))) = AV.int IntKind.i64 left' ∧ 145 = 145 ∧ SubR [AV.fn (Fn.func (118)) [] [AV.ptr (1) (0), AV.ptr (4) (0), AV.ptr (5) (0)]] [AV.fn (Fn.func (118)) [] [AV.ptr (1) (0), AV.ptr (4) (0), AV.ptr (5) (0)]] (0 = 0 ∧ True))))))))) (bothR (!decide ((0 : Int) ≤ IntKind.wrap IntKind.i64 (left - (1 : Int)))) (AEnd.panicked [(AV.iface (117) (AV.agg [AV.int IntKind.i64 (9)]), false)] = e ∧ encM es = encM es ∧ c = c ∧ 74 = 74 ∧
 SubR [AV.map (0)] [AV.map (0)] (24 = 24 ∧ 24 = 24 ∧ 3 = 3 ∧ AV.int IntKind.i64 (IntKind.wrap IntKind.i64 (left - (1 : Int))) = AV.int IntKind.i64 left' ∧ 145 = 145 ∧ SubR [AV.fn (Fn.func (118)) [] [AV.ptr (1) (0), AV.ptr (4) (0), AV.ptr (5) (0)]] [AV.fn (Fn.func (118)) [] [AV.ptr (1) (0), AV.ptr (4) (0), AV.ptr (5) (0)]] (0 = 0 ∧ True))) (∃ l, encL (Ty.l t) = encL l ∧ ∃ es_1, encM es = encM es_1 ∧ ∃ l_1, encL (Ty.l t) = encL l_1 ∧ (SizeOf.sizeOf l < N ∧ (List.length l ≤ 2 ∧ okL l = true) ∧
 okMs es_1 ∧ 0 ≤ IntKind.wrap IntKind.i64 (left - (1 : Int)) ∧ IntKind.wrap IntKind.i64 (left - (1 : Int)) ≤ 1000) ∧ encM es = encM es_1 ∧ c = c ∧ 74 = 74 ∧ SubR [AV.map (0)] [AV.map (0)] (24 = 24 ∧ 24 = 24 ∧ 3 = 3 ∧ AV.int IntKind.i64 (IntKind.wrap IntKind.i64 (left - (1 : Int))) = AV.int IntKind.i64 (IntKind.wrap IntKind.i64 (left - (1 : Int))) ∧ 145 = 145 ∧ SubR [AV.fn (Fn.func (118)) [] [AV.ptr (1) (0), AV.ptr (4) (0), AV.ptr (5) (0)]] [AV.fn (Fn.func (118)) [] [AV.ptr (1) (0), AV.ptr (4) (0), AV.ptr (5) (0)]] (24 = 24 ∧ AV.int IntKind.i64 (Ty.kind t) = AV.int IntKind.i64 (Ty.kind t) ∧
 AV.int IntKind.i64 (Ty.n t) = AV.int IntKind.i64 (Ty.n t) ∧ AV.isl (Ty.nl t) none (0) (encL (Ty.l t)) = AV.isl (Ty.nl t) none (0) (encL l_1) ∧ 3 = 3 ∧ AV.int IntKind.i64 d = AV.int IntKind.i64 d ∧ 0 = 0 ∧ bothR (fitsL es_1 l (IntKind.wrap IntKind.i64 (left - (1 : Int)))) (AV.ptr (6) (0) = AV.ptr (6) (0) ∧ AV.int IntKind.i64 (Ty.kind t) = AV.int IntKind.i64 (Ty.kind t) ∧ AV.ptr (6) (1) = AV.ptr (6) (1) ∧ AV.int IntKind.i64 (Ty.n t) = AV.int IntKind.i64 (Ty.n t) ∧ AEnd.returned (AV.agg [AV.int IntKind.i64 (Ty.kind t), AV.int IntKind.i64 (Ty.n t), AV.isl (nilB l) none (0) (encL (pwL es_1 l))]) =
 e ∧ encM es_1 = encM es ∧ c = c ∧ 74 = 74 ∧ SubR [AV.map (0)] [AV.map (0)] (24 = 24 ∧ 24 = 24 ∧ 3 = 3 ∧ AV.int IntKind.i64 (IntKind.wrap IntKind.i64 (left - (1 : Int)) - iC (cntL (pwL es_1 l))) = AV.int IntKind.i64 left' ∧ 145 = 145 ∧ SubR [AV.fn (Fn.func (118)) [] [AV.ptr (1) (0), AV.ptr (4) (0), AV.ptr (5) (0)]] [AV.fn (Fn.func (118)) [] [AV.ptr (1) (0), AV.ptr (4) (0), AV.ptr (5) (0)]] (0 = 0 ∧ True))) (AEnd.panicked [(AV.iface (117) (AV.agg [AV.int IntKind.i64 (9)]), false)] = e ∧ encM es_1 = encM es ∧ c = c ∧ 74 = 74 ∧ SubR [AV.map (0)] [AV.map (0)] (24 = 24 ∧ 24 = 24 ∧ 3 = 3 ∧
 AV.int IntKind.i64 (pwFL es_1 l (IntKind.wrap IntKind.i64 (left - (1 : Int)))) = AV.int IntKind.i64 left' ∧ 145 = 145 ∧ SubR [AV.fn (Fn.func (118)) [] [AV.ptr (1) (0), AV.ptr (4) (0), AV.ptr (5) (0)]] [AV.fn (Fn.func (118)) [] [AV.ptr (1) (0), AV.ptr (4) (0), AV.ptr (5) (0)]] (0 = 0 ∧ True)))))))) := by kernel_rfl

theorem ptg_top (es : List (Int × Ty × Nat)) (c : Nat) (t : Ty) (e : AEnd) : (runF ptHkG 60 83 [.map 0, encD t] (mapA es c) (hpIs 0 e (mapA es c))) = ( ∃ l, encL (Ty.l t) = encL l ∧ okT (Ty.mk (Ty.kind t) (Ty.n t) (Ty.nl t) l) = true ∧ ∃ l_1, encL (Ty.l (cleanT (Ty.mk (Ty.kind t) (Ty.n t) (Ty.nl t) l))) = encL l_1 ∧ ∃ es_1, encM es = encM es_1 ∧ (okT (Ty.mk (Ty.kind (cleanT (Ty.mk (Ty.kind t) (Ty.n t) (Ty.nl t) l))) (Ty.n (cleanT (Ty.mk (Ty.kind t) (Ty.n t) (Ty.nl t) l))) (Ty.nl (cleanT (Ty.mk (Ty.kind t) (Ty.n t) (Ty.nl t) l))) l_1) = true ∧ okMs es_1 ∧ Int.NonNeg (60) ∧ Int.NonNeg (940)) ∧
 encM es = encM es_1 ∧ c = c ∧ 74 = 74 ∧ SubR [AV.map (0)] [AV.map (0)] (24 = 24 ∧ 24 = 24 ∧ 3 = 3 ∧ SubR [AV.int IntKind.i64 (60)] [AV.int IntKind.i64 (60)] (145 = 145 ∧ SubR [AV.fn (Fn.func (118)) [] [AV.ptr (1) (0), AV.ptr (4) (0), AV.ptr (5) (0)]] [AV.fn (Fn.func (118)) [] [AV.ptr (1) (0), AV.ptr (4) (0), AV.ptr (5) (0)]] (0 = 0 ∧ bothR (fitsB es_1 (Ty.mk (Ty.kind (cleanT (Ty.mk (Ty.kind t) (Ty.n t) (Ty.nl t) l))) (Ty.n (cleanT (Ty.mk (Ty.kind t) (Ty.n t) (Ty.nl t) l))) (Ty.nl (cleanT (Ty.mk (Ty.kind t) (Ty.n t) (Ty.nl t) l))) l_1) ((60 : Int))) (∃ l_2, encL (Ty.l (pwT es_1
 (Ty.mk (Ty.kind (cleanT (Ty.mk (Ty.kind t) (Ty.n t) (Ty.nl t) l))) (Ty.n (cleanT (Ty.mk (Ty.kind t) (Ty.n t) (Ty.nl t) l))) (Ty.nl (cleanT (Ty.mk (Ty.kind t) (Ty.n t) (Ty.nl t) l))) l_1))) = encL l_2 ∧ cnt (Ty.mk (Ty.kind (pwT es_1 (Ty.mk (Ty.kind (cleanT (Ty.mk (Ty.kind t) (Ty.n t) (Ty.nl t) l))) (Ty.n (cleanT (Ty.mk (Ty.kind t) (Ty.n t) (Ty.nl t) l))) (Ty.nl (cleanT (Ty.mk (Ty.kind t) (Ty.n t) (Ty.nl t) l))) l_1))) (Ty.n (pwT es_1 (Ty.mk (Ty.kind (cleanT (Ty.mk (Ty.kind t) (Ty.n t) (Ty.nl t) l))) (Ty.n (cleanT (Ty.mk (Ty.kind t) (Ty.n t) (Ty.nl t) l)))
 (Ty.nl (cleanT (Ty.mk (Ty.kind t) (Ty.n t) (Ty.nl t) l))) l_1))) (Ty.nl (pwT es_1 (Ty.mk (Ty.kind (cleanT (Ty.mk (Ty.kind t) (Ty.n t) (Ty.nl t) l))) (Ty.n (cleanT (Ty.mk (Ty.kind t) (Ty.n t) (Ty.nl t) l))) (Ty.nl (cleanT (Ty.mk (Ty.kind t) (Ty.n t) (Ty.nl t) l))) l_1))) l_2) ≤ 1000 ∧ bothR (!validB (Ty.mk (Ty.kind (pwT es_1 (Ty.mk (Ty.kind (cleanT (Ty.mk (Ty.kind t) (Ty.n t) (Ty.nl t) l))) (Ty.n (cleanT (Ty.mk (Ty.kind t) (Ty.n t) (Ty.nl t) l))) (Ty.nl (cleanT (Ty.mk (Ty.kind t) (Ty.n t) (Ty.nl t) l))) l_1))) (Ty.n (pwT es_1 (Ty.mk (Ty.kind (cleanT (Ty.mk (Ty.kind t) (Ty.n t) (Ty.nl t) l)))
 (Ty.n (cleanT (Ty.mk (Ty.kind t) (Ty.n t) (Ty.nl t) l))) (Ty.nl (cleanT (Ty.mk (Ty.kind t) (Ty.n t) (Ty.nl t) l))) l_1))) (Ty.nl (pwT es_1 (Ty.mk (Ty.kind (cleanT (Ty.mk (Ty.kind t) (Ty.n t) (Ty.nl t) l))) (Ty.n (cleanT (Ty.mk (Ty.kind t) (Ty.n t) (Ty.nl t) l))) (Ty.nl (cleanT (Ty.mk (Ty.kind t) (Ty.n t) (Ty.nl t) l))) l_1))) l_2)) (AEnd.panicked [(AV.iface (117) (AV.agg [AV.int IntKind.i64 (9)]), false)] = e ∧ encM es_1 = encM es ∧ c = c ∧ 0 = 0 ∧ True) (AEnd.returned (AV.agg [AV.int IntKind.i64 (Ty.kind (pwT es_1 (Ty.mk (Ty.kind (cleanT (Ty.mk (Ty.kind t) (Ty.n t) (Ty.nl t) l)))
 (Ty.n (cleanT (Ty.mk (Ty.kind t) (Ty.n t) (Ty.nl t) l))) (Ty.nl (cleanT (Ty.mk (Ty.kind t) (Ty.n t) (Ty.nl t) l))) l_1))), AV.int IntKind.i64 (Ty.n (pwT es_1 (Ty.mk (Ty.kind (cleanT (Ty.mk (Ty.kind t) (Ty.n t) (Ty.nl t) l))) (Ty.n (cleanT (Ty.mk (Ty.kind t) (Ty.n t) (Ty.nl t) l))) (Ty.nl (cleanT (Ty.mk (Ty.kind t) (Ty.n t) (Ty.nl t) l))) l_1))), AV.isl (Ty.nl (pwT es_1 (Ty.mk (Ty.kind (cleanT (Ty.mk (Ty.kind t) (Ty.n t) (Ty.nl t) l))) (Ty.n (cleanT (Ty.mk (Ty.kind t) (Ty.n t) (Ty.nl t) l))) (Ty.nl (cleanT (Ty.mk (Ty.kind t) (Ty.n t) (Ty.nl t) l))) l_1))) none (0) (encL (Ty.l (pwT es_1
 (Ty.mk (Ty.kind (cleanT (Ty.mk (Ty.kind t) (Ty.n t) (Ty.nl t) l))) (Ty.n (cleanT (Ty.mk (Ty.kind t) (Ty.n t) (Ty.nl t) l))) (Ty.nl (cleanT (Ty.mk (Ty.kind t) (Ty.n t) (Ty.nl t) l))) l_1))))]) = e ∧ encM es_1 = encM es ∧ c = c ∧ 0 = 0 ∧ True)) (AEnd.panicked [(AV.iface (117) (AV.agg [AV.int IntKind.i64 (9)]), false)] = e ∧ encM es_1 = encM es ∧ c = c ∧ 0 = 0 ∧ True))))) := by kernel_rfl

end Go.Proofs.YtnmolpkkemljoaaGreatDoor
end
end

section
set_option maxRecDepth 100000
set_option linter.unusedSimpArgs false
set_option linter.unusedVariables false
noncomputable section
namespace Go.Proofs.YtnmolpkkemljoaaGreatDoor
open Go Go.Am Kd

def pwEnd (es : List (Int × Ty × Nat)) (t : Ty) (r : Int) : AEnd := match fitsB es t r with | true => .returned (encD (pwT es t)) | false => .panicked (stopC 9)
def pmEnd (es : List (Int × Ty × Nat)) (l : List Ty) (r : Int) : AEnd := match fitsL es l r with | true => .returned (.isl (nilB l) none 0 (encL (pwL es l))) | false => .panicked (stopC 9)
def PWalkG (es : List (Int × Ty × Nat)) (c : Nat) (left d : Int) (t : Ty) : Prop := FJ 118 [enc t, .int .i64 d, .ptr 1 0, .ptr 4 0, .ptr 5 0] (pwA es c left) (hpIs 0 (pwEnd es t left) (pwA es c (pwF es t left)))
def PMapG (es : List (Int × Ty × Nat)) (c : Nat) (left d : Int) (u : Ty) (b : Bool) (l : List Ty) : Prop :=
  FJ 103 [.isl b none 0 (encL l), .fn (.func 119) [] [.ptr 5 0, .ptr 7 0]] (pwM es c left d u) (hpIs 0 (pmEnd es l left) (pwM es c (pwFL es l left) d u))

theorem stop_bnd (n nf : Nat) (e : Int) : AEnd.bnd n nf (.panicked (stopC e)) = true := rfl

theorem pwalkG_hook {N : Nat} (ih : ∀ (es : List (Int × Ty × Nat)) (c : Nat) (left d : Int) (t : Ty), SizeOf.sizeOf t < N → okT t = true → okMs es → 0 ≤ left → left ≤ 1000 → PWalkG es c left d t) : HSpec.Ok Tryz.prog g0 118 (pwalkG N) := by
  intro args A K h'
  unfold pwalkG at h'
  split at h'
  · obtain ⟨t, rfl, h⟩ := argTy_elim h'
    obtain ⟨es, c, left, ⟨h1, h2, h3, h4, h5⟩, h⟩ := argPw_elim h
    have hj := fun d => ih es c left d t h1 h2 h3 h4 h5
    simp only [PWalkG, pwEnd] at hj
    cases hf : fitsB es t left with
    | true =>
      simp only [hf, (pwF_fit es).1 t left hf] at h hj
      obtain ⟨hK, hr⟩ := FuncJ.on (n := 6) h (hj _) (pwA_ok ..) (pwA_ok ..) (by simp [AV.bndL, AV.bnd, AV.still_bnd, enc_still]) (by simp [AEnd.bnd, AV.still_bnd, encD_still])
      exact ⟨_, hr, hK⟩
    | false =>
      simp only [hf] at h hj
      obtain ⟨hK, hr⟩ := FuncJ.on (n := 6) h (hj _) (pwA_ok ..) (pwA_ok ..) (by simp [AV.bndL, AV.bnd, AV.still_bnd, enc_still]) (stop_bnd ..)
      exact ⟨_, hr, hK⟩
  · exact h'.elim
theorem pmapG_hook {N : Nat} (ih : ∀ (es : List (Int × Ty × Nat)) (c : Nat) (left d : Int) (u : Ty) (b : Bool) (l : List Ty), SizeOf.sizeOf l < N → l.length ≤ 2 → okL l = true → okMs es → 0 ≤ left → left ≤ 1000 → PMapG es c left d u b l) : HSpec.Ok Tryz.prog g0 103 (pmapG N) := by
  intro args A K h'
  unfold pmapG at h'
  split at h'
  · obtain ⟨l, rfl, h⟩ := h'
    obtain ⟨es, c, left, d, u, ⟨h1, ⟨h2, h6⟩, h3, h4, h5⟩, h⟩ := argPm_elim h
    have hj := fun b => ih es c left d u b l h1 h2 h6 h3 h4 h5
    simp only [PMapG, pmEnd] at hj
    cases hf : fitsL es l left with
    | true =>
      simp only [hf, (pwF_fit es).2 l left hf] at h hj
      obtain ⟨hK, hr⟩ := FuncJ.on (n := 8) h (hj _) (pwM_ok ..) (pwM_ok ..) (by simp [AV.bndL, AV.bnd, encL_bnd]) (by simp [AEnd.bnd, AV.bnd, encL_bnd])
      exact ⟨_, hr, hK⟩
    | false =>
      simp only [hf] at h hj
      obtain ⟨hK, hr⟩ := FuncJ.on (n := 8) h (hj _) (pwM_ok ..) (pwM_ok ..) (by simp [AV.bndL, AV.bnd, encL_bnd]) (stop_bnd ..)
      exact ⟨_, hr, hK⟩
  · exact h'.elim

theorem pmapG_ok {N : Nat} (ih : ∀ (es : List (Int × Ty × Nat)) (c : Nat) (left d : Int) (t : Ty), SizeOf.sizeOf t < N → okT t = true → okMs es → 0 ≤ left → left ≤ 1000 → PWalkG es c left d t)
    (es : List (Int × Ty × Nat)) (c : Nat) (left d : Int) (u : Ty) (b : Bool) (l : List Ty) (hN : SizeOf.sizeOf l ≤ N) (h2 : l.length ≤ 2) (ho : okL l = true) (hm : okMs es) (h0 : 0 ≤ left) (h1 : left ≤ 1000) : PMapG es c left d u b l := by
  have hh : Hooks.Ok Tryz.prog g0 (pmHkG N) := mkHooks_ok all_nil (all_cons (pwalkG_hook ih) all_nil) all_nil
  refine FuncJ.mono (K := fun o => o = ⟨pmEnd es l left, pwM es c (pwFL es l left) d u⟩) ?_ fun o ho => by subst ho; exact hpIs_self rfl
  have hok := pwM_ok es c (pwFL es l left) d u
  simp only [AH.ok, Bool.and_eq_true, decide_eq_true_eq] at hok
  have hbe : (pmEnd es l left).bnd 8 0 = true := by
    unfold pmEnd
    split
    · simp [AEnd.bnd, AV.bnd, encL_bnd]
    · rfl
  refine FuncJ.fz (n := 8) (nf := 0) (k := 5) ?_ hok.1 hok.2.1 (Nat.le_refl _) (Nat.le_refl _) hok.2.2.1 hbe
  refine FuncJ.run (el := els) (mu := mu0) (hk := pmHkG N) hmix hh (n := 60) ?_
  match l, h2, ho, hN with
  | [], _, _, _ =>
    show runF (pmHkG N) 60 103 [.isl b none 0 [], .fn (.func 119) [] [.ptr 5 0, .ptr 7 0]] (pwM es c left d u) _
    rw [pg_top0]
    have hf : fitsL es [] left = true := by simp [fitsL, pwL, cntL, h0]
    simp only [eq_self, true_and, and_true, SubR_id, ex_encM, ex_enc, Ty.eta]
    refine ⟨by unfold pmEnd; rw [hf]; rfl, by simp [pwFL]⟩
  | [x], _, ho, hN =>
    have e : encL [x] = [encD x] := by simp only [encL, enc_D]
    rw [e]
    show runF (pmHkG N) 60 103 [.isl b none 0 [encD x], .fn (.func 119) [] [.ptr 5 0, .ptr 7 0]] (pwM es c left d u) _
    rw [pg_top1]
    simp only [List.cons.sizeOf_spec] at hN
    have hfl : fitsL es [x] left = fitsB es x left := by simp [fitsL, fitsB, pwL, cntL]
    simp only [eq_self, true_and, and_true, SubR_id, ex_encM, ex_enc, Ty.eta, encL_sing]
    refine ⟨⟨by omega, okL_mem ho x (by simp), hm, h0, h1⟩, bothR_bool (fun hf => ?_) fun hf => ?_⟩
    · refine ⟨by unfold pmEnd; rw [hfl, hf]; rfl, ?_⟩
      simp only [pwFL, hf, if_true]
    · refine ⟨by unfold pmEnd; rw [hfl, hf]; rfl, ?_⟩
      simp only [pwFL, hf, Bool.false_eq_true, if_false]
  | [x, y], _, ho, hN =>
    have e : encL [x, y] = [encD x, encD y] := by simp only [encL, enc_D]
    rw [e]
    show runF (pmHkG N) 60 103 [.isl b none 0 [encD x, encD y], .fn (.func 119) [] [.ptr 5 0, .ptr 7 0]] (pwM es c left d u) _
    rw [pg_top2]
    simp only [List.cons.sizeOf_spec] at hN
    have e2 : ∀ u v : Ty, [AV.agg [.int .i64 u.kind, .int .i64 u.n, .isl u.nl none 0 (encL u.l)], AV.agg [.int .i64 v.kind, .int .i64 v.n, .isl v.nl none 0 (encL v.l)]] = encL [u, v] := fun u v => by
      simp only [encL, enc_D]; rfl
    simp only [eq_self, true_and, and_true, SubR_id, ex_encM, ex_enc, Ty.eta, e2, iC]
    refine ⟨⟨by omega, okL_mem ho x (by simp), hm, h0, h1⟩, bothR_bool (fun hf => ?_) fun hf => ?_⟩
    · have hx : (cnt (pwT es x) : Int) ≤ left := by simpa [fitsB] using hf
      refine ⟨⟨by omega, okL_mem ho y (by simp), hm, by omega, by omega⟩, bothR_bool (fun hg => ?_) fun hg => ?_⟩
      · have hy : (cnt (pwT es y) : Int) ≤ left - cnt (pwT es x) := by simpa [fitsB] using hg
        have hfl : fitsL es [x, y] left = true := by simp only [fitsL, pwL, cntL, decide_eq_true_eq, Int.natCast_add]; omega
        refine ⟨by unfold pmEnd; rw [hfl]; rfl, ?_⟩
        simp only [pwFL, hf, hg, if_true]
      · have hy : ¬ (cnt (pwT es y) : Int) ≤ left - cnt (pwT es x) := by simpa [fitsB] using hg
        have hfl : fitsL es [x, y] left = false := by simp only [fitsL, pwL, cntL, decide_eq_false_iff_not, Int.natCast_add]; omega
        refine ⟨by unfold pmEnd; rw [hfl]; rfl, ?_⟩
        simp only [pwFL, hf, hg, if_true, Bool.false_eq_true, if_false]
    · have hx : ¬ (cnt (pwT es x) : Int) ≤ left := by simpa [fitsB] using hf
      have hfl : fitsL es [x, y] left = false := by simp only [fitsL, pwL, cntL, decide_eq_false_iff_not, Int.natCast_add]; omega
      refine ⟨by unfold pmEnd; rw [hfl]; rfl, ?_⟩
      simp only [pwFL, hf, Bool.false_eq_true, if_false]

theorem pwalkG_ok (es : List (Int × Ty × Nat)) (c : Nat) (left d : Int) (t : Ty) (ho : okT t = true) (hm : okMs es) (h0 : 0 ≤ left) (h1 : left ≤ 1000) : PWalkG es c left d t := by
  have key : ∀ (N : Nat) (es : List (Int × Ty × Nat)) (c : Nat) (left d : Int) (t : Ty), SizeOf.sizeOf t < N → okT t = true → okMs es → 0 ≤ left → left ≤ 1000 → PWalkG es c left d t := by
    intro N
    induction N with
    | zero => intro es c left d t h; omega
    | succ N ih =>
      intro es c left d t ht ho hm h0 h1
      have hh : Hooks.Ok Tryz.prog g0 (pwHkG N) := mkHooks_ok (all_cons kcl_hook0 (all_cons parts_hook all_nil)) (all_cons cwalk_hook0 (all_cons (pmapG_hook fun es c left d u b l h1 h2 h3 h4 h5 h6 => pmapG_ok ih es c left d u b l (by omega) h2 h3 h4 h5 h6) all_nil)) all_nil
      obtain ⟨k, n, nl, ts⟩ := t
      have hol := okL_of ho
      simp only [Ty.mk.sizeOf_spec] at ht
      unfold PWalkG
      rw [enc_D]
      refine FuncJ.run (el := els) (mu := mu0) (hk := pwHkG N) hmix hh (n := 60) ?_
      show runF (pwHkG N) 60 118 [encD (.mk k n nl ts), .int .i64 d, .ptr 1 0, .ptr 4 0, .ptr 5 0] (pwA es c left) _
      rw [pwg_top]
      simp only [eq_self, true_and, and_true, SubR_id, ex_encM, ex_enc, Ty.eta, tk_mk, tn_mk, tl_mk, tb_mk, iC]
      have plain (h : ¬ (k = 6 ∧ (boundM es n).isSome = true)) : pwT es (.mk k n nl ts) = .mk k n (nilB ts) (pwL es ts) := by simp only [pwT, h, if_false]
      have plainF (h : ¬ (k = 6 ∧ (boundM es n).isSome = true)) : pwF es (.mk k n nl ts) left = if left - 1 < 0 then left - 1 else pwFL es ts (left - 1) := by simp only [pwF, h, if_false]
      have node (h : ¬ (k = 6 ∧ (boundM es n).isSome = true)) (hneg : left - 1 < 0) : AEnd.panicked (stopC 9) = pwEnd es (.mk k n nl ts) left ∧ left - 1 = pwF es (.mk k n nl ts) left := by
        have hf : fitsB es (.mk k n nl ts) left = false := by
          simp only [fitsB, plain h, cnt, decide_eq_false_iff_not, Int.natCast_add, Int.cast_ofNat_Int]; omega
        refine ⟨by unfold pwEnd; rw [hf], ?_⟩
        rw [plainF h, if_pos hneg]
      have fl (h : ¬ (k = 6 ∧ (boundM es n).isSome = true)) : fitsB es (.mk k n nl ts) left = fitsL es ts (left - 1) := by
        simp only [fitsB, fitsL, plain h, cnt, Int.natCast_add, Int.cast_ofNat_Int]
        congr 1
        exact propext ⟨fun h => by omega, fun h => by omega⟩
      cases hb : boundM es n with
      | none =>
        have hno : ¬ (k = 6 ∧ (boundM es n).isSome = true) := by rw [hb]; simp
        refine .inl ⟨keyFind_none hb 0, ?_⟩
        rw [wrap_id (by omega) (by omega)]
        refine bothR_ndec (fun h => ?_) fun h => ⟨⟨by omega, hol, hm, by omega, by omega⟩, bothR_bool (fun hf => ?_) fun hf => ?_⟩
        · obtain ⟨n1, n2⟩ := node hno (by omega)
          exact ⟨n1, by rw [n2]⟩
        · have hF := (pwF_fit es).2 ts (left - 1) hf
          refine ⟨by unfold pwEnd; rw [fl hno, hf, plain hno]; rfl, ?_⟩
          rw [plainF hno, if_neg (by omega), hF]
        · refine ⟨by unfold pwEnd; rw [fl hno, hf]; rfl, ?_⟩
          rw [plainF hno, if_neg (by omega)]
      | some u =>
        obtain ⟨j, hj⟩ := keyFind_some hb 0
        obtain ⟨x, hx, rfl⟩ := boundM_mem hb
        have hxo := hm x hx
        refine .inr ⟨j, x.2.1, hj, bothR_dec (fun h6 => ?_) fun h6 => ?_⟩
        · have hp : pwT es (.mk k n nl ts) = cleanT x.2.1 := by simp only [pwT, hb, h6, Option.isSome_some, and_self, if_true, Option.getD_some]
          have hpF : pwF es (.mk k n nl ts) left = left - cnt x.2.1 := by simp only [pwF, hb, h6, Option.isSome_some, and_self, if_true, Option.getD_some]
          refine ⟨⟨by omega, nn 0, by omega⟩, ?_⟩
          rw [wrap_id (by omega) (by omega)]
          refine bothR_ndec (fun h => ?_) fun h => ?_
          · have hf : fitsB es (.mk k n nl ts) left = false := by simp only [fitsB, hp, cnt_clean, decide_eq_false_iff_not]; omega
            refine ⟨by unfold pwEnd; rw [hf]; rfl, ?_⟩
            rw [hpF]; exact congrArg _ (by omega)
          · have hf : fitsB es (.mk k n nl ts) left = true := by simp only [fitsB, hp, cnt_clean, decide_eq_true_eq]; omega
            refine ⟨hxo.1, by unfold pwEnd; rw [hf, hp]; rfl, ?_⟩
            rw [hpF]; exact congrArg _ (by omega)
        · have hno : ¬ (k = 6 ∧ (boundM es n).isSome = true) := fun h => h6 h.1
          rw [wrap_id (by omega) (by omega)]
          refine bothR_ndec (fun h => ?_) fun h => ⟨⟨by omega, hol, hm, by omega, by omega⟩, bothR_bool (fun hf => ?_) fun hf => ?_⟩
          · obtain ⟨n1, n2⟩ := node hno (by omega)
            exact ⟨n1, by rw [n2]⟩
          · have hF := (pwF_fit es).2 ts (left - 1) hf
            refine ⟨by unfold pwEnd; rw [fl hno, hf, plain hno]; rfl, ?_⟩
            rw [plainF hno, if_neg (by omega), hF]
          · refine ⟨by unfold pwEnd; rw [fl hno, hf]; rfl, ?_⟩
            rw [plainF hno, if_neg (by omega)]
  exact key _ es c left d t (Nat.lt_succ_self _) ho hm h0 h1

theorem pwalkG_hook0 : HSpec.Ok Tryz.prog g0 118 pwalkG0 := by
  intro args A K h'
  unfold pwalkG0 at h'
  split at h'
  · obtain ⟨t, rfl, h⟩ := argTy_elim h'
    obtain ⟨es, c, left, ⟨h2, h3, h4, h5⟩, h⟩ := argPw_elim h
    have hj := fun d => pwalkG_ok es c left d t h2 h3 h4 h5
    simp only [PWalkG, pwEnd] at hj
    cases hf : fitsB es t left with
    | true =>
      simp only [hf, (pwF_fit es).1 t left hf] at h hj
      obtain ⟨hK, hr⟩ := FuncJ.on (n := 6) h (hj _) (pwA_ok ..) (pwA_ok ..) (by simp [AV.bndL, AV.bnd, AV.still_bnd, enc_still]) (by simp [AEnd.bnd, AV.still_bnd, encD_still])
      exact ⟨_, hr, hK⟩
    | false =>
      simp only [hf] at h hj
      obtain ⟨hK, hr⟩ := FuncJ.on (n := 6) h (hj _) (pwA_ok ..) (pwA_ok ..) (by simp [AV.bndL, AV.bnd, AV.still_bnd, enc_still]) (stop_bnd ..)
      exact ⟨_, hr, hK⟩
  · exact h'.elim

def putEnd (es : List (Int × Ty × Nat)) (t : Ty) : AEnd := match putB es t with | true => .returned (encD (pwT es (cleanT t))) | false => .panicked (stopC 9)

theorem putG_ok (es : List (Int × Ty × Nat)) (c : Nat) (t : Ty) (h2 : okT t = true) (h3 : okMs es) : FJ 83 [.map 0, enc t] (mapA es c) (hpIs 0 (putEnd es t) (mapA es c)) := by
  have hh : Hooks.Ok Tryz.prog g0 ptHkG := mkHooks_ok (all_cons kcl_hook0 (all_cons valid_hook all_nil)) (all_cons pwalkG_hook0 all_nil) all_nil
  rw [enc_D]
  refine FuncJ.run (el := els) (mu := mu0) (hk := ptHkG) hmix hh (n := 60) ?_
  show runF ptHkG 60 83 [.map 0, encD t] (mapA es c) _
  rw [ptg_top]
  simp only [eq_self, true_and, and_true, SubR_id, ex_encM, ex_enc, Ty.eta, iC]
  refine ⟨h2, ⟨ok_clean t h2, h3, nn 60, nn 940⟩, bothR_bool (fun hf => ?_) fun hf => ?_⟩
  · have hc : (cnt (pwT es (cleanT t)) : Int) ≤ 60 := by simpa [fitsB] using hf
    refine ⟨by omega, bothR_nbool (fun hv => ?_) fun hv => ?_⟩
    · unfold putEnd putB; rw [hf, hv]; rfl
    · unfold putEnd putB; rw [hf, hv]; rfl
  · unfold putEnd putB; rw [hf]; rfl

theorem putG_hook : HSpec.Ok Tryz.prog g0 83 putG := by
  intro args A K h'
  unfold putG at h'
  split at h'
  · obtain ⟨t, rfl, h⟩ := argTy_elim h'
    split at h
    · rename_i b t' m c hb
      obtain ⟨es, rfl, ⟨hp, hm⟩, hK⟩ := h
      rw [nthR_eq] at hb
      have hj := putG_ok es c t hp hm
      unfold putEnd at hj
      cases hf : putB es t with
      | true =>
        rw [hf] at hK hj
        have hr := FuncJ.one (A := A) (b := b) (x' := .map (encM es) c) hj (by simp [AV.stillL, enc_still]) (by simp [ABlk.bnd, encM_bnd]) (by simp [ABlk.bnd, encM_bnd]) (by simp [ABlk.bnd, encM_bnd]) (by simp [AEnd.bnd, AV.still_bnd, encD_still]) (by simp) (by simp) hb
        exact ⟨_, hr, hK⟩
      | false =>
        rw [hf] at hK hj
        have hr := FuncJ.one (A := A) (b := b) (x' := .map (encM es) c) hj (by simp [AV.stillL, enc_still]) (by simp [ABlk.bnd, encM_bnd]) (by simp [ABlk.bnd, encM_bnd]) (by simp [ABlk.bnd, encM_bnd]) (stop_bnd ..) (by simp) (by simp) hb
        exact ⟨_, hr, hK⟩
    · exact h.elim
  · exact h'.elim

end Go.Proofs.YtnmolpkkemljoaaGreatDoor
end
end

section
namespace Kd
open Go.Am Go.Proofs.YtnmolpkkemljoaaGreatDoor
def okB1 (x : Int × Ty) : Bool := (decide (0 ≤ x.1) && decide (x.1 ≤ 999)) && validB x.2
def hasV (pre : List (Int × Ty)) (n : Int) : Bool := pre.any fun y => decide (y.1 = n)
def bindsG : List (Int × Ty) → List (Int × Ty) → Bool
  | _, [] => true
  | pre, x :: l => (okB1 x && !hasV pre x.1) && bindsG (pre ++ [x]) l
def bindsB (l : List (Int × Ty)) : Bool := bindsG [] l
/-- How many are valid, one after the other. -/
def goodN : List (Int × Ty) → List (Int × Ty) → Nat
  | _, [] => 0
  | pre, x :: l => if (okB1 x && !hasV pre x.1) = true then goodN (pre ++ [x]) l + 1 else 0
def bindM : List (Int × Ty) → Nat → List (Int × Ty × Nat)
  | [], _ => []
  | x :: l, i => (x.1, x.2, i) :: bindM l (i + 1)
def manyG : List (Int × Ty) → Bool
  | [] => false
  | x :: l => greatB x.2 || manyG l
def manyB (l : List (Int × Ty)) : Bool := manyG l || decide (30 < l.length)
def varAt (l : List (Int × Ty)) (j : Nat) : Int := ((l[j]?).map (·.1)).getD 0
end Kd
noncomputable section
namespace Go.Proofs.YtnmolpkkemljoaaGreatDoor
open Go Go.Am Kd

def bkSt (b : Bool) (l : List (Int × Ty)) (j : Nat) : LSt Nat Bool where
  n := 0
  nf := 0
  rd := none
  fr x := frm 43 [(0, .isl b none 0 (encB l)), (3, .int .i64 j), (4, .int .i64 x)]
  hp _ := AH.nil
  inv x := x ≤ j ∧ j < l.length ∧ l.length ≤ 2000
  res x := hasV ((l.take j).drop x) (varAt l j)
  sel r := r
  out b' _ := match b' with
    | true => ⟨.ret, frm 43 [(2, .bool false)], AH.nil⟩
    | false => ⟨.exit 2, frm 43 [(0, .isl b none 0 (encB l)), (3, .int .i64 j)], AH.nil⟩
def biSt (b : Bool) (l : List (Int × Ty)) : LSt Nat Bool where
  n := 0
  nf := 0
  rd := none
  fr x := frm 43 [(0, .isl b none 0 (encB l)), (3, .int .i64 x)]
  hp _ := AH.nil
  inv x := x ≤ l.length ∧ l.length ≤ 2000 ∧ allC l
  res x := bindsG (l.take x) (l.drop x)
  sel r := r
  out b' _ := match b' with
    | true => ⟨.exit 0, frm 43 [], AH.nil⟩
    | false => ⟨.ret, frm 43 [(2, .bool false)], AH.nil⟩
def biHk (b : Bool) (l : List (Int × Ty)) (j : Nat) : Hooks := hooks [(60, typeQ), (101, inQ)] [] [(7, ⟨62, 1, (bkSt b l j).spec⟩)]
def biHk' (b : Bool) (l : List (Int × Ty)) : Hooks := hooks [] [] [(2, ⟨62, 0, (biSt b l).spec⟩)]
def bindsQ : QSpec
  | [l], K => argBinds l fun _ l => (l.length ≤ 2000 ∧ allC l) ∧ K (.bool (bindsB l))
  | _, _ => False

def mySt (b : Bool) (l : List (Int × Ty)) : LSt Nat Bool where
  n := 0
  nf := 0
  rd := none
  fr x := frm 19 [(0, .isl b none 0 (encB l)), (5, .isl b none 0 (encB l)), (6, .int .i64 (encB l).length), (7, .int .i64 x)]
  hp _ := AH.nil
  inv x := x ≤ l.length ∧ l.length ≤ 9223372036854775807
  res x := manyG (l.drop x)
  sel r := r
  out b' _ := match b' with
    | true => ⟨.ret, frm 19 [(2, .bool true)], AH.nil⟩
    | false => ⟨.exit 0, frm 19 [(0, .isl b none 0 (encB l))], AH.nil⟩
def myHk : Hooks := hooks [(14, weakQ 3 greatQ)] [] []
def myHk' (b : Bool) (l : List (Int × Ty)) : Hooks := hooks [] [] [(2, ⟨33, 0, (mySt b l).spec⟩)]
def manyQ : QSpec
  | [l], K => argBinds l fun _ l => (l.length ≤ 9223372036854775807) ∧ K (.bool (manyB l))
  | _, _ => False

def ppFr (ix : List (Nat × AV)) : AAct := ⟨(frm 57 ([(4, .ptr 1 0), (5, .ptr 2 0)] ++ ix)).tmps, [.fn (.func 82) [] [.ptr 2 0]]⟩
def ppH (t : Ty) (es : List (Int × Ty × Nat)) (c : Nat) : AH := ⟨[tyC t, .cells [.int .i64 0, .int .i64 0, .isl true none 0 []] 24, .cells [.int .i64 0] 28, top3, .map (encM es) c], [(1, 3)]⟩
def ppSt (t : Ty) (b : Bool) (l : List (Int × Ty)) : LSt Nat (Bool × Nat) where
  n := 5
  nf := 1
  rd := none
  fr x := ppFr [(3, .ptr 0 0), (6, .map 4), (16, .map 4), (17, .isl b none 0 (encB l)), (18, .int .i64 (encB l).length), (19, .int .i64 x)]
  hp x := ppH t (bindM (l.take x) 0) x
  inv x := x ≤ l.length ∧ l.length ≤ 2000 ∧ allC l
  res x := (bindsG (l.take x) (l.drop x), x + goodN (l.take x) (l.drop x))
  sel r := r.1
  out b' r := match b' with
    | true => ⟨.exit 0, ppFr [(3, .ptr 0 0), (6, .map 4)], ppH t (bindM (l.take r.2) 0) r.2⟩
    | false => ⟨.panic (stopC 1), ppFr [], ppH t (bindM (l.take r.2) 0) r.2⟩
def ppHk : Hooks := hooks [(76, validQ)] [] []
def ppHk' (t : Ty) (b : Bool) (l : List (Int × Ty)) : Hooks := mkHooks Tryz.prog [(76, validQ)] [(83, putG)] [(5, ⟨34, 0, (ppSt t b l).spec⟩)]

end Go.Proofs.YtnmolpkkemljoaaGreatDoor
end
end

section
noncomputable section
namespace Go.Proofs.YtnmolpkkemljoaaGreatDoor
open Go Go.Am Kd
set_option maxRecDepth 100000

theorem bk_loop (b : Bool) (l : List (Int × Ty)) (j : Nat) (meas : Nat → Nat) (x : Nat) : (runL hk0 60 62 1 (bkSt b l j) meas x) = ( bothR (decide (iC x < iC j)) (0 ≤ iC x ∧ ∃ x_1, (encB l)[Int.toNat (iC x)]? = some (AV.agg [AV.int IntKind.i64 (Prod.fst x_1), AV.int IntKind.i64 (Ty.kind (Prod.snd x_1)), AV.int IntKind.i64 (Ty.n (Prod.snd x_1)), AV.isl (Ty.nl (Prod.snd x_1)) none (0) (encL (Ty.l (Prod.snd x_1)))]) ∧ 0 ≤ iC j ∧ ∃ x_2, (encB l)[Int.toNat (iC j)]? = some (AV.agg
 [AV.int IntKind.i64 (Prod.fst x_2), AV.int IntKind.i64 (Ty.kind (Prod.snd x_2)), AV.int IntKind.i64 (Ty.n (Prod.snd x_2)), AV.isl (Ty.nl (Prod.snd x_2)) none (0) (encL (Ty.l (Prod.snd x_2)))]) ∧ bothR (decide (Prod.fst x_1 = Prod.fst x_2)) (hasV (List.drop x (List.take j l)) (varAt l j) = true ∧ AV.bool false = AV.bool false ∧ 0 = 0 ∧ True) (∃ y, (y ≤ j ∧ j < List.length l ∧ List.length l ≤ 2000) ∧ meas y < meas x ∧ hasV (List.drop y (List.take j l)) (varAt l j) = hasV (List.drop x (List.take j l)) (varAt l j) ∧ AV.isl b none (0) (encB l) = AV.isl b none (0) (encB l) ∧
 AV.int IntKind.i64 (iC j) = AV.int IntKind.i64 (iC j) ∧ AV.int IntKind.i64 (IntKind.wrap IntKind.i64 (iC x + (1 : Int))) = AV.int IntKind.i64 (iC y) ∧ 0 = 0 ∧ True)) (hasV (List.drop x (List.take j l)) (varAt l j) = false ∧ AV.isl b none (0) (encB l) = AV.isl b none (0) (encB l) ∧ AV.int IntKind.i64 (iC j) = AV.int IntKind.i64 (iC j) ∧ 0 = 0 ∧ True)) := by kernel_rfl

theorem bi_loop (b : Bool) (l : List (Int × Ty)) (meas : Nat → Nat) (x : Nat) : (runL (biHk b l x) 60 62 0 (biSt b l) meas x) = ( bothR (decide (iC x < iC (List.length (encB l)))) (0 ≤ iC x ∧ ∃ x_1, (encB l)[Int.toNat (iC x)]? = some (AV.agg [AV.int IntKind.i64 (Prod.fst x_1), AV.int IntKind.i64 (Ty.kind (Prod.snd x_1)), AV.int IntKind.i64 (Ty.n (Prod.snd x_1)), AV.isl (Ty.nl (Prod.snd x_1)) none (0) (encL (Ty.l (Prod.snd x_1)))]) ∧ bothR (!(decide ((0 : Int) ≤ Prod.fst x_1) && decide (Prod.fst x_1 ≤ (999 : Int))))
 (bindsG (List.take x l) (List.drop x l) = false ∧ AV.bool false = AV.bool false ∧ 0 = 0 ∧ True) (0 ≤ iC x ∧ ∃ x_2, (encB l)[Int.toNat (iC x)]? = some (AV.agg [AV.int IntKind.i64 (Prod.fst x_2), AV.int IntKind.i64 (Ty.kind (Prod.snd x_2)), AV.int IntKind.i64 (Ty.n (Prod.snd x_2)), AV.isl (Ty.nl (Prod.snd x_2)) none (0) (encL (Ty.l (Prod.snd x_2)))]) ∧ ∃ l_1, encL (Ty.l (Prod.snd x_2)) = encL l_1 ∧ cnt (Ty.mk (Ty.kind (Prod.snd x_2)) (Ty.n (Prod.snd x_2)) (Ty.nl (Prod.snd x_2)) l_1) ≤ 1000 ∧ bothR (!validB (Ty.mk (Ty.kind (Prod.snd x_2)) (Ty.n (Prod.snd x_2)) (Ty.nl (Prod.snd x_2)) l_1))
 (bindsG (List.take x l) (List.drop x l) = false ∧ AV.bool false = AV.bool false ∧ 0 = 0 ∧ True) (codeIs (loopOf Tryz.prog 62 1) Tryz.prog 62 1 (∃ x_3, (x_3 ≤ x ∧ x < List.length l ∧ List.length l ≤ 2000) ∧ AV.isl b none (0) (encB l) = AV.isl b none (0) (encB l) ∧ AV.int IntKind.i64 (iC x) = AV.int IntKind.i64 (iC x) ∧ AV.int IntKind.i64 (0) = AV.int IntKind.i64 (iC x_3) ∧ 0 = 0 ∧ bothR (hasV (List.drop x_3 (List.take x l)) (varAt l x)) (bindsG (List.take x l) (List.drop x l) = false ∧ AV.bool false = AV.bool false ∧ 0 = 0 ∧ True) (∃ y, (y ≤ List.length l ∧ List.length l ≤ 2000 ∧ allC l) ∧
 meas y < meas x ∧ bindsG (List.take y l) (List.drop y l) = bindsG (List.take x l) (List.drop x l) ∧ AV.isl b none (0) (encB l) = AV.isl b none (0) (encB l) ∧ AV.int IntKind.i64 (IntKind.wrap IntKind.i64 (iC x + (1 : Int))) = AV.int IntKind.i64 (iC y) ∧ 0 = 0 ∧ True))))) (bindsG (List.take x l) (List.drop x l) = true ∧ 0 = 0 ∧ True)) := by kernel_rfl

theorem bi_top (b : Bool) (l : List (Int × Ty)) (r : Bool) : (runF (biHk' b l) 60 62 [.isl b none 0 (encB l)] AH.nil (retIs Tryz.prog 5 (.bool r))) = ( codeIs (loopOf Tryz.prog 62 0) Tryz.prog 62 0 (∃ x, (x ≤ List.length l ∧ List.length l ≤ 2000 ∧ allC l) ∧ AV.isl b none (0) (encB l) = AV.isl b none (0) (encB l) ∧ AV.int IntKind.i64 (0) = AV.int IntKind.i64 (iC x) ∧ 0 = 0 ∧ bothR (bindsG (List.take x l) (List.drop x l)) (AV.bool true = AV.bool r) (AV.bool false = AV.bool r))) := by kernel_rfl

theorem my_loop (b : Bool) (l : List (Int × Ty)) (meas : Nat → Nat) (x : Nat) : (runL myHk 60 33 0 (mySt b l) meas x) = ( bothR (decide (iC x < iC (List.length (encB l)))) (0 ≤ iC x ∧ ∃ x_1, (encB l)[Int.toNat (iC x)]? = some (AV.agg [AV.int IntKind.i64 (Prod.fst x_1), AV.int IntKind.i64 (Ty.kind (Prod.snd x_1)), AV.int IntKind.i64 (Ty.n (Prod.snd x_1)), AV.isl (Ty.nl (Prod.snd x_1)) none (0) (encL (Ty.l (Prod.snd x_1)))]) ∧ ∃ l_1, encL (Ty.l (Prod.snd x_1)) = encL l_1 ∧ bothR (greatB (Ty.mk (Ty.kind (Prod.snd x_1)) (Ty.n (Prod.snd x_1)) (Ty.nl (Prod.snd x_1)) l_1))
 (manyG (List.drop x l) = true ∧ AV.bool true = AV.bool true ∧ 0 = 0 ∧ True) (∃ y, (y ≤ List.length l ∧ List.length l ≤ 9223372036854775807) ∧ meas y < meas x ∧ manyG (List.drop y l) = manyG (List.drop x l) ∧ AV.isl b none (0) (encB l) = AV.isl b none (0) (encB l) ∧ AV.isl b none (0) (encB l) = AV.isl b none (0) (encB l) ∧ AV.int IntKind.i64 (iC (List.length (encB l))) = AV.int IntKind.i64 (iC (List.length (encB l))) ∧ AV.int IntKind.i64 (IntKind.wrap IntKind.i64 (iC x + (1 : Int))) = AV.int IntKind.i64 (iC y) ∧ 0 = 0 ∧ True))
 (manyG (List.drop x l) = false ∧ AV.isl b none (0) (encB l) = AV.isl b none (0) (encB l) ∧ 0 = 0 ∧ True)) := by kernel_rfl

theorem my_top (b : Bool) (l : List (Int × Ty)) (r : Bool) : (runF (myHk' b l) 60 33 [.isl b none 0 (encB l)] AH.nil (retIs Tryz.prog 5 (.bool r))) = ( codeIs (loopOf Tryz.prog 33 0) Tryz.prog 33 0 (∃ x, (x ≤ List.length l ∧ List.length l ≤ 9223372036854775807) ∧ AV.isl b none (0) (encB l) = AV.isl b none (0) (encB l) ∧ AV.isl b none (0) (encB l) = AV.isl b none (0) (encB l) ∧ AV.int IntKind.i64 (iC (List.length (encB l))) = AV.int IntKind.i64 (iC (List.length (encB l))) ∧ AV.int IntKind.i64 (0) = AV.int IntKind.i64 (iC x) ∧ 0 = 0 ∧
 bothR (manyG (List.drop x l)) (AV.bool true = AV.bool r) (AV.bool (decide ((30 : Int) < iC (List.length (encB l)))) = AV.bool r))) := by kernel_rfl

theorem pp_loop (t : Ty) (b : Bool) (l : List (Int × Ty)) (meas : Nat → Nat) (x : Nat) : (runL ppHk 60 34 0 (ppSt t b l) meas x) = ( bothR (decide (iC x < iC (List.length (encB l)))) (0 ≤ iC x ∧ ∃ x_1, (encB l)[Int.toNat (iC x)]? = some (AV.agg [AV.int IntKind.i64 (Prod.fst x_1), AV.int IntKind.i64 (Ty.kind (Prod.snd x_1)), AV.int IntKind.i64 (Ty.n (Prod.snd x_1)), AV.isl (Ty.nl (Prod.snd x_1)) none (0) (encL (Ty.l (Prod.snd x_1)))]) ∧ (keyFind (AV.int IntKind.i64 (Prod.fst x_1)) (encM (Kd.bindM (List.take x l) 0)) 0 = some none ∧ bothR (decide ((0 : Int) ≤ Prod.fst x_1))
 (bothR (decide (Prod.fst x_1 < (1000 : Int))) (Int.NonNeg (0) ∧ ∃ x_2, some (AV.agg [AV.int IntKind.i64 (Ty.kind (Prod.snd x_1)), AV.int IntKind.i64 (Ty.n (Prod.snd x_1)), AV.isl (Ty.nl (Prod.snd x_1)) none (0) (encL (Ty.l (Prod.snd x_1)))]) = some (AV.agg [AV.int IntKind.i64 (Ty.kind x_2), AV.int IntKind.i64 (Ty.n x_2), AV.isl (Ty.nl x_2) none (0) (encL (Ty.l x_2))]) ∧ ∃ l_1, encL (Ty.l x_2) = encL l_1 ∧ cnt (Ty.mk (Ty.kind x_2) (Ty.n x_2) (Ty.nl x_2) l_1) ≤ 1000 ∧ bothR (!validB (Ty.mk (Ty.kind x_2) (Ty.n x_2) (Ty.nl x_2) l_1)) (([(AV.iface (117) (AV.agg [AV.int IntKind.i64 (1)]), false)] =
 [(AV.iface (117) (AV.agg [AV.int IntKind.i64 (1)]), false)] ∧ true = true) ∧ bindsG (List.take x l) (List.drop x l) = false ∧ AV.ptr (1) (0) = AV.ptr (1) (0) ∧ AV.ptr (2) (0) = AV.ptr (2) (0) ∧ [ADef.fn (Fn.func (82)) [] [AV.ptr (2) (0)]] = [ADef.fn (Fn.func (82)) [] [AV.ptr (2) (0)]] ∧ 24 = 24 ∧ AV.int IntKind.i64 (Ty.kind t) = AV.int IntKind.i64 (Ty.kind t) ∧ AV.int IntKind.i64 (Ty.n t) = AV.int IntKind.i64 (Ty.n t) ∧ AV.isl (Ty.nl t) none (0) (encL (Ty.l t)) = AV.isl (Ty.nl t) none (0) (encL (Ty.l t)) ∧ 24 = 24 ∧
 SubR [AV.int IntKind.i64 (0), AV.int IntKind.i64 (0), AV.isl true none (0) []] [AV.int IntKind.i64 (0), AV.int IntKind.i64 (0), AV.isl true none (0) []] (28 = 28 ∧ SubR [AV.int IntKind.i64 (0)] [AV.int IntKind.i64 (0)] (24 = 24 ∧ encM (Kd.bindM (List.take x l) 0) = encM (Kd.bindM (List.take (x + goodN (List.take x l) (List.drop x l)) l) 0) ∧ x = x + goodN (List.take x l) (List.drop x l) ∧ [(1, 3)] = [(1, 3)] ∧ True))) ((keyFind (AV.int IntKind.i64 (Prod.fst x_1)) (encM (Kd.bindM (List.take x l) 0)) 0 = some none ∧ ∃ y, (y ≤ List.length l ∧ List.length l ≤ 2000 ∧ allC l) ∧ meas y < meas x ∧
 (bindsG (List.take y l) (List.drop y l), y + goodN (List.take y l) (List.drop y l)) = (bindsG (List.take x l) (List.drop x l), x + goodN (List.take x l) (List.drop x l)) ∧ AV.ptr (0) (0) = AV.ptr (0) (0) ∧ AV.ptr (1) (0) = AV.ptr (1) (0) ∧ AV.ptr (2) (0) = AV.ptr (2) (0) ∧ AV.map (4) = AV.map (4) ∧ AV.map (4) = AV.map (4) ∧ AV.isl b none (0) (encB l) = AV.isl b none (0) (encB l) ∧ AV.int IntKind.i64 (iC (List.length (encB l))) = AV.int IntKind.i64 (iC (List.length (encB l))) ∧ AV.int IntKind.i64 (IntKind.wrap IntKind.i64 (iC x + (1 : Int))) = AV.int IntKind.i64 (iC y) ∧
 [ADef.fn (Fn.func (82)) [] [AV.ptr (2) (0)]] = [ADef.fn (Fn.func (82)) [] [AV.ptr (2) (0)]] ∧ 24 = 24 ∧ AV.int IntKind.i64 (Ty.kind t) = AV.int IntKind.i64 (Ty.kind t) ∧ AV.int IntKind.i64 (Ty.n t) = AV.int IntKind.i64 (Ty.n t) ∧ AV.isl (Ty.nl t) none (0) (encL (Ty.l t)) = AV.isl (Ty.nl t) none (0) (encL (Ty.l t)) ∧ 24 = 24 ∧ SubR [AV.int IntKind.i64 (0), AV.int IntKind.i64 (0), AV.isl true none (0) []] [AV.int IntKind.i64 (0), AV.int IntKind.i64 (0), AV.isl true none (0) []] (28 = 28 ∧ SubR [AV.int IntKind.i64 (0)] [AV.int IntKind.i64 (0)] (24 = 24 ∧ encM (Kd.bindM (List.take x l) 0) ++
 [(AV.int IntKind.i64 (Prod.fst x_1), AV.agg [AV.int IntKind.i64 (Ty.kind (Prod.snd x_1)), AV.int IntKind.i64 (Ty.n (Prod.snd x_1)), AV.isl (Ty.nl (Prod.snd x_1)) none (0) (encL (Ty.l (Prod.snd x_1)))], x)] = encM (Kd.bindM (List.take y l) 0) ∧ x + 1 = y ∧ [(1, 3)] = [(1, 3)] ∧ True))) ∨ ∃ j y c, keyFind (AV.int IntKind.i64 (Prod.fst x_1)) (encM (Kd.bindM (List.take x l) 0)) 0 = some (some (j, y)) ∧ (encM (Kd.bindM (List.take x l) 0))[j]? = some (AV.int IntKind.i64 (Prod.fst x_1), y, c) ∧ ∃ y, (y ≤ List.length l ∧ List.length l ≤ 2000 ∧ allC l) ∧ meas y < meas x ∧
 (bindsG (List.take y l) (List.drop y l), y + goodN (List.take y l) (List.drop y l)) = (bindsG (List.take x l) (List.drop x l), x + goodN (List.take x l) (List.drop x l)) ∧ AV.ptr (0) (0) = AV.ptr (0) (0) ∧ AV.ptr (1) (0) = AV.ptr (1) (0) ∧ AV.ptr (2) (0) = AV.ptr (2) (0) ∧ AV.map (4) = AV.map (4) ∧ AV.map (4) = AV.map (4) ∧ AV.isl b none (0) (encB l) = AV.isl b none (0) (encB l) ∧ AV.int IntKind.i64 (iC (List.length (encB l))) = AV.int IntKind.i64 (iC (List.length (encB l))) ∧ AV.int IntKind.i64 (IntKind.wrap IntKind.i64 (iC x + (1 : Int))) = AV.int IntKind.i64 (iC y) ∧
 [ADef.fn (Fn.func (82)) [] [AV.ptr (2) (0)]] = [ADef.fn (Fn.func (82)) [] [AV.ptr (2) (0)]] ∧ 24 = 24 ∧ AV.int IntKind.i64 (Ty.kind t) = AV.int IntKind.i64 (Ty.kind t) ∧ AV.int IntKind.i64 (Ty.n t) = AV.int IntKind.i64 (Ty.n t) ∧ AV.isl (Ty.nl t) none (0) (encL (Ty.l t)) = AV.isl (Ty.nl t) none (0) (encL (Ty.l t)) ∧ 24 = 24 ∧ SubR [AV.int IntKind.i64 (0), AV.int IntKind.i64 (0), AV.isl true none (0) []] [AV.int IntKind.i64 (0), AV.int IntKind.i64 (0), AV.isl true none (0) []] (28 = 28 ∧ SubR [AV.int IntKind.i64 (0)] [AV.int IntKind.i64 (0)] (24 = 24 ∧
 List.set (encM (Kd.bindM (List.take x l) 0)) j (AV.int IntKind.i64 (Prod.fst x_1), AV.agg [AV.int IntKind.i64 (Ty.kind (Prod.snd x_1)), AV.int IntKind.i64 (Ty.n (Prod.snd x_1)), AV.isl (Ty.nl (Prod.snd x_1)) none (0) (encL (Ty.l (Prod.snd x_1)))], c) = encM (Kd.bindM (List.take y l) 0) ∧ x = y ∧ [(1, 3)] = [(1, 3)] ∧ True)))) (([(AV.iface (117) (AV.agg [AV.int IntKind.i64 (1)]), false)] = [(AV.iface (117) (AV.agg [AV.int IntKind.i64 (1)]), false)] ∧ true = true) ∧ bindsG (List.take x l) (List.drop x l) = false ∧ AV.ptr (1) (0) = AV.ptr (1) (0) ∧ AV.ptr (2) (0) = AV.ptr (2) (0) ∧
 [ADef.fn (Fn.func (82)) [] [AV.ptr (2) (0)]] = [ADef.fn (Fn.func (82)) [] [AV.ptr (2) (0)]] ∧ 24 = 24 ∧ AV.int IntKind.i64 (Ty.kind t) = AV.int IntKind.i64 (Ty.kind t) ∧ AV.int IntKind.i64 (Ty.n t) = AV.int IntKind.i64 (Ty.n t) ∧ AV.isl (Ty.nl t) none (0) (encL (Ty.l t)) = AV.isl (Ty.nl t) none (0) (encL (Ty.l t)) ∧ 24 = 24 ∧ SubR [AV.int IntKind.i64 (0), AV.int IntKind.i64 (0), AV.isl true none (0) []] [AV.int IntKind.i64 (0), AV.int IntKind.i64 (0), AV.isl true none (0) []] (28 = 28 ∧ SubR [AV.int IntKind.i64 (0)] [AV.int IntKind.i64 (0)] (24 = 24 ∧
 encM (Kd.bindM (List.take x l) 0) = encM (Kd.bindM (List.take (x + goodN (List.take x l) (List.drop x l)) l) 0) ∧ x = x + goodN (List.take x l) (List.drop x l) ∧ [(1, 3)] = [(1, 3)] ∧ True)))) (([(AV.iface (117) (AV.agg [AV.int IntKind.i64 (1)]), false)] = [(AV.iface (117) (AV.agg [AV.int IntKind.i64 (1)]), false)] ∧ true = true) ∧ bindsG (List.take x l) (List.drop x l) = false ∧ AV.ptr (1) (0) = AV.ptr (1) (0) ∧ AV.ptr (2) (0) = AV.ptr (2) (0) ∧ [ADef.fn (Fn.func (82)) [] [AV.ptr (2) (0)]] = [ADef.fn (Fn.func (82)) [] [AV.ptr (2) (0)]] ∧ 24 = 24 ∧
 AV.int IntKind.i64 (Ty.kind t) = AV.int IntKind.i64 (Ty.kind t) ∧ AV.int IntKind.i64 (Ty.n t) = AV.int IntKind.i64 (Ty.n t) ∧ AV.isl (Ty.nl t) none (0) (encL (Ty.l t)) = AV.isl (Ty.nl t) none (0) (encL (Ty.l t)) ∧ 24 = 24 ∧ SubR [AV.int IntKind.i64 (0), AV.int IntKind.i64 (0), AV.isl true none (0) []] [AV.int IntKind.i64 (0), AV.int IntKind.i64 (0), AV.isl true none (0) []] (28 = 28 ∧ SubR [AV.int IntKind.i64 (0)] [AV.int IntKind.i64 (0)] (24 = 24 ∧ encM (Kd.bindM (List.take x l) 0) = encM (Kd.bindM (List.take (x + goodN (List.take x l) (List.drop x l)) l) 0) ∧
 x = x + goodN (List.take x l) (List.drop x l) ∧ [(1, 3)] = [(1, 3)] ∧ True))) ∨ ∃ j x_2, keyFind (AV.int IntKind.i64 (Prod.fst x_1)) (encM (Kd.bindM (List.take x l) 0)) 0 = some (some (j, AV.agg [AV.int IntKind.i64 (Ty.kind x_2), AV.int IntKind.i64 (Ty.n x_2), AV.isl (Ty.nl x_2) none (0) (encL (Ty.l x_2))])) ∧ bothR (decide ((0 : Int) ≤ Prod.fst x_1)) (bothR (decide (Prod.fst x_1 < (1000 : Int))) (([(AV.iface (117) (AV.agg [AV.int IntKind.i64 (1)]), false)] = [(AV.iface (117) (AV.agg [AV.int IntKind.i64 (1)]), false)] ∧ true = true) ∧ bindsG (List.take x l) (List.drop x l) = false ∧
 AV.ptr (1) (0) = AV.ptr (1) (0) ∧ AV.ptr (2) (0) = AV.ptr (2) (0) ∧ [ADef.fn (Fn.func (82)) [] [AV.ptr (2) (0)]] = [ADef.fn (Fn.func (82)) [] [AV.ptr (2) (0)]] ∧ 24 = 24 ∧ AV.int IntKind.i64 (Ty.kind t) = AV.int IntKind.i64 (Ty.kind t) ∧ AV.int IntKind.i64 (Ty.n t) = AV.int IntKind.i64 (Ty.n t) ∧ AV.isl (Ty.nl t) none (0) (encL (Ty.l t)) = AV.isl (Ty.nl t) none (0) (encL (Ty.l t)) ∧ 24 = 24 ∧ SubR [AV.int IntKind.i64 (0), AV.int IntKind.i64 (0), AV.isl true none (0) []] [AV.int IntKind.i64 (0), AV.int IntKind.i64 (0), AV.isl true none (0) []] (28 = 28 ∧
 SubR [AV.int IntKind.i64 (0)] [AV.int IntKind.i64 (0)] (24 = 24 ∧ encM (Kd.bindM (List.take x l) 0) = encM (Kd.bindM (List.take (x + goodN (List.take x l) (List.drop x l)) l) 0) ∧ x = x + goodN (List.take x l) (List.drop x l) ∧ [(1, 3)] = [(1, 3)] ∧ True))) (([(AV.iface (117) (AV.agg [AV.int IntKind.i64 (1)]), false)] = [(AV.iface (117) (AV.agg [AV.int IntKind.i64 (1)]), false)] ∧ true = true) ∧ bindsG (List.take x l) (List.drop x l) = false ∧ AV.ptr (1) (0) = AV.ptr (1) (0) ∧ AV.ptr (2) (0) = AV.ptr (2) (0) ∧ [ADef.fn (Fn.func (82)) [] [AV.ptr (2) (0)]] =
 [ADef.fn (Fn.func (82)) [] [AV.ptr (2) (0)]] ∧ 24 = 24 ∧ AV.int IntKind.i64 (Ty.kind t) = AV.int IntKind.i64 (Ty.kind t) ∧ AV.int IntKind.i64 (Ty.n t) = AV.int IntKind.i64 (Ty.n t) ∧ AV.isl (Ty.nl t) none (0) (encL (Ty.l t)) = AV.isl (Ty.nl t) none (0) (encL (Ty.l t)) ∧ 24 = 24 ∧ SubR [AV.int IntKind.i64 (0), AV.int IntKind.i64 (0), AV.isl true none (0) []] [AV.int IntKind.i64 (0), AV.int IntKind.i64 (0), AV.isl true none (0) []] (28 = 28 ∧ SubR [AV.int IntKind.i64 (0)] [AV.int IntKind.i64 (0)] (24 = 24 ∧
 encM (Kd.bindM (List.take x l) 0) = encM (Kd.bindM (List.take (x + goodN (List.take x l) (List.drop x l)) l) 0) ∧ x = x + goodN (List.take x l) (List.drop x l) ∧ [(1, 3)] = [(1, 3)] ∧ True)))) (([(AV.iface (117) (AV.agg [AV.int IntKind.i64 (1)]), false)] = [(AV.iface (117) (AV.agg [AV.int IntKind.i64 (1)]), false)] ∧ true = true) ∧ bindsG (List.take x l) (List.drop x l) = false ∧ AV.ptr (1) (0) = AV.ptr (1) (0) ∧ AV.ptr (2) (0) = AV.ptr (2) (0) ∧ [ADef.fn (Fn.func (82)) [] [AV.ptr (2) (0)]] = [ADef.fn (Fn.func (82)) [] [AV.ptr (2) (0)]] ∧ 24 = 24 ∧
 AV.int IntKind.i64 (Ty.kind t) = AV.int IntKind.i64 (Ty.kind t) ∧ AV.int IntKind.i64 (Ty.n t) = AV.int IntKind.i64 (Ty.n t) ∧ AV.isl (Ty.nl t) none (0) (encL (Ty.l t)) = AV.isl (Ty.nl t) none (0) (encL (Ty.l t)) ∧ 24 = 24 ∧ SubR [AV.int IntKind.i64 (0), AV.int IntKind.i64 (0), AV.isl true none (0) []] [AV.int IntKind.i64 (0), AV.int IntKind.i64 (0), AV.isl true none (0) []] (28 = 28 ∧ SubR [AV.int IntKind.i64 (0)] [AV.int IntKind.i64 (0)] (24 = 24 ∧ encM (Kd.bindM (List.take x l) 0) = encM (Kd.bindM (List.take (x + goodN (List.take x l) (List.drop x l)) l) 0) ∧
 x = x + goodN (List.take x l) (List.drop x l) ∧ [(1, 3)] = [(1, 3)] ∧ True))))) (bindsG (List.take x l) (List.drop x l) = true ∧ AV.ptr (0) (0) = AV.ptr (0) (0) ∧ AV.ptr (1) (0) = AV.ptr (1) (0) ∧ AV.ptr (2) (0) = AV.ptr (2) (0) ∧ AV.map (4) = AV.map (4) ∧ [ADef.fn (Fn.func (82)) [] [AV.ptr (2) (0)]] = [ADef.fn (Fn.func (82)) [] [AV.ptr (2) (0)]] ∧ 24 = 24 ∧ AV.int IntKind.i64 (Ty.kind t) = AV.int IntKind.i64 (Ty.kind t) ∧ AV.int IntKind.i64 (Ty.n t) = AV.int IntKind.i64 (Ty.n t) ∧ AV.isl (Ty.nl t) none (0) (encL (Ty.l t)) = AV.isl (Ty.nl t) none (0) (encL (Ty.l t)) ∧ 24 = 24 ∧
 SubR [AV.int IntKind.i64 (0), AV.int IntKind.i64 (0), AV.isl true none (0) []] [AV.int IntKind.i64 (0), AV.int IntKind.i64 (0), AV.isl true none (0) []] (28 = 28 ∧ SubR [AV.int IntKind.i64 (0)] [AV.int IntKind.i64 (0)] (24 = 24 ∧ encM (Kd.bindM (List.take x l) 0) = encM (Kd.bindM (List.take (x + goodN (List.take x l) (List.drop x l)) l) 0) ∧ x = x + goodN (List.take x l) (List.drop x l) ∧ [(1, 3)] = [(1, 3)] ∧ True)))) := by kernel_rfl

theorem pp_top (t : Ty) (b : Bool) (l : List (Int × Ty)) (r : Ty) (e : Int) : (runF (ppHk' t b l) 60 34 [.isl b none 0 (encB l), encD t] AH.nil (retIs Tryz.prog 5 (.tup [encD r, .int .i64 e]))) = ( Int.NonNeg (0) ∧ ∃ x, some (AV.agg [AV.int IntKind.i64 (Ty.kind t), AV.int IntKind.i64 (Ty.n t), AV.isl (Ty.nl t) none (0) (encL (Ty.l t))]) = some (AV.agg [AV.int IntKind.i64 (Ty.kind x), AV.int IntKind.i64 (Ty.n x), AV.isl (Ty.nl x) none (0) (encL (Ty.l x))]) ∧ ∃ l_1, encL (Ty.l x) = encL l_1 ∧ cnt (Ty.mk (Ty.kind x) (Ty.n x) (Ty.nl x) l_1) ≤ 1000 ∧
 bothR (!validB (Ty.mk (Ty.kind x) (Ty.n x) (Ty.nl x) l_1)) (AV.tup [AV.agg [AV.int IntKind.i64 (0), AV.int IntKind.i64 (0), AV.isl true none (0) []], AV.int IntKind.i64 (1)] = AV.tup [AV.agg [AV.int IntKind.i64 (Ty.kind r), AV.int IntKind.i64 (Ty.n r), AV.isl (Ty.nl r) none (0) (encL (Ty.l r))], AV.int IntKind.i64 e]) (codeIs (loopOf Tryz.prog 34 0) Tryz.prog 34 0 (∃ x, (x ≤ List.length l ∧ List.length l ≤ 2000 ∧ allC l) ∧ AV.ptr (0) (0) = AV.ptr (0) (0) ∧ AV.ptr (1) (0) = AV.ptr (1) (0) ∧ AV.ptr (2) (0) = AV.ptr (2) (0) ∧ AV.map (4) = AV.map (4) ∧ AV.map (4) = AV.map (4) ∧
 AV.isl b none (0) (encB l) = AV.isl b none (0) (encB l) ∧ AV.int IntKind.i64 (iC (List.length (encB l))) = AV.int IntKind.i64 (iC (List.length (encB l))) ∧ AV.int IntKind.i64 (0) = AV.int IntKind.i64 (iC x) ∧ [ADef.fn (Fn.func (82)) [] [AV.ptr (2) (0)]] = [ADef.fn (Fn.func (82)) [] [AV.ptr (2) (0)]] ∧ 24 = 24 ∧ AV.int IntKind.i64 (Ty.kind t) = AV.int IntKind.i64 (Ty.kind t) ∧ AV.int IntKind.i64 (Ty.n t) = AV.int IntKind.i64 (Ty.n t) ∧ AV.isl (Ty.nl t) none (0) (encL (Ty.l t)) = AV.isl (Ty.nl t) none (0) (encL (Ty.l t)) ∧ 24 = 24 ∧
 SubR [AV.int IntKind.i64 (0), AV.int IntKind.i64 (0), AV.isl true none (0) []] [AV.int IntKind.i64 (0), AV.int IntKind.i64 (0), AV.isl true none (0) []] (28 = 28 ∧ SubR [AV.int IntKind.i64 (0)] [AV.int IntKind.i64 (0)] (24 = 24 ∧ [] = encM (Kd.bindM (List.take x l) 0) ∧ 0 = x ∧ [(1, 3)] = [(1, 3)] ∧ bothR (bindsG (List.take x l) (List.drop x l)) (∃ l_2, encL (Ty.l t) = encL l_2 ∧ ∃ es, encM (Kd.bindM (List.take (x + goodN (List.take x l) (List.drop x l)) l) 0) = encM es ∧ (okT (Ty.mk (Ty.kind t) (Ty.n t) (Ty.nl t) l_2) = true ∧ okMs es) ∧
 bothR (putB es (Ty.mk (Ty.kind t) (Ty.n t) (Ty.nl t) l_2)) (AV.tup [AV.agg [AV.int IntKind.i64 (Ty.kind (pwT es (cleanT (Ty.mk (Ty.kind t) (Ty.n t) (Ty.nl t) l_2)))), AV.int IntKind.i64 (Ty.n (pwT es (cleanT (Ty.mk (Ty.kind t) (Ty.n t) (Ty.nl t) l_2)))), AV.isl (Ty.nl (pwT es (cleanT (Ty.mk (Ty.kind t) (Ty.n t) (Ty.nl t) l_2)))) none (0) (encL (Ty.l (pwT es (cleanT (Ty.mk (Ty.kind t) (Ty.n t) (Ty.nl t) l_2)))))], AV.int IntKind.i64 (0)] = AV.tup [AV.agg [AV.int IntKind.i64 (Ty.kind r), AV.int IntKind.i64 (Ty.n r), AV.isl (Ty.nl r) none (0) (encL (Ty.l r))], AV.int IntKind.i64 e]) (AV.tup
 [AV.agg [AV.int IntKind.i64 (0), AV.int IntKind.i64 (0), AV.isl true none (0) []], AV.int IntKind.i64 (9)] = AV.tup [AV.agg [AV.int IntKind.i64 (Ty.kind r), AV.int IntKind.i64 (Ty.n r), AV.isl (Ty.nl r) none (0) (encL (Ty.l r))], AV.int IntKind.i64 e])) (AV.tup [AV.agg [AV.int IntKind.i64 (0), AV.int IntKind.i64 (0), AV.isl true none (0) []], AV.int IntKind.i64 (1)] = AV.tup [AV.agg [AV.int IntKind.i64 (Ty.kind r), AV.int IntKind.i64 (Ty.n r), AV.isl (Ty.nl r) none (0) (encL (Ty.l r))], AV.int IntKind.i64 e])))))) := by kernel_rfl

theorem rp_top (t : Ty) (b : Bool) (l : List (Int × Ty)) (r : Ty) (e : Int) : (runF (hooks [(60, typeQ1), (62, bindsQ), (84, wiQ0)] [] []) 60 35 [.isl b none 0 (encB l), encD t] AH.nil (retIs Tryz.prog 5 (.tup [encD r, .int .i64 e]))) = ( ∃ l_1, encL (Ty.l t) = encL l_1 ∧ cnt (Ty.mk (Ty.kind t) (Ty.n t) (Ty.nl t) l_1) ≤ 100000 ∧ bothR (!validB (Ty.mk (Ty.kind t) (Ty.n t) (Ty.nl t) l_1)) (AV.tup [AV.agg [AV.int IntKind.i64 (0), AV.int IntKind.i64 (0), AV.isl true none (0) []], AV.int IntKind.i64 (1)] =
 AV.tup [AV.agg [AV.int IntKind.i64 (Ty.kind r), AV.int IntKind.i64 (Ty.n r), AV.isl (Ty.nl r) none (0) (encL (Ty.l r))], AV.int IntKind.i64 e]) (∃ l_2, encB l = encB l_2 ∧ (List.length l_2 ≤ 2000 ∧ allC l_2) ∧ bothR (!bindsB l_2) (AV.tup [AV.agg [AV.int IntKind.i64 (0), AV.int IntKind.i64 (0), AV.isl true none (0) []], AV.int IntKind.i64 (1)] = AV.tup [AV.agg [AV.int IntKind.i64 (Ty.kind r), AV.int IntKind.i64 (Ty.n r), AV.isl (Ty.nl r) none (0) (encL (Ty.l r))], AV.int IntKind.i64 e]) (∃ l_3, encB l = encB l_3 ∧ ∃ l, encL (Ty.l t) = encL l ∧
 (cnt (Ty.mk (Ty.kind t) (Ty.n t) (Ty.nl t) l) ≤ 1000 ∧ List.length l_3 ≤ 2000 ∧ allC l_3) ∧ ∃ l_4, encL (Ty.l (withT l_3 (Ty.mk (Ty.kind t) (Ty.n t) (Ty.nl t) l))) = encL l_4 ∧ cnt (Ty.mk (Ty.kind (withT l_3 (Ty.mk (Ty.kind t) (Ty.n t) (Ty.nl t) l))) (Ty.n (withT l_3 (Ty.mk (Ty.kind t) (Ty.n t) (Ty.nl t) l))) (Ty.nl (withT l_3 (Ty.mk (Ty.kind t) (Ty.n t) (Ty.nl t) l))) l_4) ≤ 100000 ∧ bothR (!validB (Ty.mk (Ty.kind (withT l_3 (Ty.mk (Ty.kind t) (Ty.n t) (Ty.nl t) l))) (Ty.n (withT l_3 (Ty.mk (Ty.kind t) (Ty.n t) (Ty.nl t) l))) (Ty.nl (withT l_3 (Ty.mk (Ty.kind t) (Ty.n t) (Ty.nl t) l))) l_4))
 (AV.tup [AV.agg [AV.int IntKind.i64 (0), AV.int IntKind.i64 (0), AV.isl true none (0) []], AV.int IntKind.i64 (9)] = AV.tup [AV.agg [AV.int IntKind.i64 (Ty.kind r), AV.int IntKind.i64 (Ty.n r), AV.isl (Ty.nl r) none (0) (encL (Ty.l r))], AV.int IntKind.i64 e]) (AV.tup [AV.agg [AV.int IntKind.i64 (Ty.kind (withT l_3 (Ty.mk (Ty.kind t) (Ty.n t) (Ty.nl t) l))), AV.int IntKind.i64 (Ty.n (withT l_3 (Ty.mk (Ty.kind t) (Ty.n t) (Ty.nl t) l))), AV.isl (Ty.nl (withT l_3 (Ty.mk (Ty.kind t) (Ty.n t) (Ty.nl t) l))) none (0) (encL (Ty.l (withT l_3 (Ty.mk (Ty.kind t) (Ty.n t) (Ty.nl t) l))))],
 AV.int IntKind.i64 (0)] = AV.tup [AV.agg [AV.int IntKind.i64 (Ty.kind r), AV.int IntKind.i64 (Ty.n r), AV.isl (Ty.nl r) none (0) (encL (Ty.l r))], AV.int IntKind.i64 e])))) := by kernel_rfl

end Go.Proofs.YtnmolpkkemljoaaGreatDoor
end
end

section
set_option maxRecDepth 100000
set_option linter.unusedSimpArgs false
set_option linter.unusedVariables false
namespace Kd
open Go.Am Go.Proofs.YtnmolpkkemljoaaGreatDoor

theorem boundM_has : ∀ (l : List (Int × Ty)) (n : Int) (i : Nat), hasV l n = false → boundM (bindM l i) n = none
  | [], _, _, _ => rfl
  | x :: l, n, i, h => by
    simp only [hasV, List.any_cons, Bool.or_eq_false_iff, decide_eq_false_iff_not] at h
    simp only [bindM, boundM, if_neg (fun e => h.1 (Eq.symm e))]
    exact boundM_has l n (i + 1) h.2
theorem boundM_hasT : ∀ (l : List (Int × Ty)) (n : Int) (i : Nat), hasV l n = true → ∃ u, boundM (bindM l i) n = some u
  | [], _, _, h => by cases h
  | x :: l, n, i, h => by
    simp only [hasV, List.any_cons, Bool.or_eq_true, decide_eq_true_eq] at h
    simp only [bindM, boundM]
    by_cases hx : n = x.1
    · exact ⟨x.2, if_pos hx⟩
    · rw [if_neg hx]
      refine boundM_hasT l n (i + 1) ?_
      rcases h with h | h
      · exact absurd h.symm hx
      · exact h
theorem bindM_snoc : ∀ (l : List (Int × Ty)) (x : Int × Ty) (i : Nat), bindM (l ++ [x]) i = bindM l i ++ [(x.1, x.2, i + l.length)]
  | [], x, i => rfl
  | y :: l, x, i => by
    simp only [List.cons_append, bindM, bindM_snoc l x (i + 1), List.length_cons]
    rw [show i + 1 + l.length = i + (l.length + 1) by omega]
theorem bindM_O : ∀ (l : List (Int × Ty)) (n : Int) (i : Nat), boundM (bindM l i) n = boundO l n
  | [], _, _ => rfl
  | x :: l, n, i => by
    simp only [bindM, boundM, boundO]
    by_cases h : n = x.1
    · rw [if_pos h, if_pos h.symm]
    · rw [if_neg h, if_neg (fun e => h e.symm)]
      exact bindM_O l n (i + 1)
theorem goodN_all : ∀ (l pre : List (Int × Ty)), bindsG pre l = true → goodN pre l = l.length
  | [], _, _ => rfl
  | x :: l, pre, h => by
    simp only [bindsG, Bool.and_eq_true (okB1 x && !hasV pre x.1)] at h
    simp only [goodN, if_pos h.1, goodN_all l _ h.2, List.length_cons]
theorem binds_ok1 : ∀ (l pre : List (Int × Ty)), bindsG pre l = true → ∀ x ∈ l, okB1 x = true
  | [], _, _, x, hx => by cases hx
  | y :: l, pre, h, x, hx => by
    simp only [bindsG, Bool.and_eq_true] at h
    rcases List.mem_cons.1 hx with rfl | hx
    · exact h.1.1
    · exact binds_ok1 l _ h.2 x hx
theorem bindM_mem : ∀ (l : List (Int × Ty)) (i : Nat), ∀ y ∈ bindM l i, ∃ x ∈ l, y.2.1 = x.2
  | [], _, y, h => by cases h
  | x :: l, i, y, h => by
    simp only [bindM, List.mem_cons] at h
    rcases h with rfl | h
    · exact ⟨x, by simp, rfl⟩
    · obtain ⟨z, h1, h2⟩ := bindM_mem l (i + 1) y h
      exact ⟨z, by simp [h1], h2⟩
theorem binds_okMs {l : List (Int × Ty)} (h : bindsB l = true) : okMs (bindM l 0) := by
  intro y hy
  obtain ⟨x, hx, e⟩ := bindM_mem l 0 y hy
  have := binds_ok1 l [] h x hx
  simp only [okB1, Bool.and_eq_true] at this
  obtain ⟨h1, h2, h3⟩ := (valid_eq _).1 this.2
  rw [e]
  exact ⟨h3, by omega⟩
theorem put_with {l : List (Int × Ty)} {t : Ty} (ht : validB t = true) : pwT (bindM l 0) (cleanT t) = withT l t :=
  pw_with (fun n => bindM_O l n 0) t ((valid_eq t).1 ht).2.2
theorem putB_eq {l : List (Int × Ty)} {t : Ty} (ht : validB t = true) : putB (bindM l 0) t = validB (withT l t) := by
  simp only [putB, fitsB, put_with ht]
  cases hv : validB (withT l t) with
  | false => simp
  | true =>
    obtain ⟨h1, h2, h3⟩ := (valid_eq _).1 hv
    simp only [Bool.and_true, decide_eq_true_eq]; omega

/-- What Put hands back. -/
def putT (l : List (Int × Ty)) (t : Ty) : Ty := if (validB t && bindsB l && validB (withT l t)) = true then withT l t else .mk 0 0 true []
def putE (l : List (Int × Ty)) (t : Ty) : Int := if (validB t && bindsB l) = true then (if validB (withT l t) = true then 0 else 9) else 1

theorem with_bound {bs : List (Int × Ty)} {B : Nat} (hB : 1 ≤ B) (hb : ∀ x ∈ bs, cnt x.2 ≤ B) : ∀ t, cnt (withT bs t) ≤ B * cnt t := by
  have bnd : ∀ n, cnt (boundT bs n) ≤ B := by
    intro n
    unfold boundT
    cases h : boundO bs n with
    | none => simp only [Option.getD_none]; simp [varT, cnt, cntL]; exact hB
    | some u =>
      have key : ∀ (bs : List (Int × Ty)), (∀ x ∈ bs, cnt x.2 ≤ B) → boundO bs n = some u → cnt u ≤ B := by
        intro bs
        induction bs with
        | nil => intro _ h; cases h
        | cons x l ih =>
          intro hb h
          simp only [boundO] at h
          split at h
          · cases h; exact hb x (by simp)
          · exact ih (fun y hy => hb y (by simp [hy])) h
      exact key bs hb h
  have key : ∀ (N : Nat), (∀ t, SizeOf.sizeOf t < N → cnt (withT bs t) ≤ B * cnt t) ∧ ∀ l, SizeOf.sizeOf l < N → cntL (withL bs l) ≤ B * cntL l := by
    intro N
    induction N with
    | zero => exact ⟨fun _ h => by omega, fun _ h => by omega⟩
    | succ N ih =>
      obtain ⟨ih1, ih2⟩ := ih
      constructor
      · intro t ht
        cases t with
        | mk k n b l =>
          simp only [Ty.mk.sizeOf_spec] at ht
          have h2 := ih2 l (by omega)
          simp only [withT]
          split
          · rw [cnt_clean]
            have := bnd n
            simp only [cnt, Nat.mul_add, Nat.mul_one]; omega
          · simp only [cnt, Nat.mul_add, Nat.mul_one]; omega
      · intro l hl
        cases l with
        | nil => simp [withL, cntL]
        | cons x xs =>
          simp only [List.cons.sizeOf_spec] at hl
          have h1 := ih1 x (by omega)
          have h2 := ih2 xs (by omega)
          simp only [withL, cntL, Nat.mul_add]; omega
  exact fun t => (key (SizeOf.sizeOf t + 1)).1 t (by omega)
end Kd
noncomputable section
namespace Go.Proofs.YtnmolpkkemljoaaGreatDoor
open Go Go.Am Kd

theorem varAt_get {l : List (Int × Ty)} {j : Nat} (h : j < l.length) : varAt l j = l[j].1 := by simp [varAt, h]

theorem bk_ok (b : Bool) (l : List (Int × Ty)) (j : Nat) : LHook.Ok Tryz.prog g0 ⟨62, 1, (bkSt b l j).spec⟩ := by
  refine LSt.by (hk := hk0) (bkSt b l j) (fun x => j - x) hk0_ok rfl ?_ ?_ ?_
  · intro x _
    exact Whole.frm rfl rfl (by simp [bkSt, AV.bnd, AV.still_bndL, encB_still]) rfl
  · intro x b' _
    cases b'
    · exact Whole.frm rfl rfl (by simp [bkSt, AV.bnd, AV.still_bndL, encB_still]) rfl
    · exact Whole.frm rfl rfl rfl rfl
  · rintro k ⟨hk, hj, hl⟩
    rw [bk_loop]
    simp only [iC, encB_length, eq_self, true_and, and_true, Int.toNat_natCast, AV.int.injEq]
    refine bothR_dec (fun hlt => ?_) fun hge => ?_
    · have hk' : k < l.length := by omega
      have hd : (l.take j).drop k = l[k] :: (l.take j).drop (k + 1) := by
        rw [List.drop_eq_getElem_cons (by simp; omega)]
        simp
      rw [ex_bind hk', ex_bind hj, hd, varAt_get hj]
      refine ⟨by omega, by omega, bothR_dec (fun h => ?_) fun h => ⟨k + 1, ⟨by omega, hj, hl⟩, by omega, ?_, ?_⟩⟩
      · simp [hasV, h]
      · simp [hasV, h]
      · rw [wrap_id (by omega) (by omega)]; rfl
    · rw [List.drop_of_length_le (by simp; omega)]; rfl

theorem bi_ok (b : Bool) (l : List (Int × Ty)) : LHook.Ok Tryz.prog g0 ⟨62, 0, (biSt b l).spec⟩ := by
  refine LSt.ok (biSt b l) (fun x => l.length - x) (by intro l h; cases h) ?_ ?_ ?_
  · intro x _
    exact Whole.frm rfl rfl (by simp [biSt, AV.bnd, AV.still_bndL, encB_still]) rfl
  · intro x b' _
    cases b' <;> exact Whole.frm rfl rfl rfl rfl
  · rintro i ⟨hi, hl, hc⟩
    refine CodeJ.run (el := els) (mu := mu0) (hk := biHk b l i) hmix (mkHooks_ok (all_cons type_hook (all_cons in_hook all_nil)) all_nil (all_cons (bk_ok b l i) all_nil)) (n := 60) ?_
    show runL (biHk b l i) 60 62 0 (biSt b l) (fun x => l.length - x) i
    rw [bi_loop]
    simp only [iC, encB_length, eq_self, true_and, and_true, Int.toNat_natCast, AV.int.injEq, codeIs_self]
    refine bothR_dec (fun hlt => ?_) fun hge => ?_
    · have hi' : i < l.length := by omega
      have hd : l.drop i = l[i] :: l.drop (i + 1) := List.drop_eq_getElem_cons hi'
      have ht : l.take (i + 1) = l.take i ++ [l[i]] := by rw [List.take_add_one, List.getElem?_eq_getElem hi']; rfl
      rw [ex_bind hi', ex_bind hi', hd]
      simp only [ex_enc, Ty.eta]
      refine ⟨by omega, bothR_nbool (fun h => ?_) fun h => ⟨by omega, hc _ (List.getElem_mem hi'), bothR_nbool (fun hv => ?_) fun hv => ⟨0, ⟨by omega, hi', hl⟩, rfl, ?_⟩⟩⟩
      · simp only [bindsG, okB1, h, Bool.false_and]
      · simp only [bindsG, okB1, h, hv, Bool.and_false, Bool.false_and]
      · rw [List.drop_zero, varAt_get hi']
        refine bothR_bool (fun hh => ?_) fun hh => ⟨i + 1, ⟨by omega, hl, hc⟩, by omega, ?_, ?_⟩
        · simp only [bindsG, okB1, h, hv, hh, Bool.not_true, Bool.and_false, Bool.false_and]
        · rw [ht]; simp only [bindsG, okB1, h, hv, hh, Bool.not_false, Bool.and_self, Bool.true_and]
        · rw [wrap_id (by omega) (by omega)]; rfl
    · rw [List.drop_of_length_le (by omega)]; rfl

theorem binds_ok (b : Bool) (l : List (Int × Ty)) (hl : l.length ≤ 2000) (hc : allC l) : QJ 62 [.isl b none 0 (encB l)] (.bool (bindsB l)) := by
  refine QJ.by (hk := biHk' b l) (by simp [AV.stillL, AV.still, encB_still]) rfl (mkHooks_ok all_nil all_nil (all_cons (bi_ok b l) all_nil)) ?_
  rw [bi_top]
  simp only [iC, eq_self, true_and, codeIs_self, AV.int.injEq]
  refine ⟨0, ⟨by omega, hl, hc⟩, rfl, ?_⟩
  rw [List.take_zero, List.drop_zero]
  exact bothR_bool (fun h => by simp [bindsB, h]) fun h => by simp [bindsB, h]
theorem binds_hook : QSpec.Ok Tryz.prog g0 62 bindsQ := by
  intro args K h'
  unfold bindsQ at h'
  split at h'
  · obtain ⟨b, l, rfl, h2, h3⟩ := argBinds_elim h'
    exact ⟨_, binds_ok b l h2.1 h2.2, h3⟩
  · exact h'.elim

theorem my_ok (b : Bool) (l : List (Int × Ty)) : LHook.Ok Tryz.prog g0 ⟨33, 0, (mySt b l).spec⟩ := by
  refine LSt.by (hk := myHk) (mySt b l) (fun x => l.length - x) (mkHooks_ok (all_cons (great_hook.weak 3) all_nil) all_nil all_nil) rfl ?_ ?_ ?_
  · intro x _
    exact Whole.frm rfl rfl (by simp [mySt, AV.bnd, AV.still_bndL, encB_still]) rfl
  · intro x b' _
    cases b'
    · exact Whole.frm rfl rfl (by simp [mySt, AV.bnd, AV.still_bndL, encB_still]) rfl
    · exact Whole.frm rfl rfl rfl rfl
  · rintro i ⟨hi, hl⟩
    rw [my_loop]
    simp only [iC, encB_length, eq_self, true_and, and_true, Int.toNat_natCast, AV.int.injEq]
    refine bothR_dec (fun hlt => ?_) fun hge => ?_
    · have hi' : i < l.length := by omega
      have hd : l.drop i = l[i] :: l.drop (i + 1) := List.drop_eq_getElem_cons hi'
      rw [ex_bind hi', hd]
      simp only [ex_enc, Ty.eta]
      refine ⟨by omega, bothR_bool (fun h => by simp [manyG, h]) fun h => ⟨i + 1, ⟨by omega, hl⟩, by omega, by simp [manyG, h], ?_⟩⟩
      rw [wrap_id (by omega) (by omega)]; rfl
    · rw [List.drop_of_length_le (by omega)]; rfl
theorem many_ok (b : Bool) (l : List (Int × Ty)) (hl : l.length ≤ 9223372036854775807) : QJ 33 [.isl b none 0 (encB l)] (.bool (manyB l)) := by
  refine QJ.by (hk := myHk' b l) (by simp [AV.stillL, AV.still, encB_still]) rfl (mkHooks_ok all_nil all_nil (all_cons (my_ok b l) all_nil)) ?_
  rw [my_top]
  simp only [iC, eq_self, true_and, codeIs_self, AV.int.injEq, encB_length]
  refine ⟨0, ⟨by omega, hl⟩, rfl, ?_⟩
  rw [List.drop_zero]
  refine bothR_bool (fun h => by simp [manyB, h]) fun h => ?_
  simp only [manyB, h, Bool.false_or, AV.bool.injEq]
  congr 1
  exact propext ⟨fun h => by omega, fun h => by omega⟩
theorem many_hook : QSpec.Ok Tryz.prog g0 33 manyQ := by
  intro args K h'
  unfold manyQ at h'
  split at h'
  · obtain ⟨b, l, rfl, h2, h3⟩ := argBinds_elim h'
    exact ⟨_, many_ok b l h2, h3⟩
  · exact h'.elim

end Go.Proofs.YtnmolpkkemljoaaGreatDoor
end
end

section
set_option maxRecDepth 100000
set_option linter.unusedSimpArgs false
set_option linter.unusedVariables false
noncomputable section
namespace Go.Proofs.YtnmolpkkemljoaaGreatDoor
open Go Go.Am Kd

theorem pp_ok (t : Ty) (b : Bool) (l : List (Int × Ty)) : LHook.Ok Tryz.prog g0 ⟨34, 0, (ppSt t b l).spec⟩ := by
  refine LSt.by (hk := ppHk) (ppSt t b l) (fun x => l.length - x) (mkHooks_ok (all_cons valid_hook all_nil) all_nil all_nil) rfl ?_ ?_ ?_
  · intro x _
    exact ⟨rfl, rfl, frm_bnd (by simp [AV.bnd, AV.still_bndL, encB_still, ppSt]), by simp [ppSt, ppFr, ADef.bnd, AV.bndL, AV.bnd], by simp [ppSt, ppH, top3, tyC, ABlk.bnd, AV.bnd, AV.bndL, encM_bnd, encL_bnd]⟩
  · intro x b' _
    cases b'
    · exact ⟨rfl, rfl, frm_bnd (by simp [AV.bnd, AV.still_bndL, encB_still, ppSt]), by simp [ppSt, ppFr, ADef.bnd, AV.bndL, AV.bnd], by simp [ppSt, ppH, top3, tyC, ABlk.bnd, AV.bnd, AV.bndL, encM_bnd, encL_bnd]⟩
    · exact ⟨rfl, rfl, frm_bnd (by simp [AV.bnd, AV.still_bndL, encB_still, ppSt]), by simp [ppSt, ppFr, ADef.bnd, AV.bndL, AV.bnd], by simp [ppSt, ppH, top3, tyC, ABlk.bnd, AV.bnd, AV.bndL, encM_bnd, encL_bnd]⟩
  · rintro i ⟨hi, hl, hc⟩
    rw [pp_loop]
    simp only [iC, encB_length, eq_self, true_and, and_true, Int.toNat_natCast, AV.int.injEq, SubR_id]
    refine bothR_dec (fun hlt => ?_) fun hge => ?_
    · have hi' : i < l.length := by omega
      have hd : l.drop i = l[i] :: l.drop (i + 1) := List.drop_eq_getElem_cons hi'
      have ht : l.take (i + 1) = l.take i ++ [l[i]] := by rw [List.take_add_one, List.getElem?_eq_getElem hi']; rfl
      have hlen : (l.take i).length = i := by simp; omega
      rw [ex_bind hi']
      refine ⟨by omega, ?_⟩
      have bad : (okB1 l[i] && !hasV (l.take i) l[i].1) = false → bindsG (l.take i) (l.drop i) = false ∧ encM (bindM (l.take i) 0) = encM (bindM (l.take (i + goodN (l.take i) (l.drop i))) 0) ∧ i = i + goodN (l.take i) (l.drop i) := by
        intro h
        have hg : goodN (l.take i) (l.drop i) = 0 := by rw [hd]; simp only [goodN, h, Bool.false_eq_true, if_false]
        rw [hg]
        exact ⟨by rw [hd]; simp only [bindsG, h, Bool.false_and], rfl, rfl⟩
      cases hh : hasV (l.take i) l[i].1 with
      | true =>
        have hb := bad (by rw [hh]; simp)
        obtain ⟨u, hu⟩ := boundM_hasT _ _ 0 hh
        obtain ⟨j, hj⟩ := keyFind_some hu 0
        exact .inr ⟨j, u, hj, bothR_dec (fun _ => bothR_dec (fun _ => hb) fun _ => hb) fun _ => hb⟩
      | false =>
        have hk := keyFind_none (boundM_has _ _ 0 hh) 0
        refine .inl ⟨hk, bothR_dec (fun h0 => bothR_dec (fun h1 => ⟨nn 0, l[i].2, rfl, ?_⟩) fun h1 => bad ?_) fun h0 => bad ?_⟩
        · simp only [ex_enc, Ty.eta]
          refine ⟨hc _ (List.getElem_mem hi'), bothR_nbool (fun hv => bad ?_) fun hv => .inl ⟨hk, i + 1, ⟨by omega, hl, hc⟩, by omega, ?_, ?_⟩⟩
          · simp only [okB1, hv, Bool.and_false, Bool.false_and]
          · have hok : (okB1 l[i] && !hasV (l.take i) l[i].1) = true := by
              simp only [okB1, hv, hh, Bool.not_false, Bool.and_true, Bool.and_eq_true, decide_eq_true_eq]
              omega
            rw [hd, ht]
            simp only [bindsG, goodN, hok, Bool.true_and, if_true, Prod.mk.injEq, true_and]
            omega
          · rw [wrap_id (by omega) (by omega), ht, bindM_snoc, hlen, Nat.zero_add]
            refine ⟨rfl, ?_, rfl⟩
            simp only [encM, List.map_append, List.map_cons, List.map_nil, entM]
            rfl
        · have : decide (l[i].1 ≤ 999) = false := by simp; omega
          simp only [okB1, this, Bool.and_false, Bool.false_and]
        · have : decide (0 ≤ l[i].1) = false := by simp; omega
          simp only [okB1, this, Bool.false_and]
    · have : i = l.length := by omega
      subst this
      rw [List.drop_of_length_le (Nat.le_refl _), List.take_length]
      simp [bindsG, goodN, List.take_length]

def putV (l : List (Int × Ty)) (t : Ty) : AV := .tup [encD (putT l t), .int .i64 (putE l t)]

theorem put_cases (l : List (Int × Ty)) (t : Ty) : (validB t = false ∧ putT l t = .mk 0 0 true [] ∧ putE l t = 1) ∨ (validB t = true ∧ bindsB l = false ∧ putT l t = .mk 0 0 true [] ∧ putE l t = 1) ∨
    (validB t = true ∧ bindsB l = true ∧ validB (withT l t) = false ∧ putT l t = .mk 0 0 true [] ∧ putE l t = 9) ∨ (validB t = true ∧ bindsB l = true ∧ validB (withT l t) = true ∧ putT l t = withT l t ∧ putE l t = 0) := by
  unfold putT putE
  cases validB t <;> cases bindsB l <;> cases validB (withT l t) <;> simp

theorem kput_ok (b : Bool) (l : List (Int × Ty)) (t : Ty) (ht : cnt t ≤ 1000) (hl : l.length ≤ 2000) (hc : allC l) : QJ 34 [.isl b none 0 (encB l), enc t] (putV l t) := by
  have hst : (enc t).still = true := enc_still t
  have hh : Hooks.Ok Tryz.prog g0 (ppHk' t b l) := mkHooks_ok (all_cons valid_hook all_nil) (all_cons putG_hook all_nil) (all_cons (pp_ok t b l) all_nil)
  rw [enc_D]
  refine QJ.by (hk := ppHk' t b l) (by rw [← enc_D]; simp [AV.stillL, AV.still, hst, encB_still]) (by simp [putV, AV.still, AV.stillL, encD_still]) hh ?_
  unfold putV
  rw [pp_top]
  simp only [ex_enc, Ty.eta, eq_self, true_and, and_true, SubR_id, codeIs_self, ex_encM, iC, encB_length, AV.int.injEq]
  refine ⟨nn 0, t, rfl, ?_⟩
  refine ⟨ht, ?_⟩
  rcases put_cases l t with ⟨h1, h2, h3⟩ | ⟨h0, h1, h2, h3⟩ | ⟨h0, h4, h1, h2, h3⟩ | ⟨h0, h4, h1, h2, h3⟩
  · rw [h1, h2, h3]; rfl
  · rw [h0, h2, h3]
    refine ⟨0, ⟨by omega, hl, hc⟩, rfl, rfl, rfl, ?_⟩
    have : bindsG (l.take 0) (l.drop 0) = false := h1
    rw [this]; rfl
  · rw [h0, h2, h3]
    refine ⟨0, ⟨by omega, hl, hc⟩, rfl, rfl, rfl, ?_⟩
    have hb : bindsG (l.take 0) (l.drop 0) = true := h4
    have hg : 0 + goodN (l.take 0) (l.drop 0) = l.length := by rw [Nat.zero_add]; exact goodN_all l [] h4
    rw [hb, hg, List.take_length]
    refine ⟨⟨((valid_eq t).1 h0).2.2, binds_okMs h4⟩, ?_⟩
    rw [putB_eq h0, h1]; rfl
  · rw [h0, h2, h3]
    refine ⟨0, ⟨by omega, hl, hc⟩, rfl, rfl, rfl, ?_⟩
    have hb : bindsG (l.take 0) (l.drop 0) = true := h4
    have hg : 0 + goodN (l.take 0) (l.drop 0) = l.length := by rw [Nat.zero_add]; exact goodN_all l [] h4
    rw [hb, hg, List.take_length]
    refine ⟨⟨((valid_eq t).1 h0).2.2, binds_okMs h4⟩, ?_⟩
    rw [putB_eq h0, h1, put_with h0]; rfl

theorem rput_ok (b : Bool) (l : List (Int × Ty)) (t : Ty) (ht : cnt t ≤ 1000) (hl : l.length ≤ 2000) (hc : allC l) : QJ 35 [.isl b none 0 (encB l), enc t] (putV l t) := by
  have hst : (enc t).still = true := enc_still t
  have hh : Hooks.Ok Tryz.prog g0 (hooks [(60, typeQ1), (62, bindsQ), (84, wiQ0)] [] []) := mkHooks_ok (all_cons type_hook1 (all_cons binds_hook (all_cons wi_hook0 all_nil))) all_nil all_nil
  rw [enc_D]
  refine QJ.by (hk := hooks [(60, typeQ1), (62, bindsQ), (84, wiQ0)] [] []) (by rw [← enc_D]; simp [AV.stillL, AV.still, hst, encB_still]) (by simp [putV, AV.still, AV.stillL, encD_still]) hh ?_
  unfold putV
  rw [rp_top]
  simp only [ex_enc, Ty.eta, ex_encB]
  refine ⟨by omega, ?_⟩
  have big : bindsB l = true → validB t = true → cnt (withT l t) ≤ 100000 := by
    intro hb hv
    have h1 := with_bound (bs := l) (B := 60) (by omega) (fun x hx => by
      have := binds_ok1 l [] hb x hx
      simp only [okB1, Bool.and_eq_true] at this
      exact ((valid_eq _).1 this.2).2.1) t
    have := ((valid_eq t).1 hv).2.1
    have h3 : 60 * cnt t ≤ 3600 := by omega
    omega
  rcases put_cases l t with ⟨h1, h2, h3⟩ | ⟨h0, h1, h2, h3⟩ | ⟨h0, h4, h1, h2, h3⟩ | ⟨h0, h4, h1, h2, h3⟩
  · rw [h1, h2, h3]; rfl
  · rw [h0, h1, h2, h3]; exact ⟨⟨hl, hc⟩, rfl⟩
  · rw [h0, h4, h1, h2, h3]; exact ⟨⟨hl, hc⟩, ⟨ht, hl, hc⟩, big h4 h0, rfl⟩
  · rw [h0, h4, h1, h2, h3]; exact ⟨⟨hl, hc⟩, ⟨ht, hl, hc⟩, big h4 h0, rfl⟩

end Go.Proofs.YtnmolpkkemljoaaGreatDoor
end
end

section
set_option linter.unusedSimpArgs false
namespace Kd
open Go.Am Go.Proofs.YtnmolpkkemljoaaGreatDoor

theorem sameB_refl : ∀ t, sameB t t = true := by
  have key : ∀ (N : Nat), (∀ t, SizeOf.sizeOf t < N → sameB t t = true) ∧ ∀ l, SizeOf.sizeOf l < N → sameL l l = true := by
    intro N
    induction N with
    | zero => exact ⟨fun _ h => by omega, fun _ h => by omega⟩
    | succ N ih =>
      obtain ⟨ih1, ih2⟩ := ih
      constructor
      · intro t ht
        cases t with
        | mk k n b l =>
          simp only [Ty.mk.sizeOf_spec] at ht
          simp [sameB, ih2 l (by omega)]
      · intro l hl
        cases l with
        | nil => rfl
        | cons x xs =>
          simp only [List.cons.sizeOf_spec] at hl
          simp only [sameL, ih1 x (by omega), ih2 xs (by omega), Bool.and_self]
  exact fun t => (key (SizeOf.sizeOf t + 1)).1 t (by omega)
end Kd
end
