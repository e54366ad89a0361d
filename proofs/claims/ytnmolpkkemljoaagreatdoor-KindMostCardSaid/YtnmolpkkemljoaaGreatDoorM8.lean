/-
  What the proof is built of: Lists of numbers, and types, that are the same; the variables of a type, by the reference. The conditions of K17, evaluated. Lists of numbers, and types, that are the same; the variables of a type: what the reference's functions come to. Types with bindings put in them, numbered types: the reference's functions. Types with bindings put in them, numbered types: what the reference's functions come to. The program's Vars: the range and its walk. The program's clean; a map of bindings. The conditions of K20, evaluated. The program's clean comes to what the reference's does. put: how many types there are in what is put. The conditions of K21, evaluated. put: how many types there are in what is put, is counted. put: its walk. put: its walk comes to what it says. put, wherever the map lies. The program's Number. A numbered type: put and the reference's With make the same of it, and it is valid. A type is the same as itself, a list is. Conditions: none.
-/
import Derived.Test.YtnmolpkkemljoaaGreatDoorM6
import Derived.Test.YtnmolpkkemljoaaGreatDoorM7
set_option linter.unusedVariables false
set_option linter.unusedSimpArgs false
set_option maxHeartbeats 8000000
set_option maxRecDepth 100000
section
namespace Kd
open Go.Am Go.Proofs.YtnmolpkkemljoaaGreatDoor
mutual
def sameB : Ty → Ty → Bool
 | .mk k n _ l, .mk k' n' _ l' => decide (k = k') && ((!decide (k = 6) || decide (n = n')) && (decide (l.length = l'.length) && sameL l l'))
def sameL : List Ty → List Ty → Bool
 | x :: xs, y :: ys => sameB x y && sameL xs ys
 | _, _ => true
end
def addV (l : List Int) (n : Int) : List Int := if l.contains n then l else l ++ [n]
mutual
def firstT : Ty → List Int → List Int
 | .mk k n _ l, xs => firstL l (if k = 6 then addV xs n else xs)
def firstL : List Ty → List Int → List Int
 | [], xs => xs
 | x :: l, xs => firstL l (firstT x xs)
end
end Kd
noncomputable section
namespace Go.Proofs.YtnmolpkkemljoaaGreatDoor
open Go Go.Am Kd
def tyC (t : Ty) : ABlk := .cells [.int .i64 t.kind, .int .i64 t.n, .isl t.nl none 0 (encL t.l)] 24
def saSt (t u : Ty) : LSt Nat Bool where
 n := 2
 nf := 0
 rd := none
 fr x := frm 51 [(2, .ptr 0 0), (3, .ptr 1 0), (5, .int .i64 x)]
 hp _ := ⟨[tyC t, tyC u], []⟩
 inv x := x ≤ t.l.length ∧ t.l.length = u.l.length
 res x := sameL (t.l.drop x) (u.l.drop x)
 sel r := r
 out b' _ := match b' with
  | true => ⟨.exit 0, frm 51 [], ⟨[tyC t, tyC u], []⟩⟩
  | false => ⟨.ret, frm 51 [(4, .bool false)], ⟨[tyC t, tyC u], []⟩⟩
def saQ (N : Nat) : QSpec
 | [t, u], K => argTy t fun t => argTy u fun u => (SizeOf.sizeOf t < N ∧ wid t ≤ 1000 ∧ wid u ≤ 1000) ∧ K (.bool (sameB t u))
 | _, _ => False
def saH (N : Nat) : Hooks := hooks [(23, saQ N)] [] []
def saH' (t u : Ty) : Hooks := hooks [] [] [(4, ⟨23, 0, (saSt t u).spec⟩)]
structure FSt where
 i : Nat
 b : Bool
 l : List Int
 e : Nat
end Go.Proofs.YtnmolpkkemljoaaGreatDoor
end
end
section
noncomputable section
namespace Go.Proofs.YtnmolpkkemljoaaGreatDoor
open Go Go.Am Kd Go.Am.AV Go.IntKind
theorem sa_loop (t u : Ty) (N : Nat) (meas : Nat → Nat) (x : Nat) : (runL (saH N) 60 23 0 (saSt t u) meas x) = ( bothR (decide (iC x < iC (List.length (encL (Ty.l t))))) (0 ≤ iC x ∧ ∃ x_1, (encL (Ty.l t))[Int.toNat (iC x)]? = some (agg [int i64 (Ty.kind x_1), int i64 (Ty.n x_1), isl (Ty.nl x_1) none (0) (encL (Ty.l x_1))]) ∧ 0 ≤ iC x ∧ ∃ x_2, (encL (Ty.l u))[Int.toNat (iC x)]? = some (agg [int i64 (Ty.kind x_2), int i64 (Ty.n x_2), isl (Ty.nl x_2) none (0) (encL (Ty.l x_2))]) ∧ ∃ l, encL (Ty.l x_1) = encL l ∧ ∃ l_1,
 encL (Ty.l x_2) = encL l_1 ∧ (SizeOf.sizeOf (Ty.mk (Ty.kind x_1) (Ty.n x_1) (Ty.nl x_1) l) < N ∧ wid (Ty.mk (Ty.kind x_1) (Ty.n x_1) (Ty.nl x_1) l) ≤ 1000 ∧ wid (Ty.mk (Ty.kind x_2) (Ty.n x_2) (Ty.nl x_2) l_1) ≤ 1000) ∧ bothR (!sameB (Ty.mk (Ty.kind x_1) (Ty.n x_1) (Ty.nl x_1) l) (Ty.mk (Ty.kind x_2) (Ty.n x_2) (Ty.nl x_2) l_1)) (sameL (List.drop x (Ty.l t)) (List.drop x (Ty.l u)) = false ∧ bool false = bool false ∧ 24 = 24 ∧ int i64 (Ty.kind t) = int i64 (Ty.kind t) ∧ int i64 (Ty.n t) = int i64 (Ty.n t) ∧
 isl (Ty.nl t) none (0) (encL (Ty.l t)) = isl (Ty.nl t) none (0) (encL (Ty.l t)) ∧ 24 = 24 ∧ int i64 (Ty.kind u) = int i64 (Ty.kind u) ∧ int i64 (Ty.n u) = int i64 (Ty.n u) ∧ isl (Ty.nl u) none (0) (encL (Ty.l u)) = isl (Ty.nl u) none (0) (encL (Ty.l u)) ∧ 0 = 0 ∧ True) (∃ y, (y ≤ List.length (Ty.l t) ∧ List.length (Ty.l t) = List.length (Ty.l u)) ∧ meas y < meas x ∧ sameL (List.drop y (Ty.l t)) (List.drop y (Ty.l u)) = sameL (List.drop x (Ty.l t)) (List.drop x (Ty.l u)) ∧ ptr (0) (0) = ptr (0) (0) ∧
 ptr (1) (0) = ptr (1) (0) ∧ int i64 (IntKind.wrap IntKind.i64 (iC x + (1 : Int))) = int i64 (iC y) ∧ 24 = 24 ∧ int i64 (Ty.kind t) = int i64 (Ty.kind t) ∧ int i64 (Ty.n t) = int i64 (Ty.n t) ∧ isl (Ty.nl t) none (0) (encL (Ty.l t)) = isl (Ty.nl t) none (0) (encL (Ty.l t)) ∧ 24 = 24 ∧ int i64 (Ty.kind u) = int i64 (Ty.kind u) ∧ int i64 (Ty.n u) = int i64 (Ty.n u) ∧ isl (Ty.nl u) none (0) (encL (Ty.l u)) = isl (Ty.nl u) none (0) (encL (Ty.l u)) ∧ 0 = 0 ∧ True))
 (sameL (List.drop x (Ty.l t)) (List.drop x (Ty.l u)) = true ∧ 24 = 24 ∧ int i64 (Ty.kind t) = int i64 (Ty.kind t) ∧ int i64 (Ty.n t) = int i64 (Ty.n t) ∧ isl (Ty.nl t) none (0) (encL (Ty.l t)) = isl (Ty.nl t) none (0) (encL (Ty.l t)) ∧ 24 = 24 ∧ int i64 (Ty.kind u) = int i64 (Ty.kind u) ∧ int i64 (Ty.n u) = int i64 (Ty.n u) ∧ isl (Ty.nl u) none (0) (encL (Ty.l u)) = isl (Ty.nl u) none (0) (encL (Ty.l u)) ∧ 0 = 0 ∧ True)) := by kernel_rfl
theorem sa_top (t u : Ty) (r : Bool) : (runF (saH' t u) 60 23 [encD t, encD u] AH.nil (retIs Tryz.prog 5 (.bool r))) = ( bothR (!decide (Ty.kind t = Ty.kind u)) (bool false = bool r) (bothR (decide (Ty.kind t = (6 : Int))) (bothR (!decide (Ty.n t = Ty.n u)) (bool false = bool r) (bothR (!decide (iC (List.length (encL (Ty.l t))) = iC (List.length (encL (Ty.l u))))) (bool false = bool r) (codeIs (loopOf Tryz.prog 23 0) Tryz.prog 23 0 (∃ x, (x ≤ List.length (Ty.l t) ∧ List.length (Ty.l t) = List.length (Ty.l u)) ∧ ptr (0) (0) = ptr (0) (0) ∧
 ptr (1) (0) = ptr (1) (0) ∧ int i64 (0) = int i64 (iC x) ∧ 24 = 24 ∧ int i64 (Ty.kind t) = int i64 (Ty.kind t) ∧ int i64 (Ty.n t) = int i64 (Ty.n t) ∧ isl (Ty.nl t) none (0) (encL (Ty.l t)) = isl (Ty.nl t) none (0) (encL (Ty.l t)) ∧ 24 = 24 ∧ int i64 (Ty.kind u) = int i64 (Ty.kind u) ∧ int i64 (Ty.n u) = int i64 (Ty.n u) ∧ isl (Ty.nl u) none (0) (encL (Ty.l u)) = isl (Ty.nl u) none (0) (encL (Ty.l u)) ∧ 0 = 0 ∧
 bothR (sameL (List.drop x (Ty.l t)) (List.drop x (Ty.l u))) (bool true = bool r) (bool false = bool r))))) (bothR (!decide (iC (List.length (encL (Ty.l t))) = iC (List.length (encL (Ty.l u))))) (bool false = bool r) (codeIs (loopOf Tryz.prog 23 0) Tryz.prog 23 0 (∃ x, (x ≤ List.length (Ty.l t) ∧ List.length (Ty.l t) = List.length (Ty.l u)) ∧ ptr (0) (0) = ptr (0) (0) ∧ ptr (1) (0) = ptr (1) (0) ∧ int i64 (0) = int i64 (iC x) ∧ 24 = 24 ∧ int i64 (Ty.kind t) = int i64 (Ty.kind t) ∧
 int i64 (Ty.n t) = int i64 (Ty.n t) ∧ isl (Ty.nl t) none (0) (encL (Ty.l t)) = isl (Ty.nl t) none (0) (encL (Ty.l t)) ∧ 24 = 24 ∧ int i64 (Ty.kind u) = int i64 (Ty.kind u) ∧ int i64 (Ty.n u) = int i64 (Ty.n u) ∧ isl (Ty.nl u) none (0) (encL (Ty.l u)) = isl (Ty.nl u) none (0) (encL (Ty.l u)) ∧ 0 = 0 ∧ bothR (sameL (List.drop x (Ty.l t)) (List.drop x (Ty.l u))) (bool true = bool r) (bool false = bool r)))))) := by kernel_rfl
end Go.Proofs.YtnmolpkkemljoaaGreatDoor
end
end
section
noncomputable section
namespace Go.Proofs.YtnmolpkkemljoaaGreatDoor
open Go Go.Am Kd
theorem tl_mk (k n : Int) (b : Bool) (l : List Ty) : (Ty.mk k n b l).l = l := rfl
theorem tk_mk (k n : Int) (b : Bool) (l : List Ty) : (Ty.mk k n b l).kind = k := rfl
theorem tn_mk (k n : Int) (b : Bool) (l : List Ty) : (Ty.mk k n b l).n = n := rfl
theorem tb_mk (k n : Int) (b : Bool) (l : List Ty) : (Ty.mk k n b l).nl = b := rfl
theorem sa_hook {N : Nat} (ih : ∀ t u, SizeOf.sizeOf t < N → wid t ≤ 1000 → wid u ≤ 1000 → QJ 23 [enc t, enc u] (.bool (sameB t u))) : QSpec.Ok Tryz.prog g0 23 (saQ N) := by
 intro args K h'
 unfold saQ at h'
 split at h'
 ·obtain ⟨t, rfl, h1⟩ := argTy_elim h'
  obtain ⟨u, rfl, h2, h3⟩ := argTy_elim h1
  exact ⟨_, ih t u h2.1 h2.2.1 h2.2.2, h3⟩
 ·exact h'.elim
theorem samew_ok (t u : Ty) (hc : wid t ≤ 1000) (hd : wid u ≤ 1000) : QJ 23 [enc t, enc u] (.bool (sameB t u)) := by
 have key : ∀ (N : Nat) (t u : Ty), SizeOf.sizeOf t < N → wid t ≤ 1000 → wid u ≤ 1000 → QJ 23 [enc t, enc u] (.bool (sameB t u)) := by
  intro N
  induction N with
  | zero => intro t u h; omega
  | succ N ih =>
   intro t u ht hc hd
   have hl : LHook.Ok Tryz.prog g0 ⟨23, 0, (saSt t u).spec⟩ := by
    refine LSt.by (hk := saH N) (saSt t u) (fun x => t.l.length - x) (mkHooks_ok (all_cons (sa_hook ih) all_nil) all_nil all_nil) rfl ?_ ?_ ?_
    ·intro x _
     exact Whole.frm rfl rfl rfl (by simp [saSt, tyC, ABlk.bnd, AV.bndL, AV.bnd, encL_bnd])
    ·intro x b' _
     cases b' <;> exact Whole.frm rfl rfl rfl (by simp [saSt, tyC, ABlk.bnd, AV.bndL, AV.bnd, encL_bnd])
    ·rintro i ⟨hi, he⟩
     obtain ⟨k, n, b, l⟩ := t
     obtain ⟨k', n', b', l'⟩ := u
     simp only [tl_mk] at hi he
     simp only [Ty.mk.sizeOf_spec] at ht
     have hlen := wid_len k n b l
     have hlen' := wid_len k' n' b' l'
     rw [sa_loop]
     simp only [iC, encL_length, eq_self, true_and, and_true, Int.toNat_natCast, AV.int.injEq, tl_mk]
     refine bothR_dec (fun hlt => ?_) fun hge => ?_
     ·have hi' : i < l.length := by omega
      have hj' : i < l'.length := by omega
      have hs := List.sizeOf_lt_of_mem (List.getElem_mem hi')
      have hg := wid_get (k := k) (n := n) (b := b) hi'
      have hg' := wid_get (k := k') (n := n') (b := b') hj'
      have hd : l.drop i = l[i] :: l.drop (i + 1) := List.drop_eq_getElem_cons hi'
      have hd' : l'.drop i = l'[i] :: l'.drop (i + 1) := List.drop_eq_getElem_cons hj'
      rw [ex_get hi']
      refine ⟨by omega, by omega, ?_⟩
      rw [ex_get hj']
      simp only [ex_enc, Ty.eta]
      refine ⟨⟨by omega, by omega, by omega⟩, bothR_nbool (fun hb => ?_) fun hb => ⟨i + 1, ⟨by omega, he⟩, by omega, ?_, ?_⟩⟩
      ·rw [hd, hd']; simp only [sameL, hb, Bool.false_and]
      ·rw [hd, hd']; simp only [sameL, hb, Bool.true_and]
      ·rw [wrap_id (by omega) (by omega)]; rfl
     ·rw [List.drop_of_length_le (by omega), List.drop_of_length_le (by omega)]; rfl
   rw [enc_D, enc_D]
   refine QJ.by (hk := saH' t u) (by rw [← enc_D, ← enc_D]; simp [AV.stillL, enc_still]) rfl (mkHooks_ok all_nil all_nil (all_cons hl all_nil)) ?_
   rw [sa_top]
   obtain ⟨k, n, b, l⟩ := t
   obtain ⟨k', n', b', l'⟩ := u
   simp only [iC, encL_length, eq_self, true_and, codeIs_self, AV.bool.injEq, AV.int.injEq, sameB, tk_mk, tn_mk, tl_mk]
   have fin : bothR (sameL (List.drop 0 l) (List.drop 0 l')) (true = sameL l l') (false = sameL l l') := by
    rw [List.drop_zero, List.drop_zero]
    exact bothR_bool (fun h => h.symm) fun h => h.symm
   refine bothR_ndec (fun h => by rw [decide_eq_false h]; rfl) fun hk => bothR_dec (fun h6 => bothR_ndec (fun hn => ?_) fun hn => bothR_ndec (fun hl => ?_) fun hl => ⟨0, ⟨by omega, by omega⟩, rfl, ?_⟩) fun h6 => bothR_ndec (fun hl => ?_) fun hl => ⟨0, ⟨by omega, by omega⟩, rfl, ?_⟩
   ·rw [decide_eq_true hk, decide_eq_true h6, decide_eq_false hn]; rfl
   ·rw [decide_eq_true hk, decide_eq_true h6, decide_eq_true hn, decide_eq_false (p := l.length = l'.length) (by omega)]; rfl
   ·rw [decide_eq_true hk, decide_eq_true h6, decide_eq_true hn, decide_eq_true (p := l.length = l'.length) (by omega)]; exact fin
   ·rw [decide_eq_true hk, decide_eq_false h6, decide_eq_false (p := l.length = l'.length) (by omega)]; rfl
   ·rw [decide_eq_true hk, decide_eq_false h6, decide_eq_true (p := l.length = l'.length) (by omega)]; exact fin
 exact key (SizeOf.sizeOf t + 1) t u (by omega) hc hd
theorem same_ok (t u : Ty) (hc : cnt t ≤ 1000) (hd : cnt u ≤ 1000) : QJ 23 [enc t, enc u] (.bool (sameB t u)) :=
 samew_ok t u (Nat.le_trans (wid_cnt.1 t) hc) (Nat.le_trans (wid_cnt.1 u) hd)
end Go.Proofs.YtnmolpkkemljoaaGreatDoor
end
end
section
namespace Kd
open Go.Am Go.Proofs.YtnmolpkkemljoaaGreatDoor
def encB (l : List (Int × Ty)) : List AV := l.map bindD
def varT (n : Int) : Ty := .mk 6 n true []
def nilB {α : Type} (l : List α) : Bool := decide (l.length = 0)
mutual
def cleanT : Ty → Ty
 | .mk k n _ l => .mk k (if k = 6 then n else 0) (nilB l) (cleanL l)
def cleanL : List Ty → List Ty
 | [] => []
 | x :: xs => cleanT x :: cleanL xs
end
def boundO : List (Int × Ty) → Int → Option Ty
 | [], _ => none
 | x :: l, n => if x.1 = n then some x.2 else boundO l n
def boundT (l : List (Int × Ty)) (n : Int) : Ty := (boundO l n).getD (varT n)
mutual
def withT (bs : List (Int × Ty)) : Ty → Ty
 | .mk k n _ l => if k = 6 then cleanT (boundT bs n) else .mk k 0 (nilB l) (withL bs l)
def withL (bs : List (Int × Ty)) : List Ty → List Ty
 | [] => []
 | x :: xs => withT bs x :: withL bs xs
end
def numB : List Int → Nat → List (Int × Ty)
 | [], _ => []
 | n :: m, i => (n, varT i) :: numB m (i + 1)
def allC (l : List (Int × Ty)) : Prop := ∀ x ∈ l, cnt x.2 ≤ 1000
end Kd
noncomputable section
namespace Go.Proofs.YtnmolpkkemljoaaGreatDoor
open Go Go.Am Kd
def argBinds (v : AV) (K : Bool → List (Int × Ty) → Prop) : Prop :=
 match v with
 | .isl b none 0 xs => ∃ l, xs = encB l ∧ K b l
 | _ => False
theorem argBinds_elim {v : AV} {K : Bool → List (Int × Ty) → Prop} (h : argBinds v K) : ∃ b l, v = .isl b none 0 (encB l) ∧ K b l := by
 unfold argBinds at h
 split at h
 ·obtain ⟨l, rfl, h⟩ := h
  exact ⟨_, _, rfl, h⟩
 ·exact h.elim
def top3 : ABlk := .cells [.top, .top, .top] 24
structure ASt (α : Type) where
 i : Nat
 acc : List α
end Go.Proofs.YtnmolpkkemljoaaGreatDoor
end
end
section
noncomputable section
namespace Go.Proofs.YtnmolpkkemljoaaGreatDoor
open Go Go.Am Kd
theorem encB_length (l : List (Int × Ty)) : (encB l).length = l.length := by simp [encB]
theorem encB_get (l : List (Int × Ty)) (i : Nat) (h : i < l.length) : (encB l)[i]? = some (bindD l[i]) := by simp [encB, h]
theorem encB_still (l : List (Int × Ty)) : AV.stillL (encB l) = true := by
 induction l with
 | nil => rfl
 | cons x l ih => simp only [encB, List.map_cons, AV.stillL, bindD, AV.still, encL_still, Bool.true_and, Bool.and_true]; exact ih
theorem bindD_inj {x y : Int × Ty} (h : bindD x = bindD y) : x = y := by
 obtain ⟨a, t⟩ := x
 obtain ⟨b, u⟩ := y
 simp only [bindD, AV.agg.injEq, List.cons.injEq, AV.int.injEq, true_and, AV.isl.injEq, and_true] at h
 obtain ⟨h1, h2, h3, h4, h5⟩ := h
 have : enc t = enc u := by rw [enc_D, enc_D]; simp only [encD, h2, h3, h4, h5]
 rw [h1, enc_inj this]
theorem encB_inj {l m : List (Int × Ty)} (h : encB l = encB m) : l = m := by
 induction l generalizing m with
 | nil => cases m <;> simp_all [encB]
 | cons x l ih =>
  cases m with
  | nil => simp [encB] at h
  | cons y m =>
   simp only [encB, List.map_cons, List.cons.injEq] at h
   rw [bindD_inj h.1, ih h.2]
theorem encL_snoc (l : List Ty) (u : Ty) : encL l ++ [AV.agg [.int .i64 u.kind, .int .i64 u.n, .isl u.nl none 0 (encL u.l)]] = encL (l ++ [u]) := by
 have e : encL [u] = [AV.agg [.int .i64 u.kind, .int .i64 u.n, .isl u.nl none 0 (encL u.l)]] := by simp only [encL, enc_D]; rfl
 rw [← e, encL_map l, encL_map [u], encL_map (l ++ [u]), List.map_append]
theorem encL_sing (u : Ty) : [AV.agg [.int .i64 u.kind, .int .i64 u.n, .isl u.nl none 0 (encL u.l)]] = encL [u] := encL_snoc [] u
theorem ex_bind {l : List (Int × Ty)} {i : Nat} (h : i < l.length) {P : Int × Ty → Prop} : (∃ x, (encB l)[i]? = some (AV.agg [.int .i64 (Prod.fst x), .int .i64 (Ty.kind (Prod.snd x)), .int .i64 (Ty.n (Prod.snd x)), .isl (Ty.nl (Prod.snd x)) none 0 (encL (Ty.l (Prod.snd x)))]) ∧ P x) = P l[i] := by
 have e := encB_get l i h
 refine propext ⟨fun ⟨x, h1, h2⟩ => ?_, fun hp => ⟨l[i], e, hp⟩⟩
 rw [e] at h1
 rw [bindD_inj (Option.some.inj h1)]; exact h2
theorem ex_encB {l : List (Int × Ty)} {P : List (Int × Ty) → Prop} : (∃ l', encB l = encB l' ∧ P l') = P l :=
 propext ⟨fun ⟨l', h, hp⟩ => by rw [encB_inj h]; exact hp, fun h => ⟨l, rfl, h⟩⟩
theorem encD_still (u : Ty) : (encD u).still = true := by rw [← enc_D]; exact enc_still u
theorem cleanL_len : ∀ l, (cleanL l).length = l.length
 | [] => rfl
 | x :: xs => by simp [cleanL, cleanL_len xs]
def numT (t : Ty) : Ty := withT (numB (firstT t []) 0) t
end Go.Proofs.YtnmolpkkemljoaaGreatDoor
end
end
section
namespace Kd
open Go.Am Go.Proofs.YtnmolpkkemljoaaGreatDoor
end Kd
noncomputable section
namespace Go.Proofs.YtnmolpkkemljoaaGreatDoor
open Go Go.Am Kd
structure VSt where
 i : Nat
 l : List Int
end Go.Proofs.YtnmolpkkemljoaaGreatDoor
end
end
section
namespace Kd
open Go.Am Go.Proofs.YtnmolpkkemljoaaGreatDoor
def entM (x : Int × Ty × Nat) : AV × AV × Nat := (.int .i64 x.1, encD x.2.1, x.2.2)
def encM (l : List (Int × Ty × Nat)) : List (AV × AV × Nat) := l.map entM
end Kd
noncomputable section
namespace Go.Proofs.YtnmolpkkemljoaaGreatDoor
open Go Go.Am Kd
def kclQ (N : Nat) : QSpec
 | [t], K => argTy t fun t => (SizeOf.sizeOf t < N ∧ okT t = true) ∧ K (encD (cleanT t))
 | _, _ => False
def kclQ0 : QSpec
 | [t], K => argTy t fun t => (okT t = true) ∧ K (encD (cleanT t))
 | _, _ => False
def kclH (N : Nat) : Hooks := hooks [(68, kclQ N)] [] []
end Go.Proofs.YtnmolpkkemljoaaGreatDoor
end
end
section
noncomputable section
namespace Go.Proofs.YtnmolpkkemljoaaGreatDoor
open Go Go.Am Kd Go.Am.AV Go.IntKind
theorem kcl_top0 (k n : Int) (b : Bool) (N : Nat) (r : Ty) : (runF (kclH N) 60 68 [.agg [.int .i64 k, .int .i64 n, .isl b none 0 []]] AH.nil (retIs Tryz.prog 5 (encD r))) = ( bothR (decide (k = (6 : Int))) (agg [int i64 k, int i64 n, isl true none (0) []] = agg [int i64 (Ty.kind r), int i64 (Ty.n r), isl (Ty.nl r) none (0) (encL (Ty.l r))]) (agg [int i64 k, int i64 (0), isl true none (0) []] =
 agg [int i64 (Ty.kind r), int i64 (Ty.n r), isl (Ty.nl r) none (0) (encL (Ty.l r))])) := by kernel_rfl
theorem kcl_top1 (k n : Int) (b : Bool) (x : Ty) (N : Nat) (r : Ty) : (runF (kclH N) 60 68 [.agg [.int .i64 k, .int .i64 n, .isl b none 0 [encD x]]] AH.nil (retIs Tryz.prog 5 (encD r))) = ( bothR (decide (k = (6 : Int))) (∃ l, encL (Ty.l x) = encL l ∧ (SizeOf.sizeOf (Ty.mk (Ty.kind x) (Ty.n x) (Ty.nl x) l) < N ∧ okT (Ty.mk (Ty.kind x) (Ty.n x) (Ty.nl x) l) = true) ∧ agg [int i64 k, int i64 n, isl false none (0) [agg
 [int i64 (Ty.kind (cleanT (Ty.mk (Ty.kind x) (Ty.n x) (Ty.nl x) l))), int i64 (Ty.n (cleanT (Ty.mk (Ty.kind x) (Ty.n x) (Ty.nl x) l))), isl (Ty.nl (cleanT (Ty.mk (Ty.kind x) (Ty.n x) (Ty.nl x) l))) none (0) (encL (Ty.l (cleanT (Ty.mk (Ty.kind x) (Ty.n x) (Ty.nl x) l))))]]] = agg [int i64 (Ty.kind r), int i64 (Ty.n r), isl (Ty.nl r) none (0) (encL (Ty.l r))]) (∃ l, encL (Ty.l x) = encL l ∧ (SizeOf.sizeOf (Ty.mk (Ty.kind x) (Ty.n x) (Ty.nl x) l) < N ∧ okT (Ty.mk (Ty.kind x) (Ty.n x) (Ty.nl x) l) = true) ∧ agg
 [int i64 k, int i64 (0), isl false none (0) [agg [int i64 (Ty.kind (cleanT (Ty.mk (Ty.kind x) (Ty.n x) (Ty.nl x) l))), int i64 (Ty.n (cleanT (Ty.mk (Ty.kind x) (Ty.n x) (Ty.nl x) l))), isl (Ty.nl (cleanT (Ty.mk (Ty.kind x) (Ty.n x) (Ty.nl x) l))) none (0) (encL (Ty.l (cleanT (Ty.mk (Ty.kind x) (Ty.n x) (Ty.nl x) l))))]]] = agg [int i64 (Ty.kind r), int i64 (Ty.n r), isl (Ty.nl r) none (0) (encL (Ty.l r))])) := by kernel_rfl
theorem kcl_top2 (k n : Int) (b : Bool) (x y : Ty) (N : Nat) (r : Ty) : (runF (kclH N) 60 68 [.agg [.int .i64 k, .int .i64 n, .isl b none 0 [encD x, encD y]]] AH.nil (retIs Tryz.prog 5 (encD r))) = ( bothR (decide (k = (6 : Int))) (∃ l, encL (Ty.l x) = encL l ∧ (SizeOf.sizeOf (Ty.mk (Ty.kind x) (Ty.n x) (Ty.nl x) l) < N ∧ okT (Ty.mk (Ty.kind x) (Ty.n x) (Ty.nl x) l) = true) ∧ ∃ l_1, encL (Ty.l y) = encL l_1 ∧ (SizeOf.sizeOf (Ty.mk (Ty.kind y) (Ty.n y) (Ty.nl y) l_1) < N ∧ okT (Ty.mk (Ty.kind y) (Ty.n y) (Ty.nl y) l_1) = true) ∧ agg [int i64 k, int i64 n,
 isl false none (0) [agg [int i64 (Ty.kind (cleanT (Ty.mk (Ty.kind x) (Ty.n x) (Ty.nl x) l))), int i64 (Ty.n (cleanT (Ty.mk (Ty.kind x) (Ty.n x) (Ty.nl x) l))), isl (Ty.nl (cleanT (Ty.mk (Ty.kind x) (Ty.n x) (Ty.nl x) l))) none (0) (encL (Ty.l (cleanT (Ty.mk (Ty.kind x) (Ty.n x) (Ty.nl x) l))))], agg [int i64 (Ty.kind (cleanT (Ty.mk (Ty.kind y) (Ty.n y) (Ty.nl y) l_1))), int i64 (Ty.n (cleanT (Ty.mk (Ty.kind y) (Ty.n y) (Ty.nl y) l_1))), isl (Ty.nl (cleanT (Ty.mk (Ty.kind y) (Ty.n y) (Ty.nl y) l_1))) none (0)
 (encL (Ty.l (cleanT (Ty.mk (Ty.kind y) (Ty.n y) (Ty.nl y) l_1))))]]] = agg [int i64 (Ty.kind r), int i64 (Ty.n r), isl (Ty.nl r) none (0) (encL (Ty.l r))]) (∃ l, encL (Ty.l x) = encL l ∧ (SizeOf.sizeOf (Ty.mk (Ty.kind x) (Ty.n x) (Ty.nl x) l) < N ∧ okT (Ty.mk (Ty.kind x) (Ty.n x) (Ty.nl x) l) = true) ∧ ∃ l_1, encL (Ty.l y) = encL l_1 ∧ (SizeOf.sizeOf (Ty.mk (Ty.kind y) (Ty.n y) (Ty.nl y) l_1) < N ∧ okT (Ty.mk (Ty.kind y) (Ty.n y) (Ty.nl y) l_1) = true) ∧ agg [int i64 k, int i64 (0), isl false none (0) [agg
 [int i64 (Ty.kind (cleanT (Ty.mk (Ty.kind x) (Ty.n x) (Ty.nl x) l))), int i64 (Ty.n (cleanT (Ty.mk (Ty.kind x) (Ty.n x) (Ty.nl x) l))), isl (Ty.nl (cleanT (Ty.mk (Ty.kind x) (Ty.n x) (Ty.nl x) l))) none (0) (encL (Ty.l (cleanT (Ty.mk (Ty.kind x) (Ty.n x) (Ty.nl x) l))))], agg [int i64 (Ty.kind (cleanT (Ty.mk (Ty.kind y) (Ty.n y) (Ty.nl y) l_1))), int i64 (Ty.n (cleanT (Ty.mk (Ty.kind y) (Ty.n y) (Ty.nl y) l_1))), isl (Ty.nl (cleanT (Ty.mk (Ty.kind y) (Ty.n y) (Ty.nl y) l_1))) none (0)
 (encL (Ty.l (cleanT (Ty.mk (Ty.kind y) (Ty.n y) (Ty.nl y) l_1))))]]] = agg [int i64 (Ty.kind r), int i64 (Ty.n r), isl (Ty.nl r) none (0) (encL (Ty.l r))])) := by kernel_rfl
end Go.Proofs.YtnmolpkkemljoaaGreatDoor
end
end
section
noncomputable section
namespace Go.Proofs.YtnmolpkkemljoaaGreatDoor
open Go Go.Am Kd
theorem ok_node {k n : Int} {b : Bool} {l : List Ty} (h : okT (.mk k n b l) = true) : NodeOk (.mk k n b l) ∧ okL l = true := by
 simp only [okT, Bool.and_eq_true, decide_eq_true_eq] at h
 exact h
theorem parts_cases {k n : Int} {b : Bool} {l : List Ty} (h : okT (.mk k n b l) = true) : l = [] ∨ (∃ x, l = [x] ∧ okT x = true) ∨ ∃ x y, l = [x, y] ∧ okT x = true ∧ okT y = true := by
 obtain ⟨hn, hl⟩ := ok_node h
 simp only [NodeOk] at hn
 obtain ⟨h1, h2, h3, h4, h5, h6⟩ := hn
 have hlen : l.length ≤ 2 := by
  have : k = 0 ∨ k = 1 ∨ k = 6 ∨ k = 2 ∨ k = 3 ∨ k = 5 ∨ k = 4 := by omega
  rcases this with h | h | h | h | h | h | h
  ·have := h3 (.inl h); omega
  ·have := h3 (.inr (.inl h)); omega
  ·have := h3 (.inr (.inr h)); omega
  ·have := h4 (.inl h); omega
  ·have := h4 (.inr (.inl h)); omega
  ·have := h4 (.inr (.inr h)); omega
  ·have := h5 h; omega
 match l, hlen with
 | [], _ => exact .inl rfl
 | [x], _ => exact .inr (.inl ⟨x, rfl, okL_mem hl x (by simp)⟩)
 | [x, y], _ => exact .inr (.inr ⟨x, y, rfl, okL_mem hl x (by simp), okL_mem hl y (by simp)⟩)
theorem kcl_hook {N : Nat} (ih : ∀ t, SizeOf.sizeOf t < N → okT t = true → QJ 68 [enc t] (encD (cleanT t))) : QSpec.Ok Tryz.prog g0 68 (kclQ N) := by
 intro args K h'
 unfold kclQ at h'
 split at h'
 ·obtain ⟨t, rfl, h1, h2⟩ := argTy_elim h'
  exact ⟨_, ih t h1.1 h1.2, h2⟩
 ·exact h'.elim
theorem kclean_ok (t : Ty) (ho : okT t = true) : QJ 68 [enc t] (encD (cleanT t)) := by
 have key : ∀ (N : Nat) (t : Ty), SizeOf.sizeOf t < N → okT t = true → QJ 68 [enc t] (encD (cleanT t)) := by
  intro N
  induction N with
  | zero => intro t h; omega
  | succ N ih =>
   intro t ht ho
   obtain ⟨k, n, nl, ts⟩ := t
   simp only [Ty.mk.sizeOf_spec] at ht
   have hh : Hooks.Ok Tryz.prog g0 (kclH N) := mkHooks_ok (all_cons (kcl_hook ih) all_nil) all_nil all_nil
   refine QJ.by (hk := kclH N) (by simp [AV.stillL, enc_still]) (encD_still _) hh ?_
   rcases parts_cases ho with rfl | ⟨x, rfl, hx⟩ | ⟨x, y, rfl, hx, hy⟩
   ·show runF (kclH N) 60 68 [.agg [.int .i64 k, .int .i64 n, .isl nl none 0 []]] AH.nil _
    rw [kcl_top0]
    refine bothR_dec (fun h6 => ?_) fun h6 => ?_
    ·simp only [cleanT, h6, if_true]; rfl
    ·simp only [cleanT, h6, if_false]; rfl
   ·have e : enc (.mk k n nl [x]) = .agg [.int .i64 k, .int .i64 n, .isl nl none 0 [encD x]] := by simp only [enc, encL, enc_D]
    rw [e, kcl_top1]
    simp only [List.cons.sizeOf_spec] at ht
    simp only [ex_enc, Ty.eta]
    refine bothR_dec (fun h6 => ⟨⟨by omega, hx⟩, ?_⟩) fun h6 => ⟨⟨by omega, hx⟩, ?_⟩
    ·simp only [encL_sing, cleanT, cleanL, h6, if_true]; rfl
    ·simp only [encL_sing, cleanT, cleanL, h6, if_false]; rfl
   ·have e : enc (.mk k n nl [x, y]) = .agg [.int .i64 k, .int .i64 n, .isl nl none 0 [encD x, encD y]] := by simp only [enc, encL, enc_D]
    rw [e, kcl_top2]
    simp only [List.cons.sizeOf_spec] at ht
    simp only [ex_enc, Ty.eta]
    have e2 : ∀ u v : Ty, [AV.agg [.int .i64 u.kind, .int .i64 u.n, .isl u.nl none 0 (encL u.l)], AV.agg [.int .i64 v.kind, .int .i64 v.n, .isl v.nl none 0 (encL v.l)]] = encL [u, v] := fun u v => by
     simp only [encL, enc_D]; rfl
    refine bothR_dec (fun h6 => ⟨⟨by omega, hx⟩, ⟨by omega, hy⟩, ?_⟩) fun h6 => ⟨⟨by omega, hx⟩, ⟨by omega, hy⟩, ?_⟩
    ·simp only [e2, cleanT, cleanL, h6, if_true]; rfl
    ·simp only [e2, cleanT, cleanL, h6, if_false]; rfl
 exact key (SizeOf.sizeOf t + 1) t (by omega) ho
theorem kcl_hook0 : QSpec.Ok Tryz.prog g0 68 kclQ0 := by
 intro args K h'
 unfold kclQ0 at h'
 split at h'
 ·obtain ⟨t, rfl, h1, h2⟩ := argTy_elim h'
  exact ⟨_, kclean_ok t h1, h2⟩
 ·exact h'.elim
end Go.Proofs.YtnmolpkkemljoaaGreatDoor
end
end
section
noncomputable section
namespace Go.Proofs.YtnmolpkkemljoaaGreatDoor
open Go Go.Am Kd
def pwB (es : List (Int × Ty × Nat)) (c : Nat) (left : Int) : List ABlk :=
 [.map (encM es) c, .cells [.map 0] 74, top3, top3, .cells [.int .i64 left] 3, .cells [.fn (.func 118) [] [.ptr 1 0, .ptr 4 0, .ptr 5 0]] 145]
def cnH (es : List (Int × Ty × Nat)) (c : Nat) (left d : Int) (u : Ty) (n : Int) : AH :=
 ⟨pwB es c left ++ [top3, .cells [.int .i64 d] 3, top3, tyC u, .cells [.int .i64 n] 3, .defers, .loop .ready none (frm 51 [(10, .ptr 10 0)]).tmps (rP 118 0) (rA 118 0) (rB 118 0) 11], []⟩
def cnW (A : AH) : AH := ⟨A.blks ++ [.cells [.fn (.yield 12) [] []] 42, .cells [.fn (.func 115) [] [.ptr 13 0, .ptr 14 0]] 42], []⟩
def cnX (A : AH) : AH := ⟨(cnW A).blks ++ [top3], []⟩
def cnPost (A' : AH) (o : AFin) : Prop :=
 match o.e with
 | .returned (.bool true) => BlksR o.A.blks A'.blks (FamR 0 o.A.fams [] True)
 | _ => False
def argCn (A : AH) (K : List (Int × Ty × Nat) → Nat → Int → Int → Ty → Int → Prop) : Prop :=
 match nthR A.blks 0, nthR A.blks 4, nthR A.blks 7, nthR A.blks 9, nthR A.blks 10 with
 | some (.map m c), some (.cells [.int .i64 left] 3), some (.cells [.int .i64 d] 3), some (.cells [.int .i64 k, .int .i64 q, .isl b none 0 xs] 24), some (.cells [.int .i64 n] 3) => ∃ es, m = encM es ∧ ∃ l, xs = encL l ∧ K es c left d (.mk k q b l) n
 | _, _, _, _, _ => False
def cnRound : RSpec := fun l args A K =>
 match l, args with
 | 12, [t] => argTy t fun _ => argCn A fun es c left d u n => (0 ≤ n ∧ n ≤ 1000) ∧ onR 0 A (cnH es c left d u n) (K ⟨.returned (.bool true), (cnH es c left d u (n + 1)).onto A⟩)
 | _, _ => False
def cwalkH (N : Nat) : HSpec := fun args A K =>
 match args with
 | [t, .ptr 13 0, .ptr 14 0] => argTy t fun t => argCn A fun es c left d u n => (SizeOf.sizeOf t < N ∧ cnt t ≤ 1000 ∧ 0 ≤ n ∧ n + cnt t ≤ 1000) ∧ onR 0 A (cnW (cnH es c left d u n)) (K ⟨.returned (.bool true), (cnW (cnH es c left d u (n + cnt t))).onto A⟩)
 | _ => False
def cwalkH0 : HSpec := fun args A K =>
 match args with
 | [t, .ptr 13 0, .ptr 14 0] => argTy t fun t => argCn A fun es c left d u n => (cnt t ≤ 1000 ∧ 0 ≤ n ∧ n + cnt t ≤ 1000) ∧ onR 0 A (cnW (cnH es c left d u n)) (K ⟨.returned (.bool true), (cnW (cnH es c left d u (n + cnt t))).onto A⟩)
 | _ => False
def cwSt (es : List (Int × Ty × Nat)) (c : Nat) (left d : Int) (u : Ty) (bb : Bool) (ts : List Ty) : LSt (Nat × Int) Int where
 n := 16
 nf := 0
 rd := none
 fr x := frm 23 [(2, .ptr 14 0), (12, .isl bb none 0 (encL ts)), (13, .int .i64 (encL ts).length), (14, .int .i64 x.1)]
 hp x := cnX (cnH es c left d u x.2)
 inv x := x.1 ≤ ts.length ∧ cntL ts ≤ 1000 ∧ 0 ≤ x.2 ∧ x.2 + cntL (ts.drop x.1) ≤ 1000
 res x := x.2 + cntL (ts.drop x.1)
 sel _ := true
 out _ r := ⟨.exit 0, frm 23 [], cnX (cnH es c left d u r)⟩
def cwH1 (N : Nat) : Hooks := mkHooks Tryz.prog [] [(115, cwalkH N)] []
def cwH2 (es : List (Int × Ty × Nat)) (c : Nat) (left d : Int) (u : Ty) (bb : Bool) (ts : List Ty) : Hooks := mkHooks Tryz.prog [] [] [(4, ⟨115, 0, (cwSt es c left d u bb ts).spec⟩)] (some cnRound)
end Go.Proofs.YtnmolpkkemljoaaGreatDoor
end
end
section
noncomputable section
namespace Go.Proofs.YtnmolpkkemljoaaGreatDoor
open Go Go.Am Kd Go.Am.AV Go.IntKind
theorem cn_round (es : List (Int × Ty × Nat)) (c : Nat) (left d : Int) (u : Ty) (n : Int) (t : Ty) : (runR hk0 60 12 [encD t] (cnH es c left d u n) (cnPost (cnH es c left d u (n + 1)))) = ( encM es = encM es ∧ c = c ∧ 74 = 74 ∧ SubR [AV.map (0)] [AV.map (0)] (24 = 24 ∧ 24 = 24 ∧ 3 = 3 ∧ int i64 left = int i64 left ∧ 145 = 145 ∧ SubR [AV.fn (Fn.func (118)) [] [ptr (1) (0), ptr (4) (0), ptr (5) (0)]] [AV.fn (Fn.func (118)) [] [ptr (1) (0), ptr (4) (0), ptr (5) (0)]] (24 = 24 ∧ 3 = 3 ∧ int i64 d = int i64 d ∧ 24 = 24 ∧ 24 = 24 ∧
 int i64 (Ty.kind u) = int i64 (Ty.kind u) ∧ int i64 (Ty.n u) = int i64 (Ty.n u) ∧ isl (Ty.nl u) none (0) (encL (Ty.l u)) = isl (Ty.nl u) none (0) (encL (Ty.l u)) ∧ 3 = 3 ∧ int i64 (IntKind.wrap IntKind.i64 (n + (1 : Int))) = int i64 (n + (1 : Int)) ∧ (LoopState.ready = LoopState.ready ∧ (none : Option Code) = none ∧ ((Array.mk (α := Nat) [26]), rA (76) (1), rB (118) (0)) = ((Array.mk (α := Nat) [26]), rA (76) (1), rB (118) (0)) ∧ 11 = 11) ∧ ptr (10) (0) = ptr (10) (0) ∧ 0 = 0 ∧ True))) := by kernel_rfl
theorem cw_loop (es : List (Int × Ty × Nat)) (c : Nat) (left d : Int) (u : Ty) (bb : Bool) (ts : List Ty) (N : Nat) (meas : Nat × Int → Nat) (x : Nat × Int) : (runL (cwH1 N) 60 115 0 (cwSt es c left d u bb ts) meas x) = ( bothR (decide (iC (Prod.fst x) < iC (List.length (encL ts)))) (0 ≤ iC (Prod.fst x) ∧ ∃ x_1, (encL ts)[Int.toNat (iC (Prod.fst x))]? = some (agg [int i64 (Ty.kind x_1), int i64 (Ty.n x_1), isl (Ty.nl x_1) none (0) (encL (Ty.l x_1))]) ∧ ∃ l, encL (Ty.l x_1) = encL l ∧ ∃ es_1, encM es = encM es_1 ∧ ∃ l_1, encL (Ty.l u) = encL l_1 ∧
 (SizeOf.sizeOf (Ty.mk (Ty.kind x_1) (Ty.n x_1) (Ty.nl x_1) l) < N ∧ cnt (Ty.mk (Ty.kind x_1) (Ty.n x_1) (Ty.nl x_1) l) ≤ 1000 ∧ 0 ≤ Prod.snd x ∧ Prod.snd x + iC (cnt (Ty.mk (Ty.kind x_1) (Ty.n x_1) (Ty.nl x_1) l)) ≤ 1000) ∧ encM es = encM es_1 ∧ c = c ∧ 74 = 74 ∧ SubR [AV.map (0)] [AV.map (0)] (24 = 24 ∧ 24 = 24 ∧ 3 = 3 ∧ int i64 left = int i64 left ∧ 145 = 145 ∧ SubR [AV.fn (Fn.func (118)) [] [ptr (1) (0), ptr (4) (0), ptr (5) (0)]] [AV.fn (Fn.func (118)) [] [ptr (1) (0), ptr (4) (0), ptr (5) (0)]] (24 = 24 ∧ 3 = 3 ∧
 int i64 d = int i64 d ∧ 24 = 24 ∧ 24 = 24 ∧ int i64 (Ty.kind u) = int i64 (Ty.kind u) ∧ int i64 (Ty.n u) = int i64 (Ty.n u) ∧ isl (Ty.nl u) none (0) (encL (Ty.l u)) = isl (Ty.nl u) none (0) (encL l_1) ∧ 3 = 3 ∧ int i64 (Prod.snd x) = int i64 (Prod.snd x) ∧ (LoopState.ready = LoopState.ready ∧ (none : Option Code) = none ∧ ((Array.mk (α := Nat) [26]), rA (76) (1), rB (118) (0)) = ((Array.mk (α := Nat) [26]), rA (76) (1), rB (118) (0)) ∧ 11 = 11) ∧ ptr (10) (0) = ptr (10) (0) ∧ 42 = 42 ∧
 SubR [AV.fn (Fn.yield (12)) [] []] [AV.fn (Fn.yield (12)) [] []] (42 = 42 ∧ SubR [AV.fn (Fn.func (115)) [] [ptr (13) (0), ptr (14) (0)]] [AV.fn (Fn.func (115)) [] [ptr (13) (0), ptr (14) (0)]] (0 = 0 ∧ ∃ y, (Prod.fst y ≤ List.length ts ∧ cntL ts ≤ 1000 ∧ 0 ≤ Prod.snd y ∧ Prod.snd y + iC (cntL (List.drop (Prod.fst y) ts)) ≤ 1000) ∧ meas y < meas x ∧ Prod.snd y + iC (cntL (List.drop (Prod.fst y) ts)) = Prod.snd x + iC (cntL (List.drop (Prod.fst x) ts)) ∧ ptr (14) (0) = ptr (14) (0) ∧ isl bb none (0) (encL ts) = isl bb none (0) (encL ts) ∧
 int i64 (iC (List.length (encL ts))) = int i64 (iC (List.length (encL ts))) ∧ int i64 (IntKind.wrap IntKind.i64 (iC (Prod.fst x) + (1 : Int))) = int i64 (iC (Prod.fst y)) ∧ encM es_1 = encM es ∧ c = c ∧ 74 = 74 ∧ SubR [AV.map (0)] [AV.map (0)] (24 = 24 ∧ 24 = 24 ∧ 3 = 3 ∧ int i64 left = int i64 left ∧ 145 = 145 ∧ SubR [AV.fn (Fn.func (118)) [] [ptr (1) (0), ptr (4) (0), ptr (5) (0)]] [AV.fn (Fn.func (118)) [] [ptr (1) (0), ptr (4) (0), ptr (5) (0)]] (24 = 24 ∧ 3 = 3 ∧
 int i64 d = int i64 d ∧ 24 = 24 ∧ 24 = 24 ∧ int i64 (Ty.kind u) = int i64 (Ty.kind u) ∧ int i64 (Ty.n u) = int i64 (Ty.n u) ∧ isl (Ty.nl u) none (0) (encL l_1) = isl (Ty.nl u) none (0) (encL (Ty.l u)) ∧ 3 = 3 ∧ int i64 (Prod.snd x + iC (cnt (Ty.mk (Ty.kind x_1) (Ty.n x_1) (Ty.nl x_1) l))) = int i64 (Prod.snd y) ∧ (LoopState.ready = LoopState.ready ∧ (none : Option Code) = none ∧ ((Array.mk (α := Nat) [26]), rA (76) (1), rB (118) (0)) = ((Array.mk (α := Nat) [26]), rA (76) (1), rB (118) (0)) ∧
 11 = 11) ∧ ptr (10) (0) = ptr (10) (0) ∧ 42 = 42 ∧ SubR [AV.fn (Fn.yield (12)) [] []] [AV.fn (Fn.yield (12)) [] []] (42 = 42 ∧ SubR [AV.fn (Fn.func (115)) [] [ptr (13) (0), ptr (14) (0)]] [AV.fn (Fn.func (115)) [] [ptr (13) (0), ptr (14) (0)]] (24 = 24 ∧ 0 = 0 ∧ True))))))))) (true = true ∧ encM es = encM es ∧ c = c ∧ 74 = 74 ∧ SubR [AV.map (0)] [AV.map (0)] (24 = 24 ∧ 24 = 24 ∧ 3 = 3 ∧ int i64 left = int i64 left ∧ 145 = 145 ∧ SubR [AV.fn (Fn.func (118)) [] [ptr (1) (0), ptr (4) (0), ptr (5) (0)]] [AV.fn (Fn.func (118)) []
 [ptr (1) (0), ptr (4) (0), ptr (5) (0)]] (24 = 24 ∧ 3 = 3 ∧ int i64 d = int i64 d ∧ 24 = 24 ∧ 24 = 24 ∧ int i64 (Ty.kind u) = int i64 (Ty.kind u) ∧ int i64 (Ty.n u) = int i64 (Ty.n u) ∧ isl (Ty.nl u) none (0) (encL (Ty.l u)) = isl (Ty.nl u) none (0) (encL (Ty.l u)) ∧ 3 = 3 ∧ int i64 (Prod.snd x) = int i64 (Prod.snd x + iC (cntL (List.drop (Prod.fst x) ts))) ∧ (LoopState.ready = LoopState.ready ∧ (none : Option Code) = none ∧ ((Array.mk (α := Nat) [26]), rA (76) (1), rB (118) (0)) =
 ((Array.mk (α := Nat) [26]), rA (76) (1), rB (118) (0)) ∧ 11 = 11) ∧ ptr (10) (0) = ptr (10) (0) ∧ 42 = 42 ∧ SubR [AV.fn (Fn.yield (12)) [] []] [AV.fn (Fn.yield (12)) [] []] (42 = 42 ∧ SubR [AV.fn (Fn.func (115)) [] [ptr (13) (0), ptr (14) (0)]] [AV.fn (Fn.func (115)) [] [ptr (13) (0), ptr (14) (0)]] (24 = 24 ∧ 0 = 0 ∧ True)))))) := by kernel_rfl
theorem cw_top (es : List (Int × Ty × Nat)) (c : Nat) (left d : Int) (u : Ty) (n m : Int) (t : Ty) : (runF (cwH2 es c left d u t.nl t.l) 60 115 [encD t, .ptr 13 0, .ptr 14 0] (cnW (cnH es c left d u n)) (cnPost (cnW (cnH es c left d u m)))) = ( ∃ l, encL (Ty.l t) = encL l ∧ ∃ es_1, encM es = encM es_1 ∧ ∃ l, encL (Ty.l u) = encL l ∧ (0 ≤ n ∧ n ≤ 1000) ∧ encM es = encM es_1 ∧ c = c ∧ 74 = 74 ∧ SubR [AV.map (0)] [AV.map (0)] (24 = 24 ∧ 24 = 24 ∧ 3 = 3 ∧ int i64 left = int i64 left ∧ 145 = 145 ∧ SubR [AV.fn (Fn.func (118)) [] [ptr (1) (0), ptr (4) (0), ptr (5) (0)]]
 [AV.fn (Fn.func (118)) [] [ptr (1) (0), ptr (4) (0), ptr (5) (0)]] (24 = 24 ∧ 3 = 3 ∧ int i64 d = int i64 d ∧ 24 = 24 ∧ 24 = 24 ∧ int i64 (Ty.kind u) = int i64 (Ty.kind u) ∧ int i64 (Ty.n u) = int i64 (Ty.n u) ∧ isl (Ty.nl u) none (0) (encL (Ty.l u)) = isl (Ty.nl u) none (0) (encL l) ∧ 3 = 3 ∧ int i64 n = int i64 n ∧ (LoopState.ready = LoopState.ready ∧ (none : Option Code) = none ∧ ((Array.mk (α := Nat) [26]), rA (76) (1), rB (118) (0)) =
 ((Array.mk (α := Nat) [26]), rA (76) (1), rB (118) (0)) ∧ 11 = 11) ∧ ptr (10) (0) = ptr (10) (0) ∧ 0 = 0 ∧ codeIs (loopOf Tryz.prog 115 0) Tryz.prog 115 0 (∃ x, (Prod.fst x ≤ List.length (Ty.l t) ∧ cntL (Ty.l t) ≤ 1000 ∧ 0 ≤ Prod.snd x ∧ Prod.snd x + iC (cntL (List.drop (Prod.fst x) (Ty.l t))) ≤ 1000) ∧ ptr (14) (0) = ptr (14) (0) ∧ isl (Ty.nl t) none (0) (encL (Ty.l t)) = isl (Ty.nl t) none (0) (encL (Ty.l t)) ∧ int i64 (iC (List.length (encL (Ty.l t)))) = int i64 (iC (List.length (encL (Ty.l t)))) ∧
 int i64 (0) = int i64 (iC (Prod.fst x)) ∧ encM es_1 = encM es ∧ c = c ∧ 74 = 74 ∧ SubR [AV.map (0)] [AV.map (0)] (24 = 24 ∧ 24 = 24 ∧ 3 = 3 ∧ int i64 left = int i64 left ∧ 145 = 145 ∧ SubR [AV.fn (Fn.func (118)) [] [ptr (1) (0), ptr (4) (0), ptr (5) (0)]] [AV.fn (Fn.func (118)) [] [ptr (1) (0), ptr (4) (0), ptr (5) (0)]] (24 = 24 ∧ 3 = 3 ∧ int i64 d = int i64 d ∧ 24 = 24 ∧ 24 = 24 ∧ int i64 (Ty.kind u) = int i64 (Ty.kind u) ∧ int i64 (Ty.n u) = int i64 (Ty.n u) ∧
 isl (Ty.nl u) none (0) (encL l) = isl (Ty.nl u) none (0) (encL (Ty.l u)) ∧ 3 = 3 ∧ int i64 (n + (1 : Int)) = int i64 (Prod.snd x) ∧ (LoopState.ready = LoopState.ready ∧ (none : Option Code) = none ∧ ((Array.mk (α := Nat) [26]), rA (76) (1), rB (118) (0)) = ((Array.mk (α := Nat) [26]), rA (76) (1), rB (118) (0)) ∧ 11 = 11) ∧ ptr (10) (0) = ptr (10) (0) ∧ 42 = 42 ∧ SubR [AV.fn (Fn.yield (12)) [] []] [AV.fn (Fn.yield (12)) [] []] (42 = 42 ∧ SubR [AV.fn (Fn.func (115)) [] [ptr (13) (0), ptr (14) (0)]] [AV.fn (Fn.func (115)) [] [ptr (13) (0),
 ptr (14) (0)]] (24 = 24 ∧ 0 = 0 ∧ encM es = encM es ∧ c = c ∧ 74 = 74 ∧ SubR [AV.map (0)] [AV.map (0)] (24 = 24 ∧ 24 = 24 ∧ 3 = 3 ∧ int i64 left = int i64 left ∧ 145 = 145 ∧ SubR [AV.fn (Fn.func (118)) [] [ptr (1) (0), ptr (4) (0), ptr (5) (0)]] [AV.fn (Fn.func (118)) [] [ptr (1) (0), ptr (4) (0), ptr (5) (0)]] (24 = 24 ∧ 3 = 3 ∧ int i64 d = int i64 d ∧ 24 = 24 ∧ 24 = 24 ∧ int i64 (Ty.kind u) = int i64 (Ty.kind u) ∧ int i64 (Ty.n u) = int i64 (Ty.n u) ∧ isl (Ty.nl u) none (0) (encL
 (Ty.l u)) = isl (Ty.nl u) none (0) (encL (Ty.l u)) ∧ 3 = 3 ∧ int i64 (Prod.snd x + iC (cntL (List.drop (Prod.fst x) (Ty.l t)))) = int i64 m ∧ (LoopState.ready = LoopState.ready ∧ (none : Option Code) = none ∧ ((Array.mk (α := Nat) [26]), rA (76) (1), rB (118) (0)) = ((Array.mk (α := Nat) [26]), rA (76) (1), rB (118) (0)) ∧ 11 = 11) ∧ ptr (10) (0) = ptr (10) (0) ∧ 42 = 42 ∧ SubR [AV.fn (Fn.yield (12)) [] []] [AV.fn (Fn.yield (12)) [] []] (42 = 42 ∧ SubR [AV.fn (Fn.func (115)) [] [ptr (13) (0), ptr (14) (0)]] [AV.fn (Fn.func (115)) [] [ptr (13) (0),
 ptr (14) (0)]] (0 = 0 ∧ True)))))))))))) := by kernel_rfl
end Go.Proofs.YtnmolpkkemljoaaGreatDoor
end
end
section
noncomputable section
namespace Go.Proofs.YtnmolpkkemljoaaGreatDoor
open Go Go.Am Kd
theorem entM_inj {x y : Int × Ty × Nat} (h : entM x = entM y) : x = y := by
 obtain ⟨a, t, i⟩ := x
 obtain ⟨b, u, j⟩ := y
 simp only [entM, Prod.mk.injEq, AV.int.injEq, true_and] at h
 obtain ⟨rfl, h2, rfl⟩ := h
 have : enc t = enc u := by rw [enc_D, enc_D]; exact h2
 rw [enc_inj this]
theorem encM_inj {l m : List (Int × Ty × Nat)} (h : encM l = encM m) : l = m := by
 induction l generalizing m with
 | nil => cases m <;> simp_all [encM]
 | cons x l ih =>
  cases m with
  | nil => simp [encM] at h
  | cons y m =>
   simp only [encM, List.map_cons, List.cons.injEq] at h
   rw [entM_inj h.1, ih h.2]
theorem ex_encM {l : List (Int × Ty × Nat)} {P : List (Int × Ty × Nat) → Prop} : (∃ l', encM l = encM l' ∧ P l') = P l :=
 propext ⟨fun ⟨l', h, hp⟩ => by rw [encM_inj h]; exact hp, fun h => ⟨l, rfl, h⟩⟩
theorem encM_bnd (n nf : Nat) (l : List (Int × Ty × Nat)) : bndM n nf (encM l) = true := by
 induction l with
 | nil => rfl
 | cons x l ih =>
  simp only [encM, List.map_cons, entM, bndM, AV.bnd, Bool.true_and, Bool.and_eq_true]
  exact ⟨AV.still_bnd n nf _ (encD_still _), ih⟩
theorem cnPost_ok {A' : AH} {o : AFin} (hA : A'.fams = []) (h : cnPost A' o) : hpIs 0 (.returned (.bool true)) A' o := by
 unfold cnPost at h
 split at h
 ·rename_i he
  exact ⟨he, by rw [hA]; exact h⟩
 ·exact h.elim
theorem cn_ok (es : List (Int × Ty × Nat)) (c : Nat) (left d : Int) (u : Ty) (n : Int) : (cnH es c left d u n).ok 13 0 = true := by
 simp [AH.ok, cnH, pwB, top3, tyC, ABlk.bnd, AV.bnd, encL_bnd, AV.bndL, encM_bnd, frm]; rfl
theorem cnW_ok (es : List (Int × Ty × Nat)) (c : Nat) (left d : Int) (u : Ty) (n : Int) : (cnW (cnH es c left d u n)).ok 15 0 = true := by
 simp [AH.ok, cnW, cnH, pwB, top3, tyC, ABlk.bnd, AV.bnd, encL_bnd, AV.bndL, encM_bnd, frm]; rfl
theorem cn_round_ok (es : List (Int × Ty × Nat)) (c : Nat) (left d : Int) (u : Ty) (n : Int) (t : Ty) (h0 : 0 ≤ n) (h1 : n ≤ 1000) : RoundJ Tryz.prog g0 12 [enc t] (cnH es c left d u n) (hpIs 0 (.returned (.bool true)) (cnH es c left d u (n + 1))) := by
 refine RoundJ.mono (K := cnPost (cnH es c left d u (n + 1))) ?_ fun o ho => cnPost_ok rfl ho
 rw [enc_D]
 refine RoundJ.run (el := els) (mu := mu0) (hk := hk0) hmix hk0_ok (n := 60) ?_
 show runR hk0 60 12 [encD t] (cnH es c left d u n) _
 rw [cn_round]
 simp only [eq_self, true_and, and_true, SubR_id, AV.int.injEq]
 rw [wrap_id (by omega) (by omega)]
theorem argCn_elim {A : AH} {K : List (Int × Ty × Nat) → Nat → Int → Int → Ty → Int → Prop} (h : argCn A K) : ∃ es c left d u n, K es c left d u n := by
 unfold argCn at h
 split at h
 ·obtain ⟨es, _, l, _, h⟩ := h
  exact ⟨es, _, _, _, _, _, h⟩
 ·exact h.elim
theorem cnRound_ok : RSpec.Ok Tryz.prog g0 cnRound := by
 intro l args A K h'
 unfold cnRound at h'
 split at h'
 ·obtain ⟨t, rfl, h⟩ := argTy_elim h'
  obtain ⟨es, c, left, d, u, n, ⟨h1, h2⟩, h⟩ := argCn_elim h
  obtain ⟨hK, hr⟩ := RoundJ.on (n := 13) h (cn_round_ok es c left d u n t h1 h2) (cn_ok ..) (cn_ok ..) (by simp [AV.bndL, AV.still_bnd, enc_still]) rfl (by omega)
  exact hr.mono fun o ho => by subst ho; exact hK
 ·exact h'.elim
def CWalkJ (es : List (Int × Ty × Nat)) (c : Nat) (left d : Int) (u : Ty) (n : Int) (t : Ty) : Prop := FJ 115 [enc t, .ptr 13 0, .ptr 14 0] (cnW (cnH es c left d u n)) (hpIs 0 (.returned (.bool true)) (cnW (cnH es c left d u (n + cnt t))))
theorem cwalk_hook {N : Nat} (ih : ∀ (es : List (Int × Ty × Nat)) (c : Nat) (left d : Int) (u : Ty) (n : Int) (t : Ty), SizeOf.sizeOf t < N → cnt t ≤ 1000 → 0 ≤ n → n + cnt t ≤ 1000 → CWalkJ es c left d u n t) : HSpec.Ok Tryz.prog g0 115 (cwalkH N) := by
 intro args A K h'
 unfold cwalkH at h'
 split at h'
 ·obtain ⟨t, rfl, h⟩ := argTy_elim h'
  obtain ⟨es, c, left, d, u, n, ⟨h1, h2, h3, h4⟩, h⟩ := argCn_elim h
  obtain ⟨hK, hr⟩ := FuncJ.on (n := 15) h (ih es c left d u n t h1 h2 h3 h4) (cnW_ok ..) (cnW_ok ..) (by simp [AV.bndL, AV.bnd, AV.still_bnd, enc_still]) rfl
  exact ⟨_, hr, hK⟩
 ·exact h'.elim
theorem cwalk_ok (es : List (Int × Ty × Nat)) (c : Nat) (left d : Int) (u : Ty) (n : Int) (t : Ty) (hc : cnt t ≤ 1000) (h0 : 0 ≤ n) (h1 : n + cnt t ≤ 1000) : CWalkJ es c left d u n t := by
 have key : ∀ (N : Nat) (es : List (Int × Ty × Nat)) (c : Nat) (left d : Int) (u : Ty) (n : Int) (t : Ty), SizeOf.sizeOf t < N → cnt t ≤ 1000 → 0 ≤ n → n + cnt t ≤ 1000 → CWalkJ es c left d u n t := by
  intro N
  induction N with
  | zero => intro es c left d u n t h; omega
  | succ N ih =>
   intro es c left d u n t ht hc h0 h1
   obtain ⟨k, n0, nl, ts⟩ := t
   simp only [cnt] at hc h1
   simp only [Ty.mk.sizeOf_spec] at ht
   have hlc := len_cnt ts
   have hl : LHook.Ok Tryz.prog g0 ⟨115, 0, (cwSt es c left d u nl ts).spec⟩ := by
    refine LSt.by (hk := cwH1 N) (cwSt es c left d u nl ts) (fun x => ts.length - x.1) (mkHooks_ok all_nil (all_cons (cwalk_hook ih) all_nil) all_nil) rfl ?_ ?_ ?_
    ·intro x _
     exact Whole.frm rfl rfl (by simp [cwSt, AV.bnd, encL_bnd]) (by simp [cwSt, cnX, cnW, cnH, pwB, top3, tyC, ABlk.bnd, AV.bnd, encL_bnd, AV.bndL, encM_bnd, frm]; rfl)
    ·intro x b' _
     exact Whole.frm rfl rfl rfl (by simp [cwSt, cnX, cnW, cnH, pwB, top3, tyC, ABlk.bnd, AV.bnd, encL_bnd, AV.bndL, encM_bnd, frm]; rfl)
    ·rintro ⟨i, m⟩ ⟨hi, _, hm0, hm⟩
     simp only at hi hm0 hm
     rw [cw_loop]
     simp only [iC, encL_length, eq_self, true_and, and_true, Int.toNat_natCast, AV.int.injEq, SubR_id, ex_encM]
     refine bothR_dec (fun hlt => ?_) fun hge => ?_
     ·have hi' : i < ts.length := by omega
      have hs := List.sizeOf_lt_of_mem (List.getElem_mem hi')
      have hg := cnt_get hi'
      have hd := cntL_drop ts i hi'
      rw [ex_get hi']
      simp only [ex_enc, Ty.eta]
      refine ⟨by omega, ⟨by omega, by omega, by omega, by omega⟩, trivial, (i + 1, m + cnt ts[i]), ⟨by simp only; omega, by omega, by simp only; omega, by simp only; omega⟩, by simp only; omega, by simp only; omega, ?_⟩
      rw [wrap_id (by omega) (by omega)]
      simp
     ·rw [List.drop_of_length_le (by omega)]
      simp [cntL]
   refine FuncJ.mono (K := cnPost (cnW (cnH es c left d u (n + cnt (.mk k n0 nl ts))))) ?_ fun o ho => cnPost_ok rfl ho
   rw [enc_D]
   refine FuncJ.run (el := els) (mu := mu0) (hk := cwH2 es c left d u nl ts) hmix (mkHooks_ok all_nil all_nil (all_cons hl all_nil) (by intro s hs; cases hs; exact cnRound_ok)) (n := 60) ?_
   show runF (cwH2 es c left d u (Ty.mk k n0 nl ts).nl (Ty.mk k n0 nl ts).l) 60 115 _ (cnW (cnH es c left d u n)) _
   rw [cw_top]
   simp only [eq_self, true_and, and_true, SubR_id, codeIs_self, iC, ex_enc, ex_encM, Ty.eta, tl_mk, AV.int.injEq]
   refine ⟨⟨h0, by omega⟩, (0, n + 1), ⟨by simp, by omega, by simp only; omega, by simp only [List.drop_zero]; omega⟩, rfl, rfl, ?_⟩
   simp only [List.drop_zero, cnt]
   omega
 exact key _ es c left d u n t (Nat.lt_succ_self _) hc h0 h1
theorem cwalk_hook0 : HSpec.Ok Tryz.prog g0 115 cwalkH0 := by
 intro args A K h'
 unfold cwalkH0 at h'
 split at h'
 ·obtain ⟨t, rfl, h⟩ := argTy_elim h'
  obtain ⟨es, c, left, d, u, n, ⟨h2, h3, h4⟩, h⟩ := argCn_elim h
  obtain ⟨hK, hr⟩ := FuncJ.on (n := 15) h (cwalk_ok es c left d u n t h2 h3 h4) (cnW_ok ..) (cnW_ok ..) (by simp [AV.bndL, AV.bnd, AV.still_bnd, enc_still]) rfl
  exact ⟨_, hr, hK⟩
 ·exact h'.elim
end Go.Proofs.YtnmolpkkemljoaaGreatDoor
end
end
section
namespace Kd
open Go.Am Go.Proofs.YtnmolpkkemljoaaGreatDoor
def boundM : List (Int × Ty × Nat) → Int → Option Ty
 | [], _ => none
 | x :: l, n => if n = x.1 then some x.2.1 else boundM l n
mutual
def pwT (es : List (Int × Ty × Nat)) : Ty → Ty
 | .mk k n _ l => if k = 6 ∧ (boundM es n).isSome = true then cleanT ((boundM es n).getD (varT n)) else .mk k n (nilB l) (pwL es l)
def pwL (es : List (Int × Ty × Nat)) : List Ty → List Ty
 | [] => []
 | x :: xs => pwT es x :: pwL es xs
end
def okMs (es : List (Int × Ty × Nat)) : Prop := ∀ x ∈ es, okT x.2.1 = true ∧ cnt x.2.1 ≤ 100
end Kd
noncomputable section
namespace Go.Proofs.YtnmolpkkemljoaaGreatDoor
open Go Go.Am Kd
def pwA (es : List (Int × Ty × Nat)) (c : Nat) (left : Int) : AH := ⟨pwB es c left, []⟩
def pwM (es : List (Int × Ty × Nat)) (c : Nat) (left d : Int) (u : Ty) : AH := ⟨pwB es c left ++ [tyC u, .cells [.int .i64 d] 3], []⟩
def argPw (A : AH) (K : List (Int × Ty × Nat) → Nat → Int → Prop) : Prop :=
 match nthR A.blks 0, nthR A.blks 4 with
 | some (.map m c), some (.cells [.int .i64 left] 3) => ∃ es, m = encM es ∧ K es c left
 | _, _ => False
def argPm (A : AH) (K : List (Int × Ty × Nat) → Nat → Int → Int → Ty → Prop) : Prop :=
 match nthR A.blks 0, nthR A.blks 4, nthR A.blks 6, nthR A.blks 7 with
 | some (.map m c), some (.cells [.int .i64 left] 3), some (.cells [.int .i64 k, .int .i64 q, .isl b none 0 xs] 24), some (.cells [.int .i64 d] 3) => ∃ es, m = encM es ∧ ∃ l, xs = encL l ∧ K es c left d (.mk k q b l)
 | _, _, _, _ => False
end Go.Proofs.YtnmolpkkemljoaaGreatDoor
end
end
section
noncomputable section
namespace Go.Proofs.YtnmolpkkemljoaaGreatDoor
open Go Go.Am Kd
theorem BlkR_self {x : ABlk} {R : Prop} (h : R) : BlkR x x R := by
 cases x <;> simp only [BlkR, true_and, and_self] <;> first
  | exact h
  | exact SubR_self h
theorem BlksR_self : ∀ {xs : List ABlk} {R : Prop}, R → BlksR xs xs R
 | [], _, h => by simpa [BlksR] using h
 | x :: xs, _, h => by
  simp only [BlksR]
  exact BlkR_self (BlksR_self h)
theorem hpIs_self {nf : Nat} {e : AEnd} {A : AH} (h : A.fams.length = nf) : hpIs nf e A ⟨e, A⟩ := by
 refine ⟨rfl, BlksR_self ?_⟩
 unfold FamR
 split
 ·rename_i h1
  rw [h1] at h
  exact ⟨h.symm, trivial⟩
 ·exact ⟨by rw [← h, List.take_length], trivial⟩
theorem keyFind_none {es : List (Int × Ty × Nat)} {n : Int} (h : boundM es n = none) : ∀ i, keyFind (.int .i64 n) (encM es) i = some none := by
 induction es with
 | nil => intro i; rfl
 | cons x l ih =>
  intro i
  simp only [boundM] at h
  split at h
  ·cases h
  ·rename_i hne
   simp only [encM, List.map_cons, entM, keyFind, keyEq, if_true, decide_eq_false hne]
   exact ih h (i + 1)
theorem keyFind_some {es : List (Int × Ty × Nat)} {n : Int} {u : Ty} (h : boundM es n = some u) : ∀ i, ∃ j, keyFind (.int .i64 n) (encM es) i = some (some (j, encD u)) := by
 induction es with
 | nil => cases h
 | cons x l ih =>
  intro i
  simp only [boundM] at h
  split at h
  ·rename_i he
   cases h
   refine ⟨i, ?_⟩
   simp only [encM, List.map_cons, entM, keyFind, keyEq, if_true, decide_eq_true he]
  ·rename_i hne
   obtain ⟨j, hj⟩ := ih h (i + 1)
   refine ⟨j, ?_⟩
   simp only [encM, List.map_cons, entM, keyFind, keyEq, if_true, decide_eq_false hne]
   exact hj
theorem boundM_mem {es : List (Int × Ty × Nat)} {n : Int} {u : Ty} (h : boundM es n = some u) : ∃ x ∈ es, x.2.1 = u := by
 induction es with
 | nil => cases h
 | cons x l ih =>
  simp only [boundM] at h
  split at h
  ·cases h; exact ⟨x, by simp, rfl⟩
  ·obtain ⟨y, h1, h2⟩ := ih h
   exact ⟨y, by simp [h1], h2⟩
theorem cnt_clean : ∀ t, cnt (cleanT t) = cnt t := by
 have key : ∀ (N : Nat), (∀ t, SizeOf.sizeOf t < N → cnt (cleanT t) = cnt t) ∧ ∀ l, SizeOf.sizeOf l < N → cntL (cleanL l) = cntL l := by
  intro N
  induction N with
  | zero => exact ⟨fun _ h => by omega, fun _ h => by omega⟩
  | succ N ih =>
   obtain ⟨ih1, ih2⟩ := ih
   constructor
   ·intro t ht
    cases t with
    | mk k n b l =>
     simp only [Ty.mk.sizeOf_spec] at ht
     simp only [cleanT, cnt, ih2 l (by omega)]
   ·intro l hl
    cases l with
    | nil => rfl
    | cons x xs =>
     simp only [List.cons.sizeOf_spec] at hl
     simp only [cleanL, cntL, ih1 x (by omega), ih2 xs (by omega)]
 exact fun t => (key (SizeOf.sizeOf t + 1)).1 t (by omega)
theorem pwA_ok (es : List (Int × Ty × Nat)) (c : Nat) (left : Int) : (pwA es c left).ok 6 0 = true := by
 simp [AH.ok, pwA, pwB, top3, ABlk.bnd, AV.bnd, AV.bndL, encM_bnd]
theorem pwM_ok (es : List (Int × Ty × Nat)) (c : Nat) (left d : Int) (u : Ty) : (pwM es c left d u).ok 8 0 = true := by
 simp [AH.ok, pwM, pwB, top3, tyC, ABlk.bnd, AV.bnd, AV.bndL, encM_bnd, encL_bnd]
theorem argPw_elim {A : AH} {K : List (Int × Ty × Nat) → Nat → Int → Prop} (h : argPw A K) : ∃ es c left, K es c left := by
 unfold argPw at h
 split at h
 ·obtain ⟨es, _, h⟩ := h
  exact ⟨es, _, _, h⟩
 ·exact h.elim
theorem argPm_elim {A : AH} {K : List (Int × Ty × Nat) → Nat → Int → Int → Ty → Prop} (h : argPm A K) : ∃ es c left d u, K es c left d u := by
 unfold argPm at h
 split at h
 ·obtain ⟨es, _, l, _, h⟩ := h
  exact ⟨es, _, _, _, _, h⟩
 ·exact h.elim
theorem okL_of {k n : Int} {b : Bool} {l : List Ty} (h : okT (.mk k n b l) = true) : l.length ≤ 2 ∧ okL l = true := by
 refine ⟨?_, (ok_node h).2⟩
 rcases parts_cases h with rfl | ⟨x, rfl, _⟩ | ⟨x, y, rfl, _⟩ <;> simp
end Go.Proofs.YtnmolpkkemljoaaGreatDoor
end
end
section
noncomputable section
namespace Go.Proofs.YtnmolpkkemljoaaGreatDoor
open Go Go.Am Kd
def mapA (es : List (Int × Ty × Nat)) (c : Nat) : AH := ⟨[.map (encM es) c], []⟩
end Go.Proofs.YtnmolpkkemljoaaGreatDoor
end
end
section
namespace Kd
open Go.Am Go.Proofs.YtnmolpkkemljoaaGreatDoor
def varsL (t : Ty) : List Int := firstT t []
end Kd
noncomputable section
namespace Go.Proofs.YtnmolpkkemljoaaGreatDoor
open Go Go.Am Kd
end Go.Proofs.YtnmolpkkemljoaaGreatDoor
end
end
section
namespace Kd
open Go.Am Go.Proofs.YtnmolpkkemljoaaGreatDoor
theorem ok_mk {k n : Int} {b : Bool} {l : List Ty} (h1 : NodeOk (.mk k n b l)) (h2 : okL l = true) : okT (.mk k n b l) = true := by
 simp only [okT, Bool.and_eq_true, decide_eq_true_eq]
 exact ⟨h1, h2⟩
theorem node_of {k n m : Int} {b b' : Bool} {l l' : List Ty} (h : NodeOk (.mk k n b l)) (hl : l'.length = l.length) (hm : k = 6 → m = n) : NodeOk (.mk k m b' l') := by
 simp only [NodeOk] at h ⊢
 obtain ⟨h1, h2, h3, h4, h5, h6⟩ := h
 rw [hl]
 exact ⟨h1, h2, h3, h4, h5, fun h => by rw [hm h]; exact h6 h⟩
theorem ok_clean : ∀ t, okT t = true → okT (cleanT t) = true := by
 have key : ∀ (N : Nat), (∀ t, SizeOf.sizeOf t < N → okT t = true → okT (cleanT t) = true) ∧ ∀ l, SizeOf.sizeOf l < N → okL l = true → okL (cleanL l) = true := by
  intro N
  induction N with
  | zero => exact ⟨fun _ h => by omega, fun _ h => by omega⟩
  | succ N ih =>
   obtain ⟨ih1, ih2⟩ := ih
   constructor
   ·intro t ht h
    cases t with
    | mk k n b l =>
     simp only [Ty.mk.sizeOf_spec] at ht
     obtain ⟨h1, h2⟩ := ok_node h
     simp only [cleanT]
     exact ok_mk (node_of h1 (cleanL_len l) fun h => by rw [if_pos h]) (ih2 l (by omega) h2)
   ·intro l hl h
    cases l with
    | nil => rfl
    | cons x xs =>
     simp only [List.cons.sizeOf_spec] at hl
     simp only [okL, Bool.and_eq_true] at h
     simp only [cleanL, okL, Bool.and_eq_true]
     exact ⟨ih1 x (by omega) h.1, ih2 xs (by omega) h.2⟩
 exact fun t => (key (SizeOf.sizeOf t + 1)).1 t (by omega)
theorem nil_clean (l : List Ty) : nilB (cleanL l) = nilB l := by simp only [nilB, cleanL_len]
theorem pw_with {es : List (Int × Ty × Nat)} {bs : List (Int × Ty)} (hb : ∀ n, boundM es n = boundO bs n) : ∀ t, okT t = true → pwT es (cleanT t) = withT bs t := by
 have key : ∀ (N : Nat), (∀ t, SizeOf.sizeOf t < N → okT t = true → pwT es (cleanT t) = withT bs t) ∧ ∀ l, SizeOf.sizeOf l < N → okL l = true → pwL es (cleanL l) = withL bs l := by
  intro N
  induction N with
  | zero => exact ⟨fun _ h => by omega, fun _ h => by omega⟩
  | succ N ih =>
   obtain ⟨ih1, ih2⟩ := ih
   constructor
   ·intro t ht h
    cases t with
    | mk k n b l =>
     simp only [Ty.mk.sizeOf_spec] at ht
     obtain ⟨h1, h2⟩ := ok_node h
     by_cases h6 : k = 6
     ·simp only [NodeOk] at h1
      have hl : l = [] := List.eq_nil_of_length_eq_zero (h1.2.2.1 (.inr (.inr h6)))
      subst h6 hl
      simp only [cleanT, cleanL, pwT, withT, if_true, true_and, hb, boundT]
      cases boundO bs n with
      | none => simp [varT, cleanT, cleanL, nilB, pwL]
      | some u => simp
     ·simp only [cleanT, pwT, withT, h6, if_false, false_and, nil_clean, ih2 l (by omega) h2]
   ·intro l hl h
    cases l with
    | nil => rfl
    | cons x xs =>
     simp only [List.cons.sizeOf_spec] at hl
     simp only [okL, Bool.and_eq_true] at h
     simp only [cleanL, pwL, withL, ih1 x (by omega) h.1, ih2 xs (by omega) h.2]
 exact fun t => (key (SizeOf.sizeOf t + 1)).1 t (by omega)
end Kd
noncomputable section
namespace Go.Proofs.YtnmolpkkemljoaaGreatDoor
open Go Go.Am Kd
end Go.Proofs.YtnmolpkkemljoaaGreatDoor
end
end
section
namespace Kd
open Go.Am Go.Proofs.YtnmolpkkemljoaaGreatDoor
theorem sameB_refl : ∀ t, sameB t t = true := by
 have key : ∀ (N : Nat), (∀ t, SizeOf.sizeOf t < N → sameB t t = true) ∧ ∀ l, SizeOf.sizeOf l < N → sameL l l = true := by
  intro N
  induction N with
  | zero => exact ⟨fun _ h => by omega, fun _ h => by omega⟩
  | succ N ih =>
   obtain ⟨ih1, ih2⟩ := ih
   constructor
   ·intro t ht
    cases t with
    | mk k n b l =>
     simp only [Ty.mk.sizeOf_spec] at ht
     simp [sameB, ih2 l (by omega)]
   ·intro l hl
    cases l with
    | nil => rfl
    | cons x xs =>
     simp only [List.cons.sizeOf_spec] at hl
     simp only [sameL, ih1 x (by omega), ih2 xs (by omega), Bool.and_self]
 exact fun t => (key (SizeOf.sizeOf t + 1)).1 t (by omega)
end Kd
end