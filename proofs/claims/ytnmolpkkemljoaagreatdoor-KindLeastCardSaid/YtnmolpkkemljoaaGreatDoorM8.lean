/-
  What the proof is built of: Lists of numbers, and types, that are the same; the variables of a type, by the reference. The conditions of K17, evaluated. Lists of numbers, and types, that are the same; the variables of a type: what the reference's functions come to. Types with bindings put in them, numbered types: the reference's functions. great, handed three types, evaluated. great, handed three types. Types with bindings put in them, numbered types: what the reference's functions come to. The program's Vars: the range and its walk. The conditions of K19, evaluated. The program's Vars comes to the variables. The program's clean; a map of bindings. The conditions of K20, evaluated. The program's clean comes to what the reference's does. put: how many types there are in what is put. The conditions of K21, evaluated. put: how many types there are in what is put, is counted. put: its walk. The conditions of K22, evaluated. put: its walk comes to what it says. put, wherever the map lies. The conditions of K23, evaluated. put comes to what it says, wherever the map lies. The program's Number. The conditions of K24, evaluated. The program's Number comes to what put makes of the variables. A numbered type: put and the reference's With make the same of it, and it is valid. A type is the same as itself, a list is. Conditions: none.
-/
import Derived.Test.YtnmolpkkemljoaaGreatDoorM6
import Derived.Test.YtnmolpkkemljoaaGreatDoorM7
section
namespace Kd
open Go.Am Go.Proofs.YtnmolpkkemljoaaGreatDoor
def encZ (l : List Int) : List AV := l.map (AV.int .i64)
theorem encZ_length (l : List Int) : (encZ l).length = l.length := by simp [encZ]
theorem encZ_get (l : List Int) (i : Nat) (h : i < l.length) : (encZ l)[i]? = some (AV.int .i64 l[i]) := by simp [encZ, h]
theorem encZ_append (l m : List Int) : encZ l ++ encZ m = encZ (l ++ m) := by simp [encZ]
theorem encZ_still (l : List Int) : AV.stillL (encZ l) = true := by
 induction l with
 | nil => rfl
 | cons x l ih => simp only [encZ, List.map_cons, AV.stillL, AV.still, Bool.true_and]; exact ih
theorem encZ_inj {l m : List Int} (h : encZ l = encZ m) : l = m := by
 induction l generalizing m with
 | nil => cases m <;> simp_all [encZ]
 | cons x l ih =>
  cases m with
  | nil => simp [encZ] at h
  | cons y m =>
   simp only [encZ, List.map_cons, List.cons.injEq, AV.int.injEq, true_and] at h
   rw [h.1, ih h.2]
theorem encZ_one (l : List Int) : (encZ l).all (oneSz 1) = true := by
 simp [encZ, oneSz, AV.cells, AV.one]
mutual
def sameB : Ty → Ty → Bool
 | .mk k n _ l, .mk k' n' _ l' => decide (k = k') && ((!decide (k = 6) || decide (n = n')) && (decide (l.length = l'.length) && sameL l l'))
def sameL : List Ty → List Ty → Bool
 | x :: xs, y :: ys => sameB x y && sameL xs ys
 | _, _ => true
end
def addV (l : List Int) (n : Int) : List Int := if l.contains n then l else l ++ [n]
mutual
def firstT : Ty → List Int → List Int
 | .mk k n _ l, xs => firstL l (if k = 6 then addV xs n else xs)
def firstL : List Ty → List Int → List Int
 | [], xs => xs
 | x :: l, xs => firstL l (firstT x xs)
end
end Kd
noncomputable section
namespace Go.Proofs.YtnmolpkkemljoaaGreatDoor
open Go Go.Am Kd
def tyC (t : Ty) : ABlk := .cells [.int .i64 t.kind, .int .i64 t.n, .isl t.nl none 0 (encL t.l)] 24
def saSt (t u : Ty) : LSt Nat Bool where
 n := 2
 nf := 0
 rd := none
 fr x := frm 51 [(2, .ptr 0 0), (3, .ptr 1 0), (5, .int .i64 x)]
 hp _ := ⟨[tyC t, tyC u], []⟩
 inv x := x ≤ t.l.length ∧ t.l.length = u.l.length
 res x := sameL (t.l.drop x) (u.l.drop x)
 sel r := r
 out b' _ := match b' with
  | true => ⟨.exit 0, frm 51 [], ⟨[tyC t, tyC u], []⟩⟩
  | false => ⟨.ret, frm 51 [(4, .bool false)], ⟨[tyC t, tyC u], []⟩⟩
def saQ (N : Nat) : QSpec
 | [t, u], K => argTy t fun t => argTy u fun u => (SizeOf.sizeOf t < N ∧ cnt t ≤ 1000 ∧ cnt u ≤ 1000) ∧ K (.bool (sameB t u))
 | _, _ => False
def saH (N : Nat) : Hooks := hooks [(23, saQ N)] [] []
def saH' (t u : Ty) : Hooks := hooks [] [] [(4, ⟨23, 0, (saSt t u).spec⟩)]
def argInts (v : AV) (K : Bool → List Int → Prop) : Prop :=
 match v with
 | .isl b none 0 xs => ∃ l, xs = encZ l ∧ K b l
 | _ => False
theorem argInts_elim {v : AV} {K : Bool → List Int → Prop} (h : argInts v K) : ∃ b l, v = .isl b none 0 (encZ l) ∧ K b l := by
 unfold argInts at h
 split at h
 ·obtain ⟨l, rfl, h⟩ := h
  exact ⟨_, _, rfl, h⟩
 ·exact h.elim
structure FSt where
 i : Nat
 b : Bool
 l : List Int
 e : Nat
def runN {ι ρ : Type} (hk : Hooks) (n : Nat) (f k : Nat) (s : LSN ι ρ) (meas : ι → Nat) (p : Nat) (x : ι) : Prop := runC hk n s.rd (loopC f k) (s.fr p x) (s.hp p x) (s.post meas p x)
end Go.Proofs.YtnmolpkkemljoaaGreatDoor
end
end
section
noncomputable section
namespace Go.Proofs.YtnmolpkkemljoaaGreatDoor
open Go Go.Am Kd Go.Am.AV Go.IntKind
set_option maxRecDepth 100000
theorem sa_loop (t u : Ty) (N : Nat) (meas : Nat → Nat) (x : Nat) : (runL (saH N) 60 23 0 (saSt t u) meas x) = ( bothR (decide (iC x < iC (List.length (encL (Ty.l t))))) (0 ≤ iC x ∧ ∃ x_1, (encL (Ty.l t))[Int.toNat (iC x)]? = some (agg [int i64 (Ty.kind x_1), int i64 (Ty.n x_1), isl (Ty.nl x_1) none (0) (encL (Ty.l x_1))]) ∧ 0 ≤ iC x ∧ ∃ x_2, (encL (Ty.l u))[Int.toNat (iC x)]? = some (agg [int i64 (Ty.kind x_2), int i64 (Ty.n x_2), isl (Ty.nl x_2) none (0) (encL (Ty.l x_2))]) ∧ ∃ l, encL (Ty.l x_1) = encL l ∧ ∃ l_1,
 encL (Ty.l x_2) = encL l_1 ∧ (SizeOf.sizeOf (Ty.mk (Ty.kind x_1) (Ty.n x_1) (Ty.nl x_1) l) < N ∧ cnt (Ty.mk (Ty.kind x_1) (Ty.n x_1) (Ty.nl x_1) l) ≤ 1000 ∧ cnt (Ty.mk (Ty.kind x_2) (Ty.n x_2) (Ty.nl x_2) l_1) ≤ 1000) ∧ bothR (!sameB (Ty.mk (Ty.kind x_1) (Ty.n x_1) (Ty.nl x_1) l) (Ty.mk (Ty.kind x_2) (Ty.n x_2) (Ty.nl x_2) l_1)) (sameL (List.drop x (Ty.l t)) (List.drop x (Ty.l u)) = false ∧ bool false = bool false ∧ 24 = 24 ∧ int i64 (Ty.kind t) = int i64 (Ty.kind t) ∧ int i64 (Ty.n t) = int i64 (Ty.n t) ∧
 isl (Ty.nl t) none (0) (encL (Ty.l t)) = isl (Ty.nl t) none (0) (encL (Ty.l t)) ∧ 24 = 24 ∧ int i64 (Ty.kind u) = int i64 (Ty.kind u) ∧ int i64 (Ty.n u) = int i64 (Ty.n u) ∧ isl (Ty.nl u) none (0) (encL (Ty.l u)) = isl (Ty.nl u) none (0) (encL (Ty.l u)) ∧ 0 = 0 ∧ True) (∃ y, (y ≤ List.length (Ty.l t) ∧ List.length (Ty.l t) = List.length (Ty.l u)) ∧ meas y < meas x ∧ sameL (List.drop y (Ty.l t)) (List.drop y (Ty.l u)) = sameL (List.drop x (Ty.l t)) (List.drop x (Ty.l u)) ∧ ptr (0) (0) = ptr (0) (0) ∧
 ptr (1) (0) = ptr (1) (0) ∧ int i64 (IntKind.wrap IntKind.i64 (iC x + (1 : Int))) = int i64 (iC y) ∧ 24 = 24 ∧ int i64 (Ty.kind t) = int i64 (Ty.kind t) ∧ int i64 (Ty.n t) = int i64 (Ty.n t) ∧ isl (Ty.nl t) none (0) (encL (Ty.l t)) = isl (Ty.nl t) none (0) (encL (Ty.l t)) ∧ 24 = 24 ∧ int i64 (Ty.kind u) = int i64 (Ty.kind u) ∧ int i64 (Ty.n u) = int i64 (Ty.n u) ∧ isl (Ty.nl u) none (0) (encL (Ty.l u)) = isl (Ty.nl u) none (0) (encL (Ty.l u)) ∧ 0 = 0 ∧ True))
 (sameL (List.drop x (Ty.l t)) (List.drop x (Ty.l u)) = true ∧ 24 = 24 ∧ int i64 (Ty.kind t) = int i64 (Ty.kind t) ∧ int i64 (Ty.n t) = int i64 (Ty.n t) ∧ isl (Ty.nl t) none (0) (encL (Ty.l t)) = isl (Ty.nl t) none (0) (encL (Ty.l t)) ∧ 24 = 24 ∧ int i64 (Ty.kind u) = int i64 (Ty.kind u) ∧ int i64 (Ty.n u) = int i64 (Ty.n u) ∧ isl (Ty.nl u) none (0) (encL (Ty.l u)) = isl (Ty.nl u) none (0) (encL (Ty.l u)) ∧ 0 = 0 ∧ True)) := by kernel_rfl
theorem sa_top (t u : Ty) (r : Bool) : (runF (saH' t u) 60 23 [encD t, encD u] AH.nil (retIs Tryz.prog 5 (.bool r))) = ( bothR (!decide (Ty.kind t = Ty.kind u)) (bool false = bool r) (bothR (decide (Ty.kind t = (6 : Int))) (bothR (!decide (Ty.n t = Ty.n u)) (bool false = bool r) (bothR (!decide (iC (List.length (encL (Ty.l t))) = iC (List.length (encL (Ty.l u))))) (bool false = bool r) (codeIs (loopOf Tryz.prog 23 0) Tryz.prog 23 0 (∃ x, (x ≤ List.length (Ty.l t) ∧ List.length (Ty.l t) = List.length (Ty.l u)) ∧ ptr (0) (0) = ptr (0) (0) ∧
 ptr (1) (0) = ptr (1) (0) ∧ int i64 (0) = int i64 (iC x) ∧ 24 = 24 ∧ int i64 (Ty.kind t) = int i64 (Ty.kind t) ∧ int i64 (Ty.n t) = int i64 (Ty.n t) ∧ isl (Ty.nl t) none (0) (encL (Ty.l t)) = isl (Ty.nl t) none (0) (encL (Ty.l t)) ∧ 24 = 24 ∧ int i64 (Ty.kind u) = int i64 (Ty.kind u) ∧ int i64 (Ty.n u) = int i64 (Ty.n u) ∧ isl (Ty.nl u) none (0) (encL (Ty.l u)) = isl (Ty.nl u) none (0) (encL (Ty.l u)) ∧ 0 = 0 ∧
 bothR (sameL (List.drop x (Ty.l t)) (List.drop x (Ty.l u))) (bool true = bool r) (bool false = bool r))))) (bothR (!decide (iC (List.length (encL (Ty.l t))) = iC (List.length (encL (Ty.l u))))) (bool false = bool r) (codeIs (loopOf Tryz.prog 23 0) Tryz.prog 23 0 (∃ x, (x ≤ List.length (Ty.l t) ∧ List.length (Ty.l t) = List.length (Ty.l u)) ∧ ptr (0) (0) = ptr (0) (0) ∧ ptr (1) (0) = ptr (1) (0) ∧ int i64 (0) = int i64 (iC x) ∧ 24 = 24 ∧ int i64 (Ty.kind t) = int i64 (Ty.kind t) ∧
 int i64 (Ty.n t) = int i64 (Ty.n t) ∧ isl (Ty.nl t) none (0) (encL (Ty.l t)) = isl (Ty.nl t) none (0) (encL (Ty.l t)) ∧ 24 = 24 ∧ int i64 (Ty.kind u) = int i64 (Ty.kind u) ∧ int i64 (Ty.n u) = int i64 (Ty.n u) ∧ isl (Ty.nl u) none (0) (encL (Ty.l u)) = isl (Ty.nl u) none (0) (encL (Ty.l u)) ∧ 0 = 0 ∧ bothR (sameL (List.drop x (Ty.l t)) (List.drop x (Ty.l u))) (bool true = bool r) (bool false = bool r)))))) := by kernel_rfl
end Go.Proofs.YtnmolpkkemljoaaGreatDoor
end
end
section
set_option maxRecDepth 100000
set_option linter.unusedSimpArgs false
noncomputable section
namespace Go.Proofs.YtnmolpkkemljoaaGreatDoor
open Go Go.Am Kd
theorem tl_mk (k n : Int) (b : Bool) (l : List Ty) : (Ty.mk k n b l).l = l := rfl
theorem tk_mk (k n : Int) (b : Bool) (l : List Ty) : (Ty.mk k n b l).kind = k := rfl
theorem tn_mk (k n : Int) (b : Bool) (l : List Ty) : (Ty.mk k n b l).n = n := rfl
theorem tb_mk (k n : Int) (b : Bool) (l : List Ty) : (Ty.mk k n b l).nl = b := rfl
theorem ex_int {l : List Int} {i : Nat} (h : i < l.length) {P : Int → Prop} : (∃ x, (encZ l)[i]? = some (AV.int .i64 x) ∧ P x) = P l[i] := by
 refine propext ⟨fun ⟨x, h1, h2⟩ => ?_, fun hp => ⟨l[i], encZ_get l i h, hp⟩⟩
 rw [encZ_get l i h] at h1
 simp only [Option.some.injEq, AV.int.injEq, true_and] at h1
 rw [h1]; exact h2
theorem ex_encI {l : List Int} {P : List Int → Prop} : (∃ l', encZ l = encZ l' ∧ P l') = P l :=
 propext ⟨fun ⟨l', h, hp⟩ => by rw [encZ_inj h]; exact hp, fun h => ⟨l, rfl, h⟩⟩
theorem sa_hook {N : Nat} (ih : ∀ t u, SizeOf.sizeOf t < N → cnt t ≤ 1000 → cnt u ≤ 1000 → QJ 23 [enc t, enc u] (.bool (sameB t u))) : QSpec.Ok Tryz.prog g0 23 (saQ N) := by
 intro args K h'
 unfold saQ at h'
 split at h'
 ·obtain ⟨t, rfl, h1⟩ := argTy_elim h'
  obtain ⟨u, rfl, h2, h3⟩ := argTy_elim h1
  exact ⟨_, ih t u h2.1 h2.2.1 h2.2.2, h3⟩
 ·exact h'.elim
theorem same_ok (t u : Ty) (hc : cnt t ≤ 1000) (hd : cnt u ≤ 1000) : QJ 23 [enc t, enc u] (.bool (sameB t u)) := by
 have key : ∀ (N : Nat) (t u : Ty), SizeOf.sizeOf t < N → cnt t ≤ 1000 → cnt u ≤ 1000 → QJ 23 [enc t, enc u] (.bool (sameB t u)) := by
  intro N
  induction N with
  | zero => intro t u h; omega
  | succ N ih =>
   intro t u ht hc hd
   have hl : LHook.Ok Tryz.prog g0 ⟨23, 0, (saSt t u).spec⟩ := by
    refine LSt.by (hk := saH N) (saSt t u) (fun x => t.l.length - x) (mkHooks_ok (all_cons (sa_hook ih) all_nil) all_nil all_nil) rfl ?_ ?_ ?_
    ·intro x _
     exact Whole.frm rfl rfl rfl (by simp [saSt, tyC, ABlk.bnd, AV.bndL, AV.bnd, encL_bnd])
    ·intro x b' _
     cases b' <;> exact Whole.frm rfl rfl rfl (by simp [saSt, tyC, ABlk.bnd, AV.bndL, AV.bnd, encL_bnd])
    ·rintro i ⟨hi, he⟩
     obtain ⟨k, n, b, l⟩ := t
     obtain ⟨k', n', b', l'⟩ := u
     simp only [tl_mk] at hi he
     simp only [cnt] at hc hd
     simp only [Ty.mk.sizeOf_spec] at ht
     have hlc := len_cnt l
     rw [sa_loop]
     simp only [iC, encL_length, eq_self, true_and, and_true, Int.toNat_natCast, AV.int.injEq, tl_mk]
     refine bothR_dec (fun hlt => ?_) fun hge => ?_
     ·have hi' : i < l.length := by omega
      have hj' : i < l'.length := by omega
      have hs := List.sizeOf_lt_of_mem (List.getElem_mem hi')
      have hg := cnt_get hi'
      have hg' := cnt_get hj'
      have hd : l.drop i = l[i] :: l.drop (i + 1) := List.drop_eq_getElem_cons hi'
      have hd' : l'.drop i = l'[i] :: l'.drop (i + 1) := List.drop_eq_getElem_cons hj'
      rw [ex_get hi']
      refine ⟨by omega, by omega, ?_⟩
      rw [ex_get hj']
      simp only [ex_enc, Ty.eta]
      refine ⟨⟨by omega, by omega, by omega⟩, bothR_nbool (fun hb => ?_) fun hb => ⟨i + 1, ⟨by omega, he⟩, by omega, ?_, ?_⟩⟩
      ·rw [hd, hd']; simp only [sameL, hb, Bool.false_and]
      ·rw [hd, hd']; simp only [sameL, hb, Bool.true_and]
      ·rw [wrap_id (by omega) (by omega)]; rfl
     ·rw [List.drop_of_length_le (by omega), List.drop_of_length_le (by omega)]; rfl
   rw [enc_D, enc_D]
   refine QJ.by (hk := saH' t u) (by rw [← enc_D, ← enc_D]; simp [AV.stillL, enc_still]) rfl (mkHooks_ok all_nil all_nil (all_cons hl all_nil)) ?_
   rw [sa_top]
   obtain ⟨k, n, b, l⟩ := t
   obtain ⟨k', n', b', l'⟩ := u
   simp only [iC, encL_length, eq_self, true_and, codeIs_self, AV.bool.injEq, AV.int.injEq, sameB, tk_mk, tn_mk, tl_mk]
   have fin : bothR (sameL (List.drop 0 l) (List.drop 0 l')) (true = sameL l l') (false = sameL l l') := by
    rw [List.drop_zero, List.drop_zero]
    exact bothR_bool (fun h => h.symm) fun h => h.symm
   refine bothR_ndec (fun h => by rw [decide_eq_false h]; rfl) fun hk => bothR_dec (fun h6 => bothR_ndec (fun hn => ?_) fun hn => bothR_ndec (fun hl => ?_) fun hl => ⟨0, ⟨by omega, by omega⟩, rfl, ?_⟩) fun h6 => bothR_ndec (fun hl => ?_) fun hl => ⟨0, ⟨by omega, by omega⟩, rfl, ?_⟩
   ·rw [decide_eq_true hk, decide_eq_true h6, decide_eq_false hn]; rfl
   ·rw [decide_eq_true hk, decide_eq_true h6, decide_eq_true hn, decide_eq_false (p := l.length = l'.length) (by omega)]; rfl
   ·rw [decide_eq_true hk, decide_eq_true h6, decide_eq_true hn, decide_eq_true (p := l.length = l'.length) (by omega)]; exact fin
   ·rw [decide_eq_true hk, decide_eq_false h6, decide_eq_false (p := l.length = l'.length) (by omega)]; rfl
   ·rw [decide_eq_true hk, decide_eq_false h6, decide_eq_true (p := l.length = l'.length) (by omega)]; exact fin
 exact key (SizeOf.sizeOf t + 1) t u (by omega) hc hd
theorem first_len : (∀ (t : Ty) (l : List Int), l.length ≤ (firstT t l).length ∧ (firstT t l).length ≤ l.length + cnt t) := by
 have key : ∀ (N : Nat), (∀ (t : Ty) (l : List Int), SizeOf.sizeOf t < N → l.length ≤ (firstT t l).length ∧ (firstT t l).length ≤ l.length + cnt t) ∧ ∀ (ts : List Ty) (l : List Int), SizeOf.sizeOf ts < N → l.length ≤ (firstL ts l).length ∧ (firstL ts l).length ≤ l.length + cntL ts := by
  intro N
  induction N with
  | zero => exact ⟨fun _ _ h => by omega, fun _ _ h => by omega⟩
  | succ N ih =>
   obtain ⟨ih1, ih2⟩ := ih
   constructor
   ·intro t l ht
    cases t with
    | mk k n b ts =>
     simp only [Ty.mk.sizeOf_spec] at ht
     simp only [firstT, cnt]
     have h := ih2 ts (if k = 6 then addV l n else l) (by omega)
     have : l.length ≤ (if k = 6 then addV l n else l).length ∧ (if k = 6 then addV l n else l).length ≤ l.length + 1 := by
      split
      ·unfold addV; split <;> simp
      ·omega
     omega
   ·intro ts l hl
    cases ts with
    | nil => simp [firstL, cntL]
    | cons x xs =>
     simp only [List.cons.sizeOf_spec] at hl
     simp only [firstL, cntL]
     have h1 := ih1 x l (by omega)
     have h2 := ih2 xs (firstT x l) (by omega)
     omega
 exact fun t l => (key (SizeOf.sizeOf t + 1)).1 t l (by omega)
theorem firstL_len : ∀ (ts : List Ty) (l : List Int), l.length ≤ (firstL ts l).length ∧ (firstL ts l).length ≤ l.length + cntL ts
 | [], l => by simp [firstL, cntL]
 | x :: xs, l => by
  simp only [firstL, cntL]
  have h1 := first_len x l
  have h2 := firstL_len xs (firstT x l)
  omega
end Go.Proofs.YtnmolpkkemljoaaGreatDoor
end
end
section
namespace Kd
open Go.Am Go.Proofs.YtnmolpkkemljoaaGreatDoor
def encB (l : List (Int × Ty)) : List AV := l.map bindD
def varT (n : Int) : Ty := .mk 6 n true []
def nilB {α : Type} (l : List α) : Bool := decide (l.length = 0)
def wayN {α : Type} (l : List α) : Nat := if l.length = 0 then 0 else 1
mutual
def cleanT : Ty → Ty
 | .mk k n _ l => .mk k (if k = 6 then n else 0) (nilB l) (cleanL l)
def cleanL : List Ty → List Ty
 | [] => []
 | x :: xs => cleanT x :: cleanL xs
end
def boundO : List (Int × Ty) → Int → Option Ty
 | [], _ => none
 | x :: l, n => if x.1 = n then some x.2 else boundO l n
def boundT (l : List (Int × Ty)) (n : Int) : Ty := (boundO l n).getD (varT n)
mutual
def withT (bs : List (Int × Ty)) : Ty → Ty
 | .mk k n _ l => if k = 6 then cleanT (boundT bs n) else .mk k 0 (nilB l) (withL bs l)
def withL (bs : List (Int × Ty)) : List Ty → List Ty
 | [] => []
 | x :: xs => withT bs x :: withL bs xs
end
def numB : List Int → Nat → List (Int × Ty)
 | [], _ => []
 | n :: m, i => (n, varT i) :: numB m (i + 1)
def allC (l : List (Int × Ty)) : Prop := ∀ x ∈ l, cnt x.2 ≤ 1000
end Kd
noncomputable section
namespace Go.Proofs.YtnmolpkkemljoaaGreatDoor
open Go Go.Am Kd
def top3 : ABlk := .cells [.top, .top, .top] 24
structure ASt (α : Type) where
 i : Nat
 acc : List α
end Go.Proofs.YtnmolpkkemljoaaGreatDoor
end
end
section
noncomputable section
namespace Go.Proofs.YtnmolpkkemljoaaGreatDoor
open Go Go.Am Kd Go.Am.AV Go.IntKind
set_option maxRecDepth 100000
theorem great_top3 (x y z : Ty) (b : Bool) (r : Bool) : (runF greatHk 60 14 [.isl b none 0 [encD x, encD y, encD z]] AH.nil (retIs Tryz.prog 5 (.bool r))) = ( Int.NonNeg (0) ∧ ∃ x_1, some (agg [int i64 (Ty.kind x), int i64 (Ty.n x), isl (Ty.nl x) none (0) (encL (Ty.l x))]) = some (agg [int i64 (Ty.kind x_1), int i64 (Ty.n x_1), isl (Ty.nl x_1) none (0) (encL (Ty.l x_1))]) ∧ ∃ l, encL (Ty.l x_1) = encL l ∧ (Int.NonNeg (300) ∧ Int.NonNeg (700)) ∧
 bothR (decide ((300 : Int) < sizeT (Ty.mk (Ty.kind x_1) (Ty.n x_1) (Ty.nl x_1) l) ((300 : Int)))) (bool true = bool r) (∃ l, encL (Ty.l x_1) = encL l ∧ cnt (Ty.mk (Ty.kind x_1) (Ty.n x_1) (Ty.nl x_1) l) ≤ 1000 ∧ 44 = 44 ∧ SubR [AV.fn (Fn.func (49)) [] [ptr (0) (0)]] [AV.fn (Fn.func (49)) [] [ptr (0) (0)]] (0 = 0 ∧ bothR (decide ((40 : Int) < depT (Ty.mk (Ty.kind x_1) (Ty.n x_1) (Ty.nl x_1) l))) (bool true = bool r) (Int.NonNeg (1) ∧ ∃ x, some (agg [int i64 (Ty.kind y), int i64 (Ty.n y), isl (Ty.nl y) none (0) (encL (Ty.l y))]) =
 some (agg [int i64 (Ty.kind x), int i64 (Ty.n x), isl (Ty.nl x) none (0) (encL (Ty.l x))]) ∧ ∃ l, encL (Ty.l x) = encL l ∧ (Int.NonNeg (300) ∧ Int.NonNeg (700)) ∧ bothR (decide ((300 : Int) < sizeT (Ty.mk (Ty.kind x) (Ty.n x) (Ty.nl x) l) ((300 : Int)))) (bool true = bool r) (∃ l, encL (Ty.l x) = encL l ∧ cnt (Ty.mk (Ty.kind x) (Ty.n x) (Ty.nl x) l) ≤ 1000 ∧ 44 = 44 ∧ SubR [AV.fn (Fn.func (49)) [] [ptr (0) (0)]] [AV.fn (Fn.func (49)) [] [ptr (0) (0)]] (0 = 0 ∧
 bothR (decide ((40 : Int) < depT (Ty.mk (Ty.kind x) (Ty.n x) (Ty.nl x) l))) (bool true = bool r) (Int.NonNeg (2) ∧ ∃ x, some (agg [int i64 (Ty.kind z), int i64 (Ty.n z), isl (Ty.nl z) none (0) (encL (Ty.l z))]) = some (agg [int i64 (Ty.kind x), int i64 (Ty.n x), isl (Ty.nl x) none (0) (encL (Ty.l x))]) ∧ ∃ l, encL (Ty.l x) = encL l ∧ (Int.NonNeg (300) ∧ Int.NonNeg (700)) ∧ bothR (decide ((300 : Int) < sizeT (Ty.mk (Ty.kind x) (Ty.n x) (Ty.nl x) l) ((300 : Int)))) (bool true = bool r) (∃ l, encL (Ty.l x) = encL l ∧
 cnt (Ty.mk (Ty.kind x) (Ty.n x) (Ty.nl x) l) ≤ 1000 ∧ 44 = 44 ∧ SubR [AV.fn (Fn.func (49)) [] [ptr (0) (0)]] [AV.fn (Fn.func (49)) [] [ptr (0) (0)]] (0 = 0 ∧ bothR (decide ((40 : Int) < depT (Ty.mk (Ty.kind x) (Ty.n x) (Ty.nl x) l))) (bool true = bool r) (bool false = bool r)))))))))) := by kernel_rfl
end Go.Proofs.YtnmolpkkemljoaaGreatDoor
end
end
section
noncomputable section
namespace Go.Proofs.YtnmolpkkemljoaaGreatDoor
open Go Go.Am Kd
theorem great3_ok (b : Bool) (x y z : Ty) : QJ 14 [.isl b none 0 [enc x, enc y, enc z]] (.bool ((greatB x || greatB y) || greatB z)) := by
 refine QuietJ.ret (P := Tryz.prog) (G := g0) (f := 14) 5 (by simp [AV.stillL, AV.still, enc_still]) rfl (FuncJ.run (el := els) (mu := mu0) (hk := greatHk) hmix great_hooks (n := 60) ?_)
 rw [enc_D, enc_D, enc_D]
 show runF greatHk 60 14 _ _ _
 rw [great_top3]
 simp only [eq_self, true_and, SubR_id]
 refine ⟨nn 0, x, rfl, x.l, rfl, ?_⟩
 rw [Ty.eta]
 refine ⟨⟨nn 300, nn 700⟩, bothR_dec (fun h => ?_) fun h => ⟨x.l, rfl, ?_⟩⟩
 ·simp only [greatB, h, decide_true, Bool.true_or]
 rw [Ty.eta]
 refine ⟨small_cnt h, bothR_dec (fun h2 => ?_) fun h2 => ⟨nn 1, y, rfl, y.l, rfl, ?_⟩⟩
 ·simp only [greatB, h2, decide_true, Bool.or_true, Bool.true_or]
 rw [Ty.eta]
 have e : greatB x = false := by simp only [greatB, h, h2, decide_false, Bool.or_false]
 rw [e]
 refine ⟨⟨nn 300, nn 700⟩, bothR_dec (fun h => ?_) fun h => ⟨y.l, rfl, ?_⟩⟩
 ·simp only [greatB, h, decide_true, Bool.true_or, Bool.or_true]
 rw [Ty.eta]
 refine ⟨small_cnt h, bothR_dec (fun h2 => ?_) fun h2 => ⟨nn 2, z, rfl, z.l, rfl, ?_⟩⟩
 ·simp only [greatB, h2, decide_true, Bool.or_true, Bool.true_or]
 rw [Ty.eta]
 have e : greatB y = false := by simp only [greatB, h, h2, decide_false, Bool.or_false]
 rw [e]
 refine ⟨⟨nn 300, nn 700⟩, bothR_dec (fun h => ?_) fun h => ⟨z.l, rfl, ?_⟩⟩
 ·simp only [greatB, h, decide_true, Bool.true_or, Bool.or_true]
 rw [Ty.eta]
 refine ⟨small_cnt h, bothR_dec (fun h2 => ?_) fun h2 => ?_⟩
 ·simp only [greatB, h2, decide_true, Bool.or_true]
 ·simp only [greatB, h, h2, decide_false, Bool.or_false]
def great3Q : QSpec
 | [.isl _ none 0 [t, u, w]], K => argTy t fun t => argTy u fun u => argTy w fun w => K (.bool ((greatB t || greatB u) || greatB w))
 | _, _ => False
theorem great3_hook : QSpec.Ok Tryz.prog g0 14 great3Q := by
 intro args K h'
 unfold great3Q at h'
 split at h'
 ·obtain ⟨t, rfl, h⟩ := argTy_elim h'
  obtain ⟨u, rfl, h2⟩ := argTy_elim h
  obtain ⟨w, rfl, h3⟩ := argTy_elim h2
  exact ⟨_, great3_ok _ t u w, h3⟩
 ·exact h'.elim
end Go.Proofs.YtnmolpkkemljoaaGreatDoor
end
end
section
set_option maxRecDepth 100000
set_option linter.unusedSimpArgs false
set_option linter.unusedVariables false
noncomputable section
namespace Go.Proofs.YtnmolpkkemljoaaGreatDoor
open Go Go.Am Kd
theorem encB_still (l : List (Int × Ty)) : AV.stillL (encB l) = true := by
 induction l with
 | nil => rfl
 | cons x l ih => simp only [encB, List.map_cons, AV.stillL, bindD, AV.still, encL_still, Bool.true_and, Bool.and_true]; exact ih
theorem encL_snoc (l : List Ty) (u : Ty) : encL l ++ [AV.agg [.int .i64 u.kind, .int .i64 u.n, .isl u.nl none 0 (encL u.l)]] = encL (l ++ [u]) := by
 have e : encL [u] = [AV.agg [.int .i64 u.kind, .int .i64 u.n, .isl u.nl none 0 (encL u.l)]] := by simp only [encL, enc_D]; rfl
 rw [← e, encL_map l, encL_map [u], encL_map (l ++ [u]), List.map_append]
theorem encL_sing (u : Ty) : [AV.agg [.int .i64 u.kind, .int .i64 u.n, .isl u.nl none 0 (encL u.l)]] = encL [u] := encL_snoc [] u
theorem encD_still (u : Ty) : (encD u).still = true := by rw [← enc_D]; exact enc_still u
theorem cleanL_len : ∀ l, (cleanL l).length = l.length
 | [] => rfl
 | x :: xs => by simp [cleanL, cleanL_len xs]
theorem withL_len (bs : List (Int × Ty)) : ∀ l, (withL bs l).length = l.length
 | [] => rfl
 | x :: xs => by simp [withL, withL_len bs xs]
theorem wayN_1 {α : Type} {l : List α} (h : l.length ≠ 0) : wayN l = 1 := by simp [wayN, h]
theorem nil_of_0 {α : Type} {l : List α} (h : wayN l = 0) : l = [] := by
 unfold wayN at h
 split at h
 ·exact List.eq_nil_of_length_eq_zero ‹_›
 ·cases h
theorem ne_of_1 {α : Type} {l : List α} (h : wayN l = 1) : l.length ≠ 0 := by
 unfold wayN at h
 split at h
 ·cases h
 ·assumption
theorem bR_t {x y : Prop} : bothR true x y = x := rfl
theorem bR_f {x y : Prop} : bothR false x y = y := rfl
def numT (t : Ty) : Ty := withT (numB (firstT t []) 0) t
end Go.Proofs.YtnmolpkkemljoaaGreatDoor
end
end
section
namespace Kd
open Go.Am Go.Proofs.YtnmolpkkemljoaaGreatDoor
def st1 (t : Ty) (l : List Int) : List Int := if t.kind = 6 then addV l t.n else l
def idxL : List Int → Int → Nat → Int
 | [], _, _ => -1
 | x :: l, n, i => if n = x then (i : Int) else idxL l n (i + 1)
end Kd
noncomputable section
namespace Go.Proofs.YtnmolpkkemljoaaGreatDoor
open Go Go.Am Kd
def ixSt (b : Bool) (l : List Int) (n : Int) : LSt Nat Int where
 n := 0
 nf := 0
 rd := none
 fr x := frm 19 [(0, .isl b none 0 (encZ l)), (1, .int .i64 n), (6, .isl b none 0 (encZ l)), (7, .int .i64 l.length), (8, .int .i64 x)]
 hp _ := ⟨[], []⟩
 inv x := x ≤ l.length ∧ l.length ≤ 2000
 res x := idxL (l.drop x) n x
 sel r := decide (0 ≤ r)
 out b' r := match b' with
  | false => ⟨.exit 0, frm 19 [], ⟨[], []⟩⟩
  | true => ⟨.ret, frm 19 [(4, .int .i64 r)], ⟨[], []⟩⟩
def ixH' (b : Bool) (l : List Int) (n : Int) : Hooks := hooks [] [] [(2, ⟨121, 0, (ixSt b l n).spec⟩)]
def ctQ : QSpec
 | [l, n], K => argInts l fun _ l => argInt n fun n => (l.length ≤ 2000) ∧ K (.bool (l.contains n))
 | _, _ => False
def ixQ : QSpec
 | [l, n], K => argInts l fun _ l => argInt n fun n => (l.length ≤ 2000) ∧ K (.int .i64 (idxL l n 0))
 | _, _ => False
def ixHk : Hooks := hooks [(121, ixQ)] [] []
def acc1 (p : Nat) (xs : List AV) : AV := match p with | 0 => .isl true none 0 [] | _ => .isl false (some 2) 0 xs
def fam1 (p n : Nat) : List (Nat × Nat) := match p with | 0 => [(1, 3)] | _ => [(1, 3), (1, 1), (n, 1)]
def nf1 (p : Nat) : Nat := match p with | 0 => 1 | _ => 3
def vsH (st : LoopState) (pd : Option Code) (p : Nat) (l : List Int) : AH :=
 ⟨[top3, .cells [.int .i64 0] 28, top3, .cells [acc1 p (encZ l)] 50, .defers, .loop st pd (frm 28 [(4, .ptr 3 0)]).tmps (rP 36 0) (rA 36 0) (rB 36 0) 4], fam1 p l.length⟩
def vsG (p : Nat) (l : List Int) : AH := vsH .ready none p l
def vsW (A : AH) : AH := ⟨A.blks ++ [.cells [.fn (.yield 5) [] []] 42, .cells [.fn (.func 115) [] [.ptr 6 0, .ptr 7 0]] 42], A.fams⟩
def vsX (A : AH) : AH := ⟨(vsW A).blks ++ [top3], A.fams⟩
def vsPost (w : AH → AH) (l' : List Int) (o : AFin) : Prop :=
 match o.e with
 | .returned (.bool true) =>
  (wayN l' = 1 ∧ BlksR o.A.blks (w (vsG 1 l')).blks (FamR 3 o.A.fams (w (vsG 1 l')).fams True)) ∨
  (wayN l' = 0 ∧ BlksR o.A.blks (w (vsG 0 l')).blks (FamR 1 o.A.fams (w (vsG 0 l')).fams True))
 | _ => False
def argAcc (A : AH) (K : Nat → List Int → Prop) : Prop :=
 match nthR A.blks 3 with
 | some (.cells [.isl true none 0 []] 50) => K 0 []
 | some (.cells [.isl false (some 2) 0 xs] 50) => ∃ l, xs = encZ l ∧ wayN l = 1 ∧ K 1 l
 | _ => False
def vsEnd (w : AH → AH) (A : AH) (l' : List Int) (K : AFin → Prop) : Prop :=
 (wayN l' = 1 → K ⟨.returned (.bool true), (w (vsG 1 l')).onto A⟩) ∧ (wayN l' = 0 → K ⟨.returned (.bool true), (w (vsG 0 l')).onto A⟩)
def vsRound : RSpec := fun l args A K =>
 match l, args with
 | 5, [t] => argTy t fun t => argAcc A fun p l => (l.length ≤ 2000) ∧ onG A (vsG p l) (vsEnd id A (st1 t l) K)
 | _, _ => False
def vwalkH (N : Nat) : HSpec := fun args A K =>
 match args with
 | [t, .ptr 6 0, .ptr 7 0] => argTy t fun t => argAcc A fun p l => (SizeOf.sizeOf t < N ∧ cnt t ≤ 1000 ∧ l.length + cnt t ≤ 2000) ∧ onG A (vsW (vsG p l)) (vsEnd vsW A (firstT t l) K)
 | _ => False
structure VSt where
 i : Nat
 l : List Int
def vwSt (bb : Bool) (ts : List Ty) : LSN VSt (List Int) where
 m := 2
 ways := 2
 n _ := 9
 nf p := nf1 p
 rd := none
 fr _ x := frm 23 [(2, .ptr 7 0), (12, .isl bb none 0 (encL ts)), (13, .int .i64 (encL ts).length), (14, .int .i64 x.i)]
 hp p x := vsX (vsG p x.l)
 inv p x := x.i ≤ ts.length ∧ wayN x.l = p ∧ cntL ts ≤ 1000 ∧ x.l.length + cntL (ts.drop x.i) ≤ 2000
 res _ x := firstL (ts.drop x.i) x.l
 sel r := wayN r
 wn _ := 9
 wnf w := nf1 w
 out w r := ⟨.exit 0, frm 23 [], vsX (vsG w r)⟩
def vwH1 (N : Nat) : Hooks := mkHooks Tryz.prog [] [(115, vwalkH N)] []
def vwH2 (bb : Bool) (ts : List Ty) : Hooks := mkHooks Tryz.prog [] [] [(4, ⟨115, 0, (vwSt bb ts).spec⟩)] (some vsRound)
def ctHk : Hooks := hooks [(86, weakQ 3 ctQ)] [] []
def vwalkH0 : HSpec := fun args A K =>
 match args with
 | [t, .ptr 6 0, .ptr 7 0] => argTy t fun t => argAcc A fun p l => (cnt t ≤ 1000 ∧ l.length + cnt t ≤ 2000) ∧ onG A (vsW (vsG p l)) (vsEnd vsW A (firstT t l) K)
 | _ => False
def varsHk : Hooks := mkHooks Tryz.prog [(76, validQ), (80, partsQ)] [(115, vwalkH0)] []
end Go.Proofs.YtnmolpkkemljoaaGreatDoor
end
end
section
noncomputable section
namespace Go.Proofs.YtnmolpkkemljoaaGreatDoor
open Go Go.Am Kd Go.Am.AV Go.IntKind
set_option maxRecDepth 100000
theorem ix_loop (b : Bool) (l : List Int) (n : Int) (meas : Nat → Nat) (x : Nat) : (runL hk0 60 121 0 (ixSt b l n) meas x) = ( bothR (decide (iC x < iC (List.length l))) (0 ≤ iC x ∧ ∃ x_1, (encZ l)[Int.toNat (iC x)]? = some (int i64 x_1) ∧ bothR (decide (n = x_1)) (decide ((0 : Int) ≤ idxL (List.drop x l) n x) = true ∧ int i64 (iC x) = int i64 (idxL (List.drop x l) n x) ∧ 0 = 0 ∧ True) (∃ y, (y ≤ List.length l ∧ List.length l ≤ 2000) ∧ meas y < meas x ∧ idxL (List.drop y l) n y = idxL (List.drop x l) n x ∧
 isl b none (0) (encZ l) = isl b none (0) (encZ l) ∧ int i64 n = int i64 n ∧ isl b none (0) (encZ l) = isl b none (0) (encZ l) ∧ int i64 (iC (List.length l)) = int i64 (iC (List.length l)) ∧ int i64 (IntKind.wrap IntKind.i64 (iC x + (1 : Int))) = int i64 (iC y) ∧ 0 = 0 ∧ True)) (decide ((0 : Int) ≤ idxL (List.drop x l) n x) = false ∧ 0 = 0 ∧ True)) := by kernel_rfl
theorem ix_top (b : Bool) (l : List Int) (n : Int) (r : Int) : (runF (ixH' b l n) 60 121 [.isl b none 0 (encZ l), .int .i64 n] AH.nil (retIs Tryz.prog 5 (.int .i64 r))) = ( codeIs (loopOf Tryz.prog 121 0) Tryz.prog 121 0 (∃ x, (x ≤ List.length l ∧ List.length l ≤ 2000) ∧ isl b none (0) (encZ l) = isl b none (0) (encZ l) ∧ int i64 n = int i64 n ∧ isl b none (0) (encZ l) = isl b none (0) (encZ l) ∧ int i64 (iC (List.length (encZ l))) = int i64 (iC (List.length l)) ∧ int i64 (0) = int i64 (iC x) ∧ 0 = 0 ∧
 bothR (decide ((0 : Int) ≤ idxL (List.drop x l) n x)) (int i64 (idxL (List.drop x l) n x) = int i64 r) (int i64 (-1) = int i64 r))) := by kernel_rfl
theorem ct_top (b : Bool) (l : List Int) (n : Int) (r : Bool) : (runF ixHk 60 86 [.isl b none 0 (encZ l), .int .i64 n] AH.nil (retIs Tryz.prog 5 (.bool r))) = ( ∃ l_1, encZ l = encZ l_1 ∧ List.length l_1 ≤ 2000 ∧ bool (decide ((0 : Int) ≤ idxL l_1 n 0)) = bool r) := by kernel_rfl
theorem vs_round0 (t : Ty) (l' : List Int) : (runR ctHk 60 5 [encD t] (vsG 0 []) (vsPost id l')) = ( bothR (!decide (Ty.kind t = (6 : Int))) (wayN l' = 1 ∧ 24 = 24 ∧ 28 = 28 ∧ SubR [int i64 (0)] [int i64 (0)] (24 = 24 ∧ 50 = 50 ∧ isl true none (0) [] = isl false (some (2)) (0) (encZ l') ∧ (LoopState.ready = LoopState.ready ∧ (none : Option Code) = none ∧ ((Array.mk (α := Nat) [12]), rA (36) (0), rB (36) (0)) = ((Array.mk (α := Nat) [12]), rA (36) (0), rB (36) (0)) ∧ 4 = 4) ∧ ptr (3) (0) = ptr (3) (0) ∧ [(1, 3)] = [(1, 3), (1, 1), (List.length l', 1)] ∧ True) ∨
 wayN l' = 0 ∧ 24 = 24 ∧ 28 = 28 ∧ SubR [int i64 (0)] [int i64 (0)] (24 = 24 ∧ 50 = 50 ∧ SubR [isl true none (0) []] [isl true none (0) []] ((LoopState.ready = LoopState.ready ∧ (none : Option Code) = none ∧ ((Array.mk (α := Nat) [12]), rA (36) (0), rB (36) (0)) = ((Array.mk (α := Nat) [12]), rA (36) (0), rB (36) (0)) ∧ 4 = 4) ∧ ptr (3) (0) = ptr (3) (0) ∧ [(1, 3)] = [(1, 3)] ∧ True))) (∃ l, [] = encZ l ∧ List.length l ≤ 2000 ∧ bothR (List.elem (Ty.n t) l) (wayN l' = 1 ∧ 24 = 24 ∧ 28 = 28 ∧ SubR [int i64 (0)] [int i64 (0)] (24 = 24 ∧
 50 = 50 ∧ isl true none (0) [] = isl false (some (2)) (0) (encZ l') ∧ (LoopState.ready = LoopState.ready ∧ (none : Option Code) = none ∧ ((Array.mk (α := Nat) [12]), rA (36) (0), rB (36) (0)) = ((Array.mk (α := Nat) [12]), rA (36) (0), rB (36) (0)) ∧ 4 = 4) ∧ ptr (3) (0) = ptr (3) (0) ∧ [(1, 3)] = [(1, 3), (1, 1), (List.length l', 1)] ∧ True) ∨ wayN l' = 0 ∧ 24 = 24 ∧ 28 = 28 ∧ SubR [int i64 (0)] [int i64 (0)] (24 = 24 ∧ 50 = 50 ∧ SubR [isl true none (0) []] [isl true none (0) []] ((LoopState.ready = LoopState.ready ∧ (none : Option Code) = none ∧
 ((Array.mk (α := Nat) [12]), rA (36) (0), rB (36) (0)) = ((Array.mk (α := Nat) [12]), rA (36) (0), rB (36) (0)) ∧ 4 = 4) ∧ ptr (3) (0) = ptr (3) (0) ∧ [(1, 3)] = [(1, 3)] ∧ True))) ((Nat.le (8) (35184372088832) ∧ Nat.le (1) (1152921504606846976)) ∧ true = true ∧ (wayN l' = 1 ∧ 24 = 24 ∧ 28 = 28 ∧ SubR [int i64 (0)] [int i64 (0)] (24 = 24 ∧ 50 = 50 ∧ isl false (some (2)) (0) [int i64 (Ty.n t)] = isl false (some (2)) (0) (encZ l') ∧ (LoopState.ready = LoopState.ready ∧ (none : Option Code) = none ∧
 ((Array.mk (α := Nat) [12]), rA (36) (0), rB (36) (0)) = ((Array.mk (α := Nat) [12]), rA (36) (0), rB (36) (0)) ∧ 4 = 4) ∧ ptr (3) (0) = ptr (3) (0) ∧ [(1, 3), (1, 1), (1, 1)] = [(1, 3), (1, 1), (List.length l', 1)] ∧ True) ∨ wayN l' = 0 ∧ 24 = 24 ∧ 28 = 28 ∧ SubR [int i64 (0)] [int i64 (0)] (24 = 24 ∧ 50 = 50 ∧ (false = true ∧ [int i64 (Ty.n t)] = []) ∧ (LoopState.ready = LoopState.ready ∧ (none : Option Code) = none ∧ ((Array.mk (α := Nat) [12]), rA (36) (0), rB (36) (0)) = ((Array.mk (α := Nat) [12]), rA (36) (0), rB (36) (0)) ∧ 4 = 4) ∧
 ptr (3) (0) = ptr (3) (0) ∧ [(1, 3)] = [(1, 3)] ∧ True))))) := by kernel_rfl
theorem vs_round1 (t : Ty) (l l' : List Int) : (runR ctHk 60 5 [encD t] (vsG 1 l) (vsPost id l')) = ( bothR (!decide (Ty.kind t = (6 : Int))) (wayN l' = 1 ∧ 24 = 24 ∧ 28 = 28 ∧ SubR [int i64 (0)] [int i64 (0)] (24 = 24 ∧ 50 = 50 ∧ isl false (some (2)) (0) (encZ l) = isl false (some (2)) (0) (encZ l') ∧ (LoopState.ready = LoopState.ready ∧ (none : Option Code) = none ∧ ((Array.mk (α := Nat) [12]), rA (36) (0), rB (36) (0)) = ((Array.mk (α := Nat) [12]), rA (36) (0), rB (36) (0)) ∧ 4 = 4) ∧ ptr (3) (0) = ptr (3) (0) ∧ [(1, 3), (1, 1), (List.length l, 1)] =
 [(1, 3), (1, 1), (List.length l', 1)] ∧ True) ∨ wayN l' = 0 ∧ 24 = 24 ∧ 28 = 28 ∧ SubR [int i64 (0)] [int i64 (0)] (24 = 24 ∧ 50 = 50 ∧ (false = true ∧ encZ l = []) ∧ (LoopState.ready = LoopState.ready ∧ (none : Option Code) = none ∧ ((Array.mk (α := Nat) [12]), rA (36) (0), rB (36) (0)) = ((Array.mk (α := Nat) [12]), rA (36) (0), rB (36) (0)) ∧ 4 = 4) ∧ ptr (3) (0) = ptr (3) (0) ∧ [(1, 3)] = [(1, 3)] ∧ True)) (∃ l_1, encZ l = encZ l_1 ∧ List.length l_1 ≤ 2000 ∧ bothR (List.elem (Ty.n t) l_1) (wayN l' = 1 ∧ 24 = 24 ∧ 28 = 28 ∧
 SubR [int i64 (0)] [int i64 (0)] (24 = 24 ∧ 50 = 50 ∧ isl false (some (2)) (0) (encZ l) = isl false (some (2)) (0) (encZ l') ∧ (LoopState.ready = LoopState.ready ∧ (none : Option Code) = none ∧ ((Array.mk (α := Nat) [12]), rA (36) (0), rB (36) (0)) = ((Array.mk (α := Nat) [12]), rA (36) (0), rB (36) (0)) ∧ 4 = 4) ∧ ptr (3) (0) = ptr (3) (0) ∧ [(1, 3), (1, 1), (List.length l, 1)] = [(1, 3), (1, 1), (List.length l', 1)] ∧ True) ∨ wayN l' = 0 ∧ 24 = 24 ∧ 28 = 28 ∧ SubR [int i64 (0)] [int i64 (0)] (24 = 24 ∧ 50 = 50 ∧
 (false = true ∧ encZ l = []) ∧ (LoopState.ready = LoopState.ready ∧ (none : Option Code) = none ∧ ((Array.mk (α := Nat) [12]), rA (36) (0), rB (36) (0)) = ((Array.mk (α := Nat) [12]), rA (36) (0), rB (36) (0)) ∧ 4 = 4) ∧ ptr (3) (0) = ptr (3) (0) ∧ [(1, 3)] = [(1, 3)] ∧ True)) (((List.length (encZ l) + 1) * 8 ≤ 35184372088832 ∧ List.length (encZ l) + 1 ≤ 1152921504606846976) ∧ true = true ∧ some (List.length l, 1) = some (0 + List.length (encZ l), 1) ∧ List.all (encZ l) (oneSz (0 + 1)) = true ∧ (wayN l' = 1 ∧ 24 = 24 ∧ 28 = 28 ∧ SubR [int i64 (0)] [int i64 (0)]
 (24 = 24 ∧ 50 = 50 ∧ isl false (some (2)) (0) (encZ l ++ [int i64 (Ty.n t)]) = isl false (some (2)) (0) (encZ l') ∧ (LoopState.ready = LoopState.ready ∧ (none : Option Code) = none ∧ ((Array.mk (α := Nat) [12]), rA (36) (0), rB (36) (0)) = ((Array.mk (α := Nat) [12]), rA (36) (0), rB (36) (0)) ∧ 4 = 4) ∧ ptr (3) (0) = ptr (3) (0) ∧ [(1, 3), (1, 1), (0 + List.length (encZ l) + 1, 1)] = [(1, 3), (1, 1), (List.length l', 1)] ∧ True) ∨ wayN l' = 0 ∧ 24 = 24 ∧ 28 = 28 ∧ SubR [int i64 (0)] [int i64 (0)] (24 = 24 ∧ 50 = 50 ∧
 (false = true ∧ encZ l ++ [int i64 (Ty.n t)] = []) ∧ (LoopState.ready = LoopState.ready ∧ (none : Option Code) = none ∧ ((Array.mk (α := Nat) [12]), rA (36) (0), rB (36) (0)) = ((Array.mk (α := Nat) [12]), rA (36) (0), rB (36) (0)) ∧ 4 = 4) ∧ ptr (3) (0) = ptr (3) (0) ∧ [(1, 3)] = [(1, 3)] ∧ True))))) := by kernel_rfl
theorem vw_loop0 (bb : Bool) (ts : List Ty) (N : Nat) (meas : VSt → Nat) (x : VSt) : (runN (vwH1 N) 60 115 0 (vwSt bb ts) meas 0 x) = ( bothR (decide (iC (VSt.i x) < iC (List.length (encL ts)))) (0 ≤ iC (VSt.i x) ∧ ∃ x_1, (encL ts)[Int.toNat (iC (VSt.i x))]? = some (agg [int i64 (Ty.kind x_1), int i64 (Ty.n x_1), isl (Ty.nl x_1) none (0) (encL (Ty.l x_1))]) ∧ ∃ l, encL (Ty.l x_1) = encL l ∧ (SizeOf.sizeOf (Ty.mk (Ty.kind x_1) (Ty.n x_1) (Ty.nl x_1) l) < N ∧
 cnt (Ty.mk (Ty.kind x_1) (Ty.n x_1) (Ty.nl x_1) l) ≤ 1000 ∧ 0 + cnt (Ty.mk (Ty.kind x_1) (Ty.n x_1) (Ty.nl x_1) l) ≤ 2000) ∧ 24 = 24 ∧ 28 = 28 ∧ SubR [int i64 (0)] [int i64 (0)] (24 = 24 ∧ 50 = 50 ∧ SubR [isl true none (0) []] [isl true none (0) []] ((LoopState.ready = LoopState.ready ∧ (none : Option Code) = none ∧ ((Array.mk (α := Nat) [12]), rA (36) (0), rB (36) (0)) = ((Array.mk (α := Nat) [12]), rA (36) (0), rB (36) (0)) ∧ 4 = 4) ∧ ptr (3) (0) = ptr (3) (0) ∧ 42 = 42 ∧ SubR [AV.fn (Fn.yield (5)) [] []] [AV.fn (Fn.yield (5)) [] []] (42 = 42 ∧
 SubR [AV.fn (Fn.func (115)) [] [ptr (6) (0), ptr (7) (0)]] [AV.fn (Fn.func (115)) [] [ptr (6) (0), ptr (7) (0)]] ([(1, 3)] = [(1, 3)] ∧ (wayN (firstT (Ty.mk (Ty.kind x_1) (Ty.n x_1) (Ty.nl x_1) l) []) = 1 → (∃ y, (VSt.i y ≤ List.length ts ∧ wayN (VSt.l y) = 1 ∧ cntL ts ≤ 1000 ∧ List.length (VSt.l y) + cntL (List.drop (VSt.i y) ts) ≤ 2000) ∧ meas y < meas x ∧ firstL (List.drop (VSt.i y) ts) (VSt.l y) = firstL (List.drop (VSt.i x) ts) (VSt.l x) ∧ ptr (7) (0) = ptr (7) (0) ∧ isl bb none (0) (encL ts) = isl bb none (0) (encL ts) ∧
 int i64 (iC (List.length (encL ts))) = int i64 (iC (List.length (encL ts))) ∧ int i64 (IntKind.wrap IntKind.i64 (iC (VSt.i x) + (1 : Int))) = int i64 (iC (VSt.i y)) ∧ 24 = 24 ∧ 28 = 28 ∧ SubR [int i64 (0)] [int i64 (0)] (24 = 24 ∧ 50 = 50 ∧ isl false (some (2)) (0) (encZ (firstT (Ty.mk (Ty.kind x_1) (Ty.n x_1) (Ty.nl x_1) l) [])) = isl false (some (2)) (0) (encZ (VSt.l y)) ∧ (LoopState.ready = LoopState.ready ∧ (none : Option Code) = none ∧ ((Array.mk (α := Nat) [12]), rA (36) (0), rB (36) (0)) =
 ((Array.mk (α := Nat) [12]), rA (36) (0), rB (36) (0)) ∧ 4 = 4) ∧ ptr (3) (0) = ptr (3) (0) ∧ 42 = 42 ∧ SubR [AV.fn (Fn.yield (5)) [] []] [AV.fn (Fn.yield (5)) [] []] (42 = 42 ∧ SubR [AV.fn (Fn.func (115)) [] [ptr (6) (0), ptr (7) (0)]] [AV.fn (Fn.func (115)) [] [ptr (6) (0), ptr (7) (0)]] (24 = 24 ∧ [(1, 3), (1, 1), (List.length (firstT (Ty.mk (Ty.kind x_1) (Ty.n x_1) (Ty.nl x_1) l) []), 1)] = [(1, 3), (1, 1), (List.length (VSt.l y), 1)] ∧ True)))) ∨ ∃ y, (VSt.i y ≤ List.length ts ∧ wayN (VSt.l y) = 0 ∧
 cntL ts ≤ 1000 ∧ List.length (VSt.l y) + cntL (List.drop (VSt.i y) ts) ≤ 2000) ∧ meas y < meas x ∧ firstL (List.drop (VSt.i y) ts) (VSt.l y) = firstL (List.drop (VSt.i x) ts) (VSt.l x) ∧ ptr (7) (0) = ptr (7) (0) ∧ isl bb none (0) (encL ts) = isl bb none (0) (encL ts) ∧ int i64 (iC (List.length (encL ts))) = int i64 (iC (List.length (encL ts))) ∧ int i64 (IntKind.wrap IntKind.i64 (iC (VSt.i x) + (1 : Int))) = int i64 (iC (VSt.i y)) ∧ 24 = 24 ∧ 28 = 28 ∧ SubR [int i64 (0)] [int i64 (0)] (24 = 24 ∧ 50 = 50 ∧
 (false = true ∧ encZ (firstT (Ty.mk (Ty.kind x_1) (Ty.n x_1) (Ty.nl x_1) l) []) = []) ∧ (LoopState.ready = LoopState.ready ∧ (none : Option Code) = none ∧ ((Array.mk (α := Nat) [12]), rA (36) (0), rB (36) (0)) = ((Array.mk (α := Nat) [12]), rA (36) (0), rB (36) (0)) ∧ 4 = 4) ∧ ptr (3) (0) = ptr (3) (0) ∧ 42 = 42 ∧ SubR [AV.fn (Fn.yield (5)) [] []] [AV.fn (Fn.yield (5)) [] []] (42 = 42 ∧ SubR [AV.fn (Fn.func (115)) [] [ptr (6) (0), ptr (7) (0)]] [AV.fn (Fn.func (115)) [] [ptr (6) (0), ptr (7) (0)]] (24 = 24 ∧ [(1, 3)] = [(1, 3)] ∧ True)))) ∧
 (wayN (firstT (Ty.mk (Ty.kind x_1) (Ty.n x_1) (Ty.nl x_1) l) []) = 0 → (∃ y, (VSt.i y ≤ List.length ts ∧ wayN (VSt.l y) = 1 ∧ cntL ts ≤ 1000 ∧ List.length (VSt.l y) + cntL (List.drop (VSt.i y) ts) ≤ 2000) ∧ meas y < meas x ∧ firstL (List.drop (VSt.i y) ts) (VSt.l y) = firstL (List.drop (VSt.i x) ts) (VSt.l x) ∧ ptr (7) (0) = ptr (7) (0) ∧ isl bb none (0) (encL ts) = isl bb none (0) (encL ts) ∧ int i64 (iC (List.length (encL ts))) = int i64 (iC (List.length (encL ts))) ∧ int i64 (IntKind.wrap IntKind.i64 (iC (VSt.i x) + (1 : Int))) =
 int i64 (iC (VSt.i y)) ∧ 24 = 24 ∧ 28 = 28 ∧ SubR [int i64 (0)] [int i64 (0)] (24 = 24 ∧ 50 = 50 ∧ isl true none (0) [] = isl false (some (2)) (0) (encZ (VSt.l y)) ∧ (LoopState.ready = LoopState.ready ∧ (none : Option Code) = none ∧ ((Array.mk (α := Nat) [12]), rA (36) (0), rB (36) (0)) = ((Array.mk (α := Nat) [12]), rA (36) (0), rB (36) (0)) ∧ 4 = 4) ∧ ptr (3) (0) = ptr (3) (0) ∧ 42 = 42 ∧ SubR [AV.fn (Fn.yield (5)) [] []] [AV.fn (Fn.yield (5)) [] []] (42 = 42 ∧ SubR [AV.fn (Fn.func (115)) [] [ptr (6) (0), ptr (7) (0)]]
 [AV.fn (Fn.func (115)) [] [ptr (6) (0), ptr (7) (0)]] (24 = 24 ∧ [(1, 3)] = [(1, 3), (1, 1), (List.length (VSt.l y), 1)] ∧ True)))) ∨ ∃ y, (VSt.i y ≤ List.length ts ∧ wayN (VSt.l y) = 0 ∧ cntL ts ≤ 1000 ∧ List.length (VSt.l y) + cntL (List.drop (VSt.i y) ts) ≤ 2000) ∧ meas y < meas x ∧ firstL (List.drop (VSt.i y) ts) (VSt.l y) = firstL (List.drop (VSt.i x) ts) (VSt.l x) ∧ ptr (7) (0) = ptr (7) (0) ∧ isl bb none (0) (encL ts) = isl bb none (0) (encL ts) ∧ int i64 (iC (List.length (encL ts))) = int i64 (iC (List.length (encL ts))) ∧
 int i64 (IntKind.wrap IntKind.i64 (iC (VSt.i x) + (1 : Int))) = int i64 (iC (VSt.i y)) ∧ 24 = 24 ∧ 28 = 28 ∧ SubR [int i64 (0)] [int i64 (0)] (24 = 24 ∧ 50 = 50 ∧ SubR [isl true none (0) []] [isl true none (0) []] ((LoopState.ready = LoopState.ready ∧ (none : Option Code) = none ∧ ((Array.mk (α := Nat) [12]), rA (36) (0), rB (36) (0)) = ((Array.mk (α := Nat) [12]), rA (36) (0), rB (36) (0)) ∧ 4 = 4) ∧ ptr (3) (0) = ptr (3) (0) ∧ 42 = 42 ∧ SubR [AV.fn (Fn.yield (5)) [] []] [AV.fn (Fn.yield (5)) [] []] (42 = 42 ∧ SubR
 [AV.fn (Fn.func (115)) [] [ptr (6) (0), ptr (7) (0)]] [AV.fn (Fn.func (115)) [] [ptr (6) (0), ptr (7) (0)]] (24 = 24 ∧ [(1, 3)] = [(1, 3)] ∧ True)))))))))) (wayN (firstL (List.drop (VSt.i x) ts) (VSt.l x)) = 1 ∧ 24 = 24 ∧ 28 = 28 ∧ SubR [int i64 (0)] [int i64 (0)] (24 = 24 ∧ 50 = 50 ∧ isl true none (0) [] = isl false (some (2)) (0) (encZ (firstL (List.drop (VSt.i x) ts) (VSt.l x))) ∧ (LoopState.ready = LoopState.ready ∧ (none : Option Code) = none ∧ ((Array.mk (α := Nat) [12]), rA (36) (0), rB (36) (0)) =
 ((Array.mk (α := Nat) [12]), rA (36) (0), rB (36) (0)) ∧ 4 = 4) ∧ ptr (3) (0) = ptr (3) (0) ∧ 42 = 42 ∧ SubR [AV.fn (Fn.yield (5)) [] []] [AV.fn (Fn.yield (5)) [] []] (42 = 42 ∧ SubR [AV.fn (Fn.func (115)) [] [ptr (6) (0), ptr (7) (0)]] [AV.fn (Fn.func (115)) [] [ptr (6) (0), ptr (7) (0)]] (24 = 24 ∧ [(1, 3)] = [(1, 3), (1, 1), (List.length (firstL (List.drop (VSt.i x) ts) (VSt.l x)), 1)] ∧ True))) ∨ wayN (firstL (List.drop (VSt.i x) ts) (VSt.l x)) = 0 ∧ 24 = 24 ∧ 28 = 28 ∧ SubR [int i64 (0)] [int i64 (0)] (24 = 24 ∧ 50 = 50 ∧
 SubR [isl true none (0) []] [isl true none (0) []] ((LoopState.ready = LoopState.ready ∧ (none : Option Code) = none ∧ ((Array.mk (α := Nat) [12]), rA (36) (0), rB (36) (0)) = ((Array.mk (α := Nat) [12]), rA (36) (0), rB (36) (0)) ∧ 4 = 4) ∧ ptr (3) (0) = ptr (3) (0) ∧ 42 = 42 ∧ SubR [AV.fn (Fn.yield (5)) [] []] [AV.fn (Fn.yield (5)) [] []] (42 = 42 ∧ SubR [AV.fn (Fn.func (115)) [] [ptr (6) (0), ptr (7) (0)]] [AV.fn (Fn.func (115)) [] [ptr (6) (0), ptr (7) (0)]] (24 = 24 ∧ [(1, 3)] = [(1, 3)] ∧ True)))))) := by kernel_rfl
theorem vw_loop1 (bb : Bool) (ts : List Ty) (N : Nat) (meas : VSt → Nat) (x : VSt) : (runN (vwH1 N) 60 115 0 (vwSt bb ts) meas 1 x) = ( bothR (decide (iC (VSt.i x) < iC (List.length (encL ts)))) (0 ≤ iC (VSt.i x) ∧ ∃ x_1, (encL ts)[Int.toNat (iC (VSt.i x))]? = some (agg [int i64 (Ty.kind x_1), int i64 (Ty.n x_1), isl (Ty.nl x_1) none (0) (encL (Ty.l x_1))]) ∧ ∃ l, encL (Ty.l x_1) = encL l ∧ ∃ l_1, encZ (VSt.l x) = encZ l_1 ∧ wayN l_1 = 1 ∧ (SizeOf.sizeOf (Ty.mk (Ty.kind x_1) (Ty.n x_1) (Ty.nl x_1) l) < N ∧ cnt (Ty.mk (Ty.kind x_1) (Ty.n x_1) (Ty.nl x_1) l) ≤ 1000 ∧
 List.length l_1 + cnt (Ty.mk (Ty.kind x_1) (Ty.n x_1) (Ty.nl x_1) l) ≤ 2000) ∧ 24 = 24 ∧ 28 = 28 ∧ SubR [int i64 (0)] [int i64 (0)] (24 = 24 ∧ 50 = 50 ∧ isl false (some (2)) (0) (encZ (VSt.l x)) = isl false (some (2)) (0) (encZ l_1) ∧ (LoopState.ready = LoopState.ready ∧ (none : Option Code) = none ∧ ((Array.mk (α := Nat) [12]), rA (36) (0), rB (36) (0)) = ((Array.mk (α := Nat) [12]), rA (36) (0), rB (36) (0)) ∧ 4 = 4) ∧ ptr (3) (0) = ptr (3) (0) ∧ 42 = 42 ∧ SubR [AV.fn (Fn.yield (5)) [] []] [AV.fn (Fn.yield (5)) [] []] (42 = 42 ∧
 SubR [AV.fn (Fn.func (115)) [] [ptr (6) (0), ptr (7) (0)]] [AV.fn (Fn.func (115)) [] [ptr (6) (0), ptr (7) (0)]] ([(1, 3), (1, 1), (List.length (VSt.l x), 1)] = [(1, 3), (1, 1), (List.length l_1, 1)] ∧ (wayN (firstT (Ty.mk (Ty.kind x_1) (Ty.n x_1) (Ty.nl x_1) l) l_1) = 1 → ∃ y, (VSt.i y ≤ List.length ts ∧ wayN (VSt.l y) = 1 ∧ cntL ts ≤ 1000 ∧ List.length (VSt.l y) + cntL (List.drop (VSt.i y) ts) ≤ 2000) ∧ meas y < meas x ∧ firstL (List.drop (VSt.i y) ts) (VSt.l y) = firstL (List.drop (VSt.i x) ts) (VSt.l x) ∧ ptr (7) (0) = ptr (7) (0) ∧
 isl bb none (0) (encL ts) = isl bb none (0) (encL ts) ∧ int i64 (iC (List.length (encL ts))) = int i64 (iC (List.length (encL ts))) ∧ int i64 (IntKind.wrap IntKind.i64 (iC (VSt.i x) + (1 : Int))) = int i64 (iC (VSt.i y)) ∧ 24 = 24 ∧ 28 = 28 ∧ SubR [int i64 (0)] [int i64 (0)] (24 = 24 ∧ 50 = 50 ∧ isl false (some (2)) (0) (encZ (firstT (Ty.mk (Ty.kind x_1) (Ty.n x_1) (Ty.nl x_1) l) l_1)) = isl false (some (2)) (0) (encZ (VSt.l y)) ∧ (LoopState.ready = LoopState.ready ∧ (none : Option Code) = none ∧
 ((Array.mk (α := Nat) [12]), rA (36) (0), rB (36) (0)) = ((Array.mk (α := Nat) [12]), rA (36) (0), rB (36) (0)) ∧ 4 = 4) ∧ ptr (3) (0) = ptr (3) (0) ∧ 42 = 42 ∧ SubR [AV.fn (Fn.yield (5)) [] []] [AV.fn (Fn.yield (5)) [] []] (42 = 42 ∧ SubR [AV.fn (Fn.func (115)) [] [ptr (6) (0), ptr (7) (0)]] [AV.fn (Fn.func (115)) [] [ptr (6) (0), ptr (7) (0)]] (24 = 24 ∧ [(1, 3), (1, 1), (List.length (firstT (Ty.mk (Ty.kind x_1) (Ty.n x_1) (Ty.nl x_1) l) l_1), 1)] = [(1, 3), (1, 1), (List.length (VSt.l y), 1)] ∧ True)))) ∧
 (wayN (firstT (Ty.mk (Ty.kind x_1) (Ty.n x_1) (Ty.nl x_1) l) l_1) = 0 → ∃ y, (VSt.i y ≤ List.length ts ∧ wayN (VSt.l y) = 1 ∧ cntL ts ≤ 1000 ∧ List.length (VSt.l y) + cntL (List.drop (VSt.i y) ts) ≤ 2000) ∧ meas y < meas x ∧ firstL (List.drop (VSt.i y) ts) (VSt.l y) = firstL (List.drop (VSt.i x) ts) (VSt.l x) ∧ ptr (7) (0) = ptr (7) (0) ∧ isl bb none (0) (encL ts) = isl bb none (0) (encL ts) ∧ int i64 (iC (List.length (encL ts))) = int i64 (iC (List.length (encL ts))) ∧ int i64 (IntKind.wrap IntKind.i64 (iC (VSt.i x) + (1 : Int))) =
 int i64 (iC (VSt.i y)) ∧ 24 = 24 ∧ 28 = 28 ∧ SubR [int i64 (0)] [int i64 (0)] (24 = 24 ∧ 50 = 50 ∧ isl true none (0) [] = isl false (some (2)) (0) (encZ (VSt.l y)) ∧ (LoopState.ready = LoopState.ready ∧ (none : Option Code) = none ∧ ((Array.mk (α := Nat) [12]), rA (36) (0), rB (36) (0)) = ((Array.mk (α := Nat) [12]), rA (36) (0), rB (36) (0)) ∧ 4 = 4) ∧ ptr (3) (0) = ptr (3) (0) ∧ 42 = 42 ∧ SubR [AV.fn (Fn.yield (5)) [] []] [AV.fn (Fn.yield (5)) [] []] (42 = 42 ∧ SubR [AV.fn (Fn.func (115)) [] [ptr (6) (0), ptr (7) (0)]]
 [AV.fn (Fn.func (115)) [] [ptr (6) (0), ptr (7) (0)]] (24 = 24 ∧ [(1, 3), (1, 1), (List.length (VSt.l x), 1)] = [(1, 3), (1, 1), (List.length (VSt.l y), 1)] ∧ True)))))))) (wayN (firstL (List.drop (VSt.i x) ts) (VSt.l x)) = 1 ∧ 24 = 24 ∧ 28 = 28 ∧ SubR [int i64 (0)] [int i64 (0)] (24 = 24 ∧ 50 = 50 ∧ isl false (some (2)) (0) (encZ (VSt.l x)) = isl false (some (2)) (0) (encZ (firstL (List.drop (VSt.i x) ts) (VSt.l x))) ∧ (LoopState.ready = LoopState.ready ∧ (none : Option Code) = none ∧ ((Array.mk (α := Nat) [12]), rA (36) (0), rB (36) (0)) =
 ((Array.mk (α := Nat) [12]), rA (36) (0), rB (36) (0)) ∧ 4 = 4) ∧ ptr (3) (0) = ptr (3) (0) ∧ 42 = 42 ∧ SubR [AV.fn (Fn.yield (5)) [] []] [AV.fn (Fn.yield (5)) [] []] (42 = 42 ∧ SubR [AV.fn (Fn.func (115)) [] [ptr (6) (0), ptr (7) (0)]] [AV.fn (Fn.func (115)) [] [ptr (6) (0), ptr (7) (0)]] (24 = 24 ∧ [(1, 3), (1, 1), (List.length (VSt.l x), 1)] = [(1, 3), (1, 1), (List.length (firstL (List.drop (VSt.i x) ts) (VSt.l x)), 1)] ∧ True))))) := by kernel_rfl
theorem vw_top0 (t : Ty) (l' : List Int) : (runF (vwH2 t.nl t.l) 60 115 [encD t, .ptr 6 0, .ptr 7 0] (vsW (vsG 0 [])) (vsPost vsW l')) = ( ∃ l, encL (Ty.l t) = encL l ∧ Nat.le (0) (2000) ∧ 24 = 24 ∧ 28 = 28 ∧ SubR [int i64 (0)] [int i64 (0)] (24 = 24 ∧ 50 = 50 ∧ SubR [isl true none (0) []] [isl true none (0) []] ((LoopState.ready = LoopState.ready ∧ (none : Option Code) = none ∧ ((Array.mk (α := Nat) [12]), rA (36) (0), rB (36) (0)) = ((Array.mk (α := Nat) [12]), rA (36) (0), rB (36) (0)) ∧ 4 = 4) ∧ ptr (3) (0) = ptr (3) (0) ∧ [(1, 3)] = [(1, 3)] ∧
 (wayN (st1 (Ty.mk (Ty.kind t) (Ty.n t) (Ty.nl t) l) []) = 1 → codeIs (loopOf Tryz.prog 115 0) Tryz.prog 115 0 (∃ x, (VSt.i x ≤ List.length (Ty.l t) ∧ wayN (VSt.l x) = 1 ∧ cntL (Ty.l t) ≤ 1000 ∧ List.length (VSt.l x) + cntL (List.drop (VSt.i x) (Ty.l t)) ≤ 2000) ∧ ptr (7) (0) = ptr (7) (0) ∧ isl (Ty.nl t) none (0) (encL (Ty.l t)) = isl (Ty.nl t) none (0) (encL (Ty.l t)) ∧ int i64 (iC (List.length (encL (Ty.l t)))) = int i64 (iC (List.length (encL (Ty.l t)))) ∧ int i64 (0) = int i64 (iC (VSt.i x)) ∧ 24 = 24 ∧ 28 = 28 ∧
 SubR [int i64 (0)] [int i64 (0)] (24 = 24 ∧ 50 = 50 ∧ isl false (some (2)) (0) (encZ (st1 (Ty.mk (Ty.kind t) (Ty.n t) (Ty.nl t) l) [])) = isl false (some (2)) (0) (encZ (VSt.l x)) ∧ (LoopState.ready = LoopState.ready ∧ (none : Option Code) = none ∧ ((Array.mk (α := Nat) [12]), rA (36) (0), rB (36) (0)) = ((Array.mk (α := Nat) [12]), rA (36) (0), rB (36) (0)) ∧ 4 = 4) ∧ ptr (3) (0) = ptr (3) (0) ∧ 42 = 42 ∧ SubR [AV.fn (Fn.yield (5)) [] []] [AV.fn (Fn.yield (5)) [] []] (42 = 42 ∧ SubR [AV.fn (Fn.func (115)) [] [ptr (6) (0), ptr (7) (0)]]
 [AV.fn (Fn.func (115)) [] [ptr (6) (0), ptr (7) (0)]] (24 = 24 ∧ [(1, 3), (1, 1), (List.length (st1 (Ty.mk (Ty.kind t) (Ty.n t) (Ty.nl t) l) []), 1)] = [(1, 3), (1, 1), (List.length (VSt.l x), 1)] ∧ (wayN (firstL (List.drop (VSt.i x) (Ty.l t)) (VSt.l x)) = 1 → wayN l' = 1 ∧ 24 = 24 ∧ 28 = 28 ∧ SubR [int i64 (0)] [int i64 (0)] (24 = 24 ∧ 50 = 50 ∧ isl false (some (2)) (0) (encZ (firstL (List.drop (VSt.i x) (Ty.l t)) (VSt.l x))) = isl false (some (2)) (0) (encZ l') ∧ (LoopState.ready = LoopState.ready ∧ (none : Option Code) = none ∧
 ((Array.mk (α := Nat) [12]), rA (36) (0), rB (36) (0)) = ((Array.mk (α := Nat) [12]), rA (36) (0), rB (36) (0)) ∧ 4 = 4) ∧ ptr (3) (0) = ptr (3) (0) ∧ 42 = 42 ∧ SubR [AV.fn (Fn.yield (5)) [] []] [AV.fn (Fn.yield (5)) [] []] (42 = 42 ∧ SubR [AV.fn (Fn.func (115)) [] [ptr (6) (0), ptr (7) (0)]] [AV.fn (Fn.func (115)) [] [ptr (6) (0), ptr (7) (0)]] ([(1, 3), (1, 1), (List.length (firstL (List.drop (VSt.i x) (Ty.l t)) (VSt.l x)), 1)] = [(1, 3), (1, 1), (List.length l', 1)] ∧ True))) ∨ wayN l' = 0 ∧ 24 = 24 ∧ 28 = 28 ∧ SubR [int i64 (0)] [int i64 (0)]
 (24 = 24 ∧ 50 = 50 ∧ (false = true ∧ encZ (firstL (List.drop (VSt.i x) (Ty.l t)) (VSt.l x)) = []) ∧ (LoopState.ready = LoopState.ready ∧ (none : Option Code) = none ∧ ((Array.mk (α := Nat) [12]), rA (36) (0), rB (36) (0)) = ((Array.mk (α := Nat) [12]), rA (36) (0), rB (36) (0)) ∧ 4 = 4) ∧ ptr (3) (0) = ptr (3) (0) ∧ 42 = 42 ∧ SubR [AV.fn (Fn.yield (5)) [] []] [AV.fn (Fn.yield (5)) [] []] (42 = 42 ∧ SubR [AV.fn (Fn.func (115)) [] [ptr (6) (0), ptr (7) (0)]] [AV.fn (Fn.func (115)) [] [ptr (6) (0), ptr (7) (0)]] ([(1, 3)] = [(1, 3)] ∧ True)))) ∧
 (wayN (firstL (List.drop (VSt.i x) (Ty.l t)) (VSt.l x)) = 0 → wayN l' = 1 ∧ 24 = 24 ∧ 28 = 28 ∧ SubR [int i64 (0)] [int i64 (0)] (24 = 24 ∧ 50 = 50 ∧ isl true none (0) [] = isl false (some (2)) (0) (encZ l') ∧ (LoopState.ready = LoopState.ready ∧ (none : Option Code) = none ∧ ((Array.mk (α := Nat) [12]), rA (36) (0), rB (36) (0)) = ((Array.mk (α := Nat) [12]), rA (36) (0), rB (36) (0)) ∧ 4 = 4) ∧ ptr (3) (0) = ptr (3) (0) ∧ 42 = 42 ∧ SubR [AV.fn (Fn.yield (5)) [] []] [AV.fn (Fn.yield (5)) [] []] (42 = 42 ∧ SubR [AV.fn (Fn.func (115)) [] [ptr (6) (0),
 ptr (7) (0)]] [AV.fn (Fn.func (115)) [] [ptr (6) (0), ptr (7) (0)]] ([(1, 3)] = [(1, 3), (1, 1), (List.length l', 1)] ∧ True))) ∨ wayN l' = 0 ∧ 24 = 24 ∧ 28 = 28 ∧ SubR [int i64 (0)] [int i64 (0)] (24 = 24 ∧ 50 = 50 ∧ SubR [isl true none (0) []] [isl true none (0) []] ((LoopState.ready = LoopState.ready ∧ (none : Option Code) = none ∧ ((Array.mk (α := Nat) [12]), rA (36) (0), rB (36) (0)) = ((Array.mk (α := Nat) [12]), rA (36) (0), rB (36) (0)) ∧ 4 = 4) ∧ ptr (3) (0) = ptr (3) (0) ∧ 42 = 42 ∧ SubR [AV.fn (Fn.yield (5)) [] []]
 [AV.fn (Fn.yield (5)) [] []] (42 = 42 ∧ SubR [AV.fn (Fn.func (115)) [] [ptr (6) (0), ptr (7) (0)]] [AV.fn (Fn.func (115)) [] [ptr (6) (0), ptr (7) (0)]] ([(1, 3)] = [(1, 3)] ∧ True)))))))))) ∧ (wayN (st1 (Ty.mk (Ty.kind t) (Ty.n t) (Ty.nl t) l) []) = 0 → codeIs (loopOf Tryz.prog 115 0) Tryz.prog 115 0 (∃ x, (VSt.i x ≤ List.length (Ty.l t) ∧ wayN (VSt.l x) = 0 ∧ cntL (Ty.l t) ≤ 1000 ∧ List.length (VSt.l x) + cntL (List.drop (VSt.i x) (Ty.l t)) ≤ 2000) ∧ ptr (7) (0) = ptr (7) (0) ∧ isl (Ty.nl t) none (0) (encL (Ty.l t)) = isl (Ty.nl t) none (0) (encL (Ty.l t)) ∧
 int i64 (iC (List.length (encL (Ty.l t)))) = int i64 (iC (List.length (encL (Ty.l t)))) ∧ int i64 (0) = int i64 (iC (VSt.i x)) ∧ 24 = 24 ∧ 28 = 28 ∧ SubR [int i64 (0)] [int i64 (0)] (24 = 24 ∧ 50 = 50 ∧ SubR [isl true none (0) []] [isl true none (0) []] ((LoopState.ready = LoopState.ready ∧ (none : Option Code) = none ∧ ((Array.mk (α := Nat) [12]), rA (36) (0), rB (36) (0)) = ((Array.mk (α := Nat) [12]), rA (36) (0), rB (36) (0)) ∧ 4 = 4) ∧ ptr (3) (0) = ptr (3) (0) ∧ 42 = 42 ∧
 SubR [AV.fn (Fn.yield (5)) [] []] [AV.fn (Fn.yield (5)) [] []] (42 = 42 ∧ SubR [AV.fn (Fn.func (115)) [] [ptr (6) (0), ptr (7) (0)]] [AV.fn (Fn.func (115)) [] [ptr (6) (0), ptr (7) (0)]] (24 = 24 ∧ [(1, 3)] = [(1, 3)] ∧ (wayN (firstL (List.drop (VSt.i x) (Ty.l t)) (VSt.l x)) = 1 → wayN l' = 1 ∧ 24 = 24 ∧ 28 = 28 ∧ SubR [int i64 (0)] [int i64 (0)] (24 = 24 ∧ 50 = 50 ∧ isl false (some (2)) (0) (encZ (firstL (List.drop (VSt.i x) (Ty.l t)) (VSt.l x))) = isl false (some (2)) (0) (encZ l') ∧ (LoopState.ready = LoopState.ready ∧ (none : Option Code) = none ∧
 ((Array.mk (α := Nat) [12]), rA (36) (0), rB (36) (0)) = ((Array.mk (α := Nat) [12]), rA (36) (0), rB (36) (0)) ∧ 4 = 4) ∧ ptr (3) (0) = ptr (3) (0) ∧ 42 = 42 ∧ SubR [AV.fn (Fn.yield (5)) [] []] [AV.fn (Fn.yield (5)) [] []] (42 = 42 ∧ SubR [AV.fn (Fn.func (115)) [] [ptr (6) (0), ptr (7) (0)]] [AV.fn (Fn.func (115)) [] [ptr (6) (0), ptr (7) (0)]] ([(1, 3), (1, 1), (List.length (firstL (List.drop (VSt.i x) (Ty.l t)) (VSt.l x)), 1)] = [(1, 3), (1, 1), (List.length l', 1)] ∧ True))) ∨ wayN l' = 0 ∧ 24 = 24 ∧ 28 = 28 ∧ SubR [int i64 (0)] [int i64 (0)]
 (24 = 24 ∧ 50 = 50 ∧ (false = true ∧ encZ (firstL (List.drop (VSt.i x) (Ty.l t)) (VSt.l x)) = []) ∧ (LoopState.ready = LoopState.ready ∧ (none : Option Code) = none ∧ ((Array.mk (α := Nat) [12]), rA (36) (0), rB (36) (0)) = ((Array.mk (α := Nat) [12]), rA (36) (0), rB (36) (0)) ∧ 4 = 4) ∧ ptr (3) (0) = ptr (3) (0) ∧ 42 = 42 ∧ SubR [AV.fn (Fn.yield (5)) [] []] [AV.fn (Fn.yield (5)) [] []] (42 = 42 ∧ SubR [AV.fn (Fn.func (115)) [] [ptr (6) (0), ptr (7) (0)]] [AV.fn (Fn.func (115)) [] [ptr (6) (0), ptr (7) (0)]] ([(1, 3)] = [(1, 3)] ∧ True)))) ∧
 (wayN (firstL (List.drop (VSt.i x) (Ty.l t)) (VSt.l x)) = 0 → wayN l' = 1 ∧ 24 = 24 ∧ 28 = 28 ∧ SubR [int i64 (0)] [int i64 (0)] (24 = 24 ∧ 50 = 50 ∧ isl true none (0) [] = isl false (some (2)) (0) (encZ l') ∧ (LoopState.ready = LoopState.ready ∧ (none : Option Code) = none ∧ ((Array.mk (α := Nat) [12]), rA (36) (0), rB (36) (0)) = ((Array.mk (α := Nat) [12]), rA (36) (0), rB (36) (0)) ∧ 4 = 4) ∧ ptr (3) (0) = ptr (3) (0) ∧ 42 = 42 ∧ SubR [AV.fn (Fn.yield (5)) [] []] [AV.fn (Fn.yield (5)) [] []] (42 = 42 ∧ SubR [AV.fn (Fn.func (115)) [] [ptr (6) (0),
 ptr (7) (0)]] [AV.fn (Fn.func (115)) [] [ptr (6) (0), ptr (7) (0)]] ([(1, 3)] = [(1, 3), (1, 1), (List.length l', 1)] ∧ True))) ∨ wayN l' = 0 ∧ 24 = 24 ∧ 28 = 28 ∧ SubR [int i64 (0)] [int i64 (0)] (24 = 24 ∧ 50 = 50 ∧ SubR [isl true none (0) []] [isl true none (0) []] ((LoopState.ready = LoopState.ready ∧ (none : Option Code) = none ∧ ((Array.mk (α := Nat) [12]), rA (36) (0), rB (36) (0)) = ((Array.mk (α := Nat) [12]), rA (36) (0), rB (36) (0)) ∧ 4 = 4) ∧ ptr (3) (0) = ptr (3) (0) ∧ 42 = 42 ∧ SubR [AV.fn (Fn.yield (5)) [] []]
 [AV.fn (Fn.yield (5)) [] []] (42 = 42 ∧ SubR [AV.fn (Fn.func (115)) [] [ptr (6) (0), ptr (7) (0)]] [AV.fn (Fn.func (115)) [] [ptr (6) (0), ptr (7) (0)]] ([(1, 3)] = [(1, 3)] ∧ True)))))))))))))) := by kernel_rfl
theorem vw_top1 (t : Ty) (l l' : List Int) : (runF (vwH2 t.nl t.l) 60 115 [encD t, .ptr 6 0, .ptr 7 0] (vsW (vsG 1 l)) (vsPost vsW l')) = ( ∃ l_1, encL (Ty.l t) = encL l_1 ∧ ∃ l_2, encZ l = encZ l_2 ∧ wayN l_2 = 1 ∧ List.length l_2 ≤ 2000 ∧ 24 = 24 ∧ 28 = 28 ∧ SubR [int i64 (0)] [int i64 (0)] (24 = 24 ∧ 50 = 50 ∧ isl false (some (2)) (0) (encZ l) = isl false (some (2)) (0) (encZ l_2) ∧ (LoopState.ready = LoopState.ready ∧ (none : Option Code) = none ∧ ((Array.mk (α := Nat) [12]), rA (36) (0), rB (36) (0)) = ((Array.mk (α := Nat) [12]), rA (36) (0), rB (36) (0)) ∧
 4 = 4) ∧ ptr (3) (0) = ptr (3) (0) ∧ [(1, 3), (1, 1), (List.length l, 1)] = [(1, 3), (1, 1), (List.length l_2, 1)] ∧ (wayN (st1 (Ty.mk (Ty.kind t) (Ty.n t) (Ty.nl t) l_1) l_2) = 1 → codeIs (loopOf Tryz.prog 115 0) Tryz.prog 115 0 (∃ x, (VSt.i x ≤ List.length (Ty.l t) ∧ wayN (VSt.l x) = 1 ∧ cntL (Ty.l t) ≤ 1000 ∧ List.length (VSt.l x) + cntL (List.drop (VSt.i x) (Ty.l t)) ≤ 2000) ∧ ptr (7) (0) = ptr (7) (0) ∧ isl (Ty.nl t) none (0) (encL (Ty.l t)) = isl (Ty.nl t) none (0) (encL (Ty.l t)) ∧
 int i64 (iC (List.length (encL (Ty.l t)))) = int i64 (iC (List.length (encL (Ty.l t)))) ∧ int i64 (0) = int i64 (iC (VSt.i x)) ∧ 24 = 24 ∧ 28 = 28 ∧ SubR [int i64 (0)] [int i64 (0)] (24 = 24 ∧ 50 = 50 ∧ isl false (some (2)) (0) (encZ (st1 (Ty.mk (Ty.kind t) (Ty.n t) (Ty.nl t) l_1) l_2)) = isl false (some (2)) (0) (encZ (VSt.l x)) ∧ (LoopState.ready = LoopState.ready ∧ (none : Option Code) = none ∧ ((Array.mk (α := Nat) [12]), rA (36) (0), rB (36) (0)) = ((Array.mk (α := Nat) [12]), rA (36) (0), rB (36) (0)) ∧ 4 = 4) ∧
 ptr (3) (0) = ptr (3) (0) ∧ 42 = 42 ∧ SubR [AV.fn (Fn.yield (5)) [] []] [AV.fn (Fn.yield (5)) [] []] (42 = 42 ∧ SubR [AV.fn (Fn.func (115)) [] [ptr (6) (0), ptr (7) (0)]] [AV.fn (Fn.func (115)) [] [ptr (6) (0), ptr (7) (0)]] (24 = 24 ∧ [(1, 3), (1, 1), (List.length (st1 (Ty.mk (Ty.kind t) (Ty.n t) (Ty.nl t) l_1) l_2), 1)] = [(1, 3), (1, 1), (List.length (VSt.l x), 1)] ∧ (wayN (firstL (List.drop (VSt.i x) (Ty.l t)) (VSt.l x)) = 1 → wayN l' = 1 ∧ 24 = 24 ∧ 28 = 28 ∧ SubR [int i64 (0)] [int i64 (0)] (24 = 24 ∧ 50 = 50 ∧ isl false (some (2)) (0)
 (encZ (firstL (List.drop (VSt.i x) (Ty.l t)) (VSt.l x))) = isl false (some (2)) (0) (encZ l') ∧ (LoopState.ready = LoopState.ready ∧ (none : Option Code) = none ∧ ((Array.mk (α := Nat) [12]), rA (36) (0), rB (36) (0)) = ((Array.mk (α := Nat) [12]), rA (36) (0), rB (36) (0)) ∧ 4 = 4) ∧ ptr (3) (0) = ptr (3) (0) ∧ 42 = 42 ∧ SubR [AV.fn (Fn.yield (5)) [] []] [AV.fn (Fn.yield (5)) [] []] (42 = 42 ∧ SubR [AV.fn (Fn.func (115)) [] [ptr (6) (0), ptr (7) (0)]] [AV.fn (Fn.func (115)) [] [ptr (6) (0), ptr (7) (0)]] ([(1, 3), (1, 1),
 (List.length (firstL (List.drop (VSt.i x) (Ty.l t)) (VSt.l x)), 1)] = [(1, 3), (1, 1), (List.length l', 1)] ∧ True))) ∨ wayN l' = 0 ∧ 24 = 24 ∧ 28 = 28 ∧ SubR [int i64 (0)] [int i64 (0)] (24 = 24 ∧ 50 = 50 ∧ (false = true ∧ encZ (firstL (List.drop (VSt.i x) (Ty.l t)) (VSt.l x)) = []) ∧ (LoopState.ready = LoopState.ready ∧ (none : Option Code) = none ∧ ((Array.mk (α := Nat) [12]), rA (36) (0), rB (36) (0)) = ((Array.mk (α := Nat) [12]), rA (36) (0), rB (36) (0)) ∧ 4 = 4) ∧ ptr (3) (0) = ptr (3) (0) ∧ 42 = 42 ∧ SubR [AV.fn (Fn.yield (5)) [] []]
 [AV.fn (Fn.yield (5)) [] []] (42 = 42 ∧ SubR [AV.fn (Fn.func (115)) [] [ptr (6) (0), ptr (7) (0)]] [AV.fn (Fn.func (115)) [] [ptr (6) (0), ptr (7) (0)]] ([(1, 3)] = [(1, 3)] ∧ True)))) ∧ (wayN (firstL (List.drop (VSt.i x) (Ty.l t)) (VSt.l x)) = 0 → wayN l' = 1 ∧ 24 = 24 ∧ 28 = 28 ∧ SubR [int i64 (0)] [int i64 (0)] (24 = 24 ∧ 50 = 50 ∧ isl true none (0) [] = isl false (some (2)) (0) (encZ l') ∧ (LoopState.ready = LoopState.ready ∧ (none : Option Code) = none ∧ ((Array.mk (α := Nat) [12]), rA (36) (0), rB (36) (0)) =
 ((Array.mk (α := Nat) [12]), rA (36) (0), rB (36) (0)) ∧ 4 = 4) ∧ ptr (3) (0) = ptr (3) (0) ∧ 42 = 42 ∧ SubR [AV.fn (Fn.yield (5)) [] []] [AV.fn (Fn.yield (5)) [] []] (42 = 42 ∧ SubR [AV.fn (Fn.func (115)) [] [ptr (6) (0), ptr (7) (0)]] [AV.fn (Fn.func (115)) [] [ptr (6) (0), ptr (7) (0)]] ([(1, 3)] = [(1, 3), (1, 1), (List.length l', 1)] ∧ True))) ∨ wayN l' = 0 ∧ 24 = 24 ∧ 28 = 28 ∧ SubR [int i64 (0)] [int i64 (0)] (24 = 24 ∧ 50 = 50 ∧ SubR [isl true none (0) []] [isl true none (0) []] ((LoopState.ready = LoopState.ready ∧
 (none : Option Code) = none ∧ ((Array.mk (α := Nat) [12]), rA (36) (0), rB (36) (0)) = ((Array.mk (α := Nat) [12]), rA (36) (0), rB (36) (0)) ∧ 4 = 4) ∧ ptr (3) (0) = ptr (3) (0) ∧ 42 = 42 ∧ SubR [AV.fn (Fn.yield (5)) [] []] [AV.fn (Fn.yield (5)) [] []] (42 = 42 ∧ SubR [AV.fn (Fn.func (115)) [] [ptr (6) (0), ptr (7) (0)]] [AV.fn (Fn.func (115)) [] [ptr (6) (0), ptr (7) (0)]] ([(1, 3)] = [(1, 3)] ∧ True)))))))))) ∧ (wayN (st1 (Ty.mk (Ty.kind t) (Ty.n t) (Ty.nl t) l_1) l_2) = 0 → codeIs (loopOf Tryz.prog 115 0) Tryz.prog 115 0 (∃ x, (VSt.i x ≤ List.length (Ty.l t) ∧
 wayN (VSt.l x) = 1 ∧ cntL (Ty.l t) ≤ 1000 ∧ List.length (VSt.l x) + cntL (List.drop (VSt.i x) (Ty.l t)) ≤ 2000) ∧ ptr (7) (0) = ptr (7) (0) ∧ isl (Ty.nl t) none (0) (encL (Ty.l t)) = isl (Ty.nl t) none (0) (encL (Ty.l t)) ∧ int i64 (iC (List.length (encL (Ty.l t)))) = int i64 (iC (List.length (encL (Ty.l t)))) ∧ int i64 (0) = int i64 (iC (VSt.i x)) ∧ 24 = 24 ∧ 28 = 28 ∧ SubR [int i64 (0)] [int i64 (0)] (24 = 24 ∧ 50 = 50 ∧ isl true none (0) [] = isl false (some (2)) (0) (encZ (VSt.l x)) ∧
 (LoopState.ready = LoopState.ready ∧ (none : Option Code) = none ∧ ((Array.mk (α := Nat) [12]), rA (36) (0), rB (36) (0)) = ((Array.mk (α := Nat) [12]), rA (36) (0), rB (36) (0)) ∧ 4 = 4) ∧ ptr (3) (0) = ptr (3) (0) ∧ 42 = 42 ∧ SubR [AV.fn (Fn.yield (5)) [] []] [AV.fn (Fn.yield (5)) [] []] (42 = 42 ∧ SubR [AV.fn (Fn.func (115)) [] [ptr (6) (0), ptr (7) (0)]] [AV.fn (Fn.func (115)) [] [ptr (6) (0), ptr (7) (0)]] (24 = 24 ∧ [(1, 3), (1, 1), (List.length l, 1)] = [(1, 3), (1, 1), (List.length (VSt.l x), 1)] ∧ (wayN (firstL (List.drop (VSt.i x) (Ty.l t)) (VSt.l x)) = 1 →
 wayN l' = 1 ∧ 24 = 24 ∧ 28 = 28 ∧ SubR [int i64 (0)] [int i64 (0)] (24 = 24 ∧ 50 = 50 ∧ isl false (some (2)) (0) (encZ (firstL (List.drop (VSt.i x) (Ty.l t)) (VSt.l x))) = isl false (some (2)) (0) (encZ l') ∧ (LoopState.ready = LoopState.ready ∧ (none : Option Code) = none ∧ ((Array.mk (α := Nat) [12]), rA (36) (0), rB (36) (0)) = ((Array.mk (α := Nat) [12]), rA (36) (0), rB (36) (0)) ∧ 4 = 4) ∧ ptr (3) (0) = ptr (3) (0) ∧ 42 = 42 ∧ SubR [AV.fn (Fn.yield (5)) [] []] [AV.fn (Fn.yield (5)) [] []] (42 = 42 ∧ SubR [AV.fn (Fn.func (115)) [] [ptr (6) (0),
 ptr (7) (0)]] [AV.fn (Fn.func (115)) [] [ptr (6) (0), ptr (7) (0)]] ([(1, 3), (1, 1), (List.length (firstL (List.drop (VSt.i x) (Ty.l t)) (VSt.l x)), 1)] = [(1, 3), (1, 1), (List.length l', 1)] ∧ True))) ∨ wayN l' = 0 ∧ 24 = 24 ∧ 28 = 28 ∧ SubR [int i64 (0)] [int i64 (0)] (24 = 24 ∧ 50 = 50 ∧ (false = true ∧ encZ (firstL (List.drop (VSt.i x) (Ty.l t)) (VSt.l x)) = []) ∧ (LoopState.ready = LoopState.ready ∧ (none : Option Code) = none ∧ ((Array.mk (α := Nat) [12]), rA (36) (0), rB (36) (0)) = ((Array.mk (α := Nat) [12]), rA (36) (0), rB (36) (0)) ∧ 4 = 4) ∧
 ptr (3) (0) = ptr (3) (0) ∧ 42 = 42 ∧ SubR [AV.fn (Fn.yield (5)) [] []] [AV.fn (Fn.yield (5)) [] []] (42 = 42 ∧ SubR [AV.fn (Fn.func (115)) [] [ptr (6) (0), ptr (7) (0)]] [AV.fn (Fn.func (115)) [] [ptr (6) (0), ptr (7) (0)]] ([(1, 3)] = [(1, 3)] ∧ True)))) ∧ (wayN (firstL (List.drop (VSt.i x) (Ty.l t)) (VSt.l x)) = 0 → wayN l' = 1 ∧ 24 = 24 ∧ 28 = 28 ∧ SubR [int i64 (0)] [int i64 (0)] (24 = 24 ∧ 50 = 50 ∧ isl true none (0) [] = isl false (some (2)) (0) (encZ l') ∧ (LoopState.ready = LoopState.ready ∧ (none : Option Code) = none ∧
 ((Array.mk (α := Nat) [12]), rA (36) (0), rB (36) (0)) = ((Array.mk (α := Nat) [12]), rA (36) (0), rB (36) (0)) ∧ 4 = 4) ∧ ptr (3) (0) = ptr (3) (0) ∧ 42 = 42 ∧ SubR [AV.fn (Fn.yield (5)) [] []] [AV.fn (Fn.yield (5)) [] []] (42 = 42 ∧ SubR [AV.fn (Fn.func (115)) [] [ptr (6) (0), ptr (7) (0)]] [AV.fn (Fn.func (115)) [] [ptr (6) (0), ptr (7) (0)]] ([(1, 3)] = [(1, 3), (1, 1), (List.length l', 1)] ∧ True))) ∨ wayN l' = 0 ∧ 24 = 24 ∧ 28 = 28 ∧ SubR [int i64 (0)] [int i64 (0)] (24 = 24 ∧ 50 = 50 ∧ SubR [isl true none (0) []] [isl true none (0) []]
 ((LoopState.ready = LoopState.ready ∧ (none : Option Code) = none ∧ ((Array.mk (α := Nat) [12]), rA (36) (0), rB (36) (0)) = ((Array.mk (α := Nat) [12]), rA (36) (0), rB (36) (0)) ∧ 4 = 4) ∧ ptr (3) (0) = ptr (3) (0) ∧ 42 = 42 ∧ SubR [AV.fn (Fn.yield (5)) [] []] [AV.fn (Fn.yield (5)) [] []] (42 = 42 ∧ SubR [AV.fn (Fn.func (115)) [] [ptr (6) (0), ptr (7) (0)]] [AV.fn (Fn.func (115)) [] [ptr (6) (0), ptr (7) (0)]] ([(1, 3)] = [(1, 3)] ∧ True)))))))))))) := by kernel_rfl
theorem kvars_top (t : Ty) (b : Bool) (l : List Int) (e : Int) : (runF varsHk 60 36 [encD t] AH.nil (retIs Tryz.prog 5 (.tup [.isl b none 0 (encZ l), .int .i64 e]))) = ( Int.NonNeg (0) ∧ ∃ x, some (agg [int i64 (Ty.kind t), int i64 (Ty.n t), isl (Ty.nl t) none (0) (encL (Ty.l t))]) = some (agg [int i64 (Ty.kind x), int i64 (Ty.n x), isl (Ty.nl x) none (0) (encL (Ty.l x))]) ∧ ∃ l_1, encL (Ty.l x) = encL l_1 ∧ cnt (Ty.mk (Ty.kind x) (Ty.n x) (Ty.nl x) l_1) ≤ 1000 ∧ bothR (!validB (Ty.mk (Ty.kind x) (Ty.n x) (Ty.nl x) l_1))
 (tup [isl true none (0) [], int i64 (1)] = tup [isl b none (0) (encZ l), int i64 e]) (∃ l_2, encL (Ty.l t) = encL l_2 ∧ ∃ l_3, encL l_2 = encL l_3 ∧ (cnt (Ty.mk (Ty.kind t) (Ty.n t) (Ty.nl t) l_3) ≤ 1000 ∧ 0 + cnt (Ty.mk (Ty.kind t) (Ty.n t) (Ty.nl t) l_3) ≤ 2000) ∧ 24 = 24 ∧ 28 = 28 ∧ SubR [int i64 (0)] [int i64 (0)] (24 = 24 ∧ 50 = 50 ∧ SubR [isl true none (0) []] [isl true none (0) []] ((LoopState.ready = LoopState.ready ∧ (none : Option Code) = none ∧ ((Array.mk (α := Nat) [12]), rA (36) (0), rB (36) (0)) =
 ((Array.mk (α := Nat) [12]), rA (36) (0), rB (36) (0)) ∧ 4 = 4) ∧ ptr (3) (0) = ptr (3) (0) ∧ 42 = 42 ∧ SubR [AV.fn (Fn.yield (5)) [] []] [AV.fn (Fn.yield (5)) [] []] (42 = 42 ∧ SubR [AV.fn (Fn.func (115)) [] [ptr (6) (0), ptr (7) (0)]] [AV.fn (Fn.func (115)) [] [ptr (6) (0), ptr (7) (0)]] ([(1, 3)] = [(1, 3)] ∧ (wayN (firstT (Ty.mk (Ty.kind t) (Ty.n t) (Ty.nl t) l_3) []) = 1 → tup [isl false none (0) (encZ (firstT (Ty.mk (Ty.kind t) (Ty.n t) (Ty.nl t) l_3) [])), int i64 (0)] = tup [isl b none (0) (encZ l), int i64 e]) ∧
 (wayN (firstT (Ty.mk (Ty.kind t) (Ty.n t) (Ty.nl t) l_3) []) = 0 → tup [isl true none (0) [], int i64 (0)] = tup [isl b none (0) (encZ l), int i64 e]))))))) := by kernel_rfl
end Go.Proofs.YtnmolpkkemljoaaGreatDoor
end
end
section
set_option maxRecDepth 100000
set_option linter.unusedSimpArgs false
set_option linter.unusedVariables false
noncomputable section
namespace Go.Proofs.YtnmolpkkemljoaaGreatDoor
open Go Go.Am Kd
theorem idx_ge : ∀ (l : List Int) (n : Int) (i : Nat), -1 ≤ idxL l n i ∧ (decide (0 ≤ idxL l n i) = l.contains n)
 | [], n, i => by simp [idxL]
 | x :: l, n, i => by
  simp only [idxL]
  split
  ·rename_i h
   subst h
   refine ⟨by omega, ?_⟩
   simp
  ·rename_i h
   have := idx_ge l n (i + 1)
   refine ⟨this.1, ?_⟩
   rw [this.2]
   simp [h]
theorem ix_ok (b : Bool) (l : List Int) (n : Int) (hl : l.length ≤ 2000) : QJ 121 [.isl b none 0 (encZ l), .int .i64 n] (.int .i64 (idxL l n 0)) := by
 have hlp : LHook.Ok Tryz.prog g0 ⟨121, 0, (ixSt b l n).spec⟩ := by
  refine LSt.by (hk := hk0) (ixSt b l n) (fun x => l.length - x) hk0_ok rfl ?_ ?_ ?_
  ·intro x _
   exact Whole.frm rfl rfl (by simp [ixSt, AV.bnd, AV.still_bndL, encZ_still]) rfl
  ·intro x b' _
   cases b' <;> exact Whole.frm rfl rfl rfl rfl
  ·rintro i ⟨hi, hb⟩
   rw [ix_loop]
   simp only [iC, encZ_length, eq_self, true_and, and_true, Int.toNat_natCast, AV.int.injEq]
   refine bothR_dec (fun hlt => ?_) fun hge => ?_
   ·have hi' : i < l.length := by omega
    have hd : l.drop i = l[i] :: l.drop (i + 1) := List.drop_eq_getElem_cons hi'
    rw [ex_int hi', hd]
    refine ⟨by omega, bothR_dec (fun h => ?_) fun h => ⟨i + 1, ⟨by omega, hb⟩, by omega, ?_, ?_⟩⟩
    ·simp [idxL, h]
    ·simp only [idxL, if_neg h]
    ·rw [wrap_id (by omega) (by omega)]; rfl
   ·rw [List.drop_of_length_le (by omega)]; rfl
 refine QJ.by (hk := ixH' b l n) (by simp [AV.stillL, AV.still, encZ_still]) rfl (mkHooks_ok all_nil all_nil (all_cons hlp all_nil)) ?_
 rw [ix_top]
 simp only [iC, encZ_length, eq_self, true_and, codeIs_self, AV.int.injEq]
 refine ⟨0, ⟨by omega, hl⟩, rfl, ?_⟩
 rw [List.drop_zero]
 have := (idx_ge l n 0).1
 exact bothR_dec (fun _ => rfl) fun h => by omega
theorem ix_hook : QSpec.Ok Tryz.prog g0 121 ixQ := by
 intro args K h'
 unfold ixQ at h'
 split at h'
 ·obtain ⟨b, l, rfl, h1⟩ := argInts_elim h'
  obtain ⟨n, rfl, h2, h3⟩ := argInt_elim h1
  exact ⟨_, ix_ok b l n h2, h3⟩
 ·exact h'.elim
theorem ct_hook : QSpec.Ok Tryz.prog g0 86 ctQ := by
 intro args K h'
 unfold ctQ at h'
 split at h'
 ·obtain ⟨b, l, rfl, h1⟩ := argInts_elim h'
  obtain ⟨n, rfl, h2, h3⟩ := argInt_elim h1
  refine ⟨_, ?_, h3⟩
  refine QJ.by (hk := ixHk) (by simp [AV.stillL, AV.still, encZ_still]) rfl (mkHooks_ok (all_cons ix_hook all_nil) all_nil all_nil) ?_
  rw [ct_top]
  simp only [ex_encI, AV.bool.injEq]
  exact ⟨h2, (idx_ge l n 0).2⟩
 ·exact h'.elim
theorem vsPost_ok {P : Program} {w : AH → AH} {l' : List Int} {o : AFin} (h : vsPost w l' o) : hpIs (nf1 (wayN l')) (.returned (.bool true)) (w (vsG (wayN l') l')) o := by
 unfold vsPost at h
 split at h
 ·rename_i he
  rcases h with ⟨h1, h2⟩ | ⟨h1, h2⟩
  ·rw [h1]; exact ⟨he, h2⟩
  ·rw [h1]; exact ⟨he, h2⟩
 ·exact h.elim
theorem vs_round_ok (t : Ty) (l : List Int) (hl : l.length ≤ 2000) : RoundJ Tryz.prog g0 5 [enc t] (vsG (wayN l) l) (hpIs (nf1 (wayN (st1 t l))) (.returned (.bool true)) (vsG (wayN (st1 t l)) (st1 t l))) := by
 have hh : Hooks.Ok Tryz.prog g0 ctHk := mkHooks_ok (all_cons (ct_hook.weak 3) all_nil) all_nil all_nil
 have hst : ∀ (h : t.kind = 6), st1 t l = addV l t.n := fun h => by simp only [st1, h, if_true]
 have hsn : ∀ (h : ¬ t.kind = 6), st1 t l = l := fun h => by simp only [st1, h, if_false]
 refine RoundJ.mono (K := vsPost id (st1 t l)) ?_ fun o ho => vsPost_ok (P := Tryz.prog) ho
 rw [enc_D]
 refine RoundJ.run (el := els) (mu := mu0) (hk := ctHk) hmix hh (n := 60) ?_
 by_cases h0 : l = []
 ·subst h0
  show runR ctHk 60 5 [encD t] (vsG 0 []) (vsPost id (st1 t []))
  rw [vs_round0]
  simp only [eq_self, true_and, and_true, SubR_id]
  refine bothR_ndec (fun hk => ?_) fun hk => ⟨[], rfl, by simp, bothR_bool (fun hb => by simp at hb) fun _ => ?_⟩
  ·exact .inr (by rw [hsn hk]; rfl)
  ·rw [hst hk]
   exact ⟨⟨(by decide : 8 ≤ 35184372088832), (by decide : 1 ≤ 1152921504606846976)⟩, .inl ⟨rfl, rfl, rfl⟩⟩
 ·have hw : wayN l = 1 := wayN_1 fun h => h0 (List.eq_nil_of_length_eq_zero h)
  rw [hw]
  show runR ctHk 60 5 [encD t] (vsG 1 l) (vsPost id (st1 t l))
  rw [vs_round1]
  simp only [eq_self, true_and, and_true, SubR_id, ex_encI]
  have hc : (l ++ [t.n]).length ≠ 0 := by simp
  refine bothR_ndec (fun hk => ?_) fun hk => ⟨hl, bothR_bool (fun hb => ?_) fun hb => ?_⟩
  ·rw [hsn hk]; exact .inl ⟨hw, rfl, rfl⟩
  ·have : st1 t l = l := by rw [hst hk]; unfold addV; rw [if_pos hb]
   rw [this]; exact .inl ⟨hw, rfl, rfl⟩
  ·have : st1 t l = l ++ [t.n] := by rw [hst hk]; unfold addV; rw [if_neg]; intro hq; rw [← List.elem_eq_contains, hb] at hq; cases hq
   rw [this]
   simp only [encZ_length]
   refine ⟨⟨by omega, by omega⟩, by rw [Nat.zero_add], encZ_one l, .inl ⟨wayN_1 hc, ?_, ?_⟩⟩
   ·rw [← encZ_append]; rfl
   ·rw [Nat.zero_add, List.length_append]; rfl
theorem argAcc_elim {A : AH} {K : Nat → List Int → Prop} (h : argAcc A K) : ∃ l, K (wayN l) l := by
 unfold argAcc at h
 split at h
 ·exact ⟨[], h⟩
 ·obtain ⟨l, -, hw, h⟩ := h
  exact ⟨l, by rw [hw]; exact h⟩
 ·exact h.elim
theorem way_or {α : Type} (l : List α) : wayN l = 0 ∨ wayN l = 1 := by unfold wayN; split <;> simp
theorem way_up {l m : List Int} (h : l.length ≤ m.length) (h1 : wayN l = 1) : wayN m = 1 := by
 have := ne_of_1 h1
 exact wayN_1 (by omega)
theorem nf_mono {l m : List Int} (h : l.length ≤ m.length) : nf1 (wayN l) ≤ nf1 (wayN m) := by
 rcases way_or l with h1 | h1
 ·rcases way_or m with h2 | h2 <;> rw [h1, h2] <;> decide
 ·rw [h1, way_up h h1]; exact Nat.le_refl _
theorem vsG_ok (l : List Int) : (vsG (wayN l) l).ok 6 (nf1 (wayN l)) = true := by
 rcases way_or l with h | h <;> rw [h] <;> simp [AH.ok, vsG, vsH, fam1, nf1, top3, acc1, ABlk.bnd, AV.bnd, AV.bndL, AV.still_bndL, encZ_still, frm] <;> rfl
theorem vsW_ok (l : List Int) : (vsW (vsG (wayN l) l)).ok 8 (nf1 (wayN l)) = true := by
 rcases way_or l with h | h <;> rw [h] <;> simp [AH.ok, vsW, vsG, vsH, fam1, nf1, top3, acc1, ABlk.bnd, AV.bnd, AV.bndL, AV.still_bndL, encZ_still, frm] <;> rfl
theorem st1_len (t : Ty) (l : List Int) : l.length ≤ (st1 t l).length ∧ (st1 t l).length ≤ l.length + 1 := by
 unfold st1 addV
 split
 ·split <;> simp
 ·simp
theorem vsEnd_elim {w : AH → AH} {A : AH} {l' : List Int} {K : AFin → Prop} (h : vsEnd w A l' K) : K ⟨.returned (.bool true), (w (vsG (wayN l') l')).onto A⟩ := by
 rcases way_or l' with h1 | h1
 ·rw [h1]; exact h.2 h1
 ·rw [h1]; exact h.1 h1
theorem vsRound_ok : RSpec.Ok Tryz.prog g0 vsRound := by
 intro l args A K h'
 unfold vsRound at h'
 split at h'
 ·obtain ⟨t, rfl, h⟩ := argTy_elim h'
  obtain ⟨l, h1, h⟩ := argAcc_elim h
  obtain ⟨hK, hr⟩ := RoundJ.onG (n := 6) h (vs_round_ok t l h1) (vsG_ok l) (vsG_ok _) (nf_mono (st1_len t l).1) (by simp [AV.bndL, AV.still_bnd, enc_still]) rfl (by omega)
  exact hr.mono fun o ho => by subst ho; exact vsEnd_elim (w := id) hK
 ·exact h'.elim
def VWalkJ (t : Ty) (l : List Int) : Prop := FJ 115 [enc t, .ptr 6 0, .ptr 7 0] (vsW (vsG (wayN l) l)) (hpIs (nf1 (wayN (firstT t l))) (.returned (.bool true)) (vsW (vsG (wayN (firstT t l)) (firstT t l))))
theorem vwalk_hook {N : Nat} (ih : ∀ t l, SizeOf.sizeOf t < N → cnt t ≤ 1000 → l.length + cnt t ≤ 2000 → VWalkJ t l) : HSpec.Ok Tryz.prog g0 115 (vwalkH N) := by
 intro args A K h'
 unfold vwalkH at h'
 split at h'
 ·obtain ⟨t, rfl, h⟩ := argTy_elim h'
  obtain ⟨l, ⟨h1, h2, h3⟩, h⟩ := argAcc_elim h
  obtain ⟨hK, hr⟩ := FuncJ.onG (n := 8) h (ih t l h1 h2 h3) (vsW_ok l) (vsW_ok _) (nf_mono (first_len t l).1) (by simp [AV.bndL, AV.bnd, AV.still_bnd, enc_still]) rfl
  exact ⟨_, hr, vsEnd_elim hK⟩
 ·exact h'.elim
theorem vwalk_ok (t : Ty) (l : List Int) (hc : cnt t ≤ 1000) (hb : l.length + cnt t ≤ 2000) : VWalkJ t l := by
 have key : ∀ (N : Nat) (t : Ty) (l : List Int), SizeOf.sizeOf t < N → cnt t ≤ 1000 → l.length + cnt t ≤ 2000 → VWalkJ t l := by
  intro N
  induction N with
  | zero => intro t l h; omega
  | succ N ih =>
   intro t l ht hc hb
   obtain ⟨k, n, nl, ts⟩ := t
   simp only [cnt] at hc hb
   simp only [Ty.mk.sizeOf_spec] at ht
   have hlc := len_cnt ts
   have hl : LHook.Ok Tryz.prog g0 ⟨115, 0, (vwSt nl ts).spec⟩ := by
    have hh : Hooks.Ok Tryz.prog g0 (vwH1 N) := mkHooks_ok all_nil (all_cons (vwalk_hook ih) all_nil) all_nil
    refine LSN.ok (vwSt nl ts) (fun x => ts.length - x.i) (fun p l h => by cases h) ?_ ?_ ?_
    ·intro p x hp _
     match p, hp with
     | 0, _ => exact Whole.frm rfl rfl (by simp [vwSt, AV.bnd, encL_bnd]) (by simp [vwSt, vsX, vsW, vsG, vsH, fam1, nf1, top3, acc1, ABlk.bnd, AV.bnd, AV.bndL, AV.still_bndL, encZ_still, frm]; rfl)
     | 1, _ => exact Whole.frm rfl rfl (by simp [vwSt, AV.bnd, encL_bnd]) (by simp [vwSt, vsX, vsW, vsG, vsH, fam1, nf1, top3, acc1, ABlk.bnd, AV.bnd, AV.bndL, AV.still_bndL, encZ_still, frm]; rfl)
    ·intro p x w hp hw _ _
     match w, hw with
     | 0, _ => exact Whole.frm rfl rfl rfl (by simp [vwSt, vsX, vsW, vsG, vsH, fam1, nf1, top3, acc1, ABlk.bnd, AV.bnd, AV.bndL, AV.still_bndL, encZ_still, frm]; rfl)
     | 1, _ => exact Whole.frm rfl rfl rfl (by simp [vwSt, vsX, vsW, vsG, vsH, fam1, nf1, top3, acc1, ABlk.bnd, AV.bnd, AV.bndL, AV.still_bndL, encZ_still, frm]; rfl)
    ·intro p x hp ⟨hi, hx, _, hq⟩
     refine CodeJ.run (el := els) (mu := mu0) hmix hh (n := 60) ?_
     have step : ∀ (hi' : x.i < ts.length), firstL (ts.drop x.i) x.l = firstL (ts.drop (x.i + 1)) (firstT ts[x.i] x.l) ∧ (firstT ts[x.i] x.l).length + cntL (ts.drop (x.i + 1)) ≤ 2000 ∧ x.l.length + cnt ts[x.i] ≤ 2000 := by
      intro hi'
      have h1 := first_len ts[x.i] x.l
      rw [List.drop_eq_getElem_cons hi'] at hq ⊢
      simp only [cntL] at hq
      exact ⟨by simp only [firstL], by omega, by omega⟩
     match p, hp with
     | 0, _ =>
      have hx0 : x.l = [] := nil_of_0 hx
      show runN (vwH1 N) 60 115 0 (vwSt nl ts) (fun x => ts.length - x.i) 0 x
      rw [vw_loop0]
      simp only [iC, encL_length, eq_self, true_and, and_true, Int.toNat_natCast, AV.int.injEq, SubR_id, ex_encI]
      refine bothR_dec (fun hlt => ?_) fun hge => ?_
      ·have hi' : x.i < ts.length := by omega
       have hs := List.sizeOf_lt_of_mem (List.getElem_mem hi')
       have hg := cnt_get hi'
       obtain ⟨s1, s2, s3⟩ := step hi'
       rw [ex_get hi']
       simp only [ex_enc, Ty.eta]
       have st := s1
       rw [hx0] at s1 s2 s3
       refine ⟨by omega, ⟨by omega, by omega, by simpa using s3⟩, fun h => .inl ⟨⟨x.i + 1, firstT ts[x.i] []⟩, ⟨by simp only; omega, h, by omega, s2⟩, by simp only; omega, ?_, ?_, rfl, rfl⟩, fun h => .inr ⟨⟨x.i + 1, firstT ts[x.i] []⟩, ⟨by simp only; omega, h, by omega, s2⟩, by simp only; omega, ?_, ?_⟩⟩
       ·rw [hx0]; exact s1.symm
       ·simp only; rw [wrap_id (by omega) (by omega)]; rfl
       ·rw [hx0]; exact s1.symm
       ·simp only; rw [wrap_id (by omega) (by omega)]; rfl
      ·have : firstL (ts.drop x.i) x.l = [] := by rw [hx0, List.drop_of_length_le (by omega)]; rfl
       rw [this]; exact .inr rfl
     | 1, _ =>
      show runN (vwH1 N) 60 115 0 (vwSt nl ts) (fun x => ts.length - x.i) 1 x
      rw [vw_loop1]
      simp only [iC, encL_length, eq_self, true_and, and_true, Int.toNat_natCast, AV.int.injEq, SubR_id, ex_encI]
      refine bothR_dec (fun hlt => ?_) fun hge => ?_
      ·have hi' : x.i < ts.length := by omega
       have hs := List.sizeOf_lt_of_mem (List.getElem_mem hi')
       have hg := cnt_get hi'
       obtain ⟨s1, s2, s3⟩ := step hi'
       rw [ex_get hi']
       simp only [ex_enc, Ty.eta]
       have h1 : wayN (firstT ts[x.i] x.l) = 1 := way_up (first_len ts[x.i] x.l).1 hx
       refine ⟨by omega, hx, ⟨by omega, by omega, s3⟩, fun h => ⟨⟨x.i + 1, firstT ts[x.i] x.l⟩, ⟨by simp only; omega, h, by omega, s2⟩, by simp only; omega, s1.symm, ?_, rfl, rfl⟩, fun h => by rw [h1] at h; cases h⟩
       simp only; rw [wrap_id (by omega) (by omega)]; rfl
      ·have : firstL (ts.drop x.i) x.l = x.l := by rw [List.drop_of_length_le (by omega)]; rfl
       rw [this]; exact ⟨hx, rfl, rfl⟩
   have h : FJ 115 [enc (.mk k n nl ts), .ptr 6 0, .ptr 7 0] (vsW (vsG (wayN l) l)) (vsPost vsW (firstT (.mk k n nl ts) l)) := by
    rw [enc_D]
    refine FuncJ.run (el := els) (mu := mu0) (hk := vwH2 nl ts) hmix (mkHooks_ok all_nil all_nil (all_cons hl all_nil) (by intro s hs; cases hs; exact vsRound_ok)) (n := 60) ?_
    rcases way_or l with h0 | h0
    ·have := nil_of_0 h0
     subst this
     show runF (vwH2 (Ty.mk k n nl ts).nl (Ty.mk k n nl ts).l) 60 115 _ (vsW (vsG 0 [])) _
     rw [vw_top0]
     simp only [eq_self, true_and, and_true, SubR_id, codeIs_self, iC, ex_enc, ex_encI, Ty.eta]
     simp only [tl_mk]
     have e1 : firstT (.mk k n nl ts) [] = firstL ts (st1 (.mk k n nl ts) []) := rfl
     have h2 := st1_len (.mk k n nl ts) []
     simp only [List.length_nil] at h2 hb
     have h3 := firstL_len ts (st1 (.mk k n nl ts) [])
     rw [e1]
     refine ⟨(by decide : 0 ≤ 2000), fun h => ⟨⟨0, st1 (.mk k n nl ts) []⟩, ⟨by simp, h, by omega, by simp only [List.drop_zero]; omega⟩, rfl, rfl, rfl, fun hw => ?_, fun hw => ?_⟩, fun h => ⟨⟨0, st1 (.mk k n nl ts) []⟩, ⟨by simp, h, by omega, by simp only [List.drop_zero]; omega⟩, rfl, fun hw => ?_, fun hw => ?_⟩⟩
     ·simp only [List.drop_zero] at hw ⊢; exact .inl ⟨hw, by simp⟩
     ·simp only [List.drop_zero] at hw ⊢; exact .inr hw
     ·simp only [List.drop_zero] at hw ⊢; exact .inl ⟨hw, by simp⟩
     ·simp only [List.drop_zero] at hw ⊢; exact .inr hw
    ·rw [h0]
     show runF (vwH2 (Ty.mk k n nl ts).nl (Ty.mk k n nl ts).l) 60 115 _ (vsW (vsG 1 l)) _
     rw [vw_top1]
     simp only [eq_self, true_and, and_true, SubR_id, codeIs_self, iC, ex_enc, ex_encI, Ty.eta]
     simp only [tl_mk]
     have e1 : firstT (.mk k n nl ts) l = firstL ts (st1 (.mk k n nl ts) l) := rfl
     have h2 := st1_len (.mk k n nl ts) l
     have h3 := firstL_len ts (st1 (.mk k n nl ts) l)
     have w1 := way_up h2.1 h0
     rw [e1]
     refine ⟨h0, by omega, fun h => ⟨⟨0, st1 (.mk k n nl ts) l⟩, ⟨by simp, h, by omega, by simp only [List.drop_zero]; omega⟩, rfl, rfl, rfl, fun hw => ?_, fun hw => ?_⟩, fun h => by rw [w1] at h; cases h⟩
     ·simp only [List.drop_zero] at hw ⊢; exact .inl ⟨hw, by simp⟩
     ·simp only [List.drop_zero] at hw ⊢; exact .inr hw
   exact h.mono fun o ho => vsPost_ok (P := Tryz.prog) ho
 exact key _ t l (Nat.lt_succ_self _) hc hb
theorem vwalk_hook0 : HSpec.Ok Tryz.prog g0 115 vwalkH0 := by
 intro args A K h'
 unfold vwalkH0 at h'
 split at h'
 ·obtain ⟨t, rfl, h⟩ := argTy_elim h'
  obtain ⟨l, ⟨h1, h2⟩, h⟩ := argAcc_elim h
  obtain ⟨hK, hr⟩ := FuncJ.onG (n := 8) h (vwalk_ok t l h1 h2) (vsW_ok l) (vsW_ok _) (nf_mono (first_len t l).1) (by simp [AV.bndL, AV.bnd, AV.still_bnd, enc_still]) rfl
  exact ⟨_, hr, vsEnd_elim hK⟩
 ·exact h'.elim
theorem kvars_ok (t : Ty) (hc : cnt t ≤ 1000) : QJ 36 [enc t] (if validB t = true then .tup [.isl (nilB (firstT t [])) none 0 (encZ (firstT t [])), .int .i64 0] else .tup [.isl true none 0 [], .int .i64 1]) := by
 have hh : Hooks.Ok Tryz.prog g0 varsHk := mkHooks_ok (all_cons valid_hook (all_cons parts_hook all_nil)) (all_cons vwalk_hook0 all_nil) all_nil
 rw [enc_D]
 by_cases h : validB t = true
 ·rw [if_pos h]
  refine QJ.by (hk := varsHk) (by simp [AV.stillL, encD_still]) (by simp [AV.still, AV.stillL, encZ_still]) hh ?_
  rw [kvars_top]
  refine ⟨nn _, t, rfl, ?_⟩
  simp only [ex_enc, Ty.eta, h, Bool.not_true, bR_f, eq_self, true_and, and_true, SubR_id]
  refine ⟨hc, ⟨hc, by omega⟩, fun h => ?_, fun h => ?_⟩
  ·rw [nilB, decide_eq_false (ne_of_1 h)]
  ·rw [nil_of_0 h]; rfl
 ·rw [if_neg h]
  simp only [Bool.not_eq_true] at h
  refine QJ.by (hk := varsHk) (by simp [AV.stillL, encD_still]) rfl hh ?_
  have e := kvars_top t true [] 1
  simp only [show encZ [] = [] from rfl] at e
  rw [e]
  refine ⟨nn _, t, rfl, ?_⟩
  simp only [ex_enc, Ty.eta, h, Bool.not_false, bR_t]
  exact ⟨hc, trivial⟩
end Go.Proofs.YtnmolpkkemljoaaGreatDoor
end
end
section
namespace Kd
open Go.Am Go.Proofs.YtnmolpkkemljoaaGreatDoor
def entM (x : Int × Ty × Nat) : AV × AV × Nat := (.int .i64 x.1, encD x.2.1, x.2.2)
def encM (l : List (Int × Ty × Nat)) : List (AV × AV × Nat) := l.map entM
end Kd
noncomputable section
namespace Go.Proofs.YtnmolpkkemljoaaGreatDoor
open Go Go.Am Kd
def kclQ (N : Nat) : QSpec
 | [t], K => argTy t fun t => (SizeOf.sizeOf t < N ∧ okT t = true) ∧ K (encD (cleanT t))
 | _, _ => False
def kclQ0 : QSpec
 | [t], K => argTy t fun t => (okT t = true) ∧ K (encD (cleanT t))
 | _, _ => False
def kclH (N : Nat) : Hooks := hooks [(68, kclQ N)] [] []
end Go.Proofs.YtnmolpkkemljoaaGreatDoor
end
end
section
noncomputable section
namespace Go.Proofs.YtnmolpkkemljoaaGreatDoor
open Go Go.Am Kd Go.Am.AV Go.IntKind
set_option maxRecDepth 100000
theorem kcl_top0 (k n : Int) (b : Bool) (N : Nat) (r : Ty) : (runF (kclH N) 60 68 [.agg [.int .i64 k, .int .i64 n, .isl b none 0 []]] AH.nil (retIs Tryz.prog 5 (encD r))) = ( bothR (decide (k = (6 : Int))) (agg [int i64 k, int i64 n, isl true none (0) []] = agg [int i64 (Ty.kind r), int i64 (Ty.n r), isl (Ty.nl r) none (0) (encL (Ty.l r))]) (agg [int i64 k, int i64 (0), isl true none (0) []] =
 agg [int i64 (Ty.kind r), int i64 (Ty.n r), isl (Ty.nl r) none (0) (encL (Ty.l r))])) := by kernel_rfl
theorem kcl_top1 (k n : Int) (b : Bool) (x : Ty) (N : Nat) (r : Ty) : (runF (kclH N) 60 68 [.agg [.int .i64 k, .int .i64 n, .isl b none 0 [encD x]]] AH.nil (retIs Tryz.prog 5 (encD r))) = ( bothR (decide (k = (6 : Int))) (∃ l, encL (Ty.l x) = encL l ∧ (SizeOf.sizeOf (Ty.mk (Ty.kind x) (Ty.n x) (Ty.nl x) l) < N ∧ okT (Ty.mk (Ty.kind x) (Ty.n x) (Ty.nl x) l) = true) ∧ agg [int i64 k, int i64 n, isl false none (0) [agg
 [int i64 (Ty.kind (cleanT (Ty.mk (Ty.kind x) (Ty.n x) (Ty.nl x) l))), int i64 (Ty.n (cleanT (Ty.mk (Ty.kind x) (Ty.n x) (Ty.nl x) l))), isl (Ty.nl (cleanT (Ty.mk (Ty.kind x) (Ty.n x) (Ty.nl x) l))) none (0) (encL (Ty.l (cleanT (Ty.mk (Ty.kind x) (Ty.n x) (Ty.nl x) l))))]]] = agg [int i64 (Ty.kind r), int i64 (Ty.n r), isl (Ty.nl r) none (0) (encL (Ty.l r))]) (∃ l, encL (Ty.l x) = encL l ∧ (SizeOf.sizeOf (Ty.mk (Ty.kind x) (Ty.n x) (Ty.nl x) l) < N ∧ okT (Ty.mk (Ty.kind x) (Ty.n x) (Ty.nl x) l) = true) ∧ agg
 [int i64 k, int i64 (0), isl false none (0) [agg [int i64 (Ty.kind (cleanT (Ty.mk (Ty.kind x) (Ty.n x) (Ty.nl x) l))), int i64 (Ty.n (cleanT (Ty.mk (Ty.kind x) (Ty.n x) (Ty.nl x) l))), isl (Ty.nl (cleanT (Ty.mk (Ty.kind x) (Ty.n x) (Ty.nl x) l))) none (0) (encL (Ty.l (cleanT (Ty.mk (Ty.kind x) (Ty.n x) (Ty.nl x) l))))]]] = agg [int i64 (Ty.kind r), int i64 (Ty.n r), isl (Ty.nl r) none (0) (encL (Ty.l r))])) := by kernel_rfl
theorem kcl_top2 (k n : Int) (b : Bool) (x y : Ty) (N : Nat) (r : Ty) : (runF (kclH N) 60 68 [.agg [.int .i64 k, .int .i64 n, .isl b none 0 [encD x, encD y]]] AH.nil (retIs Tryz.prog 5 (encD r))) = ( bothR (decide (k = (6 : Int))) (∃ l, encL (Ty.l x) = encL l ∧ (SizeOf.sizeOf (Ty.mk (Ty.kind x) (Ty.n x) (Ty.nl x) l) < N ∧ okT (Ty.mk (Ty.kind x) (Ty.n x) (Ty.nl x) l) = true) ∧ ∃ l_1, encL (Ty.l y) = encL l_1 ∧ (SizeOf.sizeOf (Ty.mk (Ty.kind y) (Ty.n y) (Ty.nl y) l_1) < N ∧ okT (Ty.mk (Ty.kind y) (Ty.n y) (Ty.nl y) l_1) = true) ∧ agg [int i64 k, int i64 n,
 isl false none (0) [agg [int i64 (Ty.kind (cleanT (Ty.mk (Ty.kind x) (Ty.n x) (Ty.nl x) l))), int i64 (Ty.n (cleanT (Ty.mk (Ty.kind x) (Ty.n x) (Ty.nl x) l))), isl (Ty.nl (cleanT (Ty.mk (Ty.kind x) (Ty.n x) (Ty.nl x) l))) none (0) (encL (Ty.l (cleanT (Ty.mk (Ty.kind x) (Ty.n x) (Ty.nl x) l))))], agg [int i64 (Ty.kind (cleanT (Ty.mk (Ty.kind y) (Ty.n y) (Ty.nl y) l_1))), int i64 (Ty.n (cleanT (Ty.mk (Ty.kind y) (Ty.n y) (Ty.nl y) l_1))), isl (Ty.nl (cleanT (Ty.mk (Ty.kind y) (Ty.n y) (Ty.nl y) l_1))) none (0)
 (encL (Ty.l (cleanT (Ty.mk (Ty.kind y) (Ty.n y) (Ty.nl y) l_1))))]]] = agg [int i64 (Ty.kind r), int i64 (Ty.n r), isl (Ty.nl r) none (0) (encL (Ty.l r))]) (∃ l, encL (Ty.l x) = encL l ∧ (SizeOf.sizeOf (Ty.mk (Ty.kind x) (Ty.n x) (Ty.nl x) l) < N ∧ okT (Ty.mk (Ty.kind x) (Ty.n x) (Ty.nl x) l) = true) ∧ ∃ l_1, encL (Ty.l y) = encL l_1 ∧ (SizeOf.sizeOf (Ty.mk (Ty.kind y) (Ty.n y) (Ty.nl y) l_1) < N ∧ okT (Ty.mk (Ty.kind y) (Ty.n y) (Ty.nl y) l_1) = true) ∧ agg [int i64 k, int i64 (0), isl false none (0) [agg
 [int i64 (Ty.kind (cleanT (Ty.mk (Ty.kind x) (Ty.n x) (Ty.nl x) l))), int i64 (Ty.n (cleanT (Ty.mk (Ty.kind x) (Ty.n x) (Ty.nl x) l))), isl (Ty.nl (cleanT (Ty.mk (Ty.kind x) (Ty.n x) (Ty.nl x) l))) none (0) (encL (Ty.l (cleanT (Ty.mk (Ty.kind x) (Ty.n x) (Ty.nl x) l))))], agg [int i64 (Ty.kind (cleanT (Ty.mk (Ty.kind y) (Ty.n y) (Ty.nl y) l_1))), int i64 (Ty.n (cleanT (Ty.mk (Ty.kind y) (Ty.n y) (Ty.nl y) l_1))), isl (Ty.nl (cleanT (Ty.mk (Ty.kind y) (Ty.n y) (Ty.nl y) l_1))) none (0)
 (encL (Ty.l (cleanT (Ty.mk (Ty.kind y) (Ty.n y) (Ty.nl y) l_1))))]]] = agg [int i64 (Ty.kind r), int i64 (Ty.n r), isl (Ty.nl r) none (0) (encL (Ty.l r))])) := by kernel_rfl
end Go.Proofs.YtnmolpkkemljoaaGreatDoor
end
end
section
set_option maxRecDepth 100000
set_option linter.unusedSimpArgs false
set_option linter.unusedVariables false
noncomputable section
namespace Go.Proofs.YtnmolpkkemljoaaGreatDoor
open Go Go.Am Kd
theorem ok_node {k n : Int} {b : Bool} {l : List Ty} (h : okT (.mk k n b l) = true) : NodeOk (.mk k n b l) ∧ okL l = true := by
 simp only [okT, Bool.and_eq_true, decide_eq_true_eq] at h
 exact h
theorem parts_cases {k n : Int} {b : Bool} {l : List Ty} (h : okT (.mk k n b l) = true) : l = [] ∨ (∃ x, l = [x] ∧ okT x = true) ∨ ∃ x y, l = [x, y] ∧ okT x = true ∧ okT y = true := by
 obtain ⟨hn, hl⟩ := ok_node h
 simp only [NodeOk] at hn
 obtain ⟨h1, h2, h3, h4, h5, h6⟩ := hn
 have hlen : l.length ≤ 2 := by
  have : k = 0 ∨ k = 1 ∨ k = 6 ∨ k = 2 ∨ k = 3 ∨ k = 5 ∨ k = 4 := by omega
  rcases this with h | h | h | h | h | h | h
  ·have := h3 (.inl h); omega
  ·have := h3 (.inr (.inl h)); omega
  ·have := h3 (.inr (.inr h)); omega
  ·have := h4 (.inl h); omega
  ·have := h4 (.inr (.inl h)); omega
  ·have := h4 (.inr (.inr h)); omega
  ·have := h5 h; omega
 match l, hlen with
 | [], _ => exact .inl rfl
 | [x], _ => exact .inr (.inl ⟨x, rfl, okL_mem hl x (by simp)⟩)
 | [x, y], _ => exact .inr (.inr ⟨x, y, rfl, okL_mem hl x (by simp), okL_mem hl y (by simp)⟩)
theorem kcl_hook {N : Nat} (ih : ∀ t, SizeOf.sizeOf t < N → okT t = true → QJ 68 [enc t] (encD (cleanT t))) : QSpec.Ok Tryz.prog g0 68 (kclQ N) := by
 intro args K h'
 unfold kclQ at h'
 split at h'
 ·obtain ⟨t, rfl, h1, h2⟩ := argTy_elim h'
  exact ⟨_, ih t h1.1 h1.2, h2⟩
 ·exact h'.elim
theorem kclean_ok (t : Ty) (ho : okT t = true) : QJ 68 [enc t] (encD (cleanT t)) := by
 have key : ∀ (N : Nat) (t : Ty), SizeOf.sizeOf t < N → okT t = true → QJ 68 [enc t] (encD (cleanT t)) := by
  intro N
  induction N with
  | zero => intro t h; omega
  | succ N ih =>
   intro t ht ho
   obtain ⟨k, n, nl, ts⟩ := t
   simp only [Ty.mk.sizeOf_spec] at ht
   have hh : Hooks.Ok Tryz.prog g0 (kclH N) := mkHooks_ok (all_cons (kcl_hook ih) all_nil) all_nil all_nil
   refine QJ.by (hk := kclH N) (by simp [AV.stillL, enc_still]) (encD_still _) hh ?_
   rcases parts_cases ho with rfl | ⟨x, rfl, hx⟩ | ⟨x, y, rfl, hx, hy⟩
   ·show runF (kclH N) 60 68 [.agg [.int .i64 k, .int .i64 n, .isl nl none 0 []]] AH.nil _
    rw [kcl_top0]
    refine bothR_dec (fun h6 => ?_) fun h6 => ?_
    ·simp only [cleanT, h6, if_true]; rfl
    ·simp only [cleanT, h6, if_false]; rfl
   ·have e : enc (.mk k n nl [x]) = .agg [.int .i64 k, .int .i64 n, .isl nl none 0 [encD x]] := by simp only [enc, encL, enc_D]
    rw [e, kcl_top1]
    simp only [List.cons.sizeOf_spec] at ht
    simp only [ex_enc, Ty.eta]
    refine bothR_dec (fun h6 => ⟨⟨by omega, hx⟩, ?_⟩) fun h6 => ⟨⟨by omega, hx⟩, ?_⟩
    ·simp only [encL_sing, cleanT, cleanL, h6, if_true]; rfl
    ·simp only [encL_sing, cleanT, cleanL, h6, if_false]; rfl
   ·have e : enc (.mk k n nl [x, y]) = .agg [.int .i64 k, .int .i64 n, .isl nl none 0 [encD x, encD y]] := by simp only [enc, encL, enc_D]
    rw [e, kcl_top2]
    simp only [List.cons.sizeOf_spec] at ht
    simp only [ex_enc, Ty.eta]
    have e2 : ∀ u v : Ty, [AV.agg [.int .i64 u.kind, .int .i64 u.n, .isl u.nl none 0 (encL u.l)], AV.agg [.int .i64 v.kind, .int .i64 v.n, .isl v.nl none 0 (encL v.l)]] = encL [u, v] := fun u v => by
     simp only [encL, enc_D]; rfl
    refine bothR_dec (fun h6 => ⟨⟨by omega, hx⟩, ⟨by omega, hy⟩, ?_⟩) fun h6 => ⟨⟨by omega, hx⟩, ⟨by omega, hy⟩, ?_⟩
    ·simp only [e2, cleanT, cleanL, h6, if_true]; rfl
    ·simp only [e2, cleanT, cleanL, h6, if_false]; rfl
 exact key (SizeOf.sizeOf t + 1) t (by omega) ho
theorem kcl_hook0 : QSpec.Ok Tryz.prog g0 68 kclQ0 := by
 intro args K h'
 unfold kclQ0 at h'
 split at h'
 ·obtain ⟨t, rfl, h1, h2⟩ := argTy_elim h'
  exact ⟨_, kclean_ok t h1, h2⟩
 ·exact h'.elim
end Go.Proofs.YtnmolpkkemljoaaGreatDoor
end
end
section
noncomputable section
namespace Go.Proofs.YtnmolpkkemljoaaGreatDoor
open Go Go.Am Kd
def pwB (es : List (Int × Ty × Nat)) (c : Nat) (left : Int) : List ABlk :=
 [.map (encM es) c, .cells [.map 0] 74, top3, top3, .cells [.int .i64 left] 3, .cells [.fn (.func 118) [] [.ptr 1 0, .ptr 4 0, .ptr 5 0]] 145]
def cnH (es : List (Int × Ty × Nat)) (c : Nat) (left d : Int) (u : Ty) (n : Int) : AH :=
 ⟨pwB es c left ++ [top3, .cells [.int .i64 d] 3, top3, tyC u, .cells [.int .i64 n] 3, .defers, .loop .ready none (frm 51 [(10, .ptr 10 0)]).tmps (rP 118 0) (rA 118 0) (rB 118 0) 11], []⟩
def cnW (A : AH) : AH := ⟨A.blks ++ [.cells [.fn (.yield 12) [] []] 42, .cells [.fn (.func 115) [] [.ptr 13 0, .ptr 14 0]] 42], []⟩
def cnX (A : AH) : AH := ⟨(cnW A).blks ++ [top3], []⟩
def cnPost (A' : AH) (o : AFin) : Prop :=
 match o.e with
 | .returned (.bool true) => BlksR o.A.blks A'.blks (FamR 0 o.A.fams [] True)
 | _ => False
def argCn (A : AH) (K : List (Int × Ty × Nat) → Nat → Int → Int → Ty → Int → Prop) : Prop :=
 match nthR A.blks 0, nthR A.blks 4, nthR A.blks 7, nthR A.blks 9, nthR A.blks 10 with
 | some (.map m c), some (.cells [.int .i64 left] 3), some (.cells [.int .i64 d] 3), some (.cells [.int .i64 k, .int .i64 q, .isl b none 0 xs] 24), some (.cells [.int .i64 n] 3) => ∃ es, m = encM es ∧ ∃ l, xs = encL l ∧ K es c left d (.mk k q b l) n
 | _, _, _, _, _ => False
def cnRound : RSpec := fun l args A K =>
 match l, args with
 | 12, [t] => argTy t fun _ => argCn A fun es c left d u n => (0 ≤ n ∧ n ≤ 1000) ∧ onR 0 A (cnH es c left d u n) (K ⟨.returned (.bool true), (cnH es c left d u (n + 1)).onto A⟩)
 | _, _ => False
def cwalkH (N : Nat) : HSpec := fun args A K =>
 match args with
 | [t, .ptr 13 0, .ptr 14 0] => argTy t fun t => argCn A fun es c left d u n => (SizeOf.sizeOf t < N ∧ cnt t ≤ 1000 ∧ 0 ≤ n ∧ n + cnt t ≤ 1000) ∧ onR 0 A (cnW (cnH es c left d u n)) (K ⟨.returned (.bool true), (cnW (cnH es c left d u (n + cnt t))).onto A⟩)
 | _ => False
def cwalkH0 : HSpec := fun args A K =>
 match args with
 | [t, .ptr 13 0, .ptr 14 0] => argTy t fun t => argCn A fun es c left d u n => (cnt t ≤ 1000 ∧ 0 ≤ n ∧ n + cnt t ≤ 1000) ∧ onR 0 A (cnW (cnH es c left d u n)) (K ⟨.returned (.bool true), (cnW (cnH es c left d u (n + cnt t))).onto A⟩)
 | _ => False
def cwSt (es : List (Int × Ty × Nat)) (c : Nat) (left d : Int) (u : Ty) (bb : Bool) (ts : List Ty) : LSt (Nat × Int) Int where
 n := 16
 nf := 0
 rd := none
 fr x := frm 23 [(2, .ptr 14 0), (12, .isl bb none 0 (encL ts)), (13, .int .i64 (encL ts).length), (14, .int .i64 x.1)]
 hp x := cnX (cnH es c left d u x.2)
 inv x := x.1 ≤ ts.length ∧ cntL ts ≤ 1000 ∧ 0 ≤ x.2 ∧ x.2 + cntL (ts.drop x.1) ≤ 1000
 res x := x.2 + cntL (ts.drop x.1)
 sel _ := true
 out _ r := ⟨.exit 0, frm 23 [], cnX (cnH es c left d u r)⟩
def cwH1 (N : Nat) : Hooks := mkHooks Tryz.prog [] [(115, cwalkH N)] []
def cwH2 (es : List (Int × Ty × Nat)) (c : Nat) (left d : Int) (u : Ty) (bb : Bool) (ts : List Ty) : Hooks := mkHooks Tryz.prog [] [] [(4, ⟨115, 0, (cwSt es c left d u bb ts).spec⟩)] (some cnRound)
end Go.Proofs.YtnmolpkkemljoaaGreatDoor
end
end
section
noncomputable section
namespace Go.Proofs.YtnmolpkkemljoaaGreatDoor
open Go Go.Am Kd Go.Am.AV Go.IntKind
set_option maxRecDepth 100000
theorem cn_round (es : List (Int × Ty × Nat)) (c : Nat) (left d : Int) (u : Ty) (n : Int) (t : Ty) : (runR hk0 60 12 [encD t] (cnH es c left d u n) (cnPost (cnH es c left d u (n + 1)))) = ( encM es = encM es ∧ c = c ∧ 74 = 74 ∧ SubR [AV.map (0)] [AV.map (0)] (24 = 24 ∧ 24 = 24 ∧ 3 = 3 ∧ int i64 left = int i64 left ∧ 145 = 145 ∧ SubR [AV.fn (Fn.func (118)) [] [ptr (1) (0), ptr (4) (0), ptr (5) (0)]] [AV.fn (Fn.func (118)) [] [ptr (1) (0), ptr (4) (0), ptr (5) (0)]] (24 = 24 ∧ 3 = 3 ∧ int i64 d = int i64 d ∧ 24 = 24 ∧ 24 = 24 ∧
 int i64 (Ty.kind u) = int i64 (Ty.kind u) ∧ int i64 (Ty.n u) = int i64 (Ty.n u) ∧ isl (Ty.nl u) none (0) (encL (Ty.l u)) = isl (Ty.nl u) none (0) (encL (Ty.l u)) ∧ 3 = 3 ∧ int i64 (IntKind.wrap IntKind.i64 (n + (1 : Int))) = int i64 (n + (1 : Int)) ∧ (LoopState.ready = LoopState.ready ∧ (none : Option Code) = none ∧ ((Array.mk (α := Nat) [26]), rA (76) (1), rB (118) (0)) = ((Array.mk (α := Nat) [26]), rA (76) (1), rB (118) (0)) ∧ 11 = 11) ∧ ptr (10) (0) = ptr (10) (0) ∧ 0 = 0 ∧ True))) := by kernel_rfl
theorem cw_loop (es : List (Int × Ty × Nat)) (c : Nat) (left d : Int) (u : Ty) (bb : Bool) (ts : List Ty) (N : Nat) (meas : Nat × Int → Nat) (x : Nat × Int) : (runL (cwH1 N) 60 115 0 (cwSt es c left d u bb ts) meas x) = ( bothR (decide (iC (Prod.fst x) < iC (List.length (encL ts)))) (0 ≤ iC (Prod.fst x) ∧ ∃ x_1, (encL ts)[Int.toNat (iC (Prod.fst x))]? = some (agg [int i64 (Ty.kind x_1), int i64 (Ty.n x_1), isl (Ty.nl x_1) none (0) (encL (Ty.l x_1))]) ∧ ∃ l, encL (Ty.l x_1) = encL l ∧ ∃ es_1, encM es = encM es_1 ∧ ∃ l_1, encL (Ty.l u) = encL l_1 ∧
 (SizeOf.sizeOf (Ty.mk (Ty.kind x_1) (Ty.n x_1) (Ty.nl x_1) l) < N ∧ cnt (Ty.mk (Ty.kind x_1) (Ty.n x_1) (Ty.nl x_1) l) ≤ 1000 ∧ 0 ≤ Prod.snd x ∧ Prod.snd x + iC (cnt (Ty.mk (Ty.kind x_1) (Ty.n x_1) (Ty.nl x_1) l)) ≤ 1000) ∧ encM es = encM es_1 ∧ c = c ∧ 74 = 74 ∧ SubR [AV.map (0)] [AV.map (0)] (24 = 24 ∧ 24 = 24 ∧ 3 = 3 ∧ int i64 left = int i64 left ∧ 145 = 145 ∧ SubR [AV.fn (Fn.func (118)) [] [ptr (1) (0), ptr (4) (0), ptr (5) (0)]] [AV.fn (Fn.func (118)) [] [ptr (1) (0), ptr (4) (0), ptr (5) (0)]] (24 = 24 ∧ 3 = 3 ∧
 int i64 d = int i64 d ∧ 24 = 24 ∧ 24 = 24 ∧ int i64 (Ty.kind u) = int i64 (Ty.kind u) ∧ int i64 (Ty.n u) = int i64 (Ty.n u) ∧ isl (Ty.nl u) none (0) (encL (Ty.l u)) = isl (Ty.nl u) none (0) (encL l_1) ∧ 3 = 3 ∧ int i64 (Prod.snd x) = int i64 (Prod.snd x) ∧ (LoopState.ready = LoopState.ready ∧ (none : Option Code) = none ∧ ((Array.mk (α := Nat) [26]), rA (76) (1), rB (118) (0)) = ((Array.mk (α := Nat) [26]), rA (76) (1), rB (118) (0)) ∧ 11 = 11) ∧ ptr (10) (0) = ptr (10) (0) ∧ 42 = 42 ∧
 SubR [AV.fn (Fn.yield (12)) [] []] [AV.fn (Fn.yield (12)) [] []] (42 = 42 ∧ SubR [AV.fn (Fn.func (115)) [] [ptr (13) (0), ptr (14) (0)]] [AV.fn (Fn.func (115)) [] [ptr (13) (0), ptr (14) (0)]] (0 = 0 ∧ ∃ y, (Prod.fst y ≤ List.length ts ∧ cntL ts ≤ 1000 ∧ 0 ≤ Prod.snd y ∧ Prod.snd y + iC (cntL (List.drop (Prod.fst y) ts)) ≤ 1000) ∧ meas y < meas x ∧ Prod.snd y + iC (cntL (List.drop (Prod.fst y) ts)) = Prod.snd x + iC (cntL (List.drop (Prod.fst x) ts)) ∧ ptr (14) (0) = ptr (14) (0) ∧ isl bb none (0) (encL ts) = isl bb none (0) (encL ts) ∧
 int i64 (iC (List.length (encL ts))) = int i64 (iC (List.length (encL ts))) ∧ int i64 (IntKind.wrap IntKind.i64 (iC (Prod.fst x) + (1 : Int))) = int i64 (iC (Prod.fst y)) ∧ encM es_1 = encM es ∧ c = c ∧ 74 = 74 ∧ SubR [AV.map (0)] [AV.map (0)] (24 = 24 ∧ 24 = 24 ∧ 3 = 3 ∧ int i64 left = int i64 left ∧ 145 = 145 ∧ SubR [AV.fn (Fn.func (118)) [] [ptr (1) (0), ptr (4) (0), ptr (5) (0)]] [AV.fn (Fn.func (118)) [] [ptr (1) (0), ptr (4) (0), ptr (5) (0)]] (24 = 24 ∧ 3 = 3 ∧
 int i64 d = int i64 d ∧ 24 = 24 ∧ 24 = 24 ∧ int i64 (Ty.kind u) = int i64 (Ty.kind u) ∧ int i64 (Ty.n u) = int i64 (Ty.n u) ∧ isl (Ty.nl u) none (0) (encL l_1) = isl (Ty.nl u) none (0) (encL (Ty.l u)) ∧ 3 = 3 ∧ int i64 (Prod.snd x + iC (cnt (Ty.mk (Ty.kind x_1) (Ty.n x_1) (Ty.nl x_1) l))) = int i64 (Prod.snd y) ∧ (LoopState.ready = LoopState.ready ∧ (none : Option Code) = none ∧ ((Array.mk (α := Nat) [26]), rA (76) (1), rB (118) (0)) = ((Array.mk (α := Nat) [26]), rA (76) (1), rB (118) (0)) ∧
 11 = 11) ∧ ptr (10) (0) = ptr (10) (0) ∧ 42 = 42 ∧ SubR [AV.fn (Fn.yield (12)) [] []] [AV.fn (Fn.yield (12)) [] []] (42 = 42 ∧ SubR [AV.fn (Fn.func (115)) [] [ptr (13) (0), ptr (14) (0)]] [AV.fn (Fn.func (115)) [] [ptr (13) (0), ptr (14) (0)]] (24 = 24 ∧ 0 = 0 ∧ True))))))))) (true = true ∧ encM es = encM es ∧ c = c ∧ 74 = 74 ∧ SubR [AV.map (0)] [AV.map (0)] (24 = 24 ∧ 24 = 24 ∧ 3 = 3 ∧ int i64 left = int i64 left ∧ 145 = 145 ∧ SubR [AV.fn (Fn.func (118)) [] [ptr (1) (0), ptr (4) (0), ptr (5) (0)]] [AV.fn (Fn.func (118)) []
 [ptr (1) (0), ptr (4) (0), ptr (5) (0)]] (24 = 24 ∧ 3 = 3 ∧ int i64 d = int i64 d ∧ 24 = 24 ∧ 24 = 24 ∧ int i64 (Ty.kind u) = int i64 (Ty.kind u) ∧ int i64 (Ty.n u) = int i64 (Ty.n u) ∧ isl (Ty.nl u) none (0) (encL (Ty.l u)) = isl (Ty.nl u) none (0) (encL (Ty.l u)) ∧ 3 = 3 ∧ int i64 (Prod.snd x) = int i64 (Prod.snd x + iC (cntL (List.drop (Prod.fst x) ts))) ∧ (LoopState.ready = LoopState.ready ∧ (none : Option Code) = none ∧ ((Array.mk (α := Nat) [26]), rA (76) (1), rB (118) (0)) =
 ((Array.mk (α := Nat) [26]), rA (76) (1), rB (118) (0)) ∧ 11 = 11) ∧ ptr (10) (0) = ptr (10) (0) ∧ 42 = 42 ∧ SubR [AV.fn (Fn.yield (12)) [] []] [AV.fn (Fn.yield (12)) [] []] (42 = 42 ∧ SubR [AV.fn (Fn.func (115)) [] [ptr (13) (0), ptr (14) (0)]] [AV.fn (Fn.func (115)) [] [ptr (13) (0), ptr (14) (0)]] (24 = 24 ∧ 0 = 0 ∧ True)))))) := by kernel_rfl
theorem cw_top (es : List (Int × Ty × Nat)) (c : Nat) (left d : Int) (u : Ty) (n m : Int) (t : Ty) : (runF (cwH2 es c left d u t.nl t.l) 60 115 [encD t, .ptr 13 0, .ptr 14 0] (cnW (cnH es c left d u n)) (cnPost (cnW (cnH es c left d u m)))) = ( ∃ l, encL (Ty.l t) = encL l ∧ ∃ es_1, encM es = encM es_1 ∧ ∃ l, encL (Ty.l u) = encL l ∧ (0 ≤ n ∧ n ≤ 1000) ∧ encM es = encM es_1 ∧ c = c ∧ 74 = 74 ∧ SubR [AV.map (0)] [AV.map (0)] (24 = 24 ∧ 24 = 24 ∧ 3 = 3 ∧ int i64 left = int i64 left ∧ 145 = 145 ∧ SubR [AV.fn (Fn.func (118)) [] [ptr (1) (0), ptr (4) (0), ptr (5) (0)]]
 [AV.fn (Fn.func (118)) [] [ptr (1) (0), ptr (4) (0), ptr (5) (0)]] (24 = 24 ∧ 3 = 3 ∧ int i64 d = int i64 d ∧ 24 = 24 ∧ 24 = 24 ∧ int i64 (Ty.kind u) = int i64 (Ty.kind u) ∧ int i64 (Ty.n u) = int i64 (Ty.n u) ∧ isl (Ty.nl u) none (0) (encL (Ty.l u)) = isl (Ty.nl u) none (0) (encL l) ∧ 3 = 3 ∧ int i64 n = int i64 n ∧ (LoopState.ready = LoopState.ready ∧ (none : Option Code) = none ∧ ((Array.mk (α := Nat) [26]), rA (76) (1), rB (118) (0)) =
 ((Array.mk (α := Nat) [26]), rA (76) (1), rB (118) (0)) ∧ 11 = 11) ∧ ptr (10) (0) = ptr (10) (0) ∧ 0 = 0 ∧ codeIs (loopOf Tryz.prog 115 0) Tryz.prog 115 0 (∃ x, (Prod.fst x ≤ List.length (Ty.l t) ∧ cntL (Ty.l t) ≤ 1000 ∧ 0 ≤ Prod.snd x ∧ Prod.snd x + iC (cntL (List.drop (Prod.fst x) (Ty.l t))) ≤ 1000) ∧ ptr (14) (0) = ptr (14) (0) ∧ isl (Ty.nl t) none (0) (encL (Ty.l t)) = isl (Ty.nl t) none (0) (encL (Ty.l t)) ∧ int i64 (iC (List.length (encL (Ty.l t)))) = int i64 (iC (List.length (encL (Ty.l t)))) ∧
 int i64 (0) = int i64 (iC (Prod.fst x)) ∧ encM es_1 = encM es ∧ c = c ∧ 74 = 74 ∧ SubR [AV.map (0)] [AV.map (0)] (24 = 24 ∧ 24 = 24 ∧ 3 = 3 ∧ int i64 left = int i64 left ∧ 145 = 145 ∧ SubR [AV.fn (Fn.func (118)) [] [ptr (1) (0), ptr (4) (0), ptr (5) (0)]] [AV.fn (Fn.func (118)) [] [ptr (1) (0), ptr (4) (0), ptr (5) (0)]] (24 = 24 ∧ 3 = 3 ∧ int i64 d = int i64 d ∧ 24 = 24 ∧ 24 = 24 ∧ int i64 (Ty.kind u) = int i64 (Ty.kind u) ∧ int i64 (Ty.n u) = int i64 (Ty.n u) ∧
 isl (Ty.nl u) none (0) (encL l) = isl (Ty.nl u) none (0) (encL (Ty.l u)) ∧ 3 = 3 ∧ int i64 (n + (1 : Int)) = int i64 (Prod.snd x) ∧ (LoopState.ready = LoopState.ready ∧ (none : Option Code) = none ∧ ((Array.mk (α := Nat) [26]), rA (76) (1), rB (118) (0)) = ((Array.mk (α := Nat) [26]), rA (76) (1), rB (118) (0)) ∧ 11 = 11) ∧ ptr (10) (0) = ptr (10) (0) ∧ 42 = 42 ∧ SubR [AV.fn (Fn.yield (12)) [] []] [AV.fn (Fn.yield (12)) [] []] (42 = 42 ∧ SubR [AV.fn (Fn.func (115)) [] [ptr (13) (0), ptr (14) (0)]] [AV.fn (Fn.func (115)) [] [ptr (13) (0),
 ptr (14) (0)]] (24 = 24 ∧ 0 = 0 ∧ encM es = encM es ∧ c = c ∧ 74 = 74 ∧ SubR [AV.map (0)] [AV.map (0)] (24 = 24 ∧ 24 = 24 ∧ 3 = 3 ∧ int i64 left = int i64 left ∧ 145 = 145 ∧ SubR [AV.fn (Fn.func (118)) [] [ptr (1) (0), ptr (4) (0), ptr (5) (0)]] [AV.fn (Fn.func (118)) [] [ptr (1) (0), ptr (4) (0), ptr (5) (0)]] (24 = 24 ∧ 3 = 3 ∧ int i64 d = int i64 d ∧ 24 = 24 ∧ 24 = 24 ∧ int i64 (Ty.kind u) = int i64 (Ty.kind u) ∧ int i64 (Ty.n u) = int i64 (Ty.n u) ∧ isl (Ty.nl u) none (0) (encL
 (Ty.l u)) = isl (Ty.nl u) none (0) (encL (Ty.l u)) ∧ 3 = 3 ∧ int i64 (Prod.snd x + iC (cntL (List.drop (Prod.fst x) (Ty.l t)))) = int i64 m ∧ (LoopState.ready = LoopState.ready ∧ (none : Option Code) = none ∧ ((Array.mk (α := Nat) [26]), rA (76) (1), rB (118) (0)) = ((Array.mk (α := Nat) [26]), rA (76) (1), rB (118) (0)) ∧ 11 = 11) ∧ ptr (10) (0) = ptr (10) (0) ∧ 42 = 42 ∧ SubR [AV.fn (Fn.yield (12)) [] []] [AV.fn (Fn.yield (12)) [] []] (42 = 42 ∧ SubR [AV.fn (Fn.func (115)) [] [ptr (13) (0), ptr (14) (0)]] [AV.fn (Fn.func (115)) [] [ptr (13) (0),
 ptr (14) (0)]] (0 = 0 ∧ True)))))))))))) := by kernel_rfl
end Go.Proofs.YtnmolpkkemljoaaGreatDoor
end
end
section
set_option maxRecDepth 100000
set_option linter.unusedSimpArgs false
set_option linter.unusedVariables false
noncomputable section
namespace Go.Proofs.YtnmolpkkemljoaaGreatDoor
open Go Go.Am Kd
theorem entM_inj {x y : Int × Ty × Nat} (h : entM x = entM y) : x = y := by
 obtain ⟨a, t, i⟩ := x
 obtain ⟨b, u, j⟩ := y
 simp only [entM, Prod.mk.injEq, AV.int.injEq, true_and] at h
 obtain ⟨rfl, h2, rfl⟩ := h
 have : enc t = enc u := by rw [enc_D, enc_D]; exact h2
 rw [enc_inj this]
theorem encM_inj {l m : List (Int × Ty × Nat)} (h : encM l = encM m) : l = m := by
 induction l generalizing m with
 | nil => cases m <;> simp_all [encM]
 | cons x l ih =>
  cases m with
  | nil => simp [encM] at h
  | cons y m =>
   simp only [encM, List.map_cons, List.cons.injEq] at h
   rw [entM_inj h.1, ih h.2]
theorem ex_encM {l : List (Int × Ty × Nat)} {P : List (Int × Ty × Nat) → Prop} : (∃ l', encM l = encM l' ∧ P l') = P l :=
 propext ⟨fun ⟨l', h, hp⟩ => by rw [encM_inj h]; exact hp, fun h => ⟨l, rfl, h⟩⟩
theorem encM_bnd (n nf : Nat) (l : List (Int × Ty × Nat)) : bndM n nf (encM l) = true := by
 induction l with
 | nil => rfl
 | cons x l ih =>
  simp only [encM, List.map_cons, entM, bndM, AV.bnd, Bool.true_and, Bool.and_eq_true]
  exact ⟨AV.still_bnd n nf _ (encD_still _), ih⟩
theorem cnPost_ok {A' : AH} {o : AFin} (hA : A'.fams = []) (h : cnPost A' o) : hpIs 0 (.returned (.bool true)) A' o := by
 unfold cnPost at h
 split at h
 ·rename_i he
  exact ⟨he, by rw [hA]; exact h⟩
 ·exact h.elim
theorem cn_ok (es : List (Int × Ty × Nat)) (c : Nat) (left d : Int) (u : Ty) (n : Int) : (cnH es c left d u n).ok 13 0 = true := by
 simp [AH.ok, cnH, pwB, top3, tyC, ABlk.bnd, AV.bnd, encL_bnd, AV.bndL, encM_bnd, frm]; rfl
theorem cnW_ok (es : List (Int × Ty × Nat)) (c : Nat) (left d : Int) (u : Ty) (n : Int) : (cnW (cnH es c left d u n)).ok 15 0 = true := by
 simp [AH.ok, cnW, cnH, pwB, top3, tyC, ABlk.bnd, AV.bnd, encL_bnd, AV.bndL, encM_bnd, frm]; rfl
theorem cn_round_ok (es : List (Int × Ty × Nat)) (c : Nat) (left d : Int) (u : Ty) (n : Int) (t : Ty) (h0 : 0 ≤ n) (h1 : n ≤ 1000) : RoundJ Tryz.prog g0 12 [enc t] (cnH es c left d u n) (hpIs 0 (.returned (.bool true)) (cnH es c left d u (n + 1))) := by
 refine RoundJ.mono (K := cnPost (cnH es c left d u (n + 1))) ?_ fun o ho => cnPost_ok rfl ho
 rw [enc_D]
 refine RoundJ.run (el := els) (mu := mu0) (hk := hk0) hmix hk0_ok (n := 60) ?_
 show runR hk0 60 12 [encD t] (cnH es c left d u n) _
 rw [cn_round]
 simp only [eq_self, true_and, and_true, SubR_id, AV.int.injEq]
 rw [wrap_id (by omega) (by omega)]
theorem argCn_elim {A : AH} {K : List (Int × Ty × Nat) → Nat → Int → Int → Ty → Int → Prop} (h : argCn A K) : ∃ es c left d u n, K es c left d u n := by
 unfold argCn at h
 split at h
 ·obtain ⟨es, _, l, _, h⟩ := h
  exact ⟨es, _, _, _, _, _, h⟩
 ·exact h.elim
theorem cnRound_ok : RSpec.Ok Tryz.prog g0 cnRound := by
 intro l args A K h'
 unfold cnRound at h'
 split at h'
 ·obtain ⟨t, rfl, h⟩ := argTy_elim h'
  obtain ⟨es, c, left, d, u, n, ⟨h1, h2⟩, h⟩ := argCn_elim h
  obtain ⟨hK, hr⟩ := RoundJ.on (n := 13) h (cn_round_ok es c left d u n t h1 h2) (cn_ok ..) (cn_ok ..) (by simp [AV.bndL, AV.still_bnd, enc_still]) rfl (by omega)
  exact hr.mono fun o ho => by subst ho; exact hK
 ·exact h'.elim
def CWalkJ (es : List (Int × Ty × Nat)) (c : Nat) (left d : Int) (u : Ty) (n : Int) (t : Ty) : Prop := FJ 115 [enc t, .ptr 13 0, .ptr 14 0] (cnW (cnH es c left d u n)) (hpIs 0 (.returned (.bool true)) (cnW (cnH es c left d u (n + cnt t))))
theorem cwalk_hook {N : Nat} (ih : ∀ (es : List (Int × Ty × Nat)) (c : Nat) (left d : Int) (u : Ty) (n : Int) (t : Ty), SizeOf.sizeOf t < N → cnt t ≤ 1000 → 0 ≤ n → n + cnt t ≤ 1000 → CWalkJ es c left d u n t) : HSpec.Ok Tryz.prog g0 115 (cwalkH N) := by
 intro args A K h'
 unfold cwalkH at h'
 split at h'
 ·obtain ⟨t, rfl, h⟩ := argTy_elim h'
  obtain ⟨es, c, left, d, u, n, ⟨h1, h2, h3, h4⟩, h⟩ := argCn_elim h
  obtain ⟨hK, hr⟩ := FuncJ.on (n := 15) h (ih es c left d u n t h1 h2 h3 h4) (cnW_ok ..) (cnW_ok ..) (by simp [AV.bndL, AV.bnd, AV.still_bnd, enc_still]) rfl
  exact ⟨_, hr, hK⟩
 ·exact h'.elim
theorem cwalk_ok (es : List (Int × Ty × Nat)) (c : Nat) (left d : Int) (u : Ty) (n : Int) (t : Ty) (hc : cnt t ≤ 1000) (h0 : 0 ≤ n) (h1 : n + cnt t ≤ 1000) : CWalkJ es c left d u n t := by
 have key : ∀ (N : Nat) (es : List (Int × Ty × Nat)) (c : Nat) (left d : Int) (u : Ty) (n : Int) (t : Ty), SizeOf.sizeOf t < N → cnt t ≤ 1000 → 0 ≤ n → n + cnt t ≤ 1000 → CWalkJ es c left d u n t := by
  intro N
  induction N with
  | zero => intro es c left d u n t h; omega
  | succ N ih =>
   intro es c left d u n t ht hc h0 h1
   obtain ⟨k, n0, nl, ts⟩ := t
   simp only [cnt] at hc h1
   simp only [Ty.mk.sizeOf_spec] at ht
   have hlc := len_cnt ts
   have hl : LHook.Ok Tryz.prog g0 ⟨115, 0, (cwSt es c left d u nl ts).spec⟩ := by
    refine LSt.by (hk := cwH1 N) (cwSt es c left d u nl ts) (fun x => ts.length - x.1) (mkHooks_ok all_nil (all_cons (cwalk_hook ih) all_nil) all_nil) rfl ?_ ?_ ?_
    ·intro x _
     exact Whole.frm rfl rfl (by simp [cwSt, AV.bnd, encL_bnd]) (by simp [cwSt, cnX, cnW, cnH, pwB, top3, tyC, ABlk.bnd, AV.bnd, encL_bnd, AV.bndL, encM_bnd, frm]; rfl)
    ·intro x b' _
     exact Whole.frm rfl rfl rfl (by simp [cwSt, cnX, cnW, cnH, pwB, top3, tyC, ABlk.bnd, AV.bnd, encL_bnd, AV.bndL, encM_bnd, frm]; rfl)
    ·rintro ⟨i, m⟩ ⟨hi, _, hm0, hm⟩
     simp only at hi hm0 hm
     rw [cw_loop]
     simp only [iC, encL_length, eq_self, true_and, and_true, Int.toNat_natCast, AV.int.injEq, SubR_id, ex_encM]
     refine bothR_dec (fun hlt => ?_) fun hge => ?_
     ·have hi' : i < ts.length := by omega
      have hs := List.sizeOf_lt_of_mem (List.getElem_mem hi')
      have hg := cnt_get hi'
      have hd := cntL_drop ts i hi'
      rw [ex_get hi']
      simp only [ex_enc, Ty.eta]
      refine ⟨by omega, ⟨by omega, by omega, by omega, by omega⟩, trivial, (i + 1, m + cnt ts[i]), ⟨by simp only; omega, by omega, by simp only; omega, by simp only; omega⟩, by simp only; omega, by simp only; omega, ?_⟩
      rw [wrap_id (by omega) (by omega)]
      simp
     ·rw [List.drop_of_length_le (by omega)]
      simp [cntL]
   refine FuncJ.mono (K := cnPost (cnW (cnH es c left d u (n + cnt (.mk k n0 nl ts))))) ?_ fun o ho => cnPost_ok rfl ho
   rw [enc_D]
   refine FuncJ.run (el := els) (mu := mu0) (hk := cwH2 es c left d u nl ts) hmix (mkHooks_ok all_nil all_nil (all_cons hl all_nil) (by intro s hs; cases hs; exact cnRound_ok)) (n := 60) ?_
   show runF (cwH2 es c left d u (Ty.mk k n0 nl ts).nl (Ty.mk k n0 nl ts).l) 60 115 _ (cnW (cnH es c left d u n)) _
   rw [cw_top]
   simp only [eq_self, true_and, and_true, SubR_id, codeIs_self, iC, ex_enc, ex_encM, Ty.eta, tl_mk, AV.int.injEq]
   refine ⟨⟨h0, by omega⟩, (0, n + 1), ⟨by simp, by omega, by simp only; omega, by simp only [List.drop_zero]; omega⟩, rfl, rfl, ?_⟩
   simp only [List.drop_zero, cnt]
   omega
 exact key _ es c left d u n t (Nat.lt_succ_self _) hc h0 h1
theorem cwalk_hook0 : HSpec.Ok Tryz.prog g0 115 cwalkH0 := by
 intro args A K h'
 unfold cwalkH0 at h'
 split at h'
 ·obtain ⟨t, rfl, h⟩ := argTy_elim h'
  obtain ⟨es, c, left, d, u, n, ⟨h2, h3, h4⟩, h⟩ := argCn_elim h
  obtain ⟨hK, hr⟩ := FuncJ.on (n := 15) h (cwalk_ok es c left d u n t h2 h3 h4) (cnW_ok ..) (cnW_ok ..) (by simp [AV.bndL, AV.bnd, AV.still_bnd, enc_still]) rfl
  exact ⟨_, hr, hK⟩
 ·exact h'.elim
end Go.Proofs.YtnmolpkkemljoaaGreatDoor
end
end
section
namespace Kd
open Go.Am Go.Proofs.YtnmolpkkemljoaaGreatDoor
def boundM : List (Int × Ty × Nat) → Int → Option Ty
 | [], _ => none
 | x :: l, n => if n = x.1 then some x.2.1 else boundM l n
mutual
def pwT (es : List (Int × Ty × Nat)) : Ty → Ty
 | .mk k n _ l => if k = 6 ∧ (boundM es n).isSome = true then cleanT ((boundM es n).getD (varT n)) else .mk k n (nilB l) (pwL es l)
def pwL (es : List (Int × Ty × Nat)) : List Ty → List Ty
 | [] => []
 | x :: xs => pwT es x :: pwL es xs
end
def okMs (es : List (Int × Ty × Nat)) : Prop := ∀ x ∈ es, okT x.2.1 = true ∧ cnt x.2.1 ≤ 100
end Kd
noncomputable section
namespace Go.Proofs.YtnmolpkkemljoaaGreatDoor
open Go Go.Am Kd
def pwA (es : List (Int × Ty × Nat)) (c : Nat) (left : Int) : AH := ⟨pwB es c left, []⟩
def pwM (es : List (Int × Ty × Nat)) (c : Nat) (left d : Int) (u : Ty) : AH := ⟨pwB es c left ++ [tyC u, .cells [.int .i64 d] 3], []⟩
def argPw (A : AH) (K : List (Int × Ty × Nat) → Nat → Int → Prop) : Prop :=
 match nthR A.blks 0, nthR A.blks 4 with
 | some (.map m c), some (.cells [.int .i64 left] 3) => ∃ es, m = encM es ∧ K es c left
 | _, _ => False
def argPm (A : AH) (K : List (Int × Ty × Nat) → Nat → Int → Int → Ty → Prop) : Prop :=
 match nthR A.blks 0, nthR A.blks 4, nthR A.blks 6, nthR A.blks 7 with
 | some (.map m c), some (.cells [.int .i64 left] 3), some (.cells [.int .i64 k, .int .i64 q, .isl b none 0 xs] 24), some (.cells [.int .i64 d] 3) => ∃ es, m = encM es ∧ ∃ l, xs = encL l ∧ K es c left d (.mk k q b l)
 | _, _, _, _ => False
def pwalkH (N : Nat) : HSpec := fun args A K =>
 match args with
 | [t, .int .i64 _, .ptr 1 0, .ptr 4 0, .ptr 5 0] => argTy t fun t => argPw A fun es c left => (SizeOf.sizeOf t < N ∧ okT t = true ∧ okMs es ∧ (cnt (pwT es t) : Int) ≤ left ∧ left ≤ 1000) ∧ onR 0 A (pwA es c left) (K ⟨.returned (encD (pwT es t)), (pwA es c (left - cnt (pwT es t))).onto A⟩)
 | _ => False
def pmapH (N : Nat) : HSpec := fun args A K =>
 match args with
 | [.isl _ none 0 xs, .fn (.func 119) [] [.ptr 5 0, .ptr 7 0]] => ∃ l, xs = encL l ∧ argPm A fun es c left d u => (SizeOf.sizeOf l < N ∧ (l.length ≤ 2 ∧ okL l = true) ∧ okMs es ∧ (cntL (pwL es l) : Int) ≤ left ∧ left ≤ 1000) ∧ onR 0 A (pwM es c left d u) (K ⟨.returned (.isl (nilB l) none 0 (encL (pwL es l))), (pwM es c (left - cntL (pwL es l)) d u).onto A⟩)
 | _ => False
def pmHk (N : Nat) : Hooks := mkHooks Tryz.prog [] [(118, pwalkH N)] []
def pwHk (N : Nat) : Hooks := mkHooks Tryz.prog [(68, kclQ0), (80, partsQ)] [(115, cwalkH0), (103, pmapH N)] []
end Go.Proofs.YtnmolpkkemljoaaGreatDoor
end
end
section
noncomputable section
namespace Go.Proofs.YtnmolpkkemljoaaGreatDoor
open Go Go.Am Kd Go.Am.AV Go.IntKind
set_option maxRecDepth 100000
theorem pm_top0 (es : List (Int × Ty × Nat)) (c : Nat) (left d left' : Int) (u : Ty) (b : Bool) (N : Nat) (r : List Ty) (rb : Bool) : (runF (pmHk N) 60 103 [.isl b none 0 [], .fn (.func 119) [] [.ptr 5 0, .ptr 7 0]] (pwM es c left d u) (hpFz Tryz.prog 8 0 5 (.returned (.isl rb none 0 (encL r))) (pwM es c left' d u))) = ( AEnd.returned (isl true none (0) []) = AEnd.returned (isl rb none (0) (encL r)) ∧ encM es = encM es ∧ c = c ∧ 74 = 74 ∧ SubR [AV.map (0)] [AV.map (0)] (24 = 24 ∧ 24 = 24 ∧ 3 = 3 ∧ int i64 left = int i64 left' ∧ 145 = 145 ∧ SubR
 [AV.fn (Fn.func (118)) [] [ptr (1) (0), ptr (4) (0), ptr (5) (0)]] [AV.fn (Fn.func (118)) [] [ptr (1) (0), ptr (4) (0), ptr (5) (0)]] (24 = 24 ∧ int i64 (Ty.kind u) = int i64 (Ty.kind u) ∧ int i64 (Ty.n u) = int i64 (Ty.n u) ∧ isl (Ty.nl u) none (0) (encL (Ty.l u)) = isl (Ty.nl u) none (0) (encL (Ty.l u)) ∧ 3 = 3 ∧ int i64 d = int i64 d ∧ 0 = 0 ∧ True))) := by kernel_rfl
theorem pm_top1 (es : List (Int × Ty × Nat)) (c : Nat) (left d left' : Int) (u : Ty) (b : Bool) (x : Ty) (N : Nat) (r : List Ty) (rb : Bool) : (runF (pmHk N) 60 103 [.isl b none 0 [encD x], .fn (.func 119) [] [.ptr 5 0, .ptr 7 0]] (pwM es c left d u) (hpFz Tryz.prog 8 0 5 (.returned (.isl rb none 0 (encL r))) (pwM es c left' d u))) = ( ∃ l, encL (Ty.l x) = encL l ∧ ∃ es_1, encM es = encM es_1 ∧ (SizeOf.sizeOf (Ty.mk (Ty.kind x) (Ty.n x) (Ty.nl x) l) < N ∧
 okT (Ty.mk (Ty.kind x) (Ty.n x) (Ty.nl x) l) = true ∧ okMs es_1 ∧ iC (cnt (pwT es_1 (Ty.mk (Ty.kind x) (Ty.n x) (Ty.nl x) l))) ≤ left ∧ left ≤ 1000) ∧ encM es = encM es_1 ∧ c = c ∧ 74 = 74 ∧ SubR [AV.map (0)] [AV.map (0)] (24 = 24 ∧ 24 = 24 ∧ 3 = 3 ∧ int i64 left = int i64 left ∧ 145 = 145 ∧ SubR [AV.fn (Fn.func (118)) [] [ptr (1) (0), ptr (4) (0), ptr (5) (0)]] [AV.fn (Fn.func (118)) [] [ptr (1) (0), ptr (4) (0), ptr (5) (0)]] (0 = 0 ∧ AEnd.returned (isl false none (0) [agg
 [int i64 (Ty.kind (pwT es_1 (Ty.mk (Ty.kind x) (Ty.n x) (Ty.nl x) l))), int i64 (Ty.n (pwT es_1 (Ty.mk (Ty.kind x) (Ty.n x) (Ty.nl x) l))), isl (Ty.nl (pwT es_1 (Ty.mk (Ty.kind x) (Ty.n x) (Ty.nl x) l))) none (0) (encL (Ty.l (pwT es_1 (Ty.mk (Ty.kind x) (Ty.n x) (Ty.nl x) l))))]]) = AEnd.returned (isl rb none (0) (encL r)) ∧ encM es_1 = encM es ∧ c = c ∧ 74 = 74 ∧ SubR [AV.map (0)] [AV.map (0)] (24 = 24 ∧ 24 = 24 ∧ 3 = 3 ∧ int i64 (left - iC (cnt (pwT es_1 (Ty.mk (Ty.kind x) (Ty.n x) (Ty.nl x) l)))) = int i64 left' ∧ 145 = 145 ∧ SubR
 [AV.fn (Fn.func (118)) [] [ptr (1) (0), ptr (4) (0), ptr (5) (0)]] [AV.fn (Fn.func (118)) [] [ptr (1) (0), ptr (4) (0), ptr (5) (0)]] (24 = 24 ∧ int i64 (Ty.kind u) = int i64 (Ty.kind u) ∧ int i64 (Ty.n u) = int i64 (Ty.n u) ∧ isl (Ty.nl u) none (0) (encL (Ty.l u)) = isl (Ty.nl u) none (0) (encL (Ty.l u)) ∧ 3 = 3 ∧ int i64 d = int i64 d ∧ 0 = 0 ∧ True))))) := by kernel_rfl
theorem pm_top2 (es : List (Int × Ty × Nat)) (c : Nat) (left d left' : Int) (u : Ty) (b : Bool) (x y : Ty) (N : Nat) (r : List Ty) (rb : Bool) : (runF (pmHk N) 60 103 [.isl b none 0 [encD x, encD y], .fn (.func 119) [] [.ptr 5 0, .ptr 7 0]] (pwM es c left d u) (hpFz Tryz.prog 8 0 5 (.returned (.isl rb none 0 (encL r))) (pwM es c left' d u))) = ( ∃ l, encL (Ty.l x) = encL l ∧ ∃ es_1, encM es = encM es_1 ∧ (SizeOf.sizeOf (Ty.mk (Ty.kind x) (Ty.n x) (Ty.nl x) l) < N ∧
 okT (Ty.mk (Ty.kind x) (Ty.n x) (Ty.nl x) l) = true ∧ okMs es_1 ∧ iC (cnt (pwT es_1 (Ty.mk (Ty.kind x) (Ty.n x) (Ty.nl x) l))) ≤ left ∧ left ≤ 1000) ∧ encM es = encM es_1 ∧ c = c ∧ 74 = 74 ∧ SubR [AV.map (0)] [AV.map (0)] (24 = 24 ∧ 24 = 24 ∧ 3 = 3 ∧ int i64 left = int i64 left ∧ 145 = 145 ∧ SubR [AV.fn (Fn.func (118)) [] [ptr (1) (0), ptr (4) (0), ptr (5) (0)]] [AV.fn (Fn.func (118)) [] [ptr (1) (0), ptr (4) (0), ptr (5) (0)]] (0 = 0 ∧ ∃ l_1, encL (Ty.l y) = encL l_1 ∧ ∃ es_2, encM es_1 = encM es_2 ∧
 (SizeOf.sizeOf (Ty.mk (Ty.kind y) (Ty.n y) (Ty.nl y) l_1) < N ∧ okT (Ty.mk (Ty.kind y) (Ty.n y) (Ty.nl y) l_1) = true ∧ okMs es_2 ∧ iC (cnt (pwT es_2 (Ty.mk (Ty.kind y) (Ty.n y) (Ty.nl y) l_1))) ≤ left - iC (cnt (pwT es_1 (Ty.mk (Ty.kind x) (Ty.n x) (Ty.nl x) l))) ∧ left - iC (cnt (pwT es_1 (Ty.mk (Ty.kind x) (Ty.n x) (Ty.nl x) l))) ≤ 1000) ∧ encM es_1 = encM es_2 ∧ c = c ∧ 74 = 74 ∧ SubR [AV.map (0)] [AV.map (0)] (24 = 24 ∧ 24 = 24 ∧ 3 = 3 ∧ int i64 (left - iC (cnt (pwT es_1 (Ty.mk (Ty.kind x) (Ty.n x) (Ty.nl x) l)))) =
 int i64 (left - iC (cnt (pwT es_1 (Ty.mk (Ty.kind x) (Ty.n x) (Ty.nl x) l)))) ∧ 145 = 145 ∧ SubR [AV.fn (Fn.func (118)) [] [ptr (1) (0), ptr (4) (0), ptr (5) (0)]] [AV.fn (Fn.func (118)) [] [ptr (1) (0), ptr (4) (0), ptr (5) (0)]] (0 = 0 ∧ AEnd.returned (isl false none (0) [agg [int i64 (Ty.kind (pwT es_1 (Ty.mk (Ty.kind x) (Ty.n x) (Ty.nl x) l))), int i64 (Ty.n (pwT es_1 (Ty.mk (Ty.kind x) (Ty.n x) (Ty.nl x) l))), isl (Ty.nl (pwT es_1 (Ty.mk (Ty.kind x) (Ty.n x) (Ty.nl x) l))) none (0)
 (encL (Ty.l (pwT es_1 (Ty.mk (Ty.kind x) (Ty.n x) (Ty.nl x) l))))], agg [int i64 (Ty.kind (pwT es_2 (Ty.mk (Ty.kind y) (Ty.n y) (Ty.nl y) l_1))), int i64 (Ty.n (pwT es_2 (Ty.mk (Ty.kind y) (Ty.n y) (Ty.nl y) l_1))), isl (Ty.nl (pwT es_2 (Ty.mk (Ty.kind y) (Ty.n y) (Ty.nl y) l_1))) none (0) (encL (Ty.l (pwT es_2 (Ty.mk (Ty.kind y) (Ty.n y) (Ty.nl y) l_1))))]]) = AEnd.returned (isl rb none (0) (encL r)) ∧ encM es_2 = encM es ∧ c = c ∧ 74 = 74 ∧ SubR [AV.map (0)] [AV.map (0)] (24 = 24 ∧ 24 = 24 ∧ 3 = 3 ∧ int i64
 (left - iC (cnt (pwT es_1 (Ty.mk (Ty.kind x) (Ty.n x) (Ty.nl x) l))) - iC (cnt (pwT es_2 (Ty.mk (Ty.kind y) (Ty.n y) (Ty.nl y) l_1)))) = int i64 left' ∧ 145 = 145 ∧ SubR [AV.fn (Fn.func (118)) [] [ptr (1) (0), ptr (4) (0), ptr (5) (0)]] [AV.fn (Fn.func (118)) [] [ptr (1) (0), ptr (4) (0), ptr (5) (0)]] (24 = 24 ∧ int i64 (Ty.kind u) = int i64 (Ty.kind u) ∧ int i64 (Ty.n u) = int i64 (Ty.n u) ∧ isl (Ty.nl u) none (0) (encL (Ty.l u)) = isl (Ty.nl u) none (0) (encL (Ty.l u)) ∧ 3 = 3 ∧
 int i64 d = int i64 d ∧ 0 = 0 ∧ True))))))) := by kernel_rfl
theorem pw_top (es : List (Int × Ty × Nat)) (c : Nat) (left d left' : Int) (t : Ty) (N : Nat) (r : Ty) : (runF (pwHk N) 60 118 [encD t, .int .i64 d, .ptr 1 0, .ptr 4 0, .ptr 5 0] (pwA es c left) (hpIs 0 (.returned (encD r)) (pwA es c left'))) = ( keyFind (int i64 (Ty.n t)) (encM es) 0 = some none ∧ bothR (!decide ((0 : Int) ≤ IntKind.wrap IntKind.i64 (left - (1 : Int)))) (AEnd.panicked [(AV.iface (117) (agg [int i64 (9)]), false)] = AEnd.returned (agg [int i64 (Ty.kind r), int i64 (Ty.n r), isl (Ty.nl r) none (0) (encL (Ty.l r))]) ∧
 encM es = encM es ∧ c = c ∧ 74 = 74 ∧ SubR [AV.map (0)] [AV.map (0)] (24 = 24 ∧ 24 = 24 ∧ 3 = 3 ∧ int i64 (IntKind.wrap IntKind.i64 (left - (1 : Int))) = int i64 left' ∧ 145 = 145 ∧ SubR [AV.fn (Fn.func (118)) [] [ptr (1) (0), ptr (4) (0), ptr (5) (0)]] [AV.fn (Fn.func (118)) [] [ptr (1) (0), ptr (4) (0), ptr (5) (0)]] (0 = 0 ∧ True))) (∃ l, encL (Ty.l t) = encL l ∧ ∃ es_1, encM es = encM es_1 ∧ ∃ l_1, encL (Ty.l t) = encL l_1 ∧ (SizeOf.sizeOf l < N ∧ (List.length l ≤ 2 ∧ okL l = true) ∧ okMs es_1 ∧
 iC (cntL (pwL es_1 l)) ≤ IntKind.wrap IntKind.i64 (left - (1 : Int)) ∧ IntKind.wrap IntKind.i64 (left - (1 : Int)) ≤ 1000) ∧ encM es = encM es_1 ∧ c = c ∧ 74 = 74 ∧ SubR [AV.map (0)] [AV.map (0)] (24 = 24 ∧ 24 = 24 ∧ 3 = 3 ∧ int i64 (IntKind.wrap IntKind.i64 (left - (1 : Int))) = int i64 (IntKind.wrap IntKind.i64 (left - (1 : Int))) ∧ 145 = 145 ∧ SubR [AV.fn (Fn.func (118)) [] [ptr (1) (0), ptr (4) (0), ptr (5) (0)]] [AV.fn (Fn.func (118)) [] [ptr (1) (0), ptr (4) (0), ptr (5) (0)]] (24 = 24 ∧
 int i64 (Ty.kind t) = int i64 (Ty.kind t) ∧ int i64 (Ty.n t) = int i64 (Ty.n t) ∧ isl (Ty.nl t) none (0) (encL (Ty.l t)) = isl (Ty.nl t) none (0) (encL l_1) ∧ 3 = 3 ∧ int i64 d = int i64 d ∧ 0 = 0 ∧ ptr (6) (0) = ptr (6) (0) ∧ int i64 (Ty.kind t) = int i64 (Ty.kind t) ∧ ptr (6) (1) = ptr (6) (1) ∧ int i64 (Ty.n t) = int i64 (Ty.n t) ∧ AEnd.returned (agg [int i64 (Ty.kind t), int i64 (Ty.n t), isl (nilB l) none (0) (encL (pwL es_1 l))]) =
 AEnd.returned (agg [int i64 (Ty.kind r), int i64 (Ty.n r), isl (Ty.nl r) none (0) (encL (Ty.l r))]) ∧ encM es_1 = encM es ∧ c = c ∧ 74 = 74 ∧ SubR [AV.map (0)] [AV.map (0)] (24 = 24 ∧ 24 = 24 ∧ 3 = 3 ∧ int i64 (IntKind.wrap IntKind.i64 (left - (1 : Int)) - iC (cntL (pwL es_1 l))) = int i64 left' ∧ 145 = 145 ∧ SubR [AV.fn (Fn.func (118)) [] [ptr (1) (0), ptr (4) (0), ptr (5) (0)]] [AV.fn (Fn.func (118)) [] [ptr (1) (0), ptr (4) (0), ptr (5) (0)]] (0 = 0 ∧ True))))) ∨ ∃ j x, keyFind (int i64 (Ty.n t)) (encM es) 0 =
 some (some (j, agg [int i64 (Ty.kind x), int i64 (Ty.n x), isl (Ty.nl x) none (0) (encL (Ty.l x))])) ∧ bothR (decide (Ty.kind t = (6 : Int))) (∃ l, encL (Ty.l x) = encL l ∧ ∃ l_1, encL l = encL l_1 ∧ ∃ es_1, encM es = encM es_1 ∧ ∃ l, encL (Ty.l x) = encL l ∧ (cnt (Ty.mk (Ty.kind x) (Ty.n x) (Ty.nl x) l_1) ≤ 1000 ∧ Int.NonNeg (0) ∧ (0 : Int) + iC (cnt (Ty.mk (Ty.kind x) (Ty.n x) (Ty.nl x) l_1)) ≤ 1000) ∧ encM es = encM es_1 ∧ c = c ∧ 74 = 74 ∧ SubR [AV.map (0)] [AV.map (0)] (24 = 24 ∧ 24 = 24 ∧ 3 = 3 ∧ int i64 left = int i64 left ∧ 145 = 145 ∧
 SubR [AV.fn (Fn.func (118)) [] [ptr (1) (0), ptr (4) (0), ptr (5) (0)]] [AV.fn (Fn.func (118)) [] [ptr (1) (0), ptr (4) (0), ptr (5) (0)]] (24 = 24 ∧ 3 = 3 ∧ int i64 d = int i64 d ∧ 24 = 24 ∧ 24 = 24 ∧ int i64 (Ty.kind x) = int i64 (Ty.kind x) ∧ int i64 (Ty.n x) = int i64 (Ty.n x) ∧ isl (Ty.nl x) none (0) (encL (Ty.l x)) = isl (Ty.nl x) none (0) (encL l) ∧ 3 = 3 ∧ SubR [int i64 (0)] [int i64 (0)] ((LoopState.ready = LoopState.ready ∧ (none : Option Code) = none ∧
 ((Array.mk (α := Nat) [26]), rA (76) (1), rB (118) (0)) = ((Array.mk (α := Nat) [26]), rA (76) (1), rB (118) (0)) ∧ 11 = 11) ∧ ptr (10) (0) = ptr (10) (0) ∧ 42 = 42 ∧ SubR [AV.fn (Fn.yield (12)) [] []] [AV.fn (Fn.yield (12)) [] []] (42 = 42 ∧ SubR [AV.fn (Fn.func (115)) [] [ptr (13) (0), ptr (14) (0)]] [AV.fn (Fn.func (115)) [] [ptr (13) (0), ptr (14) (0)]] (0 = 0 ∧ bothR (!decide ((0 : Int) ≤ IntKind.wrap IntKind.i64 (left - ((0 : Int) + iC (cnt (Ty.mk (Ty.kind x) (Ty.n x) (Ty.nl x) l_1)))))) (AEnd.panicked [(AV.iface (117) (agg [int i64 (9)]), false)] =
 AEnd.returned (agg [int i64 (Ty.kind r), int i64 (Ty.n r), isl (Ty.nl r) none (0) (encL (Ty.l r))]) ∧ encM es_1 = encM es ∧ c = c ∧ 74 = 74 ∧ SubR [AV.map (0)] [AV.map (0)] (24 = 24 ∧ 24 = 24 ∧ 3 = 3 ∧ int i64 (IntKind.wrap IntKind.i64 (left - ((0 : Int) + iC (cnt (Ty.mk (Ty.kind x) (Ty.n x) (Ty.nl x) l_1))))) = int i64 left' ∧ 145 = 145 ∧ SubR [AV.fn (Fn.func (118)) [] [ptr (1) (0), ptr (4) (0), ptr (5) (0)]] [AV.fn (Fn.func (118)) [] [ptr (1) (0), ptr (4) (0), ptr (5) (0)]] (0 = 0 ∧ True))) (∃ l_2, encL l = encL l_2 ∧
 okT (Ty.mk (Ty.kind x) (Ty.n x) (Ty.nl x) l_2) = true ∧ AEnd.returned (agg [int i64 (Ty.kind (cleanT (Ty.mk (Ty.kind x) (Ty.n x) (Ty.nl x) l_2))), int i64 (Ty.n (cleanT (Ty.mk (Ty.kind x) (Ty.n x) (Ty.nl x) l_2))), isl (Ty.nl (cleanT (Ty.mk (Ty.kind x) (Ty.n x) (Ty.nl x) l_2))) none (0) (encL (Ty.l (cleanT (Ty.mk (Ty.kind x) (Ty.n x) (Ty.nl x) l_2))))]) = AEnd.returned (agg [int i64 (Ty.kind r), int i64 (Ty.n r), isl (Ty.nl r) none (0) (encL (Ty.l r))]) ∧ encM es_1 = encM es ∧ c = c ∧ 74 = 74 ∧ SubR [AV.map (0)] [AV.map (0)] (24 = 24 ∧
 24 = 24 ∧ 3 = 3 ∧ int i64 (IntKind.wrap IntKind.i64 (left - ((0 : Int) + iC (cnt (Ty.mk (Ty.kind x) (Ty.n x) (Ty.nl x) l_1))))) = int i64 left' ∧ 145 = 145 ∧ SubR [AV.fn (Fn.func (118)) [] [ptr (1) (0), ptr (4) (0), ptr (5) (0)]] [AV.fn (Fn.func (118)) [] [ptr (1) (0), ptr (4) (0), ptr (5) (0)]] (0 = 0 ∧ True))))))))) (bothR (!decide ((0 : Int) ≤ IntKind.wrap IntKind.i64 (left - (1 : Int)))) (AEnd.panicked [(AV.iface (117) (agg [int i64 (9)]), false)] =
 AEnd.returned (agg [int i64 (Ty.kind r), int i64 (Ty.n r), isl (Ty.nl r) none (0) (encL (Ty.l r))]) ∧ encM es = encM es ∧ c = c ∧ 74 = 74 ∧ SubR [AV.map (0)] [AV.map (0)] (24 = 24 ∧ 24 = 24 ∧ 3 = 3 ∧ int i64 (IntKind.wrap IntKind.i64 (left - (1 : Int))) = int i64 left' ∧ 145 = 145 ∧ SubR [AV.fn (Fn.func (118)) [] [ptr (1) (0), ptr (4) (0), ptr (5) (0)]] [AV.fn (Fn.func (118)) [] [ptr (1) (0), ptr (4) (0), ptr (5) (0)]] (0 = 0 ∧ True))) (∃ l, encL (Ty.l t) = encL l ∧ ∃ es_1, encM es = encM es_1 ∧ ∃ l_1,
 encL (Ty.l t) = encL l_1 ∧ (SizeOf.sizeOf l < N ∧ (List.length l ≤ 2 ∧ okL l = true) ∧ okMs es_1 ∧ iC (cntL (pwL es_1 l)) ≤ IntKind.wrap IntKind.i64 (left - (1 : Int)) ∧ IntKind.wrap IntKind.i64 (left - (1 : Int)) ≤ 1000) ∧ encM es = encM es_1 ∧ c = c ∧ 74 = 74 ∧ SubR [AV.map (0)] [AV.map (0)] (24 = 24 ∧ 24 = 24 ∧ 3 = 3 ∧ int i64 (IntKind.wrap IntKind.i64 (left - (1 : Int))) = int i64 (IntKind.wrap IntKind.i64 (left - (1 : Int))) ∧ 145 = 145 ∧ SubR [AV.fn (Fn.func (118)) [] [ptr (1) (0), ptr (4) (0), ptr (5) (0)]] [AV.fn (Fn.func (118)) []
 [ptr (1) (0), ptr (4) (0), ptr (5) (0)]] (24 = 24 ∧ int i64 (Ty.kind t) = int i64 (Ty.kind t) ∧ int i64 (Ty.n t) = int i64 (Ty.n t) ∧ isl (Ty.nl t) none (0) (encL (Ty.l t)) = isl (Ty.nl t) none (0) (encL l_1) ∧ 3 = 3 ∧ int i64 d = int i64 d ∧ 0 = 0 ∧ ptr (6) (0) = ptr (6) (0) ∧ int i64 (Ty.kind t) = int i64 (Ty.kind t) ∧ ptr (6) (1) = ptr (6) (1) ∧ int i64 (Ty.n t) = int i64 (Ty.n t) ∧ AEnd.returned (agg
 [int i64 (Ty.kind t), int i64 (Ty.n t), isl (nilB l) none (0) (encL (pwL es_1 l))]) = AEnd.returned (agg [int i64 (Ty.kind r), int i64 (Ty.n r), isl (Ty.nl r) none (0) (encL (Ty.l r))]) ∧ encM es_1 = encM es ∧ c = c ∧ 74 = 74 ∧ SubR [AV.map (0)] [AV.map (0)] (24 = 24 ∧ 24 = 24 ∧ 3 = 3 ∧ int i64 (IntKind.wrap IntKind.i64 (left - (1 : Int)) - iC (cntL (pwL es_1 l))) = int i64 left' ∧ 145 = 145 ∧ SubR [AV.fn (Fn.func (118)) [] [ptr (1) (0), ptr (4) (0), ptr (5) (0)]] [AV.fn (Fn.func (118)) []
 [ptr (1) (0), ptr (4) (0), ptr (5) (0)]] (0 = 0 ∧ True))))))) := by kernel_rfl
end Go.Proofs.YtnmolpkkemljoaaGreatDoor
end
end
section
set_option maxRecDepth 100000
set_option linter.unusedSimpArgs false
set_option linter.unusedVariables false
noncomputable section
namespace Go.Proofs.YtnmolpkkemljoaaGreatDoor
open Go Go.Am Kd
theorem BlkR_self {x : ABlk} {R : Prop} (h : R) : BlkR x x R := by
 cases x <;> simp only [BlkR, true_and, and_self] <;> first
  | exact h
  | exact SubR_self h
theorem BlksR_self : ∀ {xs : List ABlk} {R : Prop}, R → BlksR xs xs R
 | [], _, h => by simpa [BlksR] using h
 | x :: xs, _, h => by
  simp only [BlksR]
  exact BlkR_self (BlksR_self h)
theorem hpIs_self {nf : Nat} {e : AEnd} {A : AH} (h : A.fams.length = nf) : hpIs nf e A ⟨e, A⟩ := by
 refine ⟨rfl, BlksR_self ?_⟩
 unfold FamR
 split
 ·rename_i h1
  rw [h1] at h
  exact ⟨h.symm, trivial⟩
 ·exact ⟨by rw [← h, List.take_length], trivial⟩
theorem keyFind_none {es : List (Int × Ty × Nat)} {n : Int} (h : boundM es n = none) : ∀ i, keyFind (.int .i64 n) (encM es) i = some none := by
 induction es with
 | nil => intro i; rfl
 | cons x l ih =>
  intro i
  simp only [boundM] at h
  split at h
  ·cases h
  ·rename_i hne
   simp only [encM, List.map_cons, entM, keyFind, keyEq, if_true, decide_eq_false hne]
   exact ih h (i + 1)
theorem keyFind_some {es : List (Int × Ty × Nat)} {n : Int} {u : Ty} (h : boundM es n = some u) : ∀ i, ∃ j, keyFind (.int .i64 n) (encM es) i = some (some (j, encD u)) := by
 induction es with
 | nil => cases h
 | cons x l ih =>
  intro i
  simp only [boundM] at h
  split at h
  ·rename_i he
   cases h
   refine ⟨i, ?_⟩
   simp only [encM, List.map_cons, entM, keyFind, keyEq, if_true, decide_eq_true he]
  ·rename_i hne
   obtain ⟨j, hj⟩ := ih h (i + 1)
   refine ⟨j, ?_⟩
   simp only [encM, List.map_cons, entM, keyFind, keyEq, if_true, decide_eq_false hne]
   exact hj
theorem boundM_mem {es : List (Int × Ty × Nat)} {n : Int} {u : Ty} (h : boundM es n = some u) : ∃ x ∈ es, x.2.1 = u := by
 induction es with
 | nil => cases h
 | cons x l ih =>
  simp only [boundM] at h
  split at h
  ·cases h; exact ⟨x, by simp, rfl⟩
  ·obtain ⟨y, h1, h2⟩ := ih h
   exact ⟨y, by simp [h1], h2⟩
theorem cnt_clean : ∀ t, cnt (cleanT t) = cnt t := by
 have key : ∀ (N : Nat), (∀ t, SizeOf.sizeOf t < N → cnt (cleanT t) = cnt t) ∧ ∀ l, SizeOf.sizeOf l < N → cntL (cleanL l) = cntL l := by
  intro N
  induction N with
  | zero => exact ⟨fun _ h => by omega, fun _ h => by omega⟩
  | succ N ih =>
   obtain ⟨ih1, ih2⟩ := ih
   constructor
   ·intro t ht
    cases t with
    | mk k n b l =>
     simp only [Ty.mk.sizeOf_spec] at ht
     simp only [cleanT, cnt, ih2 l (by omega)]
   ·intro l hl
    cases l with
    | nil => rfl
    | cons x xs =>
     simp only [List.cons.sizeOf_spec] at hl
     simp only [cleanL, cntL, ih1 x (by omega), ih2 xs (by omega)]
 exact fun t => (key (SizeOf.sizeOf t + 1)).1 t (by omega)
def PWalkJ (es : List (Int × Ty × Nat)) (c : Nat) (left d : Int) (t : Ty) : Prop := FJ 118 [enc t, .int .i64 d, .ptr 1 0, .ptr 4 0, .ptr 5 0] (pwA es c left) (hpIs 0 (.returned (encD (pwT es t))) (pwA es c (left - cnt (pwT es t))))
def PMapJ (es : List (Int × Ty × Nat)) (c : Nat) (left d : Int) (u : Ty) (b : Bool) (l : List Ty) : Prop :=
 FJ 103 [.isl b none 0 (encL l), .fn (.func 119) [] [.ptr 5 0, .ptr 7 0]] (pwM es c left d u) (hpIs 0 (.returned (.isl (nilB l) none 0 (encL (pwL es l)))) (pwM es c (left - cntL (pwL es l)) d u))
theorem pwA_ok (es : List (Int × Ty × Nat)) (c : Nat) (left : Int) : (pwA es c left).ok 6 0 = true := by
 simp [AH.ok, pwA, pwB, top3, ABlk.bnd, AV.bnd, AV.bndL, encM_bnd]
theorem pwM_ok (es : List (Int × Ty × Nat)) (c : Nat) (left d : Int) (u : Ty) : (pwM es c left d u).ok 8 0 = true := by
 simp [AH.ok, pwM, pwB, top3, tyC, ABlk.bnd, AV.bnd, AV.bndL, encM_bnd, encL_bnd]
theorem argPw_elim {A : AH} {K : List (Int × Ty × Nat) → Nat → Int → Prop} (h : argPw A K) : ∃ es c left, K es c left := by
 unfold argPw at h
 split at h
 ·obtain ⟨es, _, h⟩ := h
  exact ⟨es, _, _, h⟩
 ·exact h.elim
theorem argPm_elim {A : AH} {K : List (Int × Ty × Nat) → Nat → Int → Int → Ty → Prop} (h : argPm A K) : ∃ es c left d u, K es c left d u := by
 unfold argPm at h
 split at h
 ·obtain ⟨es, _, l, _, h⟩ := h
  exact ⟨es, _, _, _, _, h⟩
 ·exact h.elim
theorem pwalk_hook {N : Nat} (ih : ∀ (es : List (Int × Ty × Nat)) (c : Nat) (left d : Int) (t : Ty), SizeOf.sizeOf t < N → okT t = true → okMs es → (cnt (pwT es t) : Int) ≤ left → left ≤ 1000 → PWalkJ es c left d t) : HSpec.Ok Tryz.prog g0 118 (pwalkH N) := by
 intro args A K h'
 unfold pwalkH at h'
 split at h'
 ·obtain ⟨t, rfl, h⟩ := argTy_elim h'
  obtain ⟨es, c, left, ⟨h1, h2, h3, h4, h5⟩, h⟩ := argPw_elim h
  obtain ⟨hK, hr⟩ := FuncJ.on (n := 6) h (ih es c left _ t h1 h2 h3 h4 h5) (pwA_ok ..) (pwA_ok ..) (by simp [AV.bndL, AV.bnd, AV.still_bnd, enc_still]) (by simp [AEnd.bnd, AV.still_bnd, encD_still])
  exact ⟨_, hr, hK⟩
 ·exact h'.elim
theorem pmap_hook {N : Nat} (ih : ∀ (es : List (Int × Ty × Nat)) (c : Nat) (left d : Int) (u : Ty) (b : Bool) (l : List Ty), SizeOf.sizeOf l < N → l.length ≤ 2 → okL l = true → okMs es → (cntL (pwL es l) : Int) ≤ left → left ≤ 1000 → PMapJ es c left d u b l) : HSpec.Ok Tryz.prog g0 103 (pmapH N) := by
 intro args A K h'
 unfold pmapH at h'
 split at h'
 ·obtain ⟨l, rfl, h⟩ := h'
  obtain ⟨es, c, left, d, u, ⟨h1, ⟨h2, h6⟩, h3, h4, h5⟩, h⟩ := argPm_elim h
  obtain ⟨hK, hr⟩ := FuncJ.on (n := 8) h (ih es c left d u _ l h1 h2 h6 h3 h4 h5) (pwM_ok ..) (pwM_ok ..) (by simp [AV.bndL, AV.bnd, encL_bnd]) (by simp [AEnd.bnd, AV.bnd, encL_bnd])
  exact ⟨_, hr, hK⟩
 ·exact h'.elim
theorem pmap_ok {N : Nat} (ih : ∀ (es : List (Int × Ty × Nat)) (c : Nat) (left d : Int) (t : Ty), SizeOf.sizeOf t < N → okT t = true → okMs es → (cnt (pwT es t) : Int) ≤ left → left ≤ 1000 → PWalkJ es c left d t)
  (es : List (Int × Ty × Nat)) (c : Nat) (left d : Int) (u : Ty) (b : Bool) (l : List Ty) (hN : SizeOf.sizeOf l ≤ N) (h2 : l.length ≤ 2) (ho : okL l = true) (hm : okMs es) (hle : (cntL (pwL es l) : Int) ≤ left) (hle2 : left ≤ 1000) : PMapJ es c left d u b l := by
 have hh : Hooks.Ok Tryz.prog g0 (pmHk N) := mkHooks_ok all_nil (all_cons (pwalk_hook ih) all_nil) all_nil
 refine FuncJ.mono (K := fun o => o = ⟨.returned (.isl (nilB l) none 0 (encL (pwL es l))), pwM es c (left - cntL (pwL es l)) d u⟩) ?_ fun o ho => by subst ho; exact hpIs_self rfl
 have hok := pwM_ok es c (left - cntL (pwL es l)) d u
 simp only [AH.ok, Bool.and_eq_true, decide_eq_true_eq] at hok
 refine FuncJ.fz (n := 8) (nf := 0) (k := 5) ?_ hok.1 hok.2.1 (Nat.le_refl _) (Nat.le_refl _) hok.2.2.1 (by simp [AEnd.bnd, AV.bnd, encL_bnd])
 refine FuncJ.run (el := els) (mu := mu0) (hk := pmHk N) hmix hh (n := 60) ?_
 match l, h2, ho, hN, hle with
 | [], _, _, _, _ =>
  show runF (pmHk N) 60 103 [.isl b none 0 [], .fn (.func 119) [] [.ptr 5 0, .ptr 7 0]] (pwM es c left d u) _
  rw [pm_top0]
  simp only [eq_self, true_and, and_true, SubR_id, ex_encM, ex_enc, Ty.eta]
  refine ⟨rfl, ?_⟩
  simp [pwL, cntL]
 | [x], _, ho, hN, hle =>
  have e : encL [x] = [encD x] := by simp only [encL, enc_D]
  rw [e]
  show runF (pmHk N) 60 103 [.isl b none 0 [encD x], .fn (.func 119) [] [.ptr 5 0, .ptr 7 0]] (pwM es c left d u) _
  rw [pm_top1]
  simp only [List.cons.sizeOf_spec] at hN
  simp only [pwL, cntL] at hle
  simp only [eq_self, true_and, and_true, SubR_id, ex_encM, ex_enc, Ty.eta, encL_sing]
  refine ⟨⟨by omega, okL_mem ho x (by simp), hm, by simpa using hle, hle2⟩, rfl, ?_⟩
  simp [pwL, cntL]
 | [x, y], _, ho, hN, hle =>
  have e : encL [x, y] = [encD x, encD y] := by simp only [encL, enc_D]
  rw [e]
  show runF (pmHk N) 60 103 [.isl b none 0 [encD x, encD y], .fn (.func 119) [] [.ptr 5 0, .ptr 7 0]] (pwM es c left d u) _
  rw [pm_top2]
  simp only [List.cons.sizeOf_spec] at hN
  simp only [pwL, cntL, Nat.add_zero, Int.natCast_add] at hle
  have e2 : ∀ u v : Ty, [AV.agg [.int .i64 u.kind, .int .i64 u.n, .isl u.nl none 0 (encL u.l)], AV.agg [.int .i64 v.kind, .int .i64 v.n, .isl v.nl none 0 (encL v.l)]] = encL [u, v] := fun u v => by
   simp only [encL, enc_D]; rfl
  simp only [eq_self, true_and, and_true, SubR_id, ex_encM, ex_enc, Ty.eta, e2, iC]
  refine ⟨⟨by omega, okL_mem ho x (by simp), hm, by omega, hle2⟩, ⟨by omega, okL_mem ho y (by simp), hm, by omega, by omega⟩, rfl, ?_⟩
  simp only [pwL, cntL, Nat.add_zero, Int.natCast_add, AV.int.injEq, true_and]
  omega
theorem okL_of {k n : Int} {b : Bool} {l : List Ty} (h : okT (.mk k n b l) = true) : l.length ≤ 2 ∧ okL l = true := by
 refine ⟨?_, (ok_node h).2⟩
 rcases parts_cases h with rfl | ⟨x, rfl, _⟩ | ⟨x, y, rfl, _⟩ <;> simp
theorem pwalk_ok (es : List (Int × Ty × Nat)) (c : Nat) (left d : Int) (t : Ty) (ho : okT t = true) (hm : okMs es) (hle : (cnt (pwT es t) : Int) ≤ left) (hle2 : left ≤ 1000) : PWalkJ es c left d t := by
 have key : ∀ (N : Nat) (es : List (Int × Ty × Nat)) (c : Nat) (left d : Int) (t : Ty), SizeOf.sizeOf t < N → okT t = true → okMs es → (cnt (pwT es t) : Int) ≤ left → left ≤ 1000 → PWalkJ es c left d t := by
  intro N
  induction N with
  | zero => intro es c left d t h; omega
  | succ N ih =>
   intro es c left d t ht ho hm hle hle2
   have hh : Hooks.Ok Tryz.prog g0 (pwHk N) := mkHooks_ok (all_cons kcl_hook0 (all_cons parts_hook all_nil)) (all_cons cwalk_hook0 (all_cons (pmap_hook fun es c left d u b l h1 h2 h3 h4 h5 h6 => pmap_ok ih es c left d u b l (by omega) h2 h3 h4 h5 h6) all_nil)) all_nil
   obtain ⟨k, n, nl, ts⟩ := t
   have hol := okL_of ho
   simp only [Ty.mk.sizeOf_spec] at ht
   unfold PWalkJ
   rw [enc_D]
   refine FuncJ.run (el := els) (mu := mu0) (hk := pwHk N) hmix hh (n := 60) ?_
   show runF (pwHk N) 60 118 [encD (.mk k n nl ts), .int .i64 d, .ptr 1 0, .ptr 4 0, .ptr 5 0] (pwA es c left) _
   rw [pw_top]
   simp only [eq_self, true_and, and_true, SubR_id, ex_encM, ex_enc, Ty.eta, tk_mk, tn_mk, tl_mk, tb_mk, iC]
   have plain (h : ¬ (k = 6 ∧ (boundM es n).isSome = true)) : pwT es (.mk k n nl ts) = .mk k n (nilB ts) (pwL es ts) := by simp only [pwT, h, if_false]
   cases hb : boundM es n with
   | none =>
    have hp := plain (by rw [hb]; simp)
    rw [hp] at hle ⊢
    simp only [cnt, Int.natCast_add, Int.cast_ofNat_Int] at hle ⊢
    refine .inl ⟨keyFind_none hb 0, bothR_ndec (fun h => ?_) fun h => ?_⟩
    ·rw [wrap_id (by omega) (by omega)] at h; omega
    ·rw [wrap_id (by omega) (by omega)]
     exact ⟨⟨by omega, hol, hm, by omega, by omega⟩, rfl, congrArg _ (by omega)⟩
   | some u =>
    obtain ⟨j, hj⟩ := keyFind_some hb 0
    obtain ⟨x, hx, rfl⟩ := boundM_mem hb
    have hxo := hm x hx
    refine .inr ⟨j, x.2.1, hj, bothR_dec (fun h6 => ?_) fun h6 => bothR_ndec (fun h => ?_) fun h => ?_⟩
    ·have hp : pwT es (.mk k n nl ts) = cleanT x.2.1 := by simp only [pwT, hb, h6, Option.isSome_some, and_self, if_true, Option.getD_some]
     rw [hp, cnt_clean] at hle ⊢
     refine ⟨⟨by omega, nn 0, by omega⟩, ?_⟩
     rw [wrap_id (by omega) (by omega)]
     refine bothR_ndec (fun h => by omega) fun h => ⟨hxo.1, rfl, congrArg _ (by omega)⟩
    ·have hp := plain (fun h => h6 h.1)
     rw [hp] at hle
     simp only [cnt, Int.natCast_add, Int.cast_ofNat_Int] at hle
     rw [wrap_id (by omega) (by omega)] at h; omega
    ·have hp := plain (fun h => h6 h.1)
     rw [hp] at hle ⊢
     simp only [cnt, Int.natCast_add, Int.cast_ofNat_Int] at hle ⊢
     rw [wrap_id (by omega) (by omega)]
     exact ⟨⟨by omega, hol, hm, by omega, by omega⟩, rfl, congrArg _ (by omega)⟩
 exact key _ es c left d t (Nat.lt_succ_self _) ho hm hle hle2
end Go.Proofs.YtnmolpkkemljoaaGreatDoor
end
end
section
noncomputable section
namespace Go.Proofs.YtnmolpkkemljoaaGreatDoor
open Go Go.Am Kd
def pwalkH0 : HSpec := fun args A K =>
 match args with
 | [t, .int .i64 _, .ptr 1 0, .ptr 4 0, .ptr 5 0] => argTy t fun t => argPw A fun es c left => (okT t = true ∧ okMs es ∧ (cnt (pwT es t) : Int) ≤ left ∧ left ≤ 1000) ∧ onR 0 A (pwA es c left) (K ⟨.returned (encD (pwT es t)), (pwA es c (left - cnt (pwT es t))).onto A⟩)
 | _ => False
def ptHk : Hooks := mkHooks Tryz.prog [(68, kclQ0), (76, validQ)] [(118, pwalkH0)] []
def mapA (es : List (Int × Ty × Nat)) (c : Nat) : AH := ⟨[.map (encM es) c], []⟩
def putOk (es : List (Int × Ty × Nat)) (t : Ty) : Prop := okT (cleanT t) = true ∧ okT t = true ∧ okMs es ∧ cnt (pwT es (cleanT t)) ≤ 60 ∧ validB (pwT es (cleanT t)) = true
def putH : HSpec := fun args A K =>
 match args with
 | [.map b, t] => argTy t fun t =>
  match nthR A.blks b with
  | some (.map m c) => ∃ es, m = encM es ∧ putOk es t ∧ K ⟨.returned (encD (pwT es (cleanT t))), A.put b (.map m c)⟩
  | _ => False
 | _ => False
end Go.Proofs.YtnmolpkkemljoaaGreatDoor
end
end
section
noncomputable section
namespace Go.Proofs.YtnmolpkkemljoaaGreatDoor
open Go Go.Am Kd Go.Am.AV Go.IntKind
set_option maxRecDepth 100000
theorem pt_top (es : List (Int × Ty × Nat)) (c : Nat) (t r : Ty) : (runF ptHk 60 83 [.map 0, encD t] (mapA es c) (hpIs 0 (.returned (encD r)) (mapA es c))) = ( ∃ l, encL (Ty.l t) = encL l ∧ okT (Ty.mk (Ty.kind t) (Ty.n t) (Ty.nl t) l) = true ∧ ∃ l_1, encL (Ty.l (cleanT (Ty.mk (Ty.kind t) (Ty.n t) (Ty.nl t) l))) = encL l_1 ∧ ∃ es_1, encM es = encM es_1 ∧ (okT (Ty.mk (Ty.kind (cleanT (Ty.mk (Ty.kind t) (Ty.n t) (Ty.nl t) l))) (Ty.n (cleanT (Ty.mk (Ty.kind t) (Ty.n t) (Ty.nl t) l))) (Ty.nl (cleanT (Ty.mk (Ty.kind t) (Ty.n t) (Ty.nl t) l))) l_1) = true ∧ okMs es_1 ∧ iC (cnt (pwT es_1
 (Ty.mk (Ty.kind (cleanT (Ty.mk (Ty.kind t) (Ty.n t) (Ty.nl t) l))) (Ty.n (cleanT (Ty.mk (Ty.kind t) (Ty.n t) (Ty.nl t) l))) (Ty.nl (cleanT (Ty.mk (Ty.kind t) (Ty.n t) (Ty.nl t) l))) l_1))) ≤ 60 ∧ Int.NonNeg (940)) ∧ encM es = encM es_1 ∧ c = c ∧ 74 = 74 ∧ SubR [AV.map (0)] [AV.map (0)] (24 = 24 ∧ 24 = 24 ∧ 3 = 3 ∧ SubR [int i64 (60)] [int i64 (60)] (145 = 145 ∧ SubR [AV.fn (Fn.func (118)) [] [ptr (1) (0), ptr (4) (0), ptr (5) (0)]] [AV.fn (Fn.func (118)) [] [ptr (1) (0), ptr (4) (0), ptr (5) (0)]] (0 = 0 ∧ ∃ l_2, encL (Ty.l (pwT es_1
 (Ty.mk (Ty.kind (cleanT (Ty.mk (Ty.kind t) (Ty.n t) (Ty.nl t) l))) (Ty.n (cleanT (Ty.mk (Ty.kind t) (Ty.n t) (Ty.nl t) l))) (Ty.nl (cleanT (Ty.mk (Ty.kind t) (Ty.n t) (Ty.nl t) l))) l_1))) = encL l_2 ∧ cnt (Ty.mk (Ty.kind (pwT es_1 (Ty.mk (Ty.kind (cleanT (Ty.mk (Ty.kind t) (Ty.n t) (Ty.nl t) l))) (Ty.n (cleanT (Ty.mk (Ty.kind t) (Ty.n t) (Ty.nl t) l))) (Ty.nl (cleanT (Ty.mk (Ty.kind t) (Ty.n t) (Ty.nl t) l))) l_1))) (Ty.n (pwT es_1 (Ty.mk (Ty.kind (cleanT (Ty.mk (Ty.kind t) (Ty.n t) (Ty.nl t) l))) (Ty.n (cleanT (Ty.mk (Ty.kind t) (Ty.n t) (Ty.nl t) l)))
 (Ty.nl (cleanT (Ty.mk (Ty.kind t) (Ty.n t) (Ty.nl t) l))) l_1))) (Ty.nl (pwT es_1 (Ty.mk (Ty.kind (cleanT (Ty.mk (Ty.kind t) (Ty.n t) (Ty.nl t) l))) (Ty.n (cleanT (Ty.mk (Ty.kind t) (Ty.n t) (Ty.nl t) l))) (Ty.nl (cleanT (Ty.mk (Ty.kind t) (Ty.n t) (Ty.nl t) l))) l_1))) l_2) ≤ 1000 ∧ bothR (!validB (Ty.mk (Ty.kind (pwT es_1 (Ty.mk (Ty.kind (cleanT (Ty.mk (Ty.kind t) (Ty.n t) (Ty.nl t) l))) (Ty.n (cleanT (Ty.mk (Ty.kind t) (Ty.n t) (Ty.nl t) l))) (Ty.nl (cleanT (Ty.mk (Ty.kind t) (Ty.n t) (Ty.nl t) l))) l_1))) (Ty.n (pwT es_1
 (Ty.mk (Ty.kind (cleanT (Ty.mk (Ty.kind t) (Ty.n t) (Ty.nl t) l))) (Ty.n (cleanT (Ty.mk (Ty.kind t) (Ty.n t) (Ty.nl t) l))) (Ty.nl (cleanT (Ty.mk (Ty.kind t) (Ty.n t) (Ty.nl t) l))) l_1))) (Ty.nl (pwT es_1 (Ty.mk (Ty.kind (cleanT (Ty.mk (Ty.kind t) (Ty.n t) (Ty.nl t) l))) (Ty.n (cleanT (Ty.mk (Ty.kind t) (Ty.n t) (Ty.nl t) l))) (Ty.nl (cleanT (Ty.mk (Ty.kind t) (Ty.n t) (Ty.nl t) l))) l_1))) l_2)) (AEnd.panicked [(AV.iface (117) (agg [int i64 (9)]), false)] = AEnd.returned
 (agg [int i64 (Ty.kind r), int i64 (Ty.n r), isl (Ty.nl r) none (0) (encL (Ty.l r))]) ∧ encM es_1 = encM es ∧ c = c ∧ 0 = 0 ∧ True) (AEnd.returned (agg [int i64 (Ty.kind (pwT es_1 (Ty.mk (Ty.kind (cleanT (Ty.mk (Ty.kind t) (Ty.n t) (Ty.nl t) l))) (Ty.n (cleanT (Ty.mk (Ty.kind t) (Ty.n t) (Ty.nl t) l))) (Ty.nl (cleanT (Ty.mk (Ty.kind t) (Ty.n t) (Ty.nl t) l))) l_1))), int i64 (Ty.n (pwT es_1 (Ty.mk (Ty.kind (cleanT (Ty.mk (Ty.kind t) (Ty.n t) (Ty.nl t) l)))
 (Ty.n (cleanT (Ty.mk (Ty.kind t) (Ty.n t) (Ty.nl t) l))) (Ty.nl (cleanT (Ty.mk (Ty.kind t) (Ty.n t) (Ty.nl t) l))) l_1))), isl (Ty.nl (pwT es_1 (Ty.mk (Ty.kind (cleanT (Ty.mk (Ty.kind t) (Ty.n t) (Ty.nl t) l))) (Ty.n (cleanT (Ty.mk (Ty.kind t) (Ty.n t) (Ty.nl t) l))) (Ty.nl (cleanT (Ty.mk (Ty.kind t) (Ty.n t) (Ty.nl t) l))) l_1))) none (0) (encL (Ty.l (pwT es_1 (Ty.mk (Ty.kind (cleanT (Ty.mk (Ty.kind t) (Ty.n t) (Ty.nl t) l))) (Ty.n (cleanT (Ty.mk (Ty.kind t) (Ty.n t) (Ty.nl t) l))) (Ty.nl (cleanT (Ty.mk (Ty.kind t) (Ty.n t) (Ty.nl t) l))) l_1))))]) = AEnd.returned
 (agg [int i64 (Ty.kind r), int i64 (Ty.n r), isl (Ty.nl r) none (0) (encL (Ty.l r))]) ∧ encM es_1 = encM es ∧ c = c ∧ 0 = 0 ∧ True))))) := by kernel_rfl
end Go.Proofs.YtnmolpkkemljoaaGreatDoor
end
end
section
set_option maxRecDepth 100000
set_option linter.unusedSimpArgs false
set_option linter.unusedVariables false
noncomputable section
namespace Go.Proofs.YtnmolpkkemljoaaGreatDoor
open Go Go.Am Kd
theorem pwalk_hook0 : HSpec.Ok Tryz.prog g0 118 pwalkH0 := by
 intro args A K h'
 unfold pwalkH0 at h'
 split at h'
 ·obtain ⟨t, rfl, h⟩ := argTy_elim h'
  obtain ⟨es, c, left, ⟨h2, h3, h4, h5⟩, h⟩ := argPw_elim h
  obtain ⟨hK, hr⟩ := FuncJ.on (n := 6) h (pwalk_ok es c left _ t h2 h3 h4 h5) (pwA_ok ..) (pwA_ok ..) (by simp [AV.bndL, AV.bnd, AV.still_bnd, enc_still]) (by simp [AEnd.bnd, AV.still_bnd, encD_still])
  exact ⟨_, hr, hK⟩
 ·exact h'.elim
theorem put_ok (es : List (Int × Ty × Nat)) (c : Nat) (t : Ty) (h : putOk es t) : FJ 83 [.map 0, enc t] (mapA es c) (hpIs 0 (.returned (encD (pwT es (cleanT t)))) (mapA es c)) := by
 have hh : Hooks.Ok Tryz.prog g0 ptHk := mkHooks_ok (all_cons kcl_hook0 (all_cons valid_hook all_nil)) (all_cons pwalk_hook0 all_nil) all_nil
 obtain ⟨h1, h2, h3, h4, h5⟩ := h
 rw [enc_D]
 refine FuncJ.run (el := els) (mu := mu0) (hk := ptHk) hmix hh (n := 60) ?_
 show runF ptHk 60 83 [.map 0, encD t] (mapA es c) _
 rw [pt_top]
 simp only [eq_self, true_and, and_true, SubR_id, ex_encM, ex_enc, Ty.eta, iC, h5, Bool.not_true, bR_f]
 exact ⟨h2, ⟨h1, h3, by omega, nn 940⟩, by omega⟩
theorem put_hook : HSpec.Ok Tryz.prog g0 83 putH := by
 intro args A K h'
 unfold putH at h'
 split at h'
 ·obtain ⟨t, rfl, h⟩ := argTy_elim h'
  split at h
  ·rename_i b t' m c hb
   obtain ⟨es, rfl, hp, hK⟩ := h
   rw [nthR_eq] at hb
   have hr := FuncJ.one (A := A) (b := b) (x' := .map (encM es) c) (put_ok es c t hp) (by simp [AV.stillL, enc_still]) (by simp [ABlk.bnd, encM_bnd]) (by simp [ABlk.bnd, encM_bnd]) (by simp [ABlk.bnd, encM_bnd]) (by simp [AEnd.bnd, AV.still_bnd, encD_still]) (by simp) (by simp) hb
   exact ⟨_, hr, hK⟩
  ·exact h.elim
 ·exact h'.elim
end Go.Proofs.YtnmolpkkemljoaaGreatDoor
end
end
section
namespace Kd
open Go.Am Go.Proofs.YtnmolpkkemljoaaGreatDoor
def numM : List Int → Nat → List (Int × Ty × Nat)
 | [], _ => []
 | n :: m, i => (n, varT i, i) :: numM m (i + 1)
def varsL (t : Ty) : List Int := firstT t []
end Kd
noncomputable section
namespace Go.Proofs.YtnmolpkkemljoaaGreatDoor
open Go Go.Am Kd
def kvarsQ : QSpec
 | [t], K => argTy t fun t => (cnt t ≤ 1000) ∧ bothR (validB t) (K (.tup [.isl (nilB (varsL t)) none 0 (encZ (varsL t)), .int .i64 0])) (K (.tup [.isl true none 0 [], .int .i64 1]))
 | _, _ => False
def nmFr (ix : List (Nat × AV)) : AAct := ⟨(frm 35 ([(1, .ptr 0 0), (2, .ptr 1 0), (3, .ptr 2 0), (6, .map 3), (19, .map 3)] ++ ix)).tmps, [.fn (.func 88) [] [.ptr 2 0]]⟩
def nmH (t : Ty) (es : List (Int × Ty × Nat)) (c : Nat) : AH := ⟨[tyC t, top3, .cells [.int .i64 0] 28, .map (encM es) c], []⟩
def nmSt (t : Ty) (b : Bool) (l : List Int) : LSt Nat Nat where
 n := 4
 nf := 0
 rd := none
 fr x := nmFr [(20, .isl b none 0 (encZ l)), (21, .int .i64 (encZ l).length), (22, .int .i64 x)]
 hp x := nmH t (numM (l.take x) 0) x
 inv x := x ≤ l.length ∧ l.Nodup ∧ l.length ≤ 1000
 res _ := 0
 sel _ := true
 out _ _ := ⟨.exit 0, nmFr [], nmH t (numM l 0) l.length⟩
def nmHk (t : Ty) : Hooks := mkHooks Tryz.prog [(36, kvarsQ)] [(83, putH)] [(6, ⟨38, 0, (nmSt t (nilB (varsL t)) (varsL t)).spec⟩)]
end Go.Proofs.YtnmolpkkemljoaaGreatDoor
end
end
section
noncomputable section
namespace Go.Proofs.YtnmolpkkemljoaaGreatDoor
open Go Go.Am Kd Go.Am.AV Go.IntKind
set_option maxRecDepth 100000
theorem nm_loop (t : Ty) (b : Bool) (l : List Int) (meas : Nat → Nat) (x : Nat) : (runL hk0 60 38 0 (nmSt t b l) meas x) = ( bothR (decide (iC x < iC (List.length (encZ l)))) (0 ≤ iC x ∧ ∃ x_1, (encZ l)[Int.toNat (iC x)]? = some (int i64 x_1) ∧ ((keyFind (int i64 x_1) (encM (numM (List.take x l) 0)) 0 = some none ∧ ∃ y, (y ≤ List.length l ∧ List.Nodup l ∧ List.length l ≤ 1000) ∧ meas y < meas x ∧ 0 = 0 ∧ ptr (0) (0) = ptr (0) (0) ∧ ptr (1) (0) = ptr (1) (0) ∧ ptr (2) (0) = ptr (2) (0) ∧ AV.map (3) = AV.map (3) ∧ AV.map (3) = AV.map (3) ∧
 isl b none (0) (encZ l) = isl b none (0) (encZ l) ∧ int i64 (iC (List.length (encZ l))) = int i64 (iC (List.length (encZ l))) ∧ int i64 (IntKind.wrap IntKind.i64 (iC x + (1 : Int))) = int i64 (iC y) ∧ [ADef.fn (Fn.func (88)) [] [ptr (2) (0)]] = [ADef.fn (Fn.func (88)) [] [ptr (2) (0)]] ∧ 24 = 24 ∧ int i64 (Ty.kind t) = int i64 (Ty.kind t) ∧ int i64 (Ty.n t) = int i64 (Ty.n t) ∧ isl (Ty.nl t) none (0) (encL (Ty.l t)) = isl (Ty.nl t) none (0) (encL (Ty.l t)) ∧ 24 = 24 ∧ 28 = 28 ∧
 SubR [int i64 (0)] [int i64 (0)] (encM (numM (List.take x l) 0) ++ [(int i64 x_1, agg [int i64 (6), int i64 (iC x), isl true none (0) []], x)] = encM (numM (List.take y l) 0) ∧ x + 1 = y ∧ 0 = 0 ∧ True)) ∨ ∃ j y c, keyFind (int i64 x_1) (encM (numM (List.take x l) 0)) 0 = some (some (j, y)) ∧ (encM (numM (List.take x l) 0))[j]? = some (int i64 x_1, y, c) ∧ ∃ y, (y ≤ List.length l ∧ List.Nodup l ∧ List.length l ≤ 1000) ∧ meas y < meas x ∧ 0 = 0 ∧ ptr (0) (0) = ptr (0) (0) ∧
 ptr (1) (0) = ptr (1) (0) ∧ ptr (2) (0) = ptr (2) (0) ∧ AV.map (3) = AV.map (3) ∧ AV.map (3) = AV.map (3) ∧ isl b none (0) (encZ l) = isl b none (0) (encZ l) ∧ int i64 (iC (List.length (encZ l))) = int i64 (iC (List.length (encZ l))) ∧ int i64 (IntKind.wrap IntKind.i64 (iC x + (1 : Int))) = int i64 (iC y) ∧ [ADef.fn (Fn.func (88)) [] [ptr (2) (0)]] = [ADef.fn (Fn.func (88)) [] [ptr (2) (0)]] ∧ 24 = 24 ∧ int i64 (Ty.kind t) = int i64 (Ty.kind t) ∧
 int i64 (Ty.n t) = int i64 (Ty.n t) ∧ isl (Ty.nl t) none (0) (encL (Ty.l t)) = isl (Ty.nl t) none (0) (encL (Ty.l t)) ∧ 24 = 24 ∧ 28 = 28 ∧ SubR [int i64 (0)] [int i64 (0)] (List.set (encM (numM (List.take x l) 0)) j (int i64 x_1, agg [int i64 (6), int i64 (iC x), isl true none (0) []], c) = encM (numM (List.take y l) 0) ∧ x = y ∧ 0 = 0 ∧ True))) (true = true ∧ ptr (0) (0) = ptr (0) (0) ∧ ptr (1) (0) = ptr (1) (0) ∧ ptr (2) (0) = ptr (2) (0) ∧ AV.map (3) = AV.map (3) ∧
 AV.map (3) = AV.map (3) ∧ [ADef.fn (Fn.func (88)) [] [ptr (2) (0)]] = [ADef.fn (Fn.func (88)) [] [ptr (2) (0)]] ∧ 24 = 24 ∧ int i64 (Ty.kind t) = int i64 (Ty.kind t) ∧ int i64 (Ty.n t) = int i64 (Ty.n t) ∧ isl (Ty.nl t) none (0) (encL (Ty.l t)) = isl (Ty.nl t) none (0) (encL (Ty.l t)) ∧ 24 = 24 ∧ 28 = 28 ∧ SubR [int i64 (0)] [int i64 (0)] (encM (numM (List.take x l) 0) = encM (numM l 0) ∧ x = List.length l ∧ 0 = 0 ∧ True))) := by kernel_rfl
theorem nm_top (t r : Ty) (e : Int) : (runF (nmHk t) 60 38 [encD t] AH.nil (retIs Tryz.prog 5 (.tup [encD r, .int .i64 e]))) = ( ∃ l, encL (Ty.l t) = encL l ∧ cnt (Ty.mk (Ty.kind t) (Ty.n t) (Ty.nl t) l) ≤ 1000 ∧ bothR (validB (Ty.mk (Ty.kind t) (Ty.n t) (Ty.nl t) l)) (codeIs (loopOf Tryz.prog 38 0) Tryz.prog 38 0 (∃ x, (x ≤ List.length (varsL t) ∧ List.Nodup (varsL t) ∧ List.length (varsL t) ≤ 1000) ∧ ptr (0) (0) = ptr (0) (0) ∧ ptr (1) (0) = ptr (1) (0) ∧ ptr (2) (0) = ptr (2) (0) ∧ AV.map (3) = AV.map (3) ∧ AV.map (3) = AV.map (3) ∧
 isl (nilB (varsL (Ty.mk (Ty.kind t) (Ty.n t) (Ty.nl t) l))) none (0) (encZ (varsL (Ty.mk (Ty.kind t) (Ty.n t) (Ty.nl t) l))) = isl (nilB (varsL t)) none (0) (encZ (varsL t)) ∧ int i64 (iC (List.length (encZ (varsL (Ty.mk (Ty.kind t) (Ty.n t) (Ty.nl t) l))))) = int i64 (iC (List.length (encZ (varsL t)))) ∧ int i64 (0) = int i64 (iC x) ∧ [ADef.fn (Fn.func (88)) [] [ptr (2) (0)]] = [ADef.fn (Fn.func (88)) [] [ptr (2) (0)]] ∧ 24 = 24 ∧ int i64 (Ty.kind t) = int i64 (Ty.kind t) ∧
 int i64 (Ty.n t) = int i64 (Ty.n t) ∧ isl (Ty.nl t) none (0) (encL (Ty.l t)) = isl (Ty.nl t) none (0) (encL (Ty.l t)) ∧ 24 = 24 ∧ 28 = 28 ∧ SubR [int i64 (0)] [int i64 (0)] ([] = encM (numM (List.take x (varsL t)) 0) ∧ 0 = x ∧ 0 = 0 ∧ ∃ l, encL (Ty.l t) = encL l ∧ ∃ es, encM (numM (varsL t) 0) = encM es ∧ (okT (cleanT (Ty.mk (Ty.kind t) (Ty.n t) (Ty.nl t) l)) = true ∧ okT (Ty.mk (Ty.kind t) (Ty.n t) (Ty.nl t) l) = true ∧ okMs es ∧ cnt (pwT es (cleanT (Ty.mk (Ty.kind t) (Ty.n t) (Ty.nl t) l))) ≤ 60 ∧
 validB (pwT es (cleanT (Ty.mk (Ty.kind t) (Ty.n t) (Ty.nl t) l))) = true) ∧ tup [agg [int i64 (Ty.kind (pwT es (cleanT (Ty.mk (Ty.kind t) (Ty.n t) (Ty.nl t) l)))), int i64 (Ty.n (pwT es (cleanT (Ty.mk (Ty.kind t) (Ty.n t) (Ty.nl t) l)))), isl (Ty.nl (pwT es (cleanT (Ty.mk (Ty.kind t) (Ty.n t) (Ty.nl t) l)))) none (0) (encL (Ty.l (pwT es (cleanT (Ty.mk (Ty.kind t) (Ty.n t) (Ty.nl t) l)))))], int i64 (0)] = tup [agg [int i64 (Ty.kind r), int i64 (Ty.n r), isl (Ty.nl r) none (0) (encL (Ty.l r))], int i64 e])))
 (tup [agg [int i64 (0), int i64 (0), isl true none (0) []], int i64 (1)] = tup [agg [int i64 (Ty.kind r), int i64 (Ty.n r), isl (Ty.nl r) none (0) (encL (Ty.l r))], int i64 e])) := by kernel_rfl
end Go.Proofs.YtnmolpkkemljoaaGreatDoor
end
end
section
set_option maxRecDepth 100000
set_option linter.unusedSimpArgs false
set_option linter.unusedVariables false
namespace Kd
open Go.Am Go.Proofs.YtnmolpkkemljoaaGreatDoor
theorem numM_snoc : ∀ (m : List Int) (n : Int) (i : Nat), numM (m ++ [n]) i = numM m i ++ [(n, varT ((i + m.length : Nat) : Int), i + m.length)]
 | [], n, i => rfl
 | x :: m, n, i => by
  simp only [List.cons_append, numM, numM_snoc m n (i + 1), List.length_cons]
  rw [show i + 1 + m.length = i + (m.length + 1) by omega]
theorem boundM_num : ∀ (m : List Int) (n : Int) (i : Nat), n ∉ m → boundM (numM m i) n = none
 | [], n, i, _ => rfl
 | x :: m, n, i, h => by
  simp only [List.mem_cons, not_or] at h
  simp only [numM, boundM, if_neg h.1]
  exact boundM_num m n (i + 1) h.2
theorem addV_nodup {l : List Int} (h : l.Nodup) (n : Int) : (addV l n).Nodup := by
 unfold addV
 split
 ·exact h
 ·rename_i hn
  rw [List.nodup_append]
  refine ⟨h, by simp, fun a ha b hb => ?_⟩
  simp at hb
  subst hb
  intro e
  subst e
  exact hn (by simpa using ha)
theorem first_nodup : ∀ (t : Ty) (l : List Int), l.Nodup → (firstT t l).Nodup := by
 have key : ∀ (N : Nat), (∀ (t : Ty) (l : List Int), SizeOf.sizeOf t < N → l.Nodup → (firstT t l).Nodup) ∧ ∀ (ts : List Ty) (l : List Int), SizeOf.sizeOf ts < N → l.Nodup → (firstL ts l).Nodup := by
  intro N
  induction N with
  | zero => exact ⟨fun _ _ h => by omega, fun _ _ h => by omega⟩
  | succ N ih =>
   obtain ⟨ih1, ih2⟩ := ih
   constructor
   ·intro t l ht hl
    cases t with
    | mk k n b ts =>
     simp only [Ty.mk.sizeOf_spec] at ht
     simp only [firstT]
     refine ih2 ts _ (by omega) ?_
     split
     ·exact addV_nodup hl n
     ·exact hl
   ·intro ts l ht hl
    cases ts with
    | nil => exact hl
    | cons x xs =>
     simp only [List.cons.sizeOf_spec] at ht
     simp only [firstL]
     exact ih2 xs _ (by omega) (ih1 x l (by omega) hl)
 exact fun t l => (key (SizeOf.sizeOf t + 1)).1 t l (by omega)
end Kd
noncomputable section
namespace Go.Proofs.YtnmolpkkemljoaaGreatDoor
open Go Go.Am Kd
theorem kvars_hook : QSpec.Ok Tryz.prog g0 36 kvarsQ := by
 intro args K h'
 unfold kvarsQ at h'
 split at h'
 ·obtain ⟨t, rfl, h1, h2⟩ := argTy_elim h'
  refine ⟨_, kvars_ok t h1, ?_⟩
  cases h : validB t with
  | true => rw [h] at h2; exact h2
  | false => rw [h] at h2; exact h2
 ·exact h'.elim
theorem nm_loop_ok (t : Ty) (b : Bool) (l : List Int) : LHook.Ok Tryz.prog g0 ⟨38, 0, (nmSt t b l).spec⟩ := by
 refine LSt.by (hk := hk0) (nmSt t b l) (fun x => l.length - x) hk0_ok rfl ?_ ?_ ?_
 ·intro x _
  exact ⟨rfl, rfl, frm_bnd (by simp [AV.bnd, AV.still_bndL, encZ_still, nmSt]), by simp [nmSt, nmFr, ADef.bnd, AV.bndL, AV.bnd], by simp [nmSt, nmH, top3, tyC, ABlk.bnd, AV.bnd, AV.bndL, encM_bnd, encL_bnd]⟩
 ·intro x b' _
  exact ⟨rfl, rfl, frm_bnd (by simp [AV.bnd, AV.still_bndL, encZ_still, nmSt]), by simp [nmSt, nmFr, ADef.bnd, AV.bndL, AV.bnd], by simp [nmSt, nmH, top3, tyC, ABlk.bnd, AV.bnd, AV.bndL, encM_bnd, encL_bnd]⟩
 ·rintro i ⟨hi, hnd, hlen⟩
  rw [nm_loop]
  simp only [iC, encZ_length, eq_self, true_and, and_true, Int.toNat_natCast, AV.int.injEq, SubR_id]
  refine bothR_dec (fun hlt => ?_) fun hge => ?_
  ·have hi' : i < l.length := by omega
   rw [ex_int hi']
   have hn : l[i] ∉ l.take i := by
    intro hm
    obtain ⟨j, hj, he⟩ := List.getElem_of_mem hm
    simp only [List.length_take] at hj
    rw [List.getElem_take] at he
    have := (List.getElem_inj (h₀ := by omega) (h₁ := hi') hnd).1 he
    omega
   have ht : l.take (i + 1) = l.take i ++ [l[i]] := by rw [List.take_add_one, List.getElem?_eq_getElem hi']; rfl
   refine ⟨by omega, .inl ⟨keyFind_none (boundM_num _ _ 0 hn) 0, i + 1, ⟨by omega, hnd, hlen⟩, by omega, ?_, ?_⟩⟩
   ·rw [wrap_id (by omega) (by omega)]; rfl
   ·rw [ht, numM_snoc]
    have hl : (l.take i).length = i := by simp; omega
    rw [hl, Nat.zero_add]
    simp only [encM, List.map_append, List.map_cons, List.map_nil, entM]
    exact ⟨rfl, trivial⟩
  ·have : i = l.length := by omega
   rw [this, List.take_length]
   exact ⟨rfl, rfl⟩
theorem knumber_ok (t : Ty) (hc : cnt t ≤ 1000) (hp : validB t = true → putOk (numM (varsL t) 0) t) : QJ 38 [enc t] (if validB t = true then .tup [encD (pwT (numM (varsL t) 0) (cleanT t)), .int .i64 0] else .tup [encD (.mk 0 0 true []), .int .i64 1]) := by
 have hh : Hooks.Ok Tryz.prog g0 (nmHk t) := mkHooks_ok (all_cons kvars_hook all_nil) (all_cons put_hook all_nil) (all_cons (nm_loop_ok _ _ _) all_nil)
 have hl := (first_len t []).2
 simp only [List.length_nil, Nat.zero_add] at hl
 rw [enc_D]
 by_cases h : validB t = true
 ·rw [if_pos h]
  refine QJ.by (hk := nmHk t) (by simp [AV.stillL, encD_still]) (by simp [AV.still, AV.stillL, encD_still]) hh ?_
  rw [nm_top]
  simp only [ex_enc, Ty.eta, h, bR_t, eq_self, true_and, and_true, SubR_id, codeIs_self, ex_encM, iC]
  refine ⟨hc, 0, ⟨by omega, first_nodup t [] (by simp), by simpa [varsL] using (by omega)⟩, rfl, rfl, rfl, hp h⟩
 ·rw [if_neg h]
  simp only [Bool.not_eq_true] at h
  refine QJ.by (hk := nmHk t) (by simp [AV.stillL, encD_still]) rfl hh ?_
  rw [nm_top]
  simp only [ex_enc, Ty.eta, h, bR_f]
  exact ⟨hc, rfl⟩
end Go.Proofs.YtnmolpkkemljoaaGreatDoor
end
end
section
set_option maxRecDepth 100000
set_option linter.unusedSimpArgs false
set_option linter.unusedVariables false
namespace Kd
open Go.Am Go.Proofs.YtnmolpkkemljoaaGreatDoor
theorem ok_mk {k n : Int} {b : Bool} {l : List Ty} (h1 : NodeOk (.mk k n b l)) (h2 : okL l = true) : okT (.mk k n b l) = true := by
 simp only [okT, Bool.and_eq_true, decide_eq_true_eq]
 exact ⟨h1, h2⟩
theorem node_of {k n m : Int} {b b' : Bool} {l l' : List Ty} (h : NodeOk (.mk k n b l)) (hl : l'.length = l.length) (hm : k = 6 → m = n) : NodeOk (.mk k m b' l') := by
 simp only [NodeOk] at h ⊢
 obtain ⟨h1, h2, h3, h4, h5, h6⟩ := h
 rw [hl]
 exact ⟨h1, h2, h3, h4, h5, fun h => by rw [hm h]; exact h6 h⟩
theorem ok_var {j : Int} (h1 : 0 ≤ j) (h2 : j < 1000) : okT (varT j) = true :=
 ok_mk (by simp only [NodeOk]; exact ⟨by omega, by omega, fun _ => rfl, by omega, by omega, fun _ => ⟨h1, h2⟩⟩) rfl
theorem ok_clean : ∀ t, okT t = true → okT (cleanT t) = true := by
 have key : ∀ (N : Nat), (∀ t, SizeOf.sizeOf t < N → okT t = true → okT (cleanT t) = true) ∧ ∀ l, SizeOf.sizeOf l < N → okL l = true → okL (cleanL l) = true := by
  intro N
  induction N with
  | zero => exact ⟨fun _ h => by omega, fun _ h => by omega⟩
  | succ N ih =>
   obtain ⟨ih1, ih2⟩ := ih
   constructor
   ·intro t ht h
    cases t with
    | mk k n b l =>
     simp only [Ty.mk.sizeOf_spec] at ht
     obtain ⟨h1, h2⟩ := ok_node h
     simp only [cleanT]
     exact ok_mk (node_of h1 (cleanL_len l) fun h => by rw [if_pos h]) (ih2 l (by omega) h2)
   ·intro l hl h
    cases l with
    | nil => rfl
    | cons x xs =>
     simp only [List.cons.sizeOf_spec] at hl
     simp only [okL, Bool.and_eq_true] at h
     simp only [cleanL, okL, Bool.and_eq_true]
     exact ⟨ih1 x (by omega) h.1, ih2 xs (by omega) h.2⟩
 exact fun t => (key (SizeOf.sizeOf t + 1)).1 t (by omega)
theorem bM_bO : ∀ (m : List Int) (n : Int) (i : Nat), boundM (numM m i) n = boundO (numB m i) n
 | [], _, _ => rfl
 | x :: m, n, i => by
  simp only [numM, numB, boundM, boundO]
  by_cases h : n = x
  ·rw [if_pos h, if_pos h.symm]
  ·rw [if_neg h, if_neg (fun e => h e.symm)]
   exact bM_bO m n (i + 1)
theorem nil_clean (l : List Ty) : nilB (cleanL l) = nilB l := by simp only [nilB, cleanL_len]
theorem pw_with {es : List (Int × Ty × Nat)} {bs : List (Int × Ty)} (hb : ∀ n, boundM es n = boundO bs n) : ∀ t, okT t = true → pwT es (cleanT t) = withT bs t := by
 have key : ∀ (N : Nat), (∀ t, SizeOf.sizeOf t < N → okT t = true → pwT es (cleanT t) = withT bs t) ∧ ∀ l, SizeOf.sizeOf l < N → okL l = true → pwL es (cleanL l) = withL bs l := by
  intro N
  induction N with
  | zero => exact ⟨fun _ h => by omega, fun _ h => by omega⟩
  | succ N ih =>
   obtain ⟨ih1, ih2⟩ := ih
   constructor
   ·intro t ht h
    cases t with
    | mk k n b l =>
     simp only [Ty.mk.sizeOf_spec] at ht
     obtain ⟨h1, h2⟩ := ok_node h
     by_cases h6 : k = 6
     ·simp only [NodeOk] at h1
      have hl : l = [] := List.eq_nil_of_length_eq_zero (h1.2.2.1 (.inr (.inr h6)))
      subst h6 hl
      simp only [cleanT, cleanL, pwT, withT, if_true, true_and, hb, boundT]
      cases boundO bs n with
      | none => simp [varT, cleanT, cleanL, nilB, pwL]
      | some u => simp
     ·simp only [cleanT, pwT, withT, h6, if_false, false_and, nil_clean, ih2 l (by omega) h2]
   ·intro l hl h
    cases l with
    | nil => rfl
    | cons x xs =>
     simp only [List.cons.sizeOf_spec] at hl
     simp only [okL, Bool.and_eq_true] at h
     simp only [cleanL, pwL, withL, ih1 x (by omega) h.1, ih2 xs (by omega) h.2]
 exact fun t => (key (SizeOf.sizeOf t + 1)).1 t (by omega)
theorem numB_bound : ∀ (m : List Int) (n : Int) (i : Nat) (u : Ty), boundO (numB m i) n = some u → ∃ j : Nat, u = varT j ∧ j < i + m.length
 | [], _, _, _, h => by cases h
 | x :: m, n, i, u, h => by
  simp only [numB, boundO] at h
  split at h
  ·cases h; exact ⟨i, rfl, by simp⟩
  ·obtain ⟨j, h1, h2⟩ := numB_bound m n (i + 1) u h
   exact ⟨j, h1, by simp only [List.length_cons]; omega⟩
theorem with_vars {bs : List (Int × Ty)} (hb : ∀ n u, boundO bs n = some u → ∃ j : Int, u = varT j ∧ 0 ≤ j ∧ j < 1000) : ∀ t, okT t = true → okT (withT bs t) = true ∧ cnt (withT bs t) = cnt t ∧ depT (withT bs t) = depT t := by
 have key : ∀ (N : Nat), (∀ t, SizeOf.sizeOf t < N → okT t = true → okT (withT bs t) = true ∧ cnt (withT bs t) = cnt t ∧ depT (withT bs t) = depT t) ∧
   ∀ l, SizeOf.sizeOf l < N → okL l = true → okL (withL bs l) = true ∧ cntL (withL bs l) = cntL l ∧ ∀ n, depG (withL bs l) n = depG l n := by
  intro N
  induction N with
  | zero => exact ⟨fun _ h => by omega, fun _ h => by omega⟩
  | succ N ih =>
   obtain ⟨ih1, ih2⟩ := ih
   constructor
   ·intro t ht h
    cases t with
    | mk k n b l =>
     simp only [Ty.mk.sizeOf_spec] at ht
     obtain ⟨h1, h2⟩ := ok_node h
     by_cases h6 : k = 6
     ·simp only [NodeOk] at h1
      have hl : l = [] := List.eq_nil_of_length_eq_zero (h1.2.2.1 (.inr (.inr h6)))
      have hn := h1.2.2.2.2.2 h6
      subst h6 hl
      have : ∃ j : Int, withT bs (.mk 6 n b []) = varT j ∧ 0 ≤ j ∧ j < 1000 := by
       simp only [withT, if_true, boundT]
       cases hq : boundO bs n with
       | none => exact ⟨n, by simp [varT, cleanT, cleanL, nilB], hn.1, hn.2⟩
       | some u =>
        obtain ⟨j, rfl, h3, h4⟩ := hb n u hq
        exact ⟨j, by simp [varT, cleanT, cleanL, nilB], h3, h4⟩
      obtain ⟨j, e, h3, h4⟩ := this
      rw [e]
      exact ⟨ok_var h3 h4, by simp [varT, cnt, cntL], by simp [varT, depT, depG]⟩
     ·obtain ⟨r1, r2, r3⟩ := ih2 l (by omega) h2
      have e : withT bs (.mk k n b l) = .mk k 0 (nilB l) (withL bs l) := by simp only [withT, h6, if_false]
      rw [e]
      exact ⟨ok_mk (node_of h1 (withL_len bs l) fun h => absurd h h6) r1, by simp only [cnt, r2], by simp only [depT, r3]⟩
   ·intro l hl h
    cases l with
    | nil => exact ⟨rfl, rfl, fun _ => rfl⟩
    | cons x xs =>
     simp only [List.cons.sizeOf_spec] at hl
     simp only [okL, Bool.and_eq_true] at h
     obtain ⟨a1, a2, a3⟩ := ih1 x (by omega) h.1
     obtain ⟨b1, b2, b3⟩ := ih2 xs (by omega) h.2
     refine ⟨by simp only [withL, okL, a1, b1, Bool.and_self], by simp only [withL, cntL, a2, b2], fun n => by simp only [withL, depG, a3, b3]⟩
 exact fun t => (key (SizeOf.sizeOf t + 1)).1 t (by omega)
theorem vars_len (t : Ty) : (varsL t).length ≤ cnt t := by have := (first_len t []).2; simp only [List.length_nil, Nat.zero_add] at this; exact this
theorem num_ok {t : Ty} (h : validB t = true) : pwT (numM (varsL t) 0) (cleanT t) = numT t ∧ okT (numT t) = true ∧ cnt (numT t) = cnt t ∧ depT (numT t) = depT t ∧ validB (numT t) = true := by
 obtain ⟨h1, h2, h3⟩ := (valid_eq t).1 h
 have hv := vars_len t
 have e := pw_with (fun n => bM_bO (varsL t) n 0) t h3
 have hb : ∀ n u, boundO (numB (varsL t) 0) n = some u → ∃ j : Int, u = varT j ∧ 0 ≤ j ∧ j < 1000 := by
  intro n u hu
  obtain ⟨j, r1, r2⟩ := numB_bound _ _ _ _ hu
  exact ⟨j, r1, by omega, by omega⟩
 obtain ⟨w1, w2, w3⟩ := with_vars hb t h3
 refine ⟨e, w1, w2, w3, (valid_eq _).2 ⟨?_, ?_, w1⟩⟩
 ·show depT (withT (numB (varsL t) 0) t) ≤ 12
  rw [w3]; exact h1
 ·show cnt (withT (numB (varsL t) 0) t) ≤ 60
  rw [w2]; exact h2
theorem put_num {t : Ty} (h : validB t = true) : putOk (numM (varsL t) 0) t := by
 obtain ⟨h1, h2, h3⟩ := (valid_eq t).1 h
 obtain ⟨e, w1, w2, w3, w4⟩ := num_ok h
 have hv := vars_len t
 have key : ∀ (m : List Int) (i : Nat), i + m.length ≤ 1000 → okMs (numM m i) := by
  intro m
  induction m with
  | nil => intro i _ x hx; cases hx
  | cons n m ih =>
   intro i hi x hx
   simp only [List.length_cons] at hi
   simp only [numM, List.mem_cons] at hx
   rcases hx with rfl | hx
   ·exact ⟨ok_var (by omega) (by omega), by simp [varT, cnt, cntL]⟩
   ·exact ih (i + 1) (by omega) x hx
 exact ⟨ok_clean t h3, h3, key _ 0 (by omega), by rw [e, w2]; exact h2, by rw [e]; exact w4⟩
end Kd
noncomputable section
namespace Go.Proofs.YtnmolpkkemljoaaGreatDoor
open Go Go.Am Kd
theorem knum_ok (t : Ty) (hc : cnt t ≤ 1000) : QJ 38 [enc t] (if validB t = true then .tup [encD (numT t), .int .i64 0] else .tup [encD (.mk 0 0 true []), .int .i64 1]) := by
 have h := knumber_ok t hc fun h => put_num h
 by_cases hv : validB t = true
 ·rw [if_pos hv] at h ⊢
  rw [(num_ok hv).1] at h
  exact h
 ·rw [if_neg hv] at h ⊢
  exact h
end Go.Proofs.YtnmolpkkemljoaaGreatDoor
end
end
section
set_option linter.unusedSimpArgs false
namespace Kd
open Go.Am Go.Proofs.YtnmolpkkemljoaaGreatDoor
theorem sameB_refl : ∀ t, sameB t t = true := by
 have key : ∀ (N : Nat), (∀ t, SizeOf.sizeOf t < N → sameB t t = true) ∧ ∀ l, SizeOf.sizeOf l < N → sameL l l = true := by
  intro N
  induction N with
  | zero => exact ⟨fun _ h => by omega, fun _ h => by omega⟩
  | succ N ih =>
   obtain ⟨ih1, ih2⟩ := ih
   constructor
   ·intro t ht
    cases t with
    | mk k n b l =>
     simp only [Ty.mk.sizeOf_spec] at ht
     simp [sameB, ih2 l (by omega)]
   ·intro l hl
    cases l with
    | nil => rfl
    | cons x xs =>
     simp only [List.cons.sizeOf_spec] at hl
     simp only [sameL, ih1 x (by omega), ih2 xs (by omega), Bool.and_self]
 exact fun t => (key (SizeOf.sizeOf t + 1)).1 t (by omega)
end Kd
end