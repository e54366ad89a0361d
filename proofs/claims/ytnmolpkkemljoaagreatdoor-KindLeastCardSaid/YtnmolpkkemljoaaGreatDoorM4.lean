/-
  The program's types as trees, and what they look like. Conditions: none.
-/
import Derived.Test.YtnmolpkkemljoaaGreatDoorM3
namespace Go.Am
open Go
inductive Ty where
 | mk (kind n : Int) (nl : Bool) (l : List Ty)
def Ty.kind : Ty → Int | .mk k _ _ _ => k
def Ty.n : Ty → Int | .mk _ n _ _ => n
def Ty.nl : Ty → Bool | .mk _ _ b _ => b
def Ty.l : Ty → List Ty | .mk _ _ _ l => l
theorem Ty.eta (x : Ty) : Ty.mk x.kind x.n x.nl x.l = x := by cases x; rfl
mutual
def enc : Ty → AV
 | .mk k n b l => .agg [.int .i64 k, .int .i64 n, .isl b none 0 (encL l)]
def encL : List Ty → List AV
 | [] => []
 | x :: xs => enc x :: encL xs
end
def encD (x : Ty) : AV := .agg [.int .i64 x.kind, .int .i64 x.n, .isl x.nl none 0 (encL x.l)]
theorem enc_D (x : Ty) : enc x = encD x := by cases x; simp only [enc, encD, Ty.kind, Ty.n, Ty.nl, Ty.l]
theorem encL_map : ∀ l, encL l = l.map enc
 | [] => by simp [encL]
 | x :: xs => by simp [encL, encL_map xs]
theorem encL_length (l : List Ty) : (encL l).length = l.length := by simp [encL_map]
theorem encL_get (l : List Ty) (i : Nat) (h : i < l.length) : (encL l)[i]? = some (encD l[i]) := by
 rw [encL_map, List.getElem?_map, List.getElem?_eq_getElem h, ← enc_D]; rfl
mutual
theorem enc_still : ∀ x, (enc x).still = true
 | .mk k n b l => by simp only [enc, AV.still, AV.stillL, Bool.true_and, Bool.and_true]; exact encL_still l
theorem encL_still : ∀ l, AV.stillL (encL l) = true
 | [] => by simp [encL, AV.stillL]
 | x :: xs => by simp only [encL, AV.stillL, Bool.and_eq_true]; exact ⟨enc_still x, encL_still xs⟩
end
theorem encL_bnd (n nf : Nat) (l : List Ty) : AV.bndL n nf (encL l) = true := AV.still_bndL n nf _ (encL_still l)
mutual
theorem enc_inj : ∀ {x y : Ty}, enc x = enc y → x = y
 | .mk k n b l, .mk k' n' b' l', h => by
  simp only [enc, AV.agg.injEq, List.cons.injEq, AV.int.injEq, true_and, AV.isl.injEq, and_true] at h
  obtain ⟨rfl, rfl, rfl, h⟩ := h
  rw [encL_inj h]
theorem encL_inj : ∀ {l l' : List Ty}, encL l = encL l' → l = l'
 | [], [], _ => rfl
 | [], _ :: _, h => by simp [encL] at h
 | _ :: _, [], h => by simp [encL] at h
 | x :: xs, y :: ys, h => by
  simp only [encL, List.cons.injEq] at h
  rw [enc_inj h.1, encL_inj h.2]
end
def bindD (x : Int × Ty) : AV := .agg [.int .i64 x.1, .int .i64 x.2.kind, .int .i64 x.2.n, .isl x.2.nl none 0 (encL x.2.l)]
def els : Els := fun t => match t == 24 with
 | true => some ⟨Ty, encD⟩
 | false => match t == 3 with
  | true => some ⟨Int, fun n => .int .i64 n⟩
  | false => match t == 58 with
   | true => some ⟨Int × Ty, bindD⟩
   | false => none
def argTy (v : AV) (K : Ty → Prop) : Prop :=
 match v with
 | .agg [.int .i64 k, .int .i64 n, .isl b none 0 xs] => ∃ l, xs = encL l ∧ K (.mk k n b l)
 | _ => False
theorem argTy_elim {v : AV} {K : Ty → Prop} (h : argTy v K) : ∃ t, v = enc t ∧ K t := by
 unfold argTy at h
 split at h
 ·obtain ⟨l, rfl, h⟩ := h
  exact ⟨_, by simp only [enc], h⟩
 ·exact h.elim
theorem Ty.lt_of_get {l : List Ty} {i : Nat} (h : i < l.length) {k n : Int} {b : Bool} : SizeOf.sizeOf l[i] < SizeOf.sizeOf (Ty.mk k n b l) := by
 have := List.sizeOf_lt_of_mem (List.getElem_mem h)
 simp only [Ty.mk.sizeOf_spec]
 omega
end Go.Am