/-
  What the proof is built of: The program's types as trees, and what they look like. Size, deep: how many types there are in a type, and how many one within the other. The conditions of K1, evaluated. Size comes to what it says. deep, parts, kinds. The conditions of K2, evaluated. deep comes to what it says. valid: one round of its range. The conditions of K3, evaluated. Conditions: none.
-/
import Derived.Test.YtnmolpkkemljoaaGreatDoorM3
import Derived.Test.YtnmolpkkemljoaaGreatDoorProg
import Derived.KernelRfl
set_option linter.unusedVariables false
set_option linter.unusedSimpArgs false
set_option maxHeartbeats 8000000
set_option maxRecDepth 100000
section
namespace Go.Am
open Go
inductive Ty where
 | mk (kind n : Int) (nl : Bool) (l : List Ty)
def Ty.kind : Ty → Int | .mk k _ _ _ => k
def Ty.n : Ty → Int | .mk _ n _ _ => n
def Ty.nl : Ty → Bool | .mk _ _ b _ => b
def Ty.l : Ty → List Ty | .mk _ _ _ l => l
theorem Ty.eta (x : Ty) : Ty.mk x.kind x.n x.nl x.l = x := by cases x; rfl
mutual
def enc : Ty → AV
 | .mk k n b l => .agg [.int .i64 k, .int .i64 n, .isl b none 0 (encL l)]
def encL : List Ty → List AV
 | [] => []
 | x :: xs => enc x :: encL xs
end
def encD (x : Ty) : AV := .agg [.int .i64 x.kind, .int .i64 x.n, .isl x.nl none 0 (encL x.l)]
theorem enc_D (x : Ty) : enc x = encD x := by cases x; simp only [enc, encD, Ty.kind, Ty.n, Ty.nl, Ty.l]
theorem encL_map : ∀ l, encL l = l.map enc
 | [] => by simp [encL]
 | x :: xs => by simp [encL, encL_map xs]
theorem encL_length (l : List Ty) : (encL l).length = l.length := by simp [encL_map]
theorem encL_get (l : List Ty) (i : Nat) (h : i < l.length) : (encL l)[i]? = some (encD l[i]) := by
 rw [encL_map, List.getElem?_map, List.getElem?_eq_getElem h, ← enc_D]; rfl
mutual
theorem enc_still : ∀ x, (enc x).still = true
 | .mk k n b l => by simp only [enc, AV.still, AV.stillL, Bool.true_and, Bool.and_true]; exact encL_still l
theorem encL_still : ∀ l, AV.stillL (encL l) = true
 | [] => by simp [encL, AV.stillL]
 | x :: xs => by simp only [encL, AV.stillL, Bool.and_eq_true]; exact ⟨enc_still x, encL_still xs⟩
end
theorem encL_bnd (n nf : Nat) (l : List Ty) : AV.bndL n nf (encL l) = true := AV.still_bndL n nf _ (encL_still l)
mutual
theorem enc_inj : ∀ {x y : Ty}, enc x = enc y → x = y
 | .mk k n b l, .mk k' n' b' l', h => by
  simp only [enc, AV.agg.injEq, List.cons.injEq, AV.int.injEq, true_and, AV.isl.injEq, and_true] at h
  obtain ⟨rfl, rfl, rfl, h⟩ := h
  rw [encL_inj h]
theorem encL_inj : ∀ {l l' : List Ty}, encL l = encL l' → l = l'
 | [], [], _ => rfl
 | [], _ :: _, h => by simp [encL] at h
 | _ :: _, [], h => by simp [encL] at h
 | x :: xs, y :: ys, h => by
  simp only [encL, List.cons.injEq] at h
  rw [enc_inj h.1, encL_inj h.2]
end
def bindD (x : Int × Ty) : AV := .agg [.int .i64 x.1, .int .i64 x.2.kind, .int .i64 x.2.n, .isl x.2.nl none 0 (encL x.2.l)]
def els : Els := fun t => match t == 24 with
 | true => some ⟨Ty, encD⟩
 | false => match t == 3 with
  | true => some ⟨Int, fun n => .int .i64 n⟩
  | false => match t == 58 with
   | true => some ⟨Int × Ty, bindD⟩
   | false => none
def argTy (v : AV) (K : Ty → Prop) : Prop :=
 match v with
 | .agg [.int .i64 k, .int .i64 n, .isl b none 0 xs] => ∃ l, xs = encL l ∧ K (.mk k n b l)
 | _ => False
theorem argTy_elim {v : AV} {K : Ty → Prop} (h : argTy v K) : ∃ t, v = enc t ∧ K t := by
 unfold argTy at h
 split at h
 ·obtain ⟨l, rfl, h⟩ := h
  exact ⟨_, by simp only [enc], h⟩
 ·exact h.elim
theorem Ty.lt_of_get {l : List Ty} {i : Nat} (h : i < l.length) {k n : Int} {b : Bool} : SizeOf.sizeOf l[i] < SizeOf.sizeOf (Ty.mk k n b l) := by
 have := List.sizeOf_lt_of_mem (List.getElem_mem h)
 simp only [Ty.mk.sizeOf_spec]
 omega
end Go.Am
end
section
namespace Kd
open Go.Am
mutual
def sizeT : Ty → Int → Int
 | .mk _ _ _ l, most => sizeG l 1 most
def sizeG : List Ty → Int → Int → Int
 | [], n, _ => n
 | x :: xs, n, most => if n ≤ most then sizeG xs (n + sizeT x (most - n)) most else n
end
end Kd
noncomputable section
namespace Go.Proofs.YtnmolpkkemljoaaGreatDoor
open Go Go.Am Kd
theorem hmix : Tryz.prog.follows .mixedOrders = true := by kernel_rfl
def mu0 : Oper → Bool := fun _ => false
abbrev QJ := QuietJ Tryz.prog g0
abbrev FJ := FuncJ Tryz.prog g0
abbrev loopC := loopOf Tryz.prog
theorem wrap_id {n : Int} (h1 : -9223372036854775808 ≤ n) (h2 : n ≤ 9223372036854775807) : IntKind.i64.wrap n = n := by
 have e : (IntKind.i64.wrap n) = if n % 18446744073709551616 ≥ 9223372036854775808 then n % 18446744073709551616 - 18446744073709551616 else n % 18446744073709551616 := by
  simp [IntKind.wrap, IntKind.signed, IntKind.bits]
 rw [e]
 split <;> omega
def sizeSt (k n0 : Int) (b : Bool) (l : List Ty) (most : Int) : LSt (Nat × Int) Int where
 n := 1
 nf := 0
 rd := none
 fr x := frm 31 [(1, .int .i64 most), (2, .ptr 0 0), (5, .int .i64 x.2), (6, .int .i64 x.1)]
 hp _ := ⟨[.cells [.int .i64 k, .int .i64 n0, .isl b none 0 (encL l)] 24], []⟩
 inv x := x.1 ≤ l.length ∧ (x.1 : Int) + 1 ≤ x.2 ∧ x.2 ≤ most + 1
 res x := sizeG (l.drop x.1) x.2 most
 sel _ := true
 out _ r := ⟨.exit 0, frm 31 [(2, .ptr 0 0), (5, .int .i64 r)], ⟨[.cells [.int .i64 k, .int .i64 n0, .isl b none 0 (encL l)] 24], []⟩⟩
def sizeQ (N : Nat) : QSpec
 | [t, m], K => argTy t fun t => argInt m fun m => (SizeOf.sizeOf t < N ∧ 0 ≤ m ∧ m ≤ 1000) ∧ K (.int .i64 (sizeT t m))
 | _, _ => False
def rA (f k : Nat) : Code := (rangeOf Tryz.prog f k).2.1
def rB (f k : Nat) : Code := (rangeOf Tryz.prog f k).2.2
def rP (f k : Nat) : Array Tmp := (rangeOf Tryz.prog f k).1
def runF (hk : Hooks) (n : Nat) (f : FuncId) (args : List AV) (A : AH) (K : AFin → Prop) : Prop := sFuncR Tryz.prog (Rm.W Tryz.prog g0 els mu0 hk n) f args A K
def runC (hk : Hooks) (n : Nat) (rd : Option Nat) (c : Code) (a : AAct) (A : AH) (K : AOut → Prop) : Prop := fCodeR Tryz.prog g0 els mu0 hk (Rm.W Tryz.prog g0 els mu0 hk n) rd c a A K
def runL {ι ρ : Type} (hk : Hooks) (n : Nat) (f k : Nat) (s : LSt ι ρ) (meas : ι → Nat) (x : ι) : Prop := runC hk n s.rd (loopC f k) (s.fr x) (s.hp x) (s.post meas x)
abbrev hooks := mkHooks Tryz.prog
def sizeH (N : Nat) : Hooks := hooks [(48, sizeQ N)] [] []
def sizeH' (k n0 : Int) (b : Bool) (l : List Ty) (most : Int) : Hooks := hooks [] [] [(3, ⟨48, 0, (sizeSt k n0 b l most).spec⟩)]
end Go.Proofs.YtnmolpkkemljoaaGreatDoor
end
end
section
noncomputable section
namespace Go.Proofs.YtnmolpkkemljoaaGreatDoor
open Go Go.Am Kd Go.Am.AV Go.IntKind
theorem size_loop (k n0 : Int) (b : Bool) (l : List Ty) (most : Int) (N : Nat) (meas : Nat × Int → Nat) (x : Nat × Int) : (runL (sizeH N) 40 48 0 (sizeSt k n0 b l most) meas x) = ( bothR (decide (iC (Prod.fst x) < iC (List.length (encL l)))) (bothR (decide (Prod.snd x ≤ most)) (0 ≤ iC (Prod.fst x) ∧ ∃ x_1, (encL l)[Int.toNat (iC (Prod.fst x))]? = some (agg [int i64 (Ty.kind x_1), int i64 (Ty.n x_1), isl (Ty.nl x_1) none (0) (encL (Ty.l x_1))]) ∧ ∃ l_1, encL (Ty.l x_1) = encL l_1 ∧ (SizeOf.sizeOf (Ty.mk (Ty.kind x_1) (Ty.n x_1) (Ty.nl x_1) l_1) < N ∧
 0 ≤ IntKind.wrap IntKind.i64 (most - Prod.snd x) ∧ IntKind.wrap IntKind.i64 (most - Prod.snd x) ≤ 1000) ∧ ∃ y, (Prod.fst y ≤ List.length l ∧ iC (Prod.fst y) + (1 : Int) ≤ Prod.snd y ∧ Prod.snd y ≤ most + (1 : Int)) ∧ meas y < meas x ∧ sizeG (List.drop (Prod.fst y) l) (Prod.snd y) most = sizeG (List.drop (Prod.fst x) l) (Prod.snd x) most ∧ int i64 most = int i64 most ∧ ptr (0) (0) = ptr (0) (0) ∧ int i64 (IntKind.wrap IntKind.i64 (Prod.snd x + sizeT (Ty.mk (Ty.kind x_1) (Ty.n x_1) (Ty.nl x_1) l_1) (IntKind.wrap IntKind.i64 (most - Prod.snd x)))) =
 int i64 (Prod.snd y) ∧ int i64 (IntKind.wrap IntKind.i64 (iC (Prod.fst x) + (1 : Int))) = int i64 (iC (Prod.fst y)) ∧ 24 = 24 ∧ int i64 k = int i64 k ∧ int i64 n0 = int i64 n0 ∧ isl b none (0) (encL l) = isl b none (0) (encL l) ∧ 0 = 0 ∧ True) (true = true ∧ ptr (0) (0) = ptr (0) (0) ∧ int i64 (Prod.snd x) = int i64 (sizeG (List.drop (Prod.fst x) l) (Prod.snd x) most) ∧ 24 = 24 ∧ int i64 k = int i64 k ∧ int i64 n0 = int i64 n0 ∧
 isl b none (0) (encL l) = isl b none (0) (encL l) ∧ 0 = 0 ∧ True)) (true = true ∧ ptr (0) (0) = ptr (0) (0) ∧ int i64 (Prod.snd x) = int i64 (sizeG (List.drop (Prod.fst x) l) (Prod.snd x) most) ∧ 24 = 24 ∧ int i64 k = int i64 k ∧ int i64 n0 = int i64 n0 ∧ isl b none (0) (encL l) = isl b none (0) (encL l) ∧ 0 = 0 ∧ True)) := by kernel_rfl
theorem size_top (k n0 : Int) (b : Bool) (l : List Ty) (most r : Int) : (runF (sizeH' k n0 b l most) 40 48 [enc (.mk k n0 b l), .int .i64 most] AH.nil (retIs Tryz.prog 5 (.int .i64 r))) = ( codeIs (loopOf Tryz.prog 48 0) Tryz.prog 48 0 (∃ x, (Prod.fst x ≤ List.length l ∧ iC (Prod.fst x) + (1 : Int) ≤ Prod.snd x ∧ Prod.snd x ≤ most + (1 : Int)) ∧ int i64 most = int i64 most ∧ ptr (0) (0) = ptr (0) (0) ∧ int i64 (1) = int i64 (Prod.snd x) ∧ int i64 (0) = int i64 (iC (Prod.fst x)) ∧ 24 = 24 ∧
 int i64 k = int i64 k ∧ int i64 n0 = int i64 n0 ∧ isl b none (0) (encL l) = isl b none (0) (encL l) ∧ 0 = 0 ∧ int i64 (sizeG (List.drop (Prod.fst x) l) (Prod.snd x) most) = int i64 r)) := by kernel_rfl
end Go.Proofs.YtnmolpkkemljoaaGreatDoor
end
end
section
noncomputable section
namespace Go.Proofs.YtnmolpkkemljoaaGreatDoor
open Go Go.Am Kd
theorem sizeT_bd : (∀ (t : Ty) (m : Int), 0 ≤ m → 1 ≤ sizeT t m ∧ sizeT t m ≤ m + 1) := by
 have key : ∀ (N : Nat), (∀ (t : Ty) (m : Int), SizeOf.sizeOf t < N → 0 ≤ m → 1 ≤ sizeT t m ∧ sizeT t m ≤ m + 1) ∧
   (∀ (l : List Ty) (n m : Int), SizeOf.sizeOf l < N → 1 ≤ n → n ≤ m + 1 → 1 ≤ sizeG l n m ∧ sizeG l n m ≤ m + 1) := by
  intro N
  induction N with
  | zero => exact ⟨fun _ _ h => by omega, fun _ _ _ h => by omega⟩
  | succ N ih =>
   obtain ⟨ih1, ih2⟩ := ih
   constructor
   ·intro t m ht hm
    cases t with
    | mk k n b l =>
     simp only [Ty.mk.sizeOf_spec] at ht
     simp only [sizeT]
     exact ih2 l 1 m (by omega) (by omega) (by omega)
   ·intro l n m hl h1 h2
    cases l with
    | nil => simp only [sizeG]; omega
    | cons x xs =>
     simp only [List.cons.sizeOf_spec] at hl
     simp only [sizeG]
     split
     ·have := ih1 x (m - n) (by omega) (by omega)
      exact ih2 xs _ m (by omega) (by omega) (by omega)
     ·omega
 intro t m hm
 exact (key (SizeOf.sizeOf t + 1)).1 t m (by omega) hm
theorem size_hook {N : Nat} (ih : ∀ t m, SizeOf.sizeOf t < N → 0 ≤ m → m ≤ 1000 → QJ 48 [enc t, .int .i64 m] (.int .i64 (sizeT t m))) : QSpec.Ok Tryz.prog g0 48 (sizeQ N) := by
 intro args K h'
 unfold sizeQ at h'
 split at h'
 ·obtain ⟨t, rfl, h⟩ := argTy_elim h'
  obtain ⟨m, rfl, h1, h2⟩ := argInt_elim h
  exact ⟨_, ih t m h1.1 h1.2.1 h1.2.2, h2⟩
 ·exact h'.elim
theorem size_ok (t : Ty) (m : Int) (h0 : 0 ≤ m) (h1 : m ≤ 1000) : QJ 48 [enc t, .int .i64 m] (.int .i64 (sizeT t m)) := by
 have key : ∀ (N : Nat) (t : Ty) (m : Int), SizeOf.sizeOf t < N → 0 ≤ m → m ≤ 1000 → QJ 48 [enc t, .int .i64 m] (.int .i64 (sizeT t m)) := by
  intro N
  induction N with
  | zero => intro t m h; omega
  | succ N ih =>
   intro t m ht h0 h1
   obtain ⟨k, n0, b, l⟩ := t
   have hl : LHook.Ok Tryz.prog g0 ⟨48, 0, (sizeSt k n0 b l m).spec⟩ := by
    refine LSt.ok (sizeSt k n0 b l m) (fun x => l.length - x.1) (by intro l h; cases h) ?_ ?_ ?_
    ·intro x _
     exact Whole.frm rfl rfl rfl (by simp [sizeSt, ABlk.bnd, AV.bndL, AV.bnd, encL_bnd])
    ·intro x b' _
     exact Whole.frm rfl rfl rfl (by simp [sizeSt, ABlk.bnd, AV.bndL, AV.bnd, encL_bnd])
    ·rintro ⟨i, n⟩ ⟨hi, hn1, hn2⟩
     simp only at hi hn1 hn2
     have hh : Hooks.Ok Tryz.prog g0 (sizeH N) := mkHooks_ok (all_cons (size_hook ih) all_nil) all_nil all_nil
     refine CodeJ.run (el := els) (mu := mu0) hmix hh (n := 40) ?_
     show runL (sizeH N) 40 48 0 (sizeSt k n0 b l m) (fun x => l.length - x.1) (i, n)
     rw [size_loop]
     simp only [iC, encL_length, eq_self, true_and, and_true]
     refine bothR_dec (fun hlt => bothR_dec (fun hle => ?_) fun hgt => ?_) fun hge => ?_
     ·have hi' : i < l.length := by omega
      have hb := sizeT_bd l[i] (m - n) (by omega)
      have hd : l.drop i = l[i] :: l.drop (i + 1) := List.drop_eq_getElem_cons hi'
      have hs := Ty.lt_of_get (k := k) (n := n0) (b := b) hi'
      refine ⟨by omega, l[i], encL_get l i hi', l[i].l, rfl, ?_⟩
      rw [Ty.eta, wrap_id (by omega) (by omega), wrap_id (by omega) (by omega), wrap_id (by omega) (by omega)]
      refine ⟨⟨by omega, by omega, by omega⟩, ⟨(i + 1, n + sizeT l[i] (m - n)), ⟨by omega, by simp only [Int.natCast_add, Int.cast_ofNat_Int]; omega, by simp only; omega⟩, by simp only; omega, ?_, rfl, rfl⟩⟩
      rw [hd]
      simp only [sizeG, if_pos hle]
     ·have hi' : i < l.length := by omega
      rw [List.drop_eq_getElem_cons hi']
      simp only [sizeG, if_neg hgt]
     ·rw [List.drop_of_length_le (by omega)]
      simp only [sizeG]
   have ht := QuietJ.ret (P := Tryz.prog) (G := g0) (f := 48) (args := [enc (.mk k n0 b l), .int .i64 m]) (v := .int .i64 (sizeT (.mk k n0 b l) m)) 5 (by simp [AV.stillL, AV.still, enc_still]) rfl
   refine ht (FuncJ.run (el := els) (mu := mu0) (hk := sizeH' k n0 b l m) hmix (mkHooks_ok all_nil all_nil (all_cons hl all_nil)) (n := 40) ?_)
   show runF (sizeH' k n0 b l m) 40 48 _ AH.nil _
   rw [size_top]
   simp only [eq_self, true_and, codeIs_self]
   simp only [iC]
   exact ⟨(0, 1), ⟨by simp, by simp, by simp only; omega⟩, rfl, rfl, by simp only [List.drop_zero, sizeT]⟩
 exact key _ t m (Nat.lt_succ_self _) h0 h1
end Go.Proofs.YtnmolpkkemljoaaGreatDoor
end
end
section
namespace Kd
open Go.Am
mutual
def cnt : Ty → Nat
 | .mk _ _ _ l => cntL l + 1
def cntL : List Ty → Nat
 | [] => 0
 | x :: xs => cnt x + cntL xs
end
theorem cnt_pos (t : Ty) : 1 ≤ cnt t := by cases t; simp [cnt]
theorem cnt_get : ∀ {l : List Ty} {i : Nat} (h : i < l.length), cnt l[i] ≤ cntL l
 | x :: xs, 0, _ => by simp only [cntL, List.getElem_cons_zero]; omega
 | x :: xs, i + 1, h => by simp only [cntL, List.getElem_cons_succ]; have := cnt_get (l := xs) (i := i) (by simpa using h); omega
theorem len_cnt : ∀ (l : List Ty), l.length ≤ cntL l
 | [] => by simp
 | x :: xs => by simp only [cntL, List.length_cons]; have := len_cnt xs; have := cnt_pos x; omega
mutual
def deepT : Ty → Int → Int
 | .mk _ _ _ l, most => deepG l 0 most + 1
def deepG : List Ty → Int → Int → Int
 | [], n, _ => n
 | x :: xs, n, most => if 0 < most then deepG xs (max n (deepT x (most - 1))) most else n
end
end Kd
noncomputable section
namespace Go.Proofs.YtnmolpkkemljoaaGreatDoor
open Go Go.Am Kd
def deepSt (k n0 : Int) (b : Bool) (l : List Ty) (most : Int) : LSt (Nat × Int) Int where
 n := 1
 nf := 0
 rd := none
 fr x := frm 29 [(1, .int .i64 most), (2, .ptr 0 0), (4, .int .i64 x.2), (5, .int .i64 x.1)]
 hp _ := ⟨[.cells [.int .i64 k, .int .i64 n0, .isl b none 0 (encL l)] 24], []⟩
 inv x := x.1 ≤ l.length ∧ 0 ≤ x.2 ∧ x.2 ≤ most
 res x := deepG (l.drop x.1) x.2 most
 sel _ := true
 out _ r := ⟨.exit 0, frm 29 [(4, .int .i64 r)], ⟨[.cells [.int .i64 k, .int .i64 n0, .isl b none 0 (encL l)] 24], []⟩⟩
def deepQ (N : Nat) : QSpec
 | [t, m], K => argTy t fun t => argInt m fun m => (SizeOf.sizeOf t < N ∧ cnt t ≤ 1000 ∧ 0 ≤ m ∧ m ≤ 1000) ∧ K (.int .i64 (deepT t m))
 | _, _ => False
def deepH (N : Nat) : Hooks := hooks [(109, deepQ N)] [] []
def deepH' (k n0 : Int) (b : Bool) (l : List Ty) (most : Int) : Hooks := hooks [] [] [(2, ⟨109, 0, (deepSt k n0 b l most).spec⟩)]
end Go.Proofs.YtnmolpkkemljoaaGreatDoor
end
end
section
noncomputable section
namespace Go.Proofs.YtnmolpkkemljoaaGreatDoor
open Go Go.Am Kd Go.Am.AV Go.IntKind
theorem deep_loop (k n0 : Int) (b : Bool) (l : List Ty) (most : Int) (N : Nat) (meas : Nat × Int → Nat) (x : Nat × Int) : (runL (deepH N) 40 109 0 (deepSt k n0 b l most) meas x) = ( bothR (decide (iC (Prod.fst x) < iC (List.length (encL l)))) (bothR (decide ((0 : Int) < most)) (0 ≤ iC (Prod.fst x) ∧ ∃ x_1, (encL l)[Int.toNat (iC (Prod.fst x))]? = some (agg [int i64 (Ty.kind x_1), int i64 (Ty.n x_1), isl (Ty.nl x_1) none (0) (encL (Ty.l x_1))]) ∧ ∃ l_1, encL (Ty.l x_1) = encL l_1 ∧ (SizeOf.sizeOf (Ty.mk (Ty.kind x_1) (Ty.n x_1) (Ty.nl x_1) l_1) < N ∧
 cnt (Ty.mk (Ty.kind x_1) (Ty.n x_1) (Ty.nl x_1) l_1) ≤ 1000 ∧ 0 ≤ IntKind.wrap IntKind.i64 (most - (1 : Int)) ∧ IntKind.wrap IntKind.i64 (most - (1 : Int)) ≤ 1000) ∧ ∃ y, (Prod.fst y ≤ List.length l ∧ 0 ≤ Prod.snd y ∧ Prod.snd y ≤ most) ∧ meas y < meas x ∧ deepG (List.drop (Prod.fst y) l) (Prod.snd y) most = deepG (List.drop (Prod.fst x) l) (Prod.snd x) most ∧ int i64 most = int i64 most ∧ ptr (0) (0) = ptr (0) (0) ∧ int i64 (if deepT (Ty.mk (Ty.kind x_1) (Ty.n x_1) (Ty.nl x_1) l_1) (IntKind.wrap IntKind.i64 (most - (1 : Int))) > Prod.snd x then
 deepT (Ty.mk (Ty.kind x_1) (Ty.n x_1) (Ty.nl x_1) l_1) (IntKind.wrap IntKind.i64 (most - (1 : Int))) else Prod.snd x) = int i64 (Prod.snd y) ∧ int i64 (IntKind.wrap IntKind.i64 (iC (Prod.fst x) + (1 : Int))) = int i64 (iC (Prod.fst y)) ∧ 24 = 24 ∧ int i64 k = int i64 k ∧ int i64 n0 = int i64 n0 ∧ isl b none (0) (encL l) = isl b none (0) (encL l) ∧ 0 = 0 ∧ True) (true = true ∧ int i64 (Prod.snd x) = int i64 (deepG (List.drop (Prod.fst x) l) (Prod.snd x) most) ∧ 24 = 24 ∧
 int i64 k = int i64 k ∧ int i64 n0 = int i64 n0 ∧ isl b none (0) (encL l) = isl b none (0) (encL l) ∧ 0 = 0 ∧ True)) (true = true ∧ int i64 (Prod.snd x) = int i64 (deepG (List.drop (Prod.fst x) l) (Prod.snd x) most) ∧ 24 = 24 ∧ int i64 k = int i64 k ∧ int i64 n0 = int i64 n0 ∧ isl b none (0) (encL l) = isl b none (0) (encL l) ∧ 0 = 0 ∧ True)) := by kernel_rfl
theorem deep_top (k n0 : Int) (b : Bool) (l : List Ty) (most r : Int) : (runF (deepH' k n0 b l most) 40 109 [enc (.mk k n0 b l), .int .i64 most] AH.nil (retIs Tryz.prog 5 (.int .i64 r))) = ( codeIs (loopOf Tryz.prog 109 0) Tryz.prog 109 0 (∃ x, (Prod.fst x ≤ List.length l ∧ 0 ≤ Prod.snd x ∧ Prod.snd x ≤ most) ∧ int i64 most = int i64 most ∧ ptr (0) (0) = ptr (0) (0) ∧ int i64 (0) = int i64 (Prod.snd x) ∧ int i64 (0) = int i64 (iC (Prod.fst x)) ∧ 24 = 24 ∧ int i64 k = int i64 k ∧
 int i64 n0 = int i64 n0 ∧ isl b none (0) (encL l) = isl b none (0) (encL l) ∧ 0 = 0 ∧ int i64 (IntKind.wrap IntKind.i64 (deepG (List.drop (Prod.fst x) l) (Prod.snd x) most + (1 : Int))) = int i64 r)) := by kernel_rfl
end Go.Proofs.YtnmolpkkemljoaaGreatDoor
end
end
section
noncomputable section
namespace Go.Proofs.YtnmolpkkemljoaaGreatDoor
open Go Go.Am Kd
theorem deep_bd : (∀ (t : Ty) (m : Int), 0 ≤ m → 1 ≤ deepT t m ∧ deepT t m ≤ m + 1) ∧ ∀ (l : List Ty) (n m : Int), 0 ≤ n → n ≤ m → 0 ≤ deepG l n m ∧ deepG l n m ≤ m := by
 have key : ∀ (N : Nat), (∀ (t : Ty) (m : Int), SizeOf.sizeOf t < N → 0 ≤ m → 1 ≤ deepT t m ∧ deepT t m ≤ m + 1) ∧
   (∀ (l : List Ty) (n m : Int), SizeOf.sizeOf l < N → 0 ≤ n → n ≤ m → 0 ≤ deepG l n m ∧ deepG l n m ≤ m) := by
  intro N
  induction N with
  | zero => exact ⟨fun _ _ h => by omega, fun _ _ _ h => by omega⟩
  | succ N ih =>
   obtain ⟨ih1, ih2⟩ := ih
   constructor
   ·intro t m ht hm
    cases t with
    | mk k n b l =>
     simp only [Ty.mk.sizeOf_spec] at ht
     simp only [deepT]
     have := ih2 l 0 m (by omega) (by omega) (by omega)
     omega
   ·intro l n m hl h1 h2
    cases l with
    | nil => simp only [deepG]; omega
    | cons x xs =>
     simp only [List.cons.sizeOf_spec] at hl
     simp only [deepG]
     split
     ·have := ih1 x (m - 1) (by omega) (by omega)
      exact ih2 xs _ m (by omega) (by omega) (by omega)
     ·omega
 exact ⟨fun t m hm => (key (SizeOf.sizeOf t + 1)).1 t m (by omega) hm, fun l n m => (key (SizeOf.sizeOf l + 1)).2 l n m (by omega)⟩
theorem deep_hook {N : Nat} (ih : ∀ t m, SizeOf.sizeOf t < N → cnt t ≤ 1000 → 0 ≤ m → m ≤ 1000 → QJ 109 [enc t, .int .i64 m] (.int .i64 (deepT t m))) : QSpec.Ok Tryz.prog g0 109 (deepQ N) := by
 intro args K h'
 unfold deepQ at h'
 split at h'
 ·obtain ⟨t, rfl, h⟩ := argTy_elim h'
  obtain ⟨m, rfl, h1, h2⟩ := argInt_elim h
  exact ⟨_, ih t m h1.1 h1.2.1 h1.2.2.1 h1.2.2.2, h2⟩
 ·exact h'.elim
theorem deep_ok (t : Ty) (m : Int) (hc : cnt t ≤ 1000) (h0 : 0 ≤ m) (h1 : m ≤ 1000) : QJ 109 [enc t, .int .i64 m] (.int .i64 (deepT t m)) := by
 have key : ∀ (N : Nat) (t : Ty) (m : Int), SizeOf.sizeOf t < N → cnt t ≤ 1000 → 0 ≤ m → m ≤ 1000 → QJ 109 [enc t, .int .i64 m] (.int .i64 (deepT t m)) := by
  intro N
  induction N with
  | zero => intro t m h; omega
  | succ N ih =>
   intro t m ht hc h0 h1
   obtain ⟨k, n0, b, l⟩ := t
   have hl : LHook.Ok Tryz.prog g0 ⟨109, 0, (deepSt k n0 b l m).spec⟩ := by
    refine LSt.ok (deepSt k n0 b l m) (fun x => l.length - x.1) (by intro l h; cases h) ?_ ?_ ?_
    ·intro x _
     exact Whole.frm rfl rfl rfl (by simp [deepSt, ABlk.bnd, AV.bndL, AV.bnd, encL_bnd])
    ·intro x b' _
     exact Whole.frm rfl rfl rfl (by simp [deepSt, ABlk.bnd, AV.bndL, AV.bnd, encL_bnd])
    ·rintro ⟨i, n⟩ ⟨hi, hn1, hn2⟩
     simp only at hi hn1 hn2
     have hh : Hooks.Ok Tryz.prog g0 (deepH N) := mkHooks_ok (all_cons (deep_hook ih) all_nil) all_nil all_nil
     refine CodeJ.run (el := els) (mu := mu0) hmix hh (n := 40) ?_
     show runL (deepH N) 40 109 0 (deepSt k n0 b l m) (fun x => l.length - x.1) (i, n)
     rw [deep_loop]
     simp only [iC, encL_length, eq_self, true_and, and_true]
     refine bothR_dec (fun hlt => bothR_dec (fun hle => ?_) fun hgt => ?_) fun hge => ?_
     ·have hi' : i < l.length := by omega
      have hc1 := cnt_get hi'
      have hc2 := len_cnt l
      simp only [cnt] at hc
      have hb := deep_bd.1 l[i] (m - 1) (by omega)
      have hd : l.drop i = l[i] :: l.drop (i + 1) := List.drop_eq_getElem_cons hi'
      have hs := Ty.lt_of_get (k := k) (n := n0) (b := b) hi'
      refine ⟨by omega, l[i], encL_get l i hi', l[i].l, rfl, ?_⟩
      rw [Ty.eta, wrap_id (by omega) (by omega), wrap_id (by omega) (by omega)]
      refine ⟨⟨by omega, by omega, by omega, by omega⟩, ⟨(i + 1, max n (deepT l[i] (m - 1))), ⟨by omega, by simp only; omega, by simp only; omega⟩, by simp only; omega, ?_, ?_, rfl⟩⟩
      ·rw [hd]
       simp only [deepG, if_pos hle]
      ·congr 1
       simp only
       split <;> omega
     ·have hi' : i < l.length := by omega
      rw [List.drop_eq_getElem_cons hi']
      simp only [deepG, if_neg hgt]
     ·rw [List.drop_of_length_le (by omega)]
      simp only [deepG]
   have ht := QuietJ.ret (P := Tryz.prog) (G := g0) (f := 109) (args := [enc (.mk k n0 b l), .int .i64 m]) (v := .int .i64 (deepT (.mk k n0 b l) m)) 5 (by simp [AV.stillL, AV.still, enc_still]) rfl
   refine ht (FuncJ.run (el := els) (mu := mu0) (hk := deepH' k n0 b l m) hmix (mkHooks_ok all_nil all_nil (all_cons hl all_nil)) (n := 40) ?_)
   show runF (deepH' k n0 b l m) 40 109 _ AH.nil _
   rw [deep_top]
   simp only [eq_self, true_and, codeIs_self]
   simp only [iC]
   have := deep_bd.2 l 0 m (by omega) h0
   refine ⟨(0, 0), ⟨by simp, by simp, by simp only; omega⟩, rfl, rfl, ?_⟩
   simp only [List.drop_zero, deepT]
   rw [wrap_id (by omega) (by omega)]
 exact key _ t m (Nat.lt_succ_self _) hc h0 h1
end Go.Proofs.YtnmolpkkemljoaaGreatDoor
end
end
section
namespace Kd
open Go.Am
def NodeOk : Ty → Prop
 | .mk k n _ l => 0 ≤ k ∧ k < 7 ∧ (k = 0 ∨ k = 1 ∨ k = 6 → l.length = 0) ∧ (k = 2 ∨ k = 3 ∨ k = 5 → l.length = 2) ∧ (k = 4 → l.length = 1) ∧ (k = 6 → 0 ≤ n ∧ n < 1000)
end Kd
noncomputable section
namespace Go.Proofs.YtnmolpkkemljoaaGreatDoor
open Go Go.Am Kd
def kindsL : List AV := [.int .i64 0, AV.str [117, 110, 105, 116], AV.str [], AV.str [], .int .i64 0, AV.fn (Fn.func 116) [] [], .int .i64 0, AV.str [105, 110, 116], AV.str [], AV.str [], .int .i64 1, AV.fn (Fn.func 116) [] [], .int .i64 2, AV.str [40], AV.str [32, 42, 32], AV.str [41], .int .i64 0, AV.fn (Fn.func 116) [] [], .int .i64 2, AV.str [40], AV.str [32, 43, 32], AV.str [41], .int .i64 1, AV.fn (Fn.func 116) [] [], .int .i64 1, AV.str [91], AV.str [], AV.str [93], .int .i64 2, AV.fn (Fn.func 117) [] [], .int .i64 2, AV.str [40], AV.str [32, 45, 62, 32], AV.str [41], .int .i64 0, AV.fn (Fn.func 116) [] [], .int .i64 0, AV.str [39], AV.str [], AV.str [], .int .i64 0, AV.fn (Fn.func 116) [] []]
def hpV (st : LoopState) (pd : Option Code) (n : Int) : AH :=
 ⟨[.cells [.top, .top, .top] 24, .cells [.bool false] 4, .cells kindsL 107, .cells [.int .i64 n] 3, .defers,
  .loop st pd (frm 53 [(2, .ptr 1 0), (3, .ptr 2 0), (4, .ptr 3 0)]).tmps (rP 76 0) (rA 76 0) (rB 76 0) 4], []⟩
def hpGo (n : Int) : AH := hpV .ready none n
def hpEnd (n : Int) : AH := hpV .done (some .ret) n
def vPost (n : Int) (p q : Prop) (o : AFin) : Prop :=
 match o.e with
 | .returned (.bool true) => p ∧ BlksR o.A.blks (hpGo n).blks (FamR 0 o.A.fams [] True)
 | .returned (.bool false) => q ∧ BlksR o.A.blks (hpEnd n).blks (FamR 0 o.A.fams [] True)
 | _ => False
def hk0 : Hooks := hooks [] [] []
def runR (hk : Hooks) (n : Nat) (l : Nat) (args : List AV) (A : AH) (K : AFin → Prop) : Prop := sRoundR (Rm.W Tryz.prog g0 els mu0 hk n) l args A K
end Go.Proofs.YtnmolpkkemljoaaGreatDoor
end
end
section
noncomputable section
namespace Go.Proofs.YtnmolpkkemljoaaGreatDoor
open Go Go.Am Kd Go.Am.AV Go.IntKind
theorem valid_round (k n0 : Int) (b : Bool) (l : List Ty) (n : Int) (p q : Prop) : (runR hk0 60 5 [enc (.mk k n0 b l)] (hpGo n) (vPost (n + 1) p q)) = ( bothR (decide ((60 : Int) < IntKind.wrap IntKind.i64 (n + (1 : Int)))) (q ∧ 24 = 24 ∧ 4 = 4 ∧ SubR [bool false] [bool false] (107 = 107 ∧ SubR kindsL kindsL (3 = 3 ∧ int i64 (IntKind.wrap IntKind.i64 (n + (1 : Int))) = int i64 (n + (1 : Int)) ∧ (LoopState.done = LoopState.done ∧ some Code.ret = some Code.ret ∧ ((Array.mk (α := Nat) [12]), rA (76) (0), rB (76) (0)) =
 ((Array.mk (α := Nat) [12]), rA (76) (0), rB (76) (0)) ∧ 4 = 4) ∧ ptr (1) (0) = ptr (1) (0) ∧ ptr (2) (0) = ptr (2) (0) ∧ ptr (3) (0) = ptr (3) (0) ∧ 0 = 0 ∧ True))) (bothR (decide (k < (0 : Int))) (q ∧ 24 = 24 ∧ 4 = 4 ∧ SubR [bool false] [bool false] (107 = 107 ∧ SubR kindsL kindsL (3 = 3 ∧ int i64 (IntKind.wrap IntKind.i64 (n + (1 : Int))) = int i64 (n + (1 : Int)) ∧ (LoopState.done = LoopState.done ∧ some Code.ret = some Code.ret ∧ ((Array.mk (α := Nat) [12]), rA (76) (0), rB (76) (0)) = ((Array.mk (α := Nat) [12]), rA (76) (0), rB (76) (0)) ∧
 4 = 4) ∧ ptr (1) (0) = ptr (1) (0) ∧ ptr (2) (0) = ptr (2) (0) ∧ ptr (3) (0) = ptr (3) (0) ∧ 0 = 0 ∧ True))) (bothR (decide ((7 : Int) ≤ k)) (q ∧ 24 = 24 ∧ 4 = 4 ∧ SubR [bool false] [bool false] (107 = 107 ∧ SubR kindsL kindsL (3 = 3 ∧ int i64 (IntKind.wrap IntKind.i64 (n + (1 : Int))) = int i64 (n + (1 : Int)) ∧ (LoopState.done = LoopState.done ∧ some Code.ret = some Code.ret ∧ ((Array.mk (α := Nat) [12]), rA (76) (0), rB (76) (0)) = ((Array.mk (α := Nat) [12]), rA (76) (0), rB (76) (0)) ∧ 4 = 4) ∧ ptr (1) (0) = ptr (1) (0) ∧
 ptr (2) (0) = ptr (2) (0) ∧ ptr (3) (0) = ptr (3) (0) ∧ 0 = 0 ∧ True))) (bothR (decide (k = (0 : Int))) (bothR (!decide (iC (List.length (encL l)) = (0 : Int))) (q ∧ 24 = 24 ∧ 4 = 4 ∧ SubR [bool false] [bool false] (107 = 107 ∧ SubR kindsL kindsL (3 = 3 ∧ int i64 (IntKind.wrap IntKind.i64 (n + (1 : Int))) = int i64 (n + (1 : Int)) ∧ (LoopState.done = LoopState.done ∧ some Code.ret = some Code.ret ∧ ((Array.mk (α := Nat) [12]), rA (76) (0), rB (76) (0)) = ((Array.mk (α := Nat) [12]), rA (76) (0), rB (76) (0)) ∧ 4 = 4) ∧ ptr (1) (0) = ptr (1) (0) ∧
 ptr (2) (0) = ptr (2) (0) ∧ ptr (3) (0) = ptr (3) (0) ∧ 0 = 0 ∧ True))) (bothR (decide (k = (6 : Int))) (bothR (decide (n0 < (0 : Int))) (q ∧ 24 = 24 ∧ 4 = 4 ∧ SubR [bool false] [bool false] (107 = 107 ∧ SubR kindsL kindsL (3 = 3 ∧ int i64 (IntKind.wrap IntKind.i64 (n + (1 : Int))) = int i64 (n + (1 : Int)) ∧ (LoopState.done = LoopState.done ∧ some Code.ret = some Code.ret ∧ ((Array.mk (α := Nat) [12]), rA (76) (0), rB (76) (0)) = ((Array.mk (α := Nat) [12]), rA (76) (0), rB (76) (0)) ∧ 4 = 4) ∧ ptr (1) (0) = ptr (1) (0) ∧
 ptr (2) (0) = ptr (2) (0) ∧ ptr (3) (0) = ptr (3) (0) ∧ 0 = 0 ∧ True))) (bothR (decide ((1000 : Int) ≤ n0)) (q ∧ 24 = 24 ∧ 4 = 4 ∧ SubR [bool false] [bool false] (107 = 107 ∧ SubR kindsL kindsL (3 = 3 ∧ int i64 (IntKind.wrap IntKind.i64 (n + (1 : Int))) = int i64 (n + (1 : Int)) ∧ (LoopState.done = LoopState.done ∧ some Code.ret = some Code.ret ∧ ((Array.mk (α := Nat) [12]), rA (76) (0), rB (76) (0)) = ((Array.mk (α := Nat) [12]), rA (76) (0), rB (76) (0)) ∧ 4 = 4) ∧ ptr (1) (0) = ptr (1) (0) ∧ ptr (2) (0) = ptr (2) (0) ∧
 ptr (3) (0) = ptr (3) (0) ∧ 0 = 0 ∧ True))) (p ∧ 24 = 24 ∧ 4 = 4 ∧ SubR [bool false] [bool false] (107 = 107 ∧ SubR kindsL kindsL (3 = 3 ∧ int i64 (IntKind.wrap IntKind.i64 (n + (1 : Int))) = int i64 (n + (1 : Int)) ∧ (LoopState.ready = LoopState.ready ∧ (none : Option Code) = none ∧ ((Array.mk (α := Nat) [12]), rA (76) (0), rB (76) (0)) = ((Array.mk (α := Nat) [12]), rA (76) (0), rB (76) (0)) ∧ 4 = 4) ∧ ptr (1) (0) = ptr (1) (0) ∧ ptr (2) (0) = ptr (2) (0) ∧ ptr (3) (0) = ptr (3) (0) ∧ 0 = 0 ∧ True))))) (p ∧ 24 = 24 ∧ 4 = 4 ∧
 SubR [bool false] [bool false] (107 = 107 ∧ SubR kindsL kindsL (3 = 3 ∧ int i64 (IntKind.wrap IntKind.i64 (n + (1 : Int))) = int i64 (n + (1 : Int)) ∧ (LoopState.ready = LoopState.ready ∧ (none : Option Code) = none ∧ ((Array.mk (α := Nat) [12]), rA (76) (0), rB (76) (0)) = ((Array.mk (α := Nat) [12]), rA (76) (0), rB (76) (0)) ∧ 4 = 4) ∧ ptr (1) (0) = ptr (1) (0) ∧ ptr (2) (0) = ptr (2) (0) ∧ ptr (3) (0) = ptr (3) (0) ∧ 0 = 0 ∧ True))))) (bothR (decide (k = (1 : Int))) (bothR (!decide (iC (List.length (encL l)) = (0 : Int))) (q ∧ 24 = 24 ∧
 4 = 4 ∧ SubR [bool false] [bool false] (107 = 107 ∧ SubR kindsL kindsL (3 = 3 ∧ int i64 (IntKind.wrap IntKind.i64 (n + (1 : Int))) = int i64 (n + (1 : Int)) ∧ (LoopState.done = LoopState.done ∧ some Code.ret = some Code.ret ∧ ((Array.mk (α := Nat) [12]), rA (76) (0), rB (76) (0)) = ((Array.mk (α := Nat) [12]), rA (76) (0), rB (76) (0)) ∧ 4 = 4) ∧ ptr (1) (0) = ptr (1) (0) ∧ ptr (2) (0) = ptr (2) (0) ∧ ptr (3) (0) = ptr (3) (0) ∧ 0 = 0 ∧ True))) (bothR (decide (k = (6 : Int))) (bothR (decide (n0 < (0 : Int))) (q ∧ 24 = 24 ∧ 4 = 4 ∧
 SubR [bool false] [bool false] (107 = 107 ∧ SubR kindsL kindsL (3 = 3 ∧ int i64 (IntKind.wrap IntKind.i64 (n + (1 : Int))) = int i64 (n + (1 : Int)) ∧ (LoopState.done = LoopState.done ∧ some Code.ret = some Code.ret ∧ ((Array.mk (α := Nat) [12]), rA (76) (0), rB (76) (0)) = ((Array.mk (α := Nat) [12]), rA (76) (0), rB (76) (0)) ∧ 4 = 4) ∧ ptr (1) (0) = ptr (1) (0) ∧ ptr (2) (0) = ptr (2) (0) ∧ ptr (3) (0) = ptr (3) (0) ∧ 0 = 0 ∧ True))) (bothR (decide ((1000 : Int) ≤ n0)) (q ∧ 24 = 24 ∧ 4 = 4 ∧ SubR [bool false] [bool false] (107 = 107 ∧
 SubR kindsL kindsL (3 = 3 ∧ int i64 (IntKind.wrap IntKind.i64 (n + (1 : Int))) = int i64 (n + (1 : Int)) ∧ (LoopState.done = LoopState.done ∧ some Code.ret = some Code.ret ∧ ((Array.mk (α := Nat) [12]), rA (76) (0), rB (76) (0)) = ((Array.mk (α := Nat) [12]), rA (76) (0), rB (76) (0)) ∧ 4 = 4) ∧ ptr (1) (0) = ptr (1) (0) ∧ ptr (2) (0) = ptr (2) (0) ∧ ptr (3) (0) = ptr (3) (0) ∧ 0 = 0 ∧ True))) (p ∧ 24 = 24 ∧ 4 = 4 ∧ SubR [bool false] [bool false] (107 = 107 ∧ SubR kindsL kindsL (3 = 3 ∧
 int i64 (IntKind.wrap IntKind.i64 (n + (1 : Int))) = int i64 (n + (1 : Int)) ∧ (LoopState.ready = LoopState.ready ∧ (none : Option Code) = none ∧ ((Array.mk (α := Nat) [12]), rA (76) (0), rB (76) (0)) = ((Array.mk (α := Nat) [12]), rA (76) (0), rB (76) (0)) ∧ 4 = 4) ∧ ptr (1) (0) = ptr (1) (0) ∧ ptr (2) (0) = ptr (2) (0) ∧ ptr (3) (0) = ptr (3) (0) ∧ 0 = 0 ∧ True))))) (p ∧ 24 = 24 ∧ 4 = 4 ∧ SubR [bool false] [bool false] (107 = 107 ∧ SubR kindsL kindsL (3 = 3 ∧
 int i64 (IntKind.wrap IntKind.i64 (n + (1 : Int))) = int i64 (n + (1 : Int)) ∧ (LoopState.ready = LoopState.ready ∧ (none : Option Code) = none ∧ ((Array.mk (α := Nat) [12]), rA (76) (0), rB (76) (0)) = ((Array.mk (α := Nat) [12]), rA (76) (0), rB (76) (0)) ∧ 4 = 4) ∧ ptr (1) (0) = ptr (1) (0) ∧ ptr (2) (0) = ptr (2) (0) ∧ ptr (3) (0) = ptr (3) (0) ∧ 0 = 0 ∧ True))))) (bothR (decide (k = (2 : Int))) (bothR (!decide (iC (List.length (encL l)) = (2 : Int))) (q ∧ 24 = 24 ∧ 4 = 4 ∧ SubR [bool false] [bool false] (107 = 107 ∧ SubR kindsL kindsL
 (3 = 3 ∧ int i64 (IntKind.wrap IntKind.i64 (n + (1 : Int))) = int i64 (n + (1 : Int)) ∧ (LoopState.done = LoopState.done ∧ some Code.ret = some Code.ret ∧ ((Array.mk (α := Nat) [12]), rA (76) (0), rB (76) (0)) = ((Array.mk (α := Nat) [12]), rA (76) (0), rB (76) (0)) ∧ 4 = 4) ∧ ptr (1) (0) = ptr (1) (0) ∧ ptr (2) (0) = ptr (2) (0) ∧ ptr (3) (0) = ptr (3) (0) ∧ 0 = 0 ∧ True))) (bothR (decide (k = (6 : Int))) (bothR (decide (n0 < (0 : Int))) (q ∧ 24 = 24 ∧ 4 = 4 ∧ SubR [bool false] [bool false] (107 = 107 ∧ SubR kindsL kindsL (3 = 3 ∧
 int i64 (IntKind.wrap IntKind.i64 (n + (1 : Int))) = int i64 (n + (1 : Int)) ∧ (LoopState.done = LoopState.done ∧ some Code.ret = some Code.ret ∧ ((Array.mk (α := Nat) [12]), rA (76) (0), rB (76) (0)) = ((Array.mk (α := Nat) [12]), rA (76) (0), rB (76) (0)) ∧ 4 = 4) ∧ ptr (1) (0) = ptr (1) (0) ∧ ptr (2) (0) = ptr (2) (0) ∧ ptr (3) (0) = ptr (3) (0) ∧ 0 = 0 ∧ True))) (bothR (decide ((1000 : Int) ≤ n0)) (q ∧ 24 = 24 ∧ 4 = 4 ∧ SubR [bool false] [bool false] (107 = 107 ∧ SubR kindsL kindsL (3 = 3 ∧
 int i64 (IntKind.wrap IntKind.i64 (n + (1 : Int))) = int i64 (n + (1 : Int)) ∧ (LoopState.done = LoopState.done ∧ some Code.ret = some Code.ret ∧ ((Array.mk (α := Nat) [12]), rA (76) (0), rB (76) (0)) = ((Array.mk (α := Nat) [12]), rA (76) (0), rB (76) (0)) ∧ 4 = 4) ∧ ptr (1) (0) = ptr (1) (0) ∧ ptr (2) (0) = ptr (2) (0) ∧ ptr (3) (0) = ptr (3) (0) ∧ 0 = 0 ∧ True))) (p ∧ 24 = 24 ∧ 4 = 4 ∧ SubR [bool false] [bool false] (107 = 107 ∧ SubR kindsL kindsL (3 = 3 ∧
 int i64 (IntKind.wrap IntKind.i64 (n + (1 : Int))) = int i64 (n + (1 : Int)) ∧ (LoopState.ready = LoopState.ready ∧ (none : Option Code) = none ∧ ((Array.mk (α := Nat) [12]), rA (76) (0), rB (76) (0)) = ((Array.mk (α := Nat) [12]), rA (76) (0), rB (76) (0)) ∧ 4 = 4) ∧ ptr (1) (0) = ptr (1) (0) ∧ ptr (2) (0) = ptr (2) (0) ∧ ptr (3) (0) = ptr (3) (0) ∧ 0 = 0 ∧ True))))) (p ∧ 24 = 24 ∧ 4 = 4 ∧ SubR [bool false] [bool false] (107 = 107 ∧ SubR kindsL kindsL (3 = 3 ∧
 int i64 (IntKind.wrap IntKind.i64 (n + (1 : Int))) = int i64 (n + (1 : Int)) ∧ (LoopState.ready = LoopState.ready ∧ (none : Option Code) = none ∧ ((Array.mk (α := Nat) [12]), rA (76) (0), rB (76) (0)) = ((Array.mk (α := Nat) [12]), rA (76) (0), rB (76) (0)) ∧ 4 = 4) ∧ ptr (1) (0) = ptr (1) (0) ∧ ptr (2) (0) = ptr (2) (0) ∧ ptr (3) (0) = ptr (3) (0) ∧ 0 = 0 ∧ True))))) (bothR (decide (k = (3 : Int))) (bothR (!decide (iC (List.length (encL l)) = (2 : Int))) (q ∧ 24 = 24 ∧ 4 = 4 ∧ SubR [bool false] [bool false] (107 = 107 ∧ SubR kindsL kindsL
 (3 = 3 ∧ int i64 (IntKind.wrap IntKind.i64 (n + (1 : Int))) = int i64 (n + (1 : Int)) ∧ (LoopState.done = LoopState.done ∧ some Code.ret = some Code.ret ∧ ((Array.mk (α := Nat) [12]), rA (76) (0), rB (76) (0)) = ((Array.mk (α := Nat) [12]), rA (76) (0), rB (76) (0)) ∧ 4 = 4) ∧ ptr (1) (0) = ptr (1) (0) ∧ ptr (2) (0) = ptr (2) (0) ∧ ptr (3) (0) = ptr (3) (0) ∧ 0 = 0 ∧ True))) (bothR (decide (k = (6 : Int))) (bothR (decide (n0 < (0 : Int))) (q ∧ 24 = 24 ∧ 4 = 4 ∧ SubR [bool false] [bool false] (107 = 107 ∧ SubR kindsL kindsL (3 = 3 ∧
 int i64 (IntKind.wrap IntKind.i64 (n + (1 : Int))) = int i64 (n + (1 : Int)) ∧ (LoopState.done = LoopState.done ∧ some Code.ret = some Code.ret ∧ ((Array.mk (α := Nat) [12]), rA (76) (0), rB (76) (0)) = ((Array.mk (α := Nat) [12]), rA (76) (0), rB (76) (0)) ∧ 4 = 4) ∧ ptr (1) (0) = ptr (1) (0) ∧ ptr (2) (0) = ptr (2) (0) ∧ ptr (3) (0) = ptr (3) (0) ∧ 0 = 0 ∧ True))) (bothR (decide ((1000 : Int) ≤ n0)) (q ∧ 24 = 24 ∧ 4 = 4 ∧ SubR [bool false] [bool false] (107 = 107 ∧ SubR kindsL kindsL (3 = 3 ∧
 int i64 (IntKind.wrap IntKind.i64 (n + (1 : Int))) = int i64 (n + (1 : Int)) ∧ (LoopState.done = LoopState.done ∧ some Code.ret = some Code.ret ∧ ((Array.mk (α := Nat) [12]), rA (76) (0), rB (76) (0)) = ((Array.mk (α := Nat) [12]), rA (76) (0), rB (76) (0)) ∧ 4 = 4) ∧ ptr (1) (0) = ptr (1) (0) ∧ ptr (2) (0) = ptr (2) (0) ∧ ptr (3) (0) = ptr (3) (0) ∧ 0 = 0 ∧ True))) (p ∧ 24 = 24 ∧ 4 = 4 ∧ SubR [bool false] [bool false] (107 = 107 ∧ SubR kindsL kindsL (3 = 3 ∧
 int i64 (IntKind.wrap IntKind.i64 (n + (1 : Int))) = int i64 (n + (1 : Int)) ∧ (LoopState.ready = LoopState.ready ∧ (none : Option Code) = none ∧ ((Array.mk (α := Nat) [12]), rA (76) (0), rB (76) (0)) = ((Array.mk (α := Nat) [12]), rA (76) (0), rB (76) (0)) ∧ 4 = 4) ∧ ptr (1) (0) = ptr (1) (0) ∧ ptr (2) (0) = ptr (2) (0) ∧ ptr (3) (0) = ptr (3) (0) ∧ 0 = 0 ∧ True))))) (p ∧ 24 = 24 ∧ 4 = 4 ∧ SubR [bool false] [bool false] (107 = 107 ∧ SubR kindsL kindsL (3 = 3 ∧
 int i64 (IntKind.wrap IntKind.i64 (n + (1 : Int))) = int i64 (n + (1 : Int)) ∧ (LoopState.ready = LoopState.ready ∧ (none : Option Code) = none ∧ ((Array.mk (α := Nat) [12]), rA (76) (0), rB (76) (0)) = ((Array.mk (α := Nat) [12]), rA (76) (0), rB (76) (0)) ∧ 4 = 4) ∧ ptr (1) (0) = ptr (1) (0) ∧ ptr (2) (0) = ptr (2) (0) ∧ ptr (3) (0) = ptr (3) (0) ∧ 0 = 0 ∧ True))))) (bothR (decide (k = (4 : Int))) (bothR (!decide (iC (List.length (encL l)) = (1 : Int))) (q ∧ 24 = 24 ∧ 4 = 4 ∧ SubR [bool false] [bool false] (107 = 107 ∧ SubR kindsL kindsL
 (3 = 3 ∧ int i64 (IntKind.wrap IntKind.i64 (n + (1 : Int))) = int i64 (n + (1 : Int)) ∧ (LoopState.done = LoopState.done ∧ some Code.ret = some Code.ret ∧ ((Array.mk (α := Nat) [12]), rA (76) (0), rB (76) (0)) = ((Array.mk (α := Nat) [12]), rA (76) (0), rB (76) (0)) ∧ 4 = 4) ∧ ptr (1) (0) = ptr (1) (0) ∧ ptr (2) (0) = ptr (2) (0) ∧ ptr (3) (0) = ptr (3) (0) ∧ 0 = 0 ∧ True))) (bothR (decide (k = (6 : Int))) (bothR (decide (n0 < (0 : Int))) (q ∧ 24 = 24 ∧ 4 = 4 ∧ SubR [bool false] [bool false] (107 = 107 ∧ SubR kindsL kindsL (3 = 3 ∧
 int i64 (IntKind.wrap IntKind.i64 (n + (1 : Int))) = int i64 (n + (1 : Int)) ∧ (LoopState.done = LoopState.done ∧ some Code.ret = some Code.ret ∧ ((Array.mk (α := Nat) [12]), rA (76) (0), rB (76) (0)) = ((Array.mk (α := Nat) [12]), rA (76) (0), rB (76) (0)) ∧ 4 = 4) ∧ ptr (1) (0) = ptr (1) (0) ∧ ptr (2) (0) = ptr (2) (0) ∧ ptr (3) (0) = ptr (3) (0) ∧ 0 = 0 ∧ True))) (bothR (decide ((1000 : Int) ≤ n0)) (q ∧ 24 = 24 ∧ 4 = 4 ∧ SubR [bool false] [bool false] (107 = 107 ∧ SubR kindsL kindsL (3 = 3 ∧
 int i64 (IntKind.wrap IntKind.i64 (n + (1 : Int))) = int i64 (n + (1 : Int)) ∧ (LoopState.done = LoopState.done ∧ some Code.ret = some Code.ret ∧ ((Array.mk (α := Nat) [12]), rA (76) (0), rB (76) (0)) = ((Array.mk (α := Nat) [12]), rA (76) (0), rB (76) (0)) ∧ 4 = 4) ∧ ptr (1) (0) = ptr (1) (0) ∧ ptr (2) (0) = ptr (2) (0) ∧ ptr (3) (0) = ptr (3) (0) ∧ 0 = 0 ∧ True))) (p ∧ 24 = 24 ∧ 4 = 4 ∧ SubR [bool false] [bool false] (107 = 107 ∧ SubR kindsL kindsL (3 = 3 ∧
 int i64 (IntKind.wrap IntKind.i64 (n + (1 : Int))) = int i64 (n + (1 : Int)) ∧ (LoopState.ready = LoopState.ready ∧ (none : Option Code) = none ∧ ((Array.mk (α := Nat) [12]), rA (76) (0), rB (76) (0)) = ((Array.mk (α := Nat) [12]), rA (76) (0), rB (76) (0)) ∧ 4 = 4) ∧ ptr (1) (0) = ptr (1) (0) ∧ ptr (2) (0) = ptr (2) (0) ∧ ptr (3) (0) = ptr (3) (0) ∧ 0 = 0 ∧ True))))) (p ∧ 24 = 24 ∧ 4 = 4 ∧ SubR [bool false] [bool false] (107 = 107 ∧ SubR kindsL kindsL (3 = 3 ∧
 int i64 (IntKind.wrap IntKind.i64 (n + (1 : Int))) = int i64 (n + (1 : Int)) ∧ (LoopState.ready = LoopState.ready ∧ (none : Option Code) = none ∧ ((Array.mk (α := Nat) [12]), rA (76) (0), rB (76) (0)) = ((Array.mk (α := Nat) [12]), rA (76) (0), rB (76) (0)) ∧ 4 = 4) ∧ ptr (1) (0) = ptr (1) (0) ∧ ptr (2) (0) = ptr (2) (0) ∧ ptr (3) (0) = ptr (3) (0) ∧ 0 = 0 ∧ True))))) (bothR (decide (k = (5 : Int))) (bothR (!decide (iC (List.length (encL l)) = (2 : Int))) (q ∧ 24 = 24 ∧ 4 = 4 ∧ SubR [bool false] [bool false] (107 = 107 ∧ SubR kindsL kindsL
 (3 = 3 ∧ int i64 (IntKind.wrap IntKind.i64 (n + (1 : Int))) = int i64 (n + (1 : Int)) ∧ (LoopState.done = LoopState.done ∧ some Code.ret = some Code.ret ∧ ((Array.mk (α := Nat) [12]), rA (76) (0), rB (76) (0)) = ((Array.mk (α := Nat) [12]), rA (76) (0), rB (76) (0)) ∧ 4 = 4) ∧ ptr (1) (0) = ptr (1) (0) ∧ ptr (2) (0) = ptr (2) (0) ∧ ptr (3) (0) = ptr (3) (0) ∧ 0 = 0 ∧ True))) (bothR (decide (k = (6 : Int))) (bothR (decide (n0 < (0 : Int))) (q ∧ 24 = 24 ∧ 4 = 4 ∧ SubR [bool false] [bool false] (107 = 107 ∧ SubR kindsL kindsL (3 = 3 ∧
 int i64 (IntKind.wrap IntKind.i64 (n + (1 : Int))) = int i64 (n + (1 : Int)) ∧ (LoopState.done = LoopState.done ∧ some Code.ret = some Code.ret ∧ ((Array.mk (α := Nat) [12]), rA (76) (0), rB (76) (0)) = ((Array.mk (α := Nat) [12]), rA (76) (0), rB (76) (0)) ∧ 4 = 4) ∧ ptr (1) (0) = ptr (1) (0) ∧ ptr (2) (0) = ptr (2) (0) ∧ ptr (3) (0) = ptr (3) (0) ∧ 0 = 0 ∧ True))) (bothR (decide ((1000 : Int) ≤ n0)) (q ∧ 24 = 24 ∧ 4 = 4 ∧ SubR [bool false] [bool false] (107 = 107 ∧ SubR kindsL kindsL (3 = 3 ∧
 int i64 (IntKind.wrap IntKind.i64 (n + (1 : Int))) = int i64 (n + (1 : Int)) ∧ (LoopState.done = LoopState.done ∧ some Code.ret = some Code.ret ∧ ((Array.mk (α := Nat) [12]), rA (76) (0), rB (76) (0)) = ((Array.mk (α := Nat) [12]), rA (76) (0), rB (76) (0)) ∧ 4 = 4) ∧ ptr (1) (0) = ptr (1) (0) ∧ ptr (2) (0) = ptr (2) (0) ∧ ptr (3) (0) = ptr (3) (0) ∧ 0 = 0 ∧ True))) (p ∧ 24 = 24 ∧ 4 = 4 ∧ SubR [bool false] [bool false] (107 = 107 ∧ SubR kindsL kindsL (3 = 3 ∧
 int i64 (IntKind.wrap IntKind.i64 (n + (1 : Int))) = int i64 (n + (1 : Int)) ∧ (LoopState.ready = LoopState.ready ∧ (none : Option Code) = none ∧ ((Array.mk (α := Nat) [12]), rA (76) (0), rB (76) (0)) = ((Array.mk (α := Nat) [12]), rA (76) (0), rB (76) (0)) ∧ 4 = 4) ∧ ptr (1) (0) = ptr (1) (0) ∧ ptr (2) (0) = ptr (2) (0) ∧ ptr (3) (0) = ptr (3) (0) ∧ 0 = 0 ∧ True))))) (p ∧ 24 = 24 ∧ 4 = 4 ∧ SubR [bool false] [bool false] (107 = 107 ∧ SubR kindsL kindsL (3 = 3 ∧
 int i64 (IntKind.wrap IntKind.i64 (n + (1 : Int))) = int i64 (n + (1 : Int)) ∧ (LoopState.ready = LoopState.ready ∧ (none : Option Code) = none ∧ ((Array.mk (α := Nat) [12]), rA (76) (0), rB (76) (0)) = ((Array.mk (α := Nat) [12]), rA (76) (0), rB (76) (0)) ∧ 4 = 4) ∧ ptr (1) (0) = ptr (1) (0) ∧ ptr (2) (0) = ptr (2) (0) ∧ ptr (3) (0) = ptr (3) (0) ∧ 0 = 0 ∧ True))))) (bothR (decide (k = (6 : Int))) (bothR (!decide (iC (List.length (encL l)) = (0 : Int))) (q ∧ 24 = 24 ∧ 4 = 4 ∧ SubR [bool false] [bool false] (107 = 107 ∧ SubR kindsL kindsL
 (3 = 3 ∧ int i64 (IntKind.wrap IntKind.i64 (n + (1 : Int))) = int i64 (n + (1 : Int)) ∧ (LoopState.done = LoopState.done ∧ some Code.ret = some Code.ret ∧ ((Array.mk (α := Nat) [12]), rA (76) (0), rB (76) (0)) = ((Array.mk (α := Nat) [12]), rA (76) (0), rB (76) (0)) ∧ 4 = 4) ∧ ptr (1) (0) = ptr (1) (0) ∧ ptr (2) (0) = ptr (2) (0) ∧ ptr (3) (0) = ptr (3) (0) ∧ 0 = 0 ∧ True))) (bothR (decide (k = (6 : Int))) (bothR (decide (n0 < (0 : Int))) (q ∧ 24 = 24 ∧ 4 = 4 ∧ SubR [bool false] [bool false] (107 = 107 ∧ SubR kindsL kindsL (3 = 3 ∧
 int i64 (IntKind.wrap IntKind.i64 (n + (1 : Int))) = int i64 (n + (1 : Int)) ∧ (LoopState.done = LoopState.done ∧ some Code.ret = some Code.ret ∧ ((Array.mk (α := Nat) [12]), rA (76) (0), rB (76) (0)) = ((Array.mk (α := Nat) [12]), rA (76) (0), rB (76) (0)) ∧ 4 = 4) ∧ ptr (1) (0) = ptr (1) (0) ∧ ptr (2) (0) = ptr (2) (0) ∧ ptr (3) (0) = ptr (3) (0) ∧ 0 = 0 ∧ True))) (bothR (decide ((1000 : Int) ≤ n0)) (q ∧ 24 = 24 ∧ 4 = 4 ∧ SubR [bool false] [bool false] (107 = 107 ∧ SubR kindsL kindsL (3 = 3 ∧
 int i64 (IntKind.wrap IntKind.i64 (n + (1 : Int))) = int i64 (n + (1 : Int)) ∧ (LoopState.done = LoopState.done ∧ some Code.ret = some Code.ret ∧ ((Array.mk (α := Nat) [12]), rA (76) (0), rB (76) (0)) = ((Array.mk (α := Nat) [12]), rA (76) (0), rB (76) (0)) ∧ 4 = 4) ∧ ptr (1) (0) = ptr (1) (0) ∧ ptr (2) (0) = ptr (2) (0) ∧ ptr (3) (0) = ptr (3) (0) ∧ 0 = 0 ∧ True))) (p ∧ 24 = 24 ∧ 4 = 4 ∧ SubR [bool false] [bool false] (107 = 107 ∧ SubR kindsL kindsL (3 = 3 ∧
 int i64 (IntKind.wrap IntKind.i64 (n + (1 : Int))) = int i64 (n + (1 : Int)) ∧ (LoopState.ready = LoopState.ready ∧ (none : Option Code) = none ∧ ((Array.mk (α := Nat) [12]), rA (76) (0), rB (76) (0)) = ((Array.mk (α := Nat) [12]), rA (76) (0), rB (76) (0)) ∧ 4 = 4) ∧ ptr (1) (0) = ptr (1) (0) ∧ ptr (2) (0) = ptr (2) (0) ∧ ptr (3) (0) = ptr (3) (0) ∧ 0 = 0 ∧ True))))) (p ∧ 24 = 24 ∧ 4 = 4 ∧ SubR [bool false] [bool false] (107 = 107 ∧ SubR kindsL kindsL (3 = 3 ∧
 int i64 (IntKind.wrap IntKind.i64 (n + (1 : Int))) = int i64 (n + (1 : Int)) ∧ (LoopState.ready = LoopState.ready ∧ (none : Option Code) = none ∧ ((Array.mk (α := Nat) [12]), rA (76) (0), rB (76) (0)) = ((Array.mk (α := Nat) [12]), rA (76) (0), rB (76) (0)) ∧ 4 = 4) ∧ ptr (1) (0) = ptr (1) (0) ∧ ptr (2) (0) = ptr (2) (0) ∧ ptr (3) (0) = ptr (3) (0) ∧ 0 = 0 ∧ True))))) False)))))))))) := by kernel_rfl
end Go.Proofs.YtnmolpkkemljoaaGreatDoor
end
end