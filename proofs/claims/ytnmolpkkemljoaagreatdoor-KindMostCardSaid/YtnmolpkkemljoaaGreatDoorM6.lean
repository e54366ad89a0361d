/-
  What the proof is built of: One round of valid's range comes to what it says. valid: the walk. valid: the walk's loop. The conditions of K5, evaluated. valid: the walk comes to what it says. valid. The conditions of K6, evaluated. valid comes to what it says. Ground: the walk's loop; the whole. Ground comes to what it says. Own and Data come to what they say. great. The conditions of K11, evaluated. great comes to what it says. What is valid, and what is ground, in plain words; own and data of what is made of parts. How many parts a type's nodes have at the most. The reference's validity, own and data: what they come to. The reference's validity, own and data come to what they say. Conditions: none.
-/
import Derived.Test.YtnmolpkkemljoaaGreatDoorM4
import Derived.Test.YtnmolpkkemljoaaGreatDoorM5
set_option linter.unusedVariables false
set_option linter.unusedSimpArgs false
set_option maxHeartbeats 8000000
set_option maxRecDepth 100000
section
noncomputable section
namespace Go.Am
theorem SubR_id {xs : List AV} {R : Prop} : SubR xs xs R = R := propext ⟨fun h => (SubR_elim h).2, SubR_self⟩
theorem bothR_ndec {p : Prop} [Decidable p] {x y : Prop} (h1 : ¬ p → x) (h2 : p → y) : bothR (!decide p) x y := by
 by_cases hp : p
 ·simp only [hp, decide_true, Bool.not_true]; exact h2 hp
 ·simp only [hp, decide_false, Bool.not_false]; exact h1 hp
end Go.Am
namespace Go.Proofs.YtnmolpkkemljoaaGreatDoor
open Go Go.Am Kd
theorem hk0_ok : Hooks.Ok Tryz.prog g0 hk0 := mkHooks_ok all_nil all_nil all_nil
def hpB : Bool → Int → AH
 | true, n => hpGo n
 | false, n => hpEnd n
theorem round_ok (t : Ty) (n : Int) (h0 : 0 ≤ n) (h1 : n ≤ 1000) (b : Bool) (hb : b = true ↔ n + 1 ≤ 60 ∧ NodeOk t) :
  RoundJ Tryz.prog g0 5 [enc t] (hpGo n) (hpIs 0 (.returned (.bool b)) (hpB b (n + 1))) := by
 obtain ⟨k, n0, bb, l⟩ := t
 have h : RoundJ Tryz.prog g0 5 [enc (.mk k n0 bb l)] (hpGo n) (vPost (n + 1) (b = true) (b = false)) := by
  refine RoundJ.run (el := els) (mu := mu0) hmix hk0_ok (n := 60) ?_
  show runR hk0 60 5 _ _ _
  rw [valid_round]
  simp only [eq_self, and_true, SubR_id, iC, encL_length, wrap_id (n := n + 1) (by omega) (by omega)]
  have hf : b = false ↔ ¬ (n + 1 ≤ 60 ∧ NodeOk (.mk k n0 bb l)) := by rw [← hb]; simp
  rw [hb, hf]
  simp only [NodeOk]
  clear hb hf
  repeat' first
   | refine bothR_dec (fun _ => ?_) (fun _ => ?_)
   | refine bothR_ndec (fun _ => ?_) (fun _ => ?_)
  all_goals omega
 refine h.mono fun o ho => ?_
 unfold vPost at ho
 split at ho
 ·rename_i ho1
  obtain ⟨rfl, h2⟩ := ho
  exact ⟨ho1, h2⟩
 ·rename_i ho1
  obtain ⟨rfl, h2⟩ := ho
  exact ⟨ho1, h2⟩
 ·exact ho.elim
end Go.Proofs.YtnmolpkkemljoaaGreatDoor
end
end
section
namespace Kd
open Go.Am
instance : ∀ t, Decidable (NodeOk t)
 | .mk k n b l => by unfold NodeOk; infer_instance
def okB (n : Int) (t : Ty) : Bool := decide (n + 1 ≤ 60 ∧ NodeOk t)
mutual
def walkB : Ty → Int → Bool
 | .mk k n0 b l, n => okB n (.mk k n0 b l) && walkBL l (n + 1)
def walkBL : List Ty → Int → Bool
 | [], _ => true
 | x :: xs, n => walkB x n && walkBL xs (walkN x n)
def walkN : Ty → Int → Int
 | .mk k n0 b l, n => match okB n (.mk k n0 b l) with | true => walkNL l (n + 1) | false => n + 1
def walkNL : List Ty → Int → Int
 | [], n => n
 | x :: xs, n => match walkB x n with | true => walkNL xs (walkN x n) | false => walkN x n
end
end Kd
noncomputable section
namespace Go.Proofs.YtnmolpkkemljoaaGreatDoor
open Go Go.Am Kd
def hpW (A : AH) : AH := ⟨A.blks ++ [.cells [.fn (.yield 5) [] []] 42, .cells [.fn (.func 115) [] [.ptr 6 0, .ptr 7 0]] 42], []⟩
def vRound : RSpec := fun l args A K =>
 match l, args with
 | 5, [t] => argTy t fun t =>
  match nthR A.blks 3 with
  | some (.cells [.int .i64 n] 3) => (0 ≤ n ∧ n ≤ 1000) ∧ onR 0 A (hpGo n) (bothR (okB n t) (K ⟨.returned (.bool true), (hpGo (n + 1)).onto A⟩) (K ⟨.returned (.bool false), (hpEnd (n + 1)).onto A⟩))
  | _ => False
 | _, _ => False
theorem vRound_ok : RSpec.Ok Tryz.prog g0 vRound := by
 intro l args A K h'
 unfold vRound at h'
 split at h'
 ·obtain ⟨t, rfl, h⟩ := argTy_elim h'
  split at h
  ·rename_i n hn
   obtain ⟨⟨h0, h1⟩, h⟩ := h
   generalize hb : okB n t = b at h
   obtain ⟨hK, hr⟩ := RoundJ.on (n := 6) h (round_ok t n h0 h1 b (by rw [← hb]; simp [okB])) rfl (by cases b <;> rfl) (by simp [AV.bndL, AV.still_bnd, enc_still]) (by simp [AEnd.bnd, AV.bnd]) (by omega)
   refine hr.mono fun o ho => ?_
   subst ho
   cases b with
   | true => exact hK
   | false => exact hK
  ·exact h.elim
 ·exact h'.elim
def walkH (N : Nat) : HSpec := fun args A K =>
 match args with
 | [t, .ptr 6 0, .ptr 7 0] => argTy t fun t =>
  match nthR A.blks 3 with
  | some (.cells [.int .i64 n] 3) => (SizeOf.sizeOf t < N ∧ cnt t ≤ 1000 ∧ 0 ≤ n ∧ n ≤ 60) ∧ onR 0 A (hpW (hpGo n)) (bothR (walkB t n) (K ⟨.returned (.bool true), (hpW (hpGo (walkN t n))).onto A⟩) (K ⟨.returned (.bool false), (hpW (hpEnd (walkN t n))).onto A⟩))
  | _ => False
 | _ => False
end Go.Proofs.YtnmolpkkemljoaaGreatDoor
end
end
section
noncomputable section
namespace Go.Proofs.YtnmolpkkemljoaaGreatDoor
open Go Go.Am Kd
def hpX (A : AH) : AH := ⟨(hpW A).blks ++ [.cells [.top, .top, .top] 24], []⟩
def walkSt (bb : Bool) (l : List Ty) : LSt (Nat × Int) (Bool × Int) where
 n := 9
 nf := 0
 rd := none
 fr x := frm 23 [(2, .ptr 7 0), (12, .isl bb none 0 (encL l)), (13, .int .i64 (encL l).length), (14, .int .i64 x.1)]
 hp x := hpX (hpGo x.2)
 inv x := x.1 ≤ l.length ∧ 0 ≤ x.2 ∧ x.2 ≤ 60
 res x := (walkBL (l.drop x.1) x.2, walkNL (l.drop x.1) x.2)
 sel r := r.1
 out b r := match b with
  | true => ⟨.exit 0, frm 23 [], hpX (hpGo r.2)⟩
  | false => ⟨.ret, frm 23 [(4, .bool false)], hpX (hpEnd r.2)⟩
def wkPost (b : Bool) (m : Int) (o : AFin) : Prop :=
 match o.e with
 | .returned (.bool true) => b = true ∧ BlksR o.A.blks (hpW (hpGo m)).blks (FamR 0 o.A.fams [] True)
 | .returned (.bool false) => b = false ∧ BlksR o.A.blks (hpW (hpEnd m)).blks (FamR 0 o.A.fams [] True)
 | _ => False
def wkH1 (N : Nat) : Hooks := mkHooks Tryz.prog [] [(115, walkH N)] []
def wkH2 (bb : Bool) (l : List Ty) : Hooks := mkHooks Tryz.prog [] [] [(4, ⟨115, 0, (walkSt bb l).spec⟩)] (some vRound)
end Go.Proofs.YtnmolpkkemljoaaGreatDoor
end
end
section
noncomputable section
namespace Go.Proofs.YtnmolpkkemljoaaGreatDoor
open Go Go.Am Kd Go.Am.AV Go.IntKind
theorem walk_loop (bb : Bool) (l : List Ty) (N : Nat) (meas : Nat × Int → Nat) (x : Nat × Int) : (runL (wkH1 N) 40 115 0 (walkSt bb l) meas x) = ( bothR (decide (iC (Prod.fst x) < iC (List.length (encL l)))) (0 ≤ iC (Prod.fst x) ∧ ∃ x_1, (encL l)[Int.toNat (iC (Prod.fst x))]? = some (agg [int i64 (Ty.kind x_1), int i64 (Ty.n x_1), isl (Ty.nl x_1) none (0) (encL (Ty.l x_1))]) ∧ ∃ l_1, encL (Ty.l x_1) = encL l_1 ∧ (SizeOf.sizeOf (Ty.mk (Ty.kind x_1) (Ty.n x_1) (Ty.nl x_1) l_1) < N ∧
 cnt (Ty.mk (Ty.kind x_1) (Ty.n x_1) (Ty.nl x_1) l_1) ≤ 1000 ∧ 0 ≤ Prod.snd x ∧ Prod.snd x ≤ 60) ∧ 24 = 24 ∧ 4 = 4 ∧ SubR [bool false] [bool false] (107 = 107 ∧ SubR kindsL kindsL (3 = 3 ∧ int i64 (Prod.snd x) = int i64 (Prod.snd x) ∧ (LoopState.ready = LoopState.ready ∧ (none : Option Code) = none ∧ ((Array.mk (α := Nat) [12]), rA (76) (0), rB (76) (0)) = ((Array.mk (α := Nat) [12]), rA (76) (0), rB (76) (0)) ∧ 4 = 4) ∧ ptr (1) (0) = ptr (1) (0) ∧ ptr (2) (0) = ptr (2) (0) ∧ ptr (3) (0) = ptr (3) (0) ∧ 42 = 42 ∧
 SubR [AV.fn (Fn.yield (5)) [] []] [AV.fn (Fn.yield (5)) [] []] (42 = 42 ∧ SubR [AV.fn (Fn.func (115)) [] [ptr (6) (0), ptr (7) (0)]] [AV.fn (Fn.func (115)) [] [ptr (6) (0), ptr (7) (0)]] (0 = 0 ∧ bothR (walkB (Ty.mk (Ty.kind x_1) (Ty.n x_1) (Ty.nl x_1) l_1) (Prod.snd x)) (∃ y, (Prod.fst y ≤ List.length l ∧ 0 ≤ Prod.snd y ∧ Prod.snd y ≤ 60) ∧ meas y < meas x ∧ (walkBL (List.drop (Prod.fst y) l) (Prod.snd y), walkNL (List.drop (Prod.fst y) l) (Prod.snd y)) = (walkBL (List.drop (Prod.fst x) l) (Prod.snd x), walkNL (List.drop (Prod.fst x) l) (Prod.snd x)) ∧
 ptr (7) (0) = ptr (7) (0) ∧ isl bb none (0) (encL l) = isl bb none (0) (encL l) ∧ int i64 (iC (List.length (encL l))) = int i64 (iC (List.length (encL l))) ∧ int i64 (IntKind.wrap IntKind.i64 (iC (Prod.fst x) + (1 : Int))) = int i64 (iC (Prod.fst y)) ∧ 24 = 24 ∧ 4 = 4 ∧ SubR [bool false] [bool false] (107 = 107 ∧ SubR kindsL kindsL (3 = 3 ∧ int i64 (walkN (Ty.mk (Ty.kind x_1) (Ty.n x_1) (Ty.nl x_1) l_1) (Prod.snd x)) = int i64 (Prod.snd y) ∧ (LoopState.ready = LoopState.ready ∧ (none : Option Code) = none ∧
 ((Array.mk (α := Nat) [12]), rA (76) (0), rB (76) (0)) = ((Array.mk (α := Nat) [12]), rA (76) (0), rB (76) (0)) ∧ 4 = 4) ∧ ptr (1) (0) = ptr (1) (0) ∧ ptr (2) (0) = ptr (2) (0) ∧ ptr (3) (0) = ptr (3) (0) ∧ 42 = 42 ∧ SubR [AV.fn (Fn.yield (5)) [] []] [AV.fn (Fn.yield (5)) [] []] (42 = 42 ∧ SubR [AV.fn (Fn.func (115)) [] [ptr (6) (0), ptr (7) (0)]] [AV.fn (Fn.func (115)) [] [ptr (6) (0), ptr (7) (0)]] (24 = 24 ∧ 0 = 0 ∧ True))))) (walkBL (List.drop (Prod.fst x) l) (Prod.snd x) = false ∧ bool false = bool false ∧ 24 = 24 ∧ 4 = 4 ∧
 SubR [bool false] [bool false] (107 = 107 ∧ SubR kindsL kindsL (3 = 3 ∧ int i64 (walkN (Ty.mk (Ty.kind x_1) (Ty.n x_1) (Ty.nl x_1) l_1) (Prod.snd x)) = int i64 (walkNL (List.drop (Prod.fst x) l) (Prod.snd x)) ∧ (LoopState.done = LoopState.done ∧ some Code.ret = some Code.ret ∧ ((Array.mk (α := Nat) [12]), rA (76) (0), rB (76) (0)) = ((Array.mk (α := Nat) [12]), rA (76) (0), rB (76) (0)) ∧ 4 = 4) ∧ ptr (1) (0) = ptr (1) (0) ∧ ptr (2) (0) = ptr (2) (0) ∧ ptr (3) (0) = ptr (3) (0) ∧ 42 = 42 ∧
 SubR [AV.fn (Fn.yield (5)) [] []] [AV.fn (Fn.yield (5)) [] []] (42 = 42 ∧ SubR [AV.fn (Fn.func (115)) [] [ptr (6) (0), ptr (7) (0)]] [AV.fn (Fn.func (115)) [] [ptr (6) (0), ptr (7) (0)]] (24 = 24 ∧ 0 = 0 ∧ True)))))))))) (walkBL (List.drop (Prod.fst x) l) (Prod.snd x) = true ∧ 24 = 24 ∧ 4 = 4 ∧ SubR [bool false] [bool false] (107 = 107 ∧ SubR kindsL kindsL (3 = 3 ∧ int i64 (Prod.snd x) = int i64 (walkNL (List.drop (Prod.fst x) l) (Prod.snd x)) ∧ (LoopState.ready = LoopState.ready ∧ (none : Option Code) = none ∧
 ((Array.mk (α := Nat) [12]), rA (76) (0), rB (76) (0)) = ((Array.mk (α := Nat) [12]), rA (76) (0), rB (76) (0)) ∧ 4 = 4) ∧ ptr (1) (0) = ptr (1) (0) ∧ ptr (2) (0) = ptr (2) (0) ∧ ptr (3) (0) = ptr (3) (0) ∧ 42 = 42 ∧ SubR [AV.fn (Fn.yield (5)) [] []] [AV.fn (Fn.yield (5)) [] []] (42 = 42 ∧ SubR [AV.fn (Fn.func (115)) [] [ptr (6) (0), ptr (7) (0)]] [AV.fn (Fn.func (115)) [] [ptr (6) (0), ptr (7) (0)]] (24 = 24 ∧ 0 = 0 ∧ True)))))) := by kernel_rfl
theorem walk_top (k n0 : Int) (bb : Bool) (l : List Ty) (n m : Int) (b : Bool) : (runF (wkH2 bb l) 40 115 [enc (.mk k n0 bb l), .ptr 6 0, .ptr 7 0] (hpW (hpGo n)) (wkPost b m)) = ( ∃ l_1, encL l = encL l_1 ∧ (0 ≤ n ∧ n ≤ 1000) ∧ 24 = 24 ∧ 4 = 4 ∧ SubR [bool false] [bool false] (107 = 107 ∧ SubR kindsL kindsL (3 = 3 ∧ int i64 n = int i64 n ∧ (LoopState.ready = LoopState.ready ∧ (none : Option Code) = none ∧ ((Array.mk (α := Nat) [12]), rA (76) (0), rB (76) (0)) = ((Array.mk (α := Nat) [12]), rA (76) (0), rB (76) (0)) ∧ 4 = 4) ∧ ptr (1) (0) = ptr (1) (0) ∧
 ptr (2) (0) = ptr (2) (0) ∧ ptr (3) (0) = ptr (3) (0) ∧ 0 = 0 ∧ bothR (okB n (Ty.mk k n0 bb l_1)) (codeIs (loopOf Tryz.prog 115 0) Tryz.prog 115 0 (∃ x, (Prod.fst x ≤ List.length l ∧ 0 ≤ Prod.snd x ∧ Prod.snd x ≤ 60) ∧ ptr (7) (0) = ptr (7) (0) ∧ isl bb none (0) (encL l) = isl bb none (0) (encL l) ∧ int i64 (iC (List.length (encL l))) = int i64 (iC (List.length (encL l))) ∧ int i64 (0) = int i64 (iC (Prod.fst x)) ∧ 24 = 24 ∧ 4 = 4 ∧ SubR [bool false] [bool false] (107 = 107 ∧ SubR kindsL kindsL (3 = 3 ∧
 int i64 (n + (1 : Int)) = int i64 (Prod.snd x) ∧ (LoopState.ready = LoopState.ready ∧ (none : Option Code) = none ∧ ((Array.mk (α := Nat) [12]), rA (76) (0), rB (76) (0)) = ((Array.mk (α := Nat) [12]), rA (76) (0), rB (76) (0)) ∧ 4 = 4) ∧ ptr (1) (0) = ptr (1) (0) ∧ ptr (2) (0) = ptr (2) (0) ∧ ptr (3) (0) = ptr (3) (0) ∧ 42 = 42 ∧ SubR [AV.fn (Fn.yield (5)) [] []] [AV.fn (Fn.yield (5)) [] []] (42 = 42 ∧ SubR [AV.fn (Fn.func (115)) [] [ptr (6) (0), ptr (7) (0)]] [AV.fn (Fn.func (115)) [] [ptr (6) (0), ptr (7) (0)]] (24 = 24 ∧ 0 = 0 ∧
 bothR (walkBL (List.drop (Prod.fst x) l) (Prod.snd x)) (b = true ∧ 24 = 24 ∧ 4 = 4 ∧ SubR [bool false] [bool false] (107 = 107 ∧ SubR kindsL kindsL (3 = 3 ∧ int i64 (walkNL (List.drop (Prod.fst x) l) (Prod.snd x)) = int i64 m ∧ (LoopState.ready = LoopState.ready ∧ (none : Option Code) = none ∧ ((Array.mk (α := Nat) [12]), rA (76) (0), rB (76) (0)) = ((Array.mk (α := Nat) [12]), rA (76) (0), rB (76) (0)) ∧ 4 = 4) ∧ ptr (1) (0) = ptr (1) (0) ∧ ptr (2) (0) = ptr (2) (0) ∧ ptr (3) (0) = ptr (3) (0) ∧ 42 = 42 ∧ SubR [AV.fn (Fn.yield (5)) [] []]
 [AV.fn (Fn.yield (5)) [] []] (42 = 42 ∧ SubR [AV.fn (Fn.func (115)) [] [ptr (6) (0), ptr (7) (0)]] [AV.fn (Fn.func (115)) [] [ptr (6) (0), ptr (7) (0)]] (0 = 0 ∧ True))))) (b = false ∧ 24 = 24 ∧ 4 = 4 ∧ SubR [bool false] [bool false] (107 = 107 ∧ SubR kindsL kindsL (3 = 3 ∧ int i64 (walkNL (List.drop (Prod.fst x) l) (Prod.snd x)) = int i64 m ∧ (LoopState.done = LoopState.done ∧ some Code.ret = some Code.ret ∧ ((Array.mk (α := Nat) [12]), rA (76) (0), rB (76) (0)) = ((Array.mk (α := Nat) [12]), rA (76) (0), rB (76) (0)) ∧ 4 = 4) ∧ ptr (1) (0) =
 ptr (1) (0) ∧ ptr (2) (0) = ptr (2) (0) ∧ ptr (3) (0) = ptr (3) (0) ∧ 42 = 42 ∧ SubR [AV.fn (Fn.yield (5)) [] []] [AV.fn (Fn.yield (5)) [] []] (42 = 42 ∧ SubR [AV.fn (Fn.func (115)) [] [ptr (6) (0), ptr (7) (0)]] [AV.fn (Fn.func (115)) [] [ptr (6) (0), ptr (7) (0)]] (0 = 0 ∧ True))))))))))) (b = false ∧ 24 = 24 ∧ 4 = 4 ∧ SubR [bool false] [bool false] (107 = 107 ∧ SubR kindsL kindsL (3 = 3 ∧ int i64 (n + (1 : Int)) = int i64 m ∧ (LoopState.done = LoopState.done ∧ some Code.ret = some Code.ret ∧
 ((Array.mk (α := Nat) [12]), rA (76) (0), rB (76) (0)) = ((Array.mk (α := Nat) [12]), rA (76) (0), rB (76) (0)) ∧ 4 = 4) ∧ ptr (1) (0) = ptr (1) (0) ∧ ptr (2) (0) = ptr (2) (0) ∧ ptr (3) (0) = ptr (3) (0) ∧ 42 = 42 ∧ SubR [AV.fn (Fn.yield (5)) [] []] [AV.fn (Fn.yield (5)) [] []] (42 = 42 ∧ SubR [AV.fn (Fn.func (115)) [] [ptr (6) (0), ptr (7) (0)]] [AV.fn (Fn.func (115)) [] [ptr (6) (0), ptr (7) (0)]] (0 = 0 ∧ True)))))))) := by kernel_rfl
end Go.Proofs.YtnmolpkkemljoaaGreatDoor
end
end
section
noncomputable section
namespace Go.Proofs.YtnmolpkkemljoaaGreatDoor
open Go Go.Am Kd
theorem okB_le {n : Int} {t : Ty} (h : okB n t = true) : n + 1 ≤ 60 := by
 simp only [okB, decide_eq_true_eq] at h
 exact h.1
theorem walk_bd : (∀ (t : Ty) (n : Int), walkB t n = true → n ≤ walkN t n ∧ walkN t n ≤ 60) ∧ ∀ (l : List Ty) (n : Int), n ≤ 60 → walkBL l n = true → n ≤ walkNL l n ∧ walkNL l n ≤ 60 := by
 have key : ∀ (N : Nat), (∀ (t : Ty) (n : Int), SizeOf.sizeOf t < N → walkB t n = true → n ≤ walkN t n ∧ walkN t n ≤ 60) ∧
   (∀ (l : List Ty) (n : Int), SizeOf.sizeOf l < N → n ≤ 60 → walkBL l n = true → n ≤ walkNL l n ∧ walkNL l n ≤ 60) := by
  intro N
  induction N with
  | zero => exact ⟨fun _ _ h => by omega, fun _ _ h => by omega⟩
  | succ N ih =>
   obtain ⟨ih1, ih2⟩ := ih
   constructor
   ·intro t n ht hb
    cases t with
    | mk k n0 b l =>
     simp only [Ty.mk.sizeOf_spec] at ht
     simp only [walkB, Bool.and_eq_true] at hb
     simp only [walkN, hb.1]
     have := okB_le hb.1
     have := ih2 l (n + 1) (by omega) (by omega) hb.2
     omega
   ·intro l n hl hn hb
    cases l with
    | nil => simp only [walkNL]; omega
    | cons x xs =>
     simp only [List.cons.sizeOf_spec] at hl
     simp only [walkBL, Bool.and_eq_true] at hb
     simp only [walkNL, hb.1]
     have := ih1 x n (by omega) hb.1
     have := ih2 xs (walkN x n) (by omega) (by omega) hb.2
     omega
 exact ⟨fun t n => (key (SizeOf.sizeOf t + 1)).1 t n (by omega), fun l n => (key (SizeOf.sizeOf l + 1)).2 l n (by omega)⟩
def WalkJ (t : Ty) (n : Int) : Prop := FJ 115 [enc t, .ptr 6 0, .ptr 7 0] (hpW (hpGo n)) (hpIs 0 (.returned (.bool (walkB t n))) (hpW (hpB (walkB t n) (walkN t n))))
theorem walk_hook {N : Nat} (ih : ∀ t n, SizeOf.sizeOf t < N → cnt t ≤ 1000 → 0 ≤ n → n ≤ 60 → WalkJ t n) : HSpec.Ok Tryz.prog g0 115 (walkH N) := by
 intro args A K h'
 unfold walkH at h'
 split at h'
 ·obtain ⟨t, rfl, h⟩ := argTy_elim h'
  split at h
  ·rename_i n hn
   obtain ⟨⟨h1, h2, h3, h4⟩, h⟩ := h
   have hw := ih t n h1 h2 h3 h4
   unfold WalkJ at hw
   generalize hb : walkB t n = b at h hw
   obtain ⟨hK, hr⟩ := FuncJ.on (n := 8) h hw rfl (by cases b <;> rfl) (by simp [AV.bndL, AV.bnd, AV.still_bnd, enc_still]) (by simp [AEnd.bnd, AV.bnd])
   refine ⟨_, hr, ?_⟩
   cases b with
   | true => exact hK
   | false => exact hK
  ·exact h.elim
 ·exact h'.elim
theorem walk_ok (t : Ty) (n : Int) (hc : cnt t ≤ 1000) (h0 : 0 ≤ n) (h1 : n ≤ 60) : WalkJ t n := by
 have key : ∀ (N : Nat) (t : Ty) (n : Int), SizeOf.sizeOf t < N → cnt t ≤ 1000 → 0 ≤ n → n ≤ 60 → WalkJ t n := by
  intro N
  induction N with
  | zero => intro t n h; omega
  | succ N ih =>
   intro t n ht hc h0 h1
   obtain ⟨k, n0, bb, l⟩ := t
   have hl : LHook.Ok Tryz.prog g0 ⟨115, 0, (walkSt bb l).spec⟩ := by
    refine LSt.ok (walkSt bb l) (fun x => l.length - x.1) (by intro l h; cases h) ?_ ?_ ?_
    ·intro x _
     exact Whole.frm rfl rfl (by simp [AV.bnd, encL_bnd, walkSt]) (by rfl)
    ·intro x b' _
     cases b' with
     | true => exact Whole.frm rfl rfl rfl rfl
     | false => exact Whole.frm rfl rfl rfl rfl
    ·rintro ⟨i, n⟩ ⟨hi, hn1, hn2⟩
     simp only at hi hn1 hn2
     have hh : Hooks.Ok Tryz.prog g0 (wkH1 N) := mkHooks_ok all_nil (all_cons (walk_hook ih) all_nil) all_nil
     refine CodeJ.run (el := els) (mu := mu0) hmix hh (n := 40) ?_
     show runL (wkH1 N) 40 115 0 (walkSt bb l) (fun x => l.length - x.1) (i, n)
     rw [walk_loop]
     simp only [iC, encL_length, eq_self, true_and, and_true, SubR_id]
     refine bothR_dec (fun hlt => ?_) fun hge => ?_
     ·have hi' : i < l.length := by omega
      have hc1 := cnt_get hi'
      have hc2 := len_cnt l
      simp only [cnt] at hc
      have hd : l.drop i = l[i] :: l.drop (i + 1) := List.drop_eq_getElem_cons hi'
      have hs := Ty.lt_of_get (k := k) (n := n0) (b := bb) hi'
      refine ⟨by omega, l[i], encL_get l i hi', l[i].l, rfl, ?_⟩
      rw [Ty.eta, wrap_id (by omega) (by omega), hd]
      refine ⟨⟨by omega, by omega, by omega, by omega⟩, bothR_bool (fun hb => ?_) fun hb => ?_⟩
      ·have hw := walk_bd.1 _ _ hb
       refine ⟨(i + 1, walkN l[i] n), ⟨by omega, by simp only; omega, by simp only; omega⟩, by simp only; omega, ?_, rfl, rfl⟩
       simp only [walkBL, walkNL, hb, Bool.true_and]
      ·simp only [walkBL, walkNL, hb, Bool.false_and, and_self]
     ·rw [List.drop_of_length_le (by omega)]
      simp only [walkBL, walkNL, and_self]
   have h : FJ 115 [enc (.mk k n0 bb l), .ptr 6 0, .ptr 7 0] (hpW (hpGo n)) (wkPost (walkB (.mk k n0 bb l) n) (walkN (.mk k n0 bb l) n)) := by
    refine FuncJ.run (el := els) (mu := mu0) (hk := wkH2 bb l) hmix (mkHooks_ok all_nil all_nil (all_cons hl all_nil) (by intro s hs; cases hs; exact vRound_ok)) (n := 40) ?_
    show runF (wkH2 bb l) 40 115 _ _ _
    rw [walk_top]
    simp only [eq_self, true_and, and_true, SubR_id, codeIs_self, iC]
    refine ⟨l, rfl, ⟨h0, by omega⟩, bothR_bool (fun hb => ?_) fun hb => ?_⟩
    ·have := okB_le hb
     refine ⟨(0, n + 1), ⟨by simp, by simp only; omega, by simp only; omega⟩, rfl, rfl, ?_⟩
     simp only [List.drop_zero, walkB, walkN, hb, Bool.true_and]
     exact bothR_bool (fun h => ⟨h, trivial⟩) fun h => ⟨h, trivial⟩
    ·simp only [walkB, walkN, hb, Bool.false_and, and_self]
   refine h.mono fun o ho => ?_
   unfold wkPost at ho
   split at ho
   ·rename_i ho1
    obtain ⟨h1, h2⟩ := ho
    rw [h1]
    exact ⟨ho1, h2⟩
   ·rename_i ho1
    obtain ⟨h1, h2⟩ := ho
    rw [h1]
    exact ⟨ho1, h2⟩
   ·exact ho.elim
 exact key _ t n (Nat.lt_succ_self _) hc h0 h1
end Go.Proofs.YtnmolpkkemljoaaGreatDoor
end
end
section
namespace Kd
open Go.Am
def validB (t : Ty) : Bool := decide (deepT t 12 ≤ 12) && walkB t 0
end Kd
noncomputable section
namespace Go.Proofs.YtnmolpkkemljoaaGreatDoor
open Go Go.Am Kd
def kindsQ : QSpec
 | [], K => K (.agg kindsL)
 | _, _ => False
def partsQ : QSpec
 | [t], K => argTy t fun t => K (.fn (.func 114) [] [.iptr (enc t)])
 | _, _ => False
def validHk (N : Nat) : Hooks := mkHooks Tryz.prog [(109, deepQ N), (81, kindsQ), (80, partsQ)] [(115, walkH N)] []
end Go.Proofs.YtnmolpkkemljoaaGreatDoor
end
end
section
noncomputable section
namespace Go.Proofs.YtnmolpkkemljoaaGreatDoor
open Go Go.Am Kd Go.Am.AV Go.IntKind
theorem kinds_top  : (runF hk0 40 81 [] AH.nil (retIs Tryz.prog 5 (.agg kindsL))) = ( agg kindsL = agg kindsL) := by kernel_rfl
theorem parts_top (k n0 : Int) (b : Bool) (l : List Ty) : (runF hk0 40 80 [enc (.mk k n0 b l)] AH.nil (retIs Tryz.prog 5 (.fn (.func 114) [] [.iptr (enc (.mk k n0 b l))]))) = ( AV.fn (Fn.func (114)) [] [AV.iptr (agg [int i64 k, int i64 n0, isl b none (0) (encL l)])] = AV.fn (Fn.func (114)) [] [AV.iptr (agg [int i64 k, int i64 n0, isl b none (0) (encL l)])]) := by kernel_rfl
theorem valid_top (k n0 : Int) (bb : Bool) (l : List Ty) (N : Nat) (r : Bool) : (runF (validHk N) 60 76 [enc (.mk k n0 bb l)] AH.nil (retIs Tryz.prog 5 (.bool r))) = ( ∃ l_1, encL l = encL l_1 ∧ (SizeOf.sizeOf (Ty.mk k n0 bb l_1) < N ∧ cnt (Ty.mk k n0 bb l_1) ≤ 1000 ∧ Int.NonNeg (12) ∧ Int.NonNeg (988)) ∧ bothR (decide ((12 : Int) < deepT (Ty.mk k n0 bb l_1) ((12 : Int)))) (bool false = bool r) (∃ l_2, encL l = encL l_2 ∧ ∃ l, encL l_2 = encL l ∧ (SizeOf.sizeOf (Ty.mk k n0 bb l) < N ∧ cnt (Ty.mk k n0 bb l) ≤ 1000 ∧ Int.NonNeg (0) ∧ Int.NonNeg (60)) ∧ 24 = 24 ∧ 4 = 4 ∧
 SubR [bool false] [bool false] (107 = 107 ∧ SubR kindsL kindsL (3 = 3 ∧ SubR [int i64 (0)] [int i64 (0)] ((LoopState.ready = LoopState.ready ∧ (none : Option Code) = none ∧ ((Array.mk (α := Nat) [12]), rA (76) (0), rB (76) (0)) = ((Array.mk (α := Nat) [12]), rA (76) (0), rB (76) (0)) ∧ 4 = 4) ∧ ptr (1) (0) = ptr (1) (0) ∧ ptr (2) (0) = ptr (2) (0) ∧ ptr (3) (0) = ptr (3) (0) ∧ 42 = 42 ∧ SubR [AV.fn (Fn.yield (5)) [] []] [AV.fn (Fn.yield (5)) [] []] (42 = 42 ∧ SubR [AV.fn (Fn.func (115)) [] [ptr (6) (0), ptr (7) (0)]]
 [AV.fn (Fn.func (115)) [] [ptr (6) (0), ptr (7) (0)]] (0 = 0 ∧ bothR (walkB (Ty.mk k n0 bb l) ((0 : Int))) (bool true = bool r) (bool false = bool r)))))))) := by kernel_rfl
end Go.Proofs.YtnmolpkkemljoaaGreatDoor
end
end
section
noncomputable section
namespace Go.Proofs.YtnmolpkkemljoaaGreatDoor
open Go Go.Am Kd
theorem kinds_ok : QJ 81 [] (.agg kindsL) :=
 QuietJ.ret (P := Tryz.prog) (G := g0) (f := 81) 5 rfl rfl (FuncJ.run (el := els) (mu := mu0) (hk := hk0) hmix hk0_ok (n := 40) (by show runF hk0 40 81 _ _ _; rw [kinds_top]))
theorem parts_ok (t : Ty) : QJ 80 [enc t] (.fn (.func 114) [] [.iptr (enc t)]) := by
 obtain ⟨k, n0, b, l⟩ := t
 refine QuietJ.ret (P := Tryz.prog) (G := g0) (f := 80) 5 (by simp [AV.stillL, enc_still]) (by simp [AV.still, AV.stillL, enc_still]) (FuncJ.run (el := els) (mu := mu0) (hk := hk0) hmix hk0_ok (n := 40) ?_)
 show runF hk0 40 80 _ _ _
 rw [parts_top]
theorem kinds_hook : QSpec.Ok Tryz.prog g0 81 kindsQ := by
 intro args K h
 unfold kindsQ at h
 split at h
 ·exact ⟨_, kinds_ok, h⟩
 ·exact h.elim
theorem parts_hook : QSpec.Ok Tryz.prog g0 80 partsQ := by
 intro args K h'
 unfold partsQ at h'
 split at h'
 ·obtain ⟨t, rfl, h⟩ := argTy_elim h'
  exact ⟨_, parts_ok t, h⟩
 ·exact h'.elim
theorem nn (n : Nat) : Int.NonNeg (Int.ofNat n) := .mk n
theorem valid_ok (t : Ty) (hc : cnt t ≤ 1000) : QJ 76 [enc t] (.bool (validB t)) := by
 obtain ⟨k, n0, bb, l⟩ := t
 refine QuietJ.ret (P := Tryz.prog) (G := g0) (f := 76) 5 (by simp [AV.stillL, enc_still]) rfl (FuncJ.run (el := els) (mu := mu0) (hk := validHk (SizeOf.sizeOf (Ty.mk k n0 bb l) + 1)) hmix (mkHooks_ok (all_cons (deep_hook fun t m _ h1 h2 h3 => deep_ok t m h1 h2 h3) (all_cons kinds_hook (all_cons parts_hook all_nil))) (all_cons (walk_hook fun t n _ h1 h2 h3 => walk_ok t n h1 h2 h3) all_nil) all_nil) (n := 60) ?_)
 show runF (validHk _) 60 76 _ _ _
 rw [valid_top]
 simp only [eq_self, true_and, and_true, SubR_id]
 refine ⟨l, rfl, ⟨by omega, hc, nn 12, nn 988⟩, bothR_dec (fun h => ?_) fun h => ⟨l, rfl, l, rfl, ⟨by omega, hc, nn 0, nn 60⟩, bothR_bool (fun hb => ?_) fun hb => ?_⟩⟩
 ·simp only [validB]
  rw [decide_eq_false (by omega)]
  rfl
 ·simp only [validB, hb]
  rw [decide_eq_true (by omega)]
  rfl
 ·simp only [validB, hb, Bool.and_false]
end Go.Proofs.YtnmolpkkemljoaaGreatDoor
end
end
section
noncomputable section
namespace Go.Proofs.YtnmolpkkemljoaaGreatDoor
open Go Go.Am Kd
def validQ : QSpec
 | [t], K => argTy t fun t => (cnt t ≤ 1000) ∧ K (.bool (validB t))
 | _, _ => False
theorem valid_hook : QSpec.Ok Tryz.prog g0 76 validQ := by
 intro args K h'
 unfold validQ at h'
 split at h'
 ·obtain ⟨t, rfl, h1, h2⟩ := argTy_elim h'
  exact ⟨_, valid_ok t h1, h2⟩
 ·exact h'.elim
end Go.Proofs.YtnmolpkkemljoaaGreatDoor
end
end
section
noncomputable section
namespace Go.Am
theorem bothR_nbool {b : Bool} {x y : Prop} (h1 : b = false → x) (h2 : b = true → y) : bothR (!b) x y := by
 cases b
 ·exact h1 rfl
 ·exact h2 rfl
end Go.Am
namespace Go.Proofs.YtnmolpkkemljoaaGreatDoor
open Go Go.Am Kd
end Go.Proofs.YtnmolpkkemljoaaGreatDoor
end
end
section
noncomputable section
namespace Go.Proofs.YtnmolpkkemljoaaGreatDoor
open Go Go.Am Kd
theorem cntL_drop (l : List Ty) (i : Nat) (h : i < l.length) : cntL (l.drop i) = cnt l[i] + cntL (l.drop (i + 1)) := by
 rw [List.drop_eq_getElem_cons h]; simp only [cntL]
end Go.Proofs.YtnmolpkkemljoaaGreatDoor
end
end
section
namespace Kd
open Go.Am
mutual
def depT : Ty → Int
 | .mk _ _ _ l => depG l 0 + 1
def depG : List Ty → Int → Int
 | [], n => n
 | x :: xs, n => depG xs (max n (depT x))
end
def greatB (t : Ty) : Bool := decide (300 < sizeT t 300) || decide (40 < depT t)
end Kd
noncomputable section
namespace Go.Proofs.YtnmolpkkemljoaaGreatDoor
open Go Go.Am Kd
def hpD : AH := ⟨[.cells [.fn (.func 49) [] [.ptr 0 0]] 44], []⟩
def hpD1 : AH := ⟨[.cells [.fn (.func 49) [] [.ptr 0 0]] 44, .cells [.top, .top, .top] 24], []⟩
def depSt (b : Bool) (l : List Ty) : LSt (Nat × Int) Int where
 n := 2
 nf := 0
 rd := none
 fr x := frm 21 [(1, .ptr 0 0), (3, .int .i64 x.2), (7, .isl b none 0 (encL l)), (8, .int .i64 (encL l).length), (9, .int .i64 x.1)]
 hp _ := hpD1
 inv x := x.1 ≤ l.length ∧ 0 ≤ x.2 ∧ x.2 ≤ 1000
 res x := depG (l.drop x.1) x.2
 sel _ := true
 out _ r := ⟨.exit 0, frm 21 [(3, .int .i64 r)], hpD1⟩
def depH (N : Nat) : HSpec := fun args A K =>
 match args with
 | [t, .ptr 0 0] => argTy t fun t => (SizeOf.sizeOf t < N ∧ cnt t ≤ 1000) ∧ onR 0 A hpD (K ⟨.returned (.int .i64 (depT t)), hpD.onto A⟩)
 | _ => False
def depPost (m : Int) (o : AFin) : Prop :=
 match o.e with
 | .returned (.int .i64 r) => r = m ∧ BlksR o.A.blks hpD.blks (FamR 0 o.A.fams [] True)
 | _ => False
def dpH1 (N : Nat) : Hooks := hooks [] [(49, depH N)] []
def dpH2 (b : Bool) (l : List Ty) : Hooks := hooks [] [] [(2, ⟨49, 0, (depSt b l).spec⟩)]
def sizeQ0 : QSpec
 | [t, m], K => argTy t fun t => argInt m fun m => (0 ≤ m ∧ m ≤ 1000) ∧ K (.int .i64 (sizeT t m))
 | _, _ => False
def depH' : HSpec := fun args A K =>
 match args with
 | [t, .ptr 0 0] => argTy t fun t => (cnt t ≤ 1000) ∧ onR 0 A hpD (K ⟨.returned (.int .i64 (depT t)), hpD.onto A⟩)
 | _ => False
def greatHk : Hooks := hooks [(48, sizeQ0)] [(49, depH')] []
end Go.Proofs.YtnmolpkkemljoaaGreatDoor
end
end
section
noncomputable section
namespace Go.Proofs.YtnmolpkkemljoaaGreatDoor
open Go Go.Am Kd Go.Am.AV Go.IntKind
theorem dep_loop (b : Bool) (l : List Ty) (N : Nat) (meas : Nat × Int → Nat) (x : Nat × Int) : (runL (dpH1 N) 40 49 0 (depSt b l) meas x) = ( bothR (decide (iC (Prod.fst x) < iC (List.length (encL l)))) (0 ≤ iC (Prod.fst x) ∧ ∃ x_1, (encL l)[Int.toNat (iC (Prod.fst x))]? = some (agg [int i64 (Ty.kind x_1), int i64 (Ty.n x_1), isl (Ty.nl x_1) none (0) (encL (Ty.l x_1))]) ∧ ∃ l_1, encL (Ty.l x_1) = encL l_1 ∧ (SizeOf.sizeOf (Ty.mk (Ty.kind x_1) (Ty.n x_1) (Ty.nl x_1) l_1) < N ∧ cnt (Ty.mk (Ty.kind x_1) (Ty.n x_1) (Ty.nl x_1) l_1) ≤ 1000) ∧ 44 = 44 ∧
 SubR [AV.fn (Fn.func (49)) [] [ptr (0) (0)]] [AV.fn (Fn.func (49)) [] [ptr (0) (0)]] (0 = 0 ∧ ∃ y, (Prod.fst y ≤ List.length l ∧ 0 ≤ Prod.snd y ∧ Prod.snd y ≤ 1000) ∧ meas y < meas x ∧ depG (List.drop (Prod.fst y) l) (Prod.snd y) = depG (List.drop (Prod.fst x) l) (Prod.snd x) ∧ ptr (0) (0) = ptr (0) (0) ∧ int i64 (if depT (Ty.mk (Ty.kind x_1) (Ty.n x_1) (Ty.nl x_1) l_1) > Prod.snd x then depT (Ty.mk (Ty.kind x_1) (Ty.n x_1) (Ty.nl x_1) l_1) else Prod.snd x) = int i64 (Prod.snd y) ∧ isl b none (0) (encL l) = isl b none (0) (encL l) ∧
 int i64 (iC (List.length (encL l))) = int i64 (iC (List.length (encL l))) ∧ int i64 (IntKind.wrap IntKind.i64 (iC (Prod.fst x) + (1 : Int))) = int i64 (iC (Prod.fst y)) ∧ 44 = 44 ∧ SubR [AV.fn (Fn.func (49)) [] [ptr (0) (0)]] [AV.fn (Fn.func (49)) [] [ptr (0) (0)]] (24 = 24 ∧ 0 = 0 ∧ True))) (true = true ∧ int i64 (Prod.snd x) = int i64 (depG (List.drop (Prod.fst x) l) (Prod.snd x)) ∧ 44 = 44 ∧ SubR [AV.fn (Fn.func (49)) [] [ptr (0) (0)]] [AV.fn (Fn.func (49)) [] [ptr (0) (0)]]
 (24 = 24 ∧ 0 = 0 ∧ True))) := by kernel_rfl
theorem dep_top (k n0 : Int) (b : Bool) (l : List Ty) (m : Int) : (runF (dpH2 b l) 40 49 [enc (.mk k n0 b l), .ptr 0 0] hpD (depPost m)) = ( codeIs (loopOf Tryz.prog 49 0) Tryz.prog 49 0 (∃ x, (Prod.fst x ≤ List.length l ∧ 0 ≤ Prod.snd x ∧ Prod.snd x ≤ 1000) ∧ ptr (0) (0) = ptr (0) (0) ∧ int i64 (0) = int i64 (Prod.snd x) ∧ isl b none (0) (encL l) = isl b none (0) (encL l) ∧ int i64 (iC (List.length (encL l))) = int i64 (iC (List.length (encL l))) ∧ int i64 (0) = int i64 (iC (Prod.fst x)) ∧ 44 = 44 ∧
 SubR [AV.fn (Fn.func (49)) [] [ptr (0) (0)]] [AV.fn (Fn.func (49)) [] [ptr (0) (0)]] (24 = 24 ∧ 0 = 0 ∧ IntKind.wrap IntKind.i64 (depG (List.drop (Prod.fst x) l) (Prod.snd x) + (1 : Int)) = m ∧ 44 = 44 ∧ SubR [AV.fn (Fn.func (49)) [] [ptr (0) (0)]] [AV.fn (Fn.func (49)) [] [ptr (0) (0)]] (0 = 0 ∧ True)))) := by kernel_rfl
theorem great_top1 (x : Ty) (b : Bool) (r : Bool) : (runF greatHk 40 14 [.isl b none 0 [encD x]] AH.nil (retIs Tryz.prog 5 (.bool r))) = ( Int.NonNeg (0) ∧ ∃ x_1, some (agg [int i64 (Ty.kind x), int i64 (Ty.n x), isl (Ty.nl x) none (0) (encL (Ty.l x))]) = some (agg [int i64 (Ty.kind x_1), int i64 (Ty.n x_1), isl (Ty.nl x_1) none (0) (encL (Ty.l x_1))]) ∧ ∃ l, encL (Ty.l x_1) = encL l ∧ (Int.NonNeg (300) ∧ Int.NonNeg (700)) ∧
 bothR (decide ((300 : Int) < sizeT (Ty.mk (Ty.kind x_1) (Ty.n x_1) (Ty.nl x_1) l) ((300 : Int)))) (bool true = bool r) (∃ l, encL (Ty.l x_1) = encL l ∧ cnt (Ty.mk (Ty.kind x_1) (Ty.n x_1) (Ty.nl x_1) l) ≤ 1000 ∧ 44 = 44 ∧ SubR [AV.fn (Fn.func (49)) [] [ptr (0) (0)]] [AV.fn (Fn.func (49)) [] [ptr (0) (0)]] (0 = 0 ∧ bothR (decide ((40 : Int) < depT (Ty.mk (Ty.kind x_1) (Ty.n x_1) (Ty.nl x_1) l))) (bool true = bool r) (bool false = bool r)))) := by kernel_rfl
theorem great_top2 (x y : Ty) (b : Bool) (r : Bool) : (runF greatHk 40 14 [.isl b none 0 [encD x, encD y]] AH.nil (retIs Tryz.prog 5 (.bool r))) = ( Int.NonNeg (0) ∧ ∃ x_1, some (agg [int i64 (Ty.kind x), int i64 (Ty.n x), isl (Ty.nl x) none (0) (encL (Ty.l x))]) = some (agg [int i64 (Ty.kind x_1), int i64 (Ty.n x_1), isl (Ty.nl x_1) none (0) (encL (Ty.l x_1))]) ∧ ∃ l, encL (Ty.l x_1) = encL l ∧ (Int.NonNeg (300) ∧ Int.NonNeg (700)) ∧
 bothR (decide ((300 : Int) < sizeT (Ty.mk (Ty.kind x_1) (Ty.n x_1) (Ty.nl x_1) l) ((300 : Int)))) (bool true = bool r) (∃ l, encL (Ty.l x_1) = encL l ∧ cnt (Ty.mk (Ty.kind x_1) (Ty.n x_1) (Ty.nl x_1) l) ≤ 1000 ∧ 44 = 44 ∧ SubR [AV.fn (Fn.func (49)) [] [ptr (0) (0)]] [AV.fn (Fn.func (49)) [] [ptr (0) (0)]] (0 = 0 ∧ bothR (decide ((40 : Int) < depT (Ty.mk (Ty.kind x_1) (Ty.n x_1) (Ty.nl x_1) l))) (bool true = bool r) (Int.NonNeg (1) ∧ ∃ x, some (agg [int i64 (Ty.kind y), int i64 (Ty.n y), isl (Ty.nl y) none (0) (encL (Ty.l y))]) =
 some (agg [int i64 (Ty.kind x), int i64 (Ty.n x), isl (Ty.nl x) none (0) (encL (Ty.l x))]) ∧ ∃ l, encL (Ty.l x) = encL l ∧ (Int.NonNeg (300) ∧ Int.NonNeg (700)) ∧ bothR (decide ((300 : Int) < sizeT (Ty.mk (Ty.kind x) (Ty.n x) (Ty.nl x) l) ((300 : Int)))) (bool true = bool r) (∃ l, encL (Ty.l x) = encL l ∧ cnt (Ty.mk (Ty.kind x) (Ty.n x) (Ty.nl x) l) ≤ 1000 ∧ 44 = 44 ∧ SubR [AV.fn (Fn.func (49)) [] [ptr (0) (0)]] [AV.fn (Fn.func (49)) [] [ptr (0) (0)]] (0 = 0 ∧
 bothR (decide ((40 : Int) < depT (Ty.mk (Ty.kind x) (Ty.n x) (Ty.nl x) l))) (bool true = bool r) (bool false = bool r))))))) := by kernel_rfl
end Go.Proofs.YtnmolpkkemljoaaGreatDoor
end
end
section
noncomputable section
namespace Go.Proofs.YtnmolpkkemljoaaGreatDoor
open Go Go.Am Kd
theorem dep_bd : (∀ t : Ty, 1 ≤ depT t ∧ depT t ≤ cnt t) ∧ ∀ (l : List Ty) (n : Int), n ≤ depG l n ∧ depG l n ≤ max n (cntL l) := by
 have key : ∀ (N : Nat), (∀ t : Ty, SizeOf.sizeOf t < N → 1 ≤ depT t ∧ depT t ≤ cnt t) ∧ ∀ (l : List Ty) (n : Int), SizeOf.sizeOf l < N → n ≤ depG l n ∧ depG l n ≤ max n (cntL l) := by
  intro N
  induction N with
  | zero => exact ⟨fun _ h => by omega, fun _ _ h => by omega⟩
  | succ N ih =>
   obtain ⟨ih1, ih2⟩ := ih
   constructor
   ·intro t ht
    cases t with
    | mk k n0 b l =>
     simp only [Ty.mk.sizeOf_spec] at ht
     have := ih2 l 0 (by omega)
     simp only [depT, cnt, Int.natCast_add, Int.cast_ofNat_Int]
     omega
   ·intro l n hl
    cases l with
    | nil => simp only [depG, cntL]; omega
    | cons x xs =>
     simp only [List.cons.sizeOf_spec] at hl
     have := ih1 x (by omega)
     have := ih2 xs (max n (depT x)) (by omega)
     simp only [depG, cntL, Int.natCast_add]
     omega
 exact ⟨fun t => (key (SizeOf.sizeOf t + 1)).1 t (by omega), fun l n => (key (SizeOf.sizeOf l + 1)).2 l n (by omega)⟩
theorem size_cnt : (∀ (t : Ty) (m : Int), 0 ≤ m → sizeT t m ≤ m → sizeT t m = cnt t) := by
 have key : ∀ (N : Nat), (∀ (t : Ty) (m : Int), SizeOf.sizeOf t < N → 0 ≤ m → sizeT t m ≤ m → sizeT t m = cnt t) ∧
   (∀ (l : List Ty) (n m : Int), SizeOf.sizeOf l < N → 1 ≤ n → sizeG l n m ≤ m → n ≤ m ∧ sizeG l n m = n + cntL l) := by
  intro N
  induction N with
  | zero => exact ⟨fun _ _ h => by omega, fun _ _ _ h => by omega⟩
  | succ N ih =>
   obtain ⟨ih1, ih2⟩ := ih
   constructor
   ·intro t m ht hm hs
    cases t with
    | mk k n0 b l =>
     simp only [Ty.mk.sizeOf_spec] at ht
     simp only [sizeT] at hs ⊢
     have := ih2 l 1 m (by omega) (by omega) hs
     simp only [cnt, Int.natCast_add, Int.cast_ofNat_Int]
     omega
   ·intro l n m hl h1 hs
    cases l with
    | nil => simp only [sizeG, cntL] at hs ⊢; omega
    | cons x xs =>
     simp only [List.cons.sizeOf_spec] at hl
     simp only [sizeG] at hs ⊢
     split at hs
     ·rename_i hle
      have hb := sizeT_bd x (m - n) (by omega)
      have h2 := ih2 xs (n + sizeT x (m - n)) m (by omega) (by omega) hs
      have h3 := ih1 x (m - n) (by omega) (by omega) (by omega)
      rw [if_pos hle]
      simp only [cntL, Int.natCast_add]
      omega
     ·omega
 exact fun t m => (key (SizeOf.sizeOf t + 1)).1 t m (by omega)
def DepJ (t : Ty) : Prop := FJ 49 [enc t, .ptr 0 0] hpD (hpIs 0 (.returned (.int .i64 (depT t))) hpD)
theorem dep_hook {N : Nat} (ih : ∀ t, SizeOf.sizeOf t < N → cnt t ≤ 1000 → DepJ t) : HSpec.Ok Tryz.prog g0 49 (depH N) := by
 intro args A K h'
 unfold depH at h'
 split at h'
 ·obtain ⟨t, rfl, ⟨h1, h2⟩, h⟩ := argTy_elim h'
  obtain ⟨hK, hr⟩ := FuncJ.on (n := 1) h (ih t h1 h2) rfl rfl (by simp [AV.bndL, AV.bnd, AV.still_bnd, enc_still]) (by simp [AEnd.bnd, AV.bnd])
  exact ⟨_, hr, hK⟩
 ·exact h'.elim
theorem dep_ok (t : Ty) (hc : cnt t ≤ 1000) : DepJ t := by
 have key : ∀ (N : Nat) (t : Ty), SizeOf.sizeOf t < N → cnt t ≤ 1000 → DepJ t := by
  intro N
  induction N with
  | zero => intro t h; omega
  | succ N ih =>
   intro t ht hc
   obtain ⟨k, n0, b, l⟩ := t
   have hl : LHook.Ok Tryz.prog g0 ⟨49, 0, (depSt b l).spec⟩ := by
    refine LSt.ok (depSt b l) (fun x => l.length - x.1) (by intro l h; cases h) ?_ ?_ ?_
    ·intro x _
     exact Whole.frm rfl rfl (by simp [AV.bnd, encL_bnd, depSt]) (by rfl)
    ·intro x b' _
     exact Whole.frm rfl rfl rfl rfl
    ·rintro ⟨i, n⟩ ⟨hi, hn1, hn2⟩
     simp only at hi hn1 hn2
     have hh : Hooks.Ok Tryz.prog g0 (dpH1 N) := mkHooks_ok all_nil (all_cons (dep_hook ih) all_nil) all_nil
     refine CodeJ.run (el := els) (mu := mu0) hmix hh (n := 40) ?_
     show runL (dpH1 N) 40 49 0 (depSt b l) (fun x => l.length - x.1) (i, n)
     rw [dep_loop]
     simp only [iC, encL_length, eq_self, true_and, and_true, SubR_id]
     refine bothR_dec (fun hlt => ?_) fun hge => ?_
     ·have hi' : i < l.length := by omega
      have hc1 := cnt_get hi'
      have hc2 := len_cnt l
      simp only [cnt] at hc
      have hb := dep_bd.1 l[i]
      have hd : l.drop i = l[i] :: l.drop (i + 1) := List.drop_eq_getElem_cons hi'
      have hs := Ty.lt_of_get (k := k) (n := n0) (b := b) hi'
      refine ⟨by omega, l[i], encL_get l i hi', l[i].l, rfl, ?_⟩
      rw [Ty.eta, wrap_id (by omega) (by omega), hd]
      refine ⟨⟨by omega, by omega⟩, ⟨(i + 1, max n (depT l[i])), ⟨by omega, by simp only; omega, by simp only; omega⟩, by simp only; omega, ?_, ?_, rfl⟩⟩
      ·simp only [depG]
      ·congr 1
       simp only
       split <;> omega
     ·rw [List.drop_of_length_le (by omega)]
      simp only [depG]
   have h : FJ 49 [enc (.mk k n0 b l), .ptr 0 0] hpD (depPost (depT (.mk k n0 b l))) := by
    refine FuncJ.run (el := els) (mu := mu0) (hk := dpH2 b l) hmix (mkHooks_ok all_nil all_nil (all_cons hl all_nil)) (n := 40) ?_
    show runF (dpH2 b l) 40 49 _ _ _
    rw [dep_top]
    simp only [eq_self, true_and, and_true, SubR_id, codeIs_self, iC]
    have := dep_bd.2 l 0
    simp only [cnt] at hc
    refine ⟨(0, 0), ⟨by simp, by simp, by simp⟩, rfl, rfl, ?_⟩
    simp only [List.drop_zero, depT]
    rw [wrap_id (by omega) (by omega)]
   refine h.mono fun o ho => ?_
   unfold depPost at ho
   split at ho
   ·rename_i ho1
    obtain ⟨rfl, h2⟩ := ho
    exact ⟨ho1, h2⟩
   ·exact ho.elim
 exact key _ t (Nat.lt_succ_self _) hc
theorem size_hook0 : QSpec.Ok Tryz.prog g0 48 sizeQ0 := by
 intro args K h'
 unfold sizeQ0 at h'
 split at h'
 ·obtain ⟨t, rfl, h⟩ := argTy_elim h'
  obtain ⟨m, rfl, h1, h2⟩ := argInt_elim h
  exact ⟨_, size_ok t m h1.1 h1.2, h2⟩
 ·exact h'.elim
theorem dep_hook0 : HSpec.Ok Tryz.prog g0 49 depH' := by
 intro args A K h'
 unfold depH' at h'
 split at h'
 ·obtain ⟨t, rfl, h2, h⟩ := argTy_elim h'
  obtain ⟨hK, hr⟩ := FuncJ.on (n := 1) h (dep_ok t h2) rfl rfl (by simp [AV.bndL, AV.bnd, AV.still_bnd, enc_still]) (by simp [AEnd.bnd, AV.bnd])
  exact ⟨_, hr, hK⟩
 ·exact h'.elim
theorem great_cnt {t : Ty} (h : greatB t = false) : cnt t ≤ 300 := by
 simp only [greatB, Bool.or_eq_false_iff, decide_eq_false_iff_not] at h
 have := size_cnt t 300 (by omega) (by omega)
 omega
theorem great_hooks : Hooks.Ok Tryz.prog g0 greatHk := mkHooks_ok (all_cons size_hook0 all_nil) (all_cons dep_hook0 all_nil) all_nil
theorem small_cnt {t : Ty} (h : ¬ 300 < sizeT t 300) : cnt t ≤ 1000 := by
 have := size_cnt t 300 (by omega) (by omega)
 omega
theorem great1_ok (b : Bool) (x : Ty) : QJ 14 [.isl b none 0 [enc x]] (.bool (greatB x)) := by
 refine QuietJ.ret (P := Tryz.prog) (G := g0) (f := 14) 5 (by simp [AV.stillL, AV.still, enc_still]) rfl (FuncJ.run (el := els) (mu := mu0) (hk := greatHk) hmix great_hooks (n := 40) ?_)
 rw [enc_D]
 show runF greatHk 40 14 _ _ _
 rw [great_top1]
 simp only [eq_self, true_and, SubR_id]
 refine ⟨nn 0, x, rfl, x.l, rfl, ?_⟩
 rw [Ty.eta]
 refine ⟨⟨nn 300, nn 700⟩, bothR_dec (fun h => ?_) fun h => ⟨x.l, rfl, ?_⟩⟩
 ·simp only [greatB, h, decide_true, Bool.true_or]
 ·rw [Ty.eta]
  refine ⟨small_cnt h, bothR_dec (fun h2 => ?_) fun h2 => ?_⟩
  ·simp only [greatB, h2, decide_true, Bool.or_true]
  ·simp only [greatB, h, h2, decide_false, Bool.or_false]
theorem great2_ok (b : Bool) (x y : Ty) : QJ 14 [.isl b none 0 [enc x, enc y]] (.bool (greatB x || greatB y)) := by
 refine QuietJ.ret (P := Tryz.prog) (G := g0) (f := 14) 5 (by simp [AV.stillL, AV.still, enc_still]) rfl (FuncJ.run (el := els) (mu := mu0) (hk := greatHk) hmix great_hooks (n := 40) ?_)
 rw [enc_D, enc_D]
 show runF greatHk 40 14 _ _ _
 rw [great_top2]
 simp only [eq_self, true_and, SubR_id]
 refine ⟨nn 0, x, rfl, x.l, rfl, ?_⟩
 rw [Ty.eta]
 refine ⟨⟨nn 300, nn 700⟩, bothR_dec (fun h => ?_) fun h => ⟨x.l, rfl, ?_⟩⟩
 ·simp only [greatB, h, decide_true, Bool.true_or]
 ·rw [Ty.eta]
  refine ⟨small_cnt h, bothR_dec (fun h2 => ?_) fun h2 => ⟨nn 1, y, rfl, y.l, rfl, ?_⟩⟩
  ·simp only [greatB, h2, decide_true, Bool.or_true, Bool.true_or]
  ·rw [Ty.eta]
   have e : greatB x = false := by simp only [greatB, h, h2, decide_false, Bool.or_false]
   rw [e]
   refine ⟨⟨nn 300, nn 700⟩, bothR_dec (fun h => ?_) fun h => ⟨y.l, rfl, ?_⟩⟩
   ·simp only [greatB, h, decide_true, Bool.true_or, Bool.or_true]
   ·rw [Ty.eta]
    refine ⟨small_cnt h, bothR_dec (fun h2 => ?_) fun h2 => ?_⟩
    ·simp only [greatB, h2, decide_true, Bool.or_true]
    ·simp only [greatB, h, h2, decide_false, Bool.or_false]
def greatQ : QSpec
 | [.isl _ none 0 [t]], K => argTy t fun t => K (.bool (greatB t))
 | [.isl _ none 0 [t, u]], K => argTy t fun t => argTy u fun u => K (.bool (greatB t || greatB u))
 | _, _ => False
theorem great_hook : QSpec.Ok Tryz.prog g0 14 greatQ := by
 intro args K h'
 unfold greatQ at h'
 split at h'
 ·obtain ⟨t, rfl, h⟩ := argTy_elim h'
  exact ⟨_, great1_ok _ t, h⟩
 ·obtain ⟨t, rfl, h⟩ := argTy_elim h'
  obtain ⟨u, rfl, h2⟩ := argTy_elim h
  exact ⟨_, great2_ok _ t u, h2⟩
 ·exact h'.elim
end Go.Proofs.YtnmolpkkemljoaaGreatDoor
end
end
section
namespace Kd
open Go.Am Go.Proofs.YtnmolpkkemljoaaGreatDoor
theorem depG_max : ∀ (l : List Ty) (n : Int), 0 ≤ n → depG l n = max n (depG l 0)
 | [], n, h => by simp only [depG]; omega
 | x :: xs, n, h => by
  have h1 := (dep_bd.1 x).1
  simp only [depG]
  rw [depG_max xs (max n (depT x)) (by omega), depG_max xs (max 0 (depT x)) (by omega)]
  omega
theorem deep_eq : (∀ (t : Ty) (m : Int), 0 ≤ m → deepT t m = min (depT t) (m + 1)) := by
 have key : ∀ (N : Nat), (∀ (t : Ty) (m : Int), SizeOf.sizeOf t < N → 0 ≤ m → deepT t m = min (depT t) (m + 1)) ∧
   (∀ (l : List Ty) (n m : Int), SizeOf.sizeOf l < N → 0 ≤ n → n ≤ m → deepG l n m = min (depG l n) m) := by
  intro N
  induction N with
  | zero => exact ⟨fun _ _ h => by omega, fun _ _ _ h => by omega⟩
  | succ N ih =>
   obtain ⟨ih1, ih2⟩ := ih
   constructor
   ·intro t m ht hm
    cases t with
    | mk k n b l =>
     simp only [Ty.mk.sizeOf_spec] at ht
     simp only [deepT, depT, ih2 l 0 m (by omega) (by omega) hm]
     omega
   ·intro l n m hl h1 h2
    cases l with
    | nil => simp only [deepG, depG]; omega
    | cons x xs =>
     simp only [List.cons.sizeOf_spec] at hl
     have hx := (dep_bd.1 x).1
     have hb := (dep_bd.2 xs (max n (depT x))).1
     simp only [deepG, depG]
     split
     ·rw [ih1 x (m - 1) (by omega) (by omega), ih2 xs _ m (by omega) (by omega) (by omega)]
      rw [depG_max xs (max n (depT x)) (by omega), depG_max xs (max n (min (depT x) (m - 1 + 1))) (by omega)]
      omega
     ·omega
 exact fun t m => (key (SizeOf.sizeOf t + 1)).1 t m (by omega)
mutual
def okT : Ty → Bool
 | .mk k n0 b l => decide (NodeOk (.mk k n0 b l)) && okL l
def okL : List Ty → Bool
 | [] => true
 | x :: xs => okT x && okL xs
end
theorem walk_eq : ∀ (t : Ty) (n : Int), walkB t n = true ↔ n + cnt t ≤ 60 ∧ okT t = true := by
 have key : ∀ (N : Nat), (∀ (t : Ty) (n : Int), SizeOf.sizeOf t < N → (walkB t n = true ↔ n + cnt t ≤ 60 ∧ okT t = true) ∧ (walkB t n = true → walkN t n = n + cnt t)) ∧
   (∀ (l : List Ty) (n : Int), SizeOf.sizeOf l < N → n ≤ 60 → (walkBL l n = true ↔ n + cntL l ≤ 60 ∧ okL l = true) ∧ (walkBL l n = true → walkNL l n = n + cntL l)) := by
  intro N
  induction N with
  | zero => exact ⟨fun _ _ h => by omega, fun _ _ h => by omega⟩
  | succ N ih =>
   obtain ⟨ih1, ih2⟩ := ih
   constructor
   ·intro t n ht
    cases t with
    | mk k n0 b l =>
     simp only [Ty.mk.sizeOf_spec] at ht
     simp only [walkB, walkN, cnt, okT, Bool.and_eq_true, decide_eq_true_eq, Int.natCast_add, Int.cast_ofNat_Int]
     cases hb : okB n (.mk k n0 b l) with
     | true =>
      have h2 : n + 1 ≤ 60 ∧ NodeOk (.mk k n0 b l) := by simpa [okB] using hb
      obtain ⟨h3, h4⟩ := ih2 l (n + 1) (by omega) h2.1
      refine ⟨⟨fun h => ?_, fun h => ⟨rfl, ?_⟩⟩, fun h => ?_⟩
      ·have h5 := h3.1 h.2
       exact ⟨by omega, h2.2, h5.2⟩
      ·exact h3.2 ⟨by omega, h.2.2⟩
      ·have := h4 h.2
       simp only [this]; omega
     | false =>
      have h2 : ¬ (n + 1 ≤ 60 ∧ NodeOk (.mk k n0 b l)) := by
       intro h
       have : okB n (.mk k n0 b l) = true := by simpa [okB] using h
       rw [hb] at this; cases this
      refine ⟨⟨fun h => (by cases h.1), fun h => ?_⟩, fun h => (by cases h.1)⟩
      exact absurd ⟨by omega, h.2.1⟩ h2
   ·intro l n hl hn
    cases l with
    | nil => simp only [walkBL, walkNL, cntL, okL]; simp; omega
    | cons x xs =>
     simp only [List.cons.sizeOf_spec] at hl
     obtain ⟨h1, h2⟩ := ih1 x n (by omega)
     simp only [walkBL, walkNL, cntL, okL, Bool.and_eq_true, Int.natCast_add]
     cases hb : walkB x n with
     | true =>
      have hw := h2 hb
      have hx := h1.1 hb
      obtain ⟨h3, h4⟩ := ih2 xs (walkN x n) (by omega) (by omega)
      refine ⟨⟨fun h => ?_, fun h => ⟨rfl, ?_⟩⟩, fun h => ?_⟩
      ·have h5 := h3.1 h.2
       exact ⟨by omega, hx.2, h5.2⟩
      ·exact h3.2 ⟨by omega, h.2.2⟩
      ·have := h4 h.2
       simp only [this]; omega
     | false =>
      refine ⟨⟨fun h => (by cases h.1), fun h => ?_⟩, fun h => (by cases h.1)⟩
      have := h1.2 ⟨by omega, h.2.1⟩
      rw [hb] at this; cases this
 exact fun t n => ((key (SizeOf.sizeOf t + 1)).1 t n (by omega)).1
theorem valid_eq (t : Ty) : validB t = true ↔ depT t ≤ 12 ∧ cnt t ≤ 60 ∧ okT t = true := by
 simp only [validB, Bool.and_eq_true, decide_eq_true_eq, walk_eq, deep_eq t 12 (by omega)]
 exact ⟨fun h => ⟨by omega, by omega, h.2.2⟩, fun h => ⟨by omega, by omega, h.2.2⟩⟩
theorem okL_mem : ∀ {l : List Ty}, okL l = true → ∀ x ∈ l, okT x = true
 | [], _, x, h => by cases h
 | y :: ys, h, x, hx => by
  simp only [okL, Bool.and_eq_true] at h
  cases hx with
  | head => exact h.1
  | tail _ hx => exact okL_mem h.2 x hx
end Kd
end
section
namespace Kd
open Go Go.Am Go.Proofs.YtnmolpkkemljoaaGreatDoor
theorem Ty.ind {P : Ty → Prop} {Q : List Ty → Prop} (node : ∀ k n b l, Q l → P (.mk k n b l)) (nil : Q []) (cons : ∀ x xs, P x → Q xs → Q (x :: xs)) : (∀ t, P t) ∧ ∀ l, Q l := by
 have key : ∀ (N : Nat), (∀ t, SizeOf.sizeOf t < N → P t) ∧ ∀ l, SizeOf.sizeOf l < N → Q l := by
  intro N
  induction N with
  | zero => exact ⟨fun _ h => by omega, fun _ h => by omega⟩
  | succ N ih =>
   obtain ⟨ih1, ih2⟩ := ih
   constructor
   ·intro t ht
    cases t with
    | mk k n b l =>
     simp only [Ty.mk.sizeOf_spec] at ht
     exact node k n b l (ih2 l (by omega))
   ·intro l hl
    cases l with
    | nil => exact nil
    | cons x xs =>
     simp only [List.cons.sizeOf_spec] at hl
     exact cons x xs (ih1 x (by omega)) (ih2 xs (by omega))
 exact ⟨fun t => (key (SizeOf.sizeOf t + 1)).1 t (by omega), fun l => (key (SizeOf.sizeOf l + 1)).2 l (by omega)⟩
mutual
def wid : Ty → Nat
 | .mk _ _ _ l => max l.length (widL l)
def widL : List Ty → Nat
 | [] => 0
 | x :: xs => max (wid x) (widL xs)
end
theorem wid_len (k n : Int) (b : Bool) (l : List Ty) : l.length ≤ wid (.mk k n b l) := by
 simp only [wid]
 exact Nat.le_max_left _ _
theorem widL_mem : ∀ {l : List Ty} {x : Ty}, x ∈ l → wid x ≤ widL l
 | y :: l, x, h => by
  simp only [widL]
  rcases List.mem_cons.1 h with rfl | h
  ·exact Nat.le_max_left _ _
  ·exact Nat.le_trans (widL_mem h) (Nat.le_max_right _ _)
theorem wid_get {k n : Int} {b : Bool} {l : List Ty} {i : Nat} (h : i < l.length) : wid l[i] ≤ wid (.mk k n b l) := by
 simp only [wid]
 exact Nat.le_trans (widL_mem (List.getElem_mem h)) (Nat.le_max_right _ _)
theorem wid_cnt : (∀ t, wid t ≤ cnt t) ∧ ∀ l, widL l ≤ cntL l :=
 Ty.ind (fun k n b l ih => by
  simp only [wid, cnt]
  have := len_cnt l
  omega) (Nat.le_refl _) fun x xs h1 h2 => by
   simp only [widL, cntL]
   omega
end Kd
end
section
namespace Kd
open Go.Am Go.Proofs.YtnmolpkkemljoaaGreatDoor
end Kd
noncomputable section
namespace Go.Proofs.YtnmolpkkemljoaaGreatDoor
open Go Go.Am Kd
theorem QJ.by {hk : Hooks} {f : FuncId} {args : List AV} {v : AV} (ha : AV.stillL args = true) (hv : v.still = true) (hh : Hooks.Ok Tryz.prog g0 hk) (h : runF hk 60 f args AH.nil (retIs Tryz.prog 5 v)) : QJ f args v :=
 QuietJ.ret (P := Tryz.prog) (G := g0) (f := f) 5 ha hv (FuncJ.run (el := els) (mu := mu0) (hk := hk) hmix hh (n := 60) h)
theorem LSt.by {ι ρ : Type} (s : LSt ι ρ) (meas : ι → Nat) {f k : Nat} {hk : Hooks} (hh : Hooks.Ok Tryz.prog g0 hk) (hrd : s.rd = none) (hw : ∀ x, s.inv x → Whole s.n s.nf (s.fr x) (s.hp x))
  (hwo : ∀ x b, s.inv x → Whole s.n s.nf (s.out b (s.res x)).a (s.out b (s.res x)).A) (round : ∀ x, s.inv x → runL hk 60 f k s meas x) : LHook.Ok Tryz.prog g0 ⟨f, k, s.spec⟩ :=
 LSt.ok s meas (fun l h => by rw [hrd] at h; cases h) hw hwo fun x hx => CodeJ.run (el := els) (mu := mu0) hmix hh (n := 60) (round x hx)
theorem ex_enc {l : List Ty} {P : List Ty → Prop} : (∃ l', encL l = encL l' ∧ P l') = P l :=
 propext ⟨fun ⟨l', h, hp⟩ => by rw [encL_inj h]; exact hp, fun h => ⟨l, rfl, h⟩⟩
theorem ex_get {l : List Ty} {i : Nat} (h : i < l.length) {P : Ty → Prop} : (∃ x, (encL l)[i]? = some (AV.agg [.int .i64 (Ty.kind x), .int .i64 (Ty.n x), .isl (Ty.nl x) none 0 (encL (Ty.l x))]) ∧ P x) = P l[i] := by
 have e := encL_get l i h
 refine propext ⟨fun ⟨x, h1, h2⟩ => ?_, fun hp => ⟨l[i], e, hp⟩⟩
 rw [e] at h1
 have : encD l[i] = encD x := Option.some.inj h1
 rw [← enc_D, ← enc_D] at this
 rw [enc_inj this]; exact h2
end Go.Proofs.YtnmolpkkemljoaaGreatDoor
end
end
section
noncomputable section
namespace Go.Proofs.YtnmolpkkemljoaaGreatDoor
open Go Go.Am Kd
theorem bothR_ndec {p : Prop} [Decidable p] {x y : Prop} (h1 : ¬ p → x) (h2 : p → y) : bothR (!decide p) x y := by
 by_cases hp : p
 ·simp only [hp, decide_true, Bool.not_true]; exact h2 hp
 ·simp only [hp, decide_false, Bool.not_false]; exact h1 hp
end Go.Proofs.YtnmolpkkemljoaaGreatDoor
end
end