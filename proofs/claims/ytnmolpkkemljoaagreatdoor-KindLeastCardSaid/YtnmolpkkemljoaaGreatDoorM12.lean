/-
  What the proof is built of: list (59) as a contract of the machine's. Match: its walk. The conditions of K50, evaluated. Match's walk comes to what it says. Common: its walk. The conditions of K52, evaluated. Common comes to what it says. Match: the hooks. The conditions of K51, evaluated. Match comes to what it says. Bindings that are valid; many; Put: what they come to. Bindings that are valid, many, and both Puts come to what they say. The document's examples, run. KindChecks: the hooks. KindChecks returns true. KindInstances: the hooks. KindLeast: the hooks. The conditions of KindLeast, evaluated. KindInstances: the walk, up to its plain law. Other numbers for variables: the numbered type stays the same. Texts that are read: what they come to. The conditions of K40, evaluated. Numbers in texts that are read. Types into which types are put for variables: instances. What a type and its instance have in common; what matches. KindInstances: the plain law. What is written is read as the same type, and what is read is written the same. KindNumbers returns true. What two types have in common: both are instances of it, it is an instance of what has both as instances, and it is numbered. KindLeast returns true. A world in which the listed variables hold what their initialisers lay. What the laid variables hold, as far as the walks look at it. Conditions: none.
-/
import Derived.Test.YtnmolpkkemljoaaGreatDoorM10
import Derived.Test.YtnmolpkkemljoaaGreatDoorM8
import Derived.Test.YtnmolpkkemljoaaGreatDoorM11
import Derived.Test.YtnmolpkkemljoaaGreatDoorM6
import Derived.Lib.ConvBytes
import Derived.Test.YtnmolpkkemljoaaGreatDoorM7
import Derived.Test.YtnmolpkkemljoaaGreatDoorCards
import Derived.Test.YtnmolpkkemljoaaGreatDoorTie
import Derived.WalkKit
import Derived.ProofKit
import Derived.OpenShut
import Derived.Deep.DeepHandedRow
import Derived.Deep.DeepWitnessRowRef
import Derived.Lib.LaidTab
import Derived.Lib.LaidU8
import Derived.Lib.ItoaNum
section
set_option linter.unusedSimpArgs false
set_option linter.unusedVariables false
namespace Kd
open Go Go.Am Go.Proofs.YtnmolpkkemljoaaGreatDoor
def insB (x : Int × Ty) : List (Int × Ty) → List (Int × Ty)
 | [] => [x]
 | y :: l => if x.1 ≤ y.1 then x :: y :: l else y :: insB x l
def sortB : List (Int × Ty) → List (Int × Ty)
 | [] => []
 | x :: l => insB x (sortB l)
def bndE (x : Int × Ty × Nat) : Int × Ty := (x.1, x.2.1)
theorem insB_perm (x : Int × Ty) : ∀ l, (insB x l).Perm (x :: l)
 | [] => .refl _
 | y :: l => by
  unfold insB
  split
  ·exact .refl _
  ·exact ((insB_perm x l).cons y).trans (.swap ..)
theorem sortB_perm : ∀ l, (sortB l).Perm l
 | [] => .refl _
 | x :: l => (insB_perm x _).trans ((sortB_perm l).cons x)
theorem insB_sorted (x : Int × Ty) : ∀ l : List (Int × Ty), l.Pairwise (fun a b => a.1 ≤ b.1) → (insB x l).Pairwise (fun a b => a.1 ≤ b.1)
 | [], _ => by simp [insB]
 | y :: l, h => by
  rw [List.pairwise_cons] at h
  unfold insB
  split
  ·rename_i hxy
   rw [List.pairwise_cons, List.pairwise_cons]
   refine ⟨fun z hz => ?_, h.1, h.2⟩
   rcases List.mem_cons.1 hz with rfl | hz
   ·exact hxy
   ·exact Int.le_trans hxy (h.1 z hz)
  ·rename_i hxy
   rw [List.pairwise_cons]
   refine ⟨fun z hz => ?_, insB_sorted x l h.2⟩
   rcases List.mem_cons.1 ((insB_perm x l).mem_iff.1 hz) with rfl | hz
   ·omega
   ·exact h.1 z hz
theorem sortB_sorted : ∀ l, (sortB l).Pairwise (fun a b => a.1 ≤ b.1)
 | [] => .nil
 | x :: l => insB_sorted x _ (sortB_sorted l)
theorem sorted_one : ∀ {a b : List (Int × Ty)}, a.Perm b → a.Pairwise (fun x y => x.1 ≤ y.1) → b.Pairwise (fun x y => x.1 ≤ y.1) → (a.map (·.1)).Nodup → a = b
 | [], b, hp, _, _, _ => by simpa using hp.symm.eq_nil.symm
 | x :: a, b, hp, ha, hb, hn => by
  cases b with
  | nil => exact absurd hp.eq_nil (by simp)
  | cons y b =>
   have hxy : x = y := by
    rw [List.pairwise_cons] at ha hb
    rcases List.mem_cons.1 (hp.mem_iff.1 (List.mem_cons_self ..)) with h | h
    ·exact h
    ·rcases List.mem_cons.1 (hp.mem_iff.2 (List.mem_cons_self ..)) with h' | h'
     ·exact h'.symm
     ·have h1 := hb.1 x h
      have h2 := ha.1 y h'
      simp only [List.map_cons, List.nodup_cons] at hn
      exact absurd (List.mem_map.2 ⟨y, h', by show y.1 = x.1; omega⟩) hn.1
   subst hxy
   rw [List.pairwise_cons] at ha hb
   simp only [List.map_cons, List.nodup_cons] at hn
   rw [sorted_one (hp.cons_inv) ha.2 hb.2 hn.2]
theorem perm_lift {α β : Type} (f : α → β) {d l : List β} (h : d.Perm l) : ∀ p : List α, p.map f = l → ∃ p' : List α, p'.Perm p ∧ p'.map f = d := by
 induction h with
 | nil => intro p hp; exact ⟨p, .refl _, hp⟩
 | cons x h ih =>
  intro p hp
  cases p with
  | nil => simp at hp
  | cons a p =>
   simp only [List.map_cons, List.cons.injEq] at hp
   obtain ⟨p', h1, h2⟩ := ih p hp.2
   exact ⟨a :: p', h1.cons a, by simp [h2, hp.1]⟩
 | swap x y l =>
  intro p hp
  match p, hp with
  | a :: c :: p, hp =>
   simp only [List.map_cons, List.cons.injEq] at hp
   exact ⟨c :: a :: p, .swap .., by simp [hp]⟩
 | trans _ _ ih1 ih2 =>
  intro p hp
  obtain ⟨q, h1, h2⟩ := ih2 p hp
  obtain ⟨q', h3, h4⟩ := ih1 q h2
  exact ⟨q', h3.trans h1, h4⟩
end Kd
noncomputable section
namespace Go.Proofs.YtnmolpkkemljoaaGreatDoor
open Go Go.Am Kd Go.RowKit
structure EntR (S : Sh) (e : Int × Ty × Nat) (x : Ent) : Prop where
 n : x.n = e.1
 k : x.k = e.2.1.kind
 m : x.m = e.2.1.n
 b : x.born = e.2.2
 s : VRel S (.isl e.2.1.nl none 0 (encL e.2.1.l)) (.slice x.sp x.sl x.sc)
theorem isl_slice {S : Sh} {b : Bool} {fam : Option Nat} {off : Nat} {xs : List AV} {v : Value} (h : VRel S (.isl b fam off xs) v) : ∃ p n c, v = .slice p n c := by
 cases h <;> exact ⟨_, _, _, rfl⟩
theorem ents_of {S : Sh} : ∀ {es : List (Int × Ty × Nat)} {ms : List MapEntry}, MRel S (encM es) ms → (∀ e ∈ es, 0 ≤ e.1 ∧ e.1 < 1000) → ∃ p : List ((Int × Ty × Nat) × Ent), p.map (·.1) = es ∧ ms = (p.map (·.2)).map Ent.entry ∧ ∀ q ∈ p, EntR S q.1 q.2
 | [], ms, h, _ => by
  cases h
  exact ⟨[], rfl, rfl, fun q hq => by cases hq⟩
 | (n, t, b) :: es, ms, h, hn => by
  simp only [encM, List.map_cons, entM] at h
  cases h with
  | cons _ _ _ _ u v ms' h1 h2 h3 =>
   obtain ⟨p, h4, h5, h6⟩ := ents_of h3 fun e he => hn e (List.mem_cons_of_mem _ he)
   cases h1
   unfold encD at h2
   cases h2 with
   | agg _ vs hl =>
    cases hl with
    | cons _ _ _ _ g1 hl =>
     cases g1
     cases hl with
     | cons _ _ _ _ g2 hl =>
      cases g2
      cases hl with
      | cons _ _ _ _ g3 hl =>
       cases hl
       obtain ⟨sp, sl, sc, rfl⟩ := isl_slice g3
       have hb := hn (n, t, b) (List.mem_cons_self ..)
       exact ⟨((n, t, b), ⟨n, t.kind, t.n, sp, sl, sc, b, hb.1, hb.2⟩) :: p, by simp [h4], by simp [h5, Ent.entry], fun q hq => by
        rcases List.mem_cons.1 hq with rfl | hq
        ·exact ⟨rfl, rfl, rfl, rfl, g3⟩
        ·exact h6 q hq⟩
def okMap (es : List (Int × Ty × Nat)) (c : Nat) : Prop := (∀ e ∈ es, (0 ≤ e.1 ∧ e.1 < 1000) ∧ e.2.2 < c) ∧ (es.map (·.2.2)).Nodup ∧ (es.map (·.1)).Nodup ∧ es.length ≤ 1000
def listV (es : List (Int × Ty × Nat)) : AV := .isl (nilB es) none 0 (encB (sortB (es.map bndE)))
theorem bind_rel {S S1 : Sh} (him : ∀ b o u, S.im b o = some u → S1.im b o = some u) : ∀ (p : List ((Int × Ty × Nat) × Ent)), (∀ q ∈ p, EntR S q.1 q.2) → LRel S1 (flat ((p.map fun q => bndE q.1).map bindD)) ((p.map (·.2)).flatMap Ent.cells)
 | [], _ => .nil
 | q :: p, h => by
  have hq := h q (List.mem_cons_self ..)
  have ih := bind_rel him p fun x hx => h x (List.mem_cons_of_mem _ hx)
  have hs := hq.s.still him (by simp [AV.still, encL_still])
  have hfl : flat (((q :: p).map fun q => bndE q.1).map bindD) = [.int .i64 q.1.1, .int .i64 q.1.2.1.kind, .int .i64 q.1.2.1.n, .isl q.1.2.1.nl none 0 (encL q.1.2.1.l)] ++ flat ((p.map fun q => bndE q.1).map bindD) := rfl
  have hfm : ((q :: p).map (·.2)).flatMap Ent.cells = [.int .i64 q.2.n, .int .i64 q.2.k, .int .i64 q.2.m, .slice q.2.sp q.2.sl q.2.sc] ++ (p.map (·.2)).flatMap Ent.cells := rfl
  rw [hfl, hfm, hq.n, hq.k, hq.m]
  exact .cons _ _ _ _ (.int ..) (.cons _ _ _ _ (.int ..) (.cons _ _ _ _ (.int ..) (.cons _ _ _ _ hs ih)))
theorem list_ok {G : Gl} {A : AH} {b c : Nat} {es : List (Int × Ty × Nat)} (hb : A.blks[b]? = some (.map (encM es) c)) (ho : okMap es c) : FuncJ Tryz.prog G 59 [.map b] A fun o => o = ⟨.returned (listV es), A⟩ := by
 obtain ⟨ho1, ho2, ho3, ho4⟩ := ho
 refine FuncJ.fresh fun S w vs hi hl => ?_
 cases hl with
 | cons _ _ _ _ hv hl =>
  cases hl
  cases hv with
  | map _ a ha =>
  obtain ⟨a', o, s1, s2, s3⟩ := hi.blk b _ hb (by simp)
  obtain rfl := Option.some.inj (s1.symm.trans ha)
  cases s3 with
  | map _ _ ms hm =>
  obtain ⟨p, rfl, rfl, hp⟩ := ents_of hm fun e he => (ho1 e he).1
  have hborn : (p.map (·.2)).map (·.born) = (p.map (·.1)).map (·.2.2) := by
   rw [List.map_map, List.map_map]
   exact List.map_congr_left fun q hq => (hp q hq).b
  refine (list_run sort_says sort_none w a' (p.map (·.2)) c s2 (fun x hx => ?_) (by rw [hborn]; exact ho2) (by simpa using ho4)).mono ?_
  ·obtain ⟨q, hq, rfl⟩ := List.mem_map.1 hx
   rw [(hp q hq).b]
   exact (ho1 _ (List.mem_map.2 ⟨q, hq, rfl⟩)).2
  rintro e w' ⟨hbl, v, rfl, hL⟩
  refine ⟨hbl, v, rfl, ?_⟩
  rcases hL with ⟨h0, rfl⟩ | ⟨g, cap, cur, d, hne, rfl, hg, hcur, hcap, hperm, hsort, hcells⟩
  ·have : p = [] := by simpa using h0
   subst this
   exact ⟨w.heap.size, [], Nat.le_refl _, fun j u hu => by simp at hu, fun S1 _ _ => .islNil _ _⟩
  ·obtain ⟨p', hpp, rfl⟩ := perm_lift (·.2) hperm p rfl
   have hp' : ∀ q ∈ p', EntR S q.1 q.2 := fun q hq => hp q (hpp.mem_iff.1 hq)
   have hbs : sortB ((p.map (·.1)).map bndE) = p'.map fun q => bndE q.1 := by
    refine sorted_one ?_ (sortB_sorted _) ?_ ?_
    ·refine (sortB_perm _).trans ?_
     rw [List.map_map]
     exact (hpp.map _).symm
    ·rw [List.pairwise_map] at hsort ⊢
     refine hsort.imp_of_mem fun {x y} hx hy hxy => ?_
     rw [(hp' x hx).n, (hp' y hy).n] at hxy
     exact hxy
    ·refine ((sortB_perm _).map _).nodup_iff.2 ?_
     rw [List.map_map]
     exact ho3
   refine ⟨g, (p'.map (·.2)).flatMap Ent.cells, hg, fun j u hu => ?_, fun S1 him hnew => ?_⟩
   ·simp [World.cell?, hcur, hcells j u hu]
   ·have hrel := bind_rel him p' hp'
    have hne' : p ≠ [] := fun h => hne (by rw [h]; rfl)
    unfold listV
    rw [hbs]
    have hnil : nilB (p.map (·.1)) = false := by
     unfold nilB
     rw [decide_eq_false_iff_not, List.length_map, List.length_eq_zero_iff]
     exact hne'
    rw [hnil]
    have hlen : (p.map (·.2)).length = (encB (p'.map fun q => bndE q.1)).length := by
     simp only [encB, List.length_map]; exact hpp.length_eq.symm
    rw [hlen]
    refine VRel.isl none 0 _ 4 g 0 cap (by omega) ?_ (CRel.of_cells hrel fun j u hu => ?_) (by rw [← hlen]; exact hcap) (fun φ hφ => by cases hφ)
    ·intro x hx
     obtain ⟨y, _, rfl⟩ := List.mem_map.1 hx
     rfl
    ·rw [Nat.zero_add]; exact hnew j u hu
end Go.Proofs.YtnmolpkkemljoaaGreatDoor
end
end
section
namespace Kd
open Go.Am Go.Proofs.YtnmolpkkemljoaaGreatDoor
abbrev Es := List (Int × Ty × Nat)
def setM : Es → Int → Ty → Es
 | [], _, _ => []
 | x :: l, n, u => if n = x.1 then (x.1, u, x.2.2) :: l else x :: setM l n u
structure MR where
 ok : Bool
 es : Es
 c : Nat
mutual
def mtT : Ty → Ty → Es → Nat → MR
 | .mk k n _ l, v, es, c =>
  if k = 6 then
   match boundM es n with
   | some o => if sameB o v = true then ⟨true, setM es n (cleanT v), c⟩ else ⟨false, es, c⟩
   | none => ⟨true, es ++ [(n, cleanT v, c)], c + 1⟩
  else if k = v.kind then mtL l v.l es c
  else ⟨false, es, c⟩
def mtL : List Ty → List Ty → Es → Nat → MR
 | x :: xs, y :: ys, es, c => if (mtT x y es c).ok = true then mtL xs ys (mtT x y es c).es (mtT x y es c).c else ⟨false, (mtT x y es c).es, (mtT x y es c).c⟩
 | _, _, es, c => ⟨true, es, c⟩
end
def mtB (t u : Ty) (es : Es) (c : Nat) : Bool := (mtT t u es c).ok
def mtE (t u : Ty) (es : Es) (c : Nat) : Es := (mtT t u es c).es
def mtC (t u : Ty) (es : Es) (c : Nat) : Nat := (mtT t u es c).c
end Kd
noncomputable section
namespace Go.Proofs.YtnmolpkkemljoaaGreatDoor
open Go Go.Am Kd
def mtA (es : Es) (c : Nat) : AH := ⟨[top3, top3, .cells [.top] 28, top3, top3, .map (encM es) c, .cells [.map 5] 74, .cells [.fn (.func 65) [] [.ptr 6 0, .ptr 7 0]] 83], []⟩
def argMt (A : AH) (K : Es → Nat → Prop) : Prop :=
 match nthR A.blks 5 with
 | some (.map m c) => ∃ es, m = encM es ∧ K es c
 | _ => False
def mwalkH (N : Nat) : HSpec := fun args A K =>
 match args with
 | [t, u, .ptr 6 0, .ptr 7 0] => argTy t fun t => argTy u fun u => argMt A fun es c => (SizeOf.sizeOf t < N ∧ okT t = true ∧ okT u = true ∧ okMs es ∧ cnt u ≤ 100) ∧
   onR 0 A (mtA es c) (bothR (mtB t u es c) (K ⟨.returned (.tup []), (mtA (mtE t u es c) (mtC t u es c)).onto A⟩) (K ⟨.panicked (stopC 15), (mtA (mtE t u es c) (mtC t u es c)).onto A⟩))
 | _ => False
def mwalkH0 : HSpec := fun args A K =>
 match args with
 | [t, u, .ptr 6 0, .ptr 7 0] => argTy t fun t => argTy u fun u => argMt A fun es c => (okT t = true ∧ okT u = true ∧ okMs es ∧ cnt u ≤ 100) ∧
   onR 0 A (mtA es c) (bothR (mtB t u es c) (K ⟨.returned (.tup []), (mtA (mtE t u es c) (mtC t u es c)).onto A⟩) (K ⟨.panicked (stopC 15), (mtA (mtE t u es c) (mtC t u es c)).onto A⟩))
 | _ => False
def mwHk (N : Nat) : Hooks := mkHooks Tryz.prog [(67, eqQ0), (68, kclQ0)] [(65, mwalkH N)] []
end Go.Proofs.YtnmolpkkemljoaaGreatDoor
end
end
section
noncomputable section
namespace Go.Proofs.YtnmolpkkemljoaaGreatDoor
open Go Go.Am Kd Go.Am.AV Go.IntKind
set_option maxRecDepth 100000
theorem mw_0 (es es' : Es) (c c' : Nat) (k n : Int) (b : Bool) (v : Ty) (N : Nat) (e : AEnd) : (runF (mwHk N) 60 65 [.agg [.int .i64 k, .int .i64 n, .isl b none 0 []], encD v, .ptr 6 0, .ptr 7 0] (mtA es c) (hpIs 0 e (mtA es' c'))) = ( bothR (decide (k = (6 : Int))) ((keyFind (int i64 n) (encM es) 0 = some none ∧ ∃ l, encL (Ty.l v) = encL l ∧ okT (Ty.mk (Ty.kind v) (Ty.n v) (Ty.nl v) l) = true ∧ (keyFind (int i64 n) (encM es) 0 = some none ∧ AEnd.returned (tup []) = e ∧ 24 = 24 ∧ 24 = 24 ∧ 28 = 28 ∧ 24 = 24 ∧ 24 = 24 ∧ encM es ++ [(int i64 n, agg
 [int i64 (Ty.kind (cleanT (Ty.mk (Ty.kind v) (Ty.n v) (Ty.nl v) l))), int i64 (Ty.n (cleanT (Ty.mk (Ty.kind v) (Ty.n v) (Ty.nl v) l))), isl (Ty.nl (cleanT (Ty.mk (Ty.kind v) (Ty.n v) (Ty.nl v) l))) none (0) (encL (Ty.l (cleanT (Ty.mk (Ty.kind v) (Ty.n v) (Ty.nl v) l))))], c)] = encM es' ∧ c + 1 = c' ∧ 74 = 74 ∧ SubR [AV.map (5)] [AV.map (5)] (83 = 83 ∧ SubR [AV.fn (Fn.func (65)) [] [ptr (6) (0), ptr (7) (0)]] [AV.fn (Fn.func (65)) [] [ptr (6) (0), ptr (7) (0)]] (0 = 0 ∧ True)) ∨ ∃ j y c_1, keyFind (int i64 n) (encM es) 0 = some (some (j, y)) ∧
 (encM es)[j]? = some (int i64 n, y, c_1) ∧ AEnd.returned (tup []) = e ∧ 24 = 24 ∧ 24 = 24 ∧ 28 = 28 ∧ 24 = 24 ∧ 24 = 24 ∧ List.set (encM es) j (int i64 n, agg [int i64 (Ty.kind (cleanT (Ty.mk (Ty.kind v) (Ty.n v) (Ty.nl v) l))), int i64 (Ty.n (cleanT (Ty.mk (Ty.kind v) (Ty.n v) (Ty.nl v) l))), isl (Ty.nl (cleanT (Ty.mk (Ty.kind v) (Ty.n v) (Ty.nl v) l))) none (0) (encL (Ty.l (cleanT (Ty.mk (Ty.kind v) (Ty.n v) (Ty.nl v) l))))], c_1) = encM es' ∧ c = c' ∧ 74 = 74 ∧ SubR [AV.map (5)] [AV.map (5)] (83 = 83 ∧
 SubR [AV.fn (Fn.func (65)) [] [ptr (6) (0), ptr (7) (0)]] [AV.fn (Fn.func (65)) [] [ptr (6) (0), ptr (7) (0)]] (0 = 0 ∧ True)))) ∨ ∃ j x, keyFind (int i64 n) (encM es) 0 = some (some (j, agg [int i64 (Ty.kind x), int i64 (Ty.n x), isl (Ty.nl x) none (0) (encL (Ty.l x))])) ∧ ∃ l, encL (Ty.l x) = encL l ∧ ∃ l_1, encL (Ty.l v) = encL l_1 ∧ (okT (Ty.mk (Ty.kind x) (Ty.n x) (Ty.nl x) l) = true ∧ okT (Ty.mk (Ty.kind v) (Ty.n v) (Ty.nl v) l_1) = true) ∧
 bothR (!sameB (Ty.mk (Ty.kind x) (Ty.n x) (Ty.nl x) l) (Ty.mk (Ty.kind v) (Ty.n v) (Ty.nl v) l_1)) (AEnd.panicked [(AV.iface (117) (agg [int i64 (15)]), false)] = e ∧ 24 = 24 ∧ 24 = 24 ∧ 28 = 28 ∧ 24 = 24 ∧ 24 = 24 ∧ encM es = encM es' ∧ c = c' ∧ 74 = 74 ∧ SubR [AV.map (5)] [AV.map (5)] (83 = 83 ∧ SubR [AV.fn (Fn.func (65)) [] [ptr (6) (0), ptr (7) (0)]] [AV.fn (Fn.func (65)) [] [ptr (6) (0), ptr (7) (0)]] (0 = 0 ∧ True))) (∃ l, encL (Ty.l v) = encL l ∧ okT (Ty.mk (Ty.kind v) (Ty.n v) (Ty.nl v) l) = true ∧ (keyFind (int i64 n) (encM es) 0 = some none ∧
 AEnd.returned (tup []) = e ∧ 24 = 24 ∧ 24 = 24 ∧ 28 = 28 ∧ 24 = 24 ∧ 24 = 24 ∧ encM es ++ [(int i64 n, agg [int i64 (Ty.kind (cleanT (Ty.mk (Ty.kind v) (Ty.n v) (Ty.nl v) l))), int i64 (Ty.n (cleanT (Ty.mk (Ty.kind v) (Ty.n v) (Ty.nl v) l))), isl (Ty.nl (cleanT (Ty.mk (Ty.kind v) (Ty.n v) (Ty.nl v) l))) none (0) (encL (Ty.l (cleanT (Ty.mk (Ty.kind v) (Ty.n v) (Ty.nl v) l))))], c)] = encM es' ∧ c + 1 = c' ∧ 74 = 74 ∧ SubR [AV.map (5)] [AV.map (5)] (83 = 83 ∧ SubR [AV.fn (Fn.func (65)) [] [ptr (6) (0), ptr (7) (0)]]
 [AV.fn (Fn.func (65)) [] [ptr (6) (0), ptr (7) (0)]] (0 = 0 ∧ True)) ∨ ∃ j y c_1, keyFind (int i64 n) (encM es) 0 = some (some (j, y)) ∧ (encM es)[j]? = some (int i64 n, y, c_1) ∧ AEnd.returned (tup []) = e ∧ 24 = 24 ∧ 24 = 24 ∧ 28 = 28 ∧ 24 = 24 ∧ 24 = 24 ∧ List.set (encM es) j (int i64 n, agg [int i64 (Ty.kind (cleanT (Ty.mk (Ty.kind v) (Ty.n v) (Ty.nl v) l))), int i64 (Ty.n (cleanT (Ty.mk (Ty.kind v) (Ty.n v) (Ty.nl v) l))), isl (Ty.nl (cleanT (Ty.mk (Ty.kind v) (Ty.n v) (Ty.nl v) l))) none (0)
 (encL (Ty.l (cleanT (Ty.mk (Ty.kind v) (Ty.n v) (Ty.nl v) l))))], c_1) = encM es' ∧ c = c' ∧ 74 = 74 ∧ SubR [AV.map (5)] [AV.map (5)] (83 = 83 ∧ SubR [AV.fn (Fn.func (65)) [] [ptr (6) (0), ptr (7) (0)]] [AV.fn (Fn.func (65)) [] [ptr (6) (0), ptr (7) (0)]] (0 = 0 ∧ True))))) (bothR (!decide (k = Ty.kind v)) (AEnd.panicked [(AV.iface (117) (agg [int i64 (15)]), false)] = e ∧ 24 = 24 ∧ 24 = 24 ∧ 28 = 28 ∧ 24 = 24 ∧ 24 = 24 ∧ encM es = encM es' ∧ c = c' ∧ 74 = 74 ∧ SubR [AV.map (5)] [AV.map (5)] (83 = 83 ∧ SubR [AV.fn (Fn.func (65)) [] [ptr (6) (0), ptr (7) (0)]]
 [AV.fn (Fn.func (65)) [] [ptr (6) (0), ptr (7) (0)]] (0 = 0 ∧ True))) (AEnd.returned (tup []) = e ∧ 24 = 24 ∧ 24 = 24 ∧ 28 = 28 ∧ 24 = 24 ∧ 24 = 24 ∧ encM es = encM es' ∧ c = c' ∧ 74 = 74 ∧ SubR [AV.map (5)] [AV.map (5)] (83 = 83 ∧ SubR [AV.fn (Fn.func (65)) [] [ptr (6) (0), ptr (7) (0)]] [AV.fn (Fn.func (65)) [] [ptr (6) (0), ptr (7) (0)]] (0 = 0 ∧ True))))) := by kernel_rfl
theorem mw_1 (es es' : Es) (c c' : Nat) (k n : Int) (b : Bool) (x : Ty) (v : Ty) (N : Nat) (e : AEnd) : (runF (mwHk N) 60 65 [.agg [.int .i64 k, .int .i64 n, .isl b none 0 [encD x]], encD v, .ptr 6 0, .ptr 7 0] (mtA es c) (hpIs 0 e (mtA es' c'))) = ( bothR (decide (k = (6 : Int))) ((keyFind (int i64 n) (encM es) 0 = some none ∧ ∃ l, encL (Ty.l v) = encL l ∧ okT (Ty.mk (Ty.kind v) (Ty.n v) (Ty.nl v) l) = true ∧ (keyFind (int i64 n) (encM es) 0 = some none ∧ AEnd.returned (tup []) = e ∧ 24 = 24 ∧ 24 = 24 ∧ 28 = 28 ∧ 24 = 24 ∧ 24 = 24 ∧ encM es ++ [(int i64 n,
 agg [int i64 (Ty.kind (cleanT (Ty.mk (Ty.kind v) (Ty.n v) (Ty.nl v) l))), int i64 (Ty.n (cleanT (Ty.mk (Ty.kind v) (Ty.n v) (Ty.nl v) l))), isl (Ty.nl (cleanT (Ty.mk (Ty.kind v) (Ty.n v) (Ty.nl v) l))) none (0) (encL (Ty.l (cleanT (Ty.mk (Ty.kind v) (Ty.n v) (Ty.nl v) l))))], c)] = encM es' ∧ c + 1 = c' ∧ 74 = 74 ∧ SubR [AV.map (5)] [AV.map (5)] (83 = 83 ∧ SubR [AV.fn (Fn.func (65)) [] [ptr (6) (0), ptr (7) (0)]] [AV.fn (Fn.func (65)) [] [ptr (6) (0), ptr (7) (0)]] (0 = 0 ∧ True)) ∨ ∃ j y c_1,
 keyFind (int i64 n) (encM es) 0 = some (some (j, y)) ∧ (encM es)[j]? = some (int i64 n, y, c_1) ∧ AEnd.returned (tup []) = e ∧ 24 = 24 ∧ 24 = 24 ∧ 28 = 28 ∧ 24 = 24 ∧ 24 = 24 ∧ List.set (encM es) j (int i64 n, agg [int i64 (Ty.kind (cleanT (Ty.mk (Ty.kind v) (Ty.n v) (Ty.nl v) l))), int i64 (Ty.n (cleanT (Ty.mk (Ty.kind v) (Ty.n v) (Ty.nl v) l))), isl (Ty.nl (cleanT (Ty.mk (Ty.kind v) (Ty.n v) (Ty.nl v) l))) none (0) (encL (Ty.l (cleanT (Ty.mk (Ty.kind v) (Ty.n v) (Ty.nl v) l))))], c_1) = encM es' ∧ c = c' ∧ 74 = 74 ∧
 SubR [AV.map (5)] [AV.map (5)] (83 = 83 ∧ SubR [AV.fn (Fn.func (65)) [] [ptr (6) (0), ptr (7) (0)]] [AV.fn (Fn.func (65)) [] [ptr (6) (0), ptr (7) (0)]] (0 = 0 ∧ True)))) ∨ ∃ j x, keyFind (int i64 n) (encM es) 0 = some (some (j, agg [int i64 (Ty.kind x), int i64 (Ty.n x), isl (Ty.nl x) none (0) (encL (Ty.l x))])) ∧ ∃ l, encL (Ty.l x) = encL l ∧ ∃ l_1, encL (Ty.l v) = encL l_1 ∧ (okT (Ty.mk (Ty.kind x) (Ty.n x) (Ty.nl x) l) = true ∧ okT (Ty.mk (Ty.kind v) (Ty.n v) (Ty.nl v) l_1) = true) ∧
 bothR (!sameB (Ty.mk (Ty.kind x) (Ty.n x) (Ty.nl x) l) (Ty.mk (Ty.kind v) (Ty.n v) (Ty.nl v) l_1)) (AEnd.panicked [(AV.iface (117) (agg [int i64 (15)]), false)] = e ∧ 24 = 24 ∧ 24 = 24 ∧ 28 = 28 ∧ 24 = 24 ∧ 24 = 24 ∧ encM es = encM es' ∧ c = c' ∧ 74 = 74 ∧ SubR [AV.map (5)] [AV.map (5)] (83 = 83 ∧ SubR [AV.fn (Fn.func (65)) [] [ptr (6) (0), ptr (7) (0)]] [AV.fn (Fn.func (65)) [] [ptr (6) (0), ptr (7) (0)]] (0 = 0 ∧ True))) (∃ l, encL (Ty.l v) = encL l ∧ okT (Ty.mk (Ty.kind v) (Ty.n v) (Ty.nl v) l) = true ∧ (keyFind (int i64 n) (encM es) 0 = some none ∧
 AEnd.returned (tup []) = e ∧ 24 = 24 ∧ 24 = 24 ∧ 28 = 28 ∧ 24 = 24 ∧ 24 = 24 ∧ encM es ++ [(int i64 n, agg [int i64 (Ty.kind (cleanT (Ty.mk (Ty.kind v) (Ty.n v) (Ty.nl v) l))), int i64 (Ty.n (cleanT (Ty.mk (Ty.kind v) (Ty.n v) (Ty.nl v) l))), isl (Ty.nl (cleanT (Ty.mk (Ty.kind v) (Ty.n v) (Ty.nl v) l))) none (0) (encL (Ty.l (cleanT (Ty.mk (Ty.kind v) (Ty.n v) (Ty.nl v) l))))], c)] = encM es' ∧ c + 1 = c' ∧ 74 = 74 ∧ SubR [AV.map (5)] [AV.map (5)] (83 = 83 ∧ SubR [AV.fn (Fn.func (65)) [] [ptr (6) (0), ptr (7) (0)]]
 [AV.fn (Fn.func (65)) [] [ptr (6) (0), ptr (7) (0)]] (0 = 0 ∧ True)) ∨ ∃ j y c_1, keyFind (int i64 n) (encM es) 0 = some (some (j, y)) ∧ (encM es)[j]? = some (int i64 n, y, c_1) ∧ AEnd.returned (tup []) = e ∧ 24 = 24 ∧ 24 = 24 ∧ 28 = 28 ∧ 24 = 24 ∧ 24 = 24 ∧ List.set (encM es) j (int i64 n, agg [int i64 (Ty.kind (cleanT (Ty.mk (Ty.kind v) (Ty.n v) (Ty.nl v) l))), int i64 (Ty.n (cleanT (Ty.mk (Ty.kind v) (Ty.n v) (Ty.nl v) l))), isl (Ty.nl (cleanT (Ty.mk (Ty.kind v) (Ty.n v) (Ty.nl v) l))) none (0)
 (encL (Ty.l (cleanT (Ty.mk (Ty.kind v) (Ty.n v) (Ty.nl v) l))))], c_1) = encM es' ∧ c = c' ∧ 74 = 74 ∧ SubR [AV.map (5)] [AV.map (5)] (83 = 83 ∧ SubR [AV.fn (Fn.func (65)) [] [ptr (6) (0), ptr (7) (0)]] [AV.fn (Fn.func (65)) [] [ptr (6) (0), ptr (7) (0)]] (0 = 0 ∧ True))))) (bothR (!decide (k = Ty.kind v)) (AEnd.panicked [(AV.iface (117) (agg [int i64 (15)]), false)] = e ∧ 24 = 24 ∧ 24 = 24 ∧ 28 = 28 ∧ 24 = 24 ∧ 24 = 24 ∧ encM es = encM es' ∧ c = c' ∧ 74 = 74 ∧ SubR [AV.map (5)] [AV.map (5)] (83 = 83 ∧ SubR [AV.fn (Fn.func (65)) [] [ptr (6) (0), ptr (7) (0)]]
 [AV.fn (Fn.func (65)) [] [ptr (6) (0), ptr (7) (0)]] (0 = 0 ∧ True))) (Int.NonNeg (0) ∧ ∃ x_1, some (agg [int i64 (Ty.kind x), int i64 (Ty.n x), isl (Ty.nl x) none (0) (encL (Ty.l x))]) = some (agg [int i64 (Ty.kind x_1), int i64 (Ty.n x_1), isl (Ty.nl x_1) none (0) (encL (Ty.l x_1))]) ∧ Int.NonNeg (0) ∧ ∃ x, (encL (Ty.l v))[0]? = some (agg [int i64 (Ty.kind x), int i64 (Ty.n x), isl (Ty.nl x) none (0) (encL (Ty.l x))]) ∧ ∃ l, encL (Ty.l x_1) = encL l ∧ ∃ l_1, encL (Ty.l x) = encL l_1 ∧ ∃ es_1,
 encM es = encM es_1 ∧ (SizeOf.sizeOf (Ty.mk (Ty.kind x_1) (Ty.n x_1) (Ty.nl x_1) l) < N ∧ okT (Ty.mk (Ty.kind x_1) (Ty.n x_1) (Ty.nl x_1) l) = true ∧ okT (Ty.mk (Ty.kind x) (Ty.n x) (Ty.nl x) l_1) = true ∧ okMs es_1 ∧ cnt (Ty.mk (Ty.kind x) (Ty.n x) (Ty.nl x) l_1) ≤ 100) ∧ 24 = 24 ∧ 24 = 24 ∧ 28 = 28 ∧ 24 = 24 ∧ 24 = 24 ∧ encM es = encM es_1 ∧ c = c ∧ 74 = 74 ∧ SubR [AV.map (5)] [AV.map (5)] (83 = 83 ∧ SubR [AV.fn (Fn.func (65)) [] [ptr (6) (0), ptr (7) (0)]] [AV.fn (Fn.func (65)) [] [ptr (6) (0), ptr (7) (0)]] (0 = 0 ∧
 bothR (mtB (Ty.mk (Ty.kind x_1) (Ty.n x_1) (Ty.nl x_1) l) (Ty.mk (Ty.kind x) (Ty.n x) (Ty.nl x) l_1) es_1 c) (AEnd.returned (tup []) = e ∧ 24 = 24 ∧ 24 = 24 ∧ 28 = 28 ∧ 24 = 24 ∧ 24 = 24 ∧ encM (mtE (Ty.mk (Ty.kind x_1) (Ty.n x_1) (Ty.nl x_1) l) (Ty.mk (Ty.kind x) (Ty.n x) (Ty.nl x) l_1) es_1 c) = encM es' ∧ mtC (Ty.mk (Ty.kind x_1) (Ty.n x_1) (Ty.nl x_1) l) (Ty.mk (Ty.kind x) (Ty.n x) (Ty.nl x) l_1) es_1 c = c' ∧ 74 = 74 ∧ SubR [AV.map (5)] [AV.map (5)] (83 = 83 ∧ SubR [AV.fn (Fn.func (65)) [] [ptr (6) (0), ptr (7) (0)]] [AV.fn (Fn.func (65)) [] [ptr (6) (0), ptr (7) (0)]]
 (0 = 0 ∧ True))) (AEnd.panicked [(AV.iface (117) (agg [int i64 (15)]), false)] = e ∧ 24 = 24 ∧ 24 = 24 ∧ 28 = 28 ∧ 24 = 24 ∧ 24 = 24 ∧ encM (mtE (Ty.mk (Ty.kind x_1) (Ty.n x_1) (Ty.nl x_1) l) (Ty.mk (Ty.kind x) (Ty.n x) (Ty.nl x) l_1) es_1 c) = encM es' ∧ mtC (Ty.mk (Ty.kind x_1) (Ty.n x_1) (Ty.nl x_1) l) (Ty.mk (Ty.kind x) (Ty.n x) (Ty.nl x) l_1) es_1 c = c' ∧ 74 = 74 ∧ SubR [AV.map (5)] [AV.map (5)] (83 = 83 ∧ SubR [AV.fn (Fn.func (65)) [] [ptr (6) (0), ptr (7) (0)]] [AV.fn (Fn.func (65)) [] [ptr (6) (0), ptr (7) (0)]] (0 = 0 ∧ True)))))))) := by kernel_rfl
theorem mw_2 (es es' : Es) (c c' : Nat) (k n : Int) (b : Bool) (x y : Ty) (v : Ty) (N : Nat) (e : AEnd) : (runF (mwHk N) 60 65 [.agg [.int .i64 k, .int .i64 n, .isl b none 0 [encD x, encD y]], encD v, .ptr 6 0, .ptr 7 0] (mtA es c) (hpIs 0 e (mtA es' c'))) = ( bothR (decide (k = (6 : Int))) ((keyFind (int i64 n) (encM es) 0 = some none ∧ ∃ l, encL (Ty.l v) = encL l ∧ okT (Ty.mk (Ty.kind v) (Ty.n v) (Ty.nl v) l) = true ∧ (keyFind (int i64 n) (encM es) 0 = some none ∧ AEnd.returned (tup []) = e ∧ 24 = 24 ∧ 24 = 24 ∧ 28 = 28 ∧ 24 = 24 ∧ 24 = 24 ∧ encM es ++
 [(int i64 n, agg [int i64 (Ty.kind (cleanT (Ty.mk (Ty.kind v) (Ty.n v) (Ty.nl v) l))), int i64 (Ty.n (cleanT (Ty.mk (Ty.kind v) (Ty.n v) (Ty.nl v) l))), isl (Ty.nl (cleanT (Ty.mk (Ty.kind v) (Ty.n v) (Ty.nl v) l))) none (0) (encL (Ty.l (cleanT (Ty.mk (Ty.kind v) (Ty.n v) (Ty.nl v) l))))], c)] = encM es' ∧ c + 1 = c' ∧ 74 = 74 ∧ SubR [AV.map (5)] [AV.map (5)] (83 = 83 ∧ SubR [AV.fn (Fn.func (65)) [] [ptr (6) (0), ptr (7) (0)]] [AV.fn (Fn.func (65)) [] [ptr (6) (0), ptr (7) (0)]] (0 = 0 ∧ True)) ∨ ∃ j y c_1,
 keyFind (int i64 n) (encM es) 0 = some (some (j, y)) ∧ (encM es)[j]? = some (int i64 n, y, c_1) ∧ AEnd.returned (tup []) = e ∧ 24 = 24 ∧ 24 = 24 ∧ 28 = 28 ∧ 24 = 24 ∧ 24 = 24 ∧ List.set (encM es) j (int i64 n, agg [int i64 (Ty.kind (cleanT (Ty.mk (Ty.kind v) (Ty.n v) (Ty.nl v) l))), int i64 (Ty.n (cleanT (Ty.mk (Ty.kind v) (Ty.n v) (Ty.nl v) l))), isl (Ty.nl (cleanT (Ty.mk (Ty.kind v) (Ty.n v) (Ty.nl v) l))) none (0) (encL (Ty.l (cleanT (Ty.mk (Ty.kind v) (Ty.n v) (Ty.nl v) l))))], c_1) = encM es' ∧ c = c' ∧ 74 = 74 ∧
 SubR [AV.map (5)] [AV.map (5)] (83 = 83 ∧ SubR [AV.fn (Fn.func (65)) [] [ptr (6) (0), ptr (7) (0)]] [AV.fn (Fn.func (65)) [] [ptr (6) (0), ptr (7) (0)]] (0 = 0 ∧ True)))) ∨ ∃ j x, keyFind (int i64 n) (encM es) 0 = some (some (j, agg [int i64 (Ty.kind x), int i64 (Ty.n x), isl (Ty.nl x) none (0) (encL (Ty.l x))])) ∧ ∃ l, encL (Ty.l x) = encL l ∧ ∃ l_1, encL (Ty.l v) = encL l_1 ∧ (okT (Ty.mk (Ty.kind x) (Ty.n x) (Ty.nl x) l) = true ∧ okT (Ty.mk (Ty.kind v) (Ty.n v) (Ty.nl v) l_1) = true) ∧
 bothR (!sameB (Ty.mk (Ty.kind x) (Ty.n x) (Ty.nl x) l) (Ty.mk (Ty.kind v) (Ty.n v) (Ty.nl v) l_1)) (AEnd.panicked [(AV.iface (117) (agg [int i64 (15)]), false)] = e ∧ 24 = 24 ∧ 24 = 24 ∧ 28 = 28 ∧ 24 = 24 ∧ 24 = 24 ∧ encM es = encM es' ∧ c = c' ∧ 74 = 74 ∧ SubR [AV.map (5)] [AV.map (5)] (83 = 83 ∧ SubR [AV.fn (Fn.func (65)) [] [ptr (6) (0), ptr (7) (0)]] [AV.fn (Fn.func (65)) [] [ptr (6) (0), ptr (7) (0)]] (0 = 0 ∧ True))) (∃ l, encL (Ty.l v) = encL l ∧ okT (Ty.mk (Ty.kind v) (Ty.n v) (Ty.nl v) l) = true ∧ (keyFind (int i64 n) (encM es) 0 = some none ∧
 AEnd.returned (tup []) = e ∧ 24 = 24 ∧ 24 = 24 ∧ 28 = 28 ∧ 24 = 24 ∧ 24 = 24 ∧ encM es ++ [(int i64 n, agg [int i64 (Ty.kind (cleanT (Ty.mk (Ty.kind v) (Ty.n v) (Ty.nl v) l))), int i64 (Ty.n (cleanT (Ty.mk (Ty.kind v) (Ty.n v) (Ty.nl v) l))), isl (Ty.nl (cleanT (Ty.mk (Ty.kind v) (Ty.n v) (Ty.nl v) l))) none (0) (encL (Ty.l (cleanT (Ty.mk (Ty.kind v) (Ty.n v) (Ty.nl v) l))))], c)] = encM es' ∧ c + 1 = c' ∧ 74 = 74 ∧ SubR [AV.map (5)] [AV.map (5)] (83 = 83 ∧ SubR [AV.fn (Fn.func (65)) [] [ptr (6) (0), ptr (7) (0)]]
 [AV.fn (Fn.func (65)) [] [ptr (6) (0), ptr (7) (0)]] (0 = 0 ∧ True)) ∨ ∃ j y c_1, keyFind (int i64 n) (encM es) 0 = some (some (j, y)) ∧ (encM es)[j]? = some (int i64 n, y, c_1) ∧ AEnd.returned (tup []) = e ∧ 24 = 24 ∧ 24 = 24 ∧ 28 = 28 ∧ 24 = 24 ∧ 24 = 24 ∧ List.set (encM es) j (int i64 n, agg [int i64 (Ty.kind (cleanT (Ty.mk (Ty.kind v) (Ty.n v) (Ty.nl v) l))), int i64 (Ty.n (cleanT (Ty.mk (Ty.kind v) (Ty.n v) (Ty.nl v) l))), isl (Ty.nl (cleanT (Ty.mk (Ty.kind v) (Ty.n v) (Ty.nl v) l))) none (0)
 (encL (Ty.l (cleanT (Ty.mk (Ty.kind v) (Ty.n v) (Ty.nl v) l))))], c_1) = encM es' ∧ c = c' ∧ 74 = 74 ∧ SubR [AV.map (5)] [AV.map (5)] (83 = 83 ∧ SubR [AV.fn (Fn.func (65)) [] [ptr (6) (0), ptr (7) (0)]] [AV.fn (Fn.func (65)) [] [ptr (6) (0), ptr (7) (0)]] (0 = 0 ∧ True))))) (bothR (!decide (k = Ty.kind v)) (AEnd.panicked [(AV.iface (117) (agg [int i64 (15)]), false)] = e ∧ 24 = 24 ∧ 24 = 24 ∧ 28 = 28 ∧ 24 = 24 ∧ 24 = 24 ∧ encM es = encM es' ∧ c = c' ∧ 74 = 74 ∧ SubR [AV.map (5)] [AV.map (5)] (83 = 83 ∧ SubR [AV.fn (Fn.func (65)) [] [ptr (6) (0), ptr (7) (0)]]
 [AV.fn (Fn.func (65)) [] [ptr (6) (0), ptr (7) (0)]] (0 = 0 ∧ True))) (Int.NonNeg (0) ∧ ∃ x_1, some (agg [int i64 (Ty.kind x), int i64 (Ty.n x), isl (Ty.nl x) none (0) (encL (Ty.l x))]) = some (agg [int i64 (Ty.kind x_1), int i64 (Ty.n x_1), isl (Ty.nl x_1) none (0) (encL (Ty.l x_1))]) ∧ Int.NonNeg (0) ∧ ∃ x, (encL (Ty.l v))[0]? = some (agg [int i64 (Ty.kind x), int i64 (Ty.n x), isl (Ty.nl x) none (0) (encL (Ty.l x))]) ∧ ∃ l, encL (Ty.l x_1) = encL l ∧ ∃ l_1, encL (Ty.l x) = encL l_1 ∧ ∃ es_1,
 encM es = encM es_1 ∧ (SizeOf.sizeOf (Ty.mk (Ty.kind x_1) (Ty.n x_1) (Ty.nl x_1) l) < N ∧ okT (Ty.mk (Ty.kind x_1) (Ty.n x_1) (Ty.nl x_1) l) = true ∧ okT (Ty.mk (Ty.kind x) (Ty.n x) (Ty.nl x) l_1) = true ∧ okMs es_1 ∧ cnt (Ty.mk (Ty.kind x) (Ty.n x) (Ty.nl x) l_1) ≤ 100) ∧ 24 = 24 ∧ 24 = 24 ∧ 28 = 28 ∧ 24 = 24 ∧ 24 = 24 ∧ encM es = encM es_1 ∧ c = c ∧ 74 = 74 ∧ SubR [AV.map (5)] [AV.map (5)] (83 = 83 ∧ SubR [AV.fn (Fn.func (65)) [] [ptr (6) (0), ptr (7) (0)]] [AV.fn (Fn.func (65)) [] [ptr (6) (0), ptr (7) (0)]] (0 = 0 ∧
 bothR (mtB (Ty.mk (Ty.kind x_1) (Ty.n x_1) (Ty.nl x_1) l) (Ty.mk (Ty.kind x) (Ty.n x) (Ty.nl x) l_1) es_1 c) (Int.NonNeg (1) ∧ ∃ x_2, some (agg [int i64 (Ty.kind y), int i64 (Ty.n y), isl (Ty.nl y) none (0) (encL (Ty.l y))]) = some (agg [int i64 (Ty.kind x_2), int i64 (Ty.n x_2), isl (Ty.nl x_2) none (0) (encL (Ty.l x_2))]) ∧ Int.NonNeg (1) ∧ ∃ x_3, (encL (Ty.l v))[1]? = some (agg [int i64 (Ty.kind x_3), int i64 (Ty.n x_3), isl (Ty.nl x_3) none (0) (encL (Ty.l x_3))]) ∧ ∃ l_2, encL (Ty.l x_2) = encL l_2 ∧
 ∃ l_3, encL (Ty.l x_3) = encL l_3 ∧ ∃ es, encM (mtE (Ty.mk (Ty.kind x_1) (Ty.n x_1) (Ty.nl x_1) l) (Ty.mk (Ty.kind x) (Ty.n x) (Ty.nl x) l_1) es_1 c) = encM es ∧ (SizeOf.sizeOf (Ty.mk (Ty.kind x_2) (Ty.n x_2) (Ty.nl x_2) l_2) < N ∧ okT (Ty.mk (Ty.kind x_2) (Ty.n x_2) (Ty.nl x_2) l_2) = true ∧ okT (Ty.mk (Ty.kind x_3) (Ty.n x_3) (Ty.nl x_3) l_3) = true ∧ okMs es ∧ cnt (Ty.mk (Ty.kind x_3) (Ty.n x_3) (Ty.nl x_3) l_3) ≤ 100) ∧ 24 = 24 ∧ 24 = 24 ∧ 28 = 28 ∧ 24 = 24 ∧ 24 = 24 ∧ encM (mtE (Ty.mk (Ty.kind x_1) (Ty.n x_1) (Ty.nl x_1) l) (Ty.mk (Ty.kind x) (Ty.n x) (Ty.nl x) l_1) es_1 c) = encM es ∧
 mtC (Ty.mk (Ty.kind x_1) (Ty.n x_1) (Ty.nl x_1) l) (Ty.mk (Ty.kind x) (Ty.n x) (Ty.nl x) l_1) es_1 c = mtC (Ty.mk (Ty.kind x_1) (Ty.n x_1) (Ty.nl x_1) l) (Ty.mk (Ty.kind x) (Ty.n x) (Ty.nl x) l_1) es_1 c ∧ 74 = 74 ∧ SubR [AV.map (5)] [AV.map (5)] (83 = 83 ∧ SubR [AV.fn (Fn.func (65)) [] [ptr (6) (0), ptr (7) (0)]] [AV.fn (Fn.func (65)) [] [ptr (6) (0), ptr (7) (0)]] (0 = 0 ∧ bothR (mtB (Ty.mk (Ty.kind x_2) (Ty.n x_2) (Ty.nl x_2) l_2) (Ty.mk (Ty.kind x_3) (Ty.n x_3) (Ty.nl x_3) l_3) es (mtC (Ty.mk (Ty.kind x_1) (Ty.n x_1) (Ty.nl x_1) l)
 (Ty.mk (Ty.kind x) (Ty.n x) (Ty.nl x) l_1) es_1 c)) (AEnd.returned (tup []) = e ∧ 24 = 24 ∧ 24 = 24 ∧ 28 = 28 ∧ 24 = 24 ∧ 24 = 24 ∧ encM (mtE (Ty.mk (Ty.kind x_2) (Ty.n x_2) (Ty.nl x_2) l_2) (Ty.mk (Ty.kind x_3) (Ty.n x_3) (Ty.nl x_3) l_3) es (mtC (Ty.mk (Ty.kind x_1) (Ty.n x_1) (Ty.nl x_1) l) (Ty.mk (Ty.kind x) (Ty.n x) (Ty.nl x) l_1) es_1 c)) = encM es' ∧ mtC (Ty.mk (Ty.kind x_2) (Ty.n x_2) (Ty.nl x_2) l_2) (Ty.mk (Ty.kind x_3) (Ty.n x_3) (Ty.nl x_3) l_3) es (mtC (Ty.mk (Ty.kind x_1) (Ty.n x_1) (Ty.nl x_1) l) (Ty.mk (Ty.kind x) (Ty.n x) (Ty.nl x) l_1) es_1 c) = c' ∧ 74 = 74 ∧
 SubR [AV.map (5)] [AV.map (5)] (83 = 83 ∧ SubR [AV.fn (Fn.func (65)) [] [ptr (6) (0), ptr (7) (0)]] [AV.fn (Fn.func (65)) [] [ptr (6) (0), ptr (7) (0)]] (0 = 0 ∧ True))) (AEnd.panicked [(AV.iface (117) (agg [int i64 (15)]), false)] = e ∧ 24 = 24 ∧ 24 = 24 ∧ 28 = 28 ∧ 24 = 24 ∧ 24 = 24 ∧ encM (mtE (Ty.mk (Ty.kind x_2) (Ty.n x_2) (Ty.nl x_2) l_2) (Ty.mk (Ty.kind x_3) (Ty.n x_3) (Ty.nl x_3) l_3) es (mtC (Ty.mk (Ty.kind x_1) (Ty.n x_1) (Ty.nl x_1) l) (Ty.mk (Ty.kind x) (Ty.n x) (Ty.nl x) l_1) es_1 c)) = encM es' ∧ mtC (Ty.mk (Ty.kind x_2) (Ty.n x_2) (Ty.nl x_2) l_2)
 (Ty.mk (Ty.kind x_3) (Ty.n x_3) (Ty.nl x_3) l_3) es (mtC (Ty.mk (Ty.kind x_1) (Ty.n x_1) (Ty.nl x_1) l) (Ty.mk (Ty.kind x) (Ty.n x) (Ty.nl x) l_1) es_1 c) = c' ∧ 74 = 74 ∧ SubR [AV.map (5)] [AV.map (5)] (83 = 83 ∧ SubR [AV.fn (Fn.func (65)) [] [ptr (6) (0), ptr (7) (0)]] [AV.fn (Fn.func (65)) [] [ptr (6) (0), ptr (7) (0)]] (0 = 0 ∧ True)))))) (AEnd.panicked [(AV.iface (117) (agg [int i64 (15)]), false)] = e ∧ 24 = 24 ∧ 24 = 24 ∧ 28 = 28 ∧ 24 = 24 ∧ 24 = 24 ∧ encM (mtE (Ty.mk (Ty.kind x_1) (Ty.n x_1) (Ty.nl x_1) l) (Ty.mk (Ty.kind x) (Ty.n x) (Ty.nl x) l_1) es_1 c) =
 encM es' ∧ mtC (Ty.mk (Ty.kind x_1) (Ty.n x_1) (Ty.nl x_1) l) (Ty.mk (Ty.kind x) (Ty.n x) (Ty.nl x) l_1) es_1 c = c' ∧ 74 = 74 ∧ SubR [AV.map (5)] [AV.map (5)] (83 = 83 ∧ SubR [AV.fn (Fn.func (65)) [] [ptr (6) (0), ptr (7) (0)]] [AV.fn (Fn.func (65)) [] [ptr (6) (0), ptr (7) (0)]] (0 = 0 ∧ True)))))))) := by kernel_rfl
end Go.Proofs.YtnmolpkkemljoaaGreatDoor
end
end
section
set_option maxRecDepth 100000
set_option linter.unusedSimpArgs false
set_option linter.unusedVariables false
namespace Kd
open Go Go.Am Go.Proofs.YtnmolpkkemljoaaGreatDoor
theorem key_set {n : Int} {o : Ty} : ∀ {es : Es}, boundM es n = some o → ∀ i, ∃ j cb, keyFind (.int .i64 n) (encM es) i = some (some (i + j, encD o)) ∧ (encM es)[j]? = some (.int .i64 n, encD o, cb) ∧ ∀ u, (encM es).set j (.int .i64 n, encD u, cb) = encM (setM es n u)
 | [], h, _ => by cases h
 | x :: l, h, i => by
  simp only [boundM] at h
  split at h
  ·rename_i he
   cases h
   refine ⟨0, x.2.2, ?_, ?_, fun u => ?_⟩
   ·simp only [encM, List.map_cons, entM, keyFind, keyEq, if_true, decide_eq_true he, Nat.add_zero]
   ·simp only [encM, List.map_cons, entM, List.getElem?_cons_zero, he]
   ·subst he
    simp [encM, entM, setM]
  ·rename_i hne
   obtain ⟨j, cb, h1, h2, h3⟩ := key_set h (i + 1)
   refine ⟨j + 1, cb, ?_, ?_, fun u => ?_⟩
   ·simp only [encM, List.map_cons, entM, keyFind, keyEq, if_true, decide_eq_false hne]
    rw [show i + (j + 1) = i + 1 + j by omega]; exact h1
   ·simpa only [encM, List.map_cons, List.getElem?_cons_succ] using h2
   ·simp only [encM, List.map_cons, List.set_cons_succ, setM, if_neg hne]
    exact congrArg _ (h3 u)
theorem okMs_set {es : Es} {n : Int} {u : Ty} (h : okMs es) (h1 : okT u = true) (h2 : cnt u ≤ 100) : okMs (setM es n u) := by
 induction es with
 | nil => exact h
 | cons x l ih =>
  simp only [setM]
  split
  ·intro y hy
   rcases List.mem_cons.1 hy with rfl | hy
   ·exact ⟨h1, h2⟩
   ·exact h y (List.mem_cons_of_mem _ hy)
  ·intro y hy
   rcases List.mem_cons.1 hy with rfl | hy
   ·exact h _ (List.mem_cons_self ..)
   ·exact ih (fun z hz => h z (List.mem_cons_of_mem _ hz)) y hy
theorem mt_okMs : ∀ (t u : Ty) (es : Es) (c : Nat), okT u = true → cnt u ≤ 100 → okMs es → okMs (mtE t u es c) := by
 have key : ∀ (N : Nat), (∀ (t u : Ty) (es : Es) (c : Nat), SizeOf.sizeOf t < N → okT u = true → cnt u ≤ 100 → okMs es → okMs (mtT t u es c).es) ∧ ∀ (l m : List Ty) (es : Es) (c : Nat), SizeOf.sizeOf l < N → okL m = true → cntL m ≤ 100 → okMs es → okMs (mtL l m es c).es := by
  intro N
  induction N with
  | zero => exact ⟨fun _ _ _ _ h => by omega, fun _ _ _ _ h => by omega⟩
  | succ N ih =>
   obtain ⟨ih1, ih2⟩ := ih
   constructor
   ·intro t u es c ht ho hc hm
    obtain ⟨k, n, b, l⟩ := t
    simp only [Ty.mk.sizeOf_spec] at ht
    have hcl : okT (cleanT u) = true ∧ cnt (cleanT u) ≤ 100 := ⟨ok_clean u ho, by rw [cnt_clean]; exact hc⟩
    simp only [mtT]
    split
    ·split
     ·split
      ·exact okMs_set hm hcl.1 hcl.2
      ·exact hm
     ·intro y hy
      rcases List.mem_append.1 hy with hy | hy
      ·exact hm y hy
      ·obtain rfl := List.mem_singleton.1 hy
       exact hcl
    split
    ·obtain ⟨k', n', b', l'⟩ := u
     exact ih2 l l' es c (by omega) (okL_of ho).2 (by simp only [cnt] at hc; omega) hm
    ·exact hm
   ·intro l m es c hl ho hc hm
    match l, m with
    | [], _ => simpa only [mtL] using hm
    | x :: xs, [] => simpa only [mtL] using hm
    | x :: xs, y :: ys =>
     simp only [List.cons.sizeOf_spec] at hl
     simp only [okL, Bool.and_eq_true] at ho
     simp only [cntL] at hc
     simp only [mtL]
     have h1 := ih1 x y es c (by omega) ho.1 (by omega) hm
     split
     ·exact ih2 xs ys _ _ (by omega) ho.2 (by omega) h1
     ·exact h1
 exact fun t u es c => (key (SizeOf.sizeOf t + 1)).1 t u es c (by omega)
end Kd
noncomputable section
namespace Go.Proofs.YtnmolpkkemljoaaGreatDoor
open Go Go.Am Kd
theorem ex_one {x : Ty} {P : Ty → Prop} : (∃ y : Ty, some (AV.agg [.int .i64 (Ty.kind x), .int .i64 (Ty.n x), .isl (Ty.nl x) none 0 (encL (Ty.l x))]) = some (AV.agg [.int .i64 (Ty.kind y), .int .i64 (Ty.n y), .isl (Ty.nl y) none 0 (encL (Ty.l y))]) ∧ P y) = P x := by
 refine propext ⟨fun ⟨y, h1, h2⟩ => ?_, fun hp => ⟨x, rfl, hp⟩⟩
 have : encD x = encD y := Option.some.inj h1
 rw [← enc_D, ← enc_D] at this
 rw [enc_inj this]; exact h2
def mtEnd (t u : Ty) (es : Es) (c : Nat) : AEnd := match mtB t u es c with | true => .returned (.tup []) | false => .panicked (stopC 15)
def MWalkJ (t u : Ty) (es : Es) (c : Nat) : Prop := FJ 65 [enc t, enc u, .ptr 6 0, .ptr 7 0] (mtA es c) (hpIs 0 (mtEnd t u es c) (mtA (mtE t u es c) (mtC t u es c)))
theorem mtA_ok (es : Es) (c : Nat) : (mtA es c).ok 8 0 = true := by
 simp [AH.ok, mtA, top3, ABlk.bnd, AV.bnd, AV.bndL, encM_bnd]
theorem argMt_elim {A : AH} {K : Es → Nat → Prop} (h : argMt A K) : ∃ es c, K es c := by
 unfold argMt at h
 split at h
 ·obtain ⟨es, _, h⟩ := h
  exact ⟨es, _, h⟩
 ·exact h.elim
theorem mwalk_hook {N : Nat} (ih : ∀ (t u : Ty) (es : Es) (c : Nat), SizeOf.sizeOf t < N → okT t = true → okT u = true → okMs es → cnt u ≤ 100 → MWalkJ t u es c) : HSpec.Ok Tryz.prog g0 65 (mwalkH N) := by
 intro args A K h'
 unfold mwalkH at h'
 split at h'
 ·obtain ⟨t, rfl, g1⟩ := argTy_elim h'
  obtain ⟨u, rfl, g2⟩ := argTy_elim g1
  obtain ⟨es, c, ⟨h1, h2, h3, h4, h5⟩, h⟩ := argMt_elim g2
  have hj := ih t u es c h1 h2 h3 h4 h5
  simp only [MWalkJ, mtEnd] at hj
  have hb : AV.bndL 8 0 [enc t, enc u, .ptr 6 0, .ptr 7 0] = true := by simp [AV.bndL, AV.bnd, AV.still_bnd, enc_still]
  cases hf : mtB t u es c with
  | true =>
   simp only [hf] at h hj
   obtain ⟨hK, hr⟩ := FuncJ.on (n := 8) h hj (mtA_ok ..) (mtA_ok ..) hb (by simp [AEnd.bnd, AV.bnd, AV.bndL])
   exact ⟨_, hr, hK⟩
  | false =>
   simp only [hf] at h hj
   obtain ⟨hK, hr⟩ := FuncJ.on (n := 8) h hj (mtA_ok ..) (mtA_ok ..) hb (stop_bnd ..)
   exact ⟨_, hr, hK⟩
 ·exact h'.elim
theorem mwalk_ok : ∀ (N : Nat) (t u : Ty) (es : Es) (c : Nat), SizeOf.sizeOf t < N → okT t = true → okT u = true → okMs es → cnt u ≤ 100 → MWalkJ t u es c := by
 intro N
 induction N with
 | zero => intro t u es c h; omega
 | succ N ih =>
  intro t u es c ht hot hou hm hcu
  have hh : Hooks.Ok Tryz.prog g0 (mwHk N) := mkHooks_ok (all_cons eq_hook0 (all_cons kcl_hook0 all_nil)) (all_cons (mwalk_hook ih) all_nil) all_nil
  refine FuncJ.run (el := els) (mu := mu0) (hk := mwHk N) hmix hh (n := 60) ?_
  obtain ⟨k, n, b, l⟩ := t
  obtain ⟨hl2, hol⟩ := okL_of hot
  have hno := (ok_node hot).1
  simp only [NodeOk] at hno
  obtain ⟨ku, nu, bu, lu⟩ := u
  obtain ⟨hlu2, holu⟩ := okL_of hou
  have hnu := (ok_node hou).1
  simp only [NodeOk] at hnu
  simp only [Ty.mk.sizeOf_spec] at ht
  have e0 : encL [] = [] := by simp only [encL]
  have e1 : ∀ x, encL [x] = [encD x] := fun x => by simp only [encL, enc_D]
  have e2 : ∀ x y, encL [x, y] = [encD x, encD y] := fun x y => by simp only [encL, enc_D]
  by_cases h6 : k = 6
  ·have : l = [] := List.length_eq_zero_iff.1 (by omega)
   subst this
   refine cast (mw_0 es (mtE (.mk k n b []) (.mk ku nu bu lu) es c) c (mtC (.mk k n b []) (.mk ku nu bu lu) es c) k n b (.mk ku nu bu lu) N (mtEnd (.mk k n b []) (.mk ku nu bu lu) es c)).symm ?_
   simp only [eq_self, true_and, and_true, SubR_id, ex_encM, ex_enc, Ty.eta, h6, decide_true, bothR]
   cases hb : boundM es n with
   | none =>
    have hk := keyFind_none hb 0
    have hm' : mtT (.mk 6 n b []) (.mk ku nu bu lu) es c = ⟨true, es ++ [(n, cleanT (.mk ku nu bu lu), c)], c + 1⟩ := by simp only [mtT, if_true, hb]
    refine .inl ⟨hk, hou, .inl ⟨hk, ?_, ?_, ?_⟩⟩
    ·simp only [mtEnd, mtB, hm']
    ·simp only [mtE, hm', encM, List.map_append, List.map_cons, List.map_nil, entM]; rfl
    ·simp only [mtC, hm']
   | some o =>
    obtain ⟨j, cb, hk, hj, hset⟩ := key_set hb 0
    have hoo : okT o = true := by
     obtain ⟨y, hy, rfl⟩ := boundM_mem hb
     exact (hm y hy).1
    rw [Nat.zero_add] at hk
    refine .inr ⟨j, o, hk, ⟨hoo, hou⟩, ?_⟩
    cases hs : sameB o (.mk ku nu bu lu) with
    | false =>
     have hm' : mtT (.mk 6 n b []) (.mk ku nu bu lu) es c = ⟨false, es, c⟩ := by simp [mtT, hb, hs]
     simp only [Bool.not_false]
     refine ⟨?_, ?_, ?_⟩
     ·simp only [mtEnd, mtB, hm']; rfl
     ·simp only [mtE, hm']
     ·simp only [mtC, hm']
    | true =>
     have hm' : mtT (.mk 6 n b []) (.mk ku nu bu lu) es c = ⟨true, setM es n (cleanT (.mk ku nu bu lu)), c⟩ := by simp [mtT, hb, hs]
     simp only [Bool.not_true]
     refine ⟨hou, .inr ⟨j, _, cb, hk, hj, ?_, ?_, ?_⟩⟩
     ·simp only [mtEnd, mtB, hm']
     ·simp only [mtE, hm']; exact hset _
     ·simp only [mtC, hm']
  by_cases hk : k = ku
  rotate_left
  ·have hm' : mtT (.mk k n b l) (.mk ku nu bu lu) es c = ⟨false, es, c⟩ := by simp [mtT, h6, hk, Ty.kind]
   have g1 : mtEnd (.mk k n b l) (.mk ku nu bu lu) es c = .panicked (stopC 15) := by simp only [mtEnd, mtB, hm']
   have g2 : mtE (.mk k n b l) (.mk ku nu bu lu) es c = es := by simp only [mtE, hm']
   have g3 : mtC (.mk k n b l) (.mk ku nu bu lu) es c = c := by simp only [mtC, hm']
   rw [g1, g2, g3]
   match l, hl2 with
   | [], _ =>
    refine cast (mw_0 es es c c k n b (.mk ku nu bu lu) N (.panicked (stopC 15))).symm ?_
    simp only [eq_self, true_and, and_true, SubR_id, h6, hk, decide_false, decide_true, Bool.not_false, bothR, tk_mk]
    rfl
   | [x], _ =>
    rw [show enc (.mk k n b [x]) = .agg [.int .i64 k, .int .i64 n, .isl b none 0 [encD x]] by rw [enc, e1]]
    refine cast (mw_1 es es c c k n b x (.mk ku nu bu lu) N (.panicked (stopC 15))).symm ?_
    simp only [eq_self, true_and, and_true, SubR_id, h6, hk, decide_false, decide_true, Bool.not_false, bothR, tk_mk]
    rfl
   | [x, y], _ =>
    rw [show enc (.mk k n b [x, y]) = .agg [.int .i64 k, .int .i64 n, .isl b none 0 [encD x, encD y]] by rw [enc, e2]]
    refine cast (mw_2 es es c c k n b x y (.mk ku nu bu lu) N (.panicked (stopC 15))).symm ?_
    simp only [eq_self, true_and, and_true, SubR_id, h6, hk, decide_false, decide_true, Bool.not_false, bothR, tk_mk]
    rfl
  subst hk
  have hll : lu.length = l.length := by omega
  have hmt : mtT (.mk k n b l) (.mk k nu bu lu) es c = mtL l lu es c := by simp [mtT, h6, Ty.kind, Ty.l]
  simp only [cnt] at hcu
  match l, lu, hll, hl2, hol, holu, ht, hmt, hcu with
  | [], [], _, _, _, _, _, hmt, _ =>
   simp only [mtL] at hmt
   refine cast (mw_0 es (mtE (.mk k n b []) (.mk k nu bu []) es c) c (mtC (.mk k n b []) (.mk k nu bu []) es c) k n b (.mk k nu bu []) N (mtEnd (.mk k n b []) (.mk k nu bu []) es c)).symm ?_
   simp only [eq_self, true_and, and_true, SubR_id, h6, decide_false, decide_true, Bool.not_true, bothR, tk_mk, mtEnd, mtB, mtE, mtC, hmt]
  | [x], [u], _, _, hol, holu, ht, hmt, hcu =>
   simp only [okL, Bool.and_true] at hol holu
   simp only [List.cons.sizeOf_spec] at ht
   simp only [cntL] at hcu
   rw [show enc (.mk k n b [x]) = .agg [.int .i64 k, .int .i64 n, .isl b none 0 [encD x]] by rw [enc, e1], show enc (.mk k nu bu [u]) = encD (.mk k nu bu [u]) from enc_D _]
   refine cast (mw_1 es (mtE (.mk k n b [x]) (.mk k nu bu [u]) es c) c (mtC (.mk k n b [x]) (.mk k nu bu [u]) es c) k n b x (.mk k nu bu [u]) N (mtEnd (.mk k n b [x]) (.mk k nu bu [u]) es c)).symm ?_
   simp only [eq_self, true_and, and_true, SubR_id, ex_encM, ex_enc, Ty.eta, ex_one, h6, decide_false, decide_true, Bool.not_true, bothR, tk_mk, tl_mk, e1, List.getElem?_cons_zero, encD]
   have hr : mtT (.mk k n b [x]) (.mk k nu bu [u]) es c = ⟨mtB x u es c, mtE x u es c, mtC x u es c⟩ := by
    rw [hmt]; simp only [mtL, mtB, mtE, mtC]; split
    ·rename_i h; rw [h]
    ·rename_i h; rw [Bool.not_eq_true] at h; rw [h]
   have gB : mtB (.mk k n b [x]) (.mk k nu bu [u]) es c = mtB x u es c := congrArg MR.ok hr
   have gE : mtE (.mk k n b [x]) (.mk k nu bu [u]) es c = mtE x u es c := congrArg MR.es hr
   have gC : mtC (.mk k n b [x]) (.mk k nu bu [u]) es c = mtC x u es c := congrArg MR.c hr
   rw [gE, gC]
   refine ⟨nn 0, nn 0, ⟨by omega, hol, holu, hm, by omega⟩, ?_⟩
   cases hf : mtB x u es c with
   | true => exact ⟨by unfold mtEnd; rw [gB, hf], rfl, rfl⟩
   | false => exact ⟨by unfold mtEnd; rw [gB, hf]; rfl, rfl, rfl⟩
  | [x, y], [u, v], _, _, hol, holu, ht, hmt, hcu =>
   simp only [okL, Bool.and_true, Bool.and_eq_true] at hol holu
   simp only [List.cons.sizeOf_spec] at ht
   simp only [cntL] at hcu
   rw [show enc (.mk k n b [x, y]) = .agg [.int .i64 k, .int .i64 n, .isl b none 0 [encD x, encD y]] by rw [enc, e2], show enc (.mk k nu bu [u, v]) = encD (.mk k nu bu [u, v]) from enc_D _]
   refine cast (mw_2 es (mtE (.mk k n b [x, y]) (.mk k nu bu [u, v]) es c) c (mtC (.mk k n b [x, y]) (.mk k nu bu [u, v]) es c) k n b x y (.mk k nu bu [u, v]) N (mtEnd (.mk k n b [x, y]) (.mk k nu bu [u, v]) es c)).symm ?_
   simp only [eq_self, true_and, and_true, SubR_id, ex_encM, ex_enc, Ty.eta, ex_one, h6, decide_false, decide_true, Bool.not_true, bothR, tk_mk, tl_mk, e2, List.getElem?_cons_zero, List.getElem?_cons_succ, encD]
   have hr1 : (mtT x u es c).ok = true → mtT (.mk k n b [x, y]) (.mk k nu bu [u, v]) es c = ⟨mtB y v (mtE x u es c) (mtC x u es c), mtE y v (mtE x u es c) (mtC x u es c), mtC y v (mtE x u es c) (mtC x u es c)⟩ := by
    intro h1
    rw [hmt]; simp only [mtL, mtB, mtE, mtC]
    rw [if_pos h1]
    by_cases h2 : (mtT y v (mtT x u es c).es (mtT x u es c).c).ok = true
    ·rw [if_pos h2, h2]
    ·rw [if_neg h2]
     rw [Bool.not_eq_true] at h2
     rw [h2]
   have hr2 : (mtT x u es c).ok = false → mtT (.mk k n b [x, y]) (.mk k nu bu [u, v]) es c = ⟨false, mtE x u es c, mtC x u es c⟩ := by
    intro h1
    rw [hmt]; simp only [mtL, mtB, mtE, mtC]
    rw [if_neg (by rw [h1]; simp)]
   refine ⟨nn 0, nn 0, ⟨by omega, hol.1, holu.1, hm, by omega⟩, ?_⟩
   cases hf : mtB x u es c with
   | true =>
    have hr := hr1 hf
    have gB : mtB (.mk k n b [x, y]) (.mk k nu bu [u, v]) es c = mtB y v (mtE x u es c) (mtC x u es c) := congrArg MR.ok hr
    have gE : mtE (.mk k n b [x, y]) (.mk k nu bu [u, v]) es c = mtE y v (mtE x u es c) (mtC x u es c) := congrArg MR.es hr
    have gC : mtC (.mk k n b [x, y]) (.mk k nu bu [u, v]) es c = mtC y v (mtE x u es c) (mtC x u es c) := congrArg MR.c hr
    rw [gE, gC]
    refine ⟨nn 1, nn 1, ⟨by omega, hol.2, holu.2, mt_okMs x u es c holu.1 (by omega) hm, by omega⟩, ?_⟩
    cases hg : mtB y v (mtE x u es c) (mtC x u es c) with
    | true => exact ⟨by unfold mtEnd; rw [gB, hg], rfl, rfl⟩
    | false => exact ⟨by unfold mtEnd; rw [gB, hg]; rfl, rfl, rfl⟩
   | false =>
    have hr := hr2 hf
    have gB : mtB (.mk k n b [x, y]) (.mk k nu bu [u, v]) es c = false := congrArg MR.ok hr
    have gE : mtE (.mk k n b [x, y]) (.mk k nu bu [u, v]) es c = mtE x u es c := (congrArg MR.es hr).trans rfl
    have gC : mtC (.mk k n b [x, y]) (.mk k nu bu [u, v]) es c = mtC x u es c := (congrArg MR.c hr).trans rfl
    rw [gE, gC]
    exact ⟨by unfold mtEnd; rw [gB]; rfl, rfl, rfl⟩
theorem mwalk_hook0 : HSpec.Ok Tryz.prog g0 65 mwalkH0 := by
 intro args A K h'
 unfold mwalkH0 at h'
 split at h'
 ·obtain ⟨t, rfl, g1⟩ := argTy_elim h'
  obtain ⟨u, rfl, g2⟩ := argTy_elim g1
  obtain ⟨es, c, ⟨h2, h3, h4, h5⟩, h⟩ := argMt_elim g2
  have hj := mwalk_ok (SizeOf.sizeOf t + 1) t u es c (by omega) h2 h3 h4 h5
  simp only [MWalkJ, mtEnd] at hj
  have hb : AV.bndL 8 0 [enc t, enc u, .ptr 6 0, .ptr 7 0] = true := by simp [AV.bndL, AV.bnd, AV.still_bnd, enc_still]
  cases hf : mtB t u es c with
  | true =>
   simp only [hf] at h hj
   obtain ⟨hK, hr⟩ := FuncJ.on (n := 8) h hj (mtA_ok ..) (mtA_ok ..) hb (by simp [AEnd.bnd, AV.bnd, AV.bndL])
   exact ⟨_, hr, hK⟩
  | false =>
   simp only [hf] at h hj
   obtain ⟨hK, hr⟩ := FuncJ.on (n := 8) h hj (mtA_ok ..) (mtA_ok ..) hb (stop_bnd ..)
   exact ⟨_, hr, hK⟩
 ·exact h'.elim
end Go.Proofs.YtnmolpkkemljoaaGreatDoor
end
end
section
namespace Kd
open Go.Am Go.Proofs.YtnmolpkkemljoaaGreatDoor
abbrev Tx := List UInt8
abbrev Ps := List (Tx × Tx)
def entP (x : Tx × Tx) (i : Nat) : AV × AV × Nat := (.agg [.str x.1, .str x.2], .int .i64 i, i)
def encPi : Ps → Nat → List (AV × AV × Nat)
 | [], _ => []
 | x :: l, i => entP x i :: encPi l (i + 1)
def encP (ps : Ps) : List (AV × AV × Nat) := encPi ps 0
def idxP : Ps → Tx × Tx → Nat → Option Nat
 | [], _, _ => none
 | y :: l, x, i => if x = y then some i else idxP l x (i + 1)
structure CR where
 t : Ty
 ps : Ps
structure CL where
 l : List Ty
 ps : Ps
mutual
def cmF : Ty → Ty → Ps → CR
 | .mk k n b l, v, ps =>
  if k = v.kind ∧ ¬ k = 6 then ⟨.mk k 0 (nilB l) (cmG l v.l ps).l, (cmG l v.l ps).ps⟩
  else
   match idxP ps (writeS (.mk k n b l), writeS v) 0 with
   | some i => ⟨varT i, ps⟩
   | none => ⟨varT ps.length, ps ++ [(writeS (.mk k n b l), writeS v)]⟩
def cmG : List Ty → List Ty → Ps → CL
 | x :: xs, y :: ys, ps => ⟨(cmF x y ps).t :: (cmG xs ys (cmF x y ps).ps).l, (cmG xs ys (cmF x y ps).ps).ps⟩
 | _, _, ps => ⟨[], ps⟩
end
def cmT (t u : Ty) (ps : Ps) : Ty := (cmF t u ps).t
def cmP (t u : Ty) (ps : Ps) : Ps := (cmF t u ps).ps
end Kd
noncomputable section
namespace Go.Proofs.YtnmolpkkemljoaaGreatDoor
open Go Go.Am Kd
def cmA (ps : Ps) : AH := ⟨[top3, top3, top3, .cells [.top] 28, top3, top3, .map (encP ps) ps.length, .cells [.map 6] 88, .cells [.fn (.func 71) [] [.ptr 8 0, .ptr 7 0]] 89], []⟩
def argCm (A : AH) (K : Ps → Prop) : Prop :=
 match nthR A.blks 6 with
 | some (.map m c) => ∃ ps, m = encP ps ∧ c = ps.length ∧ K ps
 | _ => False
def cwalkC (N : Nat) : HSpec := fun args A K =>
 match args with
 | [t, u, .ptr 8 0, .ptr 7 0] => argTy t fun t => argTy u fun u => argCm A fun ps => (SizeOf.sizeOf t < N ∧ okT t = true ∧ okT u = true ∧ cnt t ≤ 100 ∧ cnt u ≤ 100 ∧ ps.length + cnt t ≤ 1000) ∧
   onR 0 A (cmA ps) (K ⟨.returned (encD (cmT t u ps)), (cmA (cmP t u ps)).onto A⟩)
 | _ => False
def cwalkC0 : HSpec := fun args A K =>
 match args with
 | [t, u, .ptr 8 0, .ptr 7 0] => argTy t fun t => argTy u fun u => argCm A fun ps => (okT t = true ∧ okT u = true ∧ cnt t ≤ 100 ∧ cnt u ≤ 100 ∧ ps.length + cnt t ≤ 1000) ∧
   onR 0 A (cmA ps) (K ⟨.returned (encD (cmT t u ps)), (cmA (cmP t u ps)).onto A⟩)
 | _ => False
def cmHk (N : Nat) : Hooks := mkHooks Tryz.prog [(72, wrQ0)] [(71, cwalkC N)] []
def cmHk0 : Hooks := mkHooks Tryz.prog [(76, validQ)] [(71, cwalkC0)] []
end Go.Proofs.YtnmolpkkemljoaaGreatDoor
end
end
section
noncomputable section
namespace Go.Proofs.YtnmolpkkemljoaaGreatDoor
open Go Go.Am Kd Go.Am.AV Go.IntKind
set_option maxRecDepth 100000
theorem cw_0 (ps ps' : Ps) (k n : Int) (b : Bool) (v : Ty) (N : Nat) (e : AEnd) : (runT (cmHk N) 60 71 [.agg [.int .i64 k, .int .i64 n, .isl b none 0 []], encD v, .ptr 8 0, .ptr 7 0] (cmA ps) (hpFz Tryz.prog 9 0 5 e (cmA ps'))) = ( bothR (decide (k = Ty.kind v)) (bothR (!decide (k = (6 : Int))) (AEnd.returned (agg [int i64 k, int i64 (0), isl true none (0) []]) = e ∧ 24 = 24 ∧ 24 = 24 ∧ 24 = 24 ∧ 28 = 28 ∧ 24 = 24 ∧ 24 = 24 ∧ encP ps = encP ps' ∧ List.length ps = List.length ps' ∧ 88 = 88 ∧ SubR [AV.map (6)] [AV.map (6)] (89 = 89 ∧
 SubR [AV.fn (Fn.func (71)) [] [ptr (8) (0), ptr (7) (0)]] [AV.fn (Fn.func (71)) [] [ptr (8) (0), ptr (7) (0)]] (0 = 0 ∧ True))) (∃ l, [] = encL l ∧ (okT (Ty.mk k n b l) = true ∧ cnt (Ty.mk k n b l) ≤ 1000) ∧ ∃ l_1, encL (Ty.l v) = encL l_1 ∧ (okT (Ty.mk (Ty.kind v) (Ty.n v) (Ty.nl v) l_1) = true ∧ cnt (Ty.mk (Ty.kind v) (Ty.n v) (Ty.nl v) l_1) ≤ 1000) ∧ (keyFind (agg [str (writeS (Ty.mk k n b l)), str (writeS (Ty.mk (Ty.kind v) (Ty.n v) (Ty.nl v) l_1))]) (encP ps) 0 = some none ∧
 (keyFind (agg [str (writeS (Ty.mk k n b l)), str (writeS (Ty.mk (Ty.kind v) (Ty.n v) (Ty.nl v) l_1))]) (encP ps) 0 = some none ∧ AEnd.returned (agg [int i64 (6), int i64 (iC (List.length (encP ps))), isl true none (0) []]) = e ∧ 24 = 24 ∧ 24 = 24 ∧ 24 = 24 ∧ 28 = 28 ∧ 24 = 24 ∧ 24 = 24 ∧ encP ps ++ [(agg [str (writeS (Ty.mk k n b l)), str (writeS (Ty.mk (Ty.kind v) (Ty.n v) (Ty.nl v) l_1))], int i64 (iC (List.length (encP ps))), List.length ps)] = encP ps' ∧ List.length ps + 1 = List.length ps' ∧ 88 = 88 ∧ SubR [AV.map (6)] [AV.map (6)]
 (89 = 89 ∧ SubR [AV.fn (Fn.func (71)) [] [ptr (8) (0), ptr (7) (0)]] [AV.fn (Fn.func (71)) [] [ptr (8) (0), ptr (7) (0)]] (0 = 0 ∧ True)) ∨ ∃ j y c, keyFind (agg [str (writeS (Ty.mk k n b l)), str (writeS (Ty.mk (Ty.kind v) (Ty.n v) (Ty.nl v) l_1))]) (encP ps) 0 = some (some (j, y)) ∧ (encP ps)[j]? = some (agg [str (writeS (Ty.mk k n b l)), str (writeS (Ty.mk (Ty.kind v) (Ty.n v) (Ty.nl v) l_1))], y, c) ∧ AEnd.returned (agg [int i64 (6), int i64 (iC (List.length (encP ps))), isl true none (0) []]) = e ∧ 24 = 24 ∧ 24 = 24 ∧ 24 = 24 ∧
 28 = 28 ∧ 24 = 24 ∧ 24 = 24 ∧ List.set (encP ps) j (agg [str (writeS (Ty.mk k n b l)), str (writeS (Ty.mk (Ty.kind v) (Ty.n v) (Ty.nl v) l_1))], int i64 (iC (List.length (encP ps))), c) = encP ps' ∧ List.length ps = List.length ps' ∧ 88 = 88 ∧ SubR [AV.map (6)] [AV.map (6)] (89 = 89 ∧ SubR [AV.fn (Fn.func (71)) [] [ptr (8) (0), ptr (7) (0)]] [AV.fn (Fn.func (71)) [] [ptr (8) (0), ptr (7) (0)]] (0 = 0 ∧ True))) ∨ ∃ j x, keyFind (agg [str (writeS (Ty.mk k n b l)), str (writeS (Ty.mk (Ty.kind v) (Ty.n v) (Ty.nl v) l_1))]) (encP ps) 0 =
 some (some (j, int i64 x)) ∧ AEnd.returned (agg [int i64 (6), int i64 x, isl true none (0) []]) = e ∧ 24 = 24 ∧ 24 = 24 ∧ 24 = 24 ∧ 28 = 28 ∧ 24 = 24 ∧ 24 = 24 ∧ encP ps = encP ps' ∧ List.length ps = List.length ps' ∧ 88 = 88 ∧ SubR [AV.map (6)] [AV.map (6)] (89 = 89 ∧ SubR [AV.fn (Fn.func (71)) [] [ptr (8) (0), ptr (7) (0)]] [AV.fn (Fn.func (71)) [] [ptr (8) (0), ptr (7) (0)]] (0 = 0 ∧ True))))) (∃ l, [] = encL l ∧ (okT (Ty.mk k n b l) = true ∧ cnt (Ty.mk k n b l) ≤ 1000) ∧ ∃ l_1, encL (Ty.l v) = encL l_1 ∧
 (okT (Ty.mk (Ty.kind v) (Ty.n v) (Ty.nl v) l_1) = true ∧ cnt (Ty.mk (Ty.kind v) (Ty.n v) (Ty.nl v) l_1) ≤ 1000) ∧ (keyFind (agg [str (writeS (Ty.mk k n b l)), str (writeS (Ty.mk (Ty.kind v) (Ty.n v) (Ty.nl v) l_1))]) (encP ps) 0 = some none ∧ (keyFind (agg [str (writeS (Ty.mk k n b l)), str (writeS (Ty.mk (Ty.kind v) (Ty.n v) (Ty.nl v) l_1))]) (encP ps) 0 = some none ∧ AEnd.returned (agg [int i64 (6), int i64 (iC (List.length (encP ps))), isl true none (0) []]) = e ∧ 24 = 24 ∧ 24 = 24 ∧ 24 = 24 ∧ 28 = 28 ∧ 24 = 24 ∧ 24 = 24 ∧ encP ps ++
 [(agg [str (writeS (Ty.mk k n b l)), str (writeS (Ty.mk (Ty.kind v) (Ty.n v) (Ty.nl v) l_1))], int i64 (iC (List.length (encP ps))), List.length ps)] = encP ps' ∧ List.length ps + 1 = List.length ps' ∧ 88 = 88 ∧ SubR [AV.map (6)] [AV.map (6)] (89 = 89 ∧ SubR [AV.fn (Fn.func (71)) [] [ptr (8) (0), ptr (7) (0)]] [AV.fn (Fn.func (71)) [] [ptr (8) (0), ptr (7) (0)]] (0 = 0 ∧ True)) ∨ ∃ j y c, keyFind (agg [str (writeS (Ty.mk k n b l)), str (writeS (Ty.mk (Ty.kind v) (Ty.n v) (Ty.nl v) l_1))]) (encP ps) 0 = some (some (j, y)) ∧
 (encP ps)[j]? = some (agg [str (writeS (Ty.mk k n b l)), str (writeS (Ty.mk (Ty.kind v) (Ty.n v) (Ty.nl v) l_1))], y, c) ∧ AEnd.returned (agg [int i64 (6), int i64 (iC (List.length (encP ps))), isl true none (0) []]) = e ∧ 24 = 24 ∧ 24 = 24 ∧ 24 = 24 ∧ 28 = 28 ∧ 24 = 24 ∧ 24 = 24 ∧ List.set (encP ps) j (agg [str (writeS (Ty.mk k n b l)), str (writeS (Ty.mk (Ty.kind v) (Ty.n v) (Ty.nl v) l_1))], int i64 (iC (List.length (encP ps))), c) = encP ps' ∧ List.length ps = List.length ps' ∧ 88 = 88 ∧ SubR [AV.map (6)] [AV.map (6)] (89 = 89 ∧
 SubR [AV.fn (Fn.func (71)) [] [ptr (8) (0), ptr (7) (0)]] [AV.fn (Fn.func (71)) [] [ptr (8) (0), ptr (7) (0)]] (0 = 0 ∧ True))) ∨ ∃ j x, keyFind (agg [str (writeS (Ty.mk k n b l)), str (writeS (Ty.mk (Ty.kind v) (Ty.n v) (Ty.nl v) l_1))]) (encP ps) 0 = some (some (j, int i64 x)) ∧ AEnd.returned (agg [int i64 (6), int i64 x, isl true none (0) []]) = e ∧ 24 = 24 ∧ 24 = 24 ∧ 24 = 24 ∧ 28 = 28 ∧ 24 = 24 ∧ 24 = 24 ∧ encP ps = encP ps' ∧ List.length ps = List.length ps' ∧ 88 = 88 ∧ SubR [AV.map (6)] [AV.map (6)] (89 = 89 ∧
 SubR [AV.fn (Fn.func (71)) [] [ptr (8) (0), ptr (7) (0)]] [AV.fn (Fn.func (71)) [] [ptr (8) (0), ptr (7) (0)]] (0 = 0 ∧ True))))) := by kernel_rfl
theorem cw_1 (ps ps' : Ps) (k n : Int) (b : Bool) (x : Ty) (v : Ty) (N : Nat) (e : AEnd) : (runT (cmHk N) 60 71 [.agg [.int .i64 k, .int .i64 n, .isl b none 0 [encD x]], encD v, .ptr 8 0, .ptr 7 0] (cmA ps) (hpFz Tryz.prog 9 0 5 e (cmA ps'))) = ( bothR (decide (k = Ty.kind v)) (bothR (!decide (k = (6 : Int))) (Int.NonNeg (0) ∧ ∃ x_1, some (agg [int i64 (Ty.kind x), int i64 (Ty.n x), isl (Ty.nl x) none (0) (encL (Ty.l x))]) = some (agg [int i64 (Ty.kind x_1), int i64 (Ty.n x_1), isl (Ty.nl x_1) none (0) (encL (Ty.l x_1))]) ∧
 Int.NonNeg (0) ∧ ∃ x, (encL (Ty.l v))[0]? = some (agg [int i64 (Ty.kind x), int i64 (Ty.n x), isl (Ty.nl x) none (0) (encL (Ty.l x))]) ∧ ∃ l, encL (Ty.l x_1) = encL l ∧ ∃ l_1, encL (Ty.l x) = encL l_1 ∧ ∃ ps_1, encP ps = encP ps_1 ∧ List.length ps = List.length ps_1 ∧ (SizeOf.sizeOf (Ty.mk (Ty.kind x_1) (Ty.n x_1) (Ty.nl x_1) l) < N ∧ okT (Ty.mk (Ty.kind x_1) (Ty.n x_1) (Ty.nl x_1) l) = true ∧ okT (Ty.mk (Ty.kind x) (Ty.n x) (Ty.nl x) l_1) = true ∧ cnt (Ty.mk (Ty.kind x_1) (Ty.n x_1) (Ty.nl x_1) l) ≤ 100 ∧ cnt (Ty.mk (Ty.kind x) (Ty.n x) (Ty.nl x) l_1) ≤ 100 ∧
 List.length ps_1 + cnt (Ty.mk (Ty.kind x_1) (Ty.n x_1) (Ty.nl x_1) l) ≤ 1000) ∧ 24 = 24 ∧ 24 = 24 ∧ 24 = 24 ∧ 28 = 28 ∧ 24 = 24 ∧ 24 = 24 ∧ encP ps = encP ps_1 ∧ List.length ps = List.length ps_1 ∧ 88 = 88 ∧ SubR [AV.map (6)] [AV.map (6)] (89 = 89 ∧ SubR [AV.fn (Fn.func (71)) [] [ptr (8) (0), ptr (7) (0)]] [AV.fn (Fn.func (71)) [] [ptr (8) (0), ptr (7) (0)]] (0 = 0 ∧ ptr (12) (2) = ptr (12) (2) ∧ isl true none (0) [] = isl true none (0) [] ∧ (Nat.le (40) (35184372088832) ∧ Nat.le (1) (1152921504606846976)) ∧ true = true ∧ AEnd.returned (agg
 [int i64 k, int i64 (0), isl false none (0) [agg [int i64 (Ty.kind (cmT (Ty.mk (Ty.kind x_1) (Ty.n x_1) (Ty.nl x_1) l) (Ty.mk (Ty.kind x) (Ty.n x) (Ty.nl x) l_1) ps_1)), int i64 (Ty.n (cmT (Ty.mk (Ty.kind x_1) (Ty.n x_1) (Ty.nl x_1) l) (Ty.mk (Ty.kind x) (Ty.n x) (Ty.nl x) l_1) ps_1)), isl (Ty.nl (cmT (Ty.mk (Ty.kind x_1) (Ty.n x_1) (Ty.nl x_1) l) (Ty.mk (Ty.kind x) (Ty.n x) (Ty.nl x) l_1) ps_1)) none (0) (encL (Ty.l (cmT (Ty.mk (Ty.kind x_1) (Ty.n x_1) (Ty.nl x_1) l) (Ty.mk (Ty.kind x) (Ty.n x) (Ty.nl x) l_1) ps_1)))]]]) = e ∧ 24 = 24 ∧
 24 = 24 ∧ 24 = 24 ∧ 28 = 28 ∧ 24 = 24 ∧ 24 = 24 ∧ encP (cmP (Ty.mk (Ty.kind x_1) (Ty.n x_1) (Ty.nl x_1) l) (Ty.mk (Ty.kind x) (Ty.n x) (Ty.nl x) l_1) ps_1) = encP ps' ∧ List.length (cmP (Ty.mk (Ty.kind x_1) (Ty.n x_1) (Ty.nl x_1) l) (Ty.mk (Ty.kind x) (Ty.n x) (Ty.nl x) l_1) ps_1) = List.length ps' ∧ 88 = 88 ∧ SubR [AV.map (6)] [AV.map (6)] (89 = 89 ∧ SubR [AV.fn (Fn.func (71)) [] [ptr (8) (0), ptr (7) (0)]] [AV.fn (Fn.func (71)) [] [ptr (8) (0), ptr (7) (0)]] (0 = 0 ∧ True))))) (∃ l,
 [agg [int i64 (Ty.kind x), int i64 (Ty.n x), isl (Ty.nl x) none (0) (encL (Ty.l x))]] = encL l ∧ (okT (Ty.mk k n b l) = true ∧ cnt (Ty.mk k n b l) ≤ 1000) ∧ ∃ l_1, encL (Ty.l v) = encL l_1 ∧ (okT (Ty.mk (Ty.kind v) (Ty.n v) (Ty.nl v) l_1) = true ∧ cnt (Ty.mk (Ty.kind v) (Ty.n v) (Ty.nl v) l_1) ≤ 1000) ∧ (keyFind (agg [str (writeS (Ty.mk k n b l)), str (writeS (Ty.mk (Ty.kind v) (Ty.n v) (Ty.nl v) l_1))]) (encP ps) 0 = some none ∧
 (keyFind (agg [str (writeS (Ty.mk k n b l)), str (writeS (Ty.mk (Ty.kind v) (Ty.n v) (Ty.nl v) l_1))]) (encP ps) 0 = some none ∧ AEnd.returned (agg [int i64 (6), int i64 (iC (List.length (encP ps))), isl true none (0) []]) = e ∧ 24 = 24 ∧ 24 = 24 ∧ 24 = 24 ∧ 28 = 28 ∧ 24 = 24 ∧ 24 = 24 ∧ encP ps ++ [(agg [str (writeS (Ty.mk k n b l)), str (writeS (Ty.mk (Ty.kind v) (Ty.n v) (Ty.nl v) l_1))], int i64 (iC (List.length (encP ps))), List.length ps)] = encP ps' ∧ List.length ps + 1 = List.length ps' ∧ 88 = 88 ∧ SubR [AV.map (6)] [AV.map (6)]
 (89 = 89 ∧ SubR [AV.fn (Fn.func (71)) [] [ptr (8) (0), ptr (7) (0)]] [AV.fn (Fn.func (71)) [] [ptr (8) (0), ptr (7) (0)]] (0 = 0 ∧ True)) ∨ ∃ j y c, keyFind (agg [str (writeS (Ty.mk k n b l)), str (writeS (Ty.mk (Ty.kind v) (Ty.n v) (Ty.nl v) l_1))]) (encP ps) 0 = some (some (j, y)) ∧ (encP ps)[j]? = some (agg [str (writeS (Ty.mk k n b l)), str (writeS (Ty.mk (Ty.kind v) (Ty.n v) (Ty.nl v) l_1))], y, c) ∧ AEnd.returned (agg [int i64 (6), int i64 (iC (List.length (encP ps))), isl true none (0) []]) = e ∧ 24 = 24 ∧ 24 = 24 ∧ 24 = 24 ∧
 28 = 28 ∧ 24 = 24 ∧ 24 = 24 ∧ List.set (encP ps) j (agg [str (writeS (Ty.mk k n b l)), str (writeS (Ty.mk (Ty.kind v) (Ty.n v) (Ty.nl v) l_1))], int i64 (iC (List.length (encP ps))), c) = encP ps' ∧ List.length ps = List.length ps' ∧ 88 = 88 ∧ SubR [AV.map (6)] [AV.map (6)] (89 = 89 ∧ SubR [AV.fn (Fn.func (71)) [] [ptr (8) (0), ptr (7) (0)]] [AV.fn (Fn.func (71)) [] [ptr (8) (0), ptr (7) (0)]] (0 = 0 ∧ True))) ∨ ∃ j x, keyFind (agg [str (writeS (Ty.mk k n b l)), str (writeS (Ty.mk (Ty.kind v) (Ty.n v) (Ty.nl v) l_1))]) (encP ps) 0 =
 some (some (j, int i64 x)) ∧ AEnd.returned (agg [int i64 (6), int i64 x, isl true none (0) []]) = e ∧ 24 = 24 ∧ 24 = 24 ∧ 24 = 24 ∧ 28 = 28 ∧ 24 = 24 ∧ 24 = 24 ∧ encP ps = encP ps' ∧ List.length ps = List.length ps' ∧ 88 = 88 ∧ SubR [AV.map (6)] [AV.map (6)] (89 = 89 ∧ SubR [AV.fn (Fn.func (71)) [] [ptr (8) (0), ptr (7) (0)]] [AV.fn (Fn.func (71)) [] [ptr (8) (0), ptr (7) (0)]] (0 = 0 ∧ True))))) (∃ l, [agg [int i64 (Ty.kind x), int i64 (Ty.n x), isl (Ty.nl x) none (0) (encL (Ty.l x))]] = encL l ∧
 (okT (Ty.mk k n b l) = true ∧ cnt (Ty.mk k n b l) ≤ 1000) ∧ ∃ l_1, encL (Ty.l v) = encL l_1 ∧ (okT (Ty.mk (Ty.kind v) (Ty.n v) (Ty.nl v) l_1) = true ∧ cnt (Ty.mk (Ty.kind v) (Ty.n v) (Ty.nl v) l_1) ≤ 1000) ∧ (keyFind (agg [str (writeS (Ty.mk k n b l)), str (writeS (Ty.mk (Ty.kind v) (Ty.n v) (Ty.nl v) l_1))]) (encP ps) 0 = some none ∧ (keyFind (agg [str (writeS (Ty.mk k n b l)), str (writeS (Ty.mk (Ty.kind v) (Ty.n v) (Ty.nl v) l_1))]) (encP ps) 0 = some none ∧
 AEnd.returned (agg [int i64 (6), int i64 (iC (List.length (encP ps))), isl true none (0) []]) = e ∧ 24 = 24 ∧ 24 = 24 ∧ 24 = 24 ∧ 28 = 28 ∧ 24 = 24 ∧ 24 = 24 ∧ encP ps ++ [(agg [str (writeS (Ty.mk k n b l)), str (writeS (Ty.mk (Ty.kind v) (Ty.n v) (Ty.nl v) l_1))], int i64 (iC (List.length (encP ps))), List.length ps)] = encP ps' ∧ List.length ps + 1 = List.length ps' ∧ 88 = 88 ∧ SubR [AV.map (6)] [AV.map (6)] (89 = 89 ∧ SubR [AV.fn (Fn.func (71)) [] [ptr (8) (0), ptr (7) (0)]] [AV.fn (Fn.func (71)) [] [ptr (8) (0), ptr (7) (0)]]
 (0 = 0 ∧ True)) ∨ ∃ j y c, keyFind (agg [str (writeS (Ty.mk k n b l)), str (writeS (Ty.mk (Ty.kind v) (Ty.n v) (Ty.nl v) l_1))]) (encP ps) 0 = some (some (j, y)) ∧ (encP ps)[j]? = some (agg [str (writeS (Ty.mk k n b l)), str (writeS (Ty.mk (Ty.kind v) (Ty.n v) (Ty.nl v) l_1))], y, c) ∧ AEnd.returned (agg [int i64 (6), int i64 (iC (List.length (encP ps))), isl true none (0) []]) = e ∧ 24 = 24 ∧ 24 = 24 ∧ 24 = 24 ∧ 28 = 28 ∧ 24 = 24 ∧ 24 = 24 ∧ List.set (encP ps) j
 (agg [str (writeS (Ty.mk k n b l)), str (writeS (Ty.mk (Ty.kind v) (Ty.n v) (Ty.nl v) l_1))], int i64 (iC (List.length (encP ps))), c) = encP ps' ∧ List.length ps = List.length ps' ∧ 88 = 88 ∧ SubR [AV.map (6)] [AV.map (6)] (89 = 89 ∧ SubR [AV.fn (Fn.func (71)) [] [ptr (8) (0), ptr (7) (0)]] [AV.fn (Fn.func (71)) [] [ptr (8) (0), ptr (7) (0)]] (0 = 0 ∧ True))) ∨ ∃ j x, keyFind (agg [str (writeS (Ty.mk k n b l)), str (writeS (Ty.mk (Ty.kind v) (Ty.n v) (Ty.nl v) l_1))]) (encP ps) 0 = some (some (j, int i64 x)) ∧
 AEnd.returned (agg [int i64 (6), int i64 x, isl true none (0) []]) = e ∧ 24 = 24 ∧ 24 = 24 ∧ 24 = 24 ∧ 28 = 28 ∧ 24 = 24 ∧ 24 = 24 ∧ encP ps = encP ps' ∧ List.length ps = List.length ps' ∧ 88 = 88 ∧ SubR [AV.map (6)] [AV.map (6)] (89 = 89 ∧ SubR [AV.fn (Fn.func (71)) [] [ptr (8) (0), ptr (7) (0)]] [AV.fn (Fn.func (71)) [] [ptr (8) (0), ptr (7) (0)]] (0 = 0 ∧ True))))) := by kernel_rfl
theorem cw_2 (ps ps' : Ps) (k n : Int) (b : Bool) (x y : Ty) (v : Ty) (N : Nat) (e : AEnd) : (runT (cmHk N) 60 71 [.agg [.int .i64 k, .int .i64 n, .isl b none 0 [encD x, encD y]], encD v, .ptr 8 0, .ptr 7 0] (cmA ps) (hpFz Tryz.prog 9 0 5 e (cmA ps'))) = ( bothR (decide (k = Ty.kind v)) (bothR (!decide (k = (6 : Int))) (Int.NonNeg (0) ∧ ∃ x_1, some (agg [int i64 (Ty.kind x), int i64 (Ty.n x), isl (Ty.nl x) none (0) (encL (Ty.l x))]) = some (agg [int i64 (Ty.kind x_1), int i64 (Ty.n x_1), isl (Ty.nl x_1) none (0) (encL (Ty.l x_1))]) ∧
 Int.NonNeg (0) ∧ ∃ x, (encL (Ty.l v))[0]? = some (agg [int i64 (Ty.kind x), int i64 (Ty.n x), isl (Ty.nl x) none (0) (encL (Ty.l x))]) ∧ ∃ l, encL (Ty.l x_1) = encL l ∧ ∃ l_1, encL (Ty.l x) = encL l_1 ∧ ∃ ps_1, encP ps = encP ps_1 ∧ List.length ps = List.length ps_1 ∧ (SizeOf.sizeOf (Ty.mk (Ty.kind x_1) (Ty.n x_1) (Ty.nl x_1) l) < N ∧ okT (Ty.mk (Ty.kind x_1) (Ty.n x_1) (Ty.nl x_1) l) = true ∧ okT (Ty.mk (Ty.kind x) (Ty.n x) (Ty.nl x) l_1) = true ∧ cnt (Ty.mk (Ty.kind x_1) (Ty.n x_1) (Ty.nl x_1) l) ≤ 100 ∧ cnt (Ty.mk (Ty.kind x) (Ty.n x) (Ty.nl x) l_1) ≤ 100 ∧
 List.length ps_1 + cnt (Ty.mk (Ty.kind x_1) (Ty.n x_1) (Ty.nl x_1) l) ≤ 1000) ∧ 24 = 24 ∧ 24 = 24 ∧ 24 = 24 ∧ 28 = 28 ∧ 24 = 24 ∧ 24 = 24 ∧ encP ps = encP ps_1 ∧ List.length ps = List.length ps_1 ∧ 88 = 88 ∧ SubR [AV.map (6)] [AV.map (6)] (89 = 89 ∧ SubR [AV.fn (Fn.func (71)) [] [ptr (8) (0), ptr (7) (0)]] [AV.fn (Fn.func (71)) [] [ptr (8) (0), ptr (7) (0)]] (0 = 0 ∧ ptr (12) (2) = ptr (12) (2) ∧ isl true none (0) [] = isl true none (0) [] ∧ (Nat.le (40) (35184372088832) ∧ Nat.le (1) (1152921504606846976)) ∧ true = true ∧ Int.NonNeg (1) ∧ ∃ x_2, some (agg
 [int i64 (Ty.kind y), int i64 (Ty.n y), isl (Ty.nl y) none (0) (encL (Ty.l y))]) = some (agg [int i64 (Ty.kind x_2), int i64 (Ty.n x_2), isl (Ty.nl x_2) none (0) (encL (Ty.l x_2))]) ∧ Int.NonNeg (1) ∧ ∃ x_3, (encL (Ty.l v))[1]? = some (agg [int i64 (Ty.kind x_3), int i64 (Ty.n x_3), isl (Ty.nl x_3) none (0) (encL (Ty.l x_3))]) ∧ ∃ l_2, encL (Ty.l x_2) = encL l_2 ∧ ∃ l_3, encL (Ty.l x_3) = encL l_3 ∧ ∃ ps, encP (cmP (Ty.mk (Ty.kind x_1) (Ty.n x_1) (Ty.nl x_1) l) (Ty.mk (Ty.kind x) (Ty.n x) (Ty.nl x) l_1) ps_1) =
 encP ps ∧ List.length (cmP (Ty.mk (Ty.kind x_1) (Ty.n x_1) (Ty.nl x_1) l) (Ty.mk (Ty.kind x) (Ty.n x) (Ty.nl x) l_1) ps_1) = List.length ps ∧ (SizeOf.sizeOf (Ty.mk (Ty.kind x_2) (Ty.n x_2) (Ty.nl x_2) l_2) < N ∧ okT (Ty.mk (Ty.kind x_2) (Ty.n x_2) (Ty.nl x_2) l_2) = true ∧ okT (Ty.mk (Ty.kind x_3) (Ty.n x_3) (Ty.nl x_3) l_3) = true ∧ cnt (Ty.mk (Ty.kind x_2) (Ty.n x_2) (Ty.nl x_2) l_2) ≤ 100 ∧ cnt (Ty.mk (Ty.kind x_3) (Ty.n x_3) (Ty.nl x_3) l_3) ≤ 100 ∧ List.length ps + cnt (Ty.mk (Ty.kind x_2) (Ty.n x_2) (Ty.nl x_2) l_2) ≤ 1000) ∧ 24 = 24 ∧ 24 = 24 ∧ 24 = 24 ∧ 28 = 28 ∧ 24 = 24 ∧ 24 = 24 ∧
 encP (cmP (Ty.mk (Ty.kind x_1) (Ty.n x_1) (Ty.nl x_1) l) (Ty.mk (Ty.kind x) (Ty.n x) (Ty.nl x) l_1) ps_1) = encP ps ∧ List.length (cmP (Ty.mk (Ty.kind x_1) (Ty.n x_1) (Ty.nl x_1) l) (Ty.mk (Ty.kind x) (Ty.n x) (Ty.nl x) l_1) ps_1) = List.length ps ∧ 88 = 88 ∧ SubR [AV.map (6)] [AV.map (6)] (89 = 89 ∧ SubR [AV.fn (Fn.func (71)) [] [ptr (8) (0), ptr (7) (0)]] [AV.fn (Fn.func (71)) [] [ptr (8) (0), ptr (7) (0)]] (0 = 0 ∧ ptr (12) (2) = ptr (12) (2) ∧ isl false (some (0)) (0) [agg [int i64 (Ty.kind (cmT (Ty.mk (Ty.kind x_1) (Ty.n x_1) (Ty.nl x_1) l)
 (Ty.mk (Ty.kind x) (Ty.n x) (Ty.nl x) l_1) ps_1)), int i64 (Ty.n (cmT (Ty.mk (Ty.kind x_1) (Ty.n x_1) (Ty.nl x_1) l) (Ty.mk (Ty.kind x) (Ty.n x) (Ty.nl x) l_1) ps_1)), isl (Ty.nl (cmT (Ty.mk (Ty.kind x_1) (Ty.n x_1) (Ty.nl x_1) l) (Ty.mk (Ty.kind x) (Ty.n x) (Ty.nl x) l_1) ps_1)) none (0) (encL (Ty.l (cmT (Ty.mk (Ty.kind x_1) (Ty.n x_1) (Ty.nl x_1) l) (Ty.mk (Ty.kind x) (Ty.n x) (Ty.nl x) l_1) ps_1)))]] = isl false (some (0)) (0) [agg [int i64 (Ty.kind (cmT (Ty.mk (Ty.kind x_1) (Ty.n x_1) (Ty.nl x_1) l) (Ty.mk (Ty.kind x) (Ty.n x) (Ty.nl x) l_1) ps_1)),
 int i64 (Ty.n (cmT (Ty.mk (Ty.kind x_1) (Ty.n x_1) (Ty.nl x_1) l) (Ty.mk (Ty.kind x) (Ty.n x) (Ty.nl x) l_1) ps_1)), isl (Ty.nl (cmT (Ty.mk (Ty.kind x_1) (Ty.n x_1) (Ty.nl x_1) l) (Ty.mk (Ty.kind x) (Ty.n x) (Ty.nl x) l_1) ps_1)) none (0) (encL (Ty.l (cmT (Ty.mk (Ty.kind x_1) (Ty.n x_1) (Ty.nl x_1) l) (Ty.mk (Ty.kind x) (Ty.n x) (Ty.nl x) l_1) ps_1)))]] ∧ (Nat.le (80) (35184372088832) ∧ Nat.le (2) (1152921504606846976)) ∧ true = true ∧ some (1, 3) = some (1, 3) ∧ true = true ∧ AEnd.returned (agg [int i64 k, int i64 (0), isl false none (0) [agg
 [int i64 (Ty.kind (cmT (Ty.mk (Ty.kind x_1) (Ty.n x_1) (Ty.nl x_1) l) (Ty.mk (Ty.kind x) (Ty.n x) (Ty.nl x) l_1) ps_1)), int i64 (Ty.n (cmT (Ty.mk (Ty.kind x_1) (Ty.n x_1) (Ty.nl x_1) l) (Ty.mk (Ty.kind x) (Ty.n x) (Ty.nl x) l_1) ps_1)), isl (Ty.nl (cmT (Ty.mk (Ty.kind x_1) (Ty.n x_1) (Ty.nl x_1) l) (Ty.mk (Ty.kind x) (Ty.n x) (Ty.nl x) l_1) ps_1)) none (0) (encL (Ty.l (cmT (Ty.mk (Ty.kind x_1) (Ty.n x_1) (Ty.nl x_1) l) (Ty.mk (Ty.kind x) (Ty.n x) (Ty.nl x) l_1) ps_1)))], agg [int i64 (Ty.kind (cmT (Ty.mk (Ty.kind x_2) (Ty.n x_2) (Ty.nl x_2) l_2)
 (Ty.mk (Ty.kind x_3) (Ty.n x_3) (Ty.nl x_3) l_3) ps)), int i64 (Ty.n (cmT (Ty.mk (Ty.kind x_2) (Ty.n x_2) (Ty.nl x_2) l_2) (Ty.mk (Ty.kind x_3) (Ty.n x_3) (Ty.nl x_3) l_3) ps)), isl (Ty.nl (cmT (Ty.mk (Ty.kind x_2) (Ty.n x_2) (Ty.nl x_2) l_2) (Ty.mk (Ty.kind x_3) (Ty.n x_3) (Ty.nl x_3) l_3) ps)) none (0) (encL (Ty.l (cmT (Ty.mk (Ty.kind x_2) (Ty.n x_2) (Ty.nl x_2) l_2) (Ty.mk (Ty.kind x_3) (Ty.n x_3) (Ty.nl x_3) l_3) ps)))]]]) = e ∧ 24 = 24 ∧ 24 = 24 ∧ 24 = 24 ∧ 28 = 28 ∧ 24 = 24 ∧ 24 = 24 ∧ encP (cmP (Ty.mk (Ty.kind x_2) (Ty.n x_2) (Ty.nl x_2) l_2) (Ty.mk (Ty.kind x_3)
 (Ty.n x_3) (Ty.nl x_3) l_3) ps) = encP ps' ∧ List.length (cmP (Ty.mk (Ty.kind x_2) (Ty.n x_2) (Ty.nl x_2) l_2) (Ty.mk (Ty.kind x_3) (Ty.n x_3) (Ty.nl x_3) l_3) ps) = List.length ps' ∧ 88 = 88 ∧ SubR [AV.map (6)] [AV.map (6)] (89 = 89 ∧ SubR [AV.fn (Fn.func (71)) [] [ptr (8) (0), ptr (7) (0)]] [AV.fn (Fn.func (71)) [] [ptr (8) (0), ptr (7) (0)]] (0 = 0 ∧ True))))))) (∃ l, [agg [int i64 (Ty.kind x), int i64 (Ty.n x), isl (Ty.nl x) none (0) (encL (Ty.l x))],
 agg [int i64 (Ty.kind y), int i64 (Ty.n y), isl (Ty.nl y) none (0) (encL (Ty.l y))]] = encL l ∧ (okT (Ty.mk k n b l) = true ∧ cnt (Ty.mk k n b l) ≤ 1000) ∧ ∃ l_1, encL (Ty.l v) = encL l_1 ∧ (okT (Ty.mk (Ty.kind v) (Ty.n v) (Ty.nl v) l_1) = true ∧ cnt (Ty.mk (Ty.kind v) (Ty.n v) (Ty.nl v) l_1) ≤ 1000) ∧ (keyFind (agg [str (writeS (Ty.mk k n b l)), str (writeS (Ty.mk (Ty.kind v) (Ty.n v) (Ty.nl v) l_1))]) (encP ps) 0 = some none ∧
 (keyFind (agg [str (writeS (Ty.mk k n b l)), str (writeS (Ty.mk (Ty.kind v) (Ty.n v) (Ty.nl v) l_1))]) (encP ps) 0 = some none ∧ AEnd.returned (agg [int i64 (6), int i64 (iC (List.length (encP ps))), isl true none (0) []]) = e ∧ 24 = 24 ∧ 24 = 24 ∧ 24 = 24 ∧ 28 = 28 ∧ 24 = 24 ∧ 24 = 24 ∧ encP ps ++ [(agg [str (writeS (Ty.mk k n b l)), str (writeS (Ty.mk (Ty.kind v) (Ty.n v) (Ty.nl v) l_1))], int i64 (iC (List.length (encP ps))), List.length ps)] = encP ps' ∧ List.length ps + 1 = List.length ps' ∧ 88 = 88 ∧ SubR [AV.map (6)] [AV.map (6)]
 (89 = 89 ∧ SubR [AV.fn (Fn.func (71)) [] [ptr (8) (0), ptr (7) (0)]] [AV.fn (Fn.func (71)) [] [ptr (8) (0), ptr (7) (0)]] (0 = 0 ∧ True)) ∨ ∃ j y c, keyFind (agg [str (writeS (Ty.mk k n b l)), str (writeS (Ty.mk (Ty.kind v) (Ty.n v) (Ty.nl v) l_1))]) (encP ps) 0 = some (some (j, y)) ∧ (encP ps)[j]? = some (agg [str (writeS (Ty.mk k n b l)), str (writeS (Ty.mk (Ty.kind v) (Ty.n v) (Ty.nl v) l_1))], y, c) ∧ AEnd.returned (agg [int i64 (6), int i64 (iC (List.length (encP ps))), isl true none (0) []]) = e ∧ 24 = 24 ∧ 24 = 24 ∧ 24 = 24 ∧
 28 = 28 ∧ 24 = 24 ∧ 24 = 24 ∧ List.set (encP ps) j (agg [str (writeS (Ty.mk k n b l)), str (writeS (Ty.mk (Ty.kind v) (Ty.n v) (Ty.nl v) l_1))], int i64 (iC (List.length (encP ps))), c) = encP ps' ∧ List.length ps = List.length ps' ∧ 88 = 88 ∧ SubR [AV.map (6)] [AV.map (6)] (89 = 89 ∧ SubR [AV.fn (Fn.func (71)) [] [ptr (8) (0), ptr (7) (0)]] [AV.fn (Fn.func (71)) [] [ptr (8) (0), ptr (7) (0)]] (0 = 0 ∧ True))) ∨ ∃ j x, keyFind (agg [str (writeS (Ty.mk k n b l)), str (writeS (Ty.mk (Ty.kind v) (Ty.n v) (Ty.nl v) l_1))]) (encP ps) 0 =
 some (some (j, int i64 x)) ∧ AEnd.returned (agg [int i64 (6), int i64 x, isl true none (0) []]) = e ∧ 24 = 24 ∧ 24 = 24 ∧ 24 = 24 ∧ 28 = 28 ∧ 24 = 24 ∧ 24 = 24 ∧ encP ps = encP ps' ∧ List.length ps = List.length ps' ∧ 88 = 88 ∧ SubR [AV.map (6)] [AV.map (6)] (89 = 89 ∧ SubR [AV.fn (Fn.func (71)) [] [ptr (8) (0), ptr (7) (0)]] [AV.fn (Fn.func (71)) [] [ptr (8) (0), ptr (7) (0)]] (0 = 0 ∧ True))))) (∃ l, [agg [int i64 (Ty.kind x), int i64 (Ty.n x), isl (Ty.nl x) none (0) (encL (Ty.l x))],
 agg [int i64 (Ty.kind y), int i64 (Ty.n y), isl (Ty.nl y) none (0) (encL (Ty.l y))]] = encL l ∧ (okT (Ty.mk k n b l) = true ∧ cnt (Ty.mk k n b l) ≤ 1000) ∧ ∃ l_1, encL (Ty.l v) = encL l_1 ∧ (okT (Ty.mk (Ty.kind v) (Ty.n v) (Ty.nl v) l_1) = true ∧ cnt (Ty.mk (Ty.kind v) (Ty.n v) (Ty.nl v) l_1) ≤ 1000) ∧ (keyFind (agg [str (writeS (Ty.mk k n b l)), str (writeS (Ty.mk (Ty.kind v) (Ty.n v) (Ty.nl v) l_1))]) (encP ps) 0 = some none ∧
 (keyFind (agg [str (writeS (Ty.mk k n b l)), str (writeS (Ty.mk (Ty.kind v) (Ty.n v) (Ty.nl v) l_1))]) (encP ps) 0 = some none ∧ AEnd.returned (agg [int i64 (6), int i64 (iC (List.length (encP ps))), isl true none (0) []]) = e ∧ 24 = 24 ∧ 24 = 24 ∧ 24 = 24 ∧ 28 = 28 ∧ 24 = 24 ∧ 24 = 24 ∧ encP ps ++ [(agg [str (writeS (Ty.mk k n b l)), str (writeS (Ty.mk (Ty.kind v) (Ty.n v) (Ty.nl v) l_1))], int i64 (iC (List.length (encP ps))), List.length ps)] = encP ps' ∧ List.length ps + 1 = List.length ps' ∧ 88 = 88 ∧ SubR [AV.map (6)] [AV.map (6)]
 (89 = 89 ∧ SubR [AV.fn (Fn.func (71)) [] [ptr (8) (0), ptr (7) (0)]] [AV.fn (Fn.func (71)) [] [ptr (8) (0), ptr (7) (0)]] (0 = 0 ∧ True)) ∨ ∃ j y c, keyFind (agg [str (writeS (Ty.mk k n b l)), str (writeS (Ty.mk (Ty.kind v) (Ty.n v) (Ty.nl v) l_1))]) (encP ps) 0 = some (some (j, y)) ∧ (encP ps)[j]? = some (agg [str (writeS (Ty.mk k n b l)), str (writeS (Ty.mk (Ty.kind v) (Ty.n v) (Ty.nl v) l_1))], y, c) ∧ AEnd.returned (agg [int i64 (6), int i64 (iC (List.length (encP ps))), isl true none (0) []]) = e ∧ 24 = 24 ∧ 24 = 24 ∧ 24 = 24 ∧
 28 = 28 ∧ 24 = 24 ∧ 24 = 24 ∧ List.set (encP ps) j (agg [str (writeS (Ty.mk k n b l)), str (writeS (Ty.mk (Ty.kind v) (Ty.n v) (Ty.nl v) l_1))], int i64 (iC (List.length (encP ps))), c) = encP ps' ∧ List.length ps = List.length ps' ∧ 88 = 88 ∧ SubR [AV.map (6)] [AV.map (6)] (89 = 89 ∧ SubR [AV.fn (Fn.func (71)) [] [ptr (8) (0), ptr (7) (0)]] [AV.fn (Fn.func (71)) [] [ptr (8) (0), ptr (7) (0)]] (0 = 0 ∧ True))) ∨ ∃ j x, keyFind (agg [str (writeS (Ty.mk k n b l)), str (writeS (Ty.mk (Ty.kind v) (Ty.n v) (Ty.nl v) l_1))]) (encP ps) 0 =
 some (some (j, int i64 x)) ∧ AEnd.returned (agg [int i64 (6), int i64 x, isl true none (0) []]) = e ∧ 24 = 24 ∧ 24 = 24 ∧ 24 = 24 ∧ 28 = 28 ∧ 24 = 24 ∧ 24 = 24 ∧ encP ps = encP ps' ∧ List.length ps = List.length ps' ∧ 88 = 88 ∧ SubR [AV.map (6)] [AV.map (6)] (89 = 89 ∧ SubR [AV.fn (Fn.func (71)) [] [ptr (8) (0), ptr (7) (0)]] [AV.fn (Fn.func (71)) [] [ptr (8) (0), ptr (7) (0)]] (0 = 0 ∧ True))))) := by kernel_rfl
theorem cm_top (a b : Ty) (v : AV) : (runT cmHk0 60 20 [encD a, encD b] AH.nil (retIs Tryz.prog 5 v)) = ( Int.NonNeg (0) ∧ ∃ x, some (agg [int i64 (Ty.kind a), int i64 (Ty.n a), isl (Ty.nl a) none (0) (encL (Ty.l a))]) = some (agg [int i64 (Ty.kind x), int i64 (Ty.n x), isl (Ty.nl x) none (0) (encL (Ty.l x))]) ∧ ∃ l, encL (Ty.l x) = encL l ∧ cnt (Ty.mk (Ty.kind x) (Ty.n x) (Ty.nl x) l) ≤ 1000 ∧ bothR (!validB (Ty.mk (Ty.kind x) (Ty.n x) (Ty.nl x) l))
 (tup [agg [int i64 (0), int i64 (0), isl true none (0) []], int i64 (1)] = v) (Int.NonNeg (1) ∧ ∃ x, some (agg [int i64 (Ty.kind b), int i64 (Ty.n b), isl (Ty.nl b) none (0) (encL (Ty.l b))]) = some (agg [int i64 (Ty.kind x), int i64 (Ty.n x), isl (Ty.nl x) none (0) (encL (Ty.l x))]) ∧ ∃ l, encL (Ty.l x) = encL l ∧ cnt (Ty.mk (Ty.kind x) (Ty.n x) (Ty.nl x) l) ≤ 1000 ∧ bothR (!validB (Ty.mk (Ty.kind x) (Ty.n x) (Ty.nl x) l)) (tup
 [agg [int i64 (0), int i64 (0), isl true none (0) []], int i64 (1)] = v) (∃ l, encL (Ty.l a) = encL l ∧ ∃ l_1, encL (Ty.l b) = encL l_1 ∧ ∃ ps, [] = encP ps ∧ 0 = List.length ps ∧ (okT (Ty.mk (Ty.kind a) (Ty.n a) (Ty.nl a) l) = true ∧ okT (Ty.mk (Ty.kind b) (Ty.n b) (Ty.nl b) l_1) = true ∧ cnt (Ty.mk (Ty.kind a) (Ty.n a) (Ty.nl a) l) ≤ 100 ∧ cnt (Ty.mk (Ty.kind b) (Ty.n b) (Ty.nl b) l_1) ≤ 100 ∧ List.length ps + cnt (Ty.mk (Ty.kind a) (Ty.n a) (Ty.nl a) l) ≤ 1000) ∧ 24 = 24 ∧ 24 = 24 ∧ 24 = 24 ∧ 28 = 28 ∧ 24 = 24 ∧ 24 = 24 ∧ [] = encP ps ∧
 0 = List.length ps ∧ 88 = 88 ∧ SubR [AV.map (6)] [AV.map (6)] (89 = 89 ∧ SubR [AV.fn (Fn.func (71)) [] [ptr (8) (0), ptr (7) (0)]] [AV.fn (Fn.func (71)) [] [ptr (8) (0), ptr (7) (0)]] (0 = 0 ∧ tup [agg [int i64 (Ty.kind (cmT (Ty.mk (Ty.kind a) (Ty.n a) (Ty.nl a) l) (Ty.mk (Ty.kind b) (Ty.n b) (Ty.nl b) l_1) ps)), int i64 (Ty.n (cmT (Ty.mk (Ty.kind a) (Ty.n a) (Ty.nl a) l) (Ty.mk (Ty.kind b) (Ty.n b) (Ty.nl b) l_1) ps)), isl (Ty.nl (cmT (Ty.mk (Ty.kind a) (Ty.n a) (Ty.nl a) l) (Ty.mk (Ty.kind b) (Ty.n b) (Ty.nl b) l_1) ps)) none (0) (encL (Ty.l
 (cmT (Ty.mk (Ty.kind a) (Ty.n a) (Ty.nl a) l) (Ty.mk (Ty.kind b) (Ty.n b) (Ty.nl b) l_1) ps)))], int i64 (0)] = v))))) := by kernel_rfl
end Go.Proofs.YtnmolpkkemljoaaGreatDoor
end
end
section
set_option maxRecDepth 100000
set_option linter.unusedSimpArgs false
set_option linter.unusedVariables false
namespace Kd
open Go Go.Am Go.Proofs.YtnmolpkkemljoaaGreatDoor
theorem keyP_none {a b : Tx} : ∀ {ps : Ps} {i : Nat}, idxP ps (a, b) i = none → ∀ j, keyFind (.agg [.str a, .str b]) (encPi ps i) j = some none
 | [], _, _, _ => rfl
 | y :: l, i, h, j => by
  simp only [idxP] at h
  split at h
  ·cases h
  ·rename_i hne
   have hk : (decide (a = y.1) && decide (b = y.2)) = false := by
    rw [Bool.and_eq_false_iff]
    by_cases h1 : a = y.1
    ·by_cases h2 : b = y.2
     ·exact absurd (Prod.ext h1 h2) hne
     ·exact .inr (decide_eq_false h2)
    ·exact .inl (decide_eq_false h1)
   simp only [encPi, entP, keyFind, keyEq, hk]
   exact keyP_none h _
theorem keyP_some {a b : Tx} : ∀ {ps : Ps} {i m : Nat}, idxP ps (a, b) i = some m → ∀ j, ∃ j', keyFind (.agg [.str a, .str b]) (encPi ps i) j = some (some (j', .int .i64 m))
 | [], _, _, h, _ => by cases h
 | y :: l, i, m, h, j => by
  simp only [idxP] at h
  split at h
  ·rename_i he
   cases h
   subst he
   exact ⟨j, by simp only [encPi, entP, keyFind, keyEq, decide_true, Bool.and_self]⟩
  ·rename_i hne
   have hk : (decide (a = y.1) && decide (b = y.2)) = false := by
    rw [Bool.and_eq_false_iff]
    by_cases h1 : a = y.1
    ·by_cases h2 : b = y.2
     ·exact absurd (Prod.ext h1 h2) hne
     ·exact .inr (decide_eq_false h2)
    ·exact .inl (decide_eq_false h1)
   simp only [encPi, entP, keyFind, keyEq, hk]
   exact keyP_some h _
theorem encPi_app (x : Tx × Tx) : ∀ (ps : Ps) (i : Nat), encPi (ps ++ [x]) i = encPi ps i ++ [entP x (i + ps.length)]
 | [], i => by simp [encPi]
 | y :: l, i => by
  simp only [List.cons_append, encPi, encPi_app x l (i + 1), List.length_cons, List.cons.injEq, true_and]
  rw [show i + 1 + l.length = i + (l.length + 1) by omega]
theorem encPi_len : ∀ (ps : Ps) (i : Nat), (encPi ps i).length = ps.length
 | [], _ => rfl
 | y :: l, i => by simp only [encPi, List.length_cons, encPi_len l (i + 1)]
theorem encP_len (ps : Ps) : (encP ps).length = ps.length := encPi_len ps 0
theorem encPi_bnd (n nf : Nat) : ∀ (ps : Ps) (i : Nat), bndM n nf (encPi ps i) = true
 | [], _ => rfl
 | y :: l, i => by simp only [encPi, entP, bndM, AV.bnd, AV.bndL, Bool.and_self, Bool.true_and, encPi_bnd n nf l (i + 1)]
theorem encP_bnd (n nf : Nat) (ps : Ps) : bndM n nf (encP ps) = true := encPi_bnd n nf ps 0
theorem cm_len : ∀ (t u : Ty) (ps : Ps), (cmP t u ps).length ≤ ps.length + cnt t := by
 have key : ∀ (N : Nat), (∀ (t u : Ty) (ps : Ps), SizeOf.sizeOf t < N → (cmF t u ps).ps.length ≤ ps.length + cnt t) ∧ ∀ (l m : List Ty) (ps : Ps), SizeOf.sizeOf l < N → (cmG l m ps).ps.length ≤ ps.length + cntL l := by
  intro N
  induction N with
  | zero => exact ⟨fun _ _ _ h => by omega, fun _ _ _ h => by omega⟩
  | succ N ih =>
   obtain ⟨ih1, ih2⟩ := ih
   constructor
   ·intro t u ps ht
    obtain ⟨k, n, b, l⟩ := t
    simp only [Ty.mk.sizeOf_spec] at ht
    simp only [cmF, cnt]
    split
    ·have := ih2 l u.l ps (by omega)
     simp only; omega
    ·split
     ·simp only; omega
     ·simp
   ·intro l m ps hl
    match l, m with
    | [], _ => simp only [cmG]; omega
    | x :: xs, [] => simp only [cmG]; omega
    | x :: xs, y :: ys =>
     simp only [List.cons.sizeOf_spec] at hl
     simp only [cmG, cntL]
     have h1 := ih1 x y ps (by omega)
     have h2 := ih2 xs ys (cmF x y ps).ps (by omega)
     omega
 exact fun t u ps => (key (SizeOf.sizeOf t + 1)).1 t u ps (by omega)
end Kd
noncomputable section
namespace Go.Proofs.YtnmolpkkemljoaaGreatDoor
open Go Go.Am Kd
def CWalkC (t u : Ty) (ps : Ps) : Prop := FuncJ Tryz.prog gT 71 [enc t, enc u, .ptr 8 0, .ptr 7 0] (cmA ps) (hpIs 0 (.returned (encD (cmT t u ps))) (cmA (cmP t u ps)))
theorem cmA_ok (ps : Ps) : (cmA ps).ok 9 0 = true := by
 simp [AH.ok, cmA, top3, ABlk.bnd, AV.bnd, AV.bndL, encP_bnd]
theorem argCm_elim {A : AH} {K : Ps → Prop} (h : argCm A K) : ∃ ps, K ps := by
 unfold argCm at h
 split at h
 ·obtain ⟨ps, _, _, h⟩ := h
  exact ⟨ps, h⟩
 ·exact h.elim
theorem cwalkC_hook {N : Nat} (ih : ∀ (t u : Ty) (ps : Ps), SizeOf.sizeOf t < N → okT t = true → okT u = true → cnt t ≤ 100 → cnt u ≤ 100 → ps.length + cnt t ≤ 1000 → CWalkC t u ps) : HSpec.Ok Tryz.prog gT 71 (cwalkC N) := by
 intro args A K h'
 unfold cwalkC at h'
 split at h'
 ·obtain ⟨t, rfl, g1⟩ := argTy_elim h'
  obtain ⟨u, rfl, g2⟩ := argTy_elim g1
  obtain ⟨ps, ⟨h1, h2, h3, h4, h5, h6⟩, h⟩ := argCm_elim g2
  have hb : AV.bndL 9 0 [enc t, enc u, .ptr 8 0, .ptr 7 0] = true := by simp [AV.bndL, AV.bnd, AV.still_bnd, enc_still]
  obtain ⟨hK, hr⟩ := FuncJ.on (n := 9) h (ih t u ps h1 h2 h3 h4 h5 h6) (cmA_ok ..) (cmA_ok ..) hb (by simp [AEnd.bnd, AV.still_bnd, encD_still])
  exact ⟨_, hr, hK⟩
 ·exact h'.elim
theorem cwalk_okC : ∀ (N : Nat) (t u : Ty) (ps : Ps), SizeOf.sizeOf t < N → okT t = true → okT u = true → cnt t ≤ 100 → cnt u ≤ 100 → ps.length + cnt t ≤ 1000 → CWalkC t u ps := by
 intro N
 induction N with
 | zero => intro t u ps h; omega
 | succ N ih =>
  intro t u ps ht hot hou hct hcu hps
  have hh : Hooks.Ok Tryz.prog gT (cmHk N) := mkHooks_ok (all_cons wr_hook0 all_nil) (all_cons (cwalkC_hook ih) all_nil) all_nil
  refine FuncJ.mono (K := fun o => o = ⟨.returned (encD (cmT t u ps)), cmA (cmP t u ps)⟩) ?_ fun o ho => by subst ho; exact hpIs_self rfl
  have hok := cmA_ok (cmP t u ps)
  simp only [AH.ok, Bool.and_eq_true, decide_eq_true_eq] at hok
  refine FuncJ.fz (n := 9) (nf := 0) (k := 5) ?_ hok.1 hok.2.1 (Nat.le_refl _) (Nat.le_refl _) hok.2.2.1 (by simp [AEnd.bnd, AV.still_bnd, encD_still])
  refine FuncJ.run (el := els) (mu := mu0) (hk := cmHk N) hmix hh (n := 60) ?_
  obtain ⟨k, n, b, l⟩ := t
  obtain ⟨hl2, hol⟩ := okL_of hot
  have hno := (ok_node hot).1
  simp only [NodeOk] at hno
  obtain ⟨ku, nu, bu, lu⟩ := u
  obtain ⟨hlu2, holu⟩ := okL_of hou
  have hnu := (ok_node hou).1
  simp only [NodeOk] at hnu
  simp only [Ty.mk.sizeOf_spec] at ht
  have e0 : encL [] = [] := by simp only [encL]
  have e1 : ∀ x, encL [x] = [encD x] := fun x => by simp only [encL, enc_D]
  have e2 : ∀ x y, encL [x, y] = [encD x, encD y] := fun x y => by simp only [encL, enc_D]
  -- they are not of one kind, or variables
  have other : ∀ c, ¬ (k = ku ∧ ¬ k = 6) → (okT (.mk k n b l) = true ∧ cnt (.mk k n b l) ≤ 1000) ∧ (okT (.mk ku nu bu lu) = true ∧ cnt (.mk ku nu bu lu) ≤ 1000) ∧
    ((∃ m, cmT (.mk k n b l) (.mk ku nu bu lu) ps = varT m ∧ cmP (.mk k n b l) (.mk ku nu bu lu) ps = ps ∧ ∃ j, keyFind (.agg [.str (writeS (.mk k n b l)), .str (writeS (.mk ku nu bu lu))]) (encP ps) c = some (some (j, .int .i64 m))) ∨
     (cmT (.mk k n b l) (.mk ku nu bu lu) ps = varT ps.length ∧ encP (cmP (.mk k n b l) (.mk ku nu bu lu) ps) = encP ps ++ [(.agg [.str (writeS (.mk k n b l)), .str (writeS (.mk ku nu bu lu))], .int .i64 ps.length, ps.length)] ∧ (cmP (.mk k n b l) (.mk ku nu bu lu) ps).length = ps.length + 1 ∧ keyFind (.agg [.str (writeS (.mk k n b l)), .str (writeS (.mk ku nu bu lu))]) (encP ps) c = some none)) := by
   intro c hne
   refine ⟨⟨hot, by omega⟩, ⟨hou, by omega⟩, ?_⟩
   cases hi : idxP ps (writeS (.mk k n b l), writeS (.mk ku nu bu lu)) 0 with
   | some m =>
    have hr : cmF (.mk k n b l) (.mk ku nu bu lu) ps = ⟨varT m, ps⟩ := by simp only [cmF, Ty.kind, hne, if_false, hi]
    exact .inl ⟨m, congrArg CR.t hr, congrArg CR.ps hr, keyP_some hi c⟩
   | none =>
    have hr : cmF (.mk k n b l) (.mk ku nu bu lu) ps = ⟨varT ps.length, ps ++ [(writeS (.mk k n b l), writeS (.mk ku nu bu lu))]⟩ := by simp only [cmF, Ty.kind, hne, if_false, hi]
    have hp : cmP (.mk k n b l) (.mk ku nu bu lu) ps = _ := congrArg CR.ps hr
    refine .inr ⟨congrArg CR.t hr, ?_, ?_, keyP_none hi c⟩
    ·rw [hp]; simp only [encP, encPi_app, entP, Nat.zero_add]
    ·rw [hp]; simp
  have vt : ∀ m : Nat, AV.agg [.int .i64 6, .int .i64 m, .isl true none 0 []] = encD (varT m) := fun m => rfl
  match l, hl2, hol, ht, other with
  | [], _, hol, ht, other =>
   refine cast (cw_0 ps (cmP (.mk k n b []) (.mk ku nu bu lu) ps) k n b (.mk ku nu bu lu) N (.returned (encD (cmT (.mk k n b []) (.mk ku nu bu lu) ps)))).symm ?_
   simp only [eq_self, true_and, and_true, SubR_id, tk_mk, tn_mk, tb_mk, tl_mk, iC, encP_len]
   refine bothR_dec (fun hk => bothR_ndec (fun h6 => ?_) fun h6 => ?_) fun hk => ?_
   ·subst hk
    have hr : cmF (.mk k n b []) (.mk k nu bu lu) ps = ⟨.mk k 0 true [], ps⟩ := by simp [cmF, Ty.kind, h6, cmG, nilB]
    have p1 : cmT (.mk k n b []) (.mk k nu bu lu) ps = _ := congrArg CR.t hr
    have p2 : cmP (.mk k n b []) (.mk k nu bu lu) ps = _ := congrArg CR.ps hr
    rw [p1, p2]
    exact ⟨by simp [encD, e0, Ty.kind, Ty.n, Ty.nl, Ty.l], rfl, rfl⟩
   ·obtain ⟨o1, o2, ho⟩ := other 0 (fun h => h.2 h6)
    refine ⟨[], e0.symm, o1, lu, rfl, o2, ?_⟩
    rcases ho with ⟨m, p1, p2, j, p3⟩ | ⟨p1, p2, p3, p4⟩
    ·exact .inr ⟨j, (m : Int), p3, by rw [p1]; rfl, by rw [p2], by rw [p2]⟩
    ·exact .inl ⟨p4, .inl ⟨p4, by rw [p1]; rfl, p2.symm, p3.symm⟩⟩
   ·obtain ⟨o1, o2, ho⟩ := other 0 (fun h => hk h.1)
    refine ⟨[], e0.symm, o1, lu, rfl, o2, ?_⟩
    rcases ho with ⟨m, p1, p2, j, p3⟩ | ⟨p1, p2, p3, p4⟩
    ·exact .inr ⟨j, (m : Int), p3, by rw [p1]; rfl, by rw [p2], by rw [p2]⟩
    ·exact .inl ⟨p4, .inl ⟨p4, by rw [p1]; rfl, p2.symm, p3.symm⟩⟩
  | [x], _, hol, ht, other =>
   rw [show enc (.mk k n b [x]) = .agg [.int .i64 k, .int .i64 n, .isl b none 0 [encD x]] by rw [enc, e1], show enc (.mk ku nu bu lu) = encD (.mk ku nu bu lu) from enc_D _]
   refine cast (cw_1 ps (cmP (.mk k n b [x]) (.mk ku nu bu lu) ps) k n b x (.mk ku nu bu lu) N (.returned (encD (cmT (.mk k n b [x]) (.mk ku nu bu lu) ps)))).symm ?_
   simp only [eq_self, true_and, and_true, SubR_id, tk_mk, tn_mk, tb_mk, tl_mk, iC, encP_len]
   refine bothR_dec (fun hk => bothR_ndec (fun h6 => ?_) fun h6 => ?_) fun hk => ?_
   ·subst hk
    obtain ⟨u, rfl⟩ : ∃ u, lu = [u] := List.length_eq_one_iff.1 (by simp only [List.length_cons, List.length_nil] at hno; omega)
    simp only [okL, Bool.and_true] at hol holu
    simp only [cnt, cntL] at hct hcu hps
    simp only [List.cons.sizeOf_spec] at ht
    simp only [ex_one, e1, List.getElem?_cons_zero, encD, ex_enc, Ty.eta]
    have hr : cmF (.mk k n b [x]) (.mk k nu bu [u]) ps = ⟨.mk k 0 false [cmT x u ps], cmP x u ps⟩ := by simp [cmF, Ty.kind, Ty.l, h6, cmG, nilB, cmT, cmP]
    have p1 : cmT (.mk k n b [x]) (.mk k nu bu [u]) ps = _ := congrArg CR.t hr
    have p2 : cmP (.mk k n b [x]) (.mk k nu bu [u]) ps = _ := congrArg CR.ps hr
    rw [p1, p2]
    exact ⟨nn 0, nn 0, ps, rfl, rfl, ⟨by omega, hol, holu, by omega, by omega, by omega⟩, rfl, rfl, ⟨Nat.le_of_ble_eq_true rfl, Nat.le_of_ble_eq_true rfl⟩, by simp only [tk_mk, tn_mk, tb_mk, tl_mk, e1, encD], rfl, rfl⟩
   ·obtain ⟨o1, o2, ho⟩ := other 0 (fun h => h.2 h6)
    refine ⟨[x], (e1 x).symm, o1, lu, rfl, o2, ?_⟩
    rcases ho with ⟨m, p1, p2, j, p3⟩ | ⟨p1, p2, p3, p4⟩
    ·exact .inr ⟨j, (m : Int), p3, by rw [p1]; rfl, by rw [p2], by rw [p2]⟩
    ·exact .inl ⟨p4, .inl ⟨p4, by rw [p1]; rfl, p2.symm, p3.symm⟩⟩
   ·obtain ⟨o1, o2, ho⟩ := other 0 (fun h => hk h.1)
    refine ⟨[x], (e1 x).symm, o1, lu, rfl, o2, ?_⟩
    rcases ho with ⟨m, p1, p2, j, p3⟩ | ⟨p1, p2, p3, p4⟩
    ·exact .inr ⟨j, (m : Int), p3, by rw [p1]; rfl, by rw [p2], by rw [p2]⟩
    ·exact .inl ⟨p4, .inl ⟨p4, by rw [p1]; rfl, p2.symm, p3.symm⟩⟩
  | [x, y], _, hol, ht, other =>
   rw [show enc (.mk k n b [x, y]) = .agg [.int .i64 k, .int .i64 n, .isl b none 0 [encD x, encD y]] by rw [enc, e2], show enc (.mk ku nu bu lu) = encD (.mk ku nu bu lu) from enc_D _]
   refine cast (cw_2 ps (cmP (.mk k n b [x, y]) (.mk ku nu bu lu) ps) k n b x y (.mk ku nu bu lu) N (.returned (encD (cmT (.mk k n b [x, y]) (.mk ku nu bu lu) ps)))).symm ?_
   simp only [eq_self, true_and, and_true, SubR_id, tk_mk, tn_mk, tb_mk, tl_mk, iC, encP_len]
   refine bothR_dec (fun hk => bothR_ndec (fun h6 => ?_) fun h6 => ?_) fun hk => ?_
   ·subst hk
    obtain ⟨u, v, rfl⟩ : ∃ u v, lu = [u, v] := by
     have h2 : lu.length = 2 := by simp only [List.length_cons, List.length_nil] at hno; omega
     match lu, h2 with
     | [u, v], _ => exact ⟨u, v, rfl⟩
    simp only [okL, Bool.and_true, Bool.and_eq_true] at hol holu
    simp only [cnt, cntL] at hct hcu hps
    simp only [List.cons.sizeOf_spec] at ht
    simp only [ex_one, e2, List.getElem?_cons_zero, List.getElem?_cons_succ, encD, ex_enc, Ty.eta]
    have hr : cmF (.mk k n b [x, y]) (.mk k nu bu [u, v]) ps = ⟨.mk k 0 false [cmT x u ps, cmT y v (cmP x u ps)], cmP y v (cmP x u ps)⟩ := by simp [cmF, Ty.kind, Ty.l, h6, cmG, nilB, cmT, cmP]
    have p1 : cmT (.mk k n b [x, y]) (.mk k nu bu [u, v]) ps = _ := congrArg CR.t hr
    have p2 : cmP (.mk k n b [x, y]) (.mk k nu bu [u, v]) ps = _ := congrArg CR.ps hr
    have hl := cm_len x u ps
    rw [p1, p2]
    exact ⟨nn 0, nn 0, ps, rfl, rfl, ⟨by omega, hol.1, holu.1, by omega, by omega, by omega⟩, rfl, rfl, ⟨Nat.le_of_ble_eq_true rfl, Nat.le_of_ble_eq_true rfl⟩, nn 1, nn 1, cmP x u ps, rfl, rfl, ⟨by omega, hol.2, holu.2, by omega, by omega, by omega⟩, rfl, rfl, ⟨Nat.le_of_ble_eq_true rfl, Nat.le_of_ble_eq_true rfl⟩, by simp only [tk_mk, tn_mk, tb_mk, tl_mk, e2, encD], rfl, rfl⟩
   ·obtain ⟨o1, o2, ho⟩ := other 0 (fun h => h.2 h6)
    refine ⟨[x, y], (e2 x y).symm, o1, lu, rfl, o2, ?_⟩
    rcases ho with ⟨m, p1, p2, j, p3⟩ | ⟨p1, p2, p3, p4⟩
    ·exact .inr ⟨j, (m : Int), p3, by rw [p1]; rfl, by rw [p2], by rw [p2]⟩
    ·exact .inl ⟨p4, .inl ⟨p4, by rw [p1]; rfl, p2.symm, p3.symm⟩⟩
   ·obtain ⟨o1, o2, ho⟩ := other 0 (fun h => hk h.1)
    refine ⟨[x, y], (e2 x y).symm, o1, lu, rfl, o2, ?_⟩
    rcases ho with ⟨m, p1, p2, j, p3⟩ | ⟨p1, p2, p3, p4⟩
    ·exact .inr ⟨j, (m : Int), p3, by rw [p1]; rfl, by rw [p2], by rw [p2]⟩
    ·exact .inl ⟨p4, .inl ⟨p4, by rw [p1]; rfl, p2.symm, p3.symm⟩⟩
theorem cwalkC_hook0 : HSpec.Ok Tryz.prog gT 71 cwalkC0 := by
 intro args A K h'
 unfold cwalkC0 at h'
 split at h'
 ·obtain ⟨t, rfl, g1⟩ := argTy_elim h'
  obtain ⟨u, rfl, g2⟩ := argTy_elim g1
  obtain ⟨ps, ⟨h2, h3, h4, h5, h6⟩, h⟩ := argCm_elim g2
  have hb : AV.bndL 9 0 [enc t, enc u, .ptr 8 0, .ptr 7 0] = true := by simp [AV.bndL, AV.bnd, AV.still_bnd, enc_still]
  obtain ⟨hK, hr⟩ := FuncJ.on (n := 9) h (cwalk_okC (SizeOf.sizeOf t + 1) t u ps (by omega) h2 h3 h4 h5 h6) (cmA_ok ..) (cmA_ok ..) hb (by simp [AEnd.bnd, AV.still_bnd, encD_still])
  exact ⟨_, hr, hK⟩
 ·exact h'.elim
end Go.Proofs.YtnmolpkkemljoaaGreatDoor
end
namespace Kd
open Go Go.Am Go.Proofs.YtnmolpkkemljoaaGreatDoor
def cmN (t u : Ty) : Int := if validB t = true ∧ validB u = true then 0 else 1
def cmV (t u : Ty) : Ty := if validB t = true ∧ validB u = true then cmT t u [] else .mk 0 0 true []
end Kd
noncomputable section
namespace Go.Proofs.YtnmolpkkemljoaaGreatDoor
open Go Go.Am Kd
theorem common_ok (t u : Ty) (ht : cnt t ≤ 1000) (hu : cnt u ≤ 1000) : QT 20 [enc t, enc u] (.tup [encD (cmV t u), .int .i64 (cmN t u)]) := by
 have hh : Hooks.Ok Tryz.prog gT cmHk0 := mkHooks_ok (all_cons valid_hook.lift all_nil) (all_cons cwalkC_hook0 all_nil) all_nil
 refine QT.by (hk := cmHk0) (by simp [AV.stillL, enc_still]) (by simp [AV.still, AV.stillL, encD_still]) hh ?_
 rw [enc_D, enc_D, cm_top]
 simp only [eq_self, true_and, and_true, SubR_id, ex_enc, Ty.eta, ex_one]
 have bad : ¬ (validB t = true ∧ validB u = true) → AV.tup [AV.agg [AV.int IntKind.i64 0, AV.int IntKind.i64 0, AV.isl true none 0 []], AV.int IntKind.i64 1] = .tup [encD (cmV t u), .int .i64 (cmN t u)] := by
  intro h
  unfold cmV cmN
  rw [if_neg h, if_neg h]; rfl
 refine ⟨nn 0, ht, bothR_nbool (fun hv => bad (by simp [hv])) fun hv => ⟨nn 1, hu, bothR_nbool (fun hw => bad (by simp [hw])) fun hw => ?_⟩⟩
 have hvt := (valid_eq t).1 hv
 have hvu := (valid_eq u).1 hw
 refine ⟨[], rfl, rfl, ⟨hvt.2.2, hvu.2.2, by omega, by omega, by simp; omega⟩, rfl, rfl, ?_⟩
 unfold cmV cmN
 rw [if_pos ⟨hv, hw⟩, if_pos ⟨hv, hw⟩]
 rfl
end Go.Proofs.YtnmolpkkemljoaaGreatDoor
end
end
section
noncomputable section
namespace Go.Proofs.YtnmolpkkemljoaaGreatDoor
open Go Go.Am Kd
def listH : HSpec := fun args A K =>
 match args with
 | [.map b] =>
  match nthR A.blks b with
  | some (.map m c) => ∃ es, m = encM es ∧ okMap es c ∧ K ⟨.returned (listV es), A⟩
  | _ => False
 | _ => False
def mtHk : Hooks := mkHooks Tryz.prog [(76, validQ)] [(65, mwalkH0), (59, listH)] []
end Go.Proofs.YtnmolpkkemljoaaGreatDoor
end
end
section
noncomputable section
namespace Go.Proofs.YtnmolpkkemljoaaGreatDoor
open Go Go.Am Kd Go.Am.AV Go.IntKind
set_option maxRecDepth 100000
theorem mt_top (a b : Ty) (v : AV) : (runF mtHk 60 18 [encD a, encD b] AH.nil (retIs Tryz.prog 5 v)) = ( Int.NonNeg (0) ∧ ∃ x, some (agg [int i64 (Ty.kind a), int i64 (Ty.n a), isl (Ty.nl a) none (0) (encL (Ty.l a))]) = some (agg [int i64 (Ty.kind x), int i64 (Ty.n x), isl (Ty.nl x) none (0) (encL (Ty.l x))]) ∧ ∃ l, encL (Ty.l x) = encL l ∧ cnt (Ty.mk (Ty.kind x) (Ty.n x) (Ty.nl x) l) ≤ 1000 ∧ bothR (!validB (Ty.mk (Ty.kind x) (Ty.n x) (Ty.nl x) l)) (tup [isl true none (0) [], int i64 (1)] = v) (Int.NonNeg (1) ∧ ∃ x,
 some (agg [int i64 (Ty.kind b), int i64 (Ty.n b), isl (Ty.nl b) none (0) (encL (Ty.l b))]) = some (agg [int i64 (Ty.kind x), int i64 (Ty.n x), isl (Ty.nl x) none (0) (encL (Ty.l x))]) ∧ ∃ l, encL (Ty.l x) = encL l ∧ cnt (Ty.mk (Ty.kind x) (Ty.n x) (Ty.nl x) l) ≤ 1000 ∧ bothR (!validB (Ty.mk (Ty.kind x) (Ty.n x) (Ty.nl x) l)) (tup [isl true none (0) [], int i64 (1)] = v) (∃ l, encL (Ty.l a) = encL l ∧ ∃ l_1, encL (Ty.l b) = encL l_1 ∧ ∃ es, [] = encM es ∧ (okT (Ty.mk (Ty.kind a) (Ty.n a) (Ty.nl a) l) = true ∧
 okT (Ty.mk (Ty.kind b) (Ty.n b) (Ty.nl b) l_1) = true ∧ okMs es ∧ cnt (Ty.mk (Ty.kind b) (Ty.n b) (Ty.nl b) l_1) ≤ 100) ∧ 24 = 24 ∧ 24 = 24 ∧ 28 = 28 ∧ 24 = 24 ∧ 24 = 24 ∧ [] = encM es ∧ 0 = 0 ∧ 74 = 74 ∧ SubR [AV.map (5)] [AV.map (5)] (83 = 83 ∧ SubR [AV.fn (Fn.func (65)) [] [ptr (6) (0), ptr (7) (0)]] [AV.fn (Fn.func (65)) [] [ptr (6) (0), ptr (7) (0)]] (0 = 0 ∧ bothR (mtB (Ty.mk (Ty.kind a) (Ty.n a) (Ty.nl a) l) (Ty.mk (Ty.kind b) (Ty.n b) (Ty.nl b) l_1) es 0) (∃ es_1, encM (mtE (Ty.mk (Ty.kind a) (Ty.n a) (Ty.nl a) l) (Ty.mk (Ty.kind b) (Ty.n b) (Ty.nl b) l_1) es 0) =
 encM es_1 ∧ ((∀ (e : Int × Ty × Nat), e ∈ es_1 → (0 ≤ Prod.fst e ∧ Prod.fst e < 1000) ∧ Prod.snd (Prod.snd e) < mtC (Ty.mk (Ty.kind a) (Ty.n a) (Ty.nl a) l) (Ty.mk (Ty.kind b) (Ty.n b) (Ty.nl b) l_1) es 0) ∧ List.Nodup (List.map (fun x => Prod.snd (Prod.snd x)) es_1) ∧ List.Nodup (List.map (fun x => Prod.fst x) es_1) ∧ List.length es_1 ≤ 1000) ∧ tup [isl (nilB es_1) none (0) (encB (sortB (List.map bndE es_1))), int i64 (0)] = v) (tup [isl true none (0) [], int i64 (15)] = v)))))) := by kernel_rfl
end Go.Proofs.YtnmolpkkemljoaaGreatDoor
end
end
section
set_option maxRecDepth 100000
set_option linter.unusedSimpArgs false
set_option linter.unusedVariables false
namespace Kd
open Go Go.Am Go.Proofs.YtnmolpkkemljoaaGreatDoor
structure MapI (es : Es) (c : Nat) : Prop where
 key : ∀ e ∈ es, 0 ≤ e.1 ∧ e.1 < 1000
 old : ∀ e ∈ es, e.2.2 < c
 one : (es.map fun x => x.2.2).Nodup
 two : (es.map fun x => x.1).Nodup
theorem setM_keys (n : Int) (u : Ty) : ∀ es : Es, (setM es n u).map (fun x => x.1) = es.map fun x => x.1
 | [] => rfl
 | x :: l => by
  simp only [setM]
  split
  ·rfl
  ·simp only [List.map_cons, setM_keys n u l]
theorem setM_born (n : Int) (u : Ty) : ∀ es : Es, (setM es n u).map (fun x => x.2.2) = es.map fun x => x.2.2
 | [] => rfl
 | x :: l => by
  simp only [setM]
  split
  ·rfl
  ·simp only [List.map_cons, setM_born n u l]
theorem boundM_key {es : Es} {n : Int} (h : boundM es n = none) : n ∉ es.map fun x => x.1 := by
 induction es with
 | nil => simp
 | cons x l ih =>
  simp only [boundM] at h
  split at h
  ·cases h
  ·rename_i hne
   simp only [List.map_cons, List.mem_cons, not_or]
   exact ⟨hne, ih h⟩
theorem MapI.set {es : Es} {c : Nat} (h : MapI es c) (n : Int) (u : Ty) : MapI (setM es n u) c where
 key e he := by
  have : e.1 ∈ es.map fun x => x.1 := by rw [← setM_keys n u]; exact List.mem_map.2 ⟨e, he, rfl⟩
  obtain ⟨e', h1, h2⟩ := List.mem_map.1 this
  rw [← h2]; exact h.key e' h1
 old e he := by
  have : e.2.2 ∈ es.map fun x => x.2.2 := by rw [← setM_born n u]; exact List.mem_map.2 ⟨e, he, rfl⟩
  obtain ⟨e', h1, h2⟩ := List.mem_map.1 this
  rw [← h2]; exact h.old e' h1
 one := by rw [setM_born]; exact h.one
 two := by rw [setM_keys]; exact h.two
theorem MapI.push {es : Es} {c : Nat} (h : MapI es c) {n : Int} {u : Ty} (hn : boundM es n = none) (h0 : 0 ≤ n) (h1 : n < 1000) : MapI (es ++ [(n, u, c)]) (c + 1) where
 key e he := by
  rcases List.mem_append.1 he with he | he
  ·exact h.key e he
  ·obtain rfl := List.mem_singleton.1 he
   exact ⟨h0, h1⟩
 old e he := by
  rcases List.mem_append.1 he with he | he
  ·have := h.old e he; omega
  ·obtain rfl := List.mem_singleton.1 he
   exact Nat.lt_succ_self _
 one := by
  rw [List.map_append, List.nodup_append]
  refine ⟨h.one, by simp, fun a ha b hb => ?_⟩
  obtain ⟨e, he, rfl⟩ := List.mem_map.1 ha
  have := h.old e he
  simp only [List.map_cons, List.map_nil, List.mem_singleton] at hb
  omega
 two := by
  rw [List.map_append, List.nodup_append]
  refine ⟨h.two, by simp, fun a ha b hb hab => ?_⟩
  simp only [List.map_cons, List.map_nil, List.mem_singleton] at hb
  subst hb; subst hab
  exact boundM_key hn ha
theorem setM_len (n : Int) (u : Ty) (es : Es) : (setM es n u).length = es.length := by
 have := congrArg List.length (setM_keys n u es)
 simpa using this
theorem mt_MapI : ∀ (t u : Ty) (es : Es) (c : Nat), okT t = true → MapI es c → MapI (mtE t u es c) (mtC t u es c) ∧ (mtE t u es c).length ≤ es.length + cnt t := by
 have key : ∀ (N : Nat), (∀ (t u : Ty) (es : Es) (c : Nat), SizeOf.sizeOf t < N → okT t = true → MapI es c → MapI (mtT t u es c).es (mtT t u es c).c ∧ (mtT t u es c).es.length ≤ es.length + cnt t) ∧
   ∀ (l m : List Ty) (es : Es) (c : Nat), SizeOf.sizeOf l < N → okL l = true → MapI es c → MapI (mtL l m es c).es (mtL l m es c).c ∧ (mtL l m es c).es.length ≤ es.length + cntL l := by
  intro N
  induction N with
  | zero => exact ⟨fun _ _ _ _ h => by omega, fun _ _ _ _ h => by omega⟩
  | succ N ih =>
   obtain ⟨ih1, ih2⟩ := ih
   constructor
   ·intro t u es c ht ho hm
    obtain ⟨k, n, b, l⟩ := t
    simp only [Ty.mk.sizeOf_spec] at ht
    have hn := (ok_node ho).1
    simp only [NodeOk] at hn
    simp only [mtT, cnt]
    split
    ·rename_i h6
     split
     ·split
      ·exact ⟨hm.set _ _, by rw [setM_len]; omega⟩
      ·exact ⟨hm, by dsimp only; omega⟩
     ·rename_i hb
      exact ⟨hm.push hb (by omega) (by omega), by simp⟩
    split
    ·have := ih2 l u.l es c (by omega) (okL_of ho).2 hm
     exact ⟨this.1, by omega⟩
    ·exact ⟨hm, by simp⟩
   ·intro l m es c hl ho hm
    match l, m with
    | [], _ => simp only [mtL]; exact ⟨hm, by omega⟩
    | x :: xs, [] => simp only [mtL]; exact ⟨hm, by omega⟩
    | x :: xs, y :: ys =>
     simp only [List.cons.sizeOf_spec] at hl
     simp only [okL, Bool.and_eq_true] at ho
     simp only [mtL, cntL]
     have h1 := ih1 x y es c (by omega) ho.1 hm
     split
     ·have h2 := ih2 xs ys _ _ (by omega) ho.2 h1.1
      exact ⟨h2.1, by omega⟩
     ·exact ⟨h1.1, by simp only; omega⟩
 exact fun t u es c => (key (SizeOf.sizeOf t + 1)).1 t u es c (by omega)
theorem MapI.nil : MapI [] 0 := ⟨fun e h => by simp at h, fun e h => by simp at h, by simp, by simp⟩
def mtV (t u : Ty) : List (Int × Ty) := sortB ((mtE t u [] 0).map bndE)
def mtN (t u : Ty) : Int := if validB t = true ∧ validB u = true then (if mtB t u [] 0 = true then 0 else 15) else 1
def mtU (t u : Ty) : List (Int × Ty) := if mtN t u = 0 then mtV t u else []
end Kd
noncomputable section
namespace Go.Proofs.YtnmolpkkemljoaaGreatDoor
open Go Go.Am Kd
theorem list_hook {G : Gl} : HSpec.Ok Tryz.prog G 59 listH := by
 intro args A K h'
 unfold listH at h'
 split at h'
 ·split at h'
  ·rename_i b _ m c hb
   obtain ⟨es, rfl, ho, hK⟩ := h'
   rw [nthR_eq] at hb
   exact ⟨_, list_ok hb ho, hK⟩
  ·exact h'.elim
 ·exact h'.elim
def matchV (t u : Ty) : AV := .tup [.isl (nilB (mtU t u)) none 0 (encB (mtU t u)), .int .i64 (mtN t u)]
theorem nilB_sort (es : Es) : nilB (sortB (es.map bndE)) = nilB es := by
 simp only [nilB, (sortB_perm _).length_eq, List.length_map]
theorem match_ok (t u : Ty) (ht : cnt t ≤ 1000) (hu : cnt u ≤ 1000) : QJ 18 [enc t, enc u] (matchV t u) := by
 have hh : Hooks.Ok Tryz.prog g0 mtHk := mkHooks_ok (all_cons valid_hook all_nil) (all_cons mwalk_hook0 (all_cons list_hook all_nil)) all_nil
 refine QuietJ.ret (P := Tryz.prog) (G := g0) (f := 18) 5 (by simp [AV.stillL, enc_still]) (by simp [matchV, AV.still, AV.stillL, encB_still]) (FuncJ.run (el := els) (mu := mu0) (hk := mtHk) hmix hh (n := 60) ?_)
 rw [enc_D, enc_D]
 show runF mtHk 60 18 [encD t, encD u] AH.nil _
 rw [mt_top]
 simp only [eq_self, true_and, and_true, SubR_id, ex_encM, ex_enc, Ty.eta, ex_one]
 have bad : mtN t u ≠ 0 → ∀ e, mtN t u = e → AV.tup [AV.isl true none 0 [], AV.int IntKind.i64 e] = matchV t u := by
  intro h e he
  unfold matchV mtU
  rw [if_neg h, he]; rfl
 refine ⟨nn 0, ht, bothR_nbool (fun hv => ?_) fun hv => ⟨nn 1, hu, bothR_nbool (fun hw => ?_) fun hw => ?_⟩⟩
 ·have : mtN t u = 1 := by simp [mtN, hv]
  exact bad (by rw [this]; decide) 1 this
 ·have : mtN t u = 1 := by simp [mtN, hw]
  exact bad (by rw [this]; decide) 1 this
 have hvt := (valid_eq t).1 hv
 have hvu := (valid_eq u).1 hw
 refine ⟨[], rfl, ⟨hvt.2.2, hvu.2.2, fun x hx => by simp at hx, by omega⟩, rfl, bothR_bool (fun hb => ?_) fun hb => ?_⟩
 ·have hN : mtN t u = 0 := by simp [mtN, hv, hw, hb]
  obtain ⟨hI, hlen⟩ := mt_MapI t u [] 0 hvt.2.2 MapI.nil
  refine ⟨⟨fun e he => ⟨hI.key e he, hI.old e he⟩, hI.one, hI.two, by simp at hlen; omega⟩, ?_⟩
  unfold matchV mtU mtV
  rw [if_pos hN, nilB_sort, hN]
 ·have : mtN t u = 15 := by simp [mtN, hv, hw, hb]
  exact bad (by rw [this]; decide) 15 this
end Go.Proofs.YtnmolpkkemljoaaGreatDoor
end
end
section
namespace Kd
open Go.Am Go.Proofs.YtnmolpkkemljoaaGreatDoor
def okB1 (x : Int × Ty) : Bool := (decide (0 ≤ x.1) && decide (x.1 ≤ 999)) && validB x.2
def hasV (pre : List (Int × Ty)) (n : Int) : Bool := pre.any fun y => decide (y.1 = n)
def bindsG : List (Int × Ty) → List (Int × Ty) → Bool
 | _, [] => true
 | pre, x :: l => (okB1 x && !hasV pre x.1) && bindsG (pre ++ [x]) l
def bindsB (l : List (Int × Ty)) : Bool := bindsG [] l
def bindM : List (Int × Ty) → Nat → List (Int × Ty × Nat)
 | [], _ => []
 | x :: l, i => (x.1, x.2, i) :: bindM l (i + 1)
end Kd
noncomputable section
namespace Go.Proofs.YtnmolpkkemljoaaGreatDoor
open Go Go.Am Kd
end Go.Proofs.YtnmolpkkemljoaaGreatDoor
end
end
section
set_option maxRecDepth 100000
set_option linter.unusedSimpArgs false
set_option linter.unusedVariables false
namespace Kd
open Go.Am Go.Proofs.YtnmolpkkemljoaaGreatDoor
theorem bindM_mem : ∀ (l : List (Int × Ty)) (i : Nat), ∀ y ∈ bindM l i, ∃ x ∈ l, y.2.1 = x.2
 | [], _, y, h => by cases h
 | x :: l, i, y, h => by
  simp only [bindM, List.mem_cons] at h
  rcases h with rfl | h
  ·exact ⟨x, by simp, rfl⟩
  ·obtain ⟨z, h1, h2⟩ := bindM_mem l (i + 1) y h
   exact ⟨z, by simp [h1], h2⟩
def putT (l : List (Int × Ty)) (t : Ty) : Ty := if (validB t && bindsB l && validB (withT l t)) = true then withT l t else .mk 0 0 true []
def putE (l : List (Int × Ty)) (t : Ty) : Int := if (validB t && bindsB l) = true then (if validB (withT l t) = true then 0 else 9) else 1
end Kd
noncomputable section
namespace Go.Proofs.YtnmolpkkemljoaaGreatDoor
open Go Go.Am Kd
end Go.Proofs.YtnmolpkkemljoaaGreatDoor
end
end
section
noncomputable section
namespace Go.Proofs.YtnmolpkkemljoaaGreatDoor.closed
open Go Go.Am
def muC : Oper → Bool := fun o => o.dst == some 17 && o.type == 27 && (match o.op with | .call c => c.args.size == 2 | _ => false)
def puC (f : Nat) : Bool := (14 ≤ f && f ≤ 50 && f != 49) || [53,60,61,62,63,67,68,69,72,73,76,77,80,81,84,86,87,89,90,91,92,93,98,99,100,101,104,105,106,109,110,111,112,113,120,121,122,124,125,126,127,128,137,138,139,140,141,142].contains f
theorem c0 : PCall Tryz.prog g0 109 [.agg [.int .i64 1, .int .i64 0, .isl true none 0 []], .int .i64 12] [.returned (.int .i64 1)] := pRun_ok hmix (Orc.table_ok Orc.tabNil) (pu := puC) (mu := muC) (n := 1000) (by kernel_rfl)
def a0 : AV := .agg [.int .i64 0, .str [117, 110, 105, 116], .str [], .str [], .int .i64 0, .fn (.func 116) [] [], .int .i64 0, .str [105, 110, 116], .str [], .str [], .int .i64 1, .fn (.func 116) [] [], .int .i64 2, .str [40], .str [32, 42, 32], .str [41], .int .i64 0, .fn (.func 116) [] [], .int .i64 2, .str [40], .str [32, 43, 32], .str [41], .int .i64 1, .fn (.func 116) [] [], .int .i64 1, .str [91], .str [], .str [93], .int .i64 2, .fn (.func 117) [] [], .int .i64 2, .str [40], .str [32, 45, 62, 32], .str [41], .int .i64 0, .fn (.func 116) [] [], .int .i64 0, .str [39], .str [], .str [], .int .i64 0, .fn (.func 116) [] []]
theorem c1 : PCall Tryz.prog g0 81 [] [.returned a0] := pRun_ok hmix (Orc.table_ok Orc.tabNil) (pu := puC) (mu := muC) (n := 1000) (by kernel_rfl)
theorem c2 : PCall Tryz.prog g0 76 [.agg [.int .i64 1, .int .i64 0, .isl true none 0 []]] [.returned (.bool true)] := pRun_ok hmix (Orc.table_ok (Orc.tabCons c0 (Orc.tabCons c1 Orc.tabNil))) (pu := puC) (mu := muC) (n := 1000) (by kernel_rfl)
theorem c3 : PCall Tryz.prog g0 76 [.agg [.int .i64 0, .int .i64 0, .isl true none 0 []]] [.returned (.bool true)] := pRun_ok hmix (Orc.table_ok (Orc.tabCons c1 Orc.tabNil)) (pu := puC) (mu := muC) (n := 1000) (by kernel_rfl)
def a1 : AV := .agg [.int .i64 4, .int .i64 0, .isl false none 0 [.agg [.int .i64 6, .int .i64 1, .isl true none 0 []]]]
def a2 : AV := .isl false none 0 [.agg [.int .i64 6, .int .i64 0, .isl true none 0 []], a1]
theorem c4 : PCall Tryz.prog g0 109 [.agg [.int .i64 2, .int .i64 0, a2], .int .i64 12] [.returned (.int .i64 3)] := pRun_ok hmix (Orc.table_ok Orc.tabNil) (pu := puC) (mu := muC) (n := 1000) (by kernel_rfl)
theorem c5 : PCall Tryz.prog g0 76 [.agg [.int .i64 2, .int .i64 0, a2]] [.returned (.bool true)] := pRun_ok hmix (Orc.table_ok (Orc.tabCons c4 (Orc.tabCons c1 Orc.tabNil))) (pu := puC) (mu := muC) (n := 1000) (by kernel_rfl)
def a3 : AV := .isl false none 0 [.agg [.int .i64 1, .int .i64 0, .isl true none 0 []], .agg [.int .i64 0, .int .i64 0, .isl true none 0 []]]
theorem c6 : PCall Tryz.prog g0 109 [.agg [.int .i64 3, .int .i64 0, a3], .int .i64 11] [.returned (.int .i64 2)] := pRun_ok hmix (Orc.table_ok Orc.tabNil) (pu := puC) (mu := muC) (n := 1000) (by kernel_rfl)
def a4 : AV := .agg [.int .i64 4, .int .i64 0, .isl false none 0 [.agg [.int .i64 1, .int .i64 0, .isl true none 0 []]]]
theorem c7 : PCall Tryz.prog g0 109 [.agg [.int .i64 4, .int .i64 0, .isl false none 0 [a4]], .int .i64 11] [.returned (.int .i64 3)] := pRun_ok hmix (Orc.table_ok Orc.tabNil) (pu := puC) (mu := muC) (n := 1000) (by kernel_rfl)
def a5 : AV := .isl false none 0 [.agg [.int .i64 3, .int .i64 0, a3], .agg [.int .i64 4, .int .i64 0, .isl false none 0 [a4]]]
theorem c8 : PCall Tryz.prog g0 76 [.agg [.int .i64 2, .int .i64 0, a5]] [.returned (.bool true)] := pRun_ok hmix (Orc.table_ok (Orc.tabCons c6 (Orc.tabCons c7 (Orc.tabCons c1 Orc.tabNil)))) (pu := puC) (mu := muC) (n := 1000) (by kernel_rfl)
def a6 : AV := .isl false none 0 [.agg [.int .i64 6, .int .i64 2, .isl true none 0 []], .agg [.int .i64 6, .int .i64 5, .isl true none 0 []]]
def a7 : AV := .isl false none 0 [.agg [.int .i64 6, .int .i64 5, .isl true none 0 []], .agg [.int .i64 5, .int .i64 0, a6]]
theorem c10 : PCall Tryz.prog g0 68 [.agg [.int .i64 6, .int .i64 2, .isl true none 0 []]] [.returned (.agg [.int .i64 6, .int .i64 2, .isl true none 0 []])] := pRun_ok hmix (Orc.table_ok Orc.tabNil) (pu := puC) (mu := muC) (n := 1000) (by kernel_rfl)
theorem c11 : PCall Tryz.prog g0 68 [.agg [.int .i64 6, .int .i64 0, .isl true none 0 []]] [.returned (.agg [.int .i64 6, .int .i64 0, .isl true none 0 []])] := pRun_ok hmix (Orc.table_ok Orc.tabNil) (pu := puC) (mu := muC) (n := 1000) (by kernel_rfl)
theorem c12 : PCall Tryz.prog g0 68 [.agg [.int .i64 6, .int .i64 1, .isl true none 0 []]] [.returned (.agg [.int .i64 6, .int .i64 1, .isl true none 0 []])] := pRun_ok hmix (Orc.table_ok Orc.tabNil) (pu := puC) (mu := muC) (n := 1000) (by kernel_rfl)
def a8 : AV := .isl false none 0 [.agg [.int .i64 6, .int .i64 1, .isl true none 0 []], .agg [.int .i64 6, .int .i64 0, .isl true none 0 []]]
def a9 : AV := .isl false none 0 [.agg [.int .i64 6, .int .i64 0, .isl true none 0 []], .agg [.int .i64 5, .int .i64 0, a8]]
def a11 : AV := .isl false none 0 [.agg [.int .i64 6, .int .i64 0, .isl true none 0 []], .agg [.int .i64 6, .int .i64 1, .isl true none 0 []]]
theorem c14 : PCall Tryz.prog g0 76 [.agg [.int .i64 2, .int .i64 0, a11]] [.returned (.bool true)] := pRun_ok hmix (Orc.table_ok (Orc.tabCons c1 Orc.tabNil)) (pu := puC) (mu := muC) (n := 1000) (by kernel_rfl)
def a12 : AV := .agg [.int .i64 4, .int .i64 0, .isl false none 0 [.agg [.int .i64 6, .int .i64 0, .isl true none 0 []]]]
theorem c15 : PCall Tryz.prog g0 76 [a12] [.returned (.bool true)] := pRun_ok hmix (Orc.table_ok (Orc.tabCons c1 Orc.tabNil)) (pu := puC) (mu := muC) (n := 1000) (by kernel_rfl)
theorem c16 : PCall Tryz.prog g0 68 [.agg [.int .i64 4, .int .i64 0, .isl true none 0 []]] [.returned (.agg [.int .i64 4, .int .i64 0, .isl true none 0 []])] := pRun_ok hmix (Orc.table_ok Orc.tabNil) (pu := puC) (mu := muC) (n := 1000) (by kernel_rfl)
theorem c17 : PCall Tryz.prog g0 138 [.int .u64 2] [.returned (.int .i64 2)] := pRun_ok hmix (Orc.table_ok Orc.tabNil) (pu := puC) (mu := muC) (n := 1000) (by kernel_rfl)
theorem c18 : PCall Tryz.prog g0 124 [.int .u64 2] [.returned (.int .i64 2)] := pRun_ok hmix (Orc.table_ok (Orc.tabCons c17 Orc.tabNil)) (pu := puC) (mu := muC) (n := 1000) (by kernel_rfl)
def a13 : AV := .agg [.int .i64 4, .int .i64 0, .isl false none 0 [.agg [.int .i64 6, .int .i64 2, .isl true none 0 []]]]
def a14 : AV := .isl false none 0 [a13, .agg [.int .i64 6, .int .i64 3, .isl true none 0 []]]
def a15 : AV := .agg [.int .i64 0, .int .i64 4, .int .i64 0, .isl false none 0 [.agg [.int .i64 6, .int .i64 2, .isl true none 0 []]]]
def a16 : AV := .agg [.int .i64 3, .int .i64 4, .int .i64 0, .isl false none 0 [.agg [.int .i64 6, .int .i64 1, .isl true none 0 []]]]
theorem c19 : PCall Tryz.prog g0 16 [.agg [.int .i64 2, .int .i64 0, a2], .agg [.int .i64 2, .int .i64 0, a14]] [.returned (.tup [.isl false none 0 [a15, a16], .int .i64 0])] := pRun_ok hmix (Orc.table_ok (Orc.tabCons c5 (Orc.tabCons c1 (Orc.tabCons c16 (Orc.tabCons c10 (Orc.tabCons c12 (Orc.tabCons c18 Orc.tabNil))))))) (pu := puC) (mu := muC) (n := 1000) (by kernel_rfl)
def a17 : AV := .isl false none 0 [.agg [.int .i64 6, .int .i64 1, .isl true none 0 []], .agg [.int .i64 6, .int .i64 2, .isl true none 0 []]]
def a18 : AV := .isl false none 0 [.agg [.int .i64 1, .int .i64 6, .int .i64 0, .isl true none 0 []], .agg [.int .i64 2, .int .i64 6, .int .i64 0, .isl true none 0 []]]
theorem c20 : PCall Tryz.prog g0 16 [.agg [.int .i64 2, .int .i64 0, a11], .agg [.int .i64 2, .int .i64 0, a17]] [.returned (.tup [a18, .int .i64 0])] := pRun_ok hmix (Orc.table_ok (Orc.tabCons c14 (Orc.tabCons c1 (Orc.tabCons c11 (Orc.tabCons c18 Orc.tabNil))))) (pu := puC) (mu := muC) (n := 1000) (by kernel_rfl)
def a19 : AV := .isl false none 0 [.agg [.int .i64 1, .int .i64 0, .isl true none 0 []], a4]
def a20 : AV := .agg [.int .i64 4, .int .i64 0, .isl false none 0 [.agg [.int .i64 0, .int .i64 0, .isl true none 0 []]]]
def a21 : AV := .isl false none 0 [.agg [.int .i64 0, .int .i64 0, .isl true none 0 []], a20]
def a22 : AV := .isl false none 0 [.agg [.int .i64 2, .int .i64 0, a19], .agg [.int .i64 2, .int .i64 0, a21]]
theorem c21 : PCall Tryz.prog g0 53 [a22] [.returned (.tup [])] := pRun_ok hmix (Orc.table_ok (Orc.tabCons c1 Orc.tabNil)) (pu := puC) (mu := muC) (n := 1000) (by kernel_rfl)
def a23 : AV := .str [40, 39, 48, 32, 42, 32, 91, 39, 49, 93, 41]
def a24 : AV := .tup [.agg [.int .i64 2, .int .i64 0, a2], .int .i64 0]
theorem c22 : PCall Tryz.prog g0 24 [a23] [.returned a24] := pRun_ok hmix (Orc.table_ok (Orc.tabCons c1 (Orc.tabCons c5 Orc.tabNil))) (pu := puC) (mu := muC) (n := 1000) (by kernel_rfl)
theorem c23 : PCall Tryz.prog g0 76 [.agg [.int .i64 3, .int .i64 0, a3]] [.returned (.bool true)] := pRun_ok hmix (Orc.table_ok (Orc.tabCons c1 Orc.tabNil)) (pu := puC) (mu := muC) (n := 1000) (by kernel_rfl)
theorem c24 : PCall Tryz.prog g0 28 [.agg [.int .i64 3, .int .i64 0, a3]] [.returned (.bool true)] := pRun_ok hmix (Orc.table_ok (Orc.tabCons c23 Orc.tabNil)) (pu := puC) (mu := muC) (n := 1000) (by kernel_rfl)
theorem c25 : PCall Tryz.prog g0 28 [.agg [.int .i64 1, .int .i64 0, .isl true none 0 []]] [.returned (.bool true)] := pRun_ok hmix (Orc.table_ok (Orc.tabCons c2 Orc.tabNil)) (pu := puC) (mu := muC) (n := 1000) (by kernel_rfl)
theorem c26 : PCall Tryz.prog g0 30 [.agg [.int .i64 1, .int .i64 0, .isl true none 0 []]] [.returned (.int .i64 1)] := pRun_ok hmix (Orc.table_ok (Orc.tabCons c25 (Orc.tabCons c1 Orc.tabNil))) (pu := puC) (mu := muC) (n := 1000) (by kernel_rfl)
theorem c27 : PCall Tryz.prog g0 31 [.agg [.int .i64 1, .int .i64 0, .isl true none 0 []]] [.returned (.int .i64 0)] := pRun_ok hmix (Orc.table_ok (Orc.tabCons c25 (Orc.tabCons c1 Orc.tabNil))) (pu := puC) (mu := muC) (n := 1000) (by kernel_rfl)
theorem c28 : PCall Tryz.prog g0 31 [.agg [.int .i64 0, .int .i64 0, .isl true none 0 []]] [.returned (.int .i64 0)] := pRun_ok hmix (Orc.table_ok (Orc.tabCons c3 (Orc.tabCons c1 Orc.tabNil))) (pu := puC) (mu := muC) (n := 1000) (by kernel_rfl)
theorem c29 : PCall Tryz.prog g0 76 [.agg [.int .i64 4, .int .i64 0, .isl false none 0 [a4]]] [.returned (.bool true)] := pRun_ok hmix (Orc.table_ok (Orc.tabCons c1 Orc.tabNil)) (pu := puC) (mu := muC) (n := 1000) (by kernel_rfl)
theorem c30 : PCall Tryz.prog g0 28 [.agg [.int .i64 4, .int .i64 0, .isl false none 0 [a4]]] [.returned (.bool true)] := pRun_ok hmix (Orc.table_ok (Orc.tabCons c29 Orc.tabNil)) (pu := puC) (mu := muC) (n := 1000) (by kernel_rfl)
theorem c31 : PCall Tryz.prog g0 109 [a4, .int .i64 12] [.returned (.int .i64 2)] := pRun_ok hmix (Orc.table_ok Orc.tabNil) (pu := puC) (mu := muC) (n := 1000) (by kernel_rfl)
theorem c32 : PCall Tryz.prog g0 76 [a4] [.returned (.bool true)] := pRun_ok hmix (Orc.table_ok (Orc.tabCons c31 (Orc.tabCons c1 Orc.tabNil))) (pu := puC) (mu := muC) (n := 1000) (by kernel_rfl)
theorem c33 : PCall Tryz.prog g0 28 [a4] [.returned (.bool true)] := pRun_ok hmix (Orc.table_ok (Orc.tabCons c32 Orc.tabNil)) (pu := puC) (mu := muC) (n := 1000) (by kernel_rfl)
theorem c34 : PCall Tryz.prog g0 15 [] [.returned (.bool true)] := pRun_ok hmix (Orc.table_ok (Orc.tabCons c19 (Orc.tabCons c20 (Orc.tabCons c1 (Orc.tabCons c15 (Orc.tabCons c5 (Orc.tabCons c8 (Orc.tabCons c18 (Orc.tabCons c21 (Orc.tabCons c22 (Orc.tabCons c24 (Orc.tabCons c26 (Orc.tabCons c27 (Orc.tabCons c3 (Orc.tabCons c28 (Orc.tabCons c30 (Orc.tabCons c33 Orc.tabNil))))))))))))))))) (pu := puC) (mu := muC) (n := 1000) (by kernel_rfl)
theorem alive_ok : QJ 15 [] (.bool true) := QuietJ.ofCall rfl c34
def aliveQ : QSpec
 | [], K => K (.bool true)
 | _, _ => False
theorem alive_hook : QSpec.Ok Tryz.prog g0 15 aliveQ := by
 intro args K h'
 unfold aliveQ at h'
 split at h'
 ·exact ⟨_, alive_ok, h'⟩
 ·exact h'.elim
end Go.Proofs.YtnmolpkkemljoaaGreatDoor.closed
end
end
section
namespace Kd
open Go.Am Go.Proofs.YtnmolpkkemljoaaGreatDoor
def vlF (t : Ty) : List Int := if validB t = true then varsL t else []
def errF (t : Ty) : Int := if validB t = true then 0 else 1
def numF (t : Ty) : Ty := if validB t = true then numT t else .mk 0 0 true []
end Kd
noncomputable section
namespace Go.Proofs.YtnmolpkkemljoaaGreatDoor
open Go Go.Am Kd
def tyQ (r : Ty → AV) : QSpec
 | [t], K => argTy t fun t => (cnt t ≤ 1000) ∧ K (r t)
 | _, _ => False
def knQ : QSpec := tyQ fun t => .tup [encD (numF t), .int .i64 (errF t)]
def ckQ : QSpec := tyQ fun t => .int .i64 (checkN t)
def smeQ : QSpec
 | [t, u], K => argTy t fun t => argTy u fun u => (cnt t ≤ 1000 ∧ cnt u ≤ 1000) ∧ K (.bool (sameB t u))
 | _, _ => False
end Go.Proofs.YtnmolpkkemljoaaGreatDoor
end
end
section
set_option maxRecDepth 100000
noncomputable section
namespace Go.Proofs.YtnmolpkkemljoaaGreatDoor
open Go Go.Am Kd
theorem tyQ_ok {G : Gl} {f : FuncId} {r : Ty → AV} (h : ∀ t, cnt t ≤ 1000 → QuietJ Tryz.prog G f [enc t] (r t)) : QSpec.Ok Tryz.prog G f (tyQ r) := by
 intro args K h'
 unfold tyQ at h'
 split at h'
 ·obtain ⟨t, rfl, h1, h2⟩ := argTy_elim h'
  exact ⟨_, h t h1, h2⟩
 ·exact h'.elim
theorem kn_hook : QSpec.Ok Tryz.prog gT 38 knQ := tyQ_ok fun t hc => by
 have h := knum_ok t hc
 unfold numF errF
 by_cases hv : validB t = true
 ·simp only [if_pos hv] at h ⊢; exact h.lift
 ·simp only [if_neg hv] at h ⊢; exact h.lift
theorem sme_hook : QSpec.Ok Tryz.prog gT 23 smeQ := by
 intro args K h'
 unfold smeQ at h'
 split at h'
 ·obtain ⟨t, rfl, h2⟩ := argTy_elim h'
  obtain ⟨u, rfl, h3, h4⟩ := argTy_elim h2
  exact ⟨_, (same_ok t u h3.1 h3.2).lift, h4⟩
 ·exact h'.elim
end Go.Proofs.YtnmolpkkemljoaaGreatDoor
end
end
section
noncomputable section
namespace Go.Proofs.YtnmolpkkemljoaaGreatDoor
open Go Go.Am Kd
def mmQ : QSpec
 | [t, u], K => argTy t fun t => argTy u fun u => (cnt t ≤ 1000 ∧ cnt u ≤ 1000) ∧ K (.tup [.isl (nilB (mtU t u)) none 0 (encB (mtU t u)), .int .i64 (mtN t u)])
 | _, _ => False
def ccQ : QSpec
 | [t, u], K => argTy t fun t => argTy u fun u => (cnt t ≤ 1000 ∧ cnt u ≤ 1000) ∧ K (.tup [encD (cmV t u), .int .i64 (cmN t u)])
 | _, _ => False
end Go.Proofs.YtnmolpkkemljoaaGreatDoor
end
end
section
noncomputable section
namespace Go.Proofs.YtnmolpkkemljoaaGreatDoor
open Go Go.Am Kd
def leastQs : List (Nat × QSpec) := [(14, weakQ 3 great3Q), (15, closed.aliveQ), (27, ckQ), (38, knQ), (18, mmQ), (20, ccQ), (23, smeQ)]
def leastHk : Hooks := hooks leastQs [] []
end Go.Proofs.YtnmolpkkemljoaaGreatDoor
end
end
section
noncomputable section
namespace Go.Proofs.YtnmolpkkemljoaaGreatDoor
open Go Go.Am Kd Go.Am.AV Go.IntKind
set_option maxRecDepth 100000
theorem least_top (t u w : Ty) : (runT leastHk 120 10 [encD t, encD u, encD w] AH.nil (retIs Tryz.prog 5 (.bool true))) = ( ∃ l, encL (Ty.l t) = encL l ∧ ∃ l_1, encL (Ty.l u) = encL l_1 ∧ ∃ l_2, encL (Ty.l w) = encL l_2 ∧ bothR (greatB (Ty.mk (Ty.kind t) (Ty.n t) (Ty.nl t) l) || greatB (Ty.mk (Ty.kind u) (Ty.n u) (Ty.nl u) l_1) || greatB (Ty.mk (Ty.kind w) (Ty.n w) (Ty.nl w) l_2)) (bool true = bool true) (∃ l, encL (Ty.l t) = encL l ∧ ∃ l_3, encL (Ty.l u) = encL l_3 ∧ (cnt (Ty.mk (Ty.kind t) (Ty.n t) (Ty.nl t) l) ≤ 1000 ∧ cnt (Ty.mk (Ty.kind u) (Ty.n u) (Ty.nl u) l_3) ≤ 1000) ∧ ∃ l_4,
 encL (Ty.l t) = encL l_4 ∧ ∃ l_5, encL (Ty.l t) = encL l_5 ∧ (cnt (Ty.mk (Ty.kind t) (Ty.n t) (Ty.nl t) l_4) ≤ 1000 ∧ cnt (Ty.mk (Ty.kind t) (Ty.n t) (Ty.nl t) l_5) ≤ 1000) ∧ ∃ l_6, encL (Ty.l t) = encL l_6 ∧ cnt (Ty.mk (Ty.kind t) (Ty.n t) (Ty.nl t) l_6) ≤ 1000 ∧ ∃ l_7, encL (Ty.l t) = encL l_7 ∧ cnt (Ty.mk (Ty.kind t) (Ty.n t) (Ty.nl t) l_7) ≤ 1000 ∧ bothR (!decide (checkN (Ty.mk (Ty.kind t) (Ty.n t) (Ty.nl t) l_7) = (0 : Int))) (bothR (decide (cmN (Ty.mk (Ty.kind t) (Ty.n t) (Ty.nl t) l) (Ty.mk (Ty.kind u) (Ty.n u) (Ty.nl u) l_3) = (1 : Int)))
 (bool true = bool true) (bool false = bool true)) (∃ l_8, encL (Ty.l u) = encL l_8 ∧ cnt (Ty.mk (Ty.kind u) (Ty.n u) (Ty.nl u) l_8) ≤ 1000 ∧ bothR (!decide (checkN (Ty.mk (Ty.kind u) (Ty.n u) (Ty.nl u) l_8) = (0 : Int))) (bothR (decide (cmN (Ty.mk (Ty.kind t) (Ty.n t) (Ty.nl t) l) (Ty.mk (Ty.kind u) (Ty.n u) (Ty.nl u) l_3) = (1 : Int))) (bool true = bool true) (bool false = bool true)) (∃ l_9, encL (Ty.l (cmV (Ty.mk (Ty.kind t) (Ty.n t) (Ty.nl t) l) (Ty.mk (Ty.kind u) (Ty.n u) (Ty.nl u) l_3))) = encL l_9 ∧ ∃ l_10, encL (Ty.l t) = encL l_10 ∧ (cnt
 (Ty.mk (Ty.kind (cmV (Ty.mk (Ty.kind t) (Ty.n t) (Ty.nl t) l) (Ty.mk (Ty.kind u) (Ty.n u) (Ty.nl u) l_3))) (Ty.n (cmV (Ty.mk (Ty.kind t) (Ty.n t) (Ty.nl t) l) (Ty.mk (Ty.kind u) (Ty.n u) (Ty.nl u) l_3))) (Ty.nl (cmV (Ty.mk (Ty.kind t) (Ty.n t) (Ty.nl t) l) (Ty.mk (Ty.kind u) (Ty.n u) (Ty.nl u) l_3))) l_9) ≤ 1000 ∧ cnt (Ty.mk (Ty.kind t) (Ty.n t) (Ty.nl t) l_10) ≤ 1000) ∧ ∃ l_11, encL (Ty.l (cmV (Ty.mk (Ty.kind t) (Ty.n t) (Ty.nl t) l) (Ty.mk (Ty.kind u) (Ty.n u) (Ty.nl u) l_3))) = encL l_11 ∧ ∃ l_12, encL (Ty.l u) = encL l_12 ∧ (cnt (Ty.mk (Ty.kind
 (cmV (Ty.mk (Ty.kind t) (Ty.n t) (Ty.nl t) l) (Ty.mk (Ty.kind u) (Ty.n u) (Ty.nl u) l_3))) (Ty.n (cmV (Ty.mk (Ty.kind t) (Ty.n t) (Ty.nl t) l) (Ty.mk (Ty.kind u) (Ty.n u) (Ty.nl u) l_3))) (Ty.nl (cmV (Ty.mk (Ty.kind t) (Ty.n t) (Ty.nl t) l) (Ty.mk (Ty.kind u) (Ty.n u) (Ty.nl u) l_3))) l_11) ≤ 1000 ∧ cnt (Ty.mk (Ty.kind u) (Ty.n u) (Ty.nl u) l_12) ≤ 1000) ∧ ∃ l_13, encL (Ty.l (cmV (Ty.mk (Ty.kind t) (Ty.n t) (Ty.nl t) l) (Ty.mk (Ty.kind u) (Ty.n u) (Ty.nl u) l_3))) = encL l_13 ∧ cnt (Ty.mk (Ty.kind (cmV (Ty.mk (Ty.kind t) (Ty.n t) (Ty.nl t) l) (Ty.mk (Ty.kind u) (Ty.n u) (Ty.nl u) l_3))) (Ty.n
 (cmV (Ty.mk (Ty.kind t) (Ty.n t) (Ty.nl t) l) (Ty.mk (Ty.kind u) (Ty.n u) (Ty.nl u) l_3))) (Ty.nl (cmV (Ty.mk (Ty.kind t) (Ty.n t) (Ty.nl t) l) (Ty.mk (Ty.kind u) (Ty.n u) (Ty.nl u) l_3))) l_13) ≤ 1000 ∧ bothR (!decide (cmN (Ty.mk (Ty.kind t) (Ty.n t) (Ty.nl t) l) (Ty.mk (Ty.kind u) (Ty.n u) (Ty.nl u) l_3) = (0 : Int))) (bool false = bool true) (bothR (!decide (cmN (Ty.mk (Ty.kind t) (Ty.n t) (Ty.nl t) l_4) (Ty.mk (Ty.kind t) (Ty.n t) (Ty.nl t) l_5) = (0 : Int))) (bool false = bool true) (bothR (!decide (errF (Ty.mk (Ty.kind t) (Ty.n t) (Ty.nl t) l_6) = (0 : Int)))
 (bool false = bool true) (bothR (!decide (mtN (Ty.mk (Ty.kind (cmV (Ty.mk (Ty.kind t) (Ty.n t) (Ty.nl t) l) (Ty.mk (Ty.kind u) (Ty.n u) (Ty.nl u) l_3))) (Ty.n (cmV (Ty.mk (Ty.kind t) (Ty.n t) (Ty.nl t) l) (Ty.mk (Ty.kind u) (Ty.n u) (Ty.nl u) l_3))) (Ty.nl (cmV (Ty.mk (Ty.kind t) (Ty.n t) (Ty.nl t) l) (Ty.mk (Ty.kind u) (Ty.n u) (Ty.nl u) l_3))) l_9) (Ty.mk (Ty.kind t) (Ty.n t) (Ty.nl t) l_10) = (0 : Int))) (bool false = bool true) (bothR (!decide (mtN (Ty.mk (Ty.kind (cmV (Ty.mk (Ty.kind t) (Ty.n t) (Ty.nl t) l) (Ty.mk (Ty.kind u) (Ty.n u) (Ty.nl u) l_3))) (Ty.n
 (cmV (Ty.mk (Ty.kind t) (Ty.n t) (Ty.nl t) l) (Ty.mk (Ty.kind u) (Ty.n u) (Ty.nl u) l_3))) (Ty.nl (cmV (Ty.mk (Ty.kind t) (Ty.n t) (Ty.nl t) l) (Ty.mk (Ty.kind u) (Ty.n u) (Ty.nl u) l_3))) l_11) (Ty.mk (Ty.kind u) (Ty.n u) (Ty.nl u) l_12) = (0 : Int))) (bool false = bool true) (bothR (!decide (errF (Ty.mk (Ty.kind (cmV (Ty.mk (Ty.kind t) (Ty.n t) (Ty.nl t) l) (Ty.mk (Ty.kind u) (Ty.n u) (Ty.nl u) l_3))) (Ty.n (cmV (Ty.mk (Ty.kind t) (Ty.n t) (Ty.nl t) l) (Ty.mk (Ty.kind u) (Ty.n u) (Ty.nl u) l_3))) (Ty.nl (cmV (Ty.mk (Ty.kind t) (Ty.n t) (Ty.nl t) l)
 (Ty.mk (Ty.kind u) (Ty.n u) (Ty.nl u) l_3))) l_13) = (0 : Int))) (bool false = bool true) (∃ l_14, encL (Ty.l (cmV (Ty.mk (Ty.kind t) (Ty.n t) (Ty.nl t) l_4) (Ty.mk (Ty.kind t) (Ty.n t) (Ty.nl t) l_5))) = encL l_14 ∧ ∃ l_15, encL (Ty.l (numF (Ty.mk (Ty.kind t) (Ty.n t) (Ty.nl t) l_6))) = encL l_15 ∧ (cnt (Ty.mk (Ty.kind (cmV (Ty.mk (Ty.kind t) (Ty.n t) (Ty.nl t) l_4) (Ty.mk (Ty.kind t) (Ty.n t) (Ty.nl t) l_5))) (Ty.n (cmV (Ty.mk (Ty.kind t) (Ty.n t) (Ty.nl t) l_4) (Ty.mk (Ty.kind t) (Ty.n t) (Ty.nl t) l_5))) (Ty.nl (cmV (Ty.mk (Ty.kind t) (Ty.n t) (Ty.nl t) l_4)
 (Ty.mk (Ty.kind t) (Ty.n t) (Ty.nl t) l_5))) l_14) ≤ 1000 ∧ cnt (Ty.mk (Ty.kind (numF (Ty.mk (Ty.kind t) (Ty.n t) (Ty.nl t) l_6))) (Ty.n (numF (Ty.mk (Ty.kind t) (Ty.n t) (Ty.nl t) l_6))) (Ty.nl (numF (Ty.mk (Ty.kind t) (Ty.n t) (Ty.nl t) l_6))) l_15) ≤ 1000) ∧ bothR (!sameB (Ty.mk (Ty.kind (cmV (Ty.mk (Ty.kind t) (Ty.n t) (Ty.nl t) l_4) (Ty.mk (Ty.kind t) (Ty.n t) (Ty.nl t) l_5))) (Ty.n (cmV (Ty.mk (Ty.kind t) (Ty.n t) (Ty.nl t) l_4) (Ty.mk (Ty.kind t) (Ty.n t) (Ty.nl t) l_5))) (Ty.nl (cmV (Ty.mk (Ty.kind t) (Ty.n t) (Ty.nl t) l_4) (Ty.mk (Ty.kind t) (Ty.n t) (Ty.nl t) l_5))) l_14)
 (Ty.mk (Ty.kind (numF (Ty.mk (Ty.kind t) (Ty.n t) (Ty.nl t) l_6))) (Ty.n (numF (Ty.mk (Ty.kind t) (Ty.n t) (Ty.nl t) l_6))) (Ty.nl (numF (Ty.mk (Ty.kind t) (Ty.n t) (Ty.nl t) l_6))) l_15)) (bool false = bool true) (∃ l_16, encL (Ty.l (numF (Ty.mk (Ty.kind (cmV (Ty.mk (Ty.kind t) (Ty.n t) (Ty.nl t) l) (Ty.mk (Ty.kind u) (Ty.n u) (Ty.nl u) l_3))) (Ty.n (cmV (Ty.mk (Ty.kind t) (Ty.n t) (Ty.nl t) l) (Ty.mk (Ty.kind u) (Ty.n u) (Ty.nl u) l_3))) (Ty.nl (cmV (Ty.mk (Ty.kind t) (Ty.n t) (Ty.nl t) l) (Ty.mk (Ty.kind u) (Ty.n u) (Ty.nl u) l_3))) l_13))) = encL l_16 ∧ ∃ l_17, encL (Ty.l
 (cmV (Ty.mk (Ty.kind t) (Ty.n t) (Ty.nl t) l) (Ty.mk (Ty.kind u) (Ty.n u) (Ty.nl u) l_3))) = encL l_17 ∧ (cnt (Ty.mk (Ty.kind (numF (Ty.mk (Ty.kind (cmV (Ty.mk (Ty.kind t) (Ty.n t) (Ty.nl t) l) (Ty.mk (Ty.kind u) (Ty.n u) (Ty.nl u) l_3))) (Ty.n (cmV (Ty.mk (Ty.kind t) (Ty.n t) (Ty.nl t) l) (Ty.mk (Ty.kind u) (Ty.n u) (Ty.nl u) l_3))) (Ty.nl (cmV (Ty.mk (Ty.kind t) (Ty.n t) (Ty.nl t) l) (Ty.mk (Ty.kind u) (Ty.n u) (Ty.nl u) l_3))) l_13))) (Ty.n (numF (Ty.mk (Ty.kind (cmV (Ty.mk (Ty.kind t) (Ty.n t) (Ty.nl t) l) (Ty.mk (Ty.kind u) (Ty.n u) (Ty.nl u) l_3))) (Ty.n
 (cmV (Ty.mk (Ty.kind t) (Ty.n t) (Ty.nl t) l) (Ty.mk (Ty.kind u) (Ty.n u) (Ty.nl u) l_3))) (Ty.nl (cmV (Ty.mk (Ty.kind t) (Ty.n t) (Ty.nl t) l) (Ty.mk (Ty.kind u) (Ty.n u) (Ty.nl u) l_3))) l_13))) (Ty.nl (numF (Ty.mk (Ty.kind (cmV (Ty.mk (Ty.kind t) (Ty.n t) (Ty.nl t) l) (Ty.mk (Ty.kind u) (Ty.n u) (Ty.nl u) l_3))) (Ty.n (cmV (Ty.mk (Ty.kind t) (Ty.n t) (Ty.nl t) l) (Ty.mk (Ty.kind u) (Ty.n u) (Ty.nl u) l_3))) (Ty.nl (cmV (Ty.mk (Ty.kind t) (Ty.n t) (Ty.nl t) l) (Ty.mk (Ty.kind u) (Ty.n u) (Ty.nl u) l_3))) l_13))) l_16) ≤ 1000 ∧ cnt (Ty.mk (Ty.kind
 (cmV (Ty.mk (Ty.kind t) (Ty.n t) (Ty.nl t) l) (Ty.mk (Ty.kind u) (Ty.n u) (Ty.nl u) l_3))) (Ty.n (cmV (Ty.mk (Ty.kind t) (Ty.n t) (Ty.nl t) l) (Ty.mk (Ty.kind u) (Ty.n u) (Ty.nl u) l_3))) (Ty.nl (cmV (Ty.mk (Ty.kind t) (Ty.n t) (Ty.nl t) l) (Ty.mk (Ty.kind u) (Ty.n u) (Ty.nl u) l_3))) l_17) ≤ 1000) ∧ bothR (!sameB (Ty.mk (Ty.kind (numF (Ty.mk (Ty.kind (cmV (Ty.mk (Ty.kind t) (Ty.n t) (Ty.nl t) l) (Ty.mk (Ty.kind u) (Ty.n u) (Ty.nl u) l_3))) (Ty.n (cmV (Ty.mk (Ty.kind t) (Ty.n t) (Ty.nl t) l) (Ty.mk (Ty.kind u) (Ty.n u) (Ty.nl u) l_3))) (Ty.nl (cmV (Ty.mk (Ty.kind t) (Ty.n t) (Ty.nl t) l)
 (Ty.mk (Ty.kind u) (Ty.n u) (Ty.nl u) l_3))) l_13))) (Ty.n (numF (Ty.mk (Ty.kind (cmV (Ty.mk (Ty.kind t) (Ty.n t) (Ty.nl t) l) (Ty.mk (Ty.kind u) (Ty.n u) (Ty.nl u) l_3))) (Ty.n (cmV (Ty.mk (Ty.kind t) (Ty.n t) (Ty.nl t) l) (Ty.mk (Ty.kind u) (Ty.n u) (Ty.nl u) l_3))) (Ty.nl (cmV (Ty.mk (Ty.kind t) (Ty.n t) (Ty.nl t) l) (Ty.mk (Ty.kind u) (Ty.n u) (Ty.nl u) l_3))) l_13))) (Ty.nl (numF (Ty.mk (Ty.kind (cmV (Ty.mk (Ty.kind t) (Ty.n t) (Ty.nl t) l) (Ty.mk (Ty.kind u) (Ty.n u) (Ty.nl u) l_3))) (Ty.n (cmV (Ty.mk (Ty.kind t) (Ty.n t) (Ty.nl t) l) (Ty.mk (Ty.kind u) (Ty.n u) (Ty.nl u) l_3))) (Ty.nl
 (cmV (Ty.mk (Ty.kind t) (Ty.n t) (Ty.nl t) l) (Ty.mk (Ty.kind u) (Ty.n u) (Ty.nl u) l_3))) l_13))) l_16) (Ty.mk (Ty.kind (cmV (Ty.mk (Ty.kind t) (Ty.n t) (Ty.nl t) l) (Ty.mk (Ty.kind u) (Ty.n u) (Ty.nl u) l_3))) (Ty.n (cmV (Ty.mk (Ty.kind t) (Ty.n t) (Ty.nl t) l) (Ty.mk (Ty.kind u) (Ty.n u) (Ty.nl u) l_3))) (Ty.nl (cmV (Ty.mk (Ty.kind t) (Ty.n t) (Ty.nl t) l) (Ty.mk (Ty.kind u) (Ty.n u) (Ty.nl u) l_3))) l_17)) (bool false = bool true) (∃ l_18, encL (Ty.l w) = encL l_18 ∧ ∃ l_19, encL (Ty.l t) = encL l_19 ∧ (cnt (Ty.mk (Ty.kind w) (Ty.n w) (Ty.nl w) l_18) ≤ 1000 ∧
 cnt (Ty.mk (Ty.kind t) (Ty.n t) (Ty.nl t) l_19) ≤ 1000) ∧ ∃ l_20, encL (Ty.l w) = encL l_20 ∧ ∃ l_21, encL (Ty.l u) = encL l_21 ∧ (cnt (Ty.mk (Ty.kind w) (Ty.n w) (Ty.nl w) l_20) ≤ 1000 ∧ cnt (Ty.mk (Ty.kind u) (Ty.n u) (Ty.nl u) l_21) ≤ 1000) ∧ bothR (!decide (mtN (Ty.mk (Ty.kind w) (Ty.n w) (Ty.nl w) l_18) (Ty.mk (Ty.kind t) (Ty.n t) (Ty.nl t) l_19) = (0 : Int))) (bool true = bool true) (bothR (!decide (mtN (Ty.mk (Ty.kind w) (Ty.n w) (Ty.nl w) l_20) (Ty.mk (Ty.kind u) (Ty.n u) (Ty.nl u) l_21) = (0 : Int))) (bool true = bool true) (∃ l_22, encL (Ty.l w) = encL l_22 ∧ ∃ l_23,
 encL (Ty.l (cmV (Ty.mk (Ty.kind t) (Ty.n t) (Ty.nl t) l) (Ty.mk (Ty.kind u) (Ty.n u) (Ty.nl u) l_3))) = encL l_23 ∧ (cnt (Ty.mk (Ty.kind w) (Ty.n w) (Ty.nl w) l_22) ≤ 1000 ∧ cnt (Ty.mk (Ty.kind (cmV (Ty.mk (Ty.kind t) (Ty.n t) (Ty.nl t) l) (Ty.mk (Ty.kind u) (Ty.n u) (Ty.nl u) l_3))) (Ty.n (cmV (Ty.mk (Ty.kind t) (Ty.n t) (Ty.nl t) l) (Ty.mk (Ty.kind u) (Ty.n u) (Ty.nl u) l_3))) (Ty.nl (cmV (Ty.mk (Ty.kind t) (Ty.n t) (Ty.nl t) l) (Ty.mk (Ty.kind u) (Ty.n u) (Ty.nl u) l_3))) l_23) ≤ 1000) ∧ bothR (decide (mtN (Ty.mk (Ty.kind w) (Ty.n w) (Ty.nl w) l_22) (Ty.mk (Ty.kind (cmV (Ty.mk (Ty.kind t)
 (Ty.n t) (Ty.nl t) l) (Ty.mk (Ty.kind u) (Ty.n u) (Ty.nl u) l_3))) (Ty.n (cmV (Ty.mk (Ty.kind t) (Ty.n t) (Ty.nl t) l) (Ty.mk (Ty.kind u) (Ty.n u) (Ty.nl u) l_3))) (Ty.nl (cmV (Ty.mk (Ty.kind t) (Ty.n t) (Ty.nl t) l) (Ty.mk (Ty.kind u) (Ty.n u) (Ty.nl u) l_3))) l_23) = (0 : Int))) (bool true = bool true) (bool false = bool true))))))))))))))) := by kernel_rfl
end Go.Proofs.YtnmolpkkemljoaaGreatDoor
end
end
section
set_option maxRecDepth 100000
set_option linter.unusedSimpArgs false
set_option linter.unusedVariables false
noncomputable section
namespace Go.Proofs.YtnmolpkkemljoaaGreatDoor
open Go Go.Am Kd
theorem mm_hook : QSpec.Ok Tryz.prog gT 18 mmQ := by
 intro args K h'
 unfold mmQ at h'
 split at h'
 ·obtain ⟨t, rfl, g1⟩ := argTy_elim h'
  obtain ⟨u, rfl, g2, g3⟩ := argTy_elim g1
  exact ⟨_, (match_ok t u g2.1 g2.2).lift, g3⟩
 ·exact h'.elim
theorem cc_hook : QSpec.Ok Tryz.prog gT 20 ccQ := by
 intro args K h'
 unfold ccQ at h'
 split at h'
 ·obtain ⟨t, rfl, g1⟩ := argTy_elim h'
  obtain ⟨u, rfl, g2, g3⟩ := argTy_elim g1
  exact ⟨_, common_ok t u g2.1 g2.2, g3⟩
 ·exact h'.elim
structure InstF (t bb : Ty) : Prop where
 m0 : mtN t bb = 0
 len : (mtU t bb).length ≤ 2000
 all : allC (mtU t bb)
 lens : iC (mtU t bb).length = iC (vlF t).length
 vt : errF t = 0
 p0 : putE (mtU t bb) t = 0
 sm : sameB (putT (mtU t bb) t) bb = true
 c0 : cmN t bb = 0
 cc : cnt (cmV t bb) ≤ 1000
 cn : cnt (numF t) ≤ 1000
 cb : cnt (numF bb) ≤ 1000
 scn : sameB (cmV t bb) (numF t) = true
 vb : errF bb = 0
 back : mtN bb t = 0 → sameB (numF bb) (numF t) = true
end Go.Proofs.YtnmolpkkemljoaaGreatDoor
end
end
section
set_option maxRecDepth 100000
set_option linter.unusedSimpArgs false
set_option linter.unusedVariables false
namespace Kd
open Go.Am Go.Proofs.YtnmolpkkemljoaaGreatDoor
mutual
def allV (p : Int → Prop) : Ty → Prop
 | .mk k n _ l => (k = 6 → p n) ∧ allVL p l
def allVL (p : Int → Prop) : List Ty → Prop
 | [] => True
 | x :: xs => allV p x ∧ allVL p xs
end
theorem allV_imp {p q : Int → Prop} (h : ∀ n, p n → q n) : (∀ t, allV p t → allV q t) ∧ ∀ l, allVL p l → allVL q l := by
 have key : ∀ (N : Nat), (∀ t, SizeOf.sizeOf t < N → allV p t → allV q t) ∧ ∀ l, SizeOf.sizeOf l < N → allVL p l → allVL q l := by
  intro N
  induction N with
  | zero => exact ⟨fun _ h => by omega, fun _ h => by omega⟩
  | succ N ih =>
   obtain ⟨ih1, ih2⟩ := ih
   constructor
   ·intro t ht ha
    cases t with
    | mk k n b l =>
     simp only [Ty.mk.sizeOf_spec] at ht
     simp only [allV] at ha ⊢
     exact ⟨fun hk => h n (ha.1 hk), ih2 l (by omega) ha.2⟩
   ·intro l hl ha
    cases l with
    | nil => trivial
    | cons x xs =>
     simp only [List.cons.sizeOf_spec] at hl
     simp only [allVL] at ha ⊢
     exact ⟨ih1 x (by omega) ha.1, ih2 xs (by omega) ha.2⟩
 exact ⟨fun t => (key (SizeOf.sizeOf t + 1)).1 t (by omega), fun l => (key (SizeOf.sizeOf l + 1)).2 l (by omega)⟩
theorem okT_range : ∀ t, okT t = true → allV (fun n => 0 ≤ n ∧ n < 1000) t := by
 have key : ∀ (N : Nat), (∀ t, SizeOf.sizeOf t < N → okT t = true → allV (fun n => 0 ≤ n ∧ n < 1000) t) ∧ ∀ l, SizeOf.sizeOf l < N → okL l = true → allVL (fun n => 0 ≤ n ∧ n < 1000) l := by
  intro N
  induction N with
  | zero => exact ⟨fun _ h => by omega, fun _ h => by omega⟩
  | succ N ih =>
   obtain ⟨ih1, ih2⟩ := ih
   constructor
   ·intro t ht h
    cases t with
    | mk k n b l =>
     simp only [Ty.mk.sizeOf_spec] at ht
     obtain ⟨h1, h2⟩ := ok_node h
     simp only [NodeOk] at h1
     simp only [allV]
     exact ⟨h1.2.2.2.2.2, ih2 l (by omega) h2⟩
   ·intro l hl h
    cases l with
    | nil => trivial
    | cons x xs =>
     simp only [List.cons.sizeOf_spec] at hl
     simp only [okL, Bool.and_eq_true] at h
     simp only [allVL]
     exact ⟨ih1 x (by omega) h.1, ih2 xs (by omega) h.2⟩
 exact fun t => (key (SizeOf.sizeOf t + 1)).1 t (by omega)
theorem addV_sub {l : List Int} {n m : Int} : m ∈ addV l n ↔ m ∈ l ∨ m = n := by
 unfold addV
 split
 ·rename_i h
  have h : n ∈ l := by simpa using h
  exact ⟨.inl, fun h' => h'.elim id fun e => e ▸ h⟩
 ·simp
theorem first_mem : (∀ (t : Ty) (xs : List Int), (∀ n ∈ xs, n ∈ firstT t xs) ∧ allV (fun n => n ∈ firstT t xs) t) ∧ ∀ (l : List Ty) (xs : List Int), (∀ n ∈ xs, n ∈ firstL l xs) ∧ allVL (fun n => n ∈ firstL l xs) l := by
 have key : ∀ (N : Nat), (∀ (t : Ty) (xs : List Int), SizeOf.sizeOf t < N → (∀ n ∈ xs, n ∈ firstT t xs) ∧ allV (fun n => n ∈ firstT t xs) t) ∧
   ∀ (l : List Ty) (xs : List Int), SizeOf.sizeOf l < N → (∀ n ∈ xs, n ∈ firstL l xs) ∧ allVL (fun n => n ∈ firstL l xs) l := by
  intro N
  induction N with
  | zero => exact ⟨fun _ _ h => by omega, fun _ _ h => by omega⟩
  | succ N ih =>
   obtain ⟨ih1, ih2⟩ := ih
   constructor
   ·intro t xs ht
    cases t with
    | mk k n b l =>
     simp only [Ty.mk.sizeOf_spec] at ht
     obtain ⟨h1, h2⟩ := ih2 l (if k = 6 then addV xs n else xs) (by omega)
     simp only [firstT, allV]
     refine ⟨fun m hm => h1 m ?_, fun hk => h1 n ?_, h2⟩
     ·split
      ·exact addV_sub.2 (.inl hm)
      ·exact hm
     ·rw [if_pos hk]; exact addV_sub.2 (.inr rfl)
   ·intro l xs hl
    cases l with
    | nil => exact ⟨fun n h => h, trivial⟩
    | cons x l =>
     simp only [List.cons.sizeOf_spec] at hl
     obtain ⟨h1, h2⟩ := ih1 x xs (by omega)
     obtain ⟨h3, h4⟩ := ih2 l (firstT x xs) (by omega)
     simp only [firstL, allVL]
     exact ⟨fun n h => h3 n (h1 n h), (allV_imp fun n h => h3 n h).1 x h2, h4⟩
 exact ⟨fun t xs => (key (SizeOf.sizeOf t + 1)).1 t xs (by omega), fun l xs => (key (SizeOf.sizeOf l + 1)).2 l xs (by omega)⟩
theorem vars_all (t : Ty) : allV (fun n => n ∈ varsL t) t := (first_mem.1 t []).2
theorem first_of {p : Int → Prop} : (∀ (t : Ty) (xs : List Int), allV p t → (∀ n ∈ xs, p n) → ∀ n ∈ firstT t xs, p n) ∧ ∀ (l : List Ty) (xs : List Int), allVL p l → (∀ n ∈ xs, p n) → ∀ n ∈ firstL l xs, p n := by
 have key : ∀ (N : Nat), (∀ (t : Ty) (xs : List Int), SizeOf.sizeOf t < N → allV p t → (∀ n ∈ xs, p n) → ∀ n ∈ firstT t xs, p n) ∧
   ∀ (l : List Ty) (xs : List Int), SizeOf.sizeOf l < N → allVL p l → (∀ n ∈ xs, p n) → ∀ n ∈ firstL l xs, p n := by
  intro N
  induction N with
  | zero => exact ⟨fun _ _ h => by omega, fun _ _ h => by omega⟩
  | succ N ih =>
   obtain ⟨ih1, ih2⟩ := ih
   constructor
   ·intro t xs ht ha hx
    cases t with
    | mk k n b l =>
     simp only [Ty.mk.sizeOf_spec] at ht
     simp only [allV] at ha
     simp only [firstT]
     refine ih2 l _ (by omega) ha.2 ?_
     split
     ·rename_i hk
      intro m hm
      rcases addV_sub.1 hm with h | rfl
      ·exact hx m h
      ·exact ha.1 hk
     ·exact hx
   ·intro l xs hl ha hx
    cases l with
    | nil => exact hx
    | cons x l =>
     simp only [List.cons.sizeOf_spec] at hl
     simp only [allVL] at ha
     simp only [firstL]
     exact ih2 l _ (by omega) ha.2 (ih1 x xs (by omega) ha.1 hx)
 exact ⟨fun t xs => (key (SizeOf.sizeOf t + 1)).1 t xs (by omega), fun l xs => (key (SizeOf.sizeOf l + 1)).2 l xs (by omega)⟩
end Kd
end
section
set_option maxRecDepth 100000
namespace Kd
open Go.Am Go.Proofs.YtnmolpkkemljoaaGreatDoor
def hasP (s p : List UInt8) : Bool := Go.Lib.hasPrefix s p
def cutP (s p : List UInt8) : List UInt8 := Go.Lib.trimPrefix s p
def isDg (c : UInt8) : Bool := decide ((48 : Int) ≤ c.toNat) && decide ((c.toNat : Int) ≤ 57)
def dgN : List UInt8 → Nat
 | [] => 0
 | c :: l => if isDg c = true then dgN l + 1 else 0
def numA : List UInt8 → Int → Int
 | [], a => a
 | c :: l, a => numA l (a * 10 + (c.toNat - 48))
def numV (s : List UInt8) : Int := numA s 0
def digs (s : List UInt8) : Bool := decide (1 ≤ s.length) && (decide (s.length ≤ 3) && s.all isDg)
def okNum (s : List UInt8) : Bool := (decide (1 ≤ dgN s) && decide (dgN s ≤ 3)) && (decide (dgN s = 1) || !decide (s[0]? = some 48))
def min4 (n : Nat) : Nat := min n 4
def rnF (s : List UInt8) : Int × List UInt8 × Bool :=
 if (decide (1 ≤ dgN s) && decide (dgN s ≤ 3)) = true then (numV (s.take (dgN s)), s.drop (dgN s), decide (itoaL (numV (s.take (dgN s))) = s.take (dgN s))) else (0, s, false)
def rnV (s : List UInt8) : Int := (rnF s).1
def rnR (s : List UInt8) : List UInt8 := (rnF s).2.1
def rnB (s : List UInt8) : Bool := (rnF s).2.2
def opF (s : List UInt8) : Option (Int × List UInt8) :=
 if hasP s [32, 42, 32] = true then some (2, cutP s [32, 42, 32]) else if hasP s [32, 43, 32] = true then some (3, cutP s [32, 43, 32]) else if hasP s [32, 45, 62, 32] = true then some (5, cutP s [32, 45, 62, 32]) else none
def zeroT : Ty := .mk 0 0 true []
def rdF : Nat → List UInt8 → Ty × List UInt8 × Bool
 | 0, s => (zeroT, s, false)
 | n + 1, s =>
  if hasP s [117, 110, 105, 116] = true then (zeroT, cutP s [117, 110, 105, 116], true)
  else if hasP s [105, 110, 116] = true then (.mk 1 0 true [], cutP s [105, 110, 116], true)
  else if hasP s [39] = true then (varT (rnV (cutP s [39])), rnR (cutP s [39]), rnB (cutP s [39]))
  else if hasP s [91] = true then
   (if (rdF n (cutP s [91])).2.2 = true then (.mk 4 0 false [(rdF n (cutP s [91])).1], cutP (rdF n (cutP s [91])).2.1 [93], hasP (rdF n (cutP s [91])).2.1 [93]) else ((rdF n (cutP s [91])).1, s, false))
  else if hasP s [40] = true then
   (if (rdF n (cutP s [40])).2.2 = true then
    match opF (rdF n (cutP s [40])).2.1 with
    | none => ((rdF n (cutP s [40])).1, s, false)
    | some (k, m) => if (rdF n m).2.2 = true then (.mk k 0 false [(rdF n (cutP s [40])).1, (rdF n m).1], cutP (rdF n m).2.1 [41], hasP (rdF n m).2.1 [41]) else ((rdF n (cutP s [40])).1, s, false)
   else ((rdF n (cutP s [40])).1, s, false))
  else (zeroT, s, false)
end Kd
noncomputable section
namespace Go.Proofs.YtnmolpkkemljoaaGreatDoor
open Go Go.Am Kd
def atoiQ : QSpec
 | [.str s], K => (digs s = true) ∧ K (.tup [.int .i64 (numV s), .nili])
 | _, _ => False
def rdA (s : List UInt8) : AH := ⟨[.cells [.str s] 98], []⟩
def numSt (s : List UInt8) : LSt Nat Nat where
 n := 1
 nf := 0
 rd := none
 fr x := frm 75 [(0, .ptr 0 0), (3, .int .i64 x)]
 hp _ := rdA s
 inv x := x ≤ 4 ∧ x ≤ dgN s ∧ s.length ≤ 2000
 res _ := min4 (dgN s)
 sel _ := true
 out _ r := ⟨.exit 0, frm 75 [(0, .ptr 0 0), (3, .int .i64 r)], rdA s⟩
def numHk (s : List UInt8) : Hooks := hooks [(128, atoiQ)] [] [(2, ⟨108, 0, (numSt s).spec⟩)]
end Go.Proofs.YtnmolpkkemljoaaGreatDoor
end
end
section
noncomputable section
namespace Go.Proofs.YtnmolpkkemljoaaGreatDoor
open Go Go.Am Kd Go.Am.AV Go.IntKind
set_option maxRecDepth 100000
theorem num_loop (s : List UInt8) (meas : Nat → Nat) (x : Nat) : (runTL hk0 60 108 0 (numSt s) meas x) = ( bothR (decide (iC x < iC (List.length s))) (bothR (decide (iC x < (4 : Int))) (0 ≤ iC x ∧ ∃ c, s[Int.toNat (iC x)]? = some c ∧ bothR (decide ((48 : Int) ≤ iC (UInt8.toNat c))) (0 ≤ iC x ∧ ∃ c, s[Int.toNat (iC x)]? = some c ∧ bothR (decide (iC (UInt8.toNat c) ≤ (57 : Int))) (∃ y, (y ≤ 4 ∧ y ≤ dgN s ∧ List.length s ≤ 2000) ∧ meas y < meas x ∧ min4 (dgN s) = min4 (dgN s) ∧ ptr (0) (0) = ptr (0) (0) ∧
 int i64 (IntKind.wrap IntKind.i64 (iC x + (1 : Int))) = int i64 (iC y) ∧ 98 = 98 ∧ str s = str s ∧ 0 = 0 ∧ True) (true = true ∧ ptr (0) (0) = ptr (0) (0) ∧ int i64 (iC x) = int i64 (iC (min4 (dgN s))) ∧ 98 = 98 ∧ str s = str s ∧ 0 = 0 ∧ True)) (true = true ∧ ptr (0) (0) = ptr (0) (0) ∧ int i64 (iC x) = int i64 (iC (min4 (dgN s))) ∧ 98 = 98 ∧ str s = str s ∧ 0 = 0 ∧ True)) (true = true ∧ ptr (0) (0) = ptr (0) (0) ∧ int i64 (iC x) = int i64 (iC (min4 (dgN s))) ∧
 98 = 98 ∧ str s = str s ∧ 0 = 0 ∧ True)) (true = true ∧ ptr (0) (0) = ptr (0) (0) ∧ int i64 (iC x) = int i64 (iC (min4 (dgN s))) ∧ 98 = 98 ∧ str s = str s ∧ 0 = 0 ∧ True)) := by kernel_rfl
theorem num_top (s s' : List UInt8) (e : AEnd) : (runT (numHk s) 60 108 [.ptr 0 0] (rdA s) (hpIs 0 e (rdA s'))) = ( codeIs (loopOf Tryz.prog 108 0) Tryz.prog 108 0 (∃ x, (x ≤ 4 ∧ x ≤ dgN s ∧ List.length s ≤ 2000) ∧ ptr (0) (0) = ptr (0) (0) ∧ int i64 (0) = int i64 (iC x) ∧ 98 = 98 ∧ str s = str s ∧ 0 = 0 ∧ 0 ≤ iC (min4 (dgN s)) ∧ (0 ≤ Int.toNat (iC (min4 (dgN s))) ∧ Int.toNat (iC (min4 (dgN s))) ≤ List.length s) ∧ bothR (decide ((1 : Int) ≤ iC (min4 (dgN s)))) (bothR (decide (iC (min4 (dgN s)) ≤ (3 : Int))) (bothR (decide (iC (min4 (dgN s)) = (1 : Int)))
 (0 ≤ iC (min4 (dgN s)) ∧ (Int.toNat (iC (min4 (dgN s))) ≤ List.length s ∧ List.length s ≤ List.length s) ∧ digs (List.take (Int.toNat (iC (min4 (dgN s))) - 0) s) = true ∧ AEnd.returned (int i64 (numV (List.take (Int.toNat (iC (min4 (dgN s))) - 0) s))) = e ∧ 98 = 98 ∧ str (List.take (List.length s - Int.toNat (iC (min4 (dgN s)))) (List.drop (Int.toNat (iC (min4 (dgN s)))) s)) = str s' ∧ 0 = 0 ∧ True) (Int.NonNeg (0) ∧ ∃ c, (List.take (Int.toNat (iC (min4 (dgN s))) - 0) s)[0]? = some c ∧ bothR (!!decide (iC (UInt8.toNat c) = (48 : Int)))
 (AEnd.panicked [(AV.iface (117) (agg [int i64 (8)]), false)] = e ∧ 98 = 98 ∧ str s = str s' ∧ 0 = 0 ∧ True) (0 ≤ iC (min4 (dgN s)) ∧ (Int.toNat (iC (min4 (dgN s))) ≤ List.length s ∧ List.length s ≤ List.length s) ∧ digs (List.take (Int.toNat (iC (min4 (dgN s))) - 0) s) = true ∧ AEnd.returned (int i64 (numV (List.take (Int.toNat (iC (min4 (dgN s))) - 0) s))) = e ∧ 98 = 98 ∧ str (List.take (List.length s - Int.toNat (iC (min4 (dgN s)))) (List.drop (Int.toNat (iC (min4 (dgN s)))) s)) = str s' ∧ 0 = 0 ∧ True)))
 (AEnd.panicked [(AV.iface (117) (agg [int i64 (8)]), false)] = e ∧ 98 = 98 ∧ str s = str s' ∧ 0 = 0 ∧ True)) (AEnd.panicked [(AV.iface (117) (agg [int i64 (8)]), false)] = e ∧ 98 = 98 ∧ str s = str s' ∧ 0 = 0 ∧ True))) := by kernel_rfl
end Go.Proofs.YtnmolpkkemljoaaGreatDoor
end
end
section
set_option maxRecDepth 100000
set_option linter.unusedSimpArgs false
set_option linter.unusedVariables false
namespace Kd
open Go Go.Am Go.Proofs.YtnmolpkkemljoaaGreatDoor
theorem isDg_iff {c : UInt8} : isDg c = true ↔ 48 ≤ c.toNat ∧ c.toNat ≤ 57 := by
 simp only [isDg, Bool.and_eq_true, decide_eq_true_eq]; omega
theorem dec_num : ∀ (l : List UInt8) (a : Nat), l.all isDg = true → ∃ n, Lib.decFrom a l = some n ∧ (n : Int) = numA l a
 | [], a, _ => ⟨a, rfl, rfl⟩
 | c :: l, a, h => by
  simp only [List.all_cons, Bool.and_eq_true] at h
  have hc := isDg_iff.1 h.1
  obtain ⟨n, h1, h2⟩ := dec_num l (a * 10 + (c.toNat - 48)) h.2
  refine ⟨n, ?_, ?_⟩
  ·simp only [Lib.decFrom, Lib.digitVal, if_pos hc]; exact h1
  ·rw [h2]
   simp only [numA]
   congr 1
   omega
theorem atoi_num {s : List UInt8} (h : digs s = true) : Lib.atoi s = some (numV s) := by
 simp only [digs, Bool.and_eq_true, decide_eq_true_eq] at h
 obtain ⟨h1, h2, h3⟩ := h
 match s, h1 with
 | c :: l, _ =>
  obtain ⟨n, e1, e2⟩ := dec_num (c :: l) 0 h3
  simp only [List.all_cons, Bool.and_eq_true] at h3
  have hc := isDg_iff.1 h3.1
  have n1 : (c == 45) = false := by
   rw [beq_eq_false_iff_ne]; intro e; subst e; simp at hc
  have n2 : (c == 43) = false := by
   rw [beq_eq_false_iff_ne]; intro e; subst e; simp at hc
  simp only [Lib.atoi, n1, n2, Bool.false_eq_true, if_false, Lib.decNat, List.isEmpty_cons, e1, Option.map_some, e2]
  rfl
theorem dgN_le : ∀ s, dgN s ≤ s.length
 | [] => Nat.le_refl _
 | c :: l => by
  simp only [dgN]
  split
  ·have := dgN_le l; simp; omega
  ·simp
theorem dgN_lt : ∀ (s : List UInt8) (x : Nat), x < dgN s → ∃ c, s[x]? = some c ∧ isDg c = true
 | c :: l, x, h => by
  simp only [dgN] at h
  split at h
  ·rename_i hc
   cases x with
   | zero => exact ⟨c, rfl, hc⟩
   | succ x => simpa using dgN_lt l x (by omega)
  ·omega
theorem dgN_eq : ∀ (s : List UInt8), dgN s < s.length → ∃ c, s[dgN s]? = some c ∧ isDg c = false
 | c :: l, h => by
  simp only [dgN] at h ⊢
  split
  ·rename_i hc
   rw [if_pos hc] at h
   simpa using dgN_eq l (by simpa using h)
  ·rename_i hc
   exact ⟨c, rfl, by simpa using hc⟩
theorem dgN_all : ∀ (s : List UInt8) (x : Nat), x ≤ dgN s → (s.take x).all isDg = true
 | [], x, _ => by simp
 | c :: l, 0, _ => rfl
 | c :: l, x + 1, h => by
  simp only [dgN] at h
  split at h
  ·rename_i hc
   simp only [List.take_succ_cons, List.all_cons, hc, Bool.true_and]
   exact dgN_all l x (by omega)
  ·omega
theorem digs_take {s : List UInt8} (h1 : 1 ≤ dgN s) (h2 : dgN s ≤ 3) : digs (s.take (dgN s)) = true := by
 have := dgN_le s
 simp only [digs, Bool.and_eq_true, decide_eq_true_eq, List.length_take]
 exact ⟨by omega, by omega, dgN_all s _ (Nat.le_refl _)⟩
theorem dg_of {k : Nat} (h : k < 10) : isDg (dig k) = true ∧ (dig k).toNat = 48 + k := by
 have key : ∀ k : Nat, k < 10 → isDg (dig k) = true ∧ (dig k).toNat = 48 + k := by decide
 exact key k h
theorem of_dg {c : UInt8} (h : isDg c = true) : ∃ k : Nat, k < 10 ∧ c = dig k ∧ (c.toNat : Int) - 48 = k := by
 have h1 := isDg_iff.1 h
 refine ⟨c.toNat - 48, by omega, ?_, by omega⟩
 apply UInt8.toNat_inj.1
 rw [(dg_of (k := c.toNat - 48) (by omega)).2]; omega
theorem dig_inj {a b : Nat} (ha : a < 10) (hb : b < 10) (h : dig a = dig b) : a = b := by
 have h1 := (dg_of ha).2
 have h2 := (dg_of hb).2
 rw [h] at h1; omega
theorem digs_cases {s : List UInt8} (h : digs s = true) : (∃ a, a < 10 ∧ s = [dig a] ∧ numV s = (a : Int)) ∨ (∃ a b, a < 10 ∧ b < 10 ∧ s = [dig a, dig b] ∧ numV s = ((a * 10 + b : Nat) : Int)) ∨
  ∃ a b c, a < 10 ∧ b < 10 ∧ c < 10 ∧ s = [dig a, dig b, dig c] ∧ numV s = ((a * 100 + b * 10 + c : Nat) : Int) := by
 simp only [digs, Bool.and_eq_true, decide_eq_true_eq] at h
 obtain ⟨h1, h2, h3⟩ := h
 match s, h1, h2 with
 | [x], _, _ =>
  simp only [List.all_cons, List.all_nil, Bool.and_true] at h3
  obtain ⟨a, ha, rfl, e⟩ := of_dg h3
  exact .inl ⟨a, ha, rfl, by simp only [numV, numA]; omega⟩
 | [x, y], _, _ =>
  simp only [List.all_cons, List.all_nil, Bool.and_true, Bool.and_eq_true] at h3
  obtain ⟨a, ha, rfl, e⟩ := of_dg h3.1
  obtain ⟨b, hb, rfl, e'⟩ := of_dg h3.2
  exact .inr (.inl ⟨a, b, ha, hb, rfl, by simp only [numV, numA]; omega⟩)
 | [x, y, z], _, _ =>
  simp only [List.all_cons, List.all_nil, Bool.and_true, Bool.and_eq_true] at h3
  obtain ⟨a, ha, rfl, e⟩ := of_dg h3.1
  obtain ⟨b, hb, rfl, e'⟩ := of_dg h3.2.1
  obtain ⟨c, hc, rfl, e''⟩ := of_dg h3.2.2
  exact .inr (.inr ⟨a, b, c, ha, hb, hc, rfl, by simp only [numV, numA]; omega⟩)
theorem digs_itoa {s : List UInt8} (h : digs s = true) : (itoaL (numV s) = s) ↔ (s.length = 1 ∨ s[0]? ≠ some 48) := by
 have z : ∀ {a : Nat}, a < 10 → (dig a = 48 ↔ a = 0) := by
  intro a ha
  have : (48 : UInt8) = dig 0 := rfl
  rw [this]
  exact ⟨fun h => dig_inj ha (by omega) h, fun h => by rw [h]⟩
 rcases digs_cases h with ⟨a, ha, rfl, e⟩ | ⟨a, b, ha, hb, rfl, e⟩ | ⟨a, b, c, ha, hb, hc, rfl, e⟩
 ·rw [e]
  simp only [itoaL, itoaN, Int.toNat_natCast, if_pos ha, List.length_singleton, true_or]
 ·rw [e]
  simp only [itoaL, itoaN, Int.toNat_natCast, List.length_cons, List.length_nil, List.getElem?_cons_zero, ne_eq, Option.some.injEq, z ha]
  by_cases h0 : a = 0
  ·subst h0
   simp only [Nat.zero_mul, Nat.zero_add, if_pos hb]
   simp
  ·rw [if_neg (by omega), if_pos (by omega), show (a * 10 + b) / 10 = a by omega, show (a * 10 + b) % 10 = b by omega]
   simp [h0]
 ·rw [e]
  simp only [itoaL, itoaN, Int.toNat_natCast, List.length_cons, List.length_nil, List.getElem?_cons_zero, ne_eq, Option.some.injEq, z ha]
  by_cases h0 : a = 0
  ·subst h0
   simp only [Nat.zero_mul, Nat.zero_add]
   by_cases h1 : b * 10 + c < 10
   ·rw [if_pos h1]; simp
   ·rw [if_neg h1, if_pos (by omega)]; simp
  ·rw [if_neg (by omega), if_neg (by omega), show (a * 100 + b * 10 + c) / 100 = a by omega, show (a * 100 + b * 10 + c) / 10 % 10 = b by omega, show (a * 100 + b * 10 + c) % 10 = c by omega]
   simp [h0]
theorem okNum_eq (s : List UInt8) : okNum s = rnB s := by
 unfold okNum rnB rnF
 cases h : decide (1 ≤ dgN s) && decide (dgN s ≤ 3) with
 | false => simp
 | true =>
  simp only [Bool.and_eq_true, decide_eq_true_eq] at h
  have hd := digs_take h.1 h.2
  have hi := digs_itoa hd
  have hl := dgN_le s
  have h0 : (s.take (dgN s))[0]? = s[0]? := by rw [List.getElem?_take, if_pos (by omega)]
  rw [h0, List.length_take, Nat.min_eq_left hl] at hi
  simp only [if_true, Bool.true_and]
  rw [Bool.eq_iff_iff]
  simp only [Bool.or_eq_true, decide_eq_true_eq, Bool.not_eq_true', decide_eq_false_iff_not]
  exact hi.symm
end Kd
noncomputable section
namespace Go.Proofs.YtnmolpkkemljoaaGreatDoor
open Go Go.Am Kd
theorem atoi_ok {G : Gl} (s : List UInt8) (h : digs s = true) : QuietJ Tryz.prog G 128 [.str s] (.tup [.int .i64 (numV s), .nili]) := by
 refine QuietJ.of_below fun S A w vs hi hl => ?_
 cases hl with
 | cons _ _ v _ hv hl =>
 cases hl
 cases hv
 have hlen : s.length ≤ 3 := by
  simp only [digs, Bool.and_eq_true, decide_eq_true_eq] at h
  exact h.2.1
 refine (Go.Proofs.Tryz.strconv_Atoi _ (numV s) (by show s.toArray.size ≤ 18; simp; omega) (by simpa using atoi_num h) w).mono ?_
 rintro e w' ⟨rfl, t, rfl⟩
 exact ⟨.returned _ _ (.tup _ _ (.cons _ _ _ _ (.int _ _) (.cons _ _ _ _ .nili .nil))), ⟨rfl, rfl, rfl, by rw [Lib.bytesWorld_size]; omega, fun j hj => Lib.bytesWorld_at_old _ _ _ j hj⟩⟩
theorem atoi_hook {G : Gl} : QSpec.Ok Tryz.prog G 128 atoiQ := by
 intro args K h
 unfold atoiQ at h
 split at h
 ·exact ⟨_, atoi_ok _ h.1, h.2⟩
 ·exact h.elim
theorem min4_le (n : Nat) : min4 n ≤ n ∧ min4 n ≤ 4 := by unfold min4; omega
theorem numSt_ok (s : List UInt8) : LHook.Ok Tryz.prog gT ⟨108, 0, (numSt s).spec⟩ := by
 refine LSt.byT (hk := hk0) (numSt s) (fun x => 4 - x) (mkHooks_ok all_nil all_nil all_nil) rfl ?_ ?_ ?_
 ·intro x _
  exact Whole.frm rfl rfl (by simp [numSt, AV.bnd]) rfl
 ·intro x b _
  exact Whole.frm rfl rfl (by simp [numSt, AV.bnd]) rfl
 ·rintro x ⟨h4, hx, hl⟩
  have hle := dgN_le s
  rw [num_loop]
  simp only [iC, eq_self, true_and, and_true, Int.toNat_natCast, AV.int.injEq]
  have fin : x = min4 (dgN s) → (x : Int) = (min4 (dgN s) : Nat) := fun h => by rw [← h]
  refine bothR_dec (fun h1 => bothR_dec (fun h2 => ?_) fun h2 => fin ?_) fun h1 => fin ?_
  ·refine ⟨by omega, ?_⟩
   rcases Nat.lt_or_ge x (dgN s) with hlt | hge
   ·obtain ⟨c, hc, hd⟩ := dgN_lt s x hlt
    have hd := isDg_iff.1 hd
    refine ⟨c, hc, bothR_dec (fun _ => ⟨by omega, c, hc, bothR_dec (fun _ => ⟨x + 1, ⟨by omega, by omega, hl⟩, by omega, ?_⟩) fun h => by omega⟩) fun h => by omega⟩
    rw [wrap_id (by omega) (by omega)]; rfl
   ·have hxe : x = dgN s := by omega
    subst hxe
    obtain ⟨c, hc, hd⟩ := dgN_eq s (by omega)
    have hm : dgN s = min4 (dgN s) := by unfold min4; omega
    have hd : ¬ (48 ≤ c.toNat ∧ c.toNat ≤ 57) := fun h => by rw [isDg_iff.2 h] at hd; cases hd
    refine ⟨c, hc, bothR_dec (fun _ => ⟨by omega, c, hc, bothR_dec (fun _ => by omega) fun h => fin hm⟩) fun h => fin hm⟩
  ·unfold min4; omega
  ·unfold min4; omega
def numEnd (s : List UInt8) : AEnd := match rnB s with | true => .returned (.int .i64 (rnV s)) | false => .panicked (stopC 8)
def numAft (s : List UInt8) : List UInt8 := match rnB s with | true => rnR s | false => s
theorem num_ok (s : List UInt8) (hl : s.length ≤ 2000) : FuncJ Tryz.prog gT 108 [.ptr 0 0] (rdA s) (hpIs 0 (numEnd s) (rdA (numAft s))) := by
 have hh : Hooks.Ok Tryz.prog gT (numHk s) := mkHooks_ok (all_cons atoi_hook all_nil) all_nil (all_cons (numSt_ok s) all_nil)
 refine FuncJ.run (el := els) (mu := mu0) (hk := numHk s) hmix hh (n := 60) ?_
 show runT (numHk s) 60 108 [.ptr 0 0] (rdA s) _
 have hle := dgN_le s
 have hm := min4_le (dgN s)
 rw [num_top]
 simp only [iC, eq_self, true_and, and_true, Int.toNat_natCast, AV.int.injEq, codeIs_self, AV.str.injEq, Nat.sub_zero]
 refine ⟨0, ⟨by omega, by omega, hl⟩, rfl, by omega, ⟨by omega, by omega⟩, ?_⟩
 have bad : rnB s = false → AEnd.panicked [(AV.iface 117 (AV.agg [AV.int .i64 8]), false)] = numEnd s ∧ s = numAft s := by
  intro h; unfold numEnd numAft; rw [h]; exact ⟨rfl, rfl⟩
 have eok := okNum_eq s
 refine bothR_dec (fun h1 => bothR_dec (fun h3 => ?_) fun h3 => bad ?_) fun h1 => bad ?_
 ·have e4 : min4 (dgN s) = dgN s := by unfold min4 at *; omega
  rw [e4] at h1 h3 ⊢
  have hd := digs_take (s := s) (by omega) (by omega)
  have hrng : (decide (1 ≤ dgN s) && decide (dgN s ≤ 3)) = true := by simp; omega
  have good : rnB s = true → AEnd.returned (AV.int .i64 (numV (s.take (dgN s)))) = numEnd s ∧ (s.drop (dgN s)).take (s.length - dgN s) = numAft s := by
   intro h
   unfold numEnd numAft
   rw [h]
   refine ⟨?_, ?_⟩
   ·simp only [rnV, rnF, hrng, if_true]
   ·simp only [rnR, rnF, hrng, if_true]
    exact List.take_of_length_le (by simp)
  have h0 : (s.take (dgN s))[0]? = s[0]? := by rw [List.getElem?_take, if_pos (by omega)]
  refine bothR_dec (fun h => ⟨by omega, ⟨by omega, by omega⟩, hd, good ?_⟩) fun h => ⟨nn 0, ?_⟩
  ·rw [← eok]
   have : decide (dgN s = 1) = true := by simp; omega
   simp only [okNum, hrng, this, Bool.true_or, Bool.and_self]
  ·obtain ⟨c, hc, hcd⟩ := dgN_lt s 0 (by omega)
   rw [h0]
   have h1' : decide (dgN s = 1) = false := by simp; omega
   refine ⟨c, hc, ?_⟩
   rw [Bool.not_not]
   refine bothR_dec (fun h48 => bad ?_) fun h48 => ⟨by omega, ⟨by omega, by omega⟩, hd, good ?_⟩
   ·rw [← eok]
    have : c = 48 := by
     apply UInt8.toNat_inj.1
     have : c.toNat = 48 := by omega
     rw [this]; rfl
    simp only [okNum, h1', hc, this, decide_true, Bool.not_true, Bool.or_self, Bool.and_false]
   ·rw [← eok]
    have : ¬ c = 48 := by
     intro e; subst e; exact h48 rfl
    simp only [okNum, hrng, h1', hc, Option.some.injEq, decide_eq_false this, Bool.not_false, Bool.or_true, Bool.and_self]
 ·rw [← eok]
  have : decide (dgN s ≤ 3) = false := by simp; unfold min4 at h3; omega
  simp only [okNum, this, Bool.and_false, Bool.false_and]
 ·rw [← eok]
  have : decide (1 ≤ dgN s) = false := by simp; unfold min4 at h1; omega
  simp only [okNum, this, Bool.false_and]
theorem hasP_iff {s p : List UInt8} : hasP s p = true ↔ p.length ≤ s.length ∧ s.take p.length = p := by
 simp only [hasP, Lib.hasPrefix, List.isPrefixOf_iff_prefix]
 constructor
 ·rintro ⟨t, rfl⟩; simp
 ·rintro ⟨h1, h2⟩; exact ⟨s.drop p.length, by (conv => lhs; arg 1; rw [← h2]); exact List.take_append_drop _ _⟩
theorem cutP_yes {s p : List UInt8} (h : hasP s p = true) : cutP s p = s.drop p.length := by
 have h : Lib.hasPrefix s p = true := h
 simp only [cutP, Lib.trimPrefix, h, if_true]
end Go.Proofs.YtnmolpkkemljoaaGreatDoor
end
end
section
set_option linter.unusedSimpArgs false
set_option linter.unusedVariables false
namespace Kd
open Go Go.Am Go.Proofs.YtnmolpkkemljoaaGreatDoor
theorem Ty.ind {P : Ty → Prop} {Q : List Ty → Prop} (node : ∀ k n b l, Q l → P (.mk k n b l)) (nil : Q []) (cons : ∀ x xs, P x → Q xs → Q (x :: xs)) : (∀ t, P t) ∧ ∀ l, Q l := by
 have key : ∀ (N : Nat), (∀ t, SizeOf.sizeOf t < N → P t) ∧ ∀ l, SizeOf.sizeOf l < N → Q l := by
  intro N
  induction N with
  | zero => exact ⟨fun _ h => by omega, fun _ h => by omega⟩
  | succ N ih =>
   obtain ⟨ih1, ih2⟩ := ih
   constructor
   ·intro t ht
    cases t with
    | mk k n b l =>
     simp only [Ty.mk.sizeOf_spec] at ht
     exact node k n b l (ih2 l (by omega))
   ·intro l hl
    cases l with
    | nil => exact nil
    | cons x xs =>
     simp only [List.cons.sizeOf_spec] at hl
     exact cons x xs (ih1 x (by omega)) (ih2 xs (by omega))
 exact ⟨fun t => (key (SizeOf.sizeOf t + 1)).1 t (by omega), fun l => (key (SizeOf.sizeOf l + 1)).2 l (by omega)⟩
mutual
def subT (σ : Int → Ty) : Ty → Ty
 | .mk k n _ l => if k = 6 then σ n else .mk k 0 (nilB l) (subL σ l)
def subL (σ : Int → Ty) : List Ty → List Ty
 | [] => []
 | x :: xs => subT σ x :: subL σ xs
end
theorem subL_len (σ : Int → Ty) : ∀ l, (subL σ l).length = l.length
 | [] => rfl
 | x :: xs => by simp only [subL, List.length_cons, subL_len σ xs]
theorem nilB_sub (σ : Int → Ty) (l : List Ty) : nilB (subL σ l) = nilB l := by simp only [nilB, subL_len]
theorem with_sub (bs : List (Int × Ty)) : (∀ t, withT bs t = subT (fun n => cleanT (boundT bs n)) t) ∧ ∀ l, withL bs l = subL (fun n => cleanT (boundT bs n)) l :=
 Ty.ind (fun k n b l ih => by simp only [withT, subT, ih]) rfl fun x xs h1 h2 => by simp only [withL, subL, h1, h2]
theorem clean_clean : (∀ t, cleanT (cleanT t) = cleanT t) ∧ ∀ l, cleanL (cleanL l) = cleanL l :=
 Ty.ind (fun k n b l ih => by
  by_cases h6 : k = 6 <;> simp [cleanT, h6, ih, nilB, cleanL_len]) rfl fun x xs h1 h2 => by simp only [cleanL, h1, h2]
theorem sub_congr {σ τ : Int → Ty} : (∀ t, allV (fun n => σ n = τ n) t → subT σ t = subT τ t) ∧ ∀ l, allVL (fun n => σ n = τ n) l → subL σ l = subL τ l :=
 Ty.ind (fun k n b l ih h => by
  simp only [allV] at h
  by_cases h6 : k = 6
  ·simp only [subT, if_pos h6, h.1 h6]
  ·simp only [subT, if_neg h6, ih h.2]) (fun _ => rfl) fun x xs h1 h2 h => by
   simp only [allVL] at h
   simp only [subL, h1 h.1, h2 h.2]
theorem sub_id : (∀ t, okT t = true → subT varT t = cleanT t) ∧ ∀ l, okL l = true → subL varT l = cleanL l :=
 Ty.ind (fun k n b l ih h => by
  obtain ⟨h1, h2⟩ := ok_node h
  by_cases h6 : k = 6
  ·simp only [NodeOk] at h1
   have hl : l = [] := List.eq_nil_of_length_eq_zero (h1.2.2.1 (.inr (.inr h6)))
   subst hl; subst h6
   simp [subT, cleanT, cleanL, varT, nilB]
  ·simp only [subT, if_neg h6, cleanT, ih h2]) (fun _ => rfl) fun x xs h1 h2 h => by
   simp only [okL, Bool.and_eq_true] at h
   simp only [subL, cleanL, h1 h.1, h2 h.2]
theorem depG_ge : ∀ (l : List Ty) (m : Int), m ≤ depG l m
 | [], m => Int.le_refl _
 | x :: xs, m => Int.le_trans (Int.le_max_left _ _) (depG_ge xs _)
def mtInv (σ : Int → Ty) (es : Es) : Prop := ∀ e ∈ es, e.2.1 = σ e.1
theorem boundM_inv {σ : Int → Ty} {es : Es} {n : Int} {o : Ty} (hi : mtInv σ es) (h : boundM es n = some o) : o = σ n ∧ n ∈ es.map fun x => x.1 := by
 induction es with
 | nil => cases h
 | cons x l ih =>
  simp only [boundM] at h
  split at h
  ·rename_i he
   cases h
   exact ⟨by rw [he]; exact hi x (List.mem_cons_self ..), by simp [he]⟩
  ·obtain ⟨h1, h2⟩ := ih (fun e he => hi e (List.mem_cons_of_mem _ he)) h
   exact ⟨h1, List.mem_cons_of_mem _ h2⟩
theorem setM_inv {σ : Int → Ty} {es : Es} {n : Int} (hi : mtInv σ es) : mtInv σ (setM es n (σ n)) := by
 induction es with
 | nil => exact hi
 | cons x l ih =>
  simp only [setM]
  split
  ·rename_i he
   intro e h
   rcases List.mem_cons.1 h with rfl | h
   ·simp [he]
   ·exact hi e (List.mem_cons_of_mem _ h)
  ·intro e h
   rcases List.mem_cons.1 h with rfl | h
   ·exact hi _ (List.mem_cons_self ..)
   ·exact ih (fun e he => hi e (List.mem_cons_of_mem _ he)) e h
theorem mt_sub {σ : Int → Ty} (hc : ∀ n, cleanT (σ n) = σ n) :
  (∀ t, okT t = true → ∀ (es : Es) (c : Nat), mtInv σ es → (mtT t (subT σ t) es c).ok = true ∧ mtInv σ (mtT t (subT σ t) es c).es ∧ (mtT t (subT σ t) es c).es.map (fun x => x.1) = firstT t (es.map fun x => x.1)) ∧
  ∀ l, okL l = true → ∀ (es : Es) (c : Nat), mtInv σ es → (mtL l (subL σ l) es c).ok = true ∧ mtInv σ (mtL l (subL σ l) es c).es ∧ (mtL l (subL σ l) es c).es.map (fun x => x.1) = firstL l (es.map fun x => x.1) := by
 refine Ty.ind (fun k n b l ih ho es c hi => ?_) (fun _ es c hi => ⟨rfl, hi, rfl⟩) fun x xs h1 h2 ho es c hi => ?_
 ·obtain ⟨ho1, ho2⟩ := ok_node ho
  by_cases h6 : k = 6
  ·simp only [NodeOk] at ho1
   have hl : l = [] := List.eq_nil_of_length_eq_zero (ho1.2.2.1 (.inr (.inr h6)))
   subst hl
   simp only [mtT, subT, if_pos h6, firstT, firstL, hc]
   cases hb : boundM es n with
   | some o =>
    obtain ⟨rfl, hm⟩ := boundM_inv hi hb
    simp only [sameB_refl, if_true]
    refine ⟨trivial, setM_inv hi, ?_⟩
    rw [setM_keys, addV, if_pos (by simpa using hm)]
   | none =>
    simp only
    refine ⟨trivial, fun e he => ?_, ?_⟩
    ·rcases List.mem_append.1 he with he | he
     ·exact hi e he
     ·obtain rfl := List.mem_singleton.1 he; rfl
    ·rw [addV, if_neg (by simpa using boundM_key hb)]; simp
  ·simp only [mtT, subT, if_neg h6, firstT, Ty.kind, Ty.l, if_true]
   exact ih ho2 es c hi
 ·simp only [okL, Bool.and_eq_true] at ho
  obtain ⟨a1, a2, a3⟩ := h1 ho.1 es c hi
  simp only [mtL, subL, a1, if_true, firstL]
  rw [← a3]
  exact h2 ho.2 _ _ a2
theorem itoa_nums {n : Int} (h0 : 0 ≤ n) (h1 : n < 1000) : digs (itoaL n) = true ∧ numV (itoaL n) = n := by
 have d : ∀ {k : Nat}, k < 10 → isDg (dig k) = true := fun h => (dg_of h).1
 have v : ∀ {k : Nat}, k < 10 → ((dig k).toNat : Int) - 48 = k := fun {k} h => by rw [(dg_of h).2]; omega
 unfold itoaL itoaN
 split
 ·rename_i h
  refine ⟨by simp [digs, d h], ?_⟩
  simp only [numV, numA, v h]; omega
 split
 ·rename_i h g
  have ha : n.toNat / 10 < 10 := by omega
  have hb : n.toNat % 10 < 10 := by omega
  refine ⟨by simp [digs, d ha, d hb], ?_⟩
  simp only [numV, numA, v ha, v hb]; omega
 ·rename_i h g
  have ha : n.toNat / 100 < 10 := by omega
  have hb : n.toNat / 10 % 10 < 10 := by omega
  have hc : n.toNat % 10 < 10 := by omega
  refine ⟨by simp [digs, d ha, d hb, d hc], ?_⟩
  simp only [numV, numA, v ha, v hb, v hc]; omega
def pvs (σ : Int → Ty) (vs : List Int) : Ps := vs.map fun n => (writeS (varT n), writeS (σ n))
theorem write_var {a b : Int} (ha : 0 ≤ a ∧ a < 1000) (hb : 0 ≤ b ∧ b < 1000) (h : writeS (varT a) = writeS (varT b)) : a = b := by
 have e : ∀ n, writeS (varT n) = 39 :: itoaL n := fun n => by simp [varT, writeS, writeL, befS, aftS]
 rw [e, e] at h
 have h2 := (List.cons.inj h).2
 have h3 := (itoa_nums ha.1 ha.2).2
 rw [h2, (itoa_nums hb.1 hb.2).2] at h3
 exact h3.symm
theorem idx_pvs {σ : Int → Ty} {n : Int} (hn : 0 ≤ n ∧ n < 1000) : ∀ (vs : List Int), (∀ m ∈ vs, 0 ≤ m ∧ m < 1000) → ∀ i, (match idxP (pvs σ vs) (writeS (varT n), writeS (σ n)) i with | some j => boundO (numB vs i) n = some (varT j) | none => n ∉ vs)
 | [], _, i => by simp [pvs, idxP]
 | m :: vs, h, i => by
  have hm := h m (List.mem_cons_self ..)
  have ih := idx_pvs (σ := σ) hn vs (fun x hx => h x (List.mem_cons_of_mem _ hx)) (i + 1)
  simp only [pvs, List.map_cons, idxP, numB, boundO] at ih ⊢
  by_cases hnm : n = m
  ·subst hnm; simp
  ·rw [if_neg (fun he => hnm (write_var hn hm (congrArg Prod.fst he))), if_neg (fun he => hnm he.symm)]
   split at ih
   ·exact ih
   ·simp only [List.mem_cons, not_or]
    exact ⟨hnm, ih⟩
theorem numB_app : ∀ (vs ws : List Int) (i : Nat), numB (vs ++ ws) i = numB vs i ++ numB ws (i + vs.length)
 | [], ws, i => by simp [numB]
 | v :: vs, ws, i => by
  simp only [List.cons_append, numB, numB_app vs ws (i + 1), List.length_cons]
  rw [show i + 1 + vs.length = i + (vs.length + 1) by omega]
theorem boundO_app {l m : List (Int × Ty)} {n : Int} {u : Ty} (h : boundO l n = some u) : boundO (l ++ m) n = some u := by
 induction l with
 | nil => cases h
 | cons x l ih =>
  simp only [boundO, List.cons_append] at h ⊢
  split
  ·rename_i he; rw [if_pos he] at h; exact h
  ·rename_i he; rw [if_neg he] at h; exact ih h
theorem boundO_new {l m : List (Int × Ty)} {n : Int} (h : n ∉ l.map fun x => x.1) : boundO (l ++ m) n = boundO m n := by
 induction l with
 | nil => rfl
 | cons x l ih =>
  simp only [List.map_cons, List.mem_cons, not_or] at h
  simp only [List.cons_append, boundO, if_neg (fun e => h.1 (Eq.symm e))]
  exact ih h.2
theorem numB_fst : ∀ (vs : List Int) (i : Nat), (numB vs i).map (fun x => x.1) = vs
 | [], _ => rfl
 | v :: vs, i => by simp only [numB, List.map_cons, numB_fst vs (i + 1)]
end Kd
end
section
set_option linter.unusedSimpArgs false
set_option linter.unusedVariables false
namespace Kd
open Go Go.Am Go.Proofs.YtnmolpkkemljoaaGreatDoor
theorem first_pre : (∀ (t : Ty) (vs : List Int), ∃ ws, firstT t vs = vs ++ ws) ∧ ∀ (l : List Ty) (vs : List Int), ∃ ws, firstL l vs = vs ++ ws :=
 Ty.ind (fun k n b l ih vs => by
  simp only [firstT]
  obtain ⟨ws, h⟩ := ih (if k = 6 then addV vs n else vs)
  rw [h]
  by_cases h6 : k = 6
  ·rw [if_pos h6, addV]
   split
   ·exact ⟨ws, rfl⟩
   ·exact ⟨[n] ++ ws, by simp⟩
  ·rw [if_neg h6]; exact ⟨ws, rfl⟩) (fun vs => ⟨[], by simp [firstL]⟩) fun x xs h1 h2 vs => by
   obtain ⟨ws, h⟩ := h1 vs
   obtain ⟨ws', h'⟩ := h2 (firstT x vs)
   exact ⟨ws ++ ws', by simp only [firstL]; rw [h', h]; simp⟩
theorem write_nl (n : Int) (b : Bool) : writeS (.mk 6 n b []) = writeS (varT n) := by simp [varT, writeS]
theorem pvs_len (σ : Int → Ty) (vs : List Int) : (pvs σ vs).length = vs.length := by simp [pvs]
theorem clean_var (n : Int) : cleanT (varT n) = varT n := by simp [varT, cleanT, cleanL, nilB]
theorem boundO_numB {vs : List Int} {n : Int} {i : Nat} {u : Ty} (h : boundO (numB vs i) n = some u) : n ∈ vs := by
 induction vs generalizing i with
 | nil => cases h
 | cons v vs ih =>
  simp only [numB, boundO] at h
  split at h
  ·rename_i he; exact he ▸ List.mem_cons_self ..
  ·exact List.mem_cons_of_mem _ (ih h)
theorem cm_sub {σ : Int → Ty} :
  (∀ t, okT t = true → ∀ vs : List Int, (∀ m ∈ vs, 0 ≤ m ∧ m < 1000) → (cmF t (subT σ t) (pvs σ vs)).ps = pvs σ (firstT t vs) ∧ ∀ ws, (cmF t (subT σ t) (pvs σ vs)).t = withT (numB (firstT t vs ++ ws) 0) t) ∧
  ∀ l, okL l = true → ∀ vs : List Int, (∀ m ∈ vs, 0 ≤ m ∧ m < 1000) → (cmG l (subL σ l) (pvs σ vs)).ps = pvs σ (firstL l vs) ∧ ∀ ws, (cmG l (subL σ l) (pvs σ vs)).l = withL (numB (firstL l vs ++ ws) 0) l := by
 refine Ty.ind (fun k n b l ih ho vs hv => ?_) (fun _ vs hv => ⟨rfl, fun _ => rfl⟩) fun x xs h1 h2 ho vs hv => ?_
 ·obtain ⟨ho1, ho2⟩ := ok_node ho
  by_cases h6 : k = 6
  ·simp only [NodeOk] at ho1
   have hl : l = [] := List.eq_nil_of_length_eq_zero (ho1.2.2.1 (.inr (.inr h6)))
   have hn := ho1.2.2.2.2.2 h6
   subst hl; subst h6
   have hf : firstT (.mk 6 n b []) vs = addV vs n := by simp [firstT, firstL]
   have hs : subT σ (.mk 6 n b []) = σ n := by simp [subT]
   have hw : ∀ bs, withT bs (.mk 6 n b []) = cleanT (boundT bs n) := fun bs => by simp [withT]
   rw [hf, hs]
   simp only [cmF, not_true_eq_false, and_false, if_false, write_nl, hw]
   have hx := idx_pvs (σ := σ) hn vs hv 0
   split at hx
   ·rename_i j hj
    try rw [hj]
    have hm := boundO_numB hx
    have ha : addV vs n = vs := by rw [addV, if_pos (by simpa using hm)]
    rw [ha]
    refine ⟨rfl, fun ws => ?_⟩
    simp only [numB_app, boundT, boundO_app hx, Option.getD_some, clean_var]
   ·rename_i hj
    try rw [hj]
    have ha : addV vs n = vs ++ [n] := by rw [addV, if_neg (by simpa using hx)]
    rw [ha]
    refine ⟨by simp [pvs], fun ws => ?_⟩
    have hb : boundO (numB (vs ++ [n] ++ ws) 0) n = some (varT vs.length) := by
     rw [List.append_assoc, numB_app, boundO_new (by rw [numB_fst]; exact hx)]
     simp [numB, boundO]
    simp only [boundT, hb, Option.getD_some, clean_var, pvs_len]
  ·have hs : subT σ (.mk k n b l) = .mk k 0 (nilB l) (subL σ l) := by simp only [subT, if_neg h6]
   have hf : firstT (.mk k n b l) vs = firstL l vs := by simp only [firstT, if_neg h6]
   obtain ⟨r1, r2⟩ := ih ho2 vs hv
   rw [hs, hf]
   simp only [cmF, Ty.kind, Ty.l, h6, not_false_eq_true, and_self, if_true, withT, if_false]
   exact ⟨r1, fun ws => by rw [r2 ws]⟩
 ·simp only [okL, Bool.and_eq_true] at ho
  obtain ⟨a1, a2⟩ := h1 ho.1 vs hv
  have hv2 : ∀ m ∈ firstT x vs, 0 ≤ m ∧ m < 1000 := first_of.1 x vs (okT_range x ho.1) hv
  obtain ⟨b1, b2⟩ := h2 ho.2 (firstT x vs) hv2
  obtain ⟨ws', hpre⟩ := first_pre.2 xs (firstT x vs)
  simp only [cmG, subL, firstL, withL]
  rw [a1]
  refine ⟨b1, fun ws => ?_⟩
  rw [b2 ws, a2 (ws' ++ ws), hpre]
  simp
theorem cm_num {σ : Int → Ty} {t : Ty} (ho : okT t = true) : cmT t (subT σ t) [] = numT t := by
 have := (cm_sub (σ := σ)).1 t ho [] (by simp)
 have h2 := this.2 []
 rw [List.append_nil] at h2
 exact h2
theorem same_eq : (∀ a b, sameB a b = true → cleanT a = cleanT b) ∧ ∀ l m, l.length = m.length → sameL l m = true → cleanL l = cleanL m := by
 refine Ty.ind (P := fun a => ∀ b, sameB a b = true → cleanT a = cleanT b) (Q := fun l => ∀ m, l.length = m.length → sameL l m = true → cleanL l = cleanL m) (fun k n b l ih u h => ?_) (fun m h1 h2 => ?_) fun x xs h1 h2 m hl h => ?_
 ·obtain ⟨k', n', b', l'⟩ := u
  simp only [sameB, Bool.and_eq_true, Bool.or_eq_true, decide_eq_true_eq, Bool.not_eq_true', decide_eq_false_iff_not] at h
  obtain ⟨rfl, hn, hl, hs⟩ := h
  have e := ih l' hl hs
  simp only [cleanT, e, nilB, hl]
  by_cases h6 : k = 6
  ·rw [hn.resolve_left (by simpa using h6)]
  ·simp only [if_neg h6]
 ·have : m = [] := List.length_eq_zero_iff.1 h1.symm
  subst this; rfl
 ·cases m with
  | nil => simp at hl
  | cons y ys =>
   simp only [sameL, Bool.and_eq_true] at h
   simp only [cleanL, h1 y h.1, h2 ys (by simpa using hl) h.2]
end Kd
end
section
set_option linter.unusedSimpArgs false
set_option linter.unusedVariables false
namespace Kd
open Go Go.Am Go.Proofs.YtnmolpkkemljoaaGreatDoor
def lk (es : Es) (n : Int) : Ty := (boundM es n).getD (varT n)
def Ext (a b : Es) : Prop := ∀ n o, boundM a n = some o → boundM b n = some o
def mtCl (es : Es) : Prop := ∀ e ∈ es, cleanT e.2.1 = e.2.1
theorem Ext.refl (a : Es) : Ext a a := fun _ _ h => h
theorem Ext.trans {a b c : Es} (h : Ext a b) (k : Ext b c) : Ext a c := fun n o x => k n o (h n o x)
theorem boundM_set {es : Es} {n : Int} {o u : Ty} (h : boundM es n = some o) : ∀ k, boundM (setM es n u) k = if k = n then some u else boundM es k := by
 induction es with
 | nil => cases h
 | cons x l ih =>
  intro k
  simp only [boundM] at h
  simp only [setM]
  by_cases hn : n = x.1
  ·rw [if_pos hn]
   simp only [boundM]
   rw [← hn]
   by_cases hk : k = n
   ·simp [hk]
   ·simp [hk]
  ·rw [if_neg hn] at h ⊢
   simp only [boundM]
   by_cases hk : k = x.1
   ·have : ¬ k = n := fun e => hn (e ▸ hk)
    rw [if_pos hk, if_neg this, if_pos hk]
   ·rw [if_neg hk, ih h k, if_neg hk]
theorem boundM_app {es m : Es} {n : Int} {o : Ty} (h : boundM es n = some o) : boundM (es ++ m) n = some o := by
 induction es with
 | nil => cases h
 | cons x l ih =>
  simp only [boundM, List.cons_append] at h ⊢
  split
  ·rename_i he; rw [if_pos he] at h; exact h
  ·rename_i he; rw [if_neg he] at h; exact ih h
theorem boundM_push {es : Es} {n : Int} {u : Ty} {c : Nat} (h : boundM es n = none) : boundM (es ++ [(n, u, c)]) n = some u := by
 induction es with
 | nil => simp [boundM]
 | cons x l ih =>
  simp only [boundM, List.cons_append] at h ⊢
  split
  ·rename_i he; rw [if_pos he] at h; cases h
  ·rename_i he; rw [if_neg he] at h; exact ih h
theorem ok_len {k n n' : Int} {b b' : Bool} {l l' : List Ty} (h : okT (.mk k n b l) = true) (h' : okT (.mk k n' b' l') = true) : l.length = l'.length := by
 have h1 := (ok_node h).1
 have h2 := (ok_node h').1
 simp only [NodeOk] at h1 h2
 omega
theorem mt_sound :
  (∀ u, okT u = true → ∀ (v : Ty) (es : Es) (c : Nat), okT v = true → mtCl es → (mtT u v es c).ok = true → mtCl (mtT u v es c).es ∧ Ext es (mtT u v es c).es ∧ ∀ es'', Ext (mtT u v es c).es es'' → subT (lk es'') u = cleanT v) ∧
  ∀ l, okL l = true → ∀ (m : List Ty) (es : Es) (c : Nat), l.length = m.length → okL m = true → mtCl es → (mtL l m es c).ok = true → mtCl (mtL l m es c).es ∧ Ext es (mtL l m es c).es ∧ ∀ es'', Ext (mtL l m es c).es es'' → subL (lk es'') l = cleanL m := by
 refine Ty.ind (fun k n b l ih ho v es c hv hc hok => ?_) (fun _ m es c hlen _ hc _ => ?_) fun x xs h1 h2 ho m es c hlen hm hc hok => ?_
 ·obtain ⟨ho1, ho2⟩ := ok_node ho
  by_cases h6 : k = 6
  ·simp only [NodeOk] at ho1
   have hl : l = [] := List.eq_nil_of_length_eq_zero (ho1.2.2.1 (.inr (.inr h6)))
   subst hl; subst h6
   have hs : ∀ τ, subT τ (.mk 6 n b []) = τ n := fun τ => by simp [subT]
   simp only [mtT, if_true, hs] at hok ⊢
   cases hb : boundM es n with
   | none =>
    simp only [hb] at hok ⊢
    refine ⟨fun e he => ?_, fun k o h => boundM_app h, fun es'' he => ?_⟩
    ·rcases List.mem_append.1 he with he | he
     ·exact hc e he
     ·obtain rfl := List.mem_singleton.1 he
      exact clean_clean.1 v
    ·unfold lk
     rw [he n _ (boundM_push hb)]; rfl
   | some o =>
    simp only [hb] at hok ⊢
    by_cases hs : sameB o v = true
    ·rw [if_pos hs] at hok ⊢
     have hoc : cleanT o = o := by
      obtain ⟨y, hy, rfl⟩ := boundM_mem hb
      exact hc y hy
     have hov : o = cleanT v := hoc.symm.trans (same_eq.1 o v hs)
     refine ⟨fun e he => ?_, fun k o' h => ?_, fun es'' he => ?_⟩
     ·have : ∀ (es : Es), mtCl es → ∀ e ∈ setM es n (cleanT v), cleanT e.2.1 = e.2.1 := by
       intro es
       induction es with
       | nil => intro h e he; exact h e he
       | cons y l ih =>
        intro h e he
        simp only [setM] at he
        split at he
        ·rcases List.mem_cons.1 he with rfl | he
         ·exact clean_clean.1 v
         ·exact h e (List.mem_cons_of_mem _ he)
        ·rcases List.mem_cons.1 he with rfl | he
         ·exact h _ (List.mem_cons_self ..)
         ·exact ih (fun z hz => h z (List.mem_cons_of_mem _ hz)) e he
      exact this es hc e he
     ·rw [boundM_set hb k]
      by_cases hk : k = n
      ·subst hk
       rw [hb] at h
       rw [if_pos rfl, ← hov]; exact h
      ·rw [if_neg hk]; exact h
     ·unfold lk
      rw [he n (cleanT v) (by rw [boundM_set hb n, if_pos rfl])]; rfl
    ·rw [if_neg hs] at hok; cases hok
  ·obtain ⟨k', n', b', l'⟩ := v
   by_cases hk : k = k'
   ·subst hk
    simp only [mtT, if_neg h6, Ty.kind, Ty.l, if_true] at hok ⊢
    have hlen := ok_len ho hv
    obtain ⟨a1, a2, a3⟩ := ih ho2 l' es c hlen (ok_node hv).2 hc hok
    refine ⟨a1, a2, fun es'' he => ?_⟩
    simp only [subT, if_neg h6, cleanT, a3 es'' he, nilB, hlen]
   ·exfalso
    simp [mtT, h6, hk, Ty.kind] at hok
 ·have : m = [] := List.length_eq_zero_iff.1 hlen.symm
  subst this
  exact ⟨hc, Ext.refl _, fun _ _ => rfl⟩
 ·cases m with
  | nil => simp at hlen
  | cons y ys =>
   simp only [okL, Bool.and_eq_true] at ho hm
   simp only [mtL] at hok ⊢
   by_cases hx : (mtT x y es c).ok = true
   ·rw [if_pos hx] at hok ⊢
    obtain ⟨a1, a2, a3⟩ := h1 ho.1 y es c hm.1 hc hx
    obtain ⟨b1, b2, b3⟩ := h2 ho.2 ys _ _ (by simpa using hlen) hm.2 a1 hok
    refine ⟨b1, a2.trans b2, fun es'' he => ?_⟩
    simp only [subL, cleanL, a3 es'' (b2.trans he), b3 es'' he]
   ·rw [if_neg hx] at hok; cases hok
end Kd
end
section
set_option maxRecDepth 100000
set_option linter.unusedSimpArgs false
set_option linter.unusedVariables false
namespace Kd
open Go Go.Am Go.Proofs.YtnmolpkkemljoaaGreatDoor
theorem hasP_app (p r : List UInt8) : hasP (p ++ r) p = true := hasP_iff.2 ⟨by simp, by simp⟩
theorem cutP_app (p r : List UInt8) : cutP (p ++ r) p = r := by rw [cutP_yes (hasP_app p r)]; simp
theorem hasP_ne {x y : UInt8} {s q : List UInt8} (h : x ≠ y) : hasP (x :: s) (y :: q) = false := by
 cases hh : hasP (x :: s) (y :: q) with
 | false => rfl
 | true =>
  have := (hasP_iff.1 hh).2
  simp only [List.length_cons, List.take_succ_cons] at this
  exact absurd (List.cons.inj this).1 h
theorem hasP_ne2 {a x y : UInt8} {s q : List UInt8} (h : x ≠ y) : hasP (a :: x :: s) (a :: y :: q) = false := by
 cases hh : hasP (a :: x :: s) (a :: y :: q) with
 | false => rfl
 | true =>
  have := (hasP_iff.1 hh).2
  simp only [List.length_cons, List.take_succ_cons] at this
  exact absurd (List.cons.inj (List.cons.inj this).2).1 h
theorem dgN_app {r : List UInt8} (hr : dgN r = 0) : ∀ s : List UInt8, s.all isDg = true → dgN (s ++ r) = s.length
 | [], _ => hr
 | c :: l, h => by
  simp only [List.all_cons, Bool.and_eq_true] at h
  simp only [List.cons_append, dgN, h.1, if_true, List.length_cons, dgN_app hr l h.2]
theorem itoa_digs {n : Int} (h0 : 0 ≤ n) (h1 : n < 1000) : digs (itoaL n) = true ∧ numV (itoaL n) = n := by
 have d : ∀ {k : Nat}, k < 10 → isDg (dig k) = true := fun h => (dg_of h).1
 have v : ∀ {k : Nat}, k < 10 → ((dig k).toNat : Int) - 48 = k := fun {k} h => by rw [(dg_of h).2]; omega
 unfold itoaL itoaN
 split
 ·rename_i h
  refine ⟨by simp [digs, d h], ?_⟩
  simp only [numV, numA, v h]; omega
 split
 ·rename_i h g
  have ha : n.toNat / 10 < 10 := by omega
  have hb : n.toNat % 10 < 10 := by omega
  refine ⟨by simp [digs, d ha, d hb], ?_⟩
  simp only [numV, numA, v ha, v hb]; omega
 ·rename_i h g
  have ha : n.toNat / 100 < 10 := by omega
  have hb : n.toNat / 10 % 10 < 10 := by omega
  have hc : n.toNat % 10 < 10 := by omega
  refine ⟨by simp [digs, d ha, d hb, d hc], ?_⟩
  simp only [numV, numA, v ha, v hb, v hc]; omega
theorem rn_app {n : Int} (h0 : 0 ≤ n) (h1 : n < 1000) {r : List UInt8} (hr : dgN r = 0) : rnF (itoaL n ++ r) = (n, r, true) := by
 obtain ⟨hd, hv⟩ := itoa_digs h0 h1
 have hd' := hd
 simp only [digs, Bool.and_eq_true, decide_eq_true_eq] at hd'
 have hn := dgN_app hr (itoaL n) hd'.2.2
 simp only [rnF, hn, List.take_left', List.drop_left', hv, decide_eq_true_eq, Bool.and_eq_true, hd'.1, hd'.2.1, and_self, if_true, decide_true]
theorem noDg_cons {c : UInt8} {r : List UInt8} (h : isDg c = false) : dgN (c :: r) = 0 := by simp [dgN, h]
theorem rd_write : ∀ (N : Nat) (t : Ty) (r : List UInt8), okT t = true → cnt t ≤ N → dgN r = 0 → rdF N (writeS t ++ r) = (cleanT t, r, true)
 | 0, t, _, _, h, _ => by have := cnt_pos t; omega
 | N + 1, .mk k n b l, r, h, hc, hr => by
  obtain ⟨hn, hl⟩ := ok_node h
  simp only [NodeOk] at hn
  simp only [cnt] at hc
  have h46 : isDg 93 = false := by decide
  have h41 : isDg 41 = false := by decide
  have h32 : isDg 32 = false := by decide
  have two : k = 2 ∨ k = 3 ∨ k = 5 → rdF (N + 1) (writeS (.mk k n b l) ++ r) = (cleanT (.mk k n b l), r, true) := by
   intro hk
   have hlen : l.length = 2 := by omega
   match l, hlen, hl, hc with
   | [x, y], _, hl, hc =>
    simp only [okL, Bool.and_eq_true, Bool.and_true] at hl
    simp only [cntL] at hc
    have hk6 : ¬ k = 6 := by omega
    have hw : writeS (.mk k n b [x, y]) ++ r = 40 :: (writeS x ++ (btwS k ++ (writeS y ++ 41 :: r))) := by
     rcases hk with rfl | rfl | rfl <;> simp [writeS, writeL, befS, btwS, aftS]
    have hcl : cleanT (.mk k n b [x, y]) = .mk k 0 false [cleanT x, cleanT y] := by
     simp only [cleanT, cleanL, if_neg hk6, nilB, List.length_cons, List.length_nil]; rfl
    have i1 := rd_write N x (btwS k ++ (writeS y ++ 41 :: r)) hl.1 (by omega) (by rcases hk with rfl | rfl | rfl <;> exact noDg_cons h32)
    have i2 := rd_write N y (41 :: r) hl.2 (by omega) (noDg_cons h41)
    have ho : opF (btwS k ++ (writeS y ++ 41 :: r)) = some (k, writeS y ++ 41 :: r) := by
     unfold opF
     rcases hk with rfl | rfl | rfl
     ·have e : btwS 2 = [32, 42, 32] := rfl
      rw [e, hasP_app, cutP_app]; rfl
     ·have e : btwS 3 = [32, 43, 32] := rfl
      rw [e, hasP_app, cutP_app, show hasP ([32, 43, 32] ++ (writeS y ++ 41 :: r)) [32, 42, 32] = false from hasP_ne2 (by decide)]; rfl
     ·have e : btwS 5 = [32, 45, 62, 32] := rfl
      rw [e, hasP_app, cutP_app, show hasP ([32, 45, 62, 32] ++ (writeS y ++ 41 :: r)) [32, 42, 32] = false from hasP_ne2 (by decide), show hasP ([32, 45, 62, 32] ++ (writeS y ++ 41 :: r)) [32, 43, 32] = false from hasP_ne2 (by decide)]; rfl
    have e40 : cutP (40 :: (writeS x ++ (btwS k ++ (writeS y ++ 41 :: r)))) [40] = writeS x ++ (btwS k ++ (writeS y ++ 41 :: r)) := cutP_app [40] _
    have e41 : cutP (41 :: r) [41] = r := cutP_app [41] _
    have p40 : hasP (40 :: (writeS x ++ (btwS k ++ (writeS y ++ 41 :: r)))) [40] = true := hasP_app [40] _
    have p41 : hasP (41 :: r) [41] = true := hasP_app [41] _
    rw [hw, hcl]
    unfold rdF
    rw [show hasP (40 :: (writeS x ++ (btwS k ++ (writeS y ++ 41 :: r)))) [117, 110, 105, 116] = false from hasP_ne (by decide),
     show hasP (40 :: (writeS x ++ (btwS k ++ (writeS y ++ 41 :: r)))) [105, 110, 116] = false from hasP_ne (by decide),
     show hasP (40 :: (writeS x ++ (btwS k ++ (writeS y ++ 41 :: r)))) [39] = false from hasP_ne (by decide),
     show hasP (40 :: (writeS x ++ (btwS k ++ (writeS y ++ 41 :: r)))) [91] = false from hasP_ne (by decide), p40, e40, i1]
    simp only [Bool.false_eq_true, if_false, if_true, ho, i2, e41, p41]
  rcases okT_kind h with rfl | rfl | rfl | rfl | rfl | rfl | rfl
  ·have : l = [] := List.length_eq_zero_iff.1 (by omega)
   subst this
   have hw : writeS (.mk 0 n b []) ++ r = [117, 110, 105, 116] ++ r := by simp [writeS, writeL, befS, btwS, aftS]
   rw [hw]
   unfold rdF
   rw [hasP_app, cutP_app]
   simp [cleanT, cleanL, nilB, zeroT]
  ·have : l = [] := List.length_eq_zero_iff.1 (by omega)
   subst this
   have hw : writeS (.mk 1 n b []) ++ r = [105, 110, 116] ++ r := by simp [writeS, writeL, befS, btwS, aftS]
   rw [hw]
   unfold rdF
   rw [hasP_app, cutP_app, show hasP ([105, 110, 116] ++ r) [117, 110, 105, 116] = false from hasP_ne (by decide)]
   simp [cleanT, cleanL, nilB]
  ·exact two (.inl rfl)
  ·exact two (.inr (.inl rfl))
  ·have hlen : l.length = 1 := by omega
   match l, hlen, hl, hc with
   | [x], _, hl, hc =>
    simp only [okL, Bool.and_eq_true, Bool.and_true] at hl
    simp only [cntL] at hc
    have hw : writeS (.mk 4 n b [x]) ++ r = [91] ++ (writeS x ++ 93 :: r) := by simp [writeS, writeL, befS, btwS, aftS]
    have i1 := rd_write N x (93 :: r) hl (by omega) (noDg_cons h46)
    have e93 : cutP (93 :: r) [93] = r := cutP_app [93] _
    have p93 : hasP (93 :: r) [93] = true := hasP_app [93] _
    rw [hw]
    unfold rdF
    rw [hasP_app, cutP_app, show hasP ([91] ++ (writeS x ++ 93 :: r)) [117, 110, 105, 116] = false from hasP_ne (by decide),
     show hasP ([91] ++ (writeS x ++ 93 :: r)) [105, 110, 116] = false from hasP_ne (by decide),
     show hasP ([91] ++ (writeS x ++ 93 :: r)) [39] = false from hasP_ne (by decide), i1]
    simp only [Bool.false_eq_true, if_false, if_true, e93, p93, cleanT, cleanL, nilB, List.length_cons, List.length_nil]
    rfl
  ·exact two (.inr (.inr rfl))
  ·have : l = [] := List.length_eq_zero_iff.1 (by omega)
   subst this
   have hw : writeS (.mk 6 n b []) ++ r = [39] ++ (itoaL n ++ r) := by simp [writeS, writeL, befS, btwS, aftS]
   have hf := rn_app (n := n) (by omega) (by omega) hr
   rw [hw]
   unfold rdF
   rw [hasP_app, cutP_app, show hasP ([39] ++ (itoaL n ++ r)) [117, 110, 105, 116] = false from hasP_ne (by decide),
    show hasP ([39] ++ (itoaL n ++ r)) [105, 110, 116] = false from hasP_ne (by decide)]
   simp only [Bool.false_eq_true, if_false, if_true, rnV, rnR, rnB, hf, cleanT, cleanL, nilB, varT, List.length_nil, decide_true]
def blk (s : List UInt8) : Nat := s.count 32
end Kd
end
section
set_option maxRecDepth 100000
set_option linter.unusedSimpArgs false
set_option linter.unusedVariables false
namespace Kd
open Go.Am Go.Proofs.YtnmolpkkemljoaaGreatDoor
def idxN : List Int → Int → Nat → Nat
 | [], _, i => i
 | x :: l, n, i => if x = n then i else idxN l n (i + 1)
theorem idxN_bound : ∀ (xs : List Int) (n : Int) (i : Nat), n ∈ xs → boundO (numB xs i) n = some (varT (idxN xs n i : Nat))
 | x :: xs, n, i, h => by
  simp only [numB, boundO, idxN]
  by_cases hx : x = n
  ·rw [if_pos hx, if_pos hx]
  ·rw [if_neg hx, if_neg hx]
   exact idxN_bound xs n (i + 1) ((List.mem_cons.1 h).elim (fun e => absurd e.symm hx) id)
theorem idxN_at : ∀ (xs : List Int) (i j : Nat), xs.Nodup → (h : j < xs.length) → idxN xs xs[j] i = i + j
 | x :: xs, i, 0, _, _ => by simp [idxN]
 | x :: xs, i, j + 1, hn, h => by
  simp only [List.length_cons, List.getElem_cons_succ] at h ⊢
  have hn2 := List.nodup_cons.1 hn
  have hne : x ≠ xs[j] := fun e => hn2.1 (e ▸ List.getElem_mem (by omega))
  simp only [idxN, if_neg hne]
  rw [idxN_at xs (i + 1) j hn2.2 (by omega)]
  omega
end Kd
noncomputable section
namespace Go.Proofs.YtnmolpkkemljoaaGreatDoor
open Go Go.Am Kd
end Go.Proofs.YtnmolpkkemljoaaGreatDoor
end
end
section
set_option linter.unusedSimpArgs false
set_option linter.unusedVariables false
namespace Kd
open Go Go.Am Go.Proofs.YtnmolpkkemljoaaGreatDoor
theorem write_clean : (∀ t, writeS (cleanT t) = writeS t) ∧ ∀ l, ∀ s f, writeL s (cleanL l) f = writeL s l f :=
 Ty.ind (fun k n b l ih => by
  by_cases h6 : k = 6 <;> simp [cleanT, writeS, ih, h6]) (fun _ _ => rfl) fun x xs h1 h2 s f => by simp only [cleanL, writeL, h1, h2]
theorem write_inj {a b : Ty} (ha : okT a = true) (hb : okT b = true) (h : writeS a = writeS b) : cleanT a = cleanT b := by
 have h1 := rd_write (cnt a + cnt b) a [] ha (by omega) rfl
 have h2 := rd_write (cnt a + cnt b) b [] hb (by omega) rfl
 rw [h, h2] at h1
 exact (congrArg Prod.fst h1).symm
theorem idxP_app {p : Tx × Tx} {ws : Ps} : ∀ {ps : Ps} {i j : Nat}, idxP ps p i = some j → idxP (ps ++ ws) p i = some j
 | [], i, j, h => by cases h
 | y :: l, i, j, h => by
  simp only [idxP, List.cons_append] at h ⊢
  split
  ·rename_i he; rw [if_pos he] at h; exact h
  ·rename_i he; rw [if_neg he] at h; exact idxP_app h
theorem idxP_push {p : Tx × Tx} {ws : Ps} : ∀ {ps : Ps} {i : Nat}, idxP ps p i = none → idxP (ps ++ p :: ws) p i = some (i + ps.length)
 | [], i, h => by simp [idxP]
 | y :: l, i, h => by
  simp only [idxP, List.cons_append] at h ⊢
  split
  ·rename_i he; rw [if_pos he] at h; cases h
  ·rename_i he
   rw [if_neg he] at h
   rw [idxP_push h, List.length_cons, show i + 1 + l.length = i + (l.length + 1) by omega]
theorem idxP_get {p : Tx × Tx} : ∀ {ps : Ps} {i j : Nat}, idxP ps p i = some j → i ≤ j ∧ ps[j - i]? = some p
 | [], i, j, h => by cases h
 | y :: l, i, j, h => by
  simp only [idxP] at h
  split at h
  ·rename_i he; cases h; simp [he]
  ·obtain ⟨h1, h2⟩ := idxP_get h
   refine ⟨by omega, ?_⟩
   rw [show j - i = (j - (i + 1)) + 1 by omega, List.getElem?_cons_succ]
   exact h2
theorem idxP_lt {p : Tx × Tx} {ps : Ps} {j : Nat} (h : idxP ps p 0 = some j) : j < ps.length := by
 have := (idxP_get h).2
 exact (List.getElem?_eq_some_iff.1 this).1
mutual
def caF (P : Ps) : Ty → Ty → Ty
 | .mk k n b l, v => if k = v.kind ∧ ¬ k = 6 then .mk k 0 (nilB l) (caG P l v.l) else varT ((idxP P (writeS (.mk k n b l), writeS v) 0).getD 0 : Nat)
def caG (P : Ps) : List Ty → List Ty → List Ty
 | x :: xs, y :: ys => caF P x y :: caG P xs ys
 | _, _ => []
end
theorem caG_len (P : Ps) : ∀ (l m : List Ty), l.length = m.length → (caG P l m).length = l.length
 | [], _, _ => rfl
 | x :: xs, [], h => by simp at h
 | x :: xs, y :: ys, h => by
  simp only [caG, List.length_cons]
  rw [caG_len P xs ys (by simpa using h)]
theorem nilB_len {α β : Type} {l : List α} {m : List β} (h : l.length = m.length) : nilB l = nilB m := by simp only [nilB, h]
noncomputable section
open Classical in
def pick (s : Option Tx) : Ty := if h : ∃ t, okT t = true ∧ some (writeS t) = s then cleanT (Classical.choose h) else varT 0
def s1 (P : Ps) (i : Int) : Ty := pick (P[i.toNat]?.map fun x => x.1)
def s2 (P : Ps) (i : Int) : Ty := pick (P[i.toNat]?.map fun x => x.2)
theorem pick_of {t : Ty} (h : okT t = true) : pick (some (writeS t)) = cleanT t := by
 have hx : ∃ u, okT u = true ∧ some (writeS u) = some (writeS t) := ⟨t, h, rfl⟩
 unfold pick
 rw [dif_pos hx]
 have hc := Classical.choose_spec hx
 exact write_inj hc.1 h (Option.some.inj hc.2)
theorem cm_pre : (∀ (t u : Ty) (ps : Ps), ∃ ws, (cmF t u ps).ps = ps ++ ws) ∧ ∀ (l m : List Ty) (ps : Ps), ∃ ws, (cmG l m ps).ps = ps ++ ws := by
 refine Ty.ind (P := fun t => ∀ (u : Ty) (ps : Ps), ∃ ws, (cmF t u ps).ps = ps ++ ws) (Q := fun l => ∀ (m : List Ty) (ps : Ps), ∃ ws, (cmG l m ps).ps = ps ++ ws) (fun k n b l ih u ps => ?_) (fun m ps => ⟨[], by simp [cmG]⟩) fun x xs h1 h2 m ps => ?_
 ·simp only [cmF]
  split
  ·exact ih _ _
  ·split
   ·exact ⟨[], by simp⟩
   ·exact ⟨_, rfl⟩
 ·cases m with
  | nil => exact ⟨[], by simp [cmG]⟩
  | cons y ys =>
   simp only [cmG]
   obtain ⟨w1, e1⟩ := h1 y ps
   obtain ⟨w2, e2⟩ := h2 ys (cmF x y ps).ps
   exact ⟨w1 ++ w2, by rw [e2, e1, List.append_assoc]⟩
theorem sub_v (σ : Int → Ty) (n : Int) : subT σ (varT n) = σ n := by simp [varT, subT]
theorem cm_main :
  (∀ t, okT t = true → ∀ u, okT u = true → ∀ ps ws : Ps, (cmF t u ps).t = caF ((cmF t u ps).ps ++ ws) t u ∧ subT (s1 ((cmF t u ps).ps ++ ws)) (cmF t u ps).t = cleanT t ∧ subT (s2 ((cmF t u ps).ps ++ ws)) (cmF t u ps).t = cleanT u) ∧
  ∀ l, okL l = true → ∀ m, okL m = true → l.length = m.length → ∀ ps ws : Ps, (cmG l m ps).l = caG ((cmG l m ps).ps ++ ws) l m ∧ subL (s1 ((cmG l m ps).ps ++ ws)) (cmG l m ps).l = cleanL l ∧ subL (s2 ((cmG l m ps).ps ++ ws)) (cmG l m ps).l = cleanL m := by
 refine Ty.ind (fun k n b l ih ho u hu ps ws => ?_) (fun _ m _ hl ps ws => ?_) fun x xs h1 h2 ho m hm hl ps ws => ?_
 ·obtain ⟨k', n', b', l'⟩ := u
  by_cases hk : k = k' ∧ ¬ k = 6
  ·obtain ⟨hk, h6⟩ := hk
   subst hk
   have hlen := ok_len ho hu
   obtain ⟨r1, r2, r3⟩ := ih (ok_node ho).2 l' (ok_node hu).2 hlen ps ws
   simp only [cmF, caF, Ty.kind, Ty.l, h6, not_false_eq_true, and_self, if_true, subT, if_false, cleanT, r2, r3]
   have hg : nilB (cmG l l' ps).l = nilB l := by rw [r1]; exact nilB_len (caG_len _ _ _ hlen)
   refine ⟨by rw [← r1], by rw [hg], by rw [hg, nilB_len hlen]⟩
  ·simp only [cmF, caF, Ty.kind, hk, if_false]
   have key : ∀ (i : Nat) (P : Ps), idxP P (writeS (.mk k n b l), writeS (.mk k' n' b' l')) 0 = some i → varT i = varT ((idxP P (writeS (.mk k n b l), writeS (.mk k' n' b' l')) 0).getD 0 : Nat) ∧ subT (s1 P) (varT i) = cleanT (.mk k n b l) ∧ subT (s2 P) (varT i) = cleanT (.mk k' n' b' l') := by
    intro i P h
    have hg := (idxP_get h).2
    simp only [Nat.sub_zero] at hg
    refine ⟨by rw [h]; rfl, ?_, ?_⟩
    ·rw [sub_v, s1, Int.toNat_natCast, hg]
     exact pick_of ho
    ·rw [sub_v, s2, Int.toNat_natCast, hg]
     exact pick_of hu
   cases hx : idxP ps (writeS (.mk k n b l), writeS (.mk k' n' b' l')) 0 with
   | some i => exact key i _ (idxP_app hx)
   | none =>
    have := idxP_push (ws := ws) hx
    simp only [Nat.zero_add] at this
    rw [List.append_assoc]
    exact key _ _ this
 ·have : m = [] := List.length_eq_zero_iff.1 hl.symm
  subst this
  simp [cmG, caG, subL, cleanL]
 ·cases m with
  | nil => simp at hl
  | cons y ys =>
   simp only [okL, Bool.and_eq_true] at ho hm
   obtain ⟨w2, e2⟩ := cm_pre.2 xs ys (cmF x y ps).ps
   obtain ⟨a1, a2, a3⟩ := h1 ho.1 y hm.1 ps (w2 ++ ws)
   obtain ⟨b1, b2, b3⟩ := h2 ho.2 ys hm.2 (by simpa using hl) (cmF x y ps).ps ws
   simp only [cmG, caG, subL, cleanL]
   rw [← List.append_assoc, ← e2] at a1 a2 a3
   rw [a2, a3, b2, b3, ← a1, ← b1]
   exact ⟨rfl, rfl, rfl⟩
theorem ca_ok {P : Ps} (hP : P.length ≤ 1000) :
  (∀ t, okT t = true → ∀ u, okT u = true → okT (caF P t u) = true ∧ cnt (caF P t u) ≤ cnt t ∧ depT (caF P t u) ≤ depT t ∧ cleanT (caF P t u) = caF P t u) ∧
  ∀ l, okL l = true → ∀ m, okL m = true → l.length = m.length → okL (caG P l m) = true ∧ cntL (caG P l m) ≤ cntL l ∧ (∀ i j, i ≤ j → depG (caG P l m) i ≤ depG l j) ∧ cleanL (caG P l m) = caG P l m := by
 refine Ty.ind (fun k n b l ih ho u hu => ?_) (fun _ m _ hl => ?_) fun x xs h1 h2 ho m hm hl => ?_
 ·obtain ⟨k', n', b', l'⟩ := u
  by_cases hk : k = k' ∧ ¬ k = 6
  ·obtain ⟨hk, h6⟩ := hk
   subst hk
   have hlen := ok_len ho hu
   obtain ⟨r1, r2, r3, r4⟩ := ih (ok_node ho).2 l' (ok_node hu).2 hlen
   have hg := caG_len P l l' hlen
   have hn := (ok_node ho).1
   simp only [caF, Ty.kind, Ty.l, h6, not_false_eq_true, and_self, if_true, cnt, depT, cleanT, if_false, r4, nilB_len hg, okT, r1, Bool.and_true, decide_eq_true_eq]
   have := r3 0 0 (Int.le_refl _)
   refine ⟨?_, by omega, by omega, trivial⟩
   simp only [NodeOk, hg] at hn ⊢
   exact ⟨hn.1, hn.2.1, hn.2.2.1, hn.2.2.2.1, hn.2.2.2.2.1, fun h => absurd h h6⟩
  ·simp only [caF, Ty.kind, hk, if_false]
   have hj : (idxP P (writeS (.mk k n b l), writeS (.mk k' n' b' l')) 0).getD 0 < 1000 := by
    cases hx : idxP P (writeS (.mk k n b l), writeS (.mk k' n' b' l')) 0 with
    | none => simp
    | some j => have := idxP_lt hx; simp; omega
   generalize (idxP P (writeS (.mk k n b l), writeS (.mk k' n' b' l')) 0).getD 0 = j at hj
   have := depG_ge l 0
   refine ⟨?_, ?_, ?_, clean_var _⟩
   ·simp only [varT, okT, okL, NodeOk, Bool.and_true, decide_eq_true_eq, List.length_nil]
    exact ⟨by omega, by omega, fun _ => trivial, fun h => by omega, fun h => by omega, fun _ => by omega⟩
   ·simp only [varT, cnt, cntL]; omega
   ·simp only [varT, depT, depG]; omega
 ·have : m = [] := List.length_eq_zero_iff.1 hl.symm
  subst this
  exact ⟨rfl, Nat.le_refl _, fun i j h => by simpa [caG, depG] using h, rfl⟩
 ·cases m with
  | nil => simp at hl
  | cons y ys =>
   simp only [okL, Bool.and_eq_true] at ho hm
   obtain ⟨a1, a2, a3, a4⟩ := h1 ho.1 y hm.1
   obtain ⟨b1, b2, b3, b4⟩ := h2 ho.2 ys hm.2 (by simpa using hl)
   simp only [caG, okL, cntL, depG, cleanL, a1, b1, a4, b4, Bool.and_self]
   refine ⟨trivial, by omega, fun i j h => b3 (max i (depT (caF P x y))) (max j (depT x)) (by omega), trivial⟩
theorem clean_sub {σ : Int → Ty} : (∀ t, cleanT (subT σ t) = subT (fun n => cleanT (σ n)) t) ∧ ∀ l, cleanL (subL σ l) = subL (fun n => cleanT (σ n)) l :=
 Ty.ind (fun k n b l ih => by
  by_cases h6 : k = 6
  ·simp only [subT, if_pos h6]
  ·simp only [subT, if_neg h6, cleanT, ih, nilB_sub]) rfl fun x xs h1 h2 => by simp only [subL, cleanL, h1, h2]
theorem ca_sub {P : Ps} {f g : Int → Ty} : (∀ w, caF P (subT f w) (subT g w) = subT (fun n => caF P (f n) (g n)) w) ∧ ∀ l, caG P (subL f l) (subL g l) = subL (fun n => caF P (f n) (g n)) l :=
 Ty.ind (fun k n b l ih => by
  by_cases h6 : k = 6
  ·simp only [subT, if_pos h6]
  ·have e : ∀ σ, subT σ (.mk k n b l) = .mk k 0 (nilB l) (subL σ l) := fun σ => by simp only [subT, if_neg h6]
   rw [e, e, e]
   simp only [caF, Ty.kind, Ty.l, h6, not_false_eq_true, and_self, if_true, ih, nilB_sub]) rfl fun x xs h1 h2 => by simp only [subL, caG, h1, h2]
theorem ca_clean {P : Ps} : (∀ t u, caF P (cleanT t) (cleanT u) = caF P t u) ∧ ∀ l m, caG P (cleanL l) (cleanL m) = caG P l m := by
 refine Ty.ind (P := fun t => ∀ u, caF P (cleanT t) (cleanT u) = caF P t u) (Q := fun l => ∀ m, caG P (cleanL l) (cleanL m) = caG P l m) (fun k n b l ih u => ?_) (fun m => ?_) fun x xs h1 h2 m => ?_
 ·obtain ⟨k', n', b', l'⟩ := u
  have e1 := write_clean.1 (.mk k n b l)
  have e2 := write_clean.1 (.mk k' n' b' l')
  simp only [cleanT] at e1 e2 ⊢
  simp only [caF, Ty.kind, Ty.l, ih, e1, e2, nilB_len (cleanL_len l)]
  rfl
 ·cases m <;> rfl
 ·cases m with
  | nil => rfl
  | cons y ys => simp only [cleanL, caG, h1, h2]
theorem cm_clean : (∀ t u ps, cmF t (cleanT u) ps = cmF t u ps) ∧ ∀ l m ps, cmG l (cleanL m) ps = cmG l m ps := by
 refine Ty.ind (P := fun t => ∀ u ps, cmF t (cleanT u) ps = cmF t u ps) (Q := fun l => ∀ m ps, cmG l (cleanL m) ps = cmG l m ps) (fun k n b l ih u ps => ?_) (fun m ps => ?_) fun x xs h1 h2 m ps => ?_
 ·obtain ⟨k', n', b', l'⟩ := u
  have e2 := write_clean.1 (.mk k' n' b' l')
  simp only [cleanT] at e2 ⊢
  simp only [cmF, Ty.kind, Ty.l, ih, e2]
  rfl
 ·cases m <;> rfl
 ·cases m with
  | nil => rfl
  | cons y ys => simp only [cleanL, cmG, h1, h2]
theorem same_cl : (∀ a b, sameB a (cleanT b) = sameB a b) ∧ ∀ l m, sameL l (cleanL m) = sameL l m := by
 refine Ty.ind (P := fun a => ∀ b, sameB a (cleanT b) = sameB a b) (Q := fun l => ∀ m, sameL l (cleanL m) = sameL l m) (fun k n b l ih u => ?_) (fun m => ?_) fun x xs h1 h2 m => ?_
 ·obtain ⟨k', n', b', l'⟩ := u
  simp only [cleanT, sameB, ih, cleanL_len]
  by_cases hk : k = k'
  ·subst hk
   by_cases h6 : k = 6 <;> simp [h6]
  ·simp [hk]
 ·cases m <;> rfl
 ·cases m with
  | nil => rfl
  | cons y ys => simp only [cleanL, sameL, h1, h2]
theorem mt_clean : (∀ a v es c, mtT a (cleanT v) es c = mtT a v es c) ∧ ∀ l m es c, mtL l (cleanL m) es c = mtL l m es c := by
 refine Ty.ind (P := fun a => ∀ v es c, mtT a (cleanT v) es c = mtT a v es c) (Q := fun l => ∀ m es c, mtL l (cleanL m) es c = mtL l m es c) (fun k n b l ih v es c => ?_) (fun m es c => ?_) fun x xs h1 h2 m es c => ?_
 ·have e1 : (cleanT v).kind = v.kind := by cases v; rfl
  have e2 : (cleanT v).l = cleanL v.l := by cases v; rfl
  simp only [mtT, same_cl.1, clean_clean.1, e1, e2, ih]
 ·cases m <;> rfl
 ·cases m with
  | nil => rfl
  | cons y ys => simp only [cleanL, mtL, h1, h2]
def rng (n : Nat) : List Int := (List.range n).map fun i : Nat => (i : Int)
theorem rng_mem {n j : Nat} (h : j < n) : (j : Int) ∈ rng n := List.mem_map.2 ⟨j, List.mem_range.2 h, rfl⟩
theorem rng_succ (n : Nat) : rng (n + 1) = rng n ++ [(n : Int)] := by unfold rng; rw [List.range_succ, List.map_append]; rfl
theorem rng_not (n : Nat) : (n : Int) ∉ rng n := by
 intro h
 obtain ⟨j, h1, h2⟩ := List.mem_map.1 h
 have := List.mem_range.1 h1
 omega
theorem cm_first : (∀ (t u : Ty) (ps : Ps), firstT (cmF t u ps).t (rng ps.length) = rng (cmF t u ps).ps.length) ∧ ∀ (l m : List Ty) (ps : Ps), firstL (cmG l m ps).l (rng ps.length) = rng (cmG l m ps).ps.length := by
 refine Ty.ind (P := fun t => ∀ (u : Ty) (ps : Ps), firstT (cmF t u ps).t (rng ps.length) = rng (cmF t u ps).ps.length) (Q := fun l => ∀ (m : List Ty) (ps : Ps), firstL (cmG l m ps).l (rng ps.length) = rng (cmG l m ps).ps.length) (fun k n b l ih u ps => ?_) (fun m ps => by cases m <;> rfl) fun x xs h1 h2 m ps => ?_
 ·simp only [cmF]
  split
  ·rename_i h
   simp only [firstT, if_neg h.2]
   exact ih _ _
  ·split
   ·rename_i i hi
    have := rng_mem (idxP_lt hi)
    simp only [firstT, varT, firstL, if_true, addV, List.contains_iff_mem, this]
   ·simp only [firstT, varT, firstL, if_true, addV, List.contains_iff_mem, rng_not, if_false, List.length_append, List.length_cons, List.length_nil, Nat.zero_add, rng_succ]
 ·cases m with
  | nil => rfl
  | cons y ys =>
   simp only [cmG, firstL]
   rw [h1 y ps, h2 ys]
theorem rng_nodup (n : Nat) : (rng n).Nodup := by
 unfold rng
 exact List.Pairwise.map _ (fun a b h e => h (Int.ofNat.inj e)) List.nodup_range
theorem num_self {a : Ty} {m : Nat} (ho : okT a = true) (hc : cleanT a = a) (h : varsL a = rng m) : numT a = a := by
 have e : numT a = withT (numB (varsL a) 0) a := rfl
 rw [e, (with_sub _).1]
 have h2 : subT (fun n => cleanT (boundT (numB (varsL a) 0) n)) a = subT varT a := by
  refine sub_congr.1 a ((allV_imp fun n hn => ?_).1 a (vars_all a))
  show cleanT (boundT _ n) = varT n
  rw [h] at hn ⊢
  obtain ⟨j, hj, rfl⟩ := List.mem_map.1 hn
  have hj := List.mem_range.1 hj
  have hl : j < (rng m).length := by simp [rng, hj]
  have hg : (rng m)[j] = (j : Int) := by simp [rng]
  have hi := idxN_at (rng m) 0 j (rng_nodup m) hl
  rw [hg, Nat.zero_add] at hi
  have hb := idxN_bound (rng m) j 0 hn
  rw [hi] at hb
  simp only [boundT, hb, Option.getD_some, clean_var]
 rw [h2, sub_id.1 a ho, hc]
theorem least_main {t u : Ty} (ht : validB t = true) (hu : validB u = true) : validB (cmT t u []) = true ∧ mtB (cmT t u []) t [] 0 = true ∧ mtB (cmT t u []) u [] 0 = true ∧ numT (cmT t u []) = cmT t u [] ∧ cmT t t [] = numT t ∧
  ∀ w, validB w = true → mtB w t [] 0 = true → mtB w u [] 0 = true → mtB w (cmT t u []) [] 0 = true := by
 have vt := (valid_eq t).1 ht
 have vu := (valid_eq u).1 hu
 obtain ⟨m1, m2, m3⟩ := cm_main.1 t vt.2.2 u vu.2.2 [] []
 rw [List.append_nil] at m1 m2 m3
 have hlen := cm_len t u []
 simp only [List.length_nil, Nat.zero_add] at hlen
 have hPl : (cmF t u []).ps.length ≤ cnt t := hlen
 have hP : (cmF t u []).ps.length ≤ 1000 := by omega
 obtain ⟨k1, k2, k3, k4⟩ := (ca_ok hP).1 t vt.2.2 u vu.2.2
 rw [← m1] at k1 k2 k3 k4
 have hf := cm_first.1 t u []
 have ho : okT (cmT t u []) = true := k1
 have inst : ∀ v, (∃ σ, subT σ (cmT t u []) = cleanT v) → mtB (cmT t u []) v [] 0 = true := by
  rintro v ⟨σ, h⟩
  have h2 := (mt_sub (σ := fun n => cleanT (σ n)) (fun n => clean_clean.1 _)).1 (cmT t u []) ho [] 0 (fun e h => by simp at h)
  rw [← clean_sub.1, h, clean_clean.1] at h2
  have h3 := h2.1
  rw [mt_clean.1] at h3
  exact h3
 refine ⟨(valid_eq _).2 ⟨?_, ?_, ho⟩, inst t ⟨_, m2⟩, inst u ⟨_, m3⟩, num_self ho k4 hf, ?_, ?_⟩
 ·show depT (cmF t u []).t ≤ 12; omega
 ·show cnt (cmF t u []).t ≤ 60; omega
 ·rw [← cm_num (σ := varT) vt.2.2, sub_id.1 t vt.2.2]
  unfold cmT
  rw [cm_clean.1]
 ·intro w hw h1 h2
  have vw := (valid_eq w).1 hw
  obtain ⟨_, _, e1⟩ := mt_sound.1 w vw.2.2 t [] 0 vt.2.2 (fun e h => by simp at h) h1
  obtain ⟨_, _, e2⟩ := mt_sound.1 w vw.2.2 u [] 0 vu.2.2 (fun e h => by simp at h) h2
  have e1 := e1 _ (Ext.refl _)
  have e2 := e2 _ (Ext.refl _)
  generalize lk (mtT w t [] 0).es = f at e1
  generalize lk (mtT w u [] 0).es = g at e2
  have h3 := (mt_sub (σ := fun n => cleanT (caF (cmF t u []).ps (f n) (g n))) (fun n => clean_clean.1 _)).1 w vw.2.2 [] 0 (fun e h => by simp at h)
  rw [← clean_sub.1, ← ca_sub.1, e1, e2, ca_clean.1, ← m1, k4] at h3
  exact h3.1
end
end Kd
end
section
set_option maxRecDepth 100000
set_option linter.unusedSimpArgs false
set_option linter.unusedVariables false
noncomputable section
namespace Go.Proofs.YtnmolpkkemljoaaGreatDoor
open Go Go.Am Kd
theorem least_ok (t u w : Ty) : QT 10 [enc t, enc u, enc w] (.bool true) := by
 have hst : ∀ t, (enc t).still = true := fun t => enc_still t
 have hh : Hooks.Ok Tryz.prog gT leastHk := mkHooks_ok (all_cons (great3_hook.lift.weak 3) (all_cons closed.alive_hook.lift (all_cons (tyQ_ok fun t h => (check_ok t h).lift) (all_cons kn_hook (all_cons mm_hook (all_cons cc_hook (all_cons sme_hook all_nil))))))) all_nil all_nil
 rw [enc_D, enc_D, enc_D]
 refine QuietJ.ret (P := Tryz.prog) (G := gT) (f := 10) 5 (by simp only [← enc_D]; simp [AV.stillL, AV.still, hst]) rfl (FuncJ.run (el := els) (mu := mu0) (hk := leastHk) hmix hh (n := 120) ?_)
 show runT leastHk 120 10 _ AH.nil _
 rw [least_top]
 simp only [ex_enc, Ty.eta, eq_self]
 refine bothR_bool (fun _ => trivial) fun hg => ?_
 simp only [Bool.or_eq_false_iff] at hg
 have c1 := great_cnt hg.1.1
 have c2 := great_cnt hg.1.2
 have c3 := great_cnt hg.2
 have d1 : cnt t ≤ 1000 := by omega
 have d2 : cnt u ≤ 1000 := by omega
 have d3 : cnt w ≤ 1000 := by omega
 simp only [d1, d2, d3, true_and]
 have ck : ∀ x, checkN x = 0 ↔ validB x = true := fun x => by
  unfold checkN
  cases validB x <;> simp
 by_cases hvt : validB t = true
 case neg =>
  have e : cmN t u = 1 := by unfold cmN; rw [if_neg (fun h => hvt h.1)]
  have e0 : checkN t = 1 := by unfold checkN; simp [hvt]
  simp [e0, e, bothR]
 by_cases hvu : validB u = true
 case neg =>
  have e : cmN t u = 1 := by unfold cmN; rw [if_neg (fun h => hvu h.2)]
  have e0 : checkN u = 1 := by unfold checkN; simp [hvu]
  have e1 : checkN t = 0 := (ck t).2 hvt
  simp [e0, e1, e, bothR]
 obtain ⟨m1, m2, m3, m4, m5, m6⟩ := least_main hvt hvu
 have vt := (valid_eq t).1 hvt
 have e1 : cmV t u = cmT t u [] := by unfold cmV; rw [if_pos ⟨hvt, hvu⟩]
 have e2 : cmV t t = cmT t t [] := by unfold cmV; rw [if_pos ⟨hvt, hvt⟩]
 have e3 : cmN t u = 0 := by unfold cmN; rw [if_pos ⟨hvt, hvu⟩]
 have e4 : cmN t t = 0 := by unfold cmN; rw [if_pos ⟨hvt, hvt⟩]
 have e5 : errF t = 0 := by unfold errF; rw [if_pos hvt]
 have e6 : numF t = numT t := by unfold numF; rw [if_pos hvt]
 have hnt := Kd.num_ok hvt
 rw [e1, e2, e3, e4, e5, e6, m5]
 generalize cmT t u [] = a at *
 have va := (valid_eq a).1 m1
 have f1 : errF a = 0 := by unfold errF; rw [if_pos m1]
 have f2 : numF a = a := by unfold numF; rw [if_pos m1, m4]
 have mt : ∀ x y, validB x = true → validB y = true → (mtN x y = 0 ↔ mtB x y [] 0 = true) := fun x y hx hy => by
  unfold mtN
  rw [if_pos ⟨hx, hy⟩]
  by_cases h : mtB x y [] 0 = true
  ·simp [h]
  ·simp [h]
 have f3 : mtN a t = 0 := (mt _ _ m1 hvt).2 m2
 have f4 : mtN a u = 0 := (mt _ _ m1 hvu).2 m3
 have g1 : cnt a ≤ 1000 := by omega
 have g2 : cnt (numT t) ≤ 1000 := by rw [hnt.2.2.1]; omega
 have hw : mtN w t = 0 → mtN w u = 0 → mtN w a = 0 := fun h1 h2 => by
  have hvw : validB w = true := by
   cases h : validB w with
   | true => rfl
   | false => simp [mtN, h] at h1
  exact (mt _ _ hvw m1).2 (m6 w hvw ((mt _ _ hvw hvt).1 h1) ((mt _ _ hvw hvu).1 h2))
 simp only [ck, hvt, hvu, f1, f2, f3, f4, g1, g2, sameB_refl, decide_true, Bool.not_true, bothR, and_self, true_and]
 cases h1 : decide (mtN w t = 0) with
 | false => trivial
 | true =>
  cases h2 : decide (mtN w u = 0) with
  | false => trivial
  | true =>
   rw [hw (of_decide_eq_true h1) (of_decide_eq_true h2)]
   trivial
end Go.Proofs.YtnmolpkkemljoaaGreatDoor
end
end
section
namespace Go.Proofs.YtnmolpkkemljoaaGreatDoor
open Go.ChangeShapes Go.WideShapes Go.ChangeAt Go.RowKit
theorem own : ownKnob Tryz.prog.godebug = none := by kernel_rfl
def cellsOf {H : Type} : DataW H → Array Value
 | .agg l => (l.map fun | .lit (.int k n) => Value.int k n | _ => undef).toArray
 | _ => #[]
def wordOf {H : Type} : DataW H → Array Value
 | .iface _ (.ptr (.agg [.lit (.string l)])) => #[.string ⟨l.toArray⟩]
 | _ => #[]
noncomputable def laidWorld (os : Os) : World :=
 let N := (World.settled Tryz.prog os).heap.size
 let w0 := World.holding Tryz.prog os ⟨#[.cells (wordOf (Rows.laid_strconv_ErrSyntax (H := Unit))) 203, .cells (wordOf (Rows.laid_strconv_ErrRange (H := Unit))) 203], #[], []⟩
 let put (h : Array Obj) (g : Nat) (cs : Array Value) : Array Obj := h.modify g fun
  | .cells _ t frozen => .cells cs t frozen
  | o => o
 let h0 := put (put w0.heap 1 #[.iface 201 (.pointer (some ⟨N, 0, none⟩))]) 2 #[.iface 201 (.pointer (some ⟨N + 1, 0, none⟩))]
 let h1 := put h0 0 (cellsOf (Rows.laid_internal_strconv_uint64pow10 (H := Unit)))
 let h2 := put h1 3 (cellsOf (Rows.laid_math_bits_deBruijn32tab (H := Unit)))
 let h3 := put h2 4 (cellsOf (Rows.laid_math_bits_deBruijn64tab (H := Unit)))
 { w0 with heap := h3 }
set_option maxRecDepth 1000000 in
theorem laid_met (os : Os) (args : Array Value) : laidMet Tryz.prog Rows.kindNamesRow.laid ((laidWorld os).forCall (fun _ _ => 0) ⟨#[], args, []⟩).memory :=
 laidMet_of_run' 8 (by kernel_rfl) (by kernel_rfl)
end Go.Proofs.YtnmolpkkemljoaaGreatDoor
end
section
noncomputable section
namespace Go.Proofs.YtnmolpkkemljoaaGreatDoor
open Go Go.Am Go.RowKit Go.ChangeShapes Go.WideShapes Go.ChangeAt
theorem pow10_tab {W : World} (h : laidMet Tryz.prog Rows.kindNamesRow.laid W) : Lib.TabIs Tryz.prog W "internal/strconv.uint64pow10" .u64 Lib.pow10Tab := by
 obtain ⟨g, t, cs, fuel, p, hg, ht, hv, hd⟩ := Lib.laidMet.reads h (.tail _ (.tail _ (.head _)))
 obtain rfl := Option.some.inj ((show Tryz.prog.globalNamed "internal/strconv.uint64pow10" = some 0 by kernel_rfl).symm.trans hg)
 obtain rfl := Option.some.inj ((show (Tryz.prog.globals[0]?).map (·.type) = some 190 by kernel_rfl).symm.trans ht)
 unfold Lib.TabIs
 have e := Lib.cells_of_tab (k := .u64) (zs := Lib.pow10Tab) (n := 20) (e := 166) (by kernel_rfl) (by kernel_rfl) (by kernel_rfl) (by kernel_rfl) hd
 rw [hv, ← e]
theorem gT_met {W : World} (h : laidMet Tryz.prog Rows.kindNamesRow.laid W) : ∀ g o x, gT g o = some x → ∃ v, W.cell? ⟨g, o, none⟩ = some v ∧ ∀ S : Sh, VRel S x v := by
 intro g o x hx
 unfold gT at hx
 split at hx
 ·rename_i hg
  simp only [beq_iff_eq] at hg
  subst hg
  split at hx
  ·rename_i n hn
   cases hx
   rw [nthR_eq] at hn
   have ho : o < 20 := by
    have := (List.getElem?_eq_some_iff.1 hn).1
    simpa [pow10] using this
   have hc := (pow10_tab h).cell (show Tryz.prog.globalNamed "internal/strconv.uint64pow10" = some 0 by kernel_rfl) o (by rw [Lib.pow10Tab_length]; exact ho)
   rw [Lib.pow10Tab_at o ho] at hc
   have : n = 10 ^ o := by
    have key : ∀ i : Nat, i < 20 → pow10[i]? = some (10 ^ i) := by decide
    rw [key o ho] at hn
    exact (Option.some.inj hn).symm
   subst this
   exact ⟨_, hc, fun S => .int _ _⟩
  ·cases hx
 ·cases hx
end Go.Proofs.YtnmolpkkemljoaaGreatDoor
end
end