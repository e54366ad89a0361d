/-
  What the proof is built of: list (59) as a contract of the machine's. Match: its walk. The conditions of K50, evaluated. Match's walk comes to what it says. Common: its walk. The conditions of K52, evaluated. Common comes to what it says. Match: the hooks. The conditions of K51, evaluated. Match comes to what it says. Bindings that are valid; many; Put: what they come to. The conditions of K33, evaluated. Bindings that are valid, many, and both Puts come to what they say. Both Puts come to what they say. The document's examples, run. KindChecks: the hooks. KindPuts: the hooks. KindChecks returns true. KindPuts returns true. KindInstances: the hooks. The conditions of KindInstances, evaluated. KindInstances: the walk, up to its plain law. Other numbers for variables: the numbered type stays the same. Texts that are read: what they come to. The conditions of K40, evaluated. Numbers in texts that are read. Types into which types are put for variables: instances. Conditions: none.
-/
import Derived.Test.YtnmolpkkemljoaaGreatDoorM10
import Derived.Test.YtnmolpkkemljoaaGreatDoorM8
import Derived.Test.YtnmolpkkemljoaaGreatDoorM11
import Derived.Test.YtnmolpkkemljoaaGreatDoorM6
import Derived.Lib.ConvBytes
section
set_option linter.unusedSimpArgs false
set_option linter.unusedVariables false
namespace Kd
open Go Go.Am Go.Proofs.YtnmolpkkemljoaaGreatDoor
def insB (x : Int × Ty) : List (Int × Ty) → List (Int × Ty)
 | [] => [x]
 | y :: l => if x.1 ≤ y.1 then x :: y :: l else y :: insB x l
def sortB : List (Int × Ty) → List (Int × Ty)
 | [] => []
 | x :: l => insB x (sortB l)
def bndE (x : Int × Ty × Nat) : Int × Ty := (x.1, x.2.1)
theorem insB_perm (x : Int × Ty) : ∀ l, (insB x l).Perm (x :: l)
 | [] => .refl _
 | y :: l => by
  unfold insB
  split
  ·exact .refl _
  ·exact ((insB_perm x l).cons y).trans (.swap ..)
theorem sortB_perm : ∀ l, (sortB l).Perm l
 | [] => .refl _
 | x :: l => (insB_perm x _).trans ((sortB_perm l).cons x)
theorem insB_sorted (x : Int × Ty) : ∀ l : List (Int × Ty), l.Pairwise (fun a b => a.1 ≤ b.1) → (insB x l).Pairwise (fun a b => a.1 ≤ b.1)
 | [], _ => by simp [insB]
 | y :: l, h => by
  rw [List.pairwise_cons] at h
  unfold insB
  split
  ·rename_i hxy
   rw [List.pairwise_cons, List.pairwise_cons]
   refine ⟨fun z hz => ?_, h.1, h.2⟩
   rcases List.mem_cons.1 hz with rfl | hz
   ·exact hxy
   ·exact Int.le_trans hxy (h.1 z hz)
  ·rename_i hxy
   rw [List.pairwise_cons]
   refine ⟨fun z hz => ?_, insB_sorted x l h.2⟩
   rcases List.mem_cons.1 ((insB_perm x l).mem_iff.1 hz) with rfl | hz
   ·omega
   ·exact h.1 z hz
theorem sortB_sorted : ∀ l, (sortB l).Pairwise (fun a b => a.1 ≤ b.1)
 | [] => .nil
 | x :: l => insB_sorted x _ (sortB_sorted l)
theorem sorted_one : ∀ {a b : List (Int × Ty)}, a.Perm b → a.Pairwise (fun x y => x.1 ≤ y.1) → b.Pairwise (fun x y => x.1 ≤ y.1) → (a.map (·.1)).Nodup → a = b
 | [], b, hp, _, _, _ => by simpa using hp.symm.eq_nil.symm
 | x :: a, b, hp, ha, hb, hn => by
  cases b with
  | nil => exact absurd hp.eq_nil (by simp)
  | cons y b =>
   have hxy : x = y := by
    rw [List.pairwise_cons] at ha hb
    rcases List.mem_cons.1 (hp.mem_iff.1 (List.mem_cons_self ..)) with h | h
    ·exact h
    ·rcases List.mem_cons.1 (hp.mem_iff.2 (List.mem_cons_self ..)) with h' | h'
     ·exact h'.symm
     ·have h1 := hb.1 x h
      have h2 := ha.1 y h'
      simp only [List.map_cons, List.nodup_cons] at hn
      exact absurd (List.mem_map.2 ⟨y, h', by show y.1 = x.1; omega⟩) hn.1
   subst hxy
   rw [List.pairwise_cons] at ha hb
   simp only [List.map_cons, List.nodup_cons] at hn
   rw [sorted_one (hp.cons_inv) ha.2 hb.2 hn.2]
theorem perm_lift {α β : Type} (f : α → β) {d l : List β} (h : d.Perm l) : ∀ p : List α, p.map f = l → ∃ p' : List α, p'.Perm p ∧ p'.map f = d := by
 induction h with
 | nil => intro p hp; exact ⟨p, .refl _, hp⟩
 | cons x h ih =>
  intro p hp
  cases p with
  | nil => simp at hp
  | cons a p =>
   simp only [List.map_cons, List.cons.injEq] at hp
   obtain ⟨p', h1, h2⟩ := ih p hp.2
   exact ⟨a :: p', h1.cons a, by simp [h2, hp.1]⟩
 | swap x y l =>
  intro p hp
  match p, hp with
  | a :: c :: p, hp =>
   simp only [List.map_cons, List.cons.injEq] at hp
   exact ⟨c :: a :: p, .swap .., by simp [hp]⟩
 | trans _ _ ih1 ih2 =>
  intro p hp
  obtain ⟨q, h1, h2⟩ := ih2 p hp
  obtain ⟨q', h3, h4⟩ := ih1 q h2
  exact ⟨q', h3.trans h1, h4⟩
end Kd
noncomputable section
namespace Go.Proofs.YtnmolpkkemljoaaGreatDoor
open Go Go.Am Kd Go.RowKit
structure EntR (S : Sh) (e : Int × Ty × Nat) (x : Ent) : Prop where
 n : x.n = e.1
 k : x.k = e.2.1.kind
 m : x.m = e.2.1.n
 b : x.born = e.2.2
 s : VRel S (.isl e.2.1.nl none 0 (encL e.2.1.l)) (.slice x.sp x.sl x.sc)
theorem isl_slice {S : Sh} {b : Bool} {fam : Option Nat} {off : Nat} {xs : List AV} {v : Value} (h : VRel S (.isl b fam off xs) v) : ∃ p n c, v = .slice p n c := by
 cases h <;> exact ⟨_, _, _, rfl⟩
theorem ents_of {S : Sh} : ∀ {es : List (Int × Ty × Nat)} {ms : List MapEntry}, MRel S (encM es) ms → (∀ e ∈ es, 0 ≤ e.1 ∧ e.1 < 1000) → ∃ p : List ((Int × Ty × Nat) × Ent), p.map (·.1) = es ∧ ms = (p.map (·.2)).map Ent.entry ∧ ∀ q ∈ p, EntR S q.1 q.2
 | [], ms, h, _ => by
  cases h
  exact ⟨[], rfl, rfl, fun q hq => by cases hq⟩
 | (n, t, b) :: es, ms, h, hn => by
  simp only [encM, List.map_cons, entM] at h
  cases h with
  | cons _ _ _ _ u v ms' h1 h2 h3 =>
   obtain ⟨p, h4, h5, h6⟩ := ents_of h3 fun e he => hn e (List.mem_cons_of_mem _ he)
   cases h1
   unfold encD at h2
   cases h2 with
   | agg _ vs hl =>
    cases hl with
    | cons _ _ _ _ g1 hl =>
     cases g1
     cases hl with
     | cons _ _ _ _ g2 hl =>
      cases g2
      cases hl with
      | cons _ _ _ _ g3 hl =>
       cases hl
       obtain ⟨sp, sl, sc, rfl⟩ := isl_slice g3
       have hb := hn (n, t, b) (List.mem_cons_self ..)
       exact ⟨((n, t, b), ⟨n, t.kind, t.n, sp, sl, sc, b, hb.1, hb.2⟩) :: p, by simp [h4], by simp [h5, Ent.entry], fun q hq => by
        rcases List.mem_cons.1 hq with rfl | hq
        ·exact ⟨rfl, rfl, rfl, rfl, g3⟩
        ·exact h6 q hq⟩
def okMap (es : List (Int × Ty × Nat)) (c : Nat) : Prop := (∀ e ∈ es, (0 ≤ e.1 ∧ e.1 < 1000) ∧ e.2.2 < c) ∧ (es.map (·.2.2)).Nodup ∧ (es.map (·.1)).Nodup ∧ es.length ≤ 1000
def listV (es : List (Int × Ty × Nat)) : AV := .isl (nilB es) none 0 (encB (sortB (es.map bndE)))
theorem bind_rel {S S1 : Sh} (him : ∀ b o u, S.im b o = some u → S1.im b o = some u) : ∀ (p : List ((Int × Ty × Nat) × Ent)), (∀ q ∈ p, EntR S q.1 q.2) → LRel S1 (flat ((p.map fun q => bndE q.1).map bindD)) ((p.map (·.2)).flatMap Ent.cells)
 | [], _ => .nil
 | q :: p, h => by
  have hq := h q (List.mem_cons_self ..)
  have ih := bind_rel him p fun x hx => h x (List.mem_cons_of_mem _ hx)
  have hs := hq.s.still him (by simp [AV.still, encL_still])
  have hfl : flat (((q :: p).map fun q => bndE q.1).map bindD) = [.int .i64 q.1.1, .int .i64 q.1.2.1.kind, .int .i64 q.1.2.1.n, .isl q.1.2.1.nl none 0 (encL q.1.2.1.l)] ++ flat ((p.map fun q => bndE q.1).map bindD) := rfl
  have hfm : ((q :: p).map (·.2)).flatMap Ent.cells = [.int .i64 q.2.n, .int .i64 q.2.k, .int .i64 q.2.m, .slice q.2.sp q.2.sl q.2.sc] ++ (p.map (·.2)).flatMap Ent.cells := rfl
  rw [hfl, hfm, hq.n, hq.k, hq.m]
  exact .cons _ _ _ _ (.int ..) (.cons _ _ _ _ (.int ..) (.cons _ _ _ _ (.int ..) (.cons _ _ _ _ hs ih)))
theorem list_ok {G : Gl} {A : AH} {b c : Nat} {es : List (Int × Ty × Nat)} (hb : A.blks[b]? = some (.map (encM es) c)) (ho : okMap es c) : FuncJ Tryz.prog G 59 [.map b] A fun o => o = ⟨.returned (listV es), A⟩ := by
 obtain ⟨ho1, ho2, ho3, ho4⟩ := ho
 refine FuncJ.fresh fun S w vs hi hl => ?_
 cases hl with
 | cons _ _ _ _ hv hl =>
  cases hl
  cases hv with
  | map _ a ha =>
  obtain ⟨a', o, s1, s2, s3⟩ := hi.blk b _ hb (by simp)
  obtain rfl := Option.some.inj (s1.symm.trans ha)
  cases s3 with
  | map _ _ ms hm =>
  obtain ⟨p, rfl, rfl, hp⟩ := ents_of hm fun e he => (ho1 e he).1
  have hborn : (p.map (·.2)).map (·.born) = (p.map (·.1)).map (·.2.2) := by
   rw [List.map_map, List.map_map]
   exact List.map_congr_left fun q hq => (hp q hq).b
  refine (list_run sort_says sort_none w a' (p.map (·.2)) c s2 (fun x hx => ?_) (by rw [hborn]; exact ho2) (by simpa using ho4)).mono ?_
  ·obtain ⟨q, hq, rfl⟩ := List.mem_map.1 hx
   rw [(hp q hq).b]
   exact (ho1 _ (List.mem_map.2 ⟨q, hq, rfl⟩)).2
  rintro e w' ⟨hbl, v, rfl, hL⟩
  refine ⟨hbl, v, rfl, ?_⟩
  rcases hL with ⟨h0, rfl⟩ | ⟨g, cap, cur, d, hne, rfl, hg, hcur, hcap, hperm, hsort, hcells⟩
  ·have : p = [] := by simpa using h0
   subst this
   exact ⟨w.heap.size, [], Nat.le_refl _, fun j u hu => by simp at hu, fun S1 _ _ => .islNil _ _⟩
  ·obtain ⟨p', hpp, rfl⟩ := perm_lift (·.2) hperm p rfl
   have hp' : ∀ q ∈ p', EntR S q.1 q.2 := fun q hq => hp q (hpp.mem_iff.1 hq)
   have hbs : sortB ((p.map (·.1)).map bndE) = p'.map fun q => bndE q.1 := by
    refine sorted_one ?_ (sortB_sorted _) ?_ ?_
    ·refine (sortB_perm _).trans ?_
     rw [List.map_map]
     exact (hpp.map _).symm
    ·rw [List.pairwise_map] at hsort ⊢
     refine hsort.imp_of_mem fun {x y} hx hy hxy => ?_
     rw [(hp' x hx).n, (hp' y hy).n] at hxy
     exact hxy
    ·refine ((sortB_perm _).map _).nodup_iff.2 ?_
     rw [List.map_map]
     exact ho3
   refine ⟨g, (p'.map (·.2)).flatMap Ent.cells, hg, fun j u hu => ?_, fun S1 him hnew => ?_⟩
   ·simp [World.cell?, hcur, hcells j u hu]
   ·have hrel := bind_rel him p' hp'
    have hne' : p ≠ [] := fun h => hne (by rw [h]; rfl)
    unfold listV
    rw [hbs]
    have hnil : nilB (p.map (·.1)) = false := by
     unfold nilB
     rw [decide_eq_false_iff_not, List.length_map, List.length_eq_zero_iff]
     exact hne'
    rw [hnil]
    have hlen : (p.map (·.2)).length = (encB (p'.map fun q => bndE q.1)).length := by
     simp only [encB, List.length_map]; exact hpp.length_eq.symm
    rw [hlen]
    refine VRel.isl none 0 _ 4 g 0 cap (by omega) ?_ (CRel.of_cells hrel fun j u hu => ?_) (by rw [← hlen]; exact hcap) (fun φ hφ => by cases hφ)
    ·intro x hx
     obtain ⟨y, _, rfl⟩ := List.mem_map.1 hx
     rfl
    ·rw [Nat.zero_add]; exact hnew j u hu
end Go.Proofs.YtnmolpkkemljoaaGreatDoor
end
end
section
namespace Kd
open Go.Am Go.Proofs.YtnmolpkkemljoaaGreatDoor
abbrev Es := List (Int × Ty × Nat)
def setM : Es → Int → Ty → Es
 | [], _, _ => []
 | x :: l, n, u => if n = x.1 then (x.1, u, x.2.2) :: l else x :: setM l n u
structure MR where
 ok : Bool
 es : Es
 c : Nat
mutual
def mtT : Ty → Ty → Es → Nat → MR
 | .mk k n _ l, v, es, c =>
  if k = 6 then
   match boundM es n with
   | some o => if sameB o v = true then ⟨true, setM es n (cleanT v), c⟩ else ⟨false, es, c⟩
   | none => ⟨true, es ++ [(n, cleanT v, c)], c + 1⟩
  else if k = v.kind then mtL l v.l es c
  else ⟨false, es, c⟩
def mtL : List Ty → List Ty → Es → Nat → MR
 | x :: xs, y :: ys, es, c => if (mtT x y es c).ok = true then mtL xs ys (mtT x y es c).es (mtT x y es c).c else ⟨false, (mtT x y es c).es, (mtT x y es c).c⟩
 | _, _, es, c => ⟨true, es, c⟩
end
def mtB (t u : Ty) (es : Es) (c : Nat) : Bool := (mtT t u es c).ok
def mtE (t u : Ty) (es : Es) (c : Nat) : Es := (mtT t u es c).es
def mtC (t u : Ty) (es : Es) (c : Nat) : Nat := (mtT t u es c).c
end Kd
noncomputable section
namespace Go.Proofs.YtnmolpkkemljoaaGreatDoor
open Go Go.Am Kd
def mtA (es : Es) (c : Nat) : AH := ⟨[top3, top3, .cells [.top] 28, top3, top3, .map (encM es) c, .cells [.map 5] 74, .cells [.fn (.func 65) [] [.ptr 6 0, .ptr 7 0]] 83], []⟩
def argMt (A : AH) (K : Es → Nat → Prop) : Prop :=
 match nthR A.blks 5 with
 | some (.map m c) => ∃ es, m = encM es ∧ K es c
 | _ => False
def mwalkH (N : Nat) : HSpec := fun args A K =>
 match args with
 | [t, u, .ptr 6 0, .ptr 7 0] => argTy t fun t => argTy u fun u => argMt A fun es c => (SizeOf.sizeOf t < N ∧ okT t = true ∧ okT u = true ∧ okMs es ∧ cnt u ≤ 100) ∧
   onR 0 A (mtA es c) (bothR (mtB t u es c) (K ⟨.returned (.tup []), (mtA (mtE t u es c) (mtC t u es c)).onto A⟩) (K ⟨.panicked (stopC 15), (mtA (mtE t u es c) (mtC t u es c)).onto A⟩))
 | _ => False
def mwalkH0 : HSpec := fun args A K =>
 match args with
 | [t, u, .ptr 6 0, .ptr 7 0] => argTy t fun t => argTy u fun u => argMt A fun es c => (okT t = true ∧ okT u = true ∧ okMs es ∧ cnt u ≤ 100) ∧
   onR 0 A (mtA es c) (bothR (mtB t u es c) (K ⟨.returned (.tup []), (mtA (mtE t u es c) (mtC t u es c)).onto A⟩) (K ⟨.panicked (stopC 15), (mtA (mtE t u es c) (mtC t u es c)).onto A⟩))
 | _ => False
def mwHk (N : Nat) : Hooks := mkHooks Tryz.prog [(67, eqQ0), (68, kclQ0)] [(65, mwalkH N)] []
end Go.Proofs.YtnmolpkkemljoaaGreatDoor
end
end
section
noncomputable section
namespace Go.Proofs.YtnmolpkkemljoaaGreatDoor
open Go Go.Am Kd Go.Am.AV Go.IntKind
set_option maxRecDepth 100000
theorem mw_0 (es es' : Es) (c c' : Nat) (k n : Int) (b : Bool) (v : Ty) (N : Nat) (e : AEnd) : (runF (mwHk N) 60 65 [.agg [.int .i64 k, .int .i64 n, .isl b none 0 []], encD v, .ptr 6 0, .ptr 7 0] (mtA es c) (hpIs 0 e (mtA es' c'))) = ( bothR (decide (k = (6 : Int))) ((keyFind (int i64 n) (encM es) 0 = some none ∧ ∃ l, encL (Ty.l v) = encL l ∧ okT (Ty.mk (Ty.kind v) (Ty.n v) (Ty.nl v) l) = true ∧ (keyFind (int i64 n) (encM es) 0 = some none ∧ AEnd.returned (tup []) = e ∧ 24 = 24 ∧ 24 = 24 ∧ 28 = 28 ∧ 24 = 24 ∧ 24 = 24 ∧ encM es ++ [(int i64 n, agg
 [int i64 (Ty.kind (cleanT (Ty.mk (Ty.kind v) (Ty.n v) (Ty.nl v) l))), int i64 (Ty.n (cleanT (Ty.mk (Ty.kind v) (Ty.n v) (Ty.nl v) l))), isl (Ty.nl (cleanT (Ty.mk (Ty.kind v) (Ty.n v) (Ty.nl v) l))) none (0) (encL (Ty.l (cleanT (Ty.mk (Ty.kind v) (Ty.n v) (Ty.nl v) l))))], c)] = encM es' ∧ c + 1 = c' ∧ 74 = 74 ∧ SubR [AV.map (5)] [AV.map (5)] (83 = 83 ∧ SubR [AV.fn (Fn.func (65)) [] [ptr (6) (0), ptr (7) (0)]] [AV.fn (Fn.func (65)) [] [ptr (6) (0), ptr (7) (0)]] (0 = 0 ∧ True)) ∨ ∃ j y c_1, keyFind (int i64 n) (encM es) 0 = some (some (j, y)) ∧
 (encM es)[j]? = some (int i64 n, y, c_1) ∧ AEnd.returned (tup []) = e ∧ 24 = 24 ∧ 24 = 24 ∧ 28 = 28 ∧ 24 = 24 ∧ 24 = 24 ∧ List.set (encM es) j (int i64 n, agg [int i64 (Ty.kind (cleanT (Ty.mk (Ty.kind v) (Ty.n v) (Ty.nl v) l))), int i64 (Ty.n (cleanT (Ty.mk (Ty.kind v) (Ty.n v) (Ty.nl v) l))), isl (Ty.nl (cleanT (Ty.mk (Ty.kind v) (Ty.n v) (Ty.nl v) l))) none (0) (encL (Ty.l (cleanT (Ty.mk (Ty.kind v) (Ty.n v) (Ty.nl v) l))))], c_1) = encM es' ∧ c = c' ∧ 74 = 74 ∧ SubR [AV.map (5)] [AV.map (5)] (83 = 83 ∧
 SubR [AV.fn (Fn.func (65)) [] [ptr (6) (0), ptr (7) (0)]] [AV.fn (Fn.func (65)) [] [ptr (6) (0), ptr (7) (0)]] (0 = 0 ∧ True)))) ∨ ∃ j x, keyFind (int i64 n) (encM es) 0 = some (some (j, agg [int i64 (Ty.kind x), int i64 (Ty.n x), isl (Ty.nl x) none (0) (encL (Ty.l x))])) ∧ ∃ l, encL (Ty.l x) = encL l ∧ ∃ l_1, encL (Ty.l v) = encL l_1 ∧ (okT (Ty.mk (Ty.kind x) (Ty.n x) (Ty.nl x) l) = true ∧ okT (Ty.mk (Ty.kind v) (Ty.n v) (Ty.nl v) l_1) = true) ∧
 bothR (!sameB (Ty.mk (Ty.kind x) (Ty.n x) (Ty.nl x) l) (Ty.mk (Ty.kind v) (Ty.n v) (Ty.nl v) l_1)) (AEnd.panicked [(AV.iface (117) (agg [int i64 (15)]), false)] = e ∧ 24 = 24 ∧ 24 = 24 ∧ 28 = 28 ∧ 24 = 24 ∧ 24 = 24 ∧ encM es = encM es' ∧ c = c' ∧ 74 = 74 ∧ SubR [AV.map (5)] [AV.map (5)] (83 = 83 ∧ SubR [AV.fn (Fn.func (65)) [] [ptr (6) (0), ptr (7) (0)]] [AV.fn (Fn.func (65)) [] [ptr (6) (0), ptr (7) (0)]] (0 = 0 ∧ True))) (∃ l, encL (Ty.l v) = encL l ∧ okT (Ty.mk (Ty.kind v) (Ty.n v) (Ty.nl v) l) = true ∧ (keyFind (int i64 n) (encM es) 0 = some none ∧
 AEnd.returned (tup []) = e ∧ 24 = 24 ∧ 24 = 24 ∧ 28 = 28 ∧ 24 = 24 ∧ 24 = 24 ∧ encM es ++ [(int i64 n, agg [int i64 (Ty.kind (cleanT (Ty.mk (Ty.kind v) (Ty.n v) (Ty.nl v) l))), int i64 (Ty.n (cleanT (Ty.mk (Ty.kind v) (Ty.n v) (Ty.nl v) l))), isl (Ty.nl (cleanT (Ty.mk (Ty.kind v) (Ty.n v) (Ty.nl v) l))) none (0) (encL (Ty.l (cleanT (Ty.mk (Ty.kind v) (Ty.n v) (Ty.nl v) l))))], c)] = encM es' ∧ c + 1 = c' ∧ 74 = 74 ∧ SubR [AV.map (5)] [AV.map (5)] (83 = 83 ∧ SubR [AV.fn (Fn.func (65)) [] [ptr (6) (0), ptr (7) (0)]]
 [AV.fn (Fn.func (65)) [] [ptr (6) (0), ptr (7) (0)]] (0 = 0 ∧ True)) ∨ ∃ j y c_1, keyFind (int i64 n) (encM es) 0 = some (some (j, y)) ∧ (encM es)[j]? = some (int i64 n, y, c_1) ∧ AEnd.returned (tup []) = e ∧ 24 = 24 ∧ 24 = 24 ∧ 28 = 28 ∧ 24 = 24 ∧ 24 = 24 ∧ List.set (encM es) j (int i64 n, agg [int i64 (Ty.kind (cleanT (Ty.mk (Ty.kind v) (Ty.n v) (Ty.nl v) l))), int i64 (Ty.n (cleanT (Ty.mk (Ty.kind v) (Ty.n v) (Ty.nl v) l))), isl (Ty.nl (cleanT (Ty.mk (Ty.kind v) (Ty.n v) (Ty.nl v) l))) none (0)
 (encL (Ty.l (cleanT (Ty.mk (Ty.kind v) (Ty.n v) (Ty.nl v) l))))], c_1) = encM es' ∧ c = c' ∧ 74 = 74 ∧ SubR [AV.map (5)] [AV.map (5)] (83 = 83 ∧ SubR [AV.fn (Fn.func (65)) [] [ptr (6) (0), ptr (7) (0)]] [AV.fn (Fn.func (65)) [] [ptr (6) (0), ptr (7) (0)]] (0 = 0 ∧ True))))) (bothR (!decide (k = Ty.kind v)) (AEnd.panicked [(AV.iface (117) (agg [int i64 (15)]), false)] = e ∧ 24 = 24 ∧ 24 = 24 ∧ 28 = 28 ∧ 24 = 24 ∧ 24 = 24 ∧ encM es = encM es' ∧ c = c' ∧ 74 = 74 ∧ SubR [AV.map (5)] [AV.map (5)] (83 = 83 ∧ SubR [AV.fn (Fn.func (65)) [] [ptr (6) (0), ptr (7) (0)]]
 [AV.fn (Fn.func (65)) [] [ptr (6) (0), ptr (7) (0)]] (0 = 0 ∧ True))) (AEnd.returned (tup []) = e ∧ 24 = 24 ∧ 24 = 24 ∧ 28 = 28 ∧ 24 = 24 ∧ 24 = 24 ∧ encM es = encM es' ∧ c = c' ∧ 74 = 74 ∧ SubR [AV.map (5)] [AV.map (5)] (83 = 83 ∧ SubR [AV.fn (Fn.func (65)) [] [ptr (6) (0), ptr (7) (0)]] [AV.fn (Fn.func (65)) [] [ptr (6) (0), ptr (7) (0)]] (0 = 0 ∧ True))))) := by kernel_rfl
theorem mw_1 (es es' : Es) (c c' : Nat) (k n : Int) (b : Bool) (x : Ty) (v : Ty) (N : Nat) (e : AEnd) : (runF (mwHk N) 60 65 [.agg [.int .i64 k, .int .i64 n, .isl b none 0 [encD x]], encD v, .ptr 6 0, .ptr 7 0] (mtA es c) (hpIs 0 e (mtA es' c'))) = ( bothR (decide (k = (6 : Int))) ((keyFind (int i64 n) (encM es) 0 = some none ∧ ∃ l, encL (Ty.l v) = encL l ∧ okT (Ty.mk (Ty.kind v) (Ty.n v) (Ty.nl v) l) = true ∧ (keyFind (int i64 n) (encM es) 0 = some none ∧ AEnd.returned (tup []) = e ∧ 24 = 24 ∧ 24 = 24 ∧ 28 = 28 ∧ 24 = 24 ∧ 24 = 24 ∧ encM es ++ [(int i64 n,
 agg [int i64 (Ty.kind (cleanT (Ty.mk (Ty.kind v) (Ty.n v) (Ty.nl v) l))), int i64 (Ty.n (cleanT (Ty.mk (Ty.kind v) (Ty.n v) (Ty.nl v) l))), isl (Ty.nl (cleanT (Ty.mk (Ty.kind v) (Ty.n v) (Ty.nl v) l))) none (0) (encL (Ty.l (cleanT (Ty.mk (Ty.kind v) (Ty.n v) (Ty.nl v) l))))], c)] = encM es' ∧ c + 1 = c' ∧ 74 = 74 ∧ SubR [AV.map (5)] [AV.map (5)] (83 = 83 ∧ SubR [AV.fn (Fn.func (65)) [] [ptr (6) (0), ptr (7) (0)]] [AV.fn (Fn.func (65)) [] [ptr (6) (0), ptr (7) (0)]] (0 = 0 ∧ True)) ∨ ∃ j y c_1,
 keyFind (int i64 n) (encM es) 0 = some (some (j, y)) ∧ (encM es)[j]? = some (int i64 n, y, c_1) ∧ AEnd.returned (tup []) = e ∧ 24 = 24 ∧ 24 = 24 ∧ 28 = 28 ∧ 24 = 24 ∧ 24 = 24 ∧ List.set (encM es) j (int i64 n, agg [int i64 (Ty.kind (cleanT (Ty.mk (Ty.kind v) (Ty.n v) (Ty.nl v) l))), int i64 (Ty.n (cleanT (Ty.mk (Ty.kind v) (Ty.n v) (Ty.nl v) l))), isl (Ty.nl (cleanT (Ty.mk (Ty.kind v) (Ty.n v) (Ty.nl v) l))) none (0) (encL (Ty.l (cleanT (Ty.mk (Ty.kind v) (Ty.n v) (Ty.nl v) l))))], c_1) = encM es' ∧ c = c' ∧ 74 = 74 ∧
 SubR [AV.map (5)] [AV.map (5)] (83 = 83 ∧ SubR [AV.fn (Fn.func (65)) [] [ptr (6) (0), ptr (7) (0)]] [AV.fn (Fn.func (65)) [] [ptr (6) (0), ptr (7) (0)]] (0 = 0 ∧ True)))) ∨ ∃ j x, keyFind (int i64 n) (encM es) 0 = some (some (j, agg [int i64 (Ty.kind x), int i64 (Ty.n x), isl (Ty.nl x) none (0) (encL (Ty.l x))])) ∧ ∃ l, encL (Ty.l x) = encL l ∧ ∃ l_1, encL (Ty.l v) = encL l_1 ∧ (okT (Ty.mk (Ty.kind x) (Ty.n x) (Ty.nl x) l) = true ∧ okT (Ty.mk (Ty.kind v) (Ty.n v) (Ty.nl v) l_1) = true) ∧
 bothR (!sameB (Ty.mk (Ty.kind x) (Ty.n x) (Ty.nl x) l) (Ty.mk (Ty.kind v) (Ty.n v) (Ty.nl v) l_1)) (AEnd.panicked [(AV.iface (117) (agg [int i64 (15)]), false)] = e ∧ 24 = 24 ∧ 24 = 24 ∧ 28 = 28 ∧ 24 = 24 ∧ 24 = 24 ∧ encM es = encM es' ∧ c = c' ∧ 74 = 74 ∧ SubR [AV.map (5)] [AV.map (5)] (83 = 83 ∧ SubR [AV.fn (Fn.func (65)) [] [ptr (6) (0), ptr (7) (0)]] [AV.fn (Fn.func (65)) [] [ptr (6) (0), ptr (7) (0)]] (0 = 0 ∧ True))) (∃ l, encL (Ty.l v) = encL l ∧ okT (Ty.mk (Ty.kind v) (Ty.n v) (Ty.nl v) l) = true ∧ (keyFind (int i64 n) (encM es) 0 = some none ∧
 AEnd.returned (tup []) = e ∧ 24 = 24 ∧ 24 = 24 ∧ 28 = 28 ∧ 24 = 24 ∧ 24 = 24 ∧ encM es ++ [(int i64 n, agg [int i64 (Ty.kind (cleanT (Ty.mk (Ty.kind v) (Ty.n v) (Ty.nl v) l))), int i64 (Ty.n (cleanT (Ty.mk (Ty.kind v) (Ty.n v) (Ty.nl v) l))), isl (Ty.nl (cleanT (Ty.mk (Ty.kind v) (Ty.n v) (Ty.nl v) l))) none (0) (encL (Ty.l (cleanT (Ty.mk (Ty.kind v) (Ty.n v) (Ty.nl v) l))))], c)] = encM es' ∧ c + 1 = c' ∧ 74 = 74 ∧ SubR [AV.map (5)] [AV.map (5)] (83 = 83 ∧ SubR [AV.fn (Fn.func (65)) [] [ptr (6) (0), ptr (7) (0)]]
 [AV.fn (Fn.func (65)) [] [ptr (6) (0), ptr (7) (0)]] (0 = 0 ∧ True)) ∨ ∃ j y c_1, keyFind (int i64 n) (encM es) 0 = some (some (j, y)) ∧ (encM es)[j]? = some (int i64 n, y, c_1) ∧ AEnd.returned (tup []) = e ∧ 24 = 24 ∧ 24 = 24 ∧ 28 = 28 ∧ 24 = 24 ∧ 24 = 24 ∧ List.set (encM es) j (int i64 n, agg [int i64 (Ty.kind (cleanT (Ty.mk (Ty.kind v) (Ty.n v) (Ty.nl v) l))), int i64 (Ty.n (cleanT (Ty.mk (Ty.kind v) (Ty.n v) (Ty.nl v) l))), isl (Ty.nl (cleanT (Ty.mk (Ty.kind v) (Ty.n v) (Ty.nl v) l))) none (0)
 (encL (Ty.l (cleanT (Ty.mk (Ty.kind v) (Ty.n v) (Ty.nl v) l))))], c_1) = encM es' ∧ c = c' ∧ 74 = 74 ∧ SubR [AV.map (5)] [AV.map (5)] (83 = 83 ∧ SubR [AV.fn (Fn.func (65)) [] [ptr (6) (0), ptr (7) (0)]] [AV.fn (Fn.func (65)) [] [ptr (6) (0), ptr (7) (0)]] (0 = 0 ∧ True))))) (bothR (!decide (k = Ty.kind v)) (AEnd.panicked [(AV.iface (117) (agg [int i64 (15)]), false)] = e ∧ 24 = 24 ∧ 24 = 24 ∧ 28 = 28 ∧ 24 = 24 ∧ 24 = 24 ∧ encM es = encM es' ∧ c = c' ∧ 74 = 74 ∧ SubR [AV.map (5)] [AV.map (5)] (83 = 83 ∧ SubR [AV.fn (Fn.func (65)) [] [ptr (6) (0), ptr (7) (0)]]
 [AV.fn (Fn.func (65)) [] [ptr (6) (0), ptr (7) (0)]] (0 = 0 ∧ True))) (Int.NonNeg (0) ∧ ∃ x_1, some (agg [int i64 (Ty.kind x), int i64 (Ty.n x), isl (Ty.nl x) none (0) (encL (Ty.l x))]) = some (agg [int i64 (Ty.kind x_1), int i64 (Ty.n x_1), isl (Ty.nl x_1) none (0) (encL (Ty.l x_1))]) ∧ Int.NonNeg (0) ∧ ∃ x, (encL (Ty.l v))[0]? = some (agg [int i64 (Ty.kind x), int i64 (Ty.n x), isl (Ty.nl x) none (0) (encL (Ty.l x))]) ∧ ∃ l, encL (Ty.l x_1) = encL l ∧ ∃ l_1, encL (Ty.l x) = encL l_1 ∧ ∃ es_1,
 encM es = encM es_1 ∧ (SizeOf.sizeOf (Ty.mk (Ty.kind x_1) (Ty.n x_1) (Ty.nl x_1) l) < N ∧ okT (Ty.mk (Ty.kind x_1) (Ty.n x_1) (Ty.nl x_1) l) = true ∧ okT (Ty.mk (Ty.kind x) (Ty.n x) (Ty.nl x) l_1) = true ∧ okMs es_1 ∧ cnt (Ty.mk (Ty.kind x) (Ty.n x) (Ty.nl x) l_1) ≤ 100) ∧ 24 = 24 ∧ 24 = 24 ∧ 28 = 28 ∧ 24 = 24 ∧ 24 = 24 ∧ encM es = encM es_1 ∧ c = c ∧ 74 = 74 ∧ SubR [AV.map (5)] [AV.map (5)] (83 = 83 ∧ SubR [AV.fn (Fn.func (65)) [] [ptr (6) (0), ptr (7) (0)]] [AV.fn (Fn.func (65)) [] [ptr (6) (0), ptr (7) (0)]] (0 = 0 ∧
 bothR (mtB (Ty.mk (Ty.kind x_1) (Ty.n x_1) (Ty.nl x_1) l) (Ty.mk (Ty.kind x) (Ty.n x) (Ty.nl x) l_1) es_1 c) (AEnd.returned (tup []) = e ∧ 24 = 24 ∧ 24 = 24 ∧ 28 = 28 ∧ 24 = 24 ∧ 24 = 24 ∧ encM (mtE (Ty.mk (Ty.kind x_1) (Ty.n x_1) (Ty.nl x_1) l) (Ty.mk (Ty.kind x) (Ty.n x) (Ty.nl x) l_1) es_1 c) = encM es' ∧ mtC (Ty.mk (Ty.kind x_1) (Ty.n x_1) (Ty.nl x_1) l) (Ty.mk (Ty.kind x) (Ty.n x) (Ty.nl x) l_1) es_1 c = c' ∧ 74 = 74 ∧ SubR [AV.map (5)] [AV.map (5)] (83 = 83 ∧ SubR [AV.fn (Fn.func (65)) [] [ptr (6) (0), ptr (7) (0)]] [AV.fn (Fn.func (65)) [] [ptr (6) (0), ptr (7) (0)]]
 (0 = 0 ∧ True))) (AEnd.panicked [(AV.iface (117) (agg [int i64 (15)]), false)] = e ∧ 24 = 24 ∧ 24 = 24 ∧ 28 = 28 ∧ 24 = 24 ∧ 24 = 24 ∧ encM (mtE (Ty.mk (Ty.kind x_1) (Ty.n x_1) (Ty.nl x_1) l) (Ty.mk (Ty.kind x) (Ty.n x) (Ty.nl x) l_1) es_1 c) = encM es' ∧ mtC (Ty.mk (Ty.kind x_1) (Ty.n x_1) (Ty.nl x_1) l) (Ty.mk (Ty.kind x) (Ty.n x) (Ty.nl x) l_1) es_1 c = c' ∧ 74 = 74 ∧ SubR [AV.map (5)] [AV.map (5)] (83 = 83 ∧ SubR [AV.fn (Fn.func (65)) [] [ptr (6) (0), ptr (7) (0)]] [AV.fn (Fn.func (65)) [] [ptr (6) (0), ptr (7) (0)]] (0 = 0 ∧ True)))))))) := by kernel_rfl
theorem mw_2 (es es' : Es) (c c' : Nat) (k n : Int) (b : Bool) (x y : Ty) (v : Ty) (N : Nat) (e : AEnd) : (runF (mwHk N) 60 65 [.agg [.int .i64 k, .int .i64 n, .isl b none 0 [encD x, encD y]], encD v, .ptr 6 0, .ptr 7 0] (mtA es c) (hpIs 0 e (mtA es' c'))) = ( bothR (decide (k = (6 : Int))) ((keyFind (int i64 n) (encM es) 0 = some none ∧ ∃ l, encL (Ty.l v) = encL l ∧ okT (Ty.mk (Ty.kind v) (Ty.n v) (Ty.nl v) l) = true ∧ (keyFind (int i64 n) (encM es) 0 = some none ∧ AEnd.returned (tup []) = e ∧ 24 = 24 ∧ 24 = 24 ∧ 28 = 28 ∧ 24 = 24 ∧ 24 = 24 ∧ encM es ++
 [(int i64 n, agg [int i64 (Ty.kind (cleanT (Ty.mk (Ty.kind v) (Ty.n v) (Ty.nl v) l))), int i64 (Ty.n (cleanT (Ty.mk (Ty.kind v) (Ty.n v) (Ty.nl v) l))), isl (Ty.nl (cleanT (Ty.mk (Ty.kind v) (Ty.n v) (Ty.nl v) l))) none (0) (encL (Ty.l (cleanT (Ty.mk (Ty.kind v) (Ty.n v) (Ty.nl v) l))))], c)] = encM es' ∧ c + 1 = c' ∧ 74 = 74 ∧ SubR [AV.map (5)] [AV.map (5)] (83 = 83 ∧ SubR [AV.fn (Fn.func (65)) [] [ptr (6) (0), ptr (7) (0)]] [AV.fn (Fn.func (65)) [] [ptr (6) (0), ptr (7) (0)]] (0 = 0 ∧ True)) ∨ ∃ j y c_1,
 keyFind (int i64 n) (encM es) 0 = some (some (j, y)) ∧ (encM es)[j]? = some (int i64 n, y, c_1) ∧ AEnd.returned (tup []) = e ∧ 24 = 24 ∧ 24 = 24 ∧ 28 = 28 ∧ 24 = 24 ∧ 24 = 24 ∧ List.set (encM es) j (int i64 n, agg [int i64 (Ty.kind (cleanT (Ty.mk (Ty.kind v) (Ty.n v) (Ty.nl v) l))), int i64 (Ty.n (cleanT (Ty.mk (Ty.kind v) (Ty.n v) (Ty.nl v) l))), isl (Ty.nl (cleanT (Ty.mk (Ty.kind v) (Ty.n v) (Ty.nl v) l))) none (0) (encL (Ty.l (cleanT (Ty.mk (Ty.kind v) (Ty.n v) (Ty.nl v) l))))], c_1) = encM es' ∧ c = c' ∧ 74 = 74 ∧
 SubR [AV.map (5)] [AV.map (5)] (83 = 83 ∧ SubR [AV.fn (Fn.func (65)) [] [ptr (6) (0), ptr (7) (0)]] [AV.fn (Fn.func (65)) [] [ptr (6) (0), ptr (7) (0)]] (0 = 0 ∧ True)))) ∨ ∃ j x, keyFind (int i64 n) (encM es) 0 = some (some (j, agg [int i64 (Ty.kind x), int i64 (Ty.n x), isl (Ty.nl x) none (0) (encL (Ty.l x))])) ∧ ∃ l, encL (Ty.l x) = encL l ∧ ∃ l_1, encL (Ty.l v) = encL l_1 ∧ (okT (Ty.mk (Ty.kind x) (Ty.n x) (Ty.nl x) l) = true ∧ okT (Ty.mk (Ty.kind v) (Ty.n v) (Ty.nl v) l_1) = true) ∧
 bothR (!sameB (Ty.mk (Ty.kind x) (Ty.n x) (Ty.nl x) l) (Ty.mk (Ty.kind v) (Ty.n v) (Ty.nl v) l_1)) (AEnd.panicked [(AV.iface (117) (agg [int i64 (15)]), false)] = e ∧ 24 = 24 ∧ 24 = 24 ∧ 28 = 28 ∧ 24 = 24 ∧ 24 = 24 ∧ encM es = encM es' ∧ c = c' ∧ 74 = 74 ∧ SubR [AV.map (5)] [AV.map (5)] (83 = 83 ∧ SubR [AV.fn (Fn.func (65)) [] [ptr (6) (0), ptr (7) (0)]] [AV.fn (Fn.func (65)) [] [ptr (6) (0), ptr (7) (0)]] (0 = 0 ∧ True))) (∃ l, encL (Ty.l v) = encL l ∧ okT (Ty.mk (Ty.kind v) (Ty.n v) (Ty.nl v) l) = true ∧ (keyFind (int i64 n) (encM es) 0 = some none ∧
 AEnd.returned (tup []) = e ∧ 24 = 24 ∧ 24 = 24 ∧ 28 = 28 ∧ 24 = 24 ∧ 24 = 24 ∧ encM es ++ [(int i64 n, agg [int i64 (Ty.kind (cleanT (Ty.mk (Ty.kind v) (Ty.n v) (Ty.nl v) l))), int i64 (Ty.n (cleanT (Ty.mk (Ty.kind v) (Ty.n v) (Ty.nl v) l))), isl (Ty.nl (cleanT (Ty.mk (Ty.kind v) (Ty.n v) (Ty.nl v) l))) none (0) (encL (Ty.l (cleanT (Ty.mk (Ty.kind v) (Ty.n v) (Ty.nl v) l))))], c)] = encM es' ∧ c + 1 = c' ∧ 74 = 74 ∧ SubR [AV.map (5)] [AV.map (5)] (83 = 83 ∧ SubR [AV.fn (Fn.func (65)) [] [ptr (6) (0), ptr (7) (0)]]
 [AV.fn (Fn.func (65)) [] [ptr (6) (0), ptr (7) (0)]] (0 = 0 ∧ True)) ∨ ∃ j y c_1, keyFind (int i64 n) (encM es) 0 = some (some (j, y)) ∧ (encM es)[j]? = some (int i64 n, y, c_1) ∧ AEnd.returned (tup []) = e ∧ 24 = 24 ∧ 24 = 24 ∧ 28 = 28 ∧ 24 = 24 ∧ 24 = 24 ∧ List.set (encM es) j (int i64 n, agg [int i64 (Ty.kind (cleanT (Ty.mk (Ty.kind v) (Ty.n v) (Ty.nl v) l))), int i64 (Ty.n (cleanT (Ty.mk (Ty.kind v) (Ty.n v) (Ty.nl v) l))), isl (Ty.nl (cleanT (Ty.mk (Ty.kind v) (Ty.n v) (Ty.nl v) l))) none (0)
 (encL (Ty.l (cleanT (Ty.mk (Ty.kind v) (Ty.n v) (Ty.nl v) l))))], c_1) = encM es' ∧ c = c' ∧ 74 = 74 ∧ SubR [AV.map (5)] [AV.map (5)] (83 = 83 ∧ SubR [AV.fn (Fn.func (65)) [] [ptr (6) (0), ptr (7) (0)]] [AV.fn (Fn.func (65)) [] [ptr (6) (0), ptr (7) (0)]] (0 = 0 ∧ True))))) (bothR (!decide (k = Ty.kind v)) (AEnd.panicked [(AV.iface (117) (agg [int i64 (15)]), false)] = e ∧ 24 = 24 ∧ 24 = 24 ∧ 28 = 28 ∧ 24 = 24 ∧ 24 = 24 ∧ encM es = encM es' ∧ c = c' ∧ 74 = 74 ∧ SubR [AV.map (5)] [AV.map (5)] (83 = 83 ∧ SubR [AV.fn (Fn.func (65)) [] [ptr (6) (0), ptr (7) (0)]]
 [AV.fn (Fn.func (65)) [] [ptr (6) (0), ptr (7) (0)]] (0 = 0 ∧ True))) (Int.NonNeg (0) ∧ ∃ x_1, some (agg [int i64 (Ty.kind x), int i64 (Ty.n x), isl (Ty.nl x) none (0) (encL (Ty.l x))]) = some (agg [int i64 (Ty.kind x_1), int i64 (Ty.n x_1), isl (Ty.nl x_1) none (0) (encL (Ty.l x_1))]) ∧ Int.NonNeg (0) ∧ ∃ x, (encL (Ty.l v))[0]? = some (agg [int i64 (Ty.kind x), int i64 (Ty.n x), isl (Ty.nl x) none (0) (encL (Ty.l x))]) ∧ ∃ l, encL (Ty.l x_1) = encL l ∧ ∃ l_1, encL (Ty.l x) = encL l_1 ∧ ∃ es_1,
 encM es = encM es_1 ∧ (SizeOf.sizeOf (Ty.mk (Ty.kind x_1) (Ty.n x_1) (Ty.nl x_1) l) < N ∧ okT (Ty.mk (Ty.kind x_1) (Ty.n x_1) (Ty.nl x_1) l) = true ∧ okT (Ty.mk (Ty.kind x) (Ty.n x) (Ty.nl x) l_1) = true ∧ okMs es_1 ∧ cnt (Ty.mk (Ty.kind x) (Ty.n x) (Ty.nl x) l_1) ≤ 100) ∧ 24 = 24 ∧ 24 = 24 ∧ 28 = 28 ∧ 24 = 24 ∧ 24 = 24 ∧ encM es = encM es_1 ∧ c = c ∧ 74 = 74 ∧ SubR [AV.map (5)] [AV.map (5)] (83 = 83 ∧ SubR [AV.fn (Fn.func (65)) [] [ptr (6) (0), ptr (7) (0)]] [AV.fn (Fn.func (65)) [] [ptr (6) (0), ptr (7) (0)]] (0 = 0 ∧
 bothR (mtB (Ty.mk (Ty.kind x_1) (Ty.n x_1) (Ty.nl x_1) l) (Ty.mk (Ty.kind x) (Ty.n x) (Ty.nl x) l_1) es_1 c) (Int.NonNeg (1) ∧ ∃ x_2, some (agg [int i64 (Ty.kind y), int i64 (Ty.n y), isl (Ty.nl y) none (0) (encL (Ty.l y))]) = some (agg [int i64 (Ty.kind x_2), int i64 (Ty.n x_2), isl (Ty.nl x_2) none (0) (encL (Ty.l x_2))]) ∧ Int.NonNeg (1) ∧ ∃ x_3, (encL (Ty.l v))[1]? = some (agg [int i64 (Ty.kind x_3), int i64 (Ty.n x_3), isl (Ty.nl x_3) none (0) (encL (Ty.l x_3))]) ∧ ∃ l_2, encL (Ty.l x_2) = encL l_2 ∧
 ∃ l_3, encL (Ty.l x_3) = encL l_3 ∧ ∃ es, encM (mtE (Ty.mk (Ty.kind x_1) (Ty.n x_1) (Ty.nl x_1) l) (Ty.mk (Ty.kind x) (Ty.n x) (Ty.nl x) l_1) es_1 c) = encM es ∧ (SizeOf.sizeOf (Ty.mk (Ty.kind x_2) (Ty.n x_2) (Ty.nl x_2) l_2) < N ∧ okT (Ty.mk (Ty.kind x_2) (Ty.n x_2) (Ty.nl x_2) l_2) = true ∧ okT (Ty.mk (Ty.kind x_3) (Ty.n x_3) (Ty.nl x_3) l_3) = true ∧ okMs es ∧ cnt (Ty.mk (Ty.kind x_3) (Ty.n x_3) (Ty.nl x_3) l_3) ≤ 100) ∧ 24 = 24 ∧ 24 = 24 ∧ 28 = 28 ∧ 24 = 24 ∧ 24 = 24 ∧ encM (mtE (Ty.mk (Ty.kind x_1) (Ty.n x_1) (Ty.nl x_1) l) (Ty.mk (Ty.kind x) (Ty.n x) (Ty.nl x) l_1) es_1 c) = encM es ∧
 mtC (Ty.mk (Ty.kind x_1) (Ty.n x_1) (Ty.nl x_1) l) (Ty.mk (Ty.kind x) (Ty.n x) (Ty.nl x) l_1) es_1 c = mtC (Ty.mk (Ty.kind x_1) (Ty.n x_1) (Ty.nl x_1) l) (Ty.mk (Ty.kind x) (Ty.n x) (Ty.nl x) l_1) es_1 c ∧ 74 = 74 ∧ SubR [AV.map (5)] [AV.map (5)] (83 = 83 ∧ SubR [AV.fn (Fn.func (65)) [] [ptr (6) (0), ptr (7) (0)]] [AV.fn (Fn.func (65)) [] [ptr (6) (0), ptr (7) (0)]] (0 = 0 ∧ bothR (mtB (Ty.mk (Ty.kind x_2) (Ty.n x_2) (Ty.nl x_2) l_2) (Ty.mk (Ty.kind x_3) (Ty.n x_3) (Ty.nl x_3) l_3) es (mtC (Ty.mk (Ty.kind x_1) (Ty.n x_1) (Ty.nl x_1) l)
 (Ty.mk (Ty.kind x) (Ty.n x) (Ty.nl x) l_1) es_1 c)) (AEnd.returned (tup []) = e ∧ 24 = 24 ∧ 24 = 24 ∧ 28 = 28 ∧ 24 = 24 ∧ 24 = 24 ∧ encM (mtE (Ty.mk (Ty.kind x_2) (Ty.n x_2) (Ty.nl x_2) l_2) (Ty.mk (Ty.kind x_3) (Ty.n x_3) (Ty.nl x_3) l_3) es (mtC (Ty.mk (Ty.kind x_1) (Ty.n x_1) (Ty.nl x_1) l) (Ty.mk (Ty.kind x) (Ty.n x) (Ty.nl x) l_1) es_1 c)) = encM es' ∧ mtC (Ty.mk (Ty.kind x_2) (Ty.n x_2) (Ty.nl x_2) l_2) (Ty.mk (Ty.kind x_3) (Ty.n x_3) (Ty.nl x_3) l_3) es (mtC (Ty.mk (Ty.kind x_1) (Ty.n x_1) (Ty.nl x_1) l) (Ty.mk (Ty.kind x) (Ty.n x) (Ty.nl x) l_1) es_1 c) = c' ∧ 74 = 74 ∧
 SubR [AV.map (5)] [AV.map (5)] (83 = 83 ∧ SubR [AV.fn (Fn.func (65)) [] [ptr (6) (0), ptr (7) (0)]] [AV.fn (Fn.func (65)) [] [ptr (6) (0), ptr (7) (0)]] (0 = 0 ∧ True))) (AEnd.panicked [(AV.iface (117) (agg [int i64 (15)]), false)] = e ∧ 24 = 24 ∧ 24 = 24 ∧ 28 = 28 ∧ 24 = 24 ∧ 24 = 24 ∧ encM (mtE (Ty.mk (Ty.kind x_2) (Ty.n x_2) (Ty.nl x_2) l_2) (Ty.mk (Ty.kind x_3) (Ty.n x_3) (Ty.nl x_3) l_3) es (mtC (Ty.mk (Ty.kind x_1) (Ty.n x_1) (Ty.nl x_1) l) (Ty.mk (Ty.kind x) (Ty.n x) (Ty.nl x) l_1) es_1 c)) = encM es' ∧ mtC (Ty.mk (Ty.kind x_2) (Ty.n x_2) (Ty.nl x_2) l_2)
 (Ty.mk (Ty.kind x_3) (Ty.n x_3) (Ty.nl x_3) l_3) es (mtC (Ty.mk (Ty.kind x_1) (Ty.n x_1) (Ty.nl x_1) l) (Ty.mk (Ty.kind x) (Ty.n x) (Ty.nl x) l_1) es_1 c) = c' ∧ 74 = 74 ∧ SubR [AV.map (5)] [AV.map (5)] (83 = 83 ∧ SubR [AV.fn (Fn.func (65)) [] [ptr (6) (0), ptr (7) (0)]] [AV.fn (Fn.func (65)) [] [ptr (6) (0), ptr (7) (0)]] (0 = 0 ∧ True)))))) (AEnd.panicked [(AV.iface (117) (agg [int i64 (15)]), false)] = e ∧ 24 = 24 ∧ 24 = 24 ∧ 28 = 28 ∧ 24 = 24 ∧ 24 = 24 ∧ encM (mtE (Ty.mk (Ty.kind x_1) (Ty.n x_1) (Ty.nl x_1) l) (Ty.mk (Ty.kind x) (Ty.n x) (Ty.nl x) l_1) es_1 c) =
 encM es' ∧ mtC (Ty.mk (Ty.kind x_1) (Ty.n x_1) (Ty.nl x_1) l) (Ty.mk (Ty.kind x) (Ty.n x) (Ty.nl x) l_1) es_1 c = c' ∧ 74 = 74 ∧ SubR [AV.map (5)] [AV.map (5)] (83 = 83 ∧ SubR [AV.fn (Fn.func (65)) [] [ptr (6) (0), ptr (7) (0)]] [AV.fn (Fn.func (65)) [] [ptr (6) (0), ptr (7) (0)]] (0 = 0 ∧ True)))))))) := by kernel_rfl
end Go.Proofs.YtnmolpkkemljoaaGreatDoor
end
end
section
set_option maxRecDepth 100000
set_option linter.unusedSimpArgs false
set_option linter.unusedVariables false
namespace Kd
open Go Go.Am Go.Proofs.YtnmolpkkemljoaaGreatDoor
theorem key_set {n : Int} {o : Ty} : ∀ {es : Es}, boundM es n = some o → ∀ i, ∃ j cb, keyFind (.int .i64 n) (encM es) i = some (some (i + j, encD o)) ∧ (encM es)[j]? = some (.int .i64 n, encD o, cb) ∧ ∀ u, (encM es).set j (.int .i64 n, encD u, cb) = encM (setM es n u)
 | [], h, _ => by cases h
 | x :: l, h, i => by
  simp only [boundM] at h
  split at h
  ·rename_i he
   cases h
   refine ⟨0, x.2.2, ?_, ?_, fun u => ?_⟩
   ·simp only [encM, List.map_cons, entM, keyFind, keyEq, if_true, decide_eq_true he, Nat.add_zero]
   ·simp only [encM, List.map_cons, entM, List.getElem?_cons_zero, he]
   ·subst he
    simp [encM, entM, setM]
  ·rename_i hne
   obtain ⟨j, cb, h1, h2, h3⟩ := key_set h (i + 1)
   refine ⟨j + 1, cb, ?_, ?_, fun u => ?_⟩
   ·simp only [encM, List.map_cons, entM, keyFind, keyEq, if_true, decide_eq_false hne]
    rw [show i + (j + 1) = i + 1 + j by omega]; exact h1
   ·simpa only [encM, List.map_cons, List.getElem?_cons_succ] using h2
   ·simp only [encM, List.map_cons, List.set_cons_succ, setM, if_neg hne]
    exact congrArg _ (h3 u)
theorem okMs_set {es : Es} {n : Int} {u : Ty} (h : okMs es) (h1 : okT u = true) (h2 : cnt u ≤ 100) : okMs (setM es n u) := by
 induction es with
 | nil => exact h
 | cons x l ih =>
  simp only [setM]
  split
  ·intro y hy
   rcases List.mem_cons.1 hy with rfl | hy
   ·exact ⟨h1, h2⟩
   ·exact h y (List.mem_cons_of_mem _ hy)
  ·intro y hy
   rcases List.mem_cons.1 hy with rfl | hy
   ·exact h _ (List.mem_cons_self ..)
   ·exact ih (fun z hz => h z (List.mem_cons_of_mem _ hz)) y hy
theorem mt_okMs : ∀ (t u : Ty) (es : Es) (c : Nat), okT u = true → cnt u ≤ 100 → okMs es → okMs (mtE t u es c) := by
 have key : ∀ (N : Nat), (∀ (t u : Ty) (es : Es) (c : Nat), SizeOf.sizeOf t < N → okT u = true → cnt u ≤ 100 → okMs es → okMs (mtT t u es c).es) ∧ ∀ (l m : List Ty) (es : Es) (c : Nat), SizeOf.sizeOf l < N → okL m = true → cntL m ≤ 100 → okMs es → okMs (mtL l m es c).es := by
  intro N
  induction N with
  | zero => exact ⟨fun _ _ _ _ h => by omega, fun _ _ _ _ h => by omega⟩
  | succ N ih =>
   obtain ⟨ih1, ih2⟩ := ih
   constructor
   ·intro t u es c ht ho hc hm
    obtain ⟨k, n, b, l⟩ := t
    simp only [Ty.mk.sizeOf_spec] at ht
    have hcl : okT (cleanT u) = true ∧ cnt (cleanT u) ≤ 100 := ⟨ok_clean u ho, by rw [cnt_clean]; exact hc⟩
    simp only [mtT]
    split
    ·split
     ·split
      ·exact okMs_set hm hcl.1 hcl.2
      ·exact hm
     ·intro y hy
      rcases List.mem_append.1 hy with hy | hy
      ·exact hm y hy
      ·obtain rfl := List.mem_singleton.1 hy
       exact hcl
    split
    ·obtain ⟨k', n', b', l'⟩ := u
     exact ih2 l l' es c (by omega) (okL_of ho).2 (by simp only [cnt] at hc; omega) hm
    ·exact hm
   ·intro l m es c hl ho hc hm
    match l, m with
    | [], _ => simpa only [mtL] using hm
    | x :: xs, [] => simpa only [mtL] using hm
    | x :: xs, y :: ys =>
     simp only [List.cons.sizeOf_spec] at hl
     simp only [okL, Bool.and_eq_true] at ho
     simp only [cntL] at hc
     simp only [mtL]
     have h1 := ih1 x y es c (by omega) ho.1 (by omega) hm
     split
     ·exact ih2 xs ys _ _ (by omega) ho.2 (by omega) h1
     ·exact h1
 exact fun t u es c => (key (SizeOf.sizeOf t + 1)).1 t u es c (by omega)
end Kd
noncomputable section
namespace Go.Proofs.YtnmolpkkemljoaaGreatDoor
open Go Go.Am Kd
theorem ex_one {x : Ty} {P : Ty → Prop} : (∃ y : Ty, some (AV.agg [.int .i64 (Ty.kind x), .int .i64 (Ty.n x), .isl (Ty.nl x) none 0 (encL (Ty.l x))]) = some (AV.agg [.int .i64 (Ty.kind y), .int .i64 (Ty.n y), .isl (Ty.nl y) none 0 (encL (Ty.l y))]) ∧ P y) = P x := by
 refine propext ⟨fun ⟨y, h1, h2⟩ => ?_, fun hp => ⟨x, rfl, hp⟩⟩
 have : encD x = encD y := Option.some.inj h1
 rw [← enc_D, ← enc_D] at this
 rw [enc_inj this]; exact h2
def mtEnd (t u : Ty) (es : Es) (c : Nat) : AEnd := match mtB t u es c with | true => .returned (.tup []) | false => .panicked (stopC 15)
def MWalkJ (t u : Ty) (es : Es) (c : Nat) : Prop := FJ 65 [enc t, enc u, .ptr 6 0, .ptr 7 0] (mtA es c) (hpIs 0 (mtEnd t u es c) (mtA (mtE t u es c) (mtC t u es c)))
theorem mtA_ok (es : Es) (c : Nat) : (mtA es c).ok 8 0 = true := by
 simp [AH.ok, mtA, top3, ABlk.bnd, AV.bnd, AV.bndL, encM_bnd]
theorem argMt_elim {A : AH} {K : Es → Nat → Prop} (h : argMt A K) : ∃ es c, K es c := by
 unfold argMt at h
 split at h
 ·obtain ⟨es, _, h⟩ := h
  exact ⟨es, _, h⟩
 ·exact h.elim
theorem mwalk_hook {N : Nat} (ih : ∀ (t u : Ty) (es : Es) (c : Nat), SizeOf.sizeOf t < N → okT t = true → okT u = true → okMs es → cnt u ≤ 100 → MWalkJ t u es c) : HSpec.Ok Tryz.prog g0 65 (mwalkH N) := by
 intro args A K h'
 unfold mwalkH at h'
 split at h'
 ·obtain ⟨t, rfl, g1⟩ := argTy_elim h'
  obtain ⟨u, rfl, g2⟩ := argTy_elim g1
  obtain ⟨es, c, ⟨h1, h2, h3, h4, h5⟩, h⟩ := argMt_elim g2
  have hj := ih t u es c h1 h2 h3 h4 h5
  simp only [MWalkJ, mtEnd] at hj
  have hb : AV.bndL 8 0 [enc t, enc u, .ptr 6 0, .ptr 7 0] = true := by simp [AV.bndL, AV.bnd, AV.still_bnd, enc_still]
  cases hf : mtB t u es c with
  | true =>
   simp only [hf] at h hj
   obtain ⟨hK, hr⟩ := FuncJ.on (n := 8) h hj (mtA_ok ..) (mtA_ok ..) hb (by simp [AEnd.bnd, AV.bnd, AV.bndL])
   exact ⟨_, hr, hK⟩
  | false =>
   simp only [hf] at h hj
   obtain ⟨hK, hr⟩ := FuncJ.on (n := 8) h hj (mtA_ok ..) (mtA_ok ..) hb (stop_bnd ..)
   exact ⟨_, hr, hK⟩
 ·exact h'.elim
theorem mwalk_ok : ∀ (N : Nat) (t u : Ty) (es : Es) (c : Nat), SizeOf.sizeOf t < N → okT t = true → okT u = true → okMs es → cnt u ≤ 100 → MWalkJ t u es c := by
 intro N
 induction N with
 | zero => intro t u es c h; omega
 | succ N ih =>
  intro t u es c ht hot hou hm hcu
  have hh : Hooks.Ok Tryz.prog g0 (mwHk N) := mkHooks_ok (all_cons eq_hook0 (all_cons kcl_hook0 all_nil)) (all_cons (mwalk_hook ih) all_nil) all_nil
  refine FuncJ.run (el := els) (mu := mu0) (hk := mwHk N) hmix hh (n := 60) ?_
  obtain ⟨k, n, b, l⟩ := t
  obtain ⟨hl2, hol⟩ := okL_of hot
  have hno := (ok_node hot).1
  simp only [NodeOk] at hno
  obtain ⟨ku, nu, bu, lu⟩ := u
  obtain ⟨hlu2, holu⟩ := okL_of hou
  have hnu := (ok_node hou).1
  simp only [NodeOk] at hnu
  simp only [Ty.mk.sizeOf_spec] at ht
  have e0 : encL [] = [] := by simp only [encL]
  have e1 : ∀ x, encL [x] = [encD x] := fun x => by simp only [encL, enc_D]
  have e2 : ∀ x y, encL [x, y] = [encD x, encD y] := fun x y => by simp only [encL, enc_D]
  by_cases h6 : k = 6
  ·have : l = [] := List.length_eq_zero_iff.1 (by omega)
   subst this
   refine cast (mw_0 es (mtE (.mk k n b []) (.mk ku nu bu lu) es c) c (mtC (.mk k n b []) (.mk ku nu bu lu) es c) k n b (.mk ku nu bu lu) N (mtEnd (.mk k n b []) (.mk ku nu bu lu) es c)).symm ?_
   simp only [eq_self, true_and, and_true, SubR_id, ex_encM, ex_enc, Ty.eta, h6, decide_true, bothR]
   cases hb : boundM es n with
   | none =>
    have hk := keyFind_none hb 0
    have hm' : mtT (.mk 6 n b []) (.mk ku nu bu lu) es c = ⟨true, es ++ [(n, cleanT (.mk ku nu bu lu), c)], c + 1⟩ := by simp only [mtT, if_true, hb]
    refine .inl ⟨hk, hou, .inl ⟨hk, ?_, ?_, ?_⟩⟩
    ·simp only [mtEnd, mtB, hm']
    ·simp only [mtE, hm', encM, List.map_append, List.map_cons, List.map_nil, entM]; rfl
    ·simp only [mtC, hm']
   | some o =>
    obtain ⟨j, cb, hk, hj, hset⟩ := key_set hb 0
    have hoo : okT o = true := by
     obtain ⟨y, hy, rfl⟩ := boundM_mem hb
     exact (hm y hy).1
    rw [Nat.zero_add] at hk
    refine .inr ⟨j, o, hk, ⟨hoo, hou⟩, ?_⟩
    cases hs : sameB o (.mk ku nu bu lu) with
    | false =>
     have hm' : mtT (.mk 6 n b []) (.mk ku nu bu lu) es c = ⟨false, es, c⟩ := by simp [mtT, hb, hs]
     simp only [Bool.not_false]
     refine ⟨?_, ?_, ?_⟩
     ·simp only [mtEnd, mtB, hm']; rfl
     ·simp only [mtE, hm']
     ·simp only [mtC, hm']
    | true =>
     have hm' : mtT (.mk 6 n b []) (.mk ku nu bu lu) es c = ⟨true, setM es n (cleanT (.mk ku nu bu lu)), c⟩ := by simp [mtT, hb, hs]
     simp only [Bool.not_true]
     refine ⟨hou, .inr ⟨j, _, cb, hk, hj, ?_, ?_, ?_⟩⟩
     ·simp only [mtEnd, mtB, hm']
     ·simp only [mtE, hm']; exact hset _
     ·simp only [mtC, hm']
  by_cases hk : k = ku
  rotate_left
  ·have hm' : mtT (.mk k n b l) (.mk ku nu bu lu) es c = ⟨false, es, c⟩ := by simp [mtT, h6, hk, Ty.kind]
   have g1 : mtEnd (.mk k n b l) (.mk ku nu bu lu) es c = .panicked (stopC 15) := by simp only [mtEnd, mtB, hm']
   have g2 : mtE (.mk k n b l) (.mk ku nu bu lu) es c = es := by simp only [mtE, hm']
   have g3 : mtC (.mk k n b l) (.mk ku nu bu lu) es c = c := by simp only [mtC, hm']
   rw [g1, g2, g3]
   match l, hl2 with
   | [], _ =>
    refine cast (mw_0 es es c c k n b (.mk ku nu bu lu) N (.panicked (stopC 15))).symm ?_
    simp only [eq_self, true_and, and_true, SubR_id, h6, hk, decide_false, decide_true, Bool.not_false, bothR, tk_mk]
    rfl
   | [x], _ =>
    rw [show enc (.mk k n b [x]) = .agg [.int .i64 k, .int .i64 n, .isl b none 0 [encD x]] by rw [enc, e1]]
    refine cast (mw_1 es es c c k n b x (.mk ku nu bu lu) N (.panicked (stopC 15))).symm ?_
    simp only [eq_self, true_and, and_true, SubR_id, h6, hk, decide_false, decide_true, Bool.not_false, bothR, tk_mk]
    rfl
   | [x, y], _ =>
    rw [show enc (.mk k n b [x, y]) = .agg [.int .i64 k, .int .i64 n, .isl b none 0 [encD x, encD y]] by rw [enc, e2]]
    refine cast (mw_2 es es c c k n b x y (.mk ku nu bu lu) N (.panicked (stopC 15))).symm ?_
    simp only [eq_self, true_and, and_true, SubR_id, h6, hk, decide_false, decide_true, Bool.not_false, bothR, tk_mk]
    rfl
  subst hk
  have hll : lu.length = l.length := by omega
  have hmt : mtT (.mk k n b l) (.mk k nu bu lu) es c = mtL l lu es c := by simp [mtT, h6, Ty.kind, Ty.l]
  simp only [cnt] at hcu
  match l, lu, hll, hl2, hol, holu, ht, hmt, hcu with
  | [], [], _, _, _, _, _, hmt, _ =>
   simp only [mtL] at hmt
   refine cast (mw_0 es (mtE (.mk k n b []) (.mk k nu bu []) es c) c (mtC (.mk k n b []) (.mk k nu bu []) es c) k n b (.mk k nu bu []) N (mtEnd (.mk k n b []) (.mk k nu bu []) es c)).symm ?_
   simp only [eq_self, true_and, and_true, SubR_id, h6, decide_false, decide_true, Bool.not_true, bothR, tk_mk, mtEnd, mtB, mtE, mtC, hmt]
  | [x], [u], _, _, hol, holu, ht, hmt, hcu =>
   simp only [okL, Bool.and_true] at hol holu
   simp only [List.cons.sizeOf_spec] at ht
   simp only [cntL] at hcu
   rw [show enc (.mk k n b [x]) = .agg [.int .i64 k, .int .i64 n, .isl b none 0 [encD x]] by rw [enc, e1], show enc (.mk k nu bu [u]) = encD (.mk k nu bu [u]) from enc_D _]
   refine cast (mw_1 es (mtE (.mk k n b [x]) (.mk k nu bu [u]) es c) c (mtC (.mk k n b [x]) (.mk k nu bu [u]) es c) k n b x (.mk k nu bu [u]) N (mtEnd (.mk k n b [x]) (.mk k nu bu [u]) es c)).symm ?_
   simp only [eq_self, true_and, and_true, SubR_id, ex_encM, ex_enc, Ty.eta, ex_one, h6, decide_false, decide_true, Bool.not_true, bothR, tk_mk, tl_mk, e1, List.getElem?_cons_zero, encD]
   have hr : mtT (.mk k n b [x]) (.mk k nu bu [u]) es c = ⟨mtB x u es c, mtE x u es c, mtC x u es c⟩ := by
    rw [hmt]; simp only [mtL, mtB, mtE, mtC]; split
    ·rename_i h; rw [h]
    ·rename_i h; rw [Bool.not_eq_true] at h; rw [h]
   have gB : mtB (.mk k n b [x]) (.mk k nu bu [u]) es c = mtB x u es c := congrArg MR.ok hr
   have gE : mtE (.mk k n b [x]) (.mk k nu bu [u]) es c = mtE x u es c := congrArg MR.es hr
   have gC : mtC (.mk k n b [x]) (.mk k nu bu [u]) es c = mtC x u es c := congrArg MR.c hr
   rw [gE, gC]
   refine ⟨nn 0, nn 0, ⟨by omega, hol, holu, hm, by omega⟩, ?_⟩
   cases hf : mtB x u es c with
   | true => exact ⟨by unfold mtEnd; rw [gB, hf], rfl, rfl⟩
   | false => exact ⟨by unfold mtEnd; rw [gB, hf]; rfl, rfl, rfl⟩
  | [x, y], [u, v], _, _, hol, holu, ht, hmt, hcu =>
   simp only [okL, Bool.and_true, Bool.and_eq_true] at hol holu
   simp only [List.cons.sizeOf_spec] at ht
   simp only [cntL] at hcu
   rw [show enc (.mk k n b [x, y]) = .agg [.int .i64 k, .int .i64 n, .isl b none 0 [encD x, encD y]] by rw [enc, e2], show enc (.mk k nu bu [u, v]) = encD (.mk k nu bu [u, v]) from enc_D _]
   refine cast (mw_2 es (mtE (.mk k n b [x, y]) (.mk k nu bu [u, v]) es c) c (mtC (.mk k n b [x, y]) (.mk k nu bu [u, v]) es c) k n b x y (.mk k nu bu [u, v]) N (mtEnd (.mk k n b [x, y]) (.mk k nu bu [u, v]) es c)).symm ?_
   simp only [eq_self, true_and, and_true, SubR_id, ex_encM, ex_enc, Ty.eta, ex_one, h6, decide_false, decide_true, Bool.not_true, bothR, tk_mk, tl_mk, e2, List.getElem?_cons_zero, List.getElem?_cons_succ, encD]
   have hr1 : (mtT x u es c).ok = true → mtT (.mk k n b [x, y]) (.mk k nu bu [u, v]) es c = ⟨mtB y v (mtE x u es c) (mtC x u es c), mtE y v (mtE x u es c) (mtC x u es c), mtC y v (mtE x u es c) (mtC x u es c)⟩ := by
    intro h1
    rw [hmt]; simp only [mtL, mtB, mtE, mtC]
    rw [if_pos h1]
    by_cases h2 : (mtT y v (mtT x u es c).es (mtT x u es c).c).ok = true
    ·rw [if_pos h2, h2]
    ·rw [if_neg h2]
     rw [Bool.not_eq_true] at h2
     rw [h2]
   have hr2 : (mtT x u es c).ok = false → mtT (.mk k n b [x, y]) (.mk k nu bu [u, v]) es c = ⟨false, mtE x u es c, mtC x u es c⟩ := by
    intro h1
    rw [hmt]; simp only [mtL, mtB, mtE, mtC]
    rw [if_neg (by rw [h1]; simp)]
   refine ⟨nn 0, nn 0, ⟨by omega, hol.1, holu.1, hm, by omega⟩, ?_⟩
   cases hf : mtB x u es c with
   | true =>
    have hr := hr1 hf
    have gB : mtB (.mk k n b [x, y]) (.mk k nu bu [u, v]) es c = mtB y v (mtE x u es c) (mtC x u es c) := congrArg MR.ok hr
    have gE : mtE (.mk k n b [x, y]) (.mk k nu bu [u, v]) es c = mtE y v (mtE x u es c) (mtC x u es c) := congrArg MR.es hr
    have gC : mtC (.mk k n b [x, y]) (.mk k nu bu [u, v]) es c = mtC y v (mtE x u es c) (mtC x u es c) := congrArg MR.c hr
    rw [gE, gC]
    refine ⟨nn 1, nn 1, ⟨by omega, hol.2, holu.2, mt_okMs x u es c holu.1 (by omega) hm, by omega⟩, ?_⟩
    cases hg : mtB y v (mtE x u es c) (mtC x u es c) with
    | true => exact ⟨by unfold mtEnd; rw [gB, hg], rfl, rfl⟩
    | false => exact ⟨by unfold mtEnd; rw [gB, hg]; rfl, rfl, rfl⟩
   | false =>
    have hr := hr2 hf
    have gB : mtB (.mk k n b [x, y]) (.mk k nu bu [u, v]) es c = false := congrArg MR.ok hr
    have gE : mtE (.mk k n b [x, y]) (.mk k nu bu [u, v]) es c = mtE x u es c := (congrArg MR.es hr).trans rfl
    have gC : mtC (.mk k n b [x, y]) (.mk k nu bu [u, v]) es c = mtC x u es c := (congrArg MR.c hr).trans rfl
    rw [gE, gC]
    exact ⟨by unfold mtEnd; rw [gB]; rfl, rfl, rfl⟩
theorem mwalk_hook0 : HSpec.Ok Tryz.prog g0 65 mwalkH0 := by
 intro args A K h'
 unfold mwalkH0 at h'
 split at h'
 ·obtain ⟨t, rfl, g1⟩ := argTy_elim h'
  obtain ⟨u, rfl, g2⟩ := argTy_elim g1
  obtain ⟨es, c, ⟨h2, h3, h4, h5⟩, h⟩ := argMt_elim g2
  have hj := mwalk_ok (SizeOf.sizeOf t + 1) t u es c (by omega) h2 h3 h4 h5
  simp only [MWalkJ, mtEnd] at hj
  have hb : AV.bndL 8 0 [enc t, enc u, .ptr 6 0, .ptr 7 0] = true := by simp [AV.bndL, AV.bnd, AV.still_bnd, enc_still]
  cases hf : mtB t u es c with
  | true =>
   simp only [hf] at h hj
   obtain ⟨hK, hr⟩ := FuncJ.on (n := 8) h hj (mtA_ok ..) (mtA_ok ..) hb (by simp [AEnd.bnd, AV.bnd, AV.bndL])
   exact ⟨_, hr, hK⟩
  | false =>
   simp only [hf] at h hj
   obtain ⟨hK, hr⟩ := FuncJ.on (n := 8) h hj (mtA_ok ..) (mtA_ok ..) hb (stop_bnd ..)
   exact ⟨_, hr, hK⟩
 ·exact h'.elim
end Go.Proofs.YtnmolpkkemljoaaGreatDoor
end
end
section
namespace Kd
open Go.Am Go.Proofs.YtnmolpkkemljoaaGreatDoor
abbrev Tx := List UInt8
abbrev Ps := List (Tx × Tx)
def entP (x : Tx × Tx) (i : Nat) : AV × AV × Nat := (.agg [.str x.1, .str x.2], .int .i64 i, i)
def encPi : Ps → Nat → List (AV × AV × Nat)
 | [], _ => []
 | x :: l, i => entP x i :: encPi l (i + 1)
def encP (ps : Ps) : List (AV × AV × Nat) := encPi ps 0
def idxP : Ps → Tx × Tx → Nat → Option Nat
 | [], _, _ => none
 | y :: l, x, i => if x = y then some i else idxP l x (i + 1)
structure CR where
 t : Ty
 ps : Ps
structure CL where
 l : List Ty
 ps : Ps
mutual
def cmF : Ty → Ty → Ps → CR
 | .mk k n b l, v, ps =>
  if k = v.kind ∧ ¬ k = 6 then ⟨.mk k 0 (nilB l) (cmG l v.l ps).l, (cmG l v.l ps).ps⟩
  else
   match idxP ps (writeS (.mk k n b l), writeS v) 0 with
   | some i => ⟨varT i, ps⟩
   | none => ⟨varT ps.length, ps ++ [(writeS (.mk k n b l), writeS v)]⟩
def cmG : List Ty → List Ty → Ps → CL
 | x :: xs, y :: ys, ps => ⟨(cmF x y ps).t :: (cmG xs ys (cmF x y ps).ps).l, (cmG xs ys (cmF x y ps).ps).ps⟩
 | _, _, ps => ⟨[], ps⟩
end
def cmT (t u : Ty) (ps : Ps) : Ty := (cmF t u ps).t
def cmP (t u : Ty) (ps : Ps) : Ps := (cmF t u ps).ps
end Kd
noncomputable section
namespace Go.Proofs.YtnmolpkkemljoaaGreatDoor
open Go Go.Am Kd
def cmA (ps : Ps) : AH := ⟨[top3, top3, top3, .cells [.top] 28, top3, top3, .map (encP ps) ps.length, .cells [.map 6] 88, .cells [.fn (.func 71) [] [.ptr 8 0, .ptr 7 0]] 89], []⟩
def argCm (A : AH) (K : Ps → Prop) : Prop :=
 match nthR A.blks 6 with
 | some (.map m c) => ∃ ps, m = encP ps ∧ c = ps.length ∧ K ps
 | _ => False
def cwalkC (N : Nat) : HSpec := fun args A K =>
 match args with
 | [t, u, .ptr 8 0, .ptr 7 0] => argTy t fun t => argTy u fun u => argCm A fun ps => (SizeOf.sizeOf t < N ∧ okT t = true ∧ okT u = true ∧ cnt t ≤ 100 ∧ cnt u ≤ 100 ∧ ps.length + cnt t ≤ 1000) ∧
   onR 0 A (cmA ps) (K ⟨.returned (encD (cmT t u ps)), (cmA (cmP t u ps)).onto A⟩)
 | _ => False
def cwalkC0 : HSpec := fun args A K =>
 match args with
 | [t, u, .ptr 8 0, .ptr 7 0] => argTy t fun t => argTy u fun u => argCm A fun ps => (okT t = true ∧ okT u = true ∧ cnt t ≤ 100 ∧ cnt u ≤ 100 ∧ ps.length + cnt t ≤ 1000) ∧
   onR 0 A (cmA ps) (K ⟨.returned (encD (cmT t u ps)), (cmA (cmP t u ps)).onto A⟩)
 | _ => False
def cmHk (N : Nat) : Hooks := mkHooks Tryz.prog [(72, wrQ0)] [(71, cwalkC N)] []
def cmHk0 : Hooks := mkHooks Tryz.prog [(76, validQ)] [(71, cwalkC0)] []
end Go.Proofs.YtnmolpkkemljoaaGreatDoor
end
end
section
noncomputable section
namespace Go.Proofs.YtnmolpkkemljoaaGreatDoor
open Go Go.Am Kd Go.Am.AV Go.IntKind
set_option maxRecDepth 100000
theorem cw_0 (ps ps' : Ps) (k n : Int) (b : Bool) (v : Ty) (N : Nat) (e : AEnd) : (runT (cmHk N) 60 71 [.agg [.int .i64 k, .int .i64 n, .isl b none 0 []], encD v, .ptr 8 0, .ptr 7 0] (cmA ps) (hpFz Tryz.prog 9 0 5 e (cmA ps'))) = ( bothR (decide (k = Ty.kind v)) (bothR (!decide (k = (6 : Int))) (AEnd.returned (agg [int i64 k, int i64 (0), isl true none (0) []]) = e ∧ 24 = 24 ∧ 24 = 24 ∧ 24 = 24 ∧ 28 = 28 ∧ 24 = 24 ∧ 24 = 24 ∧ encP ps = encP ps' ∧ List.length ps = List.length ps' ∧ 88 = 88 ∧ SubR [AV.map (6)] [AV.map (6)] (89 = 89 ∧
 SubR [AV.fn (Fn.func (71)) [] [ptr (8) (0), ptr (7) (0)]] [AV.fn (Fn.func (71)) [] [ptr (8) (0), ptr (7) (0)]] (0 = 0 ∧ True))) (∃ l, [] = encL l ∧ (okT (Ty.mk k n b l) = true ∧ cnt (Ty.mk k n b l) ≤ 1000) ∧ ∃ l_1, encL (Ty.l v) = encL l_1 ∧ (okT (Ty.mk (Ty.kind v) (Ty.n v) (Ty.nl v) l_1) = true ∧ cnt (Ty.mk (Ty.kind v) (Ty.n v) (Ty.nl v) l_1) ≤ 1000) ∧ (keyFind (agg [str (writeS (Ty.mk k n b l)), str (writeS (Ty.mk (Ty.kind v) (Ty.n v) (Ty.nl v) l_1))]) (encP ps) 0 = some none ∧
 (keyFind (agg [str (writeS (Ty.mk k n b l)), str (writeS (Ty.mk (Ty.kind v) (Ty.n v) (Ty.nl v) l_1))]) (encP ps) 0 = some none ∧ AEnd.returned (agg [int i64 (6), int i64 (iC (List.length (encP ps))), isl true none (0) []]) = e ∧ 24 = 24 ∧ 24 = 24 ∧ 24 = 24 ∧ 28 = 28 ∧ 24 = 24 ∧ 24 = 24 ∧ encP ps ++ [(agg [str (writeS (Ty.mk k n b l)), str (writeS (Ty.mk (Ty.kind v) (Ty.n v) (Ty.nl v) l_1))], int i64 (iC (List.length (encP ps))), List.length ps)] = encP ps' ∧ List.length ps + 1 = List.length ps' ∧ 88 = 88 ∧ SubR [AV.map (6)] [AV.map (6)]
 (89 = 89 ∧ SubR [AV.fn (Fn.func (71)) [] [ptr (8) (0), ptr (7) (0)]] [AV.fn (Fn.func (71)) [] [ptr (8) (0), ptr (7) (0)]] (0 = 0 ∧ True)) ∨ ∃ j y c, keyFind (agg [str (writeS (Ty.mk k n b l)), str (writeS (Ty.mk (Ty.kind v) (Ty.n v) (Ty.nl v) l_1))]) (encP ps) 0 = some (some (j, y)) ∧ (encP ps)[j]? = some (agg [str (writeS (Ty.mk k n b l)), str (writeS (Ty.mk (Ty.kind v) (Ty.n v) (Ty.nl v) l_1))], y, c) ∧ AEnd.returned (agg [int i64 (6), int i64 (iC (List.length (encP ps))), isl true none (0) []]) = e ∧ 24 = 24 ∧ 24 = 24 ∧ 24 = 24 ∧
 28 = 28 ∧ 24 = 24 ∧ 24 = 24 ∧ List.set (encP ps) j (agg [str (writeS (Ty.mk k n b l)), str (writeS (Ty.mk (Ty.kind v) (Ty.n v) (Ty.nl v) l_1))], int i64 (iC (List.length (encP ps))), c) = encP ps' ∧ List.length ps = List.length ps' ∧ 88 = 88 ∧ SubR [AV.map (6)] [AV.map (6)] (89 = 89 ∧ SubR [AV.fn (Fn.func (71)) [] [ptr (8) (0), ptr (7) (0)]] [AV.fn (Fn.func (71)) [] [ptr (8) (0), ptr (7) (0)]] (0 = 0 ∧ True))) ∨ ∃ j x, keyFind (agg [str (writeS (Ty.mk k n b l)), str (writeS (Ty.mk (Ty.kind v) (Ty.n v) (Ty.nl v) l_1))]) (encP ps) 0 =
 some (some (j, int i64 x)) ∧ AEnd.returned (agg [int i64 (6), int i64 x, isl true none (0) []]) = e ∧ 24 = 24 ∧ 24 = 24 ∧ 24 = 24 ∧ 28 = 28 ∧ 24 = 24 ∧ 24 = 24 ∧ encP ps = encP ps' ∧ List.length ps = List.length ps' ∧ 88 = 88 ∧ SubR [AV.map (6)] [AV.map (6)] (89 = 89 ∧ SubR [AV.fn (Fn.func (71)) [] [ptr (8) (0), ptr (7) (0)]] [AV.fn (Fn.func (71)) [] [ptr (8) (0), ptr (7) (0)]] (0 = 0 ∧ True))))) (∃ l, [] = encL l ∧ (okT (Ty.mk k n b l) = true ∧ cnt (Ty.mk k n b l) ≤ 1000) ∧ ∃ l_1, encL (Ty.l v) = encL l_1 ∧
 (okT (Ty.mk (Ty.kind v) (Ty.n v) (Ty.nl v) l_1) = true ∧ cnt (Ty.mk (Ty.kind v) (Ty.n v) (Ty.nl v) l_1) ≤ 1000) ∧ (keyFind (agg [str (writeS (Ty.mk k n b l)), str (writeS (Ty.mk (Ty.kind v) (Ty.n v) (Ty.nl v) l_1))]) (encP ps) 0 = some none ∧ (keyFind (agg [str (writeS (Ty.mk k n b l)), str (writeS (Ty.mk (Ty.kind v) (Ty.n v) (Ty.nl v) l_1))]) (encP ps) 0 = some none ∧ AEnd.returned (agg [int i64 (6), int i64 (iC (List.length (encP ps))), isl true none (0) []]) = e ∧ 24 = 24 ∧ 24 = 24 ∧ 24 = 24 ∧ 28 = 28 ∧ 24 = 24 ∧ 24 = 24 ∧ encP ps ++
 [(agg [str (writeS (Ty.mk k n b l)), str (writeS (Ty.mk (Ty.kind v) (Ty.n v) (Ty.nl v) l_1))], int i64 (iC (List.length (encP ps))), List.length ps)] = encP ps' ∧ List.length ps + 1 = List.length ps' ∧ 88 = 88 ∧ SubR [AV.map (6)] [AV.map (6)] (89 = 89 ∧ SubR [AV.fn (Fn.func (71)) [] [ptr (8) (0), ptr (7) (0)]] [AV.fn (Fn.func (71)) [] [ptr (8) (0), ptr (7) (0)]] (0 = 0 ∧ True)) ∨ ∃ j y c, keyFind (agg [str (writeS (Ty.mk k n b l)), str (writeS (Ty.mk (Ty.kind v) (Ty.n v) (Ty.nl v) l_1))]) (encP ps) 0 = some (some (j, y)) ∧
 (encP ps)[j]? = some (agg [str (writeS (Ty.mk k n b l)), str (writeS (Ty.mk (Ty.kind v) (Ty.n v) (Ty.nl v) l_1))], y, c) ∧ AEnd.returned (agg [int i64 (6), int i64 (iC (List.length (encP ps))), isl true none (0) []]) = e ∧ 24 = 24 ∧ 24 = 24 ∧ 24 = 24 ∧ 28 = 28 ∧ 24 = 24 ∧ 24 = 24 ∧ List.set (encP ps) j (agg [str (writeS (Ty.mk k n b l)), str (writeS (Ty.mk (Ty.kind v) (Ty.n v) (Ty.nl v) l_1))], int i64 (iC (List.length (encP ps))), c) = encP ps' ∧ List.length ps = List.length ps' ∧ 88 = 88 ∧ SubR [AV.map (6)] [AV.map (6)] (89 = 89 ∧
 SubR [AV.fn (Fn.func (71)) [] [ptr (8) (0), ptr (7) (0)]] [AV.fn (Fn.func (71)) [] [ptr (8) (0), ptr (7) (0)]] (0 = 0 ∧ True))) ∨ ∃ j x, keyFind (agg [str (writeS (Ty.mk k n b l)), str (writeS (Ty.mk (Ty.kind v) (Ty.n v) (Ty.nl v) l_1))]) (encP ps) 0 = some (some (j, int i64 x)) ∧ AEnd.returned (agg [int i64 (6), int i64 x, isl true none (0) []]) = e ∧ 24 = 24 ∧ 24 = 24 ∧ 24 = 24 ∧ 28 = 28 ∧ 24 = 24 ∧ 24 = 24 ∧ encP ps = encP ps' ∧ List.length ps = List.length ps' ∧ 88 = 88 ∧ SubR [AV.map (6)] [AV.map (6)] (89 = 89 ∧
 SubR [AV.fn (Fn.func (71)) [] [ptr (8) (0), ptr (7) (0)]] [AV.fn (Fn.func (71)) [] [ptr (8) (0), ptr (7) (0)]] (0 = 0 ∧ True))))) := by kernel_rfl
theorem cw_1 (ps ps' : Ps) (k n : Int) (b : Bool) (x : Ty) (v : Ty) (N : Nat) (e : AEnd) : (runT (cmHk N) 60 71 [.agg [.int .i64 k, .int .i64 n, .isl b none 0 [encD x]], encD v, .ptr 8 0, .ptr 7 0] (cmA ps) (hpFz Tryz.prog 9 0 5 e (cmA ps'))) = ( bothR (decide (k = Ty.kind v)) (bothR (!decide (k = (6 : Int))) (Int.NonNeg (0) ∧ ∃ x_1, some (agg [int i64 (Ty.kind x), int i64 (Ty.n x), isl (Ty.nl x) none (0) (encL (Ty.l x))]) = some (agg [int i64 (Ty.kind x_1), int i64 (Ty.n x_1), isl (Ty.nl x_1) none (0) (encL (Ty.l x_1))]) ∧
 Int.NonNeg (0) ∧ ∃ x, (encL (Ty.l v))[0]? = some (agg [int i64 (Ty.kind x), int i64 (Ty.n x), isl (Ty.nl x) none (0) (encL (Ty.l x))]) ∧ ∃ l, encL (Ty.l x_1) = encL l ∧ ∃ l_1, encL (Ty.l x) = encL l_1 ∧ ∃ ps_1, encP ps = encP ps_1 ∧ List.length ps = List.length ps_1 ∧ (SizeOf.sizeOf (Ty.mk (Ty.kind x_1) (Ty.n x_1) (Ty.nl x_1) l) < N ∧ okT (Ty.mk (Ty.kind x_1) (Ty.n x_1) (Ty.nl x_1) l) = true ∧ okT (Ty.mk (Ty.kind x) (Ty.n x) (Ty.nl x) l_1) = true ∧ cnt (Ty.mk (Ty.kind x_1) (Ty.n x_1) (Ty.nl x_1) l) ≤ 100 ∧ cnt (Ty.mk (Ty.kind x) (Ty.n x) (Ty.nl x) l_1) ≤ 100 ∧
 List.length ps_1 + cnt (Ty.mk (Ty.kind x_1) (Ty.n x_1) (Ty.nl x_1) l) ≤ 1000) ∧ 24 = 24 ∧ 24 = 24 ∧ 24 = 24 ∧ 28 = 28 ∧ 24 = 24 ∧ 24 = 24 ∧ encP ps = encP ps_1 ∧ List.length ps = List.length ps_1 ∧ 88 = 88 ∧ SubR [AV.map (6)] [AV.map (6)] (89 = 89 ∧ SubR [AV.fn (Fn.func (71)) [] [ptr (8) (0), ptr (7) (0)]] [AV.fn (Fn.func (71)) [] [ptr (8) (0), ptr (7) (0)]] (0 = 0 ∧ ptr (12) (2) = ptr (12) (2) ∧ isl true none (0) [] = isl true none (0) [] ∧ (Nat.le (40) (35184372088832) ∧ Nat.le (1) (1152921504606846976)) ∧ true = true ∧ AEnd.returned (agg
 [int i64 k, int i64 (0), isl false none (0) [agg [int i64 (Ty.kind (cmT (Ty.mk (Ty.kind x_1) (Ty.n x_1) (Ty.nl x_1) l) (Ty.mk (Ty.kind x) (Ty.n x) (Ty.nl x) l_1) ps_1)), int i64 (Ty.n (cmT (Ty.mk (Ty.kind x_1) (Ty.n x_1) (Ty.nl x_1) l) (Ty.mk (Ty.kind x) (Ty.n x) (Ty.nl x) l_1) ps_1)), isl (Ty.nl (cmT (Ty.mk (Ty.kind x_1) (Ty.n x_1) (Ty.nl x_1) l) (Ty.mk (Ty.kind x) (Ty.n x) (Ty.nl x) l_1) ps_1)) none (0) (encL (Ty.l (cmT (Ty.mk (Ty.kind x_1) (Ty.n x_1) (Ty.nl x_1) l) (Ty.mk (Ty.kind x) (Ty.n x) (Ty.nl x) l_1) ps_1)))]]]) = e ∧ 24 = 24 ∧
 24 = 24 ∧ 24 = 24 ∧ 28 = 28 ∧ 24 = 24 ∧ 24 = 24 ∧ encP (cmP (Ty.mk (Ty.kind x_1) (Ty.n x_1) (Ty.nl x_1) l) (Ty.mk (Ty.kind x) (Ty.n x) (Ty.nl x) l_1) ps_1) = encP ps' ∧ List.length (cmP (Ty.mk (Ty.kind x_1) (Ty.n x_1) (Ty.nl x_1) l) (Ty.mk (Ty.kind x) (Ty.n x) (Ty.nl x) l_1) ps_1) = List.length ps' ∧ 88 = 88 ∧ SubR [AV.map (6)] [AV.map (6)] (89 = 89 ∧ SubR [AV.fn (Fn.func (71)) [] [ptr (8) (0), ptr (7) (0)]] [AV.fn (Fn.func (71)) [] [ptr (8) (0), ptr (7) (0)]] (0 = 0 ∧ True))))) (∃ l,
 [agg [int i64 (Ty.kind x), int i64 (Ty.n x), isl (Ty.nl x) none (0) (encL (Ty.l x))]] = encL l ∧ (okT (Ty.mk k n b l) = true ∧ cnt (Ty.mk k n b l) ≤ 1000) ∧ ∃ l_1, encL (Ty.l v) = encL l_1 ∧ (okT (Ty.mk (Ty.kind v) (Ty.n v) (Ty.nl v) l_1) = true ∧ cnt (Ty.mk (Ty.kind v) (Ty.n v) (Ty.nl v) l_1) ≤ 1000) ∧ (keyFind (agg [str (writeS (Ty.mk k n b l)), str (writeS (Ty.mk (Ty.kind v) (Ty.n v) (Ty.nl v) l_1))]) (encP ps) 0 = some none ∧
 (keyFind (agg [str (writeS (Ty.mk k n b l)), str (writeS (Ty.mk (Ty.kind v) (Ty.n v) (Ty.nl v) l_1))]) (encP ps) 0 = some none ∧ AEnd.returned (agg [int i64 (6), int i64 (iC (List.length (encP ps))), isl true none (0) []]) = e ∧ 24 = 24 ∧ 24 = 24 ∧ 24 = 24 ∧ 28 = 28 ∧ 24 = 24 ∧ 24 = 24 ∧ encP ps ++ [(agg [str (writeS (Ty.mk k n b l)), str (writeS (Ty.mk (Ty.kind v) (Ty.n v) (Ty.nl v) l_1))], int i64 (iC (List.length (encP ps))), List.length ps)] = encP ps' ∧ List.length ps + 1 = List.length ps' ∧ 88 = 88 ∧ SubR [AV.map (6)] [AV.map (6)]
 (89 = 89 ∧ SubR [AV.fn (Fn.func (71)) [] [ptr (8) (0), ptr (7) (0)]] [AV.fn (Fn.func (71)) [] [ptr (8) (0), ptr (7) (0)]] (0 = 0 ∧ True)) ∨ ∃ j y c, keyFind (agg [str (writeS (Ty.mk k n b l)), str (writeS (Ty.mk (Ty.kind v) (Ty.n v) (Ty.nl v) l_1))]) (encP ps) 0 = some (some (j, y)) ∧ (encP ps)[j]? = some (agg [str (writeS (Ty.mk k n b l)), str (writeS (Ty.mk (Ty.kind v) (Ty.n v) (Ty.nl v) l_1))], y, c) ∧ AEnd.returned (agg [int i64 (6), int i64 (iC (List.length (encP ps))), isl true none (0) []]) = e ∧ 24 = 24 ∧ 24 = 24 ∧ 24 = 24 ∧
 28 = 28 ∧ 24 = 24 ∧ 24 = 24 ∧ List.set (encP ps) j (agg [str (writeS (Ty.mk k n b l)), str (writeS (Ty.mk (Ty.kind v) (Ty.n v) (Ty.nl v) l_1))], int i64 (iC (List.length (encP ps))), c) = encP ps' ∧ List.length ps = List.length ps' ∧ 88 = 88 ∧ SubR [AV.map (6)] [AV.map (6)] (89 = 89 ∧ SubR [AV.fn (Fn.func (71)) [] [ptr (8) (0), ptr (7) (0)]] [AV.fn (Fn.func (71)) [] [ptr (8) (0), ptr (7) (0)]] (0 = 0 ∧ True))) ∨ ∃ j x, keyFind (agg [str (writeS (Ty.mk k n b l)), str (writeS (Ty.mk (Ty.kind v) (Ty.n v) (Ty.nl v) l_1))]) (encP ps) 0 =
 some (some (j, int i64 x)) ∧ AEnd.returned (agg [int i64 (6), int i64 x, isl true none (0) []]) = e ∧ 24 = 24 ∧ 24 = 24 ∧ 24 = 24 ∧ 28 = 28 ∧ 24 = 24 ∧ 24 = 24 ∧ encP ps = encP ps' ∧ List.length ps = List.length ps' ∧ 88 = 88 ∧ SubR [AV.map (6)] [AV.map (6)] (89 = 89 ∧ SubR [AV.fn (Fn.func (71)) [] [ptr (8) (0), ptr (7) (0)]] [AV.fn (Fn.func (71)) [] [ptr (8) (0), ptr (7) (0)]] (0 = 0 ∧ True))))) (∃ l, [agg [int i64 (Ty.kind x), int i64 (Ty.n x), isl (Ty.nl x) none (0) (encL (Ty.l x))]] = encL l ∧
 (okT (Ty.mk k n b l) = true ∧ cnt (Ty.mk k n b l) ≤ 1000) ∧ ∃ l_1, encL (Ty.l v) = encL l_1 ∧ (okT (Ty.mk (Ty.kind v) (Ty.n v) (Ty.nl v) l_1) = true ∧ cnt (Ty.mk (Ty.kind v) (Ty.n v) (Ty.nl v) l_1) ≤ 1000) ∧ (keyFind (agg [str (writeS (Ty.mk k n b l)), str (writeS (Ty.mk (Ty.kind v) (Ty.n v) (Ty.nl v) l_1))]) (encP ps) 0 = some none ∧ (keyFind (agg [str (writeS (Ty.mk k n b l)), str (writeS (Ty.mk (Ty.kind v) (Ty.n v) (Ty.nl v) l_1))]) (encP ps) 0 = some none ∧
 AEnd.returned (agg [int i64 (6), int i64 (iC (List.length (encP ps))), isl true none (0) []]) = e ∧ 24 = 24 ∧ 24 = 24 ∧ 24 = 24 ∧ 28 = 28 ∧ 24 = 24 ∧ 24 = 24 ∧ encP ps ++ [(agg [str (writeS (Ty.mk k n b l)), str (writeS (Ty.mk (Ty.kind v) (Ty.n v) (Ty.nl v) l_1))], int i64 (iC (List.length (encP ps))), List.length ps)] = encP ps' ∧ List.length ps + 1 = List.length ps' ∧ 88 = 88 ∧ SubR [AV.map (6)] [AV.map (6)] (89 = 89 ∧ SubR [AV.fn (Fn.func (71)) [] [ptr (8) (0), ptr (7) (0)]] [AV.fn (Fn.func (71)) [] [ptr (8) (0), ptr (7) (0)]]
 (0 = 0 ∧ True)) ∨ ∃ j y c, keyFind (agg [str (writeS (Ty.mk k n b l)), str (writeS (Ty.mk (Ty.kind v) (Ty.n v) (Ty.nl v) l_1))]) (encP ps) 0 = some (some (j, y)) ∧ (encP ps)[j]? = some (agg [str (writeS (Ty.mk k n b l)), str (writeS (Ty.mk (Ty.kind v) (Ty.n v) (Ty.nl v) l_1))], y, c) ∧ AEnd.returned (agg [int i64 (6), int i64 (iC (List.length (encP ps))), isl true none (0) []]) = e ∧ 24 = 24 ∧ 24 = 24 ∧ 24 = 24 ∧ 28 = 28 ∧ 24 = 24 ∧ 24 = 24 ∧ List.set (encP ps) j
 (agg [str (writeS (Ty.mk k n b l)), str (writeS (Ty.mk (Ty.kind v) (Ty.n v) (Ty.nl v) l_1))], int i64 (iC (List.length (encP ps))), c) = encP ps' ∧ List.length ps = List.length ps' ∧ 88 = 88 ∧ SubR [AV.map (6)] [AV.map (6)] (89 = 89 ∧ SubR [AV.fn (Fn.func (71)) [] [ptr (8) (0), ptr (7) (0)]] [AV.fn (Fn.func (71)) [] [ptr (8) (0), ptr (7) (0)]] (0 = 0 ∧ True))) ∨ ∃ j x, keyFind (agg [str (writeS (Ty.mk k n b l)), str (writeS (Ty.mk (Ty.kind v) (Ty.n v) (Ty.nl v) l_1))]) (encP ps) 0 = some (some (j, int i64 x)) ∧
 AEnd.returned (agg [int i64 (6), int i64 x, isl true none (0) []]) = e ∧ 24 = 24 ∧ 24 = 24 ∧ 24 = 24 ∧ 28 = 28 ∧ 24 = 24 ∧ 24 = 24 ∧ encP ps = encP ps' ∧ List.length ps = List.length ps' ∧ 88 = 88 ∧ SubR [AV.map (6)] [AV.map (6)] (89 = 89 ∧ SubR [AV.fn (Fn.func (71)) [] [ptr (8) (0), ptr (7) (0)]] [AV.fn (Fn.func (71)) [] [ptr (8) (0), ptr (7) (0)]] (0 = 0 ∧ True))))) := by kernel_rfl
theorem cw_2 (ps ps' : Ps) (k n : Int) (b : Bool) (x y : Ty) (v : Ty) (N : Nat) (e : AEnd) : (runT (cmHk N) 60 71 [.agg [.int .i64 k, .int .i64 n, .isl b none 0 [encD x, encD y]], encD v, .ptr 8 0, .ptr 7 0] (cmA ps) (hpFz Tryz.prog 9 0 5 e (cmA ps'))) = ( bothR (decide (k = Ty.kind v)) (bothR (!decide (k = (6 : Int))) (Int.NonNeg (0) ∧ ∃ x_1, some (agg [int i64 (Ty.kind x), int i64 (Ty.n x), isl (Ty.nl x) none (0) (encL (Ty.l x))]) = some (agg [int i64 (Ty.kind x_1), int i64 (Ty.n x_1), isl (Ty.nl x_1) none (0) (encL (Ty.l x_1))]) ∧
 Int.NonNeg (0) ∧ ∃ x, (encL (Ty.l v))[0]? = some (agg [int i64 (Ty.kind x), int i64 (Ty.n x), isl (Ty.nl x) none (0) (encL (Ty.l x))]) ∧ ∃ l, encL (Ty.l x_1) = encL l ∧ ∃ l_1, encL (Ty.l x) = encL l_1 ∧ ∃ ps_1, encP ps = encP ps_1 ∧ List.length ps = List.length ps_1 ∧ (SizeOf.sizeOf (Ty.mk (Ty.kind x_1) (Ty.n x_1) (Ty.nl x_1) l) < N ∧ okT (Ty.mk (Ty.kind x_1) (Ty.n x_1) (Ty.nl x_1) l) = true ∧ okT (Ty.mk (Ty.kind x) (Ty.n x) (Ty.nl x) l_1) = true ∧ cnt (Ty.mk (Ty.kind x_1) (Ty.n x_1) (Ty.nl x_1) l) ≤ 100 ∧ cnt (Ty.mk (Ty.kind x) (Ty.n x) (Ty.nl x) l_1) ≤ 100 ∧
 List.length ps_1 + cnt (Ty.mk (Ty.kind x_1) (Ty.n x_1) (Ty.nl x_1) l) ≤ 1000) ∧ 24 = 24 ∧ 24 = 24 ∧ 24 = 24 ∧ 28 = 28 ∧ 24 = 24 ∧ 24 = 24 ∧ encP ps = encP ps_1 ∧ List.length ps = List.length ps_1 ∧ 88 = 88 ∧ SubR [AV.map (6)] [AV.map (6)] (89 = 89 ∧ SubR [AV.fn (Fn.func (71)) [] [ptr (8) (0), ptr (7) (0)]] [AV.fn (Fn.func (71)) [] [ptr (8) (0), ptr (7) (0)]] (0 = 0 ∧ ptr (12) (2) = ptr (12) (2) ∧ isl true none (0) [] = isl true none (0) [] ∧ (Nat.le (40) (35184372088832) ∧ Nat.le (1) (1152921504606846976)) ∧ true = true ∧ Int.NonNeg (1) ∧ ∃ x_2, some (agg
 [int i64 (Ty.kind y), int i64 (Ty.n y), isl (Ty.nl y) none (0) (encL (Ty.l y))]) = some (agg [int i64 (Ty.kind x_2), int i64 (Ty.n x_2), isl (Ty.nl x_2) none (0) (encL (Ty.l x_2))]) ∧ Int.NonNeg (1) ∧ ∃ x_3, (encL (Ty.l v))[1]? = some (agg [int i64 (Ty.kind x_3), int i64 (Ty.n x_3), isl (Ty.nl x_3) none (0) (encL (Ty.l x_3))]) ∧ ∃ l_2, encL (Ty.l x_2) = encL l_2 ∧ ∃ l_3, encL (Ty.l x_3) = encL l_3 ∧ ∃ ps, encP (cmP (Ty.mk (Ty.kind x_1) (Ty.n x_1) (Ty.nl x_1) l) (Ty.mk (Ty.kind x) (Ty.n x) (Ty.nl x) l_1) ps_1) =
 encP ps ∧ List.length (cmP (Ty.mk (Ty.kind x_1) (Ty.n x_1) (Ty.nl x_1) l) (Ty.mk (Ty.kind x) (Ty.n x) (Ty.nl x) l_1) ps_1) = List.length ps ∧ (SizeOf.sizeOf (Ty.mk (Ty.kind x_2) (Ty.n x_2) (Ty.nl x_2) l_2) < N ∧ okT (Ty.mk (Ty.kind x_2) (Ty.n x_2) (Ty.nl x_2) l_2) = true ∧ okT (Ty.mk (Ty.kind x_3) (Ty.n x_3) (Ty.nl x_3) l_3) = true ∧ cnt (Ty.mk (Ty.kind x_2) (Ty.n x_2) (Ty.nl x_2) l_2) ≤ 100 ∧ cnt (Ty.mk (Ty.kind x_3) (Ty.n x_3) (Ty.nl x_3) l_3) ≤ 100 ∧ List.length ps + cnt (Ty.mk (Ty.kind x_2) (Ty.n x_2) (Ty.nl x_2) l_2) ≤ 1000) ∧ 24 = 24 ∧ 24 = 24 ∧ 24 = 24 ∧ 28 = 28 ∧ 24 = 24 ∧ 24 = 24 ∧
 encP (cmP (Ty.mk (Ty.kind x_1) (Ty.n x_1) (Ty.nl x_1) l) (Ty.mk (Ty.kind x) (Ty.n x) (Ty.nl x) l_1) ps_1) = encP ps ∧ List.length (cmP (Ty.mk (Ty.kind x_1) (Ty.n x_1) (Ty.nl x_1) l) (Ty.mk (Ty.kind x) (Ty.n x) (Ty.nl x) l_1) ps_1) = List.length ps ∧ 88 = 88 ∧ SubR [AV.map (6)] [AV.map (6)] (89 = 89 ∧ SubR [AV.fn (Fn.func (71)) [] [ptr (8) (0), ptr (7) (0)]] [AV.fn (Fn.func (71)) [] [ptr (8) (0), ptr (7) (0)]] (0 = 0 ∧ ptr (12) (2) = ptr (12) (2) ∧ isl false (some (0)) (0) [agg [int i64 (Ty.kind (cmT (Ty.mk (Ty.kind x_1) (Ty.n x_1) (Ty.nl x_1) l)
 (Ty.mk (Ty.kind x) (Ty.n x) (Ty.nl x) l_1) ps_1)), int i64 (Ty.n (cmT (Ty.mk (Ty.kind x_1) (Ty.n x_1) (Ty.nl x_1) l) (Ty.mk (Ty.kind x) (Ty.n x) (Ty.nl x) l_1) ps_1)), isl (Ty.nl (cmT (Ty.mk (Ty.kind x_1) (Ty.n x_1) (Ty.nl x_1) l) (Ty.mk (Ty.kind x) (Ty.n x) (Ty.nl x) l_1) ps_1)) none (0) (encL (Ty.l (cmT (Ty.mk (Ty.kind x_1) (Ty.n x_1) (Ty.nl x_1) l) (Ty.mk (Ty.kind x) (Ty.n x) (Ty.nl x) l_1) ps_1)))]] = isl false (some (0)) (0) [agg [int i64 (Ty.kind (cmT (Ty.mk (Ty.kind x_1) (Ty.n x_1) (Ty.nl x_1) l) (Ty.mk (Ty.kind x) (Ty.n x) (Ty.nl x) l_1) ps_1)),
 int i64 (Ty.n (cmT (Ty.mk (Ty.kind x_1) (Ty.n x_1) (Ty.nl x_1) l) (Ty.mk (Ty.kind x) (Ty.n x) (Ty.nl x) l_1) ps_1)), isl (Ty.nl (cmT (Ty.mk (Ty.kind x_1) (Ty.n x_1) (Ty.nl x_1) l) (Ty.mk (Ty.kind x) (Ty.n x) (Ty.nl x) l_1) ps_1)) none (0) (encL (Ty.l (cmT (Ty.mk (Ty.kind x_1) (Ty.n x_1) (Ty.nl x_1) l) (Ty.mk (Ty.kind x) (Ty.n x) (Ty.nl x) l_1) ps_1)))]] ∧ (Nat.le (80) (35184372088832) ∧ Nat.le (2) (1152921504606846976)) ∧ true = true ∧ some (1, 3) = some (1, 3) ∧ true = true ∧ AEnd.returned (agg [int i64 k, int i64 (0), isl false none (0) [agg
 [int i64 (Ty.kind (cmT (Ty.mk (Ty.kind x_1) (Ty.n x_1) (Ty.nl x_1) l) (Ty.mk (Ty.kind x) (Ty.n x) (Ty.nl x) l_1) ps_1)), int i64 (Ty.n (cmT (Ty.mk (Ty.kind x_1) (Ty.n x_1) (Ty.nl x_1) l) (Ty.mk (Ty.kind x) (Ty.n x) (Ty.nl x) l_1) ps_1)), isl (Ty.nl (cmT (Ty.mk (Ty.kind x_1) (Ty.n x_1) (Ty.nl x_1) l) (Ty.mk (Ty.kind x) (Ty.n x) (Ty.nl x) l_1) ps_1)) none (0) (encL (Ty.l (cmT (Ty.mk (Ty.kind x_1) (Ty.n x_1) (Ty.nl x_1) l) (Ty.mk (Ty.kind x) (Ty.n x) (Ty.nl x) l_1) ps_1)))], agg [int i64 (Ty.kind (cmT (Ty.mk (Ty.kind x_2) (Ty.n x_2) (Ty.nl x_2) l_2)
 (Ty.mk (Ty.kind x_3) (Ty.n x_3) (Ty.nl x_3) l_3) ps)), int i64 (Ty.n (cmT (Ty.mk (Ty.kind x_2) (Ty.n x_2) (Ty.nl x_2) l_2) (Ty.mk (Ty.kind x_3) (Ty.n x_3) (Ty.nl x_3) l_3) ps)), isl (Ty.nl (cmT (Ty.mk (Ty.kind x_2) (Ty.n x_2) (Ty.nl x_2) l_2) (Ty.mk (Ty.kind x_3) (Ty.n x_3) (Ty.nl x_3) l_3) ps)) none (0) (encL (Ty.l (cmT (Ty.mk (Ty.kind x_2) (Ty.n x_2) (Ty.nl x_2) l_2) (Ty.mk (Ty.kind x_3) (Ty.n x_3) (Ty.nl x_3) l_3) ps)))]]]) = e ∧ 24 = 24 ∧ 24 = 24 ∧ 24 = 24 ∧ 28 = 28 ∧ 24 = 24 ∧ 24 = 24 ∧ encP (cmP (Ty.mk (Ty.kind x_2) (Ty.n x_2) (Ty.nl x_2) l_2) (Ty.mk (Ty.kind x_3)
 (Ty.n x_3) (Ty.nl x_3) l_3) ps) = encP ps' ∧ List.length (cmP (Ty.mk (Ty.kind x_2) (Ty.n x_2) (Ty.nl x_2) l_2) (Ty.mk (Ty.kind x_3) (Ty.n x_3) (Ty.nl x_3) l_3) ps) = List.length ps' ∧ 88 = 88 ∧ SubR [AV.map (6)] [AV.map (6)] (89 = 89 ∧ SubR [AV.fn (Fn.func (71)) [] [ptr (8) (0), ptr (7) (0)]] [AV.fn (Fn.func (71)) [] [ptr (8) (0), ptr (7) (0)]] (0 = 0 ∧ True))))))) (∃ l, [agg [int i64 (Ty.kind x), int i64 (Ty.n x), isl (Ty.nl x) none (0) (encL (Ty.l x))],
 agg [int i64 (Ty.kind y), int i64 (Ty.n y), isl (Ty.nl y) none (0) (encL (Ty.l y))]] = encL l ∧ (okT (Ty.mk k n b l) = true ∧ cnt (Ty.mk k n b l) ≤ 1000) ∧ ∃ l_1, encL (Ty.l v) = encL l_1 ∧ (okT (Ty.mk (Ty.kind v) (Ty.n v) (Ty.nl v) l_1) = true ∧ cnt (Ty.mk (Ty.kind v) (Ty.n v) (Ty.nl v) l_1) ≤ 1000) ∧ (keyFind (agg [str (writeS (Ty.mk k n b l)), str (writeS (Ty.mk (Ty.kind v) (Ty.n v) (Ty.nl v) l_1))]) (encP ps) 0 = some none ∧
 (keyFind (agg [str (writeS (Ty.mk k n b l)), str (writeS (Ty.mk (Ty.kind v) (Ty.n v) (Ty.nl v) l_1))]) (encP ps) 0 = some none ∧ AEnd.returned (agg [int i64 (6), int i64 (iC (List.length (encP ps))), isl true none (0) []]) = e ∧ 24 = 24 ∧ 24 = 24 ∧ 24 = 24 ∧ 28 = 28 ∧ 24 = 24 ∧ 24 = 24 ∧ encP ps ++ [(agg [str (writeS (Ty.mk k n b l)), str (writeS (Ty.mk (Ty.kind v) (Ty.n v) (Ty.nl v) l_1))], int i64 (iC (List.length (encP ps))), List.length ps)] = encP ps' ∧ List.length ps + 1 = List.length ps' ∧ 88 = 88 ∧ SubR [AV.map (6)] [AV.map (6)]
 (89 = 89 ∧ SubR [AV.fn (Fn.func (71)) [] [ptr (8) (0), ptr (7) (0)]] [AV.fn (Fn.func (71)) [] [ptr (8) (0), ptr (7) (0)]] (0 = 0 ∧ True)) ∨ ∃ j y c, keyFind (agg [str (writeS (Ty.mk k n b l)), str (writeS (Ty.mk (Ty.kind v) (Ty.n v) (Ty.nl v) l_1))]) (encP ps) 0 = some (some (j, y)) ∧ (encP ps)[j]? = some (agg [str (writeS (Ty.mk k n b l)), str (writeS (Ty.mk (Ty.kind v) (Ty.n v) (Ty.nl v) l_1))], y, c) ∧ AEnd.returned (agg [int i64 (6), int i64 (iC (List.length (encP ps))), isl true none (0) []]) = e ∧ 24 = 24 ∧ 24 = 24 ∧ 24 = 24 ∧
 28 = 28 ∧ 24 = 24 ∧ 24 = 24 ∧ List.set (encP ps) j (agg [str (writeS (Ty.mk k n b l)), str (writeS (Ty.mk (Ty.kind v) (Ty.n v) (Ty.nl v) l_1))], int i64 (iC (List.length (encP ps))), c) = encP ps' ∧ List.length ps = List.length ps' ∧ 88 = 88 ∧ SubR [AV.map (6)] [AV.map (6)] (89 = 89 ∧ SubR [AV.fn (Fn.func (71)) [] [ptr (8) (0), ptr (7) (0)]] [AV.fn (Fn.func (71)) [] [ptr (8) (0), ptr (7) (0)]] (0 = 0 ∧ True))) ∨ ∃ j x, keyFind (agg [str (writeS (Ty.mk k n b l)), str (writeS (Ty.mk (Ty.kind v) (Ty.n v) (Ty.nl v) l_1))]) (encP ps) 0 =
 some (some (j, int i64 x)) ∧ AEnd.returned (agg [int i64 (6), int i64 x, isl true none (0) []]) = e ∧ 24 = 24 ∧ 24 = 24 ∧ 24 = 24 ∧ 28 = 28 ∧ 24 = 24 ∧ 24 = 24 ∧ encP ps = encP ps' ∧ List.length ps = List.length ps' ∧ 88 = 88 ∧ SubR [AV.map (6)] [AV.map (6)] (89 = 89 ∧ SubR [AV.fn (Fn.func (71)) [] [ptr (8) (0), ptr (7) (0)]] [AV.fn (Fn.func (71)) [] [ptr (8) (0), ptr (7) (0)]] (0 = 0 ∧ True))))) (∃ l, [agg [int i64 (Ty.kind x), int i64 (Ty.n x), isl (Ty.nl x) none (0) (encL (Ty.l x))],
 agg [int i64 (Ty.kind y), int i64 (Ty.n y), isl (Ty.nl y) none (0) (encL (Ty.l y))]] = encL l ∧ (okT (Ty.mk k n b l) = true ∧ cnt (Ty.mk k n b l) ≤ 1000) ∧ ∃ l_1, encL (Ty.l v) = encL l_1 ∧ (okT (Ty.mk (Ty.kind v) (Ty.n v) (Ty.nl v) l_1) = true ∧ cnt (Ty.mk (Ty.kind v) (Ty.n v) (Ty.nl v) l_1) ≤ 1000) ∧ (keyFind (agg [str (writeS (Ty.mk k n b l)), str (writeS (Ty.mk (Ty.kind v) (Ty.n v) (Ty.nl v) l_1))]) (encP ps) 0 = some none ∧
 (keyFind (agg [str (writeS (Ty.mk k n b l)), str (writeS (Ty.mk (Ty.kind v) (Ty.n v) (Ty.nl v) l_1))]) (encP ps) 0 = some none ∧ AEnd.returned (agg [int i64 (6), int i64 (iC (List.length (encP ps))), isl true none (0) []]) = e ∧ 24 = 24 ∧ 24 = 24 ∧ 24 = 24 ∧ 28 = 28 ∧ 24 = 24 ∧ 24 = 24 ∧ encP ps ++ [(agg [str (writeS (Ty.mk k n b l)), str (writeS (Ty.mk (Ty.kind v) (Ty.n v) (Ty.nl v) l_1))], int i64 (iC (List.length (encP ps))), List.length ps)] = encP ps' ∧ List.length ps + 1 = List.length ps' ∧ 88 = 88 ∧ SubR [AV.map (6)] [AV.map (6)]
 (89 = 89 ∧ SubR [AV.fn (Fn.func (71)) [] [ptr (8) (0), ptr (7) (0)]] [AV.fn (Fn.func (71)) [] [ptr (8) (0), ptr (7) (0)]] (0 = 0 ∧ True)) ∨ ∃ j y c, keyFind (agg [str (writeS (Ty.mk k n b l)), str (writeS (Ty.mk (Ty.kind v) (Ty.n v) (Ty.nl v) l_1))]) (encP ps) 0 = some (some (j, y)) ∧ (encP ps)[j]? = some (agg [str (writeS (Ty.mk k n b l)), str (writeS (Ty.mk (Ty.kind v) (Ty.n v) (Ty.nl v) l_1))], y, c) ∧ AEnd.returned (agg [int i64 (6), int i64 (iC (List.length (encP ps))), isl true none (0) []]) = e ∧ 24 = 24 ∧ 24 = 24 ∧ 24 = 24 ∧
 28 = 28 ∧ 24 = 24 ∧ 24 = 24 ∧ List.set (encP ps) j (agg [str (writeS (Ty.mk k n b l)), str (writeS (Ty.mk (Ty.kind v) (Ty.n v) (Ty.nl v) l_1))], int i64 (iC (List.length (encP ps))), c) = encP ps' ∧ List.length ps = List.length ps' ∧ 88 = 88 ∧ SubR [AV.map (6)] [AV.map (6)] (89 = 89 ∧ SubR [AV.fn (Fn.func (71)) [] [ptr (8) (0), ptr (7) (0)]] [AV.fn (Fn.func (71)) [] [ptr (8) (0), ptr (7) (0)]] (0 = 0 ∧ True))) ∨ ∃ j x, keyFind (agg [str (writeS (Ty.mk k n b l)), str (writeS (Ty.mk (Ty.kind v) (Ty.n v) (Ty.nl v) l_1))]) (encP ps) 0 =
 some (some (j, int i64 x)) ∧ AEnd.returned (agg [int i64 (6), int i64 x, isl true none (0) []]) = e ∧ 24 = 24 ∧ 24 = 24 ∧ 24 = 24 ∧ 28 = 28 ∧ 24 = 24 ∧ 24 = 24 ∧ encP ps = encP ps' ∧ List.length ps = List.length ps' ∧ 88 = 88 ∧ SubR [AV.map (6)] [AV.map (6)] (89 = 89 ∧ SubR [AV.fn (Fn.func (71)) [] [ptr (8) (0), ptr (7) (0)]] [AV.fn (Fn.func (71)) [] [ptr (8) (0), ptr (7) (0)]] (0 = 0 ∧ True))))) := by kernel_rfl
theorem cm_top (a b : Ty) (v : AV) : (runT cmHk0 60 20 [encD a, encD b] AH.nil (retIs Tryz.prog 5 v)) = ( Int.NonNeg (0) ∧ ∃ x, some (agg [int i64 (Ty.kind a), int i64 (Ty.n a), isl (Ty.nl a) none (0) (encL (Ty.l a))]) = some (agg [int i64 (Ty.kind x), int i64 (Ty.n x), isl (Ty.nl x) none (0) (encL (Ty.l x))]) ∧ ∃ l, encL (Ty.l x) = encL l ∧ cnt (Ty.mk (Ty.kind x) (Ty.n x) (Ty.nl x) l) ≤ 1000 ∧ bothR (!validB (Ty.mk (Ty.kind x) (Ty.n x) (Ty.nl x) l))
 (tup [agg [int i64 (0), int i64 (0), isl true none (0) []], int i64 (1)] = v) (Int.NonNeg (1) ∧ ∃ x, some (agg [int i64 (Ty.kind b), int i64 (Ty.n b), isl (Ty.nl b) none (0) (encL (Ty.l b))]) = some (agg [int i64 (Ty.kind x), int i64 (Ty.n x), isl (Ty.nl x) none (0) (encL (Ty.l x))]) ∧ ∃ l, encL (Ty.l x) = encL l ∧ cnt (Ty.mk (Ty.kind x) (Ty.n x) (Ty.nl x) l) ≤ 1000 ∧ bothR (!validB (Ty.mk (Ty.kind x) (Ty.n x) (Ty.nl x) l)) (tup
 [agg [int i64 (0), int i64 (0), isl true none (0) []], int i64 (1)] = v) (∃ l, encL (Ty.l a) = encL l ∧ ∃ l_1, encL (Ty.l b) = encL l_1 ∧ ∃ ps, [] = encP ps ∧ 0 = List.length ps ∧ (okT (Ty.mk (Ty.kind a) (Ty.n a) (Ty.nl a) l) = true ∧ okT (Ty.mk (Ty.kind b) (Ty.n b) (Ty.nl b) l_1) = true ∧ cnt (Ty.mk (Ty.kind a) (Ty.n a) (Ty.nl a) l) ≤ 100 ∧ cnt (Ty.mk (Ty.kind b) (Ty.n b) (Ty.nl b) l_1) ≤ 100 ∧ List.length ps + cnt (Ty.mk (Ty.kind a) (Ty.n a) (Ty.nl a) l) ≤ 1000) ∧ 24 = 24 ∧ 24 = 24 ∧ 24 = 24 ∧ 28 = 28 ∧ 24 = 24 ∧ 24 = 24 ∧ [] = encP ps ∧
 0 = List.length ps ∧ 88 = 88 ∧ SubR [AV.map (6)] [AV.map (6)] (89 = 89 ∧ SubR [AV.fn (Fn.func (71)) [] [ptr (8) (0), ptr (7) (0)]] [AV.fn (Fn.func (71)) [] [ptr (8) (0), ptr (7) (0)]] (0 = 0 ∧ tup [agg [int i64 (Ty.kind (cmT (Ty.mk (Ty.kind a) (Ty.n a) (Ty.nl a) l) (Ty.mk (Ty.kind b) (Ty.n b) (Ty.nl b) l_1) ps)), int i64 (Ty.n (cmT (Ty.mk (Ty.kind a) (Ty.n a) (Ty.nl a) l) (Ty.mk (Ty.kind b) (Ty.n b) (Ty.nl b) l_1) ps)), isl (Ty.nl (cmT (Ty.mk (Ty.kind a) (Ty.n a) (Ty.nl a) l) (Ty.mk (Ty.kind b) (Ty.n b) (Ty.nl b) l_1) ps)) none (0) (encL (Ty.l
 (cmT (Ty.mk (Ty.kind a) (Ty.n a) (Ty.nl a) l) (Ty.mk (Ty.kind b) (Ty.n b) (Ty.nl b) l_1) ps)))], int i64 (0)] = v))))) := by kernel_rfl
end Go.Proofs.YtnmolpkkemljoaaGreatDoor
end
end
section
set_option maxRecDepth 100000
set_option linter.unusedSimpArgs false
set_option linter.unusedVariables false
namespace Kd
open Go Go.Am Go.Proofs.YtnmolpkkemljoaaGreatDoor
theorem keyP_none {a b : Tx} : ∀ {ps : Ps} {i : Nat}, idxP ps (a, b) i = none → ∀ j, keyFind (.agg [.str a, .str b]) (encPi ps i) j = some none
 | [], _, _, _ => rfl
 | y :: l, i, h, j => by
  simp only [idxP] at h
  split at h
  ·cases h
  ·rename_i hne
   have hk : (decide (a = y.1) && decide (b = y.2)) = false := by
    rw [Bool.and_eq_false_iff]
    by_cases h1 : a = y.1
    ·by_cases h2 : b = y.2
     ·exact absurd (Prod.ext h1 h2) hne
     ·exact .inr (decide_eq_false h2)
    ·exact .inl (decide_eq_false h1)
   simp only [encPi, entP, keyFind, keyEq, hk]
   exact keyP_none h _
theorem keyP_some {a b : Tx} : ∀ {ps : Ps} {i m : Nat}, idxP ps (a, b) i = some m → ∀ j, ∃ j', keyFind (.agg [.str a, .str b]) (encPi ps i) j = some (some (j', .int .i64 m))
 | [], _, _, h, _ => by cases h
 | y :: l, i, m, h, j => by
  simp only [idxP] at h
  split at h
  ·rename_i he
   cases h
   subst he
   exact ⟨j, by simp only [encPi, entP, keyFind, keyEq, decide_true, Bool.and_self]⟩
  ·rename_i hne
   have hk : (decide (a = y.1) && decide (b = y.2)) = false := by
    rw [Bool.and_eq_false_iff]
    by_cases h1 : a = y.1
    ·by_cases h2 : b = y.2
     ·exact absurd (Prod.ext h1 h2) hne
     ·exact .inr (decide_eq_false h2)
    ·exact .inl (decide_eq_false h1)
   simp only [encPi, entP, keyFind, keyEq, hk]
   exact keyP_some h _
theorem encPi_app (x : Tx × Tx) : ∀ (ps : Ps) (i : Nat), encPi (ps ++ [x]) i = encPi ps i ++ [entP x (i + ps.length)]
 | [], i => by simp [encPi]
 | y :: l, i => by
  simp only [List.cons_append, encPi, encPi_app x l (i + 1), List.length_cons, List.cons.injEq, true_and]
  rw [show i + 1 + l.length = i + (l.length + 1) by omega]
theorem encPi_len : ∀ (ps : Ps) (i : Nat), (encPi ps i).length = ps.length
 | [], _ => rfl
 | y :: l, i => by simp only [encPi, List.length_cons, encPi_len l (i + 1)]
theorem encP_len (ps : Ps) : (encP ps).length = ps.length := encPi_len ps 0
theorem encPi_bnd (n nf : Nat) : ∀ (ps : Ps) (i : Nat), bndM n nf (encPi ps i) = true
 | [], _ => rfl
 | y :: l, i => by simp only [encPi, entP, bndM, AV.bnd, AV.bndL, Bool.and_self, Bool.true_and, encPi_bnd n nf l (i + 1)]
theorem encP_bnd (n nf : Nat) (ps : Ps) : bndM n nf (encP ps) = true := encPi_bnd n nf ps 0
theorem cm_len : ∀ (t u : Ty) (ps : Ps), (cmP t u ps).length ≤ ps.length + cnt t := by
 have key : ∀ (N : Nat), (∀ (t u : Ty) (ps : Ps), SizeOf.sizeOf t < N → (cmF t u ps).ps.length ≤ ps.length + cnt t) ∧ ∀ (l m : List Ty) (ps : Ps), SizeOf.sizeOf l < N → (cmG l m ps).ps.length ≤ ps.length + cntL l := by
  intro N
  induction N with
  | zero => exact ⟨fun _ _ _ h => by omega, fun _ _ _ h => by omega⟩
  | succ N ih =>
   obtain ⟨ih1, ih2⟩ := ih
   constructor
   ·intro t u ps ht
    obtain ⟨k, n, b, l⟩ := t
    simp only [Ty.mk.sizeOf_spec] at ht
    simp only [cmF, cnt]
    split
    ·have := ih2 l u.l ps (by omega)
     simp only; omega
    ·split
     ·simp only; omega
     ·simp
   ·intro l m ps hl
    match l, m with
    | [], _ => simp only [cmG]; omega
    | x :: xs, [] => simp only [cmG]; omega
    | x :: xs, y :: ys =>
     simp only [List.cons.sizeOf_spec] at hl
     simp only [cmG, cntL]
     have h1 := ih1 x y ps (by omega)
     have h2 := ih2 xs ys (cmF x y ps).ps (by omega)
     omega
 exact fun t u ps => (key (SizeOf.sizeOf t + 1)).1 t u ps (by omega)
end Kd
noncomputable section
namespace Go.Proofs.YtnmolpkkemljoaaGreatDoor
open Go Go.Am Kd
def CWalkC (t u : Ty) (ps : Ps) : Prop := FuncJ Tryz.prog gT 71 [enc t, enc u, .ptr 8 0, .ptr 7 0] (cmA ps) (hpIs 0 (.returned (encD (cmT t u ps))) (cmA (cmP t u ps)))
theorem cmA_ok (ps : Ps) : (cmA ps).ok 9 0 = true := by
 simp [AH.ok, cmA, top3, ABlk.bnd, AV.bnd, AV.bndL, encP_bnd]
theorem argCm_elim {A : AH} {K : Ps → Prop} (h : argCm A K) : ∃ ps, K ps := by
 unfold argCm at h
 split at h
 ·obtain ⟨ps, _, _, h⟩ := h
  exact ⟨ps, h⟩
 ·exact h.elim
theorem cwalkC_hook {N : Nat} (ih : ∀ (t u : Ty) (ps : Ps), SizeOf.sizeOf t < N → okT t = true → okT u = true → cnt t ≤ 100 → cnt u ≤ 100 → ps.length + cnt t ≤ 1000 → CWalkC t u ps) : HSpec.Ok Tryz.prog gT 71 (cwalkC N) := by
 intro args A K h'
 unfold cwalkC at h'
 split at h'
 ·obtain ⟨t, rfl, g1⟩ := argTy_elim h'
  obtain ⟨u, rfl, g2⟩ := argTy_elim g1
  obtain ⟨ps, ⟨h1, h2, h3, h4, h5, h6⟩, h⟩ := argCm_elim g2
  have hb : AV.bndL 9 0 [enc t, enc u, .ptr 8 0, .ptr 7 0] = true := by simp [AV.bndL, AV.bnd, AV.still_bnd, enc_still]
  obtain ⟨hK, hr⟩ := FuncJ.on (n := 9) h (ih t u ps h1 h2 h3 h4 h5 h6) (cmA_ok ..) (cmA_ok ..) hb (by simp [AEnd.bnd, AV.still_bnd, encD_still])
  exact ⟨_, hr, hK⟩
 ·exact h'.elim
theorem cwalk_okC : ∀ (N : Nat) (t u : Ty) (ps : Ps), SizeOf.sizeOf t < N → okT t = true → okT u = true → cnt t ≤ 100 → cnt u ≤ 100 → ps.length + cnt t ≤ 1000 → CWalkC t u ps := by
 intro N
 induction N with
 | zero => intro t u ps h; omega
 | succ N ih =>
  intro t u ps ht hot hou hct hcu hps
  have hh : Hooks.Ok Tryz.prog gT (cmHk N) := mkHooks_ok (all_cons wr_hook0 all_nil) (all_cons (cwalkC_hook ih) all_nil) all_nil
  refine FuncJ.mono (K := fun o => o = ⟨.returned (encD (cmT t u ps)), cmA (cmP t u ps)⟩) ?_ fun o ho => by subst ho; exact hpIs_self rfl
  have hok := cmA_ok (cmP t u ps)
  simp only [AH.ok, Bool.and_eq_true, decide_eq_true_eq] at hok
  refine FuncJ.fz (n := 9) (nf := 0) (k := 5) ?_ hok.1 hok.2.1 (Nat.le_refl _) (Nat.le_refl _) hok.2.2.1 (by simp [AEnd.bnd, AV.still_bnd, encD_still])
  refine FuncJ.run (el := els) (mu := mu0) (hk := cmHk N) hmix hh (n := 60) ?_
  obtain ⟨k, n, b, l⟩ := t
  obtain ⟨hl2, hol⟩ := okL_of hot
  have hno := (ok_node hot).1
  simp only [NodeOk] at hno
  obtain ⟨ku, nu, bu, lu⟩ := u
  obtain ⟨hlu2, holu⟩ := okL_of hou
  have hnu := (ok_node hou).1
  simp only [NodeOk] at hnu
  simp only [Ty.mk.sizeOf_spec] at ht
  have e0 : encL [] = [] := by simp only [encL]
  have e1 : ∀ x, encL [x] = [encD x] := fun x => by simp only [encL, enc_D]
  have e2 : ∀ x y, encL [x, y] = [encD x, encD y] := fun x y => by simp only [encL, enc_D]
  -- they are not of one kind, or variables
  have other : ∀ c, ¬ (k = ku ∧ ¬ k = 6) → (okT (.mk k n b l) = true ∧ cnt (.mk k n b l) ≤ 1000) ∧ (okT (.mk ku nu bu lu) = true ∧ cnt (.mk ku nu bu lu) ≤ 1000) ∧
    ((∃ m, cmT (.mk k n b l) (.mk ku nu bu lu) ps = varT m ∧ cmP (.mk k n b l) (.mk ku nu bu lu) ps = ps ∧ ∃ j, keyFind (.agg [.str (writeS (.mk k n b l)), .str (writeS (.mk ku nu bu lu))]) (encP ps) c = some (some (j, .int .i64 m))) ∨
     (cmT (.mk k n b l) (.mk ku nu bu lu) ps = varT ps.length ∧ encP (cmP (.mk k n b l) (.mk ku nu bu lu) ps) = encP ps ++ [(.agg [.str (writeS (.mk k n b l)), .str (writeS (.mk ku nu bu lu))], .int .i64 ps.length, ps.length)] ∧ (cmP (.mk k n b l) (.mk ku nu bu lu) ps).length = ps.length + 1 ∧ keyFind (.agg [.str (writeS (.mk k n b l)), .str (writeS (.mk ku nu bu lu))]) (encP ps) c = some none)) := by
   intro c hne
   refine ⟨⟨hot, by omega⟩, ⟨hou, by omega⟩, ?_⟩
   cases hi : idxP ps (writeS (.mk k n b l), writeS (.mk ku nu bu lu)) 0 with
   | some m =>
    have hr : cmF (.mk k n b l) (.mk ku nu bu lu) ps = ⟨varT m, ps⟩ := by simp only [cmF, Ty.kind, hne, if_false, hi]
    exact .inl ⟨m, congrArg CR.t hr, congrArg CR.ps hr, keyP_some hi c⟩
   | none =>
    have hr : cmF (.mk k n b l) (.mk ku nu bu lu) ps = ⟨varT ps.length, ps ++ [(writeS (.mk k n b l), writeS (.mk ku nu bu lu))]⟩ := by simp only [cmF, Ty.kind, hne, if_false, hi]
    have hp : cmP (.mk k n b l) (.mk ku nu bu lu) ps = _ := congrArg CR.ps hr
    refine .inr ⟨congrArg CR.t hr, ?_, ?_, keyP_none hi c⟩
    ·rw [hp]; simp only [encP, encPi_app, entP, Nat.zero_add]
    ·rw [hp]; simp
  have vt : ∀ m : Nat, AV.agg [.int .i64 6, .int .i64 m, .isl true none 0 []] = encD (varT m) := fun m => rfl
  match l, hl2, hol, ht, other with
  | [], _, hol, ht, other =>
   refine cast (cw_0 ps (cmP (.mk k n b []) (.mk ku nu bu lu) ps) k n b (.mk ku nu bu lu) N (.returned (encD (cmT (.mk k n b []) (.mk ku nu bu lu) ps)))).symm ?_
   simp only [eq_self, true_and, and_true, SubR_id, tk_mk, tn_mk, tb_mk, tl_mk, iC, encP_len]
   refine bothR_dec (fun hk => bothR_ndec (fun h6 => ?_) fun h6 => ?_) fun hk => ?_
   ·subst hk
    have hr : cmF (.mk k n b []) (.mk k nu bu lu) ps = ⟨.mk k 0 true [], ps⟩ := by simp [cmF, Ty.kind, h6, cmG, nilB]
    have p1 : cmT (.mk k n b []) (.mk k nu bu lu) ps = _ := congrArg CR.t hr
    have p2 : cmP (.mk k n b []) (.mk k nu bu lu) ps = _ := congrArg CR.ps hr
    rw [p1, p2]
    exact ⟨by simp [encD, e0, Ty.kind, Ty.n, Ty.nl, Ty.l], rfl, rfl⟩
   ·obtain ⟨o1, o2, ho⟩ := other 0 (fun h => h.2 h6)
    refine ⟨[], e0.symm, o1, lu, rfl, o2, ?_⟩
    rcases ho with ⟨m, p1, p2, j, p3⟩ | ⟨p1, p2, p3, p4⟩
    ·exact .inr ⟨j, (m : Int), p3, by rw [p1]; rfl, by rw [p2], by rw [p2]⟩
    ·exact .inl ⟨p4, .inl ⟨p4, by rw [p1]; rfl, p2.symm, p3.symm⟩⟩
   ·obtain ⟨o1, o2, ho⟩ := other 0 (fun h => hk h.1)
    refine ⟨[], e0.symm, o1, lu, rfl, o2, ?_⟩
    rcases ho with ⟨m, p1, p2, j, p3⟩ | ⟨p1, p2, p3, p4⟩
    ·exact .inr ⟨j, (m : Int), p3, by rw [p1]; rfl, by rw [p2], by rw [p2]⟩
    ·exact .inl ⟨p4, .inl ⟨p4, by rw [p1]; rfl, p2.symm, p3.symm⟩⟩
  | [x], _, hol, ht, other =>
   rw [show enc (.mk k n b [x]) = .agg [.int .i64 k, .int .i64 n, .isl b none 0 [encD x]] by rw [enc, e1], show enc (.mk ku nu bu lu) = encD (.mk ku nu bu lu) from enc_D _]
   refine cast (cw_1 ps (cmP (.mk k n b [x]) (.mk ku nu bu lu) ps) k n b x (.mk ku nu bu lu) N (.returned (encD (cmT (.mk k n b [x]) (.mk ku nu bu lu) ps)))).symm ?_
   simp only [eq_self, true_and, and_true, SubR_id, tk_mk, tn_mk, tb_mk, tl_mk, iC, encP_len]
   refine bothR_dec (fun hk => bothR_ndec (fun h6 => ?_) fun h6 => ?_) fun hk => ?_
   ·subst hk
    obtain ⟨u, rfl⟩ : ∃ u, lu = [u] := List.length_eq_one_iff.1 (by simp only [List.length_cons, List.length_nil] at hno; omega)
    simp only [okL, Bool.and_true] at hol holu
    simp only [cnt, cntL] at hct hcu hps
    simp only [List.cons.sizeOf_spec] at ht
    simp only [ex_one, e1, List.getElem?_cons_zero, encD, ex_enc, Ty.eta]
    have hr : cmF (.mk k n b [x]) (.mk k nu bu [u]) ps = ⟨.mk k 0 false [cmT x u ps], cmP x u ps⟩ := by simp [cmF, Ty.kind, Ty.l, h6, cmG, nilB, cmT, cmP]
    have p1 : cmT (.mk k n b [x]) (.mk k nu bu [u]) ps = _ := congrArg CR.t hr
    have p2 : cmP (.mk k n b [x]) (.mk k nu bu [u]) ps = _ := congrArg CR.ps hr
    rw [p1, p2]
    exact ⟨nn 0, nn 0, ps, rfl, rfl, ⟨by omega, hol, holu, by omega, by omega, by omega⟩, rfl, rfl, ⟨Nat.le_of_ble_eq_true rfl, Nat.le_of_ble_eq_true rfl⟩, by simp only [tk_mk, tn_mk, tb_mk, tl_mk, e1, encD], rfl, rfl⟩
   ·obtain ⟨o1, o2, ho⟩ := other 0 (fun h => h.2 h6)
    refine ⟨[x], (e1 x).symm, o1, lu, rfl, o2, ?_⟩
    rcases ho with ⟨m, p1, p2, j, p3⟩ | ⟨p1, p2, p3, p4⟩
    ·exact .inr ⟨j, (m : Int), p3, by rw [p1]; rfl, by rw [p2], by rw [p2]⟩
    ·exact .inl ⟨p4, .inl ⟨p4, by rw [p1]; rfl, p2.symm, p3.symm⟩⟩
   ·obtain ⟨o1, o2, ho⟩ := other 0 (fun h => hk h.1)
    refine ⟨[x], (e1 x).symm, o1, lu, rfl, o2, ?_⟩
    rcases ho with ⟨m, p1, p2, j, p3⟩ | ⟨p1, p2, p3, p4⟩
    ·exact .inr ⟨j, (m : Int), p3, by rw [p1]; rfl, by rw [p2], by rw [p2]⟩
    ·exact .inl ⟨p4, .inl ⟨p4, by rw [p1]; rfl, p2.symm, p3.symm⟩⟩
  | [x, y], _, hol, ht, other =>
   rw [show enc (.mk k n b [x, y]) = .agg [.int .i64 k, .int .i64 n, .isl b none 0 [encD x, encD y]] by rw [enc, e2], show enc (.mk ku nu bu lu) = encD (.mk ku nu bu lu) from enc_D _]
   refine cast (cw_2 ps (cmP (.mk k n b [x, y]) (.mk ku nu bu lu) ps) k n b x y (.mk ku nu bu lu) N (.returned (encD (cmT (.mk k n b [x, y]) (.mk ku nu bu lu) ps)))).symm ?_
   simp only [eq_self, true_and, and_true, SubR_id, tk_mk, tn_mk, tb_mk, tl_mk, iC, encP_len]
   refine bothR_dec (fun hk => bothR_ndec (fun h6 => ?_) fun h6 => ?_) fun hk => ?_
   ·subst hk
    obtain ⟨u, v, rfl⟩ : ∃ u v, lu = [u, v] := by
     have h2 : lu.length = 2 := by simp only [List.length_cons, List.length_nil] at hno; omega
     match lu, h2 with
     | [u, v], _ => exact ⟨u, v, rfl⟩
    simp only [okL, Bool.and_true, Bool.and_eq_true] at hol holu
    simp only [cnt, cntL] at hct hcu hps
    simp only [List.cons.sizeOf_spec] at ht
    simp only [ex_one, e2, List.getElem?_cons_zero, List.getElem?_cons_succ, encD, ex_enc, Ty.eta]
    have hr : cmF (.mk k n b [x, y]) (.mk k nu bu [u, v]) ps = ⟨.mk k 0 false [cmT x u ps, cmT y v (cmP x u ps)], cmP y v (cmP x u ps)⟩ := by simp [cmF, Ty.kind, Ty.l, h6, cmG, nilB, cmT, cmP]
    have p1 : cmT (.mk k n b [x, y]) (.mk k nu bu [u, v]) ps = _ := congrArg CR.t hr
    have p2 : cmP (.mk k n b [x, y]) (.mk k nu bu [u, v]) ps = _ := congrArg CR.ps hr
    have hl := cm_len x u ps
    rw [p1, p2]
    exact ⟨nn 0, nn 0, ps, rfl, rfl, ⟨by omega, hol.1, holu.1, by omega, by omega, by omega⟩, rfl, rfl, ⟨Nat.le_of_ble_eq_true rfl, Nat.le_of_ble_eq_true rfl⟩, nn 1, nn 1, cmP x u ps, rfl, rfl, ⟨by omega, hol.2, holu.2, by omega, by omega, by omega⟩, rfl, rfl, ⟨Nat.le_of_ble_eq_true rfl, Nat.le_of_ble_eq_true rfl⟩, by simp only [tk_mk, tn_mk, tb_mk, tl_mk, e2, encD], rfl, rfl⟩
   ·obtain ⟨o1, o2, ho⟩ := other 0 (fun h => h.2 h6)
    refine ⟨[x, y], (e2 x y).symm, o1, lu, rfl, o2, ?_⟩
    rcases ho with ⟨m, p1, p2, j, p3⟩ | ⟨p1, p2, p3, p4⟩
    ·exact .inr ⟨j, (m : Int), p3, by rw [p1]; rfl, by rw [p2], by rw [p2]⟩
    ·exact .inl ⟨p4, .inl ⟨p4, by rw [p1]; rfl, p2.symm, p3.symm⟩⟩
   ·obtain ⟨o1, o2, ho⟩ := other 0 (fun h => hk h.1)
    refine ⟨[x, y], (e2 x y).symm, o1, lu, rfl, o2, ?_⟩
    rcases ho with ⟨m, p1, p2, j, p3⟩ | ⟨p1, p2, p3, p4⟩
    ·exact .inr ⟨j, (m : Int), p3, by rw [p1]; rfl, by rw [p2], by rw [p2]⟩
    ·exact .inl ⟨p4, .inl ⟨p4, by rw [p1]; rfl, p2.symm, p3.symm⟩⟩
theorem cwalkC_hook0 : HSpec.Ok Tryz.prog gT 71 cwalkC0 := by
 intro args A K h'
 unfold cwalkC0 at h'
 split at h'
 ·obtain ⟨t, rfl, g1⟩ := argTy_elim h'
  obtain ⟨u, rfl, g2⟩ := argTy_elim g1
  obtain ⟨ps, ⟨h2, h3, h4, h5, h6⟩, h⟩ := argCm_elim g2
  have hb : AV.bndL 9 0 [enc t, enc u, .ptr 8 0, .ptr 7 0] = true := by simp [AV.bndL, AV.bnd, AV.still_bnd, enc_still]
  obtain ⟨hK, hr⟩ := FuncJ.on (n := 9) h (cwalk_okC (SizeOf.sizeOf t + 1) t u ps (by omega) h2 h3 h4 h5 h6) (cmA_ok ..) (cmA_ok ..) hb (by simp [AEnd.bnd, AV.still_bnd, encD_still])
  exact ⟨_, hr, hK⟩
 ·exact h'.elim
end Go.Proofs.YtnmolpkkemljoaaGreatDoor
end
namespace Kd
open Go Go.Am Go.Proofs.YtnmolpkkemljoaaGreatDoor
def cmN (t u : Ty) : Int := if validB t = true ∧ validB u = true then 0 else 1
def cmV (t u : Ty) : Ty := if validB t = true ∧ validB u = true then cmT t u [] else .mk 0 0 true []
end Kd
noncomputable section
namespace Go.Proofs.YtnmolpkkemljoaaGreatDoor
open Go Go.Am Kd
theorem common_ok (t u : Ty) (ht : cnt t ≤ 1000) (hu : cnt u ≤ 1000) : QT 20 [enc t, enc u] (.tup [encD (cmV t u), .int .i64 (cmN t u)]) := by
 have hh : Hooks.Ok Tryz.prog gT cmHk0 := mkHooks_ok (all_cons valid_hook.lift all_nil) (all_cons cwalkC_hook0 all_nil) all_nil
 refine QT.by (hk := cmHk0) (by simp [AV.stillL, enc_still]) (by simp [AV.still, AV.stillL, encD_still]) hh ?_
 rw [enc_D, enc_D, cm_top]
 simp only [eq_self, true_and, and_true, SubR_id, ex_enc, Ty.eta, ex_one]
 have bad : ¬ (validB t = true ∧ validB u = true) → AV.tup [AV.agg [AV.int IntKind.i64 0, AV.int IntKind.i64 0, AV.isl true none 0 []], AV.int IntKind.i64 1] = .tup [encD (cmV t u), .int .i64 (cmN t u)] := by
  intro h
  unfold cmV cmN
  rw [if_neg h, if_neg h]; rfl
 refine ⟨nn 0, ht, bothR_nbool (fun hv => bad (by simp [hv])) fun hv => ⟨nn 1, hu, bothR_nbool (fun hw => bad (by simp [hw])) fun hw => ?_⟩⟩
 have hvt := (valid_eq t).1 hv
 have hvu := (valid_eq u).1 hw
 refine ⟨[], rfl, rfl, ⟨hvt.2.2, hvu.2.2, by omega, by omega, by simp; omega⟩, rfl, rfl, ?_⟩
 unfold cmV cmN
 rw [if_pos ⟨hv, hw⟩, if_pos ⟨hv, hw⟩]
 rfl
end Go.Proofs.YtnmolpkkemljoaaGreatDoor
end
end
section
noncomputable section
namespace Go.Proofs.YtnmolpkkemljoaaGreatDoor
open Go Go.Am Kd
def listH : HSpec := fun args A K =>
 match args with
 | [.map b] =>
  match nthR A.blks b with
  | some (.map m c) => ∃ es, m = encM es ∧ okMap es c ∧ K ⟨.returned (listV es), A⟩
  | _ => False
 | _ => False
def mtHk : Hooks := mkHooks Tryz.prog [(76, validQ)] [(65, mwalkH0), (59, listH)] []
end Go.Proofs.YtnmolpkkemljoaaGreatDoor
end
end
section
noncomputable section
namespace Go.Proofs.YtnmolpkkemljoaaGreatDoor
open Go Go.Am Kd Go.Am.AV Go.IntKind
set_option maxRecDepth 100000
theorem mt_top (a b : Ty) (v : AV) : (runF mtHk 60 18 [encD a, encD b] AH.nil (retIs Tryz.prog 5 v)) = ( Int.NonNeg (0) ∧ ∃ x, some (agg [int i64 (Ty.kind a), int i64 (Ty.n a), isl (Ty.nl a) none (0) (encL (Ty.l a))]) = some (agg [int i64 (Ty.kind x), int i64 (Ty.n x), isl (Ty.nl x) none (0) (encL (Ty.l x))]) ∧ ∃ l, encL (Ty.l x) = encL l ∧ cnt (Ty.mk (Ty.kind x) (Ty.n x) (Ty.nl x) l) ≤ 1000 ∧ bothR (!validB (Ty.mk (Ty.kind x) (Ty.n x) (Ty.nl x) l)) (tup [isl true none (0) [], int i64 (1)] = v) (Int.NonNeg (1) ∧ ∃ x,
 some (agg [int i64 (Ty.kind b), int i64 (Ty.n b), isl (Ty.nl b) none (0) (encL (Ty.l b))]) = some (agg [int i64 (Ty.kind x), int i64 (Ty.n x), isl (Ty.nl x) none (0) (encL (Ty.l x))]) ∧ ∃ l, encL (Ty.l x) = encL l ∧ cnt (Ty.mk (Ty.kind x) (Ty.n x) (Ty.nl x) l) ≤ 1000 ∧ bothR (!validB (Ty.mk (Ty.kind x) (Ty.n x) (Ty.nl x) l)) (tup [isl true none (0) [], int i64 (1)] = v) (∃ l, encL (Ty.l a) = encL l ∧ ∃ l_1, encL (Ty.l b) = encL l_1 ∧ ∃ es, [] = encM es ∧ (okT (Ty.mk (Ty.kind a) (Ty.n a) (Ty.nl a) l) = true ∧
 okT (Ty.mk (Ty.kind b) (Ty.n b) (Ty.nl b) l_1) = true ∧ okMs es ∧ cnt (Ty.mk (Ty.kind b) (Ty.n b) (Ty.nl b) l_1) ≤ 100) ∧ 24 = 24 ∧ 24 = 24 ∧ 28 = 28 ∧ 24 = 24 ∧ 24 = 24 ∧ [] = encM es ∧ 0 = 0 ∧ 74 = 74 ∧ SubR [AV.map (5)] [AV.map (5)] (83 = 83 ∧ SubR [AV.fn (Fn.func (65)) [] [ptr (6) (0), ptr (7) (0)]] [AV.fn (Fn.func (65)) [] [ptr (6) (0), ptr (7) (0)]] (0 = 0 ∧ bothR (mtB (Ty.mk (Ty.kind a) (Ty.n a) (Ty.nl a) l) (Ty.mk (Ty.kind b) (Ty.n b) (Ty.nl b) l_1) es 0) (∃ es_1, encM (mtE (Ty.mk (Ty.kind a) (Ty.n a) (Ty.nl a) l) (Ty.mk (Ty.kind b) (Ty.n b) (Ty.nl b) l_1) es 0) =
 encM es_1 ∧ ((∀ (e : Int × Ty × Nat), e ∈ es_1 → (0 ≤ Prod.fst e ∧ Prod.fst e < 1000) ∧ Prod.snd (Prod.snd e) < mtC (Ty.mk (Ty.kind a) (Ty.n a) (Ty.nl a) l) (Ty.mk (Ty.kind b) (Ty.n b) (Ty.nl b) l_1) es 0) ∧ List.Nodup (List.map (fun x => Prod.snd (Prod.snd x)) es_1) ∧ List.Nodup (List.map (fun x => Prod.fst x) es_1) ∧ List.length es_1 ≤ 1000) ∧ tup [isl (nilB es_1) none (0) (encB (sortB (List.map bndE es_1))), int i64 (0)] = v) (tup [isl true none (0) [], int i64 (15)] = v)))))) := by kernel_rfl
end Go.Proofs.YtnmolpkkemljoaaGreatDoor
end
end
section
set_option maxRecDepth 100000
set_option linter.unusedSimpArgs false
set_option linter.unusedVariables false
namespace Kd
open Go Go.Am Go.Proofs.YtnmolpkkemljoaaGreatDoor
structure MapI (es : Es) (c : Nat) : Prop where
 key : ∀ e ∈ es, 0 ≤ e.1 ∧ e.1 < 1000
 old : ∀ e ∈ es, e.2.2 < c
 one : (es.map fun x => x.2.2).Nodup
 two : (es.map fun x => x.1).Nodup
theorem setM_keys (n : Int) (u : Ty) : ∀ es : Es, (setM es n u).map (fun x => x.1) = es.map fun x => x.1
 | [] => rfl
 | x :: l => by
  simp only [setM]
  split
  ·rfl
  ·simp only [List.map_cons, setM_keys n u l]
theorem setM_born (n : Int) (u : Ty) : ∀ es : Es, (setM es n u).map (fun x => x.2.2) = es.map fun x => x.2.2
 | [] => rfl
 | x :: l => by
  simp only [setM]
  split
  ·rfl
  ·simp only [List.map_cons, setM_born n u l]
theorem boundM_key {es : Es} {n : Int} (h : boundM es n = none) : n ∉ es.map fun x => x.1 := by
 induction es with
 | nil => simp
 | cons x l ih =>
  simp only [boundM] at h
  split at h
  ·cases h
  ·rename_i hne
   simp only [List.map_cons, List.mem_cons, not_or]
   exact ⟨hne, ih h⟩
theorem MapI.set {es : Es} {c : Nat} (h : MapI es c) (n : Int) (u : Ty) : MapI (setM es n u) c where
 key e he := by
  have : e.1 ∈ es.map fun x => x.1 := by rw [← setM_keys n u]; exact List.mem_map.2 ⟨e, he, rfl⟩
  obtain ⟨e', h1, h2⟩ := List.mem_map.1 this
  rw [← h2]; exact h.key e' h1
 old e he := by
  have : e.2.2 ∈ es.map fun x => x.2.2 := by rw [← setM_born n u]; exact List.mem_map.2 ⟨e, he, rfl⟩
  obtain ⟨e', h1, h2⟩ := List.mem_map.1 this
  rw [← h2]; exact h.old e' h1
 one := by rw [setM_born]; exact h.one
 two := by rw [setM_keys]; exact h.two
theorem MapI.push {es : Es} {c : Nat} (h : MapI es c) {n : Int} {u : Ty} (hn : boundM es n = none) (h0 : 0 ≤ n) (h1 : n < 1000) : MapI (es ++ [(n, u, c)]) (c + 1) where
 key e he := by
  rcases List.mem_append.1 he with he | he
  ·exact h.key e he
  ·obtain rfl := List.mem_singleton.1 he
   exact ⟨h0, h1⟩
 old e he := by
  rcases List.mem_append.1 he with he | he
  ·have := h.old e he; omega
  ·obtain rfl := List.mem_singleton.1 he
   exact Nat.lt_succ_self _
 one := by
  rw [List.map_append, List.nodup_append]
  refine ⟨h.one, by simp, fun a ha b hb => ?_⟩
  obtain ⟨e, he, rfl⟩ := List.mem_map.1 ha
  have := h.old e he
  simp only [List.map_cons, List.map_nil, List.mem_singleton] at hb
  omega
 two := by
  rw [List.map_append, List.nodup_append]
  refine ⟨h.two, by simp, fun a ha b hb hab => ?_⟩
  simp only [List.map_cons, List.map_nil, List.mem_singleton] at hb
  subst hb; subst hab
  exact boundM_key hn ha
theorem setM_len (n : Int) (u : Ty) (es : Es) : (setM es n u).length = es.length := by
 have := congrArg List.length (setM_keys n u es)
 simpa using this
theorem mt_MapI : ∀ (t u : Ty) (es : Es) (c : Nat), okT t = true → MapI es c → MapI (mtE t u es c) (mtC t u es c) ∧ (mtE t u es c).length ≤ es.length + cnt t := by
 have key : ∀ (N : Nat), (∀ (t u : Ty) (es : Es) (c : Nat), SizeOf.sizeOf t < N → okT t = true → MapI es c → MapI (mtT t u es c).es (mtT t u es c).c ∧ (mtT t u es c).es.length ≤ es.length + cnt t) ∧
   ∀ (l m : List Ty) (es : Es) (c : Nat), SizeOf.sizeOf l < N → okL l = true → MapI es c → MapI (mtL l m es c).es (mtL l m es c).c ∧ (mtL l m es c).es.length ≤ es.length + cntL l := by
  intro N
  induction N with
  | zero => exact ⟨fun _ _ _ _ h => by omega, fun _ _ _ _ h => by omega⟩
  | succ N ih =>
   obtain ⟨ih1, ih2⟩ := ih
   constructor
   ·intro t u es c ht ho hm
    obtain ⟨k, n, b, l⟩ := t
    simp only [Ty.mk.sizeOf_spec] at ht
    have hn := (ok_node ho).1
    simp only [NodeOk] at hn
    simp only [mtT, cnt]
    split
    ·rename_i h6
     split
     ·split
      ·exact ⟨hm.set _ _, by rw [setM_len]; omega⟩
      ·exact ⟨hm, by dsimp only; omega⟩
     ·rename_i hb
      exact ⟨hm.push hb (by omega) (by omega), by simp⟩
    split
    ·have := ih2 l u.l es c (by omega) (okL_of ho).2 hm
     exact ⟨this.1, by omega⟩
    ·exact ⟨hm, by simp⟩
   ·intro l m es c hl ho hm
    match l, m with
    | [], _ => simp only [mtL]; exact ⟨hm, by omega⟩
    | x :: xs, [] => simp only [mtL]; exact ⟨hm, by omega⟩
    | x :: xs, y :: ys =>
     simp only [List.cons.sizeOf_spec] at hl
     simp only [okL, Bool.and_eq_true] at ho
     simp only [mtL, cntL]
     have h1 := ih1 x y es c (by omega) ho.1 hm
     split
     ·have h2 := ih2 xs ys _ _ (by omega) ho.2 h1.1
      exact ⟨h2.1, by omega⟩
     ·exact ⟨h1.1, by simp only; omega⟩
 exact fun t u es c => (key (SizeOf.sizeOf t + 1)).1 t u es c (by omega)
theorem MapI.nil : MapI [] 0 := ⟨fun e h => by simp at h, fun e h => by simp at h, by simp, by simp⟩
def mtV (t u : Ty) : List (Int × Ty) := sortB ((mtE t u [] 0).map bndE)
def mtN (t u : Ty) : Int := if validB t = true ∧ validB u = true then (if mtB t u [] 0 = true then 0 else 15) else 1
def mtU (t u : Ty) : List (Int × Ty) := if mtN t u = 0 then mtV t u else []
end Kd
noncomputable section
namespace Go.Proofs.YtnmolpkkemljoaaGreatDoor
open Go Go.Am Kd
theorem list_hook {G : Gl} : HSpec.Ok Tryz.prog G 59 listH := by
 intro args A K h'
 unfold listH at h'
 split at h'
 ·split at h'
  ·rename_i b _ m c hb
   obtain ⟨es, rfl, ho, hK⟩ := h'
   rw [nthR_eq] at hb
   exact ⟨_, list_ok hb ho, hK⟩
  ·exact h'.elim
 ·exact h'.elim
def matchV (t u : Ty) : AV := .tup [.isl (nilB (mtU t u)) none 0 (encB (mtU t u)), .int .i64 (mtN t u)]
theorem nilB_sort (es : Es) : nilB (sortB (es.map bndE)) = nilB es := by
 simp only [nilB, (sortB_perm _).length_eq, List.length_map]
theorem match_ok (t u : Ty) (ht : cnt t ≤ 1000) (hu : cnt u ≤ 1000) : QJ 18 [enc t, enc u] (matchV t u) := by
 have hh : Hooks.Ok Tryz.prog g0 mtHk := mkHooks_ok (all_cons valid_hook all_nil) (all_cons mwalk_hook0 (all_cons list_hook all_nil)) all_nil
 refine QuietJ.ret (P := Tryz.prog) (G := g0) (f := 18) 5 (by simp [AV.stillL, enc_still]) (by simp [matchV, AV.still, AV.stillL, encB_still]) (FuncJ.run (el := els) (mu := mu0) (hk := mtHk) hmix hh (n := 60) ?_)
 rw [enc_D, enc_D]
 show runF mtHk 60 18 [encD t, encD u] AH.nil _
 rw [mt_top]
 simp only [eq_self, true_and, and_true, SubR_id, ex_encM, ex_enc, Ty.eta, ex_one]
 have bad : mtN t u ≠ 0 → ∀ e, mtN t u = e → AV.tup [AV.isl true none 0 [], AV.int IntKind.i64 e] = matchV t u := by
  intro h e he
  unfold matchV mtU
  rw [if_neg h, he]; rfl
 refine ⟨nn 0, ht, bothR_nbool (fun hv => ?_) fun hv => ⟨nn 1, hu, bothR_nbool (fun hw => ?_) fun hw => ?_⟩⟩
 ·have : mtN t u = 1 := by simp [mtN, hv]
  exact bad (by rw [this]; decide) 1 this
 ·have : mtN t u = 1 := by simp [mtN, hw]
  exact bad (by rw [this]; decide) 1 this
 have hvt := (valid_eq t).1 hv
 have hvu := (valid_eq u).1 hw
 refine ⟨[], rfl, ⟨hvt.2.2, hvu.2.2, fun x hx => by simp at hx, by omega⟩, rfl, bothR_bool (fun hb => ?_) fun hb => ?_⟩
 ·have hN : mtN t u = 0 := by simp [mtN, hv, hw, hb]
  obtain ⟨hI, hlen⟩ := mt_MapI t u [] 0 hvt.2.2 MapI.nil
  refine ⟨⟨fun e he => ⟨hI.key e he, hI.old e he⟩, hI.one, hI.two, by simp at hlen; omega⟩, ?_⟩
  unfold matchV mtU mtV
  rw [if_pos hN, nilB_sort, hN]
 ·have : mtN t u = 15 := by simp [mtN, hv, hw, hb]
  exact bad (by rw [this]; decide) 15 this
end Go.Proofs.YtnmolpkkemljoaaGreatDoor
end
end
section
namespace Kd
open Go.Am Go.Proofs.YtnmolpkkemljoaaGreatDoor
def okB1 (x : Int × Ty) : Bool := (decide (0 ≤ x.1) && decide (x.1 ≤ 999)) && validB x.2
def hasV (pre : List (Int × Ty)) (n : Int) : Bool := pre.any fun y => decide (y.1 = n)
def bindsG : List (Int × Ty) → List (Int × Ty) → Bool
 | _, [] => true
 | pre, x :: l => (okB1 x && !hasV pre x.1) && bindsG (pre ++ [x]) l
def bindsB (l : List (Int × Ty)) : Bool := bindsG [] l
def goodN : List (Int × Ty) → List (Int × Ty) → Nat
 | _, [] => 0
 | pre, x :: l => if (okB1 x && !hasV pre x.1) = true then goodN (pre ++ [x]) l + 1 else 0
def bindM : List (Int × Ty) → Nat → List (Int × Ty × Nat)
 | [], _ => []
 | x :: l, i => (x.1, x.2, i) :: bindM l (i + 1)
def manyG : List (Int × Ty) → Bool
 | [] => false
 | x :: l => greatB x.2 || manyG l
def manyB (l : List (Int × Ty)) : Bool := manyG l || decide (30 < l.length)
end Kd
noncomputable section
namespace Go.Proofs.YtnmolpkkemljoaaGreatDoor
open Go Go.Am Kd
def mySt (b : Bool) (l : List (Int × Ty)) : LSt Nat Bool where
 n := 0
 nf := 0
 rd := none
 fr x := frm 19 [(0, .isl b none 0 (encB l)), (5, .isl b none 0 (encB l)), (6, .int .i64 (encB l).length), (7, .int .i64 x)]
 hp _ := AH.nil
 inv x := x ≤ l.length ∧ l.length ≤ 9223372036854775807
 res x := manyG (l.drop x)
 sel r := r
 out b' _ := match b' with
  | true => ⟨.ret, frm 19 [(2, .bool true)], AH.nil⟩
  | false => ⟨.exit 0, frm 19 [(0, .isl b none 0 (encB l))], AH.nil⟩
def myHk : Hooks := hooks [(14, weakQ 3 greatQ)] [] []
def myHk' (b : Bool) (l : List (Int × Ty)) : Hooks := hooks [] [] [(2, ⟨33, 0, (mySt b l).spec⟩)]
def manyQ : QSpec
 | [l], K => argBinds l fun _ l => (l.length ≤ 9223372036854775807) ∧ K (.bool (manyB l))
 | _, _ => False
def ppFr (ix : List (Nat × AV)) : AAct := ⟨(frm 57 ([(4, .ptr 1 0), (5, .ptr 2 0)] ++ ix)).tmps, [.fn (.func 82) [] [.ptr 2 0]]⟩
def ppH (t : Ty) (es : List (Int × Ty × Nat)) (c : Nat) : AH := ⟨[tyC t, .cells [.int .i64 0, .int .i64 0, .isl true none 0 []] 24, .cells [.int .i64 0] 28, top3, .map (encM es) c], [(1, 3)]⟩
def ppSt (t : Ty) (b : Bool) (l : List (Int × Ty)) : LSt Nat (Bool × Nat) where
 n := 5
 nf := 1
 rd := none
 fr x := ppFr [(3, .ptr 0 0), (6, .map 4), (16, .map 4), (17, .isl b none 0 (encB l)), (18, .int .i64 (encB l).length), (19, .int .i64 x)]
 hp x := ppH t (bindM (l.take x) 0) x
 inv x := x ≤ l.length ∧ l.length ≤ 2000 ∧ allC l
 res x := (bindsG (l.take x) (l.drop x), x + goodN (l.take x) (l.drop x))
 sel r := r.1
 out b' r := match b' with
  | true => ⟨.exit 0, ppFr [(3, .ptr 0 0), (6, .map 4)], ppH t (bindM (l.take r.2) 0) r.2⟩
  | false => ⟨.panic (stopC 1), ppFr [], ppH t (bindM (l.take r.2) 0) r.2⟩
def ppHk : Hooks := hooks [(76, validQ)] [] []
def ppHk' (t : Ty) (b : Bool) (l : List (Int × Ty)) : Hooks := mkHooks Tryz.prog [(76, validQ)] [(83, putG)] [(5, ⟨34, 0, (ppSt t b l).spec⟩)]
end Go.Proofs.YtnmolpkkemljoaaGreatDoor
end
end
section
noncomputable section
namespace Go.Proofs.YtnmolpkkemljoaaGreatDoor
open Go Go.Am Kd Go.Am.AV Go.IntKind
set_option maxRecDepth 100000
theorem my_loop (b : Bool) (l : List (Int × Ty)) (meas : Nat → Nat) (x : Nat) : (runL myHk 60 33 0 (mySt b l) meas x) = ( bothR (decide (iC x < iC (List.length (encB l)))) (0 ≤ iC x ∧ ∃ x_1, (encB l)[Int.toNat (iC x)]? = some (agg [int i64 (Prod.fst x_1), int i64 (Ty.kind (Prod.snd x_1)), int i64 (Ty.n (Prod.snd x_1)), isl (Ty.nl (Prod.snd x_1)) none (0) (encL (Ty.l (Prod.snd x_1)))]) ∧ ∃ l_1, encL (Ty.l (Prod.snd x_1)) = encL l_1 ∧ bothR (greatB (Ty.mk (Ty.kind (Prod.snd x_1)) (Ty.n (Prod.snd x_1)) (Ty.nl (Prod.snd x_1)) l_1))
 (manyG (List.drop x l) = true ∧ bool true = bool true ∧ 0 = 0 ∧ True) (∃ y, (y ≤ List.length l ∧ List.length l ≤ 9223372036854775807) ∧ meas y < meas x ∧ manyG (List.drop y l) = manyG (List.drop x l) ∧ isl b none (0) (encB l) = isl b none (0) (encB l) ∧ isl b none (0) (encB l) = isl b none (0) (encB l) ∧ int i64 (iC (List.length (encB l))) = int i64 (iC (List.length (encB l))) ∧ int i64 (IntKind.wrap IntKind.i64 (iC x + (1 : Int))) = int i64 (iC y) ∧ 0 = 0 ∧ True))
 (manyG (List.drop x l) = false ∧ isl b none (0) (encB l) = isl b none (0) (encB l) ∧ 0 = 0 ∧ True)) := by kernel_rfl
theorem my_top (b : Bool) (l : List (Int × Ty)) (r : Bool) : (runF (myHk' b l) 60 33 [.isl b none 0 (encB l)] AH.nil (retIs Tryz.prog 5 (.bool r))) = ( codeIs (loopOf Tryz.prog 33 0) Tryz.prog 33 0 (∃ x, (x ≤ List.length l ∧ List.length l ≤ 9223372036854775807) ∧ isl b none (0) (encB l) = isl b none (0) (encB l) ∧ isl b none (0) (encB l) = isl b none (0) (encB l) ∧ int i64 (iC (List.length (encB l))) = int i64 (iC (List.length (encB l))) ∧ int i64 (0) = int i64 (iC x) ∧ 0 = 0 ∧
 bothR (manyG (List.drop x l)) (bool true = bool r) (bool (decide ((30 : Int) < iC (List.length (encB l)))) = bool r))) := by kernel_rfl
theorem pp_loop (t : Ty) (b : Bool) (l : List (Int × Ty)) (meas : Nat → Nat) (x : Nat) : (runL ppHk 60 34 0 (ppSt t b l) meas x) = ( bothR (decide (iC x < iC (List.length (encB l)))) (0 ≤ iC x ∧ ∃ x_1, (encB l)[Int.toNat (iC x)]? = some (agg [int i64 (Prod.fst x_1), int i64 (Ty.kind (Prod.snd x_1)), int i64 (Ty.n (Prod.snd x_1)), isl (Ty.nl (Prod.snd x_1)) none (0) (encL (Ty.l (Prod.snd x_1)))]) ∧ (keyFind (int i64 (Prod.fst x_1)) (encM (Kd.bindM (List.take x l) 0)) 0 = some none ∧ bothR (decide ((0 : Int) ≤ Prod.fst x_1))
 (bothR (decide (Prod.fst x_1 < (1000 : Int))) (Int.NonNeg (0) ∧ ∃ x_2, some (agg [int i64 (Ty.kind (Prod.snd x_1)), int i64 (Ty.n (Prod.snd x_1)), isl (Ty.nl (Prod.snd x_1)) none (0) (encL (Ty.l (Prod.snd x_1)))]) = some (agg [int i64 (Ty.kind x_2), int i64 (Ty.n x_2), isl (Ty.nl x_2) none (0) (encL (Ty.l x_2))]) ∧ ∃ l_1, encL (Ty.l x_2) = encL l_1 ∧ cnt (Ty.mk (Ty.kind x_2) (Ty.n x_2) (Ty.nl x_2) l_1) ≤ 1000 ∧ bothR (!validB (Ty.mk (Ty.kind x_2) (Ty.n x_2) (Ty.nl x_2) l_1)) (([(AV.iface (117) (agg [int i64 (1)]), false)] =
 [(AV.iface (117) (agg [int i64 (1)]), false)] ∧ true = true) ∧ bindsG (List.take x l) (List.drop x l) = false ∧ ptr (1) (0) = ptr (1) (0) ∧ ptr (2) (0) = ptr (2) (0) ∧ [ADef.fn (Fn.func (82)) [] [ptr (2) (0)]] = [ADef.fn (Fn.func (82)) [] [ptr (2) (0)]] ∧ 24 = 24 ∧ int i64 (Ty.kind t) = int i64 (Ty.kind t) ∧ int i64 (Ty.n t) = int i64 (Ty.n t) ∧ isl (Ty.nl t) none (0) (encL (Ty.l t)) = isl (Ty.nl t) none (0) (encL (Ty.l t)) ∧ 24 = 24 ∧
 SubR [int i64 (0), int i64 (0), isl true none (0) []] [int i64 (0), int i64 (0), isl true none (0) []] (28 = 28 ∧ SubR [int i64 (0)] [int i64 (0)] (24 = 24 ∧ encM (Kd.bindM (List.take x l) 0) = encM (Kd.bindM (List.take (x + goodN (List.take x l) (List.drop x l)) l) 0) ∧ x = x + goodN (List.take x l) (List.drop x l) ∧ [(1, 3)] = [(1, 3)] ∧ True))) ((keyFind (int i64 (Prod.fst x_1)) (encM (Kd.bindM (List.take x l) 0)) 0 = some none ∧ ∃ y, (y ≤ List.length l ∧ List.length l ≤ 2000 ∧ allC l) ∧ meas y < meas x ∧
 (bindsG (List.take y l) (List.drop y l), y + goodN (List.take y l) (List.drop y l)) = (bindsG (List.take x l) (List.drop x l), x + goodN (List.take x l) (List.drop x l)) ∧ ptr (0) (0) = ptr (0) (0) ∧ ptr (1) (0) = ptr (1) (0) ∧ ptr (2) (0) = ptr (2) (0) ∧ AV.map (4) = AV.map (4) ∧ AV.map (4) = AV.map (4) ∧ isl b none (0) (encB l) = isl b none (0) (encB l) ∧ int i64 (iC (List.length (encB l))) = int i64 (iC (List.length (encB l))) ∧ int i64 (IntKind.wrap IntKind.i64 (iC x + (1 : Int))) = int i64 (iC y) ∧
 [ADef.fn (Fn.func (82)) [] [ptr (2) (0)]] = [ADef.fn (Fn.func (82)) [] [ptr (2) (0)]] ∧ 24 = 24 ∧ int i64 (Ty.kind t) = int i64 (Ty.kind t) ∧ int i64 (Ty.n t) = int i64 (Ty.n t) ∧ isl (Ty.nl t) none (0) (encL (Ty.l t)) = isl (Ty.nl t) none (0) (encL (Ty.l t)) ∧ 24 = 24 ∧ SubR [int i64 (0), int i64 (0), isl true none (0) []] [int i64 (0), int i64 (0), isl true none (0) []] (28 = 28 ∧ SubR [int i64 (0)] [int i64 (0)] (24 = 24 ∧ encM (Kd.bindM (List.take x l) 0) ++
 [(int i64 (Prod.fst x_1), agg [int i64 (Ty.kind (Prod.snd x_1)), int i64 (Ty.n (Prod.snd x_1)), isl (Ty.nl (Prod.snd x_1)) none (0) (encL (Ty.l (Prod.snd x_1)))], x)] = encM (Kd.bindM (List.take y l) 0) ∧ x + 1 = y ∧ [(1, 3)] = [(1, 3)] ∧ True))) ∨ ∃ j y c, keyFind (int i64 (Prod.fst x_1)) (encM (Kd.bindM (List.take x l) 0)) 0 = some (some (j, y)) ∧ (encM (Kd.bindM (List.take x l) 0))[j]? = some (int i64 (Prod.fst x_1), y, c) ∧ ∃ y, (y ≤ List.length l ∧ List.length l ≤ 2000 ∧ allC l) ∧ meas y < meas x ∧
 (bindsG (List.take y l) (List.drop y l), y + goodN (List.take y l) (List.drop y l)) = (bindsG (List.take x l) (List.drop x l), x + goodN (List.take x l) (List.drop x l)) ∧ ptr (0) (0) = ptr (0) (0) ∧ ptr (1) (0) = ptr (1) (0) ∧ ptr (2) (0) = ptr (2) (0) ∧ AV.map (4) = AV.map (4) ∧ AV.map (4) = AV.map (4) ∧ isl b none (0) (encB l) = isl b none (0) (encB l) ∧ int i64 (iC (List.length (encB l))) = int i64 (iC (List.length (encB l))) ∧ int i64 (IntKind.wrap IntKind.i64 (iC x + (1 : Int))) = int i64 (iC y) ∧
 [ADef.fn (Fn.func (82)) [] [ptr (2) (0)]] = [ADef.fn (Fn.func (82)) [] [ptr (2) (0)]] ∧ 24 = 24 ∧ int i64 (Ty.kind t) = int i64 (Ty.kind t) ∧ int i64 (Ty.n t) = int i64 (Ty.n t) ∧ isl (Ty.nl t) none (0) (encL (Ty.l t)) = isl (Ty.nl t) none (0) (encL (Ty.l t)) ∧ 24 = 24 ∧ SubR [int i64 (0), int i64 (0), isl true none (0) []] [int i64 (0), int i64 (0), isl true none (0) []] (28 = 28 ∧ SubR [int i64 (0)] [int i64 (0)] (24 = 24 ∧
 List.set (encM (Kd.bindM (List.take x l) 0)) j (int i64 (Prod.fst x_1), agg [int i64 (Ty.kind (Prod.snd x_1)), int i64 (Ty.n (Prod.snd x_1)), isl (Ty.nl (Prod.snd x_1)) none (0) (encL (Ty.l (Prod.snd x_1)))], c) = encM (Kd.bindM (List.take y l) 0) ∧ x = y ∧ [(1, 3)] = [(1, 3)] ∧ True)))) (([(AV.iface (117) (agg [int i64 (1)]), false)] = [(AV.iface (117) (agg [int i64 (1)]), false)] ∧ true = true) ∧ bindsG (List.take x l) (List.drop x l) = false ∧ ptr (1) (0) = ptr (1) (0) ∧ ptr (2) (0) = ptr (2) (0) ∧
 [ADef.fn (Fn.func (82)) [] [ptr (2) (0)]] = [ADef.fn (Fn.func (82)) [] [ptr (2) (0)]] ∧ 24 = 24 ∧ int i64 (Ty.kind t) = int i64 (Ty.kind t) ∧ int i64 (Ty.n t) = int i64 (Ty.n t) ∧ isl (Ty.nl t) none (0) (encL (Ty.l t)) = isl (Ty.nl t) none (0) (encL (Ty.l t)) ∧ 24 = 24 ∧ SubR [int i64 (0), int i64 (0), isl true none (0) []] [int i64 (0), int i64 (0), isl true none (0) []] (28 = 28 ∧ SubR [int i64 (0)] [int i64 (0)] (24 = 24 ∧
 encM (Kd.bindM (List.take x l) 0) = encM (Kd.bindM (List.take (x + goodN (List.take x l) (List.drop x l)) l) 0) ∧ x = x + goodN (List.take x l) (List.drop x l) ∧ [(1, 3)] = [(1, 3)] ∧ True)))) (([(AV.iface (117) (agg [int i64 (1)]), false)] = [(AV.iface (117) (agg [int i64 (1)]), false)] ∧ true = true) ∧ bindsG (List.take x l) (List.drop x l) = false ∧ ptr (1) (0) = ptr (1) (0) ∧ ptr (2) (0) = ptr (2) (0) ∧ [ADef.fn (Fn.func (82)) [] [ptr (2) (0)]] = [ADef.fn (Fn.func (82)) [] [ptr (2) (0)]] ∧ 24 = 24 ∧
 int i64 (Ty.kind t) = int i64 (Ty.kind t) ∧ int i64 (Ty.n t) = int i64 (Ty.n t) ∧ isl (Ty.nl t) none (0) (encL (Ty.l t)) = isl (Ty.nl t) none (0) (encL (Ty.l t)) ∧ 24 = 24 ∧ SubR [int i64 (0), int i64 (0), isl true none (0) []] [int i64 (0), int i64 (0), isl true none (0) []] (28 = 28 ∧ SubR [int i64 (0)] [int i64 (0)] (24 = 24 ∧ encM (Kd.bindM (List.take x l) 0) = encM (Kd.bindM (List.take (x + goodN (List.take x l) (List.drop x l)) l) 0) ∧
 x = x + goodN (List.take x l) (List.drop x l) ∧ [(1, 3)] = [(1, 3)] ∧ True))) ∨ ∃ j x_2, keyFind (int i64 (Prod.fst x_1)) (encM (Kd.bindM (List.take x l) 0)) 0 = some (some (j, agg [int i64 (Ty.kind x_2), int i64 (Ty.n x_2), isl (Ty.nl x_2) none (0) (encL (Ty.l x_2))])) ∧ bothR (decide ((0 : Int) ≤ Prod.fst x_1)) (bothR (decide (Prod.fst x_1 < (1000 : Int))) (([(AV.iface (117) (agg [int i64 (1)]), false)] = [(AV.iface (117) (agg [int i64 (1)]), false)] ∧ true = true) ∧ bindsG (List.take x l) (List.drop x l) = false ∧
 ptr (1) (0) = ptr (1) (0) ∧ ptr (2) (0) = ptr (2) (0) ∧ [ADef.fn (Fn.func (82)) [] [ptr (2) (0)]] = [ADef.fn (Fn.func (82)) [] [ptr (2) (0)]] ∧ 24 = 24 ∧ int i64 (Ty.kind t) = int i64 (Ty.kind t) ∧ int i64 (Ty.n t) = int i64 (Ty.n t) ∧ isl (Ty.nl t) none (0) (encL (Ty.l t)) = isl (Ty.nl t) none (0) (encL (Ty.l t)) ∧ 24 = 24 ∧ SubR [int i64 (0), int i64 (0), isl true none (0) []] [int i64 (0), int i64 (0), isl true none (0) []] (28 = 28 ∧
 SubR [int i64 (0)] [int i64 (0)] (24 = 24 ∧ encM (Kd.bindM (List.take x l) 0) = encM (Kd.bindM (List.take (x + goodN (List.take x l) (List.drop x l)) l) 0) ∧ x = x + goodN (List.take x l) (List.drop x l) ∧ [(1, 3)] = [(1, 3)] ∧ True))) (([(AV.iface (117) (agg [int i64 (1)]), false)] = [(AV.iface (117) (agg [int i64 (1)]), false)] ∧ true = true) ∧ bindsG (List.take x l) (List.drop x l) = false ∧ ptr (1) (0) = ptr (1) (0) ∧ ptr (2) (0) = ptr (2) (0) ∧ [ADef.fn (Fn.func (82)) [] [ptr (2) (0)]] =
 [ADef.fn (Fn.func (82)) [] [ptr (2) (0)]] ∧ 24 = 24 ∧ int i64 (Ty.kind t) = int i64 (Ty.kind t) ∧ int i64 (Ty.n t) = int i64 (Ty.n t) ∧ isl (Ty.nl t) none (0) (encL (Ty.l t)) = isl (Ty.nl t) none (0) (encL (Ty.l t)) ∧ 24 = 24 ∧ SubR [int i64 (0), int i64 (0), isl true none (0) []] [int i64 (0), int i64 (0), isl true none (0) []] (28 = 28 ∧ SubR [int i64 (0)] [int i64 (0)] (24 = 24 ∧
 encM (Kd.bindM (List.take x l) 0) = encM (Kd.bindM (List.take (x + goodN (List.take x l) (List.drop x l)) l) 0) ∧ x = x + goodN (List.take x l) (List.drop x l) ∧ [(1, 3)] = [(1, 3)] ∧ True)))) (([(AV.iface (117) (agg [int i64 (1)]), false)] = [(AV.iface (117) (agg [int i64 (1)]), false)] ∧ true = true) ∧ bindsG (List.take x l) (List.drop x l) = false ∧ ptr (1) (0) = ptr (1) (0) ∧ ptr (2) (0) = ptr (2) (0) ∧ [ADef.fn (Fn.func (82)) [] [ptr (2) (0)]] = [ADef.fn (Fn.func (82)) [] [ptr (2) (0)]] ∧ 24 = 24 ∧
 int i64 (Ty.kind t) = int i64 (Ty.kind t) ∧ int i64 (Ty.n t) = int i64 (Ty.n t) ∧ isl (Ty.nl t) none (0) (encL (Ty.l t)) = isl (Ty.nl t) none (0) (encL (Ty.l t)) ∧ 24 = 24 ∧ SubR [int i64 (0), int i64 (0), isl true none (0) []] [int i64 (0), int i64 (0), isl true none (0) []] (28 = 28 ∧ SubR [int i64 (0)] [int i64 (0)] (24 = 24 ∧ encM (Kd.bindM (List.take x l) 0) = encM (Kd.bindM (List.take (x + goodN (List.take x l) (List.drop x l)) l) 0) ∧
 x = x + goodN (List.take x l) (List.drop x l) ∧ [(1, 3)] = [(1, 3)] ∧ True))))) (bindsG (List.take x l) (List.drop x l) = true ∧ ptr (0) (0) = ptr (0) (0) ∧ ptr (1) (0) = ptr (1) (0) ∧ ptr (2) (0) = ptr (2) (0) ∧ AV.map (4) = AV.map (4) ∧ [ADef.fn (Fn.func (82)) [] [ptr (2) (0)]] = [ADef.fn (Fn.func (82)) [] [ptr (2) (0)]] ∧ 24 = 24 ∧ int i64 (Ty.kind t) = int i64 (Ty.kind t) ∧ int i64 (Ty.n t) = int i64 (Ty.n t) ∧ isl (Ty.nl t) none (0) (encL (Ty.l t)) = isl (Ty.nl t) none (0) (encL (Ty.l t)) ∧ 24 = 24 ∧
 SubR [int i64 (0), int i64 (0), isl true none (0) []] [int i64 (0), int i64 (0), isl true none (0) []] (28 = 28 ∧ SubR [int i64 (0)] [int i64 (0)] (24 = 24 ∧ encM (Kd.bindM (List.take x l) 0) = encM (Kd.bindM (List.take (x + goodN (List.take x l) (List.drop x l)) l) 0) ∧ x = x + goodN (List.take x l) (List.drop x l) ∧ [(1, 3)] = [(1, 3)] ∧ True)))) := by kernel_rfl
theorem pp_top (t : Ty) (b : Bool) (l : List (Int × Ty)) (r : Ty) (e : Int) : (runF (ppHk' t b l) 60 34 [.isl b none 0 (encB l), encD t] AH.nil (retIs Tryz.prog 5 (.tup [encD r, .int .i64 e]))) = ( Int.NonNeg (0) ∧ ∃ x, some (agg [int i64 (Ty.kind t), int i64 (Ty.n t), isl (Ty.nl t) none (0) (encL (Ty.l t))]) = some (agg [int i64 (Ty.kind x), int i64 (Ty.n x), isl (Ty.nl x) none (0) (encL (Ty.l x))]) ∧ ∃ l_1, encL (Ty.l x) = encL l_1 ∧ cnt (Ty.mk (Ty.kind x) (Ty.n x) (Ty.nl x) l_1) ≤ 1000 ∧
 bothR (!validB (Ty.mk (Ty.kind x) (Ty.n x) (Ty.nl x) l_1)) (tup [agg [int i64 (0), int i64 (0), isl true none (0) []], int i64 (1)] = tup [agg [int i64 (Ty.kind r), int i64 (Ty.n r), isl (Ty.nl r) none (0) (encL (Ty.l r))], int i64 e]) (codeIs (loopOf Tryz.prog 34 0) Tryz.prog 34 0 (∃ x, (x ≤ List.length l ∧ List.length l ≤ 2000 ∧ allC l) ∧ ptr (0) (0) = ptr (0) (0) ∧ ptr (1) (0) = ptr (1) (0) ∧ ptr (2) (0) = ptr (2) (0) ∧ AV.map (4) = AV.map (4) ∧ AV.map (4) = AV.map (4) ∧
 isl b none (0) (encB l) = isl b none (0) (encB l) ∧ int i64 (iC (List.length (encB l))) = int i64 (iC (List.length (encB l))) ∧ int i64 (0) = int i64 (iC x) ∧ [ADef.fn (Fn.func (82)) [] [ptr (2) (0)]] = [ADef.fn (Fn.func (82)) [] [ptr (2) (0)]] ∧ 24 = 24 ∧ int i64 (Ty.kind t) = int i64 (Ty.kind t) ∧ int i64 (Ty.n t) = int i64 (Ty.n t) ∧ isl (Ty.nl t) none (0) (encL (Ty.l t)) = isl (Ty.nl t) none (0) (encL (Ty.l t)) ∧ 24 = 24 ∧
 SubR [int i64 (0), int i64 (0), isl true none (0) []] [int i64 (0), int i64 (0), isl true none (0) []] (28 = 28 ∧ SubR [int i64 (0)] [int i64 (0)] (24 = 24 ∧ [] = encM (Kd.bindM (List.take x l) 0) ∧ 0 = x ∧ [(1, 3)] = [(1, 3)] ∧ bothR (bindsG (List.take x l) (List.drop x l)) (∃ l_2, encL (Ty.l t) = encL l_2 ∧ ∃ es, encM (Kd.bindM (List.take (x + goodN (List.take x l) (List.drop x l)) l) 0) = encM es ∧ (okT (Ty.mk (Ty.kind t) (Ty.n t) (Ty.nl t) l_2) = true ∧ okMs es) ∧
 bothR (putB es (Ty.mk (Ty.kind t) (Ty.n t) (Ty.nl t) l_2)) (tup [agg [int i64 (Ty.kind (pwT es (cleanT (Ty.mk (Ty.kind t) (Ty.n t) (Ty.nl t) l_2)))), int i64 (Ty.n (pwT es (cleanT (Ty.mk (Ty.kind t) (Ty.n t) (Ty.nl t) l_2)))), isl (Ty.nl (pwT es (cleanT (Ty.mk (Ty.kind t) (Ty.n t) (Ty.nl t) l_2)))) none (0) (encL (Ty.l (pwT es (cleanT (Ty.mk (Ty.kind t) (Ty.n t) (Ty.nl t) l_2)))))], int i64 (0)] = tup [agg [int i64 (Ty.kind r), int i64 (Ty.n r), isl (Ty.nl r) none (0) (encL (Ty.l r))], int i64 e]) (tup
 [agg [int i64 (0), int i64 (0), isl true none (0) []], int i64 (9)] = tup [agg [int i64 (Ty.kind r), int i64 (Ty.n r), isl (Ty.nl r) none (0) (encL (Ty.l r))], int i64 e])) (tup [agg [int i64 (0), int i64 (0), isl true none (0) []], int i64 (1)] = tup [agg [int i64 (Ty.kind r), int i64 (Ty.n r), isl (Ty.nl r) none (0) (encL (Ty.l r))], int i64 e])))))) := by kernel_rfl
end Go.Proofs.YtnmolpkkemljoaaGreatDoor
end
end
section
set_option maxRecDepth 100000
set_option linter.unusedSimpArgs false
set_option linter.unusedVariables false
namespace Kd
open Go.Am Go.Proofs.YtnmolpkkemljoaaGreatDoor
theorem boundM_has : ∀ (l : List (Int × Ty)) (n : Int) (i : Nat), hasV l n = false → boundM (bindM l i) n = none
 | [], _, _, _ => rfl
 | x :: l, n, i, h => by
  simp only [hasV, List.any_cons, Bool.or_eq_false_iff, decide_eq_false_iff_not] at h
  simp only [bindM, boundM, if_neg (fun e => h.1 (Eq.symm e))]
  exact boundM_has l n (i + 1) h.2
theorem boundM_hasT : ∀ (l : List (Int × Ty)) (n : Int) (i : Nat), hasV l n = true → ∃ u, boundM (bindM l i) n = some u
 | [], _, _, h => by cases h
 | x :: l, n, i, h => by
  simp only [hasV, List.any_cons, Bool.or_eq_true, decide_eq_true_eq] at h
  simp only [bindM, boundM]
  by_cases hx : n = x.1
  ·exact ⟨x.2, if_pos hx⟩
  ·rw [if_neg hx]
   refine boundM_hasT l n (i + 1) ?_
   rcases h with h | h
   ·exact absurd h.symm hx
   ·exact h
theorem bindM_snoc : ∀ (l : List (Int × Ty)) (x : Int × Ty) (i : Nat), bindM (l ++ [x]) i = bindM l i ++ [(x.1, x.2, i + l.length)]
 | [], x, i => rfl
 | y :: l, x, i => by
  simp only [List.cons_append, bindM, bindM_snoc l x (i + 1), List.length_cons]
  rw [show i + 1 + l.length = i + (l.length + 1) by omega]
theorem bindM_O : ∀ (l : List (Int × Ty)) (n : Int) (i : Nat), boundM (bindM l i) n = boundO l n
 | [], _, _ => rfl
 | x :: l, n, i => by
  simp only [bindM, boundM, boundO]
  by_cases h : n = x.1
  ·rw [if_pos h, if_pos h.symm]
  ·rw [if_neg h, if_neg (fun e => h e.symm)]
   exact bindM_O l n (i + 1)
theorem goodN_all : ∀ (l pre : List (Int × Ty)), bindsG pre l = true → goodN pre l = l.length
 | [], _, _ => rfl
 | x :: l, pre, h => by
  simp only [bindsG, Bool.and_eq_true (okB1 x && !hasV pre x.1)] at h
  simp only [goodN, if_pos h.1, goodN_all l _ h.2, List.length_cons]
theorem binds_ok1 : ∀ (l pre : List (Int × Ty)), bindsG pre l = true → ∀ x ∈ l, okB1 x = true
 | [], _, _, x, hx => by cases hx
 | y :: l, pre, h, x, hx => by
  simp only [bindsG, Bool.and_eq_true] at h
  rcases List.mem_cons.1 hx with rfl | hx
  ·exact h.1.1
  ·exact binds_ok1 l _ h.2 x hx
theorem bindM_mem : ∀ (l : List (Int × Ty)) (i : Nat), ∀ y ∈ bindM l i, ∃ x ∈ l, y.2.1 = x.2
 | [], _, y, h => by cases h
 | x :: l, i, y, h => by
  simp only [bindM, List.mem_cons] at h
  rcases h with rfl | h
  ·exact ⟨x, by simp, rfl⟩
  ·obtain ⟨z, h1, h2⟩ := bindM_mem l (i + 1) y h
   exact ⟨z, by simp [h1], h2⟩
theorem binds_okMs {l : List (Int × Ty)} (h : bindsB l = true) : okMs (bindM l 0) := by
 intro y hy
 obtain ⟨x, hx, e⟩ := bindM_mem l 0 y hy
 have := binds_ok1 l [] h x hx
 simp only [okB1, Bool.and_eq_true] at this
 obtain ⟨h1, h2, h3⟩ := (valid_eq _).1 this.2
 rw [e]
 exact ⟨h3, by omega⟩
theorem put_with {l : List (Int × Ty)} {t : Ty} (ht : validB t = true) : pwT (bindM l 0) (cleanT t) = withT l t :=
 pw_with (fun n => bindM_O l n 0) t ((valid_eq t).1 ht).2.2
theorem putB_eq {l : List (Int × Ty)} {t : Ty} (ht : validB t = true) : putB (bindM l 0) t = validB (withT l t) := by
 simp only [putB, fitsB, put_with ht]
 cases hv : validB (withT l t) with
 | false => simp
 | true =>
  obtain ⟨h1, h2, h3⟩ := (valid_eq _).1 hv
  simp only [Bool.and_true, decide_eq_true_eq]; omega
def putT (l : List (Int × Ty)) (t : Ty) : Ty := if (validB t && bindsB l && validB (withT l t)) = true then withT l t else .mk 0 0 true []
def putE (l : List (Int × Ty)) (t : Ty) : Int := if (validB t && bindsB l) = true then (if validB (withT l t) = true then 0 else 9) else 1
end Kd
noncomputable section
namespace Go.Proofs.YtnmolpkkemljoaaGreatDoor
open Go Go.Am Kd
theorem my_ok (b : Bool) (l : List (Int × Ty)) : LHook.Ok Tryz.prog g0 ⟨33, 0, (mySt b l).spec⟩ := by
 refine LSt.by (hk := myHk) (mySt b l) (fun x => l.length - x) (mkHooks_ok (all_cons (great_hook.weak 3) all_nil) all_nil all_nil) rfl ?_ ?_ ?_
 ·intro x _
  exact Whole.frm rfl rfl (by simp [mySt, AV.bnd, AV.still_bndL, encB_still]) rfl
 ·intro x b' _
  cases b'
  ·exact Whole.frm rfl rfl (by simp [mySt, AV.bnd, AV.still_bndL, encB_still]) rfl
  ·exact Whole.frm rfl rfl rfl rfl
 ·rintro i ⟨hi, hl⟩
  rw [my_loop]
  simp only [iC, encB_length, eq_self, true_and, and_true, Int.toNat_natCast, AV.int.injEq]
  refine bothR_dec (fun hlt => ?_) fun hge => ?_
  ·have hi' : i < l.length := by omega
   have hd : l.drop i = l[i] :: l.drop (i + 1) := List.drop_eq_getElem_cons hi'
   rw [ex_bind hi', hd]
   simp only [ex_enc, Ty.eta]
   refine ⟨by omega, bothR_bool (fun h => by simp [manyG, h]) fun h => ⟨i + 1, ⟨by omega, hl⟩, by omega, by simp [manyG, h], ?_⟩⟩
   rw [wrap_id (by omega) (by omega)]; rfl
  ·rw [List.drop_of_length_le (by omega)]; rfl
theorem many_ok (b : Bool) (l : List (Int × Ty)) (hl : l.length ≤ 9223372036854775807) : QJ 33 [.isl b none 0 (encB l)] (.bool (manyB l)) := by
 refine QJ.by (hk := myHk' b l) (by simp [AV.stillL, AV.still, encB_still]) rfl (mkHooks_ok all_nil all_nil (all_cons (my_ok b l) all_nil)) ?_
 rw [my_top]
 simp only [iC, eq_self, true_and, codeIs_self, AV.int.injEq, encB_length]
 refine ⟨0, ⟨by omega, hl⟩, rfl, ?_⟩
 rw [List.drop_zero]
 refine bothR_bool (fun h => by simp [manyB, h]) fun h => ?_
 simp only [manyB, h, Bool.false_or, AV.bool.injEq]
 congr 1
 exact propext ⟨fun h => by omega, fun h => by omega⟩
theorem many_hook : QSpec.Ok Tryz.prog g0 33 manyQ := by
 intro args K h'
 unfold manyQ at h'
 split at h'
 ·obtain ⟨b, l, rfl, h2, h3⟩ := argBinds_elim h'
  exact ⟨_, many_ok b l h2, h3⟩
 ·exact h'.elim
end Go.Proofs.YtnmolpkkemljoaaGreatDoor
end
end
section
set_option maxRecDepth 100000
set_option linter.unusedSimpArgs false
set_option linter.unusedVariables false
noncomputable section
namespace Go.Proofs.YtnmolpkkemljoaaGreatDoor
open Go Go.Am Kd
theorem pp_ok (t : Ty) (b : Bool) (l : List (Int × Ty)) : LHook.Ok Tryz.prog g0 ⟨34, 0, (ppSt t b l).spec⟩ := by
 refine LSt.by (hk := ppHk) (ppSt t b l) (fun x => l.length - x) (mkHooks_ok (all_cons valid_hook all_nil) all_nil all_nil) rfl ?_ ?_ ?_
 ·intro x _
  exact ⟨rfl, rfl, frm_bnd (by simp [AV.bnd, AV.still_bndL, encB_still, ppSt]), by simp [ppSt, ppFr, ADef.bnd, AV.bndL, AV.bnd], by simp [ppSt, ppH, top3, tyC, ABlk.bnd, AV.bnd, AV.bndL, encM_bnd, encL_bnd]⟩
 ·intro x b' _
  cases b'
  ·exact ⟨rfl, rfl, frm_bnd (by simp [AV.bnd, AV.still_bndL, encB_still, ppSt]), by simp [ppSt, ppFr, ADef.bnd, AV.bndL, AV.bnd], by simp [ppSt, ppH, top3, tyC, ABlk.bnd, AV.bnd, AV.bndL, encM_bnd, encL_bnd]⟩
  ·exact ⟨rfl, rfl, frm_bnd (by simp [AV.bnd, AV.still_bndL, encB_still, ppSt]), by simp [ppSt, ppFr, ADef.bnd, AV.bndL, AV.bnd], by simp [ppSt, ppH, top3, tyC, ABlk.bnd, AV.bnd, AV.bndL, encM_bnd, encL_bnd]⟩
 ·rintro i ⟨hi, hl, hc⟩
  rw [pp_loop]
  simp only [iC, encB_length, eq_self, true_and, and_true, Int.toNat_natCast, AV.int.injEq, SubR_id]
  refine bothR_dec (fun hlt => ?_) fun hge => ?_
  ·have hi' : i < l.length := by omega
   have hd : l.drop i = l[i] :: l.drop (i + 1) := List.drop_eq_getElem_cons hi'
   have ht : l.take (i + 1) = l.take i ++ [l[i]] := by rw [List.take_add_one, List.getElem?_eq_getElem hi']; rfl
   have hlen : (l.take i).length = i := by simp; omega
   rw [ex_bind hi']
   refine ⟨by omega, ?_⟩
   have bad : (okB1 l[i] && !hasV (l.take i) l[i].1) = false → bindsG (l.take i) (l.drop i) = false ∧ encM (bindM (l.take i) 0) = encM (bindM (l.take (i + goodN (l.take i) (l.drop i))) 0) ∧ i = i + goodN (l.take i) (l.drop i) := by
    intro h
    have hg : goodN (l.take i) (l.drop i) = 0 := by rw [hd]; simp only [goodN, h, Bool.false_eq_true, if_false]
    rw [hg]
    exact ⟨by rw [hd]; simp only [bindsG, h, Bool.false_and], rfl, rfl⟩
   cases hh : hasV (l.take i) l[i].1 with
   | true =>
    have hb := bad (by rw [hh]; simp)
    obtain ⟨u, hu⟩ := boundM_hasT _ _ 0 hh
    obtain ⟨j, hj⟩ := keyFind_some hu 0
    exact .inr ⟨j, u, hj, bothR_dec (fun _ => bothR_dec (fun _ => hb) fun _ => hb) fun _ => hb⟩
   | false =>
    have hk := keyFind_none (boundM_has _ _ 0 hh) 0
    refine .inl ⟨hk, bothR_dec (fun h0 => bothR_dec (fun h1 => ⟨nn 0, l[i].2, rfl, ?_⟩) fun h1 => bad ?_) fun h0 => bad ?_⟩
    ·simp only [ex_enc, Ty.eta]
     refine ⟨hc _ (List.getElem_mem hi'), bothR_nbool (fun hv => bad ?_) fun hv => .inl ⟨hk, i + 1, ⟨by omega, hl, hc⟩, by omega, ?_, ?_⟩⟩
     ·simp only [okB1, hv, Bool.and_false, Bool.false_and]
     ·have hok : (okB1 l[i] && !hasV (l.take i) l[i].1) = true := by
       simp only [okB1, hv, hh, Bool.not_false, Bool.and_true, Bool.and_eq_true, decide_eq_true_eq]
       omega
      rw [hd, ht]
      simp only [bindsG, goodN, hok, Bool.true_and, if_true, Prod.mk.injEq, true_and]
      omega
     ·rw [wrap_id (by omega) (by omega), ht, bindM_snoc, hlen, Nat.zero_add]
      refine ⟨rfl, ?_, rfl⟩
      simp only [encM, List.map_append, List.map_cons, List.map_nil, entM]
      rfl
    ·have : decide (l[i].1 ≤ 999) = false := by simp; omega
     simp only [okB1, this, Bool.and_false, Bool.false_and]
    ·have : decide (0 ≤ l[i].1) = false := by simp; omega
     simp only [okB1, this, Bool.false_and]
  ·have : i = l.length := by omega
   subst this
   rw [List.drop_of_length_le (Nat.le_refl _), List.take_length]
   simp [bindsG, goodN, List.take_length]
def putV (l : List (Int × Ty)) (t : Ty) : AV := .tup [encD (putT l t), .int .i64 (putE l t)]
theorem put_cases (l : List (Int × Ty)) (t : Ty) : (validB t = false ∧ putT l t = .mk 0 0 true [] ∧ putE l t = 1) ∨ (validB t = true ∧ bindsB l = false ∧ putT l t = .mk 0 0 true [] ∧ putE l t = 1) ∨
  (validB t = true ∧ bindsB l = true ∧ validB (withT l t) = false ∧ putT l t = .mk 0 0 true [] ∧ putE l t = 9) ∨ (validB t = true ∧ bindsB l = true ∧ validB (withT l t) = true ∧ putT l t = withT l t ∧ putE l t = 0) := by
 unfold putT putE
 cases validB t <;> cases bindsB l <;> cases validB (withT l t) <;> simp
theorem kput_ok (b : Bool) (l : List (Int × Ty)) (t : Ty) (ht : cnt t ≤ 1000) (hl : l.length ≤ 2000) (hc : allC l) : QJ 34 [.isl b none 0 (encB l), enc t] (putV l t) := by
 have hst : (enc t).still = true := enc_still t
 have hh : Hooks.Ok Tryz.prog g0 (ppHk' t b l) := mkHooks_ok (all_cons valid_hook all_nil) (all_cons putG_hook all_nil) (all_cons (pp_ok t b l) all_nil)
 rw [enc_D]
 refine QJ.by (hk := ppHk' t b l) (by rw [← enc_D]; simp [AV.stillL, AV.still, hst, encB_still]) (by simp [putV, AV.still, AV.stillL, encD_still]) hh ?_
 unfold putV
 rw [pp_top]
 simp only [ex_enc, Ty.eta, eq_self, true_and, and_true, SubR_id, codeIs_self, ex_encM, iC, encB_length, AV.int.injEq]
 refine ⟨nn 0, t, rfl, ?_⟩
 refine ⟨ht, ?_⟩
 rcases put_cases l t with ⟨h1, h2, h3⟩ | ⟨h0, h1, h2, h3⟩ | ⟨h0, h4, h1, h2, h3⟩ | ⟨h0, h4, h1, h2, h3⟩
 ·rw [h1, h2, h3]; rfl
 ·rw [h0, h2, h3]
  refine ⟨0, ⟨by omega, hl, hc⟩, rfl, rfl, rfl, ?_⟩
  have : bindsG (l.take 0) (l.drop 0) = false := h1
  rw [this]; rfl
 ·rw [h0, h2, h3]
  refine ⟨0, ⟨by omega, hl, hc⟩, rfl, rfl, rfl, ?_⟩
  have hb : bindsG (l.take 0) (l.drop 0) = true := h4
  have hg : 0 + goodN (l.take 0) (l.drop 0) = l.length := by rw [Nat.zero_add]; exact goodN_all l [] h4
  rw [hb, hg, List.take_length]
  refine ⟨⟨((valid_eq t).1 h0).2.2, binds_okMs h4⟩, ?_⟩
  rw [putB_eq h0, h1]; rfl
 ·rw [h0, h2, h3]
  refine ⟨0, ⟨by omega, hl, hc⟩, rfl, rfl, rfl, ?_⟩
  have hb : bindsG (l.take 0) (l.drop 0) = true := h4
  have hg : 0 + goodN (l.take 0) (l.drop 0) = l.length := by rw [Nat.zero_add]; exact goodN_all l [] h4
  rw [hb, hg, List.take_length]
  refine ⟨⟨((valid_eq t).1 h0).2.2, binds_okMs h4⟩, ?_⟩
  rw [putB_eq h0, h1, put_with h0]; rfl
end Go.Proofs.YtnmolpkkemljoaaGreatDoor
end
end
section
noncomputable section
namespace Go.Proofs.YtnmolpkkemljoaaGreatDoor.closed
open Go Go.Am
def muC : Oper → Bool := fun o => o.dst == some 17 && o.type == 27 && (match o.op with | .call c => c.args.size == 2 | _ => false)
def puC (f : Nat) : Bool := (14 ≤ f && f ≤ 50 && f != 49) || [53,60,61,62,63,67,68,69,72,73,76,77,80,81,84,86,87,89,90,91,92,93,98,99,100,101,104,105,106,109,110,111,112,113,120,121,122,124,125,126,127,128,137,138,139,140,141,142].contains f
theorem c0 : PCall Tryz.prog g0 109 [.agg [.int .i64 1, .int .i64 0, .isl true none 0 []], .int .i64 12] [.returned (.int .i64 1)] := pRun_ok hmix (Orc.table_ok Orc.tabNil) (pu := puC) (mu := muC) (n := 1000) (by kernel_rfl)
def a0 : AV := .agg [.int .i64 0, .str [117, 110, 105, 116], .str [], .str [], .int .i64 0, .fn (.func 116) [] [], .int .i64 0, .str [105, 110, 116], .str [], .str [], .int .i64 1, .fn (.func 116) [] [], .int .i64 2, .str [40], .str [32, 42, 32], .str [41], .int .i64 0, .fn (.func 116) [] [], .int .i64 2, .str [40], .str [32, 43, 32], .str [41], .int .i64 1, .fn (.func 116) [] [], .int .i64 1, .str [91], .str [], .str [93], .int .i64 2, .fn (.func 117) [] [], .int .i64 2, .str [40], .str [32, 45, 62, 32], .str [41], .int .i64 0, .fn (.func 116) [] [], .int .i64 0, .str [39], .str [], .str [], .int .i64 0, .fn (.func 116) [] []]
theorem c1 : PCall Tryz.prog g0 81 [] [.returned a0] := pRun_ok hmix (Orc.table_ok Orc.tabNil) (pu := puC) (mu := muC) (n := 1000) (by kernel_rfl)
theorem c2 : PCall Tryz.prog g0 76 [.agg [.int .i64 1, .int .i64 0, .isl true none 0 []]] [.returned (.bool true)] := pRun_ok hmix (Orc.table_ok (Orc.tabCons c0 (Orc.tabCons c1 Orc.tabNil))) (pu := puC) (mu := muC) (n := 1000) (by kernel_rfl)
theorem c3 : PCall Tryz.prog g0 76 [.agg [.int .i64 0, .int .i64 0, .isl true none 0 []]] [.returned (.bool true)] := pRun_ok hmix (Orc.table_ok (Orc.tabCons c1 Orc.tabNil)) (pu := puC) (mu := muC) (n := 1000) (by kernel_rfl)
def a1 : AV := .agg [.int .i64 4, .int .i64 0, .isl false none 0 [.agg [.int .i64 6, .int .i64 1, .isl true none 0 []]]]
def a2 : AV := .isl false none 0 [.agg [.int .i64 6, .int .i64 0, .isl true none 0 []], a1]
theorem c4 : PCall Tryz.prog g0 109 [.agg [.int .i64 2, .int .i64 0, a2], .int .i64 12] [.returned (.int .i64 3)] := pRun_ok hmix (Orc.table_ok Orc.tabNil) (pu := puC) (mu := muC) (n := 1000) (by kernel_rfl)
theorem c5 : PCall Tryz.prog g0 76 [.agg [.int .i64 2, .int .i64 0, a2]] [.returned (.bool true)] := pRun_ok hmix (Orc.table_ok (Orc.tabCons c4 (Orc.tabCons c1 Orc.tabNil))) (pu := puC) (mu := muC) (n := 1000) (by kernel_rfl)
def a3 : AV := .isl false none 0 [.agg [.int .i64 1, .int .i64 0, .isl true none 0 []], .agg [.int .i64 0, .int .i64 0, .isl true none 0 []]]
theorem c6 : PCall Tryz.prog g0 109 [.agg [.int .i64 3, .int .i64 0, a3], .int .i64 11] [.returned (.int .i64 2)] := pRun_ok hmix (Orc.table_ok Orc.tabNil) (pu := puC) (mu := muC) (n := 1000) (by kernel_rfl)
def a4 : AV := .agg [.int .i64 4, .int .i64 0, .isl false none 0 [.agg [.int .i64 1, .int .i64 0, .isl true none 0 []]]]
theorem c7 : PCall Tryz.prog g0 109 [.agg [.int .i64 4, .int .i64 0, .isl false none 0 [a4]], .int .i64 11] [.returned (.int .i64 3)] := pRun_ok hmix (Orc.table_ok Orc.tabNil) (pu := puC) (mu := muC) (n := 1000) (by kernel_rfl)
def a5 : AV := .isl false none 0 [.agg [.int .i64 3, .int .i64 0, a3], .agg [.int .i64 4, .int .i64 0, .isl false none 0 [a4]]]
theorem c8 : PCall Tryz.prog g0 76 [.agg [.int .i64 2, .int .i64 0, a5]] [.returned (.bool true)] := pRun_ok hmix (Orc.table_ok (Orc.tabCons c6 (Orc.tabCons c7 (Orc.tabCons c1 Orc.tabNil)))) (pu := puC) (mu := muC) (n := 1000) (by kernel_rfl)
def a6 : AV := .isl false none 0 [.agg [.int .i64 6, .int .i64 2, .isl true none 0 []], .agg [.int .i64 6, .int .i64 5, .isl true none 0 []]]
def a7 : AV := .isl false none 0 [.agg [.int .i64 6, .int .i64 5, .isl true none 0 []], .agg [.int .i64 5, .int .i64 0, a6]]
theorem c10 : PCall Tryz.prog g0 68 [.agg [.int .i64 6, .int .i64 2, .isl true none 0 []]] [.returned (.agg [.int .i64 6, .int .i64 2, .isl true none 0 []])] := pRun_ok hmix (Orc.table_ok Orc.tabNil) (pu := puC) (mu := muC) (n := 1000) (by kernel_rfl)
theorem c11 : PCall Tryz.prog g0 68 [.agg [.int .i64 6, .int .i64 0, .isl true none 0 []]] [.returned (.agg [.int .i64 6, .int .i64 0, .isl true none 0 []])] := pRun_ok hmix (Orc.table_ok Orc.tabNil) (pu := puC) (mu := muC) (n := 1000) (by kernel_rfl)
theorem c12 : PCall Tryz.prog g0 68 [.agg [.int .i64 6, .int .i64 1, .isl true none 0 []]] [.returned (.agg [.int .i64 6, .int .i64 1, .isl true none 0 []])] := pRun_ok hmix (Orc.table_ok Orc.tabNil) (pu := puC) (mu := muC) (n := 1000) (by kernel_rfl)
def a8 : AV := .isl false none 0 [.agg [.int .i64 6, .int .i64 1, .isl true none 0 []], .agg [.int .i64 6, .int .i64 0, .isl true none 0 []]]
def a9 : AV := .isl false none 0 [.agg [.int .i64 6, .int .i64 0, .isl true none 0 []], .agg [.int .i64 5, .int .i64 0, a8]]
def a11 : AV := .isl false none 0 [.agg [.int .i64 6, .int .i64 0, .isl true none 0 []], .agg [.int .i64 6, .int .i64 1, .isl true none 0 []]]
theorem c14 : PCall Tryz.prog g0 76 [.agg [.int .i64 2, .int .i64 0, a11]] [.returned (.bool true)] := pRun_ok hmix (Orc.table_ok (Orc.tabCons c1 Orc.tabNil)) (pu := puC) (mu := muC) (n := 1000) (by kernel_rfl)
def a12 : AV := .agg [.int .i64 4, .int .i64 0, .isl false none 0 [.agg [.int .i64 6, .int .i64 0, .isl true none 0 []]]]
theorem c15 : PCall Tryz.prog g0 76 [a12] [.returned (.bool true)] := pRun_ok hmix (Orc.table_ok (Orc.tabCons c1 Orc.tabNil)) (pu := puC) (mu := muC) (n := 1000) (by kernel_rfl)
theorem c16 : PCall Tryz.prog g0 68 [.agg [.int .i64 4, .int .i64 0, .isl true none 0 []]] [.returned (.agg [.int .i64 4, .int .i64 0, .isl true none 0 []])] := pRun_ok hmix (Orc.table_ok Orc.tabNil) (pu := puC) (mu := muC) (n := 1000) (by kernel_rfl)
theorem c17 : PCall Tryz.prog g0 138 [.int .u64 2] [.returned (.int .i64 2)] := pRun_ok hmix (Orc.table_ok Orc.tabNil) (pu := puC) (mu := muC) (n := 1000) (by kernel_rfl)
theorem c18 : PCall Tryz.prog g0 124 [.int .u64 2] [.returned (.int .i64 2)] := pRun_ok hmix (Orc.table_ok (Orc.tabCons c17 Orc.tabNil)) (pu := puC) (mu := muC) (n := 1000) (by kernel_rfl)
def a13 : AV := .agg [.int .i64 4, .int .i64 0, .isl false none 0 [.agg [.int .i64 6, .int .i64 2, .isl true none 0 []]]]
def a14 : AV := .isl false none 0 [a13, .agg [.int .i64 6, .int .i64 3, .isl true none 0 []]]
def a15 : AV := .agg [.int .i64 0, .int .i64 4, .int .i64 0, .isl false none 0 [.agg [.int .i64 6, .int .i64 2, .isl true none 0 []]]]
def a16 : AV := .agg [.int .i64 3, .int .i64 4, .int .i64 0, .isl false none 0 [.agg [.int .i64 6, .int .i64 1, .isl true none 0 []]]]
theorem c19 : PCall Tryz.prog g0 16 [.agg [.int .i64 2, .int .i64 0, a2], .agg [.int .i64 2, .int .i64 0, a14]] [.returned (.tup [.isl false none 0 [a15, a16], .int .i64 0])] := pRun_ok hmix (Orc.table_ok (Orc.tabCons c5 (Orc.tabCons c1 (Orc.tabCons c16 (Orc.tabCons c10 (Orc.tabCons c12 (Orc.tabCons c18 Orc.tabNil))))))) (pu := puC) (mu := muC) (n := 1000) (by kernel_rfl)
def a17 : AV := .isl false none 0 [.agg [.int .i64 6, .int .i64 1, .isl true none 0 []], .agg [.int .i64 6, .int .i64 2, .isl true none 0 []]]
def a18 : AV := .isl false none 0 [.agg [.int .i64 1, .int .i64 6, .int .i64 0, .isl true none 0 []], .agg [.int .i64 2, .int .i64 6, .int .i64 0, .isl true none 0 []]]
theorem c20 : PCall Tryz.prog g0 16 [.agg [.int .i64 2, .int .i64 0, a11], .agg [.int .i64 2, .int .i64 0, a17]] [.returned (.tup [a18, .int .i64 0])] := pRun_ok hmix (Orc.table_ok (Orc.tabCons c14 (Orc.tabCons c1 (Orc.tabCons c11 (Orc.tabCons c18 Orc.tabNil))))) (pu := puC) (mu := muC) (n := 1000) (by kernel_rfl)
def a19 : AV := .isl false none 0 [.agg [.int .i64 1, .int .i64 0, .isl true none 0 []], a4]
def a20 : AV := .agg [.int .i64 4, .int .i64 0, .isl false none 0 [.agg [.int .i64 0, .int .i64 0, .isl true none 0 []]]]
def a21 : AV := .isl false none 0 [.agg [.int .i64 0, .int .i64 0, .isl true none 0 []], a20]
def a22 : AV := .isl false none 0 [.agg [.int .i64 2, .int .i64 0, a19], .agg [.int .i64 2, .int .i64 0, a21]]
theorem c21 : PCall Tryz.prog g0 53 [a22] [.returned (.tup [])] := pRun_ok hmix (Orc.table_ok (Orc.tabCons c1 Orc.tabNil)) (pu := puC) (mu := muC) (n := 1000) (by kernel_rfl)
def a23 : AV := .str [40, 39, 48, 32, 42, 32, 91, 39, 49, 93, 41]
def a24 : AV := .tup [.agg [.int .i64 2, .int .i64 0, a2], .int .i64 0]
theorem c22 : PCall Tryz.prog g0 24 [a23] [.returned a24] := pRun_ok hmix (Orc.table_ok (Orc.tabCons c1 (Orc.tabCons c5 Orc.tabNil))) (pu := puC) (mu := muC) (n := 1000) (by kernel_rfl)
theorem c23 : PCall Tryz.prog g0 76 [.agg [.int .i64 3, .int .i64 0, a3]] [.returned (.bool true)] := pRun_ok hmix (Orc.table_ok (Orc.tabCons c1 Orc.tabNil)) (pu := puC) (mu := muC) (n := 1000) (by kernel_rfl)
theorem c24 : PCall Tryz.prog g0 28 [.agg [.int .i64 3, .int .i64 0, a3]] [.returned (.bool true)] := pRun_ok hmix (Orc.table_ok (Orc.tabCons c23 Orc.tabNil)) (pu := puC) (mu := muC) (n := 1000) (by kernel_rfl)
theorem c25 : PCall Tryz.prog g0 28 [.agg [.int .i64 1, .int .i64 0, .isl true none 0 []]] [.returned (.bool true)] := pRun_ok hmix (Orc.table_ok (Orc.tabCons c2 Orc.tabNil)) (pu := puC) (mu := muC) (n := 1000) (by kernel_rfl)
theorem c26 : PCall Tryz.prog g0 30 [.agg [.int .i64 1, .int .i64 0, .isl true none 0 []]] [.returned (.int .i64 1)] := pRun_ok hmix (Orc.table_ok (Orc.tabCons c25 (Orc.tabCons c1 Orc.tabNil))) (pu := puC) (mu := muC) (n := 1000) (by kernel_rfl)
theorem c27 : PCall Tryz.prog g0 31 [.agg [.int .i64 1, .int .i64 0, .isl true none 0 []]] [.returned (.int .i64 0)] := pRun_ok hmix (Orc.table_ok (Orc.tabCons c25 (Orc.tabCons c1 Orc.tabNil))) (pu := puC) (mu := muC) (n := 1000) (by kernel_rfl)
theorem c28 : PCall Tryz.prog g0 31 [.agg [.int .i64 0, .int .i64 0, .isl true none 0 []]] [.returned (.int .i64 0)] := pRun_ok hmix (Orc.table_ok (Orc.tabCons c3 (Orc.tabCons c1 Orc.tabNil))) (pu := puC) (mu := muC) (n := 1000) (by kernel_rfl)
theorem c29 : PCall Tryz.prog g0 76 [.agg [.int .i64 4, .int .i64 0, .isl false none 0 [a4]]] [.returned (.bool true)] := pRun_ok hmix (Orc.table_ok (Orc.tabCons c1 Orc.tabNil)) (pu := puC) (mu := muC) (n := 1000) (by kernel_rfl)
theorem c30 : PCall Tryz.prog g0 28 [.agg [.int .i64 4, .int .i64 0, .isl false none 0 [a4]]] [.returned (.bool true)] := pRun_ok hmix (Orc.table_ok (Orc.tabCons c29 Orc.tabNil)) (pu := puC) (mu := muC) (n := 1000) (by kernel_rfl)
theorem c31 : PCall Tryz.prog g0 109 [a4, .int .i64 12] [.returned (.int .i64 2)] := pRun_ok hmix (Orc.table_ok Orc.tabNil) (pu := puC) (mu := muC) (n := 1000) (by kernel_rfl)
theorem c32 : PCall Tryz.prog g0 76 [a4] [.returned (.bool true)] := pRun_ok hmix (Orc.table_ok (Orc.tabCons c31 (Orc.tabCons c1 Orc.tabNil))) (pu := puC) (mu := muC) (n := 1000) (by kernel_rfl)
theorem c33 : PCall Tryz.prog g0 28 [a4] [.returned (.bool true)] := pRun_ok hmix (Orc.table_ok (Orc.tabCons c32 Orc.tabNil)) (pu := puC) (mu := muC) (n := 1000) (by kernel_rfl)
theorem c34 : PCall Tryz.prog g0 15 [] [.returned (.bool true)] := pRun_ok hmix (Orc.table_ok (Orc.tabCons c19 (Orc.tabCons c20 (Orc.tabCons c1 (Orc.tabCons c15 (Orc.tabCons c5 (Orc.tabCons c8 (Orc.tabCons c18 (Orc.tabCons c21 (Orc.tabCons c22 (Orc.tabCons c24 (Orc.tabCons c26 (Orc.tabCons c27 (Orc.tabCons c3 (Orc.tabCons c28 (Orc.tabCons c30 (Orc.tabCons c33 Orc.tabNil))))))))))))))))) (pu := puC) (mu := muC) (n := 1000) (by kernel_rfl)
theorem alive_ok : QJ 15 [] (.bool true) := QuietJ.ofCall rfl c34
def aliveQ : QSpec
 | [], K => K (.bool true)
 | _, _ => False
theorem alive_hook : QSpec.Ok Tryz.prog g0 15 aliveQ := by
 intro args K h'
 unfold aliveQ at h'
 split at h'
 ·exact ⟨_, alive_ok, h'⟩
 ·exact h'.elim
end Go.Proofs.YtnmolpkkemljoaaGreatDoor.closed
end
end
section
namespace Kd
open Go.Am Go.Proofs.YtnmolpkkemljoaaGreatDoor
def vlF (t : Ty) : List Int := if validB t = true then varsL t else []
def errF (t : Ty) : Int := if validB t = true then 0 else 1
def vbF (t : Ty) : Bool := if validB t = true then nilB (varsL t) else true
def numF (t : Ty) : Ty := if validB t = true then numT t else .mk 0 0 true []
end Kd
noncomputable section
namespace Go.Proofs.YtnmolpkkemljoaaGreatDoor
open Go Go.Am Kd
def tyQ (r : Ty → AV) : QSpec
 | [t], K => argTy t fun t => (cnt t ≤ 1000) ∧ K (r t)
 | _, _ => False
def kvQ : QSpec := tyQ fun t => .tup [.isl (vbF t) none 0 (encZ (vlF t)), .int .i64 (errF t)]
def knQ : QSpec := tyQ fun t => .tup [encD (numF t), .int .i64 (errF t)]
def smeQ : QSpec
 | [t, u], K => argTy t fun t => argTy u fun u => (cnt t ≤ 1000 ∧ cnt u ≤ 1000) ∧ K (.bool (sameB t u))
 | _, _ => False
end Go.Proofs.YtnmolpkkemljoaaGreatDoor
end
end
section
noncomputable section
namespace Go.Proofs.YtnmolpkkemljoaaGreatDoor
open Go Go.Am Kd
def pQ : QSpec
 | [l, t], K => argBinds l fun _ l => argTy t fun t => (cnt t ≤ 1000 ∧ l.length ≤ 2000 ∧ allC l) ∧ K (putV l t)
 | _, _ => False
end Go.Proofs.YtnmolpkkemljoaaGreatDoor
end
end
section
set_option maxRecDepth 100000
noncomputable section
namespace Go.Proofs.YtnmolpkkemljoaaGreatDoor
open Go Go.Am Kd
theorem tyQ_ok {G : Gl} {f : FuncId} {r : Ty → AV} (h : ∀ t, cnt t ≤ 1000 → QuietJ Tryz.prog G f [enc t] (r t)) : QSpec.Ok Tryz.prog G f (tyQ r) := by
 intro args K h'
 unfold tyQ at h'
 split at h'
 ·obtain ⟨t, rfl, h1, h2⟩ := argTy_elim h'
  exact ⟨_, h t h1, h2⟩
 ·exact h'.elim
theorem kv_hook : QSpec.Ok Tryz.prog gT 36 kvQ := tyQ_ok fun t hc => by
 have h := kvars_ok t hc
 unfold vbF vlF errF
 by_cases hv : validB t = true
 ·simp only [if_pos hv] at h ⊢; exact h.lift
 ·simp only [if_neg hv] at h ⊢; exact h.lift
theorem kn_hook : QSpec.Ok Tryz.prog gT 38 knQ := tyQ_ok fun t hc => by
 have h := knum_ok t hc
 unfold numF errF
 by_cases hv : validB t = true
 ·simp only [if_pos hv] at h ⊢; exact h.lift
 ·simp only [if_neg hv] at h ⊢; exact h.lift
theorem sme_hook : QSpec.Ok Tryz.prog gT 23 smeQ := by
 intro args K h'
 unfold smeQ at h'
 split at h'
 ·obtain ⟨t, rfl, h2⟩ := argTy_elim h'
  obtain ⟨u, rfl, h3, h4⟩ := argTy_elim h2
  exact ⟨_, (same_ok t u h3.1 h3.2).lift, h4⟩
 ·exact h'.elim
end Go.Proofs.YtnmolpkkemljoaaGreatDoor
end
end
section
set_option maxRecDepth 100000
noncomputable section
namespace Go.Proofs.YtnmolpkkemljoaaGreatDoor
open Go Go.Am Kd
theorem kp_hook : QSpec.Ok Tryz.prog g0 34 pQ := by
 intro args K h'
 unfold pQ at h'
 split at h'
 ·obtain ⟨b, l, rfl, h⟩ := argBinds_elim h'
  obtain ⟨t, rfl, h1, h2⟩ := argTy_elim h
  exact ⟨_, kput_ok b l t h1.1 h1.2.1 h1.2.2, h2⟩
 ·exact h'.elim
theorem many_all {l : List (Int × Ty)} (h : manyB l = false) : l.length ≤ 2000 ∧ allC l := by
 simp only [manyB, Bool.or_eq_false_iff, decide_eq_false_iff_not] at h
 refine ⟨by omega, ?_⟩
 have key : ∀ (l : List (Int × Ty)), manyG l = false → allC l := by
  intro l
  induction l with
  | nil => intro _ x hx; cases hx
  | cons x l ih =>
   intro h
   simp only [manyG, Bool.or_eq_false_iff] at h
   intro y hy
   rcases List.mem_cons.1 hy with rfl | hy
   ·have := great_cnt h.1; omega
   ·exact ih h.2 y hy
 exact key l h.1
theorem put_cnt (l : List (Int × Ty)) (t : Ty) : cnt (putT l t) ≤ 1000 := by
 rcases put_cases l t with ⟨h1, h2, h3⟩ | ⟨h0, h1, h2, h3⟩ | ⟨h0, h4, h1, h2, h3⟩ | ⟨h0, h4, h1, h2, h3⟩
 ·rw [h2]; simp [cnt, cntL]
 ·rw [h2]; simp [cnt, cntL]
 ·rw [h2]; simp [cnt, cntL]
 ·rw [h2]; have := ((valid_eq _).1 h1).2.1; omega
end Go.Proofs.YtnmolpkkemljoaaGreatDoor
end
end
section
noncomputable section
namespace Go.Proofs.YtnmolpkkemljoaaGreatDoor
open Go Go.Am Kd
def mmQ : QSpec
 | [t, u], K => argTy t fun t => argTy u fun u => (cnt t ≤ 1000 ∧ cnt u ≤ 1000) ∧ K (.tup [.isl (nilB (mtU t u)) none 0 (encB (mtU t u)), .int .i64 (mtN t u)])
 | _, _ => False
def ccQ : QSpec
 | [t, u], K => argTy t fun t => argTy u fun u => (cnt t ≤ 1000 ∧ cnt u ≤ 1000) ∧ K (.tup [encD (cmV t u), .int .i64 (cmN t u)])
 | _, _ => False
def instQs : List (Nat × QSpec) := [(14, weakQ 3 greatQ), (15, closed.aliveQ), (33, manyQ), (34, pQ), (36, kvQ), (38, knQ), (18, mmQ), (20, ccQ), (23, smeQ)]
def instHk : Hooks := hooks instQs [] []
end Go.Proofs.YtnmolpkkemljoaaGreatDoor
end
end
section
noncomputable section
namespace Go.Proofs.YtnmolpkkemljoaaGreatDoor
open Go Go.Am Kd Go.Am.AV Go.IntKind
set_option maxRecDepth 100000
theorem inst_top (t : Ty) (b c : Bool) (l m : List (Int × Ty)) : (runT instHk 120 12 [encD t, .isl b none 0 (encB l), .isl c none 0 (encB m)] AH.nil (retIs Tryz.prog 5 (.bool true))) = ( ∃ l_1, encL (Ty.l t) = encL l_1 ∧ bothR (greatB (Ty.mk (Ty.kind t) (Ty.n t) (Ty.nl t) l_1)) (bool true = bool true) (∃ l_2, encB l = encB l_2 ∧ List.length l_2 ≤ 9223372036854775807 ∧ bothR (manyB l_2) (bool true = bool true) (∃ l_3, encB m = encB l_3 ∧ List.length l_3 ≤ 9223372036854775807 ∧ bothR (manyB l_3) (bool true = bool true) (∃ l_4, encB l = encB l_4 ∧ ∃ l, encL (Ty.l t) = encL l ∧
 (cnt (Ty.mk (Ty.kind t) (Ty.n t) (Ty.nl t) l) ≤ 1000 ∧ List.length l_4 ≤ 2000 ∧ allC l_4) ∧ bothR (!decide (putE l_4 (Ty.mk (Ty.kind t) (Ty.n t) (Ty.nl t) l) = (0 : Int))) (bool true = bool true) (∃ l_5, encB m = encB l_5 ∧ ∃ l_6, encL (Ty.l (putT l_4 (Ty.mk (Ty.kind t) (Ty.n t) (Ty.nl t) l))) = encL l_6 ∧ (cnt (Ty.mk (Ty.kind (putT l_4 (Ty.mk (Ty.kind t) (Ty.n t) (Ty.nl t) l))) (Ty.n (putT l_4 (Ty.mk (Ty.kind t) (Ty.n t) (Ty.nl t) l))) (Ty.nl (putT l_4 (Ty.mk (Ty.kind t) (Ty.n t) (Ty.nl t) l))) l_6) ≤ 1000 ∧ List.length l_5 ≤ 2000 ∧ allC l_5) ∧ bothR (!decide (putE l_5
 (Ty.mk (Ty.kind (putT l_4 (Ty.mk (Ty.kind t) (Ty.n t) (Ty.nl t) l))) (Ty.n (putT l_4 (Ty.mk (Ty.kind t) (Ty.n t) (Ty.nl t) l))) (Ty.nl (putT l_4 (Ty.mk (Ty.kind t) (Ty.n t) (Ty.nl t) l))) l_6) = (0 : Int))) (bool true = bool true) (∃ l_7, encL (Ty.l t) = encL l_7 ∧ ∃ l_8, encL (Ty.l (putT l_5 (Ty.mk (Ty.kind (putT l_4 (Ty.mk (Ty.kind t) (Ty.n t) (Ty.nl t) l))) (Ty.n (putT l_4 (Ty.mk (Ty.kind t) (Ty.n t) (Ty.nl t) l))) (Ty.nl (putT l_4 (Ty.mk (Ty.kind t) (Ty.n t) (Ty.nl t) l))) l_6))) = encL l_8 ∧ (cnt (Ty.mk (Ty.kind t) (Ty.n t) (Ty.nl t) l_7) ≤ 1000 ∧ cnt (Ty.mk (Ty.kind (putT l_5
 (Ty.mk (Ty.kind (putT l_4 (Ty.mk (Ty.kind t) (Ty.n t) (Ty.nl t) l))) (Ty.n (putT l_4 (Ty.mk (Ty.kind t) (Ty.n t) (Ty.nl t) l))) (Ty.nl (putT l_4 (Ty.mk (Ty.kind t) (Ty.n t) (Ty.nl t) l))) l_6))) (Ty.n (putT l_5 (Ty.mk (Ty.kind (putT l_4 (Ty.mk (Ty.kind t) (Ty.n t) (Ty.nl t) l))) (Ty.n (putT l_4 (Ty.mk (Ty.kind t) (Ty.n t) (Ty.nl t) l))) (Ty.nl (putT l_4 (Ty.mk (Ty.kind t) (Ty.n t) (Ty.nl t) l))) l_6))) (Ty.nl (putT l_5 (Ty.mk (Ty.kind (putT l_4 (Ty.mk (Ty.kind t) (Ty.n t) (Ty.nl t) l))) (Ty.n (putT l_4 (Ty.mk (Ty.kind t) (Ty.n t) (Ty.nl t) l)))
 (Ty.nl (putT l_4 (Ty.mk (Ty.kind t) (Ty.n t) (Ty.nl t) l))) l_6))) l_8) ≤ 1000) ∧ bothR (!decide (mtN (Ty.mk (Ty.kind t) (Ty.n t) (Ty.nl t) l_7) (Ty.mk (Ty.kind (putT l_5 (Ty.mk (Ty.kind (putT l_4 (Ty.mk (Ty.kind t) (Ty.n t) (Ty.nl t) l))) (Ty.n (putT l_4 (Ty.mk (Ty.kind t) (Ty.n t) (Ty.nl t) l))) (Ty.nl (putT l_4 (Ty.mk (Ty.kind t) (Ty.n t) (Ty.nl t) l))) l_6))) (Ty.n (putT l_5 (Ty.mk (Ty.kind (putT l_4 (Ty.mk (Ty.kind t) (Ty.n t) (Ty.nl t) l))) (Ty.n (putT l_4 (Ty.mk (Ty.kind t) (Ty.n t) (Ty.nl t) l))) (Ty.nl (putT l_4 (Ty.mk (Ty.kind t) (Ty.n t) (Ty.nl t) l))) l_6))) (Ty.nl (putT l_5
 (Ty.mk (Ty.kind (putT l_4 (Ty.mk (Ty.kind t) (Ty.n t) (Ty.nl t) l))) (Ty.n (putT l_4 (Ty.mk (Ty.kind t) (Ty.n t) (Ty.nl t) l))) (Ty.nl (putT l_4 (Ty.mk (Ty.kind t) (Ty.n t) (Ty.nl t) l))) l_6))) l_8) = (0 : Int))) (bool false = bool true) (∃ l_9, encL (Ty.l t) = encL l_9 ∧ cnt (Ty.mk (Ty.kind t) (Ty.n t) (Ty.nl t) l_9) ≤ 1000 ∧ ∃ l_10, encB (mtU (Ty.mk (Ty.kind t) (Ty.n t) (Ty.nl t) l_7) (Ty.mk (Ty.kind (putT l_5 (Ty.mk (Ty.kind (putT l_4 (Ty.mk (Ty.kind t) (Ty.n t) (Ty.nl t) l))) (Ty.n (putT l_4 (Ty.mk (Ty.kind t) (Ty.n t) (Ty.nl t) l)))
 (Ty.nl (putT l_4 (Ty.mk (Ty.kind t) (Ty.n t) (Ty.nl t) l))) l_6))) (Ty.n (putT l_5 (Ty.mk (Ty.kind (putT l_4 (Ty.mk (Ty.kind t) (Ty.n t) (Ty.nl t) l))) (Ty.n (putT l_4 (Ty.mk (Ty.kind t) (Ty.n t) (Ty.nl t) l))) (Ty.nl (putT l_4 (Ty.mk (Ty.kind t) (Ty.n t) (Ty.nl t) l))) l_6))) (Ty.nl (putT l_5 (Ty.mk (Ty.kind (putT l_4 (Ty.mk (Ty.kind t) (Ty.n t) (Ty.nl t) l))) (Ty.n (putT l_4 (Ty.mk (Ty.kind t) (Ty.n t) (Ty.nl t) l))) (Ty.nl (putT l_4 (Ty.mk (Ty.kind t) (Ty.n t) (Ty.nl t) l))) l_6))) l_8)) = encB l_10 ∧ ∃ l_11, encL (Ty.l t) = encL l_11 ∧
 (cnt (Ty.mk (Ty.kind t) (Ty.n t) (Ty.nl t) l_11) ≤ 1000 ∧ List.length l_10 ≤ 2000 ∧ allC l_10) ∧ ∃ l_12, encL (Ty.l t) = encL l_12 ∧ ∃ l_13, encL (Ty.l (putT l_5 (Ty.mk (Ty.kind (putT l_4 (Ty.mk (Ty.kind t) (Ty.n t) (Ty.nl t) l))) (Ty.n (putT l_4 (Ty.mk (Ty.kind t) (Ty.n t) (Ty.nl t) l))) (Ty.nl (putT l_4 (Ty.mk (Ty.kind t) (Ty.n t) (Ty.nl t) l))) l_6))) = encL l_13 ∧ (cnt (Ty.mk (Ty.kind t) (Ty.n t) (Ty.nl t) l_12) ≤ 1000 ∧ cnt (Ty.mk (Ty.kind (putT l_5 (Ty.mk (Ty.kind (putT l_4 (Ty.mk (Ty.kind t) (Ty.n t) (Ty.nl t) l))) (Ty.n (putT l_4 (Ty.mk (Ty.kind t) (Ty.n t) (Ty.nl t) l)))
 (Ty.nl (putT l_4 (Ty.mk (Ty.kind t) (Ty.n t) (Ty.nl t) l))) l_6))) (Ty.n (putT l_5 (Ty.mk (Ty.kind (putT l_4 (Ty.mk (Ty.kind t) (Ty.n t) (Ty.nl t) l))) (Ty.n (putT l_4 (Ty.mk (Ty.kind t) (Ty.n t) (Ty.nl t) l))) (Ty.nl (putT l_4 (Ty.mk (Ty.kind t) (Ty.n t) (Ty.nl t) l))) l_6))) (Ty.nl (putT l_5 (Ty.mk (Ty.kind (putT l_4 (Ty.mk (Ty.kind t) (Ty.n t) (Ty.nl t) l))) (Ty.n (putT l_4 (Ty.mk (Ty.kind t) (Ty.n t) (Ty.nl t) l))) (Ty.nl (putT l_4 (Ty.mk (Ty.kind t) (Ty.n t) (Ty.nl t) l))) l_6))) l_13) ≤ 1000) ∧ ∃ l_14, encL (Ty.l t) = encL l_14 ∧ cnt (Ty.mk (Ty.kind t) (Ty.n t) (Ty.nl t) l_14) ≤ 1000 ∧
 ∃ l_15, encL (Ty.l (putT l_5 (Ty.mk (Ty.kind (putT l_4 (Ty.mk (Ty.kind t) (Ty.n t) (Ty.nl t) l))) (Ty.n (putT l_4 (Ty.mk (Ty.kind t) (Ty.n t) (Ty.nl t) l))) (Ty.nl (putT l_4 (Ty.mk (Ty.kind t) (Ty.n t) (Ty.nl t) l))) l_6))) = encL l_15 ∧ cnt (Ty.mk (Ty.kind (putT l_5 (Ty.mk (Ty.kind (putT l_4 (Ty.mk (Ty.kind t) (Ty.n t) (Ty.nl t) l))) (Ty.n (putT l_4 (Ty.mk (Ty.kind t) (Ty.n t) (Ty.nl t) l))) (Ty.nl (putT l_4 (Ty.mk (Ty.kind t) (Ty.n t) (Ty.nl t) l))) l_6))) (Ty.n (putT l_5 (Ty.mk (Ty.kind (putT l_4 (Ty.mk (Ty.kind t) (Ty.n t) (Ty.nl t) l)))
 (Ty.n (putT l_4 (Ty.mk (Ty.kind t) (Ty.n t) (Ty.nl t) l))) (Ty.nl (putT l_4 (Ty.mk (Ty.kind t) (Ty.n t) (Ty.nl t) l))) l_6))) (Ty.nl (putT l_5 (Ty.mk (Ty.kind (putT l_4 (Ty.mk (Ty.kind t) (Ty.n t) (Ty.nl t) l))) (Ty.n (putT l_4 (Ty.mk (Ty.kind t) (Ty.n t) (Ty.nl t) l))) (Ty.nl (putT l_4 (Ty.mk (Ty.kind t) (Ty.n t) (Ty.nl t) l))) l_6))) l_15) ≤ 1000 ∧ ∃ l_16, encL (Ty.l (putT l_5 (Ty.mk (Ty.kind (putT l_4 (Ty.mk (Ty.kind t) (Ty.n t) (Ty.nl t) l))) (Ty.n (putT l_4 (Ty.mk (Ty.kind t) (Ty.n t) (Ty.nl t) l))) (Ty.nl (putT l_4 (Ty.mk (Ty.kind t) (Ty.n t) (Ty.nl t) l))) l_6))) = encL l_16 ∧ ∃ l_17,
 encL (Ty.l t) = encL l_17 ∧ (cnt (Ty.mk (Ty.kind (putT l_5 (Ty.mk (Ty.kind (putT l_4 (Ty.mk (Ty.kind t) (Ty.n t) (Ty.nl t) l))) (Ty.n (putT l_4 (Ty.mk (Ty.kind t) (Ty.n t) (Ty.nl t) l))) (Ty.nl (putT l_4 (Ty.mk (Ty.kind t) (Ty.n t) (Ty.nl t) l))) l_6))) (Ty.n (putT l_5 (Ty.mk (Ty.kind (putT l_4 (Ty.mk (Ty.kind t) (Ty.n t) (Ty.nl t) l))) (Ty.n (putT l_4 (Ty.mk (Ty.kind t) (Ty.n t) (Ty.nl t) l))) (Ty.nl (putT l_4 (Ty.mk (Ty.kind t) (Ty.n t) (Ty.nl t) l))) l_6))) (Ty.nl (putT l_5 (Ty.mk (Ty.kind (putT l_4 (Ty.mk (Ty.kind t) (Ty.n t) (Ty.nl t) l)))
 (Ty.n (putT l_4 (Ty.mk (Ty.kind t) (Ty.n t) (Ty.nl t) l))) (Ty.nl (putT l_4 (Ty.mk (Ty.kind t) (Ty.n t) (Ty.nl t) l))) l_6))) l_16) ≤ 1000 ∧ cnt (Ty.mk (Ty.kind t) (Ty.n t) (Ty.nl t) l_17) ≤ 1000) ∧ bothR (decide (errF (Ty.mk (Ty.kind t) (Ty.n t) (Ty.nl t) l_9) = (0 : Int))) (bothR (decide (iC (List.length (encB (mtU (Ty.mk (Ty.kind t) (Ty.n t) (Ty.nl t) l_7) (Ty.mk (Ty.kind (putT l_5 (Ty.mk (Ty.kind (putT l_4 (Ty.mk (Ty.kind t) (Ty.n t) (Ty.nl t) l))) (Ty.n (putT l_4 (Ty.mk (Ty.kind t) (Ty.n t) (Ty.nl t) l))) (Ty.nl (putT l_4 (Ty.mk (Ty.kind t) (Ty.n t) (Ty.nl t) l))) l_6))) (Ty.n (putT l_5
 (Ty.mk (Ty.kind (putT l_4 (Ty.mk (Ty.kind t) (Ty.n t) (Ty.nl t) l))) (Ty.n (putT l_4 (Ty.mk (Ty.kind t) (Ty.n t) (Ty.nl t) l))) (Ty.nl (putT l_4 (Ty.mk (Ty.kind t) (Ty.n t) (Ty.nl t) l))) l_6))) (Ty.nl (putT l_5 (Ty.mk (Ty.kind (putT l_4 (Ty.mk (Ty.kind t) (Ty.n t) (Ty.nl t) l))) (Ty.n (putT l_4 (Ty.mk (Ty.kind t) (Ty.n t) (Ty.nl t) l))) (Ty.nl (putT l_4 (Ty.mk (Ty.kind t) (Ty.n t) (Ty.nl t) l))) l_6))) l_8)))) = iC (List.length (Kd.encZ (vlF (Ty.mk (Ty.kind t) (Ty.n t) (Ty.nl t) l_9)))))) (bothR (decide (putE l_10 (Ty.mk (Ty.kind t) (Ty.n t) (Ty.nl t) l_11) = (0 : Int))) (∃ l_18, encL (Ty.l
 (putT l_10 (Ty.mk (Ty.kind t) (Ty.n t) (Ty.nl t) l_11))) = encL l_18 ∧ ∃ l_19, encL (Ty.l (putT l_5 (Ty.mk (Ty.kind (putT l_4 (Ty.mk (Ty.kind t) (Ty.n t) (Ty.nl t) l))) (Ty.n (putT l_4 (Ty.mk (Ty.kind t) (Ty.n t) (Ty.nl t) l))) (Ty.nl (putT l_4 (Ty.mk (Ty.kind t) (Ty.n t) (Ty.nl t) l))) l_6))) = encL l_19 ∧ (cnt (Ty.mk (Ty.kind (putT l_10 (Ty.mk (Ty.kind t) (Ty.n t) (Ty.nl t) l_11))) (Ty.n (putT l_10 (Ty.mk (Ty.kind t) (Ty.n t) (Ty.nl t) l_11))) (Ty.nl (putT l_10 (Ty.mk (Ty.kind t) (Ty.n t) (Ty.nl t) l_11))) l_18) ≤ 1000 ∧ cnt (Ty.mk (Ty.kind (putT l_5 (Ty.mk (Ty.kind (putT l_4
 (Ty.mk (Ty.kind t) (Ty.n t) (Ty.nl t) l))) (Ty.n (putT l_4 (Ty.mk (Ty.kind t) (Ty.n t) (Ty.nl t) l))) (Ty.nl (putT l_4 (Ty.mk (Ty.kind t) (Ty.n t) (Ty.nl t) l))) l_6))) (Ty.n (putT l_5 (Ty.mk (Ty.kind (putT l_4 (Ty.mk (Ty.kind t) (Ty.n t) (Ty.nl t) l))) (Ty.n (putT l_4 (Ty.mk (Ty.kind t) (Ty.n t) (Ty.nl t) l))) (Ty.nl (putT l_4 (Ty.mk (Ty.kind t) (Ty.n t) (Ty.nl t) l))) l_6))) (Ty.nl (putT l_5 (Ty.mk (Ty.kind (putT l_4 (Ty.mk (Ty.kind t) (Ty.n t) (Ty.nl t) l))) (Ty.n (putT l_4 (Ty.mk (Ty.kind t) (Ty.n t) (Ty.nl t) l))) (Ty.nl (putT l_4 (Ty.mk (Ty.kind t) (Ty.n t) (Ty.nl t) l))) l_6))) l_19) ≤
 1000) ∧ bothR (sameB (Ty.mk (Ty.kind (putT l_10 (Ty.mk (Ty.kind t) (Ty.n t) (Ty.nl t) l_11))) (Ty.n (putT l_10 (Ty.mk (Ty.kind t) (Ty.n t) (Ty.nl t) l_11))) (Ty.nl (putT l_10 (Ty.mk (Ty.kind t) (Ty.n t) (Ty.nl t) l_11))) l_18) (Ty.mk (Ty.kind (putT l_5 (Ty.mk (Ty.kind (putT l_4 (Ty.mk (Ty.kind t) (Ty.n t) (Ty.nl t) l))) (Ty.n (putT l_4 (Ty.mk (Ty.kind t) (Ty.n t) (Ty.nl t) l))) (Ty.nl (putT l_4 (Ty.mk (Ty.kind t) (Ty.n t) (Ty.nl t) l))) l_6))) (Ty.n (putT l_5 (Ty.mk (Ty.kind (putT l_4 (Ty.mk (Ty.kind t) (Ty.n t) (Ty.nl t) l))) (Ty.n (putT l_4 (Ty.mk (Ty.kind t) (Ty.n t) (Ty.nl t) l))) (Ty.nl
 (putT l_4 (Ty.mk (Ty.kind t) (Ty.n t) (Ty.nl t) l))) l_6))) (Ty.nl (putT l_5 (Ty.mk (Ty.kind (putT l_4 (Ty.mk (Ty.kind t) (Ty.n t) (Ty.nl t) l))) (Ty.n (putT l_4 (Ty.mk (Ty.kind t) (Ty.n t) (Ty.nl t) l))) (Ty.nl (putT l_4 (Ty.mk (Ty.kind t) (Ty.n t) (Ty.nl t) l))) l_6))) l_19)) (bothR (decide (cmN (Ty.mk (Ty.kind t) (Ty.n t) (Ty.nl t) l_12) (Ty.mk (Ty.kind (putT l_5 (Ty.mk (Ty.kind (putT l_4 (Ty.mk (Ty.kind t) (Ty.n t) (Ty.nl t) l))) (Ty.n (putT l_4 (Ty.mk (Ty.kind t) (Ty.n t) (Ty.nl t) l))) (Ty.nl (putT l_4 (Ty.mk (Ty.kind t) (Ty.n t) (Ty.nl t) l))) l_6))) (Ty.n (putT l_5 (Ty.mk (Ty.kind
 (putT l_4 (Ty.mk (Ty.kind t) (Ty.n t) (Ty.nl t) l))) (Ty.n (putT l_4 (Ty.mk (Ty.kind t) (Ty.n t) (Ty.nl t) l))) (Ty.nl (putT l_4 (Ty.mk (Ty.kind t) (Ty.n t) (Ty.nl t) l))) l_6))) (Ty.nl (putT l_5 (Ty.mk (Ty.kind (putT l_4 (Ty.mk (Ty.kind t) (Ty.n t) (Ty.nl t) l))) (Ty.n (putT l_4 (Ty.mk (Ty.kind t) (Ty.n t) (Ty.nl t) l))) (Ty.nl (putT l_4 (Ty.mk (Ty.kind t) (Ty.n t) (Ty.nl t) l))) l_6))) l_13) = (0 : Int))) (bothR (decide (errF (Ty.mk (Ty.kind t) (Ty.n t) (Ty.nl t) l_14) = (0 : Int))) (∃ l_20, encL (Ty.l (cmV (Ty.mk (Ty.kind t) (Ty.n t) (Ty.nl t) l_12) (Ty.mk (Ty.kind (putT l_5 (Ty.mk
 (Ty.kind (putT l_4 (Ty.mk (Ty.kind t) (Ty.n t) (Ty.nl t) l))) (Ty.n (putT l_4 (Ty.mk (Ty.kind t) (Ty.n t) (Ty.nl t) l))) (Ty.nl (putT l_4 (Ty.mk (Ty.kind t) (Ty.n t) (Ty.nl t) l))) l_6))) (Ty.n (putT l_5 (Ty.mk (Ty.kind (putT l_4 (Ty.mk (Ty.kind t) (Ty.n t) (Ty.nl t) l))) (Ty.n (putT l_4 (Ty.mk (Ty.kind t) (Ty.n t) (Ty.nl t) l))) (Ty.nl (putT l_4 (Ty.mk (Ty.kind t) (Ty.n t) (Ty.nl t) l))) l_6))) (Ty.nl (putT l_5 (Ty.mk (Ty.kind (putT l_4 (Ty.mk (Ty.kind t) (Ty.n t) (Ty.nl t) l))) (Ty.n (putT l_4 (Ty.mk (Ty.kind t) (Ty.n t) (Ty.nl t) l))) (Ty.nl (putT l_4 (Ty.mk (Ty.kind t) (Ty.n t)
 (Ty.nl t) l))) l_6))) l_13))) = encL l_20 ∧ ∃ l_21, encL (Ty.l (numF (Ty.mk (Ty.kind t) (Ty.n t) (Ty.nl t) l_14))) = encL l_21 ∧ (cnt (Ty.mk (Ty.kind (cmV (Ty.mk (Ty.kind t) (Ty.n t) (Ty.nl t) l_12) (Ty.mk (Ty.kind (putT l_5 (Ty.mk (Ty.kind (putT l_4 (Ty.mk (Ty.kind t) (Ty.n t) (Ty.nl t) l))) (Ty.n (putT l_4 (Ty.mk (Ty.kind t) (Ty.n t) (Ty.nl t) l))) (Ty.nl (putT l_4 (Ty.mk (Ty.kind t) (Ty.n t) (Ty.nl t) l))) l_6))) (Ty.n (putT l_5 (Ty.mk (Ty.kind (putT l_4 (Ty.mk (Ty.kind t) (Ty.n t) (Ty.nl t) l))) (Ty.n (putT l_4 (Ty.mk (Ty.kind t) (Ty.n t) (Ty.nl t) l))) (Ty.nl (putT l_4 (Ty.mk (Ty.kind t)
 (Ty.n t) (Ty.nl t) l))) l_6))) (Ty.nl (putT l_5 (Ty.mk (Ty.kind (putT l_4 (Ty.mk (Ty.kind t) (Ty.n t) (Ty.nl t) l))) (Ty.n (putT l_4 (Ty.mk (Ty.kind t) (Ty.n t) (Ty.nl t) l))) (Ty.nl (putT l_4 (Ty.mk (Ty.kind t) (Ty.n t) (Ty.nl t) l))) l_6))) l_13))) (Ty.n (cmV (Ty.mk (Ty.kind t) (Ty.n t) (Ty.nl t) l_12) (Ty.mk (Ty.kind (putT l_5 (Ty.mk (Ty.kind (putT l_4 (Ty.mk (Ty.kind t) (Ty.n t) (Ty.nl t) l))) (Ty.n (putT l_4 (Ty.mk (Ty.kind t) (Ty.n t) (Ty.nl t) l))) (Ty.nl (putT l_4 (Ty.mk (Ty.kind t) (Ty.n t) (Ty.nl t) l))) l_6))) (Ty.n (putT l_5 (Ty.mk (Ty.kind (putT l_4 (Ty.mk (Ty.kind t) (Ty.n t)
 (Ty.nl t) l))) (Ty.n (putT l_4 (Ty.mk (Ty.kind t) (Ty.n t) (Ty.nl t) l))) (Ty.nl (putT l_4 (Ty.mk (Ty.kind t) (Ty.n t) (Ty.nl t) l))) l_6))) (Ty.nl (putT l_5 (Ty.mk (Ty.kind (putT l_4 (Ty.mk (Ty.kind t) (Ty.n t) (Ty.nl t) l))) (Ty.n (putT l_4 (Ty.mk (Ty.kind t) (Ty.n t) (Ty.nl t) l))) (Ty.nl (putT l_4 (Ty.mk (Ty.kind t) (Ty.n t) (Ty.nl t) l))) l_6))) l_13))) (Ty.nl (cmV (Ty.mk (Ty.kind t) (Ty.n t) (Ty.nl t) l_12) (Ty.mk (Ty.kind (putT l_5 (Ty.mk (Ty.kind (putT l_4 (Ty.mk (Ty.kind t) (Ty.n t) (Ty.nl t) l))) (Ty.n (putT l_4 (Ty.mk (Ty.kind t) (Ty.n t) (Ty.nl t) l))) (Ty.nl (putT l_4
 (Ty.mk (Ty.kind t) (Ty.n t) (Ty.nl t) l))) l_6))) (Ty.n (putT l_5 (Ty.mk (Ty.kind (putT l_4 (Ty.mk (Ty.kind t) (Ty.n t) (Ty.nl t) l))) (Ty.n (putT l_4 (Ty.mk (Ty.kind t) (Ty.n t) (Ty.nl t) l))) (Ty.nl (putT l_4 (Ty.mk (Ty.kind t) (Ty.n t) (Ty.nl t) l))) l_6))) (Ty.nl (putT l_5 (Ty.mk (Ty.kind (putT l_4 (Ty.mk (Ty.kind t) (Ty.n t) (Ty.nl t) l))) (Ty.n (putT l_4 (Ty.mk (Ty.kind t) (Ty.n t) (Ty.nl t) l))) (Ty.nl (putT l_4 (Ty.mk (Ty.kind t) (Ty.n t) (Ty.nl t) l))) l_6))) l_13))) l_20) ≤ 1000 ∧ cnt (Ty.mk (Ty.kind (numF (Ty.mk (Ty.kind t) (Ty.n t) (Ty.nl t) l_14))) (Ty.n (numF
 (Ty.mk (Ty.kind t) (Ty.n t) (Ty.nl t) l_14))) (Ty.nl (numF (Ty.mk (Ty.kind t) (Ty.n t) (Ty.nl t) l_14))) l_21) ≤ 1000) ∧ bothR (sameB (Ty.mk (Ty.kind (cmV (Ty.mk (Ty.kind t) (Ty.n t) (Ty.nl t) l_12) (Ty.mk (Ty.kind (putT l_5 (Ty.mk (Ty.kind (putT l_4 (Ty.mk (Ty.kind t) (Ty.n t) (Ty.nl t) l))) (Ty.n (putT l_4 (Ty.mk (Ty.kind t) (Ty.n t) (Ty.nl t) l))) (Ty.nl (putT l_4 (Ty.mk (Ty.kind t) (Ty.n t) (Ty.nl t) l))) l_6))) (Ty.n (putT l_5 (Ty.mk (Ty.kind (putT l_4 (Ty.mk (Ty.kind t) (Ty.n t) (Ty.nl t) l))) (Ty.n (putT l_4 (Ty.mk (Ty.kind t) (Ty.n t) (Ty.nl t) l))) (Ty.nl (putT l_4 (Ty.mk (Ty.kind t)
 (Ty.n t) (Ty.nl t) l))) l_6))) (Ty.nl (putT l_5 (Ty.mk (Ty.kind (putT l_4 (Ty.mk (Ty.kind t) (Ty.n t) (Ty.nl t) l))) (Ty.n (putT l_4 (Ty.mk (Ty.kind t) (Ty.n t) (Ty.nl t) l))) (Ty.nl (putT l_4 (Ty.mk (Ty.kind t) (Ty.n t) (Ty.nl t) l))) l_6))) l_13))) (Ty.n (cmV (Ty.mk (Ty.kind t) (Ty.n t) (Ty.nl t) l_12) (Ty.mk (Ty.kind (putT l_5 (Ty.mk (Ty.kind (putT l_4 (Ty.mk (Ty.kind t) (Ty.n t) (Ty.nl t) l))) (Ty.n (putT l_4 (Ty.mk (Ty.kind t) (Ty.n t) (Ty.nl t) l))) (Ty.nl (putT l_4 (Ty.mk (Ty.kind t) (Ty.n t) (Ty.nl t) l))) l_6))) (Ty.n (putT l_5 (Ty.mk (Ty.kind (putT l_4 (Ty.mk (Ty.kind t)
 (Ty.n t) (Ty.nl t) l))) (Ty.n (putT l_4 (Ty.mk (Ty.kind t) (Ty.n t) (Ty.nl t) l))) (Ty.nl (putT l_4 (Ty.mk (Ty.kind t) (Ty.n t) (Ty.nl t) l))) l_6))) (Ty.nl (putT l_5 (Ty.mk (Ty.kind (putT l_4 (Ty.mk (Ty.kind t) (Ty.n t) (Ty.nl t) l))) (Ty.n (putT l_4 (Ty.mk (Ty.kind t) (Ty.n t) (Ty.nl t) l))) (Ty.nl (putT l_4 (Ty.mk (Ty.kind t) (Ty.n t) (Ty.nl t) l))) l_6))) l_13))) (Ty.nl (cmV (Ty.mk (Ty.kind t) (Ty.n t) (Ty.nl t) l_12) (Ty.mk (Ty.kind (putT l_5 (Ty.mk (Ty.kind (putT l_4 (Ty.mk (Ty.kind t) (Ty.n t) (Ty.nl t) l))) (Ty.n (putT l_4 (Ty.mk (Ty.kind t) (Ty.n t) (Ty.nl t) l))) (Ty.nl (putT l_4
 (Ty.mk (Ty.kind t) (Ty.n t) (Ty.nl t) l))) l_6))) (Ty.n (putT l_5 (Ty.mk (Ty.kind (putT l_4 (Ty.mk (Ty.kind t) (Ty.n t) (Ty.nl t) l))) (Ty.n (putT l_4 (Ty.mk (Ty.kind t) (Ty.n t) (Ty.nl t) l))) (Ty.nl (putT l_4 (Ty.mk (Ty.kind t) (Ty.n t) (Ty.nl t) l))) l_6))) (Ty.nl (putT l_5 (Ty.mk (Ty.kind (putT l_4 (Ty.mk (Ty.kind t) (Ty.n t) (Ty.nl t) l))) (Ty.n (putT l_4 (Ty.mk (Ty.kind t) (Ty.n t) (Ty.nl t) l))) (Ty.nl (putT l_4 (Ty.mk (Ty.kind t) (Ty.n t) (Ty.nl t) l))) l_6))) l_13))) l_20) (Ty.mk (Ty.kind (numF (Ty.mk (Ty.kind t) (Ty.n t) (Ty.nl t) l_14))) (Ty.n (numF (Ty.mk (Ty.kind t) (Ty.n t)
 (Ty.nl t) l_14))) (Ty.nl (numF (Ty.mk (Ty.kind t) (Ty.n t) (Ty.nl t) l_14))) l_21)) (bothR (decide (errF (Ty.mk (Ty.kind (putT l_5 (Ty.mk (Ty.kind (putT l_4 (Ty.mk (Ty.kind t) (Ty.n t) (Ty.nl t) l))) (Ty.n (putT l_4 (Ty.mk (Ty.kind t) (Ty.n t) (Ty.nl t) l))) (Ty.nl (putT l_4 (Ty.mk (Ty.kind t) (Ty.n t) (Ty.nl t) l))) l_6))) (Ty.n (putT l_5 (Ty.mk (Ty.kind (putT l_4 (Ty.mk (Ty.kind t) (Ty.n t) (Ty.nl t) l))) (Ty.n (putT l_4 (Ty.mk (Ty.kind t) (Ty.n t) (Ty.nl t) l))) (Ty.nl (putT l_4 (Ty.mk (Ty.kind t) (Ty.n t) (Ty.nl t) l))) l_6))) (Ty.nl (putT l_5 (Ty.mk (Ty.kind (putT l_4 (Ty.mk (Ty.kind t)
 (Ty.n t) (Ty.nl t) l))) (Ty.n (putT l_4 (Ty.mk (Ty.kind t) (Ty.n t) (Ty.nl t) l))) (Ty.nl (putT l_4 (Ty.mk (Ty.kind t) (Ty.n t) (Ty.nl t) l))) l_6))) l_15) = (0 : Int))) (bothR (!decide (mtN (Ty.mk (Ty.kind (putT l_5 (Ty.mk (Ty.kind (putT l_4 (Ty.mk (Ty.kind t) (Ty.n t) (Ty.nl t) l))) (Ty.n (putT l_4 (Ty.mk (Ty.kind t) (Ty.n t) (Ty.nl t) l))) (Ty.nl (putT l_4 (Ty.mk (Ty.kind t) (Ty.n t) (Ty.nl t) l))) l_6))) (Ty.n (putT l_5 (Ty.mk (Ty.kind (putT l_4 (Ty.mk (Ty.kind t) (Ty.n t) (Ty.nl t) l))) (Ty.n (putT l_4 (Ty.mk (Ty.kind t) (Ty.n t) (Ty.nl t) l))) (Ty.nl (putT l_4 (Ty.mk (Ty.kind t)
 (Ty.n t) (Ty.nl t) l))) l_6))) (Ty.nl (putT l_5 (Ty.mk (Ty.kind (putT l_4 (Ty.mk (Ty.kind t) (Ty.n t) (Ty.nl t) l))) (Ty.n (putT l_4 (Ty.mk (Ty.kind t) (Ty.n t) (Ty.nl t) l))) (Ty.nl (putT l_4 (Ty.mk (Ty.kind t) (Ty.n t) (Ty.nl t) l))) l_6))) l_16) (Ty.mk (Ty.kind t) (Ty.n t) (Ty.nl t) l_17) = (0 : Int))) (bool true = bool true) (∃ l_22, encL (Ty.l (numF (Ty.mk (Ty.kind (putT l_5 (Ty.mk (Ty.kind (putT l_4 (Ty.mk (Ty.kind t) (Ty.n t) (Ty.nl t) l))) (Ty.n (putT l_4 (Ty.mk (Ty.kind t) (Ty.n t) (Ty.nl t) l))) (Ty.nl (putT l_4 (Ty.mk (Ty.kind t) (Ty.n t) (Ty.nl t) l))) l_6))) (Ty.n (putT l_5
 (Ty.mk (Ty.kind (putT l_4 (Ty.mk (Ty.kind t) (Ty.n t) (Ty.nl t) l))) (Ty.n (putT l_4 (Ty.mk (Ty.kind t) (Ty.n t) (Ty.nl t) l))) (Ty.nl (putT l_4 (Ty.mk (Ty.kind t) (Ty.n t) (Ty.nl t) l))) l_6))) (Ty.nl (putT l_5 (Ty.mk (Ty.kind (putT l_4 (Ty.mk (Ty.kind t) (Ty.n t) (Ty.nl t) l))) (Ty.n (putT l_4 (Ty.mk (Ty.kind t) (Ty.n t) (Ty.nl t) l))) (Ty.nl (putT l_4 (Ty.mk (Ty.kind t) (Ty.n t) (Ty.nl t) l))) l_6))) l_15))) = encL l_22 ∧ ∃ l_23, encL (Ty.l (numF (Ty.mk (Ty.kind t) (Ty.n t) (Ty.nl t) l_14))) = encL l_23 ∧ (cnt (Ty.mk (Ty.kind (numF (Ty.mk (Ty.kind (putT l_5 (Ty.mk (Ty.kind (putT l_4 (Ty.mk
 (Ty.kind t) (Ty.n t) (Ty.nl t) l))) (Ty.n (putT l_4 (Ty.mk (Ty.kind t) (Ty.n t) (Ty.nl t) l))) (Ty.nl (putT l_4 (Ty.mk (Ty.kind t) (Ty.n t) (Ty.nl t) l))) l_6))) (Ty.n (putT l_5 (Ty.mk (Ty.kind (putT l_4 (Ty.mk (Ty.kind t) (Ty.n t) (Ty.nl t) l))) (Ty.n (putT l_4 (Ty.mk (Ty.kind t) (Ty.n t) (Ty.nl t) l))) (Ty.nl (putT l_4 (Ty.mk (Ty.kind t) (Ty.n t) (Ty.nl t) l))) l_6))) (Ty.nl (putT l_5 (Ty.mk (Ty.kind (putT l_4 (Ty.mk (Ty.kind t) (Ty.n t) (Ty.nl t) l))) (Ty.n (putT l_4 (Ty.mk (Ty.kind t) (Ty.n t) (Ty.nl t) l))) (Ty.nl (putT l_4 (Ty.mk (Ty.kind t) (Ty.n t) (Ty.nl t) l))) l_6))) l_15))) (Ty.n
 (numF (Ty.mk (Ty.kind (putT l_5 (Ty.mk (Ty.kind (putT l_4 (Ty.mk (Ty.kind t) (Ty.n t) (Ty.nl t) l))) (Ty.n (putT l_4 (Ty.mk (Ty.kind t) (Ty.n t) (Ty.nl t) l))) (Ty.nl (putT l_4 (Ty.mk (Ty.kind t) (Ty.n t) (Ty.nl t) l))) l_6))) (Ty.n (putT l_5 (Ty.mk (Ty.kind (putT l_4 (Ty.mk (Ty.kind t) (Ty.n t) (Ty.nl t) l))) (Ty.n (putT l_4 (Ty.mk (Ty.kind t) (Ty.n t) (Ty.nl t) l))) (Ty.nl (putT l_4 (Ty.mk (Ty.kind t) (Ty.n t) (Ty.nl t) l))) l_6))) (Ty.nl (putT l_5 (Ty.mk (Ty.kind (putT l_4 (Ty.mk (Ty.kind t) (Ty.n t) (Ty.nl t) l))) (Ty.n (putT l_4 (Ty.mk (Ty.kind t) (Ty.n t) (Ty.nl t) l))) (Ty.nl (putT l_4
 (Ty.mk (Ty.kind t) (Ty.n t) (Ty.nl t) l))) l_6))) l_15))) (Ty.nl (numF (Ty.mk (Ty.kind (putT l_5 (Ty.mk (Ty.kind (putT l_4 (Ty.mk (Ty.kind t) (Ty.n t) (Ty.nl t) l))) (Ty.n (putT l_4 (Ty.mk (Ty.kind t) (Ty.n t) (Ty.nl t) l))) (Ty.nl (putT l_4 (Ty.mk (Ty.kind t) (Ty.n t) (Ty.nl t) l))) l_6))) (Ty.n (putT l_5 (Ty.mk (Ty.kind (putT l_4 (Ty.mk (Ty.kind t) (Ty.n t) (Ty.nl t) l))) (Ty.n (putT l_4 (Ty.mk (Ty.kind t) (Ty.n t) (Ty.nl t) l))) (Ty.nl (putT l_4 (Ty.mk (Ty.kind t) (Ty.n t) (Ty.nl t) l))) l_6))) (Ty.nl (putT l_5 (Ty.mk (Ty.kind (putT l_4 (Ty.mk (Ty.kind t) (Ty.n t) (Ty.nl t) l))) (Ty.n
 (putT l_4 (Ty.mk (Ty.kind t) (Ty.n t) (Ty.nl t) l))) (Ty.nl (putT l_4 (Ty.mk (Ty.kind t) (Ty.n t) (Ty.nl t) l))) l_6))) l_15))) l_22) ≤ 1000 ∧ cnt (Ty.mk (Ty.kind (numF (Ty.mk (Ty.kind t) (Ty.n t) (Ty.nl t) l_14))) (Ty.n (numF (Ty.mk (Ty.kind t) (Ty.n t) (Ty.nl t) l_14))) (Ty.nl (numF (Ty.mk (Ty.kind t) (Ty.n t) (Ty.nl t) l_14))) l_23) ≤ 1000) ∧ bothR (sameB (Ty.mk (Ty.kind (numF (Ty.mk (Ty.kind (putT l_5 (Ty.mk (Ty.kind (putT l_4 (Ty.mk (Ty.kind t) (Ty.n t) (Ty.nl t) l))) (Ty.n (putT l_4 (Ty.mk (Ty.kind t) (Ty.n t) (Ty.nl t) l))) (Ty.nl (putT l_4 (Ty.mk (Ty.kind t) (Ty.n t) (Ty.nl t) l)))
 l_6))) (Ty.n (putT l_5 (Ty.mk (Ty.kind (putT l_4 (Ty.mk (Ty.kind t) (Ty.n t) (Ty.nl t) l))) (Ty.n (putT l_4 (Ty.mk (Ty.kind t) (Ty.n t) (Ty.nl t) l))) (Ty.nl (putT l_4 (Ty.mk (Ty.kind t) (Ty.n t) (Ty.nl t) l))) l_6))) (Ty.nl (putT l_5 (Ty.mk (Ty.kind (putT l_4 (Ty.mk (Ty.kind t) (Ty.n t) (Ty.nl t) l))) (Ty.n (putT l_4 (Ty.mk (Ty.kind t) (Ty.n t) (Ty.nl t) l))) (Ty.nl (putT l_4 (Ty.mk (Ty.kind t) (Ty.n t) (Ty.nl t) l))) l_6))) l_15))) (Ty.n (numF (Ty.mk (Ty.kind (putT l_5 (Ty.mk (Ty.kind (putT l_4 (Ty.mk (Ty.kind t) (Ty.n t) (Ty.nl t) l))) (Ty.n (putT l_4 (Ty.mk (Ty.kind t) (Ty.n t) (Ty.nl t)
 l))) (Ty.nl (putT l_4 (Ty.mk (Ty.kind t) (Ty.n t) (Ty.nl t) l))) l_6))) (Ty.n (putT l_5 (Ty.mk (Ty.kind (putT l_4 (Ty.mk (Ty.kind t) (Ty.n t) (Ty.nl t) l))) (Ty.n (putT l_4 (Ty.mk (Ty.kind t) (Ty.n t) (Ty.nl t) l))) (Ty.nl (putT l_4 (Ty.mk (Ty.kind t) (Ty.n t) (Ty.nl t) l))) l_6))) (Ty.nl (putT l_5 (Ty.mk (Ty.kind (putT l_4 (Ty.mk (Ty.kind t) (Ty.n t) (Ty.nl t) l))) (Ty.n (putT l_4 (Ty.mk (Ty.kind t) (Ty.n t) (Ty.nl t) l))) (Ty.nl (putT l_4 (Ty.mk (Ty.kind t) (Ty.n t) (Ty.nl t) l))) l_6))) l_15))) (Ty.nl (numF (Ty.mk (Ty.kind (putT l_5 (Ty.mk (Ty.kind (putT l_4 (Ty.mk (Ty.kind t) (Ty.n t)
 (Ty.nl t) l))) (Ty.n (putT l_4 (Ty.mk (Ty.kind t) (Ty.n t) (Ty.nl t) l))) (Ty.nl (putT l_4 (Ty.mk (Ty.kind t) (Ty.n t) (Ty.nl t) l))) l_6))) (Ty.n (putT l_5 (Ty.mk (Ty.kind (putT l_4 (Ty.mk (Ty.kind t) (Ty.n t) (Ty.nl t) l))) (Ty.n (putT l_4 (Ty.mk (Ty.kind t) (Ty.n t) (Ty.nl t) l))) (Ty.nl (putT l_4 (Ty.mk (Ty.kind t) (Ty.n t) (Ty.nl t) l))) l_6))) (Ty.nl (putT l_5 (Ty.mk (Ty.kind (putT l_4 (Ty.mk (Ty.kind t) (Ty.n t) (Ty.nl t) l))) (Ty.n (putT l_4 (Ty.mk (Ty.kind t) (Ty.n t) (Ty.nl t) l))) (Ty.nl (putT l_4 (Ty.mk (Ty.kind t) (Ty.n t) (Ty.nl t) l))) l_6))) l_15))) l_22) (Ty.mk (Ty.kind (numF
 (Ty.mk (Ty.kind t) (Ty.n t) (Ty.nl t) l_14))) (Ty.n (numF (Ty.mk (Ty.kind t) (Ty.n t) (Ty.nl t) l_14))) (Ty.nl (numF (Ty.mk (Ty.kind t) (Ty.n t) (Ty.nl t) l_14))) l_23)) (bool true = bool true) (bool false = bool true))) (bool false = bool true)) (bool false = bool true)) (bool false = bool true)) (bool false = bool true)) (bool false = bool true)) (bool false = bool true)) (bool false = bool true)) (bool false = bool true)))))))) := by kernel_rfl
end Go.Proofs.YtnmolpkkemljoaaGreatDoor
end
end
section
set_option maxRecDepth 100000
set_option linter.unusedSimpArgs false
set_option linter.unusedVariables false
noncomputable section
namespace Go.Proofs.YtnmolpkkemljoaaGreatDoor
open Go Go.Am Kd
theorem mm_hook : QSpec.Ok Tryz.prog gT 18 mmQ := by
 intro args K h'
 unfold mmQ at h'
 split at h'
 ·obtain ⟨t, rfl, g1⟩ := argTy_elim h'
  obtain ⟨u, rfl, g2, g3⟩ := argTy_elim g1
  exact ⟨_, (match_ok t u g2.1 g2.2).lift, g3⟩
 ·exact h'.elim
theorem cc_hook : QSpec.Ok Tryz.prog gT 20 ccQ := by
 intro args K h'
 unfold ccQ at h'
 split at h'
 ·obtain ⟨t, rfl, g1⟩ := argTy_elim h'
  obtain ⟨u, rfl, g2, g3⟩ := argTy_elim g1
  exact ⟨_, common_ok t u g2.1 g2.2, g3⟩
 ·exact h'.elim
structure InstF (t bb : Ty) : Prop where
 m0 : mtN t bb = 0
 len : (mtU t bb).length ≤ 2000
 all : allC (mtU t bb)
 lens : iC (mtU t bb).length = iC (vlF t).length
 vt : errF t = 0
 p0 : putE (mtU t bb) t = 0
 sm : sameB (putT (mtU t bb) t) bb = true
 c0 : cmN t bb = 0
 cc : cnt (cmV t bb) ≤ 1000
 cn : cnt (numF t) ≤ 1000
 cb : cnt (numF bb) ≤ 1000
 scn : sameB (cmV t bb) (numF t) = true
 vb : errF bb = 0
 back : mtN bb t = 0 → sameB (numF bb) (numF t) = true
theorem insts_ok (law : ∀ (t : Ty) (l m : List (Int × Ty)), putE l t = 0 → putE m (putT l t) = 0 → InstF t (putT m (putT l t))) (t : Ty) (b c : Bool) (l m : List (Int × Ty)) (hl : l.length ≤ 9223372036854775807) (hm : m.length ≤ 9223372036854775807) : QT 12 [enc t, .isl b none 0 (encB l), .isl c none 0 (encB m)] (.bool true) := by
 have hst : (enc t).still = true := enc_still t
 have hh : Hooks.Ok Tryz.prog gT instHk := mkHooks_ok (all_cons (great_hook.lift.weak 3) (all_cons closed.alive_hook.lift (all_cons many_hook.lift (all_cons kp_hook.lift (all_cons kv_hook (all_cons kn_hook (all_cons mm_hook (all_cons cc_hook (all_cons sme_hook all_nil))))))))) all_nil all_nil
 rw [enc_D]
 refine QuietJ.ret (P := Tryz.prog) (G := gT) (f := 12) 5 (by rw [← enc_D]; simp [AV.stillL, AV.still, hst, encB_still]) rfl (FuncJ.run (el := els) (mu := mu0) (hk := instHk) hmix hh (n := 120) ?_)
 show runT instHk 120 12 _ AH.nil _
 rw [inst_top]
 simp only [ex_enc, Ty.eta, eq_self, ex_encB]
 refine bothR_bool (fun _ => trivial) fun hg => ⟨hl, bothR_bool (fun _ => trivial) fun hm1 => ⟨hm, bothR_bool (fun _ => trivial) fun hm2 => ?_⟩⟩
 have hc : cnt t ≤ 1000 := by have := great_cnt hg; omega
 obtain ⟨h1, h2⟩ := many_all hm1
 obtain ⟨h3, h4⟩ := many_all hm2
 have hp := put_cnt l t
 refine ⟨⟨hc, h1, h2⟩, bothR_ndec (fun _ => trivial) fun e1 => ⟨⟨hp, h3, h4⟩, bothR_ndec (fun _ => trivial) fun e2 => ?_⟩⟩
 have F := law t l m e1 e2
 have hp2 := put_cnt m (putT l t)
 generalize putT m (putT l t) = bb at *
 have hp3 := put_cnt (mtU t bb) t
 obtain ⟨f1, f2, f3, f4, f5, f6, f7, f8, f9, f10, f11, f12, f13, f14⟩ := F
 have f4' : (encB (mtU t bb)).length = (Kd.encZ (vlF t)).length := by
  simp only [iC] at f4
  rw [encB_length, encZ_length]; omega
 simp only [f1, f2, f3, f4', f5, f6, f7, f8, f9, f10, f11, f12, f13, hc, hp2, hp3, decide_true, Bool.not_true, bothR, and_self, true_and]
 cases hb : decide (mtN bb t = 0) with
 | false => trivial
 | true =>
  simp only [Bool.not_true]
  rw [f14 (of_decide_eq_true hb)]
  trivial
end Go.Proofs.YtnmolpkkemljoaaGreatDoor
end
end
section
set_option maxRecDepth 100000
set_option linter.unusedSimpArgs false
set_option linter.unusedVariables false
namespace Kd
open Go.Am Go.Proofs.YtnmolpkkemljoaaGreatDoor
mutual
def allV (p : Int → Prop) : Ty → Prop
 | .mk k n _ l => (k = 6 → p n) ∧ allVL p l
def allVL (p : Int → Prop) : List Ty → Prop
 | [] => True
 | x :: xs => allV p x ∧ allVL p xs
end
theorem allV_imp {p q : Int → Prop} (h : ∀ n, p n → q n) : (∀ t, allV p t → allV q t) ∧ ∀ l, allVL p l → allVL q l := by
 have key : ∀ (N : Nat), (∀ t, SizeOf.sizeOf t < N → allV p t → allV q t) ∧ ∀ l, SizeOf.sizeOf l < N → allVL p l → allVL q l := by
  intro N
  induction N with
  | zero => exact ⟨fun _ h => by omega, fun _ h => by omega⟩
  | succ N ih =>
   obtain ⟨ih1, ih2⟩ := ih
   constructor
   ·intro t ht ha
    cases t with
    | mk k n b l =>
     simp only [Ty.mk.sizeOf_spec] at ht
     simp only [allV] at ha ⊢
     exact ⟨fun hk => h n (ha.1 hk), ih2 l (by omega) ha.2⟩
   ·intro l hl ha
    cases l with
    | nil => trivial
    | cons x xs =>
     simp only [List.cons.sizeOf_spec] at hl
     simp only [allVL] at ha ⊢
     exact ⟨ih1 x (by omega) ha.1, ih2 xs (by omega) ha.2⟩
 exact ⟨fun t => (key (SizeOf.sizeOf t + 1)).1 t (by omega), fun l => (key (SizeOf.sizeOf l + 1)).2 l (by omega)⟩
theorem okT_range : ∀ t, okT t = true → allV (fun n => 0 ≤ n ∧ n < 1000) t := by
 have key : ∀ (N : Nat), (∀ t, SizeOf.sizeOf t < N → okT t = true → allV (fun n => 0 ≤ n ∧ n < 1000) t) ∧ ∀ l, SizeOf.sizeOf l < N → okL l = true → allVL (fun n => 0 ≤ n ∧ n < 1000) l := by
  intro N
  induction N with
  | zero => exact ⟨fun _ h => by omega, fun _ h => by omega⟩
  | succ N ih =>
   obtain ⟨ih1, ih2⟩ := ih
   constructor
   ·intro t ht h
    cases t with
    | mk k n b l =>
     simp only [Ty.mk.sizeOf_spec] at ht
     obtain ⟨h1, h2⟩ := ok_node h
     simp only [NodeOk] at h1
     simp only [allV]
     exact ⟨h1.2.2.2.2.2, ih2 l (by omega) h2⟩
   ·intro l hl h
    cases l with
    | nil => trivial
    | cons x xs =>
     simp only [List.cons.sizeOf_spec] at hl
     simp only [okL, Bool.and_eq_true] at h
     simp only [allVL]
     exact ⟨ih1 x (by omega) h.1, ih2 xs (by omega) h.2⟩
 exact fun t => (key (SizeOf.sizeOf t + 1)).1 t (by omega)
theorem addV_sub {l : List Int} {n m : Int} : m ∈ addV l n ↔ m ∈ l ∨ m = n := by
 unfold addV
 split
 ·rename_i h
  have h : n ∈ l := by simpa using h
  exact ⟨.inl, fun h' => h'.elim id fun e => e ▸ h⟩
 ·simp
theorem first_mem : (∀ (t : Ty) (xs : List Int), (∀ n ∈ xs, n ∈ firstT t xs) ∧ allV (fun n => n ∈ firstT t xs) t) ∧ ∀ (l : List Ty) (xs : List Int), (∀ n ∈ xs, n ∈ firstL l xs) ∧ allVL (fun n => n ∈ firstL l xs) l := by
 have key : ∀ (N : Nat), (∀ (t : Ty) (xs : List Int), SizeOf.sizeOf t < N → (∀ n ∈ xs, n ∈ firstT t xs) ∧ allV (fun n => n ∈ firstT t xs) t) ∧
   ∀ (l : List Ty) (xs : List Int), SizeOf.sizeOf l < N → (∀ n ∈ xs, n ∈ firstL l xs) ∧ allVL (fun n => n ∈ firstL l xs) l := by
  intro N
  induction N with
  | zero => exact ⟨fun _ _ h => by omega, fun _ _ h => by omega⟩
  | succ N ih =>
   obtain ⟨ih1, ih2⟩ := ih
   constructor
   ·intro t xs ht
    cases t with
    | mk k n b l =>
     simp only [Ty.mk.sizeOf_spec] at ht
     obtain ⟨h1, h2⟩ := ih2 l (if k = 6 then addV xs n else xs) (by omega)
     simp only [firstT, allV]
     refine ⟨fun m hm => h1 m ?_, fun hk => h1 n ?_, h2⟩
     ·split
      ·exact addV_sub.2 (.inl hm)
      ·exact hm
     ·rw [if_pos hk]; exact addV_sub.2 (.inr rfl)
   ·intro l xs hl
    cases l with
    | nil => exact ⟨fun n h => h, trivial⟩
    | cons x l =>
     simp only [List.cons.sizeOf_spec] at hl
     obtain ⟨h1, h2⟩ := ih1 x xs (by omega)
     obtain ⟨h3, h4⟩ := ih2 l (firstT x xs) (by omega)
     simp only [firstL, allVL]
     exact ⟨fun n h => h3 n (h1 n h), (allV_imp fun n h => h3 n h).1 x h2, h4⟩
 exact ⟨fun t xs => (key (SizeOf.sizeOf t + 1)).1 t xs (by omega), fun l xs => (key (SizeOf.sizeOf l + 1)).2 l xs (by omega)⟩
theorem vars_all (t : Ty) : allV (fun n => n ∈ varsL t) t := (first_mem.1 t []).2
theorem first_of {p : Int → Prop} : (∀ (t : Ty) (xs : List Int), allV p t → (∀ n ∈ xs, p n) → ∀ n ∈ firstT t xs, p n) ∧ ∀ (l : List Ty) (xs : List Int), allVL p l → (∀ n ∈ xs, p n) → ∀ n ∈ firstL l xs, p n := by
 have key : ∀ (N : Nat), (∀ (t : Ty) (xs : List Int), SizeOf.sizeOf t < N → allV p t → (∀ n ∈ xs, p n) → ∀ n ∈ firstT t xs, p n) ∧
   ∀ (l : List Ty) (xs : List Int), SizeOf.sizeOf l < N → allVL p l → (∀ n ∈ xs, p n) → ∀ n ∈ firstL l xs, p n := by
  intro N
  induction N with
  | zero => exact ⟨fun _ _ h => by omega, fun _ _ h => by omega⟩
  | succ N ih =>
   obtain ⟨ih1, ih2⟩ := ih
   constructor
   ·intro t xs ht ha hx
    cases t with
    | mk k n b l =>
     simp only [Ty.mk.sizeOf_spec] at ht
     simp only [allV] at ha
     simp only [firstT]
     refine ih2 l _ (by omega) ha.2 ?_
     split
     ·rename_i hk
      intro m hm
      rcases addV_sub.1 hm with h | rfl
      ·exact hx m h
      ·exact ha.1 hk
     ·exact hx
   ·intro l xs hl ha hx
    cases l with
    | nil => exact hx
    | cons x l =>
     simp only [List.cons.sizeOf_spec] at hl
     simp only [allVL] at ha
     simp only [firstL]
     exact ih2 l _ (by omega) ha.2 (ih1 x xs (by omega) ha.1 hx)
 exact ⟨fun t xs => (key (SizeOf.sizeOf t + 1)).1 t xs (by omega), fun l xs => (key (SizeOf.sizeOf l + 1)).2 l xs (by omega)⟩
theorem contains_map {p : Int → Prop} {ρ : Int → Int} (hi : ∀ a b, p a → p b → ρ a = ρ b → a = b) {xs : List Int} {n : Int} (hx : ∀ m ∈ xs, p m) (hn : p n) : (xs.map ρ).contains (ρ n) = xs.contains n := by
 rw [Bool.eq_iff_iff]
 simp only [List.contains_iff_mem, List.mem_map]
 exact ⟨fun ⟨m, hm, e⟩ => hi m n (hx m hm) hn e ▸ hm, fun h => ⟨n, h, rfl⟩⟩
theorem addV_map {p : Int → Prop} {ρ : Int → Int} (hi : ∀ a b, p a → p b → ρ a = ρ b → a = b) {xs : List Int} {n : Int} (hx : ∀ m ∈ xs, p m) (hn : p n) : addV (xs.map ρ) (ρ n) = (addV xs n).map ρ := by
 unfold addV
 rw [contains_map hi hx hn]
 split <;> simp
theorem first_ren {p : Int → Prop} {ρ : Int → Int} (hi : ∀ a b, p a → p b → ρ a = ρ b → a = b) {bs : List (Int × Ty)} :
  (∀ (t : Ty) (xs : List Int), okT t = true → allV (fun n => p n ∧ boundO bs n = some (varT (ρ n))) t → (∀ n ∈ xs, p n) → firstT (withT bs t) (xs.map ρ) = (firstT t xs).map ρ) ∧
  ∀ (l : List Ty) (xs : List Int), okL l = true → allVL (fun n => p n ∧ boundO bs n = some (varT (ρ n))) l → (∀ n ∈ xs, p n) → firstL (withL bs l) (xs.map ρ) = (firstL l xs).map ρ := by
 have key : ∀ (N : Nat), (∀ (t : Ty) (xs : List Int), SizeOf.sizeOf t < N → okT t = true → allV (fun n => p n ∧ boundO bs n = some (varT (ρ n))) t → (∀ n ∈ xs, p n) → firstT (withT bs t) (xs.map ρ) = (firstT t xs).map ρ) ∧
   ∀ (l : List Ty) (xs : List Int), SizeOf.sizeOf l < N → okL l = true → allVL (fun n => p n ∧ boundO bs n = some (varT (ρ n))) l → (∀ n ∈ xs, p n) → firstL (withL bs l) (xs.map ρ) = (firstL l xs).map ρ := by
  intro N
  induction N with
  | zero => exact ⟨fun _ _ h => by omega, fun _ _ h => by omega⟩
  | succ N ih =>
   obtain ⟨ih1, ih2⟩ := ih
   constructor
   ·intro t xs ht ho ha hx
    cases t with
    | mk k n b l =>
     simp only [Ty.mk.sizeOf_spec] at ht
     obtain ⟨h1, h2⟩ := ok_node ho
     simp only [allV] at ha
     by_cases hk : k = 6
     ·simp only [NodeOk] at h1
      have hl : l = [] := List.eq_nil_of_length_eq_zero (h1.2.2.1 (.inr (.inr hk)))
      obtain ⟨hp, hb⟩ := ha.1 hk
      subst hl hk
      have e : withT bs (.mk 6 n b []) = varT (ρ n) := by
       simp only [withT, if_true, boundT, hb, Option.getD_some]; rfl
      rw [e]
      simp only [varT, firstT, firstL, if_true]
      exact addV_map hi hx hp
     ·simp only [withT, if_neg hk, firstT]
      exact ih2 l xs (by omega) h2 ha.2 hx
   ·intro l xs hl ho ha hx
    cases l with
    | nil => rfl
    | cons x l =>
     simp only [List.cons.sizeOf_spec] at hl
     simp only [okL, Bool.and_eq_true] at ho
     simp only [allVL] at ha
     simp only [withL, firstL]
     rw [ih1 x xs (by omega) ho.1 ha.1 hx]
     exact ih2 l _ (by omega) ho.2 ha.2 (first_of.1 x xs ((allV_imp fun n h => h.1).1 x ha.1) hx)
 exact ⟨fun t xs => (key (SizeOf.sizeOf t + 1)).1 t xs (by omega), fun l xs => (key (SizeOf.sizeOf l + 1)).2 l xs (by omega)⟩
theorem numB_map {p : Int → Prop} {ρ : Int → Int} (hi : ∀ a b, p a → p b → ρ a = ρ b → a = b) : ∀ (xs : List Int) (n : Int) (i : Nat), (∀ m ∈ xs, p m) → p n → boundO (numB (xs.map ρ) i) (ρ n) = boundO (numB xs i) n
 | [], _, _, _, _ => rfl
 | x :: xs, n, i, hx, hn => by
  simp only [List.map_cons, numB, boundO]
  by_cases h : x = n
  ·subst h; rw [if_pos rfl, if_pos rfl]
  ·rw [if_neg h, if_neg (fun e => h (hi x n (hx x (by simp)) hn e))]
   exact numB_map hi xs n (i + 1) (fun m hm => hx m (by simp [hm])) hn
theorem with_ren {p : Int → Prop} {ρ : Int → Int} (hi : ∀ a b, p a → p b → ρ a = ρ b → a = b) {bs : List (Int × Ty)} {xs : List Int} (hx : ∀ m ∈ xs, p m) :
  (∀ (t : Ty), okT t = true → allV (fun n => (p n ∧ n ∈ xs) ∧ boundO bs n = some (varT (ρ n))) t → withT (numB (xs.map ρ) 0) (withT bs t) = withT (numB xs 0) t) ∧
  ∀ (l : List Ty), okL l = true → allVL (fun n => (p n ∧ n ∈ xs) ∧ boundO bs n = some (varT (ρ n))) l → withL (numB (xs.map ρ) 0) (withL bs l) = withL (numB xs 0) l := by
 have key : ∀ (N : Nat), (∀ (t : Ty), SizeOf.sizeOf t < N → okT t = true → allV (fun n => (p n ∧ n ∈ xs) ∧ boundO bs n = some (varT (ρ n))) t → withT (numB (xs.map ρ) 0) (withT bs t) = withT (numB xs 0) t) ∧
   ∀ (l : List Ty), SizeOf.sizeOf l < N → okL l = true → allVL (fun n => (p n ∧ n ∈ xs) ∧ boundO bs n = some (varT (ρ n))) l → withL (numB (xs.map ρ) 0) (withL bs l) = withL (numB xs 0) l := by
  intro N
  induction N with
  | zero => exact ⟨fun _ h => by omega, fun _ h => by omega⟩
  | succ N ih =>
   obtain ⟨ih1, ih2⟩ := ih
   constructor
   ·intro t ht ho ha
    cases t with
    | mk k n b l =>
     simp only [Ty.mk.sizeOf_spec] at ht
     obtain ⟨h1, h2⟩ := ok_node ho
     simp only [allV] at ha
     by_cases hk : k = 6
     ·simp only [NodeOk] at h1
      have hl : l = [] := List.eq_nil_of_length_eq_zero (h1.2.2.1 (.inr (.inr hk)))
      obtain ⟨⟨hp, hm⟩, hb⟩ := ha.1 hk
      subst hl hk
      have e : withT bs (.mk 6 n b []) = varT (ρ n) := by
       simp only [withT, if_true, boundT, hb, Option.getD_some]; rfl
      rw [e]
      simp only [varT, withT, if_true, boundT, numB_map hi xs n 0 hx hp]
      have : ∃ u, boundO (numB xs 0) n = some u := by
       have key : ∀ (xs : List Int) (i : Nat), n ∈ xs → ∃ u, boundO (numB xs i) n = some u := by
        intro xs
        induction xs with
        | nil => intro _ h; cases h
        | cons y ys ih =>
         intro i h
         simp only [numB, boundO]
         by_cases hy : y = n
         ·exact ⟨_, if_pos hy⟩
         ·rw [if_neg hy]
          rcases List.mem_cons.1 h with h | h
          ·exact absurd h.symm hy
          ·exact ih (i + 1) h
       exact key xs 0 hm
      obtain ⟨u, hu⟩ := this
      rw [hu]; rfl
     ·have e : withT bs (.mk k n b l) = .mk k 0 (nilB l) (withL bs l) := by simp only [withT, if_neg hk]
      have hn : nilB (withL bs l) = nilB l := by simp only [nilB, withL_len]
      rw [e]
      simp only [withT, if_neg hk, hn]
      rw [ih2 l (by omega) h2 ha.2]
   ·intro l hl ho ha
    cases l with
    | nil => rfl
    | cons x l =>
     simp only [List.cons.sizeOf_spec] at hl
     simp only [okL, Bool.and_eq_true] at ho
     simp only [allVL] at ha
     simp only [withL]
     rw [ih1 x (by omega) ho.1 ha.1, ih2 l (by omega) ho.2 ha.2]
 exact ⟨fun t => (key (SizeOf.sizeOf t + 1)).1 t (by omega), fun l => (key (SizeOf.sizeOf l + 1)).2 l (by omega)⟩
theorem allV_and {p q : Int → Prop} : (∀ t, allV p t → allV q t → allV (fun n => p n ∧ q n) t) ∧ ∀ l, allVL p l → allVL q l → allVL (fun n => p n ∧ q n) l := by
 have key : ∀ (N : Nat), (∀ t, SizeOf.sizeOf t < N → allV p t → allV q t → allV (fun n => p n ∧ q n) t) ∧ ∀ l, SizeOf.sizeOf l < N → allVL p l → allVL q l → allVL (fun n => p n ∧ q n) l := by
  intro N
  induction N with
  | zero => exact ⟨fun _ h => by omega, fun _ h => by omega⟩
  | succ N ih =>
   obtain ⟨ih1, ih2⟩ := ih
   constructor
   ·intro t ht h1 h2
    cases t with
    | mk k n b l =>
     simp only [Ty.mk.sizeOf_spec] at ht
     simp only [allV] at h1 h2 ⊢
     exact ⟨fun hk => ⟨h1.1 hk, h2.1 hk⟩, ih2 l (by omega) h1.2 h2.2⟩
   ·intro l hl h1 h2
    cases l with
    | nil => trivial
    | cons x xs =>
     simp only [List.cons.sizeOf_spec] at hl
     simp only [allVL] at h1 h2 ⊢
     exact ⟨ih1 x (by omega) h1.1 h2.1, ih2 xs (by omega) h1.2 h2.2⟩
 exact ⟨fun t => (key (SizeOf.sizeOf t + 1)).1 t (by omega), fun l => (key (SizeOf.sizeOf l + 1)).2 l (by omega)⟩
theorem num_ren {p : Int → Prop} {ρ : Int → Int} (hi : ∀ a b, p a → p b → ρ a = ρ b → a = b) {bs : List (Int × Ty)} {t : Ty} (ho : okT t = true) (ha : allV (fun n => p n ∧ boundO bs n = some (varT (ρ n))) t) :
  varsL (withT bs t) = (varsL t).map ρ ∧ numT (withT bs t) = numT t := by
 have h1 : varsL (withT bs t) = (varsL t).map ρ := first_ren hi (bs := bs) |>.1 t [] ho ha (by simp)
 refine ⟨h1, ?_⟩
 have hp : ∀ m ∈ varsL t, p m := first_of.1 t [] ((allV_imp fun n h => h.1).1 t ha) (by simp)
 show withT (numB (varsL (withT bs t)) 0) (withT bs t) = withT (numB (varsL t) 0) t
 rw [h1]
 exact (with_ren hi hp).1 t ho ((allV_imp fun n h => ⟨⟨h.1.1, h.2⟩, h.1.2⟩).1 t (allV_and.1 t ha (vars_all t)))
end Kd
end
section
set_option maxRecDepth 100000
namespace Kd
open Go.Am Go.Proofs.YtnmolpkkemljoaaGreatDoor
def isDg (c : UInt8) : Bool := decide ((48 : Int) ≤ c.toNat) && decide ((c.toNat : Int) ≤ 57)
def dgN : List UInt8 → Nat
 | [] => 0
 | c :: l => if isDg c = true then dgN l + 1 else 0
def numA : List UInt8 → Int → Int
 | [], a => a
 | c :: l, a => numA l (a * 10 + (c.toNat - 48))
def numV (s : List UInt8) : Int := numA s 0
def digs (s : List UInt8) : Bool := decide (1 ≤ s.length) && (decide (s.length ≤ 3) && s.all isDg)
def okNum (s : List UInt8) : Bool := (decide (1 ≤ dgN s) && decide (dgN s ≤ 3)) && (decide (dgN s = 1) || !decide (s[0]? = some 48))
def min4 (n : Nat) : Nat := min n 4
def rnF (s : List UInt8) : Int × List UInt8 × Bool :=
 if (decide (1 ≤ dgN s) && decide (dgN s ≤ 3)) = true then (numV (s.take (dgN s)), s.drop (dgN s), decide (itoaL (numV (s.take (dgN s))) = s.take (dgN s))) else (0, s, false)
def rnV (s : List UInt8) : Int := (rnF s).1
def rnR (s : List UInt8) : List UInt8 := (rnF s).2.1
def rnB (s : List UInt8) : Bool := (rnF s).2.2
end Kd
noncomputable section
namespace Go.Proofs.YtnmolpkkemljoaaGreatDoor
open Go Go.Am Kd
def atoiQ : QSpec
 | [.str s], K => (digs s = true) ∧ K (.tup [.int .i64 (numV s), .nili])
 | _, _ => False
def rdA (s : List UInt8) : AH := ⟨[.cells [.str s] 98], []⟩
def numSt (s : List UInt8) : LSt Nat Nat where
 n := 1
 nf := 0
 rd := none
 fr x := frm 75 [(0, .ptr 0 0), (3, .int .i64 x)]
 hp _ := rdA s
 inv x := x ≤ 4 ∧ x ≤ dgN s ∧ s.length ≤ 2000
 res _ := min4 (dgN s)
 sel _ := true
 out _ r := ⟨.exit 0, frm 75 [(0, .ptr 0 0), (3, .int .i64 r)], rdA s⟩
def numHk (s : List UInt8) : Hooks := hooks [(128, atoiQ)] [] [(2, ⟨108, 0, (numSt s).spec⟩)]
end Go.Proofs.YtnmolpkkemljoaaGreatDoor
end
end
section
noncomputable section
namespace Go.Proofs.YtnmolpkkemljoaaGreatDoor
open Go Go.Am Kd Go.Am.AV Go.IntKind
set_option maxRecDepth 100000
theorem num_loop (s : List UInt8) (meas : Nat → Nat) (x : Nat) : (runTL hk0 60 108 0 (numSt s) meas x) = ( bothR (decide (iC x < iC (List.length s))) (bothR (decide (iC x < (4 : Int))) (0 ≤ iC x ∧ ∃ c, s[Int.toNat (iC x)]? = some c ∧ bothR (decide ((48 : Int) ≤ iC (UInt8.toNat c))) (0 ≤ iC x ∧ ∃ c, s[Int.toNat (iC x)]? = some c ∧ bothR (decide (iC (UInt8.toNat c) ≤ (57 : Int))) (∃ y, (y ≤ 4 ∧ y ≤ dgN s ∧ List.length s ≤ 2000) ∧ meas y < meas x ∧ min4 (dgN s) = min4 (dgN s) ∧ ptr (0) (0) = ptr (0) (0) ∧
 int i64 (IntKind.wrap IntKind.i64 (iC x + (1 : Int))) = int i64 (iC y) ∧ 98 = 98 ∧ str s = str s ∧ 0 = 0 ∧ True) (true = true ∧ ptr (0) (0) = ptr (0) (0) ∧ int i64 (iC x) = int i64 (iC (min4 (dgN s))) ∧ 98 = 98 ∧ str s = str s ∧ 0 = 0 ∧ True)) (true = true ∧ ptr (0) (0) = ptr (0) (0) ∧ int i64 (iC x) = int i64 (iC (min4 (dgN s))) ∧ 98 = 98 ∧ str s = str s ∧ 0 = 0 ∧ True)) (true = true ∧ ptr (0) (0) = ptr (0) (0) ∧ int i64 (iC x) = int i64 (iC (min4 (dgN s))) ∧
 98 = 98 ∧ str s = str s ∧ 0 = 0 ∧ True)) (true = true ∧ ptr (0) (0) = ptr (0) (0) ∧ int i64 (iC x) = int i64 (iC (min4 (dgN s))) ∧ 98 = 98 ∧ str s = str s ∧ 0 = 0 ∧ True)) := by kernel_rfl
theorem num_top (s s' : List UInt8) (e : AEnd) : (runT (numHk s) 60 108 [.ptr 0 0] (rdA s) (hpIs 0 e (rdA s'))) = ( codeIs (loopOf Tryz.prog 108 0) Tryz.prog 108 0 (∃ x, (x ≤ 4 ∧ x ≤ dgN s ∧ List.length s ≤ 2000) ∧ ptr (0) (0) = ptr (0) (0) ∧ int i64 (0) = int i64 (iC x) ∧ 98 = 98 ∧ str s = str s ∧ 0 = 0 ∧ 0 ≤ iC (min4 (dgN s)) ∧ (0 ≤ Int.toNat (iC (min4 (dgN s))) ∧ Int.toNat (iC (min4 (dgN s))) ≤ List.length s) ∧ bothR (decide ((1 : Int) ≤ iC (min4 (dgN s)))) (bothR (decide (iC (min4 (dgN s)) ≤ (3 : Int))) (bothR (decide (iC (min4 (dgN s)) = (1 : Int)))
 (0 ≤ iC (min4 (dgN s)) ∧ (Int.toNat (iC (min4 (dgN s))) ≤ List.length s ∧ List.length s ≤ List.length s) ∧ digs (List.take (Int.toNat (iC (min4 (dgN s))) - 0) s) = true ∧ AEnd.returned (int i64 (numV (List.take (Int.toNat (iC (min4 (dgN s))) - 0) s))) = e ∧ 98 = 98 ∧ str (List.take (List.length s - Int.toNat (iC (min4 (dgN s)))) (List.drop (Int.toNat (iC (min4 (dgN s)))) s)) = str s' ∧ 0 = 0 ∧ True) (Int.NonNeg (0) ∧ ∃ c, (List.take (Int.toNat (iC (min4 (dgN s))) - 0) s)[0]? = some c ∧ bothR (!!decide (iC (UInt8.toNat c) = (48 : Int)))
 (AEnd.panicked [(AV.iface (117) (agg [int i64 (8)]), false)] = e ∧ 98 = 98 ∧ str s = str s' ∧ 0 = 0 ∧ True) (0 ≤ iC (min4 (dgN s)) ∧ (Int.toNat (iC (min4 (dgN s))) ≤ List.length s ∧ List.length s ≤ List.length s) ∧ digs (List.take (Int.toNat (iC (min4 (dgN s))) - 0) s) = true ∧ AEnd.returned (int i64 (numV (List.take (Int.toNat (iC (min4 (dgN s))) - 0) s))) = e ∧ 98 = 98 ∧ str (List.take (List.length s - Int.toNat (iC (min4 (dgN s)))) (List.drop (Int.toNat (iC (min4 (dgN s)))) s)) = str s' ∧ 0 = 0 ∧ True)))
 (AEnd.panicked [(AV.iface (117) (agg [int i64 (8)]), false)] = e ∧ 98 = 98 ∧ str s = str s' ∧ 0 = 0 ∧ True)) (AEnd.panicked [(AV.iface (117) (agg [int i64 (8)]), false)] = e ∧ 98 = 98 ∧ str s = str s' ∧ 0 = 0 ∧ True))) := by kernel_rfl
end Go.Proofs.YtnmolpkkemljoaaGreatDoor
end
end
section
set_option maxRecDepth 100000
set_option linter.unusedSimpArgs false
set_option linter.unusedVariables false
namespace Kd
open Go Go.Am Go.Proofs.YtnmolpkkemljoaaGreatDoor
theorem isDg_iff {c : UInt8} : isDg c = true ↔ 48 ≤ c.toNat ∧ c.toNat ≤ 57 := by
 simp only [isDg, Bool.and_eq_true, decide_eq_true_eq]; omega
theorem dec_num : ∀ (l : List UInt8) (a : Nat), l.all isDg = true → ∃ n, Lib.decFrom a l = some n ∧ (n : Int) = numA l a
 | [], a, _ => ⟨a, rfl, rfl⟩
 | c :: l, a, h => by
  simp only [List.all_cons, Bool.and_eq_true] at h
  have hc := isDg_iff.1 h.1
  obtain ⟨n, h1, h2⟩ := dec_num l (a * 10 + (c.toNat - 48)) h.2
  refine ⟨n, ?_, ?_⟩
  ·simp only [Lib.decFrom, Lib.digitVal, if_pos hc]; exact h1
  ·rw [h2]
   simp only [numA]
   congr 1
   omega
theorem atoi_num {s : List UInt8} (h : digs s = true) : Lib.atoi s = some (numV s) := by
 simp only [digs, Bool.and_eq_true, decide_eq_true_eq] at h
 obtain ⟨h1, h2, h3⟩ := h
 match s, h1 with
 | c :: l, _ =>
  obtain ⟨n, e1, e2⟩ := dec_num (c :: l) 0 h3
  simp only [List.all_cons, Bool.and_eq_true] at h3
  have hc := isDg_iff.1 h3.1
  have n1 : (c == 45) = false := by
   rw [beq_eq_false_iff_ne]; intro e; subst e; simp at hc
  have n2 : (c == 43) = false := by
   rw [beq_eq_false_iff_ne]; intro e; subst e; simp at hc
  simp only [Lib.atoi, n1, n2, Bool.false_eq_true, if_false, Lib.decNat, List.isEmpty_cons, e1, Option.map_some, e2]
  rfl
theorem dgN_le : ∀ s, dgN s ≤ s.length
 | [] => Nat.le_refl _
 | c :: l => by
  simp only [dgN]
  split
  ·have := dgN_le l; simp; omega
  ·simp
theorem dgN_lt : ∀ (s : List UInt8) (x : Nat), x < dgN s → ∃ c, s[x]? = some c ∧ isDg c = true
 | c :: l, x, h => by
  simp only [dgN] at h
  split at h
  ·rename_i hc
   cases x with
   | zero => exact ⟨c, rfl, hc⟩
   | succ x => simpa using dgN_lt l x (by omega)
  ·omega
theorem dgN_eq : ∀ (s : List UInt8), dgN s < s.length → ∃ c, s[dgN s]? = some c ∧ isDg c = false
 | c :: l, h => by
  simp only [dgN] at h ⊢
  split
  ·rename_i hc
   rw [if_pos hc] at h
   simpa using dgN_eq l (by simpa using h)
  ·rename_i hc
   exact ⟨c, rfl, by simpa using hc⟩
theorem dgN_all : ∀ (s : List UInt8) (x : Nat), x ≤ dgN s → (s.take x).all isDg = true
 | [], x, _ => by simp
 | c :: l, 0, _ => rfl
 | c :: l, x + 1, h => by
  simp only [dgN] at h
  split at h
  ·rename_i hc
   simp only [List.take_succ_cons, List.all_cons, hc, Bool.true_and]
   exact dgN_all l x (by omega)
  ·omega
theorem digs_take {s : List UInt8} (h1 : 1 ≤ dgN s) (h2 : dgN s ≤ 3) : digs (s.take (dgN s)) = true := by
 have := dgN_le s
 simp only [digs, Bool.and_eq_true, decide_eq_true_eq, List.length_take]
 exact ⟨by omega, by omega, dgN_all s _ (Nat.le_refl _)⟩
theorem dg_of {k : Nat} (h : k < 10) : isDg (dig k) = true ∧ (dig k).toNat = 48 + k := by
 have key : ∀ k : Nat, k < 10 → isDg (dig k) = true ∧ (dig k).toNat = 48 + k := by decide
 exact key k h
theorem of_dg {c : UInt8} (h : isDg c = true) : ∃ k : Nat, k < 10 ∧ c = dig k ∧ (c.toNat : Int) - 48 = k := by
 have h1 := isDg_iff.1 h
 refine ⟨c.toNat - 48, by omega, ?_, by omega⟩
 apply UInt8.toNat_inj.1
 rw [(dg_of (k := c.toNat - 48) (by omega)).2]; omega
theorem dig_inj {a b : Nat} (ha : a < 10) (hb : b < 10) (h : dig a = dig b) : a = b := by
 have h1 := (dg_of ha).2
 have h2 := (dg_of hb).2
 rw [h] at h1; omega
theorem digs_cases {s : List UInt8} (h : digs s = true) : (∃ a, a < 10 ∧ s = [dig a] ∧ numV s = (a : Int)) ∨ (∃ a b, a < 10 ∧ b < 10 ∧ s = [dig a, dig b] ∧ numV s = ((a * 10 + b : Nat) : Int)) ∨
  ∃ a b c, a < 10 ∧ b < 10 ∧ c < 10 ∧ s = [dig a, dig b, dig c] ∧ numV s = ((a * 100 + b * 10 + c : Nat) : Int) := by
 simp only [digs, Bool.and_eq_true, decide_eq_true_eq] at h
 obtain ⟨h1, h2, h3⟩ := h
 match s, h1, h2 with
 | [x], _, _ =>
  simp only [List.all_cons, List.all_nil, Bool.and_true] at h3
  obtain ⟨a, ha, rfl, e⟩ := of_dg h3
  exact .inl ⟨a, ha, rfl, by simp only [numV, numA]; omega⟩
 | [x, y], _, _ =>
  simp only [List.all_cons, List.all_nil, Bool.and_true, Bool.and_eq_true] at h3
  obtain ⟨a, ha, rfl, e⟩ := of_dg h3.1
  obtain ⟨b, hb, rfl, e'⟩ := of_dg h3.2
  exact .inr (.inl ⟨a, b, ha, hb, rfl, by simp only [numV, numA]; omega⟩)
 | [x, y, z], _, _ =>
  simp only [List.all_cons, List.all_nil, Bool.and_true, Bool.and_eq_true] at h3
  obtain ⟨a, ha, rfl, e⟩ := of_dg h3.1
  obtain ⟨b, hb, rfl, e'⟩ := of_dg h3.2.1
  obtain ⟨c, hc, rfl, e''⟩ := of_dg h3.2.2
  exact .inr (.inr ⟨a, b, c, ha, hb, hc, rfl, by simp only [numV, numA]; omega⟩)
theorem digs_itoa {s : List UInt8} (h : digs s = true) : (itoaL (numV s) = s) ↔ (s.length = 1 ∨ s[0]? ≠ some 48) := by
 have z : ∀ {a : Nat}, a < 10 → (dig a = 48 ↔ a = 0) := by
  intro a ha
  have : (48 : UInt8) = dig 0 := rfl
  rw [this]
  exact ⟨fun h => dig_inj ha (by omega) h, fun h => by rw [h]⟩
 rcases digs_cases h with ⟨a, ha, rfl, e⟩ | ⟨a, b, ha, hb, rfl, e⟩ | ⟨a, b, c, ha, hb, hc, rfl, e⟩
 ·rw [e]
  simp only [itoaL, itoaN, Int.toNat_natCast, if_pos ha, List.length_singleton, true_or]
 ·rw [e]
  simp only [itoaL, itoaN, Int.toNat_natCast, List.length_cons, List.length_nil, List.getElem?_cons_zero, ne_eq, Option.some.injEq, z ha]
  by_cases h0 : a = 0
  ·subst h0
   simp only [Nat.zero_mul, Nat.zero_add, if_pos hb]
   simp
  ·rw [if_neg (by omega), if_pos (by omega), show (a * 10 + b) / 10 = a by omega, show (a * 10 + b) % 10 = b by omega]
   simp [h0]
 ·rw [e]
  simp only [itoaL, itoaN, Int.toNat_natCast, List.length_cons, List.length_nil, List.getElem?_cons_zero, ne_eq, Option.some.injEq, z ha]
  by_cases h0 : a = 0
  ·subst h0
   simp only [Nat.zero_mul, Nat.zero_add]
   by_cases h1 : b * 10 + c < 10
   ·rw [if_pos h1]; simp
   ·rw [if_neg h1, if_pos (by omega)]; simp
  ·rw [if_neg (by omega), if_neg (by omega), show (a * 100 + b * 10 + c) / 100 = a by omega, show (a * 100 + b * 10 + c) / 10 % 10 = b by omega, show (a * 100 + b * 10 + c) % 10 = c by omega]
   simp [h0]
theorem okNum_eq (s : List UInt8) : okNum s = rnB s := by
 unfold okNum rnB rnF
 cases h : decide (1 ≤ dgN s) && decide (dgN s ≤ 3) with
 | false => simp
 | true =>
  simp only [Bool.and_eq_true, decide_eq_true_eq] at h
  have hd := digs_take h.1 h.2
  have hi := digs_itoa hd
  have hl := dgN_le s
  have h0 : (s.take (dgN s))[0]? = s[0]? := by rw [List.getElem?_take, if_pos (by omega)]
  rw [h0, List.length_take, Nat.min_eq_left hl] at hi
  simp only [if_true, Bool.true_and]
  rw [Bool.eq_iff_iff]
  simp only [Bool.or_eq_true, decide_eq_true_eq, Bool.not_eq_true', decide_eq_false_iff_not]
  exact hi.symm
end Kd
noncomputable section
namespace Go.Proofs.YtnmolpkkemljoaaGreatDoor
open Go Go.Am Kd
theorem atoi_ok {G : Gl} (s : List UInt8) (h : digs s = true) : QuietJ Tryz.prog G 128 [.str s] (.tup [.int .i64 (numV s), .nili]) := by
 refine QuietJ.of_below fun S A w vs hi hl => ?_
 cases hl with
 | cons _ _ v _ hv hl =>
 cases hl
 cases hv
 have hlen : s.length ≤ 3 := by
  simp only [digs, Bool.and_eq_true, decide_eq_true_eq] at h
  exact h.2.1
 refine (Go.Proofs.Tryz.strconv_Atoi _ (numV s) (by show s.toArray.size ≤ 18; simp; omega) (by simpa using atoi_num h) w).mono ?_
 rintro e w' ⟨rfl, t, rfl⟩
 exact ⟨.returned _ _ (.tup _ _ (.cons _ _ _ _ (.int _ _) (.cons _ _ _ _ .nili .nil))), ⟨rfl, rfl, rfl, by rw [Lib.bytesWorld_size]; omega, fun j hj => Lib.bytesWorld_at_old _ _ _ j hj⟩⟩
theorem atoi_hook {G : Gl} : QSpec.Ok Tryz.prog G 128 atoiQ := by
 intro args K h
 unfold atoiQ at h
 split at h
 ·exact ⟨_, atoi_ok _ h.1, h.2⟩
 ·exact h.elim
theorem min4_le (n : Nat) : min4 n ≤ n ∧ min4 n ≤ 4 := by unfold min4; omega
theorem numSt_ok (s : List UInt8) : LHook.Ok Tryz.prog gT ⟨108, 0, (numSt s).spec⟩ := by
 refine LSt.byT (hk := hk0) (numSt s) (fun x => 4 - x) (mkHooks_ok all_nil all_nil all_nil) rfl ?_ ?_ ?_
 ·intro x _
  exact Whole.frm rfl rfl (by simp [numSt, AV.bnd]) rfl
 ·intro x b _
  exact Whole.frm rfl rfl (by simp [numSt, AV.bnd]) rfl
 ·rintro x ⟨h4, hx, hl⟩
  have hle := dgN_le s
  rw [num_loop]
  simp only [iC, eq_self, true_and, and_true, Int.toNat_natCast, AV.int.injEq]
  have fin : x = min4 (dgN s) → (x : Int) = (min4 (dgN s) : Nat) := fun h => by rw [← h]
  refine bothR_dec (fun h1 => bothR_dec (fun h2 => ?_) fun h2 => fin ?_) fun h1 => fin ?_
  ·refine ⟨by omega, ?_⟩
   rcases Nat.lt_or_ge x (dgN s) with hlt | hge
   ·obtain ⟨c, hc, hd⟩ := dgN_lt s x hlt
    have hd := isDg_iff.1 hd
    refine ⟨c, hc, bothR_dec (fun _ => ⟨by omega, c, hc, bothR_dec (fun _ => ⟨x + 1, ⟨by omega, by omega, hl⟩, by omega, ?_⟩) fun h => by omega⟩) fun h => by omega⟩
    rw [wrap_id (by omega) (by omega)]; rfl
   ·have hxe : x = dgN s := by omega
    subst hxe
    obtain ⟨c, hc, hd⟩ := dgN_eq s (by omega)
    have hm : dgN s = min4 (dgN s) := by unfold min4; omega
    have hd : ¬ (48 ≤ c.toNat ∧ c.toNat ≤ 57) := fun h => by rw [isDg_iff.2 h] at hd; cases hd
    refine ⟨c, hc, bothR_dec (fun _ => ⟨by omega, c, hc, bothR_dec (fun _ => by omega) fun h => fin hm⟩) fun h => fin hm⟩
  ·unfold min4; omega
  ·unfold min4; omega
def numEnd (s : List UInt8) : AEnd := match rnB s with | true => .returned (.int .i64 (rnV s)) | false => .panicked (stopC 8)
def numAft (s : List UInt8) : List UInt8 := match rnB s with | true => rnR s | false => s
theorem num_ok (s : List UInt8) (hl : s.length ≤ 2000) : FuncJ Tryz.prog gT 108 [.ptr 0 0] (rdA s) (hpIs 0 (numEnd s) (rdA (numAft s))) := by
 have hh : Hooks.Ok Tryz.prog gT (numHk s) := mkHooks_ok (all_cons atoi_hook all_nil) all_nil (all_cons (numSt_ok s) all_nil)
 refine FuncJ.run (el := els) (mu := mu0) (hk := numHk s) hmix hh (n := 60) ?_
 show runT (numHk s) 60 108 [.ptr 0 0] (rdA s) _
 have hle := dgN_le s
 have hm := min4_le (dgN s)
 rw [num_top]
 simp only [iC, eq_self, true_and, and_true, Int.toNat_natCast, AV.int.injEq, codeIs_self, AV.str.injEq, Nat.sub_zero]
 refine ⟨0, ⟨by omega, by omega, hl⟩, rfl, by omega, ⟨by omega, by omega⟩, ?_⟩
 have bad : rnB s = false → AEnd.panicked [(AV.iface 117 (AV.agg [AV.int .i64 8]), false)] = numEnd s ∧ s = numAft s := by
  intro h; unfold numEnd numAft; rw [h]; exact ⟨rfl, rfl⟩
 have eok := okNum_eq s
 refine bothR_dec (fun h1 => bothR_dec (fun h3 => ?_) fun h3 => bad ?_) fun h1 => bad ?_
 ·have e4 : min4 (dgN s) = dgN s := by unfold min4 at *; omega
  rw [e4] at h1 h3 ⊢
  have hd := digs_take (s := s) (by omega) (by omega)
  have hrng : (decide (1 ≤ dgN s) && decide (dgN s ≤ 3)) = true := by simp; omega
  have good : rnB s = true → AEnd.returned (AV.int .i64 (numV (s.take (dgN s)))) = numEnd s ∧ (s.drop (dgN s)).take (s.length - dgN s) = numAft s := by
   intro h
   unfold numEnd numAft
   rw [h]
   refine ⟨?_, ?_⟩
   ·simp only [rnV, rnF, hrng, if_true]
   ·simp only [rnR, rnF, hrng, if_true]
    exact List.take_of_length_le (by simp)
  have h0 : (s.take (dgN s))[0]? = s[0]? := by rw [List.getElem?_take, if_pos (by omega)]
  refine bothR_dec (fun h => ⟨by omega, ⟨by omega, by omega⟩, hd, good ?_⟩) fun h => ⟨nn 0, ?_⟩
  ·rw [← eok]
   have : decide (dgN s = 1) = true := by simp; omega
   simp only [okNum, hrng, this, Bool.true_or, Bool.and_self]
  ·obtain ⟨c, hc, hcd⟩ := dgN_lt s 0 (by omega)
   rw [h0]
   have h1' : decide (dgN s = 1) = false := by simp; omega
   refine ⟨c, hc, ?_⟩
   rw [Bool.not_not]
   refine bothR_dec (fun h48 => bad ?_) fun h48 => ⟨by omega, ⟨by omega, by omega⟩, hd, good ?_⟩
   ·rw [← eok]
    have : c = 48 := by
     apply UInt8.toNat_inj.1
     have : c.toNat = 48 := by omega
     rw [this]; rfl
    simp only [okNum, h1', hc, this, decide_true, Bool.not_true, Bool.or_self, Bool.and_false]
   ·rw [← eok]
    have : ¬ c = 48 := by
     intro e; subst e; exact h48 rfl
    simp only [okNum, hrng, h1', hc, Option.some.injEq, decide_eq_false this, Bool.not_false, Bool.or_true, Bool.and_self]
 ·rw [← eok]
  have : decide (dgN s ≤ 3) = false := by simp; unfold min4 at h3; omega
  simp only [okNum, this, Bool.and_false, Bool.false_and]
 ·rw [← eok]
  have : decide (1 ≤ dgN s) = false := by simp; unfold min4 at h1; omega
  simp only [okNum, this, Bool.false_and]
end Go.Proofs.YtnmolpkkemljoaaGreatDoor
end
end
section
set_option linter.unusedSimpArgs false
set_option linter.unusedVariables false
namespace Kd
open Go Go.Am Go.Proofs.YtnmolpkkemljoaaGreatDoor
theorem Ty.ind {P : Ty → Prop} {Q : List Ty → Prop} (node : ∀ k n b l, Q l → P (.mk k n b l)) (nil : Q []) (cons : ∀ x xs, P x → Q xs → Q (x :: xs)) : (∀ t, P t) ∧ ∀ l, Q l := by
 have key : ∀ (N : Nat), (∀ t, SizeOf.sizeOf t < N → P t) ∧ ∀ l, SizeOf.sizeOf l < N → Q l := by
  intro N
  induction N with
  | zero => exact ⟨fun _ h => by omega, fun _ h => by omega⟩
  | succ N ih =>
   obtain ⟨ih1, ih2⟩ := ih
   constructor
   ·intro t ht
    cases t with
    | mk k n b l =>
     simp only [Ty.mk.sizeOf_spec] at ht
     exact node k n b l (ih2 l (by omega))
   ·intro l hl
    cases l with
    | nil => exact nil
    | cons x xs =>
     simp only [List.cons.sizeOf_spec] at hl
     exact cons x xs (ih1 x (by omega)) (ih2 xs (by omega))
 exact ⟨fun t => (key (SizeOf.sizeOf t + 1)).1 t (by omega), fun l => (key (SizeOf.sizeOf l + 1)).2 l (by omega)⟩
mutual
def subT (σ : Int → Ty) : Ty → Ty
 | .mk k n _ l => if k = 6 then σ n else .mk k 0 (nilB l) (subL σ l)
def subL (σ : Int → Ty) : List Ty → List Ty
 | [] => []
 | x :: xs => subT σ x :: subL σ xs
end
theorem subL_len (σ : Int → Ty) : ∀ l, (subL σ l).length = l.length
 | [] => rfl
 | x :: xs => by simp only [subL, List.length_cons, subL_len σ xs]
theorem nilB_sub (σ : Int → Ty) (l : List Ty) : nilB (subL σ l) = nilB l := by simp only [nilB, subL_len]
theorem with_sub (bs : List (Int × Ty)) : (∀ t, withT bs t = subT (fun n => cleanT (boundT bs n)) t) ∧ ∀ l, withL bs l = subL (fun n => cleanT (boundT bs n)) l :=
 Ty.ind (fun k n b l ih => by simp only [withT, subT, ih]) rfl fun x xs h1 h2 => by simp only [withL, subL, h1, h2]
theorem sub_sub (σ τ : Int → Ty) : (∀ t, subT τ (subT σ t) = subT (fun n => subT τ (σ n)) t) ∧ ∀ l, subL τ (subL σ l) = subL (fun n => subT τ (σ n)) l :=
 Ty.ind (fun k n b l ih => by
  by_cases h6 : k = 6
  ·simp only [subT, if_pos h6]
  ·simp only [subT, if_neg h6, ih, nilB_sub]) rfl fun x xs h1 h2 => by simp only [subL, h1, h2]
theorem clean_clean : (∀ t, cleanT (cleanT t) = cleanT t) ∧ ∀ l, cleanL (cleanL l) = cleanL l :=
 Ty.ind (fun k n b l ih => by
  by_cases h6 : k = 6 <;> simp [cleanT, h6, ih, nilB, cleanL_len]) rfl fun x xs h1 h2 => by simp only [cleanL, h1, h2]
theorem sub_clean {σ : Int → Ty} (h : ∀ n, cleanT (σ n) = σ n) : (∀ t, cleanT (subT σ t) = subT σ t) ∧ ∀ l, cleanL (subL σ l) = subL σ l :=
 Ty.ind (fun k n b l ih => by
  by_cases h6 : k = 6
  ·simp only [subT, if_pos h6, h]
  ·simp only [subT, if_neg h6, cleanT, ih, nilB_sub]) rfl fun x xs h1 h2 => by simp only [subL, cleanL, h1, h2]
theorem sub_congr {σ τ : Int → Ty} : (∀ t, allV (fun n => σ n = τ n) t → subT σ t = subT τ t) ∧ ∀ l, allVL (fun n => σ n = τ n) l → subL σ l = subL τ l :=
 Ty.ind (fun k n b l ih h => by
  simp only [allV] at h
  by_cases h6 : k = 6
  ·simp only [subT, if_pos h6, h.1 h6]
  ·simp only [subT, if_neg h6, ih h.2]) (fun _ => rfl) fun x xs h1 h2 h => by
   simp only [allVL] at h
   simp only [subL, h1 h.1, h2 h.2]
theorem sub_id : (∀ t, okT t = true → subT varT t = cleanT t) ∧ ∀ l, okL l = true → subL varT l = cleanL l :=
 Ty.ind (fun k n b l ih h => by
  obtain ⟨h1, h2⟩ := ok_node h
  by_cases h6 : k = 6
  ·simp only [NodeOk] at h1
   have hl : l = [] := List.eq_nil_of_length_eq_zero (h1.2.2.1 (.inr (.inr h6)))
   subst hl; subst h6
   simp [subT, cleanT, cleanL, varT, nilB]
  ·simp only [subT, if_neg h6, cleanT, ih h2]) (fun _ => rfl) fun x xs h1 h2 h => by
   simp only [okL, Bool.and_eq_true] at h
   simp only [subL, cleanL, h1 h.1, h2 h.2]
theorem depG_ge : ∀ (l : List Ty) (m : Int), m ≤ depG l m
 | [], m => Int.le_refl _
 | x :: xs, m => Int.le_trans (Int.le_max_left _ _) (depG_ge xs _)
theorem sub_part {σ : Int → Ty} : (∀ t, okT t = true → okT (subT σ t) = true → allV (fun n => okT (σ n) = true ∧ cnt (σ n) ≤ cnt (subT σ t) ∧ depT (σ n) ≤ depT (subT σ t)) t) ∧
  ∀ l, okL l = true → okL (subL σ l) = true → ∀ m, allVL (fun n => okT (σ n) = true ∧ cnt (σ n) ≤ cntL (subL σ l) ∧ depT (σ n) ≤ depG (subL σ l) m) l := by
 refine Ty.ind (fun k n b l ih ho h => ?_) (fun _ _ _ => trivial) fun x xs h1 h2 ho h m => ?_
 ·obtain ⟨ho1, ho2⟩ := ok_node ho
  by_cases h6 : k = 6
  ·have he : subT σ (.mk k n b l) = σ n := by simp only [subT, if_pos h6]
   rw [he] at h ⊢
   refine ⟨fun _ => ⟨h, Nat.le_refl _, Int.le_refl _⟩, ?_⟩
   simp only [NodeOk] at ho1
   have hl : l = [] := List.eq_nil_of_length_eq_zero (ho1.2.2.1 (.inr (.inr h6)))
   subst hl
   trivial
  ·have he : subT σ (.mk k n b l) = .mk k 0 (nilB l) (subL σ l) := by simp only [subT, if_neg h6]
   rw [he] at h ⊢
   refine ⟨fun h' => absurd h' h6, ?_⟩
   refine (allV_imp fun n hn => ?_).2 l (ih ho2 (okL_of h).2 0)
   simp only [cnt, depT]
   exact ⟨hn.1, by omega, by omega⟩
 ·simp only [subL, okL, Bool.and_eq_true] at h ho
  simp only [subL, cntL, depG]
  refine ⟨(allV_imp fun n hn => ⟨hn.1, by omega, ?_⟩).1 x (h1 ho.1 h.1), (allV_imp fun n hn => ⟨hn.1, by omega, hn.2.2⟩).2 xs (h2 ho.2 h.2 _)⟩
  have := depG_ge (subL σ xs) (max m (depT (subT σ x)))
  have := Int.le_max_right m (depT (subT σ x))
  omega
def mtInv (σ : Int → Ty) (es : Es) : Prop := ∀ e ∈ es, e.2.1 = σ e.1
theorem boundM_inv {σ : Int → Ty} {es : Es} {n : Int} {o : Ty} (hi : mtInv σ es) (h : boundM es n = some o) : o = σ n ∧ n ∈ es.map fun x => x.1 := by
 induction es with
 | nil => cases h
 | cons x l ih =>
  simp only [boundM] at h
  split at h
  ·rename_i he
   cases h
   exact ⟨by rw [he]; exact hi x (List.mem_cons_self ..), by simp [he]⟩
  ·obtain ⟨h1, h2⟩ := ih (fun e he => hi e (List.mem_cons_of_mem _ he)) h
   exact ⟨h1, List.mem_cons_of_mem _ h2⟩
theorem setM_inv {σ : Int → Ty} {es : Es} {n : Int} (hi : mtInv σ es) : mtInv σ (setM es n (σ n)) := by
 induction es with
 | nil => exact hi
 | cons x l ih =>
  simp only [setM]
  split
  ·rename_i he
   intro e h
   rcases List.mem_cons.1 h with rfl | h
   ·simp [he]
   ·exact hi e (List.mem_cons_of_mem _ h)
  ·intro e h
   rcases List.mem_cons.1 h with rfl | h
   ·exact hi _ (List.mem_cons_self ..)
   ·exact ih (fun e he => hi e (List.mem_cons_of_mem _ he)) e h
theorem mt_sub {σ : Int → Ty} (hc : ∀ n, cleanT (σ n) = σ n) :
  (∀ t, okT t = true → ∀ (es : Es) (c : Nat), mtInv σ es → (mtT t (subT σ t) es c).ok = true ∧ mtInv σ (mtT t (subT σ t) es c).es ∧ (mtT t (subT σ t) es c).es.map (fun x => x.1) = firstT t (es.map fun x => x.1)) ∧
  ∀ l, okL l = true → ∀ (es : Es) (c : Nat), mtInv σ es → (mtL l (subL σ l) es c).ok = true ∧ mtInv σ (mtL l (subL σ l) es c).es ∧ (mtL l (subL σ l) es c).es.map (fun x => x.1) = firstL l (es.map fun x => x.1) := by
 refine Ty.ind (fun k n b l ih ho es c hi => ?_) (fun _ es c hi => ⟨rfl, hi, rfl⟩) fun x xs h1 h2 ho es c hi => ?_
 ·obtain ⟨ho1, ho2⟩ := ok_node ho
  by_cases h6 : k = 6
  ·simp only [NodeOk] at ho1
   have hl : l = [] := List.eq_nil_of_length_eq_zero (ho1.2.2.1 (.inr (.inr h6)))
   subst hl
   simp only [mtT, subT, if_pos h6, firstT, firstL, hc]
   cases hb : boundM es n with
   | some o =>
    obtain ⟨rfl, hm⟩ := boundM_inv hi hb
    simp only [sameB_refl, if_true]
    refine ⟨trivial, setM_inv hi, ?_⟩
    rw [setM_keys, addV, if_pos (by simpa using hm)]
   | none =>
    simp only
    refine ⟨trivial, fun e he => ?_, ?_⟩
    ·rcases List.mem_append.1 he with he | he
     ·exact hi e he
     ·obtain rfl := List.mem_singleton.1 he; rfl
    ·rw [addV, if_neg (by simpa using boundM_key hb)]; simp
  ·simp only [mtT, subT, if_neg h6, firstT, Ty.kind, Ty.l, if_true]
   exact ih ho2 es c hi
 ·simp only [okL, Bool.and_eq_true] at ho
  obtain ⟨a1, a2, a3⟩ := h1 ho.1 es c hi
  simp only [mtL, subL, a1, if_true, firstL]
  rw [← a3]
  exact h2 ho.2 _ _ a2
theorem itoa_nums {n : Int} (h0 : 0 ≤ n) (h1 : n < 1000) : digs (itoaL n) = true ∧ numV (itoaL n) = n := by
 have d : ∀ {k : Nat}, k < 10 → isDg (dig k) = true := fun h => (dg_of h).1
 have v : ∀ {k : Nat}, k < 10 → ((dig k).toNat : Int) - 48 = k := fun {k} h => by rw [(dg_of h).2]; omega
 unfold itoaL itoaN
 split
 ·rename_i h
  refine ⟨by simp [digs, d h], ?_⟩
  simp only [numV, numA, v h]; omega
 split
 ·rename_i h g
  have ha : n.toNat / 10 < 10 := by omega
  have hb : n.toNat % 10 < 10 := by omega
  refine ⟨by simp [digs, d ha, d hb], ?_⟩
  simp only [numV, numA, v ha, v hb]; omega
 ·rename_i h g
  have ha : n.toNat / 100 < 10 := by omega
  have hb : n.toNat / 10 % 10 < 10 := by omega
  have hc : n.toNat % 10 < 10 := by omega
  refine ⟨by simp [digs, d ha, d hb, d hc], ?_⟩
  simp only [numV, numA, v ha, v hb, v hc]; omega
def pvs (σ : Int → Ty) (vs : List Int) : Ps := vs.map fun n => (writeS (varT n), writeS (σ n))
theorem write_var {a b : Int} (ha : 0 ≤ a ∧ a < 1000) (hb : 0 ≤ b ∧ b < 1000) (h : writeS (varT a) = writeS (varT b)) : a = b := by
 have e : ∀ n, writeS (varT n) = 39 :: itoaL n := fun n => by simp [varT, writeS, writeL, befS, aftS]
 rw [e, e] at h
 have h2 := (List.cons.inj h).2
 have h3 := (itoa_nums ha.1 ha.2).2
 rw [h2, (itoa_nums hb.1 hb.2).2] at h3
 exact h3.symm
theorem idx_pvs {σ : Int → Ty} {n : Int} (hn : 0 ≤ n ∧ n < 1000) : ∀ (vs : List Int), (∀ m ∈ vs, 0 ≤ m ∧ m < 1000) → ∀ i, (match idxP (pvs σ vs) (writeS (varT n), writeS (σ n)) i with | some j => boundO (numB vs i) n = some (varT j) | none => n ∉ vs)
 | [], _, i => by simp [pvs, idxP]
 | m :: vs, h, i => by
  have hm := h m (List.mem_cons_self ..)
  have ih := idx_pvs (σ := σ) hn vs (fun x hx => h x (List.mem_cons_of_mem _ hx)) (i + 1)
  simp only [pvs, List.map_cons, idxP, numB, boundO] at ih ⊢
  by_cases hnm : n = m
  ·subst hnm; simp
  ·rw [if_neg (fun he => hnm (write_var hn hm (congrArg Prod.fst he))), if_neg (fun he => hnm he.symm)]
   split at ih
   ·exact ih
   ·simp only [List.mem_cons, not_or]
    exact ⟨hnm, ih⟩
theorem numB_app : ∀ (vs ws : List Int) (i : Nat), numB (vs ++ ws) i = numB vs i ++ numB ws (i + vs.length)
 | [], ws, i => by simp [numB]
 | v :: vs, ws, i => by
  simp only [List.cons_append, numB, numB_app vs ws (i + 1), List.length_cons]
  rw [show i + 1 + vs.length = i + (vs.length + 1) by omega]
theorem boundO_app {l m : List (Int × Ty)} {n : Int} {u : Ty} (h : boundO l n = some u) : boundO (l ++ m) n = some u := by
 induction l with
 | nil => cases h
 | cons x l ih =>
  simp only [boundO, List.cons_append] at h ⊢
  split
  ·rename_i he; rw [if_pos he] at h; exact h
  ·rename_i he; rw [if_neg he] at h; exact ih h
theorem boundO_new {l m : List (Int × Ty)} {n : Int} (h : n ∉ l.map fun x => x.1) : boundO (l ++ m) n = boundO m n := by
 induction l with
 | nil => rfl
 | cons x l ih =>
  simp only [List.map_cons, List.mem_cons, not_or] at h
  simp only [List.cons_append, boundO, if_neg (fun e => h.1 (Eq.symm e))]
  exact ih h.2
theorem numB_fst : ∀ (vs : List Int) (i : Nat), (numB vs i).map (fun x => x.1) = vs
 | [], _ => rfl
 | v :: vs, i => by simp only [numB, List.map_cons, numB_fst vs (i + 1)]
end Kd
end