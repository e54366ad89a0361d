/-
  What the proof is built of: list (59) as a contract of the machine's. Match: its walk. The conditions of K50, evaluated. Match's walk comes to what it says. Common: its walk. Common comes to what it says. Match: the hooks. The conditions of K51, evaluated. Match comes to what it says. Bindings that are valid; many; Put: what they come to. The conditions of K33, evaluated. Bindings that are valid, many, and both Puts come to what they say. Both Puts come to what they say. Conditions: none.
-/
import Derived.Test.YtnmolpkkemljoaaGreatDoorM10
import Derived.Test.YtnmolpkkemljoaaGreatDoorM8
import Derived.Test.YtnmolpkkemljoaaGreatDoorM11
import Derived.Test.YtnmolpkkemljoaaGreatDoorM6
set_option linter.unusedVariables false
set_option linter.unusedSimpArgs false
set_option maxHeartbeats 8000000
set_option maxRecDepth 100000
section
namespace Kd
open Go Go.Am Go.Proofs.YtnmolpkkemljoaaGreatDoor
def insB (x : Int × Ty) : List (Int × Ty) → List (Int × Ty)
 | [] => [x]
 | y :: l => if x.1 ≤ y.1 then x :: y :: l else y :: insB x l
def sortB : List (Int × Ty) → List (Int × Ty)
 | [] => []
 | x :: l => insB x (sortB l)
def bndE (x : Int × Ty × Nat) : Int × Ty := (x.1, x.2.1)
theorem insB_perm (x : Int × Ty) : ∀ l, (insB x l).Perm (x :: l)
 | [] => .refl _
 | y :: l => by
  unfold insB
  split
  ·exact .refl _
  ·exact ((insB_perm x l).cons y).trans (.swap ..)
theorem sortB_perm : ∀ l, (sortB l).Perm l
 | [] => .refl _
 | x :: l => (insB_perm x _).trans ((sortB_perm l).cons x)
theorem insB_sorted (x : Int × Ty) : ∀ l : List (Int × Ty), l.Pairwise (fun a b => a.1 ≤ b.1) → (insB x l).Pairwise (fun a b => a.1 ≤ b.1)
 | [], _ => by simp [insB]
 | y :: l, h => by
  rw [List.pairwise_cons] at h
  unfold insB
  split
  ·rename_i hxy
   rw [List.pairwise_cons, List.pairwise_cons]
   refine ⟨fun z hz => ?_, h.1, h.2⟩
   rcases List.mem_cons.1 hz with rfl | hz
   ·exact hxy
   ·exact Int.le_trans hxy (h.1 z hz)
  ·rename_i hxy
   rw [List.pairwise_cons]
   refine ⟨fun z hz => ?_, insB_sorted x l h.2⟩
   rcases List.mem_cons.1 ((insB_perm x l).mem_iff.1 hz) with rfl | hz
   ·omega
   ·exact h.1 z hz
theorem sortB_sorted : ∀ l, (sortB l).Pairwise (fun a b => a.1 ≤ b.1)
 | [] => .nil
 | x :: l => insB_sorted x _ (sortB_sorted l)
theorem sorted_one : ∀ {a b : List (Int × Ty)}, a.Perm b → a.Pairwise (fun x y => x.1 ≤ y.1) → b.Pairwise (fun x y => x.1 ≤ y.1) → (a.map (·.1)).Nodup → a = b
 | [], b, hp, _, _, _ => by simpa using hp.symm.eq_nil.symm
 | x :: a, b, hp, ha, hb, hn => by
  cases b with
  | nil => exact absurd hp.eq_nil (by simp)
  | cons y b =>
   have hxy : x = y := by
    rw [List.pairwise_cons] at ha hb
    rcases List.mem_cons.1 (hp.mem_iff.1 (List.mem_cons_self ..)) with h | h
    ·exact h
    ·rcases List.mem_cons.1 (hp.mem_iff.2 (List.mem_cons_self ..)) with h' | h'
     ·exact h'.symm
     ·have h1 := hb.1 x h
      have h2 := ha.1 y h'
      simp only [List.map_cons, List.nodup_cons] at hn
      exact absurd (List.mem_map.2 ⟨y, h', by show y.1 = x.1; omega⟩) hn.1
   subst hxy
   rw [List.pairwise_cons] at ha hb
   simp only [List.map_cons, List.nodup_cons] at hn
   rw [sorted_one (hp.cons_inv) ha.2 hb.2 hn.2]
theorem perm_lift {α β : Type} (f : α → β) {d l : List β} (h : d.Perm l) : ∀ p : List α, p.map f = l → ∃ p' : List α, p'.Perm p ∧ p'.map f = d := by
 induction h with
 | nil => intro p hp; exact ⟨p, .refl _, hp⟩
 | cons x h ih =>
  intro p hp
  cases p with
  | nil => simp at hp
  | cons a p =>
   simp only [List.map_cons, List.cons.injEq] at hp
   obtain ⟨p', h1, h2⟩ := ih p hp.2
   exact ⟨a :: p', h1.cons a, by simp [h2, hp.1]⟩
 | swap x y l =>
  intro p hp
  match p, hp with
  | a :: c :: p, hp =>
   simp only [List.map_cons, List.cons.injEq] at hp
   exact ⟨c :: a :: p, .swap .., by simp [hp]⟩
 | trans _ _ ih1 ih2 =>
  intro p hp
  obtain ⟨q, h1, h2⟩ := ih2 p hp
  obtain ⟨q', h3, h4⟩ := ih1 q h2
  exact ⟨q', h3.trans h1, h4⟩
end Kd
noncomputable section
namespace Go.Proofs.YtnmolpkkemljoaaGreatDoor
open Go Go.Am Kd Go.RowKit
structure EntR (S : Sh) (e : Int × Ty × Nat) (x : Ent) : Prop where
 n : x.n = e.1
 k : x.k = e.2.1.kind
 m : x.m = e.2.1.n
 b : x.born = e.2.2
 s : VRel S (.isl e.2.1.nl none 0 (encL e.2.1.l)) (.slice x.sp x.sl x.sc)
theorem isl_slice {S : Sh} {b : Bool} {fam : Option Nat} {off : Nat} {xs : List AV} {v : Value} (h : VRel S (.isl b fam off xs) v) : ∃ p n c, v = .slice p n c := by
 cases h <;> exact ⟨_, _, _, rfl⟩
theorem ents_of {S : Sh} : ∀ {es : List (Int × Ty × Nat)} {ms : List MapEntry}, MRel S (encM es) ms → (∀ e ∈ es, 0 ≤ e.1 ∧ e.1 < 1000) → ∃ p : List ((Int × Ty × Nat) × Ent), p.map (·.1) = es ∧ ms = (p.map (·.2)).map Ent.entry ∧ ∀ q ∈ p, EntR S q.1 q.2
 | [], ms, h, _ => by
  cases h
  exact ⟨[], rfl, rfl, fun q hq => by cases hq⟩
 | (n, t, b) :: es, ms, h, hn => by
  simp only [encM, List.map_cons, entM] at h
  cases h with
  | cons _ _ _ _ u v ms' h1 h2 h3 =>
   obtain ⟨p, h4, h5, h6⟩ := ents_of h3 fun e he => hn e (List.mem_cons_of_mem _ he)
   cases h1
   unfold encD at h2
   cases h2 with
   | agg _ vs hl =>
    cases hl with
    | cons _ _ _ _ g1 hl =>
     cases g1
     cases hl with
     | cons _ _ _ _ g2 hl =>
      cases g2
      cases hl with
      | cons _ _ _ _ g3 hl =>
       cases hl
       obtain ⟨sp, sl, sc, rfl⟩ := isl_slice g3
       have hb := hn (n, t, b) (List.mem_cons_self ..)
       exact ⟨((n, t, b), ⟨n, t.kind, t.n, sp, sl, sc, b, hb.1, hb.2⟩) :: p, by simp [h4], by simp [h5, Ent.entry], fun q hq => by
        rcases List.mem_cons.1 hq with rfl | hq
        ·exact ⟨rfl, rfl, rfl, rfl, g3⟩
        ·exact h6 q hq⟩
def okMap (es : List (Int × Ty × Nat)) (c : Nat) : Prop := (∀ e ∈ es, (0 ≤ e.1 ∧ e.1 < 1000) ∧ e.2.2 < c) ∧ (es.map (·.2.2)).Nodup ∧ (es.map (·.1)).Nodup ∧ es.length ≤ 1000
def listV (es : List (Int × Ty × Nat)) : AV := .isl (nilB es) none 0 (encB (sortB (es.map bndE)))
theorem bind_rel {S S1 : Sh} (him : ∀ b o u, S.im b o = some u → S1.im b o = some u) : ∀ (p : List ((Int × Ty × Nat) × Ent)), (∀ q ∈ p, EntR S q.1 q.2) → LRel S1 (flat ((p.map fun q => bndE q.1).map bindD)) ((p.map (·.2)).flatMap Ent.cells)
 | [], _ => .nil
 | q :: p, h => by
  have hq := h q (List.mem_cons_self ..)
  have ih := bind_rel him p fun x hx => h x (List.mem_cons_of_mem _ hx)
  have hs := hq.s.still him (by simp [AV.still, encL_still])
  have hfl : flat (((q :: p).map fun q => bndE q.1).map bindD) = [.int .i64 q.1.1, .int .i64 q.1.2.1.kind, .int .i64 q.1.2.1.n, .isl q.1.2.1.nl none 0 (encL q.1.2.1.l)] ++ flat ((p.map fun q => bndE q.1).map bindD) := rfl
  have hfm : ((q :: p).map (·.2)).flatMap Ent.cells = [.int .i64 q.2.n, .int .i64 q.2.k, .int .i64 q.2.m, .slice q.2.sp q.2.sl q.2.sc] ++ (p.map (·.2)).flatMap Ent.cells := rfl
  rw [hfl, hfm, hq.n, hq.k, hq.m]
  exact .cons _ _ _ _ (.int ..) (.cons _ _ _ _ (.int ..) (.cons _ _ _ _ (.int ..) (.cons _ _ _ _ hs ih)))
theorem list_ok {G : Gl} {A : AH} {b c : Nat} {es : List (Int × Ty × Nat)} (hb : A.blks[b]? = some (.map (encM es) c)) (ho : okMap es c) : FuncJ Tryz.prog G 59 [.map b] A fun o => o = ⟨.returned (listV es), A⟩ := by
 obtain ⟨ho1, ho2, ho3, ho4⟩ := ho
 refine FuncJ.fresh fun S w vs hi hl => ?_
 cases hl with
 | cons _ _ _ _ hv hl =>
  cases hl
  cases hv with
  | map _ a ha =>
  obtain ⟨a', o, s1, s2, s3⟩ := hi.blk b _ hb (by simp)
  obtain rfl := Option.some.inj (s1.symm.trans ha)
  cases s3 with
  | map _ _ ms hm =>
  obtain ⟨p, rfl, rfl, hp⟩ := ents_of hm fun e he => (ho1 e he).1
  have hborn : (p.map (·.2)).map (·.born) = (p.map (·.1)).map (·.2.2) := by
   rw [List.map_map, List.map_map]
   exact List.map_congr_left fun q hq => (hp q hq).b
  refine (list_run sort_says sort_none w a' (p.map (·.2)) c s2 (fun x hx => ?_) (by rw [hborn]; exact ho2) (by simpa using ho4)).mono ?_
  ·obtain ⟨q, hq, rfl⟩ := List.mem_map.1 hx
   rw [(hp q hq).b]
   exact (ho1 _ (List.mem_map.2 ⟨q, hq, rfl⟩)).2
  rintro e w' ⟨hbl, v, rfl, hL⟩
  refine ⟨hbl, v, rfl, ?_⟩
  rcases hL with ⟨h0, rfl⟩ | ⟨g, cap, cur, d, hne, rfl, hg, hcur, hcap, hperm, hsort, hcells⟩
  ·have : p = [] := by simpa using h0
   subst this
   exact ⟨w.heap.size, [], Nat.le_refl _, fun j u hu => by simp at hu, fun S1 _ _ => .islNil _ _⟩
  ·obtain ⟨p', hpp, rfl⟩ := perm_lift (·.2) hperm p rfl
   have hp' : ∀ q ∈ p', EntR S q.1 q.2 := fun q hq => hp q (hpp.mem_iff.1 hq)
   have hbs : sortB ((p.map (·.1)).map bndE) = p'.map fun q => bndE q.1 := by
    refine sorted_one ?_ (sortB_sorted _) ?_ ?_
    ·refine (sortB_perm _).trans ?_
     rw [List.map_map]
     exact (hpp.map _).symm
    ·rw [List.pairwise_map] at hsort ⊢
     refine hsort.imp_of_mem fun {x y} hx hy hxy => ?_
     rw [(hp' x hx).n, (hp' y hy).n] at hxy
     exact hxy
    ·refine ((sortB_perm _).map _).nodup_iff.2 ?_
     rw [List.map_map]
     exact ho3
   refine ⟨g, (p'.map (·.2)).flatMap Ent.cells, hg, fun j u hu => ?_, fun S1 him hnew => ?_⟩
   ·simp [World.cell?, hcur, hcells j u hu]
   ·have hrel := bind_rel him p' hp'
    have hne' : p ≠ [] := fun h => hne (by rw [h]; rfl)
    unfold listV
    rw [hbs]
    have hnil : nilB (p.map (·.1)) = false := by
     unfold nilB
     rw [decide_eq_false_iff_not, List.length_map, List.length_eq_zero_iff]
     exact hne'
    rw [hnil]
    have hlen : (p.map (·.2)).length = (encB (p'.map fun q => bndE q.1)).length := by
     simp only [encB, List.length_map]; exact hpp.length_eq.symm
    rw [hlen]
    refine VRel.isl none 0 _ 4 g 0 cap (by omega) ?_ (CRel.of_cells hrel fun j u hu => ?_) (by rw [← hlen]; exact hcap) (fun φ hφ => by cases hφ)
    ·intro x hx
     obtain ⟨y, _, rfl⟩ := List.mem_map.1 hx
     rfl
    ·rw [Nat.zero_add]; exact hnew j u hu
end Go.Proofs.YtnmolpkkemljoaaGreatDoor
end
end
section
namespace Kd
open Go.Am Go.Proofs.YtnmolpkkemljoaaGreatDoor
abbrev Es := List (Int × Ty × Nat)
def setM : Es → Int → Ty → Es
 | [], _, _ => []
 | x :: l, n, u => if n = x.1 then (x.1, u, x.2.2) :: l else x :: setM l n u
structure MR where
 ok : Bool
 es : Es
 c : Nat
mutual
def mtT : Ty → Ty → Es → Nat → MR
 | .mk k n _ l, v, es, c =>
  if k = 6 then
   match boundM es n with
   | some o => if sameB o v = true then ⟨true, setM es n (cleanT v), c⟩ else ⟨false, es, c⟩
   | none => ⟨true, es ++ [(n, cleanT v, c)], c + 1⟩
  else if k = v.kind then mtL l v.l es c
  else ⟨false, es, c⟩
def mtL : List Ty → List Ty → Es → Nat → MR
 | x :: xs, y :: ys, es, c => if (mtT x y es c).ok = true then mtL xs ys (mtT x y es c).es (mtT x y es c).c else ⟨false, (mtT x y es c).es, (mtT x y es c).c⟩
 | _, _, es, c => ⟨true, es, c⟩
end
def mtB (t u : Ty) (es : Es) (c : Nat) : Bool := (mtT t u es c).ok
def mtE (t u : Ty) (es : Es) (c : Nat) : Es := (mtT t u es c).es
def mtC (t u : Ty) (es : Es) (c : Nat) : Nat := (mtT t u es c).c
end Kd
noncomputable section
namespace Go.Proofs.YtnmolpkkemljoaaGreatDoor
open Go Go.Am Kd
def mtA (es : Es) (c : Nat) : AH := ⟨[top3, top3, .cells [.top] 28, top3, top3, .map (encM es) c, .cells [.map 5] 74, .cells [.fn (.func 65) [] [.ptr 6 0, .ptr 7 0]] 83], []⟩
def argMt (A : AH) (K : Es → Nat → Prop) : Prop :=
 match nthR A.blks 5 with
 | some (.map m c) => ∃ es, m = encM es ∧ K es c
 | _ => False
def mwalkH (N : Nat) : HSpec := fun args A K =>
 match args with
 | [t, u, .ptr 6 0, .ptr 7 0] => argTy t fun t => argTy u fun u => argMt A fun es c => (SizeOf.sizeOf t < N ∧ okT t = true ∧ okT u = true ∧ okMs es ∧ cnt u ≤ 100) ∧
   onR 0 A (mtA es c) (bothR (mtB t u es c) (K ⟨.returned (.tup []), (mtA (mtE t u es c) (mtC t u es c)).onto A⟩) (K ⟨.panicked (stopC 15), (mtA (mtE t u es c) (mtC t u es c)).onto A⟩))
 | _ => False
def mwalkH0 : HSpec := fun args A K =>
 match args with
 | [t, u, .ptr 6 0, .ptr 7 0] => argTy t fun t => argTy u fun u => argMt A fun es c => (okT t = true ∧ okT u = true ∧ okMs es ∧ cnt u ≤ 100) ∧
   onR 0 A (mtA es c) (bothR (mtB t u es c) (K ⟨.returned (.tup []), (mtA (mtE t u es c) (mtC t u es c)).onto A⟩) (K ⟨.panicked (stopC 15), (mtA (mtE t u es c) (mtC t u es c)).onto A⟩))
 | _ => False
def mwHk (N : Nat) : Hooks := mkHooks Tryz.prog [(67, eqQ0), (68, kclQ0)] [(65, mwalkH N)] []
end Go.Proofs.YtnmolpkkemljoaaGreatDoor
end
end
section
noncomputable section
namespace Go.Proofs.YtnmolpkkemljoaaGreatDoor
open Go Go.Am Kd Go.Am.AV Go.IntKind
theorem mw_0 (es es' : Es) (c c' : Nat) (k n : Int) (b : Bool) (v : Ty) (N : Nat) (e : AEnd) : (runF (mwHk N) 60 65 [.agg [.int .i64 k, .int .i64 n, .isl b none 0 []], encD v, .ptr 6 0, .ptr 7 0] (mtA es c) (hpIs 0 e (mtA es' c'))) = ( bothR (decide (k = (6 : Int))) ((keyFind (int i64 n) (encM es) 0 = some none ∧ ∃ l, encL (Ty.l v) = encL l ∧ okT (Ty.mk (Ty.kind v) (Ty.n v) (Ty.nl v) l) = true ∧ (keyFind (int i64 n) (encM es) 0 = some none ∧ AEnd.returned (tup []) = e ∧ 24 = 24 ∧ 24 = 24 ∧ 28 = 28 ∧ 24 = 24 ∧ 24 = 24 ∧ encM es ++ [(int i64 n, agg
 [int i64 (Ty.kind (cleanT (Ty.mk (Ty.kind v) (Ty.n v) (Ty.nl v) l))), int i64 (Ty.n (cleanT (Ty.mk (Ty.kind v) (Ty.n v) (Ty.nl v) l))), isl (Ty.nl (cleanT (Ty.mk (Ty.kind v) (Ty.n v) (Ty.nl v) l))) none (0) (encL (Ty.l (cleanT (Ty.mk (Ty.kind v) (Ty.n v) (Ty.nl v) l))))], c)] = encM es' ∧ c + 1 = c' ∧ 74 = 74 ∧ SubR [AV.map (5)] [AV.map (5)] (83 = 83 ∧ SubR [AV.fn (Fn.func (65)) [] [ptr (6) (0), ptr (7) (0)]] [AV.fn (Fn.func (65)) [] [ptr (6) (0), ptr (7) (0)]] (0 = 0 ∧ True)) ∨ ∃ j y c_1, keyFind (int i64 n) (encM es) 0 = some (some (j, y)) ∧
 (encM es)[j]? = some (int i64 n, y, c_1) ∧ AEnd.returned (tup []) = e ∧ 24 = 24 ∧ 24 = 24 ∧ 28 = 28 ∧ 24 = 24 ∧ 24 = 24 ∧ List.set (encM es) j (int i64 n, agg [int i64 (Ty.kind (cleanT (Ty.mk (Ty.kind v) (Ty.n v) (Ty.nl v) l))), int i64 (Ty.n (cleanT (Ty.mk (Ty.kind v) (Ty.n v) (Ty.nl v) l))), isl (Ty.nl (cleanT (Ty.mk (Ty.kind v) (Ty.n v) (Ty.nl v) l))) none (0) (encL (Ty.l (cleanT (Ty.mk (Ty.kind v) (Ty.n v) (Ty.nl v) l))))], c_1) = encM es' ∧ c = c' ∧ 74 = 74 ∧ SubR [AV.map (5)] [AV.map (5)] (83 = 83 ∧
 SubR [AV.fn (Fn.func (65)) [] [ptr (6) (0), ptr (7) (0)]] [AV.fn (Fn.func (65)) [] [ptr (6) (0), ptr (7) (0)]] (0 = 0 ∧ True)))) ∨ ∃ j x, keyFind (int i64 n) (encM es) 0 = some (some (j, agg [int i64 (Ty.kind x), int i64 (Ty.n x), isl (Ty.nl x) none (0) (encL (Ty.l x))])) ∧ ∃ l, encL (Ty.l x) = encL l ∧ ∃ l_1, encL (Ty.l v) = encL l_1 ∧ (okT (Ty.mk (Ty.kind x) (Ty.n x) (Ty.nl x) l) = true ∧ okT (Ty.mk (Ty.kind v) (Ty.n v) (Ty.nl v) l_1) = true) ∧
 bothR (!sameB (Ty.mk (Ty.kind x) (Ty.n x) (Ty.nl x) l) (Ty.mk (Ty.kind v) (Ty.n v) (Ty.nl v) l_1)) (AEnd.panicked [(AV.iface (117) (agg [int i64 (15)]), false)] = e ∧ 24 = 24 ∧ 24 = 24 ∧ 28 = 28 ∧ 24 = 24 ∧ 24 = 24 ∧ encM es = encM es' ∧ c = c' ∧ 74 = 74 ∧ SubR [AV.map (5)] [AV.map (5)] (83 = 83 ∧ SubR [AV.fn (Fn.func (65)) [] [ptr (6) (0), ptr (7) (0)]] [AV.fn (Fn.func (65)) [] [ptr (6) (0), ptr (7) (0)]] (0 = 0 ∧ True))) (∃ l, encL (Ty.l v) = encL l ∧ okT (Ty.mk (Ty.kind v) (Ty.n v) (Ty.nl v) l) = true ∧ (keyFind (int i64 n) (encM es) 0 = some none ∧
 AEnd.returned (tup []) = e ∧ 24 = 24 ∧ 24 = 24 ∧ 28 = 28 ∧ 24 = 24 ∧ 24 = 24 ∧ encM es ++ [(int i64 n, agg [int i64 (Ty.kind (cleanT (Ty.mk (Ty.kind v) (Ty.n v) (Ty.nl v) l))), int i64 (Ty.n (cleanT (Ty.mk (Ty.kind v) (Ty.n v) (Ty.nl v) l))), isl (Ty.nl (cleanT (Ty.mk (Ty.kind v) (Ty.n v) (Ty.nl v) l))) none (0) (encL (Ty.l (cleanT (Ty.mk (Ty.kind v) (Ty.n v) (Ty.nl v) l))))], c)] = encM es' ∧ c + 1 = c' ∧ 74 = 74 ∧ SubR [AV.map (5)] [AV.map (5)] (83 = 83 ∧ SubR [AV.fn (Fn.func (65)) [] [ptr (6) (0), ptr (7) (0)]]
 [AV.fn (Fn.func (65)) [] [ptr (6) (0), ptr (7) (0)]] (0 = 0 ∧ True)) ∨ ∃ j y c_1, keyFind (int i64 n) (encM es) 0 = some (some (j, y)) ∧ (encM es)[j]? = some (int i64 n, y, c_1) ∧ AEnd.returned (tup []) = e ∧ 24 = 24 ∧ 24 = 24 ∧ 28 = 28 ∧ 24 = 24 ∧ 24 = 24 ∧ List.set (encM es) j (int i64 n, agg [int i64 (Ty.kind (cleanT (Ty.mk (Ty.kind v) (Ty.n v) (Ty.nl v) l))), int i64 (Ty.n (cleanT (Ty.mk (Ty.kind v) (Ty.n v) (Ty.nl v) l))), isl (Ty.nl (cleanT (Ty.mk (Ty.kind v) (Ty.n v) (Ty.nl v) l))) none (0)
 (encL (Ty.l (cleanT (Ty.mk (Ty.kind v) (Ty.n v) (Ty.nl v) l))))], c_1) = encM es' ∧ c = c' ∧ 74 = 74 ∧ SubR [AV.map (5)] [AV.map (5)] (83 = 83 ∧ SubR [AV.fn (Fn.func (65)) [] [ptr (6) (0), ptr (7) (0)]] [AV.fn (Fn.func (65)) [] [ptr (6) (0), ptr (7) (0)]] (0 = 0 ∧ True))))) (bothR (!decide (k = Ty.kind v)) (AEnd.panicked [(AV.iface (117) (agg [int i64 (15)]), false)] = e ∧ 24 = 24 ∧ 24 = 24 ∧ 28 = 28 ∧ 24 = 24 ∧ 24 = 24 ∧ encM es = encM es' ∧ c = c' ∧ 74 = 74 ∧ SubR [AV.map (5)] [AV.map (5)] (83 = 83 ∧ SubR [AV.fn (Fn.func (65)) [] [ptr (6) (0), ptr (7) (0)]]
 [AV.fn (Fn.func (65)) [] [ptr (6) (0), ptr (7) (0)]] (0 = 0 ∧ True))) (AEnd.returned (tup []) = e ∧ 24 = 24 ∧ 24 = 24 ∧ 28 = 28 ∧ 24 = 24 ∧ 24 = 24 ∧ encM es = encM es' ∧ c = c' ∧ 74 = 74 ∧ SubR [AV.map (5)] [AV.map (5)] (83 = 83 ∧ SubR [AV.fn (Fn.func (65)) [] [ptr (6) (0), ptr (7) (0)]] [AV.fn (Fn.func (65)) [] [ptr (6) (0), ptr (7) (0)]] (0 = 0 ∧ True))))) := by kernel_rfl
theorem mw_1 (es es' : Es) (c c' : Nat) (k n : Int) (b : Bool) (x : Ty) (v : Ty) (N : Nat) (e : AEnd) : (runF (mwHk N) 60 65 [.agg [.int .i64 k, .int .i64 n, .isl b none 0 [encD x]], encD v, .ptr 6 0, .ptr 7 0] (mtA es c) (hpIs 0 e (mtA es' c'))) = ( bothR (decide (k = (6 : Int))) ((keyFind (int i64 n) (encM es) 0 = some none ∧ ∃ l, encL (Ty.l v) = encL l ∧ okT (Ty.mk (Ty.kind v) (Ty.n v) (Ty.nl v) l) = true ∧ (keyFind (int i64 n) (encM es) 0 = some none ∧ AEnd.returned (tup []) = e ∧ 24 = 24 ∧ 24 = 24 ∧ 28 = 28 ∧ 24 = 24 ∧ 24 = 24 ∧ encM es ++ [(int i64 n,
 agg [int i64 (Ty.kind (cleanT (Ty.mk (Ty.kind v) (Ty.n v) (Ty.nl v) l))), int i64 (Ty.n (cleanT (Ty.mk (Ty.kind v) (Ty.n v) (Ty.nl v) l))), isl (Ty.nl (cleanT (Ty.mk (Ty.kind v) (Ty.n v) (Ty.nl v) l))) none (0) (encL (Ty.l (cleanT (Ty.mk (Ty.kind v) (Ty.n v) (Ty.nl v) l))))], c)] = encM es' ∧ c + 1 = c' ∧ 74 = 74 ∧ SubR [AV.map (5)] [AV.map (5)] (83 = 83 ∧ SubR [AV.fn (Fn.func (65)) [] [ptr (6) (0), ptr (7) (0)]] [AV.fn (Fn.func (65)) [] [ptr (6) (0), ptr (7) (0)]] (0 = 0 ∧ True)) ∨ ∃ j y c_1,
 keyFind (int i64 n) (encM es) 0 = some (some (j, y)) ∧ (encM es)[j]? = some (int i64 n, y, c_1) ∧ AEnd.returned (tup []) = e ∧ 24 = 24 ∧ 24 = 24 ∧ 28 = 28 ∧ 24 = 24 ∧ 24 = 24 ∧ List.set (encM es) j (int i64 n, agg [int i64 (Ty.kind (cleanT (Ty.mk (Ty.kind v) (Ty.n v) (Ty.nl v) l))), int i64 (Ty.n (cleanT (Ty.mk (Ty.kind v) (Ty.n v) (Ty.nl v) l))), isl (Ty.nl (cleanT (Ty.mk (Ty.kind v) (Ty.n v) (Ty.nl v) l))) none (0) (encL (Ty.l (cleanT (Ty.mk (Ty.kind v) (Ty.n v) (Ty.nl v) l))))], c_1) = encM es' ∧ c = c' ∧ 74 = 74 ∧
 SubR [AV.map (5)] [AV.map (5)] (83 = 83 ∧ SubR [AV.fn (Fn.func (65)) [] [ptr (6) (0), ptr (7) (0)]] [AV.fn (Fn.func (65)) [] [ptr (6) (0), ptr (7) (0)]] (0 = 0 ∧ True)))) ∨ ∃ j x, keyFind (int i64 n) (encM es) 0 = some (some (j, agg [int i64 (Ty.kind x), int i64 (Ty.n x), isl (Ty.nl x) none (0) (encL (Ty.l x))])) ∧ ∃ l, encL (Ty.l x) = encL l ∧ ∃ l_1, encL (Ty.l v) = encL l_1 ∧ (okT (Ty.mk (Ty.kind x) (Ty.n x) (Ty.nl x) l) = true ∧ okT (Ty.mk (Ty.kind v) (Ty.n v) (Ty.nl v) l_1) = true) ∧
 bothR (!sameB (Ty.mk (Ty.kind x) (Ty.n x) (Ty.nl x) l) (Ty.mk (Ty.kind v) (Ty.n v) (Ty.nl v) l_1)) (AEnd.panicked [(AV.iface (117) (agg [int i64 (15)]), false)] = e ∧ 24 = 24 ∧ 24 = 24 ∧ 28 = 28 ∧ 24 = 24 ∧ 24 = 24 ∧ encM es = encM es' ∧ c = c' ∧ 74 = 74 ∧ SubR [AV.map (5)] [AV.map (5)] (83 = 83 ∧ SubR [AV.fn (Fn.func (65)) [] [ptr (6) (0), ptr (7) (0)]] [AV.fn (Fn.func (65)) [] [ptr (6) (0), ptr (7) (0)]] (0 = 0 ∧ True))) (∃ l, encL (Ty.l v) = encL l ∧ okT (Ty.mk (Ty.kind v) (Ty.n v) (Ty.nl v) l) = true ∧ (keyFind (int i64 n) (encM es) 0 = some none ∧
 AEnd.returned (tup []) = e ∧ 24 = 24 ∧ 24 = 24 ∧ 28 = 28 ∧ 24 = 24 ∧ 24 = 24 ∧ encM es ++ [(int i64 n, agg [int i64 (Ty.kind (cleanT (Ty.mk (Ty.kind v) (Ty.n v) (Ty.nl v) l))), int i64 (Ty.n (cleanT (Ty.mk (Ty.kind v) (Ty.n v) (Ty.nl v) l))), isl (Ty.nl (cleanT (Ty.mk (Ty.kind v) (Ty.n v) (Ty.nl v) l))) none (0) (encL (Ty.l (cleanT (Ty.mk (Ty.kind v) (Ty.n v) (Ty.nl v) l))))], c)] = encM es' ∧ c + 1 = c' ∧ 74 = 74 ∧ SubR [AV.map (5)] [AV.map (5)] (83 = 83 ∧ SubR [AV.fn (Fn.func (65)) [] [ptr (6) (0), ptr (7) (0)]]
 [AV.fn (Fn.func (65)) [] [ptr (6) (0), ptr (7) (0)]] (0 = 0 ∧ True)) ∨ ∃ j y c_1, keyFind (int i64 n) (encM es) 0 = some (some (j, y)) ∧ (encM es)[j]? = some (int i64 n, y, c_1) ∧ AEnd.returned (tup []) = e ∧ 24 = 24 ∧ 24 = 24 ∧ 28 = 28 ∧ 24 = 24 ∧ 24 = 24 ∧ List.set (encM es) j (int i64 n, agg [int i64 (Ty.kind (cleanT (Ty.mk (Ty.kind v) (Ty.n v) (Ty.nl v) l))), int i64 (Ty.n (cleanT (Ty.mk (Ty.kind v) (Ty.n v) (Ty.nl v) l))), isl (Ty.nl (cleanT (Ty.mk (Ty.kind v) (Ty.n v) (Ty.nl v) l))) none (0)
 (encL (Ty.l (cleanT (Ty.mk (Ty.kind v) (Ty.n v) (Ty.nl v) l))))], c_1) = encM es' ∧ c = c' ∧ 74 = 74 ∧ SubR [AV.map (5)] [AV.map (5)] (83 = 83 ∧ SubR [AV.fn (Fn.func (65)) [] [ptr (6) (0), ptr (7) (0)]] [AV.fn (Fn.func (65)) [] [ptr (6) (0), ptr (7) (0)]] (0 = 0 ∧ True))))) (bothR (!decide (k = Ty.kind v)) (AEnd.panicked [(AV.iface (117) (agg [int i64 (15)]), false)] = e ∧ 24 = 24 ∧ 24 = 24 ∧ 28 = 28 ∧ 24 = 24 ∧ 24 = 24 ∧ encM es = encM es' ∧ c = c' ∧ 74 = 74 ∧ SubR [AV.map (5)] [AV.map (5)] (83 = 83 ∧ SubR [AV.fn (Fn.func (65)) [] [ptr (6) (0), ptr (7) (0)]]
 [AV.fn (Fn.func (65)) [] [ptr (6) (0), ptr (7) (0)]] (0 = 0 ∧ True))) (Int.NonNeg (0) ∧ ∃ x_1, some (agg [int i64 (Ty.kind x), int i64 (Ty.n x), isl (Ty.nl x) none (0) (encL (Ty.l x))]) = some (agg [int i64 (Ty.kind x_1), int i64 (Ty.n x_1), isl (Ty.nl x_1) none (0) (encL (Ty.l x_1))]) ∧ Int.NonNeg (0) ∧ ∃ x, (encL (Ty.l v))[0]? = some (agg [int i64 (Ty.kind x), int i64 (Ty.n x), isl (Ty.nl x) none (0) (encL (Ty.l x))]) ∧ ∃ l, encL (Ty.l x_1) = encL l ∧ ∃ l_1, encL (Ty.l x) = encL l_1 ∧ ∃ es_1,
 encM es = encM es_1 ∧ (SizeOf.sizeOf (Ty.mk (Ty.kind x_1) (Ty.n x_1) (Ty.nl x_1) l) < N ∧ okT (Ty.mk (Ty.kind x_1) (Ty.n x_1) (Ty.nl x_1) l) = true ∧ okT (Ty.mk (Ty.kind x) (Ty.n x) (Ty.nl x) l_1) = true ∧ okMs es_1 ∧ cnt (Ty.mk (Ty.kind x) (Ty.n x) (Ty.nl x) l_1) ≤ 100) ∧ 24 = 24 ∧ 24 = 24 ∧ 28 = 28 ∧ 24 = 24 ∧ 24 = 24 ∧ encM es = encM es_1 ∧ c = c ∧ 74 = 74 ∧ SubR [AV.map (5)] [AV.map (5)] (83 = 83 ∧ SubR [AV.fn (Fn.func (65)) [] [ptr (6) (0), ptr (7) (0)]] [AV.fn (Fn.func (65)) [] [ptr (6) (0), ptr (7) (0)]] (0 = 0 ∧
 bothR (mtB (Ty.mk (Ty.kind x_1) (Ty.n x_1) (Ty.nl x_1) l) (Ty.mk (Ty.kind x) (Ty.n x) (Ty.nl x) l_1) es_1 c) (AEnd.returned (tup []) = e ∧ 24 = 24 ∧ 24 = 24 ∧ 28 = 28 ∧ 24 = 24 ∧ 24 = 24 ∧ encM (mtE (Ty.mk (Ty.kind x_1) (Ty.n x_1) (Ty.nl x_1) l) (Ty.mk (Ty.kind x) (Ty.n x) (Ty.nl x) l_1) es_1 c) = encM es' ∧ mtC (Ty.mk (Ty.kind x_1) (Ty.n x_1) (Ty.nl x_1) l) (Ty.mk (Ty.kind x) (Ty.n x) (Ty.nl x) l_1) es_1 c = c' ∧ 74 = 74 ∧ SubR [AV.map (5)] [AV.map (5)] (83 = 83 ∧ SubR [AV.fn (Fn.func (65)) [] [ptr (6) (0), ptr (7) (0)]] [AV.fn (Fn.func (65)) [] [ptr (6) (0), ptr (7) (0)]]
 (0 = 0 ∧ True))) (AEnd.panicked [(AV.iface (117) (agg [int i64 (15)]), false)] = e ∧ 24 = 24 ∧ 24 = 24 ∧ 28 = 28 ∧ 24 = 24 ∧ 24 = 24 ∧ encM (mtE (Ty.mk (Ty.kind x_1) (Ty.n x_1) (Ty.nl x_1) l) (Ty.mk (Ty.kind x) (Ty.n x) (Ty.nl x) l_1) es_1 c) = encM es' ∧ mtC (Ty.mk (Ty.kind x_1) (Ty.n x_1) (Ty.nl x_1) l) (Ty.mk (Ty.kind x) (Ty.n x) (Ty.nl x) l_1) es_1 c = c' ∧ 74 = 74 ∧ SubR [AV.map (5)] [AV.map (5)] (83 = 83 ∧ SubR [AV.fn (Fn.func (65)) [] [ptr (6) (0), ptr (7) (0)]] [AV.fn (Fn.func (65)) [] [ptr (6) (0), ptr (7) (0)]] (0 = 0 ∧ True)))))))) := by kernel_rfl
theorem mw_2 (es es' : Es) (c c' : Nat) (k n : Int) (b : Bool) (x y : Ty) (v : Ty) (N : Nat) (e : AEnd) : (runF (mwHk N) 60 65 [.agg [.int .i64 k, .int .i64 n, .isl b none 0 [encD x, encD y]], encD v, .ptr 6 0, .ptr 7 0] (mtA es c) (hpIs 0 e (mtA es' c'))) = ( bothR (decide (k = (6 : Int))) ((keyFind (int i64 n) (encM es) 0 = some none ∧ ∃ l, encL (Ty.l v) = encL l ∧ okT (Ty.mk (Ty.kind v) (Ty.n v) (Ty.nl v) l) = true ∧ (keyFind (int i64 n) (encM es) 0 = some none ∧ AEnd.returned (tup []) = e ∧ 24 = 24 ∧ 24 = 24 ∧ 28 = 28 ∧ 24 = 24 ∧ 24 = 24 ∧ encM es ++
 [(int i64 n, agg [int i64 (Ty.kind (cleanT (Ty.mk (Ty.kind v) (Ty.n v) (Ty.nl v) l))), int i64 (Ty.n (cleanT (Ty.mk (Ty.kind v) (Ty.n v) (Ty.nl v) l))), isl (Ty.nl (cleanT (Ty.mk (Ty.kind v) (Ty.n v) (Ty.nl v) l))) none (0) (encL (Ty.l (cleanT (Ty.mk (Ty.kind v) (Ty.n v) (Ty.nl v) l))))], c)] = encM es' ∧ c + 1 = c' ∧ 74 = 74 ∧ SubR [AV.map (5)] [AV.map (5)] (83 = 83 ∧ SubR [AV.fn (Fn.func (65)) [] [ptr (6) (0), ptr (7) (0)]] [AV.fn (Fn.func (65)) [] [ptr (6) (0), ptr (7) (0)]] (0 = 0 ∧ True)) ∨ ∃ j y c_1,
 keyFind (int i64 n) (encM es) 0 = some (some (j, y)) ∧ (encM es)[j]? = some (int i64 n, y, c_1) ∧ AEnd.returned (tup []) = e ∧ 24 = 24 ∧ 24 = 24 ∧ 28 = 28 ∧ 24 = 24 ∧ 24 = 24 ∧ List.set (encM es) j (int i64 n, agg [int i64 (Ty.kind (cleanT (Ty.mk (Ty.kind v) (Ty.n v) (Ty.nl v) l))), int i64 (Ty.n (cleanT (Ty.mk (Ty.kind v) (Ty.n v) (Ty.nl v) l))), isl (Ty.nl (cleanT (Ty.mk (Ty.kind v) (Ty.n v) (Ty.nl v) l))) none (0) (encL (Ty.l (cleanT (Ty.mk (Ty.kind v) (Ty.n v) (Ty.nl v) l))))], c_1) = encM es' ∧ c = c' ∧ 74 = 74 ∧
 SubR [AV.map (5)] [AV.map (5)] (83 = 83 ∧ SubR [AV.fn (Fn.func (65)) [] [ptr (6) (0), ptr (7) (0)]] [AV.fn (Fn.func (65)) [] [ptr (6) (0), ptr (7) (0)]] (0 = 0 ∧ True)))) ∨ ∃ j x, keyFind (int i64 n) (encM es) 0 = some (some (j, agg [int i64 (Ty.kind x), int i64 (Ty.n x), isl (Ty.nl x) none (0) (encL (Ty.l x))])) ∧ ∃ l, encL (Ty.l x) = encL l ∧ ∃ l_1, encL (Ty.l v) = encL l_1 ∧ (okT (Ty.mk (Ty.kind x) (Ty.n x) (Ty.nl x) l) = true ∧ okT (Ty.mk (Ty.kind v) (Ty.n v) (Ty.nl v) l_1) = true) ∧
 bothR (!sameB (Ty.mk (Ty.kind x) (Ty.n x) (Ty.nl x) l) (Ty.mk (Ty.kind v) (Ty.n v) (Ty.nl v) l_1)) (AEnd.panicked [(AV.iface (117) (agg [int i64 (15)]), false)] = e ∧ 24 = 24 ∧ 24 = 24 ∧ 28 = 28 ∧ 24 = 24 ∧ 24 = 24 ∧ encM es = encM es' ∧ c = c' ∧ 74 = 74 ∧ SubR [AV.map (5)] [AV.map (5)] (83 = 83 ∧ SubR [AV.fn (Fn.func (65)) [] [ptr (6) (0), ptr (7) (0)]] [AV.fn (Fn.func (65)) [] [ptr (6) (0), ptr (7) (0)]] (0 = 0 ∧ True))) (∃ l, encL (Ty.l v) = encL l ∧ okT (Ty.mk (Ty.kind v) (Ty.n v) (Ty.nl v) l) = true ∧ (keyFind (int i64 n) (encM es) 0 = some none ∧
 AEnd.returned (tup []) = e ∧ 24 = 24 ∧ 24 = 24 ∧ 28 = 28 ∧ 24 = 24 ∧ 24 = 24 ∧ encM es ++ [(int i64 n, agg [int i64 (Ty.kind (cleanT (Ty.mk (Ty.kind v) (Ty.n v) (Ty.nl v) l))), int i64 (Ty.n (cleanT (Ty.mk (Ty.kind v) (Ty.n v) (Ty.nl v) l))), isl (Ty.nl (cleanT (Ty.mk (Ty.kind v) (Ty.n v) (Ty.nl v) l))) none (0) (encL (Ty.l (cleanT (Ty.mk (Ty.kind v) (Ty.n v) (Ty.nl v) l))))], c)] = encM es' ∧ c + 1 = c' ∧ 74 = 74 ∧ SubR [AV.map (5)] [AV.map (5)] (83 = 83 ∧ SubR [AV.fn (Fn.func (65)) [] [ptr (6) (0), ptr (7) (0)]]
 [AV.fn (Fn.func (65)) [] [ptr (6) (0), ptr (7) (0)]] (0 = 0 ∧ True)) ∨ ∃ j y c_1, keyFind (int i64 n) (encM es) 0 = some (some (j, y)) ∧ (encM es)[j]? = some (int i64 n, y, c_1) ∧ AEnd.returned (tup []) = e ∧ 24 = 24 ∧ 24 = 24 ∧ 28 = 28 ∧ 24 = 24 ∧ 24 = 24 ∧ List.set (encM es) j (int i64 n, agg [int i64 (Ty.kind (cleanT (Ty.mk (Ty.kind v) (Ty.n v) (Ty.nl v) l))), int i64 (Ty.n (cleanT (Ty.mk (Ty.kind v) (Ty.n v) (Ty.nl v) l))), isl (Ty.nl (cleanT (Ty.mk (Ty.kind v) (Ty.n v) (Ty.nl v) l))) none (0)
 (encL (Ty.l (cleanT (Ty.mk (Ty.kind v) (Ty.n v) (Ty.nl v) l))))], c_1) = encM es' ∧ c = c' ∧ 74 = 74 ∧ SubR [AV.map (5)] [AV.map (5)] (83 = 83 ∧ SubR [AV.fn (Fn.func (65)) [] [ptr (6) (0), ptr (7) (0)]] [AV.fn (Fn.func (65)) [] [ptr (6) (0), ptr (7) (0)]] (0 = 0 ∧ True))))) (bothR (!decide (k = Ty.kind v)) (AEnd.panicked [(AV.iface (117) (agg [int i64 (15)]), false)] = e ∧ 24 = 24 ∧ 24 = 24 ∧ 28 = 28 ∧ 24 = 24 ∧ 24 = 24 ∧ encM es = encM es' ∧ c = c' ∧ 74 = 74 ∧ SubR [AV.map (5)] [AV.map (5)] (83 = 83 ∧ SubR [AV.fn (Fn.func (65)) [] [ptr (6) (0), ptr (7) (0)]]
 [AV.fn (Fn.func (65)) [] [ptr (6) (0), ptr (7) (0)]] (0 = 0 ∧ True))) (Int.NonNeg (0) ∧ ∃ x_1, some (agg [int i64 (Ty.kind x), int i64 (Ty.n x), isl (Ty.nl x) none (0) (encL (Ty.l x))]) = some (agg [int i64 (Ty.kind x_1), int i64 (Ty.n x_1), isl (Ty.nl x_1) none (0) (encL (Ty.l x_1))]) ∧ Int.NonNeg (0) ∧ ∃ x, (encL (Ty.l v))[0]? = some (agg [int i64 (Ty.kind x), int i64 (Ty.n x), isl (Ty.nl x) none (0) (encL (Ty.l x))]) ∧ ∃ l, encL (Ty.l x_1) = encL l ∧ ∃ l_1, encL (Ty.l x) = encL l_1 ∧ ∃ es_1,
 encM es = encM es_1 ∧ (SizeOf.sizeOf (Ty.mk (Ty.kind x_1) (Ty.n x_1) (Ty.nl x_1) l) < N ∧ okT (Ty.mk (Ty.kind x_1) (Ty.n x_1) (Ty.nl x_1) l) = true ∧ okT (Ty.mk (Ty.kind x) (Ty.n x) (Ty.nl x) l_1) = true ∧ okMs es_1 ∧ cnt (Ty.mk (Ty.kind x) (Ty.n x) (Ty.nl x) l_1) ≤ 100) ∧ 24 = 24 ∧ 24 = 24 ∧ 28 = 28 ∧ 24 = 24 ∧ 24 = 24 ∧ encM es = encM es_1 ∧ c = c ∧ 74 = 74 ∧ SubR [AV.map (5)] [AV.map (5)] (83 = 83 ∧ SubR [AV.fn (Fn.func (65)) [] [ptr (6) (0), ptr (7) (0)]] [AV.fn (Fn.func (65)) [] [ptr (6) (0), ptr (7) (0)]] (0 = 0 ∧
 bothR (mtB (Ty.mk (Ty.kind x_1) (Ty.n x_1) (Ty.nl x_1) l) (Ty.mk (Ty.kind x) (Ty.n x) (Ty.nl x) l_1) es_1 c) (Int.NonNeg (1) ∧ ∃ x_2, some (agg [int i64 (Ty.kind y), int i64 (Ty.n y), isl (Ty.nl y) none (0) (encL (Ty.l y))]) = some (agg [int i64 (Ty.kind x_2), int i64 (Ty.n x_2), isl (Ty.nl x_2) none (0) (encL (Ty.l x_2))]) ∧ Int.NonNeg (1) ∧ ∃ x_3, (encL (Ty.l v))[1]? = some (agg [int i64 (Ty.kind x_3), int i64 (Ty.n x_3), isl (Ty.nl x_3) none (0) (encL (Ty.l x_3))]) ∧ ∃ l_2, encL (Ty.l x_2) = encL l_2 ∧
 ∃ l_3, encL (Ty.l x_3) = encL l_3 ∧ ∃ es, encM (mtE (Ty.mk (Ty.kind x_1) (Ty.n x_1) (Ty.nl x_1) l) (Ty.mk (Ty.kind x) (Ty.n x) (Ty.nl x) l_1) es_1 c) = encM es ∧ (SizeOf.sizeOf (Ty.mk (Ty.kind x_2) (Ty.n x_2) (Ty.nl x_2) l_2) < N ∧ okT (Ty.mk (Ty.kind x_2) (Ty.n x_2) (Ty.nl x_2) l_2) = true ∧ okT (Ty.mk (Ty.kind x_3) (Ty.n x_3) (Ty.nl x_3) l_3) = true ∧ okMs es ∧ cnt (Ty.mk (Ty.kind x_3) (Ty.n x_3) (Ty.nl x_3) l_3) ≤ 100) ∧ 24 = 24 ∧ 24 = 24 ∧ 28 = 28 ∧ 24 = 24 ∧ 24 = 24 ∧ encM (mtE (Ty.mk (Ty.kind x_1) (Ty.n x_1) (Ty.nl x_1) l) (Ty.mk (Ty.kind x) (Ty.n x) (Ty.nl x) l_1) es_1 c) = encM es ∧
 mtC (Ty.mk (Ty.kind x_1) (Ty.n x_1) (Ty.nl x_1) l) (Ty.mk (Ty.kind x) (Ty.n x) (Ty.nl x) l_1) es_1 c = mtC (Ty.mk (Ty.kind x_1) (Ty.n x_1) (Ty.nl x_1) l) (Ty.mk (Ty.kind x) (Ty.n x) (Ty.nl x) l_1) es_1 c ∧ 74 = 74 ∧ SubR [AV.map (5)] [AV.map (5)] (83 = 83 ∧ SubR [AV.fn (Fn.func (65)) [] [ptr (6) (0), ptr (7) (0)]] [AV.fn (Fn.func (65)) [] [ptr (6) (0), ptr (7) (0)]] (0 = 0 ∧ bothR (mtB (Ty.mk (Ty.kind x_2) (Ty.n x_2) (Ty.nl x_2) l_2) (Ty.mk (Ty.kind x_3) (Ty.n x_3) (Ty.nl x_3) l_3) es (mtC (Ty.mk (Ty.kind x_1) (Ty.n x_1) (Ty.nl x_1) l)
 (Ty.mk (Ty.kind x) (Ty.n x) (Ty.nl x) l_1) es_1 c)) (AEnd.returned (tup []) = e ∧ 24 = 24 ∧ 24 = 24 ∧ 28 = 28 ∧ 24 = 24 ∧ 24 = 24 ∧ encM (mtE (Ty.mk (Ty.kind x_2) (Ty.n x_2) (Ty.nl x_2) l_2) (Ty.mk (Ty.kind x_3) (Ty.n x_3) (Ty.nl x_3) l_3) es (mtC (Ty.mk (Ty.kind x_1) (Ty.n x_1) (Ty.nl x_1) l) (Ty.mk (Ty.kind x) (Ty.n x) (Ty.nl x) l_1) es_1 c)) = encM es' ∧ mtC (Ty.mk (Ty.kind x_2) (Ty.n x_2) (Ty.nl x_2) l_2) (Ty.mk (Ty.kind x_3) (Ty.n x_3) (Ty.nl x_3) l_3) es (mtC (Ty.mk (Ty.kind x_1) (Ty.n x_1) (Ty.nl x_1) l) (Ty.mk (Ty.kind x) (Ty.n x) (Ty.nl x) l_1) es_1 c) = c' ∧ 74 = 74 ∧
 SubR [AV.map (5)] [AV.map (5)] (83 = 83 ∧ SubR [AV.fn (Fn.func (65)) [] [ptr (6) (0), ptr (7) (0)]] [AV.fn (Fn.func (65)) [] [ptr (6) (0), ptr (7) (0)]] (0 = 0 ∧ True))) (AEnd.panicked [(AV.iface (117) (agg [int i64 (15)]), false)] = e ∧ 24 = 24 ∧ 24 = 24 ∧ 28 = 28 ∧ 24 = 24 ∧ 24 = 24 ∧ encM (mtE (Ty.mk (Ty.kind x_2) (Ty.n x_2) (Ty.nl x_2) l_2) (Ty.mk (Ty.kind x_3) (Ty.n x_3) (Ty.nl x_3) l_3) es (mtC (Ty.mk (Ty.kind x_1) (Ty.n x_1) (Ty.nl x_1) l) (Ty.mk (Ty.kind x) (Ty.n x) (Ty.nl x) l_1) es_1 c)) = encM es' ∧ mtC (Ty.mk (Ty.kind x_2) (Ty.n x_2) (Ty.nl x_2) l_2)
 (Ty.mk (Ty.kind x_3) (Ty.n x_3) (Ty.nl x_3) l_3) es (mtC (Ty.mk (Ty.kind x_1) (Ty.n x_1) (Ty.nl x_1) l) (Ty.mk (Ty.kind x) (Ty.n x) (Ty.nl x) l_1) es_1 c) = c' ∧ 74 = 74 ∧ SubR [AV.map (5)] [AV.map (5)] (83 = 83 ∧ SubR [AV.fn (Fn.func (65)) [] [ptr (6) (0), ptr (7) (0)]] [AV.fn (Fn.func (65)) [] [ptr (6) (0), ptr (7) (0)]] (0 = 0 ∧ True)))))) (AEnd.panicked [(AV.iface (117) (agg [int i64 (15)]), false)] = e ∧ 24 = 24 ∧ 24 = 24 ∧ 28 = 28 ∧ 24 = 24 ∧ 24 = 24 ∧ encM (mtE (Ty.mk (Ty.kind x_1) (Ty.n x_1) (Ty.nl x_1) l) (Ty.mk (Ty.kind x) (Ty.n x) (Ty.nl x) l_1) es_1 c) =
 encM es' ∧ mtC (Ty.mk (Ty.kind x_1) (Ty.n x_1) (Ty.nl x_1) l) (Ty.mk (Ty.kind x) (Ty.n x) (Ty.nl x) l_1) es_1 c = c' ∧ 74 = 74 ∧ SubR [AV.map (5)] [AV.map (5)] (83 = 83 ∧ SubR [AV.fn (Fn.func (65)) [] [ptr (6) (0), ptr (7) (0)]] [AV.fn (Fn.func (65)) [] [ptr (6) (0), ptr (7) (0)]] (0 = 0 ∧ True)))))))) := by kernel_rfl
end Go.Proofs.YtnmolpkkemljoaaGreatDoor
end
end
section
namespace Kd
open Go Go.Am Go.Proofs.YtnmolpkkemljoaaGreatDoor
theorem key_set {n : Int} {o : Ty} : ∀ {es : Es}, boundM es n = some o → ∀ i, ∃ j cb, keyFind (.int .i64 n) (encM es) i = some (some (i + j, encD o)) ∧ (encM es)[j]? = some (.int .i64 n, encD o, cb) ∧ ∀ u, (encM es).set j (.int .i64 n, encD u, cb) = encM (setM es n u)
 | [], h, _ => by cases h
 | x :: l, h, i => by
  simp only [boundM] at h
  split at h
  ·rename_i he
   cases h
   refine ⟨0, x.2.2, ?_, ?_, fun u => ?_⟩
   ·simp only [encM, List.map_cons, entM, keyFind, keyEq, if_true, decide_eq_true he, Nat.add_zero]
   ·simp only [encM, List.map_cons, entM, List.getElem?_cons_zero, he]
   ·subst he
    simp [encM, entM, setM]
  ·rename_i hne
   obtain ⟨j, cb, h1, h2, h3⟩ := key_set h (i + 1)
   refine ⟨j + 1, cb, ?_, ?_, fun u => ?_⟩
   ·simp only [encM, List.map_cons, entM, keyFind, keyEq, if_true, decide_eq_false hne]
    rw [show i + (j + 1) = i + 1 + j by omega]; exact h1
   ·simpa only [encM, List.map_cons, List.getElem?_cons_succ] using h2
   ·simp only [encM, List.map_cons, List.set_cons_succ, setM, if_neg hne]
    exact congrArg _ (h3 u)
theorem okMs_set {es : Es} {n : Int} {u : Ty} (h : okMs es) (h1 : okT u = true) (h2 : cnt u ≤ 100) : okMs (setM es n u) := by
 induction es with
 | nil => exact h
 | cons x l ih =>
  simp only [setM]
  split
  ·intro y hy
   rcases List.mem_cons.1 hy with rfl | hy
   ·exact ⟨h1, h2⟩
   ·exact h y (List.mem_cons_of_mem _ hy)
  ·intro y hy
   rcases List.mem_cons.1 hy with rfl | hy
   ·exact h _ (List.mem_cons_self ..)
   ·exact ih (fun z hz => h z (List.mem_cons_of_mem _ hz)) y hy
theorem mt_okMs : ∀ (t u : Ty) (es : Es) (c : Nat), okT u = true → cnt u ≤ 100 → okMs es → okMs (mtE t u es c) := by
 have key : ∀ (N : Nat), (∀ (t u : Ty) (es : Es) (c : Nat), SizeOf.sizeOf t < N → okT u = true → cnt u ≤ 100 → okMs es → okMs (mtT t u es c).es) ∧ ∀ (l m : List Ty) (es : Es) (c : Nat), SizeOf.sizeOf l < N → okL m = true → cntL m ≤ 100 → okMs es → okMs (mtL l m es c).es := by
  intro N
  induction N with
  | zero => exact ⟨fun _ _ _ _ h => by omega, fun _ _ _ _ h => by omega⟩
  | succ N ih =>
   obtain ⟨ih1, ih2⟩ := ih
   constructor
   ·intro t u es c ht ho hc hm
    obtain ⟨k, n, b, l⟩ := t
    simp only [Ty.mk.sizeOf_spec] at ht
    have hcl : okT (cleanT u) = true ∧ cnt (cleanT u) ≤ 100 := ⟨ok_clean u ho, by rw [cnt_clean]; exact hc⟩
    simp only [mtT]
    split
    ·split
     ·split
      ·exact okMs_set hm hcl.1 hcl.2
      ·exact hm
     ·intro y hy
      rcases List.mem_append.1 hy with hy | hy
      ·exact hm y hy
      ·obtain rfl := List.mem_singleton.1 hy
       exact hcl
    split
    ·obtain ⟨k', n', b', l'⟩ := u
     exact ih2 l l' es c (by omega) (okL_of ho).2 (by simp only [cnt] at hc; omega) hm
    ·exact hm
   ·intro l m es c hl ho hc hm
    match l, m with
    | [], _ => simpa only [mtL] using hm
    | x :: xs, [] => simpa only [mtL] using hm
    | x :: xs, y :: ys =>
     simp only [List.cons.sizeOf_spec] at hl
     simp only [okL, Bool.and_eq_true] at ho
     simp only [cntL] at hc
     simp only [mtL]
     have h1 := ih1 x y es c (by omega) ho.1 (by omega) hm
     split
     ·exact ih2 xs ys _ _ (by omega) ho.2 (by omega) h1
     ·exact h1
 exact fun t u es c => (key (SizeOf.sizeOf t + 1)).1 t u es c (by omega)
end Kd
noncomputable section
namespace Go.Proofs.YtnmolpkkemljoaaGreatDoor
open Go Go.Am Kd
theorem ex_one {x : Ty} {P : Ty → Prop} : (∃ y : Ty, some (AV.agg [.int .i64 (Ty.kind x), .int .i64 (Ty.n x), .isl (Ty.nl x) none 0 (encL (Ty.l x))]) = some (AV.agg [.int .i64 (Ty.kind y), .int .i64 (Ty.n y), .isl (Ty.nl y) none 0 (encL (Ty.l y))]) ∧ P y) = P x := by
 refine propext ⟨fun ⟨y, h1, h2⟩ => ?_, fun hp => ⟨x, rfl, hp⟩⟩
 have : encD x = encD y := Option.some.inj h1
 rw [← enc_D, ← enc_D] at this
 rw [enc_inj this]; exact h2
def mtEnd (t u : Ty) (es : Es) (c : Nat) : AEnd := match mtB t u es c with | true => .returned (.tup []) | false => .panicked (stopC 15)
def MWalkJ (t u : Ty) (es : Es) (c : Nat) : Prop := FJ 65 [enc t, enc u, .ptr 6 0, .ptr 7 0] (mtA es c) (hpIs 0 (mtEnd t u es c) (mtA (mtE t u es c) (mtC t u es c)))
theorem mtA_ok (es : Es) (c : Nat) : (mtA es c).ok 8 0 = true := by
 simp [AH.ok, mtA, top3, ABlk.bnd, AV.bnd, AV.bndL, encM_bnd]
theorem argMt_elim {A : AH} {K : Es → Nat → Prop} (h : argMt A K) : ∃ es c, K es c := by
 unfold argMt at h
 split at h
 ·obtain ⟨es, _, h⟩ := h
  exact ⟨es, _, h⟩
 ·exact h.elim
theorem mwalk_hook {N : Nat} (ih : ∀ (t u : Ty) (es : Es) (c : Nat), SizeOf.sizeOf t < N → okT t = true → okT u = true → okMs es → cnt u ≤ 100 → MWalkJ t u es c) : HSpec.Ok Tryz.prog g0 65 (mwalkH N) := by
 intro args A K h'
 unfold mwalkH at h'
 split at h'
 ·obtain ⟨t, rfl, g1⟩ := argTy_elim h'
  obtain ⟨u, rfl, g2⟩ := argTy_elim g1
  obtain ⟨es, c, ⟨h1, h2, h3, h4, h5⟩, h⟩ := argMt_elim g2
  have hj := ih t u es c h1 h2 h3 h4 h5
  simp only [MWalkJ, mtEnd] at hj
  have hb : AV.bndL 8 0 [enc t, enc u, .ptr 6 0, .ptr 7 0] = true := by simp [AV.bndL, AV.bnd, AV.still_bnd, enc_still]
  cases hf : mtB t u es c with
  | true =>
   simp only [hf] at h hj
   obtain ⟨hK, hr⟩ := FuncJ.on (n := 8) h hj (mtA_ok ..) (mtA_ok ..) hb (by simp [AEnd.bnd, AV.bnd, AV.bndL])
   exact ⟨_, hr, hK⟩
  | false =>
   simp only [hf] at h hj
   obtain ⟨hK, hr⟩ := FuncJ.on (n := 8) h hj (mtA_ok ..) (mtA_ok ..) hb (stop_bnd ..)
   exact ⟨_, hr, hK⟩
 ·exact h'.elim
theorem mwalk_ok : ∀ (N : Nat) (t u : Ty) (es : Es) (c : Nat), SizeOf.sizeOf t < N → okT t = true → okT u = true → okMs es → cnt u ≤ 100 → MWalkJ t u es c := by
 intro N
 induction N with
 | zero => intro t u es c h; omega
 | succ N ih =>
  intro t u es c ht hot hou hm hcu
  have hh : Hooks.Ok Tryz.prog g0 (mwHk N) := mkHooks_ok (all_cons eq_hook0 (all_cons kcl_hook0 all_nil)) (all_cons (mwalk_hook ih) all_nil) all_nil
  refine FuncJ.run (el := els) (mu := mu0) (hk := mwHk N) hmix hh (n := 60) ?_
  obtain ⟨k, n, b, l⟩ := t
  obtain ⟨hl2, hol⟩ := okL_of hot
  have hno := (ok_node hot).1
  simp only [NodeOk] at hno
  obtain ⟨ku, nu, bu, lu⟩ := u
  obtain ⟨hlu2, holu⟩ := okL_of hou
  have hnu := (ok_node hou).1
  simp only [NodeOk] at hnu
  simp only [Ty.mk.sizeOf_spec] at ht
  have e0 : encL [] = [] := by simp only [encL]
  have e1 : ∀ x, encL [x] = [encD x] := fun x => by simp only [encL, enc_D]
  have e2 : ∀ x y, encL [x, y] = [encD x, encD y] := fun x y => by simp only [encL, enc_D]
  by_cases h6 : k = 6
  ·have : l = [] := List.length_eq_zero_iff.1 (by omega)
   subst this
   refine cast (mw_0 es (mtE (.mk k n b []) (.mk ku nu bu lu) es c) c (mtC (.mk k n b []) (.mk ku nu bu lu) es c) k n b (.mk ku nu bu lu) N (mtEnd (.mk k n b []) (.mk ku nu bu lu) es c)).symm ?_
   simp only [eq_self, true_and, and_true, SubR_id, ex_encM, ex_enc, Ty.eta, h6, decide_true, bothR]
   cases hb : boundM es n with
   | none =>
    have hk := keyFind_none hb 0
    have hm' : mtT (.mk 6 n b []) (.mk ku nu bu lu) es c = ⟨true, es ++ [(n, cleanT (.mk ku nu bu lu), c)], c + 1⟩ := by simp only [mtT, if_true, hb]
    refine .inl ⟨hk, hou, .inl ⟨hk, ?_, ?_, ?_⟩⟩
    ·simp only [mtEnd, mtB, hm']
    ·simp only [mtE, hm', encM, List.map_append, List.map_cons, List.map_nil, entM]; rfl
    ·simp only [mtC, hm']
   | some o =>
    obtain ⟨j, cb, hk, hj, hset⟩ := key_set hb 0
    have hoo : okT o = true := by
     obtain ⟨y, hy, rfl⟩ := boundM_mem hb
     exact (hm y hy).1
    rw [Nat.zero_add] at hk
    refine .inr ⟨j, o, hk, ⟨hoo, hou⟩, ?_⟩
    cases hs : sameB o (.mk ku nu bu lu) with
    | false =>
     have hm' : mtT (.mk 6 n b []) (.mk ku nu bu lu) es c = ⟨false, es, c⟩ := by simp [mtT, hb, hs]
     simp only [Bool.not_false]
     refine ⟨?_, ?_, ?_⟩
     ·simp only [mtEnd, mtB, hm']; rfl
     ·simp only [mtE, hm']
     ·simp only [mtC, hm']
    | true =>
     have hm' : mtT (.mk 6 n b []) (.mk ku nu bu lu) es c = ⟨true, setM es n (cleanT (.mk ku nu bu lu)), c⟩ := by simp [mtT, hb, hs]
     simp only [Bool.not_true]
     refine ⟨hou, .inr ⟨j, _, cb, hk, hj, ?_, ?_, ?_⟩⟩
     ·simp only [mtEnd, mtB, hm']
     ·simp only [mtE, hm']; exact hset _
     ·simp only [mtC, hm']
  by_cases hk : k = ku
  rotate_left
  ·have hm' : mtT (.mk k n b l) (.mk ku nu bu lu) es c = ⟨false, es, c⟩ := by simp [mtT, h6, hk, Ty.kind]
   have g1 : mtEnd (.mk k n b l) (.mk ku nu bu lu) es c = .panicked (stopC 15) := by simp only [mtEnd, mtB, hm']
   have g2 : mtE (.mk k n b l) (.mk ku nu bu lu) es c = es := by simp only [mtE, hm']
   have g3 : mtC (.mk k n b l) (.mk ku nu bu lu) es c = c := by simp only [mtC, hm']
   rw [g1, g2, g3]
   match l, hl2 with
   | [], _ =>
    refine cast (mw_0 es es c c k n b (.mk ku nu bu lu) N (.panicked (stopC 15))).symm ?_
    simp only [eq_self, true_and, and_true, SubR_id, h6, hk, decide_false, decide_true, Bool.not_false, bothR, tk_mk]
    rfl
   | [x], _ =>
    rw [show enc (.mk k n b [x]) = .agg [.int .i64 k, .int .i64 n, .isl b none 0 [encD x]] by rw [enc, e1]]
    refine cast (mw_1 es es c c k n b x (.mk ku nu bu lu) N (.panicked (stopC 15))).symm ?_
    simp only [eq_self, true_and, and_true, SubR_id, h6, hk, decide_false, decide_true, Bool.not_false, bothR, tk_mk]
    rfl
   | [x, y], _ =>
    rw [show enc (.mk k n b [x, y]) = .agg [.int .i64 k, .int .i64 n, .isl b none 0 [encD x, encD y]] by rw [enc, e2]]
    refine cast (mw_2 es es c c k n b x y (.mk ku nu bu lu) N (.panicked (stopC 15))).symm ?_
    simp only [eq_self, true_and, and_true, SubR_id, h6, hk, decide_false, decide_true, Bool.not_false, bothR, tk_mk]
    rfl
  subst hk
  have hll : lu.length = l.length := by omega
  have hmt : mtT (.mk k n b l) (.mk k nu bu lu) es c = mtL l lu es c := by simp [mtT, h6, Ty.kind, Ty.l]
  simp only [cnt] at hcu
  match l, lu, hll, hl2, hol, holu, ht, hmt, hcu with
  | [], [], _, _, _, _, _, hmt, _ =>
   simp only [mtL] at hmt
   refine cast (mw_0 es (mtE (.mk k n b []) (.mk k nu bu []) es c) c (mtC (.mk k n b []) (.mk k nu bu []) es c) k n b (.mk k nu bu []) N (mtEnd (.mk k n b []) (.mk k nu bu []) es c)).symm ?_
   simp only [eq_self, true_and, and_true, SubR_id, h6, decide_false, decide_true, Bool.not_true, bothR, tk_mk, mtEnd, mtB, mtE, mtC, hmt]
  | [x], [u], _, _, hol, holu, ht, hmt, hcu =>
   simp only [okL, Bool.and_true] at hol holu
   simp only [List.cons.sizeOf_spec] at ht
   simp only [cntL] at hcu
   rw [show enc (.mk k n b [x]) = .agg [.int .i64 k, .int .i64 n, .isl b none 0 [encD x]] by rw [enc, e1], show enc (.mk k nu bu [u]) = encD (.mk k nu bu [u]) from enc_D _]
   refine cast (mw_1 es (mtE (.mk k n b [x]) (.mk k nu bu [u]) es c) c (mtC (.mk k n b [x]) (.mk k nu bu [u]) es c) k n b x (.mk k nu bu [u]) N (mtEnd (.mk k n b [x]) (.mk k nu bu [u]) es c)).symm ?_
   simp only [eq_self, true_and, and_true, SubR_id, ex_encM, ex_enc, Ty.eta, ex_one, h6, decide_false, decide_true, Bool.not_true, bothR, tk_mk, tl_mk, e1, List.getElem?_cons_zero, encD]
   have hr : mtT (.mk k n b [x]) (.mk k nu bu [u]) es c = ⟨mtB x u es c, mtE x u es c, mtC x u es c⟩ := by
    rw [hmt]; simp only [mtL, mtB, mtE, mtC]; split
    ·rename_i h; rw [h]
    ·rename_i h; rw [Bool.not_eq_true] at h; rw [h]
   have gB : mtB (.mk k n b [x]) (.mk k nu bu [u]) es c = mtB x u es c := congrArg MR.ok hr
   have gE : mtE (.mk k n b [x]) (.mk k nu bu [u]) es c = mtE x u es c := congrArg MR.es hr
   have gC : mtC (.mk k n b [x]) (.mk k nu bu [u]) es c = mtC x u es c := congrArg MR.c hr
   rw [gE, gC]
   refine ⟨nn 0, nn 0, ⟨by omega, hol, holu, hm, by omega⟩, ?_⟩
   cases hf : mtB x u es c with
   | true => exact ⟨by unfold mtEnd; rw [gB, hf], rfl, rfl⟩
   | false => exact ⟨by unfold mtEnd; rw [gB, hf]; rfl, rfl, rfl⟩
  | [x, y], [u, v], _, _, hol, holu, ht, hmt, hcu =>
   simp only [okL, Bool.and_true, Bool.and_eq_true] at hol holu
   simp only [List.cons.sizeOf_spec] at ht
   simp only [cntL] at hcu
   rw [show enc (.mk k n b [x, y]) = .agg [.int .i64 k, .int .i64 n, .isl b none 0 [encD x, encD y]] by rw [enc, e2], show enc (.mk k nu bu [u, v]) = encD (.mk k nu bu [u, v]) from enc_D _]
   refine cast (mw_2 es (mtE (.mk k n b [x, y]) (.mk k nu bu [u, v]) es c) c (mtC (.mk k n b [x, y]) (.mk k nu bu [u, v]) es c) k n b x y (.mk k nu bu [u, v]) N (mtEnd (.mk k n b [x, y]) (.mk k nu bu [u, v]) es c)).symm ?_
   simp only [eq_self, true_and, and_true, SubR_id, ex_encM, ex_enc, Ty.eta, ex_one, h6, decide_false, decide_true, Bool.not_true, bothR, tk_mk, tl_mk, e2, List.getElem?_cons_zero, List.getElem?_cons_succ, encD]
   have hr1 : (mtT x u es c).ok = true → mtT (.mk k n b [x, y]) (.mk k nu bu [u, v]) es c = ⟨mtB y v (mtE x u es c) (mtC x u es c), mtE y v (mtE x u es c) (mtC x u es c), mtC y v (mtE x u es c) (mtC x u es c)⟩ := by
    intro h1
    rw [hmt]; simp only [mtL, mtB, mtE, mtC]
    rw [if_pos h1]
    by_cases h2 : (mtT y v (mtT x u es c).es (mtT x u es c).c).ok = true
    ·rw [if_pos h2, h2]
    ·rw [if_neg h2]
     rw [Bool.not_eq_true] at h2
     rw [h2]
   have hr2 : (mtT x u es c).ok = false → mtT (.mk k n b [x, y]) (.mk k nu bu [u, v]) es c = ⟨false, mtE x u es c, mtC x u es c⟩ := by
    intro h1
    rw [hmt]; simp only [mtL, mtB, mtE, mtC]
    rw [if_neg (by rw [h1]; simp)]
   refine ⟨nn 0, nn 0, ⟨by omega, hol.1, holu.1, hm, by omega⟩, ?_⟩
   cases hf : mtB x u es c with
   | true =>
    have hr := hr1 hf
    have gB : mtB (.mk k n b [x, y]) (.mk k nu bu [u, v]) es c = mtB y v (mtE x u es c) (mtC x u es c) := congrArg MR.ok hr
    have gE : mtE (.mk k n b [x, y]) (.mk k nu bu [u, v]) es c = mtE y v (mtE x u es c) (mtC x u es c) := congrArg MR.es hr
    have gC : mtC (.mk k n b [x, y]) (.mk k nu bu [u, v]) es c = mtC y v (mtE x u es c) (mtC x u es c) := congrArg MR.c hr
    rw [gE, gC]
    refine ⟨nn 1, nn 1, ⟨by omega, hol.2, holu.2, mt_okMs x u es c holu.1 (by omega) hm, by omega⟩, ?_⟩
    cases hg : mtB y v (mtE x u es c) (mtC x u es c) with
    | true => exact ⟨by unfold mtEnd; rw [gB, hg], rfl, rfl⟩
    | false => exact ⟨by unfold mtEnd; rw [gB, hg]; rfl, rfl, rfl⟩
   | false =>
    have hr := hr2 hf
    have gB : mtB (.mk k n b [x, y]) (.mk k nu bu [u, v]) es c = false := congrArg MR.ok hr
    have gE : mtE (.mk k n b [x, y]) (.mk k nu bu [u, v]) es c = mtE x u es c := (congrArg MR.es hr).trans rfl
    have gC : mtC (.mk k n b [x, y]) (.mk k nu bu [u, v]) es c = mtC x u es c := (congrArg MR.c hr).trans rfl
    rw [gE, gC]
    exact ⟨by unfold mtEnd; rw [gB]; rfl, rfl, rfl⟩
theorem mwalk_hook0 : HSpec.Ok Tryz.prog g0 65 mwalkH0 := by
 intro args A K h'
 unfold mwalkH0 at h'
 split at h'
 ·obtain ⟨t, rfl, g1⟩ := argTy_elim h'
  obtain ⟨u, rfl, g2⟩ := argTy_elim g1
  obtain ⟨es, c, ⟨h2, h3, h4, h5⟩, h⟩ := argMt_elim g2
  have hj := mwalk_ok (SizeOf.sizeOf t + 1) t u es c (by omega) h2 h3 h4 h5
  simp only [MWalkJ, mtEnd] at hj
  have hb : AV.bndL 8 0 [enc t, enc u, .ptr 6 0, .ptr 7 0] = true := by simp [AV.bndL, AV.bnd, AV.still_bnd, enc_still]
  cases hf : mtB t u es c with
  | true =>
   simp only [hf] at h hj
   obtain ⟨hK, hr⟩ := FuncJ.on (n := 8) h hj (mtA_ok ..) (mtA_ok ..) hb (by simp [AEnd.bnd, AV.bnd, AV.bndL])
   exact ⟨_, hr, hK⟩
  | false =>
   simp only [hf] at h hj
   obtain ⟨hK, hr⟩ := FuncJ.on (n := 8) h hj (mtA_ok ..) (mtA_ok ..) hb (stop_bnd ..)
   exact ⟨_, hr, hK⟩
 ·exact h'.elim
end Go.Proofs.YtnmolpkkemljoaaGreatDoor
end
end
section
namespace Kd
open Go.Am Go.Proofs.YtnmolpkkemljoaaGreatDoor
abbrev Tx := List UInt8
abbrev Ps := List (Tx × Tx)
def entP (x : Tx × Tx) (i : Nat) : AV × AV × Nat := (.agg [.str x.1, .str x.2], .int .i64 i, i)
def idxP : Ps → Tx × Tx → Nat → Option Nat
 | [], _, _ => none
 | y :: l, x, i => if x = y then some i else idxP l x (i + 1)
structure CR where
 t : Ty
 ps : Ps
structure CL where
 l : List Ty
 ps : Ps
mutual
def cmF : Ty → Ty → Ps → CR
 | .mk k n b l, v, ps =>
  if k = v.kind ∧ ¬ k = 6 then ⟨.mk k 0 (nilB l) (cmG l v.l ps).l, (cmG l v.l ps).ps⟩
  else
   match idxP ps (writeS (.mk k n b l), writeS v) 0 with
   | some i => ⟨varT i, ps⟩
   | none => ⟨varT ps.length, ps ++ [(writeS (.mk k n b l), writeS v)]⟩
def cmG : List Ty → List Ty → Ps → CL
 | x :: xs, y :: ys, ps => ⟨(cmF x y ps).t :: (cmG xs ys (cmF x y ps).ps).l, (cmG xs ys (cmF x y ps).ps).ps⟩
 | _, _, ps => ⟨[], ps⟩
end
def cmT (t u : Ty) (ps : Ps) : Ty := (cmF t u ps).t
end Kd
noncomputable section
namespace Go.Proofs.YtnmolpkkemljoaaGreatDoor
open Go Go.Am Kd
end Go.Proofs.YtnmolpkkemljoaaGreatDoor
end
end
section
namespace Kd
open Go Go.Am Go.Proofs.YtnmolpkkemljoaaGreatDoor
end Kd
noncomputable section
namespace Go.Proofs.YtnmolpkkemljoaaGreatDoor
open Go Go.Am Kd
end Go.Proofs.YtnmolpkkemljoaaGreatDoor
end
namespace Kd
open Go Go.Am Go.Proofs.YtnmolpkkemljoaaGreatDoor
def cmN (t u : Ty) : Int := if validB t = true ∧ validB u = true then 0 else 1
def cmV (t u : Ty) : Ty := if validB t = true ∧ validB u = true then cmT t u [] else .mk 0 0 true []
end Kd
noncomputable section
namespace Go.Proofs.YtnmolpkkemljoaaGreatDoor
open Go Go.Am Kd
end Go.Proofs.YtnmolpkkemljoaaGreatDoor
end
end
section
noncomputable section
namespace Go.Proofs.YtnmolpkkemljoaaGreatDoor
open Go Go.Am Kd
def listH : HSpec := fun args A K =>
 match args with
 | [.map b] =>
  match nthR A.blks b with
  | some (.map m c) => ∃ es, m = encM es ∧ okMap es c ∧ K ⟨.returned (listV es), A⟩
  | _ => False
 | _ => False
def mtHk : Hooks := mkHooks Tryz.prog [(76, validQ)] [(65, mwalkH0), (59, listH)] []
end Go.Proofs.YtnmolpkkemljoaaGreatDoor
end
end
section
noncomputable section
namespace Go.Proofs.YtnmolpkkemljoaaGreatDoor
open Go Go.Am Kd Go.Am.AV Go.IntKind
theorem mt_top (a b : Ty) (v : AV) : (runF mtHk 60 18 [encD a, encD b] AH.nil (retIs Tryz.prog 5 v)) = ( Int.NonNeg (0) ∧ ∃ x, some (agg [int i64 (Ty.kind a), int i64 (Ty.n a), isl (Ty.nl a) none (0) (encL (Ty.l a))]) = some (agg [int i64 (Ty.kind x), int i64 (Ty.n x), isl (Ty.nl x) none (0) (encL (Ty.l x))]) ∧ ∃ l, encL (Ty.l x) = encL l ∧ cnt (Ty.mk (Ty.kind x) (Ty.n x) (Ty.nl x) l) ≤ 1000 ∧ bothR (!validB (Ty.mk (Ty.kind x) (Ty.n x) (Ty.nl x) l)) (tup [isl true none (0) [], int i64 (1)] = v) (Int.NonNeg (1) ∧ ∃ x,
 some (agg [int i64 (Ty.kind b), int i64 (Ty.n b), isl (Ty.nl b) none (0) (encL (Ty.l b))]) = some (agg [int i64 (Ty.kind x), int i64 (Ty.n x), isl (Ty.nl x) none (0) (encL (Ty.l x))]) ∧ ∃ l, encL (Ty.l x) = encL l ∧ cnt (Ty.mk (Ty.kind x) (Ty.n x) (Ty.nl x) l) ≤ 1000 ∧ bothR (!validB (Ty.mk (Ty.kind x) (Ty.n x) (Ty.nl x) l)) (tup [isl true none (0) [], int i64 (1)] = v) (∃ l, encL (Ty.l a) = encL l ∧ ∃ l_1, encL (Ty.l b) = encL l_1 ∧ ∃ es, [] = encM es ∧ (okT (Ty.mk (Ty.kind a) (Ty.n a) (Ty.nl a) l) = true ∧
 okT (Ty.mk (Ty.kind b) (Ty.n b) (Ty.nl b) l_1) = true ∧ okMs es ∧ cnt (Ty.mk (Ty.kind b) (Ty.n b) (Ty.nl b) l_1) ≤ 100) ∧ 24 = 24 ∧ 24 = 24 ∧ 28 = 28 ∧ 24 = 24 ∧ 24 = 24 ∧ [] = encM es ∧ 0 = 0 ∧ 74 = 74 ∧ SubR [AV.map (5)] [AV.map (5)] (83 = 83 ∧ SubR [AV.fn (Fn.func (65)) [] [ptr (6) (0), ptr (7) (0)]] [AV.fn (Fn.func (65)) [] [ptr (6) (0), ptr (7) (0)]] (0 = 0 ∧ bothR (mtB (Ty.mk (Ty.kind a) (Ty.n a) (Ty.nl a) l) (Ty.mk (Ty.kind b) (Ty.n b) (Ty.nl b) l_1) es 0) (∃ es_1, encM (mtE (Ty.mk (Ty.kind a) (Ty.n a) (Ty.nl a) l) (Ty.mk (Ty.kind b) (Ty.n b) (Ty.nl b) l_1) es 0) =
 encM es_1 ∧ ((∀ (e : Int × Ty × Nat), e ∈ es_1 → (0 ≤ Prod.fst e ∧ Prod.fst e < 1000) ∧ Prod.snd (Prod.snd e) < mtC (Ty.mk (Ty.kind a) (Ty.n a) (Ty.nl a) l) (Ty.mk (Ty.kind b) (Ty.n b) (Ty.nl b) l_1) es 0) ∧ List.Nodup (List.map (fun x => Prod.snd (Prod.snd x)) es_1) ∧ List.Nodup (List.map (fun x => Prod.fst x) es_1) ∧ List.length es_1 ≤ 1000) ∧ tup [isl (nilB es_1) none (0) (encB (sortB (List.map bndE es_1))), int i64 (0)] = v) (tup [isl true none (0) [], int i64 (15)] = v)))))) := by kernel_rfl
end Go.Proofs.YtnmolpkkemljoaaGreatDoor
end
end
section
namespace Kd
open Go Go.Am Go.Proofs.YtnmolpkkemljoaaGreatDoor
structure MapI (es : Es) (c : Nat) : Prop where
 key : ∀ e ∈ es, 0 ≤ e.1 ∧ e.1 < 1000
 old : ∀ e ∈ es, e.2.2 < c
 one : (es.map fun x => x.2.2).Nodup
 two : (es.map fun x => x.1).Nodup
theorem setM_keys (n : Int) (u : Ty) : ∀ es : Es, (setM es n u).map (fun x => x.1) = es.map fun x => x.1
 | [] => rfl
 | x :: l => by
  simp only [setM]
  split
  ·rfl
  ·simp only [List.map_cons, setM_keys n u l]
theorem setM_born (n : Int) (u : Ty) : ∀ es : Es, (setM es n u).map (fun x => x.2.2) = es.map fun x => x.2.2
 | [] => rfl
 | x :: l => by
  simp only [setM]
  split
  ·rfl
  ·simp only [List.map_cons, setM_born n u l]
theorem boundM_key {es : Es} {n : Int} (h : boundM es n = none) : n ∉ es.map fun x => x.1 := by
 induction es with
 | nil => simp
 | cons x l ih =>
  simp only [boundM] at h
  split at h
  ·cases h
  ·rename_i hne
   simp only [List.map_cons, List.mem_cons, not_or]
   exact ⟨hne, ih h⟩
theorem MapI.set {es : Es} {c : Nat} (h : MapI es c) (n : Int) (u : Ty) : MapI (setM es n u) c where
 key e he := by
  have : e.1 ∈ es.map fun x => x.1 := by rw [← setM_keys n u]; exact List.mem_map.2 ⟨e, he, rfl⟩
  obtain ⟨e', h1, h2⟩ := List.mem_map.1 this
  rw [← h2]; exact h.key e' h1
 old e he := by
  have : e.2.2 ∈ es.map fun x => x.2.2 := by rw [← setM_born n u]; exact List.mem_map.2 ⟨e, he, rfl⟩
  obtain ⟨e', h1, h2⟩ := List.mem_map.1 this
  rw [← h2]; exact h.old e' h1
 one := by rw [setM_born]; exact h.one
 two := by rw [setM_keys]; exact h.two
theorem MapI.push {es : Es} {c : Nat} (h : MapI es c) {n : Int} {u : Ty} (hn : boundM es n = none) (h0 : 0 ≤ n) (h1 : n < 1000) : MapI (es ++ [(n, u, c)]) (c + 1) where
 key e he := by
  rcases List.mem_append.1 he with he | he
  ·exact h.key e he
  ·obtain rfl := List.mem_singleton.1 he
   exact ⟨h0, h1⟩
 old e he := by
  rcases List.mem_append.1 he with he | he
  ·have := h.old e he; omega
  ·obtain rfl := List.mem_singleton.1 he
   exact Nat.lt_succ_self _
 one := by
  rw [List.map_append, List.nodup_append]
  refine ⟨h.one, by simp, fun a ha b hb => ?_⟩
  obtain ⟨e, he, rfl⟩ := List.mem_map.1 ha
  have := h.old e he
  simp only [List.map_cons, List.map_nil, List.mem_singleton] at hb
  omega
 two := by
  rw [List.map_append, List.nodup_append]
  refine ⟨h.two, by simp, fun a ha b hb hab => ?_⟩
  simp only [List.map_cons, List.map_nil, List.mem_singleton] at hb
  subst hb; subst hab
  exact boundM_key hn ha
theorem setM_len (n : Int) (u : Ty) (es : Es) : (setM es n u).length = es.length := by
 have := congrArg List.length (setM_keys n u es)
 simpa using this
theorem mt_MapI : ∀ (t u : Ty) (es : Es) (c : Nat), okT t = true → MapI es c → MapI (mtE t u es c) (mtC t u es c) ∧ (mtE t u es c).length ≤ es.length + cnt t := by
 have key : ∀ (N : Nat), (∀ (t u : Ty) (es : Es) (c : Nat), SizeOf.sizeOf t < N → okT t = true → MapI es c → MapI (mtT t u es c).es (mtT t u es c).c ∧ (mtT t u es c).es.length ≤ es.length + cnt t) ∧
   ∀ (l m : List Ty) (es : Es) (c : Nat), SizeOf.sizeOf l < N → okL l = true → MapI es c → MapI (mtL l m es c).es (mtL l m es c).c ∧ (mtL l m es c).es.length ≤ es.length + cntL l := by
  intro N
  induction N with
  | zero => exact ⟨fun _ _ _ _ h => by omega, fun _ _ _ _ h => by omega⟩
  | succ N ih =>
   obtain ⟨ih1, ih2⟩ := ih
   constructor
   ·intro t u es c ht ho hm
    obtain ⟨k, n, b, l⟩ := t
    simp only [Ty.mk.sizeOf_spec] at ht
    have hn := (ok_node ho).1
    simp only [NodeOk] at hn
    simp only [mtT, cnt]
    split
    ·rename_i h6
     split
     ·split
      ·exact ⟨hm.set _ _, by rw [setM_len]; omega⟩
      ·exact ⟨hm, by dsimp only; omega⟩
     ·rename_i hb
      exact ⟨hm.push hb (by omega) (by omega), by simp⟩
    split
    ·have := ih2 l u.l es c (by omega) (okL_of ho).2 hm
     exact ⟨this.1, by omega⟩
    ·exact ⟨hm, by simp⟩
   ·intro l m es c hl ho hm
    match l, m with
    | [], _ => simp only [mtL]; exact ⟨hm, by omega⟩
    | x :: xs, [] => simp only [mtL]; exact ⟨hm, by omega⟩
    | x :: xs, y :: ys =>
     simp only [List.cons.sizeOf_spec] at hl
     simp only [okL, Bool.and_eq_true] at ho
     simp only [mtL, cntL]
     have h1 := ih1 x y es c (by omega) ho.1 hm
     split
     ·have h2 := ih2 xs ys _ _ (by omega) ho.2 h1.1
      exact ⟨h2.1, by omega⟩
     ·exact ⟨h1.1, by simp only; omega⟩
 exact fun t u es c => (key (SizeOf.sizeOf t + 1)).1 t u es c (by omega)
theorem MapI.nil : MapI [] 0 := ⟨fun e h => by simp at h, fun e h => by simp at h, by simp, by simp⟩
def mtV (t u : Ty) : List (Int × Ty) := sortB ((mtE t u [] 0).map bndE)
def mtN (t u : Ty) : Int := if validB t = true ∧ validB u = true then (if mtB t u [] 0 = true then 0 else 15) else 1
def mtU (t u : Ty) : List (Int × Ty) := if mtN t u = 0 then mtV t u else []
end Kd
noncomputable section
namespace Go.Proofs.YtnmolpkkemljoaaGreatDoor
open Go Go.Am Kd
theorem list_hook {G : Gl} : HSpec.Ok Tryz.prog G 59 listH := by
 intro args A K h'
 unfold listH at h'
 split at h'
 ·split at h'
  ·rename_i b _ m c hb
   obtain ⟨es, rfl, ho, hK⟩ := h'
   rw [nthR_eq] at hb
   exact ⟨_, list_ok hb ho, hK⟩
  ·exact h'.elim
 ·exact h'.elim
def matchV (t u : Ty) : AV := .tup [.isl (nilB (mtU t u)) none 0 (encB (mtU t u)), .int .i64 (mtN t u)]
theorem nilB_sort (es : Es) : nilB (sortB (es.map bndE)) = nilB es := by
 simp only [nilB, (sortB_perm _).length_eq, List.length_map]
theorem match_ok (t u : Ty) (ht : cnt t ≤ 1000) (hu : cnt u ≤ 1000) : QJ 18 [enc t, enc u] (matchV t u) := by
 have hh : Hooks.Ok Tryz.prog g0 mtHk := mkHooks_ok (all_cons valid_hook all_nil) (all_cons mwalk_hook0 (all_cons list_hook all_nil)) all_nil
 refine QuietJ.ret (P := Tryz.prog) (G := g0) (f := 18) 5 (by simp [AV.stillL, enc_still]) (by simp [matchV, AV.still, AV.stillL, encB_still]) (FuncJ.run (el := els) (mu := mu0) (hk := mtHk) hmix hh (n := 60) ?_)
 rw [enc_D, enc_D]
 show runF mtHk 60 18 [encD t, encD u] AH.nil _
 rw [mt_top]
 simp only [eq_self, true_and, and_true, SubR_id, ex_encM, ex_enc, Ty.eta, ex_one]
 have bad : mtN t u ≠ 0 → ∀ e, mtN t u = e → AV.tup [AV.isl true none 0 [], AV.int IntKind.i64 e] = matchV t u := by
  intro h e he
  unfold matchV mtU
  rw [if_neg h, he]; rfl
 refine ⟨nn 0, ht, bothR_nbool (fun hv => ?_) fun hv => ⟨nn 1, hu, bothR_nbool (fun hw => ?_) fun hw => ?_⟩⟩
 ·have : mtN t u = 1 := by simp [mtN, hv]
  exact bad (by rw [this]; decide) 1 this
 ·have : mtN t u = 1 := by simp [mtN, hw]
  exact bad (by rw [this]; decide) 1 this
 have hvt := (valid_eq t).1 hv
 have hvu := (valid_eq u).1 hw
 refine ⟨[], rfl, ⟨hvt.2.2, hvu.2.2, fun x hx => by simp at hx, by omega⟩, rfl, bothR_bool (fun hb => ?_) fun hb => ?_⟩
 ·have hN : mtN t u = 0 := by simp [mtN, hv, hw, hb]
  obtain ⟨hI, hlen⟩ := mt_MapI t u [] 0 hvt.2.2 MapI.nil
  refine ⟨⟨fun e he => ⟨hI.key e he, hI.old e he⟩, hI.one, hI.two, by simp at hlen; omega⟩, ?_⟩
  unfold matchV mtU mtV
  rw [if_pos hN, nilB_sort, hN]
 ·have : mtN t u = 15 := by simp [mtN, hv, hw, hb]
  exact bad (by rw [this]; decide) 15 this
end Go.Proofs.YtnmolpkkemljoaaGreatDoor
end
end
section
namespace Kd
open Go.Am Go.Proofs.YtnmolpkkemljoaaGreatDoor
def okB1 (x : Int × Ty) : Bool := (decide (0 ≤ x.1) && decide (x.1 ≤ 999)) && validB x.2
def hasV (pre : List (Int × Ty)) (n : Int) : Bool := pre.any fun y => decide (y.1 = n)
def bindsG : List (Int × Ty) → List (Int × Ty) → Bool
 | _, [] => true
 | pre, x :: l => (okB1 x && !hasV pre x.1) && bindsG (pre ++ [x]) l
def bindsB (l : List (Int × Ty)) : Bool := bindsG [] l
def goodN : List (Int × Ty) → List (Int × Ty) → Nat
 | _, [] => 0
 | pre, x :: l => if (okB1 x && !hasV pre x.1) = true then goodN (pre ++ [x]) l + 1 else 0
def bindM : List (Int × Ty) → Nat → List (Int × Ty × Nat)
 | [], _ => []
 | x :: l, i => (x.1, x.2, i) :: bindM l (i + 1)
def manyG : List (Int × Ty) → Bool
 | [] => false
 | x :: l => greatB x.2 || manyG l
def manyB (l : List (Int × Ty)) : Bool := manyG l || decide (30 < l.length)
end Kd
noncomputable section
namespace Go.Proofs.YtnmolpkkemljoaaGreatDoor
open Go Go.Am Kd
def mySt (b : Bool) (l : List (Int × Ty)) : LSt Nat Bool where
 n := 0
 nf := 0
 rd := none
 fr x := frm 19 [(0, .isl b none 0 (encB l)), (5, .isl b none 0 (encB l)), (6, .int .i64 (encB l).length), (7, .int .i64 x)]
 hp _ := AH.nil
 inv x := x ≤ l.length ∧ l.length ≤ 9223372036854775807
 res x := manyG (l.drop x)
 sel r := r
 out b' _ := match b' with
  | true => ⟨.ret, frm 19 [(2, .bool true)], AH.nil⟩
  | false => ⟨.exit 0, frm 19 [(0, .isl b none 0 (encB l))], AH.nil⟩
def myHk : Hooks := hooks [(14, weakQ 3 greatQ)] [] []
def myHk' (b : Bool) (l : List (Int × Ty)) : Hooks := hooks [] [] [(2, ⟨33, 0, (mySt b l).spec⟩)]
def manyQ : QSpec
 | [l], K => argBinds l fun _ l => (l.length ≤ 9223372036854775807) ∧ K (.bool (manyB l))
 | _, _ => False
def ppFr (ix : List (Nat × AV)) : AAct := ⟨(frm 57 ([(4, .ptr 1 0), (5, .ptr 2 0)] ++ ix)).tmps, [.fn (.func 82) [] [.ptr 2 0]]⟩
def ppH (t : Ty) (es : List (Int × Ty × Nat)) (c : Nat) : AH := ⟨[tyC t, .cells [.int .i64 0, .int .i64 0, .isl true none 0 []] 24, .cells [.int .i64 0] 28, top3, .map (encM es) c], [(1, 3)]⟩
def ppSt (t : Ty) (b : Bool) (l : List (Int × Ty)) : LSt Nat (Bool × Nat) where
 n := 5
 nf := 1
 rd := none
 fr x := ppFr [(3, .ptr 0 0), (6, .map 4), (16, .map 4), (17, .isl b none 0 (encB l)), (18, .int .i64 (encB l).length), (19, .int .i64 x)]
 hp x := ppH t (bindM (l.take x) 0) x
 inv x := x ≤ l.length ∧ l.length ≤ 2000 ∧ allC l
 res x := (bindsG (l.take x) (l.drop x), x + goodN (l.take x) (l.drop x))
 sel r := r.1
 out b' r := match b' with
  | true => ⟨.exit 0, ppFr [(3, .ptr 0 0), (6, .map 4)], ppH t (bindM (l.take r.2) 0) r.2⟩
  | false => ⟨.panic (stopC 1), ppFr [], ppH t (bindM (l.take r.2) 0) r.2⟩
def ppHk : Hooks := hooks [(76, validQ)] [] []
def ppHk' (t : Ty) (b : Bool) (l : List (Int × Ty)) : Hooks := mkHooks Tryz.prog [(76, validQ)] [(83, putG)] [(5, ⟨34, 0, (ppSt t b l).spec⟩)]
end Go.Proofs.YtnmolpkkemljoaaGreatDoor
end
end
section
noncomputable section
namespace Go.Proofs.YtnmolpkkemljoaaGreatDoor
open Go Go.Am Kd Go.Am.AV Go.IntKind
theorem my_loop (b : Bool) (l : List (Int × Ty)) (meas : Nat → Nat) (x : Nat) : (runL myHk 60 33 0 (mySt b l) meas x) = ( bothR (decide (iC x < iC (List.length (encB l)))) (0 ≤ iC x ∧ ∃ x_1, (encB l)[Int.toNat (iC x)]? = some (agg [int i64 (Prod.fst x_1), int i64 (Ty.kind (Prod.snd x_1)), int i64 (Ty.n (Prod.snd x_1)), isl (Ty.nl (Prod.snd x_1)) none (0) (encL (Ty.l (Prod.snd x_1)))]) ∧ ∃ l_1, encL (Ty.l (Prod.snd x_1)) = encL l_1 ∧ bothR (greatB (Ty.mk (Ty.kind (Prod.snd x_1)) (Ty.n (Prod.snd x_1)) (Ty.nl (Prod.snd x_1)) l_1))
 (manyG (List.drop x l) = true ∧ bool true = bool true ∧ 0 = 0 ∧ True) (∃ y, (y ≤ List.length l ∧ List.length l ≤ 9223372036854775807) ∧ meas y < meas x ∧ manyG (List.drop y l) = manyG (List.drop x l) ∧ isl b none (0) (encB l) = isl b none (0) (encB l) ∧ isl b none (0) (encB l) = isl b none (0) (encB l) ∧ int i64 (iC (List.length (encB l))) = int i64 (iC (List.length (encB l))) ∧ int i64 (IntKind.wrap IntKind.i64 (iC x + (1 : Int))) = int i64 (iC y) ∧ 0 = 0 ∧ True))
 (manyG (List.drop x l) = false ∧ isl b none (0) (encB l) = isl b none (0) (encB l) ∧ 0 = 0 ∧ True)) := by kernel_rfl
theorem my_top (b : Bool) (l : List (Int × Ty)) (r : Bool) : (runF (myHk' b l) 60 33 [.isl b none 0 (encB l)] AH.nil (retIs Tryz.prog 5 (.bool r))) = ( codeIs (loopOf Tryz.prog 33 0) Tryz.prog 33 0 (∃ x, (x ≤ List.length l ∧ List.length l ≤ 9223372036854775807) ∧ isl b none (0) (encB l) = isl b none (0) (encB l) ∧ isl b none (0) (encB l) = isl b none (0) (encB l) ∧ int i64 (iC (List.length (encB l))) = int i64 (iC (List.length (encB l))) ∧ int i64 (0) = int i64 (iC x) ∧ 0 = 0 ∧
 bothR (manyG (List.drop x l)) (bool true = bool r) (bool (decide ((30 : Int) < iC (List.length (encB l)))) = bool r))) := by kernel_rfl
theorem pp_loop (t : Ty) (b : Bool) (l : List (Int × Ty)) (meas : Nat → Nat) (x : Nat) : (runL ppHk 60 34 0 (ppSt t b l) meas x) = ( bothR (decide (iC x < iC (List.length (encB l)))) (0 ≤ iC x ∧ ∃ x_1, (encB l)[Int.toNat (iC x)]? = some (agg [int i64 (Prod.fst x_1), int i64 (Ty.kind (Prod.snd x_1)), int i64 (Ty.n (Prod.snd x_1)), isl (Ty.nl (Prod.snd x_1)) none (0) (encL (Ty.l (Prod.snd x_1)))]) ∧ (keyFind (int i64 (Prod.fst x_1)) (encM (Kd.bindM (List.take x l) 0)) 0 = some none ∧ bothR (decide ((0 : Int) ≤ Prod.fst x_1))
 (bothR (decide (Prod.fst x_1 < (1000 : Int))) (Int.NonNeg (0) ∧ ∃ x_2, some (agg [int i64 (Ty.kind (Prod.snd x_1)), int i64 (Ty.n (Prod.snd x_1)), isl (Ty.nl (Prod.snd x_1)) none (0) (encL (Ty.l (Prod.snd x_1)))]) = some (agg [int i64 (Ty.kind x_2), int i64 (Ty.n x_2), isl (Ty.nl x_2) none (0) (encL (Ty.l x_2))]) ∧ ∃ l_1, encL (Ty.l x_2) = encL l_1 ∧ cnt (Ty.mk (Ty.kind x_2) (Ty.n x_2) (Ty.nl x_2) l_1) ≤ 1000 ∧ bothR (!validB (Ty.mk (Ty.kind x_2) (Ty.n x_2) (Ty.nl x_2) l_1)) (([(AV.iface (117) (agg [int i64 (1)]), false)] =
 [(AV.iface (117) (agg [int i64 (1)]), false)] ∧ true = true) ∧ bindsG (List.take x l) (List.drop x l) = false ∧ ptr (1) (0) = ptr (1) (0) ∧ ptr (2) (0) = ptr (2) (0) ∧ [ADef.fn (Fn.func (82)) [] [ptr (2) (0)]] = [ADef.fn (Fn.func (82)) [] [ptr (2) (0)]] ∧ 24 = 24 ∧ int i64 (Ty.kind t) = int i64 (Ty.kind t) ∧ int i64 (Ty.n t) = int i64 (Ty.n t) ∧ isl (Ty.nl t) none (0) (encL (Ty.l t)) = isl (Ty.nl t) none (0) (encL (Ty.l t)) ∧ 24 = 24 ∧
 SubR [int i64 (0), int i64 (0), isl true none (0) []] [int i64 (0), int i64 (0), isl true none (0) []] (28 = 28 ∧ SubR [int i64 (0)] [int i64 (0)] (24 = 24 ∧ encM (Kd.bindM (List.take x l) 0) = encM (Kd.bindM (List.take (x + goodN (List.take x l) (List.drop x l)) l) 0) ∧ x = x + goodN (List.take x l) (List.drop x l) ∧ [(1, 3)] = [(1, 3)] ∧ True))) ((keyFind (int i64 (Prod.fst x_1)) (encM (Kd.bindM (List.take x l) 0)) 0 = some none ∧ ∃ y, (y ≤ List.length l ∧ List.length l ≤ 2000 ∧ allC l) ∧ meas y < meas x ∧
 (bindsG (List.take y l) (List.drop y l), y + goodN (List.take y l) (List.drop y l)) = (bindsG (List.take x l) (List.drop x l), x + goodN (List.take x l) (List.drop x l)) ∧ ptr (0) (0) = ptr (0) (0) ∧ ptr (1) (0) = ptr (1) (0) ∧ ptr (2) (0) = ptr (2) (0) ∧ AV.map (4) = AV.map (4) ∧ AV.map (4) = AV.map (4) ∧ isl b none (0) (encB l) = isl b none (0) (encB l) ∧ int i64 (iC (List.length (encB l))) = int i64 (iC (List.length (encB l))) ∧ int i64 (IntKind.wrap IntKind.i64 (iC x + (1 : Int))) = int i64 (iC y) ∧
 [ADef.fn (Fn.func (82)) [] [ptr (2) (0)]] = [ADef.fn (Fn.func (82)) [] [ptr (2) (0)]] ∧ 24 = 24 ∧ int i64 (Ty.kind t) = int i64 (Ty.kind t) ∧ int i64 (Ty.n t) = int i64 (Ty.n t) ∧ isl (Ty.nl t) none (0) (encL (Ty.l t)) = isl (Ty.nl t) none (0) (encL (Ty.l t)) ∧ 24 = 24 ∧ SubR [int i64 (0), int i64 (0), isl true none (0) []] [int i64 (0), int i64 (0), isl true none (0) []] (28 = 28 ∧ SubR [int i64 (0)] [int i64 (0)] (24 = 24 ∧ encM (Kd.bindM (List.take x l) 0) ++
 [(int i64 (Prod.fst x_1), agg [int i64 (Ty.kind (Prod.snd x_1)), int i64 (Ty.n (Prod.snd x_1)), isl (Ty.nl (Prod.snd x_1)) none (0) (encL (Ty.l (Prod.snd x_1)))], x)] = encM (Kd.bindM (List.take y l) 0) ∧ x + 1 = y ∧ [(1, 3)] = [(1, 3)] ∧ True))) ∨ ∃ j y c, keyFind (int i64 (Prod.fst x_1)) (encM (Kd.bindM (List.take x l) 0)) 0 = some (some (j, y)) ∧ (encM (Kd.bindM (List.take x l) 0))[j]? = some (int i64 (Prod.fst x_1), y, c) ∧ ∃ y, (y ≤ List.length l ∧ List.length l ≤ 2000 ∧ allC l) ∧ meas y < meas x ∧
 (bindsG (List.take y l) (List.drop y l), y + goodN (List.take y l) (List.drop y l)) = (bindsG (List.take x l) (List.drop x l), x + goodN (List.take x l) (List.drop x l)) ∧ ptr (0) (0) = ptr (0) (0) ∧ ptr (1) (0) = ptr (1) (0) ∧ ptr (2) (0) = ptr (2) (0) ∧ AV.map (4) = AV.map (4) ∧ AV.map (4) = AV.map (4) ∧ isl b none (0) (encB l) = isl b none (0) (encB l) ∧ int i64 (iC (List.length (encB l))) = int i64 (iC (List.length (encB l))) ∧ int i64 (IntKind.wrap IntKind.i64 (iC x + (1 : Int))) = int i64 (iC y) ∧
 [ADef.fn (Fn.func (82)) [] [ptr (2) (0)]] = [ADef.fn (Fn.func (82)) [] [ptr (2) (0)]] ∧ 24 = 24 ∧ int i64 (Ty.kind t) = int i64 (Ty.kind t) ∧ int i64 (Ty.n t) = int i64 (Ty.n t) ∧ isl (Ty.nl t) none (0) (encL (Ty.l t)) = isl (Ty.nl t) none (0) (encL (Ty.l t)) ∧ 24 = 24 ∧ SubR [int i64 (0), int i64 (0), isl true none (0) []] [int i64 (0), int i64 (0), isl true none (0) []] (28 = 28 ∧ SubR [int i64 (0)] [int i64 (0)] (24 = 24 ∧
 List.set (encM (Kd.bindM (List.take x l) 0)) j (int i64 (Prod.fst x_1), agg [int i64 (Ty.kind (Prod.snd x_1)), int i64 (Ty.n (Prod.snd x_1)), isl (Ty.nl (Prod.snd x_1)) none (0) (encL (Ty.l (Prod.snd x_1)))], c) = encM (Kd.bindM (List.take y l) 0) ∧ x = y ∧ [(1, 3)] = [(1, 3)] ∧ True)))) (([(AV.iface (117) (agg [int i64 (1)]), false)] = [(AV.iface (117) (agg [int i64 (1)]), false)] ∧ true = true) ∧ bindsG (List.take x l) (List.drop x l) = false ∧ ptr (1) (0) = ptr (1) (0) ∧ ptr (2) (0) = ptr (2) (0) ∧
 [ADef.fn (Fn.func (82)) [] [ptr (2) (0)]] = [ADef.fn (Fn.func (82)) [] [ptr (2) (0)]] ∧ 24 = 24 ∧ int i64 (Ty.kind t) = int i64 (Ty.kind t) ∧ int i64 (Ty.n t) = int i64 (Ty.n t) ∧ isl (Ty.nl t) none (0) (encL (Ty.l t)) = isl (Ty.nl t) none (0) (encL (Ty.l t)) ∧ 24 = 24 ∧ SubR [int i64 (0), int i64 (0), isl true none (0) []] [int i64 (0), int i64 (0), isl true none (0) []] (28 = 28 ∧ SubR [int i64 (0)] [int i64 (0)] (24 = 24 ∧
 encM (Kd.bindM (List.take x l) 0) = encM (Kd.bindM (List.take (x + goodN (List.take x l) (List.drop x l)) l) 0) ∧ x = x + goodN (List.take x l) (List.drop x l) ∧ [(1, 3)] = [(1, 3)] ∧ True)))) (([(AV.iface (117) (agg [int i64 (1)]), false)] = [(AV.iface (117) (agg [int i64 (1)]), false)] ∧ true = true) ∧ bindsG (List.take x l) (List.drop x l) = false ∧ ptr (1) (0) = ptr (1) (0) ∧ ptr (2) (0) = ptr (2) (0) ∧ [ADef.fn (Fn.func (82)) [] [ptr (2) (0)]] = [ADef.fn (Fn.func (82)) [] [ptr (2) (0)]] ∧ 24 = 24 ∧
 int i64 (Ty.kind t) = int i64 (Ty.kind t) ∧ int i64 (Ty.n t) = int i64 (Ty.n t) ∧ isl (Ty.nl t) none (0) (encL (Ty.l t)) = isl (Ty.nl t) none (0) (encL (Ty.l t)) ∧ 24 = 24 ∧ SubR [int i64 (0), int i64 (0), isl true none (0) []] [int i64 (0), int i64 (0), isl true none (0) []] (28 = 28 ∧ SubR [int i64 (0)] [int i64 (0)] (24 = 24 ∧ encM (Kd.bindM (List.take x l) 0) = encM (Kd.bindM (List.take (x + goodN (List.take x l) (List.drop x l)) l) 0) ∧
 x = x + goodN (List.take x l) (List.drop x l) ∧ [(1, 3)] = [(1, 3)] ∧ True))) ∨ ∃ j x_2, keyFind (int i64 (Prod.fst x_1)) (encM (Kd.bindM (List.take x l) 0)) 0 = some (some (j, agg [int i64 (Ty.kind x_2), int i64 (Ty.n x_2), isl (Ty.nl x_2) none (0) (encL (Ty.l x_2))])) ∧ bothR (decide ((0 : Int) ≤ Prod.fst x_1)) (bothR (decide (Prod.fst x_1 < (1000 : Int))) (([(AV.iface (117) (agg [int i64 (1)]), false)] = [(AV.iface (117) (agg [int i64 (1)]), false)] ∧ true = true) ∧ bindsG (List.take x l) (List.drop x l) = false ∧
 ptr (1) (0) = ptr (1) (0) ∧ ptr (2) (0) = ptr (2) (0) ∧ [ADef.fn (Fn.func (82)) [] [ptr (2) (0)]] = [ADef.fn (Fn.func (82)) [] [ptr (2) (0)]] ∧ 24 = 24 ∧ int i64 (Ty.kind t) = int i64 (Ty.kind t) ∧ int i64 (Ty.n t) = int i64 (Ty.n t) ∧ isl (Ty.nl t) none (0) (encL (Ty.l t)) = isl (Ty.nl t) none (0) (encL (Ty.l t)) ∧ 24 = 24 ∧ SubR [int i64 (0), int i64 (0), isl true none (0) []] [int i64 (0), int i64 (0), isl true none (0) []] (28 = 28 ∧
 SubR [int i64 (0)] [int i64 (0)] (24 = 24 ∧ encM (Kd.bindM (List.take x l) 0) = encM (Kd.bindM (List.take (x + goodN (List.take x l) (List.drop x l)) l) 0) ∧ x = x + goodN (List.take x l) (List.drop x l) ∧ [(1, 3)] = [(1, 3)] ∧ True))) (([(AV.iface (117) (agg [int i64 (1)]), false)] = [(AV.iface (117) (agg [int i64 (1)]), false)] ∧ true = true) ∧ bindsG (List.take x l) (List.drop x l) = false ∧ ptr (1) (0) = ptr (1) (0) ∧ ptr (2) (0) = ptr (2) (0) ∧ [ADef.fn (Fn.func (82)) [] [ptr (2) (0)]] =
 [ADef.fn (Fn.func (82)) [] [ptr (2) (0)]] ∧ 24 = 24 ∧ int i64 (Ty.kind t) = int i64 (Ty.kind t) ∧ int i64 (Ty.n t) = int i64 (Ty.n t) ∧ isl (Ty.nl t) none (0) (encL (Ty.l t)) = isl (Ty.nl t) none (0) (encL (Ty.l t)) ∧ 24 = 24 ∧ SubR [int i64 (0), int i64 (0), isl true none (0) []] [int i64 (0), int i64 (0), isl true none (0) []] (28 = 28 ∧ SubR [int i64 (0)] [int i64 (0)] (24 = 24 ∧
 encM (Kd.bindM (List.take x l) 0) = encM (Kd.bindM (List.take (x + goodN (List.take x l) (List.drop x l)) l) 0) ∧ x = x + goodN (List.take x l) (List.drop x l) ∧ [(1, 3)] = [(1, 3)] ∧ True)))) (([(AV.iface (117) (agg [int i64 (1)]), false)] = [(AV.iface (117) (agg [int i64 (1)]), false)] ∧ true = true) ∧ bindsG (List.take x l) (List.drop x l) = false ∧ ptr (1) (0) = ptr (1) (0) ∧ ptr (2) (0) = ptr (2) (0) ∧ [ADef.fn (Fn.func (82)) [] [ptr (2) (0)]] = [ADef.fn (Fn.func (82)) [] [ptr (2) (0)]] ∧ 24 = 24 ∧
 int i64 (Ty.kind t) = int i64 (Ty.kind t) ∧ int i64 (Ty.n t) = int i64 (Ty.n t) ∧ isl (Ty.nl t) none (0) (encL (Ty.l t)) = isl (Ty.nl t) none (0) (encL (Ty.l t)) ∧ 24 = 24 ∧ SubR [int i64 (0), int i64 (0), isl true none (0) []] [int i64 (0), int i64 (0), isl true none (0) []] (28 = 28 ∧ SubR [int i64 (0)] [int i64 (0)] (24 = 24 ∧ encM (Kd.bindM (List.take x l) 0) = encM (Kd.bindM (List.take (x + goodN (List.take x l) (List.drop x l)) l) 0) ∧
 x = x + goodN (List.take x l) (List.drop x l) ∧ [(1, 3)] = [(1, 3)] ∧ True))))) (bindsG (List.take x l) (List.drop x l) = true ∧ ptr (0) (0) = ptr (0) (0) ∧ ptr (1) (0) = ptr (1) (0) ∧ ptr (2) (0) = ptr (2) (0) ∧ AV.map (4) = AV.map (4) ∧ [ADef.fn (Fn.func (82)) [] [ptr (2) (0)]] = [ADef.fn (Fn.func (82)) [] [ptr (2) (0)]] ∧ 24 = 24 ∧ int i64 (Ty.kind t) = int i64 (Ty.kind t) ∧ int i64 (Ty.n t) = int i64 (Ty.n t) ∧ isl (Ty.nl t) none (0) (encL (Ty.l t)) = isl (Ty.nl t) none (0) (encL (Ty.l t)) ∧ 24 = 24 ∧
 SubR [int i64 (0), int i64 (0), isl true none (0) []] [int i64 (0), int i64 (0), isl true none (0) []] (28 = 28 ∧ SubR [int i64 (0)] [int i64 (0)] (24 = 24 ∧ encM (Kd.bindM (List.take x l) 0) = encM (Kd.bindM (List.take (x + goodN (List.take x l) (List.drop x l)) l) 0) ∧ x = x + goodN (List.take x l) (List.drop x l) ∧ [(1, 3)] = [(1, 3)] ∧ True)))) := by kernel_rfl
theorem pp_top (t : Ty) (b : Bool) (l : List (Int × Ty)) (r : Ty) (e : Int) : (runF (ppHk' t b l) 60 34 [.isl b none 0 (encB l), encD t] AH.nil (retIs Tryz.prog 5 (.tup [encD r, .int .i64 e]))) = ( Int.NonNeg (0) ∧ ∃ x, some (agg [int i64 (Ty.kind t), int i64 (Ty.n t), isl (Ty.nl t) none (0) (encL (Ty.l t))]) = some (agg [int i64 (Ty.kind x), int i64 (Ty.n x), isl (Ty.nl x) none (0) (encL (Ty.l x))]) ∧ ∃ l_1, encL (Ty.l x) = encL l_1 ∧ cnt (Ty.mk (Ty.kind x) (Ty.n x) (Ty.nl x) l_1) ≤ 1000 ∧
 bothR (!validB (Ty.mk (Ty.kind x) (Ty.n x) (Ty.nl x) l_1)) (tup [agg [int i64 (0), int i64 (0), isl true none (0) []], int i64 (1)] = tup [agg [int i64 (Ty.kind r), int i64 (Ty.n r), isl (Ty.nl r) none (0) (encL (Ty.l r))], int i64 e]) (codeIs (loopOf Tryz.prog 34 0) Tryz.prog 34 0 (∃ x, (x ≤ List.length l ∧ List.length l ≤ 2000 ∧ allC l) ∧ ptr (0) (0) = ptr (0) (0) ∧ ptr (1) (0) = ptr (1) (0) ∧ ptr (2) (0) = ptr (2) (0) ∧ AV.map (4) = AV.map (4) ∧ AV.map (4) = AV.map (4) ∧
 isl b none (0) (encB l) = isl b none (0) (encB l) ∧ int i64 (iC (List.length (encB l))) = int i64 (iC (List.length (encB l))) ∧ int i64 (0) = int i64 (iC x) ∧ [ADef.fn (Fn.func (82)) [] [ptr (2) (0)]] = [ADef.fn (Fn.func (82)) [] [ptr (2) (0)]] ∧ 24 = 24 ∧ int i64 (Ty.kind t) = int i64 (Ty.kind t) ∧ int i64 (Ty.n t) = int i64 (Ty.n t) ∧ isl (Ty.nl t) none (0) (encL (Ty.l t)) = isl (Ty.nl t) none (0) (encL (Ty.l t)) ∧ 24 = 24 ∧
 SubR [int i64 (0), int i64 (0), isl true none (0) []] [int i64 (0), int i64 (0), isl true none (0) []] (28 = 28 ∧ SubR [int i64 (0)] [int i64 (0)] (24 = 24 ∧ [] = encM (Kd.bindM (List.take x l) 0) ∧ 0 = x ∧ [(1, 3)] = [(1, 3)] ∧ bothR (bindsG (List.take x l) (List.drop x l)) (∃ l_2, encL (Ty.l t) = encL l_2 ∧ ∃ es, encM (Kd.bindM (List.take (x + goodN (List.take x l) (List.drop x l)) l) 0) = encM es ∧ (okT (Ty.mk (Ty.kind t) (Ty.n t) (Ty.nl t) l_2) = true ∧ okMs es) ∧
 bothR (putB es (Ty.mk (Ty.kind t) (Ty.n t) (Ty.nl t) l_2)) (tup [agg [int i64 (Ty.kind (pwT es (cleanT (Ty.mk (Ty.kind t) (Ty.n t) (Ty.nl t) l_2)))), int i64 (Ty.n (pwT es (cleanT (Ty.mk (Ty.kind t) (Ty.n t) (Ty.nl t) l_2)))), isl (Ty.nl (pwT es (cleanT (Ty.mk (Ty.kind t) (Ty.n t) (Ty.nl t) l_2)))) none (0) (encL (Ty.l (pwT es (cleanT (Ty.mk (Ty.kind t) (Ty.n t) (Ty.nl t) l_2)))))], int i64 (0)] = tup [agg [int i64 (Ty.kind r), int i64 (Ty.n r), isl (Ty.nl r) none (0) (encL (Ty.l r))], int i64 e]) (tup
 [agg [int i64 (0), int i64 (0), isl true none (0) []], int i64 (9)] = tup [agg [int i64 (Ty.kind r), int i64 (Ty.n r), isl (Ty.nl r) none (0) (encL (Ty.l r))], int i64 e])) (tup [agg [int i64 (0), int i64 (0), isl true none (0) []], int i64 (1)] = tup [agg [int i64 (Ty.kind r), int i64 (Ty.n r), isl (Ty.nl r) none (0) (encL (Ty.l r))], int i64 e])))))) := by kernel_rfl
end Go.Proofs.YtnmolpkkemljoaaGreatDoor
end
end
section
namespace Kd
open Go.Am Go.Proofs.YtnmolpkkemljoaaGreatDoor
theorem boundM_has : ∀ (l : List (Int × Ty)) (n : Int) (i : Nat), hasV l n = false → boundM (bindM l i) n = none
 | [], _, _, _ => rfl
 | x :: l, n, i, h => by
  simp only [hasV, List.any_cons, Bool.or_eq_false_iff, decide_eq_false_iff_not] at h
  simp only [bindM, boundM, if_neg (fun e => h.1 (Eq.symm e))]
  exact boundM_has l n (i + 1) h.2
theorem boundM_hasT : ∀ (l : List (Int × Ty)) (n : Int) (i : Nat), hasV l n = true → ∃ u, boundM (bindM l i) n = some u
 | [], _, _, h => by cases h
 | x :: l, n, i, h => by
  simp only [hasV, List.any_cons, Bool.or_eq_true, decide_eq_true_eq] at h
  simp only [bindM, boundM]
  by_cases hx : n = x.1
  ·exact ⟨x.2, if_pos hx⟩
  ·rw [if_neg hx]
   refine boundM_hasT l n (i + 1) ?_
   rcases h with h | h
   ·exact absurd h.symm hx
   ·exact h
theorem bindM_snoc : ∀ (l : List (Int × Ty)) (x : Int × Ty) (i : Nat), bindM (l ++ [x]) i = bindM l i ++ [(x.1, x.2, i + l.length)]
 | [], x, i => rfl
 | y :: l, x, i => by
  simp only [List.cons_append, bindM, bindM_snoc l x (i + 1), List.length_cons]
  rw [show i + 1 + l.length = i + (l.length + 1) by omega]
theorem bindM_O : ∀ (l : List (Int × Ty)) (n : Int) (i : Nat), boundM (bindM l i) n = boundO l n
 | [], _, _ => rfl
 | x :: l, n, i => by
  simp only [bindM, boundM, boundO]
  by_cases h : n = x.1
  ·rw [if_pos h, if_pos h.symm]
  ·rw [if_neg h, if_neg (fun e => h e.symm)]
   exact bindM_O l n (i + 1)
theorem goodN_all : ∀ (l pre : List (Int × Ty)), bindsG pre l = true → goodN pre l = l.length
 | [], _, _ => rfl
 | x :: l, pre, h => by
  simp only [bindsG, Bool.and_eq_true (okB1 x && !hasV pre x.1)] at h
  simp only [goodN, if_pos h.1, goodN_all l _ h.2, List.length_cons]
theorem binds_ok1 : ∀ (l pre : List (Int × Ty)), bindsG pre l = true → ∀ x ∈ l, okB1 x = true
 | [], _, _, x, hx => by cases hx
 | y :: l, pre, h, x, hx => by
  simp only [bindsG, Bool.and_eq_true] at h
  rcases List.mem_cons.1 hx with rfl | hx
  ·exact h.1.1
  ·exact binds_ok1 l _ h.2 x hx
theorem bindM_mem : ∀ (l : List (Int × Ty)) (i : Nat), ∀ y ∈ bindM l i, ∃ x ∈ l, y.2.1 = x.2
 | [], _, y, h => by cases h
 | x :: l, i, y, h => by
  simp only [bindM, List.mem_cons] at h
  rcases h with rfl | h
  ·exact ⟨x, by simp, rfl⟩
  ·obtain ⟨z, h1, h2⟩ := bindM_mem l (i + 1) y h
   exact ⟨z, by simp [h1], h2⟩
theorem binds_okMs {l : List (Int × Ty)} (h : bindsB l = true) : okMs (bindM l 0) := by
 intro y hy
 obtain ⟨x, hx, e⟩ := bindM_mem l 0 y hy
 have := binds_ok1 l [] h x hx
 simp only [okB1, Bool.and_eq_true] at this
 obtain ⟨h1, h2, h3⟩ := (valid_eq _).1 this.2
 rw [e]
 exact ⟨h3, by omega⟩
theorem put_with {l : List (Int × Ty)} {t : Ty} (ht : validB t = true) : pwT (bindM l 0) (cleanT t) = withT l t :=
 pw_with (fun n => bindM_O l n 0) t ((valid_eq t).1 ht).2.2
theorem putB_eq {l : List (Int × Ty)} {t : Ty} (ht : validB t = true) : putB (bindM l 0) t = validB (withT l t) := by
 simp only [putB, fitsB, put_with ht]
 cases hv : validB (withT l t) with
 | false => simp
 | true =>
  obtain ⟨h1, h2, h3⟩ := (valid_eq _).1 hv
  simp only [Bool.and_true, decide_eq_true_eq]; omega
def putT (l : List (Int × Ty)) (t : Ty) : Ty := if (validB t && bindsB l && validB (withT l t)) = true then withT l t else .mk 0 0 true []
def putE (l : List (Int × Ty)) (t : Ty) : Int := if (validB t && bindsB l) = true then (if validB (withT l t) = true then 0 else 9) else 1
end Kd
noncomputable section
namespace Go.Proofs.YtnmolpkkemljoaaGreatDoor
open Go Go.Am Kd
theorem my_ok (b : Bool) (l : List (Int × Ty)) : LHook.Ok Tryz.prog g0 ⟨33, 0, (mySt b l).spec⟩ := by
 refine LSt.by (hk := myHk) (mySt b l) (fun x => l.length - x) (mkHooks_ok (all_cons (great_hook.weak 3) all_nil) all_nil all_nil) rfl ?_ ?_ ?_
 ·intro x _
  exact Whole.frm rfl rfl (by simp [mySt, AV.bnd, AV.still_bndL, encB_still]) rfl
 ·intro x b' _
  cases b'
  ·exact Whole.frm rfl rfl (by simp [mySt, AV.bnd, AV.still_bndL, encB_still]) rfl
  ·exact Whole.frm rfl rfl rfl rfl
 ·rintro i ⟨hi, hl⟩
  rw [my_loop]
  simp only [iC, encB_length, eq_self, true_and, and_true, Int.toNat_natCast, AV.int.injEq]
  refine bothR_dec (fun hlt => ?_) fun hge => ?_
  ·have hi' : i < l.length := by omega
   have hd : l.drop i = l[i] :: l.drop (i + 1) := List.drop_eq_getElem_cons hi'
   rw [ex_bind hi', hd]
   simp only [ex_enc, Ty.eta]
   refine ⟨by omega, bothR_bool (fun h => by simp [manyG, h]) fun h => ⟨i + 1, ⟨by omega, hl⟩, by omega, by simp [manyG, h], ?_⟩⟩
   rw [wrap_id (by omega) (by omega)]; rfl
  ·rw [List.drop_of_length_le (by omega)]; rfl
theorem many_ok (b : Bool) (l : List (Int × Ty)) (hl : l.length ≤ 9223372036854775807) : QJ 33 [.isl b none 0 (encB l)] (.bool (manyB l)) := by
 refine QJ.by (hk := myHk' b l) (by simp [AV.stillL, AV.still, encB_still]) rfl (mkHooks_ok all_nil all_nil (all_cons (my_ok b l) all_nil)) ?_
 rw [my_top]
 simp only [iC, eq_self, true_and, codeIs_self, AV.int.injEq, encB_length]
 refine ⟨0, ⟨by omega, hl⟩, rfl, ?_⟩
 rw [List.drop_zero]
 refine bothR_bool (fun h => by simp [manyB, h]) fun h => ?_
 simp only [manyB, h, Bool.false_or, AV.bool.injEq]
 congr 1
 exact propext ⟨fun h => by omega, fun h => by omega⟩
theorem many_hook : QSpec.Ok Tryz.prog g0 33 manyQ := by
 intro args K h'
 unfold manyQ at h'
 split at h'
 ·obtain ⟨b, l, rfl, h2, h3⟩ := argBinds_elim h'
  exact ⟨_, many_ok b l h2, h3⟩
 ·exact h'.elim
end Go.Proofs.YtnmolpkkemljoaaGreatDoor
end
end
section
noncomputable section
namespace Go.Proofs.YtnmolpkkemljoaaGreatDoor
open Go Go.Am Kd
theorem pp_ok (t : Ty) (b : Bool) (l : List (Int × Ty)) : LHook.Ok Tryz.prog g0 ⟨34, 0, (ppSt t b l).spec⟩ := by
 refine LSt.by (hk := ppHk) (ppSt t b l) (fun x => l.length - x) (mkHooks_ok (all_cons valid_hook all_nil) all_nil all_nil) rfl ?_ ?_ ?_
 ·intro x _
  exact ⟨rfl, rfl, frm_bnd (by simp [AV.bnd, AV.still_bndL, encB_still, ppSt]), by simp [ppSt, ppFr, ADef.bnd, AV.bndL, AV.bnd], by simp [ppSt, ppH, top3, tyC, ABlk.bnd, AV.bnd, AV.bndL, encM_bnd, encL_bnd]⟩
 ·intro x b' _
  cases b'
  ·exact ⟨rfl, rfl, frm_bnd (by simp [AV.bnd, AV.still_bndL, encB_still, ppSt]), by simp [ppSt, ppFr, ADef.bnd, AV.bndL, AV.bnd], by simp [ppSt, ppH, top3, tyC, ABlk.bnd, AV.bnd, AV.bndL, encM_bnd, encL_bnd]⟩
  ·exact ⟨rfl, rfl, frm_bnd (by simp [AV.bnd, AV.still_bndL, encB_still, ppSt]), by simp [ppSt, ppFr, ADef.bnd, AV.bndL, AV.bnd], by simp [ppSt, ppH, top3, tyC, ABlk.bnd, AV.bnd, AV.bndL, encM_bnd, encL_bnd]⟩
 ·rintro i ⟨hi, hl, hc⟩
  rw [pp_loop]
  simp only [iC, encB_length, eq_self, true_and, and_true, Int.toNat_natCast, AV.int.injEq, SubR_id]
  refine bothR_dec (fun hlt => ?_) fun hge => ?_
  ·have hi' : i < l.length := by omega
   have hd : l.drop i = l[i] :: l.drop (i + 1) := List.drop_eq_getElem_cons hi'
   have ht : l.take (i + 1) = l.take i ++ [l[i]] := by rw [List.take_add_one, List.getElem?_eq_getElem hi']; rfl
   have hlen : (l.take i).length = i := by simp; omega
   rw [ex_bind hi']
   refine ⟨by omega, ?_⟩
   have bad : (okB1 l[i] && !hasV (l.take i) l[i].1) = false → bindsG (l.take i) (l.drop i) = false ∧ encM (bindM (l.take i) 0) = encM (bindM (l.take (i + goodN (l.take i) (l.drop i))) 0) ∧ i = i + goodN (l.take i) (l.drop i) := by
    intro h
    have hg : goodN (l.take i) (l.drop i) = 0 := by rw [hd]; simp only [goodN, h, Bool.false_eq_true, if_false]
    rw [hg]
    exact ⟨by rw [hd]; simp only [bindsG, h, Bool.false_and], rfl, rfl⟩
   cases hh : hasV (l.take i) l[i].1 with
   | true =>
    have hb := bad (by rw [hh]; simp)
    obtain ⟨u, hu⟩ := boundM_hasT _ _ 0 hh
    obtain ⟨j, hj⟩ := keyFind_some hu 0
    exact .inr ⟨j, u, hj, bothR_dec (fun _ => bothR_dec (fun _ => hb) fun _ => hb) fun _ => hb⟩
   | false =>
    have hk := keyFind_none (boundM_has _ _ 0 hh) 0
    refine .inl ⟨hk, bothR_dec (fun h0 => bothR_dec (fun h1 => ⟨nn 0, l[i].2, rfl, ?_⟩) fun h1 => bad ?_) fun h0 => bad ?_⟩
    ·simp only [ex_enc, Ty.eta]
     refine ⟨hc _ (List.getElem_mem hi'), bothR_nbool (fun hv => bad ?_) fun hv => .inl ⟨hk, i + 1, ⟨by omega, hl, hc⟩, by omega, ?_, ?_⟩⟩
     ·simp only [okB1, hv, Bool.and_false, Bool.false_and]
     ·have hok : (okB1 l[i] && !hasV (l.take i) l[i].1) = true := by
       simp only [okB1, hv, hh, Bool.not_false, Bool.and_true, Bool.and_eq_true, decide_eq_true_eq]
       omega
      rw [hd, ht]
      simp only [bindsG, goodN, hok, Bool.true_and, if_true, Prod.mk.injEq, true_and]
      omega
     ·rw [wrap_id (by omega) (by omega), ht, bindM_snoc, hlen, Nat.zero_add]
      refine ⟨rfl, ?_, rfl⟩
      simp only [encM, List.map_append, List.map_cons, List.map_nil, entM]
      rfl
    ·have : decide (l[i].1 ≤ 999) = false := by simp; omega
     simp only [okB1, this, Bool.and_false, Bool.false_and]
    ·have : decide (0 ≤ l[i].1) = false := by simp; omega
     simp only [okB1, this, Bool.false_and]
  ·have : i = l.length := by omega
   subst this
   rw [List.drop_of_length_le (Nat.le_refl _), List.take_length]
   simp [bindsG, goodN, List.take_length]
def putV (l : List (Int × Ty)) (t : Ty) : AV := .tup [encD (putT l t), .int .i64 (putE l t)]
theorem put_cases (l : List (Int × Ty)) (t : Ty) : (validB t = false ∧ putT l t = .mk 0 0 true [] ∧ putE l t = 1) ∨ (validB t = true ∧ bindsB l = false ∧ putT l t = .mk 0 0 true [] ∧ putE l t = 1) ∨
  (validB t = true ∧ bindsB l = true ∧ validB (withT l t) = false ∧ putT l t = .mk 0 0 true [] ∧ putE l t = 9) ∨ (validB t = true ∧ bindsB l = true ∧ validB (withT l t) = true ∧ putT l t = withT l t ∧ putE l t = 0) := by
 unfold putT putE
 cases validB t <;> cases bindsB l <;> cases validB (withT l t) <;> simp
theorem kput_ok (b : Bool) (l : List (Int × Ty)) (t : Ty) (ht : cnt t ≤ 1000) (hl : l.length ≤ 2000) (hc : allC l) : QJ 34 [.isl b none 0 (encB l), enc t] (putV l t) := by
 have hst : (enc t).still = true := enc_still t
 have hh : Hooks.Ok Tryz.prog g0 (ppHk' t b l) := mkHooks_ok (all_cons valid_hook all_nil) (all_cons putG_hook all_nil) (all_cons (pp_ok t b l) all_nil)
 rw [enc_D]
 refine QJ.by (hk := ppHk' t b l) (by rw [← enc_D]; simp [AV.stillL, AV.still, hst, encB_still]) (by simp [putV, AV.still, AV.stillL, encD_still]) hh ?_
 unfold putV
 rw [pp_top]
 simp only [ex_enc, Ty.eta, eq_self, true_and, and_true, SubR_id, codeIs_self, ex_encM, iC, encB_length, AV.int.injEq]
 refine ⟨nn 0, t, rfl, ?_⟩
 refine ⟨ht, ?_⟩
 rcases put_cases l t with ⟨h1, h2, h3⟩ | ⟨h0, h1, h2, h3⟩ | ⟨h0, h4, h1, h2, h3⟩ | ⟨h0, h4, h1, h2, h3⟩
 ·rw [h1, h2, h3]; rfl
 ·rw [h0, h2, h3]
  refine ⟨0, ⟨by omega, hl, hc⟩, rfl, rfl, rfl, ?_⟩
  have : bindsG (l.take 0) (l.drop 0) = false := h1
  rw [this]; rfl
 ·rw [h0, h2, h3]
  refine ⟨0, ⟨by omega, hl, hc⟩, rfl, rfl, rfl, ?_⟩
  have hb : bindsG (l.take 0) (l.drop 0) = true := h4
  have hg : 0 + goodN (l.take 0) (l.drop 0) = l.length := by rw [Nat.zero_add]; exact goodN_all l [] h4
  rw [hb, hg, List.take_length]
  refine ⟨⟨((valid_eq t).1 h0).2.2, binds_okMs h4⟩, ?_⟩
  rw [putB_eq h0, h1]; rfl
 ·rw [h0, h2, h3]
  refine ⟨0, ⟨by omega, hl, hc⟩, rfl, rfl, rfl, ?_⟩
  have hb : bindsG (l.take 0) (l.drop 0) = true := h4
  have hg : 0 + goodN (l.take 0) (l.drop 0) = l.length := by rw [Nat.zero_add]; exact goodN_all l [] h4
  rw [hb, hg, List.take_length]
  refine ⟨⟨((valid_eq t).1 h0).2.2, binds_okMs h4⟩, ?_⟩
  rw [putB_eq h0, h1, put_with h0]; rfl
end Go.Proofs.YtnmolpkkemljoaaGreatDoor
end
end