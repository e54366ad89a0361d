/-
  What the proof is built of: What a type and its instance have in common; what matches. KindInstances: the plain law. KindInstances returns true. A world in which the listed variables hold what their initialisers lay. What the laid variables hold, as far as the walks look at it. Conditions: none.
-/
import Derived.Test.YtnmolpkkemljoaaGreatDoorM12
import Derived.Test.YtnmolpkkemljoaaGreatDoorCards
import Derived.Test.YtnmolpkkemljoaaGreatDoorTie
import Derived.WalkKit
import Derived.ProofKit
import Derived.OpenShut
import Derived.Deep.DeepHandedRow
import Derived.Deep.DeepWitnessRowRef
import Derived.Lib.LaidTab
import Derived.Test.YtnmolpkkemljoaaGreatDoorM10
import Derived.Lib.LaidU8
import Derived.Lib.ItoaNum
section
set_option linter.unusedSimpArgs false
set_option linter.unusedVariables false
namespace Kd
open Go Go.Am Go.Proofs.YtnmolpkkemljoaaGreatDoor
theorem first_pre : (∀ (t : Ty) (vs : List Int), ∃ ws, firstT t vs = vs ++ ws) ∧ ∀ (l : List Ty) (vs : List Int), ∃ ws, firstL l vs = vs ++ ws :=
 Ty.ind (fun k n b l ih vs => by
  simp only [firstT]
  obtain ⟨ws, h⟩ := ih (if k = 6 then addV vs n else vs)
  rw [h]
  by_cases h6 : k = 6
  ·rw [if_pos h6, addV]
   split
   ·exact ⟨ws, rfl⟩
   ·exact ⟨[n] ++ ws, by simp⟩
  ·rw [if_neg h6]; exact ⟨ws, rfl⟩) (fun vs => ⟨[], by simp [firstL]⟩) fun x xs h1 h2 vs => by
   obtain ⟨ws, h⟩ := h1 vs
   obtain ⟨ws', h'⟩ := h2 (firstT x vs)
   exact ⟨ws ++ ws', by simp only [firstL]; rw [h', h]; simp⟩
theorem write_nl (n : Int) (b : Bool) : writeS (.mk 6 n b []) = writeS (varT n) := by simp [varT, writeS]
theorem pvs_len (σ : Int → Ty) (vs : List Int) : (pvs σ vs).length = vs.length := by simp [pvs]
theorem clean_var (n : Int) : cleanT (varT n) = varT n := by simp [varT, cleanT, cleanL, nilB]
theorem boundO_numB {vs : List Int} {n : Int} {i : Nat} {u : Ty} (h : boundO (numB vs i) n = some u) : n ∈ vs := by
 induction vs generalizing i with
 | nil => cases h
 | cons v vs ih =>
  simp only [numB, boundO] at h
  split at h
  ·rename_i he; exact he ▸ List.mem_cons_self ..
  ·exact List.mem_cons_of_mem _ (ih h)
theorem cm_sub {σ : Int → Ty} :
  (∀ t, okT t = true → ∀ vs : List Int, (∀ m ∈ vs, 0 ≤ m ∧ m < 1000) → (cmF t (subT σ t) (pvs σ vs)).ps = pvs σ (firstT t vs) ∧ ∀ ws, (cmF t (subT σ t) (pvs σ vs)).t = withT (numB (firstT t vs ++ ws) 0) t) ∧
  ∀ l, okL l = true → ∀ vs : List Int, (∀ m ∈ vs, 0 ≤ m ∧ m < 1000) → (cmG l (subL σ l) (pvs σ vs)).ps = pvs σ (firstL l vs) ∧ ∀ ws, (cmG l (subL σ l) (pvs σ vs)).l = withL (numB (firstL l vs ++ ws) 0) l := by
 refine Ty.ind (fun k n b l ih ho vs hv => ?_) (fun _ vs hv => ⟨rfl, fun _ => rfl⟩) fun x xs h1 h2 ho vs hv => ?_
 ·obtain ⟨ho1, ho2⟩ := ok_node ho
  by_cases h6 : k = 6
  ·simp only [NodeOk] at ho1
   have hl : l = [] := List.eq_nil_of_length_eq_zero (ho1.2.2.1 (.inr (.inr h6)))
   have hn := ho1.2.2.2.2.2 h6
   subst hl; subst h6
   have hf : firstT (.mk 6 n b []) vs = addV vs n := by simp [firstT, firstL]
   have hs : subT σ (.mk 6 n b []) = σ n := by simp [subT]
   have hw : ∀ bs, withT bs (.mk 6 n b []) = cleanT (boundT bs n) := fun bs => by simp [withT]
   rw [hf, hs]
   simp only [cmF, not_true_eq_false, and_false, if_false, write_nl, hw]
   have hx := idx_pvs (σ := σ) hn vs hv 0
   split at hx
   ·rename_i j hj
    try rw [hj]
    have hm := boundO_numB hx
    have ha : addV vs n = vs := by rw [addV, if_pos (by simpa using hm)]
    rw [ha]
    refine ⟨rfl, fun ws => ?_⟩
    simp only [numB_app, boundT, boundO_app hx, Option.getD_some, clean_var]
   ·rename_i hj
    try rw [hj]
    have ha : addV vs n = vs ++ [n] := by rw [addV, if_neg (by simpa using hx)]
    rw [ha]
    refine ⟨by simp [pvs], fun ws => ?_⟩
    have hb : boundO (numB (vs ++ [n] ++ ws) 0) n = some (varT vs.length) := by
     rw [List.append_assoc, numB_app, boundO_new (by rw [numB_fst]; exact hx)]
     simp [numB, boundO]
    simp only [boundT, hb, Option.getD_some, clean_var, pvs_len]
  ·have hs : subT σ (.mk k n b l) = .mk k 0 (nilB l) (subL σ l) := by simp only [subT, if_neg h6]
   have hf : firstT (.mk k n b l) vs = firstL l vs := by simp only [firstT, if_neg h6]
   obtain ⟨r1, r2⟩ := ih ho2 vs hv
   rw [hs, hf]
   simp only [cmF, Ty.kind, Ty.l, h6, not_false_eq_true, and_self, if_true, withT, if_false]
   exact ⟨r1, fun ws => by rw [r2 ws]⟩
 ·simp only [okL, Bool.and_eq_true] at ho
  obtain ⟨a1, a2⟩ := h1 ho.1 vs hv
  have hv2 : ∀ m ∈ firstT x vs, 0 ≤ m ∧ m < 1000 := first_of.1 x vs (okT_range x ho.1) hv
  obtain ⟨b1, b2⟩ := h2 ho.2 (firstT x vs) hv2
  obtain ⟨ws', hpre⟩ := first_pre.2 xs (firstT x vs)
  simp only [cmG, subL, firstL, withL]
  rw [a1]
  refine ⟨b1, fun ws => ?_⟩
  rw [b2 ws, a2 (ws' ++ ws), hpre]
  simp
theorem cm_num {σ : Int → Ty} {t : Ty} (ho : okT t = true) : cmT t (subT σ t) [] = numT t := by
 have := (cm_sub (σ := σ)).1 t ho [] (by simp)
 have h2 := this.2 []
 rw [List.append_nil] at h2
 exact h2
theorem same_eq : (∀ a b, sameB a b = true → cleanT a = cleanT b) ∧ ∀ l m, l.length = m.length → sameL l m = true → cleanL l = cleanL m := by
 refine Ty.ind (P := fun a => ∀ b, sameB a b = true → cleanT a = cleanT b) (Q := fun l => ∀ m, l.length = m.length → sameL l m = true → cleanL l = cleanL m) (fun k n b l ih u h => ?_) (fun m h1 h2 => ?_) fun x xs h1 h2 m hl h => ?_
 ·obtain ⟨k', n', b', l'⟩ := u
  simp only [sameB, Bool.and_eq_true, Bool.or_eq_true, decide_eq_true_eq, Bool.not_eq_true', decide_eq_false_iff_not] at h
  obtain ⟨rfl, hn, hl, hs⟩ := h
  have e := ih l' hl hs
  simp only [cleanT, e, nilB, hl]
  by_cases h6 : k = 6
  ·rw [hn.resolve_left (by simpa using h6)]
  ·simp only [if_neg h6]
 ·have : m = [] := List.length_eq_zero_iff.1 h1.symm
  subst this; rfl
 ·cases m with
  | nil => simp at hl
  | cons y ys =>
   simp only [sameL, Bool.and_eq_true] at h
   simp only [cleanL, h1 y h.1, h2 ys (by simpa using hl) h.2]
end Kd
end
section
set_option linter.unusedSimpArgs false
set_option linter.unusedVariables false
namespace Kd
open Go Go.Am Go.Proofs.YtnmolpkkemljoaaGreatDoor
def lk (es : Es) (n : Int) : Ty := (boundM es n).getD (varT n)
def Ext (a b : Es) : Prop := ∀ n o, boundM a n = some o → boundM b n = some o
def mtCl (es : Es) : Prop := ∀ e ∈ es, cleanT e.2.1 = e.2.1
theorem Ext.refl (a : Es) : Ext a a := fun _ _ h => h
theorem Ext.trans {a b c : Es} (h : Ext a b) (k : Ext b c) : Ext a c := fun n o x => k n o (h n o x)
theorem boundM_set {es : Es} {n : Int} {o u : Ty} (h : boundM es n = some o) : ∀ k, boundM (setM es n u) k = if k = n then some u else boundM es k := by
 induction es with
 | nil => cases h
 | cons x l ih =>
  intro k
  simp only [boundM] at h
  simp only [setM]
  by_cases hn : n = x.1
  ·rw [if_pos hn]
   simp only [boundM]
   rw [← hn]
   by_cases hk : k = n
   ·simp [hk]
   ·simp [hk]
  ·rw [if_neg hn] at h ⊢
   simp only [boundM]
   by_cases hk : k = x.1
   ·have : ¬ k = n := fun e => hn (e ▸ hk)
    rw [if_pos hk, if_neg this, if_pos hk]
   ·rw [if_neg hk, ih h k, if_neg hk]
theorem boundM_app {es m : Es} {n : Int} {o : Ty} (h : boundM es n = some o) : boundM (es ++ m) n = some o := by
 induction es with
 | nil => cases h
 | cons x l ih =>
  simp only [boundM, List.cons_append] at h ⊢
  split
  ·rename_i he; rw [if_pos he] at h; exact h
  ·rename_i he; rw [if_neg he] at h; exact ih h
theorem boundM_push {es : Es} {n : Int} {u : Ty} {c : Nat} (h : boundM es n = none) : boundM (es ++ [(n, u, c)]) n = some u := by
 induction es with
 | nil => simp [boundM]
 | cons x l ih =>
  simp only [boundM, List.cons_append] at h ⊢
  split
  ·rename_i he; rw [if_pos he] at h; cases h
  ·rename_i he; rw [if_neg he] at h; exact ih h
theorem ok_len {k n n' : Int} {b b' : Bool} {l l' : List Ty} (h : okT (.mk k n b l) = true) (h' : okT (.mk k n' b' l') = true) : l.length = l'.length := by
 have h1 := (ok_node h).1
 have h2 := (ok_node h').1
 simp only [NodeOk] at h1 h2
 omega
theorem mt_sound :
  (∀ u, okT u = true → ∀ (v : Ty) (es : Es) (c : Nat), okT v = true → mtCl es → (mtT u v es c).ok = true → mtCl (mtT u v es c).es ∧ Ext es (mtT u v es c).es ∧ ∀ es'', Ext (mtT u v es c).es es'' → subT (lk es'') u = cleanT v) ∧
  ∀ l, okL l = true → ∀ (m : List Ty) (es : Es) (c : Nat), l.length = m.length → okL m = true → mtCl es → (mtL l m es c).ok = true → mtCl (mtL l m es c).es ∧ Ext es (mtL l m es c).es ∧ ∀ es'', Ext (mtL l m es c).es es'' → subL (lk es'') l = cleanL m := by
 refine Ty.ind (fun k n b l ih ho v es c hv hc hok => ?_) (fun _ m es c hlen _ hc _ => ?_) fun x xs h1 h2 ho m es c hlen hm hc hok => ?_
 ·obtain ⟨ho1, ho2⟩ := ok_node ho
  by_cases h6 : k = 6
  ·simp only [NodeOk] at ho1
   have hl : l = [] := List.eq_nil_of_length_eq_zero (ho1.2.2.1 (.inr (.inr h6)))
   subst hl; subst h6
   have hs : ∀ τ, subT τ (.mk 6 n b []) = τ n := fun τ => by simp [subT]
   simp only [mtT, if_true, hs] at hok ⊢
   cases hb : boundM es n with
   | none =>
    simp only [hb] at hok ⊢
    refine ⟨fun e he => ?_, fun k o h => boundM_app h, fun es'' he => ?_⟩
    ·rcases List.mem_append.1 he with he | he
     ·exact hc e he
     ·obtain rfl := List.mem_singleton.1 he
      exact clean_clean.1 v
    ·unfold lk
     rw [he n _ (boundM_push hb)]; rfl
   | some o =>
    simp only [hb] at hok ⊢
    by_cases hs : sameB o v = true
    ·rw [if_pos hs] at hok ⊢
     have hoc : cleanT o = o := by
      obtain ⟨y, hy, rfl⟩ := boundM_mem hb
      exact hc y hy
     have hov : o = cleanT v := hoc.symm.trans (same_eq.1 o v hs)
     refine ⟨fun e he => ?_, fun k o' h => ?_, fun es'' he => ?_⟩
     ·have : ∀ (es : Es), mtCl es → ∀ e ∈ setM es n (cleanT v), cleanT e.2.1 = e.2.1 := by
       intro es
       induction es with
       | nil => intro h e he; exact h e he
       | cons y l ih =>
        intro h e he
        simp only [setM] at he
        split at he
        ·rcases List.mem_cons.1 he with rfl | he
         ·exact clean_clean.1 v
         ·exact h e (List.mem_cons_of_mem _ he)
        ·rcases List.mem_cons.1 he with rfl | he
         ·exact h _ (List.mem_cons_self ..)
         ·exact ih (fun z hz => h z (List.mem_cons_of_mem _ hz)) e he
      exact this es hc e he
     ·rw [boundM_set hb k]
      by_cases hk : k = n
      ·subst hk
       rw [hb] at h
       rw [if_pos rfl, ← hov]; exact h
      ·rw [if_neg hk]; exact h
     ·unfold lk
      rw [he n (cleanT v) (by rw [boundM_set hb n, if_pos rfl])]; rfl
    ·rw [if_neg hs] at hok; cases hok
  ·obtain ⟨k', n', b', l'⟩ := v
   by_cases hk : k = k'
   ·subst hk
    simp only [mtT, if_neg h6, Ty.kind, Ty.l, if_true] at hok ⊢
    have hlen := ok_len ho hv
    obtain ⟨a1, a2, a3⟩ := ih ho2 l' es c hlen (ok_node hv).2 hc hok
    refine ⟨a1, a2, fun es'' he => ?_⟩
    simp only [subT, if_neg h6, cleanT, a3 es'' he, nilB, hlen]
   ·exfalso
    simp [mtT, h6, hk, Ty.kind] at hok
 ·have : m = [] := List.length_eq_zero_iff.1 hlen.symm
  subst this
  exact ⟨hc, Ext.refl _, fun _ _ => rfl⟩
 ·cases m with
  | nil => simp at hlen
  | cons y ys =>
   simp only [okL, Bool.and_eq_true] at ho hm
   simp only [mtL] at hok ⊢
   by_cases hx : (mtT x y es c).ok = true
   ·rw [if_pos hx] at hok ⊢
    obtain ⟨a1, a2, a3⟩ := h1 ho.1 y es c hm.1 hc hx
    obtain ⟨b1, b2, b3⟩ := h2 ho.2 ys _ _ (by simpa using hlen) hm.2 a1 hok
    refine ⟨b1, a2.trans b2, fun es'' he => ?_⟩
    simp only [subL, cleanL, a3 es'' (b2.trans he), b3 es'' he]
   ·rw [if_neg hx] at hok; cases hok
theorem sub_inj {f g : Int → Ty} : (∀ t, okT t = true → subT f t = subT g t → allV (fun n => f n = g n) t) ∧ ∀ l, okL l = true → subL f l = subL g l → allVL (fun n => f n = g n) l := by
 refine Ty.ind (fun k n b l ih ho h => ?_) (fun _ _ => trivial) fun x xs h1 h2 ho h => ?_
 ·obtain ⟨ho1, ho2⟩ := ok_node ho
  by_cases h6 : k = 6
  ·simp only [NodeOk] at ho1
   have hl : l = [] := List.eq_nil_of_length_eq_zero (ho1.2.2.1 (.inr (.inr h6)))
   subst hl
   simp only [subT, if_pos h6] at h
   exact ⟨fun _ => h, trivial⟩
  ·simp only [subT, if_neg h6, Ty.mk.injEq, true_and] at h
   exact ⟨fun e => absurd e h6, ih ho2 h⟩
 ·simp only [okL, Bool.and_eq_true] at ho
  simp only [subL, List.cons.injEq] at h
  exact ⟨h1 ho.1 h.1, h2 ho.2 h.2⟩
theorem boundO_mem {l : List (Int × Ty)} {n : Int} {u : Ty} (h : (n, u) ∈ l) (hn : (l.map fun x => x.1).Nodup) : boundO l n = some u := by
 induction l with
 | nil => cases h
 | cons x l ih =>
  simp only [List.map_cons, List.nodup_cons] at hn
  simp only [boundO]
  rcases List.mem_cons.1 h with rfl | h
  ·simp
  ·have : x.1 ≠ n := fun e => hn.1 (List.mem_map.2 ⟨(n, u), h, e.symm⟩)
   rw [if_neg this]
   exact ih h hn.2
theorem binds_of : ∀ (l pre : List (Int × Ty)), (∀ x ∈ l, okB1 x = true) → ((pre ++ l).map fun x => x.1).Nodup → bindsG pre l = true
 | [], _, _, _ => rfl
 | x :: l, pre, h, hn => by
  have hx : hasV pre x.1 = false := by
   rw [hasV, List.any_eq_false]
   intro y hy
   simp only [decide_eq_true_eq]
   intro e
   rw [List.map_append, List.nodup_append] at hn
   exact hn.2.2 _ (List.mem_map.2 ⟨y, hy, rfl⟩) _ (List.mem_map.2 ⟨x, List.mem_cons_self .., rfl⟩) e
  simp only [bindsG, h x (List.mem_cons_self ..), hx, Bool.not_false, Bool.and_self, Bool.true_and]
  exact binds_of l (pre ++ [x]) (fun y hy => h y (List.mem_cons_of_mem _ hy)) (by rw [List.append_assoc]; exact hn)
end Kd
end
section
set_option linter.unusedSimpArgs false
set_option linter.unusedVariables false
noncomputable section
namespace Go.Proofs.YtnmolpkkemljoaaGreatDoor
open Go Go.Am Kd
theorem inst_law (t : Ty) (l m : List (Int × Ty)) (e1 : putE l t = 0) (e2 : putE m (putT l t) = 0) : InstF t (putT m (putT l t)) := by
 rcases put_cases l t with ⟨_, _, h⟩ | ⟨_, _, _, h⟩ | ⟨_, _, _, _, h⟩ | ⟨hvt, hbl, hva, hpa, _⟩
 ·rw [h] at e1; cases e1
 ·rw [h] at e1; cases e1
 ·rw [h] at e1; cases e1
 rw [hpa] at e2 ⊢
 rcases put_cases m (withT l t) with ⟨_, _, h⟩ | ⟨_, _, _, h⟩ | ⟨_, _, _, _, h⟩ | ⟨_, hbm, hvb, hpb, _⟩
 ·rw [h] at e2; cases e2
 ·rw [h] at e2; cases e2
 ·rw [h] at e2; cases e2
 rw [hpb]
 -- what is put
 obtain ⟨σ, hσ, hc⟩ : ∃ σ : Int → Ty, withT m (withT l t) = subT σ t ∧ ∀ n, cleanT (σ n) = σ n := by
  refine ⟨fun n => subT (fun n => cleanT (boundT m n)) (cleanT (boundT l n)), ?_, fun n => ?_⟩
  ·rw [(with_sub m).1, (with_sub l).1]
   exact (sub_sub _ _).1 t
  ·exact (sub_clean fun n => clean_clean.1 _).1 _
 generalize withT m (withT l t) = bb at *
 subst hσ
 have vt := (valid_eq t).1 hvt
 have vb := (valid_eq _).1 hvb
 have ho := vt.2.2
 have hpart := sub_part.1 t ho vb.2.2
 -- the match
 obtain ⟨a1, a2, a3⟩ := (mt_sub hc).1 t ho [] 0 (fun e h => by simp at h)
 obtain ⟨hI, hlen⟩ := mt_MapI t (subT σ t) [] 0 ho MapI.nil
 have hkeys : (mtE t (subT σ t) [] 0).map (fun x => x.1) = varsL t := a3
 have hinv : mtInv σ (mtE t (subT σ t) [] 0) := a2
 have hN : mtN t (subT σ t) = 0 := by
  have : mtB t (subT σ t) [] 0 = true := a1
  simp [mtN, hvt, hvb, this]
 have hU : mtU t (subT σ t) = sortB ((mtE t (subT σ t) [] 0).map bndE) := by unfold mtU mtV; rw [if_pos hN]
 have hmem : ∀ n u, (n, u) ∈ mtU t (subT σ t) ↔ n ∈ varsL t ∧ u = σ n := by
  intro n u
  rw [hU, (sortB_perm _).mem_iff, ← hkeys]
  constructor
  ·intro h
   obtain ⟨e, he, hb⟩ := List.mem_map.1 h
   cases hb
   exact ⟨List.mem_map.2 ⟨e, he, rfl⟩, hinv e he⟩
  ·rintro ⟨h, rfl⟩
   obtain ⟨e, he, rfl⟩ := List.mem_map.1 h
   exact List.mem_map.2 ⟨e, he, by unfold bndE; rw [hinv e he]⟩
 have hnd : ((mtU t (subT σ t)).map fun x => x.1).Nodup := by
  rw [hU]
  refine ((sortB_perm _).map _).nodup_iff.2 ?_
  rw [List.map_map]
  exact hI.two
 have hbd : ∀ n, n ∈ varsL t → boundO (mtU t (subT σ t)) n = some (σ n) := fun n hn => boundO_mem ((hmem n _).2 ⟨hn, rfl⟩) hnd
 have hlU : (mtU t (subT σ t)).length = (varsL t).length := by
  rw [hU, (sortB_perm _).length_eq, List.length_map, ← hkeys, List.length_map]
 have hvars : ∀ n ∈ varsL t, (0 ≤ n ∧ n < 1000) ∧ okT (σ n) = true ∧ cnt (σ n) ≤ cnt (subT σ t) ∧ depT (σ n) ≤ depT (subT σ t) :=
  first_of.1 t [] (allV_and.1 t (okT_range t ho) hpart) (by simp)
 have hvσ : ∀ n ∈ varsL t, validB (σ n) = true := fun n hn => by
  obtain ⟨_, h1, h2, h3⟩ := hvars n hn
  exact (valid_eq _).2 ⟨by omega, by omega, h1⟩
 have hbinds : bindsB (mtU t (subT σ t)) = true := by
  refine binds_of _ [] (fun x hx => ?_) (by simpa using hnd)
  obtain ⟨h1, h2⟩ := (hmem x.1 x.2).1 hx
  have := (hvars _ h1).1
  simp only [okB1, h2, hvσ _ h1, Bool.and_true, Bool.and_eq_true, decide_eq_true_eq]
  omega
 have hwith : withT (mtU t (subT σ t)) t = subT σ t := by
  rw [(with_sub _).1]
  refine sub_congr.1 t ((allV_imp fun n hn => ?_).1 t (vars_all t))
  show cleanT (boundT _ n) = σ n
  unfold boundT
  rw [hbd n hn]
  exact hc n
 have hput : putE (mtU t (subT σ t)) t = 0 ∧ putT (mtU t (subT σ t)) t = subT σ t := by
  constructor
  ·simp [putE, hvt, hbinds, hwith, hvb]
  ·simp [putT, hvt, hbinds, hwith, hvb]
 have hcm : cmV t (subT σ t) = numT t := by
  unfold cmV
  rw [if_pos ⟨hvt, hvb⟩, cm_num ho]
 have hnt := Kd.num_ok hvt
 have hnb := Kd.num_ok hvb
 have hnF : numF t = numT t := by unfold numF; rw [if_pos hvt]
 have hnFb : numF (subT σ t) = numT (subT σ t) := by unfold numF; rw [if_pos hvb]
 refine ⟨hN, ?_, ?_, ?_, by unfold errF; rw [if_pos hvt], hput.1, by rw [hput.2]; exact sameB_refl _, by simp [cmN, hvt, hvb], ?_, ?_, ?_, by rw [hcm, hnF]; exact sameB_refl _, by unfold errF; rw [if_pos hvb], fun hback => ?_⟩
 ·rw [hlU]; have := vars_len t; omega
 ·intro x hx
  obtain ⟨h1, h2⟩ := (hmem x.1 x.2).1 hx
  have := (hvars _ h1).2
  rw [h2]; omega
 ·rw [hlU]
  unfold vlF
  rw [if_pos hvt]
 ·rw [hcm, hnt.2.2.1]; omega
 ·rw [hnF, hnt.2.2.1]; omega
 ·rw [hnFb, hnb.2.2.1]; omega
 -- and back
 have hbk : (mtT (subT σ t) t [] 0).ok = true := by
  cases hB : mtB (subT σ t) t [] 0 with
  | true => exact hB
  | false => simp [mtN, hvt, hvb, hB] at hback
 obtain ⟨_, _, hs⟩ := mt_sound.1 (subT σ t) vb.2.2 t [] 0 ho (fun e h => by simp at h) hbk
 have hs' := hs _ (Ext.refl _)
 generalize lk (mtT (subT σ t) t [] 0).es = τ at hs'
 rw [(sub_sub σ τ).1 t, ← sub_id.1 t ho] at hs'
 have hτ : ∀ n ∈ varsL t, subT τ (σ n) = varT n := first_of.1 t [] (sub_inj.1 t ho hs') (by simp)
 have hvar : ∀ n ∈ varsL t, σ n = varT (σ n).n := by
  intro n hn
  have h1 := hτ n hn
  have h2 := hc n
  have h3 := (hvars n hn).2.1
  generalize σ n = u at h1 h2 h3
  obtain ⟨k, i, b, l'⟩ := u
  by_cases h6 : k = 6
  ·have h4 := (ok_node h3).1
   simp only [NodeOk] at h4
   have hl : l' = [] := List.eq_nil_of_length_eq_zero (h4.2.2.1 (.inr (.inr h6)))
   subst hl; subst h6
   rw [← h2]
   simp [cleanT, cleanL, nilB, varT, Ty.n]
  ·simp only [subT, if_neg h6, varT, Ty.mk.injEq] at h1
   exact absurd h1.1 h6
 have hinj : ∀ a b, a ∈ varsL t → b ∈ varsL t → (σ a).n = (σ b).n → a = b := by
  intro a b ha hb hab
  have h1 := hτ a ha
  have h2 := hτ b hb
  rw [hvar a ha] at h1
  rw [hvar b hb] at h2
  rw [hab, h2] at h1
  simp only [varT, Ty.mk.injEq] at h1
  exact h1.2.1.symm
 have hall : allV (fun n => n ∈ varsL t ∧ boundO (mtU t (subT σ t)) n = some (varT (σ n).n)) t :=
  (allV_imp fun n hn => ⟨hn, by rw [hbd n hn, ← hvar n hn]⟩).1 t (vars_all t)
 have hren := (num_ren (p := fun n => n ∈ varsL t) (ρ := fun n => (σ n).n) hinj ho hall).2
 rw [hwith] at hren
 rw [hnFb, hnF, hren]
 exact sameB_refl _
theorem instances_ok (t : Ty) (b c : Bool) (l m : List (Int × Ty)) (hl : l.length ≤ 9223372036854775807) (hm : m.length ≤ 9223372036854775807) : QT 12 [enc t, .isl b none 0 (encB l), .isl c none 0 (encB m)] (.bool true) :=
 insts_ok inst_law t b c l m hl hm
end Go.Proofs.YtnmolpkkemljoaaGreatDoor
end
end
section
namespace Go.Proofs.YtnmolpkkemljoaaGreatDoor
open Go.ChangeShapes Go.WideShapes Go.ChangeAt Go.RowKit
theorem own : ownKnob Tryz.prog.godebug = none := by kernel_rfl
def cellsOf {H : Type} : DataW H → Array Value
 | .agg l => (l.map fun | .lit (.int k n) => Value.int k n | _ => undef).toArray
 | _ => #[]
def wordOf {H : Type} : DataW H → Array Value
 | .iface _ (.ptr (.agg [.lit (.string l)])) => #[.string ⟨l.toArray⟩]
 | _ => #[]
noncomputable def laidWorld (os : Os) : World :=
 let N := (World.settled Tryz.prog os).heap.size
 let w0 := World.holding Tryz.prog os ⟨#[.cells (wordOf (Rows.laid_strconv_ErrSyntax (H := Unit))) 203, .cells (wordOf (Rows.laid_strconv_ErrRange (H := Unit))) 203], #[], []⟩
 let put (h : Array Obj) (g : Nat) (cs : Array Value) : Array Obj := h.modify g fun
  | .cells _ t frozen => .cells cs t frozen
  | o => o
 let h0 := put (put w0.heap 1 #[.iface 201 (.pointer (some ⟨N, 0, none⟩))]) 2 #[.iface 201 (.pointer (some ⟨N + 1, 0, none⟩))]
 let h1 := put h0 0 (cellsOf (Rows.laid_internal_strconv_uint64pow10 (H := Unit)))
 let h2 := put h1 3 (cellsOf (Rows.laid_math_bits_deBruijn32tab (H := Unit)))
 let h3 := put h2 4 (cellsOf (Rows.laid_math_bits_deBruijn64tab (H := Unit)))
 { w0 with heap := h3 }
set_option maxRecDepth 1000000 in
theorem laid_met (os : Os) (args : Array Value) : laidMet Tryz.prog Rows.kindNamesRow.laid ((laidWorld os).forCall (fun _ _ => 0) ⟨#[], args, []⟩).memory :=
 laidMet_of_run' 8 (by kernel_rfl) (by kernel_rfl)
end Go.Proofs.YtnmolpkkemljoaaGreatDoor
end
section
noncomputable section
namespace Go.Proofs.YtnmolpkkemljoaaGreatDoor
open Go Go.Am Go.RowKit Go.ChangeShapes Go.WideShapes Go.ChangeAt
theorem pow10_tab {W : World} (h : laidMet Tryz.prog Rows.kindNamesRow.laid W) : Lib.TabIs Tryz.prog W "internal/strconv.uint64pow10" .u64 Lib.pow10Tab := by
 obtain ⟨g, t, cs, fuel, p, hg, ht, hv, hd⟩ := Lib.laidMet.reads h (.tail _ (.tail _ (.head _)))
 obtain rfl := Option.some.inj ((show Tryz.prog.globalNamed "internal/strconv.uint64pow10" = some 0 by kernel_rfl).symm.trans hg)
 obtain rfl := Option.some.inj ((show (Tryz.prog.globals[0]?).map (·.type) = some 190 by kernel_rfl).symm.trans ht)
 unfold Lib.TabIs
 have e := Lib.cells_of_tab (k := .u64) (zs := Lib.pow10Tab) (n := 20) (e := 166) (by kernel_rfl) (by kernel_rfl) (by kernel_rfl) (by kernel_rfl) hd
 rw [hv, ← e]
theorem gT_met {W : World} (h : laidMet Tryz.prog Rows.kindNamesRow.laid W) : ∀ g o x, gT g o = some x → ∃ v, W.cell? ⟨g, o, none⟩ = some v ∧ ∀ S : Sh, VRel S x v := by
 intro g o x hx
 unfold gT at hx
 split at hx
 ·rename_i hg
  simp only [beq_iff_eq] at hg
  subst hg
  split at hx
  ·rename_i n hn
   cases hx
   rw [nthR_eq] at hn
   have ho : o < 20 := by
    have := (List.getElem?_eq_some_iff.1 hn).1
    simpa [pow10] using this
   have hc := (pow10_tab h).cell (show Tryz.prog.globalNamed "internal/strconv.uint64pow10" = some 0 by kernel_rfl) o (by rw [Lib.pow10Tab_length]; exact ho)
   rw [Lib.pow10Tab_at o ho] at hc
   have : n = 10 ^ o := by
    have key : ∀ i : Nat, i < 20 → pow10[i]? = some (10 ^ i) := by decide
    rw [key o ho] at hn
    exact (Option.some.inj hn).symm
   subst this
   exact ⟨_, hc, fun S => .int _ _⟩
  ·cases hx
 ·cases hx
end Go.Proofs.YtnmolpkkemljoaaGreatDoor
end
end