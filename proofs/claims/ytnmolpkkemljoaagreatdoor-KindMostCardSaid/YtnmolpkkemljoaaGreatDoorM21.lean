/-
  Unify as a contract of the machine. Conditions: none.
-/
import Derived.Test.YtnmolpkkemljoaaGreatDoorM19
import Derived.Test.YtnmolpkkemljoaaGreatDoorM20
import Derived.Test.YtnmolpkkemljoaaGreatDoorM12
set_option linter.unusedVariables false
set_option linter.unusedSimpArgs false
noncomputable section
namespace Kd
open Go Go.Am Go.Proofs.YtnmolpkkemljoaaGreatDoor
open Classical in
def bindsL (σ : Int → Ty) : List (Int × Ty) := ((List.range 1000).filter fun i : Nat => decide (σ (i : Int) ≠ varT (i : Int))).map fun i : Nat => ((i : Int), σ (i : Int))
open Classical in
def uniR (t u : Ty) : List (Int × Ty) × Int :=
 if validB t = true ∧ validB u = true then
  if h : ∃ σ, CanMgu σ t u then
   if ∃ n, Classical.choose h n ≠ varT n ∧ ¬ Fits (Classical.choose h n) 60 1 then ([], 9) else (bindsL (Classical.choose h), 0)
  else if ∃ θ : Int → Ty, subT θ t = subT θ u then ([], 9) else ([], 15)
 else ([], 1)
def uniV (t u : Ty) : AV := .tup [.isl (nilB (uniR t u).1) none 0 (encB (uniR t u).1), .int .i64 (uniR t u).2]
end Kd
namespace Go.Proofs.YtnmolpkkemljoaaGreatDoor
open Go Go.RowKit Go.Am Kd
theorem strict_eq : ∀ a b : List (Int × Ty), a.Pairwise (fun x y => x.1 < y.1) → b.Pairwise (fun x y => x.1 < y.1) → (∀ x, x ∈ a ↔ x ∈ b) → a = b
 | [], [], _, _, _ => rfl
 | [], y :: b, _, _, h => absurd ((h y).2 (by simp)) (by simp)
 | x :: a, [], _, _, h => absurd ((h x).1 (by simp)) (by simp)
 | x :: a, y :: b, ha, hb, h => by
  rw [List.pairwise_cons] at ha hb
  have hxy : x = y := by
   rcases List.mem_cons.1 ((h x).1 (by simp)) with e | e
   ·exact e
   ·rcases List.mem_cons.1 ((h y).2 (by simp)) with e2 | e2
    ·exact e2.symm
    ·have h1 := hb.1 x e
     have h2 := ha.1 y e2
     omega
  subst hxy
  rw [strict_eq a b ha.2 hb.2 fun z => ⟨fun hz => ?_, fun hz => ?_⟩]
  ·rcases List.mem_cons.1 ((h z).1 (by simp [hz])) with e | e
   ·subst e
    have := ha.1 z hz
    omega
   ·exact e
  ·rcases List.mem_cons.1 ((h z).2 (by simp [hz])) with e | e
   ·subst e
    have := hb.1 z hz
    omega
   ·exact e
theorem binds_strict (σ : Int → Ty) : (bindsL σ).Pairwise (fun x y => x.1 < y.1) := by
 unfold bindsL
 rw [List.pairwise_map]
 refine List.Pairwise.imp ?_ (List.Pairwise.filter _ List.pairwise_lt_range)
 intro a b h
 show (a : Int) < b
 omega
theorem binds_mem (σ : Int → Ty) (x : Int × Ty) : x ∈ bindsL σ ↔ 0 ≤ x.1 ∧ x.1 < 1000 ∧ σ x.1 ≠ varT x.1 ∧ x.2 = σ x.1 := by
 unfold bindsL
 simp only [List.mem_map, List.mem_filter, List.mem_range, decide_eq_true_eq]
 constructor
 ·rintro ⟨i, ⟨h1, h2⟩, rfl⟩
  exact ⟨by show (0 : Int) ≤ (i : Int); omega, by show (i : Int) < 1000; omega, h2, rfl⟩
 ·rintro ⟨h1, h2, h3, h4⟩
  obtain ⟨n, T⟩ := x
  simp only at h1 h2 h3 h4
  have e : ((n.toNat : Nat) : Int) = n := by omega
  exact ⟨n.toNat, ⟨by omega, by rw [e]; exact h3⟩, by rw [e, h4]⟩
theorem uniR_no {t u : Ty} (h : validB t = true → validB u = true → False) : uniR t u = ([], 1) := by
 unfold uniR
 rw [if_neg fun hh => h hh.1 hh.2]
theorem uniR_none {t u : Ty} (h1 : validB t = true) (h2 : validB u = true) (h : ∀ θ : Int → Ty, subT θ t = subT θ u → False) : uniR t u = ([], 15) := by
 unfold uniR
 rw [if_pos ⟨h1, h2⟩, dif_neg fun hh => h _ hh.choose_spec.one, if_neg fun hh => h _ hh.choose_spec]
theorem uniR_some {t u : Ty} (h1 : validB t = true) (h2 : validB u = true) {σ : Int → Ty} (h : CanMgu σ t u) [Decidable (∃ n, σ n ≠ varT n ∧ ¬ Fits (σ n) 60 1)] : uniR t u = if ∃ n, σ n ≠ varT n ∧ ¬ Fits (σ n) 60 1 then ([], 9) else (bindsL σ, 0) := by
 have hex : ∃ σ, CanMgu σ t u := ⟨σ, h⟩
 have : Classical.choose hex = σ := (Classical.choose_spec hex).uniq h
 unfold uniR
 rw [if_pos ⟨h1, h2⟩, dif_pos hex, this]
 split <;> rfl
theorem ents_rel {S1 : Sh} {w' : World} {F : Nat → Prop} {σ : Int → Ty} (him : ∀ b o u, (shF w' F).im b o = some u → S1.im b o = some u) : ∀ (d : List Ent), (∀ x ∈ d, tyF w' F (σ x.n) x.entry.val) → LRel S1 (flat ((d.map fun x => (x.n, σ x.n)).map bindD)) (d.flatMap Ent.cells)
 | [], _ => .nil
 | x :: d, h => by
  have ih := ents_rel him d fun y hy => h y (by simp [hy])
  obtain ⟨p, n, c, hv, hs⟩ := (h x (by simp)).agg
  simp only [Ent.entry, Value.agg.injEq] at hv
  have hv2 := congrArg Array.toList hv
  simp only [List.cons.injEq, Value.int.injEq, true_and, and_true] at hv2
  obtain ⟨e1, e2, e3⟩ := hv2
  have hs' := hs.still him (by simp [AV.still, encL_still])
  have hfl : flat (((x :: d).map fun x => (x.n, σ x.n)).map bindD) = [.int .i64 x.n, .int .i64 (σ x.n).kind, .int .i64 (σ x.n).n, .isl (σ x.n).nl none 0 (encL (σ x.n).l)] ++ flat ((d.map fun x => (x.n, σ x.n)).map bindD) := rfl
  have hfm : (x :: d).flatMap Ent.cells = [.int .i64 x.n, .int .i64 x.k, .int .i64 x.m, .slice x.sp x.sl x.sc] ++ d.flatMap Ent.cells := rfl
  rw [hfl, hfm, e1, e2, e3]
  exact .cons _ _ _ _ (.int ..) (.cons _ _ _ _ (.int ..) (.cons _ _ _ _ (.int ..) (.cons _ _ _ _ hs' ih)))
open Classical in
theorem uni_says {t u : Ty} {w w' : World} {e : Ending} (h : UniRun t u w e w') : ∃ v, e = .returned v ∧ ∃ F : Nat → Prop, (∀ b, F b → w.heap.size ≤ b) ∧
  ∀ S1 : Sh, (∀ b o u, F b → w'.cell? ⟨b, o, none⟩ = some u → S1.im b o = some u) → VRel S1 (uniV t u) v := by
 have err : ∀ k : Int, uniR t u = ([], k) → ∀ S1 : Sh, VRel S1 (uniV t u) (.tuple #[.slice none 0 0, .int .i64 k]) := fun k hk S1 => by
  unfold uniV
  rw [hk]
  exact .tup _ _ (.cons _ _ _ _ (.islNil _ _) (.cons _ _ _ _ (.int ..) .nil))
 obtain ⟨hB, ⟨rfl, h1⟩ | ⟨h1, h2, ⟨rfl, h3⟩ | ⟨σ, hM, ⟨rfl, h3⟩ | ⟨v, l, F, rfl, hL, hF, hty, hall, hnd⟩⟩⟩⟩ := h
 ·exact ⟨_, rfl, fun _ => False, fun b hb => hb.elim, fun S1 _ => err 1 (uniR_no h1) S1⟩
 ·exact ⟨_, rfl, fun _ => False, fun b hb => hb.elim, fun S1 _ => err 15 (uniR_none h1 h2 h3) S1⟩
 ·exact ⟨_, rfl, fun _ => False, fun b hb => hb.elim, fun S1 _ => err 9 (by rw [uniR_some h1 h2 hM, if_pos h3]) S1⟩
 ·have hno : ¬ ∃ n, σ n ≠ varT n ∧ ¬ Fits (σ n) 60 1 := by
   rintro ⟨n, hn, hf⟩
   obtain ⟨x, hx, rfl⟩ := hall n hn
   exact hf (hty x hx).2.2
  have hR : uniR t u = (bindsL σ, 0) := by rw [uniR_some h1 h2 hM, if_neg hno]
  have hmem : ∀ d : List Ent, d.Perm l → ∀ y, y ∈ (d.map fun x => (x.n, σ x.n)) ↔ y ∈ bindsL σ := fun d hd y => by
   rw [binds_mem]
   simp only [List.mem_map]
   constructor
   ·rintro ⟨x, hx, rfl⟩
    exact ⟨x.h0, x.h1, (hty x (hd.mem_iff.1 hx)).2.1, rfl⟩
   ·rintro ⟨_, _, h5, h6⟩
    obtain ⟨x, hx, h7⟩ := hall y.1 h5
    exact ⟨x, hd.mem_iff.2 hx, by rw [h7, ← h6]⟩
  rcases hL with ⟨rfl, rfl⟩ | ⟨g, cap, cur, d, hne, rfl, hg, hcur, hcap, hperm, hsort, hcells⟩
  ·refine ⟨_, rfl, fun _ => False, fun b hb => hb.elim, fun S1 _ => ?_⟩
   have hbl : bindsL σ = [] := by
    cases hb : bindsL σ with
    | nil => rfl
    | cons y ys =>
     have := (hmem [] (.refl _) y).2 (by rw [hb]; simp)
     simp at this
   exact err 0 (by rw [hR, hbl]) S1
  ·have hd : (d.map fun x => (x.n, σ x.n)) = bindsL σ := by
    refine strict_eq _ _ ?_ (binds_strict σ) (hmem d hperm)
    rw [List.pairwise_map]
    have hnd' : (d.map (·.n)).Nodup := (hperm.map _).nodup_iff.2 hnd
    unfold List.Nodup at hnd'
    rw [List.pairwise_map] at hnd'
    refine (hsort.and hnd').imp fun {x y} h => ?_
    have := h.1
    have := h.2
    show x.n < y.n
    omega
   refine ⟨_, rfl, fun b => F b ∨ b = g, fun b hb => ?_, fun S1 hnew => ?_⟩
   ·rcases hb with hb | rfl
    ·exact (hF b hb).1
    ·exact hg
   ·have him : ∀ b o u, (shF w' F).im b o = some u → S1.im b o = some u := fun b o u hu => by
     simp only [shF] at hu
     split at hu
     ·rename_i hb
      exact hnew b o u (.inl hb) hu
     ·cases hu
    have hrel := ents_rel him d fun x hx => (hty x (hperm.mem_iff.1 hx)).1
    unfold uniV
    rw [hR, ← hd]
    have hdl : d.length = l.length := hperm.length_eq
    have hnil : nilB (d.map fun x => (x.n, σ x.n)) = false := by
     unfold nilB
     rw [decide_eq_false_iff_not, List.length_map, hdl, List.length_eq_zero_iff]
     exact hne
    have hlen : l.length = (encB (d.map fun x => (x.n, σ x.n))).length := by
     simp only [encB, List.length_map]; exact hdl.symm
    simp only
    rw [hnil, hlen]
    refine .tup _ _ (.cons _ _ _ _ (VRel.isl none 0 _ 4 g 0 cap (by omega) ?_ (CRel.of_cells hrel fun j u hu => ?_) (by rw [← hlen]; exact hcap) (fun φ hφ => by cases hφ)) (.cons _ _ _ _ (.int ..) .nil))
    ·intro x hx
     obtain ⟨y, _, rfl⟩ := List.mem_map.1 hx
     rfl
    ·rw [Nat.zero_add]
     refine hnew g j u (.inr rfl) ?_
     simp [World.cell?, hcur, hcells j u hu]
theorem uni_ok (t u : Ty) (ht : cnt t ≤ 1000) (hu : cnt u ≤ 1000) {G : Gl} : QuietJ Tryz.prog G 16 [enc t, enc u] (uniV t u) := by
 intro A
 refine FuncJ.freshF fun S w vs hi hl => ?_
 have him : ∀ b o u, S.im b o = some u → (memSh w).im b o = some u := fun b o u hu => hi.im b o u hu
 cases hl with
 | cons _ _ _ _ hv hl =>
 cases hl with
 | cons _ _ _ _ hv' hl =>
 cases hl
 have a1 := hv.still him (enc_still t)
 have a2 := hv'.still him (enc_still u)
 rw [enc_D] at a1 a2
 have key : ∀ {x : Ty} {v : Value}, VRel (memSh w) (encD x) v → ∃ p n c, v = .agg #[.int .i64 x.kind, .int .i64 x.n, .slice p n c] ∧ VRel (memSh w) (.isl x.nl none 0 (encL x.l)) (.slice p n c) := by
  intro x v h
  unfold encD at h
  cases h with
  | agg _ vs hl =>
   cases hl with
   | cons _ _ _ _ g1 hl =>
    cases g1
    cases hl with
    | cons _ _ _ _ g2 hl =>
     cases g2
     cases hl with
     | cons _ _ _ _ g3 hl =>
      cases hl
      obtain ⟨p, n, c, rfl⟩ := islSlice' g3
      exact ⟨p, n, c, rfl, g3⟩
 obtain ⟨p, n, c, rfl, b1⟩ := key a1
 obtain ⟨p', n', c', rfl, b2⟩ := key a2
 refine (unify_run ht hu b1 b2).mono ?_
 intro e w' h
 obtain ⟨v, he, F, hF, hS⟩ := uni_says h
 exact ⟨h.1, v, he, F, hF, fun S1 _ hn => hS S1 hn⟩
end Go.Proofs.YtnmolpkkemljoaaGreatDoor
end