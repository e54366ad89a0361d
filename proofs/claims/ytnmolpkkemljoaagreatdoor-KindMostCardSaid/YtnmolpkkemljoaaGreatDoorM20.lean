/-
  A call that leaves all there was as it was, and hands back what lies in blocks of its own. Conditions: none.
-/
import Derived.Test.YtnmolpkkemljoaaGreatDoorM11
set_option linter.unusedVariables false
set_option linter.unusedSimpArgs false
noncomputable section
namespace Go.Am
open Go
open Classical in
theorem FuncJ.freshF {P : Program} {G : Gl} {f : FuncId} {args : List AV} {A : AH} {x : AV}
  (h : ∀ (S : Sh) (w : World) (vs : List Value), Inv G S A w → LRel S args vs → Calls P f ⟨vs⟩ w fun e w' => Go.RowKit.Below w.heap.size w w' ∧ ∃ v, e = .returned v ∧ ∃ F : Nat → Prop, (∀ b, F b → w.heap.size ≤ b) ∧
   ∀ S1 : Sh, (∀ b o u, S.im b o = some u → S1.im b o = some u) → (∀ b o u, F b → w'.cell? ⟨b, o, none⟩ = some u → S1.im b o = some u) → VRel S1 x v) :
  FuncJ P G f args A fun o => o = ⟨.returned x, A⟩ := by
 intro S w vs hi hl
 refine callsIn_wide.2 ((h S w vs hi hl).mono ?_)
 rintro e w' ⟨hb, v, rfl, F, hg, hv⟩
 have hnone : ∀ b o u, F b → S.im b o = some u → False := fun b o u hF hu => by
  have := hi.imlt hu
  have := hg b hF
  omega
 let S1 : Sh := { X := S.X, ρ := fun _ => none, tl := fun _ _ => none, rm := fun _ => none, im := fun b o => match S.im b o with | some u => some u | none => if F b then w'.cell? ⟨b, o, none⟩ else none }
 have him : ∀ b o u, S.im b o = some u → S1.im b o = some u := fun b o u hu => by simp only [S1, hu]
 have hnew : ∀ b o u, F b → w'.cell? ⟨b, o, none⟩ = some u → S1.im b o = some u := fun b o u hF hu => by
  cases h1 : S.im b o with
  | some z => exact (hnone _ _ _ hF h1).elim
  | none => simp only [S1, h1, if_pos hF, hu]
 have back : ∀ b o u, S1.im b o = some u → S.im b o = some u ∨ (F b ∧ w'.cell? ⟨b, o, none⟩ = some u) := fun b o u hu => by
  simp only [S1] at hu
  split at hu
  ·rename_i z hz
   cases hu; exact .inl hz
  ·split at hu
   ·rename_i hbg
    exact .inr ⟨hbg, hu⟩
   ·cases hu
 have i2 : Inv G S1 AH.nil w' := by
  refine Inv.nil (S := S1) ?_ ?_
  ·intro b o u hu
   rcases back b o u hu with h1 | ⟨_, h1⟩
   ·rw [hb.cell (p := ⟨b, o, none⟩) (hi.imlt h1)]
    exact hi.im b o u h1
   ·exact h1
  ·intro b o z hz
   obtain ⟨u, h1, h2⟩ := hi.glob b o z hz
   have hle : S.bare.le S1.bare := ⟨rfl, (fun _ _ h => by simp [Sh.bare] at h), him, (fun _ _ _ h => by simp [Sh.bare] at h), (fun _ _ h => by simp [Sh.bare] at h)⟩
   exact ⟨u, him _ _ _ h1, h2.mono hle⟩
 have f2 : Fr S.bare AH.nil w S1 AH.nil w' := by
  refine ⟨⟨rfl, (fun _ _ h => by simp [Sh.bare] at h), him, (fun _ _ _ h => by simp [Sh.bare] at h), (fun _ _ h => by simp [Sh.bare] at h)⟩, hb.size, hb.os, hb.tape, hb.output, fun b hb' _ => hb.block b hb', fun b ho _ => absurd ho not_owned_nil, ?_, Nat.le_refl _, fun i c h => by simp [S1] at h⟩
  intro b o u hu
  rcases back b o u hu with h1 | ⟨hF, h1⟩
  ·exact .inl h1
  ·exact .inr (.inl (hg b hF))
 obtain ⟨i4, f4, l4⟩ := hi.outer i2 f2
 exact ⟨_, rfl, _, i4, f4, .returned _ _ (hv _ him hnew)⟩
end Go.Am
end