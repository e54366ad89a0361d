/-
  A contract that looks at no package variable holds whatever is known of these. Conditions: none.
-/
import Derived.Test.YtnmolpkkemljoaaGreatDoorM7
set_option linter.unusedVariables false
set_option linter.unusedSimpArgs false
noncomputable section
namespace Go.Am
open Go
theorem Inv.noGlob {G : Gl} {S : Sh} {A : AH} {w : World} (h : Inv G S A w) : Inv g0 S A w :=
 ⟨h.im, h.blk, h.inj, h.free, h.fam, h.room, h.famInj, h.ρout, h.tlout, (fun _ _ _ hg => by cases hg), h.rm⟩
theorem Inv.withGlob {G : Gl} {S S' : Sh} {A A' : AH} {w w' : World} (h : Inv G S A w) (h' : Inv g0 S' A' w') (hle : S.le S') : Inv G S' A' w' :=
 ⟨h'.im, h'.blk, h'.inj, h'.free, h'.fam, h'.room, h'.famInj, h'.ρout, h'.tlout, (fun g o x hg => by
  obtain ⟨v, h1, h2⟩ := h.glob g o x hg
  exact ⟨v, hle.im _ _ _ h1, h2.mono hle.bare⟩), h'.rm⟩
theorem FuncJ.lift {P : Program} {G : Gl} {f : FuncId} {args : List AV} {A : AH} {K : AFin → Prop} (h : FuncJ P g0 f args A K) : FuncJ P G f args A K := by
 intro S w vs hi hl
 refine (h S w vs hi.noGlob hl).mono ?_
 rintro e w' ⟨o, ho, S', i1, f1, r1⟩
 exact ⟨o, ho, S', hi.withGlob i1 f1.le, f1, r1⟩
theorem QuietJ.lift {P : Program} {G : Gl} {f : FuncId} {args : List AV} {v : AV} (h : QuietJ P g0 f args v) : QuietJ P G f args v := fun A => (h A).lift
theorem QSpec.Ok.lift {P : Program} {G : Gl} {f : FuncId} {s : QSpec} (h : QSpec.Ok P g0 f s) : QSpec.Ok P G f s := by
 intro args K hk
 obtain ⟨v, h1, h2⟩ := h args K hk
 exact ⟨v, h1.lift, h2⟩
end Go.Am
end