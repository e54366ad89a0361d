/-
  A contract that looks at no package variable holds whatever is known of these. Conditions: none.
-/
import Derived.Test.YtnmolpkkemljoaaGreatDoorM7
noncomputable section
namespace Go.Am
open Go
theorem Inv.noGlob {G : Gl} {S : Sh} {A : AH} {w : World} (h : Inv G S A w) : Inv g0 S A w :=
 ⟨h.im, h.blk, h.inj, h.free, h.fam, h.room, h.famInj, h.ρout, h.tlout, (fun _ _ _ hg => by cases hg), h.rm⟩
theorem Inv.withGlob {G : Gl} {S S' : Sh} {A A' : AH} {w w' : World} (h : Inv G S A w) (h' : Inv g0 S' A' w') (hle : S.le S') : Inv G S' A' w' :=
 ⟨h'.im, h'.blk, h'.inj, h'.free, h'.fam, h'.room, h'.famInj, h'.ρout, h'.tlout, (fun g o x hg => by
  obtain ⟨v, h1, h2⟩ := h.glob g o x hg
  exact ⟨v, hle.im _ _ _ h1, h2.mono hle.bare⟩), h'.rm⟩
theorem FuncJ.lift {P : Program} {G : Gl} {f : FuncId} {args : List AV} {A : AH} {K : AFin → Prop} (h : FuncJ P g0 f args A K) : FuncJ P G f args A K := by
 intro S w vs hi hl
 refine (h S w vs hi.noGlob hl).mono ?_
 rintro e w' ⟨o, ho, S', i1, f1, r1⟩
 exact ⟨o, ho, S', hi.withGlob i1 f1.le, f1, r1⟩
theorem QuietJ.lift {P : Program} {G : Gl} {f : FuncId} {args : List AV} {v : AV} (h : QuietJ P g0 f args v) : QuietJ P G f args v := fun A => (h A).lift
theorem QSpec.Ok.lift {P : Program} {G : Gl} {f : FuncId} {s : QSpec} (h : QSpec.Ok P g0 f s) : QSpec.Ok P G f s := by
 intro args K hk
 obtain ⟨v, h1, h2⟩ := h args K hk
 exact ⟨v, h1.lift, h2⟩
theorem QuietJ.of_below {P : Program} {G : Gl} {f : FuncId} {args : List AV} {v : AV}
  (h : ∀ (S : Sh) (A : AH) (w : World) (vs : List Value), Inv G S A w → LRel S args vs → Calls P f ⟨vs⟩ w fun e w' => FinRel S (.returned v) e ∧ Go.RowKit.Below w.heap.size w w') : QuietJ P G f args v := by
 intro A S w vs hi hl
 refine callsIn_wide.2 ((h S A w vs hi hl).mono ?_)
 rintro e w' ⟨hr, hb⟩
 have hlt : ∀ {b}, Owned S A b → b < w.heap.size := fun ho => hi.lt ho
 refine ⟨_, rfl, S, ?_, ⟨.refl _, hb.size, hb.os, hb.tape, hb.output, fun k hk _ => hb.block k hk, fun b ho _ => ho, fun _ _ _ h => .inl h, Nat.le_refl _, fun _ _ h => .inl h⟩, hr⟩
 refine ⟨?_, ?_, hi.inj, hi.free, hi.fam, ?_, hi.famInj, hi.ρout, hi.tlout, hi.glob, ?_⟩
 ·intro b o u hu
  rw [hb.cell (p := ⟨b, o, none⟩) (hi.imlt hu)]
  exact hi.im b o u hu
 ·intro i x hx hd
  obtain ⟨c, o, h1, h2, h3⟩ := hi.blk i x hx hd
  exact ⟨c, o, h1, by rw [hb.block c (Array.getElem?_eq_some_iff.1 h2).1]; exact h2, h3⟩
 ·intro φ b ec room hE
  obtain ⟨⟨cs, el, h1, h1'⟩, h2, h3⟩ := hi.room φ b ec room hE
  exact ⟨⟨cs, el, by rw [hb.block b (Array.getElem?_eq_some_iff.1 h1).1]; exact h1, h1'⟩, h2, h3⟩
 ·intro c n hn
  obtain ⟨cs, el, h1, h2⟩ := hi.rm c n hn
  exact ⟨cs, el, by rw [hb.block c (Array.getElem?_eq_some_iff.1 h1).1]; exact h1, h2⟩
end Go.Am
end