/-
  What is handed over need not be known by the room behind it. Conditions: none.
-/
import Derived.Test.YtnmolpkkemljoaaGreatDoorM5
noncomputable section
namespace Go.Am
open Go

def weakA : Nat → AV → AV
  | 0, x => x
  | n + 1, x =>
    match x with
    | .isl b _ _ xs => .isl b none 0 xs
    | .agg cs => .agg (cs.map (weakA n))
    | x => x

theorem LRel.mapAll {S : Sh} {f : AV → AV} (hf : ∀ x v, VRel S x v → VRel S (f x) v) : ∀ {xs : List AV} {vs : List Value}, LRel S xs vs → LRel S (xs.map f) vs
  | _, _, .nil => .nil
  | _, _, .cons _ _ _ _ hv hl => .cons _ _ _ _ (hf _ _ hv) (hl.mapAll hf)

theorem weakA_ok {S : Sh} : ∀ (n : Nat) (x : AV) (v : Value), VRel S x v → VRel S (weakA n x) v
  | 0, x, v, h => h
  | n + 1, x, v, h => by
    have ih := weakA_ok (S := S) n
    have h' := h
    cases h with
    | isl fam off xs sz a o cap h0 hsz hc hl hf => exact .isl none 0 xs sz a o cap h0 hsz hc hl (fun φ hφ => by cases hφ)
    | islNil fam off => exact .islNil _ _
    | islE off a => exact .islE _ _
    | agg xs vs hl => exact .agg _ _ (hl.mapAll ih)
    | _ => exact h'

theorem QuietJ.weakA {P : Program} {G : Gl} {f : FuncId} {args : List AV} {v : AV} (n : Nat) (h : QuietJ P G f (args.map (weakA n)) v) : QuietJ P G f args v :=
  fun A S w vs hi hl => h A S w vs hi (hl.mapAll (weakA_ok n))

/-- A contract, asked of what is handed over without the room behind it. -/
def weakQ (n : Nat) (q : QSpec) : QSpec := fun args K => q (args.map (Go.Am.weakA n)) K

theorem QSpec.Ok.weak {P : Program} {G : Gl} {f : FuncId} {q : QSpec} (n : Nat) (h : QSpec.Ok P G f q) : QSpec.Ok P G f (weakQ n q) := by
  intro args K hk
  obtain ⟨v, h1, h2⟩ := h _ _ hk
  exact ⟨v, h1.weakA n, h2⟩

end Go.Am
