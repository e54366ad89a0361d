/-
  The abstract machine's runs: what a run may come to, and one round of the evaluator, whose calls go to a machine that is given. Conditions: none.
-/
import Derived.Test.YthoenpmifmomaaaGreatDoorAm13
import Derived.RangeFuncLeaves
import Derived.RecoverIn
import Derived.TacticsIn
noncomputable section
namespace Go.Am
open Go

abbrev AChain := List (AV × Bool)

inductive AE where
  | normal
  | exit (id : Nat)
  | goto (l : Nat)
  | ret
  | panic (c : AChain)

inductive AEnd where
  | returned (v : AV)
  | panicked (c : AChain)

inductive AMode where
  | returning
  | panicking (c : AChain)

structure AOut where
  e : AE
  a : AAct
  A : AH

structure AFin where
  e : AEnd
  A : AH

structure ADfin where
  e : AEnd
  u : AMode
  A : AH

structure ASout where
  e : AE
  a : AAct
  u : AMode
  A : AH

inductive ChRel (S : Sh) : AChain → List PanicEntry → Prop
  | nil : ChRel S [] []
  | cons (x : AV) (v : Value) (b : Bool) (xs : AChain) (es : List PanicEntry) : VRel S x v → ChRel S xs es → ChRel S ((x, b) :: xs) (⟨v, b, false⟩ :: es)

inductive ERel (S : Sh) : AE → Exit → Prop
  | normal : ERel S .normal .normal
  | exit (id : Nat) : ERel S (.exit id) (.exit id)
  | goto (l : Nat) : ERel S (.goto l) (.goto l)
  | ret : ERel S .ret .ret
  | panic (c : AChain) (d : List PanicEntry) : ChRel S c d → ERel S (.panic c) (.panic d)

inductive FinRel (S : Sh) : AEnd → Ending → Prop
  | returned (x : AV) (v : Value) : VRel S x v → FinRel S (.returned x) (.returned v)
  | panicked (c : AChain) (d : List PanicEntry) : ChRel S c d → FinRel S (.panicked c) (.panicked d)

inductive MdRel (S : Sh) : AMode → FrameMode → Prop
  | returning : MdRel S .returning .returning
  | panicking (c : AChain) (d : List PanicEntry) : ChRel S c d → MdRel S (.panicking c) (.panicking d)

theorem ChRel.mono {S S' : Sh} (h : S.le S') : ∀ {c : AChain} {d : List PanicEntry}, ChRel S c d → ChRel S' c d
  | _, _, .nil => .nil
  | _, _, .cons _ _ _ _ _ h1 h2 => .cons _ _ _ _ _ (h1.mono h) (h2.mono h)
theorem MdRel.mono {S S' : Sh} (h : S.le S') {c : AMode} {d : FrameMode} : MdRel S c d → MdRel S' c d
  | .returning => .returning
  | .panicking _ _ h1 => .panicking _ _ (h1.mono h)
theorem ChRel.append {S : Sh} : ∀ {c c' : AChain} {d d' : List PanicEntry}, ChRel S c d → ChRel S c' d' → ChRel S (c ++ c') (d ++ d')
  | _, _, _, _, .nil, h => h
  | _, _, _, _, .cons _ _ _ _ _ h1 h2, h => .cons _ _ _ _ _ h1 (h2.append h)

def AMode.settle : AMode → AMode
  | .panicking ((_, true) :: _) => .returning
  | u => u
def AMode.raised (u : AMode) (c : AChain) : AMode :=
  match u with
  | .panicking old => .panicking (c ++ old)
  | _ => .panicking c

theorem ChRel.noGoexit {S : Sh} : ∀ {c : AChain} {d : List PanicEntry}, ChRel S c d → d.dropWhile (!·.goexit) = []
  | _, _, .nil => rfl
  | _, _, .cons _ _ _ _ _ _ h => by simp [h.noGoexit]

theorem MdRel.settle {S : Sh} {c : AMode} {d : FrameMode} (h : MdRel S c d) : MdRel S c.settle (Go.settle d) := by
  cases h with
  | returning => exact .returning
  | panicking c d h =>
    cases h with
    | nil => exact .panicking _ _ .nil
    | cons x v b xs es h1 h2 =>
      cases b with
      | false => exact .panicking _ _ (.cons _ _ _ _ _ h1 h2)
      | true =>
        simp only [Go.settle, h2.noGoexit]
        exact .returning

theorem MdRel.raised {S : Sh} {c : AMode} {d : FrameMode} (h : MdRel S c d) {x : AChain} {y : List PanicEntry} (hx : ChRel S x y) : MdRel S (c.raised x) (Go.raised d y) := by
  cases h with
  | returning => exact .panicking _ _ hx
  | panicking c d h => exact .panicking _ _ (hx.append h)

end Go.Am
