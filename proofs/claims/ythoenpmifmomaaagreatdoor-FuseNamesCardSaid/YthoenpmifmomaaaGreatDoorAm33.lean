/-
  The whole machine: regions that draw their order, and calls that are handed values alone. Conditions: none.
-/
import Derived.Test.YthoenpmifmomaaaGreatDoorAmX
noncomputable section
namespace Go.Am
open Go

section
variable (P : Program) (G : Gl)

/-- A pure call, if it is one. -/
def pFn (pu : FuncId → Bool) (orc : Orc) (m : Mc) (f : FuncId) (args : List AV) : Option (List AEnd) :=
  if pu f && AV.cleanL args then
    let args' := args.map (pur P AH.nil pDepth)
    match orc f args' with
    | some es => some es
    | none =>
      match sFunc P m f args' AH.nil with
      | some os => some (nubE (os.map (purEnd P pDepth)))
      | none => none
  else none

def fFunc (pu : FuncId → Bool) (orc : Orc) (m : Mc) (f : FuncId) (args : List AV) (A : AH) : Option (List AFin) :=
  match pFn P pu orc m f args with
  | some es => some (es.map fun e => ⟨e, A⟩)
  | none => sFunc P m f args A

def fCode (pu : FuncId → Bool) (orc : Orc) (m : Mc) (rd : Option Nat) (c : Code) (a : AAct) (A : AH) : Option (List AOut) :=
  match c with
  | .region _ ops true =>
    match aDraw P G (pFn P pu orc m) m rd ops a A with
    | some os => some os
    | none => aDrawS P G (pFn P pu orc m) m rd ops a A
  | c => sCode P m rd c a A

def Mc.stepF (pu : FuncId → Bool) (orc : Orc) (m : Mc) : Mc := { Mc.step P G m with func := fFunc P pu orc m, code := fCode P G pu orc m }

/-- No machine yet, but for what it knows of rows. -/
def Mc.base (mu : Oper → Bool) : Mc := { Mc.none with mu := mu }

/-- So many rounds. -/
def Mc.runF (pu : FuncId → Bool) (orc : Orc) (mu : Oper → Bool) (n : Nat) : Mc := Nat.rec (Mc.base mu) (fun _ r => Mc.stepF P G pu orc r) n

variable {P G}

theorem pFn_ok {pu : FuncId → Bool} {orc : Orc} (ho : Orc.Ok P G orc) {m : Mc} (hm : Mc.Ok P G m) {f : FuncId} {args : List AV} {es : List AEnd} (hx : pFn P pu orc m f args = some es) : QCall P G f args es := by
  intro S A w vs hi hl
  unfold pFn at hx
  split at hx
  · simp only at hx
    split at hx
    · rename_i es' he
      cases hx
      exact (ho _ _ _ he).lift hi (pur_bares _ hl)
    · split at hx
      · rename_i os' hs
        cases hx
        exact (PCall.of_sFunc hm hs pDepth).nub.lift hi (pur_bares _ hl)
      · cases hx
  · cases hx

theorem stepF_ok (hmix : P.follows .mixedOrders = true) {pu : FuncId → Bool} {orc : Orc} (ho : Orc.Ok P G orc) {m : Mc} (hm : Mc.Ok P G m) : Mc.Ok P G (Mc.stepF P G pu orc m) :=
  { step_ok hm with
    func := fun f args A os h S w vs hi hl => by
      have h : fFunc P pu orc m f args A = some os := h
      unfold fFunc at h
      split at h
      · rename_i es he
        cases h
        exact pFn_ok ho hm he S A w vs hi hl
      · exact sFunc_ok hm h hi hl
    code := fun rd c a A os h S w b ro hi hab hr => by
      have h : fCode P G pu orc m rd c a A = some os := h
      unfold fCode at h
      split at h
      · split at h
        · rename_i he
          cases h
          exact aDraw_ok hm (fun _ _ _ h => pFn_ok ho hm h) hmix he hi hab hr _
        · exact aDrawS_ok hm (fun _ _ _ h => pFn_ok ho hm h) hmix h hi hab hr _
      · exact (step_ok hm).code rd _ a A os h S w b ro hi hab hr }

theorem base_ok (mu : Oper → Bool) : Mc.Ok P G (Mc.base mu) where
  func _ _ _ _ h := by cases h
  code _ _ _ _ _ h := by cases h
  loop _ _ _ _ _ h := by cases h
  ops _ _ _ _ _ _ h := by cases h
  round _ _ _ _ h := by cases h
  leave _ _ _ _ _ _ h := by cases h
  dfunc _ _ _ _ _ h := by cases h
  codeS _ _ _ _ _ h := by cases h

theorem runF_ok (hmix : P.follows .mixedOrders = true) {pu : FuncId → Bool} {orc : Orc} (ho : Orc.Ok P G orc) (mu : Oper → Bool) (n : Nat) : Mc.Ok P G (Mc.runF P G pu orc mu n) := by
  induction n with
  | zero => exact base_ok mu
  | succ n ih => exact stepF_ok hmix ho ih

/-- A CALL, RUN: one lemma of a closed run. -/
def pRun (P : Program) (G : Gl) (pu : FuncId → Bool) (orc : Orc) (mu : Oper → Bool) (n : Nat) (f : FuncId) (args : List AV) : Option (List AEnd) :=
  (sFunc P (Mc.runF P G pu orc mu n) f args AH.nil).map fun os => nubE (os.map (purEnd P pDepth))

theorem pRun_ok (hmix : P.follows .mixedOrders = true) {pu : FuncId → Bool} {orc : Orc} (ho : Orc.Ok P G orc) {mu : Oper → Bool} {n : Nat} {f : FuncId} {args : List AV} {es : List AEnd} (h : pRun P G pu orc mu n f args = some es) : PCall P G f args es := by
  unfold pRun at h
  simp only [Option.map_eq_some_iff] at h
  obtain ⟨os, hs, rfl⟩ := h
  exact (PCall.of_sFunc (runF_ok hmix ho mu n) hs pDepth).nub

end
end Go.Am
