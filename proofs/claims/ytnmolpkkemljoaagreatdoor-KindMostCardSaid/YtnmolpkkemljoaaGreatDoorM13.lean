/-
  The whole machine, with the plain rule alone for regions that draw their order. Conditions: none.
-/
import Derived.Test.YtnmolpkkemljoaaGreatDoorM2
set_option linter.unusedVariables false
set_option linter.unusedSimpArgs false
noncomputable section
namespace Go.Am
open Go
section
variable (P : Program) (G : Gl)
def fCodeL (pu : FuncId → Bool) (orc : Orc) (m : Mc) (rd : Option Nat) (c : Code) (a : AAct) (A : AH) : Option (List AOut) :=
 match c with
 | .region _ ops true => aDraw P G (pFn P pu orc m) m rd ops a A
 | c => sCode P m rd c a A
def Mc.stepFL (pu : FuncId → Bool) (orc : Orc) (m : Mc) : Mc := { Mc.step P G m with func := fFunc P pu orc m, code := fCodeL P G pu orc m }
def Mc.runFL (pu : FuncId → Bool) (orc : Orc) (mu : Oper → Bool) (n : Nat) : Mc := Nat.rec (Mc.base mu) (fun _ r => Mc.stepFL P G pu orc r) n
variable {P G}
theorem stepFL_ok (hmix : P.follows .mixedOrders = true) {pu : FuncId → Bool} {orc : Orc} (ho : Orc.Ok P G orc) {m : Mc} (hm : Mc.Ok P G m) : Mc.Ok P G (Mc.stepFL P G pu orc m) :=
 {step_ok hm with
  func := fun f args A os h S w vs hi hl => by
   have h : fFunc P pu orc m f args A = some os := h
   unfold fFunc at h
   split at h
   ·rename_i es he
    cases h
    exact pFn_ok ho hm he S A w vs hi hl
   ·exact sFunc_ok hm h hi hl
  code := fun rd c a A os h S w b ro hi hab hr => by
   have h : fCodeL P G pu orc m rd c a A = some os := h
   unfold fCodeL at h
   split at h
   ·exact aDraw_ok hm (fun _ _ _ h => pFn_ok ho hm h) hmix h hi hab hr _
   ·exact (step_ok hm).code rd _ a A os h S w b ro hi hab hr }
theorem runFL_ok (hmix : P.follows .mixedOrders = true) {pu : FuncId → Bool} {orc : Orc} (ho : Orc.Ok P G orc) (mu : Oper → Bool) (n : Nat) : Mc.Ok P G (Mc.runFL P G pu orc mu n) := by
 induction n with
 | zero => exact base_ok mu
 | succ n ih => exact stepFL_ok hmix ho ih
def pRunL (P : Program) (G : Gl) (pu : FuncId → Bool) (orc : Orc) (mu : Oper → Bool) (n : Nat) (f : FuncId) (args : List AV) : Option (List AEnd) :=
 (sFunc P (Mc.runFL P G pu orc mu n) f args AH.nil).map fun os => nubE (os.map (purEnd P pDepth))
theorem pRunL_ok (hmix : P.follows .mixedOrders = true) {pu : FuncId → Bool} {orc : Orc} (ho : Orc.Ok P G orc) {mu : Oper → Bool} {n : Nat} {f : FuncId} {args : List AV} {es : List AEnd} (h : pRunL P G pu orc mu n f args = some es) : PCall P G f args es := by
 unfold pRunL at h
 simp only [Option.map_eq_some_iff] at h
 obtain ⟨os, hs, rfl⟩ := h
 exact (PCall.of_sFunc (runFL_ok hmix ho mu n) hs pDepth).nub
end
end Go.Am