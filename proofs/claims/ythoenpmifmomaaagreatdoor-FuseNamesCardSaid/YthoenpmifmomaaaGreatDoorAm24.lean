/-
  The evaluator with calls that are handed values alone: they run in a heap of their own, or are looked up. Conditions: none.
-/
import Derived.Test.YthoenpmifmomaaaGreatDoorAm23
noncomputable section
namespace Go.Am
open Go

mutual
/-- The same value, by its looks. -/
def eqv : AV → AV → Bool
  | .top, .top => true
  | .bool a, .bool b => a == b
  | .int k a, .int j b => decide (k = j) && decide (a = b)
  | .str a, .str b => decide (a = b)
  | .nilp, .nilp => true
  | .ptr a b, .ptr c d => a == c && b == d
  | .gptr a b, .gptr c d => a == c && b == d
  | .iptr a, .iptr b => eqv a b
  | .isl n f o xs, .isl n' f' o' ys => n == n' && decide (f = f') && o == o' && eqvL xs ys
  | .msl a b c, .msl a' b' c' => a == a' && b == b' && c == c'
  | .row a b c, .row a' b' c' => a == a' && b == b' && c == c'
  | .map a, .map b => a == b
  | .nilm, .nilm => true
  | .fn (.func f) xs ys, .fn (.func g) us vs => f == g && eqvL xs us && eqvL ys vs
  | .nilf, .nilf => true
  | .iface t a, .iface u b => t == u && eqv a b
  | .nili, .nili => true
  | .sym i, .sym j => i == j
  | .agg xs, .agg ys => eqvL xs ys
  | .tup xs, .tup ys => eqvL xs ys
  | _, _ => false
def eqvL : List AV → List AV → Bool
  | [], [] => true
  | x :: xs, y :: ys => eqv x y && eqvL xs ys
  | _, _ => false
end

mutual
theorem eqv_eq : ∀ (x y : AV), eqv x y = true → x = y
  | x, y, h => by
    cases x <;> cases y <;> first
      | (simp [eqv] at h; done)
      | rfl
      | (simp [eqv] at h; simp [h]; done)
      | skip
    · simp only [eqv] at h; rw [eqv_eq _ _ h]
    · simp only [eqv, Bool.and_eq_true, beq_iff_eq, decide_eq_true_eq] at h
      obtain ⟨⟨⟨rfl, rfl⟩, rfl⟩, h4⟩ := h
      rw [eqvL_eq _ _ h4]
    · rename_i f xs ys g us vs
      cases f <;> cases g <;> first
        | (simp [eqv] at h; done)
        | (simp only [eqv, Bool.and_eq_true, beq_iff_eq] at h
           obtain ⟨⟨rfl, h2⟩, h3⟩ := h
           rw [eqvL_eq _ _ h2, eqvL_eq _ _ h3])
    · simp only [eqv, Bool.and_eq_true, beq_iff_eq] at h
      obtain ⟨rfl, h2⟩ := h
      rw [eqv_eq _ _ h2]
    · simp only [eqv] at h; rw [eqvL_eq _ _ h]
    · simp only [eqv] at h; rw [eqvL_eq _ _ h]
theorem eqvL_eq : ∀ (xs ys : List AV), eqvL xs ys = true → xs = ys
  | [], [], _ => rfl
  | [], _ :: _, h => by simp [eqvL] at h
  | _ :: _, [], h => by simp [eqvL] at h
  | x :: xs, y :: ys, h => by
    simp only [eqvL, Bool.and_eq_true] at h
    rw [eqv_eq _ _ h.1, eqvL_eq _ _ h.2]
end

def eqvC : AChain → AChain → Bool
  | [], [] => true
  | (x, a) :: xs, (y, b) :: ys => eqv x y && a == b && eqvC xs ys
  | _, _ => false

theorem eqvC_eq : ∀ (xs ys : AChain), eqvC xs ys = true → xs = ys
  | [], [], _ => rfl
  | [], _ :: _, h => by simp [eqvC] at h
  | _ :: _, [], h => by simp [eqvC] at h
  | (x, a) :: xs, (y, b) :: ys, h => by
    simp only [eqvC, Bool.and_eq_true, beq_iff_eq] at h
    obtain ⟨⟨h1, rfl⟩, h3⟩ := h
    rw [eqv_eq _ _ h1, eqvC_eq _ _ h3]

def eqvE : AEnd → AEnd → Bool
  | .returned x, .returned y => eqv x y
  | .panicked c, .panicked d => eqvC c d
  | _, _ => false

theorem eqvE_eq (x y : AEnd) (h : eqvE x y = true) : x = y := by
  cases x <;> cases y <;> first
    | (simp [eqvE] at h; done)
    | (simp only [eqvE] at h; rw [eqv_eq _ _ h])
    | (simp only [eqvE] at h; rw [eqvC_eq _ _ h])

/-- Each end once. -/
def nubE : List AEnd → List AEnd
  | [] => []
  | [x] => [x]
  | x :: xs => let ys := nubE xs; if ys.any (eqvE x) then ys else x :: ys

theorem mem_nubE : ∀ (xs : List AEnd) (x : AEnd), x ∈ xs → x ∈ nubE xs
  | [], _, h => by simp at h
  | [y], x, h => by simpa [nubE] using h
  | y :: z :: xs, x, h => by
    simp only [nubE]
    have ih := mem_nubE (z :: xs)
    split
    · rename_i ha
      rcases List.mem_cons.1 h with rfl | h
      · obtain ⟨u, hu, he⟩ := List.any_eq_true.1 ha
        rw [eqvE_eq _ _ he]; exact hu
      · exact ih x h
    · rcases List.mem_cons.1 h with rfl | h
      · exact List.mem_cons_self
      · exact List.mem_cons_of_mem _ (ih x h)

mutual
/-- Nothing in it that can be written, and nothing that is not known. -/
def AV.clean : AV → Bool
  | .top => false
  | .ptr _ _ => false
  | .msl _ _ _ => false
  | .row _ _ _ => false
  | .map _ => false
  | .iptr v => v.clean
  | .isl _ _ _ xs => AV.cleanL xs
  | .fn (.func _) xs ys => AV.cleanL xs && AV.cleanL ys
  | .fn _ _ _ => false
  | .iface _ v => v.clean
  | .agg xs => AV.cleanL xs
  | .tup xs => AV.cleanL xs
  | _ => true
def AV.cleanL : List AV → Bool
  | [] => true
  | x :: xs => x.clean && AV.cleanL xs
end

section
variable (P : Program) (G : Gl)

/-- Calls that are looked up. -/
abbrev Orc := FuncId → List AV → Option (List AEnd)

def Orc.Ok (orc : Orc) : Prop := ∀ f args es, orc f args = some es → PCall P G f args es

def pDepth : Nat := 100

def pFunc (pu : FuncId → Bool) (orc : Orc) (m : Mc) (f : FuncId) (args : List AV) (A : AH) : Option (List AFin) :=
  if pu f && AV.cleanL args then
    let args' := args.map (pur P AH.nil pDepth)
    match orc f args' with
    | some es => some (es.map fun e => ⟨e, A⟩)
    | none =>
      match sFunc P m f args' AH.nil with
      | some os => some ((nubE (os.map (purEnd P pDepth))).map fun e => ⟨e, A⟩)
      | none => none
  else sFunc P m f args A

def Mc.stepP (pu : FuncId → Bool) (orc : Orc) (m : Mc) : Mc := { Mc.step P G m with func := pFunc P pu orc m }

/-- So many rounds. -/
noncomputable def Mc.runP (pu : FuncId → Bool) (orc : Orc) (m : Mc) (n : Nat) : Mc := Nat.rec m (fun _ r => Mc.stepP P G pu orc r) n

variable {P G}

theorem PCall.of_sFunc {m : Mc} (hm : Mc.Ok P G m) {f : FuncId} {args : List AV} {os : List AFin} (h : sFunc P m f args AH.nil = some os) (n : Nat) : PCall P G f args (os.map (purEnd P n)) := by
  intro S w vs hi hl
  refine (sFunc_ok hm h hi hl).mono ?_
  rintro e w' ⟨o, ho, S', i1, f1, r1⟩
  obtain ⟨i2, z2⟩ := i1.shut
  have f2 := f1.shut (fun _ => rfl) (fun _ _ => rfl) (fun _ => rfl)
  exact ⟨purEnd P n o, List.mem_map.2 ⟨o, ho, rfl⟩, S'.shut o.A w', i2, f2, purEnd_ok z2 r1⟩

theorem PCall.nub {f : FuncId} {args : List AV} {es : List AEnd} (h : PCall P G f args es) : PCall P G f args (nubE es) := h.sub fun e he => mem_nubE es e he

theorem pFunc_ok {pu : FuncId → Bool} {orc : Orc} (ho : Orc.Ok P G orc) {m : Mc} (hm : Mc.Ok P G m) {f : FuncId} {args : List AV} {A : AH} {os : List AFin} (hx : pFunc P pu orc m f args A = some os) {S : Sh} {w : World} {vs : List Value} (hi : Inv G S A w) (hl : LRel S args vs) :
    CallsIn Fence.wide 0 P f ⟨vs⟩ w (FinPost G S A w os) := by
  unfold pFunc at hx
  split at hx
  · simp only at hx
    split at hx
    · rename_i es he
      cases hx
      exact (ho _ _ _ he).lift hi (pur_bares _ hl)
    · split at hx
      · rename_i os' hs
        cases hx
        exact (PCall.of_sFunc hm hs pDepth).nub.lift hi (pur_bares _ hl)
      · cases hx
  · exact sFunc_ok hm hx hi hl

theorem stepP_ok {pu : FuncId → Bool} {orc : Orc} (ho : Orc.Ok P G orc) {m : Mc} (hm : Mc.Ok P G m) : Mc.Ok P G (Mc.stepP P G pu orc m) :=
  { step_ok hm with func := fun _ _ _ _ h _ _ _ hi hl => pFunc_ok ho hm h hi hl }

theorem runP_ok {pu : FuncId → Bool} {orc : Orc} (ho : Orc.Ok P G orc) {m : Mc} (hm : Mc.Ok P G m) (n : Nat) : Mc.Ok P G (Mc.runP P G pu orc m n) := by
  induction n with
  | zero => exact hm
  | succ n ih => exact stepP_ok ho ih

/-- No call is looked up. -/
def Orc.none : Orc := fun _ _ => .none
theorem Orc.none_ok : Orc.Ok P G Orc.none := fun _ _ _ h => by cases h

/-- A table of calls. -/
def Orc.table : List (FuncId × List AV × List AEnd) → Orc
  | [], _, _ => .none
  | (g, xs, es) :: t, f, args => if g == f && eqvL xs args then some es else Orc.table t f args

theorem Orc.table_ok : ∀ {t : List (FuncId × List AV × List AEnd)}, (∀ e ∈ t, PCall P G e.1 e.2.1 e.2.2) → Orc.Ok P G (Orc.table t)
  | [], _ => fun _ _ _ h => by cases h
  | (g, xs, es) :: t, ht => fun f args es' h => by
    simp only [Orc.table] at h
    split at h
    · rename_i hc
      simp only [Bool.and_eq_true, beq_iff_eq] at hc
      obtain ⟨rfl, h2⟩ := hc
      cases h
      rw [← eqvL_eq _ _ h2]
      exact ht _ List.mem_cons_self
    · exact Orc.table_ok (fun e he => ht e (List.mem_cons_of_mem _ he)) f args es' h

end
end Go.Am
