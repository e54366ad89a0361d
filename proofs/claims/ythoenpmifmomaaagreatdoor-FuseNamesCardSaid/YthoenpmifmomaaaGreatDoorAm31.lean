/-
  A region that draws its order: one order stands for all. Conditions: none.
-/
import Derived.Test.YthoenpmifmomaaaGreatDoorAmF
noncomputable section
namespace Go.Am
open Go

def namesOf (ops : Array Oper) (o : Oper) : List Tmp :=
  o.dst.toList ++ (o.op.operands.toList.filterMap fun | .tmp t => some t | _ => none) ++ (match o.guard with | some (j, _) => ((ops[j]?).bind (·.dst)).toList | none => [])

/-- Edges go down; whoever writes what another one names comes before or behind it. -/
def drawS (ops : Array Oper) : Bool :=
  (List.range ops.size).all fun i =>
    match ops[i]? with
    | none => true
    | some o =>
      (o.after.toList.all fun e => !Region.binds .any e || decide (e.on < i)) &&
      (List.range ops.size).all fun j =>
        match (ops[j]?).bind (·.dst) with
        | none => true
        | some t => j == i || !(namesOf ops o).contains t || bef ops i j || bef ops j i

/-- The places that hold true. -/
def idxs : List Bool → Nat → List Nat
  | [], _ => []
  | true :: l, k => k :: idxs l (k + 1)
  | false :: l, k => idxs l (k + 1)

def cntI (D : Nat → Bool) : List Nat → Nat
  | [] => 0
  | k :: l => match D k with
    | true => cntI D l + 1
    | false => cntI D l

theorem cntI_idxs (D : Nat → Bool) : ∀ (l : List Bool) (k : Nat), cntI D (idxs l k) = cntF l k D
  | [], _ => rfl
  | true :: l, k => by
    simp only [idxs, cntI, cntF, Bool.true_and, cntI_idxs D l (k + 1)]
    cases D k <;> simp <;> omega
  | false :: l, k => by simp only [idxs, cntF, Bool.false_and, Bool.false_eq_true, if_false, Nat.zero_add, cntI_idxs D l (k + 1)]

theorem idxs_mem : ∀ (l : List Bool) (k i : Nat), l[i]? = some true → k + i ∈ idxs l k
  | [], _, _, h => by simp at h
  | true :: l, k, 0, _ => by simp [idxs]
  | true :: l, k, i + 1, h => by
    have := idxs_mem l (k + 1) i (by simpa using h)
    simp only [idxs]
    exact List.mem_cons_of_mem _ (by rw [show k + (i + 1) = k + 1 + i by omega]; exact this)
  | false :: l, k, 0, h => by simp at h
  | false :: l, k, i + 1, h => by
    have := idxs_mem l (k + 1) i (by simpa using h)
    simp only [idxs]
    rw [show k + (i + 1) = k + 1 + i by omega]; exact this

/-- What may turn the heap comes one after the other. -/
def drawI (ops : Array Oper) (I : List Nat) : Bool := I.all fun i => I.all fun j => j == i || bef ops i j || bef ops j i

/-- A new cell that none of the first p looks at: it may be laid at any time. -/
def isFloat (ops : Array Oper) (p i : Nat) (o : Oper) : Bool :=
  match o.guard, o.op, o.dst with
  | none, .alloc _, some d => (List.range p).all fun j => j == i || match ops[j]? with | some oj => !(namesOf ops oj).contains d | none => true
  | _, _, _ => false

/-- From where on each operation is behind all that are before it. -/
def tailStart (ops : Array Oper) : Nat → Nat
  | 0 => 0
  | j + 1 => if (mskA ops).getD j 0 == 2 ^ j - 1 then tailStart ops j else j + 1

section
variable (P : Program) (G : Gl) (pf : PF) (m : Mc) (rd : Option Nat) (ops : Array Oper)

/-- An operation of the first p. -/
def aOpF (p i : Nat) (a : AAct) (A : AH) (o : Oper) : Option (AV × AH × Bool) := if isFloat ops p i o then some (.top, A, false) else aOp1 P G pf m rd ops a A o

def dRun (p : Nat) : List Oper → Nat → AAct → AH → Option (List (AV × Bool) × List AH)
  | [], _, _, _ => some ([], [])
  | o :: rest, i, a, A =>
    match aOpF P G pf m rd ops p i a A o with
    | some (v, A', l) =>
      match dRun p rest (i + 1) (a.put o.dst v) A' with
      | some (rs, hs) => some ((v, l) :: rs, if l then A' :: hs else hs)
      | none => none
    | none => none

def winOne (p : Nat) (I : List Nat) (Hs : List AH) (i : Nat) (o : Oper) (a : AAct) (v : AV) : Bool :=
  let lo := cntI (bef ops i) I
  let hi := cntI (fun j => !bef ops j i) I
  decide (hi ≤ lo) || ((Hs.drop lo).take (hi + 1 - lo)).all fun H =>
    match aOpF P G pf m rd ops p i a H o with
    | some (v', _, l') => !l' && eqv v' v
    | none => false

def winB (p : Nat) (I : List Nat) (Hs : List AH) : List Oper → List (AV × Bool) → Nat → AAct → Bool
  | o :: rest, (v, l) :: rs, i, a => (l || winOne P G pf m rd ops p I Hs i o a v) && winB p I Hs rest rs (i + 1) (a.put o.dst v)
  | _, _, _, _ => true

def zipR : List Oper → List (AV × Bool) → List (Option Tmp × AV)
  | o :: os, (v, _) :: rs => (o.dst, v) :: zipR os rs
  | _, _ => []

/-- The floats are taken over. -/
def adoptAll (p : Nat) : List Oper → Nat → AAct → AH → Option (AAct × AH)
  | [], _, a, A => some (a, A)
  | o :: rest, i, a, A =>
    if isFloat ops p i o then
      match o.op with
      | .alloc t =>
        match tZero P t with
        | some x => if x.isTop then none else adoptAll p rest (i + 1) (a.put o.dst (.ptr A.blks.length 0)) (A.push (.cells x.cells t))
        | none => none
      | _ => none
    else adoptAll p rest (i + 1) a A

def aDraw (a : AAct) (A : AH) : Option (List AOut) :=
  let p := tailStart ops ops.size
  let pre := ops.toList.take p
  match dRun P G pf m rd ops p pre 0 a A with
  | some (rs, hs) =>
    let I := idxs (rs.map (·.2)) 0
    if drawS ops && drawI ops I && (I.isEmpty || winB P G pf m rd ops p I (A :: hs) pre rs 0 a) then
      match adoptAll P ops p pre 0 (actF (zipR pre rs) 0 (fun _ => true) a) (((A :: hs)[cntI (fun _ => true) I]?).getD A) with
      | some (a', A') => m.ops rd ops (ops.toList.drop p) a' A'
      | none => none
    else none
  | none => none

variable {P G pf m rd ops}

theorem actF_shift : ∀ (l : List (Option Tmp × AV)) (k : Nat) (D : Nat → Bool) (a : AAct), actF l (k + 1) D a = actF l k (fun j => D (j + 1)) a
  | [], _, _, _ => rfl
  | (d, v) :: l, k, D, a => by simp only [actF]; exact actF_shift l (k + 1) D _

theorem cntF_shift : ∀ (l : List Bool) (k : Nat) (D : Nat → Bool), cntF l (k + 1) D = cntF l k (fun j => D (j + 1))
  | [], _, _ => rfl
  | b :: l, k, D => by simp only [cntF]; rw [cntF_shift l (k + 1) D]

theorem actF_none : ∀ (l : List (Option Tmp × AV)) (k : Nat) (D : Nat → Bool) (a : AAct), (∀ j, D j = false) → actF l k D a = a
  | [], _, _, _, _ => rfl
  | (d, v) :: l, k, D, a, h => by simp only [actF, h, Bool.false_eq_true, if_false]; exact actF_none l (k + 1) D a h

theorem cntF_none : ∀ (l : List Bool) (k : Nat) (D : Nat → Bool), (∀ j, D j = false) → cntF l k D = 0
  | [], _, _, _ => rfl
  | b :: l, k, D, h => by simp only [cntF, h, Bool.and_false, Bool.false_eq_true, if_false]; rw [cntF_none l (k + 1) D h]

theorem lt_succ_fun (i : Nat) : (fun j => decide (j + 1 < i + 1)) = fun j => decide (j < i) := by
  funext j; simp

theorem quietF {p i : Nat} {a : AAct} {A A' : AH} {o : Oper} {v : AV} (h : aOpF P G pf m rd ops p i a A o = some (v, A', false)) : A' = A := by
  unfold aOpF at h
  split at h
  · cases h; rfl
  · exact quiet_heap h

theorem dRun_spec {p : Nat} : ∀ (l : List Oper) (k : Nat) (a : AAct) (A : AH) (rs : List (AV × Bool)) (hs : List AH), dRun P G pf m rd ops p l k a A = some (rs, hs) →
    rs.length = l.length ∧ ∀ i o, l[i]? = some o → ∃ v lb H A', rs[i]? = some (v, lb) ∧ (A :: hs)[cntF (rs.map (·.2)) 0 fun j => decide (j < i)]? = some H ∧
      aOpF P G pf m rd ops p (k + i) (actF (zipR l rs) 0 (fun j => decide (j < i)) a) H o = some (v, A', lb) ∧ (lb = true → (A :: hs)[(cntF (rs.map (·.2)) 0 fun j => decide (j < i)) + 1]? = some A')
  | [], k, a, A, rs, hs, h => by
    simp only [dRun, Option.some.injEq, Prod.mk.injEq] at h
    obtain ⟨rfl, rfl⟩ := h
    exact ⟨rfl, fun i o ho => by simp at ho⟩
  | o :: l, k, a, A, rs, hs, h => by
    simp only [dRun] at h
    split at h
    · rename_i v A' lb h1
      split at h
      · rename_i rs' hs' h2
        simp only [Option.some.injEq, Prod.mk.injEq] at h
        obtain ⟨rfl, rfl⟩ := h
        obtain ⟨hlen, ih⟩ := dRun_spec l _ _ _ _ _ h2
        refine ⟨by simp [hlen], ?_⟩
        intro i o' ho
        cases i with
        | zero =>
          simp at ho; subst ho
          refine ⟨v, lb, A, A', rfl, ?_, ?_, ?_⟩
          · rw [cntF_none _ _ _ (fun j => by simp)]; rfl
          · rw [actF_none _ _ _ _ (fun j => by simp)]; exact h1
          · intro hlb; subst hlb
            rw [cntF_none _ _ _ (fun j => by simp)]; rfl
        | succ i =>
          obtain ⟨v', lb', H, A'', q1, q2, q3, q4⟩ := ih i o' (by simpa using ho)
          refine ⟨v', lb', H, A'', by simpa using q1, ?_, ?_, ?_⟩
          · simp only [List.map_cons, cntF]
            rw [cntF_shift, lt_succ_fun]
            cases lb with
            | true =>
              simp only [if_true, Bool.true_and, decide_eq_true_eq, Nat.zero_lt_succ]
              rw [Nat.add_comm, List.getElem?_cons_succ]; exact q2
            | false =>
              have := quietF h1
              subst this
              simpa using q2
          · simp only [zipR, actF]
            rw [actF_shift, lt_succ_fun]
            simp only [Nat.zero_lt_succ, decide_true, if_true]
            rw [show k + (i + 1) = k + 1 + i by omega]
            exact q3
          · intro hlb
            have q4 := q4 hlb
            simp only [List.map_cons, cntF]
            rw [cntF_shift, lt_succ_fun]
            cases lb with
            | true =>
              simp only [if_true, Bool.true_and, decide_eq_true_eq, Nat.zero_lt_succ]
              rw [Nat.add_comm 1, Nat.add_assoc, Nat.add_comm 1, ← Nat.add_assoc, List.getElem?_cons_succ]; exact q4
            | false =>
              have := quietF h1
              subst this
              simpa using q4
      · cases h
    · cases h

theorem winB_nil {p : Nat} {Hs : List AH} : ∀ (l : List Oper) (rs : List (AV × Bool)) (k : Nat) (a : AAct), winB P G pf m rd ops p [] Hs l rs k a = true
  | [], _, _, _ => by unfold winB; rfl
  | o :: l, [], _, _ => by unfold winB; rfl
  | o :: l, (v, lb) :: rs, k, a => by
    simp only [winB, winB_nil l rs, winOne, cntI, Nat.le_refl, decide_true, Bool.true_or, Bool.or_true, Bool.and_true]

theorem win_all {p : Nat} {I : List Nat} {Hs : List AH} {l : List Oper} {rs : List (AV × Bool)} {k : Nat} {a : AAct} (h : (I.isEmpty || winB P G pf m rd ops p I Hs l rs k a) = true) : winB P G pf m rd ops p I Hs l rs k a = true := by
  cases I with
  | nil => exact winB_nil l rs k a
  | cons i I => simpa using h

theorem winB_spec {p : Nat} {I : List Nat} {Hs : List AH} : ∀ (l : List Oper) (rs : List (AV × Bool)) (k : Nat) (a : AAct), winB P G pf m rd ops p I Hs l rs k a = true → ∀ i o v, l[i]? = some o → rs[i]? = some (v, false) →
    winOne P G pf m rd ops p I Hs (k + i) o (actF (zipR l rs) 0 (fun j => decide (j < i)) a) v = true
  | [], _, _, _, _, i, o, v, ho, _ => by simp at ho
  | o :: l, [], _, _, _, i, _, v, _, hr => by simp at hr
  | o :: l, (v, lb) :: rs, k, a, h, 0, o', v', ho, hr => by
    simp at ho hr
    obtain ⟨rfl, rfl⟩ := hr
    subst ho
    simp only [winB, Bool.false_or, Bool.and_eq_true] at h
    rw [actF_none _ _ _ _ (fun j => by simp)]
    exact h.1
  | o :: l, (v, lb) :: rs, k, a, h, i + 1, o', v', ho, hr => by
    simp only [winB, Bool.and_eq_true] at h
    have := winB_spec l rs (k + 1) _ h.2 i o' v' (by simpa using ho) (by simpa using hr)
    simp only [zipR, actF]
    rw [actF_shift, lt_succ_fun, show k + (i + 1) = k + 1 + i by omega]
    simp only [Nat.zero_lt_succ, decide_true, if_true]
    exact this

end
end Go.Am
