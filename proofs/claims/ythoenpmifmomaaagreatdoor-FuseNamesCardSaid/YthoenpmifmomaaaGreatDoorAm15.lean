/-
  One round of the evaluator: whatever a function, a piece of code, a loop, an operation comes to, where the machine that is given says what its parts come to. Conditions: none.
-/
import Derived.Test.YthoenpmifmomaaaGreatDoorAm14
noncomputable section
namespace Go.Am
open Go

structure Mc where
  mu : Oper → Bool
  func : FuncId → List AV → AH → Option (List AFin)
  code : Option Nat → Code → AAct → AH → Option (List AOut)
  loop : Option Nat → Code → AAct → AH → Option (List AOut)
  ops : Option Nat → Array Oper → List Oper → AAct → AH → Option (List AOut)
  round : Nat → List AV → AH → Option (List AFin)
  leave : Func → List AV → List ADef → AMode → AH → Option (List AFin)
  dfunc : FuncId → List AV → AMode → AH → Option (List ADfin)
  codeS : Code → AAct → AMode → AH → Option (List ASout)

def Mc.none : Mc where
  mu _ := false
  func _ _ _ := .none
  code _ _ _ _ := .none
  loop _ _ _ _ := .none
  ops _ _ _ _ _ := .none
  round _ _ _ := .none
  leave _ _ _ _ _ := .none
  dfunc _ _ _ _ := .none
  codeS _ _ _ _ := .none

/-- Every one of them. -/
def allM {α β : Type} (f : α → Option (List β)) : List α → Option (List β)
  | [] => some []
  | x :: xs =>
    match f x with
    | .none => .none
    | some ys => match allM f xs with
      | .none => .none
      | some zs => some (ys ++ zs)

def bindM {α β : Type} (l : Option (List α)) (f : α → Option (List β)) : Option (List β) :=
  match l with
  | .none => .none
  | some xs => allM f xs

theorem allM_mem {α β : Type} {f : α → Option (List β)} : ∀ {l : List α} {out : List β}, allM f l = some out → ∀ x ∈ l, ∃ ys, f x = some ys ∧ ∀ y ∈ ys, y ∈ out
  | [], _, _, x, hx => by simp at hx
  | z :: l, out, h, x, hx => by
    simp only [allM] at h
    split at h
    · cases h
    · rename_i ys hy
      split at h
      · cases h
      · rename_i zs hz
        cases h
        rcases List.mem_cons.1 hx with rfl | hx
        · exact ⟨ys, hy, fun y hy => List.mem_append_left _ hy⟩
        · obtain ⟨us, h1, h2⟩ := allM_mem hz x hx
          exact ⟨us, h1, fun y hy => List.mem_append_right _ (h2 y hy)⟩

theorem bindM_mem {α β : Type} {l : Option (List α)} {f : α → Option (List β)} {out : List β} (h : bindM l f = some out) :
    ∃ xs, l = some xs ∧ ∀ x ∈ xs, ∃ ys, f x = some ys ∧ ∀ y ∈ ys, y ∈ out := by
  unfold bindM at h
  split at h
  · cases h
  · rename_i xs
    exact ⟨xs, rfl, allM_mem h⟩

def aYielded (ops : Array Oper) (a : AAct) (j : Nat) : Option (Option Bool) :=
  match (ops[j]?).bind (·.dst) with
  | .none => some .none
  | some t =>
    match a.tmps[t]? with
    | .none => some .none
    | some (.bool b) => some (some b)
    | some .top => .none
    | some (.sym _) => .none
    | some _ => some .none

def aWanted (ops : Array Oper) (a : AAct) (o : Oper) : Option Bool :=
  match o.guard with
  | .none => some true
  | some (j, want) => (aYielded ops a j).map fun y => y == some want

def aSetAll : List Tmp → List AV → List AV → List AV
  | t :: ts, x :: xs, tmps => aSetAll ts xs (tmps.set t x)
  | _, _, tmps => tmps

def aResult (P : Program) (G : Gl) (A : AH) (tmps : List AV) : ResultVar → Option AV
  | .tmp t => some ((tmps[t]?).getD .top)
  | .cell a t => aLoad P G A t ((tmps[a]?).getD .top)

def aResultL (P : Program) (G : Gl) (A : AH) (tmps : List AV) : List ResultVar → Option (List AV)
  | [] => some []
  | r :: rs =>
    match aResult P G A tmps r, aResultL P G A tmps rs with
    | some x, some xs => some (x :: xs)
    | _, _ => .none

def aResults (P : Program) (G : Gl) (A : AH) (fn : Func) (tmps : List AV) : Option AV :=
  match aResultL P G A tmps fn.results.toList with
  | some [x] => some x
  | some xs => some (.tup xs)
  | .none => .none

def AE.jump : AE → Option (Option Code)
  | .normal => some .none
  | .ret => some (some .ret)
  | .exit id => some (some (.exit id))
  | .goto l => some (some (.goto l))
  | .panic _ => .none

def AE.unblock (id : Nat) : AE → AE
  | .exit id' => if id' = id then .normal else .exit id'
  | e => e

section
variable (P : Program) (G : Gl) (m : Mc)

def sAfter (rd : Option Nat) (ops : Array Oper) (dst : Option Tmp) (rest : List Oper) (a : AAct) (x : AFin) : Option (List AOut) :=
  match x.e with
  | .returned v => m.ops rd ops rest (a.put dst v) x.A
  | .panicked c => some [⟨.panic c, a, x.A⟩]

def sOne (rd : Option Nat) (ops : Array Oper) (dst : Option Tmp) (rest : List Oper) (a : AAct) : AR → Option (List AOut)
  | .val v A => m.ops rd ops rest (a.put dst v) A
  | .enter f args A => bindM (m.func f args A) (sAfter m rd ops dst rest a)
  | .yield l args A => bindM (m.round l args A) (sAfter m rd ops dst rest a)
  | .dfr d A => m.ops rd ops rest ({ a with defers := d :: a.defers }.put dst (.tup [])) A
  | .panic v A => some [⟨.panic [(v, false)], a, A⟩]
  | .recover _ => .none

def sOps (rd : Option Nat) (ops : Array Oper) (l : List Oper) (a : AAct) (A : AH) : Option (List AOut) :=
  match l with
  | [] => some [⟨.normal, a, A⟩]
  | o :: rest =>
    match aWanted ops a o with
    | .none => .none
    | some false => m.ops rd ops rest (a.put o.dst (.tup [])) A
    | some true => bindM (aOp P G (m.mu o) rd.isSome A a.eval o) (sOne m rd ops o.dst rest a)

/-- A range over a function: the record; the call; the pending jump. -/
def sRange (rd : Option Nat) (g : Operand) (ps : Array Tmp) (assign body : Code) (a : AAct) (A : AH) : Option (List AOut) :=
  let go (d : Nat) (mark : List ADef) (A : AH) : Option (List AOut) :=
    let l := A.blks.length
    match a.eval g with
    | .fn (.func f) first cap =>
      match aEnter P f (first ++ [.fn (.yield l) [] []] ++ cap) (A.push (.loop .ready .none a.tmps ps assign body d)) with
      | some (.enter f args A') =>
        bindM (m.func f args A') fun x =>
          match x.e with
          | .panicked c => some [⟨.panic c, { a with defers := mark ++ a.defers }, x.A⟩]
          | .returned _ =>
            match x.A.blks[l]? with
            | some (.loop .busy _ _ _ _ _ _) => .none
            | some (.loop _ pd ats ps' as' bd' d') =>
              let A'' := x.A.put l (.loop .exhausted pd ats ps' as' bd' d')
              match pd with
              | .none => some [⟨.normal, { a with defers := mark ++ a.defers }, A''⟩]
              | some c => m.code rd c { a with defers := mark ++ a.defers } A''
            | _ => .none
      | _ => .none
    | _ => .none
  match rd with
  | .none => go A.blks.length [.mark A.blks.length] (A.push .defers)
  | some l0 =>
    match A.blks[l0]? with
    | some (.loop _ _ _ _ _ _ d) => go d [] A
    | _ => .none

def sCode (rd : Option Nat) (c : Code) (a : AAct) (A : AH) : Option (List AOut) :=
  match c with
  | .skip | .label _ => some [⟨.normal, a, A⟩]
  | .region _ ops false => m.ops rd ops ops.toList a A
  | .seq x y => bindM (m.code rd x a A) fun o => match o.e with | .normal => m.code rd y o.a o.A | _ => some [o]
  | .cond c x y => match a.eval c with | .bool t => m.code rd (if t then x else y) a A | _ => .none
  | .block id c => bindM (m.code rd c a A) fun o => some [{ o with e := o.e.unblock id }]
  | .loop c => m.loop rd c a A
  | .scope c => bindM (m.code rd c a A) fun o => match o.e with | .goto _ => .none | _ => some [o]
  | .rangeFunc g ps assign body => sRange P m rd g ps assign body a A
  | .exit id => some [⟨.exit id, a, A⟩]
  | .goto l => some [⟨.goto l, a, A⟩]
  | .ret => some [⟨.ret, a, A⟩]
  | _ => .none

def sLoop (rd : Option Nat) (c : Code) (a : AAct) (A : AH) : Option (List AOut) :=
  bindM (m.code rd c a A) fun o => match o.e with | .normal => m.loop rd c o.a o.A | _ => some [o]

def sRound (l : Nat) (args : List AV) (A : AH) : Option (List AFin) :=
  match A.blks[l]? with
  | some (.loop _ _ ats ps assign body _) =>
    bindM (m.code (some l) assign ⟨aSetAll ps.toList args ats, []⟩ A) fun x =>
      match x.e with
      | .normal =>
        match x.A.blks[l]? with
        | some (.loop .ready pd ats' ps' as' bd' d') =>
          bindM (m.code (some l) body x.a (x.A.put l (.loop .busy pd ats' ps' as' bd' d'))) fun y =>
            match y.e.jump with
            | .none => .none
            | some j =>
              match y.A.blks[l]? with
              | some (.loop _ _ ats'' ps'' as'' bd'' d'') => some [⟨.returned (.bool j.isNone), y.A.put l (.loop (if j.isNone then .ready else .done) j ats'' ps'' as'' bd'' d'')⟩]
              | _ => .none
        | _ => .none
      | _ => .none
  | _ => .none

/-- The temporaries of a function that is entered. -/
def aTmps (fn : Func) (args : List AV) : List AV := args ++ List.replicate (fn.ntmps - args.length) (.tup [])

def sFunc (f : FuncId) (args : List AV) (A : AH) : Option (List AFin) :=
  match P.funcs[f]? with
  | some fn =>
    match fn.body with
    | some c => bindM (m.code .none c ⟨aTmps fn args, []⟩ A) fun o =>
      match o.e with
      | .normal | .ret => m.leave fn o.a.tmps o.a.defers .returning o.A
      | .panic ch => m.leave fn o.a.tmps o.a.defers (.panicking ch) o.A
      | _ => .none
    | .none => .none
  | .none => .none

def sLeave (fn : Func) (tmps : List AV) (ds : List ADef) (u : AMode) (A : AH) : Option (List AFin) :=
  match ds with
  | [] =>
    match u with
    | .returning => (aResults P G A fn tmps).map fun v => [⟨.returned v, A⟩]
    | .panicking ch => some [⟨.panicked ch, A⟩]
  | .mark b :: ds =>
    match A.blks[b]? with
    | some .defers => m.leave fn tmps ds u (A.put b .dead)
    | _ => .none
  | .fn (.func f) args cap :: ds =>
    match aEnter P f (args ++ cap) A with
    | some (.enter f' args' A') => bindM (m.dfunc f' args' u A') fun x =>
      match x.e with
      | .returned _ => m.leave fn tmps ds x.u.settle x.A
      | .panicked ch => m.leave fn tmps ds (x.u.raised ch) x.A
    | _ => .none
  | _ => .none

def sDfunc (f : FuncId) (args : List AV) (u : AMode) (A : AH) : Option (List ADfin) :=
  match P.funcs[f]? with
  | some fn =>
    match fn.body with
    | some c => bindM (m.codeS c ⟨aTmps fn args, []⟩ u A) fun o =>
      match o.a.defers with
      | [] =>
        match o.e with
        | .normal | .ret => (aResults P G o.A fn o.a.tmps).map fun v => [⟨.returned v, o.u, o.A⟩]
        | .panic ch => some [⟨.panicked ch, o.u, o.A⟩]
        | _ => .none
      | _ => .none
    | .none => .none
  | .none => .none

def isRecover (o : Oper) : Bool :=
  match o.guard, o.op with
  | .none, .call c => match c.callee with | .builtin .recover => true | _ => false
  | _, _ => false

def AMode.recover : AMode → AV × AMode
  | .panicking ((v, false) :: older) => (v, .panicking ((v, true) :: older))
  | u => (.nili, u)

def sCodeS (c : Code) (a : AAct) (u : AMode) (A : AH) : Option (List ASout) :=
  let plain := bindM (m.code .none c a A) fun o => some [⟨o.e, o.a, u, o.A⟩]
  match c with
  | .seq x y => bindM (m.codeS x a u A) fun o => match o.e with | .normal => m.codeS y o.a o.u o.A | _ => some [o]
  | .region _ ops false =>
    match ops.toList with
    | o :: rest =>
      if isRecover o then
        let r := u.recover
        bindM (m.ops .none ops rest (a.put o.dst r.1) A) fun x => some [⟨x.e, x.a, r.2, x.A⟩]
      else plain
    | [] => plain
  | _ => plain

def Mc.step : Mc where
  mu := m.mu
  func := sFunc P m
  code := sCode P m
  loop := sLoop m
  ops := sOps P G m
  round := sRound m
  leave := sLeave P G m
  dfunc := sDfunc P G m
  codeS := sCodeS m

end

/-- So many rounds. -/
noncomputable def Mc.run (P : Program) (G : Gl) (m : Mc) (n : Nat) : Mc := Nat.rec m (fun _ r => Mc.step P G r) n

end Go.Am
