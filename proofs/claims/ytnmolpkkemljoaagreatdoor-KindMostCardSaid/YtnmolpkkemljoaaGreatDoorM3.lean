/-
  What the proof is built of: The evaluator as a condition: what must hold, that a piece of code comes to nothing but what is asked. One operation, as a condition: what must hold of all that it may come to. A round of the evaluator as a condition is sound: operations, code, loops, functions. One operation whose turn may come early or late: what it comes to, known ahead. A region that draws its order, as a condition. A region that draws its order, as a condition: it is sound. The evaluator as a condition, whole: calls and loops that are known go by what is known of them. What is left behind may be forgotten; loops whose rounds are known. A call that is handed values alone, and hands back one: it leaves what there is. What is known of calls and loops, in lists. Conditions: none.
-/
import Derived.Test.YtnmolpkkemljoaaGreatDoorM2
set_option linter.unusedVariables false
set_option linter.unusedSimpArgs false
section
noncomputable section
namespace Go.Am
open Go
structure Rm where
 func : FuncId → List AV → AH → (AFin → Prop) → Prop
 code : Option Nat → Code → AAct → AH → (AOut → Prop) → Prop
 loop : Option Nat → Code → AAct → AH → (AOut → Prop) → Prop
 ops : Option Nat → Array Oper → List Oper → AAct → AH → (AOut → Prop) → Prop
 round : Nat → List AV → AH → (AFin → Prop) → Prop
 leave : Func → List AV → List ADef → AMode → AH → (AFin → Prop) → Prop
 dfunc : FuncId → List AV → AMode → AH → (ADfin → Prop) → Prop
 codeS : Code → AAct → AMode → AH → (ASout → Prop) → Prop
def Rm.none : Rm where
 func _ _ _ _ := False
 code _ _ _ _ _ := False
 loop _ _ _ _ _ := False
 ops _ _ _ _ _ _ := False
 round _ _ _ _ := False
 leave _ _ _ _ _ _ := False
 dfunc _ _ _ _ _ := False
 codeS _ _ _ _ _ := False
structure Dec where
 ι : Type
 dec : ι → AV
abbrev Els := TypeId → Option Dec
def AAct.lit (a : AAct) (t : Nat) (b : Bool) : AAct := { a with tmps := setR a.tmps t (.bool b) }
def AAct.litO (a : AAct) (x : Operand) (b : Bool) : AAct :=
 match x with
 | .tmp t => a.lit t b
 | _ => a
def bothR (t : Bool) (x y : Prop) : Prop :=
 match t with
 | true => x
 | false => y
def tfR (b : Bool) (x y : Prop) : Prop :=
 match b with
 | true => x
 | false => y
theorem tfR_elim {b : Bool} {x y : Prop} (h : tfR b x y) : (b = true ∧ x) ∨ (b = false ∧ y) := by
 cases b
 ·exact .inr ⟨rfl, h⟩
 ·exact .inl ⟨rfl, h⟩
def wantedK (ops : Array Oper) (a : AAct) (o : Oper) (K : AAct → Bool → Prop) : Prop :=
 match o.guard with
 | none => K a true
 | some (j, want) =>
  match (ops[j]?).bind (·.dst) with
  | none => K a false
  | some t =>
   match nthR a.tmps t with
   | none => K a false
   | some (.bool b) => bothR b (K (a.lit t true) want) (K (a.lit t false) (!want))
   | some .top => False
   | some (.sym _) => False
   | some _ => K a false
def allR {α : Type} (K : α → Prop) : List α → Prop
 | [] => True
 | [x] => K x
 | x :: xs => K x ∧ allR K xs
theorem allR_mem {α : Type} {K : α → Prop} : ∀ {l : List α}, allR K l → ∀ x ∈ l, K x
 | [], _, x, hx => by cases hx
 | [y], h, x, hx => by obtain rfl := List.mem_singleton.1 hx; exact h
 | y :: z :: l, h, x, hx => by
  rcases List.mem_cons.1 hx with rfl | hx
  ·exact h.1
  ·exact allR_mem h.2 x hx
def someR {α : Type} (x : Option (List α)) (K : α → Prop) : Prop :=
 match x with
 | none => False
 | some l => allR K l
def optR {α : Type} (x : Option α) (K : α → Prop) : Prop :=
 match x with
 | none => False
 | some v => K v
section
variable (P : Program) (G : Gl) (el : Els) (mu : Oper → Bool) (m : Rm)
def nthK (e : TypeId) (xs : List AV) (n : Int) (K : AV → Prop) : Prop :=
 0 ≤ n ∧
 match el e with
 | some d => ∃ x : d.ι, xs[n.toNat]? = some (d.dec x) ∧ K (d.dec x)
 | none => ∃ x, xs[n.toNat]? = some x ∧ K x
def arrK : Nat → Nat → Int → (Nat → Prop) → Prop
 | 0, _, _, _ => False
 | r + 1, i, n, K => bothR (decide (n = (i : Int))) (K i) (arrK r (i + 1) n K)
end
end Go.Am
namespace Kd
open Go Go.Am
def keyEq (x y : AV) : Option Bool :=
 match x, y with
 | .int k a, .int k' b => if k = k' then some (decide (a = b)) else none
 | .str a, .str b => some (decide (a = b))
 | .agg [.str a, .str b], .agg [.str a', .str b'] => some (decide (a = a') && decide (b = b'))
 | _, _ => none
def keyFind (k : AV) : List (AV × AV × Nat) → Nat → Option (Option (Nat × AV))
 | [], _ => some none
 | (k', x, _) :: es, i =>
  match keyEq k k' with
  | some true => some (some (i, x))
  | some false => keyFind k es (i + 1)
  | none => none
end Kd
namespace Go.Am
open Go
section
variable (P : Program) (G : Gl) (el : Els) (mu : Oper → Bool) (m : Rm)
def strF (f : Field) (o : Nat) : Bool := (f.name != "_") && (decide (f.offset = o) && (decide (tAgg P f.type = some false) && (match P.underlying f.type with | some .string => true | _ => false)))
def pairKey (kt : TypeId) : List Field → Bool
 | [f, g] => !P.stoodInHeld kt && (strF P f 0 && strF P g 1)
 | _ => false
def simpleKey (kt : TypeId) (k : AV) : Bool :=
 match P.underlying kt, k with
 | some (.int _), .int _ _ => true
 | some .string, .str _ => true
 | some (.struct fs), .agg [.str _, .str _] => pairKey P kt fs.toList
 | _, _ => false
def lookK (A : AH) (d : Dec) (z : AV) (es : List (AV × AV × Nat)) (k : AV) (ok : Bool) (K : AR → Prop) : Prop :=
 match ok with
 | true => (Kd.keyFind k es 0 = some none ∧ K (.val (.tup [z, .bool false]) A)) ∨ ∃ j x, Kd.keyFind k es 0 = some (some (j, d.dec x)) ∧ K (.val (.tup [d.dec x, .bool true]) A)
 | false => (Kd.keyFind k es 0 = some none ∧ K (.val z A)) ∨ ∃ j x, Kd.keyFind k es 0 = some (some (j, d.dec x)) ∧ K (.val (d.dec x) A)
def updK (A : AH) (b : Nat) (es : List (AV × AV × Nat)) (clock : Nat) (k x : AV) (K : AR → Prop) : Prop :=
 (Kd.keyFind k es 0 = some none ∧ K (.val .top (A.put b (.map (es ++ [(k, x, clock)]) (clock + 1))))) ∨
 ∃ j y c, Kd.keyFind k es 0 = some (some (j, y)) ∧ es[j]? = some (k, y, c) ∧ K (.val .top (A.put b (.map (es.set j (k, x, c)) clock)))
def oneSz (sz : Nat) (x : AV) : Bool := decide (x.cells.length = sz) && x.cells.all AV.one
def appK (A : AH) (argTypes : Array TypeId) (nil : Bool) (fam : Option Nat) (off : Nat) (xs ys : List AV) (K : AR → Prop) : Prop :=
 match aElemOf P argTypes with
 | some (_, k + 1, _, bytes) =>
  bothR (decide (ys.length = 0)) (K (.val (.isl nil fam off xs) A))
   (((xs.length + ys.length) * bytes ≤ 35184372088832 ∧ xs.length + ys.length ≤ 1152921504606846976) ∧ ys.all (oneSz (k + 1)) = true ∧
    match nil, fam with
    | true, _ => K (.val (.isl false (some A.fams.length) 0 ys) (A.grow ys.length (k + 1)))
    | false, some φ => A.fams[φ]? = some (off + xs.length, k + 1) ∧ xs.all (oneSz (k + 1)) = true ∧ K (.val (.isl false (some φ) off (xs ++ ys)) (A.reach φ (off + xs.length + ys.length) (k + 1)))
    | false, none => False)
 | _ => False
def bndK (x : Option AV) (d : Nat) (K : Nat → Prop) : Prop :=
 match x with
 | none => K d
 | some (.int _ n) => 0 ≤ n ∧ K n.toNat
 | some _ => False
def opK (rd : Bool) (A : AH) (ev : Operand → AV) (o : Oper) (K : AR → Prop) : Prop :=
 match o.op with
 | .pick c a b => match ev c with | .bool t => bothR t (K (.val (ev a) A)) (K (.val (ev b) A)) | _ => False
 | .indexAddr t x i =>
  match (ev x).weak, ev i, P.underlying t with
  | .isl _ _ _ xs, .int _ n, some (.slice e) =>
   nthK el e xs n fun v => match tSize P e with | some (k + 1) => tfR (decide (v.cells.length = k + 1)) (K (.val (.iptr v) A)) False | _ => False
  | y, .int kk n, some (.array len _) => arrK len 0 n fun j => someR (aVal A (aIndexAddr P t y (.int kk j))) K
  | _, _, _ => someR (aOp P G (mu o) rd A ev o) K
 | .index t x i =>
  match (ev x).weak, ev i, P.underlying t with
  | .str s, .int _ n, some .string => 0 ≤ n ∧ ∃ c, s[n.toNat]? = some c ∧ K (.val (.int .u8 c.toNat) A)
  | y, .int kk n, some (.array len _) => arrK len 0 n fun j => someR (aVal A (aIndex P t y (.int kk j))) K
  | _, _, _ => someR (aOp P G (mu o) rd A ev o) K
 | .binOp op _ x y _ =>
  match op, (ev x).weak, (ev y).weak with
  | .quo, .int k a, .int k' b => k = k' ∧ b ≠ 0 ∧ K (.val (.int k (k.wrap (a.tdiv b))) A)
  | .rem, .int k a, .int k' b => k = k' ∧ b ≠ 0 ∧ K (.val (.int k (a.tmod b)) A)
  | .add, .str a, .str b => ((a.length + b.length : Nat) : Int) ≤ IntKind.i64.max ∧ K (.val (.str (a ++ b)) A)
  | _, _, _ => someR (aOp P G (mu o) rd A ev o) K
 | .slice t x lo hi mx =>
  match ev x, P.underlying t, mx with
  | .str s, some .string, none => bndK (lo.map ev) 0 fun l => bndK (hi.map ev) s.length fun h => (l ≤ h ∧ h ≤ s.length) ∧ K (.val (.str ((s.drop l).take (h - l))) A)
  | .isl nl none off xs, some (.slice e), none => bndK (lo.map ev) 0 fun l => bndK (hi.map ev) xs.length fun h => (l ≤ h ∧ h ≤ xs.length) ∧
   match tSize P e with
   | some (k + 1) => (xs.all fun x => x.cells.length == k + 1) = true ∧ K (.val (.isl nl none (off + l) ((xs.drop l).take (h - l))) A)
   | _ => False
  | _, _, _ => someR (aOp P G (mu o) rd A ev o) K
 | .lookup t m i ok =>
  match ev m, P.underlying t with
  | .map b, some (.map kt e) =>
   match el e, nthR A.blks b, tZero P e with
   | some d, some (.map es _), some z => tfR (simpleKey P kt (ev i)) (lookK A d z es (ev i) ok K) False
   | _, _, _ => someR (aOp P G (mu o) rd A ev o) K
  | _, _ => someR (aOp P G (mu o) rd A ev o) K
 | .mapUpdate t m i x =>
  match ev m, P.underlying t with
  | .map b, some (.map kt e) =>
   match el e, nthR A.blks b with
   | some _, some (.map es clock) => tfR (simpleKey P kt (ev i)) (updK A b es clock (ev i) (ev x) K) False
   | _, _ => someR (aOp P G (mu o) rd A ev o) K
  | _, _ => someR (aOp P G (mu o) rd A ev o) K
 | .call c =>
  match c.callee, c.args.toList with
  | .builtin .append, [x, y] =>
   match mu o, ev x, (ev y).weak with
   | false, .isl nil fam off xs, .isl _ _ _ ys => appK P A c.argTypes nil fam off xs ys K
   | _, _, _ => someR (aOp P G (mu o) rd A ev o) K
  | _, _ => someR (aOp P G (mu o) rd A ev o) K
 | _ => someR (aOp P G (mu o) rd A ev o) K
def sAfterR (rd : Option Nat) (ops : Array Oper) (dst : Option Tmp) (rest : List Oper) (a : AAct) (K : AOut → Prop) (x : AFin) : Prop :=
 match x.e with
 | .returned v => m.ops rd ops rest (a.put dst v) x.A K
 | .panicked c => K ⟨.panic c, a, x.A⟩
def sOneR (rd : Option Nat) (ops : Array Oper) (dst : Option Tmp) (rest : List Oper) (a : AAct) (K : AOut → Prop) : AR → Prop
 | .val v A => m.ops rd ops rest (a.put dst v) A K
 | .enter f args A => m.func f args A (sAfterR m rd ops dst rest a K)
 | .yield l args A => m.round l args A (sAfterR m rd ops dst rest a K)
 | .dfr d A => m.ops rd ops rest ({ a with defers := d :: a.defers }.put dst (.tup [])) A K
 | .panic v A => K ⟨.panic [(v, false)], a, A⟩
 | .recover _ => False
def sOpsR (rd : Option Nat) (ops : Array Oper) (l : List Oper) (a : AAct) (A : AH) (K : AOut → Prop) : Prop :=
 match l with
 | [] => K ⟨.normal, a, A⟩
 | o :: rest => wantedK ops a o fun a t =>
  match t with
  | false => m.ops rd ops rest (a.put o.dst (.tup [])) A K
  | true => opK P G el mu rd.isSome A a.eval o (sOneR m rd ops o.dst rest a K)
def sRangeGo (rd : Option Nat) (g : Operand) (ps : Array Tmp) (assign body : Code) (a : AAct) (K : AOut → Prop) (d : Nat) (mark : List ADef) (A : AH) : Prop :=
 let l := A.blks.length
 match a.eval g with
 | .fn (.func f) first cap =>
  match aEnter P f (first ++ [.fn (.yield l) [] []] ++ cap) (A.push (.loop .ready .none a.tmps ps assign body d)) with
  | some (.enter f args A') =>
   m.func f args A' fun x =>
    match x.e with
    | .panicked c => K ⟨.panic c, { a with defers := mark ++ a.defers }, x.A⟩
    | .returned _ =>
     match nthR x.A.blks l with
     | some (.loop .busy _ _ _ _ _ _) => False
     | some (.loop _ pd ats ps' as' bd' d') =>
      let A'' := x.A.put l (.loop .exhausted pd ats ps' as' bd' d')
      match pd with
      | .none => K ⟨.normal, { a with defers := mark ++ a.defers }, A''⟩
      | some c => m.code rd c { a with defers := mark ++ a.defers } A'' K
     | _ => False
  | _ => False
 | _ => False
def sRangeR (rd : Option Nat) (g : Operand) (ps : Array Tmp) (assign body : Code) (a : AAct) (A : AH) (K : AOut → Prop) : Prop :=
 match rd with
 | .none => sRangeGo P m rd g ps assign body a K A.blks.length [.mark A.blks.length] (A.push .defers)
 | some l0 =>
  match nthR A.blks l0 with
  | some (.loop _ _ _ _ _ _ d) => sRangeGo P m rd g ps assign body a K d [] A
  | _ => False
def sCodeR (rd : Option Nat) (c : Code) (a : AAct) (A : AH) (K : AOut → Prop) : Prop :=
 match c with
 | .skip | .label _ => K ⟨.normal, a, A⟩
 | .region _ ops false => m.ops rd ops ops.toList a A K
 | .seq x y => m.code rd x a A fun o => match o.e with | .normal => m.code rd y o.a o.A K | _ => K o
 | .cond c x y => match a.eval c with | .bool t => bothR t (m.code rd x (a.litO c true) A K) (m.code rd y (a.litO c false) A K) | _ => False
 | .block id c => m.code rd c a A fun o => K { o with e := o.e.unblock id }
 | .loop c => m.loop rd c a A K
 | .scope c => m.code rd c a A fun o => match o.e with | .goto _ => False | _ => K o
 | .rangeFunc g ps assign body => sRangeR P m rd g ps assign body a A K
 | .exit id => K ⟨.exit id, a, A⟩
 | .goto l => K ⟨.goto l, a, A⟩
 | .ret => K ⟨.ret, a, A⟩
 | _ => False
def sLoopR (rd : Option Nat) (c : Code) (a : AAct) (A : AH) (K : AOut → Prop) : Prop :=
 m.code rd c a A fun o => match o.e with | .normal => m.loop rd c o.a o.A K | _ => K o
def sRoundEnd (l : Nat) (K : AFin → Prop) (y : AOut) : Prop :=
 match y.e.jump with
 | .none => False
 | some j =>
  match nthR y.A.blks l with
  | some (.loop _ _ ats'' ps'' as'' bd'' d'') => K ⟨.returned (.bool j.isNone), y.A.put l (.loop (if j.isNone then .ready else .done) j ats'' ps'' as'' bd'' d'')⟩
  | _ => False
def sRoundR (l : Nat) (args : List AV) (A : AH) (K : AFin → Prop) : Prop :=
 match nthR A.blks l with
 | some (.loop _ _ ats ps assign body _) =>
  m.code (some l) assign ⟨aSetAll ps.toList args ats, []⟩ A fun x =>
   match x.e with
   | .normal =>
    match nthR x.A.blks l with
    | some (.loop .ready pd ats' ps' as' bd' d') => m.code (some l) body x.a (x.A.put l (.loop .busy pd ats' ps' as' bd' d')) (sRoundEnd l K)
    | _ => False
   | _ => False
 | _ => False
def sFuncR (f : FuncId) (args : List AV) (A : AH) (K : AFin → Prop) : Prop :=
 match P.funcs[f]? with
 | some fn =>
  match fn.body with
  | some c => m.code .none c ⟨aTmps fn args, []⟩ A fun o =>
   match o.e with
   | .normal | .ret => m.leave fn o.a.tmps o.a.defers .returning o.A K
   | .panic ch => m.leave fn o.a.tmps o.a.defers (.panicking ch) o.A K
   | _ => False
  | .none => False
 | .none => False
def sLeaveR (fn : Func) (tmps : List AV) (ds : List ADef) (u : AMode) (A : AH) (K : AFin → Prop) : Prop :=
 match ds with
 | [] =>
  match u with
  | .returning => optR (aResults P G A fn tmps) fun v => K ⟨.returned v, A⟩
  | .panicking ch => K ⟨.panicked ch, A⟩
 | .mark b :: ds =>
  match nthR A.blks b with
  | some .defers => m.leave fn tmps ds u (A.put b .dead) K
  | _ => False
 | .fn (.func f) args cap :: ds =>
  match aEnter P f (args ++ cap) A with
  | some (.enter f' args' A') => m.dfunc f' args' u A' fun x =>
   match x.e with
   | .returned _ => m.leave fn tmps ds x.u.settle x.A K
   | .panicked ch => m.leave fn tmps ds (x.u.raised ch) x.A K
  | _ => False
 | _ => False
def sDfuncR (f : FuncId) (args : List AV) (u : AMode) (A : AH) (K : ADfin → Prop) : Prop :=
 match P.funcs[f]? with
 | some fn =>
  match fn.body with
  | some c => m.codeS c ⟨aTmps fn args, []⟩ u A fun o =>
   match o.a.defers with
   | [] =>
    match o.e with
    | .normal | .ret => optR (aResults P G o.A fn o.a.tmps) fun v => K ⟨.returned v, o.u, o.A⟩
    | .panic ch => K ⟨.panicked ch, o.u, o.A⟩
    | _ => False
   | _ => False
  | .none => False
 | .none => False
def sCodeSR (c : Code) (a : AAct) (u : AMode) (A : AH) (K : ASout → Prop) : Prop :=
 match c with
 | .seq x y => m.codeS x a u A fun o => match o.e with | .normal => m.codeS y o.a o.u o.A K | _ => K o
 | .region _ ops false =>
  match ops.toList with
  | o :: rest =>
   if isRecover o then
    let r := u.recover
    m.ops .none ops rest (a.put o.dst r.1) A fun x => K ⟨x.e, x.a, r.2, x.A⟩
   else m.code .none c a A fun o => K ⟨o.e, o.a, u, o.A⟩
  | [] => m.code .none c a A fun o => K ⟨o.e, o.a, u, o.A⟩
 | _ => m.code .none c a A fun o => K ⟨o.e, o.a, u, o.A⟩
end
section
variable (P : Program) (G : Gl)
def FinPR (S : Sh) (A : AH) (w : World) (K : AFin → Prop) : Ending → World → Prop := fun e w' =>
 ∃ o, K o ∧ ∃ S', Inv G S' o.A w' ∧ Fr S A w S' o.A w' ∧ FinRel S' o.e e
def OutPR (S : Sh) (A : AH) (w : World) (K : AOut → Prop) : Exit → Act → World → Prop := fun e b w' =>
 ∃ o, K o ∧ ∃ S', Inv G S' o.A w' ∧ Fr S A w S' o.A w' ∧ ARel S' o.a b ∧ ERel S' o.e e
def DfinPR (S : Sh) (A : AH) (w : World) (K : ADfin → Prop) : Ending → FrameMode → World → Prop := fun e u w' =>
 ∃ o, K o ∧ ∃ S', Inv G S' o.A w' ∧ Fr S A w S' o.A w' ∧ FinRel S' o.e e ∧ MdRel S' o.u u
def SoutPR (c0 : Frame) (cs : List Frame) (S : Sh) (A : AH) (w : World) (K : ASout → Prop) : Exit → Act → List Frame → World → Prop := fun e b cs' w' =>
 ∃ o, K o ∧ ∃ S' md, Inv G S' o.A w' ∧ Fr S A w S' o.A w' ∧ ARel S' o.a b ∧ ERel S' o.e e ∧ MdRel S' o.u md ∧ cs' = { c0 with mode := md } :: cs
/-! ### What each part says -/
def FuncJ (f : FuncId) (args : List AV) (A : AH) (K : AFin → Prop) : Prop := ∀ S w vs, Inv G S A w → LRel S args vs → CallsIn Fence.wide 0 P f ⟨vs⟩ w (FinPR G S A w K)
def CodeJ (rd : Option Nat) (c : Code) (a : AAct) (A : AH) (K : AOut → Prop) : Prop := ∀ S w b ro, Inv G S A w → ARel S a b → RdRel S rd ro → c.wpIn (fen ro) 0 P (OutPR G S A w K) b w
def LoopJ (rd : Option Nat) (c : Code) (a : AAct) (A : AH) (K : AOut → Prop) : Prop := ∀ S w b ro, Inv G S A w → ARel S a b → RdRel S rd ro → LoopIn (fen ro) 0 P c (OutPR G S A w K) b w
def OpsJ (rd : Option Nat) (ops : Array Oper) (l : List Oper) (a : AAct) (A : AH) (K : AOut → Prop) : Prop := ∀ S w b ro, Inv G S A w → ARel S a b → RdRel S rd ro → wpListIn (fen ro) 0 P ops (OutPR G S A w K) l b w
def RoundJ (l : Nat) (args : List AV) (A : AH) (K : AFin → Prop) : Prop := ∀ S w c vs st pd ats ps as bd d us fn s p dd, Inv G S A w → S.ρ l = some c → A.blks[l]? = some (.loop st pd ats ps as bd d) → args.length = ps.size → LRel S args vs → LRel S ats us →
  w.heap[c]? = some (.loop { state := s, pending := p, fn := fn, tmps := ⟨us⟩, params := ps, assign := as, body := bd, defers := dd }) →
  RoundIn Fence.wide 0 P c fn ((ps.zip ⟨vs⟩).foldl (fun tmps (t, a) => tmps.setIfInBounds t a) ⟨us⟩) as bd w (FinPR G S A w K)
def LeaveJ (fn : Func) (tmps : List AV) (ds : List ADef) (u : AMode) (A : AH) (K : AFin → Prop) : Prop := ∀ S w ts es md, Inv G S A w → LRel S tmps ts → DsRel S ds es → MdRel S u md → LeavesInM Fence.wide 0 P fn ⟨ts⟩ (FinPR G S A w K) es md w
def DfuncJ (f : FuncId) (args : List AV) (u : AMode) (A : AH) (K : ADfin → Prop) : Prop := ∀ S w vs md, Inv G S A w → LRel S args vs → MdRel S u md → CallsDIn Fence.wide 0 P f ⟨vs⟩ md w (DfinPR G S A w K)
def CodeSJ (c : Code) (a : AAct) (u : AMode) (A : AH) (K : ASout → Prop) : Prop := ∀ S w b md c0 cs, Inv G S A w → ARel S a b → MdRel S u md → c0.mode = md → c.wpSIn Fence.wide 0 P (SoutPR G c0 cs S A w K) b (c0 :: cs) w
structure Rm.Ok (m : Rm) : Prop where
 func : ∀ f args A K, m.func f args A K → FuncJ P G f args A K
 code : ∀ rd c a A K, m.code rd c a A K → CodeJ P G rd c a A K
 loop : ∀ rd c a A K, m.loop rd c a A K → LoopJ P G rd c a A K
 ops : ∀ rd ops l a A K, m.ops rd ops l a A K → OpsJ P G rd ops l a A K
 round : ∀ l args A K, m.round l args A K → RoundJ P G l args A K
 leave : ∀ fn tmps ds u A K, m.leave fn tmps ds u A K → LeaveJ P G fn tmps ds u A K
 dfunc : ∀ f args u A K, m.dfunc f args u A K → DfuncJ P G f args u A K
 codeS : ∀ c a u A K, m.codeS c a u A K → CodeSJ P G c a u A K
variable {P G}
theorem Rm.none_ok : Rm.Ok P G Rm.none where
 func _ _ _ _ h := h.elim
 code _ _ _ _ _ h := h.elim
 loop _ _ _ _ _ h := h.elim
 ops _ _ _ _ _ _ h := h.elim
 round _ _ _ _ h := h.elim
 leave _ _ _ _ _ _ h := h.elim
 dfunc _ _ _ _ _ h := h.elim
 codeS _ _ _ _ _ h := h.elim
theorem FinPR.from {S S1 : Sh} {A A1 : AH} {w w1 : World} (hf : Fr S A w S1 A1 w1) {K K' : AFin → Prop} (hsub : ∀ x, K' x → K x) {e : Ending} {w' : World} (h : FinPR G S1 A1 w1 K' e w') : FinPR G S A w K e w' := by
 obtain ⟨o, ho, S', h1, h2, h3⟩ := h
 exact ⟨o, hsub o ho, S', h1, hf.trans h2, h3⟩
theorem OutPR.from {S S1 : Sh} {A A1 : AH} {w w1 : World} (hf : Fr S A w S1 A1 w1) {K K' : AOut → Prop} (hsub : ∀ x, K' x → K x) {e : Exit} {b : Act} {w' : World} (h : OutPR G S1 A1 w1 K' e b w') : OutPR G S A w K e b w' := by
 obtain ⟨o, ho, S', h1, h2, h3⟩ := h
 exact ⟨o, hsub o ho, S', h1, hf.trans h2, h3⟩
theorem SoutPR.from {c0 c1 : Frame} {cs : List Frame} {md1 : FrameMode} (hc : c1 = { c0 with mode := md1 }) {S S1 : Sh} {A A1 : AH} {w w1 : World} (hf : Fr S A w S1 A1 w1) {K K' : ASout → Prop} (hsub : ∀ x, K' x → K x) {e : Exit} {b : Act} {cs' : List Frame} {w' : World}
  (h : SoutPR G c1 cs S1 A1 w1 K' e b cs' w') : SoutPR G c0 cs S A w K e b cs' w' := by
 obtain ⟨o, ho, S', md, h1, h2, h3, h4, h5, h6⟩ := h
 subst hc
 exact ⟨o, hsub o ho, S', md, h1, hf.trans h2, h3, h4, h5, h6⟩
end
end Go.Am
end
section
noncomputable section
namespace Go.Am
open Go
section
variable {P : Program} {G : Gl} {el : Els} {mu : Oper → Bool}
theorem bothR_elim {t : Bool} {x y : Prop} (h : bothR t x y) : (t = true ∧ x) ∨ (t = false ∧ y) := by
 cases t
 ·exact .inr ⟨rfl, h⟩
 ·exact .inl ⟨rfl, h⟩
theorem someR_elim {α : Type} {x : Option (List α)} {K : α → Prop} (h : someR x K) : ∃ l, x = some l ∧ ∀ v ∈ l, K v := by
 cases x with
 | none => exact h.elim
 | some l => exact ⟨l, rfl, allR_mem h⟩
theorem optR_elim {α : Type} {x : Option α} {K : α → Prop} (h : optR x K) : ∃ v, x = some v ∧ K v := by
 cases x with
 | none => exact h.elim
 | some v => exact ⟨v, rfl, h⟩
theorem nthK_elim {e : TypeId} {xs : List AV} {n : Int} {K : AV → Prop} (h : nthK el e xs n K) : 0 ≤ n ∧ ∃ x, xs[n.toNat]? = some x ∧ K x := by
 obtain ⟨h0, h⟩ := h
 refine ⟨h0, ?_⟩
 cases he : el e with
 | none => rw [he] at h; exact h
 | some d => rw [he] at h; obtain ⟨x, h1, h2⟩ := h; exact ⟨_, h1, h2⟩
theorem arrK_elim : ∀ {r i : Nat} {n : Int} {K : Nat → Prop}, arrK r i n K → ∃ j : Nat, n = (j : Int) ∧ K j
 | 0, _, _, _, h => h.elim
 | r + 1, i, n, K, h => by
  rcases bothR_elim h with ⟨h1, h2⟩ | ⟨_, h2⟩
  ·exact ⟨i, by simpa using h1, h2⟩
  ·exact arrK_elim h2
theorem flat_all {sz : Nat} : ∀ {ys : List AV}, ys.all (oneSz sz) = true → (flat ys).all AV.one = true ∧ ∀ y ∈ ys, y.cells.length = sz
 | [], _ => ⟨rfl, fun _ h => by cases h⟩
 | y :: ys, h => by
  simp only [List.all_cons, Bool.and_eq_true, oneSz, decide_eq_true_eq] at h
  obtain ⟨h1, h2⟩ := flat_all (ys := ys) h.2
  refine ⟨by simp only [flat, List.all_append, Bool.and_eq_true]; exact ⟨h.1.2, h1⟩, fun z hz => ?_⟩
  rcases List.mem_cons.1 hz with rfl | hz
  ·exact h.1.1
  ·exact h2 z hz
theorem appK_elim {A : AH} {ats : Array TypeId} {nl : Bool} {fam : Option Nat} {off : Nat} {xs ys : List AV} {K : AR → Prop} (h : appK P A ats nl fam off xs ys K) (b : Bool) (f : Option Nat) (q : Nat) :
  ∃ v A', aAppend P A ats (.isl nl fam off xs) (.isl b f q ys) = some (v, A') ∧ K (.val v A') := by
 unfold appK at h
 unfold aAppend
 split at h
 ·rename_i e sz0 z bytes he
  have he' : aElemOf P ats = some (e, sz0 + 1, z, bytes) := he
  simp only [he', aLen, aElems, List.take_length]
  rcases bothR_elim h with ⟨h1, h2⟩ | ⟨h1, ⟨h2, h3⟩, h4, h5⟩
  ·simp only [decide_eq_true_eq] at h1
   have : ys = [] := List.eq_nil_of_length_eq_zero h1
   subst this
   refine ⟨_, _, ?_, h2⟩
   simp
  ·simp only [decide_eq_false_iff_not] at h1
   obtain ⟨h6, h7⟩ := flat_all h4
   have h8 : (ys.all fun x => x.cells.length == sz0 + 1) = true := List.all_eq_true.2 fun y hy => by simpa using h7 y hy
   simp only [h8, Nat.le_refl, and_self, if_true, if_neg h1]
   rw [if_pos ⟨by omega, by omega, h6⟩]
   split at h5
   ·exact ⟨_, _, rfl, h5⟩
   ·rename_i φ
    obtain ⟨h9, h10, h11⟩ := h5
    have h12 := (flat_all h10).2
    have h13 : (xs.all fun x => x.cells.length == sz0 + 1) = true := List.all_eq_true.2 fun y hy => by simpa using h12 y hy
    simp only [h9, h13, and_self, if_true]
    exact ⟨_, _, rfl, h11⟩
   ·exact h5.elim
 ·exact h.elim
theorem strF_elim {f : Field} {o : Nat} (h : strF P f o = true) : f.name ≠ "_" ∧ f.offset = o ∧ tAgg P f.type = some false ∧ P.underlying f.type = some .string := by
 unfold strF at h
 simp only [Bool.and_eq_true, bne_iff_ne, decide_eq_true_eq] at h
 refine ⟨h.1, h.2.1, h.2.2.1, ?_⟩
 have h4 := h.2.2.2
 split at h4
 ·assumption
 ·cases h4
theorem pairKey_elim {kt : TypeId} {fs : List Field} (h : pairKey P kt fs = true) : ∃ f g, fs = [f, g] ∧ P.stoodInHeld kt = false ∧ strF P f 0 = true ∧ strF P g 1 = true := by
 unfold pairKey at h
 split at h
 ·rename_i f g
  simp only [Bool.and_eq_true, Bool.not_eq_true'] at h
  exact ⟨f, g, rfl, h.1, h.2.1, h.2.2⟩
 ·cases h
theorem keyEq_ok {A : AH} {kt : TypeId} {k k' : AV} {b : Bool} {n : Nat} (hs : simpleKey P kt k = true) (h : Kd.keyEq k k' = some b) : aEq P A (n + 2) kt k k' = some b := by
 unfold simpleKey at hs
 split at hs
 ·rename_i kk k1 a hu
  unfold Kd.keyEq at h
  cases k' <;> simp only [reduceCtorEq] at h
  simp only [aEq, hu]
  exact h
 ·rename_i a hu
  unfold Kd.keyEq at h
  cases k' <;> simp only [reduceCtorEq] at h
  simp only [aEq, hu]
  exact h
 ·rename_i fs a1 a2 hu
  obtain ⟨f, g, hfs, h1, h2, h3⟩ := pairKey_elim hs
  obtain ⟨f1, f2, f3, f4⟩ := strF_elim h2
  obtain ⟨g1, g2, g3, g4⟩ := strF_elim h3
  unfold Kd.keyEq at h
  split at h
  ·contradiction
  ·contradiction
  ·rename_i b1 b2 b3 b4 heq
   cases heq
   cases h
   have e0 : ∀ (x y : AV), aPart P f.type [x, y] f.offset = some x := fun x y => by simp [aPart, f2, f3]
   have e1 : ∀ (x y : AV), aPart P g.type [x, y] g.offset = some y := fun x y => by simp [aPart, g2, g3]
   simp only [aEq, hu, h1, hfs, aEqs, e0, e1, ne_eq, f1, g1, not_false_eq_true, if_true, f4, g4, Bool.false_eq_true, if_false]
   by_cases q1 : a1 = b3
   ·by_cases q2 : a2 = b4 <;> simp [q1, q2]
   ·simp [q1]
  ·cases h
 ·cases hs
theorem keyFind_ok {A : AH} {kt : TypeId} {k : AV} (hs : simpleKey P kt k = true) : ∀ {es : List (AV × AV × Nat)} {i : Nat} {r : Option (Nat × AV)}, Kd.keyFind k es i = some r → aFind P A kt k es i = some r
 | [], i, r, h => h
 | (k', x, c) :: es, i, r, h => by
  unfold Kd.keyFind at h
  unfold aFind
  split at h
  ·rename_i he
   rw [keyEq_ok hs he]
   exact h
  ·rename_i he
   rw [keyEq_ok hs he]
   exact keyFind_ok hs h
  ·cases h
theorem simpleKey_ok {kt : TypeId} {k : AV} (hs : simpleKey P kt k = true) : aKeyOk P 10000 kt k = true ∧ ∃ d, P.underlying kt = some d := by
 unfold simpleKey at hs
 split at hs
 ·rename_i kk k1 a hu
  exact ⟨by simp only [aKeyOk, hu], _, hu⟩
 ·rename_i a hu
  exact ⟨by simp only [aKeyOk, hu], _, hu⟩
 ·rename_i fs a1 a2 hu
  obtain ⟨f, g, hfs, h1, h2, h3⟩ := pairKey_elim hs
  obtain ⟨f1, f2, f3, f4⟩ := strF_elim h2
  obtain ⟨g1, g2, g3, g4⟩ := strF_elim h3
  have e0 : ∀ (x y : AV), aPart P f.type [x, y] f.offset = some x := fun x y => by simp [aPart, f2, f3]
  have e1 : ∀ (x y : AV), aPart P g.type [x, y] g.offset = some y := fun x y => by simp [aPart, g2, g3]
  have key : ∀ n, aKeyOk P (n + 2) kt (.agg [.str a1, .str a2]) = true := fun n => by simp only [aKeyOk, hu, hfs, aKeyOks, e0, e1, f4, g4, Bool.or_true, Bool.and_true]
  exact ⟨key 9998, _, hu⟩
 ·cases hs
theorem aBits_self {kt : TypeId} {k : AV} (hs : simpleKey P kt k = true) : aBits 10000 k k = true := by
 unfold simpleKey at hs
 split at hs
 ·simp [aBits]
 ·simp [aBits]
 ·rename_i fs a1 a2 hu
  have key : ∀ n, aBits (n + 1) (.agg [.str a1, .str a2]) (.agg [.str a1, .str a2]) = true := fun n => by simp [aBits, aBits.go]
  exact key 9999
 ·cases hs
theorem lookK_elim {A : AH} {d : Dec} {z : AV} {es : List (AV × AV × Nat)} {k : AV} {ok : Bool} {K : AR → Prop} {t kt e : TypeId} {b clock : Nat} (h : lookK A d z es k ok K) (hs : simpleKey P kt k = true) (ht : P.underlying t = some (.map kt e)) (hz : tZero P e = some z) (hb : A.blks[b]? = some (.map es clock)) :
  ∃ v, aLookup P A t (.map b) k ok = some v ∧ K (.val v A) := by
 obtain ⟨h1, dd, h2⟩ := simpleKey_ok hs
 unfold aLookup
 simp only [ht, hz, h2, h1, hb, if_true]
 unfold lookK at h
 cases ok with
 | true =>
  rcases h with ⟨h3, h4⟩ | ⟨j, x, h3, h4⟩
  ·rw [keyFind_ok (A := A) hs h3]; exact ⟨_, rfl, h4⟩
  ·rw [keyFind_ok (A := A) hs h3]; exact ⟨_, rfl, h4⟩
 | false =>
  rcases h with ⟨h3, h4⟩ | ⟨j, x, h3, h4⟩
  ·rw [keyFind_ok (A := A) hs h3]; exact ⟨_, rfl, h4⟩
  ·rw [keyFind_ok (A := A) hs h3]; exact ⟨_, rfl, h4⟩
theorem updK_elim {A : AH} {es : List (AV × AV × Nat)} {k x : AV} {K : AR → Prop} {t kt e : TypeId} {b clock : Nat} (h : updK A b es clock k x K) (hs : simpleKey P kt k = true) (ht : P.underlying t = some (.map kt e)) (hb : A.blks[b]? = some (.map es clock)) :
  ∃ A', aMapUpdate P A t (.map b) k x = some A' ∧ K (.val .top A') := by
 obtain ⟨h1, dd, h2⟩ := simpleKey_ok hs
 unfold aMapUpdate
 simp only [ht, h2, h1, hb, if_true]
 rcases h with ⟨h3, h4⟩ | ⟨j, y, c, h3, h5, h4⟩
 ·rw [keyFind_ok (A := A) hs h3]; exact ⟨_, rfl, h4⟩
 ·rw [keyFind_ok (A := A) hs h3]
  simp only [h5, aBits_self hs, if_true]
  exact ⟨_, rfl, h4⟩
theorem bndK_elim {x : Option AV} {d : Nat} {K : Nat → Prop} (h : bndK x d K) : ∃ n, aBound x d = some n ∧ K n := by
 unfold bndK at h
 split at h
 ·exact ⟨d, rfl, h⟩
 ·rename_i k n
  refine ⟨n.toNat, ?_, h.2⟩
  have h0 := h.1
  simp only [aBound, if_neg (show ¬ n < 0 by omega)]
 ·exact h.elim
theorem aSliceW_str {t : TypeId} {s : List UInt8} {lo hi : Option AV} {l h : Nat} (ht : P.underlying t = some .string) (h1 : aBound lo 0 = some l) (h2 : aBound hi s.length = some h) (hle : l ≤ h) (hle2 : h ≤ s.length) :
  aSliceW P t (.str s) lo hi none = some (.str ((s.drop l).take (h - l))) := by
 unfold aSliceW
 cases hi <;> simp only [ht, AV.weak, aSlice, h1, h2, hle, hle2, and_self, if_true]
theorem aSliceW_isl {t e : TypeId} {nl : Bool} {off k : Nat} {xs : List AV} {lo hi : Option AV} {l h : Nat} (ht : P.underlying t = some (.slice e)) (hn : nl = true → xs = []) (hs : tSize P e = some (k + 1)) (h1 : aBound lo 0 = some l) (h2 : aBound hi xs.length = some h) (hle : l ≤ h) (hle2 : h ≤ xs.length) (ha : (xs.all fun x => x.cells.length == k + 1) = true) :
  aSliceW P t (.isl nl none off xs) lo hi none = some (.isl nl none (off + l) ((xs.drop l).take (h - l))) := by
 unfold aSliceW
 cases nl with
 | true =>
  obtain rfl := hn rfl
  simp only [List.length_nil] at h2 hle2
  obtain rfl : h = 0 := by omega
  obtain rfl : l = 0 := by omega
  cases hi <;> simp only [ht, AV.weak, aSlice, h1, h2, hs, List.drop_nil, List.take_nil, Nat.add_zero]
 | false =>
  cases hi <;> simp only [ht, AV.weak, aSlice, h1, h2, hs, hle, hle2, ha, and_self, and_true, true_and, if_true, ite_self]
theorem opK_ok {rd ro : Option Nat} {A : AH} {a : AAct} {o : Oper} {K : AR → Prop} (hk : opK P G el mu rd.isSome A a.eval o K) {S : Sh} {w : World} {b : Act} (hi : Inv G S A w) (hab : ARel S a b) (hr : RdRel S rd ro) :
  ∃ r, K r ∧ RRel G S A w r ((o.semAt ro b.eval).run P w) := by
 have gen : someR (aOp P G (mu o) rd.isSome A a.eval o) K → ∃ r, K r ∧ RRel G S A w r ((o.semAt ro b.eval).run P w) := by
  intro h
  obtain ⟨l, h1, h2⟩ := someR_elim h
  obtain ⟨r, h3, h4⟩ := aOp_sem hi hab hr h1
  exact ⟨r, h2 r h3, h4⟩
 have one : ∀ {v : AV}, aOp P G (mu o) rd.isSome A a.eval o = some [.val v A] → K (.val v A) → ∃ r, K r ∧ RRel G S A w r ((o.semAt ro b.eval).run P w) := by
  intro v h1 h2
  exact gen (by rw [h1]; exact h2)
 unfold opK at hk
 split at hk
 ·rename_i c x y hop
  split at hk
  ·rename_i t hc
   have e : aOp P G (mu o) rd.isSome A a.eval o = some [.val (if t then a.eval x else a.eval y) A] := by simp only [aOp, hop, hc]
   refine one e ?_
   rcases bothR_elim hk with ⟨rfl, h⟩ | ⟨rfl, h⟩
   ·simpa using h
   ·simpa using h
  ·exact hk.elim
 ·rename_i t x i hop
  split at hk
  ·rename_i nl fam off xs k n e hx hn ht
   obtain ⟨h0, v, h1, h2⟩ := nthK_elim hk
   have hv := (hab.eval x).weak
   rw [hx] at hv
   generalize b.eval x = u at hv
   split at h2
   ·rename_i sz hsz
    obtain ⟨h3, h4⟩ : v.cells.length = sz + 1 ∧ K (.val (.iptr v) A) := by
     rcases tfR_elim h2 with ⟨h, h'⟩ | ⟨_, h⟩
     ·exact ⟨by simpa using h, h'⟩
     ·exact h.elim
    have hnl : nl = false := by
     cases hv with
     | islNil => simp at h1
     | islE => simp at h1
     | isl => rfl
    subst hnl
    refine one ?_ h4
    simp only [aOp, hop, hx, hn, aIndexAddr, aVal, ht, h1, hsz, h3, if_neg (show ¬ n < 0 by omega), if_true, Option.map_some]
   ·exact h2.elim
  ·rename_i y kk n len e _ hn ht
   obtain ⟨j, rfl, h2⟩ := arrK_elim hk
   refine gen ?_
   simp only [aOp, hop, hn]
   exact h2
  ·exact gen hk
 ·rename_i t x i hop
  split at hk
  ·rename_i s k n hx hn ht
   obtain ⟨h0, c, h1, h2⟩ := hk
   refine one ?_ h2
   simp only [aOp, hop, hx, hn, aIndex, aVal, ht, h1, if_neg (show ¬ n < 0 by omega), Option.map_some]
  ·rename_i y kk n len e _ hn ht
   obtain ⟨j, rfl, h2⟩ := arrK_elim hk
   refine gen ?_
   simp only [aOp, hop, hn]
   exact h2
  ·exact gen hk
 ·rename_i op t x y z hop
  split at hk
  ·rename_i k p k' q hx hy
   obtain ⟨rfl, h1, h2⟩ := hk
   refine one ?_ h2
   simp only [aOp, hop, aBin, aGuard, hx, hy, aInt, aVal, if_neg h1, if_true, Option.map_some]
  ·rename_i k p k' q hx hy
   obtain ⟨rfl, h1, h2⟩ := hk
   refine one ?_ h2
   simp only [aOp, hop, aBin, aGuard, hx, hy, aInt, aVal, if_neg h1, if_true, Option.map_some]
  ·rename_i p q hx hy
   obtain ⟨h1, h2⟩ := hk
   refine one ?_ h2
   simp only [aOp, hop, aBin, aGuard, hx, hy, aStr, aVal, if_neg (show ¬ ((p.length + q.length : Nat) : Int) > IntKind.i64.max by omega), if_true, Option.map_some]
  ·exact gen hk
 ·rename_i t x lo hi mx hop
  split at hk
  ·rename_i s hx ht
   obtain ⟨l, h1, hk⟩ := bndK_elim hk
   obtain ⟨h, h2, ⟨h3, h4⟩, hk⟩ := bndK_elim hk
   refine one ?_ hk
   simp only [aOp, hop, hx, Option.map_none, aSliceW_str ht h1 h2 h3 h4, aVal, Option.map_some]
  ·rename_i nl off xs e hx ht
   obtain ⟨l, h1, hk⟩ := bndK_elim hk
   obtain ⟨h, h2, ⟨h3, h4⟩, hk⟩ := bndK_elim hk
   split at hk
   ·rename_i k hs
    refine one ?_ hk.2
    have hv := hab.eval x
    rw [hx] at hv
    have hn : nl = true → xs = [] := by
     rintro rfl
     generalize b.eval x = u at hv
     cases hv <;> rfl
    simp only [aOp, hop, hx, Option.map_none, aSliceW_isl ht hn hs h1 h2 h3 h4 hk.1, aVal, Option.map_some]
   ·exact hk.elim
  ·exact gen hk
 ·rename_i t m i ok hop
  split at hk
  ·rename_i b kt e hm ht
   split at hk
   ·rename_i d es clock z hd hb hz
    rcases tfR_elim hk with ⟨hs, hk⟩ | ⟨_, hk⟩
    ·rw [nthR_eq] at hb
     obtain ⟨v, h1, h2⟩ := lookK_elim hk hs ht hz hb
     refine one ?_ h2
     simp only [aOp, hop, hm, h1, aVal, Option.map_some]
    ·exact hk.elim
   ·exact gen hk
  ·exact gen hk
 ·rename_i t m i x hop
  split at hk
  ·rename_i b kt e hm ht
   split at hk
   ·rename_i d es clock hd hb
    rcases tfR_elim hk with ⟨hs, hk⟩ | ⟨_, hk⟩
    ·rw [nthR_eq] at hb
     obtain ⟨A', h1, h2⟩ := updK_elim hk hs ht hb
     refine gen ?_
     have e : aOp P G (mu o) rd.isSome A a.eval o = some [.val .top A'] := by
      simp only [aOp, hop, hm, h1, aEff, Option.map_some]
     rw [e]
     exact h2
    ·exact hk.elim
   ·exact gen hk
  ·exact gen hk
 ·rename_i c hop
  split at hk
  ·rename_i x y hcal hargs
   split at hk
   ·rename_i nl fam off xs b2 f2 o2 ys hmu hx hy
    obtain ⟨v, A', h1, h2⟩ := appK_elim hk b2 f2 o2
    refine gen ?_
    have e : aOp P G (mu o) rd.isSome A a.eval o = some [.val v A'] := by
     simp only [aOp, hop, aCall, hcal, hargs, hmu, hx, hy, AV.isRow, Bool.or_self, Bool.false_eq_true, if_false, h1, Option.map_some]
    rw [e]
    exact h2
   ·exact gen hk
  ·exact gen hk
 ·exact gen hk
theorem lit_self {a : AAct} {t : Nat} {b : Bool} (h : nthR a.tmps t = some (.bool b)) : a.lit t b = a := by
 unfold AAct.lit
 have : setR a.tmps t (.bool b) = a.tmps := by
  rw [nthR_eq] at h
  rw [setR_eq]
  apply List.ext_getElem?
  intro i
  rw [List.getElem?_set]
  split
  ·rename_i hi; subst hi
   split
   ·exact h.symm
   ·rename_i hlt; rw [List.getElem?_eq_none (by omega)]
  ·rfl
 rw [this]
theorem wantedK_elim {ops : Array Oper} {a : AAct} {o : Oper} {K : AAct → Bool → Prop} (h : wantedK ops a o K) : ∃ t, aWanted ops a o = some t ∧ K a t := by
 unfold wantedK at h
 unfold aWanted
 cases hg : o.guard with
 | none => rw [hg] at h; exact ⟨true, rfl, h⟩
 | some p =>
  obtain ⟨j, want⟩ := p
  rw [hg] at h
  simp only at h ⊢
  unfold aYielded
  cases hd : (ops[j]?).bind (·.dst) with
  | none => rw [hd] at h; exact ⟨false, rfl, h⟩
  | some t =>
   rw [hd] at h
   simp only at h ⊢
   cases ht : nthR a.tmps t with
   | none =>
    rw [ht] at h
    rw [nthR_eq] at ht
    rw [ht]; exact ⟨false, rfl, h⟩
   | some x =>
    rw [ht] at h
    have ht' := ht
    rw [nthR_eq] at ht'
    rw [ht']
    cases x <;> first
     | exact h.elim
     | exact ⟨false, rfl, h⟩
     | skip
    rename_i b
    rcases bothR_elim h with ⟨rfl, h1⟩ | ⟨rfl, h1⟩
    ·rw [lit_self ht] at h1
     exact ⟨_, rfl, by cases want <;> exact h1⟩
    ·rw [lit_self ht] at h1
     exact ⟨_, rfl, by cases want <;> exact h1⟩
theorem litO_self {a : AAct} {c : Operand} {b : Bool} (h : a.eval c = .bool b) : a.litO c b = a := by
 cases c with
 | tmp t =>
  have h : (nthR a.tmps t).getD .top = .bool b := h
  cases hn : nthR a.tmps t with
  | none => rw [hn] at h; cases h
  | some x => rw [hn] at h; simp at h; subst h; exact lit_self hn
 | _ => rfl
end
end Go.Am
end
section
noncomputable section
namespace Go.Am
open Go
section
variable {P : Program} {G : Gl} {el : Els} {mu : Oper → Bool} {m : Rm}
theorem sOpsR_ok (hm : Rm.Ok P G m) {rd : Option Nat} {ops : Array Oper} {l : List Oper} {a : AAct} {A : AH} {K : AOut → Prop} (hx : sOpsR P G el mu m rd ops l a A K) : OpsJ P G rd ops l a A K := by
 intro S w b ro hi hab hr
 unfold sOpsR at hx
 split at hx
 ·exact ⟨_, hx, S, hi, Fr.refl S A w, hab, .normal⟩
 ·rename_i o rest
  obtain ⟨t, hw, hx⟩ := wantedK_elim hx
  split at hx
  ·simp only [wpListIn, aWanted_ok hab hw, Bool.false_eq_true, if_false]
   exact ⟨fun _ _ => trivial, hm.ops _ _ _ _ _ _ hx S w _ ro hi (hab.put _ (undef_rel S)) hr⟩
  ·simp only [wpListIn, aWanted_ok hab hw, if_true]
   obtain ⟨r, h3, hr2⟩ := opK_ok hx hi hab hr
   refine ⟨fun _ _ => trivial, ?_⟩
   have hround : (fen ro).round = ro := rfl
   rw [hround]
   generalize (o.semAt ro b.eval).run P w = res at hr2
   have after : ∀ {S1 : Sh} {A1 : AH} {w1 : World}, Fr S A w S1 A1 w1 → ∀ e w', FinPR G S1 A1 w1 (sAfterR m rd ops o.dst rest a K) e w' →
     (match e with
      | .returned v => wpListIn (fen ro) 0 P ops (OutPR G S A w K) rest (b.put o.dst v) w'
      | .panicked chain => OutPR G S A w K (.panic chain) b w'
      | .outgrown => LetsOut (OutPR G S A w K)) := by
    intro S1 A1 w1 hf e w' hp
    obtain ⟨x, hy1, S2, i2, f2, e2⟩ := hp
    unfold sAfterR at hy1
    generalize hxe : x.e = xe at hy1 e2
    cases e2 with
    | returned v u hv =>
     simp only at hy1
     have hle := (hf.trans f2).le
     exact wpListIn_mono (fun _ _ _ h => h.from (hf.trans f2) fun _ h => h) _ _ _ (hm.ops _ _ _ _ _ _ hy1 S2 w' _ ro i2 ((hab.mono hle).put _ hv) (hr.mono hle))
    | panicked c d hc =>
     exact ⟨_, hy1, S2, i2, hf.trans f2, hab.mono (hf.trans f2).le, .panic _ _ hc⟩
   cases r with
   | val v A' =>
    simp only [sOneR] at h3
    cases res with
    | halt x w' => exact hr2.elim
    | ok x w' =>
     cases x <;> first
      | exact hr2.elim
      | (obtain ⟨S', i', f', v'⟩ := hr2
         exact wpListIn_mono (fun _ _ _ h => h.from f' fun _ h => h) _ _ _ (hm.ops _ _ _ _ _ _ h3 S' w' _ ro i' ((hab.mono f'.le).put _ v') (hr.mono f'.le)))
   | enter f args A' =>
    simp only [sOneR] at h3
    cases res with
    | halt x w' => exact hr2.elim
    | ok x w' =>
     cases x <;> first
      | exact hr2.elim
      | skip
     rename_i g vs
     obtain ⟨rfl, S', i', f', v'⟩ := hr2
     refine ⟨(fun h => by simp [fen, Fence.wide] at h), ?_⟩
     exact CallsIn.mono (hm.func _ _ _ _ h3 S' w' _ i' v') (fun e w'' hp => by have := after f' e w'' hp; cases e <;> exact this)
   | yield l args A' =>
    simp only [sOneR] at h3
    cases res with
    | halt x w' => exact hr2.elim
    | ok x w' =>
     cases x <;> first
      | exact hr2.elim
      | skip
     rename_i c fn tmps assign body
     obtain ⟨S', st, pd, ats, ps, d, i', f', hc, hb, hlen, us, vs, rfl, hats, hargs, s, p, fn', hheap, rfl⟩ := hr2
     refine ⟨(fun h => by simp [fen, Fence.wide] at h), ?_⟩
     exact RoundIn.mono (hm.round _ _ _ _ h3 S' w' c vs st pd ats ps assign body d us fn s p _ i' hc hb hlen hargs hats hheap) (fun e w'' hp => by have := after f' e w'' hp; cases e <;> exact this)
   | dfr d A' =>
    simp only [sOneR] at h3
    cases res with
    | halt x w' => exact hr2.elim
    | ok x w' =>
     cases x <;> first
      | exact hr2.elim
      | skip
     obtain ⟨S', i', f', v'⟩ := hr2
     exact wpListIn_mono (fun _ _ _ h => h.from f' fun _ h => h) _ _ _ (hm.ops _ _ _ _ _ _ h3 S' w' _ ro i' (((hab.mono f'.le).defer v').put _ (undef_rel S')) (hr.mono f'.le))
   | panic v A' =>
    simp only [sOneR] at h3
    cases res with
    | ok x w' => exact hr2.elim
    | halt x w' =>
     cases x <;> first
      | exact hr2.elim
      | skip
     obtain ⟨S', i', f', v'⟩ := hr2
     exact ⟨_, h3, S', i', f', hab.mono f'.le, .panic _ _ (.cons _ _ _ _ _ v' .nil)⟩
   | recover A' => exact h3.elim
theorem thenR {S : Sh} {A : AH} {w : World} {K1 K : AOut → Prop} {T : Act → World → Prop}
  (hn : ∀ o, K1 o → o.e = .normal → ∀ S1 a1 w1, Inv G S1 o.A w1 → Fr S A w S1 o.A w1 → ARel S1 o.a a1 → T a1 w1)
  (he : ∀ o, K1 o → o.e ≠ .normal → K o) :
  ∀ e a' w', OutPR G S A w K1 e a' w' → Exit.then T (OutPR G S A w K) e a' w' := by
 intro e a' w' h
 obtain ⟨o, ho, S1, i1, f1, r1, e1⟩ := h
 by_cases hoe : o.e = .normal
 ·rw [hoe] at e1
  cases e1
  exact hn o ho hoe S1 a' w' i1 f1 r1
 ·have hin : OutPR G S A w K e a' w' := ⟨o, he o ho hoe, S1, i1, f1, r1, e1⟩
  cases e1b : e with
  | normal =>
   subst e1b
   generalize hoo : o.e = oe at e1 hoe
   cases e1
   exact absurd rfl hoe
  | exit id => subst e1b; exact hin
  | goto l => subst e1b; exact hin
  | ret => subst e1b; exact hin
  | panic ch => subst e1b; exact hin
  | outgrown => subst e1b; exact hin
theorem sLoopR_ok (hm : Rm.Ok P G m) {rd : Option Nat} {c : Code} {a : AAct} {A : AH} {K : AOut → Prop} (hx : sLoopR m rd c a A K) : LoopJ P G rd c a A K := by
 intro S w b ro hi hab hr
 refine LoopIn.round (wpIn_mono (hm.code _ _ _ _ _ hx S w b ro hi hab hr) (thenR (T := LoopIn (fen ro) 0 P c (OutPR G S A w K)) ?_ ?_))
 ·intro o ho hoe S1 a1 w1 i1 f1 r1
  simp only [hoe] at ho
  exact (hm.loop _ _ _ _ _ ho S1 w1 a1 ro i1 r1 (hr.mono f1.le)).mono fun _ _ _ h => h.from f1 fun _ h => h
 ·intro o ho hoe
  cases hoo : o.e <;> simp_all
theorem sRange_go (hm : Rm.Ok P G m) {rd : Option Nat} {g : Operand} {ps : Array Tmp} {assign body : Code} {a : AAct} {K : AOut → Prop} {d : Nat} {mark : List ADef} {A0 : AH} (hx : sRangeGo P m rd g ps assign body a K d mark A0)
  {S : Sh} {A : AH} {w : World} {b : Act} {ro : Option Nat} (hab : ARel S a b) (hr : RdRel S rd ro) (fnid : FuncId)
  (S0 : Sh) (w0 : World) (dc : Nat) (es : List Deferred) (i0 : Inv G S0 A0 w0) (f0 : Fr S A w S0 A0 w0) (hd : S0.ρ d = some dc) (hmark : DsRel S0 mark es) :
   ∃ (dt : Deferred) (f : FuncId) (args : Array Value),
    (resolve b.eval (rangeCall g w0.heap.size) 0).run P (w0.alloc (.loop { state := .ready, pending := none, fn := fnid, tmps := b.tmps, params := ps, assign, body, defers := dc })) = .ok dt (w0.alloc (.loop { state := .ready, pending := none, fn := fnid, tmps := b.tmps, params := ps, assign, body, defers := dc })) ∧
    (invoke dt.target dt.args).run P (w0.alloc (.loop { state := .ready, pending := none, fn := fnid, tmps := b.tmps, params := ps, assign, body, defers := dc })) = .ok (.enter f args) (w0.alloc (.loop { state := .ready, pending := none, fn := fnid, tmps := b.tmps, params := ps, assign, body, defers := dc })) ∧
    CallsIn (fen ro) (0 - 1) P f args (w0.alloc (.loop { state := .ready, pending := none, fn := fnid, tmps := b.tmps, params := ps, assign, body, defers := dc })) (rangePost (fen ro) 0 P w0.heap.size (OutPR G S A w K) { b with defers := es ++ b.defers }) := by
 unfold sRangeGo at hx
 simp only at hx
 split at hx
 ·rename_i f first cap hev
  have hv := (hab.mono f0.le).eval g
  rw [hev] at hv
  generalize hbv : b.eval g = bv at hv
  cases hv with
  | fn _ gg _ _ us vs hfr h1 h2 =>
  cases hfr
  have hlt : d < A0.blks.length := by
   rcases Nat.lt_or_ge d A0.blks.length with h | h
   ·exact h
   ·rw [i0.ρout d h] at hd; cases hd
  have hle0 := Sh.le_at (i0.ρout _ (Nat.le_refl _)) w0.heap.size
  obtain ⟨i1, f1⟩ := i0.push (x := .loop .ready .none a.tmps ps assign body d) (o := .loop { state := .ready, pending := none, fn := fnid, tmps := b.tmps, params := ps, assign, body, defers := dc }) (by simp)
   (.loop .ready .none a.tmps b.tmps.toList ps assign body d dc fnid ((hab.tmps.mono f0.le).mono hle0) (hle0.ρ _ _ hd))
  have hl : (S0.at A0.blks.length w0.heap.size).ρ A0.blks.length = some w0.heap.size := by simp [Sh.at]
  split at hx
  ·rename_i f' args A' hent
   have hyield : VRel (S0.at A0.blks.length w0.heap.size) (.fn (.yield A0.blks.length) [] []) (.func (.yield w0.heap.size) #[] #[]) := .fn _ _ _ _ [] [] ⟨_, hl, rfl⟩ .nil .nil
   obtain ⟨he1, he2⟩ := aEnter_run hent ⟨us ++ [.func (.yield w0.heap.size) #[] #[]] ++ vs⟩ (w0.alloc (.loop { state := .ready, pending := none, fn := fnid, tmps := b.tmps, params := ps, assign, body, defers := dc }))
   cases he1
   refine ⟨⟨.fn (.func f) ⟨vs⟩, ⟨us ++ [.func (.yield w0.heap.size) #[] #[]]⟩⟩, f, ⟨us ++ [.func (.yield w0.heap.size) #[] #[]] ++ vs⟩, ?_, ?_, ?_⟩
   ·simp only [resolve, Deferred.ofValue, hbv]
    simp [Act.eval]
   ·have : invoke (.fn (.func f) ⟨vs⟩) ⟨us ++ [.func (.yield w0.heap.size) #[] #[]]⟩ = callFunc f ⟨us ++ [.func (.yield w0.heap.size) #[] #[]] ++ vs⟩ := by simp [invoke]
    rw [this]; exact he2
   ·have hargs : LRel (S0.at A0.blks.length w0.heap.size) (first ++ [.fn (.yield A0.blks.length) [] []] ++ cap) (us ++ [.func (.yield w0.heap.size) #[] #[]] ++ vs) :=
     ((h1.mono hle0).append (.cons _ _ _ _ hyield .nil)).append (h2.mono hle0)
    have key := hm.func _ _ _ _ hx _ _ _ i1 hargs
    have f01 := f0.trans f1
    refine CallsIn.mono (R := FinPR G _ _ _ _) key ?_
    intro e w3 hp
    obtain ⟨x, y1, S3, i3, f3, e3⟩ := hp
    have f03 := f01.trans f3
    have hab' : ARel S3 { a with defers := mark ++ a.defers } { b with defers := es ++ b.defers } :=
     ⟨hab.tmps.mono f03.le, DsRel.append (hmark.mono (f1.trans f3).le) (hab.defers.mono f03.le)⟩
    generalize x.e = xe at y1 e3
    cases e3 with
    | panicked c dd hc =>
     exact ⟨_, y1, S3, i3, f03, hab', .panic _ _ hc⟩
    | returned v u hv =>
     simp only at y1
     have hl3 := f3.le.ρ _ _ hl
     split at y1
     ·exact y1.elim
     ·rename_i st pd ats ps' as' bd' d' hnb hb
      rw [nthR_eq] at hb
      have hnb : st ≠ .busy := by
       rintro rfl
       exact hnb rfl
      obtain ⟨c', ob, s1, s2, s3⟩ := i3.blk _ _ hb (by simp)
      obtain rfl := Option.some.inj (s1.symm.trans hl3)
      cases s3 with
      | loop _ _ _ tvs _ _ _ _ dd' fn' htl hdd =>
      have hlt3 := (Array.getElem?_eq_some_iff.1 s2).1
      have hend := run_endLoop (P := P) s2 hnb
      obtain ⟨i4, f4⟩ := i3.put (x := .loop .exhausted pd ats ps' as' bd' d') (Inv.live_of hb (by simp)) hl3 (by simp) (.loop .exhausted pd ats tvs ps' as' bd' d' dd' fn' htl hdd)
       (w' := w3.putObj w0.heap.size _) (World.putObj_heap_same hlt3) (fun b' hb' => World.putObj_heap_other hb') (by simp) rfl rfl rfl (fun cs el hc => by rw [s2] at hc; cases hc)
      refine ⟨pd, _, hend, ?_⟩
      split at y1
      ·exact ⟨_, y1, S3, i4, f03.trans f4, hab', .normal⟩
      ·rename_i c
       exact wpIn_mono (hm.code _ _ _ _ _ y1 S3 _ _ ro i4 hab' (hr.mono f03.le)) fun _ _ _ h => h.from (f03.trans f4) fun _ h => h
     ·exact y1.elim
  ·exact hx.elim
 ·exact hx.elim
theorem sRangeR_ok (hm : Rm.Ok P G m) {rd : Option Nat} {g : Operand} {ps : Array Tmp} {assign body : Code} {a : AAct} {A : AH} {K : AOut → Prop} (hx : sRangeR P m rd g ps assign body a A K) : CodeJ P G rd (.rangeFunc g ps assign body) a A K := by
 intro S w b ro hi hab hr
 refine wpIn_rangeFunc fun fnid _ => ?_
 unfold sRangeR at hx
 cases rd with
 | none =>
  obtain rfl : ro = none := hr
  simp only at hx
  obtain ⟨i0, f0⟩ := hi.push (x := .defers) (o := .deferred (some [])) (by simp) .defers
  have hd : (S.at A.blks.length w.heap.size).ρ A.blks.length = some w.heap.size := by simp [Sh.at]
  obtain ⟨dt, f, args, k1, k2, k3⟩ := sRange_go hm hx hab (ro := none) rfl fnid _ (w.alloc (.deferred (some []))) w.heap.size [{ target := .collected w.heap.size, args := #[] }] i0 f0 hd (.cons _ _ _ _ (.mark _ _ hd) .nil)
  rw [World.size_alloc] at k1 k3
  exact ⟨w.heap.size + 1, _, _, dt, (w.alloc (.deferred (some []))).alloc (.loop { state := .ready, pending := none, fn := fnid, tmps := b.tmps, params := ps, assign, body, defers := w.heap.size }), f, args,
   (w.alloc (.deferred (some []))).alloc (.loop { state := .ready, pending := none, fn := fnid, tmps := b.tmps, params := ps, assign, body, defers := w.heap.size }), run_enterLoop_outer fnid b.tmps ps assign body, k1, fun _ _ => trivial, k2, (fun h => by simp [fen, Fence.wide] at h), k3⟩
 | some l0 =>
  obtain ⟨c, rfl, hc⟩ := hr
  simp only at hx
  split at hx
  ·rename_i st pd ats ps0 as0 bd0 d hb
   rw [nthR_eq] at hb
   obtain ⟨c', ob, s1, s2, s3⟩ := hi.blk _ _ hb (by simp)
   obtain rfl := Option.some.inj (s1.symm.trans hc)
   cases s3 with
   | loop _ _ _ tvs _ _ _ _ dd fn' htl hdd =>
   obtain ⟨dt, f, args, k1, k2, k3⟩ := sRange_go hm hx hab (ro := some c') ⟨c', rfl, hc⟩ fnid S w dd [] hi (Fr.refl S A w) hdd .nil
   refine ⟨w.heap.size, [], _, dt, w.alloc (.loop { state := .ready, pending := none, fn := fnid, tmps := b.tmps, params := ps, assign, body, defers := dd }), f, args, w.alloc (.loop { state := .ready, pending := none, fn := fnid, tmps := b.tmps, params := ps, assign, body, defers := dd }), ?_, k1, fun _ _ => trivial, k2, (fun h => by simp [fen, Fence.wide] at h), k3⟩
   simp only [fen, Instr.enterLoop, Sem.run_bind, run_getLoop s2, Result.andThen_ok, Sem.run_pure]
   rfl
  ·exact hx.elim
theorem sCodeR_ok (hm : Rm.Ok P G m) {rd : Option Nat} {c : Code} {a : AAct} {A : AH} {K : AOut → Prop} (hx : sCodeR P m rd c a A K) : CodeJ P G rd c a A K := by
 intro S w b ro hi hab hr
 unfold sCodeR at hx
 split at hx
 ·exact wpIn_skip ⟨_, hx, S, hi, Fr.refl S A w, hab, .normal⟩
 ·exact wpIn_label ⟨_, hx, S, hi, Fr.refl S A w, hab, .normal⟩
 ·exact wpIn_region_list (hm.ops _ _ _ _ _ _ hx S w b ro hi hab hr)
 ·rename_i x y
  refine wpIn_seq (wpIn_mono (hm.code _ _ _ _ _ hx S w b ro hi hab hr) (thenR (T := y.wpIn (fen ro) 0 P (OutPR G S A w K)) ?_ ?_))
  ·intro o ho hoe S1 a1 w1 i1 f1 r1
   simp only [hoe] at ho
   exact wpIn_mono (hm.code _ _ _ _ _ ho S1 w1 a1 ro i1 r1 (hr.mono f1.le)) fun _ _ _ h => h.from f1 fun _ h => h
  ·intro o ho hoe
   cases hoo : o.e <;> simp_all
 ·rename_i c x y
  split at hx
  ·rename_i t hc
   have hv := hab.eval c
   rw [hc] at hv
   generalize hbv : b.eval c = bv at hv
   cases hv
   rcases bothR_elim hx with ⟨rfl, h1⟩ | ⟨rfl, h1⟩
   ·rw [litO_self hc] at h1
    exact wpIn_cond hbv (hm.code _ _ _ _ _ h1 S w b ro hi hab hr)
   ·rw [litO_self hc] at h1
    exact wpIn_cond hbv (hm.code _ _ _ _ _ h1 S w b ro hi hab hr)
  ·exact hx.elim
 ·rename_i id c
  refine wpIn_block (wpIn_mono (hm.code _ _ _ _ _ hx S w b ro hi hab hr) ?_)
  intro e a' w' h
  obtain ⟨o, hin, S1, i1, f1, r1, e1⟩ := h
  generalize hoe : o.e = oe at e1
  cases e1 with
  | normal => exact ⟨_, hin, S1, i1, f1, r1, by simp only [hoe, AE.unblock]; exact .normal⟩
  | exit id' =>
   simp only [Exit.inBlock]
   by_cases hid : id' = id
   ·rw [if_pos hid]
    exact ⟨_, hin, S1, i1, f1, r1, by simp only [hoe, AE.unblock, if_pos hid]; exact .normal⟩
   ·rw [if_neg hid]
    exact ⟨_, hin, S1, i1, f1, r1, by simp only [hoe, AE.unblock, if_neg hid]; exact .exit _⟩
  | goto l => exact ⟨_, hin, S1, i1, f1, r1, by simp only [hoe, AE.unblock]; exact .goto _⟩
  | ret => exact ⟨_, hin, S1, i1, f1, r1, by simp only [hoe, AE.unblock]; exact .ret⟩
  | panic c d hc => exact ⟨_, hin, S1, i1, f1, r1, by simp only [hoe, AE.unblock]; exact .panic _ _ hc⟩
 ·exact (hm.loop _ _ _ _ _ hx S w b ro hi hab hr).loop
 ·rename_i c
  refine wpIn_scope (wpIn_mono (hm.code _ _ _ _ _ hx S w b ro hi hab hr) ?_)
  intro e a' w' h
  obtain ⟨o, g1, S1, i1, f1, r1, e1⟩ := h
  have hng : ∀ l, o.e ≠ .goto l := by
   intro l hl
   rw [hl] at g1
   exact g1
  have hin : K o := by
   cases hoe : o.e <;> simp only [hoe] at g1 <;> first
    | exact g1
    | exact absurd hoe (hng _)
  refine ⟨fun l hl => ?_, o, hin, S1, i1, f1, r1, e1⟩
  subst hl
  generalize hoe : o.e = oe at e1
  cases e1
  exact hng _ hoe
 ·exact sRangeR_ok hm hx S w b ro hi hab hr
 ·exact wpIn_exit ⟨_, hx, S, hi, Fr.refl S A w, hab, .exit _⟩
 ·exact wpIn_goto ⟨_, hx, S, hi, Fr.refl S A w, hab, .goto _⟩
 ·exact wpIn_ret ⟨_, hx, S, hi, Fr.refl S A w, hab, .ret⟩
 ·exact hx.elim
theorem sFuncR_ok (hm : Rm.Ok P G m) {f : FuncId} {args : List AV} {A : AH} {K : AFin → Prop} (hx : sFuncR P m f args A K) : FuncJ P G f args A K := by
 intro S w vs hi hl
 unfold sFuncR at hx
 split at hx
 ·rename_i fn hf
  split at hx
  ·rename_i c hb
   refine callsIn_of_wp_marks hf hb trivial (wpIn_mono (hm.code _ _ _ _ _ hx S w _ none hi (ARel.tmpsOf fn hl) rfl) ?_)
   intro e a' w' h
   obtain ⟨o, g1, S1, i1, f1, r1, e1⟩ := h
   generalize o.e = oe at g1 e1
   have fin : ∀ {u : AMode} {md : FrameMode}, m.leave fn o.a.tmps o.a.defers u o.A K → MdRel S1 u md → LeavesInM Fence.wide 0 P fn a'.tmps (FinPR G S A w K) a'.defers md w' := by
    intro u md hl' hmd
    have := hm.leave _ _ _ _ _ _ hl' S1 w' a'.tmps.toList a'.defers md i1 r1.tmps r1.defers hmd
    have hq : ∀ e w'', FinPR G S1 o.A w' K e w'' → FinPR G S A w K e w'' := fun e w'' h => h.from f1 fun _ h => h
    exact leavesInM_mono hq _ _ _ this
   cases e1 with
   | normal => exact fin g1 .returning
   | ret => exact fin g1 .returning
   | panic c d hc => exact fin g1 (.panicking _ _ hc)
   | exit id => exact g1.elim
   | goto l => exact g1.elim
  ·exact hx.elim
 ·exact hx.elim
theorem sLeaveR_ok (hm : Rm.Ok P G m) {fn : Func} {tmps : List AV} {ds : List ADef} {u : AMode} {A : AH} {K : AFin → Prop} (hx : sLeaveR P G m fn tmps ds u A K) : LeaveJ P G fn tmps ds u A K := by
 intro S w ts es md hi hl hd hu
 unfold sLeaveR at hx
 split at hx
 ·cases hd
  split at hx
  ·cases hu
   obtain ⟨x, h1, h2'⟩ := optR_elim hx
   obtain ⟨v, h2, h3⟩ := aResults_ok hi hl h1
   exact ⟨v, h2, _, h2', S, hi, Fr.refl S A w, .returned _ _ h3⟩
  ·cases hu with
   | panicking c d hc =>
   exact ⟨_, hx, S, hi, Fr.refl S A w, .panicked _ _ hc⟩
 ·rename_i b ds
  cases hd with
  | cons _ e _ es' he hds =>
  cases he with
  | mark _ c hc =>
  split at hx
  ·rename_i hb
   rw [nthR_eq] at hb
   refine ⟨hu.notRun, .inl ?_⟩
   obtain ⟨c', o, s1, s2, s3⟩ := hi.blk b _ hb (by simp)
   obtain rfl := Option.some.inj (s1.symm.trans hc)
   cases s3
   obtain ⟨i1, f1⟩ := hi.kill (w' := w.putObj c' (.deferred none)) (Inv.live_of hb (by simp)) hc (fun b' hb' => World.putObj_heap_other hb') (by simp) rfl rfl rfl (fun cs el hc => by rw [s2] at hc; cases hc)
   refine ⟨c', _, rfl, run_takeDeferred s2, ?_⟩
   have := hm.leave _ _ _ _ _ _ hx S (w.putObj c' (.deferred none)) ts es' md i1 hl hds hu
   exact leavesInM_mono (fun e w' h => h.from f1 fun _ h => h) _ _ _ this
  ·exact hx.elim
 ·rename_i f args cap ds
  cases hd with
  | cons _ e _ es' he hds =>
  cases he with
  | fn _ g _ _ us vs hfr h1 h2 =>
  cases hfr
  split at hx
  ·rename_i f' args' A' hent
   obtain ⟨he1, he2⟩ := aEnter_run hent ⟨us ++ vs⟩ w
   cases he1
   refine ⟨hu.notRun, .inr ⟨(fun h => by simp [Fence.wide] at h), .func f, ⟨vs⟩, f, ⟨us ++ vs⟩, rfl, ?_, fun _ _ => trivial, ?_⟩⟩
   ·have : invoke (.fn (.func f) ⟨vs⟩) ⟨us⟩ = callFunc f ⟨us ++ vs⟩ := by simp [invoke]
    rw [this]; exact he2
   ·refine (hm.dfunc _ _ _ _ _ hx S w _ md hi (h1.append h2) hu).mono ?_
    intro e u' w' hp
    obtain ⟨x, y1, S1, i1, f1, e1, m1⟩ := hp
    generalize x.e = xe at y1 e1
    cases e1 with
    | returned v z hv =>
     have := hm.leave _ _ _ _ _ _ y1 S1 w' ts es' (Go.settle u') i1 (hl.mono f1.le) (hds.mono f1.le) m1.settle
     exact leavesInM_mono (fun e w' h => h.from f1 fun _ h => h) _ _ _ this
    | panicked c d hc =>
     have := hm.leave _ _ _ _ _ _ y1 S1 w' ts es' (Go.raised u' d) i1 (hl.mono f1.le) (hds.mono f1.le) (m1.raised hc)
     exact leavesInM_mono (fun e w' h => h.from f1 fun _ h => h) _ _ _ this
  ·exact hx.elim
 ·exact hx.elim
theorem sDfuncR_ok (hm : Rm.Ok P G m) {f : FuncId} {args : List AV} {u : AMode} {A : AH} {K : ADfin → Prop} (hx : sDfuncR P G m f args u A K) : DfuncJ P G f args u A K := by
 intro S w vs md hi hl hu
 unfold sDfuncR at hx
 split at hx
 ·rename_i fn hf
  split at hx
  ·rename_i c hb
   refine callsDIn_of_wpSIn hf hb trivial fun c0 cs hc0 => ?_
   have key := hm.codeS _ _ _ _ _ hx S w _ md c0 cs hi (ARel.tmpsOf fn hl) hu hc0
   intro b k hbk hro hFn hroom
   obtain ⟨e, a', cs', w', hlen, hq, harr⟩ := key b k hbk hro hFn hroom
   refine ⟨e, a', cs', w', hlen, ?_, harr⟩
   obtain ⟨o, g1, S1, md', i1, f1, r1, e1, m1, rfl⟩ := hq
   have hds := r1.defers
   split at g1
   ·rename_i hnil
    rw [hnil] at hds
    have hde : a'.defers = [] := by generalize a'.defers = dd at hds; cases hds; rfl
    have hres : ∀ {x : AV}, aResults P G o.A fn o.a.tmps = some x → ∃ v, (results fn a'.tmps).run P w' = .ok v w' ∧ VRel S1 x v := fun hx => aResults_ok i1 r1.tmps hx
    generalize o.e = oe at g1 e1
    cases e1 with
    | normal =>
     obtain ⟨x, hx1, g2⟩ := optR_elim g1
     obtain ⟨v, hv1, hv2⟩ := hres hx1
     exact ⟨hde, md', rfl, v, hv1, _, g2, S1, i1, f1, .returned _ _ hv2, m1⟩
    | ret =>
     obtain ⟨x, hx1, g2⟩ := optR_elim g1
     obtain ⟨v, hv1, hv2⟩ := hres hx1
     exact ⟨hde, md', rfl, v, hv1, _, g2, S1, i1, f1, .returned _ _ hv2, m1⟩
    | panic c d hc =>
     exact ⟨hde, md', rfl, _, g1, S1, i1, f1, .panicked _ _ hc, m1⟩
    | exit id => exact g1.elim
    | goto l => exact g1.elim
   ·exact g1.elim
  ·exact hx.elim
 ·exact hx.elim
theorem sCodeSR_ok (hm : Rm.Ok P G m) {c : Code} {a : AAct} {u : AMode} {A : AH} {K : ASout → Prop} (hx : sCodeSR m c a u A K) : CodeSJ P G c a u A K := by
 intro S w b md c0 cs hi hab hu hc0
 have hself : ({ c0 with mode := md } : Frame) = c0 := by subst hc0; rfl
 have plain : ∀ {c : Code}, (m.code .none c a A fun o => K (⟨o.e, o.a, u, o.A⟩ : ASout)) → c.wpSIn Fence.wide 0 P (SoutPR G c0 cs S A w K) b (c0 :: cs) w := by
  intro c hx
  refine wpSIn_of_wpIn rfl (wpIn_mono (hm.code _ _ _ _ _ hx S w b none hi hab rfl) ?_)
  intro e a' w' h
  obtain ⟨o, g2, S1, i1, f1, r1, e1⟩ := h
  exact ⟨_, g2, S1, md, i1, f1, r1, e1, hu.mono f1.le, by rw [hself]⟩
 unfold sCodeSR at hx
 split at hx
 ·rename_i x y
  refine wpSIn_seq (wpSIn_mono (hm.codeS _ _ _ _ _ hx S w b md c0 cs hi hab hu hc0) ?_)
  intro e a' cs' w' h
  obtain ⟨o, g1, S1, md', i1, f1, r1, e1, m1, rfl⟩ := h
  generalize hoe : o.e = oe at g1 e1
  have other : ∀ {x : Exit}, ERel S1 o.e x → K o → SoutPR G c0 cs S A w K x a' ({ c0 with mode := md' } :: cs) w' :=
   fun hx hk => ⟨o, hk, S1, md', i1, f1, r1, hx, m1, rfl⟩
  cases e1 with
  | normal =>
   simp only [Exit.thenS]
   exact wpSIn_mono (hm.codeS _ _ _ _ _ g1 S1 w' a' md' { c0 with mode := md' } cs i1 r1 m1 rfl) fun _ _ _ _ h => h.from rfl f1 fun _ h => h
  | exit id => exact other (by rw [hoe]; exact .exit id) g1
  | goto l => exact other (by rw [hoe]; exact .goto l) g1
  | ret => exact other (by rw [hoe]; exact .ret) g1
  | panic c d hc => exact other (by rw [hoe]; exact .panic _ _ hc) g1
 ·rename_i id ops
  split at hx
  ·rename_i o rest hops
   split at hx
   ·rename_i hrec
    refine wpSIn_recover hops hrec rfl ?_
    have go : ∀ {v : Value} {md' : FrameMode}, VRel S u.recover.1 v → MdRel S u.recover.2 md' → wpListIn Fence.wide 0 P ops (fun e a w' => SoutPR G c0 cs S A w K e a ({ c0 with mode := md' } :: cs) w') rest (b.put o.dst v) w := by
     intro v md' hv hmd
     refine wpListIn_mono ?_ _ _ _ (hm.ops _ _ _ _ _ _ hx S w _ none hi (hab.put o.dst hv) rfl)
     intro e a' w' h
     obtain ⟨x, g2, S1, i1, f1, r1, e1⟩ := h
     exact ⟨_, g2, S1, md', i1, f1, r1, e1, hmd.mono f1.le, rfl⟩
    rcases recover_ok hu c0 cs hc0 with ⟨v, md', hr1, hr2, hr3⟩ | ⟨hr1, hr2⟩
    ·rw [hr1]
     exact ⟨rfl, go hr2 hr3⟩
    ·rw [hr1]
     have := go (v := .nilIface) (md' := md) (by rw [hr2]; exact .nili) (by rw [hr2]; exact hu)
     rw [hself] at this
     exact this
   ·exact plain hx
  ·exact plain hx
 ·exact plain hx
theorem sRoundR_ok (hm : Rm.Ok P G m) {l : Nat} {args : List AV} {A : AH} {K : AFin → Prop} (hx : sRoundR m l args A K) : RoundJ P G l args A K := by
 intro S w c vs st pd ats ps as bd d us fn sst p dd hi hc hb _ hl hus _
 unfold sRoundR at hx
 rw [nthR_eq, hb] at hx
 simp only at hx
 have hset : LRel S (aSetAll ps.toList args ats) ((ps.zip ⟨vs⟩).foldl (fun tmps (t, a) => tmps.setIfInBounds t a) (⟨us⟩ : Array Value)).toList := by
  have := set_ok (S := S) ps.toList args vs ats ⟨us⟩ hl hus
  rw [← Array.foldl_toList, Array.toList_zip]
  exact this
 refine roundIn_of_wpIn trivial ?_
 have key := hm.code _ _ _ _ _ hx S w { tmps := (ps.zip ⟨vs⟩).foldl (fun tmps (t, a) => tmps.setIfInBounds t a) ⟨us⟩, defers := [] } (some c) hi ⟨hset, .nil⟩ ⟨c, rfl, hc⟩
 refine wpIn_mono key ?_
 intro e a1 w1 h
 obtain ⟨o, g1, S1, i1, f1, r1, e1⟩ := h
 have hc1 := f1.le.ρ _ _ hc
 generalize o.e = oe at g1 e1
 cases e1 with
 | exit id => exact g1.elim
 | goto l => exact g1.elim
 | ret => exact g1.elim
 | panic c d hc => exact g1.elim
 | normal =>
  simp only at g1
  split at g1
  ·rename_i pd' ats' ps' as' bd' d' hb1
   rw [nthR_eq] at hb1
   obtain ⟨c', ob, s1, s2, s3⟩ := i1.blk l _ hb1 (by simp)
   obtain rfl := Option.some.inj (s1.symm.trans hc1)
   cases s3 with
   | loop _ _ _ tvs _ _ _ _ dd' fn' htl hdd =>
   have hlt := (Array.getElem?_eq_some_iff.1 s2).1
   have hbr := run_beginRound (P := P) s2 rfl
   simp only [Exit.then]
   obtain ⟨i2, f2⟩ := i1.put (x := .loop .busy pd' ats' ps' as' bd' d') (Inv.live_of hb1 (by simp)) hc1 (by simp) (.loop .busy pd' ats' tvs ps' as' bd' d' dd' fn' htl hdd)
    (w' := w1.putObj c' _) (World.putObj_heap_same hlt) (fun b' hb' => World.putObj_heap_other hb') (by simp) rfl rfl rfl (fun cs el hc => by rw [s2] at hc; cases hc)
   refine ⟨_, hbr, ?_⟩
   refine wpIn_mono (hm.code _ _ _ _ _ g1 S1 _ a1 (some c') i2 r1 ⟨c', rfl, hc1⟩) ?_
   intro e2 a2 w2 h
   obtain ⟨o2, k1, S2, i3, f3, r2, e3⟩ := h
   have hc2 := f3.le.ρ _ _ hc1
   unfold sRoundEnd at k1
   have fin : ∀ (j : Option Code), (match nthR o2.A.blks l with
      | some (.loop _ _ ats'' ps'' as'' bd'' d'') => K (⟨.returned (.bool j.isNone), o2.A.put l (.loop (if j.isNone then .ready else .done) j ats'' ps'' as'' bd'' d'')⟩ : AFin)
      | _ => False) → ∃ v w', (Instr.endRound c' j).run P w2 = .ok v w' ∧ FinPR G S A w K (.returned v) w' := by
    intro j hj
    split at hj
    ·rename_i pd'' ats'' ps'' as'' bd'' d'' hb2
     rw [nthR_eq] at hb2
     obtain ⟨c'', ob2, t1, t2, t3⟩ := i3.blk l _ hb2 (by simp)
     obtain rfl := Option.some.inj (t1.symm.trans hc2)
     cases t3 with
     | loop _ _ _ tvs2 _ _ _ _ dd2 fn2 htl2 hdd2 =>
     have hlt2 := (Array.getElem?_eq_some_iff.1 t2).1
     obtain ⟨i4, f4⟩ := i3.put (x := .loop (if j.isNone then .ready else .done) j ats'' ps'' as'' bd'' d'') (Inv.live_of hb2 (by simp)) hc2 (by simp) (.loop (if j.isNone then .ready else .done) j ats'' tvs2 ps'' as'' bd'' d'' dd2 fn2 htl2 hdd2)
      (w' := w2.putObj c'' _) (World.putObj_heap_same hlt2) (fun b' hb' => World.putObj_heap_other hb') (by simp) rfl rfl rfl (fun cs el hc => by rw [t2] at hc; cases hc)
     exact ⟨_, _, run_endRound j t2, _, hj, S2, i4, ((f1.trans f2).trans f3).trans f4, .returned _ _ (.bool _)⟩
    ·exact hj.elim
   generalize o2.e = oe2 at k1 e3
   cases e3 with
   | normal => exact fin none k1
   | exit id => exact fin (some (.exit id)) k1
   | goto l => exact fin (some (.goto l)) k1
   | ret => exact fin (some .ret) k1
   | panic c d hc => exact k1.elim
  ·exact g1.elim
end
end Go.Am
end
section
noncomputable section
namespace Go.Am
open Go
section
variable {P : Program} {G : Gl} {el : Els} {mu : Oper → Bool}
open Classical in
def maskA (o : Oper) (a : AAct) (n : Nat) : AAct := ⟨(List.range n).map fun t => if (Operand.tmp t) ∈ o.op.operands.toList then a.get t else .top, []⟩
def ERelO (S : Sh) (o : Oper) (a : AAct) (b : Act) : Prop := ∀ x ∈ o.op.operands, VRel S (a.eval x) (b.eval x)
theorem ARel.ops {S : Sh} {a : AAct} {b : Act} (h : ARel S a b) (o : Oper) : ERelO S o a b := fun x _ => h.eval x
theorem range_rel {S : Sh} (f : Nat → AV) (g : Nat → Value) : ∀ (n k : Nat), (∀ t, k ≤ t → t < k + n → VRel S (f t) (g t)) → LRel S ((List.range' k n).map f) ((List.range' k n).map g)
 | 0, _, _ => .nil
 | n + 1, k, h => by
  simp only [List.range'_succ, List.map_cons]
  exact .cons _ _ _ _ (h k (Nat.le_refl _) (by omega)) (range_rel f g n (k + 1) fun t h1 h2 => h t (by omega) (by omega))
theorem mask_rel {S : Sh} {o : Oper} {a : AAct} {b : Act} (h : ERelO S o a b) : ARel S (maskA o a b.tmps.size) { b with defers := [] } := by
 refine ⟨?_, .nil⟩
 have hb : b.tmps.toList = (List.range' 0 b.tmps.size).map fun t => b.tmps.getD t undef := by
  apply List.ext_getElem
  ·simp
  ·intro i h1 h2
   simp at h1
   simp [Array.getD_eq_getD_getElem?, h1]
 show LRel S _ b.tmps.toList
 rw [hb]
 unfold maskA
 rw [List.range_eq_range']
 refine range_rel _ _ _ _ fun t _ ht => ?_
 split
 ·rename_i hm
  have := h (.tmp t) (by simpa using hm)
  exact this
 ·exact .top _
theorem mask_eval {o : Oper} {a : AAct} {n : Nat} (hn : ∀ t, Operand.tmp t ∈ o.op.operands.toList → n ≤ t → a.get t = .top) {x : Operand} (hx : x ∈ o.op.operands) : (maskA o a n).eval x = a.eval x := by
 cases x with
 | tmp t =>
  have hx' : Operand.tmp t ∈ o.op.operands.toList := by simpa using hx
  show (maskA o a n).get t = a.get t
  unfold AAct.get
  simp only [nthR_eq, maskA, List.getElem?_map]
  by_cases ht : t < n
  ·rw [List.getElem?_range ht]
   simp only [Option.map_some, Option.getD_some, hx', if_true]
   simp [AAct.get, nthR_eq]
  ·have ht' : n ≤ t := Nat.le_of_not_lt ht
   rw [List.getElem?_eq_none (by simpa using ht')]
   have := hn t hx' ht'
   unfold AAct.get at this
   simp only [nthR_eq] at this
   simp [this]
 | const v => rfl
 | global g => rfl
 | func f => rfl
def oneOp : Op → Bool
 | .next .. => false
 | _ => true
theorem aVal_one {A : AH} {x : Option AV} {l : List AR} (h : aVal A x = some l) : ∃ r, l = [r] := by
 unfold aVal at h
 simp only [Option.map_eq_some_iff] at h
 obtain ⟨y, _, rfl⟩ := h
 exact ⟨_, rfl⟩
theorem aValH_one {x : Option (AV × AH)} {l : List AR} (h : aValH x = some l) : ∃ r, l = [r] := by
 unfold aValH at h
 simp only [Option.map_eq_some_iff] at h
 obtain ⟨y, _, rfl⟩ := h
 exact ⟨_, rfl⟩
theorem aEff_one {x : Option AH} {l : List AR} (h : aEff x = some l) : ∃ r, l = [r] := by
 unfold aEff at h
 simp only [Option.map_eq_some_iff] at h
 obtain ⟨y, _, rfl⟩ := h
 exact ⟨_, rfl⟩
theorem aOp_one {m rd : Bool} {A : AH} {ev : Operand → AV} {o : Oper} {l : List AR} (ho : oneOp o.op = true) (h : aOp P G m rd A ev o = some l) : ∃ r, l = [r] := by
 unfold aOp at h
 split at h
 all_goals first
  | (cases h; done)
  | exact aVal_one h
  | exact aValH_one h
  | exact aEff_one h
  | (simp only [Option.some.injEq] at h; exact ⟨_, h.symm⟩)
  | (rename_i hop; rw [hop] at ho; cases ho; done)
  | (simp only [Option.map_eq_some_iff] at h; obtain ⟨y, _, rfl⟩ := h; exact ⟨_, rfl⟩)
  | (split at h <;> first
    | (cases h; done)
    | exact aVal_one h
    | exact aValH_one h
    | (simp only [Option.some.injEq] at h; exact ⟨_, h.symm⟩)
    | (simp only [Option.map_eq_some_iff] at h; obtain ⟨y, _, rfl⟩ := h; exact ⟨_, rfl⟩)
    | (split at h <;> first
      | (cases h; done)
      | (simp only [Option.some.injEq] at h; exact ⟨_, h.symm⟩)))
def AAct.fits (a : AAct) (o : Oper) (n : Nat) : Prop := ∀ t, Operand.tmp t ∈ o.op.operands.toList → n ≤ t → a.get t = .top
def OpR (P : Program) (G : Gl) (rd : Option Nat) (a : AAct) (A : AH) (o : Oper) (r : AR) : Prop :=
 ∀ S w b ro, Inv G S A w → ERelO S o a b → a.fits o b.tmps.size → RdRel S rd ro → RRel G S A w r ((o.semAt ro b.eval).run P w)
theorem sem_defers (o : Oper) (ro : Option Nat) (b : Act) : o.semAt ro ({ b with defers := [] } : Act).eval = o.semAt ro b.eval := by
 have : ({ b with defers := [] } : Act).eval = b.eval := by
  funext x
  cases x <;> rfl
 rw [this]
theorem RRel_sem {rd ro : Option Nat} {S : Sh} {A : AH} {w : World} {b : Act} {o : Oper} {a : AAct} {m : Bool} {l : List AR} (hi : Inv G S A w) (he : ERelO S o a b) (hf : a.fits o b.tmps.size) (hr : RdRel S rd ro) (hx : aOp P G m rd.isSome A a.eval o = some l) :
  ∃ r ∈ l, RRel G S A w r ((o.semAt ro b.eval).run P w) := by
 have h1 := aOp_congr (P := P) (G := G) (mu := m) (rd := rd.isSome) (A := A) (ev := a.eval) (ev' := (maskA o a b.tmps.size).eval) (o := o) fun x hx => (mask_eval hf hx).symm
 rw [h1] at hx
 have := aOp_sem hi (mask_rel he) hr hx
 rw [sem_defers] at this
 exact this
theorem opK_det {rd : Option Nat} {A : AH} {a : AAct} {o : Oper} {K : AR → Prop} (ho : oneOp o.op = true) (hk : opK P G el mu rd.isSome A a.eval o K) : ∃ r, K r ∧ OpR P G rd a A o r ∧ ((∃ v, r = .val v A) ∨ aOp P G (mu o) rd.isSome A a.eval o = some [r]) := by
 have gen : someR (aOp P G (mu o) rd.isSome A a.eval o) K → ∃ r, K r ∧ OpR P G rd a A o r ∧ ((∃ v, r = .val v A) ∨ aOp P G (mu o) rd.isSome A a.eval o = some [r]) := by
  intro h
  obtain ⟨l, h1, h2⟩ := someR_elim h
  obtain ⟨r, rfl⟩ := aOp_one ho h1
  refine ⟨r, h2 r (List.mem_singleton.2 rfl), ?_, .inr h1⟩
  intro S w b ro hi he hf hr
  obtain ⟨r', h3, h4⟩ := RRel_sem hi he hf hr h1
  obtain rfl := List.mem_singleton.1 h3
  exact h4
 have one : ∀ {v : AV}, aOp P G (mu o) rd.isSome A a.eval o = some [.val v A] → K (.val v A) → ∃ r, K r ∧ OpR P G rd a A o r ∧ ((∃ v, r = .val v A) ∨ aOp P G (mu o) rd.isSome A a.eval o = some [r]) := by
  intro v h1 h2
  exact gen (by rw [h1]; exact h2)
 unfold opK at hk
 split at hk
 ·rename_i c x y hop
  split at hk
  ·rename_i t hc
   have e : aOp P G (mu o) rd.isSome A a.eval o = some [.val (if t then a.eval x else a.eval y) A] := by simp only [aOp, hop, hc]
   refine one e ?_
   rcases bothR_elim hk with ⟨rfl, h⟩ | ⟨rfl, h⟩
   ·simpa using h
   ·simpa using h
  ·exact hk.elim
 ·rename_i t x i hop
  split at hk
  ·rename_i nl fam off xs k n e hx hn ht
   obtain ⟨h0, v, h1, h2⟩ := nthK_elim hk
   split at h2
   ·rename_i sz hsz
    obtain ⟨h3, h4⟩ : v.cells.length = sz + 1 ∧ K (.val (.iptr v) A) := by
     rcases tfR_elim h2 with ⟨h, h'⟩ | ⟨_, h⟩
     ·exact ⟨by simpa using h, h'⟩
     ·exact h.elim
    refine ⟨_, h4, ?_, .inl ⟨_, rfl⟩⟩
    intro S w b ro hi he hf hr
    have hv := (he x (by rw [hop]; simp [Op.operands])).weak
    rw [hx] at hv
    generalize b.eval x = u at hv
    have hnl : nl = false := by
     cases hv with
     | islNil => simp at h1
     | islE => simp at h1
     | isl => rfl
    subst hnl
    have e1 : aOp P G (mu o) rd.isSome A a.eval o = some [.val (.iptr v) A] := by
     simp only [aOp, hop, hx, hn, aIndexAddr, aVal, ht, h1, hsz, h3, if_neg (show ¬ n < 0 by omega), if_true, Option.map_some]
    obtain ⟨r', h5, h6⟩ := RRel_sem hi he hf hr e1
    obtain rfl := List.mem_singleton.1 h5
    exact h6
   ·exact h2.elim
  ·rename_i y kk n len e _ hn ht
   obtain ⟨j, rfl, h2⟩ := arrK_elim hk
   refine gen ?_
   simp only [aOp, hop, hn]
   exact h2
  ·exact gen hk
 ·rename_i t x i hop
  split at hk
  ·rename_i s k n hx hn ht
   obtain ⟨h0, c, h1, h2⟩ := hk
   refine one ?_ h2
   simp only [aOp, hop, hx, hn, aIndex, aVal, ht, h1, if_neg (show ¬ n < 0 by omega), Option.map_some]
  ·rename_i y kk n len e _ hn ht
   obtain ⟨j, rfl, h2⟩ := arrK_elim hk
   refine gen ?_
   simp only [aOp, hop, hn]
   exact h2
  ·exact gen hk
 ·rename_i op t x y z hop
  split at hk
  ·rename_i k p k' q hx hy
   obtain ⟨rfl, h1, h2⟩ := hk
   refine one ?_ h2
   simp only [aOp, hop, aBin, aGuard, hx, hy, aInt, aVal, if_neg h1, if_true, Option.map_some]
  ·rename_i k p k' q hx hy
   obtain ⟨rfl, h1, h2⟩ := hk
   refine one ?_ h2
   simp only [aOp, hop, aBin, aGuard, hx, hy, aInt, aVal, if_neg h1, if_true, Option.map_some]
  ·rename_i p q hx hy
   obtain ⟨h1, h2⟩ := hk
   refine one ?_ h2
   simp only [aOp, hop, aBin, aGuard, hx, hy, aStr, aVal, if_neg (show ¬ ((p.length + q.length : Nat) : Int) > IntKind.i64.max by omega), if_true, Option.map_some]
  ·exact gen hk
 ·rename_i t x lo hi mx hop
  split at hk
  ·rename_i s hx ht
   obtain ⟨l, h1, hk⟩ := bndK_elim hk
   obtain ⟨h, h2, ⟨h3, h4⟩, hk⟩ := bndK_elim hk
   refine one ?_ hk
   simp only [aOp, hop, hx, Option.map_none, aSliceW_str ht h1 h2 h3 h4, aVal, Option.map_some]
  ·rename_i nl off xs e hx ht
   obtain ⟨l, h1, hk⟩ := bndK_elim hk
   obtain ⟨h, h2, ⟨h3, h4⟩, hk⟩ := bndK_elim hk
   split at hk
   ·rename_i k hs
    refine ⟨_, hk.2, ?_, .inl ⟨_, rfl⟩⟩
    intro S w b ro hi' he hf hr
    have hv := he x (by rw [hop]; simp [Op.operands])
    rw [hx] at hv
    have hn : nl = true → xs = [] := by
     rintro rfl
     generalize b.eval x = u at hv
     cases hv <;> rfl
    have e1 : aOp P G (mu o) rd.isSome A a.eval o = some [.val (.isl nl none (off + l) ((xs.drop l).take (h - l))) A] := by
     simp only [aOp, hop, hx, Option.map_none, aSliceW_isl ht hn hs h1 h2 h3 h4 hk.1, aVal, Option.map_some]
    obtain ⟨r', h5, h6⟩ := RRel_sem hi' he hf hr e1
    obtain rfl := List.mem_singleton.1 h5
    exact h6
   ·exact hk.elim
  ·exact gen hk
 ·rename_i t m i ok hop
  split at hk
  ·rename_i b kt e hm ht
   split at hk
   ·rename_i d es clock z hd hb hz
    rcases tfR_elim hk with ⟨hs, hk⟩ | ⟨_, hk⟩
    ·rw [nthR_eq] at hb
     obtain ⟨v, h1, h2⟩ := lookK_elim hk hs ht hz hb
     refine one ?_ h2
     simp only [aOp, hop, hm, h1, aVal, Option.map_some]
    ·exact hk.elim
   ·exact gen hk
  ·exact gen hk
 ·rename_i t m i x hop
  split at hk
  ·rename_i b kt e hm ht
   split at hk
   ·rename_i d es clock hd hb
    rcases tfR_elim hk with ⟨hs, hk⟩ | ⟨_, hk⟩
    ·rw [nthR_eq] at hb
     obtain ⟨A', h1, h2⟩ := updK_elim hk hs ht hb
     refine gen ?_
     have e : aOp P G (mu o) rd.isSome A a.eval o = some [.val .top A'] := by
      simp only [aOp, hop, hm, h1, aEff, Option.map_some]
     rw [e]
     exact h2
    ·exact hk.elim
   ·exact gen hk
  ·exact gen hk
 ·rename_i c hop
  split at hk
  ·rename_i x y hcal hargs
   split at hk
   ·rename_i nl fam off xs b2 f2 o2 ys hmu hx hy
    obtain ⟨v, A', h1, h2⟩ := appK_elim hk b2 f2 o2
    refine gen ?_
    have e : aOp P G (mu o) rd.isSome A a.eval o = some [.val v A'] := by
     simp only [aOp, hop, aCall, hcal, hargs, hmu, hx, hy, AV.isRow, Bool.or_self, Bool.false_eq_true, if_false, h1, Option.map_some]
    rw [e]
    exact h2
   ·exact gen hk
  ·exact gen hk
 ·exact gen hk
theorem OpR.alike {rd : Option Nat} {a a' : AAct} {A : AH} {ops : Array Oper} {o : Oper} {r : AR} (h : OpR P G rd a A o r) (ha : Alike ops o a a') : OpR P G rd a' A o r := by
 intro S w b ro hi he hf hr
 refine h S w b ro hi (fun x hx => by rw [ha.1 x hx]; exact he x hx) ?_ hr
 intro t ht hn
 have := ha.1 (.tmp t) (by simpa using ht)
 have h2 : a.get t = a'.get t := this
 rw [h2]; exact hf t ht hn
theorem aWanted_alike {ops : Array Oper} {a a' : AAct} {o : Oper} (h : Alike ops o a a') : aWanted ops a o = aWanted ops a' o := by
 unfold aWanted
 cases hg : o.guard with
 | none => rfl
 | some p =>
  obtain ⟨j, want⟩ := p
  simp only
  have : aYielded ops a j = aYielded ops a' j := by
   unfold aYielded
   cases hd : (ops[j]?).bind (·.dst) with
   | none => rfl
   | some t =>
    have := h.2 (j, want) hg t hd
    simp only [this]
  rw [this]
theorem ARel.fits {S : Sh} {a : AAct} {b : Act} (h : ARel S a b) (o : Oper) : a.fits o b.tmps.size := by
 intro t _ ht
 have hl := h.tmps.length
 unfold AAct.get
 rw [nthR_eq, List.getElem?_eq_none (by simp at hl; omega)]
 rfl
def QuietJ (P : Program) (G : Gl) (f : FuncId) (args : List AV) (v : AV) : Prop := ∀ A, FuncJ P G f args A fun o => o = ⟨.returned v, A⟩
def QuietO (P : Program) (G : Gl) (rd : Option Nat) (ops : Array Oper) (o : Oper) (a : AAct) (H : AH) (v : AV) : Prop :=
 ∃ t, aWanted ops a o = some t ∧ match t with
  | false => v = .tup []
  | true => OpR P G rd a H o (.val v H) ∨ ∃ f args, OpR P G rd a H o (.enter f args H) ∧ QuietJ P G f args v
def LoudO (P : Program) (G : Gl) (rd : Option Nat) (ops : Array Oper) (o : Oper) (a : AAct) (H : AH) (v : AV) (H' : AH) : Prop :=
 aWanted ops a o = some true ∧ (OpR P G rd a H o (.val v H') ∨ ∃ f args, OpR P G rd a H o (.enter f args H) ∧ FuncJ P G f args H fun o => o = ⟨.returned v, H'⟩)
theorem QuietO.alike {rd : Option Nat} {ops : Array Oper} {o : Oper} {a a' : AAct} {H : AH} {v : AV} (h : QuietO P G rd ops o a H v) (ha : Alike ops o a a') : QuietO P G rd ops o a' H v := by
 obtain ⟨t, h1, h2⟩ := h
 refine ⟨t, by rw [← aWanted_alike ha]; exact h1, ?_⟩
 cases t with
 | false => exact h2
 | true =>
  rcases h2 with h2 | ⟨f, args, h3, h4⟩
  ·exact .inl (h2.alike ha)
  ·exact .inr ⟨f, args, h3.alike ha, h4⟩
theorem LoudO.alike {rd : Option Nat} {ops : Array Oper} {o : Oper} {a a' : AAct} {H H' : AH} {v : AV} (h : LoudO P G rd ops o a H v H') (ha : Alike ops o a a') : LoudO P G rd ops o a' H v H' := by
 obtain ⟨h1, h2⟩ := h
 refine ⟨by rw [← aWanted_alike ha]; exact h1, ?_⟩
 rcases h2 with h2 | ⟨f, args, h3, h4⟩
 ·exact .inl (h2.alike ha)
 ·exact .inr ⟨f, args, h3.alike ha, h4⟩
theorem call_op {f : FuncId} {H : AH} {K' : Act → World → Prop} {Q : Exit → Act → World → Prop} {S : Sh} {A : AH} {w w1 : World} {b : Act} {dst : Option Tmp} {v : AV} {S1 : Sh} {A1 : AH} {vs : Array Value} {ro : Option Nat}
  (hc : CallsIn Fence.wide 0 P f vs w1 (FinPR G S1 A1 w1 fun o => o = ⟨.returned v, H⟩)) (hf : Fr S A w S1 A1 w1) (hk : ∀ S' u w', Inv G S' H w' → Fr S A w S' H w' → VRel S' v u → K' (b.put dst u) w') :
  CallsIn (fen ro) (0 - 1) P f vs w1 (fun
   | .returned v, w'' => K' (b.put dst v) w''
   | .panicked chain, w'' => Q (.panic chain) b w''
   | .outgrown, _ => LetsOut Q) := by
 refine CallsIn.mono (R := FinPR G S1 A1 w1 _) hc ?_
 rintro e w'' ⟨y, rfl, S2, i2, f2, e2⟩
 cases e2 with
 | returned _ u hu => exact hk S2 u w'' i2 (hf.trans f2) hu
theorem QuietO_ok {rd ro : Option Nat} {ops : Array Oper} {o : Oper} {a : AAct} {H : AH} {v : AV} (h : QuietO P G rd ops o a H v) {S : Sh} {w : World} {b : Act} (hi : Inv G S H w) (hab : ARel S a b) (hr : RdRel S rd ro) {i : Nat} (ho : ops[i]? = some o)
  {Q : Exit → Act → World → Prop} {K : Act → World → Prop} (hK : ∀ S' u w', Inv G S' H w' → Fr S H w S' H w' → VRel S' v u → K (b.put o.dst u) w') : wpOpIn (fen ro) 0 P ops Q i K b w := by
 unfold wpOpIn
 rw [ho]
 simp only
 obtain ⟨t, h1, h2⟩ := h
 rw [aWanted_ok hab h1]
 have hround : (fen ro).round = ro := rfl
 cases t with
 | false =>
  simp only at h2
  subst h2
  simp only [Bool.false_eq_true, if_false]
  exact ⟨fun _ _ => trivial, hK S undef w hi (Fr.refl S H w) (undef_rel S)⟩
 | true =>
  simp only [if_true]
  refine ⟨fun _ _ => trivial, ?_⟩
  rw [hround]
  rcases h2 with h2 | ⟨f, args, h3, h4⟩
  ·have hr2 := h2 S w b ro hi (hab.ops o) (hab.fits o) hr
   generalize (o.semAt ro b.eval).run P w = res at hr2
   cases res with
   | halt y w' => exact hr2.elim
   | ok y w' =>
    cases y <;> first
     | exact hr2.elim
     | (obtain ⟨S', i', f', v'⟩ := hr2
        exact hK S' _ w' i' f' v')
  ·have hr2 := h3 S w b ro hi (hab.ops o) (hab.fits o) hr
   generalize (o.semAt ro b.eval).run P w = res at hr2
   cases res with
   | halt y w' => exact hr2.elim
   | ok y w' =>
    cases y <;> first
     | exact hr2.elim
     | skip
    rename_i g vs
    obtain ⟨rfl, S', i', f', v'⟩ := hr2
    refine ⟨(fun h => by simp [fen, Fence.wide] at h), ?_⟩
    exact call_op (h4 H S' w' vs.toList i' v') f' hK
theorem LoudO_ok {rd ro : Option Nat} {ops : Array Oper} {o : Oper} {a : AAct} {H H' : AH} {v : AV} (h : LoudO P G rd ops o a H v H') {S : Sh} {w : World} {b : Act} (hi : Inv G S H w) (hab : ARel S a b) (hr : RdRel S rd ro) {i : Nat} (ho : ops[i]? = some o)
  {Q : Exit → Act → World → Prop} {K : Act → World → Prop} (hK : ∀ S' u w', Inv G S' H' w' → Fr S H w S' H' w' → VRel S' v u → K (b.put o.dst u) w') : wpOpIn (fen ro) 0 P ops Q i K b w := by
 unfold wpOpIn
 rw [ho]
 simp only
 obtain ⟨h1, h2⟩ := h
 rw [aWanted_ok hab h1]
 have hround : (fen ro).round = ro := rfl
 simp only [if_true]
 refine ⟨fun _ _ => trivial, ?_⟩
 rw [hround]
 rcases h2 with h2 | ⟨f, args, h3, h4⟩
 ·have hr2 := h2 S w b ro hi (hab.ops o) (hab.fits o) hr
  generalize (o.semAt ro b.eval).run P w = res at hr2
  cases res with
  | halt y w' => exact hr2.elim
  | ok y w' =>
   cases y <;> first
    | exact hr2.elim
    | (obtain ⟨S', i', f', v'⟩ := hr2
       exact hK S' _ w' i' f' v')
 ·have hr2 := h3 S w b ro hi (hab.ops o) (hab.fits o) hr
  generalize (o.semAt ro b.eval).run P w = res at hr2
  cases res with
  | halt y w' => exact hr2.elim
  | ok y w' =>
   cases y <;> first
    | exact hr2.elim
    | skip
   rename_i g vs
   obtain ⟨rfl, S', i', f', v'⟩ := hr2
   refine ⟨(fun h => by simp [fen, Fence.wide] at h), ?_⟩
   exact call_op (h4 S' w' vs.toList i' v') f' hK
end
end Go.Am
end
section
noncomputable section
namespace Go.Am
open Go
structure Hooks where
 quiet : FuncId → Option (List AV → (AV → Prop) → Prop)
 heap : FuncId → Option (List AV → AH → (AFin → Prop) → Prop)
 loop : Code → Option (Option Nat → AAct → AH → (AOut → Prop) → Prop)
 round : Option (Nat → List AV → AH → (AFin → Prop) → Prop)
structure Hooks.Ok (P : Program) (G : Gl) (h : Hooks) : Prop where
 quiet : ∀ f s args K, h.quiet f = some s → s args K → ∃ v, QuietJ P G f args v ∧ K v
 heap : ∀ f s args A K, h.heap f = some s → s args A K → ∃ o, FuncJ P G f args A (fun o' => o' = o) ∧ K o
 loop : ∀ c s rd a A K, h.loop c = some s → s rd a A K → LoopJ P G rd c a A K
 round : ∀ s l args A K, h.round = some s → s l args A K → RoundJ P G l args A K
structure DEnt where
 a : AAct
 v : AV
 loud : Bool
section
variable (P : Program) (G : Gl) (el : Els) (mu : Oper → Bool) (hk : Hooks) (m : Rm) (rd : Option Nat) (ops : Array Oper)
def dTurn (o : Oper) (K : AV → Option AH → Prop) (KP : AChain → AH → Prop) : AR → Prop
 | .val v A' => tfR (quietOp o.op) (K v none) (K v (some A'))
 | .enter f args A' =>
  match hk.quiet f with
  | some s => s args fun v => K v none
  | none =>
   match hk.heap f with
   | some s => s args A' fun x => match x.e with | .returned v => K v (some x.A) | .panicked c => KP c x.A
   | none => False
 | _ => False
def noPan (_ : AChain) (_ : AH) : Prop := False
def dOp (o : Oper) (a : AAct) (A : AH) (K : AAct → AV → Option AH → Prop) (KP : AChain → AH → Prop) : Prop :=
 wantedK ops a o fun a t =>
  match t with
  | false => K a (.tup []) none
  | true =>
   match o.op with
   | .next .. => False
   | .buildSlice t (n + 1) ps => optR (aBuildSliceQ P t (n + 1) (aParts a.eval ps)) fun v => K a v none
   | _ => opK P G el mu rd.isSome A a.eval o (dTurn hk o (K a) KP)
def zeroOk (o : Oper) : Bool := match o.op with | .alloc t => (tZero P t).isSome | _ => false
def dPan (p q : Nat) : List Oper → Nat → AAct → AH → Prop → Prop
 | [], _, _, _, R => R
 | o :: rest, i, a, A, R =>
  tfR (isFloat ops p i o) (tfR (zeroOk P o) (dPan p q rest (i + 1) (a.put o.dst .top) A R) False)
   (tfR (bef ops i q) (dPan p q rest (i + 1) (a.put o.dst .top) A R)
    (dOp P G el mu hk rd ops o a A (fun a v ho => match ho with | none => dPan p q rest (i + 1) (a.put o.dst v) A R | some _ => False) noPan))
def dPre (p : Nat) (KP : AChain → AH → Prop) : List Oper → Nat → AAct → AH → Bool → (List DEnt → List AH → AAct → Prop) → Prop
 | [], _, a, _, _, K => K [] [] a
 | o :: rest, i, a, A, fl, K =>
  tfR (isFloat ops p i o)
   (dPre p KP rest (i + 1) (a.put o.dst .top) A (fl && zeroOk P o) fun ds hs af => K (⟨a, .top, false⟩ :: ds) hs af)
   (dOp P G el mu hk rd ops o a A (fun a v ho =>
    match ho with
    | none => dPre p KP rest (i + 1) (a.put o.dst v) A fl fun ds hs af => K (⟨a, v, false⟩ :: ds) hs af
    | some A' => dPre p KP rest (i + 1) (a.put o.dst v) A' false fun ds hs af => K (⟨a, v, true⟩ :: ds) (A' :: hs) af)
    (fun c A' => tfR fl (dPan P G el mu hk rd ops p i rest (i + 1) (a.put o.dst .top) A (KP c A')) False))
def AAct.forget (l : List Oper) (a : AAct) : AAct := l.foldl (fun a o => a.put o.dst .top) a
def sameQ (v0 : AV) (_ : AAct) (v : AV) : Option AH → Prop
 | none => v = v0
 | some _ => False
def winHs (o : Oper) (d : DEnt) (cur : Nat) : List AH → Nat → Prop → Prop
 | [], _, R => R
 | H :: l, c, R => tfR (c == cur) (winHs o d cur l (c + 1) R) (dOp P G el mu hk rd ops o d.a H (sameQ d.v) noPan ∧ winHs o d cur l (c + 1) R)
def winK (p : Nat) (I : List Nat) (Hs : List AH) : List Oper → List DEnt → Nat → Prop → Prop
 | o :: rest, d :: ds, i, R =>
  tfR (d.loud || isFloat ops p i o || decide (cntI (fun j => !bef ops j i) I ≤ cntI (bef ops i) I)) (winK p I Hs rest ds (i + 1) R)
   (winHs P G el mu hk rd ops o d (cntI (fun j => decide (j < i)) I) ((Hs.drop (cntI (bef ops i) I)).take (cntI (fun j => !bef ops j i) I + 1 - cntI (bef ops i) I)) (cntI (bef ops i) I) (winK p I Hs rest ds (i + 1) R))
 | _, _, _, R => R
def drawK (a : AAct) (A : AH) (K : AOut → Prop) : Prop :=
 let p := tailStart ops ops.size
 let pre := ops.toList.take p
 dPre P G el mu hk rd ops p (fun c A' => tfR (drawS ops) (K ⟨.panic c, a.forget pre, A'⟩) False) pre 0 a A true fun ds hs af =>
  let I := idxs (ds.map (·.loud)) 0
  tfR (drawS ops && drawI ops I) (winK P G el mu hk rd ops p I (A :: hs) pre ds 0 (optR (adoptAll P ops p pre 0 af (hs.getLastD A)) fun x => m.ops rd ops (ops.toList.drop p) x.1 x.2 K)) False
end
section
variable {P : Program} {G : Gl} {el : Els} {mu : Oper → Bool} {hk : Hooks} {m : Rm} {rd : Option Nat} {ops : Array Oper}
def FactO (P : Program) (G : Gl) (rd : Option Nat) (ops : Array Oper) (o : Oper) (a : AAct) (A : AH) (v : AV) : Option AH → Prop
 | none => QuietO P G rd ops o a A v
 | some A' => LoudO P G rd ops o a A v A'
def PanO (P : Program) (G : Gl) (rd : Option Nat) (ops : Array Oper) (o : Oper) (a : AAct) (H : AH) (c : AChain) (H' : AH) : Prop :=
 aWanted ops a o = some true ∧ ∃ f args, OpR P G rd a H o (.enter f args H) ∧ FuncJ P G f args H fun o => o = ⟨.panicked c, H'⟩
theorem PanO.alike {o : Oper} {a a' : AAct} {H H' : AH} {c : AChain} (h : PanO P G rd ops o a H c H') (ha : Alike ops o a a') : PanO P G rd ops o a' H c H' := by
 obtain ⟨h1, f, args, h3, h4⟩ := h
 exact ⟨by rw [← aWanted_alike ha]; exact h1, f, args, h3.alike ha, h4⟩
theorem PanO_ok {ro : Option Nat} {o : Oper} {a a2 : AAct} {A H H' : AH} {c : AChain} (h : PanO P G rd ops o a H c H') {S0 S : Sh} {w0 w : World} {b : Act} (hi : Inv G S H w) (hf : Fr S0 A w0 S H w) (hab : ARel S a b) (hab2 : ARel S a2 b) (hr : RdRel S rd ro) {i : Nat} (ho : ops[i]? = some o)
  {K : AOut → Prop} {K' : Act → World → Prop} (hK : K ⟨.panic c, a2, H'⟩) : wpOpIn (fen ro) 0 P ops (OutPR G S0 A w0 K) i K' b w := by
 unfold wpOpIn
 rw [ho]
 simp only
 obtain ⟨h1, f, args, h3, h4⟩ := h
 rw [aWanted_ok hab h1]
 have hround : (fen ro).round = ro := rfl
 simp only [if_true]
 refine ⟨fun _ _ => trivial, ?_⟩
 rw [hround]
 have hr2 := h3 S w b ro hi (hab.ops o) (hab.fits o) hr
 generalize (o.semAt ro b.eval).run P w = res at hr2
 cases res with
 | halt y w' => exact hr2.elim
 | ok y w' =>
  cases y <;> first
   | exact hr2.elim
   | skip
  rename_i g vs
  obtain ⟨rfl, S', i', f', v'⟩ := hr2
  refine ⟨(fun h => by simp [fen, Fence.wide] at h), ?_⟩
  refine CallsIn.mono (R := FinPR G S' H w' _) (h4 S' w' vs.toList i' v') ?_
  rintro e w'' ⟨y, rfl, S2, i2, f2, e2⟩
  cases e2 with
  | panicked _ d hc =>
   have f3 := f'.trans f2
   exact ⟨_, hK, S2, i2, hf.trans f3, hab2.mono f3.le, .panic _ _ hc⟩
theorem dOp_elim (hh : Hooks.Ok P G hk) {o : Oper} {a : AAct} {A : AH} {K : AAct → AV → Option AH → Prop} {KP : AChain → AH → Prop} (h : dOp P G el mu hk rd ops o a A K KP) : (∃ v ho, FactO P G rd ops o a A v ho ∧ K a v ho) ∨ ∃ c A', PanO P G rd ops o a A c A' ∧ KP c A' := by
 unfold dOp at h
 obtain ⟨t, hw, h⟩ := wantedK_elim h
 split at h
 ·exact .inl ⟨_, none, ⟨false, hw, rfl⟩, h⟩
 ·split at h
  ·exact h.elim
  ·rename_i t n ps hop
   obtain ⟨v, h1, h2⟩ := optR_elim h
   refine .inl ⟨v, none, ⟨true, hw, .inl ?_⟩, h2⟩
   intro S w b ro hi he hf hr
   have hnd : ∀ c, o.op ≠ .defer c := by intro c hc; rw [hop] at hc; cases hc
   rw [Oper.semAt_eq _ _ _ hnd]
   simp only [execOp, hop]
   have hparts : PRel S (aParts a.eval ps) (ps.map fun p => (p.1, b.eval p.2)).toList := by
    have h3 : aParts a.eval ps = aParts (maskA o a b.tmps.size).eval ps := parts_congr fun p hp => (mask_eval hf (by rw [hop]; simp [Op.operands]; exact ⟨p.1, by simpa using hp⟩)).symm
    rw [h3]
    have := (mask_rel he).parts ps.toList
    have hev : ({ b with defers := [] } : Act).eval = b.eval := by funext x; cases x <;> rfl
    rw [hev] at this
    simpa [aParts] using this
   obtain ⟨u, w', S', r1, r2, r3, r4⟩ := aBuildSliceQ_ok hi h1 (ps := ps.map fun p => (p.1, b.eval p.2)) hparts
   simp only [Sem.run_bind, r1, Result.andThen_ok, Sem.run_pure]
   exact ⟨S', r2, r3, r4⟩
  ·rename_i hnn _
   have hone : oneOp o.op = true := by
    cases hop : o.op <;> first
     | rfl
     | exact absurd hop (by intro hc; exact hnn _ _ hc)
   obtain ⟨r, h1, h2, h3⟩ := opK_det hone h
   cases r with
   | val v A' =>
    simp only [dTurn] at h1
    rcases tfR_elim h1 with ⟨hq, h4⟩ | ⟨hq, h4⟩
    ·have hA : A' = A := by
      rcases h3 with ⟨v', e⟩ | e
      ·cases e; rfl
      ·exact quiet_same hq e
     subst hA
     exact .inl ⟨v, none, ⟨true, hw, .inl h2⟩, h4⟩
    ·exact .inl ⟨v, some A', ⟨hw, .inl h2⟩, h4⟩
   | enter f args A' =>
    have hA : A' = A := by
     rcases h3 with ⟨v', e⟩ | e
     ·cases e
     ·exact enter_same e
    subst hA
    simp only [dTurn] at h1
    split at h1
    ·rename_i s hs
     obtain ⟨v, h4, h5⟩ := hh.quiet f s args _ hs h1
     exact .inl ⟨v, none, ⟨true, hw, .inr ⟨f, args, h2, h4⟩⟩, h5⟩
    ·split at h1
     ·rename_i s hs
      obtain ⟨x, h4, h5⟩ := hh.heap f s args _ _ hs h1
      obtain ⟨e, A2⟩ := x
      cases e with
      | returned v => exact .inl ⟨v, some A2, ⟨hw, .inr ⟨f, args, h2, h4⟩⟩, h5⟩
      | panicked c => exact .inr ⟨c, A2, ⟨hw, f, args, h2, h4⟩, h5⟩
     ·exact h1.elim
   | _ => exact h1.elim
end
end Go.Am
end
section
noncomputable section
namespace Go.Am
open Go
section
variable {P : Program} {G : Gl} {el : Els} {mu : Oper → Bool} {hk : Hooks} {m : Rm} {rd : Option Nat} {ops : Array Oper}
def dR (ds : List DEnt) : List (AV × Bool) := ds.map fun d => (d.v, d.loud)
theorem dR_louds (ds : List DEnt) : (dR ds).map (·.2) = ds.map (·.loud) := by simp [dR]
theorem Alike.symm {o : Oper} {a a' : AAct} (h : Alike ops o a a') : Alike ops o a' a := ⟨fun x hx => (h.1 x hx).symm, fun p hp t ht => (h.2 p hp t ht).symm⟩
def PanD (P : Program) (G : Gl) (rd : Option Nat) (ops : Array Oper) (p : Nat) (l : List Oper) (rs : List (AV × Bool)) (k q : Nat) (a : AAct) (A : AH) (i : Nat) (o : Oper) : Prop :=
 bef ops (k + i) q = true ∨ (∃ v, rs[i]? = some (v, false) ∧ QuietO P G rd ops o (actF (zipR l rs) 0 (fun j => decide (j < i)) a) A v) ∨ ((isFloat ops p (k + i) o = true ∧ zeroOk P o = true) ∧ rs[i]? = some (.top, false))
theorem PanD.succ {p : Nat} {l : List Oper} {rs : List (AV × Bool)} {k q : Nat} {a : AAct} {A : AH} {i : Nat} {o o0 : Oper} {v : AV} (h : PanD P G rd ops p l rs (k + 1) q (a.put o0.dst v) A i o) : PanD P G rd ops p (o0 :: l) ((v, false) :: rs) k q a A (i + 1) o := by
 have e : k + (i + 1) = k + 1 + i := by omega
 unfold PanD at h ⊢
 rw [e]
 rcases h with h | ⟨u, h1, h2⟩ | ⟨h1, h2⟩
 ·exact .inl h
 ·refine .inr (.inl ⟨u, by simpa using h1, ?_⟩)
  simp only [zipR, actF, Nat.zero_lt_succ, decide_true, if_true]
  rw [actF_shift, lt_succ_fun]
  exact h2
 ·exact .inr (.inr ⟨h1, by simpa using h2⟩)
def PanC (P : Program) (G : Gl) (rd : Option Nat) (ops : Array Oper) (p : Nat) (l : List Oper) (k : Nat) (a : AAct) (A : AH) (KP : AChain → AH → Prop) : Prop :=
 ∃ q c A' oq, l[q]? = some oq ∧ KP c A' ∧ ∃ rs : List (AV × Bool), rs.length = l.length ∧ PanO P G rd ops oq (actF (zipR l rs) 0 (fun j => decide (j < q)) a) A c A' ∧
  ∀ i o, l[i]? = some o → i ≠ q → PanD P G rd ops p l rs k (k + q) a A i o
theorem dPan_elim (hh : Hooks.Ok P G hk) {p q : Nat} : ∀ (l : List Oper) (k : Nat) (a : AAct) (A : AH) (R : Prop), dPan P G el mu hk rd ops p q l k a A R →
  R ∧ ∃ rs : List (AV × Bool), rs.length = l.length ∧ ∀ i o, l[i]? = some o → PanD P G rd ops p l rs k q a A i o
 | [], k, a, A, R, h => ⟨h, [], rfl, fun i o ho => by simp at ho⟩
 | o :: l, k, a, A, R, h => by
  simp only [dPan] at h
  have step : ∀ (v : AV), (bef ops k q = true ∨ QuietO P G rd ops o a A v ∨ ((isFloat ops p k o = true ∧ zeroOk P o = true) ∧ v = .top)) → dPan P G el mu hk rd ops p q l (k + 1) (a.put o.dst v) A R →
    R ∧ ∃ rs : List (AV × Bool), rs.length = (o :: l).length ∧ ∀ i o', (o :: l)[i]? = some o' → PanD P G rd ops p (o :: l) rs k q a A i o' := by
   intro v h0 h
   obtain ⟨hR, rs, h1, h2⟩ := dPan_elim hh l _ _ _ _ h
   refine ⟨hR, (v, false) :: rs, by simp [h1], fun i o' ho => ?_⟩
   cases i with
   | zero =>
    simp at ho; subst ho
    rcases h0 with h0 | h0 | ⟨h0, rfl⟩
    ·exact .inl h0
    ·refine .inr (.inl ⟨v, rfl, ?_⟩)
     rw [actF_none _ _ _ _ (fun j => by simp)]; exact h0
    ·exact .inr (.inr ⟨h0, rfl⟩)
   | succ i => exact (h2 i o' (by simpa using ho)).succ
  rcases tfR_elim h with ⟨hf, h⟩ | ⟨_, h⟩
  ·rcases tfR_elim h with ⟨hz, h⟩ | ⟨_, h⟩
   ·exact step .top (.inr (.inr ⟨⟨hf, hz⟩, rfl⟩)) h
   ·exact h.elim
  ·rcases tfR_elim h with ⟨hb, h⟩ | ⟨_, h⟩
   ·exact step .top (.inl hb) h
   ·rcases dOp_elim hh h with ⟨v, ho, h1, h2⟩ | ⟨c, A', _, h1⟩
    ·cases ho with
     | none => exact step v (.inr (.inl h1)) h2
     | some A' => exact h2.elim
    ·exact h1.elim
theorem dPre_elim (hh : Hooks.Ok P G hk) {p : Nat} {KP : AChain → AH → Prop} : ∀ (l : List Oper) (k : Nat) (a : AAct) (A : AH) (fl : Bool) (K : List DEnt → List AH → AAct → Prop), dPre P G el mu hk rd ops p KP l k a A fl K →
  (∃ ds hs af, K ds hs af ∧ ds.length = l.length ∧ af = actF (zipR l (dR ds)) 0 (fun _ => true) a ∧ (A :: hs)[cntF (ds.map (·.loud)) 0 fun _ => true]? = some (hs.getLastD A) ∧
   ∀ i o, l[i]? = some o → ∃ d H, ds[i]? = some d ∧ (A :: hs)[cntF (ds.map (·.loud)) 0 fun j => decide (j < i)]? = some H ∧
    (isFloat ops p (k + i) o = true → d.loud = false ∧ d.v = .top) ∧
    (isFloat ops p (k + i) o = false → d.a = actF (zipR l (dR ds)) 0 (fun j => decide (j < i)) a ∧
     (d.loud = false → QuietO P G rd ops o d.a H d.v) ∧
     (d.loud = true → ∃ A', (A :: hs)[(cntF (ds.map (·.loud)) 0 fun j => decide (j < i)) + 1]? = some A' ∧ LoudO P G rd ops o d.a H d.v A'))) ∨
  (fl = true ∧ PanC P G rd ops p l k a A KP)
 | [], k, a, A, fl, K, h => by
  simp only [dPre] at h
  exact .inl ⟨[], [], a, h, rfl, rfl, rfl, fun i o ho => by simp at ho⟩
 | o :: l, k, a, A, fl, K, h => by
  simp only [dPre] at h
  have shift : ∀ (i : Nat), k + (i + 1) = k + 1 + i := fun i => by omega
  rcases tfR_elim h with ⟨hfl, h⟩ | ⟨hfl, h⟩
  ·rcases dPre_elim hh l _ _ _ _ _ h with ⟨ds, hs, af, h1, h2, h3, h4, h5⟩ | ⟨hf, q, c, A', oq, e1, e2, rs, e3, e4, e5⟩
   rotate_left
   ·simp only [Bool.and_eq_true] at hf
    refine .inr ⟨hf.1, q + 1, c, A', oq, by simpa using e1, e2, (.top, false) :: rs, by simp [e3], ?_, fun i o' ho hne => ?_⟩
    ·simp only [zipR, actF, Nat.zero_lt_succ, decide_true, if_true]
     rw [actF_shift, lt_succ_fun]
     exact e4
    ·cases i with
     | zero =>
      simp at ho; subst ho
      exact .inr (.inr ⟨⟨hfl, hf.2⟩, rfl⟩)
     | succ i =>
      have := e5 i o' (by simpa using ho) (by omega)
      rw [show k + (q + 1) = k + 1 + q by omega]
      exact this.succ
   refine .inl ⟨⟨a, .top, false⟩ :: ds, hs, af, h1, by simp [h2], ?_, ?_, ?_⟩
   ·simp only [dR, List.map_cons, zipR, actF, if_true]
    rw [actF_shift]; exact h3
   ·simp only [List.map_cons, cntF, Bool.false_and, Bool.false_eq_true, if_false, Nat.zero_add]
    rw [cntF_shift]; exact h4
   ·intro i o' ho
    cases i with
    | zero =>
     simp at ho; subst ho
     refine ⟨_, A, rfl, ?_, fun _ => ⟨rfl, rfl⟩, fun hf => by rw [Nat.add_zero, hfl] at hf; cases hf⟩
     rw [cntF_none _ _ _ (fun j => by simp)]; rfl
    | succ i =>
     obtain ⟨d, H, q1, q2, q3, q4⟩ := h5 i o' (by simpa using ho)
     refine ⟨d, H, by simpa using q1, ?_, by rw [shift]; exact q3, ?_⟩
     ·simp only [List.map_cons, cntF, Bool.false_and, Bool.false_eq_true, if_false, Nat.zero_add]
      rw [cntF_shift, lt_succ_fun]; exact q2
     ·rw [shift]
      intro hf
      obtain ⟨r1, r2, r3⟩ := q4 hf
      refine ⟨?_, r2, ?_⟩
      ·simp only [dR, List.map_cons, zipR, actF]
       rw [actF_shift, lt_succ_fun]
       simp only [Nat.zero_lt_succ, decide_true, if_true]
       exact r1
      ·simp only [List.map_cons, cntF, Bool.false_and, Bool.false_eq_true, if_false, Nat.zero_add]
       rw [cntF_shift, lt_succ_fun]; exact r3
  ·rcases dOp_elim hh h with ⟨v, ho, hfact, h⟩ | ⟨c, A', hfact, h⟩
   rotate_left
   ·rcases tfR_elim h with ⟨rfl, h⟩ | ⟨_, h⟩
    ·obtain ⟨hR, rs, r1, r2⟩ := dPan_elim hh _ _ _ _ _ h
     refine .inr ⟨rfl, 0, c, A', o, rfl, hR, (.top, false) :: rs, by simp [r1], ?_, fun i o' ho hne => ?_⟩
     ·rw [actF_none _ _ _ _ (fun j => by simp)]; exact hfact
     ·cases i with
      | zero => exact absurd rfl hne
      | succ i =>
       rw [Nat.add_zero]
       exact (r2 i o' (by simpa using ho)).succ
    ·exact h.elim
   cases ho with
   | none =>
    simp only at h
    rcases dPre_elim hh l _ _ _ _ _ h with ⟨ds, hs, af, h1, h2, h3, h4, h5⟩ | ⟨hf, q, c, A', oq, e1, e2, rs, e3, e4, e5⟩
    rotate_left
    ·refine .inr ⟨hf, q + 1, c, A', oq, by simpa using e1, e2, (v, false) :: rs, by simp [e3], ?_, fun i o' ho hne => ?_⟩
     ·simp only [zipR, actF, Nat.zero_lt_succ, decide_true, if_true]
      rw [actF_shift, lt_succ_fun]
      exact e4
     ·cases i with
      | zero =>
       simp at ho; subst ho
       refine .inr (.inl ⟨v, rfl, ?_⟩)
       rw [actF_none _ _ _ _ (fun j => by simp)]; exact hfact
      | succ i =>
       have := e5 i o' (by simpa using ho) (by omega)
       rw [show k + (q + 1) = k + 1 + q by omega]
       exact this.succ
    refine .inl ⟨⟨a, v, false⟩ :: ds, hs, af, h1, by simp [h2], ?_, ?_, ?_⟩
    ·simp only [dR, List.map_cons, zipR, actF, if_true]
     rw [actF_shift]; exact h3
    ·simp only [List.map_cons, cntF, Bool.false_and, Bool.false_eq_true, if_false, Nat.zero_add]
     rw [cntF_shift]; exact h4
    ·intro i o' ho
     cases i with
     | zero =>
      simp at ho; subst ho
      refine ⟨_, A, rfl, ?_, (fun hf => by rw [Nat.add_zero, hfl] at hf; cases hf), fun _ => ⟨?_, fun _ => hfact, fun hc => by cases hc⟩⟩
      ·rw [cntF_none _ _ _ (fun j => by simp)]; rfl
      ·rw [actF_none _ _ _ _ (fun j => by simp)]
     | succ i =>
      obtain ⟨d, H, q1, q2, q3, q4⟩ := h5 i o' (by simpa using ho)
      refine ⟨d, H, by simpa using q1, ?_, by rw [shift]; exact q3, ?_⟩
      ·simp only [List.map_cons, cntF, Bool.false_and, Bool.false_eq_true, if_false, Nat.zero_add]
       rw [cntF_shift, lt_succ_fun]; exact q2
      ·rw [shift]
       intro hf
       obtain ⟨r1, r2, r3⟩ := q4 hf
       refine ⟨?_, r2, ?_⟩
       ·simp only [dR, List.map_cons, zipR, actF]
        rw [actF_shift, lt_succ_fun]
        simp only [Nat.zero_lt_succ, decide_true, if_true]
        exact r1
       ·simp only [List.map_cons, cntF, Bool.false_and, Bool.false_eq_true, if_false, Nat.zero_add]
        rw [cntF_shift, lt_succ_fun]; exact r3
   | some A' =>
    simp only at h
    rcases dPre_elim hh l _ _ _ _ _ h with ⟨ds, hs, af, h1, h2, h3, h4, h5⟩ | ⟨hf, _⟩
    rotate_left
    ·cases hf
    have up : ∀ (c : Nat) (H : AH), (A' :: hs)[c]? = some H → (A :: A' :: hs)[1 + c]? = some H := fun c H hc => by
     rw [Nat.add_comm, List.getElem?_cons_succ]; exact hc
    refine .inl ⟨⟨a, v, true⟩ :: ds, A' :: hs, af, h1, by simp [h2], ?_, ?_, ?_⟩
    ·simp only [dR, List.map_cons, zipR, actF, if_true]
     rw [actF_shift]; exact h3
    ·simp only [List.map_cons, cntF, Bool.and_self, if_true]
     rw [cntF_shift]
     have := up _ _ h4
     rw [this]
     cases hs <;> rfl
    ·intro i o' ho
     cases i with
     | zero =>
      simp at ho; subst ho
      refine ⟨_, A, rfl, ?_, (fun hf => by rw [Nat.add_zero, hfl] at hf; cases hf), fun _ => ⟨?_, (fun hc => by cases hc), fun _ => ⟨A', ?_, hfact⟩⟩⟩
      ·rw [cntF_none _ _ _ (fun j => by simp)]; rfl
      ·rw [actF_none _ _ _ _ (fun j => by simp)]
      ·rw [cntF_none _ _ _ (fun j => by simp)]; rfl
     | succ i =>
      obtain ⟨d, H, q1, q2, q3, q4⟩ := h5 i o' (by simpa using ho)
      have hcnt : (cntF (((⟨a, v, true⟩ : DEnt) :: ds).map (·.loud)) 0 fun j => decide (j < i + 1)) = 1 + cntF (ds.map (·.loud)) 0 fun j => decide (j < i) := by
       simp only [List.map_cons, cntF, Bool.true_and, Nat.zero_lt_succ, decide_true, if_true]
       rw [cntF_shift, lt_succ_fun]
      refine ⟨d, H, by simpa using q1, by rw [hcnt]; exact up _ _ q2, by rw [shift]; exact q3, ?_⟩
      rw [shift]
      intro hf
      obtain ⟨r1, r2, r3⟩ := q4 hf
      refine ⟨?_, r2, ?_⟩
      ·simp only [dR, List.map_cons, zipR, actF]
       rw [actF_shift, lt_succ_fun]
       simp only [Nat.zero_lt_succ, decide_true, if_true]
       exact r1
      ·intro hl
       obtain ⟨A2, t1, t2⟩ := r3 hl
       exact ⟨A2, by rw [hcnt, Nat.add_assoc]; exact up _ _ t1, t2⟩
theorem winHs_elim (hh : Hooks.Ok P G hk) {o : Oper} {d : DEnt} {cur : Nat} : ∀ (l : List AH) (c : Nat) (R : Prop), winHs P G el mu hk rd ops o d cur l c R → R ∧ ∀ j H, l[j]? = some H → c + j ≠ cur → QuietO P G rd ops o d.a H d.v
 | [], _, R, h => ⟨h, fun j H hj => by simp at hj⟩
 | H :: l, c, R, h => by
  simp only [winHs] at h
  have key : ∀ {h' : winHs P G el mu hk rd ops o d cur l (c + 1) R}, (c ≠ cur → QuietO P G rd ops o d.a H d.v) → R ∧ ∀ j H', (H :: l)[j]? = some H' → c + j ≠ cur → QuietO P G rd ops o d.a H' d.v := by
   intro h' hq
   obtain ⟨h1, h2⟩ := winHs_elim hh l (c + 1) R h'
   refine ⟨h1, fun j H' hj hne => ?_⟩
   cases j with
   | zero => simp at hj; subst hj; exact hq hne
   | succ j => exact h2 j H' (by simpa using hj) (by omega)
  rcases tfR_elim h with ⟨hc, h⟩ | ⟨hc, h1, h2⟩
  ·simp only [beq_iff_eq] at hc
   exact key (h' := h) fun hne => absurd hc hne
  ·refine key (h' := h2) fun _ => ?_
   rcases dOp_elim hh h1 with ⟨v, ho, h3, h4⟩ | ⟨c, A', _, h4⟩
   ·cases ho with
    | none => simp only [sameQ] at h4; subst h4; exact h3
    | some A' => exact h4.elim
   ·exact h4.elim
theorem winK_elim (hh : Hooks.Ok P G hk) {p : Nat} {I : List Nat} {Hs : List AH} : ∀ (l : List Oper) (ds : List DEnt) (k : Nat) (R : Prop), winK P G el mu hk rd ops p I Hs l ds k R → R ∧
  ∀ i o d, l[i]? = some o → ds[i]? = some d → d.loud = false → isFloat ops p (k + i) o = false → ∀ c H, cntI (bef ops (k + i)) I ≤ c → c ≤ cntI (fun j => !bef ops j (k + i)) I → c ≠ cntI (fun j => decide (j < k + i)) I → Hs[c]? = some H →
   cntI (bef ops (k + i)) I < cntI (fun j => !bef ops j (k + i)) I → QuietO P G rd ops o d.a H d.v
 | [], _, _, R, h => ⟨h, fun i o d ho => by simp at ho⟩
 | o :: l, [], _, R, h => ⟨h, fun i o d _ hd => by simp at hd⟩
 | o :: l, d :: ds, k, R, h => by
  simp only [winK] at h
  have step : winK P G el mu hk rd ops p I Hs l ds (k + 1) R → (d.loud = false → isFloat ops p k o = false → ∀ c H, cntI (bef ops k) I ≤ c → c ≤ cntI (fun j => !bef ops j k) I → c ≠ cntI (fun j => decide (j < k)) I → Hs[c]? = some H →
    cntI (bef ops k) I < cntI (fun j => !bef ops j k) I → QuietO P G rd ops o d.a H d.v) →
    R ∧ ∀ i o' d', (o :: l)[i]? = some o' → (d :: ds)[i]? = some d' → d'.loud = false → isFloat ops p (k + i) o' = false → ∀ c H, cntI (bef ops (k + i)) I ≤ c → c ≤ cntI (fun j => !bef ops j (k + i)) I → c ≠ cntI (fun j => decide (j < k + i)) I → Hs[c]? = some H →
     cntI (bef ops (k + i)) I < cntI (fun j => !bef ops j (k + i)) I → QuietO P G rd ops o' d'.a H d'.v := by
   intro h' hq
   obtain ⟨h1, h2⟩ := winK_elim hh l ds (k + 1) R h'
   refine ⟨h1, fun i o' d' ho hd => ?_⟩
   cases i with
   | zero => simp at ho hd; subst ho hd; exact hq
   | succ i =>
    rw [show k + (i + 1) = k + 1 + i by omega]
    exact h2 i o' d' (by simpa using ho) (by simpa using hd)
  rcases tfR_elim h with ⟨hc, h⟩ | ⟨hc, h⟩
  ·refine step h fun hl hf c H _ _ _ _ hlt => ?_
   simp only [hl, hf, Bool.false_or, decide_eq_true_eq] at hc
   omega
  ·obtain ⟨h1, h2⟩ := winHs_elim hh _ _ _ h
   refine step h1 fun _ _ c H hlo hhi hne hH _ => ?_
   refine h2 (c - cntI (bef ops k) I) H ?_ (by omega)
   rw [List.getElem?_take, if_pos (by omega), List.getElem?_drop, show cntI (bef ops k) I + (c - cntI (bef ops k) I) = c by omega]
   exact hH
/-! ### A region that panics -/
structure Wk (a2 a1 : AAct) : Prop where
 len : a2.tmps.length = a1.tmps.length
 at_ : ∀ (t : Nat) (x : AV), a2.tmps[t]? = some x → x = .top ∨ a1.tmps[t]? = some x
 dfs : a2.defers = a1.defers
theorem Wk.refl (a : AAct) : Wk a a := ⟨rfl, fun _ _ h => .inr h, rfl⟩
theorem Wk.top {a2 a1 : AAct} (h : Wk a2 a1) (d : Option Tmp) : Wk (a2.put d .top) a1 := by
 refine ⟨by rw [put_length]; exact h.len, fun t x hx => ?_, by cases d <;> exact h.dfs⟩
 cases d with
 | none => exact h.at_ t x hx
 | some u =>
  simp only [AAct.put, setR_eq, List.getElem?_set] at hx
  split at hx
  ·split at hx
   ·cases hx; exact .inl rfl
   ·cases hx
  ·exact h.at_ t x hx
theorem Wk.both {a2 a1 : AAct} (h : Wk a2 a1) (d : Option Tmp) (v : AV) : Wk (a2.put d .top) (a1.put d v) := by
 refine ⟨by rw [put_length, put_length]; exact h.len, fun t x hx => ?_, by cases d <;> exact h.dfs⟩
 cases d with
 | none => exact h.at_ t x hx
 | some u =>
  simp only [AAct.put, setR_eq, List.getElem?_set] at hx ⊢
  split at hx
  ·split at hx
   ·cases hx; exact .inl rfl
   ·cases hx
  ·rename_i hne
   rw [if_neg hne]; exact h.at_ t x hx
theorem LRel.wk {S : Sh} : ∀ {xs ys : List AV} {vs : List Value}, LRel S xs vs → ys.length = xs.length → (∀ (t : Nat) (y : AV), ys[t]? = some y → y = .top ∨ xs[t]? = some y) → LRel S ys vs
 | _, ys, _, .nil, hl, _ => by
  obtain rfl : ys = [] := List.eq_nil_of_length_eq_zero (by simpa using hl)
  exact .nil
 | _, ys, _, .cons x xs v vs hv hl', hl, h => by
  match ys, hl with
  | y :: ys, hl =>
   refine .cons _ _ _ _ ?_ (hl'.wk (by simpa using hl) fun t z hz => by simpa using h (t + 1) z (by simpa using hz))
   rcases h 0 y rfl with rfl | h0
   ·exact .top _
   ·simp at h0; subst h0; exact hv
theorem ARel.wk {S : Sh} {a1 a2 : AAct} {b : Act} (h : ARel S a1 b) (hw : Wk a2 a1) : ARel S a2 b :=
 ⟨h.tmps.wk hw.len hw.at_, by rw [hw.dfs]; exact h.defers⟩
theorem forget_wk : ∀ (l : List Oper) (rs : List (AV × Bool)) (k : Nat) (D : Nat → Bool) {a2 a1 : AAct}, Wk a2 a1 → Wk (a2.forget l) (actF (zipR l rs) k D a1)
 | [], rs, k, D, a2, a1, h => by simpa [AAct.forget, zipR, actF] using h
 | o :: l, [], k, D, a2, a1, h => by
  simp only [AAct.forget, List.foldl_cons, zipR, actF]
  have := forget_wk l [] (k + 1) D (h.top o.dst)
  cases l <;> simpa [AAct.forget, zipR, actF] using this
 | o :: l, (v, c) :: rs, k, D, a2, a1, h => by
  simp only [AAct.forget, List.foldl_cons, zipR, actF]
  refine forget_wk l rs (k + 1) D ?_
  split
  ·exact h.both o.dst v
  ·exact h.top o.dst
theorem drawP_ok (hmix : P.follows .mixedOrders = true) {a : AAct} {A : AH} {K : AOut → Prop} {p : Nat} (hp : p ≤ ops.size) (htail : ∀ j, p ≤ j → j < ops.size → ∀ i, i < j → bef ops j i = true) (hS : drawS ops = true)
  (hx : PanC P G rd ops p (ops.toList.take p) 0 a A fun c A' => K ⟨.panic c, a.forget (ops.toList.take p), A'⟩) (id : Nat) : CodeJ P G rd (.region id ops true) a A K := by
 intro S w b ro hi hab hr
 obtain ⟨q, c, A', oq, hq, hK, rs, hrs, hpan, hoth⟩ := hx
 obtain ⟨hlow, hnames⟩ := drawS_spec hS
 have hprel : (ops.toList.take p).length = p := by simp; omega
 have hpre : ∀ i o, i < p → ops[i]? = some o → (ops.toList.take p)[i]? = some o := by
  intro i o hip ho
  rw [List.getElem?_take, if_pos hip]; simpa using ho
 have hpre' : ∀ i o, (ops.toList.take p)[i]? = some o → i < p ∧ ops[i]? = some o := by
  intro i o ho
  rw [List.getElem?_take] at ho
  split at ho
  ·rename_i hip; exact ⟨hip, by simpa using ho⟩
  ·cases ho
 obtain ⟨hqp, hqo⟩ := hpre' q oq hq
 have hqs := (Array.getElem?_eq_some_iff.1 hqo).1
 have look : ∀ (D : Nat → Bool) (i : Nat) (o : Oper), Down .any ops D → ops[i]? = some o → D i = false → (∀ e ∈ o.after, Region.binds .any e = true → D e.on = true) →
   (∀ j, bef ops j i = true → D j = false) ∧ (∀ j, bef ops i j = true → D j = true) := by
  intro D i o hD ho hDi hr
  refine ⟨fun j hj => ?_, fun j hj => bef_ready hlow hD ho hr hj⟩
  cases hd : D j with
  | false => rfl
  | true =>
   have := bef_down hlow hD j i hd hj
   rw [hDi] at this; cases this
 let zr := zipR (ops.toList.take p) rs
 let St : (Nat → Bool) → Act → World → Prop := fun D b' w' => D q = false ∧ ∃ S', Inv G S' A w' ∧ Fr S A w S' A w' ∧ ARel S' (actF zr 0 D a) b'
 refine wpIn_region_any hmix ?_
 refine order_any St hlow ?_ ?_ ops.size _ b _ (by simp) ?_ ?_ ?_
 ·rintro D i o hD ho hDi hrdy b' w' ⟨hDq, S', iH, fH, rH⟩
  have hil := (Array.getElem?_eq_some_iff.1 ho).1
  obtain ⟨h1, h2⟩ := look D i o hD ho hDi hrdy
  have hip : i < p := by
   rcases Nat.lt_or_ge i p with h' | h'
   ·exact h'
   ·have := h2 q (htail i h' hil q (by omega))
    rw [hDq] at this; cases this
  have hol : (ops.toList.take p)[i]? = some o := hpre i o hip ho
  have hwr : ∀ j t, (ops[j]?).bind (·.dst) = some t → t ∈ namesOf ops o → D j = decide (j < i) := by
   intro j t hj ht
   by_cases hji : j = i
   ·subst hji; simp [hDi]
   ·rcases hnames i j o t ho hj hji ht with hb | hb
    ·have hlt := bef_low hlow i j hb
     rw [h2 j hb]; simp; omega
    ·have hlt := bef_low hlow j i hb
     rw [h1 j hb]; simp; omega
  have hget : ∀ t, t ∈ namesOf ops o → (actF zr 0 D a).tmps[t]? = (actF zr 0 (fun j => decide (j < i)) a).tmps[t]? := by
   intro t ht
   refine actF_get _ 0 a a rfl rfl fun j p' hp' hpt => ?_
   obtain ⟨oj, ho1, ho2⟩ := zipR_inv _ _ _ _ hp'
   rw [Nat.zero_add]
   exact hwr j t (by rw [(hpre' j oj ho1).2]; simp [ho2, hpt]) ht
  have halike : Alike ops o (actF zr 0 D a) (actF zr 0 (fun j => decide (j < i)) a) := by
   refine ⟨fun x hx => ?_, fun p' hp' t ht => ?_⟩
   ·cases x with
    | tmp t =>
     have := hget t (by
      unfold namesOf
      refine List.mem_append_left _ (List.mem_append_right _ (List.mem_filterMap.2 ⟨.tmp t, by simpa using hx, rfl⟩)))
     simp only [AAct.eval, AAct.get, nthR_eq, this]
    | const v => rfl
    | global g => rfl
    | func f => rfl
   ·refine hget t ?_
    unfold namesOf
    refine List.mem_append_right _ ?_
    rw [hp']
    obtain ⟨j, want⟩ := p'
    simp only at ht ⊢
    rw [ht]; simp
  by_cases hiq : i = q
  ·subst hiq
   obtain rfl : oq = o := Option.some.inj (hqo.symm.trans ho)
   exact PanO_ok (hpan.alike halike.symm) iH fH rH (rH.wk (forget_wk _ rs 0 D (Wk.refl a))) (hr.mono fH.le) ho hK
  ·have put : ∀ v, rs[i]? = some (v, false) → actF zr 0 (addD D i) a = (actF zr 0 D a).put o.dst v := by
    intro v hv
    have := actF_add (D := D) zr i 0 a (zipR_get _ _ _ _ _ _ hol hv) (by simpa using hDi) (fun j p' hij hp' hj => by
     intro t ht hpt
     obtain ⟨oj, ho1, ho2⟩ := zipR_inv _ _ _ _ hp'
     rw [Nat.zero_add] at hj
     have := hwr j t (by rw [(hpre' j oj ho1).2]; simp [ho2, hpt]) (by unfold namesOf; refine List.mem_append_left _ (List.mem_append_left _ ?_); rw [ht]; simp)
     rw [hj] at this
     simp at this; omega)
    simpa using this
   have stays : addD D i q = false := by
    simp only [addD, hDq, Bool.false_or, beq_eq_false_iff_ne]
    omega
   rcases hoth i o hol hiq with hb | ⟨v, hv, hqt⟩ | ⟨⟨hfl, hz⟩, hv⟩
   ·rw [Nat.zero_add, Nat.zero_add] at hb
    have := h2 q hb
    rw [hDq] at this; cases this
   ·refine QuietO_ok (hqt.alike halike.symm) iH rH (hr.mono fH.le) ho ?_
    intro S2 u w2 i2 f2 v2
    refine ⟨stays, S2, i2, fH.trans f2, ?_⟩
    rw [put v hv]
    exact (rH.mono f2.le).put _ v2
   ·obtain ⟨t, dd, hg, hop, hdst, hnm⟩ := isFloat_spec hfl
    obtain ⟨x, hzx⟩ : ∃ x, tZero P t = some x := by
     unfold zeroOk at hz
     rw [hop] at hz
     exact Option.isSome_iff_exists.1 hz
    obtain ⟨z, hxz, hrunz⟩ := run_alloc hzx w'
    have hnd : ∀ c, o.op ≠ .defer c := by intro c hc; rw [hop] at hc; cases hc
    unfold wpOpIn
    rw [ho]
    simp only
    have hwant : Region.wanted o (yielded ops b'.tmps) = true := by simp [Region.wanted, hg]
    rw [hwant]
    simp only [if_true]
    refine ⟨fun _ _ => trivial, ?_⟩
    rw [Oper.semAt_eq _ _ _ hnd]
    simp only [execOp, hop, Sem.run_bind, hrunz, Result.andThen_ok, Sem.run_pure, Oper.uponIn]
    obtain ⟨i2, f2⟩ := iH.idle (.cells ⟨z.cells.toList⟩ t (0, 0))
    refine ⟨stays, S', i2, fH.trans f2, ?_⟩
    rw [put .top hv]
    exact rH.put _ (.top _)
 ·rintro D b' w' hall ⟨hDq, _⟩
  rw [hall q hqs] at hDq; cases hDq
 ·have : ((Array.replicate ops.size false).toList.countP fun x => !x) ≤ (Array.replicate ops.size false).toList.length := List.countP_le_length
  simpa using this
 ·intro j o ho hj
  simp [inn, Array.getD_eq_getD_getElem?, Array.getElem?_replicate] at hj
  split at hj <;> simp at hj
 ·obtain ⟨i1, f1⟩ := hi.drew (w.drawn + 1)
  have hz : ∀ j, inn (Array.replicate ops.size false) j = false := by
   intro j
   simp only [inn, Array.getD_eq_getD_getElem?, Array.getElem?_replicate]
   split <;> rfl
  refine ⟨hz q, S, i1, f1, ?_⟩
  rw [actF_none _ _ _ _ hz]; exact hab
theorem drawK_ok (hm : Rm.Ok P G m) (hh : Hooks.Ok P G hk) (hmix : P.follows .mixedOrders = true) {a : AAct} {A : AH} {K : AOut → Prop} (hx : drawK P G el mu hk m rd ops a A K) (id : Nat) : CodeJ P G rd (.region id ops true) a A K := by
 intro S w b ro hi hab hr
 unfold drawK at hx
 simp only at hx
 obtain ⟨hp, htail⟩ := tail_spec (ops := ops) ops.size
 generalize tailStart ops ops.size = p at hx hp htail
 rcases dPre_elim hh _ _ _ _ _ _ hx with ⟨ds, hs, af, hx, hlen, haf, hlast, hspec⟩ | ⟨_, q, c, A', oq, e1, e2, e3⟩
 rotate_left
 ·rcases tfR_elim e2 with ⟨hS, e2⟩ | ⟨_, e2⟩
  ·exact drawP_ok hmix hp htail hS ⟨q, c, A', oq, e1, e2, e3⟩ id S w b ro hi hab hr
  ·exact e2.elim
 rcases tfR_elim hx with ⟨hc, hx⟩ | ⟨_, hx⟩
 rotate_left
 ·exact hx.elim
 obtain ⟨hx, hwin⟩ := winK_elim hh _ _ _ _ hx
 obtain ⟨aA, hadopt, hx⟩ := optR_elim hx
 obtain ⟨a2, A2⟩ := aA
 simp only at hx
 simp only [Bool.and_eq_true] at hc
 obtain ⟨hS, hL⟩ := hc
 obtain ⟨hlow, hnames⟩ := drawS_spec hS
 have hlouds : ∀ D k, cntF ((dR ds).map (·.2)) k D = cntF (ds.map (·.loud)) k D := fun D k => by rw [dR_louds]
 have hprel : (ops.toList.take p).length = p := by simp; omega
 have hrsz : ds.length = p := by rw [hlen, hprel]
 have hrsz' : (dR ds).length = p := by simp [dR, hrsz]
 have hpre : ∀ i o, i < p → ops[i]? = some o → (ops.toList.take p)[i]? = some o := by
  intro i o hip ho
  rw [List.getElem?_take, if_pos hip]; simpa using ho
 have hpre' : ∀ i o, (ops.toList.take p)[i]? = some o → i < p ∧ ops[i]? = some o := by
  intro i o ho
  rw [List.getElem?_take] at ho
  split at ho
  ·rename_i hip; exact ⟨hip, by simpa using ho⟩
  ·cases ho
 -- where an operation is at hand
 have look : ∀ (D : Nat → Bool) (i : Nat) (o : Oper), Down .any ops D → ops[i]? = some o → D i = false → (∀ e ∈ o.after, Region.binds .any e = true → D e.on = true) →
   (∀ j, bef ops i j = true → D j = true) ∧ (∀ j, D j = true → bef ops j i = false) := by
  intro D i o hD ho hDi hr
  refine ⟨fun j hj => bef_ready hlow hD ho hr hj, fun j hj => ?_⟩
  cases hb : bef ops j i with
  | false => rfl
  | true =>
   have := bef_down hlow hD j i hj hb
   rw [hDi] at this; cases this
 let zr := zipR (ops.toList.take p) (dR ds)
 let Pre : (Nat → Bool) → Act → World → Prop := fun D b' w' => ∃ S' H cf, (A :: hs)[cntF (ds.map (·.loud)) 0 D]? = some H ∧ Inv G S' H w' ∧ Fr S A w S' H w' ∧ ARel S' (actF zr 0 D a) b' ∧ Flo P ops p w.heap.size D b' w' S' H cf
 let St : (Nat → Bool) → Act → World → Prop := fun D b' w' => (∃ i0, i0 < p ∧ D i0 = false ∧ Pre D b' w') ∨
  (∃ t, (∀ j, j < p + t → j < ops.size → D j = true) ∧ (∀ j, p + t ≤ j → j < ops.size → D j = false) ∧ p + t ≤ ops.size ∧ wpListIn (fen ro) 0 P ops (OutPR G S A w K) (ops.toList.drop (p + t)) b' w')
 -- the first p are done
 have finish : ∀ (D : Nat → Bool) b' w', (∀ j, j < p → D j = true) → Pre D b' w' → wpListIn (fen ro) 0 P ops (OutPR G S A w K) (ops.toList.drop p) b' w' := by
  intro D b' w' hall ⟨S', H, cf, hH, iH, fH, rH, flo⟩
  have hDt : cntF (ds.map (·.loud)) 0 D = cntF (ds.map (·.loud)) 0 fun _ => true := Nat.le_antisymm (cntF_mono _ _ fun _ _ _ => rfl) (cntF_mono _ _ fun j hj _ => by
   rw [Nat.zero_add]
   have := (List.getElem?_eq_some_iff.1 hj).1
   exact hall j (by simp at this; omega))
  have hzl : ∀ (l : List Oper) (r : List (AV × Bool)), (zipR l r).length ≤ l.length := by
   intro l
   induction l with
   | nil => intro r; simp [zipR]
   | cons o l ih => intro r; cases r with
    | nil => simp [zipR]
    | cons x r => obtain ⟨v, b⟩ := x; simp only [zipR, List.length_cons]; have := ih r; omega
  have hAt : actF zr 0 D a = actF zr 0 (fun _ => true) a := by
   refine actF_congr _ 0 a fun j hj => ?_
   rw [Nat.zero_add]
   have hz : zr.length ≤ p := by
    show (zipR (ops.toList.take p) (dR ds)).length ≤ p
    have := hzl (ops.toList.take p) (dR ds)
    omega
   exact hall j (by omega)
  rw [hDt] at hH
  rw [hAt] at rH
  rw [hlast] at hH
  cases hH
  rw [haf] at hadopt
  obtain ⟨S2, i2, f2, r2⟩ := adopt_ok (cf := cf) (sz0 := w.heap.size) rfl _ _ _ _ _ _ hadopt (fun j o hj => by rw [Nat.zero_add]; exact (hpre' j o hj).2) (by rw [hprel]; omega) S' iH fH rH (flo.fewer fun j hj _ => hall j hj)
  exact wpListIn_mono (fun _ _ _ h => h.from f2 fun _ h => h) _ _ _ (hm.ops _ _ _ _ _ _ hx S2 w' b' ro i2 r2 (hr.mono f2.le))
 refine wpIn_region_any hmix ?_
 refine order_any St hlow ?_ ?_ ops.size _ b _ (by simp) ?_ ?_ ?_
 ·intro D i o hD ho hDi hrdy b' w' hst
  have hil := (Array.getElem?_eq_some_iff.1 ho).1
  obtain ⟨h1, h2⟩ := look D i o hD ho hDi hrdy
  rcases hst with ⟨i0, hi0, hDi0, hpre0⟩ | ⟨t, ht1, ht2, ht3, hw⟩
  ·-- one of the first p
   have hip : i < p := by
    rcases Nat.lt_or_ge i p with h' | h'
    ·exact h'
    ·have := h1 i0 (htail i h' hil i0 (by omega))
     rw [hDi0] at this; cases this
   obtain ⟨S', H, cf, hH, iH, fH, rH, flo⟩ := hpre0
   have hol : (ops.toList.take p)[i]? = some o := hpre i o hip ho
   obtain ⟨d, Hc, q1, q2, q3f, q3⟩ := hspec i o hol
   rw [Nat.zero_add] at q3f q3
   have q1' : (dR ds)[i]? = some (d.v, d.loud) := by simp [dR, q1]
   suffices hsuf : wpOpIn (fen ro) 0 P ops (OutPR G S A w K) i (Pre (addD D i)) b' w' by
    refine wpOpIn_mono ?_ hsuf
    intro b2 w2 hp2
    by_cases hex : ∃ i1, i1 < p ∧ addD D i i1 = false
    ·obtain ⟨i1, hi1, hd1⟩ := hex
     exact .inl ⟨i1, hi1, hd1, hp2⟩
    ·have hall : ∀ j, j < p → addD D i j = true := fun j hj => by
      cases hd : addD D i j with
      | true => rfl
      | false => exact absurd ⟨j, hj, hd⟩ hex
     refine .inr ⟨0, fun j hj _ => hall j (by omega), fun j hj hjs => ?_, by omega, by simpa using finish _ _ _ hall hp2⟩
     simp only [addD, Bool.or_eq_false_iff, beq_eq_false_iff_ne]
     refine ⟨?_, by omega⟩
     cases hd : D j with
     | false => rfl
     | true =>
      have := h2 j hd
      rw [htail j (by omega) hjs i (by omega)] at this; cases this
   -- whoever writes what it names
   have hwr : ∀ j t, (ops[j]?).bind (·.dst) = some t → t ∈ namesOf ops o → D j = decide (j < i) := by
    intro j t hj ht
    by_cases hji : j = i
    ·subst hji; simp [hDi]
    ·rcases hnames i j o t ho hj hji ht with hb | hb
     ·rw [h1 j hb]; simp [bef_low hlow i j hb]
     ·have hlt := bef_low hlow j i hb
      have : D j = false := by
       cases hd : D j with
       | false => rfl
       | true => rw [h2 j hd] at hb; cases hb
      rw [this]; simp; omega
   have hget : ∀ t, t ∈ namesOf ops o → (actF zr 0 D a).tmps[t]? = (actF zr 0 (fun j => decide (j < i)) a).tmps[t]? := by
    intro t ht
    refine actF_get _ 0 a a rfl rfl fun j p' hp' hpt => ?_
    obtain ⟨oj, ho1, ho2⟩ := zipR_inv _ _ _ _ hp'
    rw [Nat.zero_add]
    exact hwr j t (by rw [(hpre' j oj ho1).2]; simp [ho2, hpt]) ht
   have halike : Alike ops o (actF zr 0 D a) (actF zr 0 (fun j => decide (j < i)) a) := by
    refine ⟨fun x hx => ?_, fun p' hp' t ht => ?_⟩
    ·cases x with
     | tmp t =>
      have := hget t (by
       unfold namesOf
       refine List.mem_append_left _ (List.mem_append_right _ (List.mem_filterMap.2 ⟨.tmp t, by simpa using hx, rfl⟩)))
      simp only [AAct.eval, AAct.get, nthR_eq, this]
     | const v => rfl
     | global g => rfl
     | func f => rfl
    ·refine hget t ?_
     unfold namesOf
     refine List.mem_append_right _ ?_
     rw [hp']
     obtain ⟨j, want⟩ := p'
     simp only at ht ⊢
     rw [ht]; simp
   have hlb : (ds.map (·.loud))[i]? = some d.loud := by simp [q1]
   have hact : actF zr 0 (addD D i) a = (actF zr 0 D a).put o.dst d.v := by
    have := actF_add (D := D) zr i 0 a (zipR_get _ _ _ _ _ _ hol q1') (by simpa using hDi) (fun j p' hij hp' hj => by
     intro t ht hpt
     obtain ⟨oj, ho1, ho2⟩ := zipR_inv _ _ _ _ hp'
     rw [Nat.zero_add] at hj
     have := hwr j t (by rw [(hpre' j oj ho1).2]; simp [ho2, hpt]) (by unfold namesOf; refine List.mem_append_left _ (List.mem_append_left _ ?_); rw [ht]; simp)
     rw [hj] at this
     simp at this; omega)
    simpa using this
   have hcnt := cntF_add (D := D) (ds.map (·.loud)) i 0 hlb (by simpa using hDi)
   simp only [Nat.zero_add] at hcnt
   cases hfl : isFloat ops p i o with
   | true =>
    obtain ⟨t, dd, hg, hop, hdst, hnm⟩ := isFloat_spec hfl
    obtain ⟨x, hz⟩ := adopt_zero _ _ _ _ _ _ hadopt i o t hol (by rw [Nat.zero_add]; exact hfl) hop
    obtain ⟨z, hxz, hrunz⟩ := run_alloc hz w'
    obtain ⟨hl0, hv0⟩ := q3f hfl
    rw [hl0] at hcnt
    rw [hv0] at hact
    simp only [Bool.false_eq_true, if_false, Nat.add_zero] at hcnt
    have hnd : ∀ c, o.op ≠ .defer c := by intro c hc; rw [hop] at hc; cases hc
    unfold wpOpIn
    rw [ho]
    simp only
    have hwant : Region.wanted o (yielded ops b'.tmps) = true := by simp [Region.wanted, hg]
    rw [hwant]
    simp only [if_true]
    refine ⟨fun _ _ => trivial, ?_⟩
    rw [Oper.semAt_eq _ _ _ hnd]
    simp only [execOp, hop, Sem.run_bind, hrunz, Result.andThen_ok, Sem.run_pure, Oper.uponIn]
    obtain ⟨i2, f2⟩ := iH.idle (.cells ⟨z.cells.toList⟩ t (0, 0))
    refine ⟨S', H, _, by rw [hcnt]; exact hH, i2, fH.trans f2, ?_, flo.lay rfl iH fH ho hip hDi hfl hop hz hxz⟩
    rw [hact]
    exact rH.put _ (.top _)
   | false =>
    obtain ⟨qa, qq, ql⟩ := q3 hfl
    have done : ∀ A2, (A :: hs)[cntF (ds.map (·.loud)) 0 (addD D i)]? = some A2 → ∀ S2 u w2, Inv G S2 A2 w2 → Fr S' H w' S2 A2 w2 → VRel S2 d.v u → Pre (addD D i) (b'.put o.dst u) w2 := by
     intro A2 hA2 S2 u w2 i2 f2 v2
     refine ⟨S2, A2, cf, hA2, i2, fH.trans f2, ?_, flo.keep f2 ho hip hDi hfl u⟩
     rw [hact]
     exact (rH.mono f2.le).put _ v2
    cases hdl : d.loud with
    | true =>
     rw [hdl] at hlb hcnt
     simp only [if_true] at hcnt
     obtain ⟨A', q4, q5⟩ := ql hdl
     have hceq : cntF (ds.map (·.loud)) 0 D = cntF (ds.map (·.loud)) 0 fun j => decide (j < i) := by
      have hone : ∀ j, (ds.map (·.loud))[j]? = some true → D j = decide (j < i) := by
       intro j hj
       have hjl : j < p := by
        have := (List.getElem?_eq_some_iff.1 hj).1
        simp at this; omega
       by_cases hji : j = i
       ·subst hji; simp [hDi]
       ·rcases drawI_spec hL hlb hj hji with hb | hb
        ·rw [h1 j hb]; simp [bef_low hlow i j hb]
        ·have hlt := bef_low hlow j i hb
         have : D j = false := by
          cases hd : D j with
          | false => rfl
          | true => rw [h2 j hd] at hb; cases hb
         rw [this]; simp; omega
      refine Nat.le_antisymm (cntF_mono _ _ fun j hj hd => ?_) (cntF_mono _ _ fun j hj hd => ?_)
      ·rw [Nat.zero_add] at hd ⊢; rw [← hone j hj]; exact hd
      ·rw [Nat.zero_add] at hd ⊢; rw [hone j hj]; exact hd
     rw [hceq, q2] at hH
     cases hH
     rw [qa] at q5
     exact LoudO_ok (q5.alike halike.symm) iH rH (hr.mono fH.le) ho (done A' (by rw [hcnt, hceq]; exact q4))
    | false =>
     rw [hdl] at hcnt
     simp only [Bool.false_eq_true, if_false, Nat.add_zero] at hcnt
     have hlo : cntF (ds.map (·.loud)) 0 (bef ops i) ≤ cntF (ds.map (·.loud)) 0 D := cntF_mono _ _ fun j _ hj => by rw [Nat.zero_add] at hj ⊢; exact h1 j hj
     have hhi : cntF (ds.map (·.loud)) 0 D ≤ cntF (ds.map (·.loud)) 0 fun j => !bef ops j i := cntF_mono _ _ fun j _ hj => by rw [Nat.zero_add] at hj ⊢; rw [h2 j hj]; rfl
     have hq : QuietO P G rd ops o d.a H d.v := by
      by_cases hce : cntF (ds.map (·.loud)) 0 D = cntF (ds.map (·.loud)) 0 fun j => decide (j < i)
      ·rw [hce, q2] at hH
       cases hH
       exact qq hdl
      ·have hw := hwin i o d hol q1 hdl (by rw [Nat.zero_add]; exact hfl) (cntF (ds.map (·.loud)) 0 D) H
       rw [Nat.zero_add, cntI_idxs, cntI_idxs, cntI_idxs] at hw
       refine hw hlo hhi hce hH ?_
       have hclo : cntF (ds.map (·.loud)) 0 (bef ops i) ≤ cntF (ds.map (·.loud)) 0 fun j => decide (j < i) := cntF_mono _ _ fun j _ hj => by rw [Nat.zero_add] at hj ⊢; simp [bef_low hlow i j hj]
       have hchi : (cntF (ds.map (·.loud)) 0 fun j => decide (j < i)) ≤ cntF (ds.map (·.loud)) 0 fun j => !bef ops j i := cntF_mono _ _ fun j _ hj => by
        rw [Nat.zero_add] at hj ⊢
        cases hb : bef ops j i with
        | false => rfl
        | true => have := bef_low hlow j i hb; simp at hj; omega
       omega
     rw [qa] at hq
     exact QuietO_ok (hq.alike halike.symm) iH rH (hr.mono fH.le) ho (done H (by rw [hcnt]; exact hH))
  ·-- one of the others
   have hit : i = p + t := by
    rcases Nat.lt_trichotomy i (p + t) with h' | h' | h'
    ·have := ht1 i h' hil
     rw [hDi] at this; cases this
    ·exact h'
    ·have hpt : p + t < ops.size := by omega
     have := h1 (p + t) (htail i (by omega) hil (p + t) h')
     rw [ht2 (p + t) (Nat.le_refl _) hpt] at this; cases this
   subst hit
   have hdrop : ops.toList.drop (p + t) = o :: ops.toList.drop (p + (t + 1)) := by
    have : ops.toList[p + t]? = some o := by simpa using ho
    rw [show p + (t + 1) = p + t + 1 by omega]
    exact (List.drop_eq_getElem?_toList_append).trans (by rw [this]; rfl)
   rw [hdrop] at hw
   refine wpOpIn_mono (K := wpListIn (fen ro) 0 P ops (OutPR G S A w K) (ops.toList.drop (p + (t + 1)))) ?_ ?_
   ·intro b2 w2 h
    refine .inr ⟨t + 1, fun j hj hjs => ?_, fun j hj hjs => ?_, by omega, h⟩
    ·simp only [addD, Bool.or_eq_true, beq_iff_eq]
     by_cases hji : j = p + t
     ·exact .inr hji
     ·exact .inl (ht1 j (by omega) hjs)
    ·simp only [addD, Bool.or_eq_false_iff, beq_eq_false_iff_ne]
     exact ⟨ht2 j (by omega) hjs, by omega⟩
   ·unfold wpOpIn
    rw [ho]
    exact hw
 ·intro D b' w' hall hst
  rcases hst with ⟨i0, hi0, hDi0, _⟩ | ⟨t, ht1, ht2, ht3, hw⟩
  ·rw [hall i0 (by omega)] at hDi0; cases hDi0
  ·have : p + t = ops.size := by
    rcases Nat.lt_or_ge (p + t) ops.size with h' | h'
    ·have := ht2 (p + t) (Nat.le_refl _) h'
     rw [hall (p + t) h'] at this; cases this
    ·omega
   rw [this, List.drop_eq_nil_of_le (by simp)] at hw
   exact hw
 ·have : ((Array.replicate ops.size false).toList.countP fun x => !x) ≤ (Array.replicate ops.size false).toList.length := List.countP_le_length
  simpa using this
 ·intro j o ho hj
  simp [inn, Array.getD_eq_getD_getElem?, Array.getElem?_replicate] at hj
  split at hj <;> simp at hj
 ·obtain ⟨i1, f1⟩ := hi.drew (w.drawn + 1)
  have hz : ∀ j, inn (Array.replicate ops.size false) j = false := by
   intro j
   simp only [inn, Array.getD_eq_getD_getElem?, Array.getElem?_replicate]
   split <;> rfl
  have hpre0 : Pre (inn (Array.replicate ops.size false)) b { w with drawn := w.drawn + 1 } := by
   refine ⟨S, A, fun _ => 0, ?_, i1, f1, ?_, ?_, ?_⟩
   ·rw [cntF_none _ _ _ hz]; rfl
   ·rw [actF_none _ _ _ _ hz]; exact hab
   ·intro i o t d _ _ _ hD
    rw [hz] at hD; cases hD
   ·intro i j oi oj _ _ _ _ _ _ hD
    rw [hz] at hD; cases hD
  by_cases hp0 : p = 0
  ·refine .inr ⟨0, fun j hj _ => by omega, fun j _ _ => hz j, by omega, ?_⟩
   have := finish _ _ _ (fun j hj => by omega) hpre0
   simpa using this
  ·exact .inl ⟨0, by omega, hz 0, hpre0⟩
end
end Go.Am
end
section
noncomputable section
namespace Go.Am
open Go
section
variable (P : Program) (G : Gl) (el : Els) (mu : Oper → Bool) (hk : Hooks)
def fFuncR (m : Rm) (f : FuncId) (args : List AV) (A : AH) (K : AFin → Prop) : Prop :=
 match hk.quiet f with
 | some s => s args fun v => K ⟨.returned v, A⟩
 | none =>
  match hk.heap f with
  | some s => s args A K
  | none => sFuncR P m f args A K
def fCodeR (m : Rm) (rd : Option Nat) (c : Code) (a : AAct) (A : AH) (K : AOut → Prop) : Prop :=
 match c with
 | .region _ ops true => drawK P G el mu hk m rd ops a A K
 | c => sCodeR P m rd c a A K
def fLoopR (m : Rm) (rd : Option Nat) (c : Code) (a : AAct) (A : AH) (K : AOut → Prop) : Prop :=
 match hk.loop c with
 | some s => s rd a A K
 | none => sLoopR m rd c a A K
def fRoundR (m : Rm) (l : Nat) (args : List AV) (A : AH) (K : AFin → Prop) : Prop :=
 match hk.round with
 | some s => s l args A K
 | none => sRoundR m l args A K
def Rm.stepW (m : Rm) : Rm where
 func := fFuncR P hk m
 code := fCodeR P G el mu hk m
 loop := fLoopR hk m
 ops := sOpsR P G el mu m
 round := fRoundR hk m
 leave := sLeaveR P G m
 dfunc := sDfuncR P G m
 codeS := sCodeSR m
def Rm.W (n : Nat) : Rm := Nat.rec Rm.none (fun _ r => Rm.stepW P G el mu hk r) n
variable {P G el mu hk}
theorem FuncJ.mono {f : FuncId} {args : List AV} {A : AH} {K K' : AFin → Prop} (h : FuncJ P G f args A K) (hk : ∀ o, K o → K' o) : FuncJ P G f args A K' :=
 fun S w vs hi hl => (h S w vs hi hl).mono fun _ _ ⟨o, ho, r⟩ => ⟨o, hk o ho, r⟩
theorem CodeJ.mono {rd : Option Nat} {c : Code} {a : AAct} {A : AH} {K K' : AOut → Prop} (h : CodeJ P G rd c a A K) (hk : ∀ o, K o → K' o) : CodeJ P G rd c a A K' :=
 fun S w b ro hi hab hr => wpIn_mono (h S w b ro hi hab hr) fun _ _ _ ⟨o, ho, r⟩ => ⟨o, hk o ho, r⟩
theorem stepW_ok (hmix : P.follows .mixedOrders = true) (hh : Hooks.Ok P G hk) {m : Rm} (hm : Rm.Ok P G m) : Rm.Ok P G (Rm.stepW P G el mu hk m) where
 func f args A K h := by
  have h : fFuncR P hk m f args A K := h
  unfold fFuncR at h
  split at h
  ·rename_i s hs
   obtain ⟨v, h1, h2⟩ := hh.quiet f s args _ hs h
   exact (h1 A).mono fun o ho => by rw [ho]; exact h2
  ·split at h
   ·rename_i s hs
    obtain ⟨o, h1, h2⟩ := hh.heap f s args A K hs h
    exact h1.mono fun o' ho => by rw [ho]; exact h2
   ·exact sFuncR_ok hm h
 code rd c a A K h := by
  have h : fCodeR P G el mu hk m rd c a A K := h
  unfold fCodeR at h
  split at h
  ·exact drawK_ok hm hh hmix h _
  ·exact sCodeR_ok hm h
 loop rd c a A K h := by
  have h : fLoopR hk m rd c a A K := h
  unfold fLoopR at h
  split at h
  ·rename_i s hs
   exact hh.loop c s rd a A K hs h
  ·exact sLoopR_ok hm h
 ops rd ops l a A K h := sOpsR_ok hm h
 round l args A K h := by
  have h : fRoundR hk m l args A K := h
  unfold fRoundR at h
  split at h
  ·rename_i s hs
   exact hh.round s l args A K hs h
  ·exact sRoundR_ok hm h
 leave fn tmps ds u A K h := sLeaveR_ok hm h
 dfunc f args u A K h := sDfuncR_ok hm h
 codeS c a u A K h := sCodeSR_ok hm h
theorem W_ok (hmix : P.follows .mixedOrders = true) (hh : Hooks.Ok P G hk) (n : Nat) : Rm.Ok P G (Rm.W P G el mu hk n) := by
 induction n with
 | zero => exact Rm.none_ok
 | succ n ih => exact stepW_ok hmix hh ih
theorem FuncJ.run (hmix : P.follows .mixedOrders = true) (hh : Hooks.Ok P G hk) {n : Nat} {f : FuncId} {args : List AV} {A : AH} {K : AFin → Prop} (h : sFuncR P (Rm.W P G el mu hk n) f args A K) : FuncJ P G f args A K :=
 sFuncR_ok (W_ok hmix hh n) h
theorem RoundJ.run (hmix : P.follows .mixedOrders = true) (hh : Hooks.Ok P G hk) {n : Nat} {l : Nat} {args : List AV} {A : AH} {K : AFin → Prop} (h : sRoundR (Rm.W P G el mu hk n) l args A K) : RoundJ P G l args A K :=
 sRoundR_ok (W_ok hmix hh n) h
theorem CodeJ.run (hmix : P.follows .mixedOrders = true) (hh : Hooks.Ok P G hk) {n : Nat} {rd : Option Nat} {c : Code} {a : AAct} {A : AH} {K : AOut → Prop} (h : fCodeR P G el mu hk (Rm.W P G el mu hk n) rd c a A K) : CodeJ P G rd c a A K :=
 (stepW_ok hmix hh (W_ok hmix hh n)).code rd c a A K h
end
end Go.Am
end
section
noncomputable section
namespace Go.Am
open Go
mutual
def AV.bnd (n nf : Nat) : AV → Bool
 | .ptr b _ => decide (b < n)
 | .msl b _ _ => decide (b < n)
 | .row b _ _ => decide (b < n)
 | .map b => decide (b < n)
 | .isl _ none _ xs => AV.bndL n nf xs
 | .isl _ (some φ) _ xs => decide (φ < nf) && AV.bndL n nf xs
 | .iptr v => v.bnd n nf
 | .fn (.yield l) xs ys => decide (l < n) && (AV.bndL n nf xs && AV.bndL n nf ys)
 | .fn _ xs ys => AV.bndL n nf xs && AV.bndL n nf ys
 | .iface _ v => v.bnd n nf
 | .agg xs => AV.bndL n nf xs
 | .tup xs => AV.bndL n nf xs
 | _ => true
def AV.bndL (n nf : Nat) : List AV → Bool
 | [] => true
 | x :: xs => x.bnd n nf && AV.bndL n nf xs
end
mutual
theorem AV.still_bnd (n nf : Nat) : ∀ (x : AV), x.still = true → x.bnd n nf = true
 | .ptr _ _, h => by simp [AV.still] at h
 | .msl _ _ _, h => by simp [AV.still] at h
 | .row _ _ _, h => by simp [AV.still] at h
 | .map _, h => by simp [AV.still] at h
 | .isl _ none _ xs, h => by simp only [AV.still] at h; simp only [AV.bnd]; exact AV.still_bndL n nf xs h
 | .isl _ (some φ) _ xs, h => by simp [AV.still] at h
 | .iptr v, h => by simp only [AV.still] at h; simp only [AV.bnd]; exact AV.still_bnd n nf v h
 | .fn f xs ys, h => by
  cases f <;> first
   | (simp [AV.still] at h; done)
   | (simp only [AV.still, Bool.and_eq_true] at h; simp only [AV.bnd, AV.still_bndL n nf xs h.1, AV.still_bndL n nf ys h.2, Bool.and_self])
 | .iface _ v, h => by simp only [AV.still] at h; simp only [AV.bnd]; exact AV.still_bnd n nf v h
 | .agg xs, h => by simp only [AV.still] at h; simp only [AV.bnd]; exact AV.still_bndL n nf xs h
 | .tup xs, h => by simp only [AV.still] at h; simp only [AV.bnd]; exact AV.still_bndL n nf xs h
 | .top, h => by simp [AV.still] at h
 | .bool _, _ => by simp [AV.bnd]
 | .int _ _, _ => by simp [AV.bnd]
 | .str _, _ => by simp [AV.bnd]
 | .nilp, _ => by simp [AV.bnd]
 | .gptr _ _, _ => by simp [AV.bnd]
 | .nilm, _ => by simp [AV.bnd]
 | .nilf, _ => by simp [AV.bnd]
 | .nili, _ => by simp [AV.bnd]
 | .sym _, h => by simp [AV.still] at h
theorem AV.still_bndL (n nf : Nat) : ∀ (xs : List AV), AV.stillL xs = true → AV.bndL n nf xs = true
 | [], _ => by simp [AV.bndL]
 | x :: xs, h => by
  simp only [AV.stillL, Bool.and_eq_true] at h
  simp only [AV.bndL, AV.still_bnd n nf x h.1, AV.still_bndL n nf xs h.2, Bool.and_self]
end
theorem AV.bndL_append (n nf : Nat) : ∀ (xs ys : List AV), AV.bndL n nf (xs ++ ys) = (AV.bndL n nf xs && AV.bndL n nf ys)
 | [], ys => by simp [AV.bndL]
 | x :: xs, ys => by simp [AV.bndL, AV.bndL_append n nf xs ys, Bool.and_assoc]
theorem AV.bnd_cells (n nf : Nat) (x : AV) (h : x.bnd n nf = true) : AV.bndL n nf x.cells = true := by
 cases x <;> first
  | (simp only [AV.cells, AV.bndL, h, Bool.and_self]; done)
  | (simpa only [AV.cells, AV.bnd] using h)
theorem AV.bnd_flat (n nf : Nat) : ∀ (xs : List AV), AV.bndL n nf xs = true → AV.bndL n nf (flat xs) = true
 | [], _ => rfl
 | x :: xs, h => by
  simp only [AV.bndL, Bool.and_eq_true] at h
  simp only [flat, AV.bndL_append, AV.bnd_cells n nf x h.1, AV.bnd_flat n nf xs h.2, Bool.and_self]
def Sh.cut (S : Sh) (n nf : Nat) : Sh :=
 { X := S.X, ρ := fun i => if i < n then S.ρ i else Option.none, im := S.im, tl := fun φ e => if φ < nf then S.tl φ e else Option.none, rm := S.rm }
mutual
theorem VRel.cut {S : Sh} {n nf : Nat} : ∀ {x : AV} {v : Value}, VRel S x v → x.bnd n nf = true → VRel (S.cut n nf) x v
 | _, _, .top v, _ => .top v
 | _, _, .bool b, _ => .bool b
 | _, _, .int k n, _ => .int k n
 | _, _, .str s, _ => .str s
 | _, _, .nilp, _ => .nilp
 | _, _, .ptr b o c hr, h => .ptr b o c (by simp only [AV.bnd, decide_eq_true_eq] at h; simp only [Sh.cut, if_pos h]; exact hr)
 | _, _, .gptr g o, _ => .gptr g o
 | _, _, .iptr v a o hc, h => .iptr v a o (CRel.cut hc (AV.bnd_cells n nf v (by simpa [AV.bnd] using h)))
 | _, _, .islNil f o, _ => .islNil f o
 | _, _, .islE o a, _ => .islE o a
 | _, _, .isl none off xs sz a o cap h0 hsz hc hl hf, h => .isl none off xs sz a o cap h0 hsz (CRel.cut hc (AV.bnd_flat n nf xs (by simpa [AV.bnd] using h))) hl (fun φ hφ => by cases hφ)
 | _, _, .isl (some φ) off xs sz a o cap h0 hsz hc hl hf, h => by
  simp only [AV.bnd, Bool.and_eq_true, decide_eq_true_eq] at h
  refine .isl (some φ) off xs sz a o cap h0 hsz (CRel.cut hc (AV.bnd_flat n nf xs h.2)) hl ?_
  intro ψ hψ
  cases hψ
  obtain ⟨room, h1, h2⟩ := hf φ rfl
  exact ⟨room, by simp only [Sh.cut, if_pos h.1]; exact h1, h2⟩
 | _, _, .msl b o l c cap hr hl, h => .msl b o l c cap (by simp only [AV.bnd, decide_eq_true_eq] at h; simp only [Sh.cut, if_pos h]; exact hr) hl
 | _, _, .row b l sz c cap room hr h0 hl hm hc, h => .row b l sz c cap room (by simp only [AV.bnd, decide_eq_true_eq] at h; simp only [Sh.cut, if_pos h]; exact hr) h0 hl hm hc
 | _, _, .map b c hr, h => .map b c (by simp only [AV.bnd, decide_eq_true_eq] at h; simp only [Sh.cut, if_pos h]; exact hr)
 | _, _, .nilm, _ => .nilm
 | _, _, .fn f g xs ys us vs hf h1 h2, h => by
  have hb : AV.bndL n nf xs = true ∧ AV.bndL n nf ys = true := by
   cases f <;> simp only [AV.bnd, Bool.and_eq_true] at h <;> first
    | exact h
    | exact h.2
  refine .fn f g xs ys us vs ?_ (LRel.cut h1 hb.1) (LRel.cut h2 hb.2)
  cases f <;> simp only [FRel] at hf ⊢ <;> first
   | exact hf
   | (obtain ⟨c, h3, h4⟩ := hf
      simp only [AV.bnd, Bool.and_eq_true, decide_eq_true_eq] at h
      exact ⟨c, by simp only [Sh.cut, if_pos h.1]; exact h3, h4⟩)
 | _, _, .nilf, _ => .nilf
 | _, _, .iface t x v hv, h => .iface t x v (VRel.cut hv (by simpa [AV.bnd] using h))
 | _, _, .nili, _ => .nili
 | _, _, .agg xs vs hl, h => .agg xs vs (LRel.cut hl (by simpa [AV.bnd] using h))
 | _, _, .tup xs vs hl, h => .tup xs vs (LRel.cut hl (by simpa [AV.bnd] using h))
 | _, _, .sym i v ho hs hv, _ => .sym i v ho hs (by exact VRel.still (S := S) (S' := S.cut n nf) (fun _ _ _ h => h) hv hs)
theorem CRel.cut {S : Sh} {n nf : Nat} : ∀ {xs : List AV} {a o : Nat}, CRel S xs a o → AV.bndL n nf xs = true → CRel (S.cut n nf) xs a o
 | _, _, _, .nil a o, _ => .nil a o
 | _, _, _, .cons x xs a o v hi hv hc, h => by
  simp only [AV.bndL, Bool.and_eq_true] at h
  exact .cons x xs a o v hi (VRel.cut hv h.1) (CRel.cut hc h.2)
theorem LRel.cut {S : Sh} {n nf : Nat} : ∀ {xs : List AV} {vs : List Value}, LRel S xs vs → AV.bndL n nf xs = true → LRel (S.cut n nf) xs vs
 | _, _, .nil, _ => .nil
 | _, _, .cons x xs v vs hv hl, h => by
  simp only [AV.bndL, Bool.and_eq_true] at h
  exact .cons x xs v vs (VRel.cut hv h.1) (LRel.cut hl h.2)
end
def bndM (n nf : Nat) : List (AV × AV × Nat) → Bool
 | [] => true
 | (k, x, _) :: es => k.bnd n nf && (x.bnd n nf && bndM n nf es)
theorem MRel.cut {S : Sh} {n nf : Nat} : ∀ {es : List (AV × AV × Nat)} {ms : List MapEntry}, MRel S es ms → bndM n nf es = true → MRel (S.cut n nf) es ms
 | _, _, .nil, _ => .nil
 | _, _, .cons k x c es u v ms h1 h2 h3, h => by
  simp only [bndM, Bool.and_eq_true] at h
  exact .cons k x c es u v ms (h1.cut h.1) (h2.cut h.2.1) (h3.cut h.2.2)
def ABlk.bnd (n nf : Nat) : ABlk → Bool
 | .cells cs _ => AV.bndL n nf cs
 | .map es _ => bndM n nf es
 | .iter (some m) _ _ _ => decide (m < n)
 | .loop _ _ tmps _ _ _ d => AV.bndL n nf tmps && decide (d < n)
 | _ => true
theorem BRel.cut {S : Sh} {n nf : Nat} {x : ABlk} {o : Obj} (h : BRel S x o) (hb : x.bnd n nf = true) : BRel (S.cut n nf) x o := by
 cases h with
 | cells cs elem vs rest hl => exact .cells cs elem vs rest (hl.cut hb)
 | map es clock ms hm => exact .map es clock ms (hm.cut hb)
 | iterNil a b c => exact .iterNil a b c
 | iter m c a b d hr => exact .iter m c a b d (by simp only [ABlk.bnd, decide_eq_true_eq] at hb; simp only [Sh.cut, if_pos hb]; exact hr)
 | loop st p ts vs ps as bd df d fn hl hr =>
  simp only [ABlk.bnd, Bool.and_eq_true, decide_eq_true_eq] at hb
  exact .loop st p ts vs ps as bd df d fn (hl.cut hb.1) (by simp only [Sh.cut, if_pos hb.2]; exact hr)
 | defers => exact .defers
/-! ### One state stands for another one -/
def SubR : List AV → List AV → Prop → Prop
 | [], [], R => R
 | x :: xs, y :: ys, R =>
  match x, y with
  | _, .top => SubR xs ys R
  | .isl b (some _) _ us, .isl b' none _ vs => (b = b' ∧ us = vs) ∧ SubR xs ys R
  | x, y => x = y ∧ SubR xs ys R
 | _, _, _ => False
inductive SubL : List AV → List AV → Prop
 | nil : SubL [] []
 | top (x : AV) (xs ys : List AV) : SubL xs ys → SubL (x :: xs) (.top :: ys)
 | weak (b : Bool) (f : Option Nat) (o o' : Nat) (us xs ys : List AV) : SubL xs ys → SubL (.isl b f o us :: xs) (.isl b none o' us :: ys)
 | same (x : AV) (xs ys : List AV) : SubL xs ys → SubL (x :: xs) (x :: ys)
theorem SubR_elim : ∀ {xs ys : List AV} {R : Prop}, SubR xs ys R → SubL xs ys ∧ R
 | [], [], R, h => ⟨.nil, h⟩
 | x :: xs, y :: ys, R, h => by
  simp only [SubR] at h
  split at h
  ·obtain ⟨h1, h2⟩ := SubR_elim h
   exact ⟨.top _ _ _ h1, h2⟩
  ·obtain ⟨⟨rfl, rfl⟩, h⟩ := h
   obtain ⟨h1, h2⟩ := SubR_elim h
   exact ⟨.weak _ _ _ _ _ _ _ h1, h2⟩
  ·obtain ⟨rfl, h⟩ := h
   obtain ⟨h1, h2⟩ := SubR_elim h
   exact ⟨.same _ _ _ h1, h2⟩
 | [], _ :: _, R, h => by simp [SubR] at h
 | _ :: _, [], R, h => by simp [SubR] at h
theorem SubR_self : ∀ {xs : List AV} {R : Prop}, R → SubR xs xs R
 | [], _, h => h
 | x :: xs, _, h => by
  have ih := SubR_self (xs := xs) h
  cases x <;> simp only [SubR, true_and] <;> first
   | exact ih
   | (rename_i b f o us
      cases f <;> simp only [true_and] <;> exact ih)
theorem LRel.sub {S : Sh} : ∀ {xs ys : List AV} {vs : List Value}, LRel S xs vs → SubL xs ys → LRel S ys vs
 | _, _, _, .nil, .nil => .nil
 | _, _, _, .cons _ _ _ _ _ hl, .top _ _ _ h => .cons _ _ _ _ (.top _) (hl.sub h)
 | _, _, _, .cons _ _ _ _ hv hl, .weak _ _ _ _ _ _ _ h => .cons _ _ _ _ (by
   cases hv with
   | islNil => exact .islNil _ _
   | islE => exact .islE _ _
   | isl _ _ _ sz a o cap h0 hsz hc hcap hf => exact .isl none _ _ sz a o cap h0 hsz hc hcap (fun φ hφ => by cases hφ)) (hl.sub h)
 | _, _, _, .cons _ _ _ _ hv hl, .same _ _ _ h => .cons _ _ _ _ hv (hl.sub h)
def BlkR (x y : ABlk) (R : Prop) : Prop :=
 match x, y with
 | .cells cs el, .cells cs' el' => el = el' ∧ SubR cs cs' R
 | .loop st pd ts ps as bd d, .loop st' pd' ts' ps' as' bd' d' => (st = st' ∧ pd = pd' ∧ (ps, as, bd) = (ps', as', bd') ∧ d = d') ∧ SubR ts ts' R
 | .dead, .dead => R
 | .defers, .defers => R
 | .map es c, .map es' c' => es = es' ∧ c = c' ∧ R
 | .iter a b c d, .iter a' b' c' d' => (a = a' ∧ b = b' ∧ c = c' ∧ d = d') ∧ R
 | _, _ => False
theorem BlkR_elim {x y : ABlk} {R : Prop} (h : BlkR x y R) : R ∧ (x = .dead ↔ y = .dead) ∧ ∀ {S : Sh} {o : Obj}, BRel S x o → BRel S y o := by
 unfold BlkR at h
 split at h
 ·obtain ⟨rfl, h⟩ := h
  obtain ⟨h1, h2⟩ := SubR_elim h
  refine ⟨h2, by simp, ?_⟩
  intro S o hb
  cases hb with
  | cells _ _ vs rest hl => exact .cells _ _ vs rest (hl.sub h1)
 ·obtain ⟨⟨rfl, rfl, h3, rfl⟩, h⟩ := h
  cases h3
  obtain ⟨h1, h2⟩ := SubR_elim h
  refine ⟨h2, by simp, ?_⟩
  intro S o hb
  cases hb with
  | loop _ _ _ vs _ _ _ _ dd fn hl hd => exact .loop _ _ _ vs _ _ _ _ dd fn (hl.sub h1) hd
 ·exact ⟨h, Iff.rfl, id⟩
 ·exact ⟨h, Iff.rfl, id⟩
 ·obtain ⟨rfl, rfl, h⟩ := h
  exact ⟨h, Iff.rfl, id⟩
 ·obtain ⟨⟨rfl, rfl, rfl, rfl⟩, h⟩ := h
  exact ⟨h, Iff.rfl, id⟩
 ·exact h.elim
def BlksR : List ABlk → List ABlk → Prop → Prop
 | _, [], R => R
 | x :: xs, y :: ys, R => BlkR x y (BlksR xs ys R)
 | [], _ :: _, _ => False
theorem BlksR_elim : ∀ {xs ys : List ABlk} {R : Prop}, BlksR xs ys R → R ∧ ys.length ≤ xs.length ∧ ∀ (i : Nat) (y : ABlk), ys[i]? = some y → ∃ x, xs[i]? = some x ∧ (x = .dead ↔ y = .dead) ∧ ∀ {S : Sh} {o : Obj}, BRel S x o → BRel S y o
 | _, [], R, h => ⟨by cases ‹List ABlk› <;> exact h, by simp, fun i y hy => by simp at hy⟩
 | x :: xs, y :: ys, R, h => by
  simp only [BlksR] at h
  obtain ⟨h1, h2, h3⟩ := BlkR_elim h
  obtain ⟨h4, h5, h6⟩ := BlksR_elim h1
  refine ⟨h4, by simp; omega, fun i z hz => ?_⟩
  cases i with
  | zero => simp at hz; subst hz; exact ⟨x, rfl, h2, h3⟩
  | succ i => obtain ⟨x', r1, r2⟩ := h6 i z (by simpa using hz); exact ⟨x', by simpa using r1, r2⟩
 | [], _ :: _, R, h => by simp [BlksR] at h
def DfsR : List ADef → List ADef → Prop → Prop
 | [], [], R => R
 | xs, ys, R => xs = ys ∧ R
theorem DfsR_elim {xs ys : List ADef} {R : Prop} (h : DfsR xs ys R) : xs = ys ∧ R := by
 unfold DfsR at h
 split at h
 ·exact ⟨rfl, h⟩
 ·exact h
def FamR (nf : Nat) : List (Nat × Nat) → List (Nat × Nat) → Prop → Prop
 | _, [], R => nf = 0 ∧ R
 | xs, ys, R => xs.take nf = ys ∧ R
theorem FamR_elim {nf : Nat} {xs ys : List (Nat × Nat)} {R : Prop} (h : FamR nf xs ys R) : xs.take nf = ys ∧ R := by
 unfold FamR at h
 split at h
 ·obtain ⟨rfl, h⟩ := h; exact ⟨by simp, h⟩
 ·exact h
def LeR (nf : Nat) (a : AAct) (A : AH) (a' : AAct) (A' : AH) (R : Prop) : Prop :=
 SubR a.tmps a'.tmps (DfsR a.defers a'.defers (BlksR A.blks A'.blks (FamR nf A.fams A'.fams R)))
def ADef.bnd (n nf : Nat) : ADef → Bool
 | .fn (.yield l) xs ys => decide (l < n) && (AV.bndL n nf xs && AV.bndL n nf ys)
 | .fn _ xs ys => AV.bndL n nf xs && AV.bndL n nf ys
 | .mark b => decide (b < n)
structure Whole (n nf : Nat) (a : AAct) (A : AH) : Prop where
 blks : A.blks.length = n
 fams : A.fams.length = nf
 tmps : AV.bndL n nf a.tmps = true
 defers : a.defers.all (ADef.bnd n nf) = true
 heap : A.blks.all (ABlk.bnd n nf) = true
theorem DsRel.cut {S : Sh} {n nf : Nat} : ∀ {ds : List ADef} {es : List Deferred}, DsRel S ds es → ds.all (ADef.bnd n nf) = true → DsRel (S.cut n nf) ds es
 | _, _, .nil, _ => .nil
 | _, _, .cons d e ds es hd hl, h => by
  simp only [List.all_cons, Bool.and_eq_true] at h
  refine .cons _ _ _ _ ?_ (hl.cut h.2)
  cases hd with
  | fn f g xs ys us vs hf h1 h2 =>
   have hb : AV.bndL n nf xs = true ∧ AV.bndL n nf ys = true := by
    have := h.1
    cases f <;> simp only [ADef.bnd, Bool.and_eq_true] at this <;> first
     | exact this
     | exact this.2
   refine .fn f g xs ys us vs ?_ (h1.cut hb.1) (h2.cut hb.2)
   cases f <;> simp only [FRel] at hf ⊢ <;> first
    | exact hf
    | (obtain ⟨c, h3, h4⟩ := hf
       have h5 := h.1
       simp only [ADef.bnd, Bool.and_eq_true, decide_eq_true_eq] at h5
       exact ⟨c, by simp only [Sh.cut, if_pos h5.1]; exact h3, h4⟩)
  | mark b c hc => exact .mark b c (by have h5 := h.1; simp only [ADef.bnd, decide_eq_true_eq] at h5; simp only [Sh.cut, if_pos h5]; exact hc)
theorem Inv.cutTo {G : Gl} {S : Sh} {A A' : AH} {w : World} (h : Inv G S A w) {n nf : Nat} (hn : A'.blks.length = n) (hnf : A'.fams.length = nf) (hheap : A'.blks.all (ABlk.bnd n nf) = true)
  (hb : ∀ (i : Nat) (y : ABlk), A'.blks[i]? = some y → ∃ x, A.blks[i]? = some x ∧ (x = .dead ↔ y = .dead) ∧ ∀ {S : Sh} {o : Obj}, BRel S x o → BRel S y o) (hf : A.fams.take nf = A'.fams) : Inv G (S.cut n nf) A' w := by
 have liveOf : ∀ {i}, A'.live i → A.live i := by
  rintro i ⟨y, hy, hd⟩
  obtain ⟨x, h1, h2, _⟩ := hb i y hy
  exact ⟨x, h1, fun hx => hd (h2.1 hx)⟩
 have ltOf : ∀ {i}, A'.live i → i < n := fun hi => by have := live_lt hi; omega
 have ρOf : ∀ {i c}, (S.cut n nf).ρ i = some c → S.ρ i = some c := fun h => by simp only [Sh.cut] at h; split at h; exact h; cases h
 have famOf : ∀ {φ e sz}, A'.fams[φ]? = some (e, sz) → φ < nf ∧ A.fams[φ]? = some (e, sz) := by
  intro φ e sz hφ
  have hlt : φ < nf := by rw [← hnf]; exact (List.getElem?_eq_some_iff.1 hφ).1
  rw [← hf, List.getElem?_take, if_pos hlt] at hφ
  exact ⟨hlt, hφ⟩
 have endsOf : ∀ {φ b ec room}, A'.ends (S.cut n nf) φ b ec room → A.ends S φ b ec room := by
  rintro φ b ec room ⟨e, sz, h1, h2⟩
  obtain ⟨h3, h4⟩ := famOf h1
  simp only [Sh.cut, if_pos h3] at h2
  exact ⟨e, sz, h4, h2⟩
 refine ⟨h.im, ?_, ?_, ?_, ?_, ?_, ?_, ?_, ?_, ?_, h.rm⟩
 ·intro i y hy hd
  obtain ⟨x, h1, h2, h3⟩ := hb i y hy
  obtain ⟨c, o, r1, r2, r3⟩ := h.blk i x h1 fun hx => hd (h2.1 hx)
  have hlt := (List.getElem?_eq_some_iff.1 hy).1
  refine ⟨c, o, by simp only [Sh.cut, if_pos (show i < n by omega)]; exact r1, r2, (h3 r3).cut ?_⟩
  exact List.all_eq_true.1 hheap y (List.mem_of_getElem? hy)
 ·exact fun i j c hi hj h1 h2 => h.inj i j c (liveOf hi) (liveOf hj) (ρOf h1) (ρOf h2)
 ·exact fun i c o hi hc => h.free i c o (liveOf hi) (ρOf hc)
 ·intro φ e sz hφ
  obtain ⟨h1, h2⟩ := famOf hφ
  obtain ⟨b, ec, room, h3⟩ := h.fam φ e sz h2
  exact ⟨b, ec, room, by simp only [Sh.cut, if_pos h1]; exact h3⟩
 ·intro φ b ec room he
  obtain ⟨h1, h2, h3⟩ := h.room φ b ec room (endsOf he)
  exact ⟨h1, h2, fun i hi hc => h3 i (liveOf hi) (ρOf hc)⟩
 ·exact fun φ ψ b ec room ec' room' h1 h2 => h.famInj φ ψ b ec room ec' room' (endsOf h1) (endsOf h2)
 ·intro i hi
  simp only [Sh.cut]; rw [if_neg (by omega)]
 ·intro φ e x hx
  simp only [Sh.cut] at hx
  split at hx
  ·rename_i hlt
   obtain ⟨e0, sz, h1, h2⟩ := h.tlout φ e x hx
   exact ⟨e0, sz, by rw [← hf, List.getElem?_take, if_pos hlt]; exact h1, h2⟩
  ·cases hx
 ·exact fun g o x hg => let ⟨v, h1, h2⟩ := h.glob g o x hg; ⟨v, h1, h2⟩
theorem Fr.cutTo {G : Gl} {S0 S : Sh} {A0 A A' : AH} {w0 w : World} (h0 : Inv G S0 A0 w0) (h : Fr S0 A0 w0 S A w) {n nf : Nat} (hn : A'.blks.length = n) (hnf : A'.fams.length = nf)
  (hb : ∀ (i : Nat) (y : ABlk), A'.blks[i]? = some y → ∃ x, A.blks[i]? = some x ∧ (x = .dead ↔ y = .dead)) (hf : A.fams.take nf = A'.fams) (h1 : A0.blks.length ≤ n) (h2 : A0.fams.length ≤ nf) : Fr S0 A0 w0 (S.cut n nf) A' w := by
 refine ⟨⟨h.le.X, ?_, h.le.im, ?_, h.le.rm⟩, h.size, h.os, h.tape, h.output, h.keep, ?_, h.imNew, by omega, ?_⟩
 ·intro i c hc
  have hlt : i < A0.blks.length := by
   rcases Nat.lt_or_ge i A0.blks.length with hl | hl
   ·exact hl
   ·rw [h0.ρout i hl] at hc; cases hc
  simp only [Sh.cut, if_pos (show i < n by omega)]
  exact h.le.ρ i c hc
 ·intro φ e x hx
  obtain ⟨e0, sz, h3, _⟩ := h0.tlout φ e x hx
  have hlt := (List.getElem?_eq_some_iff.1 h3).1
  simp only [Sh.cut, if_pos (show φ < nf by omega)]
  exact h.le.tl φ e x hx
 ·intro b ho hlt
  refine h.own b ?_ hlt
  rcases ho with ⟨i, ⟨y, hy, hd⟩, hr⟩ | ⟨φ, ec, room, e, sz, h3, h4⟩
  ·obtain ⟨x, h5, h6⟩ := hb i y hy
   refine .inl ⟨i, ⟨x, h5, fun hx => hd (h6.1 hx)⟩, ?_⟩
   simp only [Sh.cut] at hr
   split at hr
   ·exact hr
   ·cases hr
  ·refine .inr ⟨φ, ec, room, e, sz, ?_, ?_⟩
   ·have hlt : φ < nf := by rw [← hnf]; exact (List.getElem?_eq_some_iff.1 h3).1
    rw [← hf, List.getElem?_take, if_pos hlt] at h3
    exact h3
   ·simp only [Sh.cut] at h4
    split at h4
    ·exact h4
    ·cases h4
 ·intro i c hc
  simp only [Sh.cut] at hc
  split at hc
  ·exact h.ρnew i c hc
  ·cases hc
theorem LeR_elim {nf : Nat} {a a' : AAct} {A A' : AH} {R : Prop} (h : LeR nf a A a' A' R) : R ∧ SubL a.tmps a'.tmps ∧ a.defers = a'.defers ∧ A'.blks.length ≤ A.blks.length ∧
  (∀ (i : Nat) (y : ABlk), A'.blks[i]? = some y → ∃ x, A.blks[i]? = some x ∧ (x = .dead ↔ y = .dead) ∧ ∀ {S : Sh} {o : Obj}, BRel S x o → BRel S y o) ∧ A.fams.take nf = A'.fams := by
 obtain ⟨h1, h⟩ := SubR_elim h
 obtain ⟨h2, h⟩ := DfsR_elim h
 obtain ⟨h, h3, h4⟩ := BlksR_elim h
 obtain ⟨h5, h⟩ := FamR_elim h
 exact ⟨h, h1, h2, h3, h4, h5⟩
theorem LeR.ok {G : Gl} {n nf : Nat} {a a' : AAct} {A A' : AH} {R : Prop} (h : LeR nf a A a' A' R) (hw : Whole n nf a' A') {S : Sh} {w : World} {b : Act} (hi : Inv G S A w) (hab : ARel S a b) :
  R ∧ Inv G (S.cut n nf) A' w ∧ ARel (S.cut n nf) a' b ∧ ∀ {S0 A0 w0}, Inv G S0 A0 w0 → A0.blks.length ≤ n → A0.fams.length ≤ nf → Fr S0 A0 w0 S A w → Fr S0 A0 w0 (S.cut n nf) A' w := by
 obtain ⟨hR, h1, h2, h3, h4, h5⟩ := LeR_elim h
 refine ⟨hR, hi.cutTo hw.blks hw.fams hw.heap h4 h5, ⟨(hab.tmps.sub h1).cut hw.tmps, ?_⟩, ?_⟩
 ·have := hab.defers
  rw [h2] at this
  exact this.cut hw.defers
 ·intro S0 A0 w0 h0 hl0 hl1 hfr
  exact hfr.cutTo h0 hw.blks hw.fams (fun i y hy => let ⟨x, r1, r2, _⟩ := h4 i y hy; ⟨x, r1, r2⟩) h5 hl0 hl1
def EndR (nf : Nat) (o : AOut) (K : AOut → Prop) (n : Nat) : Prop := ∃ a' A', LeR nf o.a o.A a' A' (K ⟨o.e, a', A'⟩) ∧ Whole n nf a' A' ∧ ∀ c, o.e = .panic c → (c.all fun p => p.1.bnd n nf) = true
theorem ChRel.cut {S : Sh} {n nf : Nat} : ∀ {c : AChain} {d : List PanicEntry}, ChRel S c d → (c.all fun p => p.1.bnd n nf) = true → ChRel (S.cut n nf) c d
 | _, _, .nil, _ => .nil
 | _, _, .cons x v b xs es h1 h2, h => by
  simp only [List.all_cons, Bool.and_eq_true] at h
  exact .cons x v b xs es (h1.cut h.1) (h2.cut h.2)
theorem LoopJ.rule {P : Program} {G : Gl} {ι : Type} (fr : ι → AAct) (hp : ι → AH) (n nf : Nat) (inv : ι → Prop) (meas : ι → Nat) (Out : ι → (AOut → Prop) → Prop) {rd : Option Nat} {c : Code}
  (hrd : ∀ l, rd = some l → l < n)
  (hw : ∀ x, inv x → Whole n nf (fr x) (hp x))
  (round : ∀ x K, inv x → Out x K → CodeJ P G rd c (fr x) (hp x) fun o =>
   match o.e with
   | .normal => ∃ y, inv y ∧ meas y < meas x ∧ LeR nf o.a o.A (fr y) (hp y) (Out y K)
   | _ => EndR nf o K n) :
  ∀ x K, inv x → Out x K → LoopJ P G rd c (fr x) (hp x) K := by
 have key : ∀ (k : Nat) x K, meas x = k → inv x → Out x K → LoopJ P G rd c (fr x) (hp x) K := by
  intro k
  induction k using Nat.strongRecOn with
  | _ k ih =>
  intro x K hk hinv hout S w b ro hi hab hr
  refine LoopIn.round (wpIn_mono (round x K hinv hout S w b ro hi hab hr) ?_)
  intro e a' w' h
  obtain ⟨o, ho, S1, i1, f1, r1, e1⟩ := h
  have hwx := hw x hinv
  have cutRd : ∀ {ro}, RdRel S1 rd ro → RdRel (S1.cut n nf) rd ro := by
   intro ro h
   cases hrd' : rd with
   | none => rw [hrd'] at h; exact h
   | some l =>
    rw [hrd'] at h
    obtain ⟨c, h1, h2⟩ := h
    exact ⟨c, h1, by simp only [Sh.cut, if_pos (hrd l hrd')]; exact h2⟩
  generalize hoe : o.e = oe at ho e1
  have other : ∀ {x' : Exit}, ERel S1 oe x' → EndR nf o K n → OutPR G S (hp x) w K x' a' w' := by
   intro x' he hE
   obtain ⟨a2, A2, hle, hwh, hnp⟩ := hE
   obtain ⟨hK, i2, r2, f2⟩ := hle.ok hwh i1 r1
   refine ⟨_, hK, _, i2, f2 hi (by rw [hwx.blks]; exact Nat.le_refl _) (by rw [hwx.fams]; exact Nat.le_refl _) f1, r2, ?_⟩
   simp only [hoe]
   cases he with
   | normal => exact .normal
   | exit id => exact .exit id
   | goto l => exact .goto l
   | ret => exact .ret
   | panic c d hc => exact .panic _ _ (hc.cut (hnp c hoe))
  cases e1 with
  | normal =>
   obtain ⟨y, h1, h2, h3⟩ := ho
   obtain ⟨hO, i2, r2, f2⟩ := h3.ok (hw y h1) i1 r1
   have f3 := f2 hi (by rw [hwx.blks]; exact Nat.le_refl _) (by rw [hwx.fams]; exact Nat.le_refl _) f1
   exact (ih (meas y) (by omega) y K rfl h1 hO _ w' a' ro i2 r2 (cutRd (hr.mono f1.le))).mono fun _ _ _ h => h.from f3 fun _ h => h
  | exit id => exact other (.exit id) ho
  | goto l => exact other (.goto l) ho
  | ret => exact other .ret ho
  | panic c d hc => exact other (.panic _ _ hc) ho
 exact fun x K => key (meas x) x K rfl
theorem LoopJ.weak {P : Program} {G : Gl} {n nf : Nat} {a a' : AAct} {A A' : AH} {R : Prop} {rd : Option Nat} {c : Code} {K : AOut → Prop} (h : LeR nf a A a' A' R) (hw : Whole n nf a' A') (hA : A.blks.length = n) (hF : A.fams.length = nf) (hl : LoopJ P G rd c a' A' K) : LoopJ P G rd c a A K := by
 intro S w b ro hi hab hr
 obtain ⟨_, i2, r2, f2⟩ := h.ok hw hi hab
 have hrd : RdRel (S.cut n nf) rd ro := by
  cases rd with
  | none => exact hr
  | some l =>
   obtain ⟨c, h1, h2⟩ := hr
   refine ⟨c, h1, ?_⟩
   have hlt : l < n := by
    rcases Nat.lt_or_ge l n with h' | h'
    ·exact h'
    ·rw [hi.ρout l (by omega)] at h2; cases h2
   simp only [Sh.cut, if_pos hlt]; exact h2
 have f3 := f2 hi (by omega) (by omega) (Fr.refl S A w)
 exact (hl _ w b ro i2 r2 hrd).mono fun _ _ _ h => h.from f3 fun _ h => h
end Go.Am
end
section
noncomputable section
namespace Go.Am
open Go
def frz (P : Program) (A : AH) : Nat → AV → AV
 | 0, x => x
 | n + 1, x =>
  match x with
  | .isl nil _ _ xs => .isl nil none 0 xs
  | .iface t v => .iface t (frz P A n v)
  | .agg cs => .agg (cs.map (frz P A n))
  | .tup vs => .tup (vs.map (frz P A n))
  | .fn (.func f) xs ys => .fn (.func f) (xs.map (frz P A n)) (ys.map (frz P A n))
  | .ptr b 0 =>
   match nthR A.blks b with
   | some (.cells cs el) =>
    match tAgg P el, cs with
    | some true, cs => .iptr (.agg (cs.map (frz P A n)))
    | _, _ => .ptr b 0
   | _ => .ptr b 0
  | .row b len sz =>
   match nthR A.blks b with
   | some (.cells cs el) =>
    match tAgg P el with
    | some agg =>
     match agg || (sz == 1) with
     | true =>
      match chunk agg sz len (cs.map (frz P A n)) with
      | some xs => .isl false none 0 xs
      | none => .row b len sz
     | false => .row b len sz
    | none => .row b len sz
   | _ => .row b len sz
  | x => x
theorem LRel.stillAll {S S' : Sh} {f : AV → AV} (hf : ∀ x v, VRel S x v → (f x).still = true → VRel S' (f x) v) : ∀ {xs : List AV} {vs : List Value}, LRel S xs vs → AV.stillL (xs.map f) = true → LRel S' (xs.map f) vs
 | _, _, .nil, _ => .nil
 | _, _, .cons x xs v vs hv hl, h => by
  simp only [List.map_cons, AV.stillL, Bool.and_eq_true] at h
  exact .cons _ _ _ _ (hf _ _ hv h.1) (hl.stillAll hf h.2)
theorem frz_ok {P : Program} {S S' : Sh} {A : AH} (hz : Frozen S A S') : ∀ (n : Nat) (x : AV) (v : Value), VRel S x v → (frz P A n x).still = true → VRel S' (frz P A n x) v
 | 0, x, v, h, hs => h.still hz.im hs
 | n + 1, x, v, h, hs => by
  have ih := frz_ok (P := P) hz n
  have plain : ∀ {y : AV}, frz P A (n + 1) x = y → y = x → VRel S' (frz P A (n + 1) x) v := by
   intro y h1 h2
   rw [h1, h2] at hs ⊢
   exact h.still hz.im hs
  cases h with
  | isl fam off xs sz a o cap h0 hsz hc hl hf =>
   simp only [frz, AV.still] at hs ⊢
   exact .isl none 0 xs sz a o cap h0 hsz (hc.still hz.im (AV.still_flat xs hs)) hl (fun φ hφ => by cases hφ)
  | islNil fam off => exact .islNil _ _
  | islE off a => exact .islE _ _
  | iface t x v hv =>
   simp only [frz, AV.still] at hs ⊢
   exact .iface _ _ _ (ih _ _ hv hs)
  | agg xs vs hl =>
   simp only [frz, AV.still] at hs ⊢
   exact .agg _ _ (hl.stillAll ih hs)
  | tup xs vs hl =>
   simp only [frz, AV.still] at hs ⊢
   exact .tup _ _ (hl.stillAll ih hs)
  | fn f g xs ys us vs hfr h1 h2 =>
   cases f <;> first
    | (cases hfr
       simp only [frz, AV.still, Bool.and_eq_true] at hs ⊢
       exact .fn _ _ _ _ _ _ rfl (h1.stillAll ih hs.1) (h2.stillAll ih hs.2))
    | (simp [frz, AV.still] at hs; done)
  | ptr b o c hr =>
   cases o with
   | succ o => simp [frz, AV.still] at hs
   | zero =>
    simp only [frz] at hs ⊢
    split at hs
    ·rename_i cs el hb
     rw [nthR_eq] at hb
     obtain ⟨vs, l1, l2⟩ := hz.own b cs el c hb hr
     split at hs
     ·rename_i hagg
      simp only [AV.still] at hs
      refine .iptr _ _ _ (CRel.of_cells (l1.stillAll ih hs) fun j v hj => ?_)
      rw [Nat.zero_add]; exact l2 j v hj
     ·simp [AV.still] at hs
    ·simp [AV.still] at hs
  | row b len sz c cap room hr q0 hl hm hcap =>
   simp only [frz] at hs ⊢
   split at hs
   ·rename_i cs el hb
    rw [nthR_eq] at hb
    obtain ⟨vs, l1, l2⟩ := hz.own b cs el c hb hr
    split at hs
    ·rename_i agg hagg
     split at hs
     ·rename_i hc1
      split at hs
      ·rename_i xs hch
       simp only [AV.still] at hs
       have hag : agg = false → sz = 1 := by
        intro h
        subst h
        simpa using hc1
       obtain ⟨k1, k2, k3⟩ := chunk_ok q0 hag len _ xs hch
       have hfl : flat xs = (cs.take (len * sz)).map (frz P A n) := by rw [k3, List.map_take]
       have hst : AV.stillL ((cs.take (len * sz)).map (frz P A n)) = true := by rw [← hfl]; exact AV.still_flat xs hs
       have hrel := (l1.take (len * sz)).stillAll ih hst
       rw [← hfl] at hrel
       have key := VRel.isl (S := S') none 0 xs sz c 0 cap q0 k2 (CRel.of_cells hrel fun j v hj => by
        rw [Nat.zero_add]
        refine l2 j v ?_
        rw [List.getElem?_take] at hj
        split at hj
        ·exact hj
        ·cases hj) (by omega) (fun φ hφ => by cases hφ)
       rw [k1] at key
       exact key
      ·simp [AV.still] at hs
     ·simp [AV.still] at hs
    ·simp [AV.still] at hs
   ·simp [AV.still] at hs
  | iptr w a o hc => exact plain (y := .iptr w) (by simp [frz]) rfl
  | top => simp [frz, AV.still] at hs
  | _ => first
   | exact plain (by simp [frz]) rfl
   | (simp [frz, AV.still] at hs; done)
theorem AV.still_bare {S : Sh} {x : AV} {v : Value} (h : VRel S x v) (hs : x.still = true) : VRel S.bare x v := VRel.still (S := S) (S' := S.bare) (fun _ _ _ h => h) h hs
theorem LRel.bares {S : Sh} {xs : List AV} {vs : List Value} (h : LRel S xs vs) (hs : AV.stillL xs = true) : LRel S.bare xs vs := LRel.still (S := S) (S' := S.bare) (fun _ _ _ h => h) h hs
theorem QuietJ.of {P : Program} {G : Gl} {f : FuncId} {args : List AV} {v : AV} (n : Nat) (ha : AV.stillL args = true) (hv : v.still = true) (h : FuncJ P G f args AH.nil fun o => ∃ u, o.e = .returned u ∧ frz P o.A n u = v) : QuietJ P G f args v := by
 intro A S w vs hi hl
 refine (h S.bare w vs hi.inner (hl.bares ha)).mono ?_
 rintro e w' ⟨o, ⟨u, ho, hu⟩, S', i1, f1, r1⟩
 obtain ⟨i2, z2⟩ := i1.shut
 have f2 := f1.shut rfl (fun _ => rfl) (fun _ _ => rfl) (fun _ => rfl)
 rw [ho] at r1
 cases r1 with
 | returned _ uv hv' =>
 have h5 := frz_ok z2 n u uv hv' (by rw [hu]; exact hv)
 rw [hu] at h5
 have h6 : VRel (S'.shut o.A w').bare v uv := AV.still_bare h5 hv
 have i3 : Inv G (S'.shut o.A w').bare AH.nil w' := i2.inner
 obtain ⟨i4, f4, l4⟩ := hi.outer i2 f2
 refine ⟨⟨.returned v, A⟩, rfl, _, i4, f4, .returned _ _ ?_⟩
 exact h6.mono l4
theorem QuietJ.ofCall {P : Program} {G : Gl} {f : FuncId} {args : List AV} {v : AV} (ha : AV.stillL args = true) (h : PCall P G f args [.returned v]) : QuietJ P G f args v := by
 intro A S w vs hi hl
 refine ((h.lift hi (hl.bares ha))).mono ?_
 rintro e w' ⟨o, ho, S', i1, f1, r1⟩
 simp only [List.map_cons, List.map_nil, List.mem_singleton] at ho
 exact ⟨o, ho, S', i1, f1, r1⟩
end Go.Am
end
section
noncomputable section
namespace Go.Am
open Go
def assoc {α : Type _} : List (Nat × α) → Nat → Option α
 | [], _ => none
 | (k, x) :: l, n => match n == k with | true => some x | false => assoc l n
theorem assoc_mem {α : Type _} : ∀ {l : List (Nat × α)} {n : Nat} {x : α}, assoc l n = some x → (n, x) ∈ l
 | [], n, x, h => by cases h
 | (k, y) :: l, n, x, h => by
  simp only [assoc] at h
  split at h
  ·rename_i hk
   simp only [beq_iff_eq] at hk
   cases h; subst hk
   exact List.mem_cons_self
  ·exact List.mem_cons_of_mem _ (assoc_mem h)
def loopsOf : Code → List Code
 | .loop c => c :: loopsOf c
 | .seq a b => loopsOf a ++ loopsOf b
 | .cond _ a b => loopsOf a ++ loopsOf b
 | .block _ c => loopsOf c
 | .scope c => loopsOf c
 | .rangeFunc _ _ a b => loopsOf a ++ loopsOf b
 | _ => []
def rangesOf : Code → List (Array Tmp × Code × Code)
 | .rangeFunc _ ps a b => (ps, a, b) :: (rangesOf a ++ rangesOf b)
 | .loop c => rangesOf c
 | .seq a b => rangesOf a ++ rangesOf b
 | .cond _ a b => rangesOf a ++ rangesOf b
 | .block _ c => rangesOf c
 | .scope c => rangesOf c
 | _ => []
def bodyOf (P : Program) (f : FuncId) : Code :=
 match P.funcs[f]? with
 | some fn => fn.body.getD .skip
 | none => .skip
def loopOf (P : Program) (f k : Nat) : Code := ((loopsOf (bodyOf P f))[k]?).getD .skip
def rangeOf (P : Program) (f k : Nat) : Array Tmp × Code × Code := ((rangesOf (bodyOf P f))[k]?).getD (#[], .skip, .skip)
def firstReg : Code → Nat
 | .region id _ _ => id
 | .loop c => firstReg c
 | .seq a _ => firstReg a
 | .block _ c => firstReg c
 | .scope c => firstReg c
 | .cond _ a _ => firstReg a
 | _ => 0
def codeIs (c : Code) (P : Program) (f k : Nat) (R : Prop) : Prop := c = loopOf P f k ∧ R
theorem codeIs_self {P : Program} {f k : Nat} {R : Prop} : codeIs (loopOf P f k) P f k R = R := by simp [codeIs]
abbrev QSpec := List AV → (AV → Prop) → Prop
abbrev HSpec := List AV → AH → (AFin → Prop) → Prop
abbrev LSpec := Option Nat → AAct → AH → (AOut → Prop) → Prop
structure LHook where
 f : Nat
 k : Nat
 s : LSpec
def QSpec.Ok (P : Program) (G : Gl) (f : FuncId) (s : QSpec) : Prop := ∀ args K, s args K → ∃ v, QuietJ P G f args v ∧ K v
def HSpec.Ok (P : Program) (G : Gl) (f : FuncId) (s : HSpec) : Prop := ∀ args A K, s args A K → ∃ o, FuncJ P G f args A (fun o' => o' = o) ∧ K o
def LHook.Ok (P : Program) (G : Gl) (h : LHook) : Prop := ∀ rd a A K, h.s rd a A K → LoopJ P G rd (loopOf P h.f h.k) a A K
abbrev RSpec := Nat → List AV → AH → (AFin → Prop) → Prop
def RSpec.Ok (P : Program) (G : Gl) (s : RSpec) : Prop := ∀ l args A K, s l args A K → RoundJ P G l args A K
def mkHooks (P : Program) (q : List (Nat × QSpec)) (h : List (Nat × HSpec)) (l : List (Nat × LHook)) (r : Option RSpec := none) : Hooks where
 quiet := assoc q
 heap := assoc h
 loop c :=
  match assoc l (firstReg c) with
  | some e => some fun rd a A K => codeIs c P e.f e.k (e.s rd a A K)
  | none => none
 round := r
theorem mkHooks_ok {P : Program} {G : Gl} {q : List (Nat × QSpec)} {h : List (Nat × HSpec)} {l : List (Nat × LHook)} {r : Option RSpec} (hq : ∀ e ∈ q, QSpec.Ok P G e.1 e.2) (hh : ∀ e ∈ h, HSpec.Ok P G e.1 e.2) (hl : ∀ e ∈ l, LHook.Ok P G e.2) (hr : ∀ s, r = some s → RSpec.Ok P G s := by intro s hs; cases hs) :
  Hooks.Ok P G (mkHooks P q h l r) where
 round s l args A K hs hk := hr s hs l args A K hk
 quiet f s args K hs hk := hq (f, s) (assoc_mem hs) args K hk
 heap f s args A K hs hk := hh (f, s) (assoc_mem hs) args A K hk
 loop c s rd a A K hs hk := by
  simp only [mkHooks] at hs
  split at hs
  ·rename_i e he
   cases hs
   obtain ⟨rfl, h2⟩ := hk
   exact hl _ (assoc_mem he) rd a A K h2
  ·cases hs
theorem all_nil {α : Type _} {p : α → Prop} : ∀ e ∈ ([] : List α), p e := fun _ h => by cases h
theorem all_cons {α : Type _} {p : α → Prop} {x : α} {l : List α} (h : p x) (hl : ∀ e ∈ l, p e) : ∀ e ∈ x :: l, p e := fun e he => by
 rcases List.mem_cons.1 he with rfl | he
 ·exact h
 ·exact hl e he
def frm (n : Nat) (l : List (Nat × AV)) : AAct := ⟨l.foldl (fun ts p => setR ts p.1 p.2) (List.replicate n .top), []⟩
structure LSt (ι ρ : Type) where
 n : Nat
 nf : Nat
 rd : Option Nat
 fr : ι → AAct
 hp : ι → AH
 inv : ι → Prop
 res : ι → ρ
 sel : ρ → Bool
 out : Bool → ρ → AOut
def eqE : AE → AE → Bool
 | .exit a, .exit b => a == b
 | .goto a, .goto b => a == b
 | .ret, .ret => true
 | _, _ => false
theorem eqE_eq : ∀ {x y : AE}, eqE x y = true → x = y ∧ ∀ c, x ≠ .panic c
 | .exit a, .exit b, h => by simp only [eqE, beq_iff_eq] at h; subst h; exact ⟨rfl, fun c hc => by cases hc⟩
 | .goto a, .goto b, h => by simp only [eqE, beq_iff_eq] at h; subst h; exact ⟨rfl, fun c hc => by cases hc⟩
 | .ret, .ret, _ => ⟨rfl, fun c hc => by cases hc⟩
 | .normal, y, h => by cases y <;> cases h
 | .panic c, y, h => by cases y <;> cases h
 | .exit a, .normal, h => by cases h
 | .exit a, .goto _, h => by cases h
 | .exit a, .ret, h => by cases h
 | .exit a, .panic _, h => by cases h
 | .goto a, .normal, h => by cases h
 | .goto a, .exit _, h => by cases h
 | .goto a, .ret, h => by cases h
 | .goto a, .panic _, h => by cases h
 | .ret, .normal, h => by cases h
 | .ret, .exit _, h => by cases h
 | .ret, .goto _, h => by cases h
 | .ret, .panic _, h => by cases h
def LSt.spec {ι ρ : Type} (s : LSt ι ρ) : LSpec := fun rd a A K =>
 tfR (decide (A.blks.length = s.n) && (decide (A.fams.length = s.nf) && decide (rd = s.rd)))
  (∃ x, s.inv x ∧ LeR s.nf a A (s.fr x) (s.hp x) (bothR (s.sel (s.res x)) (K (s.out true (s.res x))) (K (s.out false (s.res x))))) False
def panL (e e' : AE) (n nf : Nat) (R R' : Prop) : Prop :=
 match e, e' with
 | .panic c, .panic c' => (c = c' ∧ (c.all fun p => p.1.bnd n nf) = true) ∧ R
 | _, _ => R'
theorem panL_elim {e e' : AE} {n nf : Nat} {R R' : Prop} (hp : panL e e' n nf R R') : (e = e' ∧ (∀ c, e = .panic c → (c.all fun p => p.1.bnd n nf) = true) ∧ R) ∨ R' := by
 unfold panL at hp
 split at hp
 ·obtain ⟨⟨rfl, h2⟩, hr⟩ := hp
  exact .inl ⟨rfl, fun c hc => by cases hc; exact h2, hr⟩
 ·exact .inr hp
def LSt.post {ι ρ : Type} (s : LSt ι ρ) (meas : ι → Nat) (x : ι) (o : AOut) : Prop :=
 match o.e with
 | .normal => ∃ y, s.inv y ∧ meas y < meas x ∧ s.res y = s.res x ∧ LeR s.nf o.a o.A (s.fr y) (s.hp y) True
 | e => tfR (eqE e (s.out true (s.res x)).e) (s.sel (s.res x) = true ∧ LeR s.nf o.a o.A (s.out true (s.res x)).a (s.out true (s.res x)).A True)
   (tfR (eqE e (s.out false (s.res x)).e) (s.sel (s.res x) = false ∧ LeR s.nf o.a o.A (s.out false (s.res x)).a (s.out false (s.res x)).A True)
    (panL e (s.out true (s.res x)).e s.n s.nf (s.sel (s.res x) = true ∧ LeR s.nf o.a o.A (s.out true (s.res x)).a (s.out true (s.res x)).A True)
     (panL e (s.out false (s.res x)).e s.n s.nf (s.sel (s.res x) = false ∧ LeR s.nf o.a o.A (s.out false (s.res x)).a (s.out false (s.res x)).A True) False)))
theorem LeR.imp {nf : Nat} {a a' : AAct} {A A' : AH} {R R' : Prop} (h : LeR nf a A a' A' R) (hr : R → R') : LeR nf a A a' A' R' := by
 have sub : ∀ {R R' : Prop} (xs ys : List AV), (R → R') → SubR xs ys R → SubR xs ys R' := by
  intro R R' xs
  induction xs with
  | nil => intro ys hr h; cases ys <;> simp only [SubR] at h ⊢; exact hr h
  | cons x xs ih =>
   intro ys hr h
   cases ys with
   | nil => simp [SubR] at h
   | cons y ys =>
    simp only [SubR] at h ⊢
    split at h
    ·exact ih _ hr h
    ·exact ⟨h.1, ih _ hr h.2⟩
    ·exact ⟨h.1, ih _ hr h.2⟩
 have dfs : ∀ {R R' : Prop} (xs ys : List ADef), (R → R') → DfsR xs ys R → DfsR xs ys R' := by
  intro R R' xs ys hr h
  unfold DfsR at h ⊢
  split at h
  ·exact hr h
  ·exact ⟨h.1, hr h.2⟩
 have blk : ∀ {R R' : Prop} (x y : ABlk), (R → R') → BlkR x y R → BlkR x y R' := by
  intro R R' x y hr h
  unfold BlkR at h ⊢
  split at h
  ·exact ⟨h.1, sub _ _ hr h.2⟩
  ·exact ⟨h.1, sub _ _ hr h.2⟩
  ·exact hr h
  ·exact hr h
  ·exact ⟨h.1, h.2.1, hr h.2.2⟩
  ·exact ⟨h.1, hr h.2⟩
  ·exact h
 have blks : ∀ {R R' : Prop} (xs ys : List ABlk), (R → R') → BlksR xs ys R → BlksR xs ys R' := by
  intro R R' xs
  induction xs with
  | nil => intro ys hr h; cases ys <;> simp only [BlksR] at h ⊢; exact hr h
  | cons x xs ih =>
   intro ys hr h
   cases ys with
   | nil => simp only [BlksR] at h ⊢; exact hr h
   | cons y ys => simp only [BlksR] at h ⊢; exact blk _ _ (ih _ hr) h
 have fam : ∀ {R R' : Prop} (xs ys : List (Nat × Nat)), (R → R') → FamR nf xs ys R → FamR nf xs ys R' := by
  intro R R' xs ys hr h
  unfold FamR at h ⊢
  split at h
  ·exact ⟨h.1, hr h.2⟩
  ·exact ⟨h.1, hr h.2⟩
 exact sub _ _ (dfs _ _ (blks _ _ (fam _ _ hr))) h
theorem LSt.ok {P : Program} {G : Gl} {ι ρ : Type} (s : LSt ι ρ) (meas : ι → Nat) {f k : Nat} (hrd : ∀ l, s.rd = some l → l < s.n) (hw : ∀ x, s.inv x → Whole s.n s.nf (s.fr x) (s.hp x))
  (hwo : ∀ x b, s.inv x → Whole s.n s.nf (s.out b (s.res x)).a (s.out b (s.res x)).A)
  (round : ∀ x, s.inv x → CodeJ P G s.rd (loopOf P f k) (s.fr x) (s.hp x) (s.post meas x)) : LHook.Ok P G ⟨f, k, s.spec⟩ := by
 intro rd a A K h
 rcases tfR_elim h with ⟨h1, x, h2, h3⟩ | ⟨_, h⟩
 ·simp only [Bool.and_eq_true, decide_eq_true_eq] at h1
  obtain ⟨h4, h5, rfl⟩ := h1
  obtain ⟨hO, _⟩ := LeR_elim h3
  refine LoopJ.weak h3 (hw x h2) h4 h5 (LoopJ.rule s.fr s.hp s.n s.nf s.inv meas (fun x K => bothR (s.sel (s.res x)) (K (s.out true (s.res x))) (K (s.out false (s.res x)))) hrd hw ?_ x K h2 hO)
  intro x K hx hK
  refine (round x hx).mono fun o ho => ?_
  unfold LSt.post at ho
  have fin : ∀ (b : Bool), o.e = (s.out b (s.res x)).e → (∀ c, o.e = .panic c → (c.all fun p => p.1.bnd s.n s.nf) = true) → s.sel (s.res x) = b → LeR s.nf o.a o.A (s.out b (s.res x)).a (s.out b (s.res x)).A True → EndR s.nf o K s.n := by
   intro b he hnp hsel hle
   refine ⟨_, _, hle.imp fun _ => ?_, hwo x b hx, hnp⟩
   rw [he]
   rw [hsel] at hK
   cases b <;> exact hK
  have oth : (tfR (eqE o.e (s.out true (s.res x)).e) (s.sel (s.res x) = true ∧ LeR s.nf o.a o.A (s.out true (s.res x)).a (s.out true (s.res x)).A True)
   (tfR (eqE o.e (s.out false (s.res x)).e) (s.sel (s.res x) = false ∧ LeR s.nf o.a o.A (s.out false (s.res x)).a (s.out false (s.res x)).A True)
    (panL o.e (s.out true (s.res x)).e s.n s.nf (s.sel (s.res x) = true ∧ LeR s.nf o.a o.A (s.out true (s.res x)).a (s.out true (s.res x)).A True)
     (panL o.e (s.out false (s.res x)).e s.n s.nf (s.sel (s.res x) = false ∧ LeR s.nf o.a o.A (s.out false (s.res x)).a (s.out false (s.res x)).A True) False)))) → EndR s.nf o K s.n := by
   intro h
   rcases tfR_elim h with ⟨e1, e2, e3⟩ | ⟨_, h⟩
   ·exact fin true (eqE_eq e1).1 (fun c hc => absurd hc ((eqE_eq e1).2 c)) e2 e3
   ·rcases tfR_elim h with ⟨e1, e2, e3⟩ | ⟨_, h⟩
    ·exact fin false (eqE_eq e1).1 (fun c hc => absurd hc ((eqE_eq e1).2 c)) e2 e3
    ·rcases panL_elim h with ⟨e1, e2, e3, e4⟩ | h
     ·exact fin true e1 e2 e3 e4
     ·rcases panL_elim h with ⟨e1, e2, e3, e4⟩ | h
      ·exact fin false e1 e2 e3 e4
      ·exact h.elim
  cases hoe : o.e with
  | normal =>
   rw [hoe] at ho
   obtain ⟨y, h1, h2, h3, h4⟩ := ho
   exact ⟨y, h1, h2, h4.imp fun _ => by rw [h3]; exact hK⟩
  | exit id => rw [hoe] at ho; rw [hoe] at oth; exact oth ho
  | goto l => rw [hoe] at ho; rw [hoe] at oth; exact oth ho
  | ret => rw [hoe] at ho; rw [hoe] at oth; exact oth ho
  | panic c => rw [hoe] at ho; rw [hoe] at oth; exact oth ho
 ·exact h.elim
def retIs (P : Program) (n : Nat) (v : AV) (o : AFin) : Prop :=
 match o.e with
 | .returned u => frz P o.A n u = v
 | _ => False
theorem QuietJ.ret {P : Program} {G : Gl} {f : FuncId} {args : List AV} {v : AV} (n : Nat) (ha : AV.stillL args = true) (hv : v.still = true) (h : FuncJ P G f args AH.nil (retIs P n v)) : QuietJ P G f args v :=
 QuietJ.of n ha hv (h.mono fun o ho => by
  unfold retIs at ho
  split at ho
  ·rename_i u hu; exact ⟨u, hu, ho⟩
  ·exact ho.elim)
theorem bothR_dec {p : Prop} [Decidable p] {x y : Prop} (h1 : p → x) (h2 : ¬ p → y) : bothR (decide p) x y := by
 by_cases hp : p
 ·simp only [hp, decide_true]; exact h1 hp
 ·simp only [hp, decide_false]; exact h2 hp
theorem bothR_bool {b : Bool} {x y : Prop} (h1 : b = true → x) (h2 : b = false → y) : bothR b x y := by
 cases b
 ·exact h2 rfl
 ·exact h1 rfl
abbrev iC (n : Nat) : Int := n
def argInt (v : AV) (K : Int → Prop) : Prop :=
 match v with
 | .int .i64 n => K n
 | _ => False
theorem argInt_elim {v : AV} {K : Int → Prop} (h : argInt v K) : ∃ n, v = .int .i64 n ∧ K n := by
 unfold argInt at h; split at h
 ·exact ⟨_, rfl, h⟩
 ·exact h.elim
theorem bndL_set (n nf : Nat) : ∀ (xs : List AV) (i : Nat) (x : AV), AV.bndL n nf xs = true → x.bnd n nf = true → AV.bndL n nf (setR xs i x) = true
 | xs, i, x, h, hx => by
  rw [setR_eq]
  induction xs generalizing i with
  | nil => simp [AV.bndL]
  | cons y ys ih =>
   simp only [AV.bndL, Bool.and_eq_true] at h
   cases i with
   | zero => simp [AV.bndL, hx, h.2]
   | succ i => simp [AV.bndL, h.1, ih i h.2]
theorem frm_bnd {n nf k : Nat} {l : List (Nat × AV)} (h : l.all (fun p => p.2.bnd n nf) = true) : AV.bndL n nf (frm k l).tmps = true := by
 have key : ∀ (l : List (Nat × AV)) (ts : List AV), AV.bndL n nf ts = true → l.all (fun p => p.2.bnd n nf) = true → AV.bndL n nf (l.foldl (fun ts p => setR ts p.1 p.2) ts) = true := by
  intro l
  induction l with
  | nil => intro ts h _; exact h
  | cons p l ih =>
   intro ts h1 h2
   simp only [List.all_cons, Bool.and_eq_true] at h2
   exact ih _ (bndL_set n nf ts p.1 p.2 h1 h2.1) h2.2
 refine key l _ ?_ h
 induction k with
 | zero => rfl
 | succ k ih => simp only [List.replicate_succ, AV.bndL, ih, Bool.and_true]; rfl
theorem Whole.frm {n nf k : Nat} {l : List (Nat × AV)} {A : AH} (h1 : A.blks.length = n) (h2 : A.fams.length = nf) (h3 : l.all (fun p => p.2.bnd n nf) = true) (h4 : A.blks.all (ABlk.bnd n nf) = true) : Whole n nf (Go.Am.frm k l) A :=
 ⟨h1, h2, frm_bnd h3, rfl, h4⟩
end Go.Am
end