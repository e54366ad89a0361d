/-
  One operation of the abstract machine, held against the model's: whatever the model's operation does, one of the outcomes stands for it. Conditions: none.
-/
import Derived.Test.YthoenpmifmomaaaGreatDoorAmS
noncomputable section
namespace Go.Am
open Go

inductive ADef where
  | fn (fn : Fn) (args cap : List AV)
  | mark (b : Nat)

structure AAct where
  tmps : List AV
  defers : List ADef

def AAct.get (a : AAct) (t : Nat) : AV := (nthR a.tmps t).getD .top
def AAct.eval (a : AAct) : Operand → AV
  | .tmp t => a.get t
  | .const v => ofVs v
  | .global g => .gptr g 0
  | .func f => .fn (.func f) [] []
def AAct.put (a : AAct) (dst : Option Tmp) (v : AV) : AAct :=
  match dst with
  | some d => { a with tmps := setR a.tmps d v }
  | none => a

inductive DRel (S : Sh) : ADef → Deferred → Prop
  | fn (f g : Fn) (xs ys : List AV) (us vs : List Value) : FRel S f g → LRel S xs us → LRel S ys vs → DRel S (.fn f xs ys) ⟨.fn g ⟨vs⟩, ⟨us⟩⟩
  | mark (b c : Nat) : S.ρ b = some c → DRel S (.mark b) ⟨.collected c, #[]⟩
inductive DsRel (S : Sh) : List ADef → List Deferred → Prop
  | nil : DsRel S [] []
  | cons (d : ADef) (e : Deferred) (ds : List ADef) (es : List Deferred) : DRel S d e → DsRel S ds es → DsRel S (d :: ds) (e :: es)

theorem DRel.mono {S S' : Sh} (h : S.le S') {d : ADef} {e : Deferred} : DRel S d e → DRel S' d e
  | .fn f g xs ys us vs h1 h2 h3 => .fn f g xs ys us vs (h1.mono h) (h2.mono h) (h3.mono h)
  | .mark b c h1 => .mark b c (h.ρ _ _ h1)
theorem DsRel.mono {S S' : Sh} (h : S.le S') : ∀ {ds : List ADef} {es : List Deferred}, DsRel S ds es → DsRel S' ds es
  | _, _, .nil => .nil
  | _, _, .cons _ _ _ _ h1 h2 => .cons _ _ _ _ (h1.mono h) (h2.mono h)

structure ARel (S : Sh) (a : AAct) (b : Act) : Prop where
  tmps : LRel S a.tmps b.tmps.toList
  defers : DsRel S a.defers b.defers

theorem DsRel.append {S : Sh} : ∀ {ds ds2 : List ADef} {es es2 : List Deferred}, DsRel S ds es → DsRel S ds2 es2 → DsRel S (ds ++ ds2) (es ++ es2)
  | _, _, _, _, .nil, h => h
  | _, _, _, _, .cons _ _ _ _ h1 h2, h => .cons _ _ _ _ h1 (h2.append h)

theorem ARel.mono {S S' : Sh} (h : S.le S') {a : AAct} {b : Act} (r : ARel S a b) : ARel S' a b := ⟨r.tmps.mono h, r.defers.mono h⟩

theorem ARel.eval {S : Sh} {a : AAct} {b : Act} (h : ARel S a b) (x : Operand) : VRel S (a.eval x) (b.eval x) := by
  cases x with
  | tmp t =>
    have := h.tmps.getD t
    simpa [AAct.eval, AAct.get, nthR_eq, Act.eval, Array.getD_eq_getD_getElem?] using this
  | const v => exact ofVs_rel S v
  | global g => exact .gptr g 0
  | func f => exact .fn _ _ _ _ _ _ rfl .nil .nil

theorem ARel.put {S : Sh} {a : AAct} {b : Act} (h : ARel S a b) (dst : Option Tmp) {x : AV} {v : Value} (hv : VRel S x v) : ARel S (a.put dst x) (b.put dst v) := by
  cases dst with
  | none => exact h
  | some d => exact ⟨by simpa [AAct.put, Act.put, setR_eq] using h.tmps.set d hv, h.defers⟩

theorem ARel.evals {S : Sh} {a : AAct} {b : Act} (h : ARel S a b) : ∀ (xs : List Operand), LRel S (xs.map a.eval) (xs.map b.eval)
  | [] => .nil
  | x :: xs => .cons _ _ _ _ (h.eval x) (h.evals xs)

/-- What an operation comes to. -/
inductive AR where
  | val (v : AV) (A : AH)
  | enter (f : FuncId) (args : List AV) (A : AH)
  | yield (l : Nat) (args : List AV) (A : AH)
  | dfr (d : ADef) (A : AH)
  | panic (v : AV) (A : AH)
  | recover (A : AH)

/-- The model's outcome is that one. -/
def RRel (G : Gl) (S : Sh) (A : AH) (w : World) : AR → Result Next → Prop
  | .val x A', .ok (.value v) w' => ∃ S', Inv G S' A' w' ∧ Fr S A w S' A' w' ∧ VRel S' x v
  | .val x A', .ok .skip w' => ∃ S', Inv G S' A' w' ∧ Fr S A w S' A' w' ∧ VRel S' x undef
  | .enter f xs A', .ok (.enter g vs) w' => g = f ∧ ∃ S', Inv G S' A' w' ∧ Fr S A w S' A' w' ∧ LRel S' xs vs.toList
  | .dfr d A', .ok (.defer e) w' => ∃ S', Inv G S' A' w' ∧ Fr S A w S' A' w' ∧ DRel S' d e
  | .panic x A', .halt (.panic v) w' => ∃ S', Inv G S' A' w' ∧ Fr S A w S' A' w' ∧ VRel S' x v
  | .recover A', .ok .recover w' => ∃ S', Inv G S' A' w' ∧ Fr S A w S' A' w'
  | .yield l xs A', .ok (.round c fn tmps assign body) w' => ∃ S' st pd ats ps d, Inv G S' A' w' ∧ Fr S A w S' A' w' ∧ S'.ρ l = some c ∧ A'.blks[l]? = some (.loop st pd ats ps assign body d) ∧ xs.length = ps.size ∧
      ∃ us vs, tmps = (ps.zip ⟨vs⟩).foldl (fun tmps (t, a) => tmps.setIfInBounds t a) ⟨us⟩ ∧ LRel S' ats us ∧ LRel S' xs vs ∧ ∃ s p fn', w'.heap[c]? = some (.loop { state := s, pending := p, fn := fn', tmps := ⟨us⟩, params := ps, assign := assign, body := body, defers := ((S'.ρ d).getD 0) }) ∧ fn = fn'
  | _, _ => False

theorem VOk.rrel {P : Program} {G : Gl} {S : Sh} {A A' : AH} {w : World} {s : Sem Value} {x : AV} (h : VOk P G S A w s x A') : RRel G S A w (.val x A') ((do pure (.value (← s)) : Sem Next).run P w) := by
  obtain ⟨v, w', S', r1, r2, r3, r4⟩ := h
  simp only [Sem.run_bind, r1, Result.andThen_ok, Sem.run_pure]
  exact ⟨S', r2, r3, r4⟩

section ops
variable (P : Program) (G : Gl)

def constB : Operand → Bool
  | .const _ => true
  | _ => false

/-- What the model guards at '==' does not stand in the way. -/
def gEq (t : TypeId) (x y : Operand) : AV → AV → Bool
  | .nili, .nili => constB x || constB y
  | .agg _, .agg _ => !P.eqGuardType P.depth t
  | .top, _ => false
  | _, .top => false
  | .sym _, _ => false
  | _, .sym _ => false
  | _, _ => true

def aGuard (op : BinOp) (t : TypeId) (x y : Operand) (u v : AV) : Bool :=
  match op with
  | .eql => gEq P t x y u v
  | .neq => gEq P t x y u v
  | _ => true

/-- Neither two numbers nor two strings, and both known. -/
def AV.plain : AV → AV → Bool
  | .top, _ => false
  | _, .top => false
  | .sym _, _ => false
  | _, .sym _ => false
  | .int _ _, .int _ _ => false
  | .str _, .str _ => false
  | _, _ => true

def aBin (A : AH) (op : BinOp) (t : TypeId) (x y : Operand) (u v : AV) : Option AV :=
  if aGuard P op t x y u v then
    match u, v with
    | .int k a, .int k' b =>
      match op with
      | .shl | .shr => aInt op k a b
      | _ => if k = k' then aInt op k a b else none
    | .str a, .str b => aStr op a b
    | u, v =>
      match op with
      | .eql => if AV.plain u v then (aEq P A 10000 t u v).map .bool else none
      | .neq => if AV.plain u v then (aEq P A 10000 t u v).map fun b => .bool !b else none
      | _ => none
  else none

variable {P G}
theorem gEq_ok {S : Sh} {op : BinOp} {t : TypeId} {x y : Operand} {u v : AV} {p q : Value} (hop : op = .eql ∨ op = .neq) (h : gEq P t x y u v = true) (hu : VRel S u p) (hv : VRel S v q) (w : World) : (eqGuard op t x y p q).run P w = .ok () w := by
  have e : eqGuard op t x y p q = eqGuard .eql t x y p q := by rcases hop with rfl | rfl <;> rfl
  rw [e]
  unfold eqGuard
  simp only [Bool.not_true, Bool.false_eq_true, if_false]
  cases hu <;> cases hv <;> simp only [gEq, Bool.false_eq_true] at h <;> first
    | rfl
    | (simp only [Bool.not_eq_true'] at h; simp [h]; done)
    | skip
  simp only [Bool.or_eq_true] at h
  rcases h with h | h
  · cases x <;> first | rfl | cases h
  · cases y <;> first | (cases x <;> rfl) | cases h

theorem aGuard_ok {S : Sh} {op : BinOp} {t : TypeId} {x y : Operand} {u v : AV} {p q : Value} (h : aGuard P op t x y u v = true) (hu : VRel S u p) (hv : VRel S v q) (w : World) : (eqGuard op t x y p q).run P w = .ok () w := by
  by_cases h1 : op = .eql
  · subst h1; exact gEq_ok (.inl rfl) h hu hv w
  · by_cases h2 : op = .neq
    · subst h2; exact gEq_ok (.inr rfl) h hu hv w
    · have : eqGuard op t x y p q = pure () := by cases op <;> first | rfl | exact absurd rfl h1 | exact absurd rfl h2
      rw [this]; rfl

theorem binOp_eq {S : Sh} {t : TypeId} {u v : AV} {p q : Value} (h : AV.plain u v = true) (hu : VRel S u p) (hv : VRel S v q) :
    binOp .eql t p q = (do pure (.bool (← Op.equal t p q))) ∧ binOp .neq t p q = (do pure (.bool (!(← Op.equal t p q)))) := by
  cases hu <;> cases hv <;> first
    | (simp only [AV.plain, Bool.false_eq_true] at h; done)
    | exact ⟨rfl, rfl⟩

theorem aBin_ok {S : Sh} {A : AH} {w : World} (h : Inv G S A w) {op : BinOp} {t : TypeId} {x y : Operand} {u v z : AV} {p q : Value} (hx : aBin P A op t x y u v = some z) (hu : VRel S u p) (hv : VRel S v q) :
    ∃ r, (do eqGuard op t x y p q; binOp op t p q : Sem Value).run P w = .ok r w ∧ VRel S z r := by
  unfold aBin at hx
  split at hx
  · rename_i hg
    simp only [Sem.run_bind, aGuard_ok (P := P) hg hu hv w, Result.andThen_ok]
    split at hx
    · rename_i k a k' b
      cases hu; cases hv
      split at hx
      · exact aInt_ok (.inr (.inl rfl)) hx S t w
      · exact aInt_ok (.inr (.inr rfl)) hx S t w
      · split at hx
        · rename_i hk; exact aInt_ok (.inl hk) hx S t w
        · cases hx
    · cases hu; cases hv
      exact aStr_ok hx S t w
    · split at hx
      · split at hx
        · rename_i hp
          simp only [Option.map_eq_some_iff] at hx
          obtain ⟨b, hb, rfl⟩ := hx
          have := aEq_ok h 10000 t u v b p q hb hu hv
          refine ⟨.bool b, ?_, .bool _⟩
          rw [(binOp_eq hp hu hv).1]
          simp [Op.equal, Op.maxDepth, this]
        · cases hx
      · split at hx
        · rename_i hp
          simp only [Option.map_eq_some_iff] at hx
          obtain ⟨b, hb, rfl⟩ := hx
          have := aEq_ok h 10000 t u v b p q hb hu hv
          refine ⟨.bool !b, ?_, .bool _⟩
          rw [(binOp_eq hp hu hv).2]
          simp [Op.equal, Op.maxDepth, this]
        · cases hx
      · cases hx
  · cases hx

def aUn (op : UnOp) (x : AV) : Option AV :=
  match op, x with
  | .neg, .int k n => some (.int k (k.wrap (0 - n)))
  | .not, .bool b => some (.bool !b)
  | .xor, .int k n => aInt .xor k (if k.signed then -1 else k.max) n
  | _, _ => none

theorem aUn_ok {S : Sh} {op : UnOp} {x y : AV} {u : Value} (hx : aUn op x = some y) (hu : VRel S x u) (w : World) : ∃ v, (Op.unary op u).run P w = .ok v w ∧ VRel S y v := by
  unfold aUn at hx
  split at hx
  · cases hx; cases hu; exact ⟨_, rfl, .int _ _⟩
  · cases hx; cases hu; exact ⟨_, rfl, .bool _⟩
  · rename_i k n
    cases hu
    simp only [aInt, Option.some.injEq] at hx
    subst hx
    exact ⟨_, rfl, .int _ _⟩
  · cases hx

variable (P) in
/-- A call of a function of the program's. -/
def aEnter (f : FuncId) (args : List AV) (A : AH) : Option AR :=
  match P.funcs[f]? with
  | some fn => if fn.name ≠ "runtime.NumGoroutine" ∧ fn.body.isSome then some (.enter f args A) else none
  | none => none

theorem aEnter_ok {S : Sh} {A : AH} {w : World} (h : Inv G S A w) {f : FuncId} {args : List AV} {vs : Array Value} {r : AR} (hx : aEnter P f args A = some r) (hl : LRel S args vs.toList) : RRel G S A w r ((callFunc f vs).run P w) := by
  unfold aEnter at hx
  split at hx
  · rename_i fn hf
    split at hx <;> cases hx
    rename_i hc
    obtain ⟨h1, h2⟩ := hc
    have hb : ¬ fn.body = none := by intro hbb; simp [hbb] at h2
    have : (callFunc f vs).run P w = .ok (.enter f vs) w := by
      simp [callFunc, hf, h1, hb]
    rw [this]
    exact ⟨rfl, S, h, Fr.refl S A w, hl⟩
  · cases hx

variable (P G) in
/-- What is called through a function value. -/
def aInvoke (A : AH) (fn : Fn) (args cap : List AV) : Option AR :=
  match fn with
  | .func f => aEnter P f (args ++ cap) A
  | .method name =>
    match args with
    | .iface t v :: rest =>
      match aMethod P G A (P.types.size + Made.depth) t v name with
      | some (f, r) => aEnter P f (r :: rest) A
      | none => none
    | _ => none
  | .methodOf t name =>
    match P.underlying t, args with
    | some (.interface _), .iface t' v :: rest =>
      match aMethod P G A (P.types.size + Made.depth) t' v name with
      | some (f, r) => aEnter P f (r :: rest) A
      | none => none
    | some (.interface _), _ => none
    | some _, v :: rest =>
      match aMethod P G A (P.types.size + Made.depth) t v name with
      | some (f, r) => aEnter P f (r :: rest) A
      | none => none
    | _, _ => none
  | .via t path f pr =>
    match args with
    | x :: rest =>
      match aFollow P G A path.toList t (.val x) with
      | some (xt, p) =>
        match aRecv P G A xt p pr with
        | some r => aEnter P f (r :: rest) A
        | none => none
      | none => none
    | [] => none
  | .yield l =>
    match A.blks[l]? with
    | some (.loop _ _ _ ps _ _ _) => if args.length = ps.size then some (.yield l args A) else none
    | _ => none

theorem aInvoke_ok {S : Sh} {A : AH} {w : World} (h : Inv G S A w) {fn g : Fn} {args cap : List AV} {us vs : List Value} {r : AR} (hx : aInvoke P G A fn args cap = some r) (hf : FRel S fn g) (ha : LRel S args us) (hc : LRel S cap vs) :
    RRel G S A w r ((invoke (.fn g ⟨vs⟩) ⟨us⟩).run P w) := by
  unfold aInvoke at hx
  split at hx
  · rename_i f
    cases hf
    have : invoke (.fn (.func f) ⟨vs⟩) ⟨us⟩ = callFunc f ⟨us ++ vs⟩ := by simp [invoke]
    rw [this]
    exact aEnter_ok h hx (ha.append hc)
  · rename_i name
    cases hf
    split at hx
    · rename_i t v rest
      cases ha with
      | cons _ _ u us' hu hr =>
      cases hu with
      | iface _ _ u' hv =>
      split at hx
      · rename_i f r' hm
        obtain ⟨rv, m1, m2⟩ := aMethod_ok h _ t v u' name f r' hm hv
        have key := aEnter_ok (w := w) h hx (vs := ⟨rv :: us'⟩) (.cons _ _ _ _ m2 hr)
        have e : (invoke (.fn (.method name) ⟨vs⟩) ⟨.iface t u' :: us'⟩).run P w = (callFunc f ⟨rv :: us'⟩).run P w := by
          have e2 : (#[rv] : Array Value) ++ (⟨.iface t u' :: us'⟩ : Array Value).extract 1 (us'.length + 1) = ⟨rv :: us'⟩ := by apply Array.ext'; simp
          simp only [invoke, callMethod, List.getElem?_toArray, List.getElem?_cons_zero, Sem.run_bind, run_program, Result.andThen_ok, m1]
          simp only [List.size_toArray, List.length_cons]
          rw [e2]
        rw [e]; exact key
      · cases hx
    · cases hx
  · rename_i t name
    cases hf
    split at hx
    · rename_i ms t' v rest hd
      cases ha with
      | cons _ _ u us' hu hr =>
      cases hu with
      | iface _ _ u' hv =>
      split at hx
      · rename_i f r' hm
        obtain ⟨rv, m1, m2⟩ := aMethod_ok h _ t' v u' name f r' hm hv
        have key := aEnter_ok (w := w) h hx (vs := ⟨rv :: us'⟩) (.cons _ _ _ _ m2 hr)
        have e : (invoke (.fn (.methodOf t name) ⟨vs⟩) ⟨.iface t' u' :: us'⟩).run P w = (callFunc f ⟨rv :: us'⟩).run P w := by
          have e2 : (#[rv] : Array Value) ++ (⟨.iface t' u' :: us'⟩ : Array Value).extract 1 (us'.length + 1) = ⟨rv :: us'⟩ := by apply Array.ext'; simp
          simp only [invoke, callMethod, List.getElem?_toArray, List.getElem?_cons_zero, Sem.run_bind, run_underlying hd, run_program, Result.andThen_ok, m1]
          simp only [List.size_toArray, List.length_cons]
          rw [e2]
        rw [e]; exact key
      · cases hx
    · cases hx
    · rename_i d v rest hne1 hne2 hd
      cases ha with
      | cons _ _ u us' hu hr =>
      split at hx
      · rename_i f r' hm
        obtain ⟨rv, m1, m2⟩ := aMethod_ok h _ t v u name f r' hm hu
        have key := aEnter_ok (w := w) h hx (vs := ⟨rv :: us'⟩) (.cons _ _ _ _ m2 hr)
        have hd' : ∀ ms, d ≠ .interface ms := fun ms e => hne2 ms e
        have e : (invoke (.fn (.methodOf t name) ⟨vs⟩) ⟨u :: us'⟩).run P w = (callFunc f ⟨rv :: us'⟩).run P w := by
          have e2 : (#[rv] : Array Value) ++ (⟨u :: us'⟩ : Array Value).extract 1 (us'.length + 1) = ⟨rv :: us'⟩ := by apply Array.ext'; simp
          simp only [invoke, List.getElem?_toArray, List.getElem?_cons_zero, Sem.run_bind, run_underlying hd, Result.andThen_ok]
          cases d <;> first
            | exact absurd rfl (hd' _)
            | (simp only [callMethod, Sem.run_bind, run_program, Result.andThen_ok, m1, List.size_toArray, List.length_cons]
               rw [e2])
        rw [e]; exact key
      · cases hx
    · cases hx
  · rename_i t path f pr
    cases hf
    split at hx
    · rename_i x rest
      cases ha with
      | cons _ _ u us' hu hr =>
      split at hx
      · rename_i xt p hfol
        split at hx
        · rename_i r' hrec
          obtain ⟨q, r1, r2⟩ := aFollow_ok h path.toList t (.val x) (.val u) _ hfol hu
          obtain ⟨rv, m1, m2⟩ := aRecv_ok (wr := none) h hrec r2
          have key := aEnter_ok (w := w) h hx (vs := ⟨rv :: us'⟩) (.cons _ _ _ _ m2 hr)
          have e : (invoke (.fn (.via t path f pr) ⟨vs⟩) ⟨u :: us'⟩).run P w = (callFunc f ⟨rv :: us'⟩).run P w := by
            have e2 : (#[rv] : Array Value) ++ (⟨u :: us'⟩ : Array Value).extract 1 (us'.length + 1) = ⟨rv :: us'⟩ := by apply Array.ext'; simp
            simp only [invoke, List.getElem?_toArray, List.getElem?_cons_zero, receiverVia, Sem.run_bind, r1, Result.andThen_ok, m1, List.size_toArray, List.length_cons]
            rw [e2]
          rw [e]; exact key
        · cases hx
      · cases hx
    · cases hx
  · rename_i l
    obtain ⟨c, hcl, rfl⟩ := hf
    split at hx
    · rename_i st pd ts ps as bd df hb
      split at hx <;> cases hx
      rename_i hlen
      obtain ⟨c', o, s1, s2, s3⟩ := h.blk l _ hb (by simp)
      obtain rfl := Option.some.inj (s1.symm.trans hcl)
      cases s3 with
      | loop _ _ _ tvs _ _ _ _ d fn' htl hd =>
      have hg := run_getObj (P := P) s2 (by simp)
      have hsz : ¬ us.length ≠ ps.size := by rw [← ha.length]; simp [hlen]
      have e : (invoke (.fn (.yield c') ⟨vs⟩) ⟨us⟩).run P w = .ok (.round c' fn' ((ps.zip ⟨us⟩).foldl (fun tmps (t, a) => tmps.setIfInBounds t a) ⟨tvs⟩) as bd) w := by
        simp only [invoke, Instr.yield, Instr.getLoop, Sem.run_bind, hg, Result.andThen_ok, Sem.run_pure, List.size_toArray]
        rw [if_neg hsz]
        rfl
      rw [e]
      exact ⟨S, st, pd, ts, ps, df, h, Fr.refl S A w, hcl, hb, hlen, tvs, us, rfl, htl, ha, st, pd, fn', by rw [hd]; exact s2, rfl⟩
    · cases hx

def AV.isRow : AV → Bool
  | .row _ _ _ => true
  | _ => false

variable (P G) in
/-- A call. -/
def aCall (mu : Bool) (A : AH) (ev : Operand → AV) (c : Call) : Option AR :=
  match c.callee with
  | .value f =>
    match ev f with
    | .fn fn first cap => aInvoke P G A fn (first ++ c.args.toList.map ev) cap
    | _ => none
  | .invoke recv name =>
    match ev recv with
    | .iface t v =>
      match aMethod P G A (P.types.size + Made.depth) t v name with
      | some (f, r) => aEnter P f (r :: c.args.toList.map ev) A
      | none => none
    | _ => none
  | .builtin b =>
    match b, c.args.toList with
    | .append, [x, y] =>
      match (if mu || (ev x).isRow then aAppendR P A c.argTypes (ev x) (ev y).weak else aAppend P A c.argTypes (ev x) (ev y).weak) with
      | some (v, A') => some (.val v A')
      | none => (aAppendZ P A c.argTypes (ev x) (ev y)).map fun (v, A') => .val v A'
    | .len, [x] => (aLenB P A c.argTypes (ev x).weak).map fun v => .val v A
    | .copy, [x, y] =>
      match aCopy P A c.argTypes (ev x).weak (ev y).weak with
      | some (v, A') => some (.val v A')
      | none => (aCopy0 P c.argTypes (ev x).weak (ev y).weak).map fun v => .val v A
    | .cap, [x] => (aCapB P c.argTypes (ev x)).map fun v => .val v A
    | .clear, [x] => (aClear P A c.argTypes (ev x).weak).map fun (v, A') => .val v A'
    | .max, x :: xs => (aMaxs true (ev x) (xs.map ev)).map fun v => .val v A
    | .min, x :: xs => (aMaxs false (ev x) (xs.map ev)).map fun v => .val v A
    | .recover, [] => some (.recover A)
    | _, _ => none

theorem aCall_ok {mu : Bool} {S : Sh} {A : AH} {w : World} (h : Inv G S A w) {a : AAct} {b : Act} (hab : ARel S a b) {c : Call} {ty : TypeId} {r : AR} (hx : aCall P G mu A a.eval c = some r) :
    RRel G S A w r ((do let d ← resolve b.eval c ty; invoke d.target d.args : Sem Next).run P w) := by
  have hargs := hab.evals c.args.toList
  have hmap : (c.args.map b.eval) = ⟨c.args.toList.map b.eval⟩ := by apply Array.ext'; simp
  unfold aCall at hx
  split at hx
  · rename_i f hcal
    split at hx
    · rename_i fn first cap hev
      have hv := hab.eval f
      rw [hev] at hv
      generalize hbv : b.eval f = bv at hv
      cases hv with
      | fn _ g _ _ us vs hf hfst hcap =>
      have key := aInvoke_ok (w := w) h hx hf (hfst.append hargs) hcap
      have e : (do let d ← resolve b.eval c ty; invoke d.target d.args : Sem Next).run P w = (invoke (.fn g ⟨vs⟩) ⟨us ++ c.args.toList.map b.eval⟩).run P w := by
        simp only [resolve, hcal, Deferred.ofValue, hbv, hmap, pure_bind]
        simp
      rw [e]; exact key
    · cases hx
  · rename_i recv name hcal
    split at hx
    · rename_i t v hev
      have hv := hab.eval recv
      rw [hev] at hv
      generalize hbv : b.eval recv = bv at hv
      cases hv with
      | iface _ _ u hu =>
      split at hx
      · rename_i f r' hm
        obtain ⟨rv, m1, m2⟩ := aMethod_ok h _ t v u name f r' hm hu
        have key := aEnter_ok (w := w) h hx (vs := ⟨rv :: c.args.toList.map b.eval⟩) (.cons _ _ _ _ m2 hargs)
        have e : (do let d ← resolve b.eval c ty; invoke d.target d.args : Sem Next).run P w = (callFunc f ⟨rv :: c.args.toList.map b.eval⟩).run P w := by
          have e3 : (#[Value.iface t u] : Array Value) ++ (⟨c.args.toList.map b.eval⟩ : Array Value) = ⟨.iface t u :: c.args.toList.map b.eval⟩ := by apply Array.ext'; simp
          have e2 : (#[rv] : Array Value) ++ (⟨.iface t u :: c.args.toList.map b.eval⟩ : Array Value).extract 1 ((c.args.toList.map b.eval).length + 1) = ⟨rv :: c.args.toList.map b.eval⟩ := by
            apply Array.ext'; simp; exact List.take_of_length_le (by simp)
          simp only [resolve, hcal, hbv, hmap, pure_bind, e3]
          simp only [invoke, callMethod, List.getElem?_toArray, List.getElem?_cons_zero, Sem.run_bind, run_program, Result.andThen_ok, m1]
          simp only [List.size_toArray, List.length_cons]
          rw [e2]
        rw [e]; exact key
      · cases hx
    · cases hx
  · rename_i bi hcal
    have hres : ∀ (k : Sem Next), (∀ ds, (builtin bi c.argTypes ty ds ⟨c.args.toList.map b.eval⟩).run P w = k.run P w) → (do let d ← resolve b.eval c ty; invoke d.target d.args : Sem Next).run P w = k.run P w := by
      intro k hk
      simp only [resolve, hcal, hmap, pure_bind, invoke]
      exact hk _
    split at hx
    · rename_i x y hl
      rw [hres (do pure (.value (← Builtin.append_ c.argTypes ty #[b.eval x, b.eval y]))) (fun ds => by simp [builtin, hl])]
      split at hx
      · rename_i v A' h1
        cases hx
        split at h1
        · exact (aAppendR_ok h h1 (hab.eval x) (hab.eval y).weak).rrel
        · exact (aAppend_ok h h1 (hab.eval x) (hab.eval y).weak).rrel
      · simp only [Option.map_eq_some_iff] at hx
        obtain ⟨⟨v, A'⟩, h1, rfl⟩ := hx
        exact (aAppendZ_ok h h1 (hab.eval x) (hab.eval y)).rrel
    · rename_i x hl
      simp only [Option.map_eq_some_iff] at hx
      obtain ⟨v, h1, rfl⟩ := hx
      obtain ⟨u, r1, r2⟩ := aLenB_ok (ty := ty) h h1 (hab.eval x).weak
      rw [hres (do pure (.value (← Builtin.len_ c.argTypes ty #[b.eval x]))) (fun ds => by simp [builtin, hl])]
      simp only [Sem.run_bind, r1, Result.andThen_ok, Sem.run_pure]
      exact ⟨S, h, Fr.refl S A w, r2⟩
    · rename_i x y hl
      rw [hres (do pure (.value (← Builtin.copy_ c.argTypes ty #[b.eval x, b.eval y]))) (fun ds => by simp [builtin, hl])]
      split at hx
      · rename_i v A' h1
        cases hx
        exact (aCopy_ok h h1 (hab.eval x).weak (hab.eval y).weak).rrel
      · simp only [Option.map_eq_some_iff] at hx
        obtain ⟨v, h1, rfl⟩ := hx
        obtain ⟨u, r1, r2⟩ := aCopy0_ok (ty := ty) h1 (hab.eval x).weak (hab.eval y).weak w
        simp only [Sem.run_bind, r1, Result.andThen_ok, Sem.run_pure]
        exact ⟨S, h, Fr.refl S A w, r2⟩
    · rename_i x hl
      simp only [Option.map_eq_some_iff] at hx
      obtain ⟨v, h1, rfl⟩ := hx
      obtain ⟨u, r1, r2⟩ := aCapB_ok (ty := ty) h1 (hab.eval x) w
      rw [hres (do pure (.value (← Builtin.cap_ c.argTypes ty #[b.eval x]))) (fun ds => by simp [builtin, hl])]
      simp only [Sem.run_bind, r1, Result.andThen_ok, Sem.run_pure]
      exact ⟨S, h, Fr.refl S A w, r2⟩
    · rename_i x hl
      simp only [Option.map_eq_some_iff] at hx
      obtain ⟨⟨v, A'⟩, h1, rfl⟩ := hx
      rw [hres (do pure (.value (← Builtin.clear_ c.argTypes ty #[b.eval x]))) (fun ds => by simp [builtin, hl])]
      exact (aClear_ok h h1 (hab.eval x).weak).rrel
    · rename_i x xs hl
      simp only [Option.map_eq_some_iff] at hx
      obtain ⟨v, h1, rfl⟩ := hx
      obtain ⟨u, r1, r2⟩ := aMaxs_ok (P := P) w _ _ _ _ _ h1 (hab.eval x) (hab.evals xs)
      rw [hres (do pure (.value (← Builtin.max_ c.argTypes ty ⟨b.eval x :: xs.map b.eval⟩))) (fun ds => by simp [builtin, hl])]
      have : (Builtin.max_ c.argTypes ty ⟨b.eval x :: xs.map b.eval⟩).run P w = .ok u w := by simpa [Builtin.max_] using r1
      simp only [Sem.run_bind, this, Result.andThen_ok, Sem.run_pure]
      exact ⟨S, h, Fr.refl S A w, r2⟩
    · rename_i x xs hl
      simp only [Option.map_eq_some_iff] at hx
      obtain ⟨v, h1, rfl⟩ := hx
      obtain ⟨u, r1, r2⟩ := aMaxs_ok (P := P) w _ _ _ _ _ h1 (hab.eval x) (hab.evals xs)
      rw [hres (do pure (.value (← Builtin.min_ c.argTypes ty ⟨b.eval x :: xs.map b.eval⟩))) (fun ds => by simp [builtin, hl])]
      have : (Builtin.min_ c.argTypes ty ⟨b.eval x :: xs.map b.eval⟩).run P w = .ok u w := by simpa [Builtin.min_] using r1
      simp only [Sem.run_bind, this, Result.andThen_ok, Sem.run_pure]
      exact ⟨S, h, Fr.refl S A w, r2⟩
    · rename_i hl
      cases hx
      rw [hres (pure .recover) (fun ds => by simp [builtin])]
      exact ⟨S, h, Fr.refl S A w⟩
    · cases hx

end ops
end Go.Am
