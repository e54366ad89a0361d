/-
  The abstract machine's operations on numbers, strings and parts, and what is equal, each held against the model's. Conditions: none.
-/
import Derived.Test.YthoenpmifmomaaaGreatDoorAm3
import Derived.Laws.Strings
namespace Go.Am
open Go

section parts
variable (P : Program)
/-- A part of a struct or an array. -/
def aPart (t : TypeId) (cs : List AV) (off : Nat) : Option AV :=
  match tAgg P t, tSize P t with
  | some true, some n => if off + n ≤ cs.length then some (.agg ((cs.drop off).take n)) else none
  | some false, _ => cs[off]?
  | _, _ => none

variable {P}
theorem aPart_ok {S : Sh} {t : TypeId} {cs : List AV} {vs : List Value} {off : Nat} {x : AV} (h : LRel S cs vs) (hx : aPart P t cs off = some x) (w : World) :
    ∃ v, (part t ⟨vs⟩ off).run P w = .ok v w ∧ VRel S x v := by
  unfold aPart at hx
  split at hx
  · rename_i n hagg hn
    split at hx <;> cases hx
    refine ⟨.agg ⟨(vs.drop off).take n⟩, ?_, .agg _ _ ((h.drop off).take n)⟩
    simp [part, run_isAgg hagg, run_sizeOf hn]
  · rename_i hagg
    obtain ⟨v, h1, h2⟩ := h.get off x hx
    exact ⟨v, by simp [part, run_isAgg hagg, h1], h2⟩
  · cases hx
end parts

/-! ### Numbers, strings -/
def aInt (op : BinOp) (k : IntKind) (a b : Int) : Option AV :=
  match op with
  | .add => some (.int k (k.wrap (a + b)))
  | .sub => some (.int k (k.wrap (a - b)))
  | .mul => some (.int k (k.wrap (a * b)))
  | .quo => if b = 0 then none else some (.int k (k.wrap (a.tdiv b)))
  | .rem => if b = 0 then none else some (.int k (a.tmod b))
  | .and => some (.int k (k.wrap (BitVec.ofInt k.bits a &&& BitVec.ofInt k.bits b).toNat))
  | .or => some (.int k (k.wrap (BitVec.ofInt k.bits a ||| BitVec.ofInt k.bits b).toNat))
  | .xor => some (.int k (k.wrap (BitVec.ofInt k.bits a ^^^ BitVec.ofInt k.bits b).toNat))
  | .andNot => some (.int k (k.wrap (BitVec.ofInt k.bits a &&& ~~~BitVec.ofInt k.bits b).toNat))
  | .eql => some (.bool (decide (a = b)))
  | .neq => some (.bool (!decide (a = b)))
  | .lss => some (.bool (decide (a < b)))
  | .leq => some (.bool (decide (a ≤ b)))
  | .gtr => some (.bool (decide (b < a)))
  | .geq => some (.bool (decide (b ≤ a)))
  | .shl => if b < 0 then none else some (.int k (k.wrap (a * 2 ^ (min b.toNat k.bits))))
  | .shr => if b < 0 then none else some (.int k (a.fdiv (2 ^ (min b.toNat k.bits))))

theorem aInt_ok {P : Program} {op : BinOp} {k k' : IntKind} {a b : Int} {x : AV} (hk : k = k' ∨ op = .shl ∨ op = .shr) (hx : aInt op k a b = some x) (S : Sh) (t : TypeId) (w : World) :
    ∃ v, (binOp op t (.int k a) (.int k' b)).run P w = .ok v w ∧ VRel S x v := by
  cases op <;> simp only [aInt, Option.some.injEq] at hx <;> (try (split at hx <;> simp only [Option.some.injEq, reduceCtorEq] at hx)) <;> subst hx <;>
    first
      | (obtain rfl : k = k' := by simpa using hk
         simp only [binOp, Op.intArith, Op.intBits, Op.intCmp, Op.intDiv, ne_eq, not_true_eq_false, if_false]
         first
           | exact ⟨_, rfl, by first | exact .int _ _ | exact .bool _⟩
           | (rename_i hb; simp only [if_neg hb]; exact ⟨_, rfl, .int _ _⟩)
           | (refine ⟨_, rfl, ?_⟩; first | (rw [show (a == b) = decide (a = b) from rfl]; exact .bool _) | (rw [show (a != b) = !decide (a = b) from rfl]; exact .bool _)))
      | (rename_i hb
         simp only [binOp, Op.shift, if_neg hb]
         exact ⟨_, rfl, .int _ _⟩)

def aStr (op : BinOp) (a b : List UInt8) : Option AV :=
  match op with
  | .add => if ((a.length + b.length : Nat) : Int) > IntKind.i64.max then none else some (.str (a ++ b))
  | .eql => some (.bool (decide (a = b)))
  | .neq => some (.bool (!decide (a = b)))
  | .lss => some (.bool (Op.bytesLess a b))
  | .leq => some (.bool (Op.bytesLess a b || decide (a = b)))
  | .gtr => some (.bool (!(Op.bytesLess a b || decide (a = b))))
  | .geq => some (.bool (!(Op.bytesLess a b)))
  | _ => none

theorem byteArray_append (a b : List UInt8) : (ByteArray.mk a.toArray ++ ByteArray.mk b.toArray) = ByteArray.mk (a ++ b).toArray := by
  apply ByteArray.ext
  simp

theorem aStr_ok {P : Program} {op : BinOp} {a b : List UInt8} {x : AV} (hx : aStr op a b = some x) (S : Sh) (t : TypeId) (w : World) :
    ∃ v, (binOp op t (.string ⟨a.toArray⟩) (.string ⟨b.toArray⟩)).run P w = .ok v w ∧ VRel S x v := by
  have hb : (a == b) = decide (a = b) := by rw [Bool.eq_iff_iff]; simp
  cases op <;> simp only [aStr, Option.some.injEq, reduceCtorEq] at hx <;> (try (split at hx <;> simp only [Option.some.injEq, reduceCtorEq] at hx)) <;> subst hx <;>
    simp only [binOp, Op.stringOp, ByteArray.toList_mk, hb]
  · rename_i hs
    have : ((ByteArray.mk a.toArray).size + (ByteArray.mk b.toArray).size : Nat) = a.length + b.length := rfl
    rw [if_neg (by rw [this]; exact hs), byteArray_append]
    exact ⟨_, rfl, .str _⟩
  all_goals exact ⟨_, rfl, .bool _⟩

/-! ### What is equal -/
section equal
variable (P : Program)

def aliveB (A : AH) (b : Nat) : Bool :=
  match A.blks[b]? with
  | some (.cells ..) => true
  | _ => false

def aEqs (eq : TypeId → AV → AV → Option Bool) : List Field → List AV → List AV → Option Bool
  | [], _, _ => some true
  | f :: fs, xs, ys =>
    if f.name ≠ "_" then
      match aPart P f.type xs f.offset, aPart P f.type ys f.offset with
      | some x, some y =>
        match eq f.type x y with
        | some true => aEqs eq fs xs ys
        | some false => some false
        | none => none
      | _, _ => none
    else aEqs eq fs xs ys

def aEq (A : AH) : Nat → TypeId → AV → AV → Option Bool
  | 0, _, _, _ => none
  | d + 1, t, x, y =>
    match P.underlying t, x, y with
    | some .bool, .bool a, .bool b => some (a == b)
    | some (.int _), .int k a, .int k' b => if k = k' then some (decide (a = b)) else none
    | some .string, .str a, .str b => some (decide (a = b))
    | some (.pointer _), .nilp, .nilp => some true
    | some (.pointer _), .nilp, .ptr _ _ | some (.pointer _), .nilp, .iptr _ | some (.pointer _), .nilp, .gptr _ _ => some false
    | some (.pointer _), .ptr _ _, .nilp | some (.pointer _), .iptr _, .nilp | some (.pointer _), .gptr _ _, .nilp => some false
    | some (.pointer e), .ptr b o, .ptr b' o' =>
      match tSize P e with
      | some (_ + 1) => if aliveB A b && aliveB A b' then some (b == b' && o == o') else none
      | _ => none
    | some (.interface _), .nili, .nili => some true
    | some (.interface _), .nili, .iface _ _ | some (.interface _), .iface _ _, .nili => some false
    | some (.interface _), .iface tx vx, .iface ty vy =>
      if tx ≠ ty then some false else
      match P.info? tx with
      | some i => if i.comparable then aEq A d tx vx vy else none
      | none => none
    | some (.struct fields), .agg xs, .agg ys => if P.stoodInHeld t then none else aEqs P (aEq A d) fields.toList xs ys
    | some (.slice _), .isl true _ _ _, .isl true _ _ _ => some true
    | some (.slice _), .isl true _ _ _, .isl false _ _ _ | some (.slice _), .isl false _ _ _, .isl true _ _ _ => some false
    | some (.slice _), .isl true _ _ _, .msl .. | some (.slice _), .msl .., .isl true _ _ _ => some false
    | some (.map _ _), .nilm, .nilm => some true
    | some (.map _ _), .nilm, .map _ | some (.map _ _), .map _, .nilm => some false
    | some (.func _ _ _), .nilf, .nilf => some true
    | some (.func _ _ _), .nilf, .fn .. | some (.func _ _ _), .fn .., .nilf => some false
    | _, _, _ => none

variable {P}

theorem bytes_beq (a b : List UInt8) : ((ByteArray.mk a.toArray) == (ByteArray.mk b.toArray)) = decide (a = b) := by
  show (a.toArray == b.toArray) = decide (a = b)
  rw [Bool.eq_iff_iff, beq_iff_eq, decide_eq_true_eq]
  simp

theorem aliveB_live {A : AH} {b : Nat} (h : aliveB A b = true) : ∃ cs el, A.blks[b]? = some (.cells cs el) := by
  unfold aliveB at h
  split at h
  · rename_i cs el hb; exact ⟨cs, el, hb⟩
  · cases h

/-- Two places of blocks of the call's own. -/
theorem sameAddr_ok {G : Gl} {S : Sh} {A : AH} {w : World} (h : Inv G S A w) {b b' o o' c c' : Nat} (hb : aliveB A b = true) (hb' : aliveB A b' = true) (hc : S.ρ b = some c) (hc' : S.ρ b' = some c') :
    (sameAddr ⟨c, o, none⟩ ⟨c', o', none⟩).run P w = .ok (b == b' && o == o') w := by
  obtain ⟨cs, el, hl⟩ := aliveB_live hb
  obtain ⟨cs', el', hl'⟩ := aliveB_live hb'
  obtain ⟨d, x, h1, h2, h3⟩ := h.blk b _ hl (by simp)
  obtain rfl := Option.some.inj (h1.symm.trans hc)
  obtain ⟨d', x', h1', h2', h3'⟩ := h.blk b' _ hl' (by simp)
  obtain rfl := Option.some.inj (h1'.symm.trans hc')
  cases h3 with
  | cells _ _ vs rest _ =>
  cases h3' with
  | cells _ _ vs' rest' _ =>
  unfold sameAddr
  by_cases hd : d = d'
  · subst hd
    obtain rfl := h.inj b b' d ⟨_, hl, by simp⟩ ⟨_, hl', by simp⟩ hc hc'
    simp only [beq_self_eq_true, if_true, Sem.run_pure, Bool.true_and]
    congr 1
    rw [Bool.eq_iff_iff]; simp
  · have hbb : (b == b') = false := by
      simp only [beq_eq_false_iff_ne]; rintro rfl
      exact hd (Option.some.inj (hc.symm.trans hc'))
    have f1 : ∀ k, w.frozen? ⟨d, k, none⟩ = false := fun k => by unfold World.frozen?; simp [h2]
    have f2 : ∀ k, w.frozen? ⟨d', k, none⟩ = false := fun k => by unfold World.frozen?; simp [h2']
    have s1 : w.shape? d = some (el, (vs ++ rest).length) := by unfold World.shape?; simp [h2]
    have s2 : w.shape? d' = some (el', (vs' ++ rest').length) := by unfold World.shape?; simp [h2']
    have hdd : (d == d') = false := by simpa using hd
    simp [hdd, hbb, f1, f2, noView, viewAt, s1, s2, mayBeOne, stringish]

theorem equalIn_fields {eq : TypeId → AV → AV → Option Bool} {d : Nat} {S : Sh} {w : World} (hrec : ∀ t x y b u v, eq t x y = some b → VRel S x u → VRel S y v → (Op.equalIn d t u v).run P w = .ok b w)
    {us vs : List Value} : ∀ (fs : List Field) (xs ys : List AV) (b : Bool), aEqs P eq fs xs ys = some b → LRel S xs us → LRel S ys vs →
    (do
      let r ← forIn fs ((none, ()) : Option Bool × Unit) fun f _ =>
        if f.name ≠ "_" then do
          if !(← Op.equalIn d f.type (← part f.type ⟨us⟩ f.offset) (← part f.type ⟨vs⟩ f.offset)) then pure (ForInStep.done (some false, ())) else pure (ForInStep.yield (none, ()))
        else pure (ForInStep.yield (none, ()))
      match r.1 with
      | some a => pure a
      | none => pure true : Sem Bool).run P w = .ok b w
  | [], xs, ys, b, h, _, _ => by simp [aEqs] at h; subst h; simp
  | f :: fs, xs, ys, b, h, h1, h2 => by
    simp only [aEqs] at h
    by_cases hn : f.name ≠ "_"
    · rw [if_pos hn] at h
      split at h
      · rename_i x y hx hy
        obtain ⟨u, r1, r2⟩ := aPart_ok h1 hx w
        obtain ⟨v, s1, s2⟩ := aPart_ok h2 hy w
        split at h
        · rename_i he
          have := hrec _ _ _ _ _ _ he r2 s2
          have ih := equalIn_fields hrec fs xs ys b h h1 h2
          simp only [List.forIn_cons, if_pos hn, Sem.run_bind, r1, s1, Result.andThen_ok, this, Bool.not_true, Bool.false_eq_true, if_false, Sem.run_pure]
          simpa using ih
        · rename_i he
          cases h
          have := hrec _ _ _ _ _ _ he r2 s2
          simp only [List.forIn_cons, if_pos hn, Sem.run_bind, r1, s1, Result.andThen_ok, this, Bool.not_false, if_true, Sem.run_pure]
        · cases h
      · cases h
    · rw [if_neg hn] at h
      have ih := equalIn_fields hrec fs xs ys b h h1 h2
      simp only [List.forIn_cons, if_neg hn, Sem.run_bind, Sem.run_pure, Result.andThen_ok]
      simpa using ih

set_option maxHeartbeats 4000000 in
theorem aEq_ok {G : Gl} {S : Sh} {A : AH} {w : World} (h : Inv G S A w) : ∀ (d : Nat) (t : TypeId) (x y : AV) (b : Bool) (u v : Value), aEq P A d t x y = some b → VRel S x u → VRel S y v →
    (Op.equalIn d t u v).run P w = .ok b w
  | 0, t, x, y, b, u, v, he, _, _ => by simp [aEq] at he
  | d + 1, t, x, y, b, u, v, he, hx, hy => by
    have ih := aEq_ok h d
    unfold aEq at he
    split at he
    · rename_i hd; cases hx; cases hy; cases he; simp [Op.equalIn, run_underlying hd]
    · rename_i hd; cases hx; cases hy
      split at he <;> cases he
      rename_i hk; subst hk
      simp [Op.equalIn, run_underlying hd]; rfl
    · rename_i hd; cases hx; cases hy; cases he; simp [Op.equalIn, run_underlying hd, bytes_beq]
    · rename_i hd; cases hx; cases hy; cases he; simp [Op.equalIn, run_underlying hd]
    · rename_i hd; cases hx; cases hy; cases he; simp [Op.equalIn, run_underlying hd]
    · rename_i hd; cases hx; cases hy; cases he; simp [Op.equalIn, run_underlying hd]
    · rename_i hd; cases hx; cases hy; cases he; simp [Op.equalIn, run_underlying hd]
    · rename_i hd; cases hx; cases hy; cases he; simp [Op.equalIn, run_underlying hd]
    · rename_i hd; cases hx; cases hy; cases he; simp [Op.equalIn, run_underlying hd]
    · rename_i hd; cases hx; cases hy; cases he; simp [Op.equalIn, run_underlying hd]
    · rename_i e b1 o1 b2 o2 hd
      cases hx with
      | ptr _ _ c hc =>
      cases hy with
      | ptr _ _ c' hc' =>
      split at he
      · rename_i n hn
        split at he <;> cases he
        rename_i hl
        simp only [Bool.and_eq_true] at hl
        have hs := sameAddr_ok (P := P) (o := o1) (o' := o2) h hl.1 hl.2 hc hc'
        simp [Op.equalIn, run_underlying hd, run_sizeOf hn, hs]
      · cases he
    · rename_i hd; cases hx; cases hy; cases he; simp [Op.equalIn, run_underlying hd]
    · rename_i hd; cases hx; cases hy; cases he; simp [Op.equalIn, run_underlying hd]
    · rename_i hd; cases hx; cases hy; cases he; simp [Op.equalIn, run_underlying hd]
    · rename_i tx vx ty vy hd
      cases hx with
      | iface _ _ vx' hvx =>
      cases hy with
      | iface _ _ vy' hvy =>
      split at he
      · rename_i hne; cases he; simp [Op.equalIn, run_underlying hd, hne]
      · rename_i heq
        have heq : tx = ty := by simpa using heq
        subst heq
        split at he
        · rename_i i hi
          split at he
          · rename_i hcmp
            have := ih tx vx vy b vx' vy' he hvx hvy
            simp [Op.equalIn, run_underlying hd, run_typeInfo hi, hcmp, this]
          · cases he
        · cases he
    · rename_i fields xs ys hd
      cases hx with
      | agg _ us hxl =>
      cases hy with
      | agg _ vs hyl =>
      split at he
      · cases he
      · rename_i hst
        have hst : P.stoodInHeld t = false := by simpa using hst
        have := equalIn_fields (P := P) (w := w) (d := d) (S := S) (eq := aEq P A d) (fun t x y b u v he hx hy => ih t x y b u v he hx hy) fields.toList xs ys b he hxl hyl
        simp only [Op.equalIn, Sem.run_bind, run_underlying hd, Result.andThen_ok, run_program, hst, Bool.false_eq_true, if_false]
        rw [← Array.forIn_toList]
        simp only [Sem.run_bind] at this
        refine Eq.trans ?_ this
        congr 1
        funext a w'
        cases a.1 <;> rfl
    · rename_i hd; cases hx; cases hy; cases he; simp [Op.equalIn, run_underlying hd]
    · rename_i hd; cases hx; cases hy; cases he; simp [Op.equalIn, run_underlying hd]
    · rename_i hd; cases hx; cases hy; cases he; simp [Op.equalIn, run_underlying hd]
    · rename_i hd; cases hx; cases hy; cases he; simp [Op.equalIn, run_underlying hd]
    · rename_i hd; cases hx; cases hy; cases he; simp [Op.equalIn, run_underlying hd]
    · rename_i hd; cases hx; cases hy; cases he; simp [Op.equalIn, run_underlying hd]
    · rename_i hd; cases hx; cases hy; cases he; simp [Op.equalIn, run_underlying hd]
    · rename_i hd; cases hx; cases hy; cases he; simp [Op.equalIn, run_underlying hd]
    · rename_i hd; cases hx; cases hy; cases he; simp [Op.equalIn, run_underlying hd]
    · rename_i hd; cases hx; cases hy; cases he; simp [Op.equalIn, run_underlying hd]
    · rename_i hd; cases hx; cases hy; cases he; simp [Op.equalIn, run_underlying hd]
    · cases he

end equal
end Go.Am
