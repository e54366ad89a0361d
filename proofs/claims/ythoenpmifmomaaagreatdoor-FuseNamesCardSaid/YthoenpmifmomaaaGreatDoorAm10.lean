/-
  The abstract machine's operations on maps, assertions and methods, each held against the model's. Conditions: none.
-/
import Derived.Test.YthoenpmifmomaaaGreatDoorAm9
namespace Go.Am
open Go

section maps
variable (P : Program)

def aKeyOks (ok : TypeId → AV → Bool) (cs : List AV) : List Field → Bool
  | [] => true
  | f :: fs => (f.name == "_" || (match aPart P f.type cs f.offset with | some y => ok f.type y | none => false)) && aKeyOks ok cs fs

def aKeyOk : Nat → TypeId → AV → Bool
  | 0, _, _ => false
  | n + 1, t, x =>
    match P.underlying t with
    | some (.struct fields) =>
      match x with
      | .agg cs => aKeyOks P (aKeyOk n) cs fields.toList
      | _ => false
    | some (.interface _) => false
    | some (.array _ _) => false
    | some _ => true
    | none => false

variable {P}
theorem checkKeys_ok {S : Sh} {w : World} {empty : Bool} {n : Nat} {cs : List AV} {vs : List Value} (hrec : ∀ t x u, aKeyOk P n t x = true → VRel S x u → (Instr.checkKey empty n t u).run P w = .ok () w) (hl : LRel S cs vs) :
    ∀ (fs : List Field), aKeyOks P (aKeyOk P n) cs fs = true →
    (forIn fs PUnit.unit fun f _ => do
        if f.name ≠ "_" then do
          Instr.checkKey empty n f.type (← part f.type ⟨vs⟩ f.offset)
          pure (ForInStep.yield PUnit.unit)
        else pure (ForInStep.yield PUnit.unit) : Sem PUnit).run P w = .ok () w
  | [], _ => by simp
  | f :: fs, h => by
    simp only [aKeyOks, Bool.and_eq_true, Bool.or_eq_true, beq_iff_eq] at h
    obtain ⟨h1, h2⟩ := h
    have ih := checkKeys_ok hrec hl fs h2
    by_cases hn : f.name = "_"
    · simp only [List.forIn_cons, hn, ne_eq, not_true_eq_false, if_false, Sem.run_bind, Sem.run_pure, Result.andThen_ok]
      simpa using ih
    · rcases h1 with h1 | h1
      · exact absurd h1 hn
      split at h1
      · rename_i y hy
        obtain ⟨v, r1, r2⟩ := aPart_ok hl hy w
        have := hrec _ _ _ h1 r2
        simp only [List.forIn_cons, ne_eq, hn, not_false_eq_true, if_true, Sem.run_bind, r1, Result.andThen_ok, this, Sem.run_pure]
        simpa using ih
      · cases h1

theorem aKeyOk_ok {S : Sh} {w : World} (empty : Bool) : ∀ (n : Nat) (t : TypeId) (x : AV) (u : Value), aKeyOk P n t x = true → VRel S x u → (Instr.checkKey empty n t u).run P w = .ok () w
  | 0, t, x, u, h, _ => by simp [aKeyOk] at h
  | n + 1, t, x, u, h, hu => by
    have ih := aKeyOk_ok (S := S) (w := w) empty n
    unfold aKeyOk at h
    split at h
    · rename_i fields hd
      split at h
      · rename_i cs
        cases hu with
        | agg _ vs hl =>
        have := checkKeys_ok (empty := empty) ih hl fields.toList h
        simp only [Instr.checkKey, Sem.run_bind, run_underlying hd, Result.andThen_ok]
        rw [← Array.forIn_toList]
        rw [this]; rfl
      · cases h
    · cases h
    · cases h
    · rename_i d hs hi ha hd
      simp only [Instr.checkKey, Sem.run_bind, run_underlying hd, Result.andThen_ok]
      cases d <;> first
        | rfl
        | exact absurd rfl (fun e => hi _ e)
        | exact absurd rfl (fun e => ha _ _ e)
        | exact absurd rfl (fun e => hs _ e)
    · cases h

variable (P) in
def aFind (A : AH) (kt : TypeId) (k : AV) : List (AV × AV × Nat) → Nat → Option (Option (Nat × AV))
  | [], _ => some none
  | (k', x, _) :: es, i =>
    match aEq P A 10000 kt k k' with
    | some true => some (some (i, x))
    | some false => aFind A kt k es (i + 1)
    | none => none

/-- What is found. -/
def FRes (S : Sh) : Option (Nat × AV) → Option (Nat × Value) → Prop
  | none, none => True
  | some (i, x), some (j, v) => i = j ∧ VRel S x v
  | _, _ => False

theorem sameNow_ok {S : Sh} {A : AH} {kt : TypeId} {d : TypeDesc} (hd : P.underlying kt = some d) {x y : AV} {u v : Value} {b b' : Bool} (he : aEq P A 10000 kt x y = some b) (hx : VRel S x u) (hy : VRel S y v)
    (hs : Instr.sameNow d u v = some b') : b = b' := by
  rw [show (10000 : Nat) = 9999 + 1 from rfl] at he
  unfold aEq at he
  rw [hd] at he
  unfold Instr.sameNow at hs
  split at hs
  · rename_i k1 k a k' b1
    cases hx <;> cases hy <;> simp only [reduceCtorEq] at he
    · split at hs <;> cases hs
      rename_i hk; subst hk
      simp at he; rw [← he]; rfl
  · rename_i s1 s2
    cases hx <;> cases hy <;> simp only [reduceCtorEq] at he
    cases hs; cases he
    rw [bytes_beq]
  · cases hx <;> cases hy <;> simp only [reduceCtorEq] at he
    cases hs; cases he; rfl
  · cases hs

theorem findNow_ok {S : Sh} {A : AH} {kt : TypeId} {d : TypeDesc} (hd : P.underlying kt = some d) {k : AV} {u : Value} (hk : VRel S k u) : ∀ {es : List (AV × AV × Nat)} {ms : List MapEntry} (i : Nat) {r : Option (Nat × AV)} {r' : Option (Nat × Value)},
    MRel S es ms → aFind P A kt k es i = some r → Instr.findNow d u ms i = some r' → FRes S r r'
  | _, _, i, r, r', .nil, h, h' => by simp [aFind] at h; simp [Instr.findNow] at h'; subst h h'; trivial
  | _, _, i, r, r', .cons k' x n es u' v ms hk' hx hm, h, h' => by
    simp only [aFind] at h
    simp only [Instr.findNow] at h'
    split at h
    · rename_i he
      split at h'
      · cases h; cases h'; exact ⟨rfl, hx⟩
      · rename_i hs; have := sameNow_ok hd he hk hk' hs; cases this
      · cases h'
    · rename_i he
      split at h'
      · rename_i hs; have := sameNow_ok hd he hk hk' hs; cases this
      · exact findNow_ok hd hk (i + 1) hm h h'
      · cases h'
    · cases h

theorem findAsking_ok {G : Gl} {S : Sh} {A : AH} {w : World} (hI : Inv G S A w) {kt : TypeId} {k : AV} {u : Value} (hk : VRel S k u) : ∀ {es : List (AV × AV × Nat)} {ms : List MapEntry} (i : Nat) {r : Option (Nat × AV)},
    MRel S es ms → aFind P A kt k es i = some r → ∃ r', (Instr.findAsking kt u ms i).run P w = .ok r' w ∧ FRes S r r'
  | _, _, i, r, .nil, h => by simp [aFind] at h; subst h; exact ⟨none, by simp [Instr.findAsking], trivial⟩
  | _, _, i, r, .cons k' x n es u' v ms hk' hx hm, h => by
    simp only [aFind] at h
    split at h
    · rename_i he
      cases h
      have := aEq_ok hI 10000 kt k k' true u u' he hk hk'
      exact ⟨some (i, v), by simp [Instr.findAsking, Op.equal, Op.maxDepth, this], rfl, hx⟩
    · rename_i he
      have := aEq_ok hI 10000 kt k k' false u u' he hk hk'
      obtain ⟨r', r1, r2⟩ := findAsking_ok hI hk (i + 1) hm h
      exact ⟨r', by simp [Instr.findAsking, Op.equal, Op.maxDepth, this, r1], r2⟩
    · cases h

theorem findKey_ok {G : Gl} {S : Sh} {A : AH} {w : World} (hI : Inv G S A w) {kt : TypeId} {d : TypeDesc} (hd : P.underlying kt = some d) {k : AV} {u : Value} (hk : VRel S k u) {es : List (AV × AV × Nat)} {ms : List MapEntry} {r : Option (Nat × AV)}
    (hm : MRel S es ms) (h : aFind P A kt k es 0 = some r) : ∃ r', (Instr.findKey kt u ms).run P w = .ok r' w ∧ FRes S r r' := by
  simp only [Instr.findKey, Sem.run_bind, run_underlying hd, Result.andThen_ok]
  cases hn : Instr.findNow d u ms 0 with
  | some r' => exact ⟨r', rfl, findNow_ok hd hk 0 hm h hn⟩
  | none => exact findAsking_ok hI hk 0 hm h

theorem MRel.get {S : Sh} : ∀ {es : List (AV × AV × Nat)} {ms : List MapEntry}, MRel S es ms → ∀ (i : Nat) (k x : AV) (n : Nat), es[i]? = some (k, x, n) → ∃ u v, ms[i]? = some ⟨u, v, n⟩ ∧ VRel S k u ∧ VRel S x v
  | _, _, .nil, i, k, x, n, h => by simp at h
  | _, _, .cons k x n es u v ms h1 h2 h3, 0, k', x', n', h => by simp at h; obtain ⟨rfl, rfl, rfl⟩ := h; exact ⟨u, v, rfl, h1, h2⟩
  | _, _, .cons k x n es u v ms h1 h2 h3, i + 1, k', x', n', h => by simp at h; obtain ⟨u', v', r1, r2⟩ := h3.get i k' x' n' h; exact ⟨u', v', by simpa using r1, r2⟩

theorem MRel.set {S : Sh} : ∀ {es : List (AV × AV × Nat)} {ms : List MapEntry}, MRel S es ms → ∀ (i : Nat) {k x : AV} {n : Nat} {u v : Value}, VRel S k u → VRel S x v → MRel S (es.set i (k, x, n)) (ms.set i ⟨u, v, n⟩)
  | _, _, .nil, _, _, _, _, _, _, _, _ => .nil
  | _, _, .cons _ _ _ _ _ _ _ _ _ h3, 0, _, _, _, _, _, h, h' => .cons _ _ _ _ _ _ _ h h' h3
  | _, _, .cons _ _ _ _ _ _ _ h1 h2 h3, i + 1, _, _, _, _, _, h, h' => .cons _ _ _ _ _ _ _ h1 h2 (h3.set i h h')

theorem MRel.append {S : Sh} : ∀ {es es' : List (AV × AV × Nat)} {ms ms' : List MapEntry}, MRel S es ms → MRel S es' ms' → MRel S (es ++ es') (ms ++ ms')
  | _, _, _, _, .nil, h => h
  | _, _, _, _, .cons _ _ _ _ _ _ _ h1 h2 h3, h => .cons _ _ _ _ _ _ _ h1 h2 (h3.append h)

/-- The same bits. -/
def aBits : Nat → AV → AV → Bool
  | _, .bool a, .bool b => a == b
  | _, .int j a, .int k b => decide (j = k) && decide (a = b)
  | _, .str a, .str b => decide (a = b)
  | _, .nilp, .nilp => true
  | _, .ptr b o, .ptr b' o' => b == b' && o == o'
  | n + 1, .agg xs, .agg ys => go n xs ys
  | _, _, _ => false
  where
  go (n : Nat) : List AV → List AV → Bool
  | [], [] => true
  | x :: xs, y :: ys => aBits n x y && go n xs ys
  | _, _ => false

theorem aBits_ok {S : Sh} : ∀ (n : Nat) (x y : AV) (u v : Value), aBits n x y = true → VRel S x u → VRel S y v → Instr.sameBits n u v = true
  | n, x, y, u, v, h, hx, hy => by
    unfold aBits at h
    split at h
    · cases hx; cases hy; simpa [Instr.sameBits] using h
    · cases hx; cases hy; simpa [Instr.sameBits] using h
    · cases hx; cases hy; simp only [Instr.sameBits, bytes_beq]; exact h
    · cases hx; cases hy; simp [Instr.sameBits]
    · rename_i b o b' o'
      simp only [Bool.and_eq_true, beq_iff_eq] at h
      obtain ⟨rfl, rfl⟩ := h
      cases hx with
      | ptr _ _ c hc =>
      cases hy with
      | ptr _ _ c' hc' =>
      obtain rfl := Option.some.inj (hc.symm.trans hc')
      simp [Instr.sameBits]
    · rename_i n xs ys
      cases hx with
      | agg _ us hl =>
      cases hy with
      | agg _ vs hl' =>
      simp only [Instr.sameBits]
      have key : ∀ (xs ys : List AV) (us vs : List Value), aBits.go n xs ys = true → LRel S xs us → LRel S ys vs → us.length = vs.length ∧ (us.zip vs).all (fun (x, y) => Instr.sameBits n x y) = true := by
        intro xs
        induction xs with
        | nil =>
          intro ys us vs h h1 h2
          cases ys with
          | nil => cases h1; cases h2; exact ⟨rfl, rfl⟩
          | cons _ _ => simp [aBits.go] at h
        | cons x xs ih =>
          intro ys us vs h h1 h2
          cases ys with
          | nil => simp [aBits.go] at h
          | cons y ys =>
            simp only [aBits.go, Bool.and_eq_true] at h
            cases h1 with
            | cons _ _ u us hu hl1 =>
            cases h2 with
            | cons _ _ v vs hv hl2 =>
            obtain ⟨r1, r2⟩ := ih ys us vs h.2 hl1 hl2
            refine ⟨by simp [r1], ?_⟩
            simp only [List.zip_cons_cons, List.all_cons, Bool.and_eq_true]
            exact ⟨aBits_ok n x y u v h.1 hu hv, r2⟩
      obtain ⟨k1, k2⟩ := key xs ys us vs h hl hl'
      simp [k1, k2]
    · cases h
  termination_by n => n

section ops
variable (P) in
def aLookup (A : AH) (t : TypeId) (m k : AV) (commaOk : Bool) : Option AV :=
  match P.underlying t with
  | some (.map kt e) =>
    match tZero P e, P.underlying kt with
    | some z, some _ =>
      if aKeyOk P 10000 kt k then
        match m with
        | .nilm => some (if commaOk then .tup [z, .bool false] else z)
        | .map b =>
          match A.blks[b]? with
          | some (.map es _) =>
            match aFind P A kt k es 0 with
            | some (some (_, x)) => some (if commaOk then .tup [x, .bool true] else x)
            | some none => some (if commaOk then .tup [z, .bool false] else z)
            | none => none
          | _ => none
        | _ => none
      else none
    | _, _ => none
  | _ => none

theorem run_getObj {w : World} {c : Nat} {o : Obj} (h : w.heap[c]? = some o) (hn : ∀ a b f, o ≠ .cells a b f) : (getObj c).run P w = .ok o w := by
  simp only [getObj, Sem.run, h]

theorem run_setObj {w : World} {c : Nat} {o o' : Obj} (h : w.heap[c]? = some o) (hn : ∀ a b f, o ≠ .cells a b f) : (setObj c o').run P w = .ok () { w with heap := w.heap.setIfInBounds c o' } := by
  simp only [setObj, Sem.run, h]

theorem tup2 {S : Sh} {x y : AV} {u v : Value} (h1 : VRel S x u) (h2 : VRel S y v) : VRel S (.tup [x, y]) (.tuple #[u, v]) := .tup _ _ (.cons _ _ _ _ h1 (.cons _ _ _ _ h2 .nil))

theorem aLookup_ok {G : Gl} {S : Sh} {A : AH} {w : World} (h : Inv G S A w) {t : TypeId} {m k y : AV} {cOk : Bool} {u v : Value} (hx : aLookup P A t m k cOk = some y) (hu : VRel S m u) (hv : VRel S k v) :
    ∃ r, (Instr.lookup t u v cOk).run P w = .ok r w ∧ VRel S y r := by
  unfold aLookup at hx
  split at hx
  · rename_i kt e hd
    split at hx
    · rename_i z d hz hkd
      split at hx
      · rename_i hok
        obtain ⟨zv, hz1, hz2⟩ := run_zeroValue hz w
        have hzr := ofVs_rel S zv
        rw [← hz2] at hzr
        split at hx
        · cases hx
          cases hu
          have hck := aKeyOk_ok (P := P) (w := w) true 10000 kt k v hok hv
          obtain ⟨r', f1, f2⟩ := findKey_ok h hkd hv (es := []) (ms := []) (r := none) .nil (by simp [aFind])
          cases r' with
          | some => cases f2
          | none =>
            cases cOk with
            | true => exact ⟨.tuple #[zv, .bool false], by simp [Instr.lookup, run_underlying hd, hck, f1, hz1], tup2 hzr (.bool _)⟩
            | false => exact ⟨zv, by simp [Instr.lookup, run_underlying hd, hck, f1, hz1], hzr⟩
        · rename_i b
          cases hu with
          | map _ c hc =>
          split at hx
          · rename_i es clock hb
            obtain ⟨c', o, s1, s2, s3⟩ := h.blk b _ hb (by simp)
            obtain rfl := Option.some.inj (s1.symm.trans hc)
            cases s3 with
            | map _ _ ms hm =>
            have hck := aKeyOk_ok (P := P) (w := w) ms.isEmpty 10000 kt k v hok hv
            have hg := run_getObj (P := P) s2 (by simp)
            split at hx
            · rename_i i x hf
              cases hx
              obtain ⟨r', f1, f2⟩ := findKey_ok h hkd hv hm hf
              cases r' with
              | none => cases f2
              | some jv =>
                obtain ⟨j, v'⟩ := jv
                obtain ⟨_, f3⟩ := f2
                cases cOk with
                | true => exact ⟨.tuple #[v', .bool true], by simp [Instr.lookup, run_underlying hd, hg, hck, f1], tup2 f3 (.bool _)⟩
                | false => exact ⟨v', by simp [Instr.lookup, run_underlying hd, hg, hck, f1], f3⟩
            · rename_i hf
              cases hx
              obtain ⟨r', f1, f2⟩ := findKey_ok h hkd hv hm hf
              cases r' with
              | some => cases f2
              | none =>
                cases cOk with
                | true => exact ⟨.tuple #[zv, .bool false], by simp [Instr.lookup, run_underlying hd, hg, hck, f1, hz1], tup2 hzr (.bool _)⟩
                | false => exact ⟨zv, by simp [Instr.lookup, run_underlying hd, hg, hck, f1, hz1], hzr⟩
            · cases hx
          · cases hx
        · cases hx
      · cases hx
    · cases hx
  · cases hx

variable (P) in
def aMapUpdate (A : AH) (t : TypeId) (m k x : AV) : Option AH :=
  match P.underlying t, m with
  | some (.map kt _), .map b =>
    match A.blks[b]?, P.underlying kt with
    | some (.map es clock), some _ =>
      if aKeyOk P 10000 kt k then
        match aFind P A kt k es 0 with
        | some (some (i, _)) =>
          match es[i]? with
          | some (k0, _, n) => if aBits 10000 k0 k then some (A.put b (.map (es.set i (k, x, n)) clock)) else none
          | none => none
        | some none => some (A.put b (.map (es ++ [(k, x, clock)]) (clock + 1)))
        | none => none
      else none
    | _, _ => none
  | _, _ => none

theorem setObj_put {G : Gl} {S : Sh} {A : AH} {w : World} (h : Inv G S A w) {b c : Nat} {x x' : ABlk} {o o' : Obj} (hb : A.blks[b]? = some x) (hx : x ≠ .dead) (hc : S.ρ b = some c) (ho : w.heap[c]? = some o) (hx' : x' ≠ .dead) (hr : BRel S x' o') (hno : ∀ a b f, o ≠ .cells a b f) :
    Inv G S (A.put b x') { w with heap := w.heap.setIfInBounds c o' } ∧ Fr S A w S (A.put b x') { w with heap := w.heap.setIfInBounds c o' } := by
  have hlt := (Array.getElem?_eq_some_iff.1 ho).1
  refine h.put ⟨x, hb, hx⟩ hc hx' hr ?_ ?_ ?_ rfl rfl rfl (fun cs el hh => by rw [ho] at hh; cases hh; exact absurd rfl (hno _ _ _))
  · simp [hlt]
  · intro d hd
    simp only [Array.getElem?_setIfInBounds]
    rw [if_neg (Ne.symm hd)]
  · simp

theorem aMapUpdate_ok {G : Gl} {S : Sh} {A A' : AH} {w : World} (h : Inv G S A w) {t : TypeId} {m k x : AV} {u v z : Value} (hx : aMapUpdate P A t m k x = some A') (hu : VRel S m u) (hv : VRel S k v) (hz : VRel S x z) :
    ∃ w', (Instr.mapUpdate t u v z).run P w = .ok () w' ∧ Inv G S A' w' ∧ Fr S A w S A' w' := by
  unfold aMapUpdate at hx
  split at hx
  · rename_i kt e b hd
    cases hu with
    | map _ c hc =>
    split at hx
    · rename_i es clock d hb hkd
      split at hx
      · rename_i hok
        obtain ⟨c', o, s1, s2, s3⟩ := h.blk b _ hb (by simp)
        obtain rfl := Option.some.inj (s1.symm.trans hc)
        cases s3 with
        | map _ _ ms hm =>
        have hck := aKeyOk_ok (P := P) (w := w) false 10000 kt k v hok hv
        have hg := run_getObj (P := P) s2 (by simp)
        split at hx
        · rename_i i y hf
          split at hx
          · rename_i k0 x0 n hi
            split at hx <;> cases hx
            rename_i hbits
            obtain ⟨r', f1, f2⟩ := findKey_ok h hkd hv hm hf
            cases r' with
            | none => cases f2
            | some jv =>
              obtain ⟨j, v'⟩ := jv
              obtain ⟨hij, _⟩ := f2
              subst hij
              obtain ⟨u0, v0, g1, g2, g3⟩ := hm.get i k0 x0 n hi
              have hsame := aBits_ok 10000 k0 k u0 v hbits g2 hv
              obtain ⟨i1, i2⟩ := setObj_put h hb (by simp) hc s2 (x' := .map (es.set i (k, x, n)) clock) (by simp) (.map _ clock _ (hm.set i (n := n) hv hz)) (by simp)
              have hmod : ms.modify i (fun e => { key := v, val := z, born := e.born }) = ms.set i ⟨v, z, n⟩ := by
                apply List.ext_getElem?
                intro j
                simp only [List.getElem?_modify, List.getElem?_set]
                by_cases hij : i = j
                · subst hij
                  have := (List.getElem?_eq_some_iff.1 g1).1
                  simp only [if_pos this, g1, ↓reduceIte]; rfl
                · simp [hij]
              refine ⟨_, ?_, i1, i2⟩
              have hst := run_setObj (P := P) (o' := .map ⟨ms.set i ⟨v, z, n⟩⟩ clock) s2 (by simp)
              simp [Instr.mapUpdate, run_underlying hd, hg, hck, f1, Instr.keyThatStays, g1, hsame, hmod, hst]
          · cases hx
        · rename_i hf
          cases hx
          obtain ⟨r', f1, f2⟩ := findKey_ok h hkd hv hm hf
          cases r' with
          | some => cases f2
          | none =>
            obtain ⟨i1, i2⟩ := setObj_put h hb (by simp) hc s2 (x' := .map (es ++ [(k, x, clock)]) (clock + 1)) (by simp) (.map _ (clock + 1) _ (hm.append (.cons k x clock [] v z [] hv hz .nil))) (by simp)
            refine ⟨_, ?_, i1, i2⟩
            have hst := run_setObj (P := P) (o' := .map ⟨ms ++ [⟨v, z, clock⟩]⟩ (clock + 1)) s2 (by simp)
            have hpush : (⟨ms⟩ : Array MapEntry).push ⟨v, z, clock⟩ = ⟨ms ++ [⟨v, z, clock⟩]⟩ := by apply Array.ext'; simp
            simp [Instr.mapUpdate, run_underlying hd, hg, hck, f1, hpush, hst]
        · cases hx
      · cases hx
    · cases hx
  · cases hx

end ops
end maps
end Go.Am
