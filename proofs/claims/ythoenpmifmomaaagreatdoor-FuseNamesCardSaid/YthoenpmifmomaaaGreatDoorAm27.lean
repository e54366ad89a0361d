/-
  One operation of a region that draws its order, with what it calls. Conditions: none.
-/
import Derived.Test.YthoenpmifmomaaaGreatDoorAm26
noncomputable section
namespace Go.Am
open Go

section
variable (P : Program) (G : Gl)

/-- A pure call, wherever it is made. -/
def QCall (f : FuncId) (args : List AV) (es : List AEnd) : Prop :=
  ∀ (S : Sh) (A : AH) (w : World) (vs : List Value), Inv G S A w → LRel S args vs → CallsIn Fence.wide 0 P f ⟨vs⟩ w (FinPost G S A w (es.map fun e => ⟨e, A⟩))

abbrev PF := FuncId → List AV → Option (List AEnd)

/-- What an operation comes to: its value; the heap; whether it may have turned it. -/
def aOp1 (pf : PF) (m : Mc) (rd : Option Nat) (ops : Array Oper) (a : AAct) (A : AH) (o : Oper) : Option (AV × AH × Bool) :=
  match aWanted ops a o with
  | .none => .none
  | some false => some (.tup [], A, false)
  | some true =>
    match o.op with
    | .buildSlice t n ps => (aBuildSliceQ P t n (aParts a.eval ps)).map fun v => (v, A, false)
    | _ =>
      match aOp P G (m.mu o) rd.isSome A a.eval o with
      | some [.val v A'] => if quietOp o.op then some (v, A, false) else some (v, A', true)
      | some [.enter f args A'] =>
        match pf f args with
        | some [.returned v] => some (v, A, false)
        | some _ => .none
        | .none =>
          match m.func f args A' with
          | some [x] => match x.e with | .returned v => some (v, x.A, true) | _ => .none
          | _ => .none
      | some [.yield l args A'] =>
        match m.round l args A' with
        | some [x] => match x.e with | .returned v => some (v, x.A, true) | _ => .none
        | _ => .none
      | _ => .none

variable {P G}

theorem quiet_heap {pf : PF} {m : Mc} {rd : Option Nat} {ops : Array Oper} {a : AAct} {A A' : AH} {o : Oper} {v : AV} (h : aOp1 P G pf m rd ops a A o = some (v, A', false)) : A' = A := by
  unfold aOp1 at h
  split at h
  · cases h
  · cases h; rfl
  · split at h
    · simp only [Option.map_eq_some_iff] at h; obtain ⟨x, _, h1⟩ := h; cases h1; rfl
    · split at h
      · split at h <;> cases h; rfl
      · split at h
        · cases h; rfl
        · cases h
        · split at h
          · split at h <;> cases h
          · cases h
      · split at h
        · split at h <;> cases h
        · cases h
      · cases h

theorem aOp1_ok {pf : PF} {m : Mc} (hm : Mc.Ok P G m) (hpf : ∀ f args es, pf f args = some es → QCall P G f args es) {rd ro : Option Nat} {ops : Array Oper} {a : AAct} {A A' : AH} {o : Oper} {v : AV} {l : Bool}
    (h : aOp1 P G pf m rd ops a A o = some (v, A', l)) {S : Sh} {w : World} {b : Act} (hi : Inv G S A w) (hab : ARel S a b) (hr : RdRel S rd ro) {i : Nat} (ho : ops[i]? = some o) {Q : Exit → Act → World → Prop} {K : Act → World → Prop}
    (hK : ∀ S' u w', Inv G S' A' w' → Fr S A w S' A' w' → VRel S' v u → K (b.put o.dst u) w') : wpOpIn (fen ro) 0 P ops Q i K b w := by
  unfold wpOpIn
  rw [ho]
  simp only
  unfold aOp1 at h
  split at h
  · cases h
  · rename_i hw
    cases h
    rw [aWanted_ok hab hw]
    simp only [Bool.false_eq_true, if_false]
    exact ⟨fun _ _ => trivial, hK S undef w hi (Fr.refl S A w) (undef_rel S)⟩
  · rename_i hw
    rw [aWanted_ok hab hw]
    simp only [if_true]
    refine ⟨fun _ _ => trivial, ?_⟩
    have hround : (fen ro).round = ro := rfl
    rw [hround]
    split at h
    · rename_i t n ps hop
      simp only [Option.map_eq_some_iff] at h
      obtain ⟨x, hx, h1⟩ := h
      cases h1
      have hnd : ∀ c, o.op ≠ .defer c := by intro c hc; rw [hop] at hc; cases hc
      rw [Oper.semAt_eq _ _ _ hnd]
      simp only [execOp, hop]
      obtain ⟨u, w', S', r1, r2, r3, r4⟩ := aBuildSliceQ_ok hi hx (ps := ps.map fun p => (p.1, b.eval p.2)) (by simpa [aParts] using hab.parts ps.toList)
      simp only [Sem.run_bind, r1, Result.andThen_ok, Sem.run_pure, Oper.uponIn]
      exact hK S' u w' r2 r3 r4
    · have callCase : ∀ {f : FuncId} {args : List AV} {A1 : AH} {fs : List AFin} {x : AV} {A2 : AH} {S1 : Sh} {w1 : World} {vs : Array Value}, CallsIn Fence.wide 0 P f vs w1 (FinPost G S1 A1 w1 fs) → Fr S A w S1 A1 w1 →
          (∀ y ∈ fs, y.e = .returned x ∧ y.A = A2) → (∀ S' u w', Inv G S' A2 w' → Fr S A w S' A2 w' → VRel S' x u → K (b.put o.dst u) w') →
          CallsIn (fen ro) (0 - 1) P f vs w1 (fun
            | .returned v, w'' => K (b.put o.dst v) w''
            | .panicked chain, w'' => Q (.panic chain) b w''
            | .outgrown, _ => LetsOut Q) := by
        intro f args A1 fs x A2 S1 w1 vs hc hf hfs hk
        refine CallsIn.mono (R := FinPost G S1 A1 w1 fs) hc ?_
        rintro e w'' ⟨y, hy, S2, i2, f2, e2⟩
        obtain ⟨h1, h2⟩ := hfs y hy
        rw [h1] at e2
        cases e2 with
        | returned _ u hu => rw [h2] at i2 f2; exact hk S2 u w'' i2 (hf.trans f2) hu
      split at h
      · rename_i x A1 hop
        obtain ⟨r, hr1, hr2⟩ := aOp_sem hi hab hr hop
        obtain rfl := List.mem_singleton.1 hr1
        have key : ∀ S' u w', Inv G S' A1 w' → Fr S A w S' A1 w' → VRel S' x u → K (b.put o.dst u) w' := by
          split at h
          · rename_i hq
            cases h
            have hA := quiet_same hq hop
            subst hA
            exact hK
          · cases h
            exact hK
        generalize (o.semAt ro b.eval).run P w = res at hr2
        cases res with
        | halt y w' => exact hr2.elim
        | ok y w' =>
          cases y <;> first
            | exact hr2.elim
            | (obtain ⟨S', i', f', v'⟩ := hr2
               exact key S' _ w' i' f' v')
      · rename_i f args A1 hop
        have hA := enter_same hop
        subst hA
        obtain ⟨r, hr1, hr2⟩ := aOp_sem hi hab hr hop
        obtain rfl := List.mem_singleton.1 hr1
        generalize (o.semAt ro b.eval).run P w = res at hr2
        cases res with
        | halt y w' => exact hr2.elim
        | ok y w' =>
          cases y <;> first
            | exact hr2.elim
            | skip
          rename_i g vs
          obtain ⟨rfl, S', i', f', v'⟩ := hr2
          refine ⟨(fun h => by simp [fen, Fence.wide] at h), ?_⟩
          split at h
          · rename_i x hp
            cases h
            exact callCase (args := args) (hpf _ _ _ hp S' _ w' vs.toList i' v') f' (by simp) hK
          · cases h
          · split at h
            · rename_i y hy
              split at h
              · rename_i x hx
                cases h
                exact callCase (args := args) (hm.func _ _ _ _ hy S' w' vs.toList i' v') f' (fun z hz => by obtain rfl := List.mem_singleton.1 hz; exact ⟨hx, rfl⟩) hK
              · cases h
            · cases h
      · rename_i l' args A1 hop
        obtain ⟨r, hr1, hr2⟩ := aOp_sem hi hab hr hop
        obtain rfl := List.mem_singleton.1 hr1
        generalize (o.semAt ro b.eval).run P w = res at hr2
        cases res with
        | halt y w' => exact hr2.elim
        | ok y w' =>
          cases y <;> first
            | exact hr2.elim
            | skip
          rename_i c fn tmps assign body
          obtain ⟨S', st, pd, ats, ps, d, i', f', hc, hb, hlen, us, vs, rfl, hats, hargs, s, p, fn', hheap, rfl⟩ := hr2
          refine ⟨(fun h => by simp [fen, Fence.wide] at h), ?_⟩
          split at h
          · rename_i y hy
            split at h
            · rename_i x hx
              cases h
              refine RoundIn.mono (hm.round _ _ _ _ hy S' w' c vs st pd ats ps assign body d us fn s p _ i' hc hb hlen hargs hats hheap) ?_
              rintro e w'' ⟨z, hz, S2, i2, f2, e2⟩
              obtain rfl := List.mem_singleton.1 hz
              rw [hx] at e2
              cases e2 with
              | returned _ u hu => exact hK S2 u w'' i2 (f'.trans f2) hu
            · cases h
          · cases h
      · cases h

end
end Go.Am
