/-
  The evaluator's round is sound: deferred calls, recover, ranges over functions. Conditions: none.
-/
import Derived.Test.YthoenpmifmomaaaGreatDoorAm18
namespace Go.Am
open Go

section
variable {P : Program} {G : Gl}

theorem Inv.live_of {A : AH} {i : Nat} {x : ABlk} (h : A.blks[i]? = some x) (hx : x ≠ .dead) : A.live i := ⟨x, h, hx⟩

theorem DfinPost.from {S S1 : Sh} {A A1 : AH} {w w1 : World} (hf : Fr S A w S1 A1 w1) {os os' : List ADfin} (hsub : ∀ x ∈ os', x ∈ os) {e : Ending} {u : FrameMode} {w' : World} (h : DfinPost G S1 A1 w1 os' e u w') : DfinPost G S A w os e u w' := by
  obtain ⟨o, ho, S', h1, h2, h3⟩ := h
  exact ⟨o, hsub o ho, S', h1, hf.trans h2, h3⟩

theorem MdRel.notRun {S : Sh} {u : AMode} {md : FrameMode} (h : MdRel S u md) : md ≠ .run := by cases h <;> simp

/-- What recover gives, and what it makes of the frame below. -/
theorem recover_ok {S : Sh} {u : AMode} {md : FrameMode} (h : MdRel S u md) (c0 : Frame) (cs : List Frame) (hc : c0.mode = md) :
    (∃ v md', recoverD (c0 :: cs) = some (v, { c0 with mode := md' } :: cs) ∧ VRel S u.recover.1 v ∧ MdRel S u.recover.2 md') ∨
    (recoverD (c0 :: cs) = none ∧ u.recover = (.nili, u)) := by
  cases h with
  | returning => exact .inr ⟨by simp [recoverD, hc], rfl⟩
  | panicking c d h =>
    cases h with
    | nil => exact .inr ⟨by simp [recoverD, hc], rfl⟩
    | cons x v b xs es h1 h2 =>
      cases b with
      | true => exact .inr ⟨by simp [recoverD, hc], rfl⟩
      | false => exact .inl ⟨v, _, by simp [recoverD, hc], h1, .panicking _ _ (.cons _ _ _ _ _ h1 h2)⟩

/-- A region that begins with recover. -/
theorem wpSIn_recover {F : Fence} {n : Nat} {id : Nat} {ops : Array Oper} {o : Oper} {rest : List Oper} (hops : ops.toList = o :: rest) (ho : isRecover o = true) {Q : Exit → Act → List Frame → World → Prop} {a : Act} {cs : List Frame} {w : World}
    (hF : F.round = none)
    (h : match recoverD cs with
      | some (v, cs') => cs'.length = cs.length ∧ wpListIn F n P ops (fun e a w => Q e a cs' w) rest (a.put o.dst v) w
      | none => wpListIn F n P ops (fun e a w => Q e a cs w) rest (a.put o.dst .nilIface) w) :
    (Code.region id ops false).wpSIn F n P Q a cs w := by
  intro b k hb hro hFn hroom
  have h0 : ops[0]? = some o := by rw [← Array.getElem?_toList, hops]; rfl
  have hsize : ops.size = rest.length + 1 := by rw [← Array.length_toList, hops]; rfl
  unfold isRecover at ho
  split at ho
  · rename_i c hg hop
    split at ho
    · rename_i hcal
      have hrest : wpOpsIn F n P ops = fun Q l a w => wpOpsIn F n P ops Q l a w := rfl
      have hlist : ∀ (Q' : Exit → Act → World → Prop), wpListIn F n P ops Q' rest = wpOpsIn F n P ops Q' (List.range' 1 rest.length) := by
        intro Q'
        rw [← wpOpsIn_eq_wpListIn rest 1]
        intro j
        rw [← Array.getElem?_toList, hops, Nat.add_comm, List.getElem?_cons_succ]
      have hw : Region.wanted o (yielded ops a.tmps) = true := by simp [Region.wanted, hg]
      have hrun : (execOp a.eval o).run P w = .ok .recover w := by simp [execOp, hop, resolve, hcal, invoke, builtin]
      have hgo := stepGR_op (P := P) (b := b) (a := a) (k := k) (cs := cs) (w := w) (rest := List.range' 1 rest.length) h0 hw
      rw [hro, Oper.semAt_none] at hgo
      have hfin : ∀ v, (b.atR a (.inRegion ops (0 :: List.range' 1 rest.length) :: k)).finish v = b.atR (a.put o.dst v) (.inRegion ops (List.range' 1 rest.length) :: k) := by
        intro v; rw [Frame.finish_atR, h0]; rfl
      have hk : (b.atR a (.inRegion ops (0 :: List.range' 1 rest.length) :: k)).kind = .deferred := hb
      have htr := tryRecover_deferred hk cs
      have habout : ∀ f, o.about P w a.eval = some f → F.fn f := by
        intro f hf
        simp [Oper.about, hop, resolve, hcal, Target.leads] at hf
      have i0 : (lone (b.atR a (.code (.region id ops false) :: k)) cs w).fenced P F := fenced_calm hFn hroom rfl
      have i1 : (lone (b.atR a (.inRegion ops (0 :: List.range' 1 rest.length) :: k)) cs w).fenced P F := fenced_oper hFn hroom h0 habout
      have hr0 : List.range ops.size = 0 :: List.range' 1 rest.length := by rw [hsize, List.range_eq_range', List.range'_succ]
      split at h
      · rename_i v cs' hrec
        obtain ⟨hlen, h⟩ := h
        rw [hlist] at h
        obtain ⟨e, a', w', hq, harr⟩ := wp_opsIn _ _ _ h b k cs' (hro.trans hF.symm) hFn (hlen ▸ hroom)
        refine ⟨e, a', cs', w', hlen, hq, .of_steps (.head i0 stepR_region (.one (by rw [hr0]; exact i1) ?_)) harr⟩
        rw [hr0]
        refine step_lone_go ?_
        rw [hgo, ← hfin]
        simp only [Frame.atR, hro] at htr ⊢
        simp [stepG.apply, hrun, htr, hrec]
      · rename_i hrec
        rw [hlist] at h
        obtain ⟨e, a', w', hq, harr⟩ := wp_opsIn _ _ _ h b k cs (hro.trans hF.symm) hFn hroom
        refine ⟨e, a', cs, w', rfl, hq, .of_steps (.head i0 stepR_region (.one (by rw [hr0]; exact i1) ?_)) harr⟩
        rw [hr0]
        refine step_lone_go ?_
        rw [hgo, ← hfin]
        simp only [Frame.atR, hro] at htr ⊢
        simp [stepG.apply, hrun, htr, hrec]
    · cases ho
  · cases ho

section step
variable {m : Mc}

theorem sLeave_ok (hm : Mc.Ok P G m) {fn : Func} {tmps : List AV} {ds : List ADef} {u : AMode} {A : AH} {os : List AFin} (hx : sLeave P G m fn tmps ds u A = some os) {S : Sh} {w : World} {ts : List Value} {es : List Deferred} {md : FrameMode}
    (hi : Inv G S A w) (hl : LRel S tmps ts) (hd : DsRel S ds es) (hu : MdRel S u md) : LeavesInM Fence.wide 0 P fn ⟨ts⟩ (FinPost G S A w os) es md w := by
  unfold sLeave at hx
  split at hx
  · cases hd
    split at hx
    · cases hu
      simp only [Option.map_eq_some_iff] at hx
      obtain ⟨x, h1, rfl⟩ := hx
      obtain ⟨v, h2, h3⟩ := aResults_ok hi hl h1
      exact ⟨v, h2, _, List.mem_singleton.2 rfl, S, hi, Fr.refl S A w, .returned _ _ h3⟩
    · cases hu with
      | panicking c d hc =>
      cases hx
      exact ⟨_, List.mem_singleton.2 rfl, S, hi, Fr.refl S A w, .panicked _ _ hc⟩
  · rename_i b ds
    cases hd with
    | cons _ e _ es' he hds =>
    cases he with
    | mark _ c hc =>
    split at hx
    · rename_i hb
      refine ⟨hu.notRun, .inl ?_⟩
      obtain ⟨c', o, s1, s2, s3⟩ := hi.blk b _ hb (by simp)
      obtain rfl := Option.some.inj (s1.symm.trans hc)
      cases s3
      obtain ⟨i1, f1⟩ := hi.kill (w' := w.putObj c' (.deferred none)) (Inv.live_of hb (by simp)) hc (fun b' hb' => World.putObj_heap_other hb') (by simp) rfl rfl rfl (fun cs el hc => by rw [s2] at hc; cases hc)
      refine ⟨c', _, rfl, run_takeDeferred s2, ?_⟩
      have := hm.leave _ _ _ _ _ _ hx S (w.putObj c' (.deferred none)) ts es' md i1 hl hds hu
      exact leavesInM_mono (fun e w' h => h.from f1 fun _ h => h) _ _ _ this
    · cases hx
  · rename_i f args cap ds
    cases hd with
    | cons _ e _ es' he hds =>
    cases he with
    | fn _ g _ _ us vs hfr h1 h2 =>
    cases hfr
    split at hx
    · rename_i f' args' A' hent
      obtain ⟨he1, he2⟩ := aEnter_run hent ⟨us ++ vs⟩ w
      cases he1
      obtain ⟨xs, g1, g2⟩ := bindM_mem hx
      refine ⟨hu.notRun, .inr ⟨(fun h => by simp [Fence.wide] at h), .func f, ⟨vs⟩, f, ⟨us ++ vs⟩, rfl, ?_, fun _ _ => trivial, ?_⟩⟩
      · have : invoke (.fn (.func f) ⟨vs⟩) ⟨us⟩ = callFunc f ⟨us ++ vs⟩ := by simp [invoke]
        rw [this]; exact he2
      · refine (hm.dfunc _ _ _ _ _ g1 S w _ md hi (h1.append h2) hu).mono ?_
        intro e u' w' hp
        obtain ⟨x, hx1, S1, i1, f1, e1, m1⟩ := hp
        obtain ⟨ys, y1, y2⟩ := g2 x hx1
        generalize x.e = xe at y1 e1
        cases e1 with
        | returned v z hv =>
          have := hm.leave _ _ _ _ _ _ y1 S1 w' ts es' (Go.settle u') i1 (hl.mono f1.le) (hds.mono f1.le) m1.settle
          exact leavesInM_mono (fun e w' h => h.from f1 y2) _ _ _ this
        | panicked c d hc =>
          have := hm.leave _ _ _ _ _ _ y1 S1 w' ts es' (Go.raised u' d) i1 (hl.mono f1.le) (hds.mono f1.le) (m1.raised hc)
          exact leavesInM_mono (fun e w' h => h.from f1 y2) _ _ _ this
    · cases hx
  · cases hx

theorem sDfunc_ok (hm : Mc.Ok P G m) {f : FuncId} {args : List AV} {u : AMode} {A : AH} {os : List ADfin} (hx : sDfunc P G m f args u A = some os) {S : Sh} {w : World} {vs : List Value} {md : FrameMode}
    (hi : Inv G S A w) (hl : LRel S args vs) (hu : MdRel S u md) : CallsDIn Fence.wide 0 P f ⟨vs⟩ md w (DfinPost G S A w os) := by
  unfold sDfunc at hx
  split at hx
  · rename_i fn hf
    split at hx
    · rename_i c hb
      obtain ⟨xs, h1, h2⟩ := bindM_mem hx
      refine callsDIn_of_wpSIn hf hb trivial fun c0 cs hc0 => ?_
      have key := hm.codeS _ _ _ _ _ h1 S w _ md c0 cs hi (ARel.tmpsOf fn hl) hu hc0
      intro b k hbk hro hFn hroom
      obtain ⟨e, a', cs', w', hlen, hq, harr⟩ := key b k hbk hro hFn hroom
      refine ⟨e, a', cs', w', hlen, ?_, harr⟩
      obtain ⟨o, ho, S1, md', i1, f1, r1, e1, m1, rfl⟩ := hq
      obtain ⟨ys, g1, g2⟩ := h2 o ho
      have hds := r1.defers
      split at g1
      · rename_i hnil
        rw [hnil] at hds
        have hde : a'.defers = [] := by generalize a'.defers = dd at hds; cases hds; rfl
        have hres : ∀ {x : AV}, aResults P G o.A fn o.a.tmps = some x → ∃ v, (results fn a'.tmps).run P w' = .ok v w' ∧ VRel S1 x v := fun hx => aResults_ok i1 r1.tmps hx
        generalize o.e = oe at g1 e1
        cases e1 with
        | normal =>
          simp only [Option.map_eq_some_iff] at g1
          obtain ⟨x, hx1, rfl⟩ := g1
          obtain ⟨v, hv1, hv2⟩ := hres hx1
          exact ⟨hde, md', rfl, v, hv1, _, g2 _ (List.mem_singleton.2 rfl), S1, i1, f1, .returned _ _ hv2, m1⟩
        | ret =>
          simp only [Option.map_eq_some_iff] at g1
          obtain ⟨x, hx1, rfl⟩ := g1
          obtain ⟨v, hv1, hv2⟩ := hres hx1
          exact ⟨hde, md', rfl, v, hv1, _, g2 _ (List.mem_singleton.2 rfl), S1, i1, f1, .returned _ _ hv2, m1⟩
        | panic c d hc =>
          cases g1
          exact ⟨hde, md', rfl, _, g2 _ (List.mem_singleton.2 rfl), S1, i1, f1, .panicked _ _ hc, m1⟩
        | exit id => cases g1
        | goto l => cases g1
      · cases g1
    · cases hx
  · cases hx

end step
end
end Go.Am
