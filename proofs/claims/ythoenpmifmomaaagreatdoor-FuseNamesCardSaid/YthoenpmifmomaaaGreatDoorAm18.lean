/-
  The evaluator's round is sound: functions, how they leave, rounds of a range over a function. Conditions: none.
-/
import Derived.Test.YthoenpmifmomaaaGreatDoorAm17
import Derived.RangeFuncRecord
namespace Go.Am
open Go

theorem ARel.tmpsOf {S : Sh} {args : List AV} {vs : List Value} (fn : Func) (h : LRel S args vs) : ARel S ⟨aTmps fn args, []⟩ { tmps := (⟨vs⟩ : Array Value) ++ Array.replicate (fn.ntmps - (⟨vs⟩ : Array Value).size) undef, defers := [] } := by
  refine ⟨?_, .nil⟩
  simp only [aTmps, Array.toList_append, Array.toList_replicate, List.size_toArray]
  rw [h.length]
  refine h.append ?_
  induction fn.ntmps - vs.length with
  | zero => exact .nil
  | succ n ih => simp only [List.replicate_succ]; exact .cons _ _ _ _ (undef_rel S) ih

theorem leavesInM_mono {F : Fence} {n : Nat} {P : Program} {fn : Func} {tmps : Array Value} {R R' : Ending → World → Prop} (hr : ∀ e w, R e w → R' e w) : ∀ (ds : List Deferred) (u : FrameMode) (w : World),
    LeavesInM F n P fn tmps R ds u w → LeavesInM F n P fn tmps R' ds u w
  | [], .returning, w, h => let ⟨v, h1, h2⟩ := h; ⟨v, h1, hr _ _ h2⟩
  | [], .panicking chain, w, h => hr _ _ h
  | [], .run, w, h => h
  | d :: ds, u, w, h => by
    obtain ⟨h1, h2⟩ := h
    refine ⟨h1, ?_⟩
    rcases h2 with ⟨r, w', a1, a2, a3⟩ | ⟨hn, fv, cap, f, args, a1, a2, a3, a4⟩
    · exact .inl ⟨r, w', a1, a2, leavesInM_mono hr ds u w' a3⟩
    · refine .inr ⟨hn, fv, cap, f, args, a1, a2, a3, a4.mono ?_⟩
      intro e u' w' he
      cases e with
      | returned v => exact leavesInM_mono hr ds _ _ he
      | panicked chain => exact leavesInM_mono hr ds _ _ he
      | outgrown => exact hr _ _ he

section
variable {P : Program} {G : Gl}

def resOf (ts : List Value) : ResultVar → Sem Value
  | .tmp t => pure ((⟨ts⟩ : Array Value).getD t undef)
  | .cell a t => do loadVar t (← asAddr ((⟨ts⟩ : Array Value).getD a undef))

theorem aResult_ok {S : Sh} {A : AH} {w : World} (h : Inv G S A w) {tmps : List AV} {ts : List Value} (hl : LRel S tmps ts) {r : ResultVar} {x : AV} (hx : aResult P G A tmps r = some x) :
    ∃ v, (resOf ts r).run P w = .ok v w ∧ VRel S x v := by
  cases r with
  | tmp t =>
    simp only [aResult, Option.some.injEq] at hx
    subst hx
    refine ⟨_, rfl, ?_⟩
    have := hl.getD t
    simpa [Array.getD_eq_getD_getElem?] using this
  | cell a t =>
    simp only [aResult] at hx
    have hv := hl.getD a
    generalize (tmps[a]?).getD .top = y at hx hv
    have hv' : VRel S y ((⟨ts⟩ : Array Value).getD a undef) := by simpa [Array.getD_eq_getD_getElem?] using hv
    unfold resOf
    simp only
    generalize (⟨ts⟩ : Array Value).getD a undef = u at hv'
    obtain ⟨v, h1, h2⟩ := aLoad_ok h hv' hx
    refine ⟨v, ?_, h2⟩
    rw [← h1]
    clear h1 h2 hv
    cases hv' <;> first
      | (simp [aLoad] at hx; done)
      | (simp [asAddr, Instr.loadAt, Instr.sureAddr]; done)

theorem aResultL_ok {S : Sh} {A : AH} {w : World} (h : Inv G S A w) {tmps : List AV} {ts : List Value} (hl : LRel S tmps ts) : ∀ {rs : List ResultVar} {xs : List AV}, aResultL P G A tmps rs = some xs →
    ∃ vs, (rs.mapM (resOf ts) : Sem (List Value)).run P w = .ok vs w ∧ LRel S xs vs
  | [], xs, hx => by simp [aResultL] at hx; subst hx; exact ⟨[], by simp, .nil⟩
  | r :: rs, xs, hx => by
    simp only [aResultL] at hx
    split at hx
    · rename_i x ys h1 h2
      cases hx
      obtain ⟨v, h3, h4⟩ := aResult_ok h hl h1
      obtain ⟨vs, h5, h6⟩ := aResultL_ok h hl h2
      refine ⟨v :: vs, ?_, .cons _ _ _ _ h4 h6⟩
      simp only [List.mapM_cons, Sem.run_bind, h3, h5, Result.andThen_ok, Sem.run_pure]
    · cases hx

theorem aResults_ok {S : Sh} {A : AH} {w : World} (h : Inv G S A w) {fn : Func} {tmps : List AV} {ts : List Value} (hl : LRel S tmps ts) {x : AV} (hx : aResults P G A fn tmps = some x) :
    ∃ v, (results fn ⟨ts⟩).run P w = .ok v w ∧ VRel S x v := by
  unfold aResults at hx
  have key : ∀ {xs : List AV}, aResultL P G A tmps fn.results.toList = some xs → ∃ vs, LRel S xs vs ∧ (results fn ⟨ts⟩).run P w = .ok (if h : (⟨vs⟩ : Array Value).size = 1 then (⟨vs⟩ : Array Value)[0] else .tuple ⟨vs⟩) w := by
    intro xs hxs
    obtain ⟨vs, h1, h2⟩ := aResultL_ok h hl hxs
    refine ⟨vs, h2, ?_⟩
    have e : results fn ⟨ts⟩ = (do let vs ← fn.results.mapM (resOf ts); pure (if h : vs.size = 1 then vs[0] else .tuple vs)) := by
      unfold results
      congr 1
    rw [e, Array.mapM_eq_mapM_toList]
    simp only [Sem.run_bind, Sem.run_map, h1, Result.andThen_ok, Sem.run_pure]
  split at hx
  · rename_i y hy
    cases hx
    obtain ⟨vs, h1, h2⟩ := key hy
    cases h1 with
    | cons _ _ v _ hv hn =>
    cases hn
    exact ⟨v, by rw [h2]; rfl, hv⟩
  · rename_i xs hne hy
    cases hx
    obtain ⟨vs, h1, h2⟩ := key hy
    refine ⟨.tuple ⟨vs⟩, ?_, .tup _ _ h1⟩
    rw [h2]
    have : ¬ (⟨vs⟩ : Array Value).size = 1 := by
      intro hs
      have := h1.length
      simp only [List.size_toArray] at hs
      rw [hs] at this
      match xs, this with
      | [z], _ => exact hne z rfl
    rw [dif_neg this]
  · cases hx

theorem aEnter_run {f : FuncId} {args : List AV} {A : AH} {r : AR} (hx : aEnter P f args A = some r) (vs : Array Value) (w : World) : r = .enter f args A ∧ (callFunc f vs).run P w = .ok (.enter f vs) w := by
  unfold aEnter at hx
  split at hx
  · rename_i fn hf
    split at hx <;> cases hx
    rename_i hc
    obtain ⟨h1, h2⟩ := hc
    have hb : ¬ fn.body = none := by intro hbb; simp [hbb] at h2
    exact ⟨rfl, by simp [callFunc, hf, h1, hb]⟩
  · cases hx

section step
variable {m : Mc}

theorem sFunc_ok (hm : Mc.Ok P G m) {f : FuncId} {args : List AV} {A : AH} {os : List AFin} (hx : sFunc P m f args A = some os) {S : Sh} {w : World} {vs : List Value} (hi : Inv G S A w) (hl : LRel S args vs) :
    CallsIn Fence.wide 0 P f ⟨vs⟩ w (FinPost G S A w os) := by
  unfold sFunc at hx
  split at hx
  · rename_i fn hf
    split at hx
    · rename_i c hb
      obtain ⟨xs, h1, h2⟩ := bindM_mem hx
      refine callsIn_of_wp_marks hf hb trivial (wpIn_mono (hm.code _ _ _ _ _ h1 S w _ none hi (ARel.tmpsOf fn hl) rfl) ?_)
      intro e a' w' h
      obtain ⟨o, ho, S1, i1, f1, r1, e1⟩ := h
      obtain ⟨ys, g1, g2⟩ := h2 o ho
      generalize o.e = oe at g1 e1
      have fin : ∀ {u : AMode} {md : FrameMode}, m.leave fn o.a.tmps o.a.defers u o.A = some ys → MdRel S1 u md → LeavesInM Fence.wide 0 P fn a'.tmps (FinPost G S A w os) a'.defers md w' := by
        intro u md hl' hmd
        have := hm.leave _ _ _ _ _ _ hl' S1 w' a'.tmps.toList a'.defers md i1 r1.tmps r1.defers hmd
        have hq : ∀ e w'', FinPost G S1 o.A w' ys e w'' → FinPost G S A w os e w'' := fun e w'' h => h.from f1 g2
        exact leavesInM_mono hq _ _ _ this
      cases e1 with
      | normal => exact fin g1 .returning
      | ret => exact fin g1 .returning
      | panic c d hc => exact fin g1 (.panicking _ _ hc)
      | exit id => cases g1
      | goto l => cases g1
    · cases hx
  · cases hx

end step
end
end Go.Am
