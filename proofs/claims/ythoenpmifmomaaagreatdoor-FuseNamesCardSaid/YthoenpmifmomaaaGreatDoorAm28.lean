/-
  What an operation comes to hangs on its operands alone. Conditions: none.
-/
import Derived.Test.YthoenpmifmomaaaGreatDoorAm27
noncomputable section
namespace Go.Am
open Go

section
variable {P : Program} {G : Gl}

theorem map_congr_ev {ev ev' : Operand → AV} {l : List Operand} (h : ∀ x ∈ l, ev x = ev' x) : l.map ev = l.map ev' := List.map_congr_left h

theorem optmap_congr {ev ev' : Operand → AV} {l : Option Operand} (h : ∀ x ∈ l, ev x = ev' x) : l.map ev = l.map ev' := by
  cases l with
  | none => rfl
  | some x => simp [h x rfl]

theorem parts_congr {ev ev' : Operand → AV} {ps : Array (Nat × Operand)} (h : ∀ p ∈ ps.toList, ev p.2 = ev' p.2) : aParts ev ps = aParts ev' ps := by
  unfold aParts
  exact List.map_congr_left fun p hp => by rw [h p hp]

theorem aCall_congr {mu : Bool} {A : AH} {ev ev' : Operand → AV} {c : Call} (h : ∀ x ∈ c.operands, ev x = ev' x) : aCall P G mu A ev c = aCall P G mu A ev' c := by
  have hargs : ∀ x ∈ c.args.toList, ev x = ev' x := fun x hx => h x (by unfold Call.operands; simp at hx ⊢; exact .inr hx)
  have hmap := map_congr_ev hargs
  unfold aCall
  cases hc : c.callee with
  | value f =>
    have hf : ev f = ev' f := h f (by unfold Call.operands; simp [hc])
    simp only [hf, hmap]
  | invoke r name =>
    have hf : ev r = ev' r := h r (by unfold Call.operands; simp [hc])
    simp only [hf, hmap]
  | builtin b =>
    simp only
    generalize hl : c.args.toList = l at hargs
    cases b <;> first
      | rfl
      | (match l, hargs with
         | [], _ => rfl
         | [x], hargs => simp only [hargs x (by simp)]; try rfl
         | [x, y], hargs => simp only [List.map_cons, List.map_nil, hargs x (by simp), hargs y (by simp)]; try rfl
         | x :: y :: z :: l, hargs =>
           have e : (y :: z :: l).map ev = (y :: z :: l).map ev' := map_congr_ev fun u hu => hargs u (List.mem_cons_of_mem _ hu)
           simp only [hargs x (by simp), e]
           try rfl)

theorem aOp_congr {mu rd : Bool} {A : AH} {ev ev' : Operand → AV} {o : Oper} (h : ∀ x ∈ o.op.operands, ev x = ev' x) : aOp P G mu rd A ev o = aOp P G mu rd A ev' o := by
  unfold aOp
  cases hop : o.op <;> rw [hop] at h <;> simp only [Op.operands] at h <;> first
    | rfl
    | (simp at h; simp only [h]; done)
    | (simp at h; obtain ⟨h1, h2⟩ := h; simp only [h1]; done)
    | skip
  case build t ps => simp only [parts_congr (ps := ps) fun p hp => h p.2 (by simp; exact ⟨p.1, by simpa using hp⟩)]
  case buildSlice t n ps => simp only [parts_congr (ps := ps) fun p hp => h p.2 (by simp; exact ⟨p.1, by simpa using hp⟩)]
  case makeFunc f first cap =>
    have h1 := map_congr_ev (ev := ev) (ev' := ev') (l := first.toList) fun x hx => h x (by simp at hx ⊢; exact .inl hx)
    have h2 := map_congr_ev (ev := ev) (ev' := ev') (l := cap.toList) fun x hx => h x (by simp at hx ⊢; exact .inr hx)
    simp only [h1, h2]
  case makeMap t r => cases r <;> rfl
  case slice t x lo hi mx =>
    have h0 : ev x = ev' x := h x (by simp)
    have h1 := optmap_congr (ev := ev) (ev' := ev') (l := lo) fun y hy => h y (by simp at hy ⊢; simp [hy])
    have h2 := optmap_congr (ev := ev) (ev' := ev') (l := hi) fun y hy => h y (by simp at hy ⊢; simp [hy])
    have h3 := optmap_congr (ev := ev) (ev' := ev') (l := mx) fun y hy => h y (by simp at hy ⊢; simp [hy])
    simp only [h0, h1, h2, h3]
  case next it b =>
    have h0 : ev it = ev' it := h it (by simp)
    cases b <;> simp only [h0]
  case call c => simp only [aCall_congr h]
  case defer c =>
    have hargs : ∀ x ∈ c.args.toList, ev x = ev' x := fun x hx => h x (by unfold Call.operands; simp at hx ⊢; exact .inr hx)
    have hmap := map_congr_ev hargs
    have : aDefer ev c = aDefer ev' c := by
      unfold aDefer
      cases hc : c.callee with
      | value f =>
        have hf : ev f = ev' f := h f (by unfold Call.operands; simp [hc])
        simp only [hf, hmap]
      | invoke r name => rfl
      | builtin b => rfl
    simp only [this]

/-- Where two activations look alike to an operation: its operands, and what its guard looks at. -/
def Alike (ops : Array Oper) (o : Oper) (a a' : AAct) : Prop :=
  (∀ x ∈ o.op.operands, a.eval x = a'.eval x) ∧ (∀ p, o.guard = some p → ∀ t, (ops[p.1]?).bind (·.dst) = some t → a.tmps[t]? = a'.tmps[t]?)

theorem aOp1_congr {pf : PF} {m : Mc} {rd : Option Nat} {ops : Array Oper} {a a' : AAct} {A : AH} {o : Oper} (h : Alike ops o a a') : aOp1 P G pf m rd ops a A o = aOp1 P G pf m rd ops a' A o := by
  obtain ⟨h1, h2⟩ := h
  have hw : aWanted ops a o = aWanted ops a' o := by
    unfold aWanted
    cases hg : o.guard with
    | none => rfl
    | some p =>
      obtain ⟨j, want⟩ := p
      simp only
      have : aYielded ops a j = aYielded ops a' j := by
        unfold aYielded
        cases hd : (ops[j]?).bind (·.dst) with
        | none => rfl
        | some t =>
          have := h2 (j, want) hg t hd
          simp only [this]
      rw [this]
  have ho := aOp_congr (P := P) (G := G) (mu := m.mu o) (rd := rd.isSome) (A := A) (ev := a.eval) (ev' := a'.eval) h1
  unfold aOp1
  rw [hw, ho]
  split
  · rfl
  · rfl
  · split
    · rename_i t n ps hop
      rw [hop] at h1
      have : aParts a.eval ps = aParts a'.eval ps := parts_congr fun p hp => h1 p.2 (by simp [Op.operands]; exact ⟨p.1, by simpa using hp⟩)
      rw [this]
    · rfl

end
end Go.Am
