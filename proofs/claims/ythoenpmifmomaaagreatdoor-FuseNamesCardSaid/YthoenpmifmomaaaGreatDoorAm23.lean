/-
  A call that is handed values alone, and hands back values alone: it runs as if it had a heap of its own. Conditions: none.
-/
import Derived.Test.YthoenpmifmomaaaGreatDoorAm22
noncomputable section
namespace Go.Am
open Go

def AH.nil : AH := ⟨[], []⟩

theorem not_live_nil {i : Nat} : ¬ AH.nil.live i := by
  rintro ⟨x, hx, _⟩
  simp [AH.nil] at hx

theorem not_owned_nil {S : Sh} {b : Nat} : ¬ Owned S AH.nil b := by
  rintro (⟨i, h, _⟩ | ⟨φ, ec, room, e, sz, h, _⟩)
  · exact not_live_nil h
  · simp [AH.nil] at h

theorem Inv.nil {G : Gl} {S : Sh} {w : World} (him : ∀ b o v, S.im b o = some v → w.cell? ⟨b, o, none⟩ = some v) (hglob : ∀ g o x, G g o = some x → ∃ v, S.im g o = some v ∧ VRel S.bare x v) : Inv G S.bare AH.nil w where
  im := him
  blk i x hx _ := by simp [AH.nil] at hx
  inj i _ _ hi _ _ _ := absurd hi not_live_nil
  free i _ _ hi _ := absurd hi not_live_nil
  fam φ e sz h := by simp [AH.nil] at h
  room φ b ec room he := by obtain ⟨e, sz, h, _⟩ := he; simp [AH.nil] at h
  famInj φ ψ b ec room ec' room' h1 _ := by obtain ⟨e, sz, h, _⟩ := h1; simp [AH.nil] at h
  ρout _ _ := rfl
  tlout φ e x h := by simp [Sh.bare] at h
  glob := hglob
  rm c n h := by simp [Sh.bare] at h

theorem Inv.inner {G : Gl} {S : Sh} {A : AH} {w : World} (h : Inv G S A w) : Inv G S.bare AH.nil w := Inv.nil h.im h.glob

open Classical in
/-- What is the call's own changes no more. -/
noncomputable def Sh.shut (S : Sh) (A : AH) (w : World) : Sh :=
  { X := S.X, ρ := fun _ => none, tl := fun _ _ => none, rm := fun _ => none
    im := fun c o => match S.im c o with
      | some v => some v
      | none => if ∃ i cs el, A.blks[i]? = some (.cells cs el) ∧ S.ρ i = some c ∧ o < cs.length then w.cell? ⟨c, o, none⟩ else none }

theorem Inv.shut {G : Gl} {S : Sh} {A : AH} {w : World} (h : Inv G S A w) : Inv G (S.shut A w) AH.nil w ∧ Frozen S A (S.shut A w) := by
  have him : ∀ b o v, S.im b o = some v → (S.shut A w).im b o = some v := fun b o v hv => by simp [Sh.shut, hv]
  constructor
  · refine Inv.nil (S := S.shut A w) ?_ ?_
    · intro b o v hv
      simp only [Sh.shut] at hv
      split at hv
      · rename_i u hu
        cases hv
        exact h.im b o _ hu
      · split at hv
        · exact hv
        · cases hv
    · intro g o x hg
      obtain ⟨v, h1, h2⟩ := h.glob g o x hg
      have hle : S.bare.le (S.shut A w).bare := ⟨rfl, (fun _ _ h => by simp [Sh.bare] at h), him, (fun _ _ _ h => by simp [Sh.bare] at h), (fun _ _ h => by simp [Sh.bare] at h)⟩
      exact ⟨v, him _ _ _ h1, h2.mono hle⟩
  · refine ⟨rfl, him, ?_⟩
    intro i cs el c hb hc
    obtain ⟨c', o, h1, h2, h3⟩ := h.blk i _ hb (by simp)
    obtain rfl := Option.some.inj (h1.symm.trans hc)
    cases h3 with
    | cells _ _ vs rest hl =>
    refine ⟨vs, hl, fun j v hj => ?_⟩
    have hjl := (List.getElem?_eq_some_iff.1 hj).1
    have hfree := h.free i c' j ⟨_, hb, by simp⟩ hc
    simp only [Sh.shut, hfree]
    have hex : ∃ i cs el, A.blks[i]? = some (.cells cs el) ∧ S.ρ i = some c' ∧ j < cs.length := ⟨i, cs, el, hb, hc, by rw [hl.length]; exact hjl⟩
    rw [if_pos hex]
    simp [World.cell?, h2, List.getElem?_append_left hjl, hj]

theorem Fr.shut {S0 S : Sh} {A0 A : AH} {w0 w : World} (hρ : ∀ i, S0.ρ i = none) (htl : ∀ f e, S0.tl f e = none) (hrm : ∀ c, S0.rm c = none) (h : Fr S0 A0 w0 S A w) : Fr S0 A0 w0 (S.shut A w) AH.nil w where
  le := ⟨h.le.X, (fun i c hc => by rw [hρ] at hc; cases hc), (fun b o v hv => by simp [Sh.shut, h.le.im _ _ _ hv]), (fun f e x hx => by rw [htl] at hx; cases hx), (fun c n hn => by rw [hrm] at hn; cases hn)⟩
  size := h.size
  os := h.os
  tape := h.tape
  output := h.output
  keep := h.keep
  own b ho _ := absurd ho not_owned_nil
  imNew b o v hv := by
    simp only [Sh.shut] at hv
    split at hv
    · rename_i u hu
      cases hv
      exact h.imNew b o _ hu
    · split at hv
      · rename_i hex
        obtain ⟨i, cs, el, h1, h2, _⟩ := hex
        by_cases hb : b < w0.heap.size
        · exact .inr (.inr (h.own b (.inl ⟨i, ⟨_, h1, by simp⟩, h2⟩) hb))
        · exact .inr (.inl (by omega))
      · cases hv

/-- The caller's places, and what is known to change no more. -/
def Sh.with (S S1 : Sh) : Sh := { S with im := S1.im }

theorem Inv.outer {G : Gl} {S S1 : Sh} {A : AH} {w w1 : World} (h : Inv G S A w) (h1 : Inv G S1 AH.nil w1) (hf : Fr S.bare AH.nil w S1 AH.nil w1) : Inv G (S.with S1) A w1 ∧ Fr S A w (S.with S1) A w1 ∧ S1.bare.le (S.with S1) := by
  have hle : S.le (S.with S1) := ⟨rfl, fun _ _ h => h, fun b o v hv => hf.le.im b o v hv, fun _ _ _ h => h, fun _ _ h => h⟩
  have keep : ∀ b, b < w.heap.size → w1.heap[b]? = w.heap[b]? := fun b hb => hf.keep b hb not_owned_nil
  have old : ∀ {b o}, w.heap[b]? = some o → w1.heap[b]? = some o := fun {b o} hb => by rw [keep b (Array.getElem?_eq_some_iff.1 hb).1]; exact hb
  have imNew : ∀ b o v, S1.im b o = some v → S.im b o = some v ∨ w.heap.size ≤ b := fun b o v hv => by
    rcases hf.imNew b o v hv with h' | h' | h'
    · exact .inl h'
    · exact .inr h'
    · exact absurd h' not_owned_nil
  have ends : ∀ {φ b ec room}, A.ends (S.with S1) φ b ec room → A.ends S φ b ec room := fun h => h
  refine ⟨⟨h1.im, ?_, h.inj, ?_, h.fam, ?_, h.famInj, h.ρout, h.tlout, ?_, ?_⟩, ⟨hle, hf.size, hf.os, hf.tape, hf.output, fun b hb _ => keep b hb, fun b ho _ => ho, ?_⟩, ?_⟩
  · intro i x hx hd
    obtain ⟨c, o, a1, a2, a3⟩ := h.blk i x hx hd
    exact ⟨c, o, a1, old a2, a3.mono hle⟩
  · intro i c o hi hc
    cases hv : S1.im c o with
    | none => exact hv
    | some v =>
      rcases imNew c o v hv with h' | h'
      · rw [h.free i c o hi hc] at h'; cases h'
      · have := h.lt (.inl ⟨i, hi, hc⟩); omega
  · intro φ b ec room he
    obtain ⟨⟨c, el, a1, a2⟩, a3, a4⟩ := h.room φ b ec room (ends he)
    refine ⟨⟨c, el, old a1, a2⟩, fun o ho => ?_, a4⟩
    cases hv : S1.im b o with
    | none => exact hv
    | some v =>
      rcases imNew b o v hv with h' | h'
      · rw [a3 o ho] at h'; cases h'
      · have := (Array.getElem?_eq_some_iff.1 a1).1; omega
  · exact fun g o x hg => let ⟨v, a1, a2⟩ := h1.glob g o x hg; ⟨v, a1, VRel.mono (S := S1.bare) (S' := (S.with S1).bare) ⟨hf.le.X.symm, (fun _ _ h => h), (fun _ _ _ h => h), (fun _ _ _ h => h), (fun _ _ h => h)⟩ a2⟩
  · intro c n hn
    obtain ⟨cs, el, a1, a2⟩ := h.rm c n hn
    exact ⟨cs, el, old a1, a2⟩
  · intro b o v hv
    rcases imNew b o v hv with h' | h'
    · exact .inl h'
    · exact .inr (.inl h')
  · exact ⟨hf.le.X.symm, fun _ _ h => by simp [Sh.bare] at h, fun _ _ _ h => h, fun _ _ _ h => by simp [Sh.bare] at h, fun _ _ h => by simp [Sh.bare] at h⟩

section
variable (P : Program) (G : Gl)

/-- A CALL THAT IS HANDED VALUES ALONE comes to one of these. -/
def PCall (f : FuncId) (args : List AV) (es : List AEnd) : Prop :=
  ∀ (S : Sh) (w : World) (vs : List Value), Inv G S.bare AH.nil w → LRel S.bare args vs → CallsIn Fence.wide 0 P f ⟨vs⟩ w fun e w' => ∃ x ∈ es, ∃ S' : Sh, Inv G S'.bare AH.nil w' ∧ Fr S.bare AH.nil w S'.bare AH.nil w' ∧ FinRel S'.bare x e

variable {P G}

theorem FinRel.mono {S S' : Sh} (h : S.le S') {x : AEnd} {e : Ending} : FinRel S x e → FinRel S' x e
  | .returned _ _ h1 => .returned _ _ (h1.mono h)
  | .panicked _ _ h1 => .panicked _ _ (h1.mono h)

/-- Wherever it is called. -/
theorem PCall.lift {f : FuncId} {args : List AV} {es : List AEnd} (h : PCall P G f args es) {S : Sh} {A : AH} {w : World} {vs : List Value} (hi : Inv G S A w) (hl : LRel S.bare args vs) :
    CallsIn Fence.wide 0 P f ⟨vs⟩ w (FinPost G S A w (es.map fun e => ⟨e, A⟩)) := by
  refine (h S w vs hi.inner hl).mono ?_
  rintro e w' ⟨x, hx, S', i1, f1, r1⟩
  obtain ⟨i2, f2, l2⟩ := hi.outer i1 f1
  exact ⟨⟨x, A⟩, List.mem_map.2 ⟨x, hx, rfl⟩, _, i2, f2, r1.mono (by simpa [Sh.bare] using l2)⟩

/-- The end of a call, with nothing in it that can be written. -/
def purEnd (P : Program) (n : Nat) (o : AFin) : AEnd :=
  match o.e with
  | .returned v => .returned (pur P o.A n v)
  | .panicked c => .panicked (c.map fun p => (pur P o.A n p.1, p.2))

theorem purEnd_ok {S S' : Sh} {n : Nat} {o : AFin} (hz : Frozen S o.A S') {e : Ending} (h : FinRel S o.e e) : FinRel S' (purEnd P n o) e := by
  unfold purEnd
  generalize o.e = x at h
  cases h with
  | returned v u hv => exact .returned _ _ (pur_ok hz n _ _ hv)
  | panicked c d hc =>
    refine .panicked _ _ ?_
    induction hc with
    | nil => exact .nil
    | cons x v b xs es h1 h2 ih => exact .cons _ _ _ _ _ (pur_ok hz n _ _ h1) ih

/-- A call in an empty heap, its end turned. -/
theorem PCall.of_func {m : Mc} (hm : Mc.Ok P G m) {f : FuncId} {args : List AV} {os : List AFin} (h : m.func f args AH.nil = some os) (n : Nat) : PCall P G f args (os.map (purEnd P n)) := by
  intro S w vs hi hl
  refine (hm.func f args AH.nil os h S.bare w vs hi hl).mono ?_
  rintro e w' ⟨o, ho, S', i1, f1, r1⟩
  obtain ⟨i2, z2⟩ := i1.shut
  have f2 := f1.shut (fun _ => rfl) (fun _ _ => rfl) (fun _ => rfl)
  exact ⟨purEnd P n o, List.mem_map.2 ⟨o, ho, rfl⟩, S'.shut o.A w', i2, f2, purEnd_ok z2 r1⟩

theorem PCall.sub {f : FuncId} {args : List AV} {es es' : List AEnd} (h : PCall P G f args es) (hs : ∀ e ∈ es, e ∈ es') : PCall P G f args es' :=
  fun S w vs hi hl => (h S w vs hi hl).mono fun _ _ ⟨x, hx, r⟩ => ⟨x, hs x hx, r⟩

theorem pur_bare {S : Sh} (n : Nat) {x : AV} {v : Value} (h : VRel S x v) : VRel S.bare (pur P AH.nil n x) v :=
  pur_ok (S := S) (S' := S.bare) ⟨rfl, fun _ _ _ h => h, fun i cs el c hb _ => by simp [AH.nil] at hb⟩ n x v h

theorem pur_bares {S : Sh} (n : Nat) {xs : List AV} {vs : List Value} (h : LRel S xs vs) : LRel S.bare (xs.map (pur P AH.nil n)) vs :=
  PurOk.list (fun _ _ h => pur_bare n h) h

end
end Go.Am
