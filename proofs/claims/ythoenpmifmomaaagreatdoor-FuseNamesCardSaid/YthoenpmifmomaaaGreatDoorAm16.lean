/-
  The evaluator's round is sound: where the machine that is given answers for what it says, so does the round. Conditions: none.
-/
import Derived.Test.YthoenpmifmomaaaGreatDoorAm15
namespace Go.Am
open Go

def fen (ro : Option Nat) : Fence := { Fence.wide with round := ro }

def RdRel (S : Sh) : Option Nat → Option Nat → Prop
  | .none, ro => ro = .none
  | some l, ro => ∃ c, ro = some c ∧ S.ρ l = some c

theorem RdRel.mono {S S' : Sh} (h : S.le S') {rd ro : Option Nat} (hr : RdRel S rd ro) : RdRel S' rd ro := by
  cases rd with
  | none => exact hr
  | some l => obtain ⟨c, h1, h2⟩ := hr; exact ⟨c, h1, h.ρ _ _ h2⟩

section
variable (P : Program) (G : Gl)

def FinPost (S : Sh) (A : AH) (w : World) (os : List AFin) : Ending → World → Prop := fun e w' =>
  ∃ o ∈ os, ∃ S', Inv G S' o.A w' ∧ Fr S A w S' o.A w' ∧ FinRel S' o.e e

def OutPost (S : Sh) (A : AH) (w : World) (os : List AOut) : Exit → Act → World → Prop := fun e b w' =>
  ∃ o ∈ os, ∃ S', Inv G S' o.A w' ∧ Fr S A w S' o.A w' ∧ ARel S' o.a b ∧ ERel S' o.e e

def DfinPost (S : Sh) (A : AH) (w : World) (os : List ADfin) : Ending → FrameMode → World → Prop := fun e u w' =>
  ∃ o ∈ os, ∃ S', Inv G S' o.A w' ∧ Fr S A w S' o.A w' ∧ FinRel S' o.e e ∧ MdRel S' o.u u

def SoutPost (c0 : Frame) (cs : List Frame) (S : Sh) (A : AH) (w : World) (os : List ASout) : Exit → Act → List Frame → World → Prop := fun e b cs' w' =>
  ∃ o ∈ os, ∃ S' md, Inv G S' o.A w' ∧ Fr S A w S' o.A w' ∧ ARel S' o.a b ∧ ERel S' o.e e ∧ MdRel S' o.u md ∧ cs' = { c0 with mode := md } :: cs

/-- A loop's rounds, from the first one on. -/
def LoopIn (F : Fence) (n : Nat) (P : Program) (c : Code) (Q : Exit → Act → World → Prop) (a : Act) (w : World) : Prop :=
  ∀ (b : Frame) (k : List Item) (cs : List Frame), b.roundOf = F.round → F.fn b.fn → F.room (cs.length + 1 + n) →
    ∃ e a' w', Q e a' w' ∧ ArrivesIn (Machine.fenced P F) P (lone (b.atR a (.code c :: .inLoop c :: k)) cs w) b k cs e a' w'

structure Mc.Ok (m : Mc) : Prop where
  func : ∀ f args A os, m.func f args A = some os → ∀ S w vs, Inv G S A w → LRel S args vs → CallsIn Fence.wide 0 P f ⟨vs⟩ w (FinPost G S A w os)
  code : ∀ rd c a A os, m.code rd c a A = some os → ∀ S w b ro, Inv G S A w → ARel S a b → RdRel S rd ro → c.wpIn (fen ro) 0 P (OutPost G S A w os) b w
  loop : ∀ rd c a A os, m.loop rd c a A = some os → ∀ S w b ro, Inv G S A w → ARel S a b → RdRel S rd ro → LoopIn (fen ro) 0 P c (OutPost G S A w os) b w
  ops : ∀ rd ops l a A os, m.ops rd ops l a A = some os → ∀ S w b ro, Inv G S A w → ARel S a b → RdRel S rd ro → wpListIn (fen ro) 0 P ops (OutPost G S A w os) l b w
  round : ∀ l args A os, m.round l args A = some os → ∀ S w c vs st pd ats ps as bd d us fn s p dd, Inv G S A w → S.ρ l = some c → A.blks[l]? = some (.loop st pd ats ps as bd d) → args.length = ps.size → LRel S args vs → LRel S ats us →
    w.heap[c]? = some (.loop { state := s, pending := p, fn := fn, tmps := ⟨us⟩, params := ps, assign := as, body := bd, defers := dd }) →
    RoundIn Fence.wide 0 P c fn ((ps.zip ⟨vs⟩).foldl (fun tmps (t, a) => tmps.setIfInBounds t a) ⟨us⟩) as bd w (FinPost G S A w os)
  leave : ∀ fn tmps ds u A os, m.leave fn tmps ds u A = some os → ∀ S w ts es md, Inv G S A w → LRel S tmps ts → DsRel S ds es → MdRel S u md → LeavesInM Fence.wide 0 P fn ⟨ts⟩ (FinPost G S A w os) es md w
  dfunc : ∀ f args u A os, m.dfunc f args u A = some os → ∀ S w vs md, Inv G S A w → LRel S args vs → MdRel S u md → CallsDIn Fence.wide 0 P f ⟨vs⟩ md w (DfinPost G S A w os)
  codeS : ∀ c a u A os, m.codeS c a u A = some os → ∀ S w b md c0 cs, Inv G S A w → ARel S a b → MdRel S u md → c0.mode = md → c.wpSIn Fence.wide 0 P (SoutPost G c0 cs S A w os) b (c0 :: cs) w

variable {P G}

theorem Mc.none_ok : Mc.Ok P G Mc.none where
  func _ _ _ _ h := by cases h
  code _ _ _ _ _ h := by cases h
  loop _ _ _ _ _ h := by cases h
  ops _ _ _ _ _ _ h := by cases h
  round _ _ _ _ h := by cases h
  leave _ _ _ _ _ _ h := by cases h
  dfunc _ _ _ _ _ h := by cases h
  codeS _ _ _ _ _ h := by cases h

theorem FinPost.from {S S1 : Sh} {A A1 : AH} {w w1 : World} (hf : Fr S A w S1 A1 w1) {os os' : List AFin} (hsub : ∀ x ∈ os', x ∈ os) {e : Ending} {w' : World} (h : FinPost G S1 A1 w1 os' e w') : FinPost G S A w os e w' := by
  obtain ⟨o, ho, S', h1, h2, h3⟩ := h
  exact ⟨o, hsub o ho, S', h1, hf.trans h2, h3⟩

theorem OutPost.from {S S1 : Sh} {A A1 : AH} {w w1 : World} (hf : Fr S A w S1 A1 w1) {os os' : List AOut} (hsub : ∀ x ∈ os', x ∈ os) {e : Exit} {b : Act} {w' : World} (h : OutPost G S1 A1 w1 os' e b w') : OutPost G S A w os e b w' := by
  obtain ⟨o, ho, S', h1, h2, h3⟩ := h
  exact ⟨o, hsub o ho, S', h1, hf.trans h2, h3⟩

theorem FinPost.out {S : Sh} {A : AH} {w : World} {os : List AFin} {w' : World} : ¬ FinPost G S A w os .outgrown w' := by
  rintro ⟨o, _, S', _, _, h3⟩
  generalize o.e = x at h3
  cases h3

theorem wpListIn_mono {F : Fence} {n : Nat} {ops : Array Oper} {Q Q' : Exit → Act → World → Prop} (hq : ∀ e a w, Q e a w → Q' e a w) : ∀ (l : List Oper) (a : Act) (w : World), wpListIn F n P ops Q l a w → wpListIn F n P ops Q' l a w
  | [], a, w, h => hq _ _ _ h
  | o :: rest, a, w, h => by
    have hlo : LetsOut Q → LetsOut Q' := fun ⟨a, w, h⟩ => ⟨a, w, hq _ _ _ h⟩
    simp only [wpListIn] at h ⊢
    split
    · rename_i hw
      simp only [hw, if_true] at h
      unfold Oper.wpIn at *
      refine ⟨h.1, ?_⟩
      have h := h.2
      generalize (o.semAt F.round a.eval).run P w = r at *
      cases r with
      | ok x w' =>
        cases x <;> simp only [Oper.uponIn] at h ⊢ <;>
          first
            | exact wpListIn_mono hq rest _ _ h
            | exact ⟨h.1, CallsIn.mono h.2 (fun e w'' he => by cases e <;> first | exact wpListIn_mono hq rest _ _ he | exact hq _ _ _ he | exact hlo he)⟩
            | exact ⟨h.1, RowsIn.mono h.2 (fun _ _ he => wpListIn_mono hq rest _ _ he)⟩
            | exact ⟨h.1, RoundIn.mono h.2 (fun e w'' he => by cases e <;> first | exact wpListIn_mono hq rest _ _ he | exact hq _ _ _ he | exact hlo he)⟩
      | halt x w' => cases x <;> simp only [Oper.uponIn] at h ⊢ <;> first | exact hq _ _ _ h | exact h
    · rename_i hw
      simp only [hw] at h
      exact ⟨h.1, wpListIn_mono hq rest _ _ h.2⟩

theorem aYielded_ok {S : Sh} {ops : Array Oper} {a : AAct} {b : Act} (h : ARel S a b) {j : Nat} {y : Option Bool} (hy : aYielded ops a j = some y) : yielded ops b.tmps j = y := by
  unfold aYielded at hy
  unfold yielded
  cases hd : (ops[j]?).bind (·.dst) with
  | none => rw [hd] at hy; cases hy; simp
  | some t =>
    rw [hd] at hy
    simp only at hy
    simp only [Option.bind_some]
    have hl := h.tmps.length
    cases ht : a.tmps[t]? with
    | none =>
      rw [ht] at hy; cases hy
      have : b.tmps[t]? = none := by
        rw [Array.getElem?_eq_none]
        have := List.getElem?_eq_none_iff.1 ht
        simp only [Array.length_toList] at hl
        omega
      rw [this]
    | some x =>
      rw [ht] at hy
      obtain ⟨v, h1, h2⟩ := h.tmps.get t x ht
      simp only [Array.getElem?_toList] at h1
      rw [h1]
      cases h2 <;> first
        | (cases hy; done)
        | (cases hy; rfl)

theorem aWanted_ok {S : Sh} {ops : Array Oper} {a : AAct} {b : Act} (h : ARel S a b) {o : Oper} {y : Bool} (hy : aWanted ops a o = some y) : Region.wanted o (yielded ops b.tmps) = y := by
  unfold aWanted at hy
  unfold Region.wanted
  cases hg : o.guard with
  | none => rw [hg] at hy; cases hy; rfl
  | some p =>
    obtain ⟨j, want⟩ := p
    rw [hg] at hy
    simp only [Option.map_eq_some_iff] at hy
    obtain ⟨z, hz, rfl⟩ := hy
    simp only [aYielded_ok h hz]

theorem undef_rel (S : Sh) : VRel S (.tup []) undef := .tup [] [] .nil

theorem aOp_sem {mu : Bool} {S : Sh} {A : AH} {w : World} (h : Inv G S A w) {a : AAct} {b : Act} (hab : ARel S a b) {o : Oper} {l : List AR} {rd ro : Option Nat} (hr : RdRel S rd ro) (hx : aOp P G mu rd.isSome A a.eval o = some l) :
    ∃ r ∈ l, RRel G S A w r ((o.semAt ro b.eval).run P w) := by
  cases rd with
  | none =>
    obtain rfl : ro = none := hr
    exact aOp_exec h hab hx
  | some r =>
    obtain ⟨c, rfl, _⟩ := hr
    have hnd : ∀ c, o.op ≠ .defer c := by
      intro c hc
      simp [aOp, hc] at hx
    have e : aOp P G mu false A a.eval o = some l := by
      rw [← hx]
      unfold aOp
      cases ho : o.op <;> first | rfl | exact absurd ho (hnd _) | (rename_i x y; cases y <;> rfl)
    rw [Oper.semAt_some _ _ _ hnd]
    exact aOp_exec h hab e

theorem set_ok {S : Sh} : ∀ (ps : List Tmp) (xs : List AV) (vs : List Value) (ts : List AV) (us : Array Value), LRel S xs vs → LRel S ts us.toList →
    LRel S (aSetAll ps xs ts) ((ps.zip vs).foldl (fun tmps (t, a) => tmps.setIfInBounds t a) us).toList
  | [], xs, vs, ts, us, _, h => by simp [aSetAll]; exact h
  | p :: ps, _, _, ts, us, .nil, h => by simp [aSetAll]; exact h
  | p :: ps, _, _, ts, us, .cons x xs v vs hx hl, h => by
    simp only [aSetAll, List.zip_cons_cons, List.foldl_cons]
    exact set_ok ps xs vs _ _ hl (by simpa using h.set p hx)

theorem ARel.defer {S : Sh} {a : AAct} {b : Act} (h : ARel S a b) {d : ADef} {e : Deferred} (hd : DRel S d e) : ARel S { a with defers := d :: a.defers } { b with defers := e :: b.defers } :=
  ⟨h.tmps, .cons _ _ _ _ hd h.defers⟩

section step
variable {m : Mc}

theorem sOps_ok (hm : Mc.Ok P G m) {rd : Option Nat} {ops : Array Oper} {l : List Oper} {a : AAct} {A : AH} {os : List AOut} (hx : sOps P G m rd ops l a A = some os) {S : Sh} {w : World} {b : Act} {ro : Option Nat} (hi : Inv G S A w) (hab : ARel S a b) (hr : RdRel S rd ro) :
    wpListIn (fen ro) 0 P ops (OutPost G S A w os) l b w := by
  unfold sOps at hx
  split at hx
  · cases hx
    exact ⟨_, List.mem_singleton.2 rfl, S, hi, Fr.refl S A w, hab, .normal⟩
  · rename_i o rest
    split at hx
    · cases hx
    · rename_i hw
      simp only [wpListIn, aWanted_ok hab hw, Bool.false_eq_true, if_false]
      exact ⟨fun _ _ => trivial, hm.ops _ _ _ _ _ _ hx S w _ ro hi (hab.put _ (undef_rel S)) hr⟩
    · rename_i hw
      simp only [wpListIn, aWanted_ok hab hw, if_true]
      obtain ⟨rs, h1, h2⟩ := bindM_mem hx
      obtain ⟨r, hr1, hr2⟩ := aOp_sem hi hab hr h1
      obtain ⟨ys, h3, h4⟩ := h2 r hr1
      refine ⟨fun _ _ => trivial, ?_⟩
      have hround : (fen ro).round = ro := rfl
      rw [hround]
      generalize (o.semAt ro b.eval).run P w = res at hr2
      have after : ∀ {S1 : Sh} {A1 : AH} {w1 : World} {fs : List AFin}, Fr S A w S1 A1 w1 → (∀ x ∈ fs, ∃ ys, sAfter m rd ops o.dst rest a x = some ys ∧ ∀ y ∈ ys, y ∈ os) → ∀ e w', FinPost G S1 A1 w1 fs e w' →
          (match e with
            | .returned v => wpListIn (fen ro) 0 P ops (OutPost G S A w os) rest (b.put o.dst v) w'
            | .panicked chain => OutPost G S A w os (.panic chain) b w'
            | .outgrown => LetsOut (OutPost G S A w os)) := by
        intro S1 A1 w1 fs hf hfs e w' hp
        obtain ⟨x, hx1, S2, i2, f2, e2⟩ := hp
        obtain ⟨ys, hy1, hy2⟩ := hfs x hx1
        unfold sAfter at hy1
        generalize hxe : x.e = xe at hy1 e2
        cases e2 with
        | returned v u hv =>
          simp only at hy1
          have hle := (hf.trans f2).le
          exact wpListIn_mono (fun _ _ _ h => h.from (hf.trans f2) hy2) _ _ _ (hm.ops _ _ _ _ _ _ hy1 S2 w' _ ro i2 ((hab.mono hle).put _ hv) (hr.mono hle))
        | panicked c d hc =>
          simp only [Option.some.injEq] at hy1
          subst hy1
          exact ⟨_, hy2 _ (List.mem_singleton.2 rfl), S2, i2, hf.trans f2, hab.mono (hf.trans f2).le, .panic _ _ hc⟩
      cases r with
      | val v A' =>
        simp only [sOne] at h3
        cases res with
        | halt x w' => exact hr2.elim
        | ok x w' =>
          cases x <;> first
            | exact hr2.elim
            | (obtain ⟨S', i', f', v'⟩ := hr2
               exact wpListIn_mono (fun _ _ _ h => h.from f' h4) _ _ _ (hm.ops _ _ _ _ _ _ h3 S' w' _ ro i' ((hab.mono f'.le).put _ v') (hr.mono f'.le)))
      | enter f args A' =>
        simp only [sOne] at h3
        obtain ⟨fs, g1, g2⟩ := bindM_mem h3
        cases res with
        | halt x w' => exact hr2.elim
        | ok x w' =>
          cases x <;> first
            | exact hr2.elim
            | skip
          rename_i g vs
          obtain ⟨rfl, S', i', f', v'⟩ := hr2
          refine ⟨(fun h => by simp [fen, Fence.wide] at h), ?_⟩
          exact CallsIn.mono (hm.func _ _ _ _ g1 S' w' _ i' v') (fun e w'' hp => by have := after f' (fun x hx => let ⟨ys, a1, a2⟩ := g2 x hx; ⟨ys, a1, fun y hy => h4 y (a2 y hy)⟩) e w'' hp; cases e <;> exact this)
      | yield l args A' =>
        simp only [sOne] at h3
        obtain ⟨fs, g1, g2⟩ := bindM_mem h3
        cases res with
        | halt x w' => exact hr2.elim
        | ok x w' =>
          cases x <;> first
            | exact hr2.elim
            | skip
          rename_i c fn tmps assign body
          obtain ⟨S', st, pd, ats, ps, d, i', f', hc, hb, hlen, us, vs, rfl, hats, hargs, s, p, fn', hheap, rfl⟩ := hr2
          refine ⟨(fun h => by simp [fen, Fence.wide] at h), ?_⟩
          exact RoundIn.mono (hm.round _ _ _ _ g1 S' w' c vs st pd ats ps assign body d us fn s p _ i' hc hb hlen hargs hats hheap) (fun e w'' hp => by have := after f' (fun x hx => let ⟨ys, a1, a2⟩ := g2 x hx; ⟨ys, a1, fun y hy => h4 y (a2 y hy)⟩) e w'' hp; cases e <;> exact this)
      | dfr d A' =>
        simp only [sOne] at h3
        cases res with
        | halt x w' => exact hr2.elim
        | ok x w' =>
          cases x <;> first
            | exact hr2.elim
            | skip
          obtain ⟨S', i', f', v'⟩ := hr2
          exact wpListIn_mono (fun _ _ _ h => h.from f' h4) _ _ _ (hm.ops _ _ _ _ _ _ h3 S' w' _ ro i' (((hab.mono f'.le).defer v').put _ (undef_rel S')) (hr.mono f'.le))
      | panic v A' =>
        simp only [sOne, Option.some.injEq] at h3
        subst h3
        cases res with
        | ok x w' => exact hr2.elim
        | halt x w' =>
          cases x <;> first
            | exact hr2.elim
            | skip
          obtain ⟨S', i', f', v'⟩ := hr2
          exact ⟨_, h4 _ (List.mem_singleton.2 rfl), S', i', f', hab.mono f'.le, .panic _ _ (.cons _ _ _ _ _ v' .nil)⟩
      | recover A' => cases h3

end step
end
end Go.Am
