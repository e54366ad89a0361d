/-
  What the proof is built of: What is handed over need not be known by the room behind it. Loops whose states are of several shapes: what grows may not be there yet. A contract of a call that is handed one block, and values: it holds wherever that block lies. What a call hands back out of blocks of its own changes no more: it is known from then on. Conditions: none.
-/
import Derived.Test.YtnmolpkkemljoaaGreatDoorM5
set_option linter.unusedVariables false
set_option linter.unusedSimpArgs false
section
noncomputable section
namespace Go.Am
open Go
def weakA : Nat → AV → AV
 | 0, x => x
 | n + 1, x =>
  match x with
  | .isl b _ _ xs => .isl b none 0 xs
  | .agg cs => .agg (cs.map (weakA n))
  | x => x
theorem LRel.mapAll {S : Sh} {f : AV → AV} (hf : ∀ x v, VRel S x v → VRel S (f x) v) : ∀ {xs : List AV} {vs : List Value}, LRel S xs vs → LRel S (xs.map f) vs
 | _, _, .nil => .nil
 | _, _, .cons _ _ _ _ hv hl => .cons _ _ _ _ (hf _ _ hv) (hl.mapAll hf)
theorem weakA_ok {S : Sh} : ∀ (n : Nat) (x : AV) (v : Value), VRel S x v → VRel S (weakA n x) v
 | 0, x, v, h => h
 | n + 1, x, v, h => by
  have ih := weakA_ok (S := S) n
  have h' := h
  cases h with
  | isl fam off xs sz a o cap h0 hsz hc hl hf => exact .isl none 0 xs sz a o cap h0 hsz hc hl (fun φ hφ => by cases hφ)
  | islNil fam off => exact .islNil _ _
  | islE off a => exact .islE _ _
  | agg xs vs hl => exact .agg _ _ (hl.mapAll ih)
  | _ => exact h'
theorem QuietJ.weakA {P : Program} {G : Gl} {f : FuncId} {args : List AV} {v : AV} (n : Nat) (h : QuietJ P G f (args.map (weakA n)) v) : QuietJ P G f args v :=
 fun A S w vs hi hl => h A S w vs hi (hl.mapAll (weakA_ok n))
def weakQ (n : Nat) (q : QSpec) : QSpec := fun args K => q (args.map (Go.Am.weakA n)) K
theorem QSpec.Ok.weak {P : Program} {G : Gl} {f : FuncId} {q : QSpec} (n : Nat) (h : QSpec.Ok P G f q) : QSpec.Ok P G f (weakQ n q) := by
 intro args K hk
 obtain ⟨v, h1, h2⟩ := h _ _ hk
 exact ⟨v, h1.weakA n, h2⟩
end Go.Am
end
section
noncomputable section
namespace Go.Am
open Go
structure LSN (ι ρ : Type) where
 m : Nat
 ways : Nat
 n : Nat → Nat
 nf : Nat → Nat
 rd : Option Nat
 fr : Nat → ι → AAct
 hp : Nat → ι → AH
 inv : Nat → ι → Prop
 res : Nat → ι → ρ
 sel : ρ → Nat
 wn : Nat → Nat
 wnf : Nat → Nat
 out : Nat → ρ → AOut
end Go.Am
end
end
section
noncomputable section
namespace Go.Am
open Go
theorem BRel.bare0 {S S' : Sh} (hX : S'.X = S.X) (him : ∀ b o c, S.im b o = some c → S'.im b o = some c) (hrm : ∀ c n, S.rm c = some n → S'.rm c = some n) {x : ABlk} {o : Obj} (h : BRel S x o) (hb : x.bnd 0 0 = true) : BRel S' x o :=
 have hle : (S.cut 0 0).le S' := ⟨hX, fun i c hc => by simp [Sh.cut] at hc, him, fun φ e y hy => by simp [Sh.cut] at hy, hrm⟩
 (h.cut hb).mono hle
theorem FuncJ.one {P : Program} {G : Gl} {f : FuncId} {args : List AV} {A : AH} {e : AEnd} {x x' : ABlk} {b : Nat} (h : FuncJ P G f (.map 0 :: args) ⟨[x], []⟩ (hpIs 0 e ⟨[x'], []⟩))
  (hargs : AV.stillL args = true) (hx : x.bnd 0 0 = true) (hx' : x'.bnd 0 0 = true) (hx1 : x'.bnd 1 0 = true) (he : e.bnd 0 0 = true) (hd : x ≠ .dead) (hd' : x' ≠ .dead) (hb : A.blks[b]? = some x) :
  FuncJ P G f (.map b :: args) A fun o => o = ⟨e, A.put b x'⟩ := by
 intro S w vs hi hl
 cases hl with
 | cons _ _ v0 vs hv0 hl =>
 cases hv0 with
 | map _ c hr =>
 have hlb : A.live b := ⟨x, hb, hd⟩
 have hblt : b < A.blks.length := live_lt hlb
 let S1 : Sh := { X := S.X, ρ := fun i => if i = 0 then some c else Option.none, im := S.im, tl := fun _ _ => Option.none, rm := S.rm }
 have only : ∀ {b'}, Owned S1 ⟨[x], []⟩ b' → b' = c := by
  rintro b' (⟨i, hlv, hq⟩ | ⟨φ, ec, room, e1, sz, h1, _⟩)
  ·have hq : (if i = 0 then some c else Option.none) = some b' := hq
   split at hq
   ·exact (Option.some.inj hq).symm
   ·cases hq
  ·simp at h1
 obtain ⟨c0, o0, r0, hc0, hb0⟩ := hi.blk b x hb hd
 obtain rfl : c0 = c := Option.some.inj (r0.symm.trans hr)
 have i1 : Inv G S1 ⟨[x], []⟩ w := by
  refine ⟨hi.im, ?_, ?_, ?_, ?_, ?_, ?_, ?_, ?_, hi.glob, hi.rm⟩
  ·intro i y hy hyd
   cases i with
   | zero =>
    simp at hy
    subst hy
    exact ⟨c0, o0, by simp [S1], hc0, BRel.bare0 (S := S) (S' := S1) rfl (fun _ _ _ h => h) (fun _ _ h => h) hb0 hx⟩
   | succ i => simp at hy
  ·intro i j c' h1 h2 h3 h4
   have h1 := live_lt h1
   have h2 := live_lt h2
   simp at h1 h2
   omega
  ·intro i c' o hlv hq
   have h1 := live_lt hlv
   simp at h1
   subst h1
   have hq : (if 0 = 0 then some c0 else Option.none) = some c' := hq
   simp at hq
   subst hq
   exact hi.free b c0 o hlb hr
  ·intro φ e1 sz hφ; simp at hφ
  ·rintro φ b' ec room ⟨e1, sz, h1, _⟩; simp at h1
  ·rintro φ ψ b' ec room ec' room' ⟨e1, sz, h1, _⟩ _; simp at h1
  ·intro i hge
   show (if i = 0 then some c0 else Option.none) = Option.none
   rw [if_neg (by simp at hge; omega)]
  ·intro φ e1 y hy; cases hy
 have l1 : LRel S1 (.map 0 :: args) (.map (some c0) :: vs) := .cons _ _ _ _ (.map 0 c0 (by simp [S1])) (LRel.still (S := S) (S' := S1) (fun _ _ _ h => h) hl hargs)
 refine (h S1 w _ i1 l1).mono ?_
 rintro en w' ⟨o, ⟨hoe, hob⟩, S2, i2, f2, q2⟩
 obtain ⟨hob, hlen, hblk⟩ := BlksR_elim hob
 obtain ⟨hfam, _⟩ := FamR_elim hob
 have i3 := i2.cutTo (A' := ⟨[x'], []⟩) (n := 1) (nf := 0) rfl rfl (by simp [hx1]) hblk hfam
 rw [hoe] at q2
 have hρ0 : S2.ρ 0 = some c0 := f2.le.ρ 0 c0 (by simp [S1])
 let S3 : Sh := { X := S.X, ρ := S.ρ, im := S2.im, tl := S.tl, rm := S2.rm }
 have le3 : S.le S3 := ⟨rfl, fun _ _ h => h, fun b o c hc => f2.le.im b o c hc, fun _ _ _ h => h, fun c k hc => f2.le.rm c k hc⟩
 have hX : S2.X = S.X := f2.le.X
 have leB : S2.bare.le S3.bare := ⟨hX.symm, fun _ _ h => by simp [Sh.bare] at h, fun _ _ _ h => h, fun _ _ _ h => by simp [Sh.bare] at h, fun _ _ h => by simp [Sh.bare] at h⟩
 have leC : (S2.cut 0 0).le S3 := ⟨hX.symm, fun i c' h => by simp [Sh.cut] at h, fun _ _ _ h => h, fun φ e1 y h => by simp [Sh.cut] at h, fun _ _ h => h⟩
 have keep : ∀ b', b' < w.heap.size → b' ≠ c0 → w'.heap[b']? = w.heap[b']? := fun b' hlt hne => f2.keep b' hlt fun ho => hne (only ho)
 have imOld : ∀ {b' o' v}, S2.im b' o' = some v → b' < w.heap.size → b' ≠ c0 → S.im b' o' = some v := by
  intro b' o' v hv hlt hne
  rcases f2.imNew b' o' v hv with h1 | h1 | h1
  ·exact h1
  ·omega
  ·exact absurd (only h1) hne
 have getB : (A.put b x').blks[b]? = some x' := by simp [AH.put, hblt]
 have getN : ∀ i, i ≠ b → (A.put b x').blks[i]? = A.blks[i]? := fun i hne => by
  show (A.blks.set b x')[i]? = _
  rw [List.getElem?_set_ne (by omega)]
 have liveA : ∀ {i}, (A.put b x').live i → A.live i := by
  rintro i ⟨y, hy, hyd⟩
  by_cases hib : i = b
  ·subst hib; exact hlb
  ·rw [getN i hib] at hy; exact ⟨y, hy, hyd⟩
 have other : ∀ {i c'}, A.live i → S.ρ i = some c' → i ≠ b → c' ≠ c0 := fun hlv hc hne hq => hne (hi.inj _ _ _ hlv hlb (by rw [← hq]; exact hc) hr)
 have famA : (A.put b x').fams = A.fams := rfl
 have endsA : ∀ {φ b' ec room}, (A.put b x').ends S3 φ b' ec room → A.ends S φ b' ec room := fun h => h
 have notC : ∀ {φ b' ec room}, A.ends S φ b' ec room → b' ≠ c0 := fun hE hq => (hi.room _ _ _ _ hE).2.2 b hlb (by rw [hq]; exact hr)
 have inv3 : Inv G S3 (A.put b x') w' := by
  refine ⟨i2.im, ?_, ?_, ?_, ?_, ?_, ?_, ?_, ?_, ?_, i2.rm⟩
  ·intro i y hy hyd
   by_cases hib : i = b
   ·subst hib
    rw [getB] at hy
    cases hy
    obtain ⟨c1, ob, h1, h2, h3⟩ := i3.blk 0 x' rfl hyd
    have h1 : (if 0 < 1 then S2.ρ 0 else Option.none) = some c1 := h1
    rw [if_pos (by omega), hρ0] at h1
    cases h1
    exact ⟨c0, ob, hr, h2, BRel.bare0 (S := S2.cut 1 0) (S' := S3) hX.symm (fun _ _ _ h => h) (fun _ _ h => h) h3 hx'⟩
   ·rw [getN i hib] at hy
    obtain ⟨c1, ob, h1, h2, h3⟩ := hi.blk i y hy hyd
    have hlt := (Array.getElem?_eq_some_iff.1 h2).1
    exact ⟨c1, ob, h1, by rw [keep c1 hlt (other ⟨y, hy, hyd⟩ h1 hib)]; exact h2, h3.mono le3⟩
  ·exact fun i j c' h1 h2 h3 h4 => hi.inj i j c' (liveA h1) (liveA h2) h3 h4
  ·intro i c' o' hlv hq
   by_cases hib : i = b
   ·subst hib
    obtain rfl : c0 = c' := Option.some.inj (hr.symm.trans hq)
    have hl0 : (AH.mk [x'] []).live 0 := ⟨x', rfl, hd'⟩
    have := i3.free 0 c0 o' hl0 (by show (if 0 < 1 then S2.ρ 0 else Option.none) = _; rw [if_pos (by omega)]; exact hρ0)
    exact this
   ·cases hv : S2.im c' o' with
    | none => first | exact hv | rfl
    | some v =>
     have hlv' := liveA hlv
     have hlt := hi.lt (.inl ⟨i, hlv', hq⟩)
     have := imOld hv hlt (other hlv' hq hib)
     rw [hi.free i c' o' hlv' hq] at this; cases this
  ·exact fun φ e1 sz hφ => hi.fam φ e1 sz hφ
  ·intro φ b' ec room hE
   have hE' := endsA hE
   obtain ⟨⟨cs, el, h1, h1'⟩, h2, h3⟩ := hi.room φ b' ec room hE'
   have hlt := (Array.getElem?_eq_some_iff.1 h1).1
   refine ⟨⟨cs, el, by rw [keep b' hlt (notC hE')]; exact h1, h1'⟩, fun o' ho => ?_, fun i hlv hq => h3 i (liveA hlv) hq⟩
   cases hv : S2.im b' o' with
   | none => first | exact hv | rfl
   | some v => have := imOld hv hlt (notC hE'); rw [h2 o' ho] at this; cases this
  ·exact fun φ ψ b' ec room ec' room' h1 h2 => hi.famInj φ ψ b' ec room ec' room' (endsA h1) (endsA h2)
  ·intro i hge
   refine hi.ρout i ?_
   have : (A.put b x').blks.length = A.blks.length := by simp [AH.put]
   omega
  ·exact fun φ e1 y hy => hi.tlout φ e1 y hy
  ·intro g o' y hg
   obtain ⟨v, h1, h2⟩ := i2.glob g o' y hg
   exact ⟨v, h1, h2.mono leB⟩
 refine ⟨_, rfl, S3, inv3, ?_, (q2.cut he).mono leC⟩
 have ownC : ∀ {b'}, Owned S1 ⟨[x], []⟩ b' → Owned S A b' := fun ho => by rw [only ho]; exact .inl ⟨b, hlb, hr⟩
 refine ⟨le3, f2.size, f2.os, f2.tape, f2.output, fun b' hlt hno => f2.keep b' hlt fun ho => hno (ownC ho), ?_, ?_, ?_, fun _ _ h => .inl h⟩
 ·rintro b' (⟨i, hlv, hq⟩ | ⟨φ, ec, room, hE⟩) _
  ·exact .inl ⟨i, liveA hlv, hq⟩
  ·exact .inr ⟨φ, ec, room, endsA hE⟩
 ·intro b' o' v hv
  rcases f2.imNew b' o' v hv with h1 | h1 | h1
  ·exact .inl h1
  ·exact .inr (.inl h1)
  ·exact .inr (.inr (ownC h1))
 ·show A.blks.length ≤ (A.blks.set b x').length
  simp
end Go.Am
end
end
section
noncomputable section
namespace Go.Am
open Go
open Classical in
def Sh.learn (S : Sh) (p : Nat → Nat → Prop) (w : World) : Sh :=
 { X := S.X, ρ := S.ρ, im := fun b o => match S.im b o with | some v => some v | .none => if p b o then w.cell? ⟨b, o, .none⟩ else .none, tl := S.tl, rm := S.rm }
theorem Sh.learn_im {S : Sh} {p : Nat → Nat → Prop} {w : World} {b o : Nat} {v : Value} (h : S.im b o = some v) : (S.learn p w).im b o = some v := by simp [Sh.learn, h]
theorem Sh.learn_le (S : Sh) (p : Nat → Nat → Prop) (w : World) : S.le (S.learn p w) :=
 ⟨rfl, fun _ _ h => h, fun _ _ _ h => Sh.learn_im h, fun _ _ _ h => h, fun _ _ h => h⟩
theorem Sh.learn_cases {S : Sh} {p : Nat → Nat → Prop} {w : World} {b o : Nat} {v : Value} (h : (S.learn p w).im b o = some v) : S.im b o = some v ∨ (p b o ∧ w.cell? ⟨b, o, .none⟩ = some v) := by
 simp only [Sh.learn] at h
 split at h
 ·rename_i u hu
  cases h
  exact .inl hu
 ·split at h
  ·rename_i hp
   exact .inr ⟨hp, h⟩
  ·cases h
theorem Inv.learn {G : Gl} {S : Sh} {A : AH} {w : World} (h : Inv G S A w) {p : Nat → Nat → Prop} (hp : ∀ b o, p b o → (∀ i, A.live i → S.ρ i ≠ some b) ∧ ∀ φ ec room, ¬ A.ends S φ b ec room) : Inv G (S.learn p w) A w := by
 have hle := Sh.learn_le S p w
 refine ⟨?_, ?_, h.inj, ?_, h.fam, ?_, h.famInj, h.ρout, h.tlout, ?_, h.rm⟩
 ·intro b o v hv
  rcases Sh.learn_cases hv with h1 | ⟨_, h1⟩
  ·exact h.im b o v h1
  ·exact h1
 ·intro i x hx hd
  obtain ⟨c, o, h1, h2, h3⟩ := h.blk i x hx hd
  exact ⟨c, o, h1, h2, h3.mono hle⟩
 ·intro i c o hlv hc
  cases hv : (S.learn p w).im c o with
  | none => rfl
  | some v =>
   rcases Sh.learn_cases hv with h1 | ⟨h1, _⟩
   ·rw [h.free i c o hlv hc] at h1; cases h1
   ·exact absurd hc ((hp c o h1).1 i hlv)
 ·intro φ b ec room hE
  obtain ⟨h1, h2, h3⟩ := h.room φ b ec room hE
  refine ⟨h1, fun o ho => ?_, h3⟩
  cases hv : (S.learn p w).im b o with
  | none => rfl
  | some v =>
   rcases Sh.learn_cases hv with h4 | ⟨h4, _⟩
   ·rw [h2 o ho] at h4; cases h4
   ·exact absurd hE ((hp b o h4).2 φ ec room)
 ·intro g o x hg
  obtain ⟨v, h1, h2⟩ := h.glob g o x hg
  exact ⟨v, Sh.learn_im h1, h2.mono hle.bare⟩
def frzN (P : Program) (A : AH) (n nf : Nat) : Nat → AV → AV
 | 0, x => x
 | k + 1, x =>
  match x with
  | .isl nil (some φ) off xs => match decide (φ < nf) with | true => .isl nil (some φ) off xs | false => .isl nil none 0 xs
  | .iface t v => .iface t (frzN P A n nf k v)
  | .agg cs => .agg (cs.map (frzN P A n nf k))
  | .tup vs => .tup (vs.map (frzN P A n nf k))
  | .row b len sz =>
   match decide (b < n) with
   | true => .row b len sz
   | false =>
    match nthR A.blks b with
    | some (.cells cs el) =>
     match tAgg P el with
     | some agg =>
      match agg || (sz == 1) with
      | true =>
       match chunk agg sz len (cs.map (frzN P A n nf k)) with
       | some xs => .isl false none 0 xs
       | none => .row b len sz
      | false => .row b len sz
     | none => .row b len sz
    | _ => .row b len sz
  | x => x
def beyond (S : Sh) (A : AH) (n : Nat) (b o : Nat) : Prop := ∃ i cs el, n ≤ i ∧ A.blks[i]? = some (.cells cs el) ∧ S.ρ i = some b ∧ o < cs.length
theorem LRel.bndAll {S S' : Sh} {n nf : Nat} {f : AV → AV} (hf : ∀ x v, VRel S x v → (f x).bnd n nf = true → VRel S' (f x) v) : ∀ {xs : List AV} {vs : List Value}, LRel S xs vs → AV.bndL n nf (xs.map f) = true → LRel S' (xs.map f) vs
 | _, _, .nil, _ => .nil
 | _, _, .cons x xs v vs hv hl, h => by
  simp only [List.map_cons, AV.bndL, Bool.and_eq_true] at h
  exact .cons _ _ _ _ (hf _ _ hv h.1) (hl.bndAll hf h.2)
theorem frzN_ok {P : Program} {G : Gl} {S : Sh} {A : AH} {w : World} (hi : Inv G S A w) {n nf : Nat} : ∀ (k : Nat) (x : AV) (v : Value), VRel S x v → (frzN P A n nf k x).bnd n nf = true → VRel ((S.cut n nf).learn (beyond S A n) w) (frzN P A n nf k x) v
 | 0, x, v, h, hs => (h.cut hs).mono (Sh.learn_le _ _ _)
 | k + 1, x, v, h, hs => by
  have ih := frzN_ok (P := P) hi (n := n) (nf := nf) k
  have hle := Sh.learn_le (S.cut n nf) (beyond S A n) w
  have plain : ∀ {y : AV}, frzN P A n nf (k + 1) x = y → y = x → VRel ((S.cut n nf).learn (beyond S A n) w) (frzN P A n nf (k + 1) x) v := by
   intro y h1 h2
   rw [h1, h2] at hs ⊢
   exact (h.cut hs).mono hle
  cases h with
  | isl fam off xs sz a o cap h0 hsz hc hl hf =>
   cases fam with
   | none => exact plain (y := .isl false none off xs) (by simp [frzN]) rfl
   | some φ =>
    cases hq : decide (φ < nf) with
    | true => exact plain (y := .isl false (some φ) off xs) (by simp only [frzN, hq]) rfl
    | false =>
     simp only [frzN, hq] at hs ⊢
     simp only [AV.bnd] at hs
     exact .isl none 0 xs sz a o cap h0 hsz ((hc.cut (AV.bnd_flat n nf xs hs)).mono hle) hl (fun φ hφ => by cases hφ)
  | islNil fam off =>
   cases fam with
   | none => exact plain (y := .isl true none off []) (by simp [frzN]) rfl
   | some φ =>
    cases hq : decide (φ < nf) with
    | true => simp only [frzN, hq]; exact .islNil _ _
    | false => simp only [frzN, hq]; exact .islNil _ _
  | islE off a => exact plain (y := .isl false none off []) (by simp [frzN]) rfl
  | iface t x v hv =>
   simp only [frzN, AV.bnd] at hs ⊢
   exact .iface _ _ _ (ih _ _ hv hs)
  | agg xs vs hl =>
   simp only [frzN, AV.bnd] at hs ⊢
   exact .agg _ _ (hl.bndAll ih hs)
  | tup xs vs hl =>
   simp only [frzN, AV.bnd] at hs ⊢
   exact .tup _ _ (hl.bndAll ih hs)
  | row b len sz c cap room hr q0 hl hm hcap =>
   cases hq : decide (b < n) with
   | true => exact plain (y := .row b len sz) (by simp only [frzN, hq]) rfl
   | false =>
    have hbn : ¬ b < n := by simpa using hq
    simp only [frzN, hq] at hs ⊢
    have bad : (AV.row b len sz).bnd n nf = true → False := fun h => by simp only [AV.bnd, decide_eq_true_eq] at h; exact hbn h
    split at hs
    ·rename_i cs el hb
     rw [nthR_eq] at hb
     obtain ⟨c', o, r0, h2, h3⟩ := hi.blk b _ hb (by simp)
     obtain rfl : c' = c := Option.some.inj (r0.symm.trans hr)
     cases h3 with
     | cells _ _ vs rest l1 =>
     have l2 : ∀ (j : Nat) (v : Value), vs[j]? = some v → ((S.cut n nf).learn (beyond S A n) w).im c' j = some v := by
      intro j v hj
      have hjl := (List.getElem?_eq_some_iff.1 hj).1
      have hfree : (S.cut n nf).im c' j = none := hi.free b c' j ⟨_, hb, by simp⟩ hr
      have hex : beyond S A n c' j := ⟨b, cs, el, by omega, hb, hr, by rw [l1.length]; exact hjl⟩
      simp only [Sh.learn, hfree]
      rw [if_pos hex]
      simp [World.cell?, h2, List.getElem?_append_left hjl, hj]
     split at hs
     ·rename_i agg hagg
      split at hs
      ·rename_i hc1
       split at hs
       ·rename_i xs hch
        simp only [AV.bnd] at hs
        have hag : agg = false → sz = 1 := by
         intro h
         subst h
         simpa using hc1
        obtain ⟨k1, k2, k3⟩ := chunk_ok q0 hag len _ xs hch
        have hfl : flat xs = (cs.take (len * sz)).map (frzN P A n nf k) := by rw [k3, List.map_take]
        have hst : AV.bndL n nf ((cs.take (len * sz)).map (frzN P A n nf k)) = true := by rw [← hfl]; exact AV.bnd_flat n nf xs hs
        have hrel := (l1.take (len * sz)).bndAll ih hst
        rw [← hfl] at hrel
        have key := VRel.isl (S := (S.cut n nf).learn (beyond S A n) w) none 0 xs sz c' 0 cap q0 k2 (CRel.of_cells hrel fun j v hj => by
         rw [Nat.zero_add]
         refine l2 j v ?_
         rw [List.getElem?_take] at hj
         split at hj
         ·exact hj
         ·cases hj) (by omega) (fun φ hφ => by cases hφ)
        rw [k1] at key
        exact key
       ·exact (bad hs).elim
      ·exact (bad hs).elim
     ·exact (bad hs).elim
    ·exact (bad hs).elim
  | _ => exact plain (by simp only [frzN]) rfl
def frzE (P : Program) (A : AH) (n nf k : Nat) : AEnd → AEnd
 | .returned v => .returned (frzN P A n nf k v)
 | e => e
theorem frzE_ok {P : Program} {G : Gl} {S : Sh} {A : AH} {w : World} (hi : Inv G S A w) {n nf k : Nat} {x : AEnd} {e : Ending} (h : FinRel S x e) (hb : (frzE P A n nf k x).bnd n nf = true) : FinRel ((S.cut n nf).learn (beyond S A n) w) (frzE P A n nf k x) e := by
 cases h with
 | returned v u hv => exact .returned _ _ (frzN_ok hi k v u hv hb)
 | panicked c d hc => exact (FinRel.cut (.panicked c d hc) hb).mono (Sh.learn_le _ _ _)
def hpFz (P : Program) (n nf k : Nat) (e : AEnd) (A' : AH) (o : AFin) : Prop := frzE P o.A n nf k o.e = e ∧ BlksR o.A.blks A'.blks (FamR nf o.A.fams A'.fams True)
theorem FuncJ.fz {P : Program} {G : Gl} {f : FuncId} {args : List AV} {A A' : AH} {e : AEnd} {n nf k : Nat} (h : FuncJ P G f args A (hpFz P n nf k e A')) (hn : A'.blks.length = n) (hnf : A'.fams.length = nf) (hA : A.blks.length ≤ n) (hF : A.fams.length ≤ nf)
  (hheap : A'.blks.all (ABlk.bnd n nf) = true) (he : e.bnd n nf = true) : FuncJ P G f args A fun o => o = ⟨e, A'⟩ := by
 intro S w vs hi hl
 refine (h S w vs hi hl).mono ?_
 rintro en w' ⟨o, ⟨hoe, hob⟩, S1, i1, f1, r1⟩
 obtain ⟨hob, hlen, hblk⟩ := BlksR_elim hob
 obtain ⟨hfam, _⟩ := FamR_elim hob
 have i2 := i1.cutTo (A' := A') hn hnf hheap hblk hfam
 have f2 := f1.cutTo (A' := A') hi hn hnf (fun i y hy => let ⟨x, r1, r2, _⟩ := hblk i y hy; ⟨x, r1, r2⟩) hfam hA hF
 have r2 : FinRel ((S1.cut n nf).learn (beyond S1 o.A n) w') e en := by
  rw [← hoe]
  exact frzE_ok i1 r1 (by rw [hoe]; exact he)
 have hbey : ∀ b q, beyond S1 o.A n b q → ∃ i, n ≤ i ∧ o.A.live i ∧ S1.ρ i = some b := fun b q ⟨i, cs, el, h1, h2, h3, _⟩ => ⟨i, h1, ⟨_, h2, by simp⟩, h3⟩
 have i3 := i2.learn (p := beyond S1 o.A n) (by
  intro b q hb
  obtain ⟨i, h1, h2, h3⟩ := hbey b q hb
  constructor
  ·intro j hj hq
   obtain ⟨y, hy, hyd⟩ := hj
   obtain ⟨x, h4, h5, _⟩ := hblk j y hy
   have hjn : j < n := by rw [← hn]; exact (List.getElem?_eq_some_iff.1 hy).1
   have hq : (if j < n then S1.ρ j else none) = some b := hq
   rw [if_pos hjn] at hq
   have := i1.inj j i b ⟨x, h4, fun hx => hyd (h5.1 hx)⟩ h2 hq h3
   omega
  ·rintro φ ec room ⟨e1, sz, h4, h5⟩
   have hφ : φ < nf := by rw [← hnf]; exact (List.getElem?_eq_some_iff.1 h4).1
   have h5 : (if φ < nf then S1.tl φ e1 else none) = some (b, ec, room, sz) := h5
   rw [if_pos hφ] at h5
   have h6 : o.A.fams[φ]? = some (e1, sz) := by rw [← hfam, List.getElem?_take, if_pos hφ] at h4; exact h4
   exact (i1.room φ b ec room ⟨e1, sz, h6, h5⟩).2.2 i h2 h3)
 refine ⟨_, rfl, _, i3, ⟨f2.le.trans (Sh.learn_le _ _ _), f2.size, f2.os, f2.tape, f2.output, f2.keep, f2.own, ?_, f2.len, f2.ρnew⟩, r2⟩
 intro b q v hv
 rcases Sh.learn_cases hv with h1 | ⟨h1, _⟩
 ·exact f2.imNew b q v h1
 ·obtain ⟨i, h2, h3, h4⟩ := hbey b q h1
  rcases Nat.lt_or_ge b w.heap.size with hlt | hge
  ·exact .inr (.inr (f1.own b (.inl ⟨i, h3, h4⟩) hlt))
  ·exact .inr (.inl hge)
end Go.Am
end
end