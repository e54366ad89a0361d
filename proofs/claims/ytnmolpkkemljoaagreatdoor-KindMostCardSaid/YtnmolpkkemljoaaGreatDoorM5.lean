/-
  What is known of a call in a small heap is known of it in a greater one, whose first blocks are those. Conditions: none.
-/
import Derived.Test.YtnmolpkkemljoaaGreatDoorM3
set_option linter.unusedVariables false
set_option linter.unusedSimpArgs false
noncomputable section
namespace Go.Am
open Go
def AEnd.bnd (n nf : Nat) : AEnd → Bool
 | .returned v => v.bnd n nf
 | .panicked c => c.all fun p => p.1.bnd n nf
theorem FinRel.cut {S : Sh} {n nf : Nat} {x : AEnd} {e : Ending} (h : FinRel S x e) (hb : x.bnd n nf = true) : FinRel (S.cut n nf) x e := by
 cases h with
 | returned x v hv => exact .returned _ _ (hv.cut hb)
 | panicked c d hc =>
  refine .panicked _ _ ?_
  have hb : (c.all fun p => p.1.bnd n nf) = true := hb
  induction hc with
  | nil => exact .nil
  | cons x v b xs es h1 h2 ih =>
   simp only [List.all_cons, Bool.and_eq_true] at hb
   exact .cons _ _ _ _ _ (h1.cut hb.1) (ih hb.2 hb.2)
def hpIs (nf : Nat) (e : AEnd) (A' : AH) (o : AFin) : Prop := o.e = e ∧ BlksR o.A.blks A'.blks (FamR nf o.A.fams A'.fams True)
def AH.onto (A' A : AH) : AH := ⟨A'.blks ++ A.blks.drop A'.blks.length, A'.fams ++ A.fams.drop A'.fams.length⟩
theorem frame_core {G : Gl} {A0 A A' : AH} {e : AEnd} {n nf mf : Nat}
  (hn : A0.blks.length = n) (hnf : A0.fams.length = nf) (hn' : A'.blks.length = n) (hnf' : A'.fams.length = mf) (hg : nf ≤ mf ∧ (nf = mf ∨ A.fams.length = nf))
  (hheap : A0.blks.all (ABlk.bnd n nf) = true) (hheap' : A'.blks.all (ABlk.bnd n mf) = true) (he : e.bnd n mf = true) (hlive : ∀ x ∈ A0.blks, x ≠ .dead)
  (hsub : ∀ (i : Nat) (y : ABlk), A0.blks[i]? = some y → ∃ x, A.blks[i]? = some x ∧ (x = .dead ↔ y = .dead) ∧ ∀ {S : Sh} {o : Obj}, BRel S x o → BRel S y o) (hlen0 : A0.blks.length ≤ A.blks.length) (hpref : A.fams.take nf = A0.fams) {S : Sh} {w : World} (hi : Inv G S A w) :
  Inv G (S.cut n nf) A0 w ∧ ∀ en w', FinPR G (S.cut n nf) A0 w (hpIs mf e A') en w' → FinPR G S A w (fun o => o = ⟨e, A'.onto A⟩) en w' := by
 have i0 : Inv G (S.cut n nf) A0 w := hi.cutTo hn hnf hheap hsub hpref
 have hn_le : n ≤ A.blks.length := by omega
 have lv0 : ∀ {i : Nat} {y : ABlk}, A0.blks[i]? = some y → y ≠ .dead → A.live i := by
  intro i y hy hd
  obtain ⟨x, h1, h2, _⟩ := hsub i y hy
  exact ⟨x, h1, fun hx => hd (h2.1 hx)⟩
 have hnf_le : nf ≤ A.fams.length := by
  have := congrArg List.length hpref
  simp at this; omega
 refine ⟨i0, ?_⟩
 rintro en w' ⟨o, ⟨hoe, hob⟩, S1, i1, f1, r1⟩
 obtain ⟨hob, hlen, hblk⟩ := BlksR_elim hob
 obtain ⟨hfam, _⟩ := FamR_elim hob
 have i2 := i1.cutTo (A' := A') hn' hnf' hheap' hblk hfam
 have f2 := f1.cutTo (A' := A') i0 hn' hnf' (fun i y hy => let ⟨x, r1, r2, _⟩ := hblk i y hy; ⟨x, r1, r2⟩) hfam (by omega) (by omega)
 rw [hoe] at r1
 have r2 := r1.cut he
 generalize hS2 : S1.cut n mf = S2 at i2 f2 r2
 have hS2tl : ∀ φ ec x, S2.tl φ ec = some x → φ < mf := by
  intro φ ec x hx
  rw [← hS2] at hx
  simp only [Sh.cut] at hx
  split at hx
  ·assumption
  ·cases hx
 have hS2ρ : ∀ i c, S2.ρ i = some c → i < n := by
  intro i c hx
  rw [← hS2] at hx
  simp only [Sh.cut] at hx
  split at hx
  ·assumption
  ·cases hx
 have ρeq : ∀ i, i < n → S2.ρ i = S.ρ i := by
  intro i hin
  cases h1 : S.ρ i with
  | some c => exact f2.le.ρ i c (by simp only [Sh.cut, if_pos hin]; exact h1)
  | none =>
   cases h2 : S2.ρ i with
   | none => rfl
   | some c =>
    rcases f2.ρnew i c h2 with h3 | h3
    ·simp only [Sh.cut, if_pos hin] at h3; rw [h1] at h3; cases h3
    ·omega
 have liveA : ∀ i, i < n → A.live i := by
  intro i hin
  have hlt : i < A0.blks.length := by omega
  exact lv0 (List.getElem?_eq_getElem hlt) (hlive _ (List.getElem_mem hlt))
 have ends0 : ∀ {φ b ec room}, A0.ends (S.cut n nf) φ b ec room → φ < nf ∧ A.ends S φ b ec room := by
  rintro φ b ec room ⟨e1, sz, h1, h2⟩
  have hlt : φ < nf := by rw [← hnf]; exact (List.getElem?_eq_some_iff.1 h1).1
  rw [← hpref, List.getElem?_take, if_pos hlt] at h1
  simp only [Sh.cut, if_pos hlt] at h2
  exact ⟨hlt, e1, sz, h1, h2⟩
 -- what the small heap owns
 have own0 : ∀ {b}, Owned (S.cut n nf) A0 b → Owned S A b := by
  rintro b (⟨i, ⟨y, hy, hd⟩, hr⟩ | ⟨φ, ec, room, he⟩)
  ·simp only [Sh.cut] at hr
   split at hr
   ·exact .inl ⟨i, lv0 hy hd, hr⟩
   ·cases hr
  ·exact .inr ⟨φ, ec, room, (ends0 he).2⟩
 have notOwnBlk : ∀ {i c}, A.live i → S.ρ i = some c → n ≤ i → ¬ Owned (S.cut n nf) A0 c := by
  rintro i c hlv hc hni (⟨j, ⟨y, hy, hd⟩, hr⟩ | ⟨φ, ec, room, he⟩)
  ·simp only [Sh.cut] at hr
   split at hr
   ·have := hi.inj i j c hlv (lv0 hy hd) hc hr
    omega
   ·cases hr
  ·exact (hi.room φ c ec room (ends0 he).2).2.2 i hlv hc
 have notOwnFam : ∀ {φ b ec room}, A.ends S φ b ec room → nf ≤ φ → ¬ Owned (S.cut n nf) A0 b := by
  rintro φ b ec room hE hnφ (⟨j, ⟨y, hy, hd⟩, hr⟩ | ⟨ψ, ec', room', he⟩)
  ·simp only [Sh.cut] at hr
   split at hr
   ·exact (hi.room φ b ec room hE).2.2 j (lv0 hy hd) hr
   ·cases hr
  ·obtain ⟨h1, h2⟩ := ends0 he
   have := hi.famInj φ ψ b ec room ec' room' hE h2
   omega
 let S3 : Sh := { X := S.X, ρ := S.ρ, im := S2.im, tl := fun φ e => if φ < mf then S2.tl φ e else S.tl φ e, rm := S2.rm }
 let A3 : AH := A'.onto A
 have hX : S2.X = S.X := f2.le.X
 have le23 : S2.le S3 := ⟨hX.symm, fun i c hc => by rw [← ρeq i (hS2ρ i c hc)]; exact hc, fun _ _ _ h => h, fun φ e x hx => by
  show (if φ < mf then S2.tl φ e else S.tl φ e) = some x
  rw [if_pos (hS2tl φ e x hx)]; exact hx, fun _ _ h => h⟩
 have le3 : S.le S3 := ⟨rfl, fun _ _ h => h, fun b o c hc => f2.le.im b o c hc, fun φ e x hx => by
  show (if φ < mf then S2.tl φ e else S.tl φ e) = some x
  by_cases hlt : φ < mf
  ·rw [if_pos hlt]; exact f2.le.tl φ e x (by
    obtain ⟨e0, sz, h1, _⟩ := hi.tlout φ e x hx
    have := (List.getElem?_eq_some_iff.1 h1).1
    have hq : φ < nf := by omega
    simp only [Sh.cut, if_pos hq]; exact hx)
  ·rw [if_neg hlt]; exact hx, fun c k hc => f2.le.rm c k hc⟩
 have blkLt : ∀ i, i < n → A3.blks[i]? = A'.blks[i]? := fun i hin => by
  show (A'.blks ++ A.blks.drop A'.blks.length)[i]? = _
  rw [List.getElem?_append_left (by omega)]
 have blkGe : ∀ i, n ≤ i → A3.blks[i]? = A.blks[i]? := fun i hin => by
  show (A'.blks ++ A.blks.drop A'.blks.length)[i]? = _
  rw [List.getElem?_append_right (by omega), List.getElem?_drop, show A'.blks.length + (i - A'.blks.length) = i by omega]
 have famLt : ∀ i, i < mf → A3.fams[i]? = A'.fams[i]? := fun i hin => by
  show (A'.fams ++ A.fams.drop A'.fams.length)[i]? = _
  rw [List.getElem?_append_left (by omega)]
 have famGe : ∀ i, mf ≤ i → A3.fams[i]? = A.fams[i]? := fun i hin => by
  show (A'.fams ++ A.fams.drop A'.fams.length)[i]? = _
  rw [List.getElem?_append_right (by omega), List.getElem?_drop, show A'.fams.length + (i - A'.fams.length) = i by omega]
 have liveLt : ∀ {i}, A3.live i → i < n → A'.live i := by
  rintro i ⟨y, hy, hd⟩ hin
  rw [blkLt i hin] at hy; exact ⟨y, hy, hd⟩
 have live3 : ∀ {i}, A3.live i → A.live i := by
  rintro i ⟨y, hy, hd⟩
  rcases Nat.lt_or_ge i n with hin | hin
  ·exact liveA i hin
  ·rw [blkGe i hin] at hy; exact ⟨y, hy, hd⟩
 have endsLt : ∀ {φ b ec room}, A3.ends S3 φ b ec room → φ < mf → A'.ends S2 φ b ec room := by
  rintro φ b ec room ⟨e1, sz, h1, h2⟩ hlt
  rw [famLt φ hlt] at h1
  have h2 : (if φ < mf then S2.tl φ e1 else S.tl φ e1) = some (b, ec, room, sz) := h2
  rw [if_pos hlt] at h2
  exact ⟨e1, sz, h1, h2⟩
 have endsGe : ∀ {φ b ec room}, A3.ends S3 φ b ec room → mf ≤ φ → A.ends S φ b ec room := by
  rintro φ b ec room ⟨e1, sz, h1, h2⟩ hge
  rw [famGe φ hge] at h1
  have h2 : (if φ < mf then S2.tl φ e1 else S.tl φ e1) = some (b, ec, room, sz) := h2
  rw [if_neg (by omega)] at h2
  exact ⟨e1, sz, h1, h2⟩
 have keep : ∀ b, b < w.heap.size → ¬ Owned (S.cut n nf) A0 b → w'.heap[b]? = w.heap[b]? := f2.keep
 have imOld : ∀ {b o v}, S2.im b o = some v → b < w.heap.size → ¬ Owned (S.cut n nf) A0 b → S.im b o = some v := by
  intro b o v hv hb hno
  rcases f2.imNew b o v hv with h1 | h1 | h1
  ·exact h1
  ·omega
  ·exact absurd h1 hno
 have inv3 : Inv G S3 A3 w' := by
  refine ⟨i2.im, ?_, ?_, ?_, ?_, ?_, ?_, ?_, ?_, ?_, i2.rm⟩
  ·intro i x hx hd
   rcases Nat.lt_or_ge i n with hin | hin
   ·rw [blkLt i hin] at hx
    obtain ⟨c, ob, h1, h2, h3⟩ := i2.blk i x hx hd
    exact ⟨c, ob, by rw [← ρeq i hin]; exact h1, h2, h3.mono le23⟩
   ·rw [blkGe i hin] at hx
    obtain ⟨c, ob, h1, h2, h3⟩ := hi.blk i x hx hd
    have hlt := (Array.getElem?_eq_some_iff.1 h2).1
    exact ⟨c, ob, h1, by rw [keep c hlt (notOwnBlk ⟨x, hx, hd⟩ h1 hin)]; exact h2, h3.mono le3⟩
  ·exact fun i j c h1 h2 h3 h4 => hi.inj i j c (live3 h1) (live3 h2) h3 h4
  ·intro i c o hlv hc
   rcases Nat.lt_or_ge i n with hin | hin
   ·exact i2.free i c o (liveLt hlv hin) (by rw [ρeq i hin]; exact hc)
   ·cases hv : S2.im c o with
    | none => first | exact hv | rfl
    | some v =>
     have hlv' := live3 hlv
     have hlt := hi.lt (.inl ⟨i, hlv', hc⟩)
     have := imOld hv hlt (notOwnBlk hlv' hc hin)
     rw [hi.free i c o hlv' hc] at this; cases this
  ·intro φ e1 sz hφ
   rcases Nat.lt_or_ge φ mf with hlt | hge
   ·rw [famLt φ hlt] at hφ
    obtain ⟨b, ec, room, h1⟩ := i2.fam φ e1 sz hφ
    exact ⟨b, ec, room, by show (if φ < mf then S2.tl φ e1 else S.tl φ e1) = _; rw [if_pos hlt]; exact h1⟩
   ·rw [famGe φ hge] at hφ
    obtain ⟨b, ec, room, h1⟩ := hi.fam φ e1 sz hφ
    exact ⟨b, ec, room, by show (if φ < mf then S2.tl φ e1 else S.tl φ e1) = _; rw [if_neg (by omega)]; exact h1⟩
  ·intro φ b ec room hE
   rcases Nat.lt_or_ge φ mf with hlt | hge
   ·have hE2 := endsLt hE hlt
    obtain ⟨h1, h2, h3⟩ := i2.room φ b ec room hE2
    refine ⟨h1, h2, fun i hlv hc => ?_⟩
    rcases Nat.lt_or_ge i n with hin | hin
    ·exact h3 i (liveLt hlv hin) (by rw [ρeq i hin]; exact hc)
    ·have hlv' := live3 hlv
     have hltb := hi.lt (.inl ⟨i, hlv', hc⟩)
     exact notOwnBlk hlv' hc hin (f2.own b (.inr ⟨φ, ec, room, hE2⟩) hltb)
   ·have hE1 := endsGe hE hge
    obtain ⟨⟨c, el, h1, h1'⟩, h2, h3⟩ := hi.room φ b ec room hE1
    have hltb := (Array.getElem?_eq_some_iff.1 h1).1
    have hno := notOwnFam hE1 (by omega)
    refine ⟨⟨c, el, by rw [keep b hltb hno]; exact h1, h1'⟩, fun o ho => ?_, fun i hlv hc => h3 i (live3 hlv) hc⟩
    cases hv : S2.im b o with
    | none => first | exact hv | rfl
    | some v => have := imOld hv hltb hno; rw [h2 o ho] at this; cases this
  ·intro φ ψ b ec room ec' room' hE1 hE2
   have mixed : ∀ {φ ψ ec room ec' room'}, A3.ends S3 φ b ec room → A3.ends S3 ψ b ec' room' → φ < mf → mf ≤ ψ → False := by
    intro φ ψ ec room ec' room' h1 h2 hlt hge
    have h3 := endsGe h2 hge
    obtain ⟨⟨c, el, h4, _⟩, _⟩ := hi.room ψ b ec' room' h3
    have hltb := (Array.getElem?_eq_some_iff.1 h4).1
    exact notOwnFam h3 (by omega) (f2.own b (.inr ⟨φ, ec, room, endsLt h1 hlt⟩) hltb)
   rcases Nat.lt_or_ge φ mf with h1 | h1 <;> rcases Nat.lt_or_ge ψ mf with h2 | h2
   ·exact i2.famInj φ ψ b ec room ec' room' (endsLt hE1 h1) (endsLt hE2 h2)
   ·exact (mixed hE1 hE2 h1 h2).elim
   ·exact (mixed hE2 hE1 h2 h1).elim
   ·exact hi.famInj φ ψ b ec room ec' room' (endsGe hE1 h1) (endsGe hE2 h2)
  ·intro i hge
   have : A3.blks.length = A.blks.length := by
    show (A'.blks ++ A.blks.drop A'.blks.length).length = _
    simp; omega
   exact hi.ρout i (by omega)
  ·intro φ e1 x hx
   have hx : (if φ < mf then S2.tl φ e1 else S.tl φ e1) = some x := hx
   rcases Nat.lt_or_ge φ mf with hlt | hge
   ·rw [if_pos hlt] at hx
    obtain ⟨e0, sz, h1, h2⟩ := i2.tlout φ e1 x hx
    exact ⟨e0, sz, by rw [famLt φ hlt]; exact h1, h2⟩
   ·rw [if_neg (by omega)] at hx
    obtain ⟨e0, sz, h1, h2⟩ := hi.tlout φ e1 x hx
    exact ⟨e0, sz, by rw [famGe φ hge]; exact h1, h2⟩
  ·intro g o x hg
   obtain ⟨v, h1, h2⟩ := i2.glob g o x hg
   exact ⟨v, h1, h2.mono le23.bare⟩
 refine ⟨_, rfl, S3, inv3, ?_, r2.mono le23⟩
 refine ⟨le3, f2.size, f2.os, f2.tape, f2.output, fun b hb hno => keep b hb fun ho => hno (own0 ho), ?_, ?_, ?_, fun _ _ h => .inl h⟩
 ·rintro b (⟨i, hlv, hr⟩ | ⟨φ, ec, room, hE⟩) hb
  ·exact .inl ⟨i, live3 hlv, hr⟩
  ·rcases Nat.lt_or_ge φ mf with hlt | hge
   ·exact own0 (f2.own b (.inr ⟨φ, ec, room, endsLt hE hlt⟩) hb)
   ·exact .inr ⟨φ, ec, room, endsGe hE hge⟩
 ·intro b o v hv
  rcases f2.imNew b o v hv with h1 | h1 | h1
  ·exact .inl h1
  ·exact .inr (.inl h1)
  ·exact .inr (.inr (own0 h1))
 ·show A.blks.length ≤ (A'.blks ++ A.blks.drop A'.blks.length).length
  simp; omega
theorem FuncJ.frame {P : Program} {G : Gl} {f : FuncId} {args : List AV} {A0 A A' : AH} {e : AEnd} {n nf mf : Nat} (h : FuncJ P G f args A0 (hpIs mf e A'))
  (hn : A0.blks.length = n) (hnf : A0.fams.length = nf) (hn' : A'.blks.length = n) (hnf' : A'.fams.length = mf) (hg : nf ≤ mf ∧ (nf = mf ∨ A.fams.length = nf))
  (hargs : AV.bndL n nf args = true) (hheap : A0.blks.all (ABlk.bnd n nf) = true) (hheap' : A'.blks.all (ABlk.bnd n mf) = true) (he : e.bnd n mf = true) (hlive : ∀ x ∈ A0.blks, x ≠ .dead)
  (hsub : ∀ (i : Nat) (y : ABlk), A0.blks[i]? = some y → ∃ x, A.blks[i]? = some x ∧ (x = .dead ↔ y = .dead) ∧ ∀ {S : Sh} {o : Obj}, BRel S x o → BRel S y o) (hlen0 : A0.blks.length ≤ A.blks.length) (hpref : A.fams.take nf = A0.fams) : FuncJ P G f args A fun o => o = ⟨e, A'.onto A⟩ := by
 intro S w vs hi hl
 obtain ⟨i0, hfin⟩ := frame_core hn hnf hn' hnf' hg hheap hheap' he hlive hsub hlen0 hpref hi
 exact (h (S.cut n nf) w vs i0 (hl.cut hargs)).mono hfin
theorem RoundJ.frame {P : Program} {G : Gl} {l : Nat} {args : List AV} {A0 A A' : AH} {e : AEnd} {n nf mf : Nat} (h : RoundJ P G l args A0 (hpIs mf e A'))
  (hn : A0.blks.length = n) (hnf : A0.fams.length = nf) (hn' : A'.blks.length = n) (hnf' : A'.fams.length = mf) (hg : nf ≤ mf ∧ (nf = mf ∨ A.fams.length = nf))
  (hargs : AV.bndL n nf args = true) (hheap : A0.blks.all (ABlk.bnd n nf) = true) (hheap' : A'.blks.all (ABlk.bnd n mf) = true) (he : e.bnd n mf = true) (hlive : ∀ x ∈ A0.blks, x ≠ .dead) (hl : l < n)
  (hrec : ∀ st pd ats ps as bd d, A.blks[l]? = some (.loop st pd ats ps as bd d) → ∃ ats0, A0.blks[l]? = some (.loop st pd ats0 ps as bd d) ∧ SubL ats ats0)
  (hsub : ∀ (i : Nat) (y : ABlk), A0.blks[i]? = some y → ∃ x, A.blks[i]? = some x ∧ (x = .dead ↔ y = .dead) ∧ ∀ {S : Sh} {o : Obj}, BRel S x o → BRel S y o) (hlen0 : A0.blks.length ≤ A.blks.length) (hpref : A.fams.take nf = A0.fams) : RoundJ P G l args A fun o => o = ⟨e, A'.onto A⟩ := by
 intro S w c vs st pd ats ps as bd d us fn s p dd hi hc hb hlen hargs' hats hheapc
 obtain ⟨i0, hfin⟩ := frame_core hn hnf hn' hnf' hg hheap hheap' he hlive hsub hlen0 hpref hi
 obtain ⟨ats0, hb0, hsubt⟩ := hrec st pd ats ps as bd d hb
 have hbb := List.all_eq_true.1 hheap _ (List.mem_of_getElem? hb0)
 simp only [ABlk.bnd, Bool.and_eq_true] at hbb
 exact (h (S.cut n nf) w c vs st pd ats0 ps as bd d us fn s p dd i0 (by simp only [Sh.cut, if_pos hl]; exact hc) hb0 hlen (hargs'.cut hargs) ((hats.sub hsubt).cut hbb.1) hheapc).mono hfin
theorem BlksR_rec : ∀ {xs ys : List ABlk} {R : Prop}, BlksR xs ys R → ∀ (l : Nat), l < ys.length → ∀ st pd ats ps as bd d, xs[l]? = some (.loop st pd ats ps as bd d) → ∃ ats0, ys[l]? = some (.loop st pd ats0 ps as bd d) ∧ SubL ats ats0
 | _, [], _, _, l, hl, _, _, _, _, _, _, _, _ => by simp at hl
 | [], _ :: _, _, h, _, _, _, _, _, _, _, _, _, _ => by simp [BlksR] at h
 | x :: xs, y :: ys, R, h, 0, _, st, pd, ats, ps, as, bd, d, hx => by
  simp only [BlksR] at h
  simp at hx; subst hx
  cases y <;> simp only [BlkR] at h <;> first
   | exact h.elim
   | (obtain ⟨⟨rfl, rfl, h3, rfl⟩, h⟩ := h
      cases h3
      exact ⟨_, rfl, (SubR_elim h).1⟩)
 | x :: xs, y :: ys, R, h, l + 1, hl, st, pd, ats, ps, as, bd, d, hx => by
  simp only [BlksR] at h
  obtain ⟨ats0, h1, h2⟩ := BlksR_rec (BlkR_elim h).1 l (by simpa using hl) st pd ats ps as bd d (by simpa using hx)
  exact ⟨ats0, by simpa using h1, h2⟩
def onR (nf : Nat) (A A0 : AH) (R : Prop) : Prop := BlksR A.blks A0.blks (FamR nf A.fams A0.fams R)
def AH.ok (n nf : Nat) (A : AH) : Bool := decide (A.blks.length = n) && (decide (A.fams.length = nf) && (A.blks.all (ABlk.bnd n nf) && A.blks.all fun x => match x with | .dead => false | _ => true))
theorem FuncJ.on {P : Program} {G : Gl} {f : FuncId} {args : List AV} {A0 A A' : AH} {e : AEnd} {n nf : Nat} {R : Prop} (hR : onR nf A A0 R) (h : FuncJ P G f args A0 (hpIs nf e A')) (h0 : A0.ok n nf = true) (h1 : A'.ok n nf = true) (hargs : AV.bndL n nf args = true) (he : e.bnd n nf = true) :
  R ∧ FuncJ P G f args A fun o => o = ⟨e, A'.onto A⟩ := by
 obtain ⟨hR, hlen, hsub⟩ := BlksR_elim hR
 obtain ⟨hf, hR⟩ := FamR_elim hR
 simp only [AH.ok, Bool.and_eq_true, decide_eq_true_eq] at h0 h1
 obtain ⟨a1, a2, a3, a4⟩ := h0
 obtain ⟨b1, b2, b3, b4⟩ := h1
 refine ⟨hR, h.frame a1 a2 b1 b2 ⟨Nat.le_refl _, .inl rfl⟩ hargs a3 b3 he (fun x hx => ?_) hsub hlen hf⟩
 have := List.all_eq_true.1 a4 x hx
 intro hd; subst hd; simp at this
theorem RoundJ.on {P : Program} {G : Gl} {l : Nat} {args : List AV} {A0 A A' : AH} {e : AEnd} {n nf : Nat} {R : Prop} (hR : onR nf A A0 R) (h : RoundJ P G l args A0 (hpIs nf e A')) (h0 : A0.ok n nf = true) (h1 : A'.ok n nf = true) (hargs : AV.bndL n nf args = true) (he : e.bnd n nf = true) (hl : l < n) :
  R ∧ RoundJ P G l args A fun o => o = ⟨e, A'.onto A⟩ := by
 have hrec := BlksR_rec hR l
 obtain ⟨hR, hlen, hsub⟩ := BlksR_elim hR
 obtain ⟨hf, hR⟩ := FamR_elim hR
 simp only [AH.ok, Bool.and_eq_true, decide_eq_true_eq] at h0 h1
 obtain ⟨a1, a2, a3, a4⟩ := h0
 obtain ⟨b1, b2, b3, b4⟩ := h1
 refine ⟨hR, h.frame a1 a2 b1 b2 ⟨Nat.le_refl _, .inl rfl⟩ hargs a3 b3 he (fun x hx => ?_) hl (hrec (by omega)) hsub hlen hf⟩
 have := List.all_eq_true.1 a4 x hx
 intro hd; subst hd; simp at this
theorem RoundJ.mono {P : Program} {G : Gl} {l : Nat} {args : List AV} {A : AH} {K K' : AFin → Prop} (h : RoundJ P G l args A K) (hk : ∀ o, K o → K' o) : RoundJ P G l args A K' :=
 fun S w c vs st pd ats ps as bd d us fn s p dd h1 h2 h3 h4 h5 h6 h7 => (h S w c vs st pd ats ps as bd d us fn s p dd h1 h2 h3 h4 h5 h6 h7).mono fun _ _ ⟨o, ho, r⟩ => ⟨o, hk o ho, r⟩
end Go.Am