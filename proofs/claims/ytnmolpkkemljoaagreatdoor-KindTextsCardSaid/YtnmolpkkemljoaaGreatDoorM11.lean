/-
  A contract of a call that is handed a pointer to one block, and values: it holds wherever that block lies. Conditions: none.
-/
import Derived.Test.YtnmolpkkemljoaaGreatDoorM7
noncomputable section
namespace Go.Am
open Go

theorem FuncJ.oneP {P : Program} {G : Gl} {f : FuncId} {args : List AV} {A : AH} {e : AEnd} {x x' : ABlk} {b k : Nat} (h : FuncJ P G f (.ptr 0 k :: args) ⟨[x], []⟩ (hpIs 0 e ⟨[x'], []⟩))
    (hargs : AV.stillL args = true) (hx : x.bnd 0 0 = true) (hx' : x'.bnd 0 0 = true) (hx1 : x'.bnd 1 0 = true) (he : e.bnd 0 0 = true) (hd : x ≠ .dead) (hd' : x' ≠ .dead) (hb : A.blks[b]? = some x) :
    FuncJ P G f (.ptr b k :: args) A fun o => o = ⟨e, A.put b x'⟩ := by
  intro S w vs hi hl
  cases hl with
  | cons _ _ v0 vs hv0 hl =>
  cases hv0 with
  | ptr _ _ c hr =>
  have hlb : A.live b := ⟨x, hb, hd⟩
  have hblt : b < A.blks.length := live_lt hlb
  let S1 : Sh := { X := S.X, ρ := fun i => if i = 0 then some c else Option.none, im := S.im, tl := fun _ _ => Option.none, rm := S.rm }
  have only : ∀ {b'}, Owned S1 ⟨[x], []⟩ b' → b' = c := by
    rintro b' (⟨i, hlv, hq⟩ | ⟨φ, ec, room, e1, sz, h1, _⟩)
    · have hq : (if i = 0 then some c else Option.none) = some b' := hq
      split at hq
      · exact (Option.some.inj hq).symm
      · cases hq
    · simp at h1
  obtain ⟨c0, o0, r0, hc0, hb0⟩ := hi.blk b x hb hd
  obtain rfl : c0 = c := Option.some.inj (r0.symm.trans hr)
  have i1 : Inv G S1 ⟨[x], []⟩ w := by
    refine ⟨hi.im, ?_, ?_, ?_, ?_, ?_, ?_, ?_, ?_, hi.glob, hi.rm⟩
    · intro i y hy hyd
      cases i with
      | zero =>
        simp at hy
        subst hy
        exact ⟨c0, o0, by simp [S1], hc0, BRel.bare0 (S := S) (S' := S1) rfl (fun _ _ _ h => h) (fun _ _ h => h) hb0 hx⟩
      | succ i => simp at hy
    · intro i j c' h1 h2 h3 h4
      have h1 := live_lt h1
      have h2 := live_lt h2
      simp at h1 h2
      omega
    · intro i c' o hlv hq
      have h1 := live_lt hlv
      simp at h1
      subst h1
      have hq : (if 0 = 0 then some c0 else Option.none) = some c' := hq
      simp at hq
      subst hq
      exact hi.free b c0 o hlb hr
    · intro φ e1 sz hφ; simp at hφ
    · rintro φ b' ec room ⟨e1, sz, h1, _⟩; simp at h1
    · rintro φ ψ b' ec room ec' room' ⟨e1, sz, h1, _⟩ _; simp at h1
    · intro i hge
      show (if i = 0 then some c0 else Option.none) = Option.none
      rw [if_neg (by simp at hge; omega)]
    · intro φ e1 y hy; cases hy
  have l1 : LRel S1 (.ptr 0 k :: args) (_ :: vs) := .cons _ _ _ _ (.ptr 0 k c0 (by simp [S1])) (LRel.still (S := S) (S' := S1) (fun _ _ _ h => h) hl hargs)
  refine (h S1 w _ i1 l1).mono ?_
  rintro en w' ⟨o, ⟨hoe, hob⟩, S2, i2, f2, q2⟩
  obtain ⟨hob, hlen, hblk⟩ := BlksR_elim hob
  obtain ⟨hfam, _⟩ := FamR_elim hob
  have i3 := i2.cutTo (A' := ⟨[x'], []⟩) (n := 1) (nf := 0) rfl rfl (by simp [hx1]) hblk hfam
  rw [hoe] at q2
  have hρ0 : S2.ρ 0 = some c0 := f2.le.ρ 0 c0 (by simp [S1])
  let S3 : Sh := { X := S.X, ρ := S.ρ, im := S2.im, tl := S.tl, rm := S2.rm }
  have le3 : S.le S3 := ⟨rfl, fun _ _ h => h, fun b o c hc => f2.le.im b o c hc, fun _ _ _ h => h, fun c k hc => f2.le.rm c k hc⟩
  have hX : S2.X = S.X := f2.le.X
  have leB : S2.bare.le S3.bare := ⟨hX.symm, fun _ _ h => by simp [Sh.bare] at h, fun _ _ _ h => h, fun _ _ _ h => by simp [Sh.bare] at h, fun _ _ h => by simp [Sh.bare] at h⟩
  have leC : (S2.cut 0 0).le S3 := ⟨hX.symm, fun i c' h => by simp [Sh.cut] at h, fun _ _ _ h => h, fun φ e1 y h => by simp [Sh.cut] at h, fun _ _ h => h⟩
  have keep : ∀ b', b' < w.heap.size → b' ≠ c0 → w'.heap[b']? = w.heap[b']? := fun b' hlt hne => f2.keep b' hlt fun ho => hne (only ho)
  have imOld : ∀ {b' o' v}, S2.im b' o' = some v → b' < w.heap.size → b' ≠ c0 → S.im b' o' = some v := by
    intro b' o' v hv hlt hne
    rcases f2.imNew b' o' v hv with h1 | h1 | h1
    · exact h1
    · omega
    · exact absurd (only h1) hne
  have getB : (A.put b x').blks[b]? = some x' := by simp [AH.put, hblt]
  have getN : ∀ i, i ≠ b → (A.put b x').blks[i]? = A.blks[i]? := fun i hne => by
    show (A.blks.set b x')[i]? = _
    rw [List.getElem?_set_ne (by omega)]
  have liveA : ∀ {i}, (A.put b x').live i → A.live i := by
    rintro i ⟨y, hy, hyd⟩
    by_cases hib : i = b
    · subst hib; exact hlb
    · rw [getN i hib] at hy; exact ⟨y, hy, hyd⟩
  have other : ∀ {i c'}, A.live i → S.ρ i = some c' → i ≠ b → c' ≠ c0 := fun hlv hc hne hq => hne (hi.inj _ _ _ hlv hlb (by rw [← hq]; exact hc) hr)
  have famA : (A.put b x').fams = A.fams := rfl
  have endsA : ∀ {φ b' ec room}, (A.put b x').ends S3 φ b' ec room → A.ends S φ b' ec room := fun h => h
  have notC : ∀ {φ b' ec room}, A.ends S φ b' ec room → b' ≠ c0 := fun hE hq => (hi.room _ _ _ _ hE).2.2 b hlb (by rw [hq]; exact hr)
  have inv3 : Inv G S3 (A.put b x') w' := by
    refine ⟨i2.im, ?_, ?_, ?_, ?_, ?_, ?_, ?_, ?_, ?_, i2.rm⟩
    · intro i y hy hyd
      by_cases hib : i = b
      · subst hib
        rw [getB] at hy
        cases hy
        obtain ⟨c1, ob, h1, h2, h3⟩ := i3.blk 0 x' rfl hyd
        have h1 : (if 0 < 1 then S2.ρ 0 else Option.none) = some c1 := h1
        rw [if_pos (by omega), hρ0] at h1
        cases h1
        exact ⟨c0, ob, hr, h2, BRel.bare0 (S := S2.cut 1 0) (S' := S3) hX.symm (fun _ _ _ h => h) (fun _ _ h => h) h3 hx'⟩
      · rw [getN i hib] at hy
        obtain ⟨c1, ob, h1, h2, h3⟩ := hi.blk i y hy hyd
        have hlt := (Array.getElem?_eq_some_iff.1 h2).1
        exact ⟨c1, ob, h1, by rw [keep c1 hlt (other ⟨y, hy, hyd⟩ h1 hib)]; exact h2, h3.mono le3⟩
    · exact fun i j c' h1 h2 h3 h4 => hi.inj i j c' (liveA h1) (liveA h2) h3 h4
    · intro i c' o' hlv hq
      by_cases hib : i = b
      · subst hib
        obtain rfl : c0 = c' := Option.some.inj (hr.symm.trans hq)
        have hl0 : (AH.mk [x'] []).live 0 := ⟨x', rfl, hd'⟩
        have := i3.free 0 c0 o' hl0 (by show (if 0 < 1 then S2.ρ 0 else Option.none) = _; rw [if_pos (by omega)]; exact hρ0)
        exact this
      · cases hv : S2.im c' o' with
        | none => first | exact hv | rfl
        | some v =>
          have hlv' := liveA hlv
          have hlt := hi.lt (.inl ⟨i, hlv', hq⟩)
          have := imOld hv hlt (other hlv' hq hib)
          rw [hi.free i c' o' hlv' hq] at this; cases this
    · exact fun φ e1 sz hφ => hi.fam φ e1 sz hφ
    · intro φ b' ec room hE
      have hE' := endsA hE
      obtain ⟨⟨cs, el, h1, h1'⟩, h2, h3⟩ := hi.room φ b' ec room hE'
      have hlt := (Array.getElem?_eq_some_iff.1 h1).1
      refine ⟨⟨cs, el, by rw [keep b' hlt (notC hE')]; exact h1, h1'⟩, fun o' ho => ?_, fun i hlv hq => h3 i (liveA hlv) hq⟩
      cases hv : S2.im b' o' with
      | none => first | exact hv | rfl
      | some v => have := imOld hv hlt (notC hE'); rw [h2 o' ho] at this; cases this
    · exact fun φ ψ b' ec room ec' room' h1 h2 => hi.famInj φ ψ b' ec room ec' room' (endsA h1) (endsA h2)
    · intro i hge
      refine hi.ρout i ?_
      have : (A.put b x').blks.length = A.blks.length := by simp [AH.put]
      omega
    · exact fun φ e1 y hy => hi.tlout φ e1 y hy
    · intro g o' y hg
      obtain ⟨v, h1, h2⟩ := i2.glob g o' y hg
      exact ⟨v, h1, h2.mono leB⟩
  refine ⟨_, rfl, S3, inv3, ?_, (q2.cut he).mono leC⟩
  have ownC : ∀ {b'}, Owned S1 ⟨[x], []⟩ b' → Owned S A b' := fun ho => by rw [only ho]; exact .inl ⟨b, hlb, hr⟩
  refine ⟨le3, f2.size, f2.os, f2.tape, f2.output, fun b' hlt hno => f2.keep b' hlt fun ho => hno (ownC ho), ?_, ?_, ?_, fun _ _ h => .inl h⟩
  · rintro b' (⟨i, hlv, hq⟩ | ⟨φ, ec, room, hE⟩) _
    · exact .inl ⟨i, liveA hlv, hq⟩
    · exact .inr ⟨φ, ec, room, endsA hE⟩
  · intro b' o' v hv
    rcases f2.imNew b' o' v hv with h1 | h1 | h1
    · exact .inl h1
    · exact .inr (.inl h1)
    · exact .inr (.inr (ownC h1))
  · show A.blks.length ≤ (A.blks.set b x').length
    simp

end Go.Am
end
