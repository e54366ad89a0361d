/-
  A block that is laid before it is anybody's own, and taken over later. Conditions: none.
-/
import Derived.Test.YthoenpmifmomaaaGreatDoorAm30
noncomputable section
namespace Go.Am
open Go

/-- A block that is nobody's. -/
theorem Inv.idle {G : Gl} {S : Sh} {A : AH} {w : World} (h : Inv G S A w) (o : Obj) : Inv G S A { w with heap := w.heap.push o } ∧ Fr S A w S A { w with heap := w.heap.push o } := by
  refine ⟨⟨fun b o' v hv => cell?_push (h.im b o' v hv), ?_, h.inj, h.free, h.fam, ?_, h.famInj, h.ρout, h.tlout, h.glob, fun c n hn => let ⟨cs, el, h1, h2⟩ := h.rm c n hn; ⟨cs, el, push_old h1, h2⟩⟩, ⟨.refl _, by simp, rfl, rfl, rfl, ?_, fun _ h _ => h, fun _ _ _ h => .inl h⟩⟩
  · exact fun i x hx hd => let ⟨c, o', h1, h2, h3⟩ := h.blk i x hx hd; ⟨c, o', h1, push_old h2, h3⟩
  · exact fun φ b ec room he => let ⟨⟨c, el, h1, h2⟩, h3, h4⟩ := h.room φ b ec room he; ⟨⟨c, el, push_old h1, h2⟩, h3, h4⟩
  · intro b hb _
    simp only [Array.getElem?_push, if_neg (Nat.ne_of_lt hb)]

/-- It is taken over. -/
theorem Inv.adopt {G : Gl} {S : Sh} {A : AH} {w : World} (h : Inv G S A w) {c : Nat} {x : ABlk} {o : Obj} (hc : w.heap[c]? = some o) (hno : ¬ Owned S A c) (him : ∀ k, S.im c k = none) (hr : BRel (S.at A.blks.length c) x o) :
    Inv G (S.at A.blks.length c) (A.push x) w := by
  have hnone := h.ρout A.blks.length (Nat.le_refl _)
  have hle := Sh.le_at hnone c
  have liveNew : ∀ {i}, (A.push x).live i → A.live i ∨ i = A.blks.length := by
    rintro i ⟨y, hy, hd⟩
    simp only [AH.push] at hy
    rcases Nat.lt_trichotomy i A.blks.length with hlt | heq | hgt
    · rw [List.getElem?_append_left hlt] at hy; exact .inl ⟨y, hy, hd⟩
    · exact .inr heq
    · rw [List.getElem?_append_right (by omega)] at hy
      rw [List.getElem?_eq_none (by simp; omega)] at hy; cases hy
  have ρold : ∀ {i}, A.live i → (S.at A.blks.length c).ρ i = S.ρ i := fun {i} hi => by
    have := live_lt hi
    simp only [Sh.at]; rw [if_neg (by omega)]
  have notc : ∀ {i}, A.live i → S.ρ i ≠ some c := fun {i} hi hic => hno (.inl ⟨i, hi, hic⟩)
  refine ⟨h.im, ?_, ?_, ?_, h.fam, ?_, h.famInj, ?_, h.tlout, ?_, h.rm⟩
  · intro i y hy hd
    simp only [AH.push] at hy
    rcases Nat.lt_trichotomy i A.blks.length with hlt | heq | hgt
    · rw [List.getElem?_append_left hlt] at hy
      obtain ⟨d, o', h1, h2, h3⟩ := h.blk i y hy hd
      refine ⟨d, o', ?_, h2, h3.mono hle⟩
      simp only [Sh.at]; rw [if_neg (by omega)]; exact h1
    · subst heq
      rw [List.getElem?_append_right (Nat.le_refl _)] at hy
      simp at hy; subst hy
      exact ⟨c, o, by simp [Sh.at], hc, hr⟩
    · rw [List.getElem?_append_right (by omega), List.getElem?_eq_none (by simp; omega)] at hy; cases hy
  · intro i j d hi hj h1 h2
    rcases liveNew hi with hi' | rfl <;> rcases liveNew hj with hj' | rfl
    · rw [ρold hi'] at h1; rw [ρold hj'] at h2; exact h.inj i j d hi' hj' h1 h2
    · rw [ρold hi'] at h1
      simp [Sh.at] at h2; subst h2
      exact absurd h1 (notc hi')
    · rw [ρold hj'] at h2
      simp [Sh.at] at h1; subst h1
      exact absurd h2 (notc hj')
    · rfl
  · intro i d o' hi hd
    rcases liveNew hi with hi' | rfl
    · rw [ρold hi'] at hd; exact h.free i d o' hi' hd
    · simp [Sh.at] at hd; subst hd
      exact him o'
  · intro φ b ec room he
    obtain ⟨h1, h3, h4⟩ := h.room φ b ec room he
    refine ⟨h1, h3, fun i hi => ?_⟩
    rcases liveNew hi with hi' | rfl
    · rw [ρold hi']; exact h4 i hi'
    · simp only [Sh.at, ↓reduceIte]
      intro hcb
      cases hcb
      exact hno (.inr ⟨φ, ec, room, he⟩)
  · intro i hi
    simp only [AH.push, List.length_append, List.length_cons, List.length_nil] at hi
    simp only [Sh.at]; rw [if_neg (by omega)]; exact h.ρout i (by omega)
  · exact fun g o x hg => let ⟨v, h1, h2⟩ := h.glob g o x hg; ⟨v, h1, h2.mono hle.bare⟩

theorem Fr.adopt {S0 S : Sh} {A0 A : AH} {w0 w : World} (h : Fr S0 A0 w0 S A w) {c : Nat} {x : ABlk} (hnone : S.ρ A.blks.length = none) (hc : w0.heap.size ≤ c) : Fr S0 A0 w0 (S.at A.blks.length c) (A.push x) w := by
  refine ⟨h.le.trans (Sh.le_at hnone c), h.size, h.os, h.tape, h.output, h.keep, ?_, h.imNew⟩
  intro b ho hb
  rcases ho with ⟨i, ⟨y, hy, hd⟩, hr⟩ | ho
  · simp only [AH.push] at hy
    rcases Nat.lt_trichotomy i A.blks.length with hlt | heq | hgt
    · rw [List.getElem?_append_left hlt] at hy
      simp only [Sh.at] at hr; rw [if_neg (by omega)] at hr
      exact h.own b (.inl ⟨i, ⟨y, hy, hd⟩, hr⟩) hb
    · subst heq
      simp [Sh.at] at hr
      omega
    · rw [List.getElem?_append_right (by omega), List.getElem?_eq_none (by simp; omega)] at hy; cases hy
  · exact h.own b (.inr ho) hb

end Go.Am
