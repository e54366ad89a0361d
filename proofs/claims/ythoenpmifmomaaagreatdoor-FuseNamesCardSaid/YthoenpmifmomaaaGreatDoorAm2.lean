/-
  The abstract heap: what can grow grows, in its own row of cells or in a new one. Conditions: none.
-/
import Derived.Test.YthoenpmifmomaaaGreatDoorAm1
namespace Go.Am
open Go

def AH.reach (A : AH) (φ n sz : Nat) : AH := { A with fams := A.fams.set φ (n, sz) }

/-- A family's next end; cells from 'lo' on in a block that change no more. -/
def Sh.more (S : Sh) (b lo : Nat) (vs : List Value) (φ n room sz : Nat) : Sh :=
  { S with im := fun b' o => if b' = b ∧ lo ≤ o ∧ o < lo + vs.length then vs[o - lo]? else S.im b' o, tl := fun ψ e => if ψ = φ ∧ e = n then some (b, lo + vs.length, room, sz) else S.tl ψ e }

theorem Inv.more_aux {G : Gl} {S : Sh} {A : AH} {w : World} (h : Inv G S A w) {φ e n sz : Nat} (he : A.fams[φ]? = some (e, sz)) (hn : e < n) {b lo : Nat} (vs : List Value) (room : Nat)
    (hfree : ∀ o, lo ≤ o → S.im b o = none) (hlive : ∀ i, A.live i → S.ρ i ≠ some b)
    (hfam : ∀ ψ ec' room', A.ends S ψ b ec' room' → ψ = φ)
    {w' : World} (hcell : ∀ o v, S.im b o = some v → w'.cell? ⟨b, o, none⟩ = some v) (hnew : ∀ j v, vs[j]? = some v → w'.cell? ⟨b, lo + j, none⟩ = some v)
    (hblk : ∃ c el, w'.heap[b]? = some (.cells c el (0, 0)) ∧ c.size = room) (hk : ∀ b', b' ≠ b → b' < w.heap.size → w'.heap[b']? = w.heap[b']?)
    (hs : w.heap.size ≤ w'.heap.size) (hos : w'.os = w.os) (htape : w'.tape = w.tape) (hout : w'.output = w.output)
    (hown : b < w.heap.size → Owned S A b) (hrm : ∀ k, S.rm b = some k → k = room) :
    Inv G (S.more b lo vs φ n room sz) (A.reach φ n sz) w' ∧ Fr S A w (S.more b lo vs φ n room sz) (A.reach φ n sz) w' := by
  have hφ := (List.getElem?_eq_some_iff.1 he).1
  have hle : S.le (S.more b lo vs φ n room sz) := by
    refine ⟨rfl, fun _ _ h => h, ?_, ?_, fun _ _ h => h⟩
    · intro b' o v hv
      simp only [Sh.more]
      rw [if_neg]; exact hv
      rintro ⟨rfl, h1, _⟩
      rw [hfree o h1] at hv; cases hv
    · intro ψ e' x hx
      simp only [Sh.more]
      rw [if_neg]; exact hx
      rintro ⟨rfl, rfl⟩
      obtain ⟨e0, _, h1, h2⟩ := h.tlout _ _ _ hx
      rw [he] at h1; cases h1; omega
  have keepCell : ∀ b' o v, b' ≠ b → w.cell? ⟨b', o, none⟩ = some v → w'.cell? ⟨b', o, none⟩ = some v := by
    intro b' o v hb hv
    unfold World.cell? at hv ⊢
    simp only at hv ⊢
    rw [hk b' hb]
    · exact hv
    · split at hv
      · rename_i hh; exact (Array.getElem?_eq_some_iff.1 hh).1
      · cases hv
  have endsOf : ∀ {ψ b' ec room'}, (A.reach φ n sz).ends (S.more b lo vs φ n room sz) ψ b' ec room' → (ψ ≠ φ ∧ A.ends S ψ b' ec room') ∨ (ψ = φ ∧ b' = b ∧ ec = lo + vs.length ∧ room' = room) := by
    rintro ψ b' ec room' ⟨e', sz', h1, h2⟩
    simp only [AH.reach, List.getElem?_set] at h1
    simp only [Sh.more] at h2
    by_cases hψ : φ = ψ
    · subst hψ
      simp only [hφ, ↓reduceIte, Option.some.injEq, Prod.mk.injEq] at h1
      obtain ⟨rfl, rfl⟩ := h1
      simp at h2
      exact .inr ⟨rfl, h2.1.symm, h2.2.1.symm, h2.2.2.symm⟩
    · simp only [if_neg hψ] at h1
      rw [if_neg (fun hh => hψ hh.1.symm)] at h2
      exact .inl ⟨fun hh => hψ hh.symm, e', sz', h1, h2⟩
  constructor
  · refine ⟨?_, ?_, h.inj, ?_, ?_, ?_, ?_, h.ρout, ?_, ?_, ?_⟩
    · intro b' o v hv
      simp only [Sh.more] at hv
      by_cases hb : b' = b ∧ lo ≤ o ∧ o < lo + vs.length
      · rw [if_pos hb] at hv
        obtain ⟨rfl, h1, _⟩ := hb
        have := hnew (o - lo) v hv
        rw [show lo + (o - lo) = o by omega] at this; exact this
      · rw [if_neg hb] at hv
        by_cases hb' : b' = b
        · subst hb'; exact hcell o v hv
        · exact keepCell b' o v hb' (h.im b' o v hv)
    · intro i y hy hd
      obtain ⟨c, o, h1, h2, h3⟩ := h.blk i y hy hd
      refine ⟨c, o, h1, ?_, h3.mono hle⟩
      rw [hk c]
      · exact h2
      · rintro rfl; exact hlive i ⟨y, hy, hd⟩ h1
      · exact (Array.getElem?_eq_some_iff.1 h2).1
    · intro i c o hi hc
      simp only [Sh.more]
      rw [if_neg]
      · exact h.free i c o hi hc
      · rintro ⟨rfl, _⟩; exact hlive i hi hc
    · intro ψ e' sz' he'
      simp only [AH.reach, List.getElem?_set] at he'
      by_cases hψ : φ = ψ
      · subst hψ
        simp only [hφ, ↓reduceIte, Option.some.injEq, Prod.mk.injEq] at he'
        obtain ⟨rfl, rfl⟩ := he'
        exact ⟨b, lo + vs.length, room, by simp [Sh.more]⟩
      · simp only [if_neg hψ] at he'
        obtain ⟨b', ec, room', h1⟩ := h.fam ψ e' sz' he'
        exact ⟨b', ec, room', hle.tl _ _ _ h1⟩
    · intro ψ b' ec room' hE
      rcases endsOf hE with ⟨hψ, hE'⟩ | ⟨rfl, rfl, rfl, rfl⟩
      · obtain ⟨⟨c, el, h1, h2⟩, h3, h4⟩ := h.room ψ b' ec room' hE'
        have hb : b' ≠ b := by rintro rfl; exact hψ (hfam ψ ec room' hE')
        refine ⟨⟨c, el, ?_, h2⟩, fun o ho => ?_, h4⟩
        · rw [hk b' hb (Array.getElem?_eq_some_iff.1 h1).1]; exact h1
        · simp only [Sh.more]; rw [if_neg (fun hh => hb hh.1)]; exact h3 o ho
      · refine ⟨hblk, fun o ho => ?_, hlive⟩
        simp only [Sh.more]; rw [if_neg (by omega)]; exact hfree o (by omega)
    · intro ψ χ b' ec room' ec' room'' h1 h2
      rcases endsOf h1 with ⟨h1a, h1'⟩ | ⟨rfl, rfl, rfl, rfl⟩ <;> rcases endsOf h2 with ⟨h2a, h2'⟩ | ⟨h2b, h2c, _, _⟩
      · exact h.famInj ψ χ b' ec room' ec' room'' h1' h2'
      · subst h2b h2c; exact hfam ψ ec room' h1'
      · exact (hfam χ ec' room'' h2').symm
      · exact h2b.symm
    · intro ψ e' x hx
      simp only [Sh.more] at hx
      by_cases hψ : ψ = φ
      · subst hψ
        refine ⟨n, sz, by simp [AH.reach, hφ], ?_⟩
        by_cases h' : e' = n
        · omega
        · rw [if_neg (fun hh => h' hh.2)] at hx
          obtain ⟨e0, _, h1, h2⟩ := h.tlout _ _ _ hx
          rw [he] at h1; cases h1; omega
      · rw [if_neg (fun hh => hψ hh.1)] at hx
        obtain ⟨e0, sz', h1, h2⟩ := h.tlout _ _ _ hx
        refine ⟨e0, sz', ?_, h2⟩
        simp only [AH.reach, List.getElem?_set]
        rw [if_neg (fun hh => hψ hh.symm)]; exact h1
    · exact fun g o x hg => let ⟨v, h1, h2⟩ := h.glob g o x hg; ⟨v, hle.im _ _ _ h1, h2.mono hle.bare⟩
    · intro d k hd
      by_cases hdb : d = b
      · subst hdb
        obtain ⟨c, el, h1, h2⟩ := hblk
        exact ⟨c, el, h1, h2.trans (hrm k hd).symm⟩
      · obtain ⟨cs, el, h1, h2⟩ := h.rm d k hd
        exact ⟨cs, el, by rw [hk d hdb (Array.getElem?_eq_some_iff.1 h1).1]; exact h1, h2⟩
  · refine ⟨hle, hs, hos, htape, hout, ?_, ?_, ?_⟩
    · intro b' hb hn'
      refine hk b' ?_ hb
      rintro rfl
      exact hn' (hown hb)
    · intro b' ho hb
      rcases ho with ho | ⟨ψ, ec, room', hE⟩
      · exact .inl ho
      · rcases endsOf hE with ⟨_, hE'⟩ | ⟨rfl, rfl, rfl, rfl⟩
        · exact .inr ⟨ψ, ec, room', hE'⟩
        · exact hown hb
    · intro b' o v hv
      simp only [Sh.more] at hv
      by_cases hb : b' = b ∧ lo ≤ o ∧ o < lo + vs.length
      · obtain ⟨rfl, _⟩ := hb
        by_cases hlt : b' < w.heap.size
        · exact .inr (.inr (hown hlt))
        · exact .inr (.inl (by omega))
      · rw [if_neg hb] at hv; exact .inl hv

/-- IN A NEW ROW: the old elements are copied, the new ones stand behind them. -/
theorem Inv.reachRow {G : Gl} {S : Sh} {A : AH} {w : World} (h : Inv G S A w) {φ e n sz : Nat} (he : A.fams[φ]? = some (e, sz)) (hn : e < n) (vs rest : List Value) (el : TypeId) :
    let S' := S.more w.heap.size 0 vs φ n (vs ++ rest).length sz
    let w' : World := { w with heap := w.heap.push (.cells ⟨vs ++ rest⟩ el (0, 0)) }
    Inv G S' (A.reach φ n sz) w' ∧ Fr S A w S' (A.reach φ n sz) w' := by
  intro S' w'
  have himn : ∀ o, S.im w.heap.size o = none := by
    intro o
    cases hx : S.im w.heap.size o with
    | none => rfl
    | some v => exact absurd (h.imlt hx) (by omega)
  refine h.more_aux he hn vs _ (fun o _ => himn o) (fun i hi hc => ?_) (fun ψ ec' room' hE => ?_) (fun o v hv => ?_) (fun j v hj => ?_) ⟨⟨vs ++ rest⟩, el, by simp [w'], by simp⟩ (fun b' _ hlt => ?_) (by simp [w']) rfl rfl rfl (fun hb => absurd hb (by omega)) (fun k hk => ?_)
  · have := h.lt (.inl ⟨i, hi, hc⟩); omega
  · have := h.lt (.inr ⟨ψ, ec', room', hE⟩); omega
  · rw [himn] at hv; cases hv
  · have hlt := (List.getElem?_eq_some_iff.1 hj).1
    simp [w', World.cell?, List.getElem?_append_left hlt, hj]
  · simp only [w', Array.getElem?_push, if_neg (Nat.ne_of_lt hlt)]
  · obtain ⟨cs, el, h1, _⟩ := h.rm _ _ hk
    have := (Array.getElem?_eq_some_iff.1 h1).1
    omega

/-- WHERE IT ENDS: the new elements are written behind the last one. -/
theorem Inv.reachHere {G : Gl} {S : Sh} {A : AH} {w : World} (h : Inv G S A w) {φ e n b ec room sz : Nat} (he : A.fams[φ]? = some (e, sz)) (hn : e < n) (ht : S.tl φ e = some (b, ec, room, sz)) (vs : List Value)
    {w' : World} {c : Array Value} {el : TypeId} (hw : w'.heap[b]? = some (.cells c el (0, 0))) (hc : c.size = room) (hold : ∀ o, o < ec → w'.cell? ⟨b, o, none⟩ = w.cell? ⟨b, o, none⟩)
    (hnew : ∀ j v, vs[j]? = some v → w'.cell? ⟨b, ec + j, none⟩ = some v) (hk : ∀ b', b' ≠ b → w'.heap[b']? = w.heap[b']?) (hs : w'.heap.size = w.heap.size) (hos : w'.os = w.os) (htape : w'.tape = w.tape) (hout : w'.output = w.output) :
    Inv G (S.more b ec vs φ n room sz) (A.reach φ n sz) w' ∧ Fr S A w (S.more b ec vs φ n room sz) (A.reach φ n sz) w' := by
  have hE : A.ends S φ b ec room := ⟨e, sz, he, ht⟩
  obtain ⟨⟨c0, el0, g1, g2⟩, h3, h4⟩ := h.room φ b ec room hE
  refine h.more_aux he hn vs room h3 h4 (fun ψ ec' room' hE' => h.famInj ψ φ b ec' room' ec room hE' hE) (fun o v hv => ?_) hnew ⟨c, el, hw, hc⟩ (fun b' hb _ => hk b' hb) (Nat.le_of_eq hs.symm) hos htape hout (fun _ => .inr ⟨φ, ec, room, hE⟩) (fun k hk' => ?_)
  · have : o < ec := by
      rcases Nat.lt_or_ge o ec with h' | h'
      · exact h'
      · rw [h3 o h'] at hv; cases hv
    rw [hold o this]; exact h.im b o v hv
  · obtain ⟨cs, el', k1, k2⟩ := h.rm _ _ hk'
    rw [g1] at k1
    cases k1
    exact k2.symm.trans g2

/-- How many cells a block has, known from now on. -/
def Sh.know (S : Sh) (c n : Nat) : Sh := { S with rm := fun d => if d = c then some n else S.rm d }

theorem Inv.know {G : Gl} {S : Sh} {A : AH} {w : World} (h : Inv G S A w) {c : Nat} {cs : Array Value} {el : TypeId} (hc : w.heap[c]? = some (.cells cs el (0, 0))) :
    Inv G (S.know c cs.size) A w ∧ Fr S A w (S.know c cs.size) A w := by
  have hle : S.le (S.know c cs.size) := by
    refine ⟨rfl, fun _ _ h => h, fun _ _ _ h => h, fun _ _ _ h => h, fun d n hn => ?_⟩
    simp only [Sh.know]
    by_cases hd : d = c
    · subst hd
      obtain ⟨cs', el', h1, h2⟩ := h.rm d n hn
      rw [hc] at h1
      cases h1
      rw [if_pos rfl, h2]
    · rw [if_neg hd]; exact hn
  constructor
  · refine ⟨h.im, ?_, h.inj, h.free, h.fam, h.room, h.famInj, h.ρout, h.tlout, ?_, ?_⟩
    · exact fun i x hx hd => let ⟨d, o, h1, h2, h3⟩ := h.blk i x hx hd; ⟨d, o, h1, h2, h3.mono hle⟩
    · exact fun g o x hg => let ⟨v, h1, h2⟩ := h.glob g o x hg; ⟨v, h1, h2.mono hle.bare⟩
    · intro d n hn
      simp only [Sh.know] at hn
      by_cases hd : d = c
      · subst hd
        rw [if_pos rfl] at hn
        cases hn
        exact ⟨cs, el, hc, rfl⟩
      · rw [if_neg hd] at hn
        exact h.rm d n hn
  · exact ⟨hle, Nat.le_refl _, rfl, rfl, rfl, fun _ _ _ => rfl, fun _ h _ => h, fun _ _ _ h => .inl h⟩

end Go.Am
