/-
  The abstract heap, how it stands to a world, and what three kinds of change do to that: a new block, a block that is written, a new row of cells that changes no more. Conditions: none.
-/
import Derived.Test.YthoenpmifmomaaaGreatDoorAm0
namespace Go.Am
open Go

/-- The blocks of the call's own. -/
inductive ABlk where
  | cells (cs : List AV) (elem : TypeId)
  | map (es : List (AV × AV × Nat)) (clock : Nat)
  | iter (m : Option Nat) (since : Nat) (seen : List Nat) (stepped : Nat)
  | loop (state : LoopState) (pending : Option Code) (tmps : List AV) (params : Array Tmp) (assign body : Code) (defers : Nat)
  | defers
  | dead
  deriving Inhabited

structure AH where
  blks : List ABlk
  fams : List (Nat × Nat)

def AH.live (A : AH) (i : Nat) : Prop := ∃ x, A.blks[i]? = some x ∧ x ≠ .dead
def AH.push (A : AH) (x : ABlk) : AH := { A with blks := A.blks ++ [x] }
def AH.put (A : AH) (i : Nat) (x : ABlk) : AH := { A with blks := A.blks.set i x }
/-- A new family, of so many elements, each of so many cells. -/
def AH.grow (A : AH) (n sz : Nat) : AH := { A with fams := A.fams ++ [(n, sz)] }

inductive MRel (S : Sh) : List (AV × AV × Nat) → List MapEntry → Prop
  | nil : MRel S [] []
  | cons (k x : AV) (n : Nat) (es : List (AV × AV × Nat)) (u v : Value) (ms : List MapEntry) : VRel S k u → VRel S x v → MRel S es ms → MRel S ((k, x, n) :: es) (⟨u, v, n⟩ :: ms)

theorem MRel.mono {S S' : Sh} (h : S.le S') : ∀ {es : List (AV × AV × Nat)} {ms : List MapEntry}, MRel S es ms → MRel S' es ms
  | _, _, .nil => .nil
  | _, _, .cons k x n es u v ms h1 h2 h3 => .cons k x n es u v ms (h1.mono h) (h2.mono h) (h3.mono h)

inductive BRel (S : Sh) : ABlk → Obj → Prop
  | cells (cs : List AV) (elem : TypeId) (vs rest : List Value) : LRel S cs vs → BRel S (.cells cs elem) (.cells ⟨vs ++ rest⟩ elem (0, 0))
  | map (es : List (AV × AV × Nat)) (clock : Nat) (ms : List MapEntry) : MRel S es ms → BRel S (.map es clock) (.map ⟨ms⟩ clock)
  | iterNil (since : Nat) (seen : List Nat) (stepped : Nat) : BRel S (.iter none since seen stepped) (.mapIter none since ⟨seen⟩ stepped)
  | iter (m c since : Nat) (seen : List Nat) (stepped : Nat) : S.ρ m = some c → BRel S (.iter (some m) since seen stepped) (.mapIter (some c) since ⟨seen⟩ stepped)
  | loop (state : LoopState) (pending : Option Code) (tmps : List AV) (vs : List Value) (params : Array Tmp) (assign body : Code) (defers d : Nat) (fn : FuncId) :
      LRel S tmps vs → S.ρ defers = some d → BRel S (.loop state pending tmps params assign body defers) (.loop { state, pending, fn, tmps := ⟨vs⟩, params, assign, body, defers := d })
  | defers : BRel S .defers (.deferred (some []))

theorem BRel.mono {S S' : Sh} (h : S.le S') {x : ABlk} {o : Obj} (r : BRel S x o) : BRel S' x o := by
  cases r with
  | cells cs elem vs rest hl => exact .cells cs elem vs rest (hl.mono h)
  | map es clock ms hm => exact .map es clock ms (hm.mono h)
  | iterNil a b c => exact .iterNil a b c
  | iter m c a b d hr => exact .iter m c a b d (h.ρ _ _ hr)
  | loop st p ts vs ps as bd df d fn hl hr => exact .loop st p ts vs ps as bd df d fn (hl.mono h) (h.ρ _ _ hr)
  | defers => exact .defers

abbrev Gl := Nat → Nat → Option AV

/-- The cells that change no more, alone. -/
def Sh.bare (S : Sh) : Sh := { X := S.X, ρ := fun _ => none, im := S.im, tl := fun _ _ => none, rm := fun _ => none }
theorem Sh.bare_le (S : Sh) : S.bare.le S := ⟨rfl, fun _ _ h => by simp [Sh.bare] at h, fun _ _ _ h => h, fun _ _ _ h => by simp [Sh.bare] at h, fun _ _ h => by simp [Sh.bare] at h⟩
theorem Sh.le.bare {S S' : Sh} (h : S.le S') : S.bare.le S'.bare := ⟨h.X, fun _ _ h => by simp [Sh.bare] at h, h.im, fun _ _ _ h => by simp [Sh.bare] at h, fun _ _ h => by simp [Sh.bare] at h⟩

/-- The block at which a family ends. -/
def AH.ends (A : AH) (S : Sh) (φ b ec room : Nat) : Prop := ∃ e sz, A.fams[φ]? = some (e, sz) ∧ S.tl φ e = some (b, ec, room, sz)

structure Inv (G : Gl) (S : Sh) (A : AH) (w : World) : Prop where
  im : ∀ b o v, S.im b o = some v → w.cell? ⟨b, o, none⟩ = some v
  blk : ∀ i x, A.blks[i]? = some x → x ≠ .dead → ∃ c o, S.ρ i = some c ∧ w.heap[c]? = some o ∧ BRel S x o
  inj : ∀ i j c, A.live i → A.live j → S.ρ i = some c → S.ρ j = some c → i = j
  free : ∀ i c o, A.live i → S.ρ i = some c → S.im c o = none
  fam : ∀ φ e sz, A.fams[φ]? = some (e, sz) → ∃ b ec room, S.tl φ e = some (b, ec, room, sz)
  room : ∀ φ b ec room, A.ends S φ b ec room → (∃ c el, w.heap[b]? = some (.cells c el (0, 0)) ∧ c.size = room) ∧ (∀ o, ec ≤ o → S.im b o = none) ∧ (∀ i, A.live i → S.ρ i ≠ some b)
  famInj : ∀ φ ψ b ec room ec' room', A.ends S φ b ec room → A.ends S ψ b ec' room' → φ = ψ
  ρout : ∀ i, A.blks.length ≤ i → S.ρ i = none
  tlout : ∀ φ e x, S.tl φ e = some x → ∃ e0 sz, A.fams[φ]? = some (e0, sz) ∧ e ≤ e0
  glob : ∀ g o x, G g o = some x → ∃ v, S.im g o = some v ∧ VRel S.bare x v
  rm : ∀ c n, S.rm c = some n → ∃ cs el, w.heap[c]? = some (.cells cs el (0, 0)) ∧ cs.size = n

def Owned (S : Sh) (A : AH) (b : Nat) : Prop := (∃ i, A.live i ∧ S.ρ i = some b) ∨ ∃ φ ec room, A.ends S φ b ec room

/-- What a piece of the run does to the world: it writes to what is the call's own alone. -/
structure Fr (S : Sh) (A : AH) (w : World) (S' : Sh) (A' : AH) (w' : World) : Prop where
  le : S.le S'
  size : w.heap.size ≤ w'.heap.size
  os : w'.os = w.os
  tape : w'.tape = w.tape
  output : w'.output = w.output
  keep : ∀ b, b < w.heap.size → ¬ Owned S A b → w'.heap[b]? = w.heap[b]?
  own : ∀ b, Owned S' A' b → b < w.heap.size → Owned S A b
  imNew : ∀ b o v, S'.im b o = some v → S.im b o = some v ∨ w.heap.size ≤ b ∨ Owned S A b

theorem Fr.refl (S : Sh) (A : AH) (w : World) : Fr S A w S A w := ⟨.refl _, Nat.le_refl _, rfl, rfl, rfl, fun _ _ _ => rfl, fun _ h _ => h, fun _ _ _ h => .inl h⟩

theorem Fr.trans {S S' S'' : Sh} {A A' A'' : AH} {w w' w'' : World} (h : Fr S A w S' A' w') (k : Fr S' A' w' S'' A'' w'') : Fr S A w S'' A'' w'' := by
  refine ⟨h.le.trans k.le, Nat.le_trans h.size k.size, k.os.trans h.os, k.tape.trans h.tape, k.output.trans h.output, ?_, ?_, ?_⟩
  · intro b hb hn
    rw [k.keep b (Nat.lt_of_lt_of_le hb h.size) fun ho => hn (h.own b ho hb)]
    exact h.keep b hb hn
  · intro b ho hb
    exact h.own b (k.own b ho (Nat.lt_of_lt_of_le hb h.size)) hb
  · intro b o v hv
    rcases k.imNew b o v hv with h1 | h1 | h1
    · exact h.imNew b o v h1
    · exact .inr (.inl (Nat.le_trans h.size h1))
    · by_cases hb : b < w.heap.size
      · exact .inr (.inr (h.own b h1 hb))
      · exact .inr (.inl (by omega))

/-- A draw moves a count alone. -/
theorem Inv.drew {G : Gl} {S : Sh} {A : AH} {w : World} (h : Inv G S A w) (n : Nat) : Inv G S A { w with drawn := n } ∧ Fr S A w S A { w with drawn := n } :=
  ⟨⟨h.im, h.blk, h.inj, h.free, h.fam, h.room, h.famInj, h.ρout, h.tlout, h.glob, h.rm⟩, ⟨.refl _, Nat.le_refl _, rfl, rfl, rfl, fun _ _ _ => rfl, fun _ h _ => h, fun _ _ _ h => .inl h⟩⟩

theorem live_lt {A : AH} {i : Nat} (h : A.live i) : i < A.blks.length := by
  obtain ⟨x, hx, _⟩ := h
  exact (List.getElem?_eq_some_iff.1 hx).1

theorem Inv.lt {G : Gl} {S : Sh} {A : AH} {w : World} (h : Inv G S A w) {b : Nat} (ho : Owned S A b) : b < w.heap.size := by
  rcases ho with ⟨i, ⟨x, hx, hd⟩, hr⟩ | ⟨φ, ec, room, he⟩
  · obtain ⟨c, o, h1, h2, _⟩ := h.blk i x hx hd
    obtain rfl := Option.some.inj (h1.symm.trans hr)
    exact (Array.getElem?_eq_some_iff.1 h2).1
  · obtain ⟨⟨c, el, h1, _⟩, _⟩ := h.room φ b ec room he
    exact (Array.getElem?_eq_some_iff.1 h1).1

theorem Inv.imlt {G : Gl} {S : Sh} {A : AH} {w : World} (h : Inv G S A w) {b o : Nat} {v : Value} (hi : S.im b o = some v) : b < w.heap.size := by
  have := h.im b o v hi
  unfold World.cell? at this
  split at this
  · rename_i c _ _ hh
    exact (Array.getElem?_eq_some_iff.1 hh).1
  · cases this

/-- One place more. -/
def Sh.at (S : Sh) (i c : Nat) : Sh := { S with ρ := fun j => if j = i then some c else S.ρ j }

theorem Sh.le_at {S : Sh} {i : Nat} (h : S.ρ i = none) (c : Nat) : S.le (S.at i c) :=
  ⟨rfl, fun j d hj => by simp only [Sh.at]; split <;> simp_all, fun _ _ _ h => h, fun _ _ _ h => h, fun _ _ h => h⟩

theorem cell?_push {w : World} {o : Obj} {a : Addr} {v : Value} (h : w.cell? a = some v) : ({ w with heap := w.heap.push o } : World).cell? a = some v := by
  unfold World.cell? at h ⊢
  split at h
  · rename_i c e f hh
    have hlt := (Array.getElem?_eq_some_iff.1 hh).1
    simp only [Array.getElem?_push, if_neg (Nat.ne_of_lt hlt), hh]
    exact h
  · cases h

theorem push_old {w : World} {o o' : Obj} {b : Nat} (h : w.heap[b]? = some o') : ({ w with heap := w.heap.push o } : World).heap[b]? = some o' := by
  have hlt := (Array.getElem?_eq_some_iff.1 h).1
  simp only [Array.getElem?_push, if_neg (Nat.ne_of_lt hlt), h]

/-- A NEW BLOCK of the call's own. -/
theorem Inv.push {G : Gl} {S : Sh} {A : AH} {w : World} (h : Inv G S A w) {x : ABlk} {o : Obj} (_hx : x ≠ .dead) (hr : BRel (S.at A.blks.length w.heap.size) x o) :
    Inv G (S.at A.blks.length w.heap.size) (A.push x) { w with heap := w.heap.push o } ∧ Fr S A w (S.at A.blks.length w.heap.size) (A.push x) { w with heap := w.heap.push o } := by
  have hnone := h.ρout A.blks.length (Nat.le_refl _)
  have hle := Sh.le_at hnone w.heap.size
  have liveOld : ∀ {i}, A.live i → (A.push x).live i := fun {i} ⟨y, hy, hd⟩ => ⟨y, by
    have := (List.getElem?_eq_some_iff.1 hy).1
    simp only [AH.push]; rw [List.getElem?_append_left this]; exact hy, hd⟩
  have liveNew : ∀ {i}, (A.push x).live i → A.live i ∨ i = A.blks.length := by
    rintro i ⟨y, hy, hd⟩
    simp only [AH.push] at hy
    rcases Nat.lt_trichotomy i A.blks.length with hlt | heq | hgt
    · rw [List.getElem?_append_left hlt] at hy; exact .inl ⟨y, hy, hd⟩
    · exact .inr heq
    · rw [List.getElem?_append_right (by omega)] at hy
      rw [List.getElem?_eq_none (by simp; omega)] at hy; cases hy
  have ρold : ∀ {i}, A.live i → (S.at A.blks.length w.heap.size).ρ i = S.ρ i := fun {i} hi => by
    have := live_lt hi
    simp only [Sh.at]; rw [if_neg (by omega)]
  have ownedLt : ∀ {i c}, A.live i → S.ρ i = some c → c < w.heap.size := fun hi hc => h.lt (.inl ⟨_, hi, hc⟩)
  have endsEq : ∀ {φ b ec room}, (A.push x).ends (S.at A.blks.length w.heap.size) φ b ec room → A.ends S φ b ec room := fun h => h
  constructor
  · refine ⟨?_, ?_, ?_, ?_, h.fam, ?_, ?_, ?_, h.tlout, ?_, fun c n hn => let ⟨cs, el, h1, h2⟩ := h.rm c n hn; ⟨cs, el, push_old h1, h2⟩⟩
    · exact fun b o v hv => cell?_push (h.im b o v hv)
    · intro i y hy hd
      simp only [AH.push] at hy
      rcases Nat.lt_trichotomy i A.blks.length with hlt | heq | hgt
      · rw [List.getElem?_append_left hlt] at hy
        obtain ⟨c, o', h1, h2, h3⟩ := h.blk i y hy hd
        refine ⟨c, o', ?_, push_old h2, h3.mono hle⟩
        simp only [Sh.at]; rw [if_neg (by omega)]; exact h1
      · subst heq
        rw [List.getElem?_append_right (Nat.le_refl _)] at hy
        simp at hy; subst hy
        exact ⟨w.heap.size, o, by simp [Sh.at], by simp, hr⟩
      · rw [List.getElem?_append_right (by omega)] at hy
        rw [List.getElem?_eq_none (by simp; omega)] at hy; cases hy
    · intro i j c hi hj h1 h2
      rcases liveNew hi with hi' | rfl <;> rcases liveNew hj with hj' | rfl
      · rw [ρold hi'] at h1; rw [ρold hj'] at h2; exact h.inj i j c hi' hj' h1 h2
      · rw [ρold hi'] at h1
        have := ownedLt hi' h1
        simp [Sh.at] at h2; omega
      · rw [ρold hj'] at h2
        have := ownedLt hj' h2
        simp [Sh.at] at h1; omega
      · rfl
    · intro i c o' hi hc
      rcases liveNew hi with hi' | rfl
      · rw [ρold hi'] at hc; exact h.free i c o' hi' hc
      · simp [Sh.at] at hc; subst hc
        cases him : S.im w.heap.size o' with
        | none => exact him
        | some v => exact absurd (h.imlt him) (by omega)
    · intro φ b ec room he
      obtain ⟨⟨c, el, h1, h2⟩, h3, h4⟩ := h.room φ b ec room (endsEq he)
      refine ⟨⟨c, el, push_old h1, h2⟩, h3, fun i hi => ?_⟩
      rcases liveNew hi with hi' | rfl
      · rw [ρold hi']; exact h4 i hi'
      · have := (Array.getElem?_eq_some_iff.1 h1).1
        simp [Sh.at]; omega
    · exact fun φ ψ b ec room ec' room' h1 h2 => h.famInj φ ψ b ec room ec' room' h1 h2
    · intro i hi
      simp only [AH.push, List.length_append, List.length_cons, List.length_nil] at hi
      simp only [Sh.at]; rw [if_neg (by omega)]; exact h.ρout i (by omega)
    · exact fun g o x hg => let ⟨v, h1, h2⟩ := h.glob g o x hg; ⟨v, h1, h2.mono hle.bare⟩
  · refine ⟨hle, by simp, rfl, rfl, rfl, ?_, ?_, fun _ _ _ h => .inl h⟩
    · intro b hb _
      simp only [Array.getElem?_push, if_neg (Nat.ne_of_lt hb)]
    · intro b ho hb
      rcases ho with ⟨i, hi, hr⟩ | ho
      · rcases liveNew hi with hi' | rfl
        · rw [ρold hi'] at hr; exact .inl ⟨i, hi', hr⟩
        · simp [Sh.at] at hr; omega
      · exact .inr ho

/-- A BLOCK OF THE CALL's OWN IS WRITTEN. -/
theorem Inv.put {G : Gl} {S : Sh} {A : AH} {w : World} (h : Inv G S A w) {i c : Nat} {x : ABlk} {o : Obj} (hi : A.live i) (hc : S.ρ i = some c) (hx : x ≠ .dead) (hr : BRel S x o)
    {w' : World} (hw : w'.heap[c]? = some o) (hk : ∀ b, b ≠ c → w'.heap[b]? = w.heap[b]?) (hs : w'.heap.size = w.heap.size) (hos : w'.os = w.os) (htape : w'.tape = w.tape) (hout : w'.output = w.output)
    (hsz : ∀ cs el, w.heap[c]? = some (.cells cs el (0, 0)) → ∃ cs' el', o = .cells cs' el' (0, 0) ∧ cs'.size = cs.size) :
    Inv G S (A.put i x) w' ∧ Fr S A w S (A.put i x) w' := by
  have hlt := live_lt hi
  have liveIff : ∀ {j}, (A.put i x).live j ↔ A.live j := by
    intro j
    simp only [AH.live, AH.put, List.getElem?_set]
    by_cases hij : i = j
    · subst hij
      simp only [if_pos hlt, ↓reduceIte]
      exact ⟨fun _ => hi, fun _ => ⟨x, rfl, hx⟩⟩
    · simp only [if_neg hij]
  have cellKeep : ∀ b o' v, b ≠ c → w.cell? ⟨b, o', none⟩ = some v → w'.cell? ⟨b, o', none⟩ = some v := by
    intro b o' v hb hv
    unfold World.cell? at hv ⊢
    simp only at hv ⊢
    rw [hk b hb]; exact hv
  constructor
  · refine ⟨?_, ?_, ?_, ?_, h.fam, ?_, h.famInj, ?_, h.tlout, h.glob, ?_⟩
    · intro b o' v hv
      refine cellKeep b o' v ?_ (h.im b o' v hv)
      rintro rfl
      rw [h.free i b o' hi hc] at hv; cases hv
    · intro j y hy hd
      simp only [AH.put, List.getElem?_set] at hy
      by_cases hij : i = j
      · subst hij
        simp only [if_pos hlt, ↓reduceIte, Option.some.injEq] at hy
        subst hy
        exact ⟨c, o, hc, hw, hr⟩
      · simp only [if_neg hij] at hy
        obtain ⟨d, o', h1, h2, h3⟩ := h.blk j y hy hd
        refine ⟨d, o', h1, ?_, h3⟩
        rw [hk d]; exact h2
        rintro rfl
        exact hij (h.inj i j d hi ⟨y, hy, hd⟩ hc h1)
    · exact fun j k d hj hk' => h.inj j k d (liveIff.1 hj) (liveIff.1 hk')
    · exact fun j d o' hj => h.free j d o' (liveIff.1 hj)
    · intro φ b ec room he
      obtain ⟨⟨c', el, h1, h2⟩, h3, h4⟩ := h.room φ b ec room he
      refine ⟨⟨c', el, ?_, h2⟩, h3, fun j hj => h4 j (liveIff.1 hj)⟩
      rw [hk b]; exact h1
      rintro rfl
      exact h4 i hi hc
    · intro j hj
      simp only [AH.put, List.length_set] at hj
      exact h.ρout j hj
    · intro d n hn
      obtain ⟨cs, el, h1, h2⟩ := h.rm d n hn
      by_cases hdc : d = c
      · subst hdc
        obtain ⟨cs', el', h3, h4⟩ := hsz cs el h1
        subst h3
        exact ⟨cs', el', hw, h4.trans h2⟩
      · exact ⟨cs, el, by rw [hk d hdc]; exact h1, h2⟩
  · refine ⟨.refl _, Nat.le_of_eq hs.symm, hos, htape, hout, ?_, ?_, fun _ _ _ h => .inl h⟩
    · intro b hb hn
      refine hk b ?_
      rintro rfl
      exact hn (.inl ⟨i, hi, hc⟩)
    · intro b ho _
      rcases ho with ⟨j, hj, hr'⟩ | ho
      · exact .inl ⟨j, liveIff.1 hj, hr'⟩
      · exact .inr ho

/-- Cells that change no more, in a new block; a new family ends there. -/
def Sh.row (S : Sh) (b : Nat) (vs : List Value) (φ n room sz : Nat) : Sh :=
  { S with im := fun b' o => if b' = b then vs[o]? else S.im b' o, tl := fun ψ e => if ψ = φ then (if e = n then some (b, vs.length, room, sz) else none) else S.tl ψ e }

/-- A NEW ROW OF CELLS that changes no more; behind it there may be room. -/
theorem Inv.row {G : Gl} {S : Sh} {A : AH} {w : World} (h : Inv G S A w) (vs rest : List Value) (el : TypeId) (n sz : Nat) :
    let S' := S.row w.heap.size vs A.fams.length n (vs ++ rest).length sz
    let w' : World := { w with heap := w.heap.push (.cells ⟨vs ++ rest⟩ el (0, 0)) }
    Inv G S' (A.grow n sz) w' ∧ Fr S A w S' (A.grow n sz) w' := by
  intro S' w'
  have tlnone : ∀ e, S.tl A.fams.length e = none := by
    intro e
    cases hx : S.tl A.fams.length e with
    | none => rfl
    | some x =>
      obtain ⟨e0, _, h1, _⟩ := h.tlout _ _ _ hx
      rw [List.getElem?_eq_none (Nat.le_refl _)] at h1; cases h1
  have imnone : ∀ o, S.im w.heap.size o = none := by
    intro o
    cases hx : S.im w.heap.size o with
    | none => rfl
    | some v => exact absurd (h.imlt hx) (by omega)
  have hle : S.le S' := by
    refine ⟨rfl, fun _ _ h => h, ?_, ?_, fun _ _ h => h⟩
    · intro b o v hv
      have := h.imlt hv
      simp only [S', Sh.row]; rw [if_neg (by omega)]; exact hv
    · intro ψ e x hx
      simp only [S', Sh.row]
      rw [if_neg ?_]; exact hx
      rintro rfl
      rw [tlnone] at hx; cases hx
  have endsNew : ∀ {φ b ec room}, (A.grow n sz).ends S' φ b ec room → A.ends S φ b ec room ∨ (φ = A.fams.length ∧ b = w.heap.size ∧ ec = vs.length ∧ room = (vs ++ rest).length) := by
    rintro φ b ec room ⟨e, sz', h1, h2⟩
    simp only [AH.grow] at h1
    simp only [S', Sh.row] at h2
    rcases Nat.lt_trichotomy φ A.fams.length with hlt | heq | hgt
    · rw [List.getElem?_append_left hlt] at h1
      rw [if_neg (by omega)] at h2
      exact .inl ⟨e, sz', h1, h2⟩
    · subst heq
      rw [List.getElem?_append_right (Nat.le_refl _)] at h1
      simp at h1; obtain ⟨rfl, rfl⟩ := h1
      simp at h2
      obtain ⟨rfl, rfl, rfl⟩ := h2
      exact .inr ⟨rfl, rfl, rfl, by simp⟩
    · rw [List.getElem?_append_right (by omega), List.getElem?_eq_none (by simp; omega)] at h1; cases h1
  constructor
  · refine ⟨?_, ?_, h.inj, ?_, ?_, ?_, ?_, h.ρout, ?_, ?_, fun c n hn => let ⟨cs, el, h1, h2⟩ := h.rm c n hn; ⟨cs, el, push_old h1, h2⟩⟩
    · intro b o v hv
      simp only [S', Sh.row] at hv
      by_cases hb : b = w.heap.size
      · subst hb
        rw [if_pos rfl] at hv
        have hlt := (List.getElem?_eq_some_iff.1 hv).1
        simp only [w', World.cell?, Array.getElem?_push, if_pos]
        simp [List.getElem?_append_left hlt, hv]
      · rw [if_neg hb] at hv
        exact cell?_push (h.im b o v hv)
    · intro i y hy hd
      obtain ⟨c, o, h1, h2, h3⟩ := h.blk i y hy hd
      exact ⟨c, o, h1, push_old h2, h3.mono hle⟩
    · intro i c o hi hc
      have := h.lt (.inl ⟨i, hi, hc⟩)
      simp only [S', Sh.row]; rw [if_neg (by omega)]; exact h.free i c o hi hc
    · intro φ e sz' he
      simp only [AH.grow] at he
      rcases Nat.lt_trichotomy φ A.fams.length with hlt | heq | hgt
      · rw [List.getElem?_append_left hlt] at he
        obtain ⟨b, ec, room, h1⟩ := h.fam φ e sz' he
        exact ⟨b, ec, room, hle.tl _ _ _ h1⟩
      · subst heq
        rw [List.getElem?_append_right (Nat.le_refl _)] at he
        simp at he; obtain ⟨rfl, rfl⟩ := he
        exact ⟨w.heap.size, vs.length, (vs ++ rest).length, by simp [S', Sh.row]⟩
      · rw [List.getElem?_append_right (by omega), List.getElem?_eq_none (by simp; omega)] at he; cases he
    · intro φ b ec room he
      rcases endsNew he with he' | ⟨rfl, rfl, rfl, rfl⟩
      · obtain ⟨⟨c, el', h1, h2⟩, h3, h4⟩ := h.room φ b ec room he'
        have := (Array.getElem?_eq_some_iff.1 h1).1
        refine ⟨⟨c, el', push_old h1, h2⟩, fun o ho => ?_, h4⟩
        simp only [S', Sh.row]; rw [if_neg (by omega)]; exact h3 o ho
      · refine ⟨⟨⟨vs ++ rest⟩, el, by simp [w'], by simp⟩, fun o ho => ?_, fun i hi hc => ?_⟩
        · simp only [S', Sh.row, if_pos]
          exact List.getElem?_eq_none ho
        · have := h.lt (.inl ⟨i, hi, hc⟩); omega
    · intro φ ψ b ec room ec' room' h1 h2
      rcases endsNew h1 with h1' | ⟨rfl, rfl, rfl, rfl⟩ <;> rcases endsNew h2 with h2' | ⟨rfl, h2b, rfl, rfl⟩
      · exact h.famInj φ ψ b ec room ec' room' h1' h2'
      · subst h2b
        have := h.lt (.inr ⟨φ, ec, room, h1'⟩); omega
      · have := h.lt (.inr ⟨ψ, ec', room', h2'⟩); omega
      · rfl
    · intro φ e x hx
      simp only [S', Sh.row] at hx
      by_cases hφ : φ = A.fams.length
      · subst hφ
        simp at hx
        exact ⟨n, sz, by simp [AH.grow], by omega⟩
      · rw [if_neg hφ] at hx
        obtain ⟨e0, sz', h1, h2⟩ := h.tlout φ e x hx
        have := (List.getElem?_eq_some_iff.1 h1).1
        exact ⟨e0, sz', by simp only [AH.grow]; rw [List.getElem?_append_left this]; exact h1, h2⟩
    · exact fun g o x hg => let ⟨v, h1, h2⟩ := h.glob g o x hg; ⟨v, hle.im _ _ _ h1, h2.mono hle.bare⟩
  · refine ⟨hle, by simp [w'], rfl, rfl, rfl, ?_, ?_, ?_⟩
    · intro b hb _
      simp only [w', Array.getElem?_push, if_neg (Nat.ne_of_lt hb)]
    · intro b ho hb
      rcases ho with ho | ⟨φ, ec, room, he⟩
      · exact .inl ho
      · rcases endsNew he with he' | ⟨rfl, rfl, rfl, rfl⟩
        · exact .inr ⟨φ, ec, room, he'⟩
        · omega
    · intro b o v hv
      simp only [S', Sh.row] at hv
      by_cases hb : b = w.heap.size
      · exact .inr (.inl (by omega))
      · rw [if_neg hb] at hv; exact .inl hv

end Go.Am
