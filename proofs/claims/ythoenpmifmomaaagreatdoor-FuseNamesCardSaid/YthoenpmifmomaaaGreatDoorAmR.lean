/-
  Rows that are written and grow: a block is given up; its cells become another block's. Conditions: none.
-/
import Derived.Test.YthoenpmifmomaaaGreatDoorAm11
namespace Go.Am
open Go

/-- A BLOCK IS GIVEN UP. -/
theorem Inv.kill {G : Gl} {S : Sh} {A : AH} {w : World} (h : Inv G S A w) {i c : Nat} (hi : A.live i) (hc : S.ρ i = some c)
    {w' : World} (hk : ∀ b, b ≠ c → w'.heap[b]? = w.heap[b]?) (hs : w'.heap.size = w.heap.size) (hos : w'.os = w.os) (htape : w'.tape = w.tape) (hout : w'.output = w.output)
    (hsz : ∀ cs el, w.heap[c]? = some (.cells cs el (0, 0)) → ∃ cs' el', w'.heap[c]? = some (.cells cs' el' (0, 0)) ∧ cs'.size = cs.size) :
    Inv G S (A.put i .dead) w' ∧ Fr S A w S (A.put i .dead) w' := by
  have liveSub : ∀ {j}, (A.put i .dead).live j → A.live j ∧ j ≠ i := by
    rintro j ⟨x, hx, hd⟩
    simp only [AH.put, List.getElem?_set] at hx
    by_cases hij : i = j
    · subst hij
      simp only [↓reduceIte] at hx
      split at hx
      · cases hx; exact absurd rfl hd
      · cases hx
    · simp only [if_neg hij] at hx
      exact ⟨⟨x, hx, hd⟩, fun e => hij e.symm⟩
  have cellKeep : ∀ b o' v, b ≠ c → w.cell? ⟨b, o', none⟩ = some v → w'.cell? ⟨b, o', none⟩ = some v := by
    intro b o' v hb hv
    unfold World.cell? at hv ⊢
    simp only at hv ⊢
    rw [hk b hb]; exact hv
  constructor
  · refine ⟨?_, ?_, ?_, ?_, h.fam, ?_, h.famInj, ?_, h.tlout, h.glob, ?_⟩
    · intro b o' v hv
      refine cellKeep b o' v ?_ (h.im b o' v hv)
      rintro rfl
      rw [h.free i b o' hi hc] at hv; cases hv
    · intro j y hy hd
      obtain ⟨hj, hne⟩ := liveSub ⟨y, hy, hd⟩
      simp only [AH.put, List.getElem?_set] at hy
      rw [if_neg (fun e => hne e.symm)] at hy
      obtain ⟨d, o', h1, h2, h3⟩ := h.blk j y hy hd
      refine ⟨d, o', h1, ?_, h3⟩
      rw [hk d]; exact h2
      rintro rfl
      exact hne (h.inj j i d hj hi h1 hc)
    · exact fun j k d hj hk' => h.inj j k d (liveSub hj).1 (liveSub hk').1
    · exact fun j d o' hj => h.free j d o' (liveSub hj).1
    · intro φ b ec room he
      obtain ⟨⟨c', el, h1, h2⟩, h3, h4⟩ := h.room φ b ec room he
      refine ⟨⟨c', el, ?_, h2⟩, h3, fun j hj => h4 j (liveSub hj).1⟩
      rw [hk b]; exact h1
      rintro rfl
      exact h4 i hi hc
    · intro j hj
      simp only [AH.put, List.length_set] at hj
      exact h.ρout j hj
    · intro d n hn
      obtain ⟨cs, el, h1, h2⟩ := h.rm d n hn
      by_cases hdc : d = c
      · subst hdc
        obtain ⟨cs', el', h3, h4⟩ := hsz cs el h1
        exact ⟨cs', el', h3, h4.trans h2⟩
      · exact ⟨cs, el, by rw [hk d hdc]; exact h1, h2⟩
  · refine ⟨.refl _, Nat.le_of_eq hs.symm, hos, htape, hout, ?_, ?_, fun _ _ _ h => .inl h⟩
    · intro b hb hn
      refine hk b ?_
      rintro rfl
      exact hn (.inl ⟨i, hi, hc⟩)
    · intro b ho _
      rcases ho with ⟨j, hj, hr'⟩ | ho
      · exact .inl ⟨j, (liveSub hj).1, hr'⟩
      · exact .inr ho


/-- Cells that change no more, in a new block; nothing grows there. -/
def Sh.fix (S : Sh) (b : Nat) (vs : List Value) : Sh := { S with im := fun b' o => if b' = b then vs[o]? else S.im b' o }

theorem Inv.fix {G : Gl} {S : Sh} {A : AH} {w : World} (h : Inv G S A w) (vs rest : List Value) (el : TypeId) (f : Nat × Nat) :
    Inv G (S.fix w.heap.size vs) A { w with heap := w.heap.push (.cells ⟨vs ++ rest⟩ el f) } ∧ Fr S A w (S.fix w.heap.size vs) A { w with heap := w.heap.push (.cells ⟨vs ++ rest⟩ el f) } := by
  have hle : S.le (S.fix w.heap.size vs) := by
    refine ⟨rfl, fun _ _ h => h, ?_, fun _ _ _ h => h, fun _ _ h => h⟩
    intro b o v hv
    have := h.imlt hv
    simp only [Sh.fix]; rw [if_neg (by omega)]; exact hv
  constructor
  · refine ⟨?_, ?_, h.inj, ?_, h.fam, ?_, h.famInj, h.ρout, h.tlout, ?_, fun c n hn => let ⟨cs, el, h1, h2⟩ := h.rm c n hn; ⟨cs, el, push_old h1, h2⟩⟩
    · intro b o v hv
      simp only [Sh.fix] at hv
      by_cases hb : b = w.heap.size
      · subst hb
        rw [if_pos rfl] at hv
        have hlt := (List.getElem?_eq_some_iff.1 hv).1
        simp only [World.cell?, Array.getElem?_push, if_pos]
        simp [List.getElem?_append_left hlt, hv]
      · rw [if_neg hb] at hv
        exact cell?_push (h.im b o v hv)
    · intro i y hy hd
      obtain ⟨c, o, h1, h2, h3⟩ := h.blk i y hy hd
      exact ⟨c, o, h1, push_old h2, h3.mono hle⟩
    · intro i c o hi hc
      have := h.lt (.inl ⟨i, hi, hc⟩)
      simp only [Sh.fix]; rw [if_neg (by omega)]; exact h.free i c o hi hc
    · intro φ b ec room he
      obtain ⟨⟨c, el', h1, h2⟩, h3, h4⟩ := h.room φ b ec room he
      have := (Array.getElem?_eq_some_iff.1 h1).1
      refine ⟨⟨c, el', push_old h1, h2⟩, fun o ho => ?_, h4⟩
      simp only [Sh.fix]; rw [if_neg (by omega)]; exact h3 o ho
    · exact fun g o x hg => let ⟨v, h1, h2⟩ := h.glob g o x hg; ⟨v, hle.im _ _ _ h1, h2.mono hle.bare⟩
  · refine ⟨hle, by simp, rfl, rfl, rfl, ?_, fun b ho _ => ho, ?_⟩
    · intro b hb _
      simp only [Array.getElem?_push, if_neg (Nat.ne_of_lt hb)]
    · intro b o v hv
      simp only [Sh.fix] at hv
      by_cases hb : b = w.heap.size
      · exact .inr (.inl (by omega))
      · rw [if_neg hb] at hv; exact .inl hv

/-- A BLOCK TAKES ANOTHER ONE's CELLS OVER; the other one is given up. -/
theorem Inv.move {G : Gl} {S : Sh} {A : AH} {w : World} (h : Inv G S A w) {i c : Nat} (hi : A.live i) (hc : S.ρ i = some c) {x : ABlk} {o : Obj} (hr : BRel (S.at A.blks.length c) x o)
    {w' : World} (hw : w'.heap[c]? = some o) (hk : ∀ b, b ≠ c → w'.heap[b]? = w.heap[b]?) (hs : w'.heap.size = w.heap.size) (hos : w'.os = w.os) (htape : w'.tape = w.tape) (hout : w'.output = w.output)
    (hsz : ∀ cs el, w.heap[c]? = some (.cells cs el (0, 0)) → ∃ cs' el', o = .cells cs' el' (0, 0) ∧ cs'.size = cs.size) :
    Inv G (S.at A.blks.length c) ((A.put i .dead).push x) w' ∧ Fr S A w (S.at A.blks.length c) ((A.put i .dead).push x) w' := by
  obtain ⟨k1, k2⟩ := h.kill hi hc hk hs hos htape hout (fun cs el hh => let ⟨cs', el', h1, h2⟩ := hsz cs el hh; ⟨cs', el', by rw [hw, h1], h2⟩)
  have hlen : (A.put i .dead).blks.length = A.blks.length := by simp [AH.put]
  have hnone := h.ρout A.blks.length (Nat.le_refl _)
  have hle := Sh.le_at hnone c
  have notOwn : ∀ j, (A.put i .dead).live j → S.ρ j ≠ some c := by
    intro j hj hjc
    obtain ⟨y, hy, hd⟩ := hj
    simp only [AH.put, List.getElem?_set] at hy
    by_cases hij : i = j
    · subst hij
      simp only [↓reduceIte] at hy
      split at hy
      · cases hy; exact absurd rfl hd
      · cases hy
    · rw [if_neg hij] at hy
      exact hij (h.inj i j c hi ⟨y, hy, hd⟩ hc hjc)
  have liveNew : ∀ {j}, ((A.put i .dead).push x).live j → (A.put i .dead).live j ∨ j = A.blks.length := by
    rintro j ⟨y, hy, hd⟩
    simp only [AH.push] at hy
    rcases Nat.lt_trichotomy j A.blks.length with hlt | heq | hgt
    · rw [List.getElem?_append_left (by omega)] at hy; exact .inl ⟨y, hy, hd⟩
    · exact .inr heq
    · rw [List.getElem?_append_right (by omega), List.getElem?_eq_none (by simp; omega)] at hy; cases hy
  have ρold : ∀ {j}, (A.put i .dead).live j → (S.at A.blks.length c).ρ j = S.ρ j := fun {j} hj => by
    have := live_lt hj
    simp only [Sh.at]; rw [if_neg (by omega)]
  constructor
  · refine ⟨k1.im, ?_, ?_, ?_, k1.fam, ?_, k1.famInj, ?_, k1.tlout, ?_, k1.rm⟩
    · intro j y hy hd
      rcases liveNew ⟨y, hy, hd⟩ with hj | rfl
      · have hlt := live_lt hj
        simp only [AH.push] at hy
        rw [List.getElem?_append_left (by omega)] at hy
        obtain ⟨d, o', h1, h2, h3⟩ := k1.blk j y hy hd
        exact ⟨d, o', by rw [ρold hj]; exact h1, h2, h3.mono hle⟩
      · simp only [AH.push] at hy
        rw [List.getElem?_append_right (by omega)] at hy
        simp [hlen] at hy; subst hy
        exact ⟨c, o, by simp [Sh.at], hw, hr⟩
    · intro j k d hj hk' h1 h2
      rcases liveNew hj with hj' | rfl <;> rcases liveNew hk' with hk'' | rfl
      · rw [ρold hj'] at h1; rw [ρold hk''] at h2; exact k1.inj j k d hj' hk'' h1 h2
      · rw [ρold hj'] at h1
        simp [Sh.at] at h2; subst h2
        exact absurd h1 (notOwn j hj')
      · rw [ρold hk''] at h2
        simp [Sh.at] at h1; subst h1
        exact absurd h2 (notOwn k hk'')
      · rfl
    · intro j d o' hj hd
      rcases liveNew hj with hj' | rfl
      · rw [ρold hj'] at hd; exact k1.free j d o' hj' hd
      · simp [Sh.at] at hd; subst hd
        exact h.free i c o' hi hc
    · intro φ b ec room he
      obtain ⟨h1, h2, h3⟩ := k1.room φ b ec room he
      refine ⟨h1, h2, fun j hj => ?_⟩
      rcases liveNew hj with hj' | rfl
      · rw [ρold hj']; exact h3 j hj'
      · simp only [Sh.at, ↓reduceIte]
        intro hcb
        cases hcb
        obtain ⟨_, _, h4⟩ := h.room φ c ec room he
        exact h4 i hi hc
    · intro j hj
      simp only [AH.push, List.length_append, List.length_cons, List.length_nil, hlen] at hj
      simp only [Sh.at]; rw [if_neg (by omega)]; exact h.ρout j (by omega)
    · exact fun g o x hg => let ⟨v, h1, h2⟩ := k1.glob g o x hg; ⟨v, h1, h2.mono hle.bare⟩
  · refine ⟨hle, k2.size, k2.os, k2.tape, k2.output, k2.keep, ?_, fun _ _ _ h => .inl h⟩
    intro b ho hb
    rcases ho with ⟨j, hj, hr'⟩ | ho
    · rcases liveNew hj with hj' | rfl
      · rw [ρold hj'] at hr'
        exact k2.own b (.inl ⟨j, hj', hr'⟩) hb
      · simp [Sh.at] at hr'; subst hr'
        exact .inl ⟨i, hi, hc⟩
    · exact .inr ho

/-- A row, as a slice of its cells. -/
def AV.weak : AV → AV
  | .row b len _ => .msl b 0 len
  | x => x

theorem VRel.weak {S : Sh} {x : AV} {v : Value} (h : VRel S x v) : VRel S x.weak v := by
  cases h with
  | row b l sz c cap room hr h0 hl hm hc => exact .msl b 0 l c cap hr hl
  | top => exact .top _
  | bool b => exact .bool b
  | int k n => exact .int k n
  | str s => exact .str s
  | nilp => exact .nilp
  | ptr b o c hr => exact .ptr b o c hr
  | gptr g o => exact .gptr g o
  | iptr v a o hc => exact .iptr v a o hc
  | islNil f o => exact .islNil f o
  | isl f off xs sz a o cap h0 hsz hc hl hf => exact .isl f off xs sz a o cap h0 hsz hc hl hf
  | msl b o l c cap hr hl => exact .msl b o l c cap hr hl
  | map b c hr => exact .map b c hr
  | nilm => exact .nilm
  | fn f g xs ys us vs hf h1 h2 => exact .fn f g xs ys us vs hf h1 h2
  | nilf => exact .nilf
  | iface t x v hv => exact .iface t x v hv
  | nili => exact .nili
  | agg xs vs hl => exact .agg xs vs hl
  | tup xs vs hl => exact .tup xs vs hl
  | sym i v ho hs hv => exact .sym i v ho hs hv

section
variable (P : Program)

/-- What is put behind a row that is written. -/
def aAppendR (A : AH) (argTypes : Array TypeId) (s x : AV) : Option (AV × AH) :=
  match aElemOf P argTypes, aLen x with
  | some (e, sz, _, bytes), some n =>
    match aElems P A e sz n x with
    | some ys =>
      match s with
      | .isl true _ _ [] =>
        if n = 0 then none else
        if n * bytes ≤ 2 ^ 45 ∧ n ≤ 2 ^ 60 ∧ (flat ys).all AV.one then some (.row A.blks.length n sz, A.push (.cells (flat ys) e)) else none
      | .row b len sz' =>
        match A.blks[b]? with
        | some (.cells cs el) =>
          if n = 0 then some (.row b len sz', A) else
          if (len + n) * bytes ≤ 2 ^ 45 ∧ len + n ≤ 2 ^ 60 ∧ (flat ys).all AV.one ∧ sz' = sz ∧ el = e ∧ len * sz ≤ cs.length then some (.row A.blks.length (len + n) sz, (A.put b .dead).push (.cells (cs.take (len * sz) ++ flat ys) e)) else none
        | _ => none
      | _ => none
    | none => none
  | _, _ => none

variable {P}

theorem over_tail {α : Type} : ∀ (vs l r : List α), vs.length ≤ r.length → over (l ++ r) l.length vs = l ++ vs ++ r.drop vs.length
  | [], l, r, _ => by simp [over]
  | v :: vs, l, [], h => by simp at h
  | v :: vs, l, x :: r, h => by
    simp only [over]
    have e : (l ++ x :: r).set l.length v = (l ++ [v]) ++ r := by simp
    rw [e]
    have := over_tail vs (l ++ [v]) r (by simpa using h)
    rw [List.length_append] at this
    simp only [List.length_cons, List.length_nil] at this
    rw [this]
    simp

theorem aAppendR_ok {G : Gl} {S : Sh} {A A' : AH} {w : World} (h : Inv G S A w) {argTypes : Array TypeId} {ty : TypeId} {s x y : AV} {u v : Value} (hx : aAppendR P A argTypes s x = some (y, A')) (hu : VRel S s u) (hv : VRel S x v) :
    VOk P G S A w (Builtin.append_ argTypes ty #[u, v]) y A' := by
  unfold aAppendR at hx
  split at hx
  · rename_i e sz z bytes n hE hn
    obtain ⟨t, t', d, i, h0, h1, hd, hd', hne, hi, hz, rfl, rfl, hzl, hzt, hsz, hby⟩ := aElemOf_ok hE
    split at hx
    · rename_i ys hys
      have hlen := aLen_ok (P := P) hn hv w
      obtain ⟨vs, f1, f2, f3, f4⟩ := aElems_ok h hsz hys hv ⟨n, hn, Nat.le_refl _⟩
      have hdrew := (h.drew (w.drawn + 1)).1
      have hdfr := (h.drew (w.drawn + 1)).2
      obtain ⟨vs', f1', f2', _, _⟩ := aElems_ok (w := w.drew) hdrew hsz hys hv ⟨n, hn, Nat.le_refl _⟩
      obtain ⟨zv, hz1, hz2⟩ := run_zeroValue hz w.drew
      have hzr := ofVs_rel S zv
      rw [← hz2] at hzr
      have hzs : zv.cells.size = i.size := by
        have hzt' : z ≠ .top := by rintro rfl; simp [AV.isTop] at hzt
        have := (hzr.cells hzt').length; simp at this; omega
      have hvl := f2.length
      rw [flat_length f3, f4] at hvl
      have hvl' := f2'.length
      rw [flat_length f3, f4] at hvl'
      split at hx
      · split at hx
        · cases hx
        · rename_i hn0
          split at hx <;> cases hx
          rename_i hc
          obtain ⟨c1, c2, c3⟩ := hc
          cases hu
          obtain ⟨newCap, g1, g2⟩ := run_append_out (ty := ty) (base := none) (sLen := 0) (sCap := 0) (os := []) h0 h1 hd hd' hne hi hlen (by omega) (by omega) hby (by simpa using c1) (by simp [Builtin.firstCells]) f1' hz1
          simp only [List.nil_append, Nat.zero_add] at g1 g2
          have hle := Sh.le_at (hdrew.ρout _ (Nat.le_refl _)) w.drew.heap.size
          obtain ⟨i1, i2⟩ := hdrew.push (x := .cells (flat ys) e) (o := .cells ⟨vs' ++ (Builtin.zeroCells zv.cells (newCap - n)).toList⟩ e (0, 0)) (by simp) (.cells _ _ _ _ (f2'.mono hle))
          obtain ⟨j1, j2⟩ := i1.know (c := w.drew.heap.size) (cs := ⟨vs' ++ (Builtin.zeroCells zv.cells (newCap - n)).toList⟩) (el := e) (by simp)
          refine ⟨_, _, _, g2, j1, hdfr.trans (i2.trans j2), ?_⟩
          refine .row _ _ _ w.drew.heap.size newCap (vs' ++ (Builtin.zeroCells zv.cells (newCap - n)).toList).length (by simp [Sh.at, Sh.know]) hsz g1 (by simp [Sh.know]) ?_
          rw [List.length_append, zeroCells_length, hzs, ← hvl', ← Nat.add_mul]
          exact Nat.mul_le_mul_right _ (by omega)
      · rename_i b len sz'
        split at hx
        · rename_i cs el hb
          cases hu with
          | row _ _ _ c cap room hc q0 hl hm hcap =>
          split at hx
          · rename_i hn0
            cases hx
            subst hn0
            have hvs : vs = [] := List.eq_nil_of_length_eq_zero (by omega)
            subst hvs
            exact VOk.same h (run_append_in (base := some ⟨c, 0, none⟩) h0 h1 hd hd' hne hi hlen (by omega) f1 (by simp [storeCells])) (.row _ _ _ c cap room hc q0 hl hm hcap)
          · rename_i hn0
            split at hx <;> cases hx
            rename_i hcd
            obtain ⟨c1, c2, c3, rfl, rfl, c4⟩ := hcd
            obtain ⟨c', o, s1, s2, s3⟩ := h.blk b _ hb (by simp)
            obtain rfl := Option.some.inj (s1.symm.trans hc)
            cases s3 with
            | cells _ _ us rest hul =>
            obtain ⟨us, rest, hul, s2, c4⟩ : ∃ us' rest' : List Value, LRel S (cs.take (len * i.size)) us' ∧ w.heap[c']? = some (.cells ⟨us' ++ rest'⟩ el (0, 0)) ∧ (cs.take (len * i.size)).length = len * i.size :=
              ⟨us.take (len * i.size), us.drop (len * i.size) ++ rest, hul.take _, by rw [← List.append_assoc, List.take_append_drop]; exact s2, by rw [List.length_take]; omega⟩
            generalize cs.take (len * i.size) = cs at *
            obtain ⟨cs0, el0, k1, k2⟩ := h.rm _ _ hm
            rw [s2] at k1
            simp only [Option.some.injEq, Obj.cells.injEq] at k1
            obtain ⟨rfl, rfl, _⟩ := k1
            have hull := hul.length
            simp only [List.size_toArray, List.length_append] at k2
            by_cases hfit : len + n ≤ cap
            · have hroom : len * i.size + n * i.size ≤ us.length + rest.length := by
                rw [← Nat.add_mul, k2]
                exact Nat.le_trans (Nat.mul_le_mul_right _ hfit) hcap
              obtain ⟨w', r1, r2, r3, r4, r5, r6, r7⟩ := run_storeCells (P := P) (el := el) (c := c') vs w (us ++ rest) (len * i.size) 0 s2 (by simp; omega) (f2.ones c3)
              rw [Nat.add_zero, show len * i.size = us.length by omega, over_tail _ _ _ (by omega)] at r2
              have hle := Sh.le_at (h.ρout _ (Nat.le_refl _)) c'
              obtain ⟨i1, i2⟩ := h.move (x := .cells (cs ++ flat ys) el) ⟨_, hb, by simp⟩ hc (.cells _ _ (us ++ vs) (rest.drop vs.length) ((hul.append f2).mono hle)) r2 r3 r4 r5 r6 r7 (fun cs' el' hh => by
                rw [s2] at hh; cases hh; exact ⟨_, _, rfl, by simp; omega⟩)
              refine ⟨_, w', _, run_append_in (base := some ⟨c', 0, none⟩) h0 h1 hd hd' hne hi hlen hfit f1 (by simpa [add_mk] using r1), i1, i2, ?_⟩
              exact .row _ _ _ c' cap room (by simp [Sh.at]) hsz hfit hm hcap
            · have ho : (Builtin.firstCells i.size len (.slice (some ⟨c', 0, none⟩) len cap)).run P w.drew = .ok ⟨us⟩ w.drew := by
                have s2' : w.drew.heap[c']? = some (.cells ⟨us ++ rest⟩ el (0, 0)) := s2
                simp [Builtin.firstCells, run_loadCells (P := P) (w := w.drew) (b := c') (o := 0) (n := len * i.size) (vs := us) (by omega) (fun j v hj => by
                  rw [cell_of_heap s2', Nat.zero_add]
                  have := (List.getElem?_eq_some_iff.1 hj).1
                  simp only [List.getElem?_toArray]
                  rw [List.getElem?_append_left this]; exact hj)]
              obtain ⟨newCap, g1, g2⟩ := run_append_out (ty := ty) (base := some ⟨c', 0, none⟩) h0 h1 hd hd' hne hi hlen (by omega) c2 hby c1 ho f1' hz1
              obtain ⟨k3, k4⟩ := hdrew.kill ⟨_, hb, by simp⟩ hc (w' := w.drew) (fun _ _ => rfl) rfl rfl rfl rfl (fun cs el hh => ⟨cs, el, hh, rfl⟩)
              have hlen' : (A.put b .dead).blks.length = A.blks.length := by simp [AH.put]
              have hle := Sh.le_at (k3.ρout _ (Nat.le_refl _)) w.drew.heap.size
              obtain ⟨i1, i2⟩ := k3.push (x := .cells (cs ++ flat ys) el) (o := .cells ⟨us ++ vs' ++ (Builtin.zeroCells zv.cells (newCap - (len + n))).toList⟩ el (0, 0)) (by simp) (.cells _ _ (us ++ vs') _ ((hul.append f2').mono hle))
              obtain ⟨j1, j2⟩ := i1.know (c := w.drew.heap.size) (cs := ⟨us ++ vs' ++ (Builtin.zeroCells zv.cells (newCap - (len + n))).toList⟩) (el := el) (by exact Array.getElem?_push_size)
              refine ⟨_, _, _, g2, j1, hdfr.trans (k4.trans (i2.trans j2)), ?_⟩
              refine .row _ _ _ w.drew.heap.size newCap (us ++ vs' ++ (Builtin.zeroCells zv.cells (newCap - (len + n))).toList).length (by simp [Sh.at, Sh.know, hlen']) hsz g1 (by simp [Sh.know]) ?_
              rw [List.length_append, List.length_append, zeroCells_length, hzs, ← hvl', show us.length = len * i.size by omega, ← Nat.add_mul, ← Nat.add_mul]
              exact Nat.mul_le_mul_right _ (by omega)
        · cases hx
      · cases hx
    · cases hx
  · cases hx

end
end Go.Am
