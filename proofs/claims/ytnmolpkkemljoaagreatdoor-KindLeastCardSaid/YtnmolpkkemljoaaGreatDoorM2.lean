/-
  What the proof is built of: A region that draws its order: what its one order comes to is what every order comes to. A region that draws its order, in which the last two that turn the heap are stores to two blocks: they may change places. A region that draws its order, in which nothing but new blocks turns the heap: each has a place of its own. The whole machine: regions that draw their order, and calls that are handed values alone. From a closed run to the call it says: a function without parameters, and what it was handed is kept. Conditions: none.
-/
import Derived.Test.YtnmolpkkemljoaaGreatDoorM1
import Derived.Below
section
namespace Go.Am
open Go
section
variable {P : Program} {G : Gl} {pf : PF} {m : Mc} {rd : Option Nat} {ops : Array Oper}
theorem drawS_spec (h : drawS ops = true) : (∀ j o, ops[j]? = some o → ∀ e ∈ o.after, Region.binds .any e = true → e.on < j) ∧
  (∀ i j oi t, ops[i]? = some oi → (ops[j]?).bind (·.dst) = some t → j ≠ i → t ∈ namesOf ops oi → bef ops i j = true ∨ bef ops j i = true) := by
 unfold drawS at h
 rw [List.all_eq_true] at h
 constructor
 ·intro j o ho e he hb
  have hj := (Array.getElem?_eq_some_iff.1 ho).1
  have := h j (List.mem_range.2 hj)
  simp only [ho, Bool.and_eq_true] at this
  have := List.all_eq_true.1 this.1 e (by simpa using he)
  simp only [hb, Bool.not_true, Bool.false_or, decide_eq_true_eq] at this
  exact this
 ·intro i j oi t hi hj hne ht
  have hil := (Array.getElem?_eq_some_iff.1 hi).1
  have hjl : j < ops.size := by
   rcases Nat.lt_or_ge j ops.size with h' | h'
   ·exact h'
   ·rw [Array.getElem?_eq_none h'] at hj; cases hj
  have := h i (List.mem_range.2 hil)
  simp only [hi, Bool.and_eq_true] at this
  have := List.all_eq_true.1 this.2 j (List.mem_range.2 hjl)
  simp only [hj, Bool.or_eq_true, beq_iff_eq, Bool.not_eq_true'] at this
  rcases this with ((h1 | h1) | h1) | h1
  ·exact absurd h1 hne
  ·exact absurd ht (by simpa using h1)
  ·exact .inl h1
  ·exact .inr h1
theorem drawI_spec {louds : List Bool} (h : drawI ops (idxs louds 0) = true) {i j : Nat} (hli : louds[i]? = some true) (hlj : louds[j]? = some true) (hne : j ≠ i) : bef ops i j = true ∨ bef ops j i = true := by
 unfold drawI at h
 have mem : ∀ k, louds[k]? = some true → k ∈ idxs louds 0 := fun k hk => by simpa using idxs_mem louds 0 k hk
 have h1 := List.all_eq_true.1 h i (mem i hli)
 have h2 := List.all_eq_true.1 h1 j (mem j hlj)
 simp only [Bool.or_eq_true, beq_iff_eq] at h2
 rcases h2 with (h2 | h2) | h2
 ·exact absurd h2 hne
 ·exact .inl h2
 ·exact .inr h2
theorem zipR_get : ∀ (l : List Oper) (rs : List (AV × Bool)) (i : Nat) (o : Oper) (v : AV) (b : Bool), l[i]? = some o → rs[i]? = some (v, b) → (zipR l rs)[i]? = some (o.dst, v)
 | [], _, _, _, _, _, h, _ => by simp at h
 | _ :: _, [], _, _, _, _, _, h => by simp at h
 | o :: l, (v, b) :: rs, 0, o', v', b', h, h' => by
  simp at h h'
  obtain ⟨rfl, rfl⟩ := h'
  subst h
  rfl
 | o :: l, (v, b) :: rs, i + 1, o', v', b', h, h' => by
  simp only [zipR, List.getElem?_cons_succ]
  exact zipR_get l rs i o' v' b' (by simpa using h) (by simpa using h')
theorem zipR_inv : ∀ (l : List Oper) (rs : List (AV × Bool)) (j : Nat) (p : Option Tmp × AV), (zipR l rs)[j]? = some p → ∃ o, l[j]? = some o ∧ o.dst = p.1
 | [], _, _, _, h => by simp [zipR] at h
 | _ :: _, [], _, _, h => by simp [zipR] at h
 | o :: l, (v, b) :: rs, 0, p, h => by
  simp [zipR] at h; subst h
  exact ⟨o, rfl, rfl⟩
 | o :: l, (v, b) :: rs, j + 1, p, h => by
  simp only [zipR, List.getElem?_cons_succ] at h ⊢
  exact zipR_inv l rs j p h
theorem isFloat_spec {p i : Nat} {o : Oper} (h : isFloat ops p i o = true) : ∃ t d, o.guard = none ∧ o.op = .alloc t ∧ o.dst = some d ∧ ∀ j oj, j < p → j ≠ i → ops[j]? = some oj → d ∉ namesOf ops oj := by
 unfold isFloat at h
 split at h
 ·rename_i t d hg ho hd
  refine ⟨t, d, hg, ho, hd, fun j oj hj hne hoj hmem => ?_⟩
  have := List.all_eq_true.1 h j (List.mem_range.2 hj)
  simp only [hoj, Bool.or_eq_true, beq_iff_eq, Bool.not_eq_true'] at this
  rcases this with h1 | h1
  ·exact hne h1
  ·simp [hmem] at h1
 ·cases h
theorem tail_spec : ∀ (n : Nat), tailStart ops n ≤ n ∧ ∀ j, tailStart ops n ≤ j → j < n → ∀ i, i < j → bef ops j i = true
 | 0 => ⟨Nat.le_refl _, fun j _ h => by omega⟩
 | n + 1 => by
  simp only [tailStart]
  obtain ⟨h1, h2⟩ := tail_spec n
  split
  ·rename_i hm
   refine ⟨by omega, fun j hj hlt i hi => ?_⟩
   by_cases hjn : j = n
   ·subst hjn
    rw [bef_def]
    rw [beq_iff_eq] at hm
    rw [hm, Nat.testBit_two_pow_sub_one]
    simpa using hi
   ·exact h2 j hj (by omega) i hi
  ·exact ⟨Nat.le_refl _, fun j hj hlt => by omega⟩
theorem put_same {b : Act} {d : Tmp} {v : Value} (h : d < b.tmps.size → b.tmps[d]? = some v) : b.put (some d) v = b := by
 have : b.tmps.setIfInBounds d v = b.tmps := by
  apply Array.ext
  ·simp
  ·intro i h1 h2
   rw [Array.getElem_setIfInBounds (by simpa using h1)]
   split
   ·rename_i hdi
    subst hdi
    have := h h2
    rw [Array.getElem?_eq_getElem h2] at this
    exact (Option.some.inj this).symm
   ·rfl
 show ({ b with tmps := b.tmps.setIfInBounds d v } : Act) = b
 rw [this]
theorem put_other {b : Act} {d : Tmp} {dst : Option Tmp} {v : Value} (h : dst ≠ some d) : (b.put dst v).tmps[d]? = b.tmps[d]? := by
 cases dst with
 | none => rfl
 | some t =>
  show (b.tmps.setIfInBounds t v)[d]? = b.tmps[d]?
  rw [Array.getElem?_setIfInBounds, if_neg (fun e => h (by rw [e]))]
theorem put_size {b : Act} {dst : Option Tmp} {v : Value} : (b.put dst v).tmps.size = b.tmps.size := by
 cases dst with
 | none => rfl
 | some t => show (b.tmps.setIfInBounds t v).size = _; simp
structure Flo (P : Program) (ops : Array Oper) (p : Nat) (sz0 : Nat) (D : Nat → Bool) (b : Act) (w : World) (S : Sh) (H : AH) (cf : Nat → Nat) : Prop where
 at_ : ∀ i o t d, i < p → ops[i]? = some o → isFloat ops p i o = true → D i = true → o.op = .alloc t → o.dst = some d →
  (d < b.tmps.size → b.tmps[d]? = some (.pointer (some ⟨cf i, 0, none⟩))) ∧ sz0 ≤ cf i ∧ ¬ Owned S H (cf i) ∧ (∀ k, S.im (cf i) k = none) ∧ ∃ z x, tZero P t = some x ∧ x = ofVs z ∧ w.heap[cf i]? = some (.cells ⟨z.cells.toList⟩ t (0, 0))
 inj : ∀ i j oi oj, i < p → j < p → ops[i]? = some oi → ops[j]? = some oj → isFloat ops p i oi = true → isFloat ops p j oj = true → D i = true → D j = true → i ≠ j → cf i ≠ cf j
theorem Flo.keep {p sz0 : Nat} {D : Nat → Bool} {b : Act} {w w' : World} {S S' : Sh} {H H' : AH} {cf : Nat → Nat} (h : Flo P ops p sz0 D b w S H cf) (hf : Fr S H w S' H' w') {i : Nat} {o : Oper} (hi : ops[i]? = some o) (hip : i < p) (hDi : D i = false) (hnf : isFloat ops p i o = false) (u : Value) :
  Flo P ops p sz0 (addD D i) (b.put o.dst u) w' S' H' cf := by
 constructor
 ·intro j oj t d hj hoj hfl hD hop hdst
  simp only [addD, Bool.or_eq_true, beq_iff_eq] at hD
  rcases hD with hD | rfl
  ·obtain ⟨a1, a2, a3, a4, z, x, a5, a6, a7⟩ := h.at_ j oj t d hj hoj hfl hD hop hdst
   obtain ⟨t', d', _, _, hd', hnm⟩ := isFloat_spec hfl
   rw [hdst] at hd'; cases hd'
   have hji : i ≠ j := by rintro rfl; rw [hDi] at hD; cases hD
   have hne : o.dst ≠ some d := fun e => hnm i o hip hji hi (by unfold namesOf; exact List.mem_append_left _ (List.mem_append_left _ (by rw [e]; simp)))
   have hlt := (Array.getElem?_eq_some_iff.1 a7).1
   refine ⟨fun hs => ?_, a2, fun ho => a3 (hf.own _ ho hlt), fun k => ?_, z, x, a5, a6, ?_⟩
   ·rw [put_size] at hs
    rw [put_other hne]; exact a1 hs
   ·cases hk : S'.im (cf j) k with
    | none => rfl
    | some v =>
     rcases hf.imNew _ _ _ hk with h1 | h1 | h1
     ·rw [a4] at h1; cases h1
     ·omega
     ·exact absurd h1 a3
   ·rw [hf.keep _ hlt a3]; exact a7
  ·rw [hi] at hoj; cases hoj
   rw [hnf] at hfl; cases hfl
 ·intro j k oj ok hj hk hoj hok hfj hfk hDj hDk hne
  simp only [addD, Bool.or_eq_true, beq_iff_eq] at hDj hDk
  rcases hDj with hDj | rfl
  ·rcases hDk with hDk | rfl
   ·exact h.inj j k oj ok hj hk hoj hok hfj hfk hDj hDk hne
   ·rw [hi] at hok; cases hok
    rw [hnf] at hfk; cases hfk
  ·rw [hi] at hoj; cases hoj
   rw [hnf] at hfj; cases hfj
theorem run_alloc {t : TypeId} {x : AV} (hz : tZero P t = some x) (w : World) : ∃ z, x = ofVs z ∧ (Instr.alloc t true (.tuple #[])).run P w = .ok (.pointer (some ⟨w.heap.size, 0, none⟩)) { w with heap := w.heap.push (.cells ⟨z.cells.toList⟩ t (0, 0)) } := by
 obtain ⟨z, h1, h2⟩ := run_zeroValue hz w
 have hz' : (zeroValue t).run P w = .ok z w := h1
 exact ⟨z, h2, by simp [Instr.alloc, hz', newVar, newRow]⟩
theorem Flo.lay {p sz0 : Nat} {D : Nat → Bool} {b : Act} {w : World} {S : Sh} {H : AH} {cf : Nat → Nat} (h : Flo P ops p sz0 D b w S H cf) {S0 : Sh} {A0 : AH} {w0 : World} (hsz : w0.heap.size = sz0) (hinv : Inv G S H w) (hfr : Fr S0 A0 w0 S H w)
  {i : Nat} {o : Oper} (hi : ops[i]? = some o) (hip : i < p) (hDi : D i = false) (hfl : isFloat ops p i o = true) {t : TypeId} (hop : o.op = .alloc t) {x : AV} (hz : tZero P t = some x)
  {z : Value} (hxz : x = ofVs z) :
  Flo P ops p sz0 (addD D i) (b.put o.dst (.pointer (some ⟨w.heap.size, 0, none⟩))) { w with heap := w.heap.push (.cells ⟨z.cells.toList⟩ t (0, 0)) } S H (fun j => if j = i then w.heap.size else cf j) := by
 have hnot : ¬ Owned S H w.heap.size := fun ho => absurd (hinv.lt ho) (by omega)
 have himn : ∀ k, S.im w.heap.size k = none := by
  intro k
  cases hk : S.im w.heap.size k with
  | none => rfl
  | some v => exact absurd (hinv.imlt hk) (by omega)
 have hlt : ∀ j oj, j < p → ops[j]? = some oj → isFloat ops p j oj = true → D j = true → cf j < w.heap.size := by
  intro j oj hj hoj hfj hDj
  obtain ⟨t', d', _, hop', hd', _⟩ := isFloat_spec hfj
  obtain ⟨_, _, _, _, z', x', _, _, a7⟩ := h.at_ j oj t' d' hj hoj hfj hDj hop' hd'
  exact (Array.getElem?_eq_some_iff.1 a7).1
 constructor
 ·intro j oj t' d hj hoj hfj hD hop' hdst
  simp only [addD, Bool.or_eq_true, beq_iff_eq] at hD
  by_cases hji : j = i
  ·subst hji
   rw [hi] at hoj; cases hoj
   rw [hop] at hop'; cases hop'
   simp only [↓reduceIte]
   refine ⟨fun hs => ?_, by rw [← hsz]; exact hfr.size, hnot, himn, z, x, hz, hxz, by simp⟩
   rw [put_size] at hs
   rw [hdst]
   show (b.tmps.setIfInBounds d _)[d]? = _
   rw [Array.getElem?_setIfInBounds, if_pos rfl, if_pos hs]
  ·rcases hD with hD | hD
   ·simp only [if_neg hji]
    obtain ⟨a1, a2, a3, a4, z', x', a5, a6, a7⟩ := h.at_ j oj t' d hj hoj hfj hD hop' hdst
    obtain ⟨_, d', _, _, hd', hnm⟩ := isFloat_spec hfj
    rw [hdst] at hd'; cases hd'
    have hne : o.dst ≠ some d := fun e => hnm i o hip (Ne.symm hji) hi (by unfold namesOf; exact List.mem_append_left _ (List.mem_append_left _ (by rw [e]; simp)))
    refine ⟨fun hs => ?_, a2, a3, a4, z', x', a5, a6, push_old a7⟩
    rw [put_size] at hs
    rw [put_other hne]; exact a1 hs
   ·exact absurd hD hji
 ·intro j k oj ok hj hk hoj hok hfj hfk hDj hDk hne
  simp only [addD, Bool.or_eq_true, beq_iff_eq] at hDj hDk
  by_cases hji : j = i
  ·by_cases hki : k = i
   ·omega
   ·have hDk' : D k = true := by rcases hDk with h' | h'; exact h'; exact absurd h' hki
    simp only [if_pos hji, if_neg hki]
    have := hlt k ok hk hok hfk hDk'
    omega
  ·have hDj' : D j = true := by rcases hDj with h' | h'; exact h'; exact absurd h' hji
   by_cases hki : k = i
   ·simp only [if_neg hji, if_pos hki]
    have := hlt j oj hj hoj hfj hDj'
    omega
   ·have hDk' : D k = true := by rcases hDk with h' | h'; exact h'; exact absurd h' hki
    simp only [if_neg hji, if_neg hki]
    exact h.inj j k oj ok hj hk hoj hok hfj hfk hDj' hDk' hne
theorem Flo.fewer {p sz0 : Nat} {D D' : Nat → Bool} {b : Act} {w : World} {S : Sh} {H : AH} {cf : Nat → Nat} (h : Flo P ops p sz0 D b w S H cf) (hD : ∀ j, j < p → D' j = true → D j = true) : Flo P ops p sz0 D' b w S H cf :=
 ⟨fun i o t d hi ho hf hd => h.at_ i o t d hi ho hf (hD i hi hd), fun i j oi oj hi hj h1 h2 h3 h4 h5 h6 => h.inj i j oi oj hi hj h1 h2 h3 h4 (hD i hi h5) (hD j hj h6)⟩
theorem adopt_ok {p sz0 : Nat} {S0 : Sh} {A0 : AH} {w0 w : World} {b : Act} (hsz : w0.heap.size = sz0) {cf : Nat → Nat} : ∀ (l : List Oper) (k : Nat) (a a' : AAct) (A A' : AH), adoptAll P ops p l k a A = some (a', A') → (∀ j o, l[j]? = some o → ops[k + j]? = some o) → k + l.length ≤ p →
  ∀ S, Inv G S A w → Fr S0 A0 w0 S A w → ARel S a b → Flo P ops p sz0 (fun j => decide (k ≤ j)) b w S A cf → ∃ S', Inv G S' A' w ∧ Fr S0 A0 w0 S' A' w ∧ ARel S' a' b
 | [], k, a, a', A, A', h, _, _, S, hi, hf, hr, _ => by
  simp only [adoptAll, Option.some.injEq, Prod.mk.injEq] at h
  obtain ⟨rfl, rfl⟩ := h
  exact ⟨S, hi, hf, hr⟩
 | o :: l, k, a, a', A, A', h, hl, hlen, S, hi, hf, hr, hflo => by
  simp only [adoptAll] at h
  have ho : ops[k]? = some o := by simpa using hl 0 o rfl
  have hl' : ∀ j o', l[j]? = some o' → ops[k + 1 + j]? = some o' := fun j o' hj => by
   have := hl (j + 1) o' (by simpa using hj)
   rw [show k + 1 + j = k + (j + 1) by omega]; exact this
  simp only [List.length_cons] at hlen
  have hfew : Flo P ops p sz0 (fun j => decide (k + 1 ≤ j)) b w S A cf := hflo.fewer fun j _ hj => by simp at hj ⊢; omega
  split at h
  ·rename_i hfl
   obtain ⟨t, d, _, hop, hdst, _⟩ := isFloat_spec hfl
   rw [hop] at h
   simp only at h
   split at h
   ·rename_i x hz
    split at h
    ·cases h
    ·rename_i htop
     obtain ⟨a1, a2, a3, a4, z, x', a5, a6, a7⟩ := hflo.at_ k o t d (by omega) ho hfl (by simp) hop hdst
     rw [hz] at a5; cases a5
     have hxt : x ≠ .top := by rintro rfl; simp [AV.isTop] at htop
     have hzr := ofVs_rel (S.at A.blks.length (cf k)) z
     rw [← a6] at hzr
     have hcl := hzr.cells hxt
     have hbr : BRel (S.at A.blks.length (cf k)) (.cells x.cells t) (.cells ⟨z.cells.toList ++ []⟩ t (0, 0)) := .cells _ _ _ _ hcl
     have hnone := hi.ρout A.blks.length (Nat.le_refl _)
     have hle := Sh.le_at hnone (cf k)
     have i1 := hi.adopt (by simpa using a7) a3 a4 hbr
     have f1 := hf.adopt (x := .cells x.cells t) hnone (by rw [hsz]; exact a2)
     have hptr : VRel (S.at A.blks.length (cf k)) (.ptr A.blks.length 0) (.pointer (some ⟨cf k, 0, none⟩)) := .ptr _ _ _ (by simp [Sh.at])
     have r1 := (hr.mono hle).put o.dst hptr
     have hb : b.put o.dst (.pointer (some ⟨cf k, 0, none⟩)) = b := by rw [hdst]; exact put_same a1
     rw [hb] at r1
     refine adopt_ok (cf := cf) hsz l (k + 1) _ _ _ _ h hl' (by omega) _ i1 f1 r1 ?_
     constructor
     ·intro j oj t' d' hj hoj hfj hD hop' hdst'
      obtain ⟨b1, b2, b3, b4, z', x'', b5, b6, b7⟩ := hfew.at_ j oj t' d' hj hoj hfj hD hop' hdst'
      refine ⟨b1, b2, ?_, b4, z', x'', b5, b6, b7⟩
      have hkj : k ≠ j := by simp at hD; omega
      have hne := hflo.inj k j o oj (by omega) hj ho hoj hfl hfj (by simp) (by simp at hD ⊢; omega) hkj
      rintro (⟨i, ⟨y, hy, hd⟩, hir⟩ | hrest)
      ·simp only [AH.push] at hy
       rcases Nat.lt_trichotomy i A.blks.length with hlt | heq | hgt
       ·rw [List.getElem?_append_left hlt] at hy
        simp only [Sh.at] at hir; rw [if_neg (by omega)] at hir
        exact b3 (.inl ⟨i, ⟨y, hy, hd⟩, hir⟩)
       ·subst heq
        simp [Sh.at] at hir
        exact hne hir
       ·rw [List.getElem?_append_right (by omega), List.getElem?_eq_none (by simp; omega)] at hy; cases hy
      ·exact b3 (.inr hrest)
     ·exact fun i j oi oj => hfew.inj i j oi oj
   ·cases h
  ·exact adopt_ok (cf := cf) hsz l (k + 1) _ _ _ _ h hl' (by omega) S hi hf hr hfew
theorem adopt_zero {p : Nat} : ∀ (l : List Oper) (k : Nat) (a a' : AAct) (A A' : AH), adoptAll P ops p l k a A = some (a', A') → ∀ j o t, l[j]? = some o → isFloat ops p (k + j) o = true → o.op = .alloc t → ∃ x, tZero P t = some x
 | [], _, _, _, _, _, _, j, o, t, h, _, _ => by simp at h
 | o :: l, k, a, a', A, A', h, 0, o', t, hj, hfl, hop => by
  simp at hj; subst hj
  simp only [adoptAll] at h
  rw [if_pos (by simpa using hfl), hop] at h
  simp only at h
  split at h
  ·rename_i x hz; exact ⟨x, hz⟩
  ·cases h
 | o :: l, k, a, a', A, A', h, j + 1, o', t, hj, hfl, hop => by
  simp only [adoptAll] at h
  have hj' : l[j]? = some o' := by simpa using hj
  have hfl' : isFloat ops p (k + 1 + j) o' = true := by rw [show k + 1 + j = k + (j + 1) by omega]; exact hfl
  split at h
  ·split at h
   ·split at h
    ·split at h
     ·cases h
     ·exact adopt_zero l (k + 1) _ _ _ _ h j o' t hj' hfl' hop
    ·cases h
   ·cases h
  ·exact adopt_zero l (k + 1) _ _ _ _ h j o' t hj' hfl' hop
theorem aDraw_ok (hm : Mc.Ok P G m) (hpf : ∀ f args es, pf f args = some es → QCall P G f args es) (hmix : P.follows .mixedOrders = true) {a : AAct} {A : AH} {os : List AOut} (hx : aDraw P G pf m rd ops a A = some os)
  {S : Sh} {w : World} {b : Act} {ro : Option Nat} (hi : Inv G S A w) (hab : ARel S a b) (hr : RdRel S rd ro) (id : Nat) : (Code.region id ops true).wpIn (fen ro) 0 P (OutPost G S A w os) b w := by
 unfold aDraw at hx
 simp only at hx
 obtain ⟨hp, htail⟩ := tail_spec (ops := ops) ops.size
 generalize tailStart ops ops.size = p at hx hp htail
 split at hx
 ·rename_i rs hs hrun
  split at hx
  ·rename_i hc
   split at hx
   ·rename_i a2 A2 hadopt
    rw [cntI_idxs] at hadopt
    simp only [Bool.and_eq_true] at hc
    obtain ⟨⟨hS, hL⟩, hW⟩ := hc
    obtain ⟨hlow, hnames⟩ := drawS_spec hS
    obtain ⟨hlen, hspec⟩ := dRun_spec _ _ _ _ _ _ hrun
    have hwin := winB_spec _ _ _ _ (win_all hW)
    have hprel : (ops.toList.take p).length = p := by simp; omega
    have hrsz : rs.length = p := by rw [hlen, hprel]
    have hpre : ∀ i o, i < p → ops[i]? = some o → (ops.toList.take p)[i]? = some o := by
     intro i o hip ho
     rw [List.getElem?_take, if_pos hip]; simpa using ho
    have hpre' : ∀ i o, (ops.toList.take p)[i]? = some o → i < p ∧ ops[i]? = some o := by
     intro i o ho
     rw [List.getElem?_take] at ho
     split at ho
     ·rename_i hip; exact ⟨hip, by simpa using ho⟩
     ·cases ho
    -- where an operation is at hand
    have look : ∀ (D : Nat → Bool) (i : Nat) (o : Oper), Down .any ops D → ops[i]? = some o → D i = false → (∀ e ∈ o.after, Region.binds .any e = true → D e.on = true) →
      (∀ j, bef ops i j = true → D j = true) ∧ (∀ j, D j = true → bef ops j i = false) := by
     intro D i o hD ho hDi hr
     refine ⟨fun j hj => bef_ready hlow hD ho hr hj, fun j hj => ?_⟩
     cases hb : bef ops j i with
     | false => rfl
     | true =>
      have := bef_down hlow hD j i hj hb
      rw [hDi] at this; cases this
    let zr := zipR (ops.toList.take p) rs
    let Pre : (Nat → Bool) → Act → World → Prop := fun D b' w' => ∃ S' H cf, (A :: hs)[cntF (rs.map (·.2)) 0 D]? = some H ∧ Inv G S' H w' ∧ Fr S A w S' H w' ∧ ARel S' (actF zr 0 D a) b' ∧ Flo P ops p w.heap.size D b' w' S' H cf
    let St : (Nat → Bool) → Act → World → Prop := fun D b' w' => (∃ i0, i0 < p ∧ D i0 = false ∧ Pre D b' w') ∨
     (∃ t, (∀ j, j < p + t → j < ops.size → D j = true) ∧ (∀ j, p + t ≤ j → j < ops.size → D j = false) ∧ p + t ≤ ops.size ∧ wpListIn (fen ro) 0 P ops (OutPost G S A w os) (ops.toList.drop (p + t)) b' w')
    -- the first p are done
    have finish : ∀ (D : Nat → Bool) b' w', (∀ j, j < p → D j = true) → Pre D b' w' → wpListIn (fen ro) 0 P ops (OutPost G S A w os) (ops.toList.drop p) b' w' := by
     intro D b' w' hall ⟨S', H, cf, hH, iH, fH, rH, flo⟩
     have hDt : cntF (rs.map (·.2)) 0 D = cntF (rs.map (·.2)) 0 fun _ => true := Nat.le_antisymm (cntF_mono _ _ fun _ _ _ => rfl) (cntF_mono _ _ fun j hj _ => by
      rw [Nat.zero_add]
      have := (List.getElem?_eq_some_iff.1 hj).1
      exact hall j (by simp at this; omega))
     have hzl : ∀ (l : List Oper) (r : List (AV × Bool)), (zipR l r).length ≤ l.length := by
      intro l
      induction l with
      | nil => intro r; simp [zipR]
      | cons o l ih => intro r; cases r with
       | nil => simp [zipR]
       | cons x r => obtain ⟨v, b⟩ := x; simp only [zipR, List.length_cons]; have := ih r; omega
     have hAt : actF zr 0 D a = actF zr 0 (fun _ => true) a := by
      refine actF_congr _ 0 a fun j hj => ?_
      rw [Nat.zero_add]
      have hz : zr.length ≤ p := by
       show (zipR (ops.toList.take p) rs).length ≤ p
       have := hzl (ops.toList.take p) rs
       omega
      exact hall j (by omega)
     rw [hDt] at hH
     rw [hAt] at rH
     rw [hH] at hadopt
     simp only [Option.getD_some] at hadopt
     obtain ⟨S2, i2, f2, r2⟩ := adopt_ok (cf := cf) (sz0 := w.heap.size) rfl _ _ _ _ _ _ hadopt (fun j o hj => by rw [Nat.zero_add]; exact (hpre' j o hj).2) (by rw [hprel]; omega) S' iH fH rH (flo.fewer fun j hj _ => hall j hj)
     exact wpListIn_mono (fun _ _ _ h => h.from f2 fun _ h => h) _ _ _ (hm.ops _ _ _ _ _ _ hx S2 w' b' ro i2 r2 (hr.mono f2.le))
    refine wpIn_region_any hmix ?_
    refine order_any St hlow ?_ ?_ ops.size _ b _ (by simp) ?_ ?_ ?_
    ·intro D i o hD ho hDi hrdy b' w' hst
     have hil := (Array.getElem?_eq_some_iff.1 ho).1
     obtain ⟨h1, h2⟩ := look D i o hD ho hDi hrdy
     rcases hst with ⟨i0, hi0, hDi0, hpre0⟩ | ⟨t, ht1, ht2, ht3, hw⟩
     ·-- one of the first p
      have hip : i < p := by
       rcases Nat.lt_or_ge i p with h' | h'
       ·exact h'
       ·have := h1 i0 (htail i h' hil i0 (by omega))
        rw [hDi0] at this; cases this
      obtain ⟨S', H, cf, hH, iH, fH, rH, flo⟩ := hpre0
      have hol : (ops.toList.take p)[i]? = some o := hpre i o hip ho
      obtain ⟨v, lb, Hc, A', q1, q2, q3, q4⟩ := hspec i o hol
      rw [Nat.zero_add] at q3
      suffices hsuf : wpOpIn (fen ro) 0 P ops (OutPost G S A w os) i (Pre (addD D i)) b' w' by
       refine wpOpIn_mono ?_ hsuf
       intro b2 w2 hp2
       by_cases hex : ∃ i1, i1 < p ∧ addD D i i1 = false
       ·obtain ⟨i1, hi1, hd1⟩ := hex
        exact .inl ⟨i1, hi1, hd1, hp2⟩
       ·have hall : ∀ j, j < p → addD D i j = true := fun j hj => by
         cases hd : addD D i j with
         | true => rfl
         | false => exact absurd ⟨j, hj, hd⟩ hex
        refine .inr ⟨0, fun j hj _ => hall j (by omega), fun j hj hjs => ?_, by omega, by simpa using finish _ _ _ hall hp2⟩
        simp only [addD, Bool.or_eq_false_iff, beq_eq_false_iff_ne]
        refine ⟨?_, by omega⟩
        cases hd : D j with
        | false => rfl
        | true =>
         have := h2 j hd
         rw [htail j (by omega) hjs i (by omega)] at this; cases this
      -- whoever writes what it names
      have hwr : ∀ j t, (ops[j]?).bind (·.dst) = some t → t ∈ namesOf ops o → D j = decide (j < i) := by
       intro j t hj ht
       by_cases hji : j = i
       ·subst hji; simp [hDi]
       ·rcases hnames i j o t ho hj hji ht with hb | hb
        ·rw [h1 j hb]; simp [bef_low hlow i j hb]
        ·have hlt := bef_low hlow j i hb
         have : D j = false := by
          cases hd : D j with
          | false => rfl
          | true => rw [h2 j hd] at hb; cases hb
         rw [this]; simp; omega
      have hget : ∀ t, t ∈ namesOf ops o → (actF zr 0 D a).tmps[t]? = (actF zr 0 (fun j => decide (j < i)) a).tmps[t]? := by
       intro t ht
       refine actF_get _ 0 a a rfl rfl fun j p' hp' hpt => ?_
       obtain ⟨oj, ho1, ho2⟩ := zipR_inv _ _ _ _ hp'
       rw [Nat.zero_add]
       exact hwr j t (by rw [(hpre' j oj ho1).2]; simp [ho2, hpt]) ht
      have halike : Alike ops o (actF zr 0 D a) (actF zr 0 (fun j => decide (j < i)) a) := by
       refine ⟨fun x hx => ?_, fun p' hp' t ht => ?_⟩
       ·cases x with
        | tmp t =>
         have := hget t (by
          unfold namesOf
          refine List.mem_append_left _ (List.mem_append_right _ (List.mem_filterMap.2 ⟨.tmp t, by simpa using hx, rfl⟩)))
         simp only [AAct.eval, AAct.get, nthR_eq, this]
        | const v => rfl
        | global g => rfl
        | func f => rfl
       ·refine hget t ?_
        unfold namesOf
        refine List.mem_append_right _ ?_
        rw [hp']
        obtain ⟨j, want⟩ := p'
        simp only at ht ⊢
        rw [ht]; simp
      have hlb : (rs.map (·.2))[i]? = some lb := by simp [q1]
      have hact : actF zr 0 (addD D i) a = (actF zr 0 D a).put o.dst v := by
       have := actF_add (D := D) zr i 0 a (zipR_get _ _ _ _ _ _ hol q1) (by simpa using hDi) (fun j p' hij hp' hj => by
        intro t ht hpt
        obtain ⟨oj, ho1, ho2⟩ := zipR_inv _ _ _ _ hp'
        rw [Nat.zero_add] at hj
        have := hwr j t (by rw [(hpre' j oj ho1).2]; simp [ho2, hpt]) (by unfold namesOf; refine List.mem_append_left _ (List.mem_append_left _ ?_); rw [ht]; simp)
        rw [hj] at this
        simp at this; omega)
       simpa using this
      have hcnt := cntF_add (D := D) (rs.map (·.2)) i 0 hlb (by simpa using hDi)
      simp only [Nat.zero_add] at hcnt
      cases hfl : isFloat ops p i o with
      | true =>
       obtain ⟨t, d, hg, hop, hdst, hnm⟩ := isFloat_spec hfl
       obtain ⟨x, hz⟩ := adopt_zero _ _ _ _ _ _ hadopt i o t hol (by rw [Nat.zero_add]; exact hfl) hop
       obtain ⟨z, hxz, hrunz⟩ := run_alloc hz w'
       unfold aOpF at q3
       rw [if_pos hfl] at q3
       cases q3
       simp only [Bool.false_eq_true, if_false, Nat.add_zero] at hcnt
       have hnd : ∀ c, o.op ≠ .defer c := by intro c hc; rw [hop] at hc; cases hc
       unfold wpOpIn
       rw [ho]
       simp only
       have hwant : Region.wanted o (yielded ops b'.tmps) = true := by simp [Region.wanted, hg]
       rw [hwant]
       simp only [if_true]
       refine ⟨fun _ _ => trivial, ?_⟩
       rw [Oper.semAt_eq _ _ _ hnd]
       simp only [execOp, hop, Sem.run_bind, hrunz, Result.andThen_ok, Sem.run_pure, Oper.uponIn]
       obtain ⟨i2, f2⟩ := iH.idle (.cells ⟨z.cells.toList⟩ t (0, 0))
       refine ⟨S', H, _, by rw [hcnt]; exact hH, i2, fH.trans f2, ?_, flo.lay rfl iH fH ho hip hDi hfl hop hz hxz⟩
       rw [hact]
       exact rH.put _ (.top _)
      | false =>
       have hopF : ∀ a A, aOpF P G pf m rd ops p i a A o = aOp1 P G pf m rd ops a A o := fun a A => by unfold aOpF; rw [hfl]; rfl
       rw [hopF] at q3
       have fin : ∀ A2, aOp1 P G pf m rd ops (actF zr 0 D a) H o = some (v, A2, lb) → (A :: hs)[cntF (rs.map (·.2)) 0 (addD D i)]? = some A2 → wpOpIn (fen ro) 0 P ops (OutPost G S A w os) i (Pre (addD D i)) b' w' := by
        intro A2 hop hA2
        refine aOp1_ok hm hpf hop iH rH (hr.mono fH.le) ho ?_
        intro S2 u w2 i2 f2 v2
        refine ⟨S2, A2, cf, hA2, i2, fH.trans f2, ?_, flo.keep f2 ho hip hDi hfl u⟩
        rw [hact]
        exact (rH.mono f2.le).put _ v2
       cases lb with
       | true =>
        have hceq : cntF (rs.map (·.2)) 0 D = cntF (rs.map (·.2)) 0 fun j => decide (j < i) := by
         have hone : ∀ j, (rs.map (·.2))[j]? = some true → D j = decide (j < i) := by
          intro j hj
          have hjl : j < p := by
           have := (List.getElem?_eq_some_iff.1 hj).1
           simp at this; omega
          by_cases hji : j = i
          ·subst hji; simp [hDi]
          ·rcases drawI_spec hL hlb hj hji with hb | hb
           ·rw [h1 j hb]; simp [bef_low hlow i j hb]
           ·have hlt := bef_low hlow j i hb
            have : D j = false := by
             cases hd : D j with
             | false => rfl
             | true => rw [h2 j hd] at hb; cases hb
            rw [this]; simp; omega
         refine Nat.le_antisymm (cntF_mono _ _ fun j hj hd => ?_) (cntF_mono _ _ fun j hj hd => ?_)
         ·rw [Nat.zero_add] at hd ⊢; rw [← hone j hj]; exact hd
         ·rw [Nat.zero_add] at hd ⊢; rw [hone j hj]; exact hd
        rw [hceq, q2] at hH
        cases hH
        refine fin A' ?_ ?_
        ·rw [aOp1_congr halike]; exact q3
        ·rw [hcnt, hceq]; exact q4 rfl
       | false =>
        simp only [Bool.false_eq_true, if_false, Nat.add_zero] at hcnt
        have hlo : cntF (rs.map (·.2)) 0 (bef ops i) ≤ cntF (rs.map (·.2)) 0 D := cntF_mono _ _ fun j _ hj => by rw [Nat.zero_add] at hj ⊢; exact h1 j hj
        have hhi : cntF (rs.map (·.2)) 0 D ≤ cntF (rs.map (·.2)) 0 fun j => !bef ops j i := cntF_mono _ _ fun j _ hj => by rw [Nat.zero_add] at hj ⊢; rw [h2 j hj]; rfl
        have hw := hwin i o v hol q1
        rw [Nat.zero_add] at hw
        have hop : aOp1 P G pf m rd ops (actF zr 0 D a) H o = some (v, H, false) := by
         rw [aOp1_congr halike]
         unfold winOne at hw
         rw [cntI_idxs, cntI_idxs] at hw
         simp only [Bool.or_eq_true, decide_eq_true_eq] at hw
         rcases hw with hw | hw
         ·have hclo : cntF (rs.map (·.2)) 0 (bef ops i) ≤ cntF (rs.map (·.2)) 0 fun j => decide (j < i) := cntF_mono _ _ fun j _ hj => by rw [Nat.zero_add] at hj ⊢; simp [bef_low hlow i j hj]
          have hchi : (cntF (rs.map (·.2)) 0 fun j => decide (j < i)) ≤ cntF (rs.map (·.2)) 0 fun j => !bef ops j i := cntF_mono _ _ fun j _ hj => by
           rw [Nat.zero_add] at hj ⊢
           cases hb : bef ops j i with
           | false => rfl
           | true => have := bef_low hlow j i hb; simp at hj; omega
          have hce : cntF (rs.map (·.2)) 0 D = cntF (rs.map (·.2)) 0 fun j => decide (j < i) := by omega
          rw [hce, q2] at hH
          cases hH
          have := quiet_heap q3
          subst this
          exact q3
         ·have hmem : H ∈ ((A :: hs).drop (cntF (rs.map (·.2)) 0 (bef ops i))).take ((cntF (rs.map (·.2)) 0 fun j => !bef ops j i) + 1 - cntF (rs.map (·.2)) 0 (bef ops i)) := by
           refine List.mem_of_getElem? (i := cntF (rs.map (·.2)) 0 D - cntF (rs.map (·.2)) 0 (bef ops i)) ?_
           rw [List.getElem?_take, if_pos (by omega), List.getElem?_drop, show cntF (rs.map (·.2)) 0 (bef ops i) + (cntF (rs.map (·.2)) 0 D - cntF (rs.map (·.2)) 0 (bef ops i)) = cntF (rs.map (·.2)) 0 D by omega]
           exact hH
          have := List.all_eq_true.1 hw H hmem
          rw [hopF] at this
          split at this
          ·rename_i v' A2 l' hop
           simp only [Bool.and_eq_true, Bool.not_eq_true'] at this
           obtain ⟨rfl, he⟩ := this
           have := eqv_eq _ _ he
           subst this
           have := quiet_heap hop
           subst this
           exact hop
          ·cases this
        exact fin H hop (by rw [hcnt]; exact hH)
     ·-- one of the others
      have hit : i = p + t := by
       rcases Nat.lt_trichotomy i (p + t) with h' | h' | h'
       ·have := ht1 i h' hil
        rw [hDi] at this; cases this
       ·exact h'
       ·have hpt : p + t < ops.size := by omega
        have := h1 (p + t) (htail i (by omega) hil (p + t) h')
        rw [ht2 (p + t) (Nat.le_refl _) hpt] at this; cases this
      subst hit
      have hdrop : ops.toList.drop (p + t) = o :: ops.toList.drop (p + (t + 1)) := by
       have : ops.toList[p + t]? = some o := by simpa using ho
       rw [show p + (t + 1) = p + t + 1 by omega]
       exact (List.drop_eq_getElem?_toList_append).trans (by rw [this]; rfl)
      rw [hdrop] at hw
      refine wpOpIn_mono (K := wpListIn (fen ro) 0 P ops (OutPost G S A w os) (ops.toList.drop (p + (t + 1)))) ?_ ?_
      ·intro b2 w2 h
       refine .inr ⟨t + 1, fun j hj hjs => ?_, fun j hj hjs => ?_, by omega, h⟩
       ·simp only [addD, Bool.or_eq_true, beq_iff_eq]
        by_cases hji : j = p + t
        ·exact .inr hji
        ·exact .inl (ht1 j (by omega) hjs)
       ·simp only [addD, Bool.or_eq_false_iff, beq_eq_false_iff_ne]
        exact ⟨ht2 j (by omega) hjs, by omega⟩
      ·unfold wpOpIn
       rw [ho]
       exact hw
    ·intro D b' w' hall hst
     rcases hst with ⟨i0, hi0, hDi0, _⟩ | ⟨t, ht1, ht2, ht3, hw⟩
     ·rw [hall i0 (by omega)] at hDi0; cases hDi0
     ·have : p + t = ops.size := by
       rcases Nat.lt_or_ge (p + t) ops.size with h' | h'
       ·have := ht2 (p + t) (Nat.le_refl _) h'
        rw [hall (p + t) h'] at this; cases this
       ·omega
      rw [this, List.drop_eq_nil_of_le (by simp)] at hw
      exact hw
    ·have : ((Array.replicate ops.size false).toList.countP fun x => !x) ≤ (Array.replicate ops.size false).toList.length := List.countP_le_length
     simpa using this
    ·intro j o ho hj
     simp [inn, Array.getD_eq_getD_getElem?, Array.getElem?_replicate] at hj
     split at hj <;> simp at hj
    ·obtain ⟨i1, f1⟩ := hi.drew (w.drawn + 1)
     have hz : ∀ j, inn (Array.replicate ops.size false) j = false := by
      intro j
      simp only [inn, Array.getD_eq_getD_getElem?, Array.getElem?_replicate]
      split <;> rfl
     have hpre0 : Pre (inn (Array.replicate ops.size false)) b { w with drawn := w.drawn + 1 } := by
      refine ⟨S, A, fun _ => 0, ?_, i1, f1, ?_, ?_, ?_⟩
      ·rw [cntF_none _ _ _ hz]; rfl
      ·rw [actF_none _ _ _ _ hz]; exact hab
      ·intro i o t d _ _ _ hD
       rw [hz] at hD; cases hD
      ·intro i j oi oj _ _ _ _ _ _ hD
       rw [hz] at hD; cases hD
     by_cases hp0 : p = 0
     ·refine .inr ⟨0, fun j hj _ => by omega, fun j _ _ => hz j, by omega, ?_⟩
      have := finish _ _ _ (fun j hj => by omega) hpre0
      simpa using this
     ·exact .inl ⟨0, by omega, hz 0, hpre0⟩
   ·cases hx
  ·cases hx
 ·cases hx
end
end Go.Am
end
section
noncomputable section
namespace Go.Am
open Go
def drawIx (ops : Array Oper) (s1 s2 : Nat) (I : List Nat) : Bool :=
 I.all fun i => I.all fun j => j == i || bef ops i j || bef ops j i || (i == s1 && j == s2) || (i == s2 && j == s1)
section
variable (P : Program) (G : Gl) (pf : PF) (m : Mc) (rd : Option Nat) (ops : Array Oper)
def winAlt (p s1 s2 : Nat) (H2 : AH) : List Oper → List (AV × Bool) → Nat → AAct → Bool
 | o :: rest, (v, l) :: rs, i, a =>
  (l || bef ops i s1 || bef ops s2 i || (match aOpF P G pf m rd ops p i a H2 o with | some (v', _, l') => !l' && eqv v' v | none => false)) && winAlt p s1 s2 H2 rest rs (i + 1) (a.put o.dst v)
 | _, _, _, _ => true
def aDrawS (a : AAct) (A : AH) : Option (List AOut) :=
 let p := tailStart ops ops.size
 let pre := ops.toList.take p
 match dRun P G pf m rd ops p pre 0 a A with
 | some (rs, hs) =>
  let I := idxs (rs.map (·.2)) 0
  match I.reverse with
  | s2 :: s1 :: R =>
   match ops[s1]?, ops[s2]?, (A :: hs)[R.length]? with
   | some o1, some o2, some H1 =>
    match o1.op, o2.op, o1.guard, o2.guard with
    | .store _ p1 _, .store t2 p2 x2, none, none =>
     match (actF (zipR pre rs) 0 (fun k => decide (k < s1)) a).eval p1, (actF (zipR pre rs) 0 (fun k => decide (k < s2)) a).eval p2 with
     | .ptr b1 _, .ptr b2 e2 =>
      match aStore P H1 t2 (.ptr b2 e2) ((actF (zipR pre rs) 0 (fun k => decide (k < s2)) a).eval x2) with
      | some H2 =>
       if drawS ops && drawIx ops s1 s2 I && !(b1 == b2) && winB P G pf m rd ops p I (A :: hs) pre rs 0 a && winAlt P G pf m rd ops p s1 s2 H2 pre rs 0 a then
        match adoptAll P ops p pre 0 (actF (zipR pre rs) 0 (fun _ => true) a) (((A :: hs)[R.length + 2]?).getD A) with
        | some (a', A') => m.ops rd ops (ops.toList.drop p) a' A'
        | none => none
       else none
      | none => none
     | _, _ => none
    | _, _, _, _ => none
   | _, _, _ => none
  | _ => none
 | none => none
variable {P G pf m rd ops}
theorem winAlt_spec {p s1 s2 : Nat} {H2 : AH} : ∀ (l : List Oper) (rs : List (AV × Bool)) (k : Nat) (a : AAct), winAlt P G pf m rd ops p s1 s2 H2 l rs k a = true → ∀ i o v, l[i]? = some o → rs[i]? = some (v, false) →
  bef ops (k + i) s1 = true ∨ bef ops s2 (k + i) = true ∨ ∃ A', aOpF P G pf m rd ops p (k + i) (actF (zipR l rs) 0 (fun j => decide (j < i)) a) H2 o = some (v, A', false)
 | [], _, _, _, _, i, o, v, ho, _ => by simp at ho
 | o :: l, [], _, _, _, i, _, v, _, hr => by simp at hr
 | o :: l, (v, lb) :: rs, k, a, h, 0, o', v', ho, hr => by
  simp at ho hr
  obtain ⟨rfl, rfl⟩ := hr
  subst ho
  simp only [winAlt, Bool.false_or, Bool.and_eq_true, Bool.or_eq_true] at h
  rw [actF_none _ _ _ _ (fun j => by simp)]
  rcases h.1 with (h1 | h1) | h1
  ·exact .inl h1
  ·exact .inr (.inl h1)
  ·refine .inr (.inr ?_)
   split at h1
   ·rename_i v'' A' l' he
    simp only [Bool.and_eq_true, Bool.not_eq_true'] at h1
    obtain ⟨rfl, h2⟩ := h1
    rw [eqv_eq _ _ h2] at he
    exact ⟨A', he⟩
   ·cases h1
 | o :: l, (v, lb) :: rs, k, a, h, i + 1, o', v', ho, hr => by
  simp only [winAlt, Bool.and_eq_true] at h
  have := winAlt_spec l rs (k + 1) _ h.2 i o' v' (by simpa using ho) (by simpa using hr)
  simp only [zipR, actF]
  rw [actF_shift, lt_succ_fun, show k + (i + 1) = k + 1 + i by omega]
  simp only [Nat.zero_lt_succ, decide_true, if_true]
  exact this
theorem drawIx_spec {s1 s2 : Nat} {louds : List Bool} (h : drawIx ops s1 s2 (idxs louds 0) = true) {i j : Nat} (hli : louds[i]? = some true) (hlj : louds[j]? = some true) (hne : j ≠ i) (h1' : ¬ (i = s1 ∧ j = s2)) (h2' : ¬ (i = s2 ∧ j = s1)) : bef ops i j = true ∨ bef ops j i = true := by
 unfold drawIx at h
 have mem : ∀ k, louds[k]? = some true → k ∈ idxs louds 0 := fun k hk => by simpa using idxs_mem louds 0 k hk
 have h1 := List.all_eq_true.1 h i (mem i hli)
 have h2 := List.all_eq_true.1 h1 j (mem j hlj)
 simp only [Bool.or_eq_true, Bool.and_eq_true, beq_iff_eq] at h2
 rcases h2 with (((h2 | h2) | h2) | h2) | h2
 ·exact absurd h2 hne
 ·exact .inl h2
 ·exact .inr h2
 ·exact absurd h2 h1'
 ·exact absurd h2 h2'
theorem cntI_countP (D : Nat → Bool) (I : List Nat) : cntI D I = I.countP D := by
 induction I with
 | nil => rfl
 | cons k I ih =>
  simp only [cntI, List.countP_cons]
  cases hD : D k <;> simp [ih]
theorem idxs_sorted : ∀ (l : List Bool) (k : Nat), (idxs l k).Pairwise (· < ·) ∧ ∀ x ∈ idxs l k, k ≤ x ∧ l[x - k]? = some true
 | [], _ => by simp [idxs]
 | true :: l, k => by
  obtain ⟨h1, h2⟩ := idxs_sorted l (k + 1)
  simp only [idxs]
  refine ⟨List.pairwise_cons.2 ⟨fun x hx => by have := (h2 x hx).1; omega, h1⟩, fun x hx => ?_⟩
  rcases List.mem_cons.1 hx with rfl | hx
  ·simp
  ·obtain ⟨a1, a2⟩ := h2 x hx
   refine ⟨by omega, ?_⟩
   rw [show x - k = (x - (k + 1)) + 1 by omega, List.getElem?_cons_succ]; exact a2
 | false :: l, k => by
  obtain ⟨h1, h2⟩ := idxs_sorted l (k + 1)
  simp only [idxs]
  refine ⟨h1, fun x hx => ?_⟩
  obtain ⟨a1, a2⟩ := h2 x hx
  refine ⟨by omega, ?_⟩
  rw [show x - k = (x - (k + 1)) + 1 by omega, List.getElem?_cons_succ]; exact a2
theorem rev_spec {louds : List Bool} {s1 s2 : Nat} {R : List Nat} (h : (idxs louds 0).reverse = s2 :: s1 :: R) :
  louds[s1]? = some true ∧ louds[s2]? = some true ∧ s1 < s2 ∧ (cntF louds 0 fun j => decide (j < s1)) = R.length ∧ (cntF louds 0 fun j => decide (j < s2)) = R.length + 1 ∧ (cntF louds 0 fun _ => true) = R.length + 2 ∧
   (∀ x, x ∈ R → x < s1) ∧ (∀ x, louds[x]? = some true → x ≠ s1 → x ≠ s2 → x < s1) := by
 have hI : idxs louds 0 = R.reverse ++ [s1, s2] := by
  have := congrArg List.reverse h
  simpa using this
 obtain ⟨hs, hm⟩ := idxs_sorted louds 0
 rw [hI] at hs hm
 obtain ⟨h1, h2, h3⟩ := List.pairwise_append.1 hs
 have h12 : s1 < s2 := by simpa using h2
 have hR : ∀ x, x ∈ R → x < s1 := fun x hx => h3 x (by simpa using hx) s1 (by simp)
 have hR2 : ∀ x ∈ R.reverse, decide (x < s1) = true := fun x hx => by simpa using hR x (by simpa using hx)
 have hR3 : ∀ x ∈ R.reverse, decide (x < s2) = true := fun x hx => by simpa using Nat.lt_trans (hR x (by simpa using hx)) h12
 refine ⟨by simpa using (hm s1 (by simp)).2, by simpa using (hm s2 (by simp)).2, h12, ?_, ?_, ?_, hR, ?_⟩
 ·rw [← cntI_idxs, cntI_countP, hI, List.countP_append, List.countP_eq_length.2 hR2]
  simp; omega
 ·rw [← cntI_idxs, cntI_countP, hI, List.countP_append, List.countP_eq_length.2 hR3]
  simp [h12]
 ·rw [← cntI_idxs, cntI_countP, hI, List.countP_append, List.countP_eq_length.2 (fun _ _ => rfl)]
  simp
 ·intro x hx n1 n2
  have : x ∈ R.reverse ++ [s1, s2] := by rw [← hI]; simpa using idxs_mem louds 0 x hx
  rcases List.mem_append.1 this with h' | h'
  ·exact hR x (by simpa using h')
  ·simp at h'; rcases h' with h' | h'
   ·exact absurd h' n1
   ·exact absurd h' n2
theorem aStore_put {A A' : AH} {t : TypeId} {b off : Nat} {x : AV} (h : aStore P A t (.ptr b off) x = some A') : ∃ X, A' = A.put b X ∧ ∀ B : AH, B.blks[b]? = A.blks[b]? → aStore P B t (.ptr b off) x = some (B.put b X) := by
 unfold aStore at h
 simp only at h
 split at h
 ·rename_i cs el n hb hn
  split at h <;> cases h
  rename_i hc
  refine ⟨_, rfl, fun B hB => ?_⟩
  unfold aStore
  simp only [hB, hb, hn]
  rw [if_pos hc]
 ·cases h
theorem put_blks_ne (A : AH) {b c : Nat} (X : ABlk) (h : b ≠ c) : (A.put b X).blks[c]? = A.blks[c]? := by
 simp only [AH.put]
 rw [List.getElem?_set_ne h]
theorem AH.put_comm (A : AH) {b c : Nat} (X Y : ABlk) (h : b ≠ c) : (A.put b X).put c Y = (A.put c Y).put b X := by
 simp only [AH.put]
 rw [List.set_comm _ _ h]
theorem aOp1_store {act : AAct} {H : AH} {o : Oper} {t : TypeId} {p x : Operand} (hop : o.op = .store t p x) (hg : o.guard = none) :
  aOp1 P G pf m rd ops act H o = (aStore P H t (act.eval p) (act.eval x)).map fun H' => (.top, H', true) := by
 have hw : aWanted ops act o = some true := by unfold aWanted; rw [hg]
 unfold aOp1
 rw [hw]
 simp only [hop]
 unfold aOp
 rw [hop]
 simp only [aEff]
 cases aStore P H t (act.eval p) (act.eval x) <;> simp [quietOp]
theorem aDrawS_core (hm : Mc.Ok P G m) (hpf : ∀ f args es, pf f args = some es → QCall P G f args es) (hmix : P.follows .mixedOrders = true) {a : AAct} {A : AH} {os : List AOut}
  {S : Sh} {w : World} {b : Act} {ro : Option Nat} (hi : Inv G S A w) (hab : ARel S a b) (hr : RdRel S rd ro) (id : Nat) {p : Nat} (hp : p ≤ ops.size) (htail : ∀ j, p ≤ j → j < ops.size → ∀ i, i < j → bef ops j i = true)
  {rs : List (AV × Bool)} {hs : List AH} (hrun : dRun P G pf m rd ops p (ops.toList.take p) 0 a A = some (rs, hs)) {s1 s2 : Nat} {R : List Nat} (hrev : (idxs (rs.map (·.2)) 0).reverse = s2 :: s1 :: R)
  {o1 o2 : Oper} {H1 : AH} (hos1 : ops[s1]? = some o1) (hos2 : ops[s2]? = some o2) (hH1 : (A :: hs)[R.length]? = some H1) {t1 t2 : TypeId} {p1 p2 x1 x2 : Operand} (hop1 : o1.op = .store t1 p1 x1) (hop2 : o2.op = .store t2 p2 x2) (hg1 : o1.guard = none) (hg2 : o2.guard = none)
  {b1 e1 b2 e2 : Nat} (hptr1 : (actF (zipR (ops.toList.take p) rs) 0 (fun k => decide (k < s1)) a).eval p1 = .ptr b1 e1) (hptr2 : (actF (zipR (ops.toList.take p) rs) 0 (fun k => decide (k < s2)) a).eval p2 = .ptr b2 e2)
  {H2 : AH} (hst2 : aStore P H1 t2 (.ptr b2 e2) ((actF (zipR (ops.toList.take p) rs) 0 (fun k => decide (k < s2)) a).eval x2) = some H2)
  (hc : (drawS ops && drawIx ops s1 s2 (idxs (rs.map (·.2)) 0) && !(b1 == b2) && winB P G pf m rd ops p (idxs (rs.map (·.2)) 0) (A :: hs) (ops.toList.take p) rs 0 a && winAlt P G pf m rd ops p s1 s2 H2 (ops.toList.take p) rs 0 a) = true)
  {a2 : AAct} {A2 : AH} (hadopt : adoptAll P ops p (ops.toList.take p) 0 (actF (zipR (ops.toList.take p) rs) 0 (fun _ => true) a) (((A :: hs)[R.length + 2]?).getD A) = some (a2, A2)) (hx : m.ops rd ops (ops.toList.drop p) a2 A2 = some os) :
  (Code.region id ops true).wpIn (fen ro) 0 P (OutPost G S A w os) b w := by
 simp only [Bool.and_eq_true, Bool.not_eq_true', beq_eq_false_iff_ne] at hc
 obtain ⟨⟨⟨⟨hS, hL⟩, hbb⟩, hW⟩, hA⟩ := hc
 obtain ⟨hlow, hnames⟩ := drawS_spec hS
 obtain ⟨hlen, hspec⟩ := dRun_spec _ _ _ _ _ _ hrun
 have hwin := winB_spec _ _ _ _ hW
 have hprel : (ops.toList.take p).length = p := by simp; omega
 have hrsz : rs.length = p := by rw [hlen, hprel]
 have hpre : ∀ i o, i < p → ops[i]? = some o → (ops.toList.take p)[i]? = some o := by
  intro i o hip ho
  rw [List.getElem?_take, if_pos hip]; simpa using ho
 have hpre' : ∀ i o, (ops.toList.take p)[i]? = some o → i < p ∧ ops[i]? = some o := by
  intro i o ho
  rw [List.getElem?_take] at ho
  split at ho
  ·rename_i hip; exact ⟨hip, by simpa using ho⟩
  ·cases ho
 -- where an operation is at hand
 have look : ∀ (D : Nat → Bool) (i : Nat) (o : Oper), Down .any ops D → ops[i]? = some o → D i = false → (∀ e ∈ o.after, Region.binds .any e = true → D e.on = true) →
   (∀ j, bef ops i j = true → D j = true) ∧ (∀ j, D j = true → bef ops j i = false) := by
  intro D i o hD ho hDi hr
  refine ⟨fun j hj => bef_ready hlow hD ho hr hj, fun j hj => ?_⟩
  cases hb : bef ops j i with
  | false => rfl
  | true =>
   have := bef_down hlow hD j i hj hb
   rw [hDi] at this; cases this
 -- the two that may change places
 obtain ⟨k1, k2, k3, k4, k5, k6, k7, k8⟩ := rev_spec hrev
 have hs1p : s1 < p := by have := (List.getElem?_eq_some_iff.1 k1).1; simp at this; omega
 have hs2p : s2 < p := by have := (List.getElem?_eq_some_iff.1 k2).1; simp at this; omega
 have hnf1 : isFloat ops p s1 o1 = false := by unfold isFloat; rw [hop1]; cases o1.guard <;> rfl
 have hnf2 : isFloat ops p s2 o2 = false := by unfold isFloat; rw [hop2]; cases o2.guard <;> rfl
 have hord : ∀ x y, (rs.map (·.2))[x]? = some true → (rs.map (·.2))[y]? = some true → y ≠ x → ¬ (x = s1 ∧ y = s2) → ¬ (x = s2 ∧ y = s1) → bef ops x y = true ∨ bef ops y x = true := fun x y hx hy hne h1 h2 => drawIx_spec hL hx hy hne h1 h2
 have hoth : ∀ x, (rs.map (·.2))[x]? = some true → x ≠ s1 → x ≠ s2 → bef ops s1 x = true ∧ bef ops s2 x = true := by
  intro x hx hx1 hx2
  have hlt := k8 x hx hx1 hx2
  constructor
  ·rcases hord s1 x k1 hx hx1 (fun h => hx2 h.2) (fun h => hx1 h.2) with h | h
   ·exact h
   ·have := bef_low hlow x s1 h; omega
  ·rcases hord s2 x k2 hx hx2 (fun h => hx2 h.2) (fun h => hx1 h.2) with h | h
   ·exact h
   ·have := bef_low hlow x s2 h; omega
 obtain ⟨v1, lb1, Hc1, A1', q11, q12, q13, q14⟩ := hspec s1 o1 (hpre s1 o1 hs1p hos1)
 obtain ⟨v2, lb2, Hc2, A2', q21, q22, q23, q24⟩ := hspec s2 o2 (hpre s2 o2 hs2p hos2)
 obtain rfl : lb1 = true := by have := k1; simp [q11] at this; exact this
 obtain rfl : lb2 = true := by have := k2; simp [q21] at this; exact this
 rw [Nat.zero_add] at q13 q23
 unfold aOpF at q13 q23
 rw [hnf1] at q13
 rw [hnf2] at q23
 simp only [Bool.false_eq_true, if_false] at q13 q23
 rw [k4, hH1] at q12; cases q12
 have q14 := q14 rfl
 have q24 := q24 rfl
 rw [k4] at q14
 rw [k5, q14] at q22; cases q22
 rw [k5] at q24
 rw [aOp1_store hop1 hg1, hptr1] at q13
 rw [aOp1_store hop2 hg2, hptr2] at q23
 simp only [Option.map_eq_some_iff, Prod.mk.injEq, and_true] at q13 q23
 obtain ⟨_, g1, rfl, rfl⟩ := q13
 obtain ⟨_, g2, rfl, rfl⟩ := q23
 obtain ⟨X1, rfl, u1⟩ := aStore_put g1
 obtain ⟨X2, rfl, u2⟩ := aStore_put hst2
 -- the second one first: then the first one
 have hf1 : aStore P (H1.put b2 X2) t1 (.ptr b1 e1) ((actF (zipR (ops.toList.take p) rs) 0 (fun k => decide (k < s1)) a).eval x1) = some ((H1.put b2 X2).put b1 X1) := u1 _ (put_blks_ne _ _ (fun h => hbb h.symm))
 have hf2 := u2 (H1.put b1 X1) (put_blks_ne _ _ hbb)
 rw [g2] at hf2; cases hf2
 rw [AH.put_comm H1 X1 X2 hbb] at q24
 let sw : (Nat → Bool) → Bool := fun D => D s2 && !D s1
 let hpD : (Nat → Bool) → Option AH := fun D => if sw D then some (H1.put b2 X2) else (A :: hs)[cntF (rs.map (·.2)) 0 D]?
 let zr := zipR (ops.toList.take p) rs
 let Pre : (Nat → Bool) → Act → World → Prop := fun D b' w' => ∃ S' H cf, hpD D = some H ∧ Inv G S' H w' ∧ Fr S A w S' H w' ∧ ARel S' (actF zr 0 D a) b' ∧ Flo P ops p w.heap.size D b' w' S' H cf
 let St : (Nat → Bool) → Act → World → Prop := fun D b' w' => (∃ i0, i0 < p ∧ D i0 = false ∧ Pre D b' w') ∨
  (∃ t, (∀ j, j < p + t → j < ops.size → D j = true) ∧ (∀ j, p + t ≤ j → j < ops.size → D j = false) ∧ p + t ≤ ops.size ∧ wpListIn (fen ro) 0 P ops (OutPost G S A w os) (ops.toList.drop (p + t)) b' w')
 -- the first p are done
 have finish : ∀ (D : Nat → Bool) b' w', (∀ j, j < p → D j = true) → Pre D b' w' → wpListIn (fen ro) 0 P ops (OutPost G S A w os) (ops.toList.drop p) b' w' := by
  intro D b' w' hall ⟨S', H, cf, hH, iH, fH, rH, flo⟩
  have hDt : cntF (rs.map (·.2)) 0 D = cntF (rs.map (·.2)) 0 fun _ => true := Nat.le_antisymm (cntF_mono _ _ fun _ _ _ => rfl) (cntF_mono _ _ fun j hj _ => by
   rw [Nat.zero_add]
   have := (List.getElem?_eq_some_iff.1 hj).1
   exact hall j (by simp at this; omega))
  have hzl : ∀ (l : List Oper) (r : List (AV × Bool)), (zipR l r).length ≤ l.length := by
   intro l
   induction l with
   | nil => intro r; simp [zipR]
   | cons o l ih => intro r; cases r with
    | nil => simp [zipR]
    | cons x r => obtain ⟨v, b⟩ := x; simp only [zipR, List.length_cons]; have := ih r; omega
  have hAt : actF zr 0 D a = actF zr 0 (fun _ => true) a := by
   refine actF_congr _ 0 a fun j hj => ?_
   rw [Nat.zero_add]
   have hz : zr.length ≤ p := by
    show (zipR (ops.toList.take p) rs).length ≤ p
    have := hzl (ops.toList.take p) rs
    omega
   exact hall j (by omega)
  have hsw0 : sw D = false := by simp [sw, hall s1 hs1p]
  simp only [hpD, hsw0, Bool.false_eq_true, if_false] at hH
  rw [hDt, k6] at hH
  rw [hAt] at rH
  rw [hH] at hadopt
  simp only [Option.getD_some] at hadopt
  obtain ⟨S2, i2, f2, r2⟩ := adopt_ok (cf := cf) (sz0 := w.heap.size) rfl _ _ _ _ _ _ hadopt (fun j o hj => by rw [Nat.zero_add]; exact (hpre' j o hj).2) (by rw [hprel]; omega) S' iH fH rH (flo.fewer fun j hj _ => hall j hj)
  exact wpListIn_mono (fun _ _ _ h => h.from f2 fun _ h => h) _ _ _ (hm.ops _ _ _ _ _ _ hx S2 w' b' ro i2 r2 (hr.mono f2.le))
 refine wpIn_region_any hmix ?_
 refine order_any St hlow ?_ ?_ ops.size _ b _ (by simp) ?_ ?_ ?_
 ·intro D i o hD ho hDi hrdy b' w' hst
  have hil := (Array.getElem?_eq_some_iff.1 ho).1
  obtain ⟨h1, h2⟩ := look D i o hD ho hDi hrdy
  rcases hst with ⟨i0, hi0, hDi0, hpre0⟩ | ⟨t, ht1, ht2, ht3, hw⟩
  ·-- one of the first p
   have hip : i < p := by
    rcases Nat.lt_or_ge i p with h' | h'
    ·exact h'
    ·have := h1 i0 (htail i h' hil i0 (by omega))
     rw [hDi0] at this; cases this
   obtain ⟨S', H, cf, hH, iH, fH, rH, flo⟩ := hpre0
   have hol : (ops.toList.take p)[i]? = some o := hpre i o hip ho
   obtain ⟨v, lb, Hc, A', q1, q2, q3, q4⟩ := hspec i o hol
   rw [Nat.zero_add] at q3
   suffices hsuf : wpOpIn (fen ro) 0 P ops (OutPost G S A w os) i (Pre (addD D i)) b' w' by
    refine wpOpIn_mono ?_ hsuf
    intro b2 w2 hp2
    by_cases hex : ∃ i1, i1 < p ∧ addD D i i1 = false
    ·obtain ⟨i1, hi1, hd1⟩ := hex
     exact .inl ⟨i1, hi1, hd1, hp2⟩
    ·have hall : ∀ j, j < p → addD D i j = true := fun j hj => by
      cases hd : addD D i j with
      | true => rfl
      | false => exact absurd ⟨j, hj, hd⟩ hex
     refine .inr ⟨0, fun j hj _ => hall j (by omega), fun j hj hjs => ?_, by omega, by simpa using finish _ _ _ hall hp2⟩
     simp only [addD, Bool.or_eq_false_iff, beq_eq_false_iff_ne]
     refine ⟨?_, by omega⟩
     cases hd : D j with
     | false => rfl
     | true =>
      have := h2 j hd
      rw [htail j (by omega) hjs i (by omega)] at this; cases this
   -- whoever writes what it names
   have hwr : ∀ j t, (ops[j]?).bind (·.dst) = some t → t ∈ namesOf ops o → D j = decide (j < i) := by
    intro j t hj ht
    by_cases hji : j = i
    ·subst hji; simp [hDi]
    ·rcases hnames i j o t ho hj hji ht with hb | hb
     ·rw [h1 j hb]; simp [bef_low hlow i j hb]
     ·have hlt := bef_low hlow j i hb
      have : D j = false := by
       cases hd : D j with
       | false => rfl
       | true => rw [h2 j hd] at hb; cases hb
      rw [this]; simp; omega
   have hget : ∀ t, t ∈ namesOf ops o → (actF zr 0 D a).tmps[t]? = (actF zr 0 (fun j => decide (j < i)) a).tmps[t]? := by
    intro t ht
    refine actF_get _ 0 a a rfl rfl fun j p' hp' hpt => ?_
    obtain ⟨oj, ho1, ho2⟩ := zipR_inv _ _ _ _ hp'
    rw [Nat.zero_add]
    exact hwr j t (by rw [(hpre' j oj ho1).2]; simp [ho2, hpt]) ht
   have halike : Alike ops o (actF zr 0 D a) (actF zr 0 (fun j => decide (j < i)) a) := by
    refine ⟨fun x hx => ?_, fun p' hp' t ht => ?_⟩
    ·cases x with
     | tmp t =>
      have := hget t (by
       unfold namesOf
       refine List.mem_append_left _ (List.mem_append_right _ (List.mem_filterMap.2 ⟨.tmp t, by simpa using hx, rfl⟩)))
      simp only [AAct.eval, AAct.get, nthR_eq, this]
     | const v => rfl
     | global g => rfl
     | func f => rfl
    ·refine hget t ?_
     unfold namesOf
     refine List.mem_append_right _ ?_
     rw [hp']
     obtain ⟨j, want⟩ := p'
     simp only at ht ⊢
     rw [ht]; simp
   have hlb : (rs.map (·.2))[i]? = some lb := by simp [q1]
   have hact : actF zr 0 (addD D i) a = (actF zr 0 D a).put o.dst v := by
    have := actF_add (D := D) zr i 0 a (zipR_get _ _ _ _ _ _ hol q1) (by simpa using hDi) (fun j p' hij hp' hj => by
     intro t ht hpt
     obtain ⟨oj, ho1, ho2⟩ := zipR_inv _ _ _ _ hp'
     rw [Nat.zero_add] at hj
     have := hwr j t (by rw [(hpre' j oj ho1).2]; simp [ho2, hpt]) (by unfold namesOf; refine List.mem_append_left _ (List.mem_append_left _ ?_); rw [ht]; simp)
     rw [hj] at this
     simp at this; omega)
    simpa using this
   have hcnt := cntF_add (D := D) (rs.map (·.2)) i 0 hlb (by simpa using hDi)
   simp only [Nat.zero_add] at hcnt
   have hpQ : (rs.map (·.2))[i]? ≠ some true → hpD (addD D i) = hpD D := by
    intro hq
    have h1' : i ≠ s1 := by rintro rfl; exact hq k1
    have h2' : i ≠ s2 := by rintro rfl; exact hq k2
    have hl : lb = false := by cases lb with | false => rfl | true => exact absurd hlb hq
    subst hl
    simp only [Bool.false_eq_true, if_false, Nat.add_zero] at hcnt
    have hsw1 : sw (addD D i) = sw D := by
     show (addD D i s2 && !addD D i s1) = (D s2 && !D s1)
     have e1 : (s1 == i) = false := beq_eq_false_iff_ne.2 (Ne.symm h1')
     have e2 : (s2 == i) = false := beq_eq_false_iff_ne.2 (Ne.symm h2')
     simp [addD, e1, e2]
    simp only [hpD, hsw1, hcnt]
   cases hfl : isFloat ops p i o with
   | true =>
    obtain ⟨t, d, hg, hop, hdst, hnm⟩ := isFloat_spec hfl
    obtain ⟨x, hz⟩ := adopt_zero _ _ _ _ _ _ hadopt i o t hol (by rw [Nat.zero_add]; exact hfl) hop
    obtain ⟨z, hxz, hrunz⟩ := run_alloc hz w'
    unfold aOpF at q3
    rw [if_pos hfl] at q3
    cases q3
    simp only [Bool.false_eq_true, if_false, Nat.add_zero] at hcnt
    have hnd : ∀ c, o.op ≠ .defer c := by intro c hc; rw [hop] at hc; cases hc
    unfold wpOpIn
    rw [ho]
    simp only
    have hwant : Region.wanted o (yielded ops b'.tmps) = true := by simp [Region.wanted, hg]
    rw [hwant]
    simp only [if_true]
    refine ⟨fun _ _ => trivial, ?_⟩
    rw [Oper.semAt_eq _ _ _ hnd]
    simp only [execOp, hop, Sem.run_bind, hrunz, Result.andThen_ok, Sem.run_pure, Oper.uponIn]
    obtain ⟨i2, f2⟩ := iH.idle (.cells ⟨z.cells.toList⟩ t (0, 0))
    refine ⟨S', H, _, by rw [hpQ (by rw [hlb]; simp)]; exact hH, i2, fH.trans f2, ?_, flo.lay rfl iH fH ho hip hDi hfl hop hz hxz⟩
    rw [hact]
    exact rH.put _ (.top _)
   | false =>
    have hopF : ∀ a A, aOpF P G pf m rd ops p i a A o = aOp1 P G pf m rd ops a A o := fun a A => by unfold aOpF; rw [hfl]; rfl
    rw [hopF] at q3
    have fin : ∀ A2, aOp1 P G pf m rd ops (actF zr 0 D a) H o = some (v, A2, lb) → hpD (addD D i) = some A2 → wpOpIn (fen ro) 0 P ops (OutPost G S A w os) i (Pre (addD D i)) b' w' := by
     intro A2 hop hA2
     refine aOp1_ok hm hpf hop iH rH (hr.mono fH.le) ho ?_
     intro S2 u w2 i2 f2 v2
     refine ⟨S2, A2, cf, hA2, i2, fH.trans f2, ?_, flo.keep f2 ho hip hDi hfl u⟩
     rw [hact]
     exact (rH.mono f2.le).put _ v2
    cases lb with
    | true =>
     have gen : (∀ j, (rs.map (·.2))[j]? = some true → D j = decide (j < i)) → sw D = false → sw (addD D i) = false → wpOpIn (fen ro) 0 P ops (OutPost G S A w os) i (Pre (addD D i)) b' w' := by
      intro hone hsw hsw'
      have hceq : cntF (rs.map (·.2)) 0 D = cntF (rs.map (·.2)) 0 fun j => decide (j < i) := by
       refine Nat.le_antisymm (cntF_mono _ _ fun j hj hd => ?_) (cntF_mono _ _ fun j hj hd => ?_)
       ·rw [Nat.zero_add] at hd ⊢; rw [← hone j hj]; exact hd
       ·rw [Nat.zero_add] at hd ⊢; rw [hone j hj]; exact hd
      simp only [hpD, hsw, Bool.false_eq_true, if_false] at hH
      rw [hceq, q2] at hH
      cases hH
      refine fin A' ?_ ?_
      ·rw [aOp1_congr halike]; exact q3
      ·simp only [hpD, hsw', Bool.false_eq_true, if_false]
       rw [hcnt, hceq]; exact q4 rfl
     by_cases hi1 : i = s1
     ·cases hD2 : D s2 with
      | false =>
       refine gen (fun j hj => ?_) (by simp [sw, hD2]) (by show (addD D i s2 && !addD D i s1) = false; simp [addD, hi1])
       by_cases hj1 : j = s1
       ·rw [hj1, ← hi1, hDi]; simp
       ·by_cases hj2 : j = s2
        ·rw [hj2, hD2]; simp; omega
        ·have hb := (hoth j hj hj1 hj2).1
         rw [← hi1] at hb
         rw [h1 j hb]
         have := k8 j hj hj1 hj2
         simp; omega
      | true =>
       have hsw : sw D = true := by show (D s2 && !D s1) = true; rw [← hi1, hD2, hDi]; rfl
       simp only [hpD, hsw, if_true] at hH
       cases hH
       have hoe : o = o1 := by rw [hi1, hos1] at ho; exact (Option.some.inj ho).symm
       have hve : v = .top := by
        rw [hi1] at q1
        have := q1.symm.trans q11
        simp at this; exact this
       refine fin ((H1.put b2 X2).put b1 X1) ?_ ?_
       ·rw [aOp1_congr halike, hoe, hve, aOp1_store hop1 hg1, hi1]
        show (aStore P (H1.put b2 X2) t1 ((actF (zipR (ops.toList.take p) rs) 0 (fun k => decide (k < s1)) a).eval p1) ((actF (zipR (ops.toList.take p) rs) 0 (fun k => decide (k < s1)) a).eval x1)).map (fun H' => (AV.top, H', true)) = _
        rw [hptr1, hf1]; rfl
       ·have hsw' : sw (addD D i) = false := by show (addD D i s2 && !addD D i s1) = false; simp [addD, hi1]
        simp only [hpD, hsw', Bool.false_eq_true, if_false]
        have htot : cntF (rs.map (·.2)) 0 (addD D i) = cntF (rs.map (·.2)) 0 fun _ => true := by
         refine Nat.le_antisymm (cntF_mono _ _ fun _ _ _ => rfl) (cntF_mono _ _ fun j hj _ => ?_)
         rw [Nat.zero_add]
         by_cases hj1 : j = s1
         ·simp [addD, hj1, hi1]
         ·by_cases hj2 : j = s2
          ·simp [addD, hj2, hD2]
          ·have := bef_down hlow hD s2 j hD2 (hoth j hj hj1 hj2).2
           simp [addD, this]
        rw [htot, k6]; exact q24
     ·by_cases hi2 : i = s2
      ·cases hD1 : D s1 with
       | true =>
        refine gen (fun j hj => ?_) (by show (D s2 && !D s1) = false; rw [hD1]; simp) (by show (addD D i s2 && !addD D i s1) = false; simp [addD, hD1])
        by_cases hj1 : j = s1
        ·rw [hj1, hD1]; simp; omega
        ·by_cases hj2 : j = s2
         ·rw [hj2, ← hi2, hDi]; simp
         ·have hb := (hoth j hj hj1 hj2).2
          rw [← hi2] at hb
          rw [h1 j hb]
          have := k8 j hj hj1 hj2
          simp; omega
       | false =>
        have hsw : sw D = false := by show (D s2 && !D s1) = false; rw [← hi2, hDi]; rfl
        simp only [hpD, hsw, Bool.false_eq_true, if_false] at hH
        have hone : ∀ j, (rs.map (·.2))[j]? = some true → D j = decide (j < s1) := by
         intro j hj
         by_cases hj1 : j = s1
         ·rw [hj1, hD1]; simp
         ·by_cases hj2 : j = s2
          ·rw [hj2, ← hi2, hDi]; simp; omega
          ·have hb := (hoth j hj hj1 hj2).2
           rw [← hi2] at hb
           rw [h1 j hb]
           have := k8 j hj hj1 hj2
           simp; omega
        have hceq : cntF (rs.map (·.2)) 0 D = cntF (rs.map (·.2)) 0 fun j => decide (j < s1) := by
         refine Nat.le_antisymm (cntF_mono _ _ fun j hj hd => ?_) (cntF_mono _ _ fun j hj hd => ?_)
         ·rw [Nat.zero_add] at hd ⊢; rw [← hone j hj]; exact hd
         ·rw [Nat.zero_add] at hd ⊢; rw [hone j hj]; exact hd
        rw [hceq, k4, hH1] at hH
        cases hH
        have hoe : o = o2 := by rw [hi2, hos2] at ho; exact (Option.some.inj ho).symm
        have hve : v = .top := by
         rw [hi2] at q1
         have := q1.symm.trans q21
         simp at this; exact this
        refine fin (H1.put b2 X2) ?_ ?_
        ·rw [aOp1_congr halike, hoe, hve, aOp1_store hop2 hg2, hi2]
         show (aStore P H1 t2 ((actF (zipR (ops.toList.take p) rs) 0 (fun k => decide (k < s2)) a).eval p2) ((actF (zipR (ops.toList.take p) rs) 0 (fun k => decide (k < s2)) a).eval x2)).map (fun H' => (AV.top, H', true)) = _
         rw [hptr2, hst2]; rfl
        ·have hsw' : sw (addD D i) = true := by
          show (addD D i s2 && !addD D i s1) = true
          simp [addD, hi2, hD1]; omega
         simp only [hpD, hsw', if_true]
      ·have hb := hoth i hlb hi1 hi2
       have hD1 : D s1 = false := by
        cases hd : D s1 with
        | false => rfl
        | true => have := h2 s1 hd; rw [hb.1] at this; cases this
       have hD2 : D s2 = false := by
        cases hd : D s2 with
        | false => rfl
        | true => have := h2 s2 hd; rw [hb.2] at this; cases this
       have hlt := k8 i hlb hi1 hi2
       refine gen (fun j hj => ?_) (by show (D s2 && !D s1) = false; rw [hD2]; rfl) (by show (addD D i s2 && !addD D i s1) = false; simp [addD, hD2, Ne.symm hi2])
       by_cases hji : j = i
       ·subst hji; simp [hDi]
       ·by_cases hj1 : j = s1
        ·rw [hj1, hD1]; simp; omega
        ·by_cases hj2 : j = s2
         ·rw [hj2, hD2]; simp; omega
         ·rcases hord i j hlb hj hji (fun h => hi1 h.1) (fun h => hi2 h.1) with hb | hb
          ·rw [h1 j hb]; simp [bef_low hlow i j hb]
          ·have hlt := bef_low hlow j i hb
           have : D j = false := by
            cases hd : D j with
            | false => rfl
            | true => rw [h2 j hd] at hb; cases hb
           rw [this]; simp; omega
    | false =>
     have hnq : (rs.map (·.2))[i]? ≠ some true := by rw [hlb]; simp
     cases hsw : sw D with
     | true =>
      simp only [hpD, hsw, if_true] at hH
      cases hH
      have hD12 : D s2 = true ∧ D s1 = false := by
       have : (D s2 && !D s1) = true := hsw
       simpa using this
      rcases winAlt_spec _ _ _ _ hA i o v hol q1 with h | h | ⟨A'', h⟩
      ·rw [Nat.zero_add] at h
       have := h1 s1 h
       rw [hD12.2] at this; cases this
      ·rw [Nat.zero_add] at h
       have := h2 s2 hD12.1
       rw [h] at this; cases this
      ·rw [Nat.zero_add, hopF] at h
       have := quiet_heap h
       subst this
       exact fin _ (by rw [aOp1_congr halike]; exact h) (by rw [hpQ hnq]; simp only [hpD, hsw, if_true])
     | false =>
     simp only [hpD, hsw, Bool.false_eq_true, if_false] at hH
     simp only [Bool.false_eq_true, if_false, Nat.add_zero] at hcnt
     have hlo : cntF (rs.map (·.2)) 0 (bef ops i) ≤ cntF (rs.map (·.2)) 0 D := cntF_mono _ _ fun j _ hj => by rw [Nat.zero_add] at hj ⊢; exact h1 j hj
     have hhi : cntF (rs.map (·.2)) 0 D ≤ cntF (rs.map (·.2)) 0 fun j => !bef ops j i := cntF_mono _ _ fun j _ hj => by rw [Nat.zero_add] at hj ⊢; rw [h2 j hj]; rfl
     have hw := hwin i o v hol q1
     rw [Nat.zero_add] at hw
     have hop : aOp1 P G pf m rd ops (actF zr 0 D a) H o = some (v, H, false) := by
      rw [aOp1_congr halike]
      unfold winOne at hw
      rw [cntI_idxs, cntI_idxs] at hw
      simp only [Bool.or_eq_true, decide_eq_true_eq] at hw
      rcases hw with hw | hw
      ·have hclo : cntF (rs.map (·.2)) 0 (bef ops i) ≤ cntF (rs.map (·.2)) 0 fun j => decide (j < i) := cntF_mono _ _ fun j _ hj => by rw [Nat.zero_add] at hj ⊢; simp [bef_low hlow i j hj]
       have hchi : (cntF (rs.map (·.2)) 0 fun j => decide (j < i)) ≤ cntF (rs.map (·.2)) 0 fun j => !bef ops j i := cntF_mono _ _ fun j _ hj => by
        rw [Nat.zero_add] at hj ⊢
        cases hb : bef ops j i with
        | false => rfl
        | true => have := bef_low hlow j i hb; simp at hj; omega
       have hce : cntF (rs.map (·.2)) 0 D = cntF (rs.map (·.2)) 0 fun j => decide (j < i) := by omega
       rw [hce, q2] at hH
       cases hH
       have := quiet_heap q3
       subst this
       exact q3
      ·have hmem : H ∈ ((A :: hs).drop (cntF (rs.map (·.2)) 0 (bef ops i))).take ((cntF (rs.map (·.2)) 0 fun j => !bef ops j i) + 1 - cntF (rs.map (·.2)) 0 (bef ops i)) := by
        refine List.mem_of_getElem? (i := cntF (rs.map (·.2)) 0 D - cntF (rs.map (·.2)) 0 (bef ops i)) ?_
        rw [List.getElem?_take, if_pos (by omega), List.getElem?_drop, show cntF (rs.map (·.2)) 0 (bef ops i) + (cntF (rs.map (·.2)) 0 D - cntF (rs.map (·.2)) 0 (bef ops i)) = cntF (rs.map (·.2)) 0 D by omega]
        exact hH
       have := List.all_eq_true.1 hw H hmem
       rw [hopF] at this
       split at this
       ·rename_i v' A2 l' hop
        simp only [Bool.and_eq_true, Bool.not_eq_true'] at this
        obtain ⟨rfl, he⟩ := this
        have := eqv_eq _ _ he
        subst this
        have := quiet_heap hop
        subst this
        exact hop
       ·cases this
     exact fin H hop (by rw [hpQ hnq]; simp only [hpD, hsw, Bool.false_eq_true, if_false]; exact hH)
  ·-- one of the others
   have hit : i = p + t := by
    rcases Nat.lt_trichotomy i (p + t) with h' | h' | h'
    ·have := ht1 i h' hil
     rw [hDi] at this; cases this
    ·exact h'
    ·have hpt : p + t < ops.size := by omega
     have := h1 (p + t) (htail i (by omega) hil (p + t) h')
     rw [ht2 (p + t) (Nat.le_refl _) hpt] at this; cases this
   subst hit
   have hdrop : ops.toList.drop (p + t) = o :: ops.toList.drop (p + (t + 1)) := by
    have : ops.toList[p + t]? = some o := by simpa using ho
    rw [show p + (t + 1) = p + t + 1 by omega]
    exact (List.drop_eq_getElem?_toList_append).trans (by rw [this]; rfl)
   rw [hdrop] at hw
   refine wpOpIn_mono (K := wpListIn (fen ro) 0 P ops (OutPost G S A w os) (ops.toList.drop (p + (t + 1)))) ?_ ?_
   ·intro b2 w2 h
    refine .inr ⟨t + 1, fun j hj hjs => ?_, fun j hj hjs => ?_, by omega, h⟩
    ·simp only [addD, Bool.or_eq_true, beq_iff_eq]
     by_cases hji : j = p + t
     ·exact .inr hji
     ·exact .inl (ht1 j (by omega) hjs)
    ·simp only [addD, Bool.or_eq_false_iff, beq_eq_false_iff_ne]
     exact ⟨ht2 j (by omega) hjs, by omega⟩
   ·unfold wpOpIn
    rw [ho]
    exact hw
 ·intro D b' w' hall hst
  rcases hst with ⟨i0, hi0, hDi0, _⟩ | ⟨t, ht1, ht2, ht3, hw⟩
  ·rw [hall i0 (by omega)] at hDi0; cases hDi0
  ·have : p + t = ops.size := by
    rcases Nat.lt_or_ge (p + t) ops.size with h' | h'
    ·have := ht2 (p + t) (Nat.le_refl _) h'
     rw [hall (p + t) h'] at this; cases this
    ·omega
   rw [this, List.drop_eq_nil_of_le (by simp)] at hw
   exact hw
 ·have : ((Array.replicate ops.size false).toList.countP fun x => !x) ≤ (Array.replicate ops.size false).toList.length := List.countP_le_length
  simpa using this
 ·intro j o ho hj
  simp [inn, Array.getD_eq_getD_getElem?, Array.getElem?_replicate] at hj
  split at hj <;> simp at hj
 ·obtain ⟨i1, f1⟩ := hi.drew (w.drawn + 1)
  have hz : ∀ j, inn (Array.replicate ops.size false) j = false := by
   intro j
   simp only [inn, Array.getD_eq_getD_getElem?, Array.getElem?_replicate]
   split <;> rfl
  have hpre0 : Pre (inn (Array.replicate ops.size false)) b { w with drawn := w.drawn + 1 } := by
   refine ⟨S, A, fun _ => 0, ?_, i1, f1, ?_, ?_, ?_⟩
   ·have hsw : sw (inn (Array.replicate ops.size false)) = false := by show (inn (Array.replicate ops.size false) s2 && _) = false; rw [hz s2]; rfl
    simp only [hpD, hsw, Bool.false_eq_true, if_false]
    rw [cntF_none _ _ _ hz]; rfl
   ·rw [actF_none _ _ _ _ hz]; exact hab
   ·intro i o t d _ _ _ hD
    rw [hz] at hD; cases hD
   ·intro i j oi oj _ _ _ _ _ _ hD
    rw [hz] at hD; cases hD
  by_cases hp0 : p = 0
  ·refine .inr ⟨0, fun j hj _ => by omega, fun j _ _ => hz j, by omega, ?_⟩
   have := finish _ _ _ (fun j hj => by omega) hpre0
   simpa using this
  ·exact .inl ⟨0, by omega, hz 0, hpre0⟩
theorem aDrawS_ok (hm : Mc.Ok P G m) (hpf : ∀ f args es, pf f args = some es → QCall P G f args es) (hmix : P.follows .mixedOrders = true) {a : AAct} {A : AH} {os : List AOut} (hx : aDrawS P G pf m rd ops a A = some os)
  {S : Sh} {w : World} {b : Act} {ro : Option Nat} (hi : Inv G S A w) (hab : ARel S a b) (hr : RdRel S rd ro) (id : Nat) : (Code.region id ops true).wpIn (fen ro) 0 P (OutPost G S A w os) b w := by
 unfold aDrawS at hx
 simp only at hx
 obtain ⟨hp, htail⟩ := tail_spec (ops := ops) ops.size
 generalize tailStart ops ops.size = p at hx hp htail
 split at hx
 ·rename_i rs hs hrun
  split at hx
  ·rename_i s2 s1 R hrev
   split at hx
   ·rename_i o1 o2 H1 hos1 hos2 hH1
    split at hx
    ·rename_i t1 p1 x1 t2 p2 x2 hop1 hop2 hg1 hg2
     split at hx
     ·rename_i b1 e1 b2 e2 hptr1 hptr2
      split at hx
      ·rename_i H2 hst2
       split at hx
       ·rename_i hc
        split at hx
        ·rename_i a2 A2 hadopt
         exact aDrawS_core hm hpf hmix hi hab hr id hp htail hrun hrev hos1 hos2 hH1 hop1 hop2 hg1 hg2 hptr1 hptr2 hst2 hc hadopt hx
        ·cases hx
       ·cases hx
      ·cases hx
     ·cases hx
    ·cases hx
   ·cases hx
  ·cases hx
 ·cases hx
end
end Go.Am
end
section
noncomputable section
namespace Go.Am
open Go
theorem Inv.fill {G : Gl} {S : Sh} {A : AH} {w : World} (h : Inv G S A w) {i : Nat} {x : ABlk} {o : Obj} (hd : A.blks[i]? = some .dead) (hn : S.ρ i = none) (hr : BRel (S.at i w.heap.size) x o) :
  Inv G (S.at i w.heap.size) (A.put i x) { w with heap := w.heap.push o } ∧ S.le (S.at i w.heap.size) ∧ ∀ b, Owned (S.at i w.heap.size) (A.put i x) b → b < w.heap.size → Owned S A b := by
 have hlt : i < A.blks.length := (List.getElem?_eq_some_iff.1 hd).1
 have hle := Sh.le_at hn w.heap.size
 have getI : (A.put i x).blks[i]? = some x := by simp [AH.put, hlt]
 have getN : ∀ j, j ≠ i → (A.put i x).blks[j]? = A.blks[j]? := fun j hj => by simp [AH.put, Ne.symm hj]
 have liveNew : ∀ {j}, (A.put i x).live j → A.live j ∨ j = i := by
  rintro j ⟨y, hy, hdy⟩
  by_cases hj : j = i
  ·exact .inr hj
  ·rw [getN j hj] at hy; exact .inl ⟨y, hy, hdy⟩
 have ne : ∀ {j}, A.live j → j ≠ i := by
  rintro j ⟨y, hy, hdy⟩ rfl
  rw [hd] at hy; cases hy; exact hdy rfl
 have ρold : ∀ {j}, A.live j → (S.at i w.heap.size).ρ j = S.ρ j := fun hj => by
  simp only [Sh.at]; rw [if_neg (ne hj)]
 have ownedLt : ∀ {j c}, A.live j → S.ρ j = some c → c < w.heap.size := fun hj hc => h.lt (.inl ⟨_, hj, hc⟩)
 refine ⟨⟨fun b o v hv => cell?_push (h.im b o v hv), ?_, ?_, ?_, h.fam, ?_, h.famInj, ?_, h.tlout, ?_, fun c n hn => let ⟨cs, el, h1, h2⟩ := h.rm c n hn; ⟨cs, el, push_old h1, h2⟩⟩, hle, ?_⟩
 ·intro j y hy hdy
  by_cases hj : j = i
  ·subst hj
   rw [getI] at hy; cases hy
   exact ⟨w.heap.size, o, by simp [Sh.at], by simp, hr⟩
  ·rw [getN j hj] at hy
   obtain ⟨c, o', h1, h2, h3⟩ := h.blk j y hy hdy
   refine ⟨c, o', ?_, push_old h2, h3.mono hle⟩
   simp only [Sh.at]; rw [if_neg hj]; exact h1
 ·intro j k c hj hk h1 h2
  rcases liveNew hj with hj' | rfl <;> rcases liveNew hk with hk' | rfl
  ·rw [ρold hj'] at h1; rw [ρold hk'] at h2; exact h.inj j k c hj' hk' h1 h2
  ·rw [ρold hj'] at h1
   have := ownedLt hj' h1
   simp [Sh.at] at h2; omega
  ·rw [ρold hk'] at h2
   have := ownedLt hk' h2
   simp [Sh.at] at h1; omega
  ·rfl
 ·intro j c o' hj hc
  rcases liveNew hj with hj' | rfl
  ·rw [ρold hj'] at hc; exact h.free j c o' hj' hc
  ·simp [Sh.at] at hc; subst hc
   cases him : S.im w.heap.size o' with
   | none => exact him
   | some v => exact absurd (h.imlt him) (by omega)
 ·intro φ b ec room he
  obtain ⟨⟨c, el, h1, h2⟩, h3, h4⟩ := h.room φ b ec room he
  refine ⟨⟨c, el, push_old h1, h2⟩, h3, fun j hj => ?_⟩
  rcases liveNew hj with hj' | rfl
  ·rw [ρold hj']; exact h4 j hj'
  ·have := (Array.getElem?_eq_some_iff.1 h1).1
   simp [Sh.at]; omega
 ·intro j hj
  simp only [AH.put, List.length_set] at hj
  simp only [Sh.at]; rw [if_neg (by omega)]; exact h.ρout j hj
 ·exact fun g o x hg => let ⟨v, h1, h2⟩ := h.glob g o x hg; ⟨v, h1, h2.mono hle.bare⟩
 ·intro b ho hb
  rcases ho with ⟨j, hj, hr'⟩ | ho
  ·rcases liveNew hj with hj' | rfl
   ·rw [ρold hj'] at hr'; exact .inl ⟨j, hj', hr'⟩
   ·simp [Sh.at] at hr'; omega
  ·exact .inr ho
theorem Fr.fill {S0 S : Sh} {A0 A : AH} {w0 w : World} (h : Fr S0 A0 w0 S A w) {i : Nat} {x : ABlk} (o : Obj) (hn : S.ρ i = none) (hi : A0.blks.length ≤ i) (hown : ∀ b, Owned (S.at i w.heap.size) (A.put i x) b → b < w.heap.size → Owned S A b) :
  Fr S0 A0 w0 (S.at i w.heap.size) (A.put i x) { w with heap := w.heap.push o } := by
 refine ⟨h.le.trans (Sh.le_at hn _), Nat.le_trans h.size (by simp), h.os, h.tape, h.output, ?_, ?_, fun b o v hv => h.imNew b o v hv, Nat.le_trans h.len (by simp [AH.put]), ?_⟩
 ·intro b hb hno
  have := h.size
  rw [← h.keep b hb hno]
  simp only [Array.getElem?_push]
  rw [if_neg (by omega)]
 ·intro b ho hb
  exact h.own b (hown b ho (Nat.lt_of_lt_of_le hb h.size)) hb
 ·intro j c hc
  rcases ρnew_at _ _ j c hc with h1 | h1
  ·exact h.ρnew j c h1
  ·exact .inr (Nat.le_trans hi h1)
def resH (A : AH) (L : List ABlk) : AH := { A with blks := A.blks ++ L }
theorem resH_dead {G : Gl} {S : Sh} {A : AH} {w : World} (h : Inv G S A w) (n : Nat) : Inv G S (resH A (List.replicate n ABlk.dead)) w ∧ Fr S A w S (resH A (List.replicate n ABlk.dead)) w := by
 have get : ∀ (i : Nat) (x : ABlk), (resH A (List.replicate n ABlk.dead)).blks[i]? = some x → x ≠ ABlk.dead → A.blks[i]? = some x := by
  intro i x hx hd
  simp only [resH, List.getElem?_append] at hx
  split at hx
  ·exact hx
  ·rw [List.getElem?_replicate] at hx
   split at hx
   ·cases hx; exact absurd rfl hd
   ·cases hx
 have live : ∀ {i}, (resH A (List.replicate n ABlk.dead)).live i → A.live i := fun ⟨x, hx, hd⟩ => ⟨x, get _ x hx hd, hd⟩
 refine ⟨⟨h.im, fun i x hx hd => h.blk i x (get i x hx hd) hd, fun i j c hi hj => h.inj i j c (live hi) (live hj), fun i c o hi => h.free i c o (live hi), h.fam, ?_, h.famInj, fun i hi => h.ρout i (by simp [resH] at hi; omega), h.tlout, h.glob, h.rm⟩,
  ⟨.refl _, Nat.le_refl _, rfl, rfl, rfl, fun _ _ _ => rfl, ?_, fun _ _ _ h => .inl h, by simp [resH], fun _ _ h => .inl h⟩⟩
 ·exact fun φ b ec room he => let ⟨h1, h2, h3⟩ := h.room φ b ec room he; ⟨h1, h2, fun i hi => h3 i (live hi)⟩
 ·rintro b (⟨i, hi, hr⟩ | ho) _
  ·exact .inl ⟨i, live hi, hr⟩
  ·exact .inr ho
def resOp (o : Oper) : Bool :=
 match o.guard, o.op with
 | none, .alloc _ => true
 | none, .box _ _ => true
 | none, .makeMap _ none => true
 | _, _ => false
abbrev REs := List (AV × Option ABlk)
def resL : REs → Nat → (Nat → Bool) → List ABlk
 | [], _, _ => []
 | (_, none) :: l, k, D => resL l (k + 1) D
 | (_, some X) :: l, k, D => (if D k then X else .dead) :: resL l (k + 1) D
def resP : REs → Nat → Nat
 | [], _ => 0
 | _ :: _, 0 => 0
 | (_, none) :: l, i + 1 => resP l i
 | (_, some _) :: l, i + 1 => resP l i + 1
theorem resL_congr {D D' : Nat → Bool} : ∀ (es : REs) (k : Nat), (∀ j, j < es.length → D (k + j) = D' (k + j)) → resL es k D = resL es k D'
 | [], _, _ => rfl
 | (v, x) :: es, k, h => by
  have h0 := h 0 (by simp)
  simp only [Nat.add_zero] at h0
  have ih := resL_congr (D := D) (D' := D') es (k + 1) fun j hj => by have := h (j + 1) (by simp; omega); rw [show k + 1 + j = k + (j + 1) by omega]; exact this
  cases x <;> simp only [resL, h0, ih]
theorem resL_quiet {D : Nat → Bool} : ∀ (es : REs) (i k : Nat) (v : AV), es[i]? = some (v, none) → resL es k (addD D (k + i)) = resL es k D
 | [], i, _, _, h => by simp at h
 | (u, x) :: es, 0, k, v, h => by
  simp at h
  obtain ⟨rfl, rfl⟩ := h
  simp only [resL, Nat.add_zero]
  exact resL_congr (D := addD D k) (D' := D) es (k + 1) fun j _ => by simp [addD]; omega
 | (u, x) :: es, i + 1, k, v, h => by
  have ih := resL_quiet (D := D) es i (k + 1) v (by simpa using h)
  rw [show k + 1 + i = k + (i + 1) by omega] at ih
  have hk : addD D (k + (i + 1)) k = D k := by simp [addD]
  cases x <;> simp only [resL, hk, ih]
theorem resL_add {D : Nat → Bool} : ∀ (es : REs) (i k : Nat) (v : AV) (X : ABlk), es[i]? = some (v, some X) → D (k + i) = false →
  resL es k (addD D (k + i)) = (resL es k D).set (resP es i) X ∧ (resL es k D)[resP es i]? = some .dead
 | [], i, _, _, _, h, _ => by simp at h
 | (u, x) :: es, 0, k, v, X, h, hD => by
  simp at h
  obtain ⟨rfl, rfl⟩ := h
  simp only [Nat.add_zero] at hD
  have hk : addD D k k = true := by simp [addD]
  simp only [resL, resP, Nat.add_zero, hk, hD, if_true, Bool.false_eq_true, if_false, List.set_cons_zero, List.getElem?_cons_zero, and_true]
  rw [resL_congr (D := addD D k) (D' := D) es (k + 1) fun j _ => by simp [addD]; omega]
 | (u, x) :: es, i + 1, k, v, X, h, hD => by
  obtain ⟨h1, h2⟩ := resL_add (D := D) es i (k + 1) v X (by simpa using h) (by rw [show k + 1 + i = k + (i + 1) by omega]; exact hD)
  rw [show k + 1 + i = k + (i + 1) by omega] at h1
  have hk : addD D (k + (i + 1)) k = D k := by simp [addD]
  cases x <;> simp only [resL, resP, hk, h1, List.set_cons_succ, List.getElem?_cons_succ, true_and] <;> exact h2
theorem resP_lt : ∀ (es : REs) (i j : Nat) (v : AV) (X : ABlk), i < j → es[i]? = some (v, some X) → j < es.length → resP es i < resP es j
 | [], _, _, _, _, _, h, _ => by simp at h
 | (u, x) :: es, 0, j + 1, v, X, _, h, _ => by
  simp at h
  obtain ⟨rfl, rfl⟩ := h
  simp [resP]
 | (u, x) :: es, i + 1, j + 1, v, X, hij, h, hj => by
  have := resP_lt es i j v X (by omega) (by simpa using h) (by simpa using hj)
  cases x <;> simp only [resP] <;> omega
theorem resL_none {D : Nat → Bool} (hD : ∀ j, D j = false) : ∀ (es : REs) (k : Nat), resL es k D = List.replicate (es.countP fun e => e.2.isSome) ABlk.dead
 | [], _ => rfl
 | (v, none) :: es, k => by simp [resL, resL_none hD es (k + 1)]
 | (v, some X) :: es, k => by simp [resL, resL_none hD es (k + 1), hD, List.replicate_succ]
section
variable (P : Program) (G : Gl) (pf : PF) (m : Mc) (rd : Option Nat) (ops : Array Oper)
def resVal (ev : Operand → AV) (i : Nat) : Op → Option (AV × ABlk)
 | .alloc t => match tZero P t with | some x => if x.isTop then none else some (.ptr i 0, .cells x.cells t) | none => none
 | .box t x => if (ev x).isTop then none else some (.ptr i 0, .cells (ev x).cells t)
 | .makeMap _ none => some (.map i, .map [] 0)
 | _ => none
def rRun (A : AH) (n : Nat) : List Oper → AAct → List ABlk → Option REs
 | [], _, _ => some []
 | o :: rest, a, L =>
  if resOp o then
   match resVal P a.eval (A.blks.length + L.length) o.op with
   | some (v, X) =>
    match rRun A n rest (a.put o.dst v) (L ++ [X]) with
    | some es => some ((v, some X) :: es)
    | none => none
   | none => none
  else
   match aOp1 P G pf m rd ops a (resH A (L ++ List.replicate (n - L.length) ABlk.dead)) o with
   | some (v, _, false) =>
    match rRun A n rest (a.put o.dst v) L with
    | some es => some ((v, none) :: es)
    | none => none
   | _ => none
def resSub (i : Nat) : REs → Nat → List (List ABlk)
 | [], _ => [[]]
 | (_, none) :: l, k => resSub i l (k + 1)
 | (_, some X) :: l, k =>
  let t := resSub i l (k + 1)
  if bef ops i k then t.map (X :: ·) else if bef ops k i || k == i then t.map (.dead :: ·) else t.map (X :: ·) ++ t.map (.dead :: ·)
def resWin (A : AH) (es0 : REs) : List Oper → REs → Nat → AAct → Bool
 | o :: rest, (v, x) :: es, i, a =>
  (x.isSome || (resSub ops i es0 0).all fun L =>
   match aOp1 P G pf m rd ops a (resH A L) o with
   | some (v', _, l') => !l' && eqv v' v
   | none => false) && resWin A es0 rest es (i + 1) (a.put o.dst v)
 | _, _, _, _ => true
def esR (es : REs) : List (AV × Bool) := es.map fun e => (e.1, e.2.isSome)
def aDrawR (a : AAct) (A : AH) : Option (List AOut) :=
 let p := tailStart ops ops.size
 let pre := ops.toList.take p
 match rRun P G pf m rd ops A (pre.countP resOp) pre a [] with
 | some es =>
  if drawS ops && resWin P G pf m rd ops A es pre es 0 a then
   m.ops rd ops (ops.toList.drop p) (actF (zipR pre (esR es)) 0 (fun _ => true) a) (resH A (resL es 0 fun _ => true))
  else none
 | none => none
variable {P G pf m rd ops}
theorem rRun_spec {A : AH} {n : Nat} : ∀ (l : List Oper) (a : AAct) (L : List ABlk) (es : REs), rRun P G pf m rd ops A n l a L = some es →
  es.length = l.length ∧ (es.countP fun e => e.2.isSome) = l.countP resOp ∧
  ∀ i o, l[i]? = some o → ∃ v x, es[i]? = some (v, x) ∧ (∀ X, x = some X → resOp o = true ∧ resVal P (actF (zipR l (esR es)) 0 (fun j => decide (j < i)) a).eval (A.blks.length + L.length + resP es i) o.op = some (v, X))
 | [], a, L, es, h => by
  simp only [rRun, Option.some.injEq] at h
  subst h
  exact ⟨rfl, rfl, fun i o ho => by simp at ho⟩
 | o :: l, a, L, es, h => by
  simp only [rRun] at h
  split at h
  ·rename_i ho
   split at h
   ·rename_i v X hv
    split at h
    ·rename_i es' hes
     cases h
     obtain ⟨h1, h2, h3⟩ := rRun_spec l _ _ _ hes
     refine ⟨by simp [h1], by simp [h2, ho], ?_⟩
     intro i o' ho'
     cases i with
     | zero =>
      simp at ho'; subst ho'
      refine ⟨v, some X, rfl, ?_⟩
      intro X' hX; cases hX
      refine ⟨ho, ?_⟩
      rw [actF_none _ _ _ _ (fun j => by simp)]
      exact hv
     | succ i =>
      obtain ⟨v', x', q1, q2⟩ := h3 i o' (by simpa using ho')
      refine ⟨v', x', by simpa using q1, ?_⟩
      intro X' hX
      obtain ⟨q3, q4⟩ := q2 X' hX
      refine ⟨q3, ?_⟩
      simp only [esR, List.map_cons, zipR, actF, resP]
      rw [actF_shift, lt_succ_fun]
      simp only [Nat.zero_lt_succ, decide_true, if_true]
      simp only [List.length_append, List.length_cons, List.length_nil, esR] at q4
      rw [show A.blks.length + L.length + (resP es' i + 1) = A.blks.length + (L.length + (0 + 1)) + resP es' i by omega]
      exact q4
    ·cases h
   ·cases h
  ·rename_i ho
   split at h
   ·rename_i v A' hv
    split at h
    ·rename_i es' hes
     cases h
     obtain ⟨h1, h2, h3⟩ := rRun_spec l _ _ _ hes
     refine ⟨by simp [h1], by simp [h2, ho], ?_⟩
     intro i o' ho'
     cases i with
     | zero =>
      simp at ho'; subst ho'
      exact ⟨v, none, rfl, fun X' hX => by cases hX⟩
     | succ i =>
      obtain ⟨v', x', q1, q2⟩ := h3 i o' (by simpa using ho')
      refine ⟨v', x', by simpa using q1, ?_⟩
      intro X' hX
      obtain ⟨q3, q4⟩ := q2 X' hX
      refine ⟨q3, ?_⟩
      simp only [esR, List.map_cons, zipR, actF, resP]
      rw [actF_shift, lt_succ_fun]
      simp only [Nat.zero_lt_succ, decide_true, if_true]
      exact q4
    ·cases h
   ·cases h
theorem resWin_spec {A : AH} {es0 : REs} : ∀ (l : List Oper) (es : REs) (k : Nat) (a : AAct), resWin P G pf m rd ops A es0 l es k a = true → ∀ i o v, l[i]? = some o → es[i]? = some (v, none) → ∀ L ∈ resSub ops (k + i) es0 0,
  aOp1 P G pf m rd ops (actF (zipR l (esR es)) 0 (fun j => decide (j < i)) a) (resH A L) o = some (v, resH A L, false)
 | [], _, _, _, _, i, o, v, ho, _ => by simp at ho
 | o :: l, [], _, _, _, i, _, v, _, hr => by simp at hr
 | o :: l, (v, x) :: es, k, a, h, 0, o', v', ho, hr => by
  simp at ho hr
  obtain ⟨rfl, rfl⟩ := hr
  subst ho
  simp only [resWin, Option.isSome_none, Bool.false_or, Bool.and_eq_true] at h
  rw [actF_none _ _ _ _ (fun j => by simp)]
  intro L hL
  have := List.all_eq_true.1 h.1 L (by simpa using hL)
  split at this
  ·rename_i v' A2 l' hop
   simp only [Bool.and_eq_true, Bool.not_eq_true'] at this
   obtain ⟨rfl, he⟩ := this
   have := eqv_eq _ _ he
   subst this
   have := quiet_heap hop
   subst this
   exact hop
  ·cases this
 | o :: l, (v, x) :: es, k, a, h, i + 1, o', v', ho, hr => by
  simp only [resWin, Bool.and_eq_true] at h
  have := resWin_spec l es (k + 1) _ h.2 i o' v' (by simpa using ho) (by simpa using hr)
  simp only [esR, List.map_cons, zipR, actF]
  rw [actF_shift, lt_succ_fun, show k + (i + 1) = k + 1 + i by omega]
  simp only [Nat.zero_lt_succ, decide_true, if_true]
  exact this
theorem resSub_mem {i : Nat} {D : Nat → Bool} (h1 : ∀ j, bef ops i j = true → D j = true) (h2 : ∀ j, D j = true → bef ops j i = false) (h3 : D i = false) : ∀ (es : REs) (k : Nat), resL es k D ∈ resSub ops i es k
 | [], _ => by simp [resL, resSub]
 | (v, none) :: es, k => by simp only [resL, resSub]; exact resSub_mem h1 h2 h3 es (k + 1)
 | (v, some X) :: es, k => by
  have ih := resSub_mem h1 h2 h3 es (k + 1)
  simp only [resL, resSub]
  split
  ·rename_i hb
   rw [if_pos (h1 k hb)]
   exact List.mem_map.2 ⟨_, ih, rfl⟩
  ·split
   ·rename_i hb
    have hDk : D k = false := by
     simp only [Bool.or_eq_true, beq_iff_eq] at hb
     rcases hb with hb | rfl
     ·cases hd : D k with
      | false => rfl
      | true => rw [h2 k hd] at hb; cases hb
     ·exact h3
    rw [hDk]
    exact List.mem_map.2 ⟨_, ih, rfl⟩
   ·cases D k with
    | true => exact List.mem_append_left _ (List.mem_map.2 ⟨_, ih, rfl⟩)
    | false => exact List.mem_append_right _ (List.mem_map.2 ⟨_, ih, rfl⟩)
theorem resH_put (A : AH) (L : List ABlk) (r : Nat) (X : ABlk) : resH A (L.set r X) = (resH A L).put (A.blks.length + r) X := by
 simp [resH, AH.put, List.set_append_right]
theorem resVal_ok {S : Sh} {w : World} {a : AAct} {b : Act} (hab : ARel S a b) {o : Oper} {i : Nat} {v : AV} {X : ABlk} (hv : resVal P a.eval i o.op = some (v, X)) (hn : S.ρ i = none) :
  ∃ u obj, (execOp b.eval o).run P w = .ok (.value u) { w with heap := w.heap.push obj } ∧ VRel (S.at i w.heap.size) v u ∧ BRel (S.at i w.heap.size) X obj := by
 have hle := Sh.le_at hn w.heap.size
 have box : ∀ (t : TypeId) (x : AV) (z : Value), VRel S x z → x.isTop = false → ∃ u obj, (Instr.box t z).run P w = .ok u { w with heap := w.heap.push obj } ∧ VRel (S.at i w.heap.size) (.ptr i 0) u ∧ BRel (S.at i w.heap.size) (.cells x.cells t) obj := by
  intro t x z hz hx
  have hxt : x ≠ .top := by rintro rfl; simp [AV.isTop] at hx
  have hl := (hz.mono hle).cells hxt
  exact ⟨.pointer (some ⟨w.heap.size, 0, none⟩), .cells ⟨z.cells.toList ++ []⟩ t (0, 0), by simp [Instr.box, newVar, newRow], .ptr _ _ _ (by simp [Sh.at]), BRel.cells x.cells t z.cells.toList [] hl⟩
 cases hop : o.op <;> rw [hop] at hv <;> simp only [resVal] at hv <;> first
  | (cases hv; done)
  | skip
 case alloc t =>
  split at hv
  ·rename_i x hz
   split at hv <;> cases hv
   rename_i ht
   obtain ⟨z, hz1, rfl⟩ := run_zeroValue hz w
   obtain ⟨u, obj, r1, r2, r3⟩ := box t (ofVs z) z (ofVs_rel S z) (isTop_false ht)
   refine ⟨u, obj, ?_, r2, r3⟩
   have : (Instr.alloc t true (.tuple #[])).run P w = (Instr.box t z).run P w := by
    simp [Instr.alloc, Instr.box, show (zeroValue t).run P w = .ok z w from hz1]
   simp only [execOp, hop, Sem.run_bind, this, r1, Result.andThen_ok, Sem.run_pure]
  ·cases hv
 case box t x =>
  split at hv <;> cases hv
  rename_i ht
  obtain ⟨u, obj, r1, r2, r3⟩ := box t (a.eval x) (b.eval x) (hab.eval x) (isTop_false ht)
  exact ⟨u, obj, by simp only [execOp, hop, Sem.run_bind, r1, Result.andThen_ok, Sem.run_pure], r2, r3⟩
 case makeMap t r =>
  cases r with
  | some y => cases hv
  | none =>
   cases hv
   exact ⟨.map (some w.heap.size), .map ⟨[]⟩ 0, by simp [execOp, hop, Instr.makeMap], .map _ _ (by simp [Sh.at]), .map [] 0 [] .nil⟩
theorem resOp_spec {o : Oper} (h : resOp o = true) : o.guard = none ∧ ∀ c, o.op ≠ .defer c := by
 unfold resOp at h
 split at h
 ·rename_i h1 h2; exact ⟨h1, fun c hc => by rw [hc] at h2; cases h2⟩
 ·rename_i h1 h2; exact ⟨h1, fun c hc => by rw [hc] at h2; cases h2⟩
 ·rename_i h1 h2; exact ⟨h1, fun c hc => by rw [hc] at h2; cases h2⟩
 ·cases h
theorem resVal_op (a : AAct) (a' : AAct) {o : Oper} (i : Nat) (h : ∀ x ∈ o.op.operands, a.eval x = a'.eval x) : resVal P a.eval i o.op = resVal P a'.eval i o.op := by
 cases hop : o.op <;> rw [hop] at h <;> first
  | rfl
  | skip
 ·rename_i t x
  simp only [resVal, h x (by simp [Op.operands])]
 ·rename_i t r
  cases r <;> rfl
theorem esR_get {es : REs} {i : Nat} {v : AV} {x : Option ABlk} (h : es[i]? = some (v, x)) : (esR es)[i]? = some (v, x.isSome) := by
 simp [esR, h]
theorem aDrawR_ok (hm : Mc.Ok P G m) (hpf : ∀ f args es, pf f args = some es → QCall P G f args es) (hmix : P.follows .mixedOrders = true) {a : AAct} {A : AH} {os : List AOut} (hx : aDrawR P G pf m rd ops a A = some os)
  {S : Sh} {w : World} {b : Act} {ro : Option Nat} (hi : Inv G S A w) (hab : ARel S a b) (hr : RdRel S rd ro) (id : Nat) : (Code.region id ops true).wpIn (fen ro) 0 P (OutPost G S A w os) b w := by
 unfold aDrawR at hx
 simp only at hx
 obtain ⟨hp, htail⟩ := tail_spec (ops := ops) ops.size
 generalize tailStart ops ops.size = p at hx hp htail
 split at hx
 ·rename_i es hrun
  split at hx
  ·rename_i hc
   simp only [Bool.and_eq_true] at hc
   obtain ⟨hS, hW⟩ := hc
   obtain ⟨hlow, hnames⟩ := drawS_spec hS
   obtain ⟨hlen, hcount, hspec⟩ := rRun_spec _ _ _ _ hrun
   have hwin := resWin_spec _ _ _ _ hW
   have hprel : (ops.toList.take p).length = p := by simp; omega
   have hrsz : es.length = p := by rw [hlen, hprel]
   have hpre : ∀ i o, i < p → ops[i]? = some o → (ops.toList.take p)[i]? = some o := by
    intro i o hip ho
    rw [List.getElem?_take, if_pos hip]; simpa using ho
   have hpre' : ∀ i o, (ops.toList.take p)[i]? = some o → i < p ∧ ops[i]? = some o := by
    intro i o ho
    rw [List.getElem?_take] at ho
    split at ho
    ·rename_i hip; exact ⟨hip, by simpa using ho⟩
    ·cases ho
   have look : ∀ (D : Nat → Bool) (i : Nat) (o : Oper), Down .any ops D → ops[i]? = some o → D i = false → (∀ e ∈ o.after, Region.binds .any e = true → D e.on = true) →
     (∀ j, bef ops i j = true → D j = true) ∧ (∀ j, D j = true → bef ops j i = false) := by
    intro D i o hD ho hDi hr
    refine ⟨fun j hj => bef_ready hlow hD ho hr hj, fun j hj => ?_⟩
    cases hb : bef ops j i with
    | false => rfl
    | true =>
     have := bef_down hlow hD j i hj hb
     rw [hDi] at this; cases this
   let zr := zipR (ops.toList.take p) (esR es)
   let HF : (Nat → Bool) → AH := fun D => resH A (resL es 0 D)
   let Pre : (Nat → Bool) → Act → World → Prop := fun D b' w' => ∃ S', Inv G S' (HF D) w' ∧ Fr S A w S' (HF D) w' ∧ ARel S' (actF zr 0 D a) b' ∧
    ∀ j v X, es[j]? = some (v, some X) → D j = false → S'.ρ (A.blks.length + resP es j) = none
   let St : (Nat → Bool) → Act → World → Prop := fun D b' w' => (∃ i0, i0 < p ∧ D i0 = false ∧ Pre D b' w') ∨
    (∃ t, (∀ j, j < p + t → j < ops.size → D j = true) ∧ (∀ j, p + t ≤ j → j < ops.size → D j = false) ∧ p + t ≤ ops.size ∧ wpListIn (fen ro) 0 P ops (OutPost G S A w os) (ops.toList.drop (p + t)) b' w')
   have finish : ∀ (D : Nat → Bool) b' w', (∀ j, j < p → D j = true) → Pre D b' w' → wpListIn (fen ro) 0 P ops (OutPost G S A w os) (ops.toList.drop p) b' w' := by
    intro D b' w' hall ⟨S', iH, fH, rH, _⟩
    have hzl : ∀ (l : List Oper) (r : List (AV × Bool)), (zipR l r).length ≤ l.length := by
     intro l
     induction l with
     | nil => intro r; simp [zipR]
     | cons o l ih => intro r; cases r with
      | nil => simp [zipR]
      | cons x r => obtain ⟨v, b⟩ := x; simp only [zipR, List.length_cons]; have := ih r; omega
    have hAt : actF zr 0 D a = actF zr 0 (fun _ => true) a := by
     refine actF_congr _ 0 a fun j hj => ?_
     rw [Nat.zero_add]
     have hz : zr.length ≤ p := by
      show (zipR (ops.toList.take p) (esR es)).length ≤ p
      have := hzl (ops.toList.take p) (esR es)
      omega
     exact hall j (by omega)
    have hHt : HF D = HF fun _ => true := by
     show resH A (resL es 0 D) = resH A (resL es 0 fun _ => true)
     rw [resL_congr (D' := fun _ => true) es 0 fun j hj => by rw [Nat.zero_add]; exact hall j (by omega)]
    rw [hHt] at iH fH
    rw [hAt] at rH
    exact wpListIn_mono (fun _ _ _ h => h.from fH fun _ h => h) _ _ _ (hm.ops _ _ _ _ _ _ hx S' w' b' ro iH rH (hr.mono fH.le))
   refine wpIn_region_any hmix ?_
   refine order_any St hlow ?_ ?_ ops.size _ b _ (by simp) ?_ ?_ ?_
   ·intro D i o hD ho hDi hrdy b' w' hst
    have hil := (Array.getElem?_eq_some_iff.1 ho).1
    obtain ⟨h1, h2⟩ := look D i o hD ho hDi hrdy
    rcases hst with ⟨i0, hi0, hDi0, hpre0⟩ | ⟨t, ht1, ht2, ht3, hw⟩
    ·have hip : i < p := by
      rcases Nat.lt_or_ge i p with h' | h'
      ·exact h'
      ·have := h1 i0 (htail i h' hil i0 (by omega))
       rw [hDi0] at this; cases this
     obtain ⟨S', iH, fH, rH, hfree⟩ := hpre0
     have hol : (ops.toList.take p)[i]? = some o := hpre i o hip ho
     obtain ⟨v, x, q1, q2⟩ := hspec i o hol
     have q1' := esR_get q1
     suffices hsuf : wpOpIn (fen ro) 0 P ops (OutPost G S A w os) i (Pre (addD D i)) b' w' by
      refine wpOpIn_mono ?_ hsuf
      intro b2 w2 hp2
      by_cases hex : ∃ i1, i1 < p ∧ addD D i i1 = false
      ·obtain ⟨i1, hi1, hd1⟩ := hex
       exact .inl ⟨i1, hi1, hd1, hp2⟩
      ·have hall : ∀ j, j < p → addD D i j = true := fun j hj => by
        cases hd : addD D i j with
        | true => rfl
        | false => exact absurd ⟨j, hj, hd⟩ hex
       refine .inr ⟨0, fun j hj _ => hall j (by omega), fun j hj hjs => ?_, by omega, by simpa using finish _ _ _ hall hp2⟩
       simp only [addD, Bool.or_eq_false_iff, beq_eq_false_iff_ne]
       refine ⟨?_, by omega⟩
       cases hd : D j with
       | false => rfl
       | true =>
        have := h2 j hd
        rw [htail j (by omega) hjs i (by omega)] at this; cases this
     have hwr : ∀ j t, (ops[j]?).bind (·.dst) = some t → t ∈ namesOf ops o → D j = decide (j < i) := by
      intro j t hj ht
      by_cases hji : j = i
      ·subst hji; simp [hDi]
      ·rcases hnames i j o t ho hj hji ht with hb | hb
       ·rw [h1 j hb]; simp [bef_low hlow i j hb]
       ·have hlt := bef_low hlow j i hb
        have : D j = false := by
         cases hd : D j with
         | false => rfl
         | true => rw [h2 j hd] at hb; cases hb
        rw [this]; simp; omega
     have hget : ∀ t, t ∈ namesOf ops o → (actF zr 0 D a).tmps[t]? = (actF zr 0 (fun j => decide (j < i)) a).tmps[t]? := by
      intro t ht
      refine actF_get _ 0 a a rfl rfl fun j p' hp' hpt => ?_
      obtain ⟨oj, ho1, ho2⟩ := zipR_inv _ _ _ _ hp'
      rw [Nat.zero_add]
      exact hwr j t (by rw [(hpre' j oj ho1).2]; simp [ho2, hpt]) ht
     have halike : Alike ops o (actF zr 0 D a) (actF zr 0 (fun j => decide (j < i)) a) := by
      refine ⟨fun x hx => ?_, fun p' hp' t ht => ?_⟩
      ·cases x with
       | tmp t =>
        have := hget t (by
         unfold namesOf
         refine List.mem_append_left _ (List.mem_append_right _ (List.mem_filterMap.2 ⟨.tmp t, by simpa using hx, rfl⟩)))
        simp only [AAct.eval, AAct.get, nthR_eq, this]
       | const v => rfl
       | global g => rfl
       | func f => rfl
      ·refine hget t ?_
       unfold namesOf
       refine List.mem_append_right _ ?_
       rw [hp']
       obtain ⟨j, want⟩ := p'
       simp only at ht ⊢
       rw [ht]; simp
     have hact : actF zr 0 (addD D i) a = (actF zr 0 D a).put o.dst v := by
      have := actF_add (D := D) zr i 0 a (zipR_get _ _ _ _ _ _ hol q1') (by simpa using hDi) (fun j p' hij hp' hj => by
       intro t ht hpt
       obtain ⟨oj, ho1, ho2⟩ := zipR_inv _ _ _ _ hp'
       rw [Nat.zero_add] at hj
       have := hwr j t (by rw [(hpre' j oj ho1).2]; simp [ho2, hpt]) (by unfold namesOf; refine List.mem_append_left _ (List.mem_append_left _ ?_); rw [ht]; simp)
       rw [hj] at this
       simp at this; omega)
      simpa using this
     cases x with
     | none =>
      have hw := hwin i o v hol q1 (resL es 0 D) (by rw [Nat.zero_add]; exact resSub_mem h1 h2 hDi es 0)
      have hop : aOp1 P G pf m rd ops (actF zr 0 D a) (HF D) o = some (v, HF D, false) := by
       rw [aOp1_congr halike]; exact hw
      have hHq : HF (addD D i) = HF D := by
       have := resL_quiet (D := D) es i 0 v q1
       rw [Nat.zero_add] at this
       show resH A (resL es 0 (addD D i)) = resH A (resL es 0 D)
       rw [this]
      refine aOp1_ok hm hpf hop iH rH (hr.mono fH.le) ho ?_
      intro S2 u w2 i2 f2 v2
      refine ⟨S2, by rw [hHq]; exact i2, by rw [hHq]; exact fH.trans f2, ?_, ?_⟩
      ·rw [hact]
       exact (rH.mono f2.le).put _ v2
      ·intro j u' X' hj hD'
       have hDj : D j = false := by
        simp only [addD, Bool.or_eq_false_iff] at hD'; exact hD'.1
       have hjp : j < es.length := (List.getElem?_eq_some_iff.1 hj).1
       cases hs : S2.ρ (A.blks.length + resP es j) with
       | none => rfl
       | some c =>
        exfalso
        rcases f2.ρnew _ c hs with h' | h'
        ·rw [hfree j u' X' hj hDj] at h'; cases h'
        ·have := (resL_add (D := D) es j 0 u' X' hj (by rw [Nat.zero_add]; exact hDj)).2
         have := (List.getElem?_eq_some_iff.1 this).1
         have hh : (HF D).blks.length = A.blks.length + (resL es 0 D).length := by show (A.blks ++ resL es 0 D).length = _; simp
         omega
     | some X =>
      obtain ⟨q3, q4⟩ := q2 X rfl
      simp only [List.length_nil, Nat.add_zero] at q4
      obtain ⟨ladd, ldead⟩ := resL_add (D := D) es i 0 v X q1 (by rw [Nat.zero_add]; exact hDi)
      rw [Nat.zero_add] at ladd
      have hdead : (HF D).blks[A.blks.length + resP es i]? = some .dead := by
       show (A.blks ++ resL es 0 D)[A.blks.length + resP es i]? = some .dead
       rw [List.getElem?_append_right (by omega)]
       simpa using ldead
      have hnone := hfree i v X q1 hDi
      have hHadd : HF (addD D i) = (HF D).put (A.blks.length + resP es i) X := by
       show resH A (resL es 0 (addD D i)) = (resH A (resL es 0 D)).put (A.blks.length + resP es i) X
       rw [ladd, resH_put]
      rw [← resVal_op (actF zr 0 D a) _ _ halike.1] at q4
      obtain ⟨u, obj, r1, r2, r3⟩ := resVal_ok (w := w') rH q4 hnone
      obtain ⟨i2, le2, own2⟩ := iH.fill hdead hnone r3
      have f2 := fH.fill obj hnone (by omega) own2
      obtain ⟨hg, hnd⟩ := resOp_spec q3
      unfold wpOpIn
      rw [ho]
      simp only
      have hwant : Region.wanted o (yielded ops b'.tmps) = true := by simp [Region.wanted, hg]
      rw [hwant]
      simp only [if_true]
      refine ⟨fun _ _ => trivial, ?_⟩
      rw [Oper.semAt_eq _ _ _ hnd]
      simp only [r1, Oper.uponIn]
      refine ⟨_, by rw [hHadd]; exact i2, by rw [hHadd]; exact f2, ?_, ?_⟩
      ·rw [hact]
       exact (rH.mono le2).put _ r2
      ·intro j u' X' hj hD'
       have hDj : D j = false := by
        simp only [addD, Bool.or_eq_false_iff] at hD'; exact hD'.1
       have hji : j ≠ i := by
        rintro rfl
        simp [addD] at hD'
       have hjl := (List.getElem?_eq_some_iff.1 hj).1
       have hil' := (List.getElem?_eq_some_iff.1 q1).1
       have hne : resP es j ≠ resP es i := by
        rcases Nat.lt_or_ge j i with h' | h'
        ·have := resP_lt es j i u' X' h' hj hil'; omega
        ·have := resP_lt es i j v X (by omega) q1 hjl; omega
       simp only [Sh.at]
       rw [if_neg (by omega)]
       exact hfree j u' X' hj hDj
    ·have hit : i = p + t := by
      rcases Nat.lt_trichotomy i (p + t) with h' | h' | h'
      ·have := ht1 i h' hil
       rw [hDi] at this; cases this
      ·exact h'
      ·have hpt : p + t < ops.size := by omega
       have := h1 (p + t) (htail i (by omega) hil (p + t) h')
       rw [ht2 (p + t) (Nat.le_refl _) hpt] at this; cases this
     subst hit
     have hdrop : ops.toList.drop (p + t) = o :: ops.toList.drop (p + (t + 1)) := by
      have : ops.toList[p + t]? = some o := by simpa using ho
      rw [show p + (t + 1) = p + t + 1 by omega]
      exact (List.drop_eq_getElem?_toList_append).trans (by rw [this]; rfl)
     rw [hdrop] at hw
     refine wpOpIn_mono (K := wpListIn (fen ro) 0 P ops (OutPost G S A w os) (ops.toList.drop (p + (t + 1)))) ?_ ?_
     ·intro b2 w2 h
      refine .inr ⟨t + 1, fun j hj hjs => ?_, fun j hj hjs => ?_, by omega, h⟩
      ·simp only [addD, Bool.or_eq_true, beq_iff_eq]
       by_cases hji : j = p + t
       ·exact .inr hji
       ·exact .inl (ht1 j (by omega) hjs)
      ·simp only [addD, Bool.or_eq_false_iff, beq_eq_false_iff_ne]
       exact ⟨ht2 j (by omega) hjs, by omega⟩
     ·unfold wpOpIn
      rw [ho]
      exact hw
   ·intro D b' w' hall hst
    rcases hst with ⟨i0, hi0, hDi0, _⟩ | ⟨t, ht1, ht2, ht3, hw⟩
    ·rw [hall i0 (by omega)] at hDi0; cases hDi0
    ·have : p + t = ops.size := by
      rcases Nat.lt_or_ge (p + t) ops.size with h' | h'
      ·have := ht2 (p + t) (Nat.le_refl _) h'
       rw [hall (p + t) h'] at this; cases this
      ·omega
     rw [this, List.drop_eq_nil_of_le (by simp)] at hw
     exact hw
   ·have : ((Array.replicate ops.size false).toList.countP fun x => !x) ≤ (Array.replicate ops.size false).toList.length := List.countP_le_length
    simpa using this
   ·intro j o ho hj
    simp [inn, Array.getD_eq_getD_getElem?, Array.getElem?_replicate] at hj
    split at hj <;> simp at hj
   ·obtain ⟨i1, f1⟩ := hi.drew (w.drawn + 1)
    have hz : ∀ j, inn (Array.replicate ops.size false) j = false := by
     intro j
     simp only [inn, Array.getD_eq_getD_getElem?, Array.getElem?_replicate]
     split <;> rfl
    obtain ⟨i2, f2⟩ := resH_dead i1 (es.countP fun e => e.2.isSome)
    have hpre0 : Pre (inn (Array.replicate ops.size false)) b { w with drawn := w.drawn + 1 } := by
     have hH0 : HF (inn (Array.replicate ops.size false)) = resH A (List.replicate (es.countP fun e => e.2.isSome) ABlk.dead) := by
      show resH A (resL es 0 _) = _
      rw [resL_none hz]
     refine ⟨S, by rw [hH0]; exact i2, by rw [hH0]; exact f1.trans f2, ?_, ?_⟩
     ·rw [actF_none _ _ _ _ hz]; exact hab
     ·intro j v X _ _
      exact hi.ρout _ (by omega)
    by_cases hp0 : p = 0
    ·refine .inr ⟨0, fun j hj _ => by omega, fun j _ _ => hz j, by omega, ?_⟩
     have := finish _ _ _ (fun j hj => by omega) hpre0
     simpa using this
    ·exact .inl ⟨0, by omega, hz 0, hpre0⟩
  ·cases hx
 ·cases hx
end
end Go.Am
end
section
noncomputable section
namespace Go.Am
open Go
section
variable (P : Program) (G : Gl)
def pFn (pu : FuncId → Bool) (orc : Orc) (m : Mc) (f : FuncId) (args : List AV) : Option (List AEnd) :=
 if pu f && AV.cleanL args then
  let args' := args.map (pur P AH.nil pDepth)
  match orc f args' with
  | some es => some es
  | none =>
   match sFunc P m f args' AH.nil with
   | some os => some (nubE (os.map (purEnd P pDepth)))
   | none => none
 else none
def fFunc (pu : FuncId → Bool) (orc : Orc) (m : Mc) (f : FuncId) (args : List AV) (A : AH) : Option (List AFin) :=
 match pFn P pu orc m f args with
 | some es => some (es.map fun e => ⟨e, A⟩)
 | none => sFunc P m f args A
def fCode (pu : FuncId → Bool) (orc : Orc) (m : Mc) (rd : Option Nat) (c : Code) (a : AAct) (A : AH) : Option (List AOut) :=
 match c with
 | .region _ ops true =>
  match aDraw P G (pFn P pu orc m) m rd ops a A with
  | some os => some os
  | none =>
   match aDrawS P G (pFn P pu orc m) m rd ops a A with
   | some os => some os
   | none => aDrawR P G (pFn P pu orc m) m rd ops a A
 | c => sCode P m rd c a A
def Mc.stepF (pu : FuncId → Bool) (orc : Orc) (m : Mc) : Mc := { Mc.step P G m with func := fFunc P pu orc m, code := fCode P G pu orc m }
def Mc.base (mu : Oper → Bool) : Mc := { Mc.none with mu := mu }
def Mc.runF (pu : FuncId → Bool) (orc : Orc) (mu : Oper → Bool) (n : Nat) : Mc := Nat.rec (Mc.base mu) (fun _ r => Mc.stepF P G pu orc r) n
variable {P G}
theorem pFn_ok {pu : FuncId → Bool} {orc : Orc} (ho : Orc.Ok P G orc) {m : Mc} (hm : Mc.Ok P G m) {f : FuncId} {args : List AV} {es : List AEnd} (hx : pFn P pu orc m f args = some es) : QCall P G f args es := by
 intro S A w vs hi hl
 unfold pFn at hx
 split at hx
 ·simp only at hx
  split at hx
  ·rename_i es' he
   cases hx
   exact (ho _ _ _ he).lift hi (pur_bares _ hl)
  ·split at hx
   ·rename_i os' hs
    cases hx
    exact (PCall.of_sFunc hm hs pDepth).nub.lift hi (pur_bares _ hl)
   ·cases hx
 ·cases hx
theorem stepF_ok (hmix : P.follows .mixedOrders = true) {pu : FuncId → Bool} {orc : Orc} (ho : Orc.Ok P G orc) {m : Mc} (hm : Mc.Ok P G m) : Mc.Ok P G (Mc.stepF P G pu orc m) :=
 { step_ok hm with
  func := fun f args A os h S w vs hi hl => by
   have h : fFunc P pu orc m f args A = some os := h
   unfold fFunc at h
   split at h
   ·rename_i es he
    cases h
    exact pFn_ok ho hm he S A w vs hi hl
   ·exact sFunc_ok hm h hi hl
  code := fun rd c a A os h S w b ro hi hab hr => by
   have h : fCode P G pu orc m rd c a A = some os := h
   unfold fCode at h
   split at h
   ·split at h
    ·rename_i he
     cases h
     exact aDraw_ok hm (fun _ _ _ h => pFn_ok ho hm h) hmix he hi hab hr _
    ·split at h
     ·rename_i he
      cases h
      exact aDrawS_ok hm (fun _ _ _ h => pFn_ok ho hm h) hmix he hi hab hr _
     ·exact aDrawR_ok hm (fun _ _ _ h => pFn_ok ho hm h) hmix h hi hab hr _
   ·exact (step_ok hm).code rd _ a A os h S w b ro hi hab hr }
theorem base_ok (mu : Oper → Bool) : Mc.Ok P G (Mc.base mu) where
 func _ _ _ _ h := by cases h
 code _ _ _ _ _ h := by cases h
 loop _ _ _ _ _ h := by cases h
 ops _ _ _ _ _ _ h := by cases h
 round _ _ _ _ h := by cases h
 leave _ _ _ _ _ _ h := by cases h
 dfunc _ _ _ _ _ h := by cases h
 codeS _ _ _ _ _ h := by cases h
theorem runF_ok (hmix : P.follows .mixedOrders = true) {pu : FuncId → Bool} {orc : Orc} (ho : Orc.Ok P G orc) (mu : Oper → Bool) (n : Nat) : Mc.Ok P G (Mc.runF P G pu orc mu n) := by
 induction n with
 | zero => exact base_ok mu
 | succ n ih => exact stepF_ok hmix ho ih
def pRun (P : Program) (G : Gl) (pu : FuncId → Bool) (orc : Orc) (mu : Oper → Bool) (n : Nat) (f : FuncId) (args : List AV) : Option (List AEnd) :=
 (sFunc P (Mc.runF P G pu orc mu n) f args AH.nil).map fun os => nubE (os.map (purEnd P pDepth))
theorem pRun_ok (hmix : P.follows .mixedOrders = true) {pu : FuncId → Bool} {orc : Orc} (ho : Orc.Ok P G orc) {mu : Oper → Bool} {n : Nat} {f : FuncId} {args : List AV} {es : List AEnd} (h : pRun P G pu orc mu n f args = some es) : PCall P G f args es := by
 unfold pRun at h
 simp only [Option.map_eq_some_iff] at h
 obtain ⟨os, hs, rfl⟩ := h
 exact (PCall.of_sFunc (runF_ok hmix ho mu n) hs pDepth).nub
end
end Go.Am
end
section
namespace Go.Am
open Go Go.RowKit
def g0 : Gl := fun _ _ => none
theorem Orc.tabNil {P : Program} {G : Gl} : ∀ e ∈ ([] : List (FuncId × List AV × List AEnd)), PCall P G e.1 e.2.1 e.2.2 := fun _ h => by cases h
theorem Orc.tabCons {P : Program} {G : Gl} {f : FuncId} {xs : List AV} {es : List AEnd} {t : List (FuncId × List AV × List AEnd)} (h : PCall P G f xs es) (ht : ∀ e ∈ t, PCall P G e.1 e.2.1 e.2.2) : ∀ e ∈ (f, xs, es) :: t, PCall P G e.1 e.2.1 e.2.2 := by
 intro e he
 rcases List.mem_cons.1 he with rfl | he
 ·exact h
 ·exact ht e he
end Go.Am
end