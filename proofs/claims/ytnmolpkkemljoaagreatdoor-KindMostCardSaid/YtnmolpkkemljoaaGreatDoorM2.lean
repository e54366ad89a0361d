/-
  What the proof is built of: A region that draws its order: what its one order comes to is what every order comes to. The whole machine: regions that draw their order, and calls that are handed values alone. From a closed run to the call it says: a function without parameters, and what it was handed is kept. Conditions: none.
-/
import Derived.Test.YtnmolpkkemljoaaGreatDoorM1
import Derived.Below
set_option linter.unusedVariables false
set_option linter.unusedSimpArgs false
section
namespace Go.Am
open Go
section
variable {P : Program} {G : Gl} {pf : PF} {m : Mc} {rd : Option Nat} {ops : Array Oper}
theorem drawS_spec (h : drawS ops = true) : (∀ j o, ops[j]? = some o → ∀ e ∈ o.after, Region.binds .any e = true → e.on < j) ∧
  (∀ i j oi t, ops[i]? = some oi → (ops[j]?).bind (·.dst) = some t → j ≠ i → t ∈ namesOf ops oi → bef ops i j = true ∨ bef ops j i = true) := by
 unfold drawS at h
 rw [List.all_eq_true] at h
 constructor
 ·intro j o ho e he hb
  have hj := (Array.getElem?_eq_some_iff.1 ho).1
  have := h j (List.mem_range.2 hj)
  simp only [ho, Bool.and_eq_true] at this
  have := List.all_eq_true.1 this.1 e (by simpa using he)
  simp only [hb, Bool.not_true, Bool.false_or, decide_eq_true_eq] at this
  exact this
 ·intro i j oi t hi hj hne ht
  have hil := (Array.getElem?_eq_some_iff.1 hi).1
  have hjl : j < ops.size := by
   rcases Nat.lt_or_ge j ops.size with h' | h'
   ·exact h'
   ·rw [Array.getElem?_eq_none h'] at hj; cases hj
  have := h i (List.mem_range.2 hil)
  simp only [hi, Bool.and_eq_true] at this
  have := List.all_eq_true.1 this.2 j (List.mem_range.2 hjl)
  simp only [hj, Bool.or_eq_true, beq_iff_eq, Bool.not_eq_true'] at this
  rcases this with ((h1 | h1) | h1) | h1
  ·exact absurd h1 hne
  ·exact absurd ht (by simpa using h1)
  ·exact .inl h1
  ·exact .inr h1
theorem drawI_spec {louds : List Bool} (h : drawI ops (idxs louds 0) = true) {i j : Nat} (hli : louds[i]? = some true) (hlj : louds[j]? = some true) (hne : j ≠ i) : bef ops i j = true ∨ bef ops j i = true := by
 unfold drawI at h
 have mem : ∀ k, louds[k]? = some true → k ∈ idxs louds 0 := fun k hk => by simpa using idxs_mem louds 0 k hk
 have h1 := List.all_eq_true.1 h i (mem i hli)
 have h2 := List.all_eq_true.1 h1 j (mem j hlj)
 simp only [Bool.or_eq_true, beq_iff_eq] at h2
 rcases h2 with (h2 | h2) | h2
 ·exact absurd h2 hne
 ·exact .inl h2
 ·exact .inr h2
theorem zipR_get : ∀ (l : List Oper) (rs : List (AV × Bool)) (i : Nat) (o : Oper) (v : AV) (b : Bool), l[i]? = some o → rs[i]? = some (v, b) → (zipR l rs)[i]? = some (o.dst, v)
 | [], _, _, _, _, _, h, _ => by simp at h
 | _ :: _, [], _, _, _, _, _, h => by simp at h
 | o :: l, (v, b) :: rs, 0, o', v', b', h, h' => by
  simp at h h'
  obtain ⟨rfl, rfl⟩ := h'
  subst h
  rfl
 | o :: l, (v, b) :: rs, i + 1, o', v', b', h, h' => by
  simp only [zipR, List.getElem?_cons_succ]
  exact zipR_get l rs i o' v' b' (by simpa using h) (by simpa using h')
theorem zipR_inv : ∀ (l : List Oper) (rs : List (AV × Bool)) (j : Nat) (p : Option Tmp × AV), (zipR l rs)[j]? = some p → ∃ o, l[j]? = some o ∧ o.dst = p.1
 | [], _, _, _, h => by simp [zipR] at h
 | _ :: _, [], _, _, h => by simp [zipR] at h
 | o :: l, (v, b) :: rs, 0, p, h => by
  simp [zipR] at h; subst h
  exact ⟨o, rfl, rfl⟩
 | o :: l, (v, b) :: rs, j + 1, p, h => by
  simp only [zipR, List.getElem?_cons_succ] at h ⊢
  exact zipR_inv l rs j p h
theorem isFloat_spec {p i : Nat} {o : Oper} (h : isFloat ops p i o = true) : ∃ t d, o.guard = none ∧ o.op = .alloc t ∧ o.dst = some d ∧ ∀ j oj, j < p → j ≠ i → ops[j]? = some oj → d ∉ namesOf ops oj := by
 unfold isFloat at h
 split at h
 ·rename_i t d hg ho hd
  refine ⟨t, d, hg, ho, hd, fun j oj hj hne hoj hmem => ?_⟩
  have := List.all_eq_true.1 h j (List.mem_range.2 hj)
  simp only [hoj, Bool.or_eq_true, beq_iff_eq, Bool.not_eq_true'] at this
  rcases this with h1 | h1
  ·exact hne h1
  ·simp [hmem] at h1
 ·cases h
theorem tail_spec : ∀ (n : Nat), tailStart ops n ≤ n ∧ ∀ j, tailStart ops n ≤ j → j < n → ∀ i, i < j → bef ops j i = true
 | 0 => ⟨Nat.le_refl _, fun j _ h => by omega⟩
 | n + 1 => by
  simp only [tailStart]
  obtain ⟨h1, h2⟩ := tail_spec n
  split
  ·rename_i hm
   refine ⟨by omega, fun j hj hlt i hi => ?_⟩
   by_cases hjn : j = n
   ·subst hjn
    rw [bef_def]
    rw [beq_iff_eq] at hm
    rw [hm, Nat.testBit_two_pow_sub_one]
    simpa using hi
   ·exact h2 j hj (by omega) i hi
  ·exact ⟨Nat.le_refl _, fun j hj hlt => by omega⟩
theorem put_same {b : Act} {d : Tmp} {v : Value} (h : d < b.tmps.size → b.tmps[d]? = some v) : b.put (some d) v = b := by
 have : b.tmps.setIfInBounds d v = b.tmps := by
  apply Array.ext
  ·simp
  ·intro i h1 h2
   rw [Array.getElem_setIfInBounds (by simpa using h1)]
   split
   ·rename_i hdi
    subst hdi
    have := h h2
    rw [Array.getElem?_eq_getElem h2] at this
    exact (Option.some.inj this).symm
   ·rfl
 show ({ b with tmps := b.tmps.setIfInBounds d v } : Act) = b
 rw [this]
theorem put_other {b : Act} {d : Tmp} {dst : Option Tmp} {v : Value} (h : dst ≠ some d) : (b.put dst v).tmps[d]? = b.tmps[d]? := by
 cases dst with
 | none => rfl
 | some t =>
  show (b.tmps.setIfInBounds t v)[d]? = b.tmps[d]?
  rw [Array.getElem?_setIfInBounds, if_neg (fun e => h (by rw [e]))]
theorem put_size {b : Act} {dst : Option Tmp} {v : Value} : (b.put dst v).tmps.size = b.tmps.size := by
 cases dst with
 | none => rfl
 | some t => show (b.tmps.setIfInBounds t v).size = _; simp
structure Flo (P : Program) (ops : Array Oper) (p : Nat) (sz0 : Nat) (D : Nat → Bool) (b : Act) (w : World) (S : Sh) (H : AH) (cf : Nat → Nat) : Prop where
 at_ : ∀ i o t d, i < p → ops[i]? = some o → isFloat ops p i o = true → D i = true → o.op = .alloc t → o.dst = some d →
  (d < b.tmps.size → b.tmps[d]? = some (.pointer (some ⟨cf i, 0, none⟩))) ∧ sz0 ≤ cf i ∧ ¬ Owned S H (cf i) ∧ (∀ k, S.im (cf i) k = none) ∧ ∃ z x, tZero P t = some x ∧ x = ofVs z ∧ w.heap[cf i]? = some (.cells ⟨z.cells.toList⟩ t (0, 0))
 inj : ∀ i j oi oj, i < p → j < p → ops[i]? = some oi → ops[j]? = some oj → isFloat ops p i oi = true → isFloat ops p j oj = true → D i = true → D j = true → i ≠ j → cf i ≠ cf j
theorem Flo.keep {p sz0 : Nat} {D : Nat → Bool} {b : Act} {w w' : World} {S S' : Sh} {H H' : AH} {cf : Nat → Nat} (h : Flo P ops p sz0 D b w S H cf) (hf : Fr S H w S' H' w') {i : Nat} {o : Oper} (hi : ops[i]? = some o) (hip : i < p) (hDi : D i = false) (hnf : isFloat ops p i o = false) (u : Value) :
  Flo P ops p sz0 (addD D i) (b.put o.dst u) w' S' H' cf := by
 constructor
 ·intro j oj t d hj hoj hfl hD hop hdst
  simp only [addD, Bool.or_eq_true, beq_iff_eq] at hD
  rcases hD with hD | rfl
  ·obtain ⟨a1, a2, a3, a4, z, x, a5, a6, a7⟩ := h.at_ j oj t d hj hoj hfl hD hop hdst
   obtain ⟨t', d', _, _, hd', hnm⟩ := isFloat_spec hfl
   rw [hdst] at hd'; cases hd'
   have hji : i ≠ j := by rintro rfl; rw [hDi] at hD; cases hD
   have hne : o.dst ≠ some d := fun e => hnm i o hip hji hi (by unfold namesOf; exact List.mem_append_left _ (List.mem_append_left _ (by rw [e]; simp)))
   have hlt := (Array.getElem?_eq_some_iff.1 a7).1
   refine ⟨fun hs => ?_, a2, fun ho => a3 (hf.own _ ho hlt), fun k => ?_, z, x, a5, a6, ?_⟩
   ·rw [put_size] at hs
    rw [put_other hne]; exact a1 hs
   ·cases hk : S'.im (cf j) k with
    | none => rfl
    | some v =>
     rcases hf.imNew _ _ _ hk with h1 | h1 | h1
     ·rw [a4] at h1; cases h1
     ·omega
     ·exact absurd h1 a3
   ·rw [hf.keep _ hlt a3]; exact a7
  ·rw [hi] at hoj; cases hoj
   rw [hnf] at hfl; cases hfl
 ·intro j k oj ok hj hk hoj hok hfj hfk hDj hDk hne
  simp only [addD, Bool.or_eq_true, beq_iff_eq] at hDj hDk
  rcases hDj with hDj | rfl
  ·rcases hDk with hDk | rfl
   ·exact h.inj j k oj ok hj hk hoj hok hfj hfk hDj hDk hne
   ·rw [hi] at hok; cases hok
    rw [hnf] at hfk; cases hfk
  ·rw [hi] at hoj; cases hoj
   rw [hnf] at hfj; cases hfj
theorem run_alloc {t : TypeId} {x : AV} (hz : tZero P t = some x) (w : World) : ∃ z, x = ofVs z ∧ (Instr.alloc t true (.tuple #[])).run P w = .ok (.pointer (some ⟨w.heap.size, 0, none⟩)) { w with heap := w.heap.push (.cells ⟨z.cells.toList⟩ t (0, 0)) } := by
 obtain ⟨z, h1, h2⟩ := run_zeroValue hz w
 have hz' : (zeroValue t).run P w = .ok z w := h1
 exact ⟨z, h2, by simp [Instr.alloc, hz', newVar, newRow]⟩
theorem Flo.lay {p sz0 : Nat} {D : Nat → Bool} {b : Act} {w : World} {S : Sh} {H : AH} {cf : Nat → Nat} (h : Flo P ops p sz0 D b w S H cf) {S0 : Sh} {A0 : AH} {w0 : World} (hsz : w0.heap.size = sz0) (hinv : Inv G S H w) (hfr : Fr S0 A0 w0 S H w)
  {i : Nat} {o : Oper} (hi : ops[i]? = some o) (hip : i < p) (hDi : D i = false) (hfl : isFloat ops p i o = true) {t : TypeId} (hop : o.op = .alloc t) {x : AV} (hz : tZero P t = some x)
  {z : Value} (hxz : x = ofVs z) :
  Flo P ops p sz0 (addD D i) (b.put o.dst (.pointer (some ⟨w.heap.size, 0, none⟩))) { w with heap := w.heap.push (.cells ⟨z.cells.toList⟩ t (0, 0)) } S H (fun j => if j = i then w.heap.size else cf j) := by
 have hnot : ¬ Owned S H w.heap.size := fun ho => absurd (hinv.lt ho) (by omega)
 have himn : ∀ k, S.im w.heap.size k = none := by
  intro k
  cases hk : S.im w.heap.size k with
  | none => rfl
  | some v => exact absurd (hinv.imlt hk) (by omega)
 have hlt : ∀ j oj, j < p → ops[j]? = some oj → isFloat ops p j oj = true → D j = true → cf j < w.heap.size := by
  intro j oj hj hoj hfj hDj
  obtain ⟨t', d', _, hop', hd', _⟩ := isFloat_spec hfj
  obtain ⟨_, _, _, _, z', x', _, _, a7⟩ := h.at_ j oj t' d' hj hoj hfj hDj hop' hd'
  exact (Array.getElem?_eq_some_iff.1 a7).1
 constructor
 ·intro j oj t' d hj hoj hfj hD hop' hdst
  simp only [addD, Bool.or_eq_true, beq_iff_eq] at hD
  by_cases hji : j = i
  ·subst hji
   rw [hi] at hoj; cases hoj
   rw [hop] at hop'; cases hop'
   simp only [↓reduceIte]
   refine ⟨fun hs => ?_, by rw [← hsz]; exact hfr.size, hnot, himn, z, x, hz, hxz, by simp⟩
   rw [put_size] at hs
   rw [hdst]
   show (b.tmps.setIfInBounds d _)[d]? = _
   rw [Array.getElem?_setIfInBounds, if_pos rfl, if_pos hs]
  ·rcases hD with hD | hD
   ·simp only [if_neg hji]
    obtain ⟨a1, a2, a3, a4, z', x', a5, a6, a7⟩ := h.at_ j oj t' d hj hoj hfj hD hop' hdst
    obtain ⟨_, d', _, _, hd', hnm⟩ := isFloat_spec hfj
    rw [hdst] at hd'; cases hd'
    have hne : o.dst ≠ some d := fun e => hnm i o hip (Ne.symm hji) hi (by unfold namesOf; exact List.mem_append_left _ (List.mem_append_left _ (by rw [e]; simp)))
    refine ⟨fun hs => ?_, a2, a3, a4, z', x', a5, a6, push_old a7⟩
    rw [put_size] at hs
    rw [put_other hne]; exact a1 hs
   ·exact absurd hD hji
 ·intro j k oj ok hj hk hoj hok hfj hfk hDj hDk hne
  simp only [addD, Bool.or_eq_true, beq_iff_eq] at hDj hDk
  by_cases hji : j = i
  ·by_cases hki : k = i
   ·omega
   ·have hDk' : D k = true := by rcases hDk with h' | h'; exact h'; exact absurd h' hki
    simp only [if_pos hji, if_neg hki]
    have := hlt k ok hk hok hfk hDk'
    omega
  ·have hDj' : D j = true := by rcases hDj with h' | h'; exact h'; exact absurd h' hji
   by_cases hki : k = i
   ·simp only [if_neg hji, if_pos hki]
    have := hlt j oj hj hoj hfj hDj'
    omega
   ·have hDk' : D k = true := by rcases hDk with h' | h'; exact h'; exact absurd h' hki
    simp only [if_neg hji, if_neg hki]
    exact h.inj j k oj ok hj hk hoj hok hfj hfk hDj' hDk' hne
theorem Flo.fewer {p sz0 : Nat} {D D' : Nat → Bool} {b : Act} {w : World} {S : Sh} {H : AH} {cf : Nat → Nat} (h : Flo P ops p sz0 D b w S H cf) (hD : ∀ j, j < p → D' j = true → D j = true) : Flo P ops p sz0 D' b w S H cf :=
 ⟨fun i o t d hi ho hf hd => h.at_ i o t d hi ho hf (hD i hi hd), fun i j oi oj hi hj h1 h2 h3 h4 h5 h6 => h.inj i j oi oj hi hj h1 h2 h3 h4 (hD i hi h5) (hD j hj h6)⟩
theorem adopt_ok {p sz0 : Nat} {S0 : Sh} {A0 : AH} {w0 w : World} {b : Act} (hsz : w0.heap.size = sz0) {cf : Nat → Nat} : ∀ (l : List Oper) (k : Nat) (a a' : AAct) (A A' : AH), adoptAll P ops p l k a A = some (a', A') → (∀ j o, l[j]? = some o → ops[k + j]? = some o) → k + l.length ≤ p →
  ∀ S, Inv G S A w → Fr S0 A0 w0 S A w → ARel S a b → Flo P ops p sz0 (fun j => decide (k ≤ j)) b w S A cf → ∃ S', Inv G S' A' w ∧ Fr S0 A0 w0 S' A' w ∧ ARel S' a' b
 | [], k, a, a', A, A', h, _, _, S, hi, hf, hr, _ => by
  simp only [adoptAll, Option.some.injEq, Prod.mk.injEq] at h
  obtain ⟨rfl, rfl⟩ := h
  exact ⟨S, hi, hf, hr⟩
 | o :: l, k, a, a', A, A', h, hl, hlen, S, hi, hf, hr, hflo => by
  simp only [adoptAll] at h
  have ho : ops[k]? = some o := by simpa using hl 0 o rfl
  have hl' : ∀ j o', l[j]? = some o' → ops[k + 1 + j]? = some o' := fun j o' hj => by
   have := hl (j + 1) o' (by simpa using hj)
   rw [show k + 1 + j = k + (j + 1) by omega]; exact this
  simp only [List.length_cons] at hlen
  have hfew : Flo P ops p sz0 (fun j => decide (k + 1 ≤ j)) b w S A cf := hflo.fewer fun j _ hj => by simp at hj ⊢; omega
  split at h
  ·rename_i hfl
   obtain ⟨t, d, _, hop, hdst, _⟩ := isFloat_spec hfl
   rw [hop] at h
   simp only at h
   split at h
   ·rename_i x hz
    split at h
    ·cases h
    ·rename_i htop
     obtain ⟨a1, a2, a3, a4, z, x', a5, a6, a7⟩ := hflo.at_ k o t d (by omega) ho hfl (by simp) hop hdst
     rw [hz] at a5; cases a5
     have hxt : x ≠ .top := by rintro rfl; simp [AV.isTop] at htop
     have hzr := ofVs_rel (S.at A.blks.length (cf k)) z
     rw [← a6] at hzr
     have hcl := hzr.cells hxt
     have hbr : BRel (S.at A.blks.length (cf k)) (.cells x.cells t) (.cells ⟨z.cells.toList ++ []⟩ t (0, 0)) := .cells _ _ _ _ hcl
     have hnone := hi.ρout A.blks.length (Nat.le_refl _)
     have hle := Sh.le_at hnone (cf k)
     have i1 := hi.adopt (by simpa using a7) a3 a4 hbr
     have f1 := hf.adopt (x := .cells x.cells t) hnone (by rw [hsz]; exact a2)
     have hptr : VRel (S.at A.blks.length (cf k)) (.ptr A.blks.length 0) (.pointer (some ⟨cf k, 0, none⟩)) := .ptr _ _ _ (by simp [Sh.at])
     have r1 := (hr.mono hle).put o.dst hptr
     have hb : b.put o.dst (.pointer (some ⟨cf k, 0, none⟩)) = b := by rw [hdst]; exact put_same a1
     rw [hb] at r1
     refine adopt_ok (cf := cf) hsz l (k + 1) _ _ _ _ h hl' (by omega) _ i1 f1 r1 ?_
     constructor
     ·intro j oj t' d' hj hoj hfj hD hop' hdst'
      obtain ⟨b1, b2, b3, b4, z', x'', b5, b6, b7⟩ := hfew.at_ j oj t' d' hj hoj hfj hD hop' hdst'
      refine ⟨b1, b2, ?_, b4, z', x'', b5, b6, b7⟩
      have hkj : k ≠ j := by simp at hD; omega
      have hne := hflo.inj k j o oj (by omega) hj ho hoj hfl hfj (by simp) (by simp at hD ⊢; omega) hkj
      rintro (⟨i, ⟨y, hy, hd⟩, hir⟩ | hrest)
      ·simp only [AH.push] at hy
       rcases Nat.lt_trichotomy i A.blks.length with hlt | heq | hgt
       ·rw [List.getElem?_append_left hlt] at hy
        simp only [Sh.at] at hir; rw [if_neg (by omega)] at hir
        exact b3 (.inl ⟨i, ⟨y, hy, hd⟩, hir⟩)
       ·subst heq
        simp [Sh.at] at hir
        exact hne hir
       ·rw [List.getElem?_append_right (by omega), List.getElem?_eq_none (by simp; omega)] at hy; cases hy
      ·exact b3 (.inr hrest)
     ·exact fun i j oi oj => hfew.inj i j oi oj
   ·cases h
  ·exact adopt_ok (cf := cf) hsz l (k + 1) _ _ _ _ h hl' (by omega) S hi hf hr hfew
theorem adopt_zero {p : Nat} : ∀ (l : List Oper) (k : Nat) (a a' : AAct) (A A' : AH), adoptAll P ops p l k a A = some (a', A') → ∀ j o t, l[j]? = some o → isFloat ops p (k + j) o = true → o.op = .alloc t → ∃ x, tZero P t = some x
 | [], _, _, _, _, _, _, j, o, t, h, _, _ => by simp at h
 | o :: l, k, a, a', A, A', h, 0, o', t, hj, hfl, hop => by
  simp at hj; subst hj
  simp only [adoptAll] at h
  rw [if_pos (by simpa using hfl), hop] at h
  simp only at h
  split at h
  ·rename_i x hz; exact ⟨x, hz⟩
  ·cases h
 | o :: l, k, a, a', A, A', h, j + 1, o', t, hj, hfl, hop => by
  simp only [adoptAll] at h
  have hj' : l[j]? = some o' := by simpa using hj
  have hfl' : isFloat ops p (k + 1 + j) o' = true := by rw [show k + 1 + j = k + (j + 1) by omega]; exact hfl
  split at h
  ·split at h
   ·split at h
    ·split at h
     ·cases h
     ·exact adopt_zero l (k + 1) _ _ _ _ h j o' t hj' hfl' hop
    ·cases h
   ·cases h
  ·exact adopt_zero l (k + 1) _ _ _ _ h j o' t hj' hfl' hop
theorem aDraw_ok (hm : Mc.Ok P G m) (hpf : ∀ f args es, pf f args = some es → QCall P G f args es) (hmix : P.follows .mixedOrders = true) {a : AAct} {A : AH} {os : List AOut} (hx : aDraw P G pf m rd ops a A = some os)
  {S : Sh} {w : World} {b : Act} {ro : Option Nat} (hi : Inv G S A w) (hab : ARel S a b) (hr : RdRel S rd ro) (id : Nat) : (Code.region id ops true).wpIn (fen ro) 0 P (OutPost G S A w os) b w := by
 unfold aDraw at hx
 simp only at hx
 obtain ⟨hp, htail⟩ := tail_spec (ops := ops) ops.size
 generalize tailStart ops ops.size = p at hx hp htail
 split at hx
 ·rename_i rs hs hrun
  split at hx
  ·rename_i hc
   split at hx
   ·rename_i a2 A2 hadopt
    rw [cntI_idxs] at hadopt
    simp only [Bool.and_eq_true] at hc
    obtain ⟨⟨hS, hL⟩, hW⟩ := hc
    obtain ⟨hlow, hnames⟩ := drawS_spec hS
    obtain ⟨hlen, hspec⟩ := dRun_spec _ _ _ _ _ _ hrun
    have hwin := winB_spec _ _ _ _ (win_all hW)
    have hprel : (ops.toList.take p).length = p := by simp; omega
    have hrsz : rs.length = p := by rw [hlen, hprel]
    have hpre : ∀ i o, i < p → ops[i]? = some o → (ops.toList.take p)[i]? = some o := by
     intro i o hip ho
     rw [List.getElem?_take, if_pos hip]; simpa using ho
    have hpre' : ∀ i o, (ops.toList.take p)[i]? = some o → i < p ∧ ops[i]? = some o := by
     intro i o ho
     rw [List.getElem?_take] at ho
     split at ho
     ·rename_i hip; exact ⟨hip, by simpa using ho⟩
     ·cases ho
    -- where an operation is at hand
    have look : ∀ (D : Nat → Bool) (i : Nat) (o : Oper), Down .any ops D → ops[i]? = some o → D i = false → (∀ e ∈ o.after, Region.binds .any e = true → D e.on = true) →
      (∀ j, bef ops i j = true → D j = true) ∧ (∀ j, D j = true → bef ops j i = false) := by
     intro D i o hD ho hDi hr
     refine ⟨fun j hj => bef_ready hlow hD ho hr hj, fun j hj => ?_⟩
     cases hb : bef ops j i with
     | false => rfl
     | true =>
      have := bef_down hlow hD j i hj hb
      rw [hDi] at this; cases this
    let zr := zipR (ops.toList.take p) rs
    let Pre : (Nat → Bool) → Act → World → Prop := fun D b' w' => ∃ S' H cf, (A :: hs)[cntF (rs.map (·.2)) 0 D]? = some H ∧ Inv G S' H w' ∧ Fr S A w S' H w' ∧ ARel S' (actF zr 0 D a) b' ∧ Flo P ops p w.heap.size D b' w' S' H cf
    let St : (Nat → Bool) → Act → World → Prop := fun D b' w' => (∃ i0, i0 < p ∧ D i0 = false ∧ Pre D b' w') ∨
     (∃ t, (∀ j, j < p + t → j < ops.size → D j = true) ∧ (∀ j, p + t ≤ j → j < ops.size → D j = false) ∧ p + t ≤ ops.size ∧ wpListIn (fen ro) 0 P ops (OutPost G S A w os) (ops.toList.drop (p + t)) b' w')
    -- the first p are done
    have finish : ∀ (D : Nat → Bool) b' w', (∀ j, j < p → D j = true) → Pre D b' w' → wpListIn (fen ro) 0 P ops (OutPost G S A w os) (ops.toList.drop p) b' w' := by
     intro D b' w' hall ⟨S', H, cf, hH, iH, fH, rH, flo⟩
     have hDt : cntF (rs.map (·.2)) 0 D = cntF (rs.map (·.2)) 0 fun _ => true := Nat.le_antisymm (cntF_mono _ _ fun _ _ _ => rfl) (cntF_mono _ _ fun j hj _ => by
      rw [Nat.zero_add]
      have := (List.getElem?_eq_some_iff.1 hj).1
      exact hall j (by simp at this; omega))
     have hzl : ∀ (l : List Oper) (r : List (AV × Bool)), (zipR l r).length ≤ l.length := by
      intro l
      induction l with
      | nil => intro r; simp [zipR]
      | cons o l ih => intro r; cases r with
       | nil => simp [zipR]
       | cons x r => obtain ⟨v, b⟩ := x; simp only [zipR, List.length_cons]; have := ih r; omega
     have hAt : actF zr 0 D a = actF zr 0 (fun _ => true) a := by
      refine actF_congr _ 0 a fun j hj => ?_
      rw [Nat.zero_add]
      have hz : zr.length ≤ p := by
       show (zipR (ops.toList.take p) rs).length ≤ p
       have := hzl (ops.toList.take p) rs
       omega
      exact hall j (by omega)
     rw [hDt] at hH
     rw [hAt] at rH
     rw [hH] at hadopt
     simp only [Option.getD_some] at hadopt
     obtain ⟨S2, i2, f2, r2⟩ := adopt_ok (cf := cf) (sz0 := w.heap.size) rfl _ _ _ _ _ _ hadopt (fun j o hj => by rw [Nat.zero_add]; exact (hpre' j o hj).2) (by rw [hprel]; omega) S' iH fH rH (flo.fewer fun j hj _ => hall j hj)
     exact wpListIn_mono (fun _ _ _ h => h.from f2 fun _ h => h) _ _ _ (hm.ops _ _ _ _ _ _ hx S2 w' b' ro i2 r2 (hr.mono f2.le))
    refine wpIn_region_any hmix ?_
    refine order_any St hlow ?_ ?_ ops.size _ b _ (by simp) ?_ ?_ ?_
    ·intro D i o hD ho hDi hrdy b' w' hst
     have hil := (Array.getElem?_eq_some_iff.1 ho).1
     obtain ⟨h1, h2⟩ := look D i o hD ho hDi hrdy
     rcases hst with ⟨i0, hi0, hDi0, hpre0⟩ | ⟨t, ht1, ht2, ht3, hw⟩
     ·-- one of the first p
      have hip : i < p := by
       rcases Nat.lt_or_ge i p with h' | h'
       ·exact h'
       ·have := h1 i0 (htail i h' hil i0 (by omega))
        rw [hDi0] at this; cases this
      obtain ⟨S', H, cf, hH, iH, fH, rH, flo⟩ := hpre0
      have hol : (ops.toList.take p)[i]? = some o := hpre i o hip ho
      obtain ⟨v, lb, Hc, A', q1, q2, q3, q4⟩ := hspec i o hol
      rw [Nat.zero_add] at q3
      suffices hsuf : wpOpIn (fen ro) 0 P ops (OutPost G S A w os) i (Pre (addD D i)) b' w' by
       refine wpOpIn_mono ?_ hsuf
       intro b2 w2 hp2
       by_cases hex : ∃ i1, i1 < p ∧ addD D i i1 = false
       ·obtain ⟨i1, hi1, hd1⟩ := hex
        exact .inl ⟨i1, hi1, hd1, hp2⟩
       ·have hall : ∀ j, j < p → addD D i j = true := fun j hj => by
         cases hd : addD D i j with
         | true => rfl
         | false => exact absurd ⟨j, hj, hd⟩ hex
        refine .inr ⟨0, fun j hj _ => hall j (by omega), fun j hj hjs => ?_, by omega, by simpa using finish _ _ _ hall hp2⟩
        simp only [addD, Bool.or_eq_false_iff, beq_eq_false_iff_ne]
        refine ⟨?_, by omega⟩
        cases hd : D j with
        | false => rfl
        | true =>
         have := h2 j hd
         rw [htail j (by omega) hjs i (by omega)] at this; cases this
      -- whoever writes what it names
      have hwr : ∀ j t, (ops[j]?).bind (·.dst) = some t → t ∈ namesOf ops o → D j = decide (j < i) := by
       intro j t hj ht
       by_cases hji : j = i
       ·subst hji; simp [hDi]
       ·rcases hnames i j o t ho hj hji ht with hb | hb
        ·rw [h1 j hb]; simp [bef_low hlow i j hb]
        ·have hlt := bef_low hlow j i hb
         have : D j = false := by
          cases hd : D j with
          | false => rfl
          | true => rw [h2 j hd] at hb; cases hb
         rw [this]; simp; omega
      have hget : ∀ t, t ∈ namesOf ops o → (actF zr 0 D a).tmps[t]? = (actF zr 0 (fun j => decide (j < i)) a).tmps[t]? := by
       intro t ht
       refine actF_get _ 0 a a rfl rfl fun j p' hp' hpt => ?_
       obtain ⟨oj, ho1, ho2⟩ := zipR_inv _ _ _ _ hp'
       rw [Nat.zero_add]
       exact hwr j t (by rw [(hpre' j oj ho1).2]; simp [ho2, hpt]) ht
      have halike : Alike ops o (actF zr 0 D a) (actF zr 0 (fun j => decide (j < i)) a) := by
       refine ⟨fun x hx => ?_, fun p' hp' t ht => ?_⟩
       ·cases x with
        | tmp t =>
         have := hget t (by
          unfold namesOf
          refine List.mem_append_left _ (List.mem_append_right _ (List.mem_filterMap.2 ⟨.tmp t, by simpa using hx, rfl⟩)))
         simp only [AAct.eval, AAct.get, nthR_eq, this]
        | const v => rfl
        | global g => rfl
        | func f => rfl
       ·refine hget t ?_
        unfold namesOf
        refine List.mem_append_right _ ?_
        rw [hp']
        obtain ⟨j, want⟩ := p'
        simp only at ht ⊢
        rw [ht]; simp
      have hlb : (rs.map (·.2))[i]? = some lb := by simp [q1]
      have hact : actF zr 0 (addD D i) a = (actF zr 0 D a).put o.dst v := by
       have := actF_add (D := D) zr i 0 a (zipR_get _ _ _ _ _ _ hol q1) (by simpa using hDi) (fun j p' hij hp' hj => by
        intro t ht hpt
        obtain ⟨oj, ho1, ho2⟩ := zipR_inv _ _ _ _ hp'
        rw [Nat.zero_add] at hj
        have := hwr j t (by rw [(hpre' j oj ho1).2]; simp [ho2, hpt]) (by unfold namesOf; refine List.mem_append_left _ (List.mem_append_left _ ?_); rw [ht]; simp)
        rw [hj] at this
        simp at this; omega)
       simpa using this
      have hcnt := cntF_add (D := D) (rs.map (·.2)) i 0 hlb (by simpa using hDi)
      simp only [Nat.zero_add] at hcnt
      cases hfl : isFloat ops p i o with
      | true =>
       obtain ⟨t, d, hg, hop, hdst, hnm⟩ := isFloat_spec hfl
       obtain ⟨x, hz⟩ := adopt_zero _ _ _ _ _ _ hadopt i o t hol (by rw [Nat.zero_add]; exact hfl) hop
       obtain ⟨z, hxz, hrunz⟩ := run_alloc hz w'
       unfold aOpF at q3
       rw [if_pos hfl] at q3
       cases q3
       simp only [Bool.false_eq_true, if_false, Nat.add_zero] at hcnt
       have hnd : ∀ c, o.op ≠ .defer c := by intro c hc; rw [hop] at hc; cases hc
       unfold wpOpIn
       rw [ho]
       simp only
       have hwant : Region.wanted o (yielded ops b'.tmps) = true := by simp [Region.wanted, hg]
       rw [hwant]
       simp only [if_true]
       refine ⟨fun _ _ => trivial, ?_⟩
       rw [Oper.semAt_eq _ _ _ hnd]
       simp only [execOp, hop, Sem.run_bind, hrunz, Result.andThen_ok, Sem.run_pure, Oper.uponIn]
       obtain ⟨i2, f2⟩ := iH.idle (.cells ⟨z.cells.toList⟩ t (0, 0))
       refine ⟨S', H, _, by rw [hcnt]; exact hH, i2, fH.trans f2, ?_, flo.lay rfl iH fH ho hip hDi hfl hop hz hxz⟩
       rw [hact]
       exact rH.put _ (.top _)
      | false =>
       have hopF : ∀ a A, aOpF P G pf m rd ops p i a A o = aOp1 P G pf m rd ops a A o := fun a A => by unfold aOpF; rw [hfl]; rfl
       rw [hopF] at q3
       have fin : ∀ A2, aOp1 P G pf m rd ops (actF zr 0 D a) H o = some (v, A2, lb) → (A :: hs)[cntF (rs.map (·.2)) 0 (addD D i)]? = some A2 → wpOpIn (fen ro) 0 P ops (OutPost G S A w os) i (Pre (addD D i)) b' w' := by
        intro A2 hop hA2
        refine aOp1_ok hm hpf hop iH rH (hr.mono fH.le) ho ?_
        intro S2 u w2 i2 f2 v2
        refine ⟨S2, A2, cf, hA2, i2, fH.trans f2, ?_, flo.keep f2 ho hip hDi hfl u⟩
        rw [hact]
        exact (rH.mono f2.le).put _ v2
       cases lb with
       | true =>
        have hceq : cntF (rs.map (·.2)) 0 D = cntF (rs.map (·.2)) 0 fun j => decide (j < i) := by
         have hone : ∀ j, (rs.map (·.2))[j]? = some true → D j = decide (j < i) := by
          intro j hj
          have hjl : j < p := by
           have := (List.getElem?_eq_some_iff.1 hj).1
           simp at this; omega
          by_cases hji : j = i
          ·subst hji; simp [hDi]
          ·rcases drawI_spec hL hlb hj hji with hb | hb
           ·rw [h1 j hb]; simp [bef_low hlow i j hb]
           ·have hlt := bef_low hlow j i hb
            have : D j = false := by
             cases hd : D j with
             | false => rfl
             | true => rw [h2 j hd] at hb; cases hb
            rw [this]; simp; omega
         refine Nat.le_antisymm (cntF_mono _ _ fun j hj hd => ?_) (cntF_mono _ _ fun j hj hd => ?_)
         ·rw [Nat.zero_add] at hd ⊢; rw [← hone j hj]; exact hd
         ·rw [Nat.zero_add] at hd ⊢; rw [hone j hj]; exact hd
        rw [hceq, q2] at hH
        cases hH
        refine fin A' ?_ ?_
        ·rw [aOp1_congr halike]; exact q3
        ·rw [hcnt, hceq]; exact q4 rfl
       | false =>
        simp only [Bool.false_eq_true, if_false, Nat.add_zero] at hcnt
        have hlo : cntF (rs.map (·.2)) 0 (bef ops i) ≤ cntF (rs.map (·.2)) 0 D := cntF_mono _ _ fun j _ hj => by rw [Nat.zero_add] at hj ⊢; exact h1 j hj
        have hhi : cntF (rs.map (·.2)) 0 D ≤ cntF (rs.map (·.2)) 0 fun j => !bef ops j i := cntF_mono _ _ fun j _ hj => by rw [Nat.zero_add] at hj ⊢; rw [h2 j hj]; rfl
        have hw := hwin i o v hol q1
        rw [Nat.zero_add] at hw
        have hop : aOp1 P G pf m rd ops (actF zr 0 D a) H o = some (v, H, false) := by
         rw [aOp1_congr halike]
         unfold winOne at hw
         rw [cntI_idxs, cntI_idxs] at hw
         simp only [Bool.or_eq_true, decide_eq_true_eq] at hw
         rcases hw with hw | hw
         ·have hclo : cntF (rs.map (·.2)) 0 (bef ops i) ≤ cntF (rs.map (·.2)) 0 fun j => decide (j < i) := cntF_mono _ _ fun j _ hj => by rw [Nat.zero_add] at hj ⊢; simp [bef_low hlow i j hj]
          have hchi : (cntF (rs.map (·.2)) 0 fun j => decide (j < i)) ≤ cntF (rs.map (·.2)) 0 fun j => !bef ops j i := cntF_mono _ _ fun j _ hj => by
           rw [Nat.zero_add] at hj ⊢
           cases hb : bef ops j i with
           | false => rfl
           | true => have := bef_low hlow j i hb; simp at hj; omega
          have hce : cntF (rs.map (·.2)) 0 D = cntF (rs.map (·.2)) 0 fun j => decide (j < i) := by omega
          rw [hce, q2] at hH
          cases hH
          have := quiet_heap q3
          subst this
          exact q3
         ·have hmem : H ∈ ((A :: hs).drop (cntF (rs.map (·.2)) 0 (bef ops i))).take ((cntF (rs.map (·.2)) 0 fun j => !bef ops j i) + 1 - cntF (rs.map (·.2)) 0 (bef ops i)) := by
           refine List.mem_of_getElem? (i := cntF (rs.map (·.2)) 0 D - cntF (rs.map (·.2)) 0 (bef ops i)) ?_
           rw [List.getElem?_take, if_pos (by omega), List.getElem?_drop, show cntF (rs.map (·.2)) 0 (bef ops i) + (cntF (rs.map (·.2)) 0 D - cntF (rs.map (·.2)) 0 (bef ops i)) = cntF (rs.map (·.2)) 0 D by omega]
           exact hH
          have := List.all_eq_true.1 hw H hmem
          rw [hopF] at this
          split at this
          ·rename_i v' A2 l' hop
           simp only [Bool.and_eq_true, Bool.not_eq_true'] at this
           obtain ⟨rfl, he⟩ := this
           have := eqv_eq _ _ he
           subst this
           have := quiet_heap hop
           subst this
           exact hop
          ·cases this
        exact fin H hop (by rw [hcnt]; exact hH)
     ·-- one of the others
      have hit : i = p + t := by
       rcases Nat.lt_trichotomy i (p + t) with h' | h' | h'
       ·have := ht1 i h' hil
        rw [hDi] at this; cases this
       ·exact h'
       ·have hpt : p + t < ops.size := by omega
        have := h1 (p + t) (htail i (by omega) hil (p + t) h')
        rw [ht2 (p + t) (Nat.le_refl _) hpt] at this; cases this
      subst hit
      have hdrop : ops.toList.drop (p + t) = o :: ops.toList.drop (p + (t + 1)) := by
       have : ops.toList[p + t]? = some o := by simpa using ho
       rw [show p + (t + 1) = p + t + 1 by omega]
       exact (List.drop_eq_getElem?_toList_append).trans (by rw [this]; rfl)
      rw [hdrop] at hw
      refine wpOpIn_mono (K := wpListIn (fen ro) 0 P ops (OutPost G S A w os) (ops.toList.drop (p + (t + 1)))) ?_ ?_
      ·intro b2 w2 h
       refine .inr ⟨t + 1, fun j hj hjs => ?_, fun j hj hjs => ?_, by omega, h⟩
       ·simp only [addD, Bool.or_eq_true, beq_iff_eq]
        by_cases hji : j = p + t
        ·exact .inr hji
        ·exact .inl (ht1 j (by omega) hjs)
       ·simp only [addD, Bool.or_eq_false_iff, beq_eq_false_iff_ne]
        exact ⟨ht2 j (by omega) hjs, by omega⟩
      ·unfold wpOpIn
       rw [ho]
       exact hw
    ·intro D b' w' hall hst
     rcases hst with ⟨i0, hi0, hDi0, _⟩ | ⟨t, ht1, ht2, ht3, hw⟩
     ·rw [hall i0 (by omega)] at hDi0; cases hDi0
     ·have : p + t = ops.size := by
       rcases Nat.lt_or_ge (p + t) ops.size with h' | h'
       ·have := ht2 (p + t) (Nat.le_refl _) h'
        rw [hall (p + t) h'] at this; cases this
       ·omega
      rw [this, List.drop_eq_nil_of_le (by simp)] at hw
      exact hw
    ·have : ((Array.replicate ops.size false).toList.countP fun x => !x) ≤ (Array.replicate ops.size false).toList.length := List.countP_le_length
     simpa using this
    ·intro j o ho hj
     simp [inn, Array.getD_eq_getD_getElem?, Array.getElem?_replicate] at hj
     split at hj <;> simp at hj
    ·obtain ⟨i1, f1⟩ := hi.drew (w.drawn + 1)
     have hz : ∀ j, inn (Array.replicate ops.size false) j = false := by
      intro j
      simp only [inn, Array.getD_eq_getD_getElem?, Array.getElem?_replicate]
      split <;> rfl
     have hpre0 : Pre (inn (Array.replicate ops.size false)) b { w with drawn := w.drawn + 1 } := by
      refine ⟨S, A, fun _ => 0, ?_, i1, f1, ?_, ?_, ?_⟩
      ·rw [cntF_none _ _ _ hz]; rfl
      ·rw [actF_none _ _ _ _ hz]; exact hab
      ·intro i o t d _ _ _ hD
       rw [hz] at hD; cases hD
      ·intro i j oi oj _ _ _ _ _ _ hD
       rw [hz] at hD; cases hD
     by_cases hp0 : p = 0
     ·refine .inr ⟨0, fun j hj _ => by omega, fun j _ _ => hz j, by omega, ?_⟩
      have := finish _ _ _ (fun j hj => by omega) hpre0
      simpa using this
     ·exact .inl ⟨0, by omega, hz 0, hpre0⟩
   ·cases hx
  ·cases hx
 ·cases hx
end
end Go.Am
end
section
noncomputable section
namespace Go.Am
open Go
section
variable (P : Program) (G : Gl)
def pFn (pu : FuncId → Bool) (orc : Orc) (m : Mc) (f : FuncId) (args : List AV) : Option (List AEnd) :=
 if pu f && AV.cleanL args then
  let args' := args.map (pur P AH.nil pDepth)
  match orc f args' with
  | some es => some es
  | none =>
   match sFunc P m f args' AH.nil with
   | some os => some (nubE (os.map (purEnd P pDepth)))
   | none => none
 else none
def fFunc (pu : FuncId → Bool) (orc : Orc) (m : Mc) (f : FuncId) (args : List AV) (A : AH) : Option (List AFin) :=
 match pFn P pu orc m f args with
 | some es => some (es.map fun e => ⟨e, A⟩)
 | none => sFunc P m f args A
def Mc.base (mu : Oper → Bool) : Mc := { Mc.none with mu := mu }
variable {P G}
theorem pFn_ok {pu : FuncId → Bool} {orc : Orc} (ho : Orc.Ok P G orc) {m : Mc} (hm : Mc.Ok P G m) {f : FuncId} {args : List AV} {es : List AEnd} (hx : pFn P pu orc m f args = some es) : QCall P G f args es := by
 intro S A w vs hi hl
 unfold pFn at hx
 split at hx
 ·simp only at hx
  split at hx
  ·rename_i es' he
   cases hx
   exact (ho _ _ _ he).lift hi (pur_bares _ hl)
  ·split at hx
   ·rename_i os' hs
    cases hx
    exact (PCall.of_sFunc hm hs pDepth).nub.lift hi (pur_bares _ hl)
   ·cases hx
 ·cases hx
theorem base_ok (mu : Oper → Bool) : Mc.Ok P G (Mc.base mu) where
 func _ _ _ _ h := by cases h
 code _ _ _ _ _ h := by cases h
 loop _ _ _ _ _ h := by cases h
 ops _ _ _ _ _ _ h := by cases h
 round _ _ _ _ h := by cases h
 leave _ _ _ _ _ _ h := by cases h
 dfunc _ _ _ _ _ h := by cases h
 codeS _ _ _ _ _ h := by cases h
end
end Go.Am
end
section
namespace Go.Am
open Go Go.RowKit
def g0 : Gl := fun _ _ => none
theorem Orc.tabNil {P : Program} {G : Gl} : ∀ e ∈ ([] : List (FuncId × List AV × List AEnd)), PCall P G e.1 e.2.1 e.2.2 := fun _ h => by cases h
theorem Orc.tabCons {P : Program} {G : Gl} {f : FuncId} {xs : List AV} {es : List AEnd} {t : List (FuncId × List AV × List AEnd)} (h : PCall P G f xs es) (ht : ∀ e ∈ t, PCall P G e.1 e.2.1 e.2.2) : ∀ e ∈ (f, xs, es) :: t, PCall P G e.1 e.2.1 e.2.2 := by
 intro e he
 rcases List.mem_cons.1 he with rfl | he
 ·exact h
 ·exact ht e he
end Go.Am
end