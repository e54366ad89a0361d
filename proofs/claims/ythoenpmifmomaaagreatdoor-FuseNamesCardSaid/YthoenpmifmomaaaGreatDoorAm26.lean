/-
  One operation of a region that draws its order: what it comes to, and whether it leaves the abstract heap as it is. Conditions: none.
-/
import Derived.Test.YthoenpmifmomaaaGreatDoorAm25
noncomputable section
namespace Go.Am
open Go

section
variable {P : Program}

theorem fix_ok {G : Gl} {S : Sh} {A : AH} {w : World} (h : Inv G S A w) {xs : List AV} {sz : Nat} (h0 : 0 < sz) (hu : ∀ y ∈ xs, y.cells.length = sz) {vs : List Value} (hv : LRel S (flat xs) vs) (rest : List Value) (el : TypeId) (cap : Nat)
    (hcap : xs.length ≤ cap) (_hroom : cap * sz ≤ (vs ++ rest).length) :
    ∃ S', Inv G S' A { w with heap := w.heap.push (.cells ⟨vs ++ rest⟩ el (0, 0)) } ∧ Fr S A w S' A { w with heap := w.heap.push (.cells ⟨vs ++ rest⟩ el (0, 0)) } ∧
      VRel S' (.isl false none 0 xs) (.slice (some ⟨w.heap.size, 0, none⟩) xs.length cap) := by
  obtain ⟨i1, i2⟩ := h.fix vs rest el (0, 0)
  refine ⟨_, i1, i2, .isl _ 0 xs sz _ 0 cap h0 hu ?_ hcap ?_⟩
  · refine CRel.of_cells (hv.mono i2.le) fun j v hj => ?_
    simp [Sh.fix, hj]
  · intro φ hφ
    cases hφ

variable (P) in
/-- A row of a literal, behind which nothing grows. -/
def aBuildSliceQ (t : TypeId) (len : Nat) (parts : List (Nat × AV)) : Option AV :=
  match P.underlying t with
  | some (.slice e) =>
    match tSize P e, tZero P e with
    | some (m + 1), some z =>
      if len * (m + 1) ≤ 2 ^ 24 ∧ z.cells.length = m + 1 ∧ z.isTop = false then
        match aSets (m + 1) (List.replicate len z) parts with
        | some xs => some (.isl false none 0 xs)
        | none => none
      else none
    | _, _ => none
  | _ => none

theorem aBuildSliceQ_ok {G : Gl} {S : Sh} {A : AH} {w : World} (h : Inv G S A w) {t : TypeId} {len : Nat} {parts : List (Nat × AV)} {ps : Array (Nat × Value)} {x : AV} (hx : aBuildSliceQ P t len parts = some x) (hp : PRel S parts ps.toList) :
    VOk P G S A w (Instr.buildSlice t len ps) x A := by
  unfold aBuildSliceQ at hx
  split at hx
  · rename_i e hd
    split at hx
    · rename_i m z hm hz
      split at hx
      · rename_i hc
        obtain ⟨h1, h2, h3⟩ := hc
        split at hx
        · rename_i xs hxs
          cases hx
          obtain ⟨r1, r2, r3⟩ := aSets_ok parts _ xs (uniform_replicate z len h2) hxs
          rw [List.length_replicate] at r3
          obtain ⟨zv, hz1, hz2⟩ := run_zeroValue hz w
          have hzr := ofVs_rel S zv
          rw [← hz2] at hzr
          have hzl := zeros_rel (n := len) hzr h3 h2 (by omega)
          obtain ⟨us, f1, f2⟩ := aFill_ok hp hzl r1
          have hzs : zv.cells.size = m + 1 := by
            have hzt : z ≠ .top := by rintro rfl; simp [AV.isTop] at h3
            have := (hzr.cells hzt).length; simp at this; omega
          have hul := f2.length
          rw [flat_length r2, r3] at hul
          obtain ⟨S', i1, i2, i3⟩ := fix_ok (w := w) h (by omega) r2 f2 [] e len (by omega) (by simp; omega)
          rw [r3] at i3
          refine ⟨_, _, S', ?_, i1, i2, i3⟩
          have i3 := i3
          have z2 : (Array.range (len * (m + 1))).map (fun x => zv.cells[x % zv.cells.size]!) = (Array.range (len * zv.cells.size)).map fun i => zv.cells[i % zv.cells.size]! := by rw [hzs]
          have f1' : Instr.fill (fun i => some (i * (m + 1), m + 1)) ((Array.range (len * (m + 1))).map (fun x => zv.cells[x % zv.cells.size]!)) ps.toList = some ⟨us⟩ := by rw [z2]; exact f1
          simp only [Instr.buildSlice, Sem.run_bind, run_underlying hd, Result.andThen_ok, run_sizeOf hm]
          rw [if_neg (by simp only [Nat.succ_eq_add_one]; omega)]
          simp only [Nat.succ_eq_add_one]
          by_cases hl0 : len * (m + 1) = 0
          · rw [if_pos hl0]
            have f0 : Instr.fill (fun i => some (i * (m + 1), m + 1)) ((Array.range (len * (m + 1))).map (fun x => (#[] : Array Value)[x % (#[] : Array Value).size]!)) ps.toList = some ⟨us⟩ := by
              have hA : ∀ g : Nat → Value, (Array.range (len * (m + 1))).map g = #[] := by intro g; rw [hl0]; apply Array.ext (by simp); intro i h1 _; simp at h1
              rw [hA] at f1' ⊢; exact f1'
            simp only [Sem.run_bind, Sem.run_pure, Result.andThen_ok, f0]
            simp [newRow]
          · rw [if_neg hl0]
            simp only [Sem.run_bind, Sem.run_pure, Result.andThen_ok, hz1, f1']
            simp [newRow]
        · cases hx
      · cases hx
    · cases hx
  · cases hx


/-- It leaves the heap as it is. -/
def quietOp : Op → Bool
  | .move _ | .assign _ | .pick .. | .build .. | .load .. | .nilCheck _ | .binOp .. | .unOp .. | .convert .. | .makeInterface .. | .makeFunc .. | .slice .. | .fieldAddr .. | .field .. | .indexAddr .. | .index ..
  | .lookup .. | .entry _ | .typeAssert .. | .extract .. => true
  | .call c => match c.callee with | .builtin .len | .builtin .max | .builtin .min => true | _ => false
  | _ => false

theorem aVal_same {A A' : AH} {x : Option AV} {v : AV} (h : aVal A x = some [.val v A']) : A' = A := by
  unfold aVal at h
  cases x <;> simp at h
  exact h.2.symm

theorem quiet_same {G : Gl} {mu rd : Bool} {A A' : AH} {ev : Operand → AV} {o : Oper} {v : AV} (hq : quietOp o.op = true) (h : aOp P G mu rd A ev o = some [.val v A']) : A' = A := by
  unfold aOp at h
  split at h
  all_goals first
    | (cases h; done)
    | (rename_i hop; rw [hop] at hq; first
        | (cases hq; done)
        | exact aVal_same h
        | skip)
  · simp at h; exact h.2.symm
  · simp at h; exact h.2.symm
  · split at h
    · simp at h; exact h.2.symm
    · cases h
  · split at h <;> first | (cases h; done) | (simp at h; exact h.2.symm)
  · split at h
    · simp at h; exact h.2.symm
    · exact aVal_same h
  · split at h <;> simp at h
    exact h.2.symm
  · rename_i c
    simp only [Option.map_eq_some_iff, List.cons.injEq, and_true] at h
    obtain ⟨r, hr, rfl⟩ := h
    unfold aCall at hr
    simp only [quietOp] at hq
    split at hr
    · rename_i f hc; simp [hc] at hq
    · rename_i hc; simp [hc] at hq
    · rename_i b hc
      rw [hc] at hq
      split at hr
      · cases hq
      · simp at hr; obtain ⟨y, _, _, h1⟩ := hr; exact h1.symm
      · cases hq
      · cases hq
      · cases hq
      · simp at hr; obtain ⟨y, _, _, h1⟩ := hr; exact h1.symm
      · simp at hr; obtain ⟨y, _, _, h1⟩ := hr; exact h1.symm
      · cases hq
      · cases hr

theorem aEnter_same {f g : FuncId} {args xs : List AV} {A A' : AH} (h : aEnter P f args A = some (.enter g xs A')) : A' = A := by
  unfold aEnter at h
  split at h
  · split at h <;> cases h
    rfl
  · cases h

theorem aInvoke_same {G : Gl} {A A' : AH} {fn : Fn} {args cap : List AV} {g : FuncId} {xs : List AV} (h : aInvoke P G A fn args cap = some (.enter g xs A')) : A' = A := by
  unfold aInvoke at h
  split at h
  · exact aEnter_same h
  · split at h
    · split at h
      · exact aEnter_same h
      · cases h
    · cases h
  · split at h
    · split at h
      · exact aEnter_same h
      · cases h
    · cases h
    · split at h
      · exact aEnter_same h
      · cases h
    · cases h
  · split at h
    · split at h
      · split at h
        · exact aEnter_same h
        · cases h
      · cases h
    · cases h
  · split at h
    · split at h <;> cases h
    · cases h

theorem enter_same {G : Gl} {mu rd : Bool} {A A' : AH} {ev : Operand → AV} {o : Oper} {f : FuncId} {xs : List AV} (h : aOp P G mu rd A ev o = some [.enter f xs A']) : A' = A := by
  have hv : ∀ {x : Option AV}, aVal A x ≠ some [.enter f xs A'] := by
    intro x hx
    unfold aVal at hx
    cases x <;> simp at hx
  have hh : ∀ {x : Option (AV × AH)}, aValH x ≠ some [.enter f xs A'] := by
    intro x hx
    unfold aValH at hx
    cases x <;> simp at hx
  have he : ∀ {x : Option AH}, aEff x ≠ some [.enter f xs A'] := by
    intro x hx
    unfold aEff at hx
    cases x <;> simp at hx
  unfold aOp at h
  split at h
  all_goals first
    | (cases h; done)
    | exact absurd h hv
    | exact absurd h hh
    | exact absurd h he
    | (split at h <;> first | (cases h; done) | (split at h <;> cases h; done) | exact absurd h hv)
    | skip
  · simp only [Option.map_eq_some_iff] at h
    obtain ⟨l, hl, h⟩ := h
    cases l with
    | nil => cases h
    | cons x l => obtain ⟨v, A2⟩ := x; simp at h
  · simp only [Option.map_eq_some_iff, List.cons.injEq, and_true] at h
    obtain ⟨r, hr, rfl⟩ := h
    unfold aCall at hr
    split at hr
    · split at hr
      · exact aInvoke_same hr
      · cases hr
    · split at hr
      · split at hr
        · exact aEnter_same hr
        · cases hr
      · cases hr
    · split at hr <;> first
        | (cases hr; done)
        | (simp at hr; done)
        | (split at hr <;> first
            | (cases hr; done)
            | (simp at hr; done))
  · split at h
    · cases h
    · simp at h

end
end Go.Am
