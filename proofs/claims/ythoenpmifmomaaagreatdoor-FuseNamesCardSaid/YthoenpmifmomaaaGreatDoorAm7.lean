/-
  The abstract machine's operations: rows that are made, appends, copies, lengths, each held against the model's. Conditions: none.
-/
import Derived.Test.YthoenpmifmomaaaGreatDoorAm6
namespace Go.Am
open Go

theorem LRel.of_get {S : Sh} : ∀ {xs : List AV} {vs : List Value}, xs.length = vs.length → (∀ (j : Nat) x v, xs[j]? = some x → vs[j]? = some v → VRel S x v) → LRel S xs vs
  | [], [], _, _ => .nil
  | x :: xs, v :: vs, hl, h => .cons _ _ _ _ (h 0 x v rfl rfl) (LRel.of_get (by simpa using hl) fun j y u hy hu => h (j + 1) y u (by simpa using hy) (by simpa using hu))
  | [], _ :: _, hl, _ => by simp at hl
  | _ :: _, [], hl, _ => by simp at hl

theorem flat_replicate_get (z : AV) {sz : Nat} (hz : z.cells.length = sz) : ∀ (n j : Nat), j < n * sz → (flat (List.replicate n z))[j]? = z.cells[j % sz]?
  | 0, j, h => by simp at h
  | n + 1, j, h => by
    simp only [List.replicate_succ, flat]
    by_cases hj : j < sz
    · rw [List.getElem?_append_left (by omega), Nat.mod_eq_of_lt hj]
    · rw [List.getElem?_append_right (by omega), hz]
      have h' : j - sz < n * sz := by rw [Nat.succ_mul] at h; omega
      rw [flat_replicate_get z hz n (j - sz) h', Nat.mod_eq_sub_mod (a := j) (by omega)]

theorem uniform_replicate (z : AV) (n : Nat) {sz : Nat} (hz : z.cells.length = sz) : ∀ x ∈ List.replicate n z, x.cells.length = sz := by
  intro x hx
  rw [List.eq_of_mem_replicate hx]; exact hz

/-- Cells of zeros. -/
theorem zeros_rel {S : Sh} {z : AV} {zv : Value} {sz n : Nat} (h : VRel S z zv) (ht : z.isTop = false) (hz : z.cells.length = sz) (h0 : 0 < sz) :
    LRel S (flat (List.replicate n z)) ((Array.range (n * zv.cells.size)).map fun i => zv.cells[i % zv.cells.size]!).toList := by
  have hzt : z ≠ .top := by rintro rfl; simp [AV.isTop] at ht
  have hl := h.cells hzt
  have hs : zv.cells.size = sz := by have := hl.length; simp at this; omega
  refine LRel.of_get ?_ ?_
  · rw [flat_length (uniform_replicate z n hz)]; simp [hs]
  · intro j x v hx hv
    simp only [Array.getElem?_toList, Array.getElem?_map, Array.getElem?_range] at hv
    rw [hs] at hv
    by_cases hj : j < n * sz
    · rw [if_pos hj] at hv
      simp only [Option.map_some, Option.some.injEq] at hv
      rw [flat_replicate_get z hz n j hj] at hx
      obtain ⟨u, h1, h2⟩ := hl.get _ x hx
      have hm : j % sz < zv.cells.size := by rw [hs]; exact Nat.mod_lt _ h0
      rw [getElem!_pos zv.cells (j % sz) hm] at hv
      simp only [Array.getElem?_toList] at h1
      rw [Array.getElem?_eq_getElem hm] at h1
      cases h1; rw [← hv]; exact h2
    · rw [if_neg hj] at hv; cases hv

theorem flat_set {sz : Nat} : ∀ (xs : List AV) (i : Nat) (x : AV), (∀ y ∈ xs, y.cells.length = sz) → x.cells.length = sz → i < xs.length → flat (xs.set i x) = over (flat xs) (i * sz) x.cells
  | [], i, x, _, _, h => by simp at h
  | y :: xs, 0, x, hu, hx, _ => by
    have hy := hu y (by simp)
    simp only [List.set_cons_zero, flat, Nat.zero_mul]
    rw [over_append _ _ _ _ (by omega)]
    congr 1
    apply List.ext_getElem?
    intro j
    by_cases hj : j < sz
    · have e : x.cells[j]? = some (x.cells[j]'(by omega)) := List.getElem?_eq_getElem (by omega)
      have := over_new x.cells y.cells 0 j _ (by omega) e
      rw [Nat.zero_add] at this
      rw [this, e]
    · rw [List.getElem?_eq_none (by omega), List.getElem?_eq_none (by rw [over_length]; omega)]
  | y :: xs, i + 1, x, hu, hx, h => by
    have hy := hu y (by simp)
    simp only [List.set_cons_succ, flat]
    rw [flat_set xs i x (fun z hz => hu z (by simp [hz])) hx (by simpa using h)]
    have key : ∀ (vs l r : List AV) (k : Nat), over (l ++ r) (l.length + k) vs = l ++ over r k vs := by
      intro vs
      induction vs with
      | nil => intro l r k; rfl
      | cons v vs ih =>
        intro l r k
        simp only [over]
        rw [List.set_append_right _ _ (by omega), Nat.add_sub_cancel_left]
        exact ih l _ (k + 1)
    rw [← key, hy, Nat.succ_mul, Nat.add_comm]

section fill
def aFill (place : Nat → Option (Nat × Nat)) : List AV → List (Nat × AV) → Option (List AV)
  | cells, [] => some cells
  | cells, (i, x) :: rest =>
    match place i with
    | some (off, size) => if x.cells.length = size ∧ off + size ≤ cells.length ∧ x.isTop = false then aFill place (over cells off x.cells) rest else none
    | none => none

theorem fold_over (off : Nat) : ∀ (l : List Value) (k : Nat) (cs : Array Value), (l.zipIdx k).foldl (fun cs (c, j) => cs.setIfInBounds (off + j) c) cs = ⟨over cs.toList (off + k) l⟩
  | [], k, cs => rfl
  | v :: l, k, cs => by
    simp only [List.zipIdx_cons, List.foldl_cons, over]
    rw [fold_over off l (k + 1) (cs.setIfInBounds (off + k) v), ← Nat.add_assoc]
    simp

inductive PRel (S : Sh) : List (Nat × AV) → List (Nat × Value) → Prop
  | nil : PRel S [] []
  | cons (i : Nat) (x : AV) (v : Value) (xs : List (Nat × AV)) (vs : List (Nat × Value)) : VRel S x v → PRel S xs vs → PRel S ((i, x) :: xs) ((i, v) :: vs)

theorem aFill_ok {S : Sh} {place : Nat → Option (Nat × Nat)} : ∀ {parts : List (Nat × AV)} {ps : List (Nat × Value)} {cs out : List AV} {vs : List Value}, PRel S parts ps → LRel S cs vs → aFill place cs parts = some out →
    ∃ us, Instr.fill place ⟨vs⟩ ps = some ⟨us⟩ ∧ LRel S out us
  | _, _, cs, out, vs, .nil, hl, h => by simp [aFill] at h; subst h; exact ⟨vs, by simp [Instr.fill], hl⟩
  | _, _, cs, out, vs, .cons i x v xs ps hv hr, hl, h => by
    simp only [aFill] at h
    split at h
    · rename_i off size hp
      split at h
      · rename_i hc
        obtain ⟨h1, h2, h3⟩ := hc
        have hxt : x ≠ .top := by rintro rfl; simp [AV.isTop] at h3
        have hcl := hv.cells hxt
        have hlen := hcl.length
        have hlen' := hl.length
        simp at hlen
        obtain ⟨us, r1, r2⟩ := aFill_ok hr (LRel.over off hcl hl) h
        refine ⟨us, ?_, r2⟩
        simp only [Instr.fill, hp]
        rw [if_neg]
        · have : (v.cells.zipIdx.foldl (fun cs (c, j) => cs.setIfInBounds (off + j) c) (⟨vs⟩ : Array Value)) = ⟨over vs off v.cells.toList⟩ := by
            rw [← Array.foldl_toList, Array.toList_zipIdx]
            exact fold_over off v.cells.toList 0 ⟨vs⟩
          rw [this]; exact r1
        · simp; omega
      · cases h
    · cases h
end fill

section ops
variable (P : Program)

def aPlaces : List Field → Option (List (Nat × Nat))
  | [] => some []
  | f :: fs => match tSize P f.type, aPlaces fs with
    | some n, some ps => some ((f.offset, n) :: ps)
    | _, _ => none

/-- A struct or an array of parts. -/
def aBuild (t : TypeId) (parts : List (Nat × AV)) : Option AV :=
  match tZero P t, P.underlying t with
  | some (.agg zs), some (.struct fields) =>
    match aPlaces P fields.toList with
    | some ps => (aFill (ps[·]?) zs parts).map .agg
    | none => none
  | some (.agg zs), some (.array _ e) =>
    match tSize P e with
    | some n => (aFill (fun i => some (i * n, n)) zs parts).map .agg
    | none => none
  | _, _ => none

variable {P}
theorem aPlaces_ok {w : World} : ∀ (fs : List Field) (ps : List (Nat × Nat)), aPlaces P fs = some ps → (fs.mapM fun f => do pure (f.offset, ← sizeOf f.type) : Sem (List (Nat × Nat))).run P w = .ok ps w
  | [], ps, h => by simp [aPlaces] at h; subst h; simp
  | f :: fs, ps, h => by
    simp only [aPlaces] at h
    split at h
    · rename_i n qs h1 h2
      cases h
      have := aPlaces_ok (w := w) fs qs h2
      simp only [List.mapM_cons, Sem.run_bind, run_sizeOf h1, Result.andThen_ok, Sem.run_pure]
      rw [this]; rfl
    · cases h

theorem aBuild_ok {S : Sh} {t : TypeId} {parts : List (Nat × AV)} {ps : Array (Nat × Value)} {x : AV} (hx : aBuild P t parts = some x) (hp : PRel S parts ps.toList) (w : World) :
    ∃ v, (Instr.build t ps).run P w = .ok v w ∧ VRel S x v := by
  unfold aBuild at hx
  split at hx
  · rename_i zs fields hz hd
    split at hx
    · rename_i qs hq
      simp only [Option.map_eq_some_iff] at hx
      obtain ⟨out, hf, rfl⟩ := hx
      obtain ⟨zv, hz1, hz2⟩ := run_zeroValue hz w
      have hzr := ofVs_rel S zv
      rw [← hz2] at hzr
      cases hzr with
      | agg _ vs hl =>
      obtain ⟨us, r1, r2⟩ := aFill_ok hp hl hf
      refine ⟨.agg ⟨us⟩, ?_, .agg _ _ r2⟩
      have hm : (fields.mapM fun f => do pure (f.offset, ← sizeOf f.type) : Sem (Array (Nat × Nat))).run P w = .ok qs.toArray w := by
        rw [Array.mapM_eq_mapM_toList, Sem.run_map, aPlaces_ok _ _ hq]
        rfl
      have hfun : (fun x : Nat => (qs.toArray)[x]?) = (fun x : Nat => qs[x]?) := by funext i; simp
      simp only [Instr.build, Sem.run_bind, hz1, Result.andThen_ok, run_underlying hd, hm, Value.cells, hfun, r1]
      rfl
    · cases hx
  · rename_i zs n e hz hd
    split at hx
    · rename_i m hm
      simp only [Option.map_eq_some_iff] at hx
      obtain ⟨out, hf, rfl⟩ := hx
      obtain ⟨zv, hz1, hz2⟩ := run_zeroValue hz w
      have hzr := ofVs_rel S zv
      rw [← hz2] at hzr
      cases hzr with
      | agg _ vs hl =>
      obtain ⟨us, r1, r2⟩ := aFill_ok hp hl hf
      refine ⟨.agg ⟨us⟩, ?_, .agg _ _ r2⟩
      simp only [Instr.build, Sem.run_bind, hz1, Result.andThen_ok, run_underlying hd, run_sizeOf hm, Value.cells, r1]
      rfl
    · cases hx
  · cases hx

/-- Elements set at places. -/
def aSets (sz : Nat) : List AV → List (Nat × AV) → Option (List AV)
  | xs, [] => some xs
  | xs, (i, x) :: rest => if x.cells.length = sz ∧ i < xs.length ∧ x.isTop = false then aSets sz (xs.set i x) rest else none

theorem uniform_set {sz : Nat} {xs : List AV} {i : Nat} {x : AV} (h : ∀ y ∈ xs, y.cells.length = sz) (hx : x.cells.length = sz) : ∀ y ∈ xs.set i x, y.cells.length = sz := by
  intro y hy
  rcases List.mem_or_eq_of_mem_set hy with h1 | rfl
  · exact h y h1
  · exact hx

theorem aSets_ok {sz : Nat} : ∀ (parts : List (Nat × AV)) (xs out : List AV), (∀ y ∈ xs, y.cells.length = sz) → aSets sz xs parts = some out →
    aFill (fun i => some (i * sz, sz)) (flat xs) parts = some (flat out) ∧ (∀ y ∈ out, y.cells.length = sz) ∧ out.length = xs.length
  | [], xs, out, hu, h => by simp [aSets] at h; subst h; exact ⟨rfl, hu, rfl⟩
  | (i, x) :: rest, xs, out, hu, h => by
    simp only [aSets] at h
    split at h
    · rename_i hc
      obtain ⟨h1, h2, h3⟩ := hc
      obtain ⟨r1, r2, r3⟩ := aSets_ok rest (xs.set i x) out (uniform_set hu h1) h
      have hle : i * sz + sz ≤ (flat xs).length := by
        rw [flat_length hu, ← Nat.succ_mul]
        exact Nat.mul_le_mul_right _ h2
      refine ⟨?_, r2, by rw [r3]; simp⟩
      simp only [aFill]
      rw [if_pos ⟨h1, hle, h3⟩, ← flat_set xs i x hu h1 h2]
      exact r1
    · cases h

variable (P) in
/-- A row of a literal. -/
def aBuildSlice (A : AH) (t : TypeId) (len : Nat) (parts : List (Nat × AV)) : Option (AV × AH) :=
  match P.underlying t with
  | some (.slice e) =>
    match tSize P e, tZero P e with
    | some (m + 1), some z =>
      if len * (m + 1) ≤ 2 ^ 24 ∧ z.cells.length = m + 1 ∧ z.isTop = false then
        match aSets (m + 1) (List.replicate len z) parts with
        | some xs => some (.isl false (some A.fams.length) 0 xs, A.grow len (m + 1))
        | none => none
      else none
    | _, _ => none
  | _ => none

/-- A new row of elements that change no more. -/
theorem row_ok {G : Gl} {S : Sh} {A : AH} {w : World} (h : Inv G S A w) {xs : List AV} {sz : Nat} (h0 : 0 < sz) (hu : ∀ y ∈ xs, y.cells.length = sz) {vs : List Value} (hv : LRel S (flat xs) vs) (rest : List Value) (el : TypeId) (cap : Nat)
    (hcap : xs.length ≤ cap) (hroom : cap * sz ≤ (vs ++ rest).length) :
    ∃ S', Inv G S' (A.grow xs.length sz) { w with heap := w.heap.push (.cells ⟨vs ++ rest⟩ el (0, 0)) } ∧ Fr S A w S' (A.grow xs.length sz) { w with heap := w.heap.push (.cells ⟨vs ++ rest⟩ el (0, 0)) } ∧
      VRel S' (.isl false (some A.fams.length) 0 xs) (.slice (some ⟨w.heap.size, 0, none⟩) xs.length cap) := by
  obtain ⟨i1, i2⟩ := h.row vs rest el xs.length sz
  refine ⟨_, i1, i2, .isl _ 0 xs sz _ 0 cap h0 hu ?_ hcap ?_⟩
  · refine CRel.of_cells (hv.mono i2.le) fun j v hj => ?_
    simp [Sh.row, hj]
  · intro φ hφ
    cases hφ
    refine ⟨(vs ++ rest).length, ?_, by omega⟩
    have hlen := hv.length
    rw [flat_length hu] at hlen
    simp [Sh.row, hlen]

theorem aBuildSlice_ok {G : Gl} {S : Sh} {A A' : AH} {w : World} (h : Inv G S A w) {t : TypeId} {len : Nat} {parts : List (Nat × AV)} {ps : Array (Nat × Value)} {x : AV} (hx : aBuildSlice P A t len parts = some (x, A')) (hp : PRel S parts ps.toList) :
    VOk P G S A w (Instr.buildSlice t len ps) x A' := by
  unfold aBuildSlice at hx
  split at hx
  · rename_i e hd
    split at hx
    · rename_i m z hm hz
      split at hx
      · rename_i hc
        obtain ⟨h1, h2, h3⟩ := hc
        split at hx
        · rename_i xs hxs
          cases hx
          obtain ⟨r1, r2, r3⟩ := aSets_ok parts _ xs (uniform_replicate z len h2) hxs
          rw [List.length_replicate] at r3
          obtain ⟨zv, hz1, hz2⟩ := run_zeroValue hz w
          have hzr := ofVs_rel S zv
          rw [← hz2] at hzr
          have hzl := zeros_rel (n := len) hzr h3 h2 (by omega)
          obtain ⟨us, f1, f2⟩ := aFill_ok hp hzl r1
          have hzs : zv.cells.size = m + 1 := by
            have hzt : z ≠ .top := by rintro rfl; simp [AV.isTop] at h3
            have := (hzr.cells hzt).length; simp at this; omega
          have hul := f2.length
          rw [flat_length r2, r3] at hul
          obtain ⟨S', i1, i2, i3⟩ := row_ok (w := w) h (by omega) r2 f2 [] e len (by omega) (by simp; omega)
          rw [r3] at i1 i2 i3
          refine ⟨_, _, S', ?_, i1, i2, i3⟩
          have z2 : (Array.range (len * (m + 1))).map (fun x => zv.cells[x % zv.cells.size]!) = (Array.range (len * zv.cells.size)).map fun i => zv.cells[i % zv.cells.size]! := by rw [hzs]
          have f1' : Instr.fill (fun i => some (i * (m + 1), m + 1)) ((Array.range (len * (m + 1))).map (fun x => zv.cells[x % zv.cells.size]!)) ps.toList = some ⟨us⟩ := by rw [z2]; exact f1
          simp only [Instr.buildSlice, Sem.run_bind, run_underlying hd, Result.andThen_ok, run_sizeOf hm]
          rw [if_neg (by simp only [Nat.succ_eq_add_one]; omega)]
          simp only [Nat.succ_eq_add_one]
          by_cases hl0 : len * (m + 1) = 0
          · rw [if_pos hl0]
            have f0 : Instr.fill (fun i => some (i * (m + 1), m + 1)) ((Array.range (len * (m + 1))).map (fun x => (#[] : Array Value)[x % (#[] : Array Value).size]!)) ps.toList = some ⟨us⟩ := by
              have hA : ∀ g : Nat → Value, (Array.range (len * (m + 1))).map g = #[] := by intro g; rw [hl0]; apply Array.ext (by simp); intro i h1 _; simp at h1
              rw [hA] at f1' ⊢; exact f1'
            simp only [Sem.run_bind, Sem.run_pure, Result.andThen_ok, f0]
            simp [newRow]
          · rw [if_neg hl0]
            simp only [Sem.run_bind, Sem.run_pure, Result.andThen_ok, hz1, f1']
            simp [newRow]
        · cases hx
      · cases hx
    · cases hx
  · cases hx

end ops
end Go.Am
