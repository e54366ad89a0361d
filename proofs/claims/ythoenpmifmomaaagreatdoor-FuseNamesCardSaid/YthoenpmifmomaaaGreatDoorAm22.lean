/-
  Values without references: what a call hands back when nothing of its own is written any more. Conditions: none.
-/
import Derived.Test.YthoenpmifmomaaaGreatDoorAm21
noncomputable section
namespace Go.Am
open Go

def AV.topLike : AV → AV
  | .agg cs => .agg (cs.map fun _ => .top)
  | _ => .top

theorem topLike_rel {S S' : Sh} {x : AV} {v : Value} (h : VRel S x v) : VRel S' x.topLike v := by
  cases h with
  | agg xs vs hl =>
    refine .agg _ _ ?_
    induction vs generalizing xs with
    | nil => cases hl; exact .nil
    | cons v vs ih =>
      cases hl with
      | cons x xs _ _ h1 h2 => exact .cons _ _ _ _ (.top v) (ih xs h2)
  | _ => exact .top _

theorem topLike_cells (x : AV) : x.topLike.cells.length = x.cells.length := by
  cases x <;> simp [AV.topLike, AV.cells]

section
variable (P : Program) (A : AH)

/-- A slice of a block of the call's own, its elements turned. -/
def purSlice (f : AV → AV) (b off len : Nat) : AV :=
  match A.blks[b]? with
  | some (.cells cs el) =>
    match tAgg P el, tSize P el with
    | some agg, some sz =>
      if 0 < sz ∧ off + len * sz ≤ cs.length ∧ (agg = false → sz = 1) then
        match chunk agg sz len (cs.drop off) with
        | some xs => .isl false none 0 (xs.map f)
        | none => .top
      else .top
    | _, _ => .top
  | _ => .top

def purPtr (f : AV → AV) (b : Nat) : AV :=
  match A.blks[b]? with
  | some (.cells cs el) =>
    match tAgg P el, cs with
    | some true, cs => .iptr (.agg (cs.map f))
    | some false, [c] => if c.isAgg then .top else .iptr (f c)
    | _, _ => .top
  | _ => .top

/-- A value, with nothing in it that can be written. -/
def pur : Nat → AV → AV
  | 0, x => x.topLike
  | n + 1, x =>
    match x with
    | .top => .top
    | .bool b => .bool b
    | .int k i => .int k i
    | .str s => .str s
    | .nilp => .nilp
    | .gptr g o => .gptr g o
    | .nilm => .nilm
    | .nilf => .nilf
    | .nili => .nili
    | .sym i => .sym i
    | .iptr v => .iptr (pur n v)
    | .isl nil _ _ xs => .isl nil none 0 (xs.map (pur n))
    | .iface t v => .iface t (pur n v)
    | .agg cs => .agg (cs.map (pur n))
    | .tup vs => .tup (vs.map (pur n))
    | .fn (.func f) xs ys => .fn (.func f) (xs.map (pur n)) (ys.map (pur n))
    | .fn _ _ _ => .top
    | .map _ => .top
    | .ptr b 0 => purPtr P A (pur n) b
    | .ptr _ _ => .top
    | .row b len _ => purSlice P A (pur n) b 0 len
    | .msl b off len => purSlice P A (pur n) b off len

variable {P A}

theorem purSlice_noagg (f : AV → AV) (b off len : Nat) : (purSlice P A f b off len).isAgg = false := by
  unfold purSlice
  split
  · split
    · split
      · split <;> rfl
      · rfl
    · rfl
  · rfl

theorem purPtr_noagg (f : AV → AV) (b : Nat) : (purPtr P A f b).isAgg = false := by
  unfold purPtr
  split
  · split
    · rfl
    · split <;> rfl
    · rfl
  · rfl

theorem pur_agg (n : Nat) (cs : List AV) : ∃ g : AV → AV, pur P A n (.agg cs) = .agg (cs.map g) ∧ ((∀ x, g x = .top) ∨ ∃ m, n = m + 1 ∧ g = pur P A m) := by
  cases n with
  | zero => exact ⟨fun _ => .top, rfl, .inl fun _ => rfl⟩
  | succ n => exact ⟨pur P A n, rfl, .inr ⟨n, rfl, rfl⟩⟩

theorem pur_noagg (n : Nat) {x : AV} (h : x.isAgg = false) : (pur P A n x).isAgg = false := by
  cases n with
  | zero => cases x <;> first | (cases h; done) | rfl
  | succ n =>
    cases x <;> first
      | (cases h; done)
      | rfl
      | exact purSlice_noagg _ _ _ _
      | skip
    · rename_i b off
      cases off with
      | zero => exact purPtr_noagg _ _
      | succ o => rfl
    · rename_i f xs ys
      cases f <;> rfl

theorem pur_len (n : Nat) (x : AV) : (pur P A n x).cells.length = x.cells.length := by
  cases hx : x.isAgg with
  | true =>
    cases x <;> first | (cases hx; done) | skip
    rename_i cs
    obtain ⟨g, h, _⟩ := pur_agg (P := P) (A := A) n cs
    rw [h]; simp [AV.cells]
  | false =>
    rw [AV.cells_of_not hx, AV.cells_of_not (pur_noagg n hx)]
    rfl

/-- What f does to a value leaves it a value. -/
def PurOk (S S' : Sh) (f : AV → AV) : Prop := ∀ x v, VRel S x v → VRel S' (f x) v

theorem PurOk.list {S S' : Sh} {f : AV → AV} (hf : PurOk S S' f) : ∀ {xs : List AV} {vs : List Value}, LRel S xs vs → LRel S' (xs.map f) vs
  | _, _, .nil => .nil
  | _, _, .cons _ _ _ _ h1 h2 => .cons _ _ _ _ (hf _ _ h1) (hf.list h2)

theorem LRel.toTops {S S' : Sh} {g : AV → AV} (hg : ∀ x, g x = .top) : ∀ {xs : List AV} {vs : List Value}, LRel S xs vs → LRel S' (xs.map g) vs
  | _, _, .nil => .nil
  | _, _, .cons x xs v vs _ h2 => by
    simp only [List.map_cons, hg]
    exact .cons _ _ _ _ (.top v) (h2.toTops hg)

theorem pur_cells {S S' : Sh} {n : Nat} (hf : ∀ m, m ≤ n → PurOk S S' (pur P A m)) {x : AV} {vs : List Value} (h : LRel S x.cells vs) : LRel S' (pur P A n x).cells vs := by
  cases hx : x.isAgg with
  | true =>
    cases x <;> first | (cases hx; done) | skip
    rename_i cs
    obtain ⟨g, h1, h2⟩ := pur_agg (P := P) (A := A) n cs
    rw [h1]
    simp only [AV.cells] at h ⊢
    rcases h2 with h2 | ⟨m, rfl, rfl⟩
    · exact h.toTops h2
    · exact (hf m (by omega)).list h
  | false =>
    rw [AV.cells_of_not hx] at h
    rw [AV.cells_of_not (pur_noagg n hx)]
    cases h with
    | cons _ _ v _ hv hl =>
    cases hl
    exact .cons _ _ _ _ (hf n (Nat.le_refl _) x v hv) .nil

theorem LRel.split {S : Sh} {xs ys : List AV} {vs : List Value} (h : LRel S (xs ++ ys) vs) : ∃ us ws, vs = us ++ ws ∧ LRel S xs us ∧ LRel S ys ws := by
  refine ⟨vs.take xs.length, vs.drop xs.length, (List.take_append_drop _ _).symm, ?_, ?_⟩
  · have := h.take xs.length; simpa using this
  · have := h.drop xs.length; simpa using this

theorem pur_flat {S S' : Sh} {n : Nat} (hf : ∀ m, m ≤ n → PurOk S S' (pur P A m)) : ∀ (xs : List AV) {vs : List Value}, LRel S (flat xs) vs → LRel S' (flat (xs.map (pur P A n))) vs
  | [], _, h => by cases h; exact .nil
  | x :: xs, vs, h => by
    simp only [flat, List.map_cons] at h ⊢
    obtain ⟨us, ws, rfl, h1, h2⟩ := h.split
    exact (pur_cells hf h1).append (pur_flat hf xs h2)

/-- Cells that the call's blocks hold change no more, seen from S'. -/
structure Frozen (S : Sh) (A : AH) (S' : Sh) : Prop where
  X : S'.X = S.X
  im : ∀ b o v, S.im b o = some v → S'.im b o = some v
  own : ∀ i cs el c, A.blks[i]? = some (.cells cs el) → S.ρ i = some c → ∃ vs, LRel S cs vs ∧ ∀ (j : Nat) (v : Value), vs[j]? = some v → S'.im c j = some v

theorem CRel.turn {S S' : Sh} (him : ∀ b o v, S.im b o = some v → S'.im b o = some v) {cs ds : List AV} {a o : Nat} (h : CRel S cs a o) (hl : ∀ vs, LRel S cs vs → LRel S' ds vs) : CRel S' ds a o := by
  obtain ⟨vs, h1, h2⟩ := CRel.cells h
  exact CRel.of_cells (hl vs h1) fun j v hj => him _ _ _ (h2 j v hj)

theorem pur_slice {S S' : Sh} (hz : Frozen S A S') {n : Nat} (hf : ∀ m, m ≤ n → PurOk S S' (pur P A m)) {b off len c cap : Nat} (hc : S.ρ b = some c) (hcap : len ≤ cap) : VRel S' (purSlice P A (pur P A n) b off len) (.slice (some ⟨c, off, none⟩) len cap) := by
  unfold purSlice
  split
  · rename_i cs el hb
    split
    · rename_i agg sz ha hs
      split
      · rename_i hcd
        obtain ⟨c1, c2, c3⟩ := hcd
        split
        · rename_i xs hx
          obtain ⟨r1, r2, r3⟩ := chunk_ok c1 c3 len _ xs hx
          obtain ⟨vs, l1, l2⟩ := hz.own b cs el c hb hc
          have key := VRel.isl (S := S') none 0 (xs.map (pur P A n)) sz c off cap c1 (fun y hy => by
            obtain ⟨x, hx', rfl⟩ := List.mem_map.1 hy
            rw [pur_len]; exact r2 x hx') (by
            have hfl : LRel S (flat xs) ((vs.drop off).take (len * sz)) := by rw [r3]; exact (l1.drop off).take _
            refine CRel.of_cells (pur_flat hf xs hfl) fun j v hj => l2 (off + j) v ?_
            rw [List.getElem?_take] at hj
            split at hj
            · simpa [List.getElem?_drop] using hj
            · cases hj) (by simp [r1]; exact hcap) (by intro φ hφ; cases hφ)
          simpa [r1] using key
        · exact .top _
      · exact .top _
    · exact .top _
  · exact .top _

theorem pur_ptr {S S' : Sh} (hz : Frozen S A S') {n : Nat} (hf : ∀ m, m ≤ n → PurOk S S' (pur P A m)) {b c : Nat} (hc : S.ρ b = some c) : VRel S' (purPtr P A (pur P A n) b) (.pointer (some ⟨c, 0, none⟩)) := by
  unfold purPtr
  split
  · rename_i cs el hb
    obtain ⟨vs, l1, l2⟩ := hz.own b cs el c hb hc
    split
    · refine .iptr _ _ _ (CRel.of_cells (vs := vs) ((hf n (Nat.le_refl _)).list l1) fun j v hj => ?_)
      rw [Nat.zero_add]; exact l2 j v hj
    · rename_i x _
      split
      · exact .top _
      · rename_i hx
        have hx' : x.isAgg = false := by simpa using hx
        refine .iptr _ _ _ (CRel.of_cells (vs := vs) ?_ fun j v hj => ?_)
        · exact pur_cells hf (by rw [AV.cells_of_not hx']; exact l1)
        · rw [Nat.zero_add]; exact l2 j v hj
    · exact .top _
  · exact .top _

theorem pur_ok {S S' : Sh} (hz : Frozen S A S') : ∀ n, PurOk S S' (pur P A n) := by
  intro n
  induction n using Nat.strongRecOn with
  | _ n ih =>
  intro x v h
  cases n with
  | zero => exact topLike_rel h
  | succ n =>
    have hf : ∀ m, m ≤ n → PurOk S S' (pur P A m) := fun m hm => ih m (by omega)
    have hn := hf n (Nat.le_refl _)
    cases h with
    | top => exact .top _
    | bool b => exact .bool b
    | int k n => exact .int k n
    | str s => exact .str s
    | nilp => exact .nilp
    | ptr b o c hr =>
      cases o with
      | zero => exact pur_ptr hz hf hr
      | succ o => exact .top _
    | gptr g o => exact .gptr g o
    | iptr w a o hc => exact .iptr _ _ _ (hc.turn hz.im fun vs hl => pur_cells hf hl)
    | islNil f o => exact .islNil _ _
    | isl f off xs sz a o cap h0 hsz hc hl hfam =>
      have key := VRel.isl (S := S') none 0 (xs.map (pur P A n)) sz a o cap h0 (fun y hy => by
        obtain ⟨x, hx', rfl⟩ := List.mem_map.1 hy
        rw [pur_len]; exact hsz x hx') (hc.turn hz.im fun vs hl => pur_flat hf xs hl) (by simpa using hl) (by intro φ hφ; cases hφ)
      rw [List.length_map] at key
      exact key
    | msl b o l c cap hr hl => exact pur_slice hz hf hr hl
    | row b l sz c cap room hr h0 hl hm hc => exact pur_slice hz hf hr hl
    | map b c hr => exact .top _
    | nilm => exact .nilm
    | fn f g xs ys us vs hfr h1 h2 =>
      cases f <;> first
        | exact .top _
        | (cases hfr; exact .fn _ _ _ _ _ _ rfl (hn.list h1) (hn.list h2))
    | nilf => exact .nilf
    | iface t x v hv => exact .iface _ _ _ (hn _ _ hv)
    | nili => exact .nili
    | sym i v ho hs hv => exact .sym i v (by rw [hz.X]; exact ho) (by rw [hz.X]; exact hs) (by rw [hz.X]; exact hv.still hz.im hs)
    | agg xs vs hl => exact .agg _ _ (hn.list hl)
    | tup xs vs hl => exact .tup _ _ (hn.list hl)

end
end Go.Am
