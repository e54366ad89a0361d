/-
  The abstract machine's operations on memory and on parts of values, each held against the model's. Conditions: none.
-/
import Derived.Test.YthoenpmifmomaaaGreatDoorAm2
namespace Go.Am
open Go

section types
variable (P : Program)
def tAgg (t : TypeId) : Option Bool :=
  match P.underlying t with
  | some (.struct _) | some (.array _ _) => some true
  | some _ => some false
  | none => none
def tSize (t : TypeId) : Option Nat := (P.info? t).map (·.size)
def tZero (t : TypeId) : Option AV := ((P.info? t).bind (·.zero)).map ofVs

variable {P}
theorem run_underlying {t : TypeId} {d : TypeDesc} (h : P.underlying t = some d) (w : World) : (underlying t).run P w = .ok d w := by
  simp [underlying, h]
theorem run_typeInfo {t : TypeId} {i : TypeInfo} (h : P.info? t = some i) (w : World) : (typeInfo t).run P w = .ok i w := by
  simp [typeInfo, h]
theorem run_sizeOf {t : TypeId} {n : Nat} (h : tSize P t = some n) (w : World) : (sizeOf t).run P w = .ok n w := by
  simp only [tSize, Option.map_eq_some_iff] at h
  obtain ⟨i, h1, rfl⟩ := h
  simp [sizeOf, run_typeInfo h1]
theorem run_isAgg {t : TypeId} {b : Bool} (h : tAgg P t = some b) (w : World) : (isAgg t).run P w = .ok b w := by
  unfold tAgg at h
  split at h
  · rename_i d hd; cases h; simp [isAgg, run_underlying hd]
  · rename_i d hd; cases h; simp [isAgg, run_underlying hd]
  · rename_i d hne hne' hd
    cases h
    simp only [isAgg, Sem.run_bind, run_underlying hd, Result.andThen_ok]
    cases d <;> first
      | exact absurd rfl (fun e => hne _ e)
      | exact absurd rfl (fun e => hne' _ _ e)
      | rfl
  · cases h
theorem run_zeroValue {t : TypeId} {x : AV} (h : tZero P t = some x) (w : World) : ∃ v, (zeroValue t).run P w = .ok v w ∧ x = ofVs v := by
  simp only [tZero, Option.map_eq_some_iff, Option.bind_eq_some_iff] at h
  obtain ⟨v, ⟨i, h1, h2⟩, rfl⟩ := h
  exact ⟨v, by simp [zeroValue, run_typeInfo h1, h2], rfl⟩
end types

theorem add_mk (b o n : Nat) : (⟨b, o, none⟩ : Addr).add n = ⟨b, o + n, none⟩ := by
  unfold Addr.add; split
  · rename_i h; subst h; rfl
  · rfl

theorem run_loadCellsFrom {P : Program} {w : World} {b : Nat} : ∀ (vs : List Value) (o i : Nat) (acc : Array Value), (∀ (j : Nat) v, vs[j]? = some v → w.cell? ⟨b, o + (i + j), none⟩ = some v) →
    (loadCellsFrom ⟨b, o, none⟩ i vs.length acc).run P w = .ok (acc ++ vs.toArray) w
  | [], o, i, acc, _ => by simp [loadCellsFrom]
  | v :: vs, o, i, acc, h => by
    have h0 := h 0 v rfl
    have ih := run_loadCellsFrom (P := P) (w := w) (b := b) vs o (i + 1) (acc.push v) (fun j u hj => by
      have := h (j + 1) u (by simpa using hj)
      rw [show i + 1 + j = i + (j + 1) by omega]; exact this)
    simp only [List.length_cons, loadCellsFrom, Sem.run_bind, add_mk, run_load, Nat.add_zero] at h0 ⊢
    simp only [h0, Result.andThen_ok, ih]
    simp

theorem run_loadCells {P : Program} {w : World} {b o n : Nat} {vs : List Value} (hn : vs.length = n) (h : ∀ (j : Nat) v, vs[j]? = some v → w.cell? ⟨b, o + j, none⟩ = some v) :
    (loadCells ⟨b, o, none⟩ n).run P w = .ok vs.toArray w := by
  subst hn
  have := run_loadCellsFrom (P := P) (w := w) (b := b) vs o 0 #[] (fun j v hj => by simpa using h j v hj)
  simpa [loadCells] using this

def over {α : Type} : List α → Nat → List α → List α
  | l, _, [] => l
  | l, k, v :: vs => over (l.set k v) (k + 1) vs

theorem over_length {α : Type} : ∀ (vs l : List α) (k : Nat), (over l k vs).length = l.length
  | [], l, k => rfl
  | v :: vs, l, k => by simp [over, over_length vs]

theorem over_append {α : Type} : ∀ (vs l r : List α) (k : Nat), k + vs.length ≤ l.length → over (l ++ r) k vs = over l k vs ++ r
  | [], l, r, k, _ => rfl
  | v :: vs, l, r, k, h => by
    simp only [over, List.length_cons] at h ⊢
    rw [List.set_append_left _ _ (by omega)]
    exact over_append vs _ r (k + 1) (by simp; omega)

theorem over_lt {α : Type} : ∀ (vs l : List α) (k o : Nat), o < k → (over l k vs)[o]? = l[o]?
  | [], l, k, o, _ => rfl
  | v :: vs, l, k, o, h => by
    simp only [over]
    rw [over_lt vs _ (k + 1) o (by omega), List.getElem?_set, if_neg (by omega)]

theorem over_new {α : Type} : ∀ (vs l : List α) (k j : Nat) (v : α), k + vs.length ≤ l.length → vs[j]? = some v → (over l k vs)[k + j]? = some v
  | [], l, k, j, v, _, h => by simp at h
  | u :: vs, l, k, 0, v, hl, h => by
    simp at h; subst h
    simp only [over, List.length_cons] at hl ⊢
    rw [show k + 0 = k by omega, over_lt vs _ (k + 1) k (by omega), List.getElem?_set_self (by omega)]
  | u :: vs, l, k, j + 1, v, hl, h => by
    simp at h
    simp only [over, List.length_cons] at hl ⊢
    have := over_new vs (l.set k u) (k + 1) j v (by simp; omega) h
    rw [show k + (j + 1) = k + 1 + j by omega]; exact this

theorem LRel.over {S : Sh} : ∀ {ys : List AV} {us : List Value} {xs : List AV} {vs : List Value} (k : Nat), LRel S ys us → LRel S xs vs → LRel S (over xs k ys) (over vs k us)
  | _, _, _, _, _, .nil, h => h
  | _, _, _, _, k, .cons y ys u us hy hl, h => LRel.over (k + 1) hl (h.set k hy)

theorem run_storeCells {P : Program} {el : TypeId} {c : Nat} : ∀ (vs : List Value) (w : World) (l : List Value) (o i : Nat), w.heap[c]? = some (.cells ⟨l⟩ el (0, 0)) → o + i + vs.length ≤ l.length →
    (∀ v ∈ vs, v.oneCell' = true) → ∃ w', (storeCells ⟨c, o, none⟩ vs i).run P w = .ok () w' ∧ w'.heap[c]? = some (.cells ⟨over l (o + i) vs⟩ el (0, 0)) ∧ (∀ b, b ≠ c → w'.heap[b]? = w.heap[b]?) ∧
      w'.heap.size = w.heap.size ∧ w'.os = w.os ∧ w'.tape = w.tape ∧ w'.output = w.output
  | [], w, l, o, i, h, _, _ => ⟨w, by simp [storeCells], by simpa [over] using h, fun _ _ => rfl, rfl, rfl, rfl, rfl⟩
  | v :: vs, w, l, o, i, h, hl, h1 => by
    simp only [List.length_cons] at hl
    have hc : w.cell? ⟨c, o + i, none⟩ = some (l[o + i]'(by omega)) := by
      unfold World.cell?; simp [h]
    have hf : w.frozen? ⟨c, o + i, none⟩ = false := by
      unfold World.frozen?; simp [h]
    have hw : (w.setCell ⟨c, o + i, none⟩ v).heap[c]? = some (.cells ⟨l.set (o + i) v⟩ el (0, 0)) := by
      simp [World.setCell, Array.getElem?_modify, h]
    obtain ⟨w', r1, r2, r3, r4, r5, r6, r7⟩ := run_storeCells (P := P) (el := el) vs (w.setCell ⟨c, o + i, none⟩ v) (l.set (o + i) v) o (i + 1) hw (by simp; omega) (fun u hu => h1 u (by simp [hu]))
    refine ⟨w', ?_, ?_, ?_, ?_, r5, r6, r7⟩
    · simp only [storeCells, Sem.run_bind, add_mk, run_store P w _ v _ (h1 v (by simp)), hc, hf]
      simpa using r1
    · simp only [over]; rw [show o + i + 1 = o + (i + 1) by omega]; exact r2
    · intro b hb
      rw [r3 b hb]
      simp [World.setCell, Array.getElem?_modify, Ne.symm hb]
    · rw [r4]; simp [World.setCell]

/-- One cell: neither a whole nor unknown. -/
def AV.one : AV → Bool
  | .top | .agg _ | .tup _ => false
  | _ => true

theorem VRel.plain1 {S : Sh} {x : AV} {v : Value} (h : VRel S x v) (hx : x.plain1 = true) : v.oneCell' = true := by
  cases h <;> first | rfl | (simp [AV.plain1] at hx; done) | simp [Value.oneCell']

theorem VRel.one {S : Sh} {x : AV} {v : Value} (h : VRel S x v) (hx : x.one = true) : v.oneCell' = true := by
  cases h with
  | sym i v ho _ hv => exact hv.plain1 ho
  | _ => first | rfl | (simp [AV.one] at hx; done) | simp [Value.oneCell']

theorem LRel.ones {S : Sh} : ∀ {xs : List AV} {vs : List Value}, LRel S xs vs → xs.all AV.one = true → ∀ v ∈ vs, v.oneCell' = true
  | _, _, .nil, _, v, hv => by cases hv
  | _, _, .cons x xs u us h hl, ha, v, hv => by
    simp at ha
    rcases List.mem_cons.1 hv with rfl | hv
    · exact h.one ha.1
    · exact hl.ones (by simpa using ha.2) v hv

def AV.isTop : AV → Bool
  | .top => true
  | _ => false

/-! ### Memory -/
section mem
variable (P : Program) (G : Gl)

def gCells (g off : Nat) : Nat → Option (List AV)
  | 0 => some []
  | n + 1 => match G g off, gCells g (off + 1) n with
    | some x, some xs => some (x :: xs)
    | _, _ => none

/-- A load at an address. -/
def aLoad (A : AH) (t : TypeId) : AV → Option AV
  | .ptr b off =>
    match A.blks[b]?, tAgg P t, tSize P t with
    | some (.cells cs _), some true, some n => if off + n ≤ cs.length then some (.agg ((cs.drop off).take n)) else none
    | some (.cells cs _), some false, _ => cs[off]?
    | _, _, _ => none
  | .iptr v =>
    match tAgg P t, tSize P t, v with
    | some true, some n, .agg cs => if cs.length = n then some (.agg cs) else none
    | some true, _, _ => none
    | some false, _, .agg _ => none
    | some false, _, v => some v
    | none, _, _ => none
  | .gptr g off =>
    match tAgg P t, tSize P t with
    | some true, some n => (gCells G g off n).map .agg
    | some false, _ => G g off
    | _, _ => none
  | _ => none

variable {P G}
theorem cell_of_heap {w : World} {c o : Nat} {l : Array Value} {el : TypeId} {fz : Nat × Nat} (h : w.heap[c]? = some (.cells l el fz)) : w.cell? ⟨c, o, none⟩ = l[o]? := by
  unfold World.cell?; simp [h]

theorem gCells_rel {S : Sh} {A : AH} {w : World} (h : Inv G S A w) : ∀ (n g off : Nat) (xs : List AV), gCells G g off n = some xs → xs.length = n ∧ CRel S xs g off
  | 0, g, off, xs, hx => by simp [gCells] at hx; subst hx; exact ⟨rfl, .nil _ _⟩
  | n + 1, g, off, xs, hx => by
    simp only [gCells] at hx
    split at hx
    · rename_i x ys h1 h2
      cases hx
      obtain ⟨h3, h4⟩ := gCells_rel h n g (off + 1) ys h2
      obtain ⟨v, h5, h6⟩ := h.glob g off x h1
      exact ⟨by simp [h3], .cons _ _ _ _ v h5 (h6.mono S.bare_le) h4⟩
    · cases hx

theorem aLoad_ok {S : Sh} {A : AH} {w : World} (h : Inv G S A w) {t : TypeId} {a x : AV} {u : Value} (ha : VRel S a u) (hx : aLoad P G A t a = some x) :
    ∃ v, (Instr.loadAt t u).run P w = .ok v w ∧ VRel S x v := by
  unfold aLoad at hx
  split at hx
  · -- a block of the call's own
    rename_i b off
    cases ha with
    | ptr _ _ c hc =>
    split at hx
    · rename_i cs el n hb hagg hn
      split at hx <;> cases hx
      rename_i hle
      obtain ⟨c', o, h1, h2, h3⟩ := h.blk b _ hb (by simp)
      obtain rfl := Option.some.inj (h1.symm.trans hc)
      cases h3 with
      | cells _ _ vs rest hl =>
      have hlen := hl.length
      have hcells := run_loadCells (P := P) (w := w) (b := c') (o := off) (n := n) (vs := (vs.drop off).take n) (by simp; omega) (fun j v hj => by
        rw [cell_of_heap h2]
        rw [List.getElem?_take] at hj
        split at hj
        · simp only [List.getElem?_drop] at hj
          simpa [List.getElem?_append_left (List.getElem?_eq_some_iff.1 hj).1] using hj
        · cases hj)
      refine ⟨.agg ⟨(vs.drop off).take n⟩, ?_, .agg _ _ ((hl.drop off).take n)⟩
      simp [Instr.loadAt, Instr.sureAddr, loadVar, run_isAgg hagg, run_sizeOf hn, hcells]
    · rename_i cs el _ hb hagg
      obtain ⟨c', o, h1, h2, h3⟩ := h.blk b _ hb (by simp)
      obtain rfl := Option.some.inj (h1.symm.trans hc)
      cases h3 with
      | cells _ _ vs rest hl =>
      obtain ⟨v, h4, h5⟩ := hl.get off x hx
      have hcell : w.cell? ⟨c', off, none⟩ = some v := by
        rw [cell_of_heap h2]
        simpa [List.getElem?_append_left (List.getElem?_eq_some_iff.1 h4).1] using h4
      exact ⟨v, by simp [Instr.loadAt, Instr.sureAddr, loadVar, run_isAgg hagg, hcell], h5⟩
    · cases hx
  · -- what never changes
    rename_i y
    cases ha with
    | iptr _ b o hc =>
    split at hx
    · rename_i n cs hagg hn
      split at hx <;> cases hx
      rename_i hlen
      obtain ⟨vs, h1, h2⟩ := CRel.cells hc
      simp only [AV.cells] at h1
      have hcells := run_loadCells (P := P) (w := w) (b := b) (o := o) (n := n) (vs := vs) (by rw [← h1.length]; exact hlen) (fun j v hj => h.im _ _ _ (h2 j v hj))
      exact ⟨.agg ⟨vs⟩, by simp [Instr.loadAt, Instr.sureAddr, loadVar, run_isAgg hagg, run_sizeOf hn, hcells], .agg _ _ h1⟩
    · cases hx
    · cases hx
    · rename_i hagg hna
      cases hx
      have hxc : x.cells = [x] := by
        unfold AV.cells; split
        · rename_i cs; exact absurd rfl (hna cs)
        · rfl
      rw [hxc] at hc
      cases hc with
      | cons _ _ _ _ v hi hv _ =>
        exact ⟨v, by simp [Instr.loadAt, Instr.sureAddr, loadVar, run_isAgg hagg, h.im _ _ _ hi], hv⟩
    · cases hx
  · rename_i g off
    cases ha
    split at hx
    · rename_i n hagg hn
      simp only [Option.map_eq_some_iff] at hx
      obtain ⟨xs, hx, rfl⟩ := hx
      obtain ⟨hlen, hc⟩ := gCells_rel h n g off xs hx
      obtain ⟨vs, h1, h2⟩ := CRel.cells hc
      have hcells := run_loadCells (P := P) (w := w) (b := g) (o := off) (n := n) (vs := vs) (by rw [← h1.length]; exact hlen) (fun j v hj => h.im _ _ _ (h2 j v hj))
      exact ⟨.agg ⟨vs⟩, by simp [Instr.loadAt, Instr.sureAddr, loadVar, run_isAgg hagg, run_sizeOf hn, hcells], .agg _ _ h1⟩
    · rename_i hagg
      obtain ⟨v, hi, hv⟩ := h.glob g off x hx
      exact ⟨v, by simp [Instr.loadAt, Instr.sureAddr, loadVar, run_isAgg hagg, h.im _ _ _ hi], hv.mono S.bare_le⟩
    · cases hx
  · cases hx

variable (P) in
/-- A store. -/
def aStore (A : AH) (t : TypeId) (a x : AV) : Option AH :=
  match a with
  | .ptr b off =>
    match A.blks[b]?, tSize P t with
    | some (.cells cs el), some n =>
      if x.cells.length = n ∧ off + n ≤ cs.length ∧ x.cells.all AV.one then some (A.put b (.cells (over cs off x.cells) el)) else none
    | _, _ => none
  | _ => none

theorem aStore_ok {S : Sh} {A A' : AH} {w : World} (h : Inv G S A w) {t : TypeId} {a x : AV} {u v : Value} (ha : VRel S a u) (hv : VRel S x v) (hx : aStore P A t a x = some A') :
    ∃ w', (Instr.storeAt t u v).run P w = .ok () w' ∧ Inv G S A' w' ∧ Fr S A w S A' w' := by
  unfold aStore at hx
  split at hx
  · rename_i b off
    cases ha with
    | ptr _ _ c hc =>
    split at hx
    · rename_i cs el n hb hn
      split at hx <;> cases hx
      rename_i hle
      obtain ⟨hlen, hle, hone⟩ := hle
      obtain ⟨c', o, h1, h2, h3⟩ := h.blk b _ hb (by simp)
      obtain rfl := Option.some.inj (h1.symm.trans hc)
      cases h3 with
      | cells _ _ vs rest hl =>
      have hxt : x ≠ .top := by rintro rfl; simp [AV.cells, AV.one] at hone
      have hcl := hv.cells hxt
      have hlen' : v.cells.toList.length = n := by rw [← hcl.length]; exact hlen
      have hvl := hl.length
      obtain ⟨w', r1, r2, r3, r4, r5, r6, r7⟩ := run_storeCells (P := P) (el := el) (c := c') v.cells.toList w (vs ++ rest) off 0 h2 (by simp; simp at hlen'; omega) (hcl.ones hone)
      rw [Nat.add_zero, over_append _ _ _ _ (by omega)] at r2
      obtain ⟨i1, i2⟩ := h.put (x := .cells (over cs off x.cells) el) ⟨_, hb, by simp⟩ hc (by simp) (.cells _ _ _ _ (LRel.over off hcl hl)) r2 r3 r4 r5 r6 r7 (fun cs' el' hh => by rw [h2] at hh; cases hh; exact ⟨_, _, rfl, by simp [over_length]⟩)
      refine ⟨w', ?_, i1, i2⟩
      have hsz : v.cells.size = n := by simpa using hlen'
      simp [Instr.storeAt, Instr.sureAddr, storeVar, run_sizeOf hn, hsz, r1]
    · cases hx
  · cases hx

end mem
end Go.Am
