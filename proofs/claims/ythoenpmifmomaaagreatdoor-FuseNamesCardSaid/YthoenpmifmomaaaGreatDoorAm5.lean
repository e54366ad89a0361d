/-
  The abstract machine's operations: fields, places in rows, slicing, boxes, conversions, each held against the model's. Conditions: none.
-/
import Derived.Test.YthoenpmifmomaaaGreatDoorAm4
namespace Go.Am
open Go

/-- The operation gives that value, and leaves that heap. -/
def VOk (P : Program) (G : Gl) (S : Sh) (A : AH) (w : World) (s : Sem Value) (x : AV) (A' : AH) : Prop :=
  ∃ v w' S', s.run P w = .ok v w' ∧ Inv G S' A' w' ∧ Fr S A w S' A' w' ∧ VRel S' x v

theorem VOk.same {P : Program} {G : Gl} {S : Sh} {A : AH} {w : World} (h : Inv G S A w) {s : Sem Value} {x : AV} {v : Value} (hr : s.run P w = .ok v w) (hv : VRel S x v) : VOk P G S A w s x A :=
  ⟨v, w, S, hr, h, Fr.refl S A w, hv⟩

theorem CRel.part {S : Sh} {cs : List AV} {a o : Nat} (h : CRel S cs a o) (k n : Nat) (hk : k ≤ cs.length) : CRel S ((cs.drop k).take n) a (o + k) := by
  rw [← List.take_append_drop k cs] at h
  have h2 := (CRel.append.1 h).2
  rw [List.length_take, Nat.min_eq_left hk, ← List.take_append_drop n (cs.drop k)] at h2
  exact (CRel.append.1 h2).1

theorem CRel.one_at {S : Sh} {cs : List AV} {a o : Nat} (h : CRel S cs a o) {k : Nat} {x : AV} (hk : cs[k]? = some x) : CRel S [x] a (o + k) := by
  have hlt := (List.getElem?_eq_some_iff.1 hk).1
  have := h.part k 1 (by omega)
  rw [show (cs.drop k).take 1 = [x] from ?_] at this
  · exact this
  · rw [List.getElem?_eq_some_iff] at hk
    obtain ⟨h1, h2⟩ := hk
    rw [List.drop_eq_getElem_cons h1, h2]; rfl

def AV.isAgg : AV → Bool
  | .agg _ => true
  | _ => false

theorem AV.cells_of_not {x : AV} (h : x.isAgg = false) : x.cells = [x] := by
  cases x <;> first | rfl | simp [AV.isAgg] at h

section ops
variable (P : Program)

/-- A part, with its place in a row that never changes. -/
def aPartP (t : TypeId) (cs : List AV) (off : Nat) : Option AV :=
  match aPart P t cs off with
  | some x => if (tAgg P t == some false) && x.isAgg then none else some x
  | none => none

def aFieldAddr (t : TypeId) (x : AV) (i : Nat) : Option AV :=
  match P.underlying t with
  | some (.struct fields) =>
    match fields[i]? with
    | some f =>
      match tSize P f.type with
      | some (_ + 1) =>
        match x with
        | .ptr b o => some (.ptr b (o + f.offset))
        | .gptr g o => some (.gptr g (o + f.offset))
        | .iptr (.agg cs) => (aPartP P f.type cs f.offset).map .iptr
        | _ => none
      | _ => none
    | none => none
  | _ => none

variable {P}
theorem aPartP_ok {S : Sh} {t : TypeId} {cs : List AV} {off a o : Nat} {x : AV} (hx : aPartP P t cs off = some x) (h : CRel S cs a o) : CRel S x.cells a (o + off) := by
  unfold aPartP at hx
  split at hx
  · rename_i y hy
    split at hx <;> cases hx
    rename_i hna
    unfold aPart at hy
    split at hy
    · split at hy <;> cases hy
      simp only [AV.cells]
      exact h.part off _ (by omega)
    · rename_i hagg
      have hxa : x.isAgg = false := by
        simp only [hagg, beq_self_eq_true, Bool.true_and] at hna
        simpa using hna
      rw [AV.cells_of_not hxa]
      exact h.one_at hy
    · cases hy
  · cases hx

theorem run_fieldPlace {f : Field} {n : Nat} (hn : tSize P f.type = some (n + 1)) (b o : Nat) (w : World) : (fieldPlace ⟨b, o, none⟩ f).run P w = .ok ⟨b, o + f.offset, none⟩ w := by
  simp [fieldPlace, run_sizeOf hn, add_mk]

theorem aFieldAddr_ok {S : Sh} {t : TypeId} {x y : AV} {i : Nat} {u : Value} (hx : aFieldAddr P t x i = some y) (hu : VRel S x u) (w : World) :
    ∃ v, (Instr.fieldAt t u i).run P w = .ok v w ∧ VRel S y v := by
  unfold aFieldAddr at hx
  split at hx
  · rename_i fields hd
    split at hx
    · rename_i f hf
      split at hx
      · rename_i n hn
        split at hx
        · rename_i b o
          cases hx
          cases hu with
          | ptr _ _ c hc => exact ⟨.pointer (some ⟨c, o + f.offset, none⟩), by simp [Instr.fieldAt, run_underlying hd, hf, Instr.sureAddr, run_fieldPlace hn], .ptr _ _ _ hc⟩
        · rename_i g o
          cases hx
          cases hu with
          | gptr => exact ⟨.pointer (some ⟨g, o + f.offset, none⟩), by simp [Instr.fieldAt, run_underlying hd, hf, Instr.sureAddr, run_fieldPlace hn], .gptr _ _⟩
        · simp only [Option.map_eq_some_iff] at hx
          obtain ⟨z, hz, rfl⟩ := hx
          cases hu with
          | iptr _ a o hc =>
            simp only [AV.cells] at hc
            exact ⟨.pointer (some ⟨a, o + f.offset, none⟩), by simp [Instr.fieldAt, run_underlying hd, hf, Instr.sureAddr, run_fieldPlace hn], .iptr _ _ _ (aPartP_ok hz hc)⟩
        · cases hx
      · cases hx
    · cases hx
  · cases hx

variable (P) in
def aField (t : TypeId) (x : AV) (i : Nat) : Option AV :=
  match P.underlying t, x with
  | some (.struct fields), .agg cs =>
    match fields[i]? with
    | some f => aPart P f.type cs f.offset
    | none => none
  | _, _ => none

theorem aField_ok {S : Sh} {t : TypeId} {x y : AV} {i : Nat} {u : Value} (hx : aField P t x i = some y) (hu : VRel S x u) (w : World) :
    ∃ v, (Instr.field t u i).run P w = .ok v w ∧ VRel S y v := by
  unfold aField at hx
  split at hx
  · rename_i fields cs hd
    cases hu with
    | agg _ vs hl =>
    split at hx
    · rename_i f hf
      obtain ⟨v, h1, h2⟩ := aPart_ok hl hx w
      exact ⟨v, by simp [Instr.field, run_underlying hd, hf, asAgg, h1], h2⟩
    · cases hx
  · cases hx

variable (P) in
/-- The place of an element. -/
def aIndexAddr (t : TypeId) (x : AV) (ix : AV) : Option AV :=
  match ix with
  | .int _ n =>
    if n < 0 then none else
    match P.underlying t, x with
    | some (.slice e), .isl false _ _ xs =>
      match xs[n.toNat]?, tSize P e with
      | some v, some (m + 1) => if v.cells.length = m + 1 then some (.iptr v) else none
      | _, _ => none
    | some (.slice e), .msl b off len =>
      match tSize P e with
      | some (m + 1) => if n < len then some (.ptr b (off + n.toNat * (m + 1))) else none
      | _ => none
    | some (.array len e), .ptr b off =>
      match tSize P e with
      | some (m + 1) => if n < len then some (.ptr b (off + n.toNat * (m + 1))) else none
      | _ => none
    | some (.array len e), .gptr g off =>
      match tSize P e with
      | some (m + 1) => if n < len then some (.gptr g (off + n.toNat * (m + 1))) else none
      | _ => none
    | some (.array len e), .iptr (.agg cs) =>
      match tSize P e with
      | some (m + 1) => if n < len then (aPartP P e cs (n.toNat * (m + 1))).map .iptr else none
      | _ => none
    | _, _ => none
  | _ => none

theorem aIndexAddr_ok {S : Sh} {t : TypeId} {x y ix : AV} {u i : Value} (hx : aIndexAddr P t x ix = some y) (hu : VRel S x u) (hi : VRel S ix i) (w : World) :
    ∃ v, (Instr.indexAt t u i).run P w = .ok v w ∧ VRel S y v := by
  unfold aIndexAddr at hx
  split at hx
  · rename_i k n
    cases hi
    split at hx
    · cases hx
    rename_i hn0
    have hn : 0 ≤ n := by omega
    split at hx
    · rename_i e fam off xs hd
      cases hu with
      | isl _ _ _ sz a o cap h0 hsz hc hl hf =>
      split at hx
      · rename_i v m hv hm
        split at hx <;> cases hx
        rename_i hlen
        have hlt := (List.getElem?_eq_some_iff.1 hv).1
        have hsz' : sz = m + 1 := by rw [← hsz v (List.mem_of_getElem? hv)]; exact hlen
        refine ⟨.pointer (some ⟨a, o + n.toNat * (m + 1), none⟩), ?_, .iptr _ _ _ (by rw [← hsz']; exact CRel.elem hsz hc n.toNat v hv)⟩
        have : n < (xs.length : Int) := by omega
        simp [Instr.indexAt, asIntOf, run_underlying hd, hn, this, run_sizeOf hm, add_mk]
      · cases hx
    · rename_i e b off len hd
      cases hu with
      | msl _ _ _ c cap hc hl =>
      split at hx
      · rename_i m hm
        split at hx <;> cases hx
        rename_i hlt
        exact ⟨.pointer (some ⟨c, off + n.toNat * (m + 1), none⟩), by simp [Instr.indexAt, asIntOf, run_underlying hd, hn, hlt, run_sizeOf hm, add_mk], .ptr _ _ _ hc⟩
      · cases hx
    · rename_i len e b off hd
      cases hu with
      | ptr _ _ c hc =>
      split at hx
      · rename_i m hm
        split at hx <;> cases hx
        rename_i hlt
        exact ⟨.pointer (some ⟨c, off + n.toNat * (m + 1), none⟩), by simp [Instr.indexAt, asIntOf, run_underlying hd, Instr.sureAddr, hn, hlt, run_sizeOf hm, add_mk], .ptr _ _ _ hc⟩
      · cases hx
    · rename_i len e g off hd
      cases hu
      split at hx
      · rename_i m hm
        split at hx <;> cases hx
        rename_i hlt
        exact ⟨.pointer (some ⟨g, off + n.toNat * (m + 1), none⟩), by simp [Instr.indexAt, asIntOf, run_underlying hd, Instr.sureAddr, hn, hlt, run_sizeOf hm, add_mk], .gptr _ _⟩
      · cases hx
    · rename_i len e cs hd
      cases hu with
      | iptr _ a o hc =>
      split at hx
      · rename_i m hm
        split at hx
        · rename_i hlt
          simp only [Option.map_eq_some_iff] at hx
          obtain ⟨z, hz, rfl⟩ := hx
          exact ⟨.pointer (some ⟨a, o + n.toNat * (m + 1), none⟩), by simp [Instr.indexAt, asIntOf, run_underlying hd, Instr.sureAddr, hn, hlt, run_sizeOf hm, add_mk], .iptr _ _ _ (aPartP_ok hz hc)⟩
        · cases hx
      · cases hx
    · cases hx
  · cases hx

variable (P) in
def aIndex (t : TypeId) (x ix : AV) : Option AV :=
  match ix with
  | .int _ n =>
    if n < 0 then none else
    match P.underlying t, x with
    | some (.array len e), .agg cs =>
      match tSize P e with
      | some m => if n < len then aPart P e cs (n.toNat * m) else none
      | none => none
    | some .string, .str s => (s[n.toNat]?).map fun b => .int .u8 b.toNat
    | _, _ => none
  | _ => none

theorem aIndex_ok {S : Sh} {t : TypeId} {x y ix : AV} {u i : Value} (hx : aIndex P t x ix = some y) (hu : VRel S x u) (hi : VRel S ix i) (w : World) :
    ∃ v, (Instr.index t u i).run P w = .ok v w ∧ VRel S y v := by
  unfold aIndex at hx
  split at hx
  · rename_i k n
    cases hi
    split at hx
    · cases hx
    rename_i hn0
    have hn : 0 ≤ n := by omega
    split at hx
    · rename_i len e cs hd
      cases hu with
      | agg _ vs hl =>
      split at hx
      · rename_i m hm
        split at hx
        · rename_i hlt
          obtain ⟨v, h1, h2⟩ := aPart_ok hl hx w
          exact ⟨v, by simp [Instr.index, asIntOf, run_underlying hd, hn, hlt, run_sizeOf hm, h1], h2⟩
        · cases hx
      · cases hx
    · rename_i s hd
      cases hu
      simp only [Option.map_eq_some_iff] at hx
      obtain ⟨b, hb, rfl⟩ := hx
      have hs : (ByteArray.mk s.toArray)[n.toNat]? = some b := by
        obtain ⟨h1, h2⟩ := List.getElem?_eq_some_iff.1 hb
        have hsz : n.toNat < (ByteArray.mk s.toArray).size := h1
        rw [getElem?_pos (ByteArray.mk s.toArray) n.toNat hsz]
        exact congrArg some h2
      exact ⟨.int .u8 b.toNat, by simp [Instr.index, asIntOf, run_underlying hd, hn, hs], .int _ _⟩
    · cases hx
  · cases hx

/-- A new box. -/
theorem box_ok {G : Gl} {S : Sh} {A : AH} {w : World} (h : Inv G S A w) {t : TypeId} {x : AV} {v : Value} (hv : VRel S x v) (hx : x.isTop = false) :
    VOk P G S A w (Instr.box t v) (.ptr A.blks.length 0) (A.push (.cells x.cells t)) := by
  have hxt : x ≠ .top := by rintro rfl; simp [AV.isTop] at hx
  have hle := Sh.le_at (h.ρout _ (Nat.le_refl _)) w.heap.size
  have hl := (hv.mono hle).cells hxt
  have := BRel.cells (S := S.at A.blks.length w.heap.size) x.cells t v.cells.toList [] hl
  obtain ⟨h1, h2⟩ := h.push (x := .cells x.cells t) (o := .cells ⟨v.cells.toList ++ []⟩ t (0, 0)) (by simp) this
  refine ⟨.pointer (some ⟨w.heap.size, 0, none⟩), _, _, ?_, h1, h2, .ptr _ _ _ (by simp [Sh.at])⟩
  simp [Instr.box, newVar, newRow]

theorem alloc_ok {G : Gl} {S : Sh} {A : AH} {w : World} (h : Inv G S A w) {t : TypeId} {x : AV} (hz : tZero P t = some x) (hx : x.isTop = false) :
    VOk P G S A w (Instr.alloc t true (.tuple #[])) (.ptr A.blks.length 0) (A.push (.cells x.cells t)) := by
  obtain ⟨z, h1, rfl⟩ := run_zeroValue hz w
  have hz' : (zeroValue t).run P w = .ok z w := h1
  obtain ⟨v, w', S', r1, r2, r3, r4⟩ := box_ok (P := P) h (t := t) (ofVs_rel S z) hx
  refine ⟨v, w', S', ?_, r2, r3, r4⟩
  have : (Instr.alloc t true (.tuple #[])).run P w = (Instr.box t z).run P w := by
    simp [Instr.alloc, Instr.box, hz']
  rw [this]; exact r1

variable (P) in
def aIface (t : TypeId) (x : AV) : Option AV :=
  match P.underlying t with
  | some (.interface _) => none
  | some _ => some (.iface t x)
  | none => none

theorem aIface_ok {S : Sh} {t : TypeId} {x y : AV} {u : Value} (hx : aIface P t x = some y) (hu : VRel S x u) (w : World) :
    ∃ v, (Instr.makeInterface t u).run P w = .ok v w ∧ VRel S y v := by
  unfold aIface at hx
  split at hx
  · cases hx
  · rename_i d hne hd
    cases hx
    refine ⟨.iface t u, ?_, .iface _ _ _ hu⟩
    simp only [Instr.makeInterface, Sem.run_bind, run_underlying hd, Result.andThen_ok]
    cases d <;> first | rfl | exact absurd rfl (fun e => hne _ e)
  · cases hx

def aExtract (x : AV) (i : Nat) : Option AV :=
  match x with
  | .tup vs => vs[i]?
  | _ => none

theorem aExtract_ok {S : Sh} {x y : AV} {i : Nat} {u : Value} (hx : aExtract x i = some y) (hu : VRel S x u) (w : World) :
    ∃ v, (Instr.extract u i).run P w = .ok v w ∧ VRel S y v := by
  unfold aExtract at hx
  split at hx
  · cases hu with
    | tup _ vs hl =>
    obtain ⟨v, h1, h2⟩ := hl.get i y hx
    exact ⟨v, by simp [Instr.extract, h1], h2⟩
  · cases hx

end ops
end Go.Am
