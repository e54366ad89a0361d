/-
  The abstract machine's operations: copy, make, len, min, max, conversions, assertions, each held against the model's. Conditions: none.
-/
import Derived.Test.YthoenpmifmomaaaGreatDoorAm8
namespace Go.Am
open Go

section ops
variable (P : Program)

def aCopy (A : AH) (argTypes : Array TypeId) (d s : AV) : Option (AV × AH) :=
  match argTypes[0]? with
  | some t =>
    match P.underlying t with
    | some (.slice e) =>
      match tSize P e, aLen s, d with
      | some (m + 1), some k, .msl b off len =>
        match aElems P A e (m + 1) (min k len) s, A.blks[b]? with
        | some ys, some (.cells cs el) =>
          if (flat ys).all AV.one ∧ off + min k len * (m + 1) ≤ cs.length then some (.int .i64 (min k len : Nat), A.put b (.cells (over cs off (flat ys)) el)) else none
        | _, _ => none
      | _, _, _ => none
    | _ => none
  | none => none

variable {P}
theorem aCopy_ok {G : Gl} {S : Sh} {A A' : AH} {w : World} (h : Inv G S A w) {argTypes : Array TypeId} {ty : TypeId} {d s y : AV} {u v : Value} (hx : aCopy P A argTypes d s = some (y, A')) (hu : VRel S d u) (hv : VRel S s v) :
    VOk P G S A w (Builtin.copy_ argTypes ty #[u, v]) y A' := by
  unfold aCopy at hx
  split at hx
  · rename_i t ht
    split at hx
    · rename_i e hd
      split at hx
      · rename_i m k b off len hm hk
        split at hx
        · rename_i ys cs el hys hb
          split at hx <;> cases hx
          rename_i hc
          obtain ⟨c1, c2⟩ := hc
          cases hu with
          | msl _ _ _ c cap hc hcap =>
          obtain ⟨vs, f1, f2, f3, f4⟩ := aElems_ok h (by omega) hys hv ⟨k, hk, Nat.min_le_left _ _⟩
          obtain ⟨c', o, s1, s2, s3⟩ := h.blk b _ hb (by simp)
          obtain rfl := Option.some.inj (s1.symm.trans hc)
          cases s3 with
          | cells _ _ us rest hl =>
          have hvl := f2.length
          rw [flat_length f3, f4] at hvl
          have hll := hl.length
          obtain ⟨w', r1, r2, r3, r4, r5, r6, r7⟩ := run_storeCells (P := P) (el := el) (c := c') vs w (us ++ rest) off 0 s2 (by simp; omega) (f2.ones c1)
          rw [Nat.add_zero, over_append _ _ _ _ (by omega)] at r2
          obtain ⟨i1, i2⟩ := h.put (x := .cells (over cs off (flat ys)) el) ⟨_, hb, by simp⟩ hc (by simp) (.cells _ _ _ _ (LRel.over off f2 hl)) r2 r3 r4 r5 r6 r7 (fun cs' el' hh => by rw [s2] at hh; cases hh; exact ⟨_, _, rfl, by simp [over_length]⟩)
          refine ⟨_, w', S, ?_, i1, i2, .int _ _⟩
          simp [Builtin.copy_, ht, run_underlying hd, aLen_ok (P := P) hk hv w, run_sizeOf hm, f1, r1, goInt]
        · cases hx
      · cases hx
    · cases hx
  · cases hx

variable (P) in
/-- make([]T, n). -/
def aMake (A : AH) (t : TypeId) (len cap : AV) : Option (AV × AH) :=
  match len, cap with
  | .int _ l, .int _ c =>
    match P.underlying t with
    | some (.slice e) =>
      match P.info? e, tZero P e with
      | some i, some z =>
        if 0 ≤ l ∧ l ≤ c ∧ c ≤ 2 ^ 40 ∧ i.bytes ≤ 2 ^ 8 ∧ 0 < i.size ∧ z.cells.length = i.size ∧ z.isTop = false then
          if l = 0 then some (.isl false (some A.fams.length) 0 [], A.grow 0 i.size) else
          some (.row A.blks.length l.toNat i.size, A.push (.cells (flat (List.replicate c.toNat z)) e))
        else none
      | _, _ => none
    | _ => none
  | _, _ => none

theorem aMake_ok {G : Gl} {S : Sh} {A A' : AH} {w : World} (h : Inv G S A w) {t : TypeId} {len cap y : AV} {u v : Value} (hx : aMake P A t len cap = some (y, A')) (hu : VRel S len u) (hv : VRel S cap v) :
    VOk P G S A w (Instr.makeSlice t u v) y A' := by
  unfold aMake at hx
  split at hx
  · rename_i k l k' c
    cases hu; cases hv
    split at hx
    · rename_i e hd
      split at hx
      · rename_i i z hi hz
        split at hx
        · rename_i hc
          obtain ⟨c1, c2, c3, c4, c5, c6, c7⟩ := hc
          obtain ⟨zv, hz1, hz2⟩ := run_zeroValue hz w
          have hzr := ofVs_rel S zv
          rw [← hz2] at hzr
          have hzs : zv.cells.size = i.size := by
            have hzt' : z ≠ .top := by rintro rfl; simp [AV.isTop] at c7
            have := (hzr.cells hzt').length; simp at this; omega
          have hwl : IntKind.i64.wrap l = l := by simp only [IntKind.wrap, IntKind.bits, IntKind.signed]; simp; omega
          have hwc : IntKind.i64.wrap c = c := by simp only [IntKind.wrap, IntKind.bits, IntKind.signed]; simp; omega
          have hprod : (i.bytes : Int) * c ≤ 281474976710656 := by
            have h1 : (i.bytes : Int) * c ≤ (2 ^ 8 : Int) * 2 ^ 40 := Int.mul_le_mul (by exact_mod_cast c4) c3 (by omega) (by omega)
            omega
          have hsz : (sizeOf e).run P w = .ok i.size w := run_sizeOf (by simp [tSize, hi]) w
          have hrow : ∃ T : Array Value, T = (Array.range (c.toNat * zv.cells.size)).map (fun j => zv.cells[j % zv.cells.size]!) ∧
              (Instr.makeSlice t (.int k l) (.int k' c)).run P w = .ok (.slice (some ⟨w.heap.size, 0, none⟩) l.toNat c.toNat) { w with heap := w.heap.push (.cells ⟨T.toList ++ []⟩ e (0, 0)) } := by
            refine ⟨_, rfl, ?_⟩
            have hnot : ¬ (c < 0 ∨ 281474976710656 < (i.bytes : Int) * c) := by omega
            have hl0 : ¬ l < 0 := by omega
            have hlc : ¬ c < l := by omega
            by_cases hc0 : c.toNat * i.size = 0
            · have hA : ∀ (g : Nat → Value) (n : Nat), n = 0 → (Array.range n).map g = #[] := by
                intro g n hn; subst hn; apply Array.ext (by simp); intro i h1 _; simp at h1
              simp [Instr.makeSlice, run_underlying hd, asInt, asIntOf, run_typeInfo hi, hwl, hwc, hnot, hl0, hlc, hsz, hc0, newRow, hzs]
              rw [hA _ 0 rfl]
            · simp [Instr.makeSlice, run_underlying hd, asInt, asIntOf, run_typeInfo hi, hwl, hwc, hnot, hl0, hlc, hsz, hc0, hz1, newRow, hzs]
              have hB : ∀ (g : Nat → Value) (n : Nat), (Array.range n).map g = ⟨(List.range n).map g⟩ := by intro g n; apply Array.ext'; simp
              rw [hB]
          obtain ⟨T, hT, hrun⟩ := hrow
          have hTl : T.toList.length = c.toNat * i.size := by rw [hT]; simp [hzs]
          split at hx
          · rename_i hl0
            cases hx
            obtain ⟨S', r1, r2, r3⟩ := row_ok (w := w) (xs := []) (sz := i.size) h c5 (by simp) (vs := []) (by simp [flat]; exact .nil) T.toList e c.toNat (by simp) (by simp only [List.nil_append]; omega)
            simp only [List.length_nil, List.nil_append] at r1 r2 r3
            subst hl0
            exact ⟨_, _, S', by simpa using hrun, r1, r2, r3⟩
          · cases hx
            have hzl := zeros_rel (n := c.toNat) hzr c7 c6 c5
            rw [← hT] at hzl
            have hle := Sh.le_at (h.ρout _ (Nat.le_refl _)) w.heap.size
            obtain ⟨i1, i2⟩ := h.push (x := .cells (flat (List.replicate c.toNat z)) e) (o := .cells ⟨T.toList ++ []⟩ e (0, 0)) (by simp) (.cells _ _ _ _ (hzl.mono hle))
            obtain ⟨j1, j2⟩ := i1.know (c := w.heap.size) (cs := ⟨T.toList ++ []⟩) (el := e) (by simp)
            exact ⟨_, _, _, hrun, j1, i2.trans j2, .row _ _ _ w.heap.size c.toNat (T.toList ++ []).length (by simp [Sh.at, Sh.know]) c5 (by omega) (by simp only [Sh.know, ↓reduceIte]; rfl) (by rw [List.append_nil, hTl]; exact Nat.le_refl _)⟩
        · cases hx
      · cases hx
    · cases hx
  · cases hx

variable (P) in
def aLenB (A : AH) (argTypes : Array TypeId) (x : AV) : Option AV :=
  match argTypes[0]? with
  | some t =>
    match P.underlying t, x with
    | some .string, .str s => some (.int .i64 s.length)
    | some (.slice _), .isl _ _ _ xs => some (.int .i64 xs.length)
    | some (.slice _), .msl _ _ len => some (.int .i64 len)
    | some (.array n _), _ => some (.int .i64 n)
    | some (.map _ _), .nilm => some (.int .i64 0)
    | some (.map _ _), .map b =>
      match A.blks[b]? with
      | some (.map es _) => some (.int .i64 es.length)
      | _ => none
    | _, _ => none
  | none => none

theorem MRel.length {S : Sh} : ∀ {es : List (AV × AV × Nat)} {ms : List MapEntry}, MRel S es ms → es.length = ms.length
  | _, _, .nil => rfl
  | _, _, .cons _ _ _ _ _ _ _ _ _ h => by simp [MRel.length h]

theorem aLenB_ok {G : Gl} {S : Sh} {A : AH} {w : World} (h : Inv G S A w) {argTypes : Array TypeId} {ty : TypeId} {x y : AV} {u : Value} (hx : aLenB P A argTypes x = some y) (hu : VRel S x u) :
    ∃ v, (Builtin.len_ argTypes ty #[u]).run P w = .ok v w ∧ VRel S y v := by
  unfold aLenB at hx
  split at hx
  · rename_i t ht
    split at hx
    · rename_i s hd; cases hx; cases hu
      exact ⟨_, by simp [Builtin.len_, ht, run_underlying hd]; rfl, .int _ _⟩
    · rename_i xs hd; cases hx
      cases hu with
      | islNil => exact ⟨_, by simp [Builtin.len_, ht, run_underlying hd]; rfl, .int _ _⟩
      | isl => exact ⟨_, by simp [Builtin.len_, ht, run_underlying hd]; rfl, .int _ _⟩
    · rename_i len hd; cases hx; cases hu
      exact ⟨_, by simp [Builtin.len_, ht, run_underlying hd]; rfl, .int _ _⟩
    · rename_i n e hd; cases hx
      exact ⟨_, by simp [Builtin.len_, ht, run_underlying hd]; rfl, .int _ _⟩
    · rename_i hd; cases hx; cases hu
      exact ⟨_, by simp [Builtin.len_, ht, run_underlying hd]; rfl, .int _ _⟩
    · rename_i b hd
      split at hx
      · rename_i es clock hb
        cases hx
        cases hu with
        | map _ c hc =>
        obtain ⟨c', o, s1, s2, s3⟩ := h.blk b _ hb (by simp)
        obtain rfl := Option.some.inj (s1.symm.trans hc)
        cases s3 with
        | map _ _ ms hm =>
        have hlen := hm.length
        refine ⟨.int .i64 ms.length, ?_, by rw [hlen]; exact .int _ _⟩
        simp [Builtin.len_, ht, run_underlying hd, getObj, Sem.run, s2, goInt]
      · cases hx
    · cases hx
  · cases hx

def aMax2 (mx : Bool) : AV → AV → Option AV
  | .int k a, .int k' b => if k = k' then some (.int k (if mx then (if b > a then b else a) else (if b < a then b else a))) else none
  | _, _ => none

def aMaxs (mx : Bool) : AV → List AV → Option AV
  | x, [] => some x
  | x, y :: ys => match aMax2 mx x y with
    | some z => aMaxs mx z ys
    | none => none

theorem aMaxs_ok {S : Sh} {mx : Bool} (w : World) : ∀ (ys : List AV) (vs : List Value) (x y : AV) (u : Value), aMaxs mx x ys = some y → VRel S x u → LRel S ys vs →
    ∃ v, (vs.foldlM (if mx then Builtin.max2 else Builtin.min2) u).run P w = .ok v w ∧ VRel S y v
  | [], _, x, y, u, h, hx, .nil => by simp [aMaxs] at h; subst h; exact ⟨u, by simp, hx⟩
  | z :: ys, _, x, y, u, h, hx, .cons _ _ v vs hz hl => by
    simp only [aMaxs] at h
    split at h
    · rename_i r hr
      unfold aMax2 at hr
      split at hr
      · split at hr <;> cases hr
        rename_i k a k' b hk
        subst hk
        cases hx; cases hz
        obtain ⟨v', h1, h2⟩ := aMaxs_ok w ys vs _ y (.int k (if mx then (if b > a then b else a) else (if b < a then b else a))) h (.int _ _) hl
        refine ⟨v', ?_, h2⟩
        rw [← h1]
        cases mx <;> simp [List.foldlM_cons, Builtin.max2, Builtin.min2]
      · cases hr
    · cases h

/-! ### Conversions, assertions -/
def aBytes : List AV → Option (List UInt8)
  | [] => some []
  | .int .u8 n :: xs => (aBytes xs).map (UInt8.ofNat n.toNat :: ·)
  | _ => none

variable (P) in
def aConvert (A : AH) (src dst : TypeId) (x : AV) : Option AV :=
  match P.underlying src, P.underlying dst, x with
  | some _, some (.int k), .int _ n => some (.int k (k.wrap n))
  | some _, some .string, .str s => some (.str s)
  | some (.slice e), some .string, .isl _ _ _ xs =>
    match P.underlying e with
    | some (.int .u8) => if (xs.all fun x => x.cells.length == 1) then (aBytes (flat xs)).map .str else none
    | _ => none
  | some (.slice e), some .string, .msl b off len =>
    match P.underlying e, A.blks[b]? with
    | some (.int .u8), some (.cells cs _) => if off + len ≤ cs.length then (aBytes ((cs.drop off).take len)).map .str else none
    | _, _ => none
  | _, _, _ => none

theorem forIn_bytes {P : Program} {S : Sh} (w : World) {xs : List AV} {vs : List Value} (hl : LRel S xs vs) : ∀ (bs acc : List UInt8), aBytes xs = some bs →
    (forIn vs (ByteArray.mk acc.toArray) (fun c s =>
      match c with
      | .int .u8 n => pure (ForInStep.yield (s.push (UInt8.ofNat n.toNat)))
      | _ => do
        stuck "bytesToString: byte expected"
        pure (ForInStep.yield s)) : Sem ByteArray).run P w = .ok ⟨(acc ++ bs).toArray⟩ w := by
  induction vs generalizing xs with
  | nil =>
    intro bs acc h
    cases hl
    simp [aBytes] at h; subst h; simp
  | cons v vs ih =>
    intro bs acc h
    cases hl with
    | cons x xs _ _ hx hl =>
    unfold aBytes at h
    split at h
    · rename_i heq; cases heq
    · rename_i n xs' heq
      cases heq
      simp only [Option.map_eq_some_iff] at h
      obtain ⟨cs, h1, rfl⟩ := h
      cases hx
      have ih := ih hl cs (acc ++ [UInt8.ofNat n.toNat]) h1
      simp only [List.forIn_cons, Sem.run_bind, Sem.run_pure, Result.andThen_ok]
      have : (ByteArray.mk acc.toArray).push (UInt8.ofNat n.toNat) = ⟨(acc ++ [UInt8.ofNat n.toNat]).toArray⟩ := by
        apply ByteArray.ext; simp
      rw [this, ih]
      simp
    · cases h

theorem bytesToString_ok {P : Program} {S : Sh} {w : World} {a o len : Nat} {vs : List Value} {xs : List AV} {bs : List UInt8} (hb : aBytes xs = some bs) (hl : LRel S xs vs) (hn : vs.length = len)
    (hc : ∀ (j : Nat) v, vs[j]? = some v → w.cell? ⟨a, o + j, none⟩ = some v) (cap : Nat) : (Conv.bytesToString (.slice (some ⟨a, o, none⟩) len cap)).run P w = .ok (.string ⟨bs.toArray⟩) w := by
  have hf := forIn_bytes (P := P) w hl bs [] hb
  simp only [Conv.bytesToString, Sem.run_bind, run_loadCells hn hc, Result.andThen_ok]
  rw [← Array.forIn_toList]
  have hf' : (forIn vs ByteArray.empty (fun c s =>
      match c with
      | .int .u8 n => pure (ForInStep.yield (s.push (UInt8.ofNat n.toNat)))
      | _ => do
        stuck "bytesToString: byte expected"
        pure (ForInStep.yield s)) : Sem ByteArray).run P w = .ok ⟨bs.toArray⟩ w := by
    simp only [List.nil_append] at hf
    exact hf
  simp only [Sem.run_pure]
  refine Eq.trans (congrArg (fun r : Result ByteArray => r.andThen fun a w' => .ok (Value.string a) w') ?_) (b := (Result.ok (⟨bs.toArray⟩ : ByteArray) w).andThen fun a w' => .ok (Value.string a) w') rfl
  refine Eq.trans ?_ hf'
  rfl

theorem aConvert_ok {G : Gl} {S : Sh} {A : AH} {w : World} (h : Inv G S A w) {src dst : TypeId} {x y : AV} {u : Value} (hx : aConvert P A src dst x = some y) (hu : VRel S x u) :
    ∃ v, (convert src dst u).run P w = .ok v w ∧ VRel S y v := by
  unfold aConvert at hx
  split at hx
  · rename_i d k k' n hd hd'
    cases hx; cases hu
    refine ⟨.int k (k.wrap n), ?_, .int _ _⟩
    simp [convert, run_underlying hd, run_underlying hd', Conv.intToInt]
  · rename_i d s hd hd'
    cases hx; cases hu
    refine ⟨_, ?_, .str _⟩
    simp [convert, run_underlying hd, run_underlying hd']
  · rename_i e xs hd hd'
    split at hx
    · rename_i hu8
      split at hx
      · rename_i hone
        simp only [Option.map_eq_some_iff] at hx
        obtain ⟨bs, hb, rfl⟩ := hx
        cases hu with
        | islNil =>
          simp [flat, aBytes] at hb; subst hb
          refine ⟨.string .empty, ?_, ?_⟩
          · simp [convert, run_underlying hd, run_underlying hd', run_underlying hu8, Conv.bytesToString]
          · exact .str []
        | isl _ _ _ sz a o cap q1 q2 q3 q4 q5 =>
          have hone' : ∀ y ∈ xs, y.cells.length = 1 := fun y hy => by simpa using List.all_eq_true.1 hone y hy
          obtain ⟨vs, r1, r2⟩ := CRel.cells q3
          have hvl : vs.length = xs.length := by rw [← r1.length, flat_length hone', Nat.mul_one]
          refine ⟨_, ?_, .str bs⟩
          have := bytesToString_ok (P := P) (w := w) hb r1 hvl (fun j v hj => h.im _ _ _ (r2 j v hj)) cap
          simp [convert, run_underlying hd, run_underlying hd', run_underlying hu8, this]
      · cases hx
    · cases hx
  · rename_i e b off len hd hd'
    split at hx
    · rename_i cs el hu8 hb
      split at hx
      · rename_i hle
        simp only [Option.map_eq_some_iff] at hx
        obtain ⟨bs, hbs, rfl⟩ := hx
        cases hu with
        | msl _ _ _ c cap hc hcap =>
        obtain ⟨c', o, s1, s2, s3⟩ := h.blk b _ hb (by simp)
        obtain rfl := Option.some.inj (s1.symm.trans hc)
        cases s3 with
        | cells _ _ vs rest hl =>
        have hlen := hl.length
        have := bytesToString_ok (P := P) (w := w) (a := c') (o := off) (len := len) hbs ((hl.drop off).take len) (by simp; omega) (fun j v hj => by
          rw [cell_of_heap s2]
          rw [List.getElem?_take] at hj
          split at hj
          · simp only [List.getElem?_drop] at hj
            simpa [List.getElem?_append_left (List.getElem?_eq_some_iff.1 hj).1] using hj
          · cases hj) cap
        refine ⟨_, ?_, .str bs⟩
        simp [convert, run_underlying hd, run_underlying hd', run_underlying hu8, this]
      · cases hx
    · cases hx
  · cases hx

end ops
end Go.Am
