/-
  More of the builtins: append of so many zeros to nil, cap of nil, copy of nothing, clear; and a row that is cut at its end. Conditions: none.
-/
import Derived.Test.YthoenpmifmomaaaGreatDoorAmQ
namespace Go.Am
open Go

section
variable (P : Program)

/-- Zeros, put behind nil: a row. -/
def aAppendZ (A : AH) (argTypes : Array TypeId) (s x : AV) : Option (AV × AH) :=
  match argTypes[0]?, argTypes[1]?, s, x with
  | some t, some t', .isl true _ _ [], .int _ n =>
    match P.underlying t, P.underlying t' with
    | some (.slice e), some (.int _) =>
      match P.info? e, tZero P e with
      | some i, some z =>
        if 0 < n ∧ n ≤ 2 ^ 20 ∧ i.bytes ≤ 2 ^ 20 ∧ 0 < i.size ∧ z.cells.length = i.size ∧ z.isTop = false then
          some (.row A.blks.length n.toNat i.size, A.push (.cells (flat (List.replicate n.toNat z)) e))
        else none
      | _, _ => none
    | _, _ => none
  | _, _, _, _ => none

/-- A slice expression: of a row that is cut at its end alone, a row again. -/
def aSliceW (t : TypeId) (x : AV) (lo hi mx : Option AV) : Option AV :=
  match P.underlying t, x, mx with
  | some (.slice e), .row b len sz, none =>
    match aBound hi len, aBound lo 0, tSize P e with
    | some h, some 0, some m => if m = sz ∧ h ≤ len then some (.row b h sz) else none
    | _, _, _ => aSlice P t (.msl b 0 len) lo hi none
  | _, _, _ => aSlice P t x.weak lo hi mx

/-- cap of nil. -/
def aCapB (argTypes : Array TypeId) (x : AV) : Option AV :=
  match argTypes[0]?, x with
  | some t, .isl true _ _ [] => match P.underlying t with | some (.slice _) => some (.int .i64 0) | _ => none
  | _, _ => none

/-- A copy of nothing, or into nothing. -/
def aCopy0 (argTypes : Array TypeId) (d s : AV) : Option AV :=
  match argTypes[0]? with
  | some t =>
    match P.underlying t with
    | some (.slice e) =>
      match tSize P e, d, aLen s with
      | some _, .isl _ _ _ [], some _ => some (.int .i64 0)
      | some _, .msl _ _ _, some 0 => some (.int .i64 0)
      | _, _, _ => none
    | _ => none
  | none => none

def aClear (A : AH) (argTypes : Array TypeId) (x : AV) : Option (AV × AH) :=
  match argTypes[0]? with
  | some t =>
    match P.underlying t, x with
    | some (.slice _), .isl _ _ _ [] => some (.tup [], A)
    | some (.slice e), .msl b off len =>
      match P.info? e, tZero P e, A.blks[b]? with
      | some i, some z, some (.cells cs el) =>
        if 0 < len ∧ 0 < i.size ∧ z.cells.length = i.size ∧ z.isTop = false ∧ z.cells.all AV.one ∧ off + len * i.size ≤ cs.length then
          some (.tup [], A.put b (.cells (over cs off (flat (List.replicate len z))) el))
        else none
      | _, _, _ => none
    | _, _ => none
  | none => none

variable {P}

theorem run_append_zeros {argTypes : Array TypeId} {ty t t' e : TypeId} {k k' : IntKind} {i : TypeInfo} {n : Int} {w : World} {zv : Value} (h0 : argTypes[0]? = some t) (h1 : argTypes[1]? = some t') (hd : P.underlying t = some (.slice e)) (hd' : P.underlying t' = some (.int k'))
    (hi : P.info? e = some i) (hn : 0 < n) (hn2 : n ≤ 2 ^ 20) (hby : i.bytes ≤ 2 ^ 20) (hs0 : 0 < i.size) (hz : (zeroValue e).run P w.drew = .ok zv w.drew) :
    ∃ newCap, n.toNat ≤ newCap ∧ (Builtin.append_ argTypes ty #[.slice none 0 0, .int k n]).run P w =
      .ok (.slice (some ⟨w.heap.size, 0, none⟩) n.toNat newCap) { w.drew with heap := w.heap.push (.cells ⟨(Builtin.zeroCells zv.cells n.toNat).toList ++ (Builtin.zeroCells zv.cells (newCap - n.toNat)).toList⟩ e (0, 0)) } := by
  have hs : (sizeOf e).run P w = .ok i.size w := run_sizeOf (by simp [tSize, hi]) w
  have hw : IntKind.i64.wrap n = n := by simp only [IntKind.wrap, IntKind.bits, IntKind.signed]; simp; omega
  obtain ⟨m, rfl⟩ : ∃ m : Nat, n = m := ⟨n.toNat, by omega⟩
  have hm : 0 < m := by omega
  have hm2 : m ≤ 2 ^ 20 := by omega
  have hp : m * i.bytes ≤ 2 ^ 20 * 2 ^ 20 := Nat.mul_le_mul hm2 hby
  have hp1 : ¬ (281474976710656 : Int) < (m : Int) * (i.bytes : Int) := by
    have : ((m * i.bytes : Nat) : Int) ≤ 2 ^ 20 * 2 ^ 20 := by exact_mod_cast hp
    rw [Int.natCast_mul] at this; omega
  have hnc : Builtin.nextslicecap m 0 = m := by unfold Builtin.nextslicecap; rw [if_pos (by omega)]
  have hp2 : ¬ 281474976710656 < m * i.bytes := by omega
  have hneg : ¬ ((m : Int) < 0) := by omega
  have hmax : ¬ (9223372036854775807 < (m : Int)) := by omega
  have hms : ¬ m * i.size = 0 := by rw [Nat.mul_eq_zero]; omega
  have e1 : ∀ Y Z : Array Value, Y ++ Z = ⟨Y.toList ++ Z.toList⟩ := by intro Y Z; apply Array.ext'; simp
  refine ⟨(Question.appendCap m 0 e).cut (w.tape w.drawn (Question.appendCap m 0 e)), ?_, ?_⟩
  · simp only [Question.cut]; omega
  · unfold Builtin.append_
    simp only [h0, h1]
    simp [run_underlying hd, hs, run_underlying hd', asInt, asIntOf, hw, run_typeInfo hi, hneg, hp1, hnc, hp2, hmax, show ¬ m = 0 by omega, Question.forced, Builtin.firstCells, hz, newRow]
    rw [if_neg hms, e1]; rfl

theorem aAppendZ_ok {G : Gl} {S : Sh} {A A' : AH} {w : World} (h : Inv G S A w) {argTypes : Array TypeId} {ty : TypeId} {s x y : AV} {u v : Value} (hx : aAppendZ P A argTypes s x = some (y, A')) (hu : VRel S s u) (hv : VRel S x v) :
    VOk P G S A w (Builtin.append_ argTypes ty #[u, v]) y A' := by
  unfold aAppendZ at hx
  split at hx
  · rename_i t t' fam off k n h0 h1
    cases hu
    cases hv
    split at hx
    · rename_i e k' hd hd'
      split at hx
      · rename_i i z hi hz
        split at hx <;> cases hx
        rename_i hc
        obtain ⟨c1, c2, c3, c4, c5, c6⟩ := hc
        have hdrew := (h.drew (w.drawn + 1)).1
        have hdfr := (h.drew (w.drawn + 1)).2
        obtain ⟨zv, hz1, hz2⟩ := run_zeroValue hz w.drew
        have hzr := ofVs_rel S zv
        rw [← hz2] at hzr
        have hzs : zv.cells.size = i.size := by
          have hzt' : z ≠ .top := by rintro rfl; simp [AV.isTop] at c6
          have := (hzr.cells hzt').length; simp at this; omega
        obtain ⟨newCap, g1, g2⟩ := run_append_zeros (ty := ty) (k := k) h0 h1 hd hd' hi c1 c2 c3 c4 hz1
        have hzl := zeros_rel (n := n.toNat) hzr c6 c5 c4
        have hle := Sh.le_at (hdrew.ρout _ (Nat.le_refl _)) w.drew.heap.size
        obtain ⟨i1, i2⟩ := hdrew.push (x := .cells (flat (List.replicate n.toNat z)) e) (o := .cells ⟨(Builtin.zeroCells zv.cells n.toNat).toList ++ (Builtin.zeroCells zv.cells (newCap - n.toNat)).toList⟩ e (0, 0)) (by simp) (.cells _ _ _ _ (hzl.mono hle))
        obtain ⟨j1, j2⟩ := i1.know (c := w.drew.heap.size) (cs := ⟨(Builtin.zeroCells zv.cells n.toNat).toList ++ (Builtin.zeroCells zv.cells (newCap - n.toNat)).toList⟩) (el := e) (by simp)
        refine ⟨_, _, _, g2, j1, hdfr.trans (i2.trans j2), ?_⟩
        refine .row _ _ _ w.drew.heap.size newCap ((Builtin.zeroCells zv.cells n.toNat).toList ++ (Builtin.zeroCells zv.cells (newCap - n.toNat)).toList).length (by simp [Sh.at, Sh.know]) c4 g1 (by simp only [Sh.know, ↓reduceIte]; rfl) ?_
        rw [List.length_append, zeroCells_length, zeroCells_length, hzs, ← Nat.add_mul]
        exact Nat.mul_le_mul_right _ (by omega)
      · cases hx
    · cases hx
  · cases hx

theorem aSliceW_ok {S : Sh} {t : TypeId} {x y : AV} {lo hi mx : Option AV} {u : Value} {lo' hi' mx' : Option Value} (hx : aSliceW P t x lo hi mx = some y) (hu : VRel S x u) (hlo : ORel S lo lo') (hhi : ORel S hi hi') (hmx : ORel S mx mx') (w : World) :
    ∃ v, (Instr.sliceAt t u lo' hi' mx').run P w = .ok v w ∧ VRel S y v := by
  unfold aSliceW at hx
  split at hx
  · rename_i e b len sz hd
    split at hx
    · rename_i n m hh hl0 hsz
      cases hmx
      cases hu with
      | row _ _ _ c cap room hc q0 hl hm hcap =>
      split at hx <;> cases hx
      rename_i hcd
      obtain ⟨rfl, c3⟩ := hcd
      have hbd := run_sliceBounds (P := P) (b := true) (len := len) (cap := cap) hlo hhi hh hl0 (Nat.zero_le _) (by omega) w
      refine ⟨.slice (some ⟨c, 0, none⟩) n cap, ?_, .row _ _ _ c cap room hc q0 (by omega) hm hcap⟩
      by_cases hc0 : cap = 0
      · subst hc0
        obtain rfl : n = 0 := by omega
        simp [Instr.sliceAt, Instr.slice, run_underlying hd, hbd, run_sizeOf hsz]
      · simp [Instr.sliceAt, Instr.slice, run_underlying hd, hbd, run_sizeOf hsz, hc0, add_mk]
    · exact aSlice_ok hx hu.weak hlo hhi hmx w
  · exact aSlice_ok hx hu.weak hlo hhi hmx w

theorem aCapB_ok {S : Sh} {argTypes : Array TypeId} {ty : TypeId} {x y : AV} {u : Value} (hx : aCapB P argTypes x = some y) (hu : VRel S x u) (w : World) :
    ∃ v, (Builtin.cap_ argTypes ty #[u]).run P w = .ok v w ∧ VRel S y v := by
  unfold aCapB at hx
  split at hx
  · rename_i t fam off h0
    cases hu
    split at hx <;> cases hx
    rename_i e hd
    exact ⟨.int .i64 0, by simp [Builtin.cap_, h0, run_underlying hd, goInt], .int _ _⟩
  · cases hx

theorem aCopy0_ok {S : Sh} {argTypes : Array TypeId} {ty : TypeId} {d s y : AV} {u v : Value} (hx : aCopy0 P argTypes d s = some y) (hu : VRel S d u) (hv : VRel S s v) (w : World) :
    ∃ r, (Builtin.copy_ argTypes ty #[u, v]).run P w = .ok r w ∧ VRel S y r := by
  have f0 : ∀ sz n, aLen s = some n → (Builtin.firstCells sz 0 v).run P w = .ok #[] w := by
    intro sz n hn
    cases hv <;> simp only [aLen, reduceCtorEq] at hn <;> simp [Builtin.firstCells, loadCells, loadCellsFrom]
  unfold aCopy0 at hx
  split at hx
  · rename_i t h0
    split at hx
    · rename_i e hd
      split at hx
      · rename_i m nil fam off n hm hn
        cases hx
        refine ⟨.int .i64 0, ?_, .int _ _⟩
        cases hu <;> simp [Builtin.copy_, h0, run_underlying hd, aLen_ok (P := P) hn hv w, run_sizeOf hm, f0 _ _ hn, goInt, storeCells]
      · rename_i m b off len hm hn
        cases hx
        refine ⟨.int .i64 0, ?_, .int _ _⟩
        cases hu
        simp [Builtin.copy_, h0, run_underlying hd, aLen_ok (P := P) hn hv w, run_sizeOf hm, f0 _ _ hn, goInt, storeCells]
      · cases hx
    · cases hx
  · cases hx

theorem aClear_ok {G : Gl} {S : Sh} {A A' : AH} {w : World} (h : Inv G S A w) {argTypes : Array TypeId} {ty : TypeId} {x y : AV} {u : Value} (hx : aClear P A argTypes x = some (y, A')) (hu : VRel S x u) :
    VOk P G S A w (Builtin.clear_ argTypes ty #[u]) y A' := by
  unfold aClear at hx
  split at hx
  · rename_i t h0
    split at hx
    · rename_i e nil fam off hd
      cases hx
      refine VOk.same (v := .tuple #[]) h ?_ (.tup _ _ .nil)
      cases hu <;> simp [Builtin.clear_, h0, run_underlying hd]
    · rename_i e b off len hd
      split at hx
      · rename_i i z cs el hi hz hb
        split at hx <;> cases hx
        rename_i hc
        obtain ⟨c1, c2, c3, c4, c5, c6⟩ := hc
        cases hu with
        | msl _ _ _ c cap hc hcap =>
        obtain ⟨zv, hz1, hz2⟩ := run_zeroValue hz w
        have hzr := ofVs_rel S zv
        rw [← hz2] at hzr
        have hzs : zv.cells.size = i.size := by
          have hzt' : z ≠ .top := by rintro rfl; simp [AV.isTop] at c4
          have := (hzr.cells hzt').length; simp at this; omega
        have hzl := zeros_rel (n := len) hzr c4 c3 c2
        obtain ⟨c', o, s1, s2, s3⟩ := h.blk b _ hb (by simp)
        obtain rfl := Option.some.inj (s1.symm.trans hc)
        cases s3 with
        | cells _ _ us rest hl =>
        have hll := hl.length
        have hzn : (Builtin.zeroCells zv.cells len).toList.length = len * i.size := by rw [zeroCells_length, hzs]
        have hall : (flat (List.replicate len z)).all AV.one = true := by
          rw [List.all_eq_true]
          intro q hq
          have : ∀ (k : Nat), q ∈ flat (List.replicate k z) → q ∈ z.cells := by
            intro k
            induction k with
            | zero => intro h; simp [flat] at h
            | succ k ih => intro h; simp only [List.replicate_succ, flat, List.mem_append] at h; exact h.elim id ih
          exact List.all_eq_true.1 c5 q (this _ hq)
        obtain ⟨w', r1, r2, r3, r4, r5, r6, r7⟩ := run_storeCells (P := P) (el := el) (c := c') (Builtin.zeroCells zv.cells len).toList w (us ++ rest) off 0 s2 (by simp only [List.length_append]; omega) (LRel.ones hzl hall)
        rw [Nat.add_zero, over_append _ _ _ _ (by omega)] at r2
        obtain ⟨i1, i2⟩ := h.put (x := .cells (over cs off (flat (List.replicate len z))) el) ⟨_, hb, by simp⟩ hc (by simp) (.cells _ _ _ _ (LRel.over off hzl hl)) r2 r3 r4 r5 r6 r7 (fun cs' el' hh => by rw [s2] at hh; cases hh; exact ⟨_, _, rfl, by simp [over_length]⟩)
        refine ⟨.tuple #[], w', S, ?_, i1, i2, .tup _ _ .nil⟩
        obtain ⟨k, rfl⟩ : ∃ k, len = k + 1 := ⟨len - 1, by omega⟩
        simp [Builtin.clear_, h0, run_underlying hd, hz1, r1]
      · cases hx
    · cases hx
  · cases hx

end
end Go.Am
