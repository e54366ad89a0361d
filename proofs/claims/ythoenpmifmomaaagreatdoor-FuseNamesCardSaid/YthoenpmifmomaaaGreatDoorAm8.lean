/-
  The abstract machine's operations: append, copy, make, len, min, max, conversions, each held against the model's. Conditions: none.
-/
import Derived.Test.YthoenpmifmomaaaGreatDoorAm7
namespace Go.Am
open Go

section ops
variable (P : Program)

def aLen : AV → Option Nat
  | .isl _ _ _ xs => some xs.length
  | .msl _ _ len => some len
  | .str s => some s.length
  | _ => none

/-- Cells cut into elements. -/
def chunk (agg : Bool) (sz : Nat) : Nat → List AV → Option (List AV)
  | 0, _ => some []
  | n + 1, cs =>
    match chunk agg sz n (cs.drop sz) with
    | some xs =>
      if agg then (if sz ≤ cs.length then some (.agg (cs.take sz) :: xs) else none) else
      match cs with
      | c :: _ => if c.isAgg then none else some (c :: xs)
      | [] => none
    | none => none

/-- The first elements of what is appended, or copied. -/
def aElems (A : AH) (e : TypeId) (sz n : Nat) : AV → Option (List AV)
  | .isl _ _ _ xs => if n ≤ xs.length ∧ ((xs.take n).all fun x => x.cells.length == sz) then some (xs.take n) else none
  | .msl b off _ =>
    match A.blks[b]?, tAgg P e with
    | some (.cells cs _), some agg => if off + n * sz ≤ cs.length ∧ (agg = false → sz = 1) then chunk agg sz n (cs.drop off) else none
    | _, _ => none
  | .str s => if sz = 1 then some ((s.take n).map fun b => .int .u8 b.toNat) else none
  | _ => none

variable {P}
theorem aLen_ok {S : Sh} {x : AV} {n : Nat} {u : Value} (hx : aLen x = some n) (hu : VRel S x u) (w : World) : (Builtin.lenOf u).run P w = .ok n w := by
  cases hu <;> simp only [aLen, Option.some.injEq, reduceCtorEq] at hx <;> subst hx <;> rfl

theorem chunk_ok {agg : Bool} {sz : Nat} (h0 : 0 < sz) (h1 : agg = false → sz = 1) : ∀ (n : Nat) (cs xs : List AV), chunk agg sz n cs = some xs → xs.length = n ∧ (∀ x ∈ xs, x.cells.length = sz) ∧ flat xs = cs.take (n * sz)
  | 0, cs, xs, h => by simp [chunk] at h; subst h; simp [flat]
  | n + 1, cs, xs, h => by
    simp only [chunk] at h
    split at h
    · rename_i ys hys
      obtain ⟨r1, r2, r3⟩ := chunk_ok h0 h1 n _ ys hys
      have htake : ∀ c : List AV, cs.take sz = c → c ++ (cs.drop sz).take (n * sz) = cs.take ((n + 1) * sz) := by
        rintro c rfl
        rw [Nat.succ_mul, Nat.add_comm, List.take_add]
      split at h
      · split at h <;> cases h
        rename_i hle
        refine ⟨by simp [r1], ?_, ?_⟩
        · intro x hx
          rcases List.mem_cons.1 hx with rfl | hx
          · simp only [AV.cells, List.length_take]; omega
          · exact r2 x hx
        · simp only [flat, AV.cells, r3]; exact htake _ rfl
      · rename_i hagg
        have hagg : agg = false := by simpa using hagg
        have hs := h1 hagg
        subst hs
        split at h
        · rename_i c cs'
          split at h <;> cases h
          rename_i hna
          have hc : c.cells = [c] := AV.cells_of_not (by simpa using hna)
          refine ⟨by simp [r1], ?_, ?_⟩
          · intro x hx
            rcases List.mem_cons.1 hx with rfl | hx
            · rw [hc]; rfl
            · exact r2 x hx
          · simp only [flat, hc, r3]; exact htake _ rfl
        · cases h
    · cases h

theorem LRel.bytes (S : Sh) : ∀ (s : List UInt8), LRel S (s.map fun b => AV.int .u8 b.toNat) (s.map fun b => Value.int .u8 b.toNat)
  | [] => .nil
  | _ :: s => .cons _ _ _ _ (.int _ _) (LRel.bytes S s)

/-- What is read of the source of an append, or a copy. -/
theorem aElems_ok {G : Gl} {S : Sh} {A : AH} {w : World} (h : Inv G S A w) {e : TypeId} {sz n : Nat} (h0 : 0 < sz) {x : AV} {ys : List AV} {u : Value} (hy : aElems P A e sz n x = some ys) (hu : VRel S x u) (hn : ∃ m, aLen x = some m ∧ n ≤ m) :
    ∃ vs, (Builtin.firstCells sz n u).run P w = .ok ⟨vs⟩ w ∧ LRel S (flat ys) vs ∧ (∀ y ∈ ys, y.cells.length = sz) ∧ ys.length = n := by
  obtain ⟨m, hm, hnm⟩ := hn
  unfold aElems at hy
  split at hy
  · rename_i b fam off xs
    split at hy <;> cases hy
    rename_i hc
    obtain ⟨h1, h2⟩ := hc
    have hsz : ∀ y ∈ xs.take n, y.cells.length = sz := fun y hy => by simpa using List.all_eq_true.1 h2 y hy
    have hlen : (xs.take n).length = n := by simp; omega
    cases hu with
    | islNil =>
      simp only [List.length_nil, Nat.le_zero] at h1
      subst h1
      exact ⟨[], by simp [Builtin.firstCells], by simp [flat]; exact .nil, hsz, hlen⟩
    | isl _ _ _ sz' a o cap h0' hsz' hc hl hf =>
      have hcr := CRel.rows hsz' hc 0 n (by omega)
      simp only [List.drop_zero, Nat.zero_mul, Nat.add_zero] at hcr
      obtain ⟨vs, r1, r2⟩ := CRel.cells hcr
      have hvl : vs.length = n * sz := by rw [← r1.length, flat_length hsz, hlen]
      exact ⟨vs, by simp [Builtin.firstCells, run_loadCells hvl (fun j v hj => h.im _ _ _ (r2 j v hj))], r1, hsz, hlen⟩
  · rename_i b off len
    cases hu with
    | msl _ _ _ c cap hc hcap =>
    split at hy
    · rename_i cs el agg hb hagg
      split at hy
      · rename_i hle
        obtain ⟨hle, h1⟩ := hle
        obtain ⟨r1, r2, r3⟩ := chunk_ok h0 h1 n _ ys hy
        obtain ⟨c', o, s1, s2, s3⟩ := h.blk b _ hb (by simp)
        obtain rfl := Option.some.inj (s1.symm.trans hc)
        cases s3 with
        | cells _ _ vs rest hl =>
        have hlen := hl.length
        refine ⟨(vs.drop off).take (n * sz), ?_, by rw [r3]; exact (hl.drop off).take _, r2, r1⟩
        have hcells := run_loadCells (P := P) (w := w) (b := c') (o := off) (n := n * sz) (vs := (vs.drop off).take (n * sz)) (by simp; omega) (fun j v hj => by
          rw [cell_of_heap s2]
          rw [List.getElem?_take] at hj
          split at hj
          · simp only [List.getElem?_drop] at hj
            simpa [List.getElem?_append_left (List.getElem?_eq_some_iff.1 hj).1] using hj
          · cases hj)
        simpa [Builtin.firstCells] using hcells
      · cases hy
    · cases hy
  · rename_i s
    split at hy <;> cases hy
    rename_i hs
    subst hs
    cases hu
    simp only [aLen, Option.some.injEq] at hm
    subst hm
    refine ⟨(s.take n).map fun b => .int .u8 b.toNat, ?_, ?_, ?_, by simp; omega⟩
    · have : ((ByteArray.mk s.toArray).extract 0 n) = ⟨(s.take n).toArray⟩ := by apply ByteArray.ext; simp
      simp [Builtin.firstCells, this]
    · have : flat ((s.take n).map fun b => AV.int .u8 b.toNat) = (s.take n).map fun b => AV.int .u8 b.toNat := by
        induction s.take n with
        | nil => rfl
        | cons b s ih => simp only [List.map_cons, flat, AV.cells, ih]; rfl
      rw [this]; exact LRel.bytes S _
    · intro y hy
      obtain ⟨b, _, rfl⟩ := List.mem_map.1 hy
      rfl
  · cases hy

theorem growBy_le (n : Nat) : ∀ (r c : Nat), c ≤ 2 * n + 200 → Builtin.growBy n r c ≤ 2 * n + 200
  | 0, c, h => h
  | r + 1, c, h => by
    unfold Builtin.growBy
    split
    · exact h
    · exact growBy_le n r _ (by omega)

theorem nextslicecap_le (n c : Nat) (h : c < n) : Builtin.nextslicecap n c ≤ 2 * n + 200 := by
  unfold Builtin.nextslicecap
  split
  · omega
  · split
    · omega
    · exact growBy_le n 4 c (by omega)

variable (P) in
/-- The element's type of an append: its cells, its zero. -/
def aElemOf (argTypes : Array TypeId) : Option (TypeId × Nat × AV × Nat) :=
  match argTypes[0]?, argTypes[1]? with
  | some t, some t' =>
    match P.underlying t, P.underlying t' with
    | some (.slice _), some (.int _) => none
    | some (.slice e), some _ =>
      match P.info? e, tZero P e with
      | some i, some z => if z.cells.length = i.size ∧ z.isTop = false ∧ 0 < i.size ∧ i.bytes ≤ 2 ^ 32 then some (e, i.size, z, i.bytes) else none
      | _, _ => none
    | _, _ => none
  | _, _ => none

variable (P) in
def aAppend (A : AH) (argTypes : Array TypeId) (s x : AV) : Option (AV × AH) :=
  match aElemOf P argTypes, aLen x with
  | some (e, sz, _, bytes), some n =>
    match aElems P A e sz n x with
    | some ys =>
      match s with
      | .isl nil fam off xs =>
        if n = 0 then some (.isl nil fam off xs, A) else
        if (xs.length + n) * bytes ≤ 2 ^ 45 ∧ xs.length + n ≤ 2 ^ 60 ∧ (flat ys).all AV.one then
          match nil, fam with
          | true, _ => some (.isl false (some A.fams.length) 0 ys, A.grow n sz)
          | false, some φ => if A.fams[φ]? = some (off + xs.length, sz) ∧ (xs.all fun x => x.cells.length == sz) then some (.isl false (some φ) off (xs ++ ys), A.reach φ (off + xs.length + n) sz) else none
          | false, none => none
        else none
      | _ => none
    | none => none
  | _, _ => none

theorem aElemOf_ok {argTypes : Array TypeId} {e : TypeId} {sz bytes : Nat} {z : AV} (h : aElemOf P argTypes = some (e, sz, z, bytes)) :
    ∃ t t' d i, argTypes[0]? = some t ∧ argTypes[1]? = some t' ∧ P.underlying t = some (.slice e) ∧ P.underlying t' = some d ∧ (∀ k, d ≠ .int k) ∧ P.info? e = some i ∧ tZero P e = some z ∧ i.size = sz ∧ i.bytes = bytes ∧
      z.cells.length = sz ∧ z.isTop = false ∧ 0 < sz ∧ bytes ≤ 2 ^ 32 := by
  unfold aElemOf at h
  split at h
  · rename_i t t' h0 h1
    split at h
    · cases h
    · rename_i e' d hne hd hd'
      split at h
      · rename_i i z' hi hz
        split at h <;> cases h
        rename_i hc
        obtain ⟨c1, c2, c3, c4⟩ := hc
        exact ⟨t, t', d, i, h0, h1, hd, hd', fun k hk => hne k hk, hi, hz, rfl, rfl, c1, c2, c3, c4⟩
      · cases h
    · cases h
  · cases h

section append
variable {argTypes : Array TypeId} {t t' e : TypeId} {d : TypeDesc} {i : TypeInfo} {ty : TypeId} {sLen sCap n : Nat} {v : Value} {w : World}

theorem run_append_in {base : Option Addr} (h0 : argTypes[0]? = some t) (h1 : argTypes[1]? = some t') (hd : P.underlying t = some (.slice e)) (hd' : P.underlying t' = some d) (hne : ∀ k, d ≠ .int k) (hi : P.info? e = some i)
    (hlen : (Builtin.lenOf v).run P w = .ok n w) (hle : sLen + n ≤ sCap) {vs : List Value} (hf : (Builtin.firstCells i.size n v).run P w = .ok ⟨vs⟩ w) {w' : World}
    (hst : match base with | some a => (storeCells (a.add (sLen * i.size)) vs).run P w = .ok () w' | none => w' = w) :
    (Builtin.append_ argTypes ty #[.slice base sLen sCap, v]).run P w = .ok (.slice base (sLen + n) sCap) w' := by
  have hs : (sizeOf e).run P w = .ok i.size w := run_sizeOf (by simp [tSize, hi]) w
  have hint : ∀ k, ¬ d = .int k := hne
  unfold Builtin.append_
  simp only [h0, h1]
  cases base with
  | none =>
    subst hst
    simp [run_underlying hd, hs, run_underlying hd', hlen, run_typeInfo hi, hle, hf]
  | some a =>
    simp only at hst
    simp [run_underlying hd, hs, run_underlying hd', hlen, run_typeInfo hi, hle, hf, hst]

theorem run_append_out {base : Option Addr} (h0 : argTypes[0]? = some t) (h1 : argTypes[1]? = some t') (hd : P.underlying t = some (.slice e)) (hd' : P.underlying t' = some d) (hne : ∀ k, d ≠ .int k) (hi : P.info? e = some i)
    (hlen : (Builtin.lenOf v).run P w = .ok n w) (hgt : sCap < sLen + n) (hsmall : sLen + n ≤ 2 ^ 60) (hbytes : i.bytes ≤ 2 ^ 32) (hroom : (sLen + n) * i.bytes ≤ 2 ^ 45) {os vs : List Value} {zv : Value}
    (ho : (Builtin.firstCells i.size sLen (.slice base sLen sCap)).run P w.drew = .ok ⟨os⟩ w.drew) (hf : (Builtin.firstCells i.size n v).run P w.drew = .ok ⟨vs⟩ w.drew) (hz : (zeroValue e).run P w.drew = .ok zv w.drew) :
    ∃ newCap, sLen + n ≤ newCap ∧ (Builtin.append_ argTypes ty #[.slice base sLen sCap, v]).run P w =
      .ok (.slice (some ⟨w.heap.size, 0, none⟩) (sLen + n) newCap) { w.drew with heap := w.heap.push (.cells ⟨os ++ vs ++ (Builtin.zeroCells zv.cells (newCap - (sLen + n))).toList⟩ e (0, 0)) } := by
  have hs : (sizeOf e).run P w = .ok i.size w := run_sizeOf (by simp [tSize, hi]) w
  have hint : ∀ k, ¬ d = .int k := hne
  have hcap := nextslicecap_le (sLen + n) sCap hgt
  have hb : ¬ 281474976710656 < Builtin.nextslicecap (sLen + n) sCap * i.bytes := by
    have h2 := Nat.mul_le_mul_right i.bytes hcap
    rw [Nat.add_mul, Nat.mul_assoc] at h2
    have : 200 * i.bytes ≤ 200 * 2 ^ 32 := Nat.mul_le_mul_left _ hbytes
    omega
  have hmax : ¬ (9223372036854775807 < (sLen : Int) + (n : Int) ∧ i.bytes = 0) := by omega
  refine ⟨(Question.appendCap (sLen + n) sCap e).cut (w.tape w.drawn (Question.appendCap (sLen + n) sCap e)), ?_, ?_⟩
  · simp only [Question.cut]; omega
  · unfold Builtin.append_
    simp only [h0, h1]
    simp [run_underlying hd, hs, run_underlying hd', hlen, run_typeInfo hi, Nat.not_le.2 hgt, hb, hmax, Question.forced, ho, hf, hz, newRow]
    have e1 : ∀ Z : Array Value, ((⟨os⟩ : Array Value) ++ ((⟨vs⟩ : Array Value) ++ Z)) = ⟨os ++ (vs ++ Z.toList)⟩ := by intro Z; apply Array.ext'; simp
    rw [e1]; rfl
end append

theorem zeroCells_length (zc : Array Value) (n : Nat) : (Builtin.zeroCells zc n).toList.length = n * zc.size := by
  simp [Builtin.zeroCells]

theorem flatten_ones {xs : List AV} : ∀ {vs : List Value} {S : Sh}, LRel S (flat xs) vs → (flat xs).all AV.one = true → ∀ v ∈ vs, v.oneCell' = true := fun h h1 => h.ones h1

theorem aAppend_ok {G : Gl} {S : Sh} {A A' : AH} {w : World} (h : Inv G S A w) {argTypes : Array TypeId} {ty : TypeId} {s x y : AV} {u v : Value} (hx : aAppend P A argTypes s x = some (y, A')) (hu : VRel S s u) (hv : VRel S x v) :
    VOk P G S A w (Builtin.append_ argTypes ty #[u, v]) y A' := by
  unfold aAppend at hx
  split at hx
  · rename_i e sz z bytes n hE hn
    obtain ⟨t, t', d, i, h0, h1, hd, hd', hne, hi, hz, rfl, rfl, hzl, hzt, hsz, hby⟩ := aElemOf_ok hE
    split at hx
    · rename_i ys hys
      have hlen := aLen_ok (P := P) hn hv w
      obtain ⟨vs, f1, f2, f3, f4⟩ := aElems_ok h hsz hys hv ⟨n, hn, Nat.le_refl _⟩
      have hdrew := (h.drew (w.drawn + 1)).1
      have hdfr := (h.drew (w.drawn + 1)).2
      obtain ⟨vs', f1', f2', _, _⟩ := aElems_ok (w := w.drew) hdrew hsz hys hv ⟨n, hn, Nat.le_refl _⟩
      obtain ⟨zv, hz1, hz2⟩ := run_zeroValue hz w.drew
      have hzr := ofVs_rel S zv
      rw [← hz2] at hzr
      have hzs : zv.cells.size = i.size := by
        have hzt' : z ≠ .top := by rintro rfl; simp [AV.isTop] at hzt
        have := (hzr.cells hzt').length; simp at this; omega
      split at hx
      · rename_i nil fam off xs
        split at hx
        · -- nothing is appended
          rename_i hn0
          cases hx
          subst hn0
          have hvs : vs = [] := by
            have := f2.length
            rw [flat_length f3, f4] at this
            exact List.eq_nil_of_length_eq_zero (by omega)
          subst hvs
          cases hu with
          | islNil =>
            exact VOk.same h (run_append_in (base := none) h0 h1 hd hd' hne hi hlen (Nat.le_refl _) f1 rfl) (.islNil _ _)
          | isl _ _ _ sz' a o cap q1 q2 q3 q4 q5 =>
            exact VOk.same h (run_append_in (base := some ⟨a, o, none⟩) h0 h1 hd hd' hne hi hlen (by omega) f1 (by simp [storeCells])) (.isl _ _ _ sz' a o cap q1 q2 q3 q4 q5)
        · rename_i hn0
          split at hx
          · rename_i hc
            obtain ⟨c1, c2, c3⟩ := hc
            split at hx
            · -- to nothing
              cases hx
              cases hu
              simp only [List.length_nil] at c1 c2
              obtain ⟨newCap, g1, g2⟩ := run_append_out (ty := ty) (base := none) (sLen := 0) (sCap := 0) (os := []) h0 h1 hd hd' hne hi hlen (by omega) c2 hby c1 (by simp [Builtin.firstCells]) f1' hz1
              simp only [List.nil_append, Nat.zero_add] at g1 g2
              have hvl := f2'.length
              rw [flat_length f3, f4] at hvl
              obtain ⟨S', r1, r2, r3⟩ := row_ok (w := w.drew) hdrew hsz f3 f2' (Builtin.zeroCells zv.cells (newCap - n)).toList e newCap (by omega) (by
                rw [List.length_append, zeroCells_length, hzs, ← hvl, ← Nat.add_mul]
                exact Nat.mul_le_mul_right _ (by omega))
              rw [f4] at r1 r2 r3
              exact ⟨_, _, S', g2, r1, hdfr.trans r2, r3⟩
            · -- behind others
              rename_i φ
              split at hx
              · rename_i hfam
                obtain ⟨hfam, hxs⟩ := hfam
                cases hx
                have hxsz : ∀ y ∈ xs, y.cells.length = i.size := fun y hy => by simpa using List.all_eq_true.1 hxs y hy
                cases hu with
                | isl _ _ _ sz' a o cap q1 q2 q3 q4 q5 =>
                obtain ⟨room, t1, t2⟩ := q5 φ rfl
                obtain ⟨b', ec', room', t3⟩ := h.fam φ _ _ hfam
                rw [t1] at t3
                simp only [Option.some.injEq, Prod.mk.injEq] at t3
                obtain ⟨rfl, rfl, rfl, rfl⟩ := t3
                have hends : A.ends S φ a (o + xs.length * i.size) room := ⟨_, _, hfam, t1⟩
                obtain ⟨⟨c, el, hheap, hcsz⟩, _, _⟩ := h.room φ _ _ _ hends
                have hvl := f2.length
                rw [flat_length f3, f4] at hvl
                have hlt : off + xs.length < off + xs.length + n := by omega
                by_cases hfit : xs.length + n ≤ cap
                · -- where it ends
                  have hroom : o + xs.length * i.size + 0 + vs.length ≤ c.toList.length := by
                    have := Nat.mul_le_mul_right i.size hfit
                    rw [Nat.add_mul] at this
                    simp only [Array.length_toList]
                    omega
                  obtain ⟨w', s1, s2, s3, s4, s5, s6, s7⟩ := run_storeCells (P := P) (el := el) (c := a) vs w c.toList (o + xs.length * i.size) 0 (by simpa using hheap) hroom (f2.ones c3)
                  rw [Nat.add_zero] at s2
                  have hcell : ∀ k, w'.cell? ⟨a, k, none⟩ = (over c.toList (o + xs.length * i.size) vs)[k]? := fun k => by rw [cell_of_heap s2]; simp
                  obtain ⟨i1, i2⟩ := h.reachHere hfam hlt t1 vs s2 (by simp [over_length, hcsz]) (fun k hk => by
                    rw [hcell, over_lt _ _ _ _ hk, cell_of_heap hheap]; simp) (fun j v hj => by
                    rw [hcell]; exact over_new _ _ _ _ _ (by omega) hj) s3 s4 s5 s6 s7
                  refine ⟨_, w', _, run_append_in (base := some ⟨a, o, none⟩) h0 h1 hd hd' hne hi hlen hfit f1 (by simpa [add_mk] using s1), i1, i2, ?_⟩
                  have key := VRel.isl (S := S.more a (o + xs.length * i.size) vs φ (off + xs.length + n) room i.size) (some φ) off (xs ++ ys) i.size a o cap hsz (fun y hy => by
                    rcases List.mem_append.1 hy with hy | hy
                    · exact q2 y hy
                    · exact f3 y hy) (by
                    rw [flat_append]
                    refine CRel.append.2 ⟨q3.mono i2.le, ?_⟩
                    rw [flat_length q2]
                    refine CRel.of_cells (f2.mono i2.le) fun j v hj => ?_
                    have := (List.getElem?_eq_some_iff.1 hj).1
                    simp only [Sh.more]
                    rw [if_pos ⟨trivial, by omega, by omega⟩]
                    rw [show o + xs.length * i.size + j - (o + xs.length * i.size) = j by omega]; exact hj) (by simp [f4]; exact hfit) (by
                    intro ψ hψ; cases hψ
                    refine ⟨room, ?_, t2⟩
                    simp only [Sh.more, List.length_append, f4]
                    rw [if_pos ⟨trivial, by omega⟩, ← hvl, Nat.add_mul, Nat.add_assoc])
                  simpa [f4] using key
                · -- in a new row
                  obtain ⟨os, o1, o2⟩ := CRel.cells q3
                  have hol : os.length = xs.length * i.size := by rw [← o1.length, flat_length q2]
                  have ho : (Builtin.firstCells i.size xs.length (.slice (some ⟨a, o, none⟩) xs.length cap)).run P w.drew = .ok ⟨os⟩ w.drew := by
                    simp [Builtin.firstCells, run_loadCells (P := P) (w := w.drew) hol (fun j v hj => hdrew.im _ _ _ (o2 j v hj))]
                  obtain ⟨newCap, g1, g2⟩ := run_append_out (ty := ty) (base := some ⟨a, o, none⟩) h0 h1 hd hd' hne hi hlen (by omega) c2 hby c1 ho f1' hz1
                  have hvl' := f2'.length
                  rw [flat_length f3, f4] at hvl'
                  obtain ⟨i1, i2⟩ := hdrew.reachRow hfam hlt (os ++ vs') (Builtin.zeroCells zv.cells (newCap - (xs.length + n))).toList e
                  refine ⟨_, _, _, g2, i1, hdfr.trans i2, ?_⟩
                  have key := VRel.isl (S := S.more w.drew.heap.size 0 (os ++ vs') φ (off + xs.length + n) ((os ++ vs') ++ (Builtin.zeroCells zv.cells (newCap - (xs.length + n))).toList).length i.size) (some φ) off (xs ++ ys) i.size w.heap.size 0 newCap hsz (fun y hy => by
                    rcases List.mem_append.1 hy with hy | hy
                    · exact q2 y hy
                    · exact f3 y hy) (by
                    rw [flat_append]
                    refine CRel.of_cells ((o1.append f2').mono i2.le) fun j v hj => ?_
                    have := (List.getElem?_eq_some_iff.1 hj).1
                    simp only [Sh.more]
                    rw [if_pos ⟨rfl, by omega, by omega⟩]
                    rw [show 0 + j - 0 = j by omega]; exact hj) (by simp [f4]; exact g1) (by
                    intro ψ hψ; cases hψ
                    refine ⟨((os ++ vs') ++ (Builtin.zeroCells zv.cells (newCap - (xs.length + n))).toList).length, ?_, ?_⟩
                    · simp only [Sh.more, List.length_append, f4]
                      rw [if_pos ⟨trivial, by omega⟩, hol, ← hvl', Nat.add_mul]
                      rfl
                    · rw [List.length_append, List.length_append, zeroCells_length, hzs, hol, ← hvl', ← Nat.add_mul, ← Nat.add_mul, Nat.zero_add]
                      exact Nat.mul_le_mul_right _ (by omega))
                  simpa [f4] using key
              · cases hx
            · cases hx
          · cases hx
      · cases hx
    · cases hx
  · cases hx

end ops
end Go.Am
