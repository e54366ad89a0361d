/-
  What the proof is built of: An element of a list, and a list with another element there: said so that the kernel has little to unfold. More of the builtins: append of so many zeros to nil, cap of nil, copy of nothing, clear; and a row that is cut at its end. One operation of the abstract machine, held against the model's: whatever the model's operation does, one of the outcomes stands for it. One operation of a region, in the abstract machine. The abstract machine's runs: what a run may come to, and one round of the evaluator, whose calls go to a machine that is given. One round of the evaluator: whatever a function, a piece of code, a loop, an operation comes to, where the machine that is given says what its parts come to. The evaluator's round is sound: where the machine that is given answers for what it says, so does the round. The evaluator's round is sound: pieces of code, loops, functions. The evaluator's round is sound: functions, how they leave, rounds of a range over a function. The evaluator's round is sound: deferred calls, recover, ranges over functions. The evaluator's round is sound: bodies of deferred functions, rounds of a range over a function, the range itself; so are as many rounds as one likes. The evaluator is sound: the range over a function; so many rounds. Values without references: what a call hands back when nothing of its own is written any more. A call that is handed values alone, and hands back values alone: it runs as if it had a heap of its own. The evaluator with calls that are handed values alone: they run in a heap of their own, or are looked up. A region that draws its order: what holds after every set of operations that is closed under what must come before. One operation of a region that draws its order: what it comes to, and whether it leaves the abstract heap as it is. One operation of a region that draws its order, with what it calls. What an operation comes to hangs on its operands alone. Activations and counts after a set of operations; what must come before what. What must come before an operation, as bits. A block that is laid before it is anybody's own, and taken over later. A region that draws its order: one order stands for all. Conditions: none.
-/
import Derived.Test.YtnmolpkkemljoaaGreatDoorM0
import Derived.RangeFuncLeaves
import Derived.RecoverIn
import Derived.TacticsIn
import Derived.RangeFuncRecord
import Derived.OrdersIn
set_option linter.unusedVariables false
set_option linter.unusedSimpArgs false
section
noncomputable section
namespace Go.Am
def nthR {α : Type} (l : List α) : Nat → Option α :=
 List.rec (motive := fun _ => Nat → Option α) (fun _ => none) (fun x _ ih n => Nat.rec (motive := fun _ => Option α) (some x) (fun k _ => ih k) n) l
def setR {α : Type} (l : List α) : Nat → α → List α :=
 List.rec (motive := fun _ => Nat → α → List α) (fun _ _ => []) (fun x xs ih n y => Nat.rec (motive := fun _ => List α) (y :: xs) (fun k _ => x :: ih k y) n) l
theorem nthR_eq {α : Type} : ∀ (l : List α) (n : Nat), nthR l n = l[n]?
 | [], _ => by rw [List.getElem?_nil]; rfl
 | _ :: _, 0 => by rw [List.getElem?_cons_zero]; rfl
 | _ :: l, n + 1 => by rw [List.getElem?_cons_succ, ← nthR_eq l n]; rfl
theorem setR_eq {α : Type} : ∀ (l : List α) (n : Nat) (y : α), setR l n y = l.set n y
 | [], _, _ => by rw [List.set_nil]; rfl
 | _ :: _, 0, _ => by rw [List.set_cons_zero]; rfl
 | x :: l, n + 1, y => by rw [List.set_cons_succ, ← setR_eq l n y]; rfl
end Go.Am
end
section
namespace Go.Am
open Go
section
variable (P : Program)
def aAppendZ (A : AH) (argTypes : Array TypeId) (s x : AV) : Option (AV × AH) :=
 match argTypes[0]?, argTypes[1]?, s, x with
 | some t, some t', .isl true _ _ [], .int _ n =>
  match P.underlying t, P.underlying t' with
  | some (.slice e), some (.int _) =>
   match P.info? e, tZero P e with
   | some i, some z =>
    if 0 < n ∧ n ≤ 2 ^ 20 ∧ i.bytes ≤ 2 ^ 20 ∧ 0 < i.size ∧ z.cells.length = i.size ∧ z.isTop = false then
     some (.row A.blks.length n.toNat i.size, A.push (.cells (flat (List.replicate n.toNat z)) e))
    else none
   | _, _ => none
  | _, _ => none
 | _, _, _, _ => none
def aSliceM (t : TypeId) (x : AV) (lo : Option AV) (hi mx : AV) : Option AV :=
 match P.underlying t, x with
 | some (.slice e), .isl false _ _ xs =>
  match aBound (some hi) 0, aBound lo 0, aBound (some mx) 0, tSize P e with
  | some h, some l, some q, some (m + 1) =>
   if l ≤ h ∧ h ≤ q ∧ q ≤ xs.length ∧ l < q ∧ (xs.all fun x => x.cells.length == m + 1) then some (.isl false none 0 ((xs.drop l).take (h - l))) else none
  | _, _, _, _ => none
 | _, _ => none
def aSliceW (t : TypeId) (x : AV) (lo hi mx : Option AV) : Option AV :=
 match hi, mx with
 | some z, some q => aSliceM P t x lo z q
 | _, _ =>
 match P.underlying t, x, mx with
 | some (.slice e), .row b len sz, none =>
  match aBound hi len, aBound lo 0, tSize P e with
  | some h, some 0, some m => if m = sz ∧ h ≤ len then some (.row b h sz) else none
  | _, _, _ => aSlice P t (.msl b 0 len) lo hi none
 | _, _, _ => aSlice P t x.weak lo hi mx
def aCapB (argTypes : Array TypeId) (x : AV) : Option AV :=
 match argTypes[0]?, x with
 | some t, .isl true _ _ [] => match P.underlying t with | some (.slice _) => some (.int .i64 0) | _ => none
 | _, _ => none
def aCopy0 (argTypes : Array TypeId) (d s : AV) : Option AV :=
 match argTypes[0]? with
 | some t =>
  match P.underlying t with
  | some (.slice e) =>
   match tSize P e, d, aLen s with
   | some _, .isl _ _ _ [], some _ => some (.int .i64 0)
   | some _, .msl _ _ _, some 0 => some (.int .i64 0)
   | _, _, _ => none
  | _ => none
 | none => none
def aBuild0 (A : AH) (t : TypeId) : Option (AV × AH) :=
 match P.underlying t with
 | some (.slice e) =>
  match tSize P e with
  | some (m + 1) => some (.row A.blks.length 0 (m + 1), A.push (.cells [] e))
  | _ => none
 | _ => none
def aDelete (A : AH) (argTypes : Array TypeId) (m k : AV) : Option (AV × AH) :=
 match argTypes[0]? with
 | some t =>
  match P.underlying t, m with
  | some (.map kt _), .map b =>
   match A.blks[b]?, P.underlying kt with
   | some (.map es clock), some _ =>
    if aKeyOk P 10000 kt k then
     match aFind P A kt k es 0 with
     | some (some (i, _)) => some (.tup [], A.put b (.map (es.eraseIdx i) clock))
     | some none => some (.tup [], A.put b (.map es clock))
     | none => none
    else none
   | _, _ => none
  | _, _ => none
 | none => none
def aClear (A : AH) (argTypes : Array TypeId) (x : AV) : Option (AV × AH) :=
 match argTypes[0]? with
 | some t =>
  match P.underlying t, x with
  | some (.slice _), .isl _ _ _ [] => some (.tup [], A)
  | some (.slice e), .msl b off len =>
   match P.info? e, tZero P e, A.blks[b]? with
   | some i, some z, some (.cells cs el) =>
    if 0 < len ∧ 0 < i.size ∧ z.cells.length = i.size ∧ z.isTop = false ∧ z.cells.all AV.one ∧ off + len * i.size ≤ cs.length then
     some (.tup [], A.put b (.cells (over cs off (flat (List.replicate len z))) el))
    else none
   | _, _, _ => none
  | _, _ => none
 | none => none
variable {P}
theorem run_append_zeros {argTypes : Array TypeId} {ty t t' e : TypeId} {k k' : IntKind} {i : TypeInfo} {n : Int} {w : World} {zv : Value} (h0 : argTypes[0]? = some t) (h1 : argTypes[1]? = some t') (hd : P.underlying t = some (.slice e)) (hd' : P.underlying t' = some (.int k'))
  (hi : P.info? e = some i) (hn : 0 < n) (hn2 : n ≤ 2 ^ 20) (hby : i.bytes ≤ 2 ^ 20) (hs0 : 0 < i.size) (hz : (zeroValue e).run P w.drew = .ok zv w.drew) :
  ∃ newCap, n.toNat ≤ newCap ∧ (Builtin.append_ argTypes ty #[.slice none 0 0, .int k n]).run P w =
   .ok (.slice (some ⟨w.heap.size, 0, none⟩) n.toNat newCap) { w.drew with heap := w.heap.push (.cells ⟨(Builtin.zeroCells zv.cells n.toNat).toList ++ (Builtin.zeroCells zv.cells (newCap - n.toNat)).toList⟩ e (0, 0)) } := by
 have hs : (sizeOf e).run P w = .ok i.size w := run_sizeOf (by simp [tSize, hi]) w
 have hw : IntKind.i64.wrap n = n := by simp only [IntKind.wrap, IntKind.bits, IntKind.signed]; simp; omega
 obtain ⟨m, rfl⟩ : ∃ m : Nat, n = m := ⟨n.toNat, by omega⟩
 have hm : 0 < m := by omega
 have hm2 : m ≤ 2 ^ 20 := by omega
 have hp : m * i.bytes ≤ 2 ^ 20 * 2 ^ 20 := Nat.mul_le_mul hm2 hby
 have hp1 : ¬ (281474976710656 : Int) < (m : Int) * (i.bytes : Int) := by
  have : ((m * i.bytes : Nat) : Int) ≤ 2 ^ 20 * 2 ^ 20 := by exact_mod_cast hp
  rw [Int.natCast_mul] at this; omega
 have hnc : Builtin.nextslicecap m 0 = m := by unfold Builtin.nextslicecap; rw [if_pos (by omega)]
 have hp2 : ¬ 281474976710656 < m * i.bytes := by omega
 have hneg : ¬ ((m : Int) < 0) := by omega
 have hmax : ¬ (9223372036854775807 < (m : Int)) := by omega
 have hms : ¬ m * i.size = 0 := by rw [Nat.mul_eq_zero]; omega
 have e1 : ∀ Y Z : Array Value, Y ++ Z = ⟨Y.toList ++ Z.toList⟩ := by intro Y Z; apply Array.ext'; simp
 refine ⟨(Question.appendCap m 0 e).cut (w.tape w.drawn (Question.appendCap m 0 e)), ?_, ?_⟩
 ·simp only [Question.cut]; omega
 ·unfold Builtin.append_
  simp only [h0, h1]
  simp [run_underlying hd, hs, run_underlying hd', asInt, asIntOf, hw, run_typeInfo hi, hneg, hp1, hnc, hp2, hmax, show ¬ m = 0 by omega, Question.forced, Builtin.firstCells, hz, newRow]
  rw [if_neg hms, e1]; rfl
theorem aAppendZ_ok {G : Gl} {S : Sh} {A A' : AH} {w : World} (h : Inv G S A w) {argTypes : Array TypeId} {ty : TypeId} {s x y : AV} {u v : Value} (hx : aAppendZ P A argTypes s x = some (y, A')) (hu : VRel S s u) (hv : VRel S x v) :
  VOk P G S A w (Builtin.append_ argTypes ty #[u, v]) y A' := by
 unfold aAppendZ at hx
 split at hx
 ·rename_i t t' fam off k n h0 h1
  cases hu
  cases hv
  split at hx
  ·rename_i e k' hd hd'
   split at hx
   ·rename_i i z hi hz
    split at hx <;> cases hx
    rename_i hc
    obtain ⟨c1, c2, c3, c4, c5, c6⟩ := hc
    have hdrew := (h.drew (w.drawn + 1)).1
    have hdfr := (h.drew (w.drawn + 1)).2
    obtain ⟨zv, hz1, hz2⟩ := run_zeroValue hz w.drew
    have hzr := ofVs_rel S zv
    rw [← hz2] at hzr
    have hzs : zv.cells.size = i.size := by
     have hzt' : z ≠ .top := by rintro rfl; simp [AV.isTop] at c6
     have := (hzr.cells hzt').length; simp at this; omega
    obtain ⟨newCap, g1, g2⟩ := run_append_zeros (ty := ty) (k := k) h0 h1 hd hd' hi c1 c2 c3 c4 hz1
    have hzl := zeros_rel (n := n.toNat) hzr c6 c5 c4
    have hle := Sh.le_at (hdrew.ρout _ (Nat.le_refl _)) w.drew.heap.size
    obtain ⟨i1, i2⟩ := hdrew.push (x := .cells (flat (List.replicate n.toNat z)) e) (o := .cells ⟨(Builtin.zeroCells zv.cells n.toNat).toList ++ (Builtin.zeroCells zv.cells (newCap - n.toNat)).toList⟩ e (0, 0)) (by simp) (.cells _ _ _ _ (hzl.mono hle))
    obtain ⟨j1, j2⟩ := i1.know (c := w.drew.heap.size) (cs := ⟨(Builtin.zeroCells zv.cells n.toNat).toList ++ (Builtin.zeroCells zv.cells (newCap - n.toNat)).toList⟩) (el := e) (by simp)
    refine ⟨_, _, _, g2, j1, hdfr.trans (i2.trans j2), ?_⟩
    refine .row _ _ _ w.drew.heap.size newCap ((Builtin.zeroCells zv.cells n.toNat).toList ++ (Builtin.zeroCells zv.cells (newCap - n.toNat)).toList).length (by simp [Sh.at, Sh.know]) c4 g1 (by simp only [Sh.know, ↓reduceIte]; rfl) ?_
    rw [List.length_append, zeroCells_length, zeroCells_length, hzs, ← Nat.add_mul]
    exact Nat.mul_le_mul_right _ (by omega)
   ·cases hx
  ·cases hx
 ·cases hx
theorem aSliceM_ok {S : Sh} {t : TypeId} {x y : AV} {lo : Option AV} {hi mx : AV} {u : Value} {lo' : Option Value} {hi' mx' : Value} (hx : aSliceM P t x lo hi mx = some y) (hu : VRel S x u) (hlo : ORel S lo lo') (hhi : VRel S hi hi') (hmx : VRel S mx mx') (w : World) :
  ∃ v, (Instr.sliceAt t u lo' (some hi') (some mx')).run P w = .ok v w ∧ VRel S y v := by
 unfold aSliceM at hx
 split at hx
 ·rename_i e fam off xs hd
  cases hu with
  | islE _ a =>
   exfalso
   split at hx
   ·split at hx <;> cases hx
    rename_i hcd
    obtain ⟨c1, c2, c3, c4, c5⟩ := hcd
    simp at c3
    omega
   ·cases hx
  | isl _ _ _ sz a o cap h0 hsz hc hcap hf =>
  split at hx
  ·rename_i h l q m hh hl hq hm
   split at hx <;> cases hx
   rename_i hcd
   obtain ⟨c1, c2, c3, c4, c5⟩ := hcd
   have hb : (Instr.sliceBounds true xs.length cap lo' (some hi') (some mx')).run P w = .ok (l, h, q) w := by
    cases hlo with
    | none => simp only [aBound, Option.some.injEq] at hl; subst hl; simp [Instr.sliceBounds, run_sliceBound hh hhi c2, run_sliceBound hq hmx (show q ≤ cap by omega)]
    | some x v hv =>
     have e : aBound (some x) 0 = some l := by cases x <;> simp_all [aBound]
     simp [Instr.sliceBounds, run_sliceBound e hv c1, run_sliceBound hh hhi c2, run_sliceBound hq hmx (show q ≤ cap by omega)]
   have hlen : ((xs.drop l).take (h - l)).length = h - l := by simp; omega
   have hszm : ∀ x ∈ xs, x.cells.length = m + 1 := fun x hx => by simpa using List.all_eq_true.1 c5 x hx
   have hx0 : xs ≠ [] := by rintro rfl; simp at c3; omega
   have hsz' : sz = m + 1 := by
    obtain ⟨x, xs', rfl⟩ := List.exists_cons_of_ne_nil hx0
    rw [← hsz x (by simp)]; exact hszm x (by simp)
   subst hsz'
   refine ⟨.slice (some ⟨a, o + l * (m + 1), none⟩) (h - l) (q - l), by simp [Instr.sliceAt, Instr.slice, run_underlying hd, hb, run_sizeOf hm, show ¬ q = l by omega, add_mk], ?_⟩
   have key := VRel.isl (S := S) none 0 ((xs.drop l).take (h - l)) (m + 1) a (o + l * (m + 1)) (q - l) h0 (uniform_take hsz l (h - l)) (CRel.rows hsz hc l (h - l) (by omega)) (by omega) (fun φ hφ => by cases hφ)
   rw [hlen] at key; exact key
  ·cases hx
 ·cases hx
theorem aSliceW_ok {S : Sh} {t : TypeId} {x y : AV} {lo hi mx : Option AV} {u : Value} {lo' hi' mx' : Option Value} (hx : aSliceW P t x lo hi mx = some y) (hu : VRel S x u) (hlo : ORel S lo lo') (hhi : ORel S hi hi') (hmx : ORel S mx mx') (w : World) :
  ∃ v, (Instr.sliceAt t u lo' hi' mx').run P w = .ok v w ∧ VRel S y v := by
 unfold aSliceW at hx
 split at hx
 ·cases hhi with
  | some z u1 h1 =>
  cases hmx with
  | some q u2 h2 => exact aSliceM_ok hx hu hlo h1 h2 w
 split at hx
 ·rename_i e b len sz hd _
  split at hx
  ·rename_i n m hh hl0 hsz
   cases hmx
   cases hu with
   | row _ _ _ c cap room hc q0 hl hm hcap =>
   split at hx <;> cases hx
   rename_i hcd
   obtain ⟨rfl, c3⟩ := hcd
   have hbd := run_sliceBounds (P := P) (b := true) (len := len) (cap := cap) hlo hhi hh hl0 (Nat.zero_le _) (by omega) w
   refine ⟨.slice (some ⟨c, 0, none⟩) n cap, ?_, .row _ _ _ c cap room hc q0 (by omega) hm hcap⟩
   by_cases hc0 : cap = 0
   ·subst hc0
    obtain rfl : n = 0 := by omega
    simp [Instr.sliceAt, Instr.slice, run_underlying hd, hbd, run_sizeOf hsz]
   ·simp [Instr.sliceAt, Instr.slice, run_underlying hd, hbd, run_sizeOf hsz, hc0, add_mk]
  ·exact aSlice_ok hx hu.weak hlo hhi hmx w
 ·exact aSlice_ok hx hu.weak hlo hhi hmx w
theorem aCapB_ok {S : Sh} {argTypes : Array TypeId} {ty : TypeId} {x y : AV} {u : Value} (hx : aCapB P argTypes x = some y) (hu : VRel S x u) (w : World) :
  ∃ v, (Builtin.cap_ argTypes ty #[u]).run P w = .ok v w ∧ VRel S y v := by
 unfold aCapB at hx
 split at hx
 ·rename_i t fam off h0
  cases hu
  split at hx <;> cases hx
  rename_i e hd
  exact ⟨.int .i64 0, by simp [Builtin.cap_, h0, run_underlying hd, goInt], .int _ _⟩
 ·cases hx
theorem aCopy0_ok {S : Sh} {argTypes : Array TypeId} {ty : TypeId} {d s y : AV} {u v : Value} (hx : aCopy0 P argTypes d s = some y) (hu : VRel S d u) (hv : VRel S s v) (w : World) :
  ∃ r, (Builtin.copy_ argTypes ty #[u, v]).run P w = .ok r w ∧ VRel S y r := by
 have f0 : ∀ sz n, aLen s = some n → (Builtin.firstCells sz 0 v).run P w = .ok #[] w := by
  intro sz n hn
  cases hv <;> simp only [aLen, reduceCtorEq] at hn <;> simp [Builtin.firstCells, loadCells, loadCellsFrom]
 unfold aCopy0 at hx
 split at hx
 ·rename_i t h0
  split at hx
  ·rename_i e hd
   split at hx
   ·rename_i m nil fam off n hm hn
    cases hx
    refine ⟨.int .i64 0, ?_, .int _ _⟩
    cases hu <;> simp [Builtin.copy_, h0, run_underlying hd, aLen_ok (P := P) hn hv w, run_sizeOf hm, f0 _ _ hn, goInt, storeCells]
   ·rename_i m b off len hm hn
    cases hx
    refine ⟨.int .i64 0, ?_, .int _ _⟩
    cases hu
    simp [Builtin.copy_, h0, run_underlying hd, aLen_ok (P := P) hn hv w, run_sizeOf hm, f0 _ _ hn, goInt, storeCells]
   ·cases hx
  ·cases hx
 ·cases hx
theorem aClear_ok {G : Gl} {S : Sh} {A A' : AH} {w : World} (h : Inv G S A w) {argTypes : Array TypeId} {ty : TypeId} {x y : AV} {u : Value} (hx : aClear P A argTypes x = some (y, A')) (hu : VRel S x u) :
  VOk P G S A w (Builtin.clear_ argTypes ty #[u]) y A' := by
 unfold aClear at hx
 split at hx
 ·rename_i t h0
  split at hx
  ·rename_i e nil fam off hd
   cases hx
   refine VOk.same (v := .tuple #[]) h ?_ (.tup _ _ .nil)
   cases hu <;> simp [Builtin.clear_, h0, run_underlying hd]
  ·rename_i e b off len hd
   split at hx
   ·rename_i i z cs el hi hz hb
    split at hx <;> cases hx
    rename_i hc
    obtain ⟨c1, c2, c3, c4, c5, c6⟩ := hc
    cases hu with
    | msl _ _ _ c cap hc hcap =>
    obtain ⟨zv, hz1, hz2⟩ := run_zeroValue hz w
    have hzr := ofVs_rel S zv
    rw [← hz2] at hzr
    have hzs : zv.cells.size = i.size := by
     have hzt' : z ≠ .top := by rintro rfl; simp [AV.isTop] at c4
     have := (hzr.cells hzt').length; simp at this; omega
    have hzl := zeros_rel (n := len) hzr c4 c3 c2
    obtain ⟨c', o, s1, s2, s3⟩ := h.blk b _ hb (by simp)
    obtain rfl := Option.some.inj (s1.symm.trans hc)
    cases s3 with
    | cells _ _ us rest hl =>
    have hll := hl.length
    have hzn : (Builtin.zeroCells zv.cells len).toList.length = len * i.size := by rw [zeroCells_length, hzs]
    have hall : (flat (List.replicate len z)).all AV.one = true := by
     rw [List.all_eq_true]
     intro q hq
     have : ∀ (k : Nat), q ∈ flat (List.replicate k z) → q ∈ z.cells := by
      intro k
      induction k with
      | zero => intro h; simp [flat] at h
      | succ k ih => intro h; simp only [List.replicate_succ, flat, List.mem_append] at h; exact h.elim id ih
     exact List.all_eq_true.1 c5 q (this _ hq)
    obtain ⟨w', r1, r2, r3, r4, r5, r6, r7⟩ := run_storeCells (P := P) (el := el) (c := c') (Builtin.zeroCells zv.cells len).toList w (us ++ rest) off 0 s2 (by simp only [List.length_append]; omega) (LRel.ones hzl hall)
    rw [Nat.add_zero, over_append _ _ _ _ (by omega)] at r2
    obtain ⟨i1, i2⟩ := h.put (x := .cells (over cs off (flat (List.replicate len z))) el) ⟨_, hb, by simp⟩ hc (by simp) (.cells _ _ _ _ (LRel.over off hzl hl)) r2 r3 r4 r5 r6 r7 (fun cs' el' hh => by rw [s2] at hh; cases hh; exact ⟨_, _, rfl, by simp [over_length]⟩)
    refine ⟨.tuple #[], w', S, ?_, i1, i2, .tup _ _ .nil⟩
    obtain ⟨k, rfl⟩ : ∃ k, len = k + 1 := ⟨len - 1, by omega⟩
    simp [Builtin.clear_, h0, run_underlying hd, hz1, r1]
   ·cases hx
  ·cases hx
 ·cases hx
theorem MRel.erase {S : Sh} : ∀ {es : List (AV × AV × Nat)} {ms : List MapEntry}, MRel S es ms → ∀ i, MRel S (es.eraseIdx i) (ms.eraseIdx i)
 | _, _, .nil, _ => by simp; exact .nil
 | _, _, .cons _ _ _ _ _ _ _ _ _ h3, 0 => by simpa using h3
 | _, _, .cons _ _ _ _ _ _ _ h1 h2 h3, i + 1 => by simpa using MRel.cons _ _ _ _ _ _ _ h1 h2 (h3.erase i)
theorem aDelete_ok {G : Gl} {S : Sh} {A A' : AH} {w : World} (h : Inv G S A w) {argTypes : Array TypeId} {ty : TypeId} {m k y : AV} {u v : Value} (hx : aDelete P A argTypes m k = some (y, A')) (hu : VRel S m u) (hv : VRel S k v) :
  VOk P G S A w (Builtin.delete_ argTypes ty #[u, v]) y A' := by
 unfold aDelete at hx
 split at hx
 ·rename_i t h0
  split at hx
  ·rename_i kt e b hd
   cases hu with
   | map _ c hc =>
   split at hx
   ·rename_i es clock d hb hkd
    split at hx
    ·rename_i hok
     obtain ⟨c', o, s1, s2, s3⟩ := h.blk b _ hb (by simp)
     obtain rfl := Option.some.inj (s1.symm.trans hc)
     cases s3 with
     | map _ _ ms hm =>
     have hck := fun q => aKeyOk_ok (P := P) (w := w) q 10000 kt k v hok hv
     have hg := run_getObj (P := P) s2 (by simp)
     split at hx
     ·rename_i i y hf
      cases hx
      obtain ⟨r', f1, f2⟩ := findKey_ok h hkd hv hm hf
      cases r' with
      | none => cases f2
      | some jv =>
       obtain ⟨j, v'⟩ := jv
       obtain ⟨hij, _⟩ := f2
       subst hij
       obtain ⟨i1, i2⟩ := setObj_put h hb (by simp) hc s2 (x' := .map (es.eraseIdx i) clock) (by simp) (.map _ clock _ (hm.erase i)) (by simp)
       refine ⟨.tuple #[], _, S, ?_, i1, i2, .tup _ _ .nil⟩
       have hst := run_setObj (P := P) (o' := .map ⟨ms.eraseIdx i⟩ clock) s2 (by simp)
       simp [Builtin.delete_, h0, run_underlying hd, hg, hck, f1, hst]
     ·rename_i hf
      cases hx
      obtain ⟨r', f1, f2⟩ := findKey_ok h hkd hv hm hf
      cases r' with
      | some => cases f2
      | none =>
       obtain ⟨i1, i2⟩ := setObj_put h hb (by simp) hc s2 (x' := .map es clock) (by simp) (.map _ clock _ hm) (by simp)
       refine ⟨.tuple #[], _, S, ?_, i1, i2, .tup _ _ .nil⟩
       have hst := run_setObj (P := P) (o' := .map ⟨ms⟩ clock) s2 (by simp)
       simp [Builtin.delete_, h0, run_underlying hd, hg, hck, f1, hst]
     ·cases hx
    ·cases hx
   ·cases hx
  ·cases hx
 ·cases hx
theorem aBuild0_ok {G : Gl} {S : Sh} {A A' : AH} {w : World} (h : Inv G S A w) {t : TypeId} {y : AV} (hx : aBuild0 P A t = some (y, A')) : VOk P G S A w (Instr.buildSlice t 0 #[]) y A' := by
 unfold aBuild0 at hx
 split at hx
 ·rename_i e hd
  split at hx <;> cases hx
  rename_i m hm
  have hle := Sh.le_at (h.ρout _ (Nat.le_refl _)) w.heap.size
  obtain ⟨i1, i2⟩ := h.push (x := .cells [] e) (o := .cells ⟨[] ++ []⟩ e (0, 0)) (by simp) (.cells _ _ _ _ .nil)
  obtain ⟨j1, j2⟩ := i1.know (c := w.heap.size) (cs := ⟨[] ++ []⟩) (el := e) (by simp)
  refine ⟨.slice (some ⟨w.heap.size, 0, none⟩) 0 0, _, _, ?_, j1, i2.trans j2, .row _ _ _ w.heap.size 0 0 (by simp [Sh.at, Sh.know]) (by omega) (Nat.le_refl _) (by simp [Sh.know]) (by simp)⟩
  simp [Instr.buildSlice, run_underlying hd, run_sizeOf hm, newRow, Instr.fill]
  have hA : ∀ g : Nat → Value, (Array.range 0).map g = ⟨[]⟩ := by intro g; apply Array.ext (by simp); intro i h1 _; simp at h1
  rw [hA]
 ·cases hx
end
end Go.Am
end
section
noncomputable section
namespace Go.Am
open Go
inductive ADef where
 | fn (fn : Fn) (args cap : List AV)
 | mark (b : Nat)
structure AAct where
 tmps : List AV
 defers : List ADef
def AAct.get (a : AAct) (t : Nat) : AV := (nthR a.tmps t).getD .top
def AAct.eval (a : AAct) : Operand → AV
 | .tmp t => a.get t
 | .const v => ofVs v
 | .global g => .gptr g 0
 | .func f => .fn (.func f) [] []
def AAct.put (a : AAct) (dst : Option Tmp) (v : AV) : AAct :=
 match dst with
 | some d => { a with tmps := setR a.tmps d v }
 | none => a
inductive DRel (S : Sh) : ADef → Deferred → Prop
 | fn (f g : Fn) (xs ys : List AV) (us vs : List Value) : FRel S f g → LRel S xs us → LRel S ys vs → DRel S (.fn f xs ys) ⟨.fn g ⟨vs⟩, ⟨us⟩⟩
 | mark (b c : Nat) : S.ρ b = some c → DRel S (.mark b) ⟨.collected c, #[]⟩
inductive DsRel (S : Sh) : List ADef → List Deferred → Prop
 | nil : DsRel S [] []
 | cons (d : ADef) (e : Deferred) (ds : List ADef) (es : List Deferred) : DRel S d e → DsRel S ds es → DsRel S (d :: ds) (e :: es)
theorem DRel.mono {S S' : Sh} (h : S.le S') {d : ADef} {e : Deferred} : DRel S d e → DRel S' d e
 | .fn f g xs ys us vs h1 h2 h3 => .fn f g xs ys us vs (h1.mono h) (h2.mono h) (h3.mono h)
 | .mark b c h1 => .mark b c (h.ρ _ _ h1)
theorem DsRel.mono {S S' : Sh} (h : S.le S') : ∀ {ds : List ADef} {es : List Deferred}, DsRel S ds es → DsRel S' ds es
 | _, _, .nil => .nil
 | _, _, .cons _ _ _ _ h1 h2 => .cons _ _ _ _ (h1.mono h) (h2.mono h)
structure ARel (S : Sh) (a : AAct) (b : Act) : Prop where
 tmps : LRel S a.tmps b.tmps.toList
 defers : DsRel S a.defers b.defers
theorem DsRel.append {S : Sh} : ∀ {ds ds2 : List ADef} {es es2 : List Deferred}, DsRel S ds es → DsRel S ds2 es2 → DsRel S (ds ++ ds2) (es ++ es2)
 | _, _, _, _, .nil, h => h
 | _, _, _, _, .cons _ _ _ _ h1 h2, h => .cons _ _ _ _ h1 (h2.append h)
theorem ARel.mono {S S' : Sh} (h : S.le S') {a : AAct} {b : Act} (r : ARel S a b) : ARel S' a b := ⟨r.tmps.mono h, r.defers.mono h⟩
theorem ARel.eval {S : Sh} {a : AAct} {b : Act} (h : ARel S a b) (x : Operand) : VRel S (a.eval x) (b.eval x) := by
 cases x with
 | tmp t =>
  have := h.tmps.getD t
  simpa [AAct.eval, AAct.get, nthR_eq, Act.eval, Array.getD_eq_getD_getElem?] using this
 | const v => exact ofVs_rel S v
 | global g => exact .gptr g 0
 | func f => exact .fn _ _ _ _ _ _ rfl .nil .nil
theorem ARel.put {S : Sh} {a : AAct} {b : Act} (h : ARel S a b) (dst : Option Tmp) {x : AV} {v : Value} (hv : VRel S x v) : ARel S (a.put dst x) (b.put dst v) := by
 cases dst with
 | none => exact h
 | some d => exact ⟨by simpa [AAct.put, Act.put, setR_eq] using h.tmps.set d hv, h.defers⟩
theorem ARel.evals {S : Sh} {a : AAct} {b : Act} (h : ARel S a b) : ∀ (xs : List Operand), LRel S (xs.map a.eval) (xs.map b.eval)
 | [] => .nil
 | x :: xs => .cons _ _ _ _ (h.eval x) (h.evals xs)
inductive AR where
 | val (v : AV) (A : AH)
 | enter (f : FuncId) (args : List AV) (A : AH)
 | yield (l : Nat) (args : List AV) (A : AH)
 | dfr (d : ADef) (A : AH)
 | panic (v : AV) (A : AH)
 | recover (A : AH)
def RRel (G : Gl) (S : Sh) (A : AH) (w : World) : AR → Result Next → Prop
 | .val x A', .ok (.value v) w' => ∃ S', Inv G S' A' w' ∧ Fr S A w S' A' w' ∧ VRel S' x v
 | .val x A', .ok .skip w' => ∃ S', Inv G S' A' w' ∧ Fr S A w S' A' w' ∧ VRel S' x undef
 | .enter f xs A', .ok (.enter g vs) w' => g = f ∧ ∃ S', Inv G S' A' w' ∧ Fr S A w S' A' w' ∧ LRel S' xs vs.toList
 | .dfr d A', .ok (.defer e) w' => ∃ S', Inv G S' A' w' ∧ Fr S A w S' A' w' ∧ DRel S' d e
 | .panic x A', .halt (.panic v) w' => ∃ S', Inv G S' A' w' ∧ Fr S A w S' A' w' ∧ VRel S' x v
 | .recover A', .ok .recover w' => ∃ S', Inv G S' A' w' ∧ Fr S A w S' A' w'
 | .yield l xs A', .ok (.round c fn tmps assign body) w' => ∃ S' st pd ats ps d, Inv G S' A' w' ∧ Fr S A w S' A' w' ∧ S'.ρ l = some c ∧ A'.blks[l]? = some (.loop st pd ats ps assign body d) ∧ xs.length = ps.size ∧
   ∃ us vs, tmps = (ps.zip ⟨vs⟩).foldl (fun tmps (t, a) => tmps.setIfInBounds t a) ⟨us⟩ ∧ LRel S' ats us ∧ LRel S' xs vs ∧ ∃ s p fn', w'.heap[c]? = some (.loop { state := s, pending := p, fn := fn', tmps := ⟨us⟩, params := ps, assign := assign, body := body, defers := ((S'.ρ d).getD 0) }) ∧ fn = fn'
 | _, _ => False
theorem VOk.rrel {P : Program} {G : Gl} {S : Sh} {A A' : AH} {w : World} {s : Sem Value} {x : AV} (h : VOk P G S A w s x A') : RRel G S A w (.val x A') ((do pure (.value (← s)) : Sem Next).run P w) := by
 obtain ⟨v, w', S', r1, r2, r3, r4⟩ := h
 simp only [Sem.run_bind, r1, Result.andThen_ok, Sem.run_pure]
 exact ⟨S', r2, r3, r4⟩
section ops
variable (P : Program) (G : Gl)
def constB : Operand → Bool
 | .const _ => true
 | _ => false
def gEq (t : TypeId) (x y : Operand) : AV → AV → Bool
 | .nili, .nili => constB x || constB y
 | .agg _, .agg _ => !P.eqGuardType P.depth t
 | .top, _ => false
 | _, .top => false
 | .sym _, _ => false
 | _, .sym _ => false
 | _, _ => true
def aGuard (op : BinOp) (t : TypeId) (x y : Operand) (u v : AV) : Bool :=
 match op with
 | .eql => gEq P t x y u v
 | .neq => gEq P t x y u v
 | _ => true
def AV.plain : AV → AV → Bool
 | .top, _ => false
 | _, .top => false
 | .sym _, _ => false
 | _, .sym _ => false
 | .int _ _, .int _ _ => false
 | .str _, .str _ => false
 | _, _ => true
def aBin (A : AH) (op : BinOp) (t : TypeId) (x y : Operand) (u v : AV) : Option AV :=
 if aGuard P op t x y u v then
  match u, v with
  | .int k a, .int k' b =>
   match op with
   | .shl | .shr => aInt op k a b
   | _ => if k = k' then aInt op k a b else none
  | .str a, .str b => aStr op a b
  | u, v =>
   match op with
   | .eql => if AV.plain u v then (aEq P A 10000 t u v).map .bool else none
   | .neq => if AV.plain u v then (aEq P A 10000 t u v).map fun b => .bool !b else none
   | _ => none
 else none
variable {P G}
theorem gEq_ok {S : Sh} {op : BinOp} {t : TypeId} {x y : Operand} {u v : AV} {p q : Value} (hop : op = .eql ∨ op = .neq) (h : gEq P t x y u v = true) (hu : VRel S u p) (hv : VRel S v q) (w : World) : (eqGuard op t x y p q).run P w = .ok () w := by
 have e : eqGuard op t x y p q = eqGuard .eql t x y p q := by rcases hop with rfl | rfl <;> rfl
 rw [e]
 unfold eqGuard
 simp only [Bool.not_true, Bool.false_eq_true, if_false]
 cases hu <;> cases hv <;> simp only [gEq, Bool.false_eq_true] at h <;> first
  | rfl
  | (simp only [Bool.not_eq_true'] at h; simp [h]; done)
  | skip
 simp only [Bool.or_eq_true] at h
 rcases h with h | h
 ·cases x <;> first | rfl | cases h
 ·cases y <;> first | (cases x <;> rfl) | cases h
theorem aGuard_ok {S : Sh} {op : BinOp} {t : TypeId} {x y : Operand} {u v : AV} {p q : Value} (h : aGuard P op t x y u v = true) (hu : VRel S u p) (hv : VRel S v q) (w : World) : (eqGuard op t x y p q).run P w = .ok () w := by
 by_cases h1 : op = .eql
 ·subst h1; exact gEq_ok (.inl rfl) h hu hv w
 ·by_cases h2 : op = .neq
  ·subst h2; exact gEq_ok (.inr rfl) h hu hv w
  ·have : eqGuard op t x y p q = pure () := by cases op <;> first | rfl | exact absurd rfl h1 | exact absurd rfl h2
   rw [this]; rfl
theorem binOp_eq {S : Sh} {t : TypeId} {u v : AV} {p q : Value} (h : AV.plain u v = true) (hu : VRel S u p) (hv : VRel S v q) :
  binOp .eql t p q = (do pure (.bool (← Op.equal t p q))) ∧ binOp .neq t p q = (do pure (.bool (!(← Op.equal t p q)))) := by
 cases hu <;> cases hv <;> first
  | (simp only [AV.plain, Bool.false_eq_true] at h; done)
  | exact ⟨rfl, rfl⟩
theorem aBin_ok {S : Sh} {A : AH} {w : World} (h : Inv G S A w) {op : BinOp} {t : TypeId} {x y : Operand} {u v z : AV} {p q : Value} (hx : aBin P A op t x y u v = some z) (hu : VRel S u p) (hv : VRel S v q) :
  ∃ r, (do eqGuard op t x y p q; binOp op t p q : Sem Value).run P w = .ok r w ∧ VRel S z r := by
 unfold aBin at hx
 split at hx
 ·rename_i hg
  simp only [Sem.run_bind, aGuard_ok (P := P) hg hu hv w, Result.andThen_ok]
  split at hx
  ·rename_i k a k' b
   cases hu; cases hv
   split at hx
   ·exact aInt_ok (.inr (.inl rfl)) hx S t w
   ·exact aInt_ok (.inr (.inr rfl)) hx S t w
   ·split at hx
    ·rename_i hk; exact aInt_ok (.inl hk) hx S t w
    ·cases hx
  ·cases hu; cases hv
   exact aStr_ok hx S t w
  ·split at hx
   ·split at hx
    ·rename_i hp
     simp only [Option.map_eq_some_iff] at hx
     obtain ⟨b, hb, rfl⟩ := hx
     have := aEq_ok h 10000 t u v b p q hb hu hv
     refine ⟨.bool b, ?_, .bool _⟩
     rw [(binOp_eq hp hu hv).1]
     simp [Op.equal, Op.maxDepth, this]
    ·cases hx
   ·split at hx
    ·rename_i hp
     simp only [Option.map_eq_some_iff] at hx
     obtain ⟨b, hb, rfl⟩ := hx
     have := aEq_ok h 10000 t u v b p q hb hu hv
     refine ⟨.bool !b, ?_, .bool _⟩
     rw [(binOp_eq hp hu hv).2]
     simp [Op.equal, Op.maxDepth, this]
    ·cases hx
   ·cases hx
 ·cases hx
def aUn (op : UnOp) (x : AV) : Option AV :=
 match op, x with
 | .neg, .int k n => some (.int k (k.wrap (0 - n)))
 | .not, .bool b => some (.bool !b)
 | .xor, .int k n => aInt .xor k (if k.signed then -1 else k.max) n
 | _, _ => none
theorem aUn_ok {S : Sh} {op : UnOp} {x y : AV} {u : Value} (hx : aUn op x = some y) (hu : VRel S x u) (w : World) : ∃ v, (Op.unary op u).run P w = .ok v w ∧ VRel S y v := by
 unfold aUn at hx
 split at hx
 ·cases hx; cases hu; exact ⟨_, rfl, .int _ _⟩
 ·cases hx; cases hu; exact ⟨_, rfl, .bool _⟩
 ·rename_i k n
  cases hu
  simp only [aInt, Option.some.injEq] at hx
  subst hx
  exact ⟨_, rfl, .int _ _⟩
 ·cases hx
variable (P) in
def aEnter (f : FuncId) (args : List AV) (A : AH) : Option AR :=
 match P.funcs[f]? with
 | some fn => if fn.name ≠ "runtime.NumGoroutine" ∧ fn.body.isSome then some (.enter f args A) else none
 | none => none
theorem aEnter_ok {S : Sh} {A : AH} {w : World} (h : Inv G S A w) {f : FuncId} {args : List AV} {vs : Array Value} {r : AR} (hx : aEnter P f args A = some r) (hl : LRel S args vs.toList) : RRel G S A w r ((callFunc f vs).run P w) := by
 unfold aEnter at hx
 split at hx
 ·rename_i fn hf
  split at hx <;> cases hx
  rename_i hc
  obtain ⟨h1, h2⟩ := hc
  have hb : ¬ fn.body = none := by intro hbb; simp [hbb] at h2
  have : (callFunc f vs).run P w = .ok (.enter f vs) w := by
   simp [callFunc, hf, h1, hb]
  rw [this]
  exact ⟨rfl, S, h, Fr.refl S A w, hl⟩
 ·cases hx
variable (P G) in
def aInvoke (A : AH) (fn : Fn) (args cap : List AV) : Option AR :=
 match fn with
 | .func f => aEnter P f (args ++ cap) A
 | .method name =>
  match args with
  | .iface t v :: rest =>
   match aMethod P G A (P.types.size + Made.depth) t v name with
   | some (f, r) => aEnter P f (r :: rest) A
   | none => none
  | _ => none
 | .methodOf t name =>
  match P.underlying t, args with
  | some (.interface _), .iface t' v :: rest =>
   match aMethod P G A (P.types.size + Made.depth) t' v name with
   | some (f, r) => aEnter P f (r :: rest) A
   | none => none
  | some (.interface _), _ => none
  | some _, v :: rest =>
   match aMethod P G A (P.types.size + Made.depth) t v name with
   | some (f, r) => aEnter P f (r :: rest) A
   | none => none
  | _, _ => none
 | .via t path f pr =>
  match args with
  | x :: rest =>
   match aFollow P G A path.toList t (.val x) with
   | some (xt, p) =>
    match aRecv P G A xt p pr with
    | some r => aEnter P f (r :: rest) A
    | none => none
   | none => none
  | [] => none
 | .yield l =>
  match A.blks[l]? with
  | some (.loop _ _ _ ps _ _ _) => if args.length = ps.size then some (.yield l args A) else none
  | _ => none
theorem aInvoke_ok {S : Sh} {A : AH} {w : World} (h : Inv G S A w) {fn g : Fn} {args cap : List AV} {us vs : List Value} {r : AR} (hx : aInvoke P G A fn args cap = some r) (hf : FRel S fn g) (ha : LRel S args us) (hc : LRel S cap vs) :
  RRel G S A w r ((invoke (.fn g ⟨vs⟩) ⟨us⟩).run P w) := by
 unfold aInvoke at hx
 split at hx
 ·rename_i f
  cases hf
  have : invoke (.fn (.func f) ⟨vs⟩) ⟨us⟩ = callFunc f ⟨us ++ vs⟩ := by simp [invoke]
  rw [this]
  exact aEnter_ok h hx (ha.append hc)
 ·rename_i name
  cases hf
  split at hx
  ·rename_i t v rest
   cases ha with
   | cons _ _ u us' hu hr =>
   cases hu with
   | iface _ _ u' hv =>
   split at hx
   ·rename_i f r' hm
    obtain ⟨rv, m1, m2⟩ := aMethod_ok h _ t v u' name f r' hm hv
    have key := aEnter_ok (w := w) h hx (vs := ⟨rv :: us'⟩) (.cons _ _ _ _ m2 hr)
    have e : (invoke (.fn (.method name) ⟨vs⟩) ⟨.iface t u' :: us'⟩).run P w = (callFunc f ⟨rv :: us'⟩).run P w := by
     have e2 : (#[rv] : Array Value) ++ (⟨.iface t u' :: us'⟩ : Array Value).extract 1 (us'.length + 1) = ⟨rv :: us'⟩ := by apply Array.ext'; simp
     simp only [invoke, callMethod, List.getElem?_toArray, List.getElem?_cons_zero, Sem.run_bind, run_program, Result.andThen_ok, m1]
     simp only [List.size_toArray, List.length_cons]
     rw [e2]
    rw [e]; exact key
   ·cases hx
  ·cases hx
 ·rename_i t name
  cases hf
  split at hx
  ·rename_i ms t' v rest hd
   cases ha with
   | cons _ _ u us' hu hr =>
   cases hu with
   | iface _ _ u' hv =>
   split at hx
   ·rename_i f r' hm
    obtain ⟨rv, m1, m2⟩ := aMethod_ok h _ t' v u' name f r' hm hv
    have key := aEnter_ok (w := w) h hx (vs := ⟨rv :: us'⟩) (.cons _ _ _ _ m2 hr)
    have e : (invoke (.fn (.methodOf t name) ⟨vs⟩) ⟨.iface t' u' :: us'⟩).run P w = (callFunc f ⟨rv :: us'⟩).run P w := by
     have e2 : (#[rv] : Array Value) ++ (⟨.iface t' u' :: us'⟩ : Array Value).extract 1 (us'.length + 1) = ⟨rv :: us'⟩ := by apply Array.ext'; simp
     simp only [invoke, callMethod, List.getElem?_toArray, List.getElem?_cons_zero, Sem.run_bind, run_underlying hd, run_program, Result.andThen_ok, m1]
     simp only [List.size_toArray, List.length_cons]
     rw [e2]
    rw [e]; exact key
   ·cases hx
  ·cases hx
  ·rename_i d v rest hne1 hne2 hd
   cases ha with
   | cons _ _ u us' hu hr =>
   split at hx
   ·rename_i f r' hm
    obtain ⟨rv, m1, m2⟩ := aMethod_ok h _ t v u name f r' hm hu
    have key := aEnter_ok (w := w) h hx (vs := ⟨rv :: us'⟩) (.cons _ _ _ _ m2 hr)
    have hd' : ∀ ms, d ≠ .interface ms := fun ms e => hne2 ms e
    have e : (invoke (.fn (.methodOf t name) ⟨vs⟩) ⟨u :: us'⟩).run P w = (callFunc f ⟨rv :: us'⟩).run P w := by
     have e2 : (#[rv] : Array Value) ++ (⟨u :: us'⟩ : Array Value).extract 1 (us'.length + 1) = ⟨rv :: us'⟩ := by apply Array.ext'; simp
     simp only [invoke, List.getElem?_toArray, List.getElem?_cons_zero, Sem.run_bind, run_underlying hd, Result.andThen_ok]
     cases d <;> first
      | exact absurd rfl (hd' _)
      | (simp only [callMethod, Sem.run_bind, run_program, Result.andThen_ok, m1, List.size_toArray, List.length_cons]
         rw [e2])
    rw [e]; exact key
   ·cases hx
  ·cases hx
 ·rename_i t path f pr
  cases hf
  split at hx
  ·rename_i x rest
   cases ha with
   | cons _ _ u us' hu hr =>
   split at hx
   ·rename_i xt p hfol
    split at hx
    ·rename_i r' hrec
     obtain ⟨q, r1, r2⟩ := aFollow_ok h path.toList t (.val x) (.val u) _ hfol hu
     obtain ⟨rv, m1, m2⟩ := aRecv_ok (wr := none) h hrec r2
     have key := aEnter_ok (w := w) h hx (vs := ⟨rv :: us'⟩) (.cons _ _ _ _ m2 hr)
     have e : (invoke (.fn (.via t path f pr) ⟨vs⟩) ⟨u :: us'⟩).run P w = (callFunc f ⟨rv :: us'⟩).run P w := by
      have e2 : (#[rv] : Array Value) ++ (⟨u :: us'⟩ : Array Value).extract 1 (us'.length + 1) = ⟨rv :: us'⟩ := by apply Array.ext'; simp
      simp only [invoke, List.getElem?_toArray, List.getElem?_cons_zero, receiverVia, Sem.run_bind, r1, Result.andThen_ok, m1, List.size_toArray, List.length_cons]
      rw [e2]
     rw [e]; exact key
    ·cases hx
   ·cases hx
  ·cases hx
 ·rename_i l
  obtain ⟨c, hcl, rfl⟩ := hf
  split at hx
  ·rename_i st pd ts ps as bd df hb
   split at hx <;> cases hx
   rename_i hlen
   obtain ⟨c', o, s1, s2, s3⟩ := h.blk l _ hb (by simp)
   obtain rfl := Option.some.inj (s1.symm.trans hcl)
   cases s3 with
   | loop _ _ _ tvs _ _ _ _ d fn' htl hd =>
   have hg := run_getObj (P := P) s2 (by simp)
   have hsz : ¬ us.length ≠ ps.size := by rw [← ha.length]; simp [hlen]
   have e : (invoke (.fn (.yield c') ⟨vs⟩) ⟨us⟩).run P w = .ok (.round c' fn' ((ps.zip ⟨us⟩).foldl (fun tmps (t, a) => tmps.setIfInBounds t a) ⟨tvs⟩) as bd) w := by
    simp only [invoke, Instr.yield, Instr.getLoop, Sem.run_bind, hg, Result.andThen_ok, Sem.run_pure, List.size_toArray]
    rw [if_neg hsz]
    rfl
   rw [e]
   exact ⟨S, st, pd, ts, ps, df, h, Fr.refl S A w, hcl, hb, hlen, tvs, us, rfl, htl, ha, st, pd, fn', by rw [hd]; exact s2, rfl⟩
  ·cases hx
def AV.isRow : AV → Bool
 | .row _ _ _ => true
 | _ => false
variable (P G) in
def aCall (mu : Bool) (A : AH) (ev : Operand → AV) (c : Call) : Option AR :=
 match c.callee with
 | .value f =>
  match ev f with
  | .fn fn first cap => aInvoke P G A fn (first ++ c.args.toList.map ev) cap
  | _ => none
 | .invoke recv name =>
  match ev recv with
  | .iface t v =>
   match aMethod P G A (P.types.size + Made.depth) t v name with
   | some (f, r) => aEnter P f (r :: c.args.toList.map ev) A
   | none => none
  | _ => none
 | .builtin b =>
  match b, c.args.toList with
  | .append, [x, y] =>
   match (if mu || (ev x).isRow then aAppendR P A c.argTypes (ev x) (ev y).weak else aAppend P A c.argTypes (ev x) (ev y).weak) with
   | some (v, A') => some (.val v A')
   | none => (aAppendZ P A c.argTypes (ev x) (ev y)).map fun (v, A') => .val v A'
  | .len, [x] => (aLenB P A c.argTypes (ev x).weak).map fun v => .val v A
  | .copy, [x, y] =>
   match aCopy P A c.argTypes (ev x).weak (ev y).weak with
   | some (v, A') => some (.val v A')
   | none => (aCopy0 P c.argTypes (ev x).weak (ev y).weak).map fun v => .val v A
  | .cap, [x] => (aCapB P c.argTypes (ev x)).map fun v => .val v A
  | .clear, [x] => (aClear P A c.argTypes (ev x).weak).map fun (v, A') => .val v A'
  | .delete, [x, y] => (aDelete P A c.argTypes (ev x) (ev y)).map fun (v, A') => .val v A'
  | .max, x :: xs => (aMaxs true (ev x) (xs.map ev)).map fun v => .val v A
  | .min, x :: xs => (aMaxs false (ev x) (xs.map ev)).map fun v => .val v A
  | .recover, [] => some (.recover A)
  | _, _ => none
theorem aCall_ok {mu : Bool} {S : Sh} {A : AH} {w : World} (h : Inv G S A w) {a : AAct} {b : Act} (hab : ARel S a b) {c : Call} {ty : TypeId} {r : AR} (hx : aCall P G mu A a.eval c = some r) :
  RRel G S A w r ((do let d ← resolve b.eval c ty; invoke d.target d.args : Sem Next).run P w) := by
 have hargs := hab.evals c.args.toList
 have hmap : (c.args.map b.eval) = ⟨c.args.toList.map b.eval⟩ := by apply Array.ext'; simp
 unfold aCall at hx
 split at hx
 ·rename_i f hcal
  split at hx
  ·rename_i fn first cap hev
   have hv := hab.eval f
   rw [hev] at hv
   generalize hbv : b.eval f = bv at hv
   cases hv with
   | fn _ g _ _ us vs hf hfst hcap =>
   have key := aInvoke_ok (w := w) h hx hf (hfst.append hargs) hcap
   have e : (do let d ← resolve b.eval c ty; invoke d.target d.args : Sem Next).run P w = (invoke (.fn g ⟨vs⟩) ⟨us ++ c.args.toList.map b.eval⟩).run P w := by
    simp only [resolve, hcal, Deferred.ofValue, hbv, hmap, pure_bind]
    simp
   rw [e]; exact key
  ·cases hx
 ·rename_i recv name hcal
  split at hx
  ·rename_i t v hev
   have hv := hab.eval recv
   rw [hev] at hv
   generalize hbv : b.eval recv = bv at hv
   cases hv with
   | iface _ _ u hu =>
   split at hx
   ·rename_i f r' hm
    obtain ⟨rv, m1, m2⟩ := aMethod_ok h _ t v u name f r' hm hu
    have key := aEnter_ok (w := w) h hx (vs := ⟨rv :: c.args.toList.map b.eval⟩) (.cons _ _ _ _ m2 hargs)
    have e : (do let d ← resolve b.eval c ty; invoke d.target d.args : Sem Next).run P w = (callFunc f ⟨rv :: c.args.toList.map b.eval⟩).run P w := by
     have e3 : (#[Value.iface t u] : Array Value) ++ (⟨c.args.toList.map b.eval⟩ : Array Value) = ⟨.iface t u :: c.args.toList.map b.eval⟩ := by apply Array.ext'; simp
     have e2 : (#[rv] : Array Value) ++ (⟨.iface t u :: c.args.toList.map b.eval⟩ : Array Value).extract 1 ((c.args.toList.map b.eval).length + 1) = ⟨rv :: c.args.toList.map b.eval⟩ := by
      apply Array.ext'; simp; exact List.take_of_length_le (by simp)
     simp only [resolve, hcal, hbv, hmap, pure_bind, e3]
     simp only [invoke, callMethod, List.getElem?_toArray, List.getElem?_cons_zero, Sem.run_bind, run_program, Result.andThen_ok, m1]
     simp only [List.size_toArray, List.length_cons]
     rw [e2]
    rw [e]; exact key
   ·cases hx
  ·cases hx
 ·rename_i bi hcal
  have hres : ∀ (k : Sem Next), (∀ ds, (builtin bi c.argTypes ty ds ⟨c.args.toList.map b.eval⟩).run P w = k.run P w) → (do let d ← resolve b.eval c ty; invoke d.target d.args : Sem Next).run P w = k.run P w := by
   intro k hk
   simp only [resolve, hcal, hmap, pure_bind, invoke]
   exact hk _
  split at hx
  ·rename_i x y hl
   rw [hres (do pure (.value (← Builtin.append_ c.argTypes ty #[b.eval x, b.eval y]))) (fun ds => by simp [builtin, hl])]
   split at hx
   ·rename_i v A' h1
    cases hx
    split at h1
    ·exact (aAppendR_ok h h1 (hab.eval x) (hab.eval y).weak).rrel
    ·exact (aAppend_ok h h1 (hab.eval x) (hab.eval y).weak).rrel
   ·simp only [Option.map_eq_some_iff] at hx
    obtain ⟨⟨v, A'⟩, h1, rfl⟩ := hx
    exact (aAppendZ_ok h h1 (hab.eval x) (hab.eval y)).rrel
  ·rename_i x hl
   simp only [Option.map_eq_some_iff] at hx
   obtain ⟨v, h1, rfl⟩ := hx
   obtain ⟨u, r1, r2⟩ := aLenB_ok (ty := ty) h h1 (hab.eval x).weak
   rw [hres (do pure (.value (← Builtin.len_ c.argTypes ty #[b.eval x]))) (fun ds => by simp [builtin, hl])]
   simp only [Sem.run_bind, r1, Result.andThen_ok, Sem.run_pure]
   exact ⟨S, h, Fr.refl S A w, r2⟩
  ·rename_i x y hl
   rw [hres (do pure (.value (← Builtin.copy_ c.argTypes ty #[b.eval x, b.eval y]))) (fun ds => by simp [builtin, hl])]
   split at hx
   ·rename_i v A' h1
    cases hx
    exact (aCopy_ok h h1 (hab.eval x).weak (hab.eval y).weak).rrel
   ·simp only [Option.map_eq_some_iff] at hx
    obtain ⟨v, h1, rfl⟩ := hx
    obtain ⟨u, r1, r2⟩ := aCopy0_ok (ty := ty) h1 (hab.eval x).weak (hab.eval y).weak w
    simp only [Sem.run_bind, r1, Result.andThen_ok, Sem.run_pure]
    exact ⟨S, h, Fr.refl S A w, r2⟩
  ·rename_i x hl
   simp only [Option.map_eq_some_iff] at hx
   obtain ⟨v, h1, rfl⟩ := hx
   obtain ⟨u, r1, r2⟩ := aCapB_ok (ty := ty) h1 (hab.eval x) w
   rw [hres (do pure (.value (← Builtin.cap_ c.argTypes ty #[b.eval x]))) (fun ds => by simp [builtin, hl])]
   simp only [Sem.run_bind, r1, Result.andThen_ok, Sem.run_pure]
   exact ⟨S, h, Fr.refl S A w, r2⟩
  ·rename_i x hl
   simp only [Option.map_eq_some_iff] at hx
   obtain ⟨⟨v, A'⟩, h1, rfl⟩ := hx
   rw [hres (do pure (.value (← Builtin.clear_ c.argTypes ty #[b.eval x]))) (fun ds => by simp [builtin, hl])]
   exact (aClear_ok h h1 (hab.eval x).weak).rrel
  ·rename_i x y hl
   simp only [Option.map_eq_some_iff] at hx
   obtain ⟨⟨v, A'⟩, h1, rfl⟩ := hx
   rw [hres (do pure (.value (← Builtin.delete_ c.argTypes ty #[b.eval x, b.eval y]))) (fun ds => by simp [builtin, hl])]
   exact (aDelete_ok h h1 (hab.eval x) (hab.eval y)).rrel
  ·rename_i x xs hl
   simp only [Option.map_eq_some_iff] at hx
   obtain ⟨v, h1, rfl⟩ := hx
   obtain ⟨u, r1, r2⟩ := aMaxs_ok (P := P) w _ _ _ _ _ h1 (hab.eval x) (hab.evals xs)
   rw [hres (do pure (.value (← Builtin.max_ c.argTypes ty ⟨b.eval x :: xs.map b.eval⟩))) (fun ds => by simp [builtin, hl])]
   have : (Builtin.max_ c.argTypes ty ⟨b.eval x :: xs.map b.eval⟩).run P w = .ok u w := by simpa [Builtin.max_] using r1
   simp only [Sem.run_bind, this, Result.andThen_ok, Sem.run_pure]
   exact ⟨S, h, Fr.refl S A w, r2⟩
  ·rename_i x xs hl
   simp only [Option.map_eq_some_iff] at hx
   obtain ⟨v, h1, rfl⟩ := hx
   obtain ⟨u, r1, r2⟩ := aMaxs_ok (P := P) w _ _ _ _ _ h1 (hab.eval x) (hab.evals xs)
   rw [hres (do pure (.value (← Builtin.min_ c.argTypes ty ⟨b.eval x :: xs.map b.eval⟩))) (fun ds => by simp [builtin, hl])]
   have : (Builtin.min_ c.argTypes ty ⟨b.eval x :: xs.map b.eval⟩).run P w = .ok u w := by simpa [Builtin.min_] using r1
   simp only [Sem.run_bind, this, Result.andThen_ok, Sem.run_pure]
   exact ⟨S, h, Fr.refl S A w, r2⟩
  ·rename_i hl
   cases hx
   rw [hres (pure .recover) (fun ds => by simp [builtin])]
   exact ⟨S, h, Fr.refl S A w⟩
  ·cases hx
end ops
end Go.Am
end
section
noncomputable section
namespace Go.Am
open Go
def aToBytes (P : Program) (src dst : TypeId) (x : AV) : Option AV :=
 match P.underlying src, P.underlying dst, x with
 | some _, some (.slice e), .str s =>
  match P.underlying e with
  | some (.int .u8) => some (.isl false none 0 (s.map fun b => .int .u8 b.toNat))
  | _ => none
 | _, _, _ => none
theorem flat_bytes (s : List UInt8) : flat (s.map fun b => AV.int .u8 b.toNat) = s.map fun b => AV.int .u8 b.toNat := by
 induction s with
 | nil => rfl
 | cons b s ih => simp only [List.map_cons, flat, AV.cells, ih]; rfl
theorem run_toBytes {P : Program} {e : TypeId} {s : List UInt8} (w : World) : ∃ cap f, s.length ≤ cap ∧
  (Conv.stringToBytes e ⟨s.toArray⟩).run P w = .ok (.slice (some ⟨w.heap.size, 0, none⟩) s.length cap) { w.drew with heap := w.heap.push (.cells ⟨(s.map fun b => Value.int .u8 b.toNat) ++ List.replicate (cap - s.length) (.int .u8 0)⟩ e f) } := by
 let cap := (Question.appendCap s.length 0 e).cut (w.tape w.drawn (Question.appendCap s.length 0 e))
 have hcap : s.length ≤ cap := by simp only [cap, Question.cut]; omega
 have hes : ((ByteArray.mk s.toArray).data.map fun b => Value.int .u8 b.toNat) ++ Array.replicate (cap - s.length) (Value.int .u8 0) = ⟨(s.map fun b => Value.int .u8 b.toNat) ++ List.replicate (cap - s.length) (.int .u8 0)⟩ := by
  apply Array.ext'; simp
 have hsz : (ByteArray.mk s.toArray).size = s.length := by simp [ByteArray.size]
 let n := (s.map fun b => Value.int .u8 b.toNat).length + (cap - s.length)
 refine ⟨cap, (n, n + 1), hcap, ?_⟩
 unfold Conv.stringToBytes
 rw [hsz]
 have hch : (choose (.appendCap s.length 0 e)).run P w = .ok cap w.drew := rfl
 simp only [Sem.run_bind, hch, Result.andThen_ok, hes]
 have hrow : ∀ (X : Array Value) (w : World), (newRow e X).run P w = .ok ⟨w.heap.size, 0, none⟩ { w with heap := w.heap.push (.cells X e (0, 0)) } := fun X w => by simp [newRow]
 have hmark : ∀ (X : Array Value) (w : World), (markStringish ⟨w.heap.size, 0, none⟩).run P { w with heap := w.heap.push (.cells X e (0, 0)) } = .ok () { w with heap := w.heap.push (.cells X e (X.size, X.size + 1)) } := by
  intro X w
  have h1 : ({ w with heap := w.heap.push (.cells X e (0, 0)) } : World).shape? w.heap.size = some (e, X.size) := by simp [World.shape?]
  have h2 : (markStringish ⟨w.heap.size, 0, none⟩).run P { w with heap := w.heap.push (.cells X e (0, 0)) } = .ok () (({ w with heap := w.heap.push (.cells X e (0, 0)) } : World).freeze ⟨w.heap.size, X.size, none⟩ 1) := by
   unfold markStringish
   simp only [Sem.run_bind, shape, Sem.run, h1, Result.andThen_ok, freeze]
  rw [h2]
  unfold World.freeze
  simp only [Nat.succ_ne_zero, if_false]
  congr 2
  apply Array.ext
  ·simp
  ·intro i h3 h4
   simp only [Array.getElem_modify, Array.getElem_push]
   by_cases hi : i < w.heap.size
   ·rw [if_neg (by omega)]
    simp [hi]
   ·have : i = w.heap.size := by simp at h3; omega
    subst this
    simp
 simp only [hrow, Result.andThen_ok, hmark, Sem.run_pure]
 simp [n]
 rfl
theorem aToBytes_ok {P : Program} {G : Gl} {S : Sh} {A : AH} {w : World} (h : Inv G S A w) {src dst : TypeId} {x y : AV} {u : Value} (hx : aToBytes P src dst x = some y) (hu : VRel S x u) :
  VOk P G S A w (convert src dst u) y A := by
 unfold aToBytes at hx
 split at hx
 ·rename_i d e s hs hd
  split at hx <;> cases hx
  rename_i he
  cases hu
  have hdrew := (h.drew (w.drawn + 1)).1
  have hdfr := (h.drew (w.drawn + 1)).2
  obtain ⟨cap, f, hcap, hrun⟩ := run_toBytes (P := P) (e := e) (s := s) w
  have hcells : ∀ y ∈ s.map fun b => AV.int .u8 b.toNat, y.cells.length = 1 := by
   intro y hy
   obtain ⟨b, _, rfl⟩ := List.mem_map.1 hy
   rfl
  obtain ⟨i1, i2⟩ := hdrew.fix (s.map fun b => Value.int .u8 b.toNat) (List.replicate (cap - s.length) (.int .u8 0)) e f
  refine ⟨.slice (some ⟨w.heap.size, 0, none⟩) s.length cap, _, _, ?_, i1, hdfr.trans i2, ?_⟩
  ·simp only [convert, Sem.run_bind, run_underlying hs, run_underlying hd, Result.andThen_ok]
   cases d <;> simp only [run_underlying he, Result.andThen_ok] <;> exact hrun
  ·have key := VRel.isl (S := S.fix w.heap.size (s.map fun b => Value.int .u8 b.toNat)) none 0 (s.map fun b => AV.int .u8 b.toNat) 1 w.heap.size 0 cap (by omega) hcells (by
    rw [flat_bytes]
    refine CRel.of_cells ((LRel.bytes S s).mono i2.le) fun j v hj => ?_
    simp [Sh.fix] at hj ⊢
    exact hj) (by simpa using hcap) (by intro φ hφ; cases hφ)
   simpa using key
 ·cases hx
section
variable (P : Program) (G : Gl)
def aParts (ev : Operand → AV) (ps : Array (Nat × Operand)) : List (Nat × AV) := ps.toList.map fun p => (p.1, ev p.2)
def aDefer (ev : Operand → AV) (c : Call) : Option ADef :=
 match c.callee with
 | .value f =>
  match ev f with
  | .fn fn first cap => some (.fn fn (first ++ c.args.toList.map ev) cap)
  | _ => none
 | _ => none
def aVal (A : AH) (x : Option AV) : Option (List AR) := x.map fun v => [.val v A]
def aValH (x : Option (AV × AH)) : Option (List AR) := x.map fun (v, A) => [.val v A]
def aEff (x : Option AH) : Option (List AR) := x.map fun A => [.val .top A]
def aOp (mu rd : Bool) (A : AH) (ev : Operand → AV) (o : Oper) : Option (List AR) :=
 match o.op with
 | .move x | .assign x => some [.val (ev x) A]
 | .pick c a b => match ev c with | .bool t => some [.val (if t then ev a else ev b) A] | _ => none
 | .alloc t => match tZero P t with | some x => if x.isTop then none else some [.val (.ptr A.blks.length 0) (A.push (.cells x.cells t))] | none => none
 | .box t x => if (ev x).isTop then none else some [.val (.ptr A.blks.length 0) (A.push (.cells (ev x).cells t))]
 | .build t ps => aVal A (aBuild P t (aParts ev ps))
 | .buildSlice t n ps =>
  match mu, n, ps.toList with
  | true, 0, [] => aValH (aBuild0 P A t)
  | _, _, _ => aValH (aBuildSlice P A t n (aParts ev ps))
 | .load t a => aVal A (aLoad P G A t (ev a))
 | .store t a x => aEff (aStore P A t (ev a) (ev x))
 | .nilCheck x =>
  match ev x with
  | .ptr b o => some [.val (.ptr b o) A]
  | .gptr b o => some [.val (.gptr b o) A]
  | .iptr v => some [.val (.iptr v) A]
  | .iface t v => some [.val (.iface t v) A]
  | .fn (.func f) a b => some [.val (.fn (.func f) a b) A]
  | .fn (.yield f) a b => some [.val (.fn (.yield f) a b) A]
  | _ => none
 | .binOp op t x y _ => aVal A (aBin P A op t x y (ev x).weak (ev y).weak)
 | .unOp op _ x => aVal A (aUn op (ev x))
 | .convert src dst x => match aToBytes P src dst (ev x) with | some v => some [.val v A] | none => aVal A (aConvert P A src dst (ev x).weak)
 | .makeInterface t x => aVal A (aIface P t (ev x))
 | .makeFunc fn first cap => match fn with | .yield _ => none | fn => some [.val (.fn fn (first.toList.map ev) (cap.toList.map ev)) A]
 | .makeMap _ none => some [.val (.map A.blks.length) (A.push (.map [] 0))]
 | .makeSlice t l c => aValH (aMake P A t (ev l) (ev c))
 | .slice t x lo hi mx => aVal A (aSliceW P t (ev x) (lo.map ev) (hi.map ev) (mx.map ev))
 | .fieldAddr s x f => aVal A (aFieldAddr P s (ev x) f)
 | .field t x f => aVal A (aField P t (ev x) f)
 | .indexAddr t x i => aVal A (aIndexAddr P t (ev x).weak (ev i))
 | .index t x i => aVal A (aIndex P t (ev x).weak (ev i))
 | .lookup t x i ok => aVal A (aLookup P A t (ev x) (ev i) ok)
 | .mapUpdate t m k x => aEff (aMapUpdate P A t (ev m) (ev k) (ev x))
 | .insert t m k x => aEff (aMapUpdate P A t (ev m) (ev k) (ev x))
 | .range t x => aValH (aRange P A t (ev x))
 | .next it false => (aNext A (ev it)).map fun l => l.map fun (v, A') => .val v A'
 | .entry it => aVal A (aEntry A (ev it))
 | .typeAssert x t as ok => aVal A (aAssert P (ev x) t as ok)
 | .extract t i => aVal A (aExtract (ev t) i)
 | .call c => (aCall P G mu A ev c).map fun r => [r]
 | .defer c => if rd then none else (aDefer ev c).map fun d => [.dfr d A]
 | .panic x => match ev x with | .iface t v => some [.panic (.iface t v) A] | _ => none
 | _ => none
variable {P G}
theorem aVal_rrel {S : Sh} {A : AH} {w : World} (h : Inv G S A w) {x : Option AV} {l : List AR} (hl : aVal A x = some l) {s : Sem Value}
  (hs : ∀ y, x = some y → ∃ v, s.run P w = .ok v w ∧ VRel S y v) : ∃ r ∈ l, RRel G S A w r ((do pure (.value (← s)) : Sem Next).run P w) := by
 unfold aVal at hl
 simp only [Option.map_eq_some_iff] at hl
 obtain ⟨y, hy, rfl⟩ := hl
 obtain ⟨v, h1, h2⟩ := hs y hy
 exact ⟨_, List.mem_singleton.2 rfl, (VOk.same (P := P) h h1 h2).rrel⟩
theorem aValH_rrel {S : Sh} {A : AH} {w : World} {x : Option (AV × AH)} {l : List AR} (hl : aValH x = some l) {s : Sem Value}
  (hs : ∀ y A', x = some (y, A') → VOk P G S A w s y A') : ∃ r ∈ l, RRel G S A w r ((do pure (.value (← s)) : Sem Next).run P w) := by
 unfold aValH at hl
 simp only [Option.map_eq_some_iff] at hl
 obtain ⟨⟨y, A'⟩, hy, rfl⟩ := hl
 exact ⟨_, List.mem_singleton.2 rfl, (hs y A' hy).rrel⟩
theorem aEff_rrel {S : Sh} {A : AH} {w : World} {x : Option AH} {l : List AR} (hl : aEff x = some l) {s : Sem Unit}
  (hs : ∀ A', x = some A' → ∃ w', s.run P w = .ok () w' ∧ Inv G S A' w' ∧ Fr S A w S A' w') : ∃ r ∈ l, RRel G S A w r ((do s; pure .skip : Sem Next).run P w) := by
 unfold aEff at hl
 simp only [Option.map_eq_some_iff] at hl
 obtain ⟨A', hy, rfl⟩ := hl
 obtain ⟨w', h1, h2, h3⟩ := hs A' hy
 refine ⟨_, List.mem_singleton.2 rfl, ?_⟩
 simp only [Sem.run_bind, h1, Result.andThen_ok, Sem.run_pure]
 exact ⟨S, h2, h3, .top _⟩
theorem ARel.parts {S : Sh} {a : AAct} {b : Act} (h : ARel S a b) : ∀ (l : List (Nat × Operand)), PRel S (l.map fun p => (p.1, a.eval p.2)) (l.map fun p => (p.1, b.eval p.2))
 | [] => .nil
 | _ :: l => .cons _ _ _ _ _ (h.eval _) (h.parts l)
theorem ARel.opt {S : Sh} {a : AAct} {b : Act} (h : ARel S a b) : ∀ (x : Option Operand), ORel S (x.map a.eval) (x.map b.eval)
 | none => .none
 | some _ => .some _ _ (h.eval _)
theorem isTop_false {x : AV} (h : ¬ x.isTop = true) : x.isTop = false := by simpa using h
theorem aOp_exec {mu : Bool} {S : Sh} {A : AH} {w : World} (h : Inv G S A w) {a : AAct} {b : Act} (hab : ARel S a b) {o : Oper} {l : List AR} (hx : aOp P G mu false A a.eval o = some l) :
  ∃ r ∈ l, RRel G S A w r ((execOp b.eval o).run P w) := by
 unfold aOp at hx
 unfold execOp
 split at hx <;> rename_i hop <;> simp only [hop]
 ·cases hx; exact ⟨_, List.mem_singleton.2 rfl, S, h, Fr.refl S A w, hab.eval _⟩
 ·cases hx; exact ⟨_, List.mem_singleton.2 rfl, S, h, Fr.refl S A w, hab.eval _⟩
 ·rename_i c x y
  split at hx
  ·rename_i t hc
   cases hx
   have := hab.eval c
   rw [hc] at this
   generalize hbc : b.eval c = bc at this
   cases this
   refine ⟨_, List.mem_singleton.2 rfl, S, h, Fr.refl S A w, ?_⟩
   cases t
   ·exact hab.eval _
   ·exact hab.eval _
  ·cases hx
 ·split at hx
  ·rename_i x hz
   split at hx <;> cases hx
   rename_i ht
   exact ⟨_, List.mem_singleton.2 rfl, (alloc_ok (P := P) h hz (isTop_false ht)).rrel⟩
  ·cases hx
 ·split at hx <;> cases hx
  rename_i ht
  exact ⟨_, List.mem_singleton.2 rfl, (box_ok (P := P) h (hab.eval _) (isTop_false ht)).rrel⟩
 ·exact aVal_rrel h hx fun y hy => aBuild_ok hy (by simpa [aParts] using hab.parts _) w
 ·rename_i ps
  split at hx
  ·rename_i hps
   obtain rfl : ps = #[] := by cases ps; simp_all
   exact aValH_rrel hx fun y A' hy => by simpa using aBuild0_ok h hy
  ·exact aValH_rrel hx fun y A' hy => aBuildSlice_ok h hy (by simpa [aParts] using hab.parts _)
 ·exact aVal_rrel h hx fun y hy => aLoad_ok h (hab.eval _) hy
 ·exact aEff_rrel hx fun A' hy => aStore_ok h (hab.eval _) (hab.eval _) hy
 ·rename_i x
  have hv := hab.eval x
  split at hx <;> first
   | (cases hx; done)
   | (rename_i he; cases hx; rw [he] at hv; generalize hbv : b.eval x = bv at hv
      refine ⟨_, List.mem_singleton.2 rfl, ?_⟩)
  ·cases hv with
   | ptr _ _ c hc => exact ⟨S, h, Fr.refl S A w, .ptr _ _ c hc⟩
  ·cases hv with
   | gptr => exact ⟨S, h, Fr.refl S A w, .gptr _ _⟩
  ·cases hv with
   | iptr _ a o hc => exact ⟨S, h, Fr.refl S A w, .iptr _ a o hc⟩
  ·cases hv with
   | iface _ _ v hv => exact ⟨S, h, Fr.refl S A w, .iface _ _ v hv⟩
  ·cases hv with
   | fn _ g _ _ us vs hf h1 h2 =>
    cases hf
    exact ⟨S, h, Fr.refl S A w, .fn _ _ _ _ us vs rfl h1 h2⟩
  ·cases hv with
   | fn _ g _ _ us vs hf h1 h2 =>
    obtain ⟨c, hc, rfl⟩ := hf
    exact ⟨S, h, Fr.refl S A w, .fn _ _ _ _ us vs ⟨c, hc, rfl⟩ h1 h2⟩
 ·exact aVal_rrel h hx fun y hy => aBin_ok h hy (hab.eval _).weak (hab.eval _).weak
 ·exact aVal_rrel h hx fun y hy => aUn_ok hy (hab.eval _) w
 ·split at hx
  ·rename_i v hv
   cases hx
   exact ⟨_, List.mem_singleton.2 rfl, (aToBytes_ok h hv (hab.eval _)).rrel⟩
  ·exact aVal_rrel h hx fun y hy => aConvert_ok h hy (hab.eval _).weak
 ·exact aVal_rrel h hx fun y hy => aIface_ok hy (hab.eval _) w
 ·rename_i fn first cap
  split at hx
  ·cases hx
  ·rename_i g hne
   cases hx
   refine ⟨_, List.mem_singleton.2 rfl, S, h, Fr.refl S A w, ?_⟩
   have e1 : (first.map b.eval) = ⟨first.toList.map b.eval⟩ := by apply Array.ext'; simp
   have e2 : (cap.map b.eval) = ⟨cap.toList.map b.eval⟩ := by apply Array.ext'; simp
   rw [e1, e2]
   refine .fn _ _ _ _ _ _ ?_ (hab.evals _) (hab.evals _)
   cases fn <;> first | rfl | exact absurd rfl (hne _)
 ·cases hx
  exact ⟨_, List.mem_singleton.2 rfl, (makeMap_ok (P := P) h).rrel⟩
 ·exact aValH_rrel hx fun y A' hy => aMake_ok h hy (hab.eval _) (hab.eval _)
 ·exact aVal_rrel h hx fun y hy => aSliceW_ok hy (hab.eval _) (hab.opt _) (hab.opt _) (hab.opt _) w
 ·exact aVal_rrel h hx fun y hy => aFieldAddr_ok hy (hab.eval _) w
 ·exact aVal_rrel h hx fun y hy => aField_ok hy (hab.eval _) w
 ·exact aVal_rrel h hx fun y hy => aIndexAddr_ok hy (hab.eval _).weak (hab.eval _) w
 ·exact aVal_rrel h hx fun y hy => aIndex_ok hy (hab.eval _).weak (hab.eval _) w
 ·exact aVal_rrel h hx fun y hy => aLookup_ok h hy (hab.eval _) (hab.eval _)
 ·exact aEff_rrel hx fun A' hy => aMapUpdate_ok h hy (hab.eval _) (hab.eval _) (hab.eval _)
 ·exact aEff_rrel hx fun A' hy => aMapUpdate_ok h hy (hab.eval _) (hab.eval _) (hab.eval _)
 ·exact aValH_rrel hx fun y A' hy => aRange_ok h hy (hab.eval _)
 ·simp only [Option.map_eq_some_iff] at hx
  obtain ⟨outs, ho, rfl⟩ := hx
  obtain ⟨y, A', hm, hv⟩ := aNext_ok (P := P) (ty := o.type) h ho (hab.eval _)
  exact ⟨_, List.mem_map.2 ⟨(y, A'), hm, rfl⟩, hv.rrel⟩
 ·exact aVal_rrel h hx fun y hy => aEntry_ok h hy (hab.eval _)
 ·exact aVal_rrel h hx fun y hy => aAssert_ok hy (hab.eval _) w
 ·exact aVal_rrel h hx fun y hy => aExtract_ok hy (hab.eval _) w
 ·simp only [Option.map_eq_some_iff] at hx
  obtain ⟨r, hr, rfl⟩ := hx
  exact ⟨_, List.mem_singleton.2 rfl, aCall_ok h hab hr⟩
 ·rename_i c
  simp only [Bool.false_eq_true, if_false, Option.map_eq_some_iff] at hx
  obtain ⟨d, hd, rfl⟩ := hx
  refine ⟨_, List.mem_singleton.2 rfl, ?_⟩
  unfold aDefer at hd
  split at hd
  ·rename_i f hcal
   split at hd
   ·rename_i fn first cap hev
    cases hd
    have hv := hab.eval f
    rw [hev] at hv
    generalize hbv : b.eval f = bv at hv
    cases hv with
    | fn _ g _ _ us vs hf hfst hcap =>
    have hmap : (c.args.map b.eval) = ⟨c.args.toList.map b.eval⟩ := by apply Array.ext'; simp
    have hargs := hab.evals c.args.toList
    have e : (do pure (.defer (← resolve b.eval c o.type)) : Sem Next).run P w = .ok (.defer ⟨.fn g ⟨vs⟩, ⟨us ++ c.args.toList.map b.eval⟩⟩) w := by
     simp only [resolve, hcal, Deferred.ofValue, hbv, hmap, pure_bind]
     simp
    rw [e]
    exact ⟨S, h, Fr.refl S A w, .fn _ _ _ _ _ _ hf (hfst.append hargs) hcap⟩
   ·cases hd
  ·cases hd
 ·rename_i x
  have hv := hab.eval x
  split at hx
  ·rename_i t v he
   cases hx
   rw [he] at hv
   generalize hbv : b.eval x = bv at hv
   cases hv with
   | iface _ _ u hu =>
   refine ⟨_, List.mem_singleton.2 rfl, ?_⟩
   have e : (do pure (.value (← Instr.panic (.iface t u))) : Sem Next).run P w = .halt (.panic (.iface t u)) w := by
    simp [Instr.panic, goPanic]
   rw [e]
   exact ⟨S, h, Fr.refl S A w, .iface _ _ u hu⟩
  ·cases hx
 ·cases hx
end
end Go.Am
end
section
noncomputable section
namespace Go.Am
open Go
abbrev AChain := List (AV × Bool)
inductive AE where
 | normal
 | exit (id : Nat)
 | goto (l : Nat)
 | ret
 | panic (c : AChain)
inductive AEnd where
 | returned (v : AV)
 | panicked (c : AChain)
inductive AMode where
 | returning
 | panicking (c : AChain)
structure AOut where
 e : AE
 a : AAct
 A : AH
structure AFin where
 e : AEnd
 A : AH
structure ADfin where
 e : AEnd
 u : AMode
 A : AH
structure ASout where
 e : AE
 a : AAct
 u : AMode
 A : AH
inductive ChRel (S : Sh) : AChain → List PanicEntry → Prop
 | nil : ChRel S [] []
 | cons (x : AV) (v : Value) (b : Bool) (xs : AChain) (es : List PanicEntry) : VRel S x v → ChRel S xs es → ChRel S ((x, b) :: xs) (⟨v, b, false⟩ :: es)
inductive ERel (S : Sh) : AE → Exit → Prop
 | normal : ERel S .normal .normal
 | exit (id : Nat) : ERel S (.exit id) (.exit id)
 | goto (l : Nat) : ERel S (.goto l) (.goto l)
 | ret : ERel S .ret .ret
 | panic (c : AChain) (d : List PanicEntry) : ChRel S c d → ERel S (.panic c) (.panic d)
inductive FinRel (S : Sh) : AEnd → Ending → Prop
 | returned (x : AV) (v : Value) : VRel S x v → FinRel S (.returned x) (.returned v)
 | panicked (c : AChain) (d : List PanicEntry) : ChRel S c d → FinRel S (.panicked c) (.panicked d)
inductive MdRel (S : Sh) : AMode → FrameMode → Prop
 | returning : MdRel S .returning .returning
 | panicking (c : AChain) (d : List PanicEntry) : ChRel S c d → MdRel S (.panicking c) (.panicking d)
theorem ChRel.mono {S S' : Sh} (h : S.le S') : ∀ {c : AChain} {d : List PanicEntry}, ChRel S c d → ChRel S' c d
 | _, _, .nil => .nil
 | _, _, .cons _ _ _ _ _ h1 h2 => .cons _ _ _ _ _ (h1.mono h) (h2.mono h)
theorem MdRel.mono {S S' : Sh} (h : S.le S') {c : AMode} {d : FrameMode} : MdRel S c d → MdRel S' c d
 | .returning => .returning
 | .panicking _ _ h1 => .panicking _ _ (h1.mono h)
theorem ChRel.append {S : Sh} : ∀ {c c' : AChain} {d d' : List PanicEntry}, ChRel S c d → ChRel S c' d' → ChRel S (c ++ c') (d ++ d')
 | _, _, _, _, .nil, h => h
 | _, _, _, _, .cons _ _ _ _ _ h1 h2, h => .cons _ _ _ _ _ h1 (h2.append h)
def AMode.settle : AMode → AMode
 | .panicking ((_, true) :: _) => .returning
 | u => u
def AMode.raised (u : AMode) (c : AChain) : AMode :=
 match u with
 | .panicking old => .panicking (c ++ old)
 | _ => .panicking c
theorem ChRel.noGoexit {S : Sh} : ∀ {c : AChain} {d : List PanicEntry}, ChRel S c d → d.dropWhile (!·.goexit) = []
 | _, _, .nil => rfl
 | _, _, .cons _ _ _ _ _ _ h => by simp [h.noGoexit]
theorem MdRel.settle {S : Sh} {c : AMode} {d : FrameMode} (h : MdRel S c d) : MdRel S c.settle (Go.settle d) := by
 cases h with
 | returning => exact .returning
 | panicking c d h =>
  cases h with
  | nil => exact .panicking _ _ .nil
  | cons x v b xs es h1 h2 =>
   cases b with
   | false => exact .panicking _ _ (.cons _ _ _ _ _ h1 h2)
   | true =>
    simp only [Go.settle, h2.noGoexit]
    exact .returning
theorem MdRel.raised {S : Sh} {c : AMode} {d : FrameMode} (h : MdRel S c d) {x : AChain} {y : List PanicEntry} (hx : ChRel S x y) : MdRel S (c.raised x) (Go.raised d y) := by
 cases h with
 | returning => exact .panicking _ _ hx
 | panicking c d h => exact .panicking _ _ (hx.append h)
end Go.Am
end
section
noncomputable section
namespace Go.Am
open Go
structure Mc where
 mu : Oper → Bool
 func : FuncId → List AV → AH → Option (List AFin)
 code : Option Nat → Code → AAct → AH → Option (List AOut)
 loop : Option Nat → Code → AAct → AH → Option (List AOut)
 ops : Option Nat → Array Oper → List Oper → AAct → AH → Option (List AOut)
 round : Nat → List AV → AH → Option (List AFin)
 leave : Func → List AV → List ADef → AMode → AH → Option (List AFin)
 dfunc : FuncId → List AV → AMode → AH → Option (List ADfin)
 codeS : Code → AAct → AMode → AH → Option (List ASout)
def Mc.none : Mc where
 mu _ := false
 func _ _ _ := .none
 code _ _ _ _ := .none
 loop _ _ _ _ := .none
 ops _ _ _ _ _ := .none
 round _ _ _ := .none
 leave _ _ _ _ _ := .none
 dfunc _ _ _ _ := .none
 codeS _ _ _ _ := .none
def allM {α β : Type} (f : α → Option (List β)) : List α → Option (List β)
 | [] => some []
 | x :: xs =>
  match f x with
  | .none => .none
  | some ys => match allM f xs with
   | .none => .none
   | some zs => some (ys ++ zs)
def bindM {α β : Type} (l : Option (List α)) (f : α → Option (List β)) : Option (List β) :=
 match l with
 | .none => .none
 | some xs => allM f xs
theorem allM_mem {α β : Type} {f : α → Option (List β)} : ∀ {l : List α} {out : List β}, allM f l = some out → ∀ x ∈ l, ∃ ys, f x = some ys ∧ ∀ y ∈ ys, y ∈ out
 | [], _, _, x, hx => by simp at hx
 | z :: l, out, h, x, hx => by
  simp only [allM] at h
  split at h
  ·cases h
  ·rename_i ys hy
   split at h
   ·cases h
   ·rename_i zs hz
    cases h
    rcases List.mem_cons.1 hx with rfl | hx
    ·exact ⟨ys, hy, fun y hy => List.mem_append_left _ hy⟩
    ·obtain ⟨us, h1, h2⟩ := allM_mem hz x hx
     exact ⟨us, h1, fun y hy => List.mem_append_right _ (h2 y hy)⟩
theorem bindM_mem {α β : Type} {l : Option (List α)} {f : α → Option (List β)} {out : List β} (h : bindM l f = some out) :
  ∃ xs, l = some xs ∧ ∀ x ∈ xs, ∃ ys, f x = some ys ∧ ∀ y ∈ ys, y ∈ out := by
 unfold bindM at h
 split at h
 ·cases h
 ·rename_i xs
  exact ⟨xs, rfl, allM_mem h⟩
def aYielded (ops : Array Oper) (a : AAct) (j : Nat) : Option (Option Bool) :=
 match (ops[j]?).bind (·.dst) with
 | .none => some .none
 | some t =>
  match a.tmps[t]? with
  | .none => some .none
  | some (.bool b) => some (some b)
  | some .top => .none
  | some (.sym _) => .none
  | some _ => some .none
def aWanted (ops : Array Oper) (a : AAct) (o : Oper) : Option Bool :=
 match o.guard with
 | .none => some true
 | some (j, want) => (aYielded ops a j).map fun y => y == some want
def aSetAll : List Tmp → List AV → List AV → List AV
 | t :: ts, x :: xs, tmps => aSetAll ts xs (tmps.set t x)
 | _, _, tmps => tmps
def aResult (P : Program) (G : Gl) (A : AH) (tmps : List AV) : ResultVar → Option AV
 | .tmp t => some ((tmps[t]?).getD .top)
 | .cell a t => aLoad P G A t ((tmps[a]?).getD .top)
def aResultL (P : Program) (G : Gl) (A : AH) (tmps : List AV) : List ResultVar → Option (List AV)
 | [] => some []
 | r :: rs =>
  match aResult P G A tmps r, aResultL P G A tmps rs with
  | some x, some xs => some (x :: xs)
  | _, _ => .none
def aResults (P : Program) (G : Gl) (A : AH) (fn : Func) (tmps : List AV) : Option AV :=
 match aResultL P G A tmps fn.results.toList with
 | some [x] => some x
 | some xs => some (.tup xs)
 | .none => .none
def AE.jump : AE → Option (Option Code)
 | .normal => some .none
 | .ret => some (some .ret)
 | .exit id => some (some (.exit id))
 | .goto l => some (some (.goto l))
 | .panic _ => .none
def AE.unblock (id : Nat) : AE → AE
 | .exit id' => if id' = id then .normal else .exit id'
 | e => e
section
variable (P : Program) (G : Gl) (m : Mc)
def sAfter (rd : Option Nat) (ops : Array Oper) (dst : Option Tmp) (rest : List Oper) (a : AAct) (x : AFin) : Option (List AOut) :=
 match x.e with
 | .returned v => m.ops rd ops rest (a.put dst v) x.A
 | .panicked c => some [⟨.panic c, a, x.A⟩]
def sOne (rd : Option Nat) (ops : Array Oper) (dst : Option Tmp) (rest : List Oper) (a : AAct) : AR → Option (List AOut)
 | .val v A => m.ops rd ops rest (a.put dst v) A
 | .enter f args A => bindM (m.func f args A) (sAfter m rd ops dst rest a)
 | .yield l args A => bindM (m.round l args A) (sAfter m rd ops dst rest a)
 | .dfr d A => m.ops rd ops rest ({ a with defers := d :: a.defers }.put dst (.tup [])) A
 | .panic v A => some [⟨.panic [(v, false)], a, A⟩]
 | .recover _ => .none
def sOps (rd : Option Nat) (ops : Array Oper) (l : List Oper) (a : AAct) (A : AH) : Option (List AOut) :=
 match l with
 | [] => some [⟨.normal, a, A⟩]
 | o :: rest =>
  match aWanted ops a o with
  | .none => .none
  | some false => m.ops rd ops rest (a.put o.dst (.tup [])) A
  | some true => bindM (aOp P G (m.mu o) rd.isSome A a.eval o) (sOne m rd ops o.dst rest a)
def sRange (rd : Option Nat) (g : Operand) (ps : Array Tmp) (assign body : Code) (a : AAct) (A : AH) : Option (List AOut) :=
 let go (d : Nat) (mark : List ADef) (A : AH) : Option (List AOut) :=
  let l := A.blks.length
  match a.eval g with
  | .fn (.func f) first cap =>
   match aEnter P f (first ++ [.fn (.yield l) [] []] ++ cap) (A.push (.loop .ready .none a.tmps ps assign body d)) with
   | some (.enter f args A') =>
    bindM (m.func f args A') fun x =>
     match x.e with
     | .panicked c => some [⟨.panic c, { a with defers := mark ++ a.defers }, x.A⟩]
     | .returned _ =>
      match x.A.blks[l]? with
      | some (.loop .busy _ _ _ _ _ _) => .none
      | some (.loop _ pd ats ps' as' bd' d') =>
       let A'' := x.A.put l (.loop .exhausted pd ats ps' as' bd' d')
       match pd with
       | .none => some [⟨.normal, { a with defers := mark ++ a.defers }, A''⟩]
       | some c => m.code rd c { a with defers := mark ++ a.defers } A''
      | _ => .none
   | _ => .none
  | _ => .none
 match rd with
 | .none => go A.blks.length [.mark A.blks.length] (A.push .defers)
 | some l0 =>
  match A.blks[l0]? with
  | some (.loop _ _ _ _ _ _ d) => go d [] A
  | _ => .none
def sCode (rd : Option Nat) (c : Code) (a : AAct) (A : AH) : Option (List AOut) :=
 match c with
 | .skip | .label _ => some [⟨.normal, a, A⟩]
 | .region _ ops false => m.ops rd ops ops.toList a A
 | .seq x y => bindM (m.code rd x a A) fun o => match o.e with | .normal => m.code rd y o.a o.A | _ => some [o]
 | .cond c x y => match a.eval c with | .bool t => m.code rd (if t then x else y) a A | _ => .none
 | .block id c => bindM (m.code rd c a A) fun o => some [{ o with e := o.e.unblock id }]
 | .loop c => m.loop rd c a A
 | .scope c => bindM (m.code rd c a A) fun o => match o.e with | .goto _ => .none | _ => some [o]
 | .rangeFunc g ps assign body => sRange P m rd g ps assign body a A
 | .exit id => some [⟨.exit id, a, A⟩]
 | .goto l => some [⟨.goto l, a, A⟩]
 | .ret => some [⟨.ret, a, A⟩]
 | _ => .none
def sLoop (rd : Option Nat) (c : Code) (a : AAct) (A : AH) : Option (List AOut) :=
 bindM (m.code rd c a A) fun o => match o.e with | .normal => m.loop rd c o.a o.A | _ => some [o]
def sRound (l : Nat) (args : List AV) (A : AH) : Option (List AFin) :=
 match A.blks[l]? with
 | some (.loop _ _ ats ps assign body _) =>
  bindM (m.code (some l) assign ⟨aSetAll ps.toList args ats, []⟩ A) fun x =>
   match x.e with
   | .normal =>
    match x.A.blks[l]? with
    | some (.loop .ready pd ats' ps' as' bd' d') =>
     bindM (m.code (some l) body x.a (x.A.put l (.loop .busy pd ats' ps' as' bd' d'))) fun y =>
      match y.e.jump with
      | .none => .none
      | some j =>
       match y.A.blks[l]? with
       | some (.loop _ _ ats'' ps'' as'' bd'' d'') => some [⟨.returned (.bool j.isNone), y.A.put l (.loop (if j.isNone then .ready else .done) j ats'' ps'' as'' bd'' d'')⟩]
       | _ => .none
    | _ => .none
   | _ => .none
 | _ => .none
def aTmps (fn : Func) (args : List AV) : List AV := args ++ List.replicate (fn.ntmps - args.length) (.tup [])
def sFunc (f : FuncId) (args : List AV) (A : AH) : Option (List AFin) :=
 match P.funcs[f]? with
 | some fn =>
  match fn.body with
  | some c => bindM (m.code .none c ⟨aTmps fn args, []⟩ A) fun o =>
   match o.e with
   | .normal | .ret => m.leave fn o.a.tmps o.a.defers .returning o.A
   | .panic ch => m.leave fn o.a.tmps o.a.defers (.panicking ch) o.A
   | _ => .none
  | .none => .none
 | .none => .none
def sLeave (fn : Func) (tmps : List AV) (ds : List ADef) (u : AMode) (A : AH) : Option (List AFin) :=
 match ds with
 | [] =>
  match u with
  | .returning => (aResults P G A fn tmps).map fun v => [⟨.returned v, A⟩]
  | .panicking ch => some [⟨.panicked ch, A⟩]
 | .mark b :: ds =>
  match A.blks[b]? with
  | some .defers => m.leave fn tmps ds u (A.put b .dead)
  | _ => .none
 | .fn (.func f) args cap :: ds =>
  match aEnter P f (args ++ cap) A with
  | some (.enter f' args' A') => bindM (m.dfunc f' args' u A') fun x =>
   match x.e with
   | .returned _ => m.leave fn tmps ds x.u.settle x.A
   | .panicked ch => m.leave fn tmps ds (x.u.raised ch) x.A
  | _ => .none
 | _ => .none
def sDfunc (f : FuncId) (args : List AV) (u : AMode) (A : AH) : Option (List ADfin) :=
 match P.funcs[f]? with
 | some fn =>
  match fn.body with
  | some c => bindM (m.codeS c ⟨aTmps fn args, []⟩ u A) fun o =>
   match o.a.defers with
   | [] =>
    match o.e with
    | .normal | .ret => (aResults P G o.A fn o.a.tmps).map fun v => [⟨.returned v, o.u, o.A⟩]
    | .panic ch => some [⟨.panicked ch, o.u, o.A⟩]
    | _ => .none
   | _ => .none
  | .none => .none
 | .none => .none
def isRecover (o : Oper) : Bool :=
 match o.guard, o.op with
 | .none, .call c => match c.callee with | .builtin .recover => true | _ => false
 | _, _ => false
def AMode.recover : AMode → AV × AMode
 | .panicking ((v, false) :: older) => (v, .panicking ((v, true) :: older))
 | u => (.nili, u)
def sCodeS (c : Code) (a : AAct) (u : AMode) (A : AH) : Option (List ASout) :=
 let plain := bindM (m.code .none c a A) fun o => some [⟨o.e, o.a, u, o.A⟩]
 match c with
 | .seq x y => bindM (m.codeS x a u A) fun o => match o.e with | .normal => m.codeS y o.a o.u o.A | _ => some [o]
 | .region _ ops false =>
  match ops.toList with
  | o :: rest =>
   if isRecover o then
    let r := u.recover
    bindM (m.ops .none ops rest (a.put o.dst r.1) A) fun x => some [⟨x.e, x.a, r.2, x.A⟩]
   else plain
  | [] => plain
 | _ => plain
def Mc.step : Mc where
 mu := m.mu
 func := sFunc P m
 code := sCode P m
 loop := sLoop m
 ops := sOps P G m
 round := sRound m
 leave := sLeave P G m
 dfunc := sDfunc P G m
 codeS := sCodeS m
end
end Go.Am
end
section
namespace Go.Am
open Go
def fen (ro : Option Nat) : Fence := { Fence.wide with round := ro }
def RdRel (S : Sh) : Option Nat → Option Nat → Prop
 | .none, ro => ro = .none
 | some l, ro => ∃ c, ro = some c ∧ S.ρ l = some c
theorem RdRel.mono {S S' : Sh} (h : S.le S') {rd ro : Option Nat} (hr : RdRel S rd ro) : RdRel S' rd ro := by
 cases rd with
 | none => exact hr
 | some l => obtain ⟨c, h1, h2⟩ := hr; exact ⟨c, h1, h.ρ _ _ h2⟩
section
variable (P : Program) (G : Gl)
def FinPost (S : Sh) (A : AH) (w : World) (os : List AFin) : Ending → World → Prop := fun e w' =>
 ∃ o ∈ os, ∃ S', Inv G S' o.A w' ∧ Fr S A w S' o.A w' ∧ FinRel S' o.e e
def OutPost (S : Sh) (A : AH) (w : World) (os : List AOut) : Exit → Act → World → Prop := fun e b w' =>
 ∃ o ∈ os, ∃ S', Inv G S' o.A w' ∧ Fr S A w S' o.A w' ∧ ARel S' o.a b ∧ ERel S' o.e e
def DfinPost (S : Sh) (A : AH) (w : World) (os : List ADfin) : Ending → FrameMode → World → Prop := fun e u w' =>
 ∃ o ∈ os, ∃ S', Inv G S' o.A w' ∧ Fr S A w S' o.A w' ∧ FinRel S' o.e e ∧ MdRel S' o.u u
def SoutPost (c0 : Frame) (cs : List Frame) (S : Sh) (A : AH) (w : World) (os : List ASout) : Exit → Act → List Frame → World → Prop := fun e b cs' w' =>
 ∃ o ∈ os, ∃ S' md, Inv G S' o.A w' ∧ Fr S A w S' o.A w' ∧ ARel S' o.a b ∧ ERel S' o.e e ∧ MdRel S' o.u md ∧ cs' = { c0 with mode := md } :: cs
def LoopIn (F : Fence) (n : Nat) (P : Program) (c : Code) (Q : Exit → Act → World → Prop) (a : Act) (w : World) : Prop :=
 ∀ (b : Frame) (k : List Item) (cs : List Frame), b.roundOf = F.round → F.fn b.fn → F.room (cs.length + 1 + n) →
  ∃ e a' w', Q e a' w' ∧ ArrivesIn (Machine.fenced P F) P (lone (b.atR a (.code c :: .inLoop c :: k)) cs w) b k cs e a' w'
structure Mc.Ok (m : Mc) : Prop where
 func : ∀ f args A os, m.func f args A = some os → ∀ S w vs, Inv G S A w → LRel S args vs → CallsIn Fence.wide 0 P f ⟨vs⟩ w (FinPost G S A w os)
 code : ∀ rd c a A os, m.code rd c a A = some os → ∀ S w b ro, Inv G S A w → ARel S a b → RdRel S rd ro → c.wpIn (fen ro) 0 P (OutPost G S A w os) b w
 loop : ∀ rd c a A os, m.loop rd c a A = some os → ∀ S w b ro, Inv G S A w → ARel S a b → RdRel S rd ro → LoopIn (fen ro) 0 P c (OutPost G S A w os) b w
 ops : ∀ rd ops l a A os, m.ops rd ops l a A = some os → ∀ S w b ro, Inv G S A w → ARel S a b → RdRel S rd ro → wpListIn (fen ro) 0 P ops (OutPost G S A w os) l b w
 round : ∀ l args A os, m.round l args A = some os → ∀ S w c vs st pd ats ps as bd d us fn s p dd, Inv G S A w → S.ρ l = some c → A.blks[l]? = some (.loop st pd ats ps as bd d) → args.length = ps.size → LRel S args vs → LRel S ats us →
  w.heap[c]? = some (.loop { state := s, pending := p, fn := fn, tmps := ⟨us⟩, params := ps, assign := as, body := bd, defers := dd }) →
  RoundIn Fence.wide 0 P c fn ((ps.zip ⟨vs⟩).foldl (fun tmps (t, a) => tmps.setIfInBounds t a) ⟨us⟩) as bd w (FinPost G S A w os)
 leave : ∀ fn tmps ds u A os, m.leave fn tmps ds u A = some os → ∀ S w ts es md, Inv G S A w → LRel S tmps ts → DsRel S ds es → MdRel S u md → LeavesInM Fence.wide 0 P fn ⟨ts⟩ (FinPost G S A w os) es md w
 dfunc : ∀ f args u A os, m.dfunc f args u A = some os → ∀ S w vs md, Inv G S A w → LRel S args vs → MdRel S u md → CallsDIn Fence.wide 0 P f ⟨vs⟩ md w (DfinPost G S A w os)
 codeS : ∀ c a u A os, m.codeS c a u A = some os → ∀ S w b md c0 cs, Inv G S A w → ARel S a b → MdRel S u md → c0.mode = md → c.wpSIn Fence.wide 0 P (SoutPost G c0 cs S A w os) b (c0 :: cs) w
variable {P G}
theorem FinPost.from {S S1 : Sh} {A A1 : AH} {w w1 : World} (hf : Fr S A w S1 A1 w1) {os os' : List AFin} (hsub : ∀ x ∈ os', x ∈ os) {e : Ending} {w' : World} (h : FinPost G S1 A1 w1 os' e w') : FinPost G S A w os e w' := by
 obtain ⟨o, ho, S', h1, h2, h3⟩ := h
 exact ⟨o, hsub o ho, S', h1, hf.trans h2, h3⟩
theorem OutPost.from {S S1 : Sh} {A A1 : AH} {w w1 : World} (hf : Fr S A w S1 A1 w1) {os os' : List AOut} (hsub : ∀ x ∈ os', x ∈ os) {e : Exit} {b : Act} {w' : World} (h : OutPost G S1 A1 w1 os' e b w') : OutPost G S A w os e b w' := by
 obtain ⟨o, ho, S', h1, h2, h3⟩ := h
 exact ⟨o, hsub o ho, S', h1, hf.trans h2, h3⟩
theorem wpListIn_mono {F : Fence} {n : Nat} {ops : Array Oper} {Q Q' : Exit → Act → World → Prop} (hq : ∀ e a w, Q e a w → Q' e a w) : ∀ (l : List Oper) (a : Act) (w : World), wpListIn F n P ops Q l a w → wpListIn F n P ops Q' l a w
 | [], a, w, h => hq _ _ _ h
 | o :: rest, a, w, h => by
  have hlo : LetsOut Q → LetsOut Q' := fun ⟨a, w, h⟩ => ⟨a, w, hq _ _ _ h⟩
  simp only [wpListIn] at h ⊢
  split
  ·rename_i hw
   simp only [hw, if_true] at h
   unfold Oper.wpIn at *
   refine ⟨h.1, ?_⟩
   have h := h.2
   generalize (o.semAt F.round a.eval).run P w = r at *
   cases r with
   | ok x w' =>
    cases x <;> simp only [Oper.uponIn] at h ⊢ <;>
     first
      | exact wpListIn_mono hq rest _ _ h
      | exact ⟨h.1, CallsIn.mono h.2 (fun e w'' he => by cases e <;> first | exact wpListIn_mono hq rest _ _ he | exact hq _ _ _ he | exact hlo he)⟩
      | exact ⟨h.1, RowsIn.mono h.2 (fun _ _ he => wpListIn_mono hq rest _ _ he)⟩
      | exact ⟨h.1, RoundIn.mono h.2 (fun e w'' he => by cases e <;> first | exact wpListIn_mono hq rest _ _ he | exact hq _ _ _ he | exact hlo he)⟩
   | halt x w' => cases x <;> simp only [Oper.uponIn] at h ⊢ <;> first | exact hq _ _ _ h | exact h
  ·rename_i hw
   simp only [hw] at h
   exact ⟨h.1, wpListIn_mono hq rest _ _ h.2⟩
theorem aYielded_ok {S : Sh} {ops : Array Oper} {a : AAct} {b : Act} (h : ARel S a b) {j : Nat} {y : Option Bool} (hy : aYielded ops a j = some y) : yielded ops b.tmps j = y := by
 unfold aYielded at hy
 unfold yielded
 cases hd : (ops[j]?).bind (·.dst) with
 | none => rw [hd] at hy; cases hy; simp
 | some t =>
  rw [hd] at hy
  simp only at hy
  simp only [Option.bind_some]
  have hl := h.tmps.length
  cases ht : a.tmps[t]? with
  | none =>
   rw [ht] at hy; cases hy
   have : b.tmps[t]? = none := by
    rw [Array.getElem?_eq_none]
    have := List.getElem?_eq_none_iff.1 ht
    simp only [Array.length_toList] at hl
    omega
   rw [this]
  | some x =>
   rw [ht] at hy
   obtain ⟨v, h1, h2⟩ := h.tmps.get t x ht
   simp only [Array.getElem?_toList] at h1
   rw [h1]
   cases h2 <;> first
    | (cases hy; done)
    | (cases hy; rfl)
theorem aWanted_ok {S : Sh} {ops : Array Oper} {a : AAct} {b : Act} (h : ARel S a b) {o : Oper} {y : Bool} (hy : aWanted ops a o = some y) : Region.wanted o (yielded ops b.tmps) = y := by
 unfold aWanted at hy
 unfold Region.wanted
 cases hg : o.guard with
 | none => rw [hg] at hy; cases hy; rfl
 | some p =>
  obtain ⟨j, want⟩ := p
  rw [hg] at hy
  simp only [Option.map_eq_some_iff] at hy
  obtain ⟨z, hz, rfl⟩ := hy
  simp only [aYielded_ok h hz]
theorem undef_rel (S : Sh) : VRel S (.tup []) undef := .tup [] [] .nil
theorem aOp_sem {mu : Bool} {S : Sh} {A : AH} {w : World} (h : Inv G S A w) {a : AAct} {b : Act} (hab : ARel S a b) {o : Oper} {l : List AR} {rd ro : Option Nat} (hr : RdRel S rd ro) (hx : aOp P G mu rd.isSome A a.eval o = some l) :
  ∃ r ∈ l, RRel G S A w r ((o.semAt ro b.eval).run P w) := by
 cases rd with
 | none =>
  obtain rfl : ro = none := hr
  exact aOp_exec h hab hx
 | some r =>
  obtain ⟨c, rfl, _⟩ := hr
  have hnd : ∀ c, o.op ≠ .defer c := by
   intro c hc
   simp [aOp, hc] at hx
  have e : aOp P G mu false A a.eval o = some l := by
   rw [← hx]
   unfold aOp
   cases ho : o.op <;> first | rfl | exact absurd ho (hnd _) | (rename_i x y; cases y <;> rfl)
  rw [Oper.semAt_some _ _ _ hnd]
  exact aOp_exec h hab e
theorem set_ok {S : Sh} : ∀ (ps : List Tmp) (xs : List AV) (vs : List Value) (ts : List AV) (us : Array Value), LRel S xs vs → LRel S ts us.toList →
  LRel S (aSetAll ps xs ts) ((ps.zip vs).foldl (fun tmps (t, a) => tmps.setIfInBounds t a) us).toList
 | [], xs, vs, ts, us, _, h => by simp [aSetAll]; exact h
 | p :: ps, _, _, ts, us, .nil, h => by simp [aSetAll]; exact h
 | p :: ps, _, _, ts, us, .cons x xs v vs hx hl, h => by
  simp only [aSetAll, List.zip_cons_cons, List.foldl_cons]
  exact set_ok ps xs vs _ _ hl (by simpa using h.set p hx)
theorem ARel.defer {S : Sh} {a : AAct} {b : Act} (h : ARel S a b) {d : ADef} {e : Deferred} (hd : DRel S d e) : ARel S { a with defers := d :: a.defers } { b with defers := e :: b.defers } :=
 ⟨h.tmps, .cons _ _ _ _ hd h.defers⟩
section step
variable {m : Mc}
theorem sOps_ok (hm : Mc.Ok P G m) {rd : Option Nat} {ops : Array Oper} {l : List Oper} {a : AAct} {A : AH} {os : List AOut} (hx : sOps P G m rd ops l a A = some os) {S : Sh} {w : World} {b : Act} {ro : Option Nat} (hi : Inv G S A w) (hab : ARel S a b) (hr : RdRel S rd ro) :
  wpListIn (fen ro) 0 P ops (OutPost G S A w os) l b w := by
 unfold sOps at hx
 split at hx
 ·cases hx
  exact ⟨_, List.mem_singleton.2 rfl, S, hi, Fr.refl S A w, hab, .normal⟩
 ·rename_i o rest
  split at hx
  ·cases hx
  ·rename_i hw
   simp only [wpListIn, aWanted_ok hab hw, Bool.false_eq_true, if_false]
   exact ⟨fun _ _ => trivial, hm.ops _ _ _ _ _ _ hx S w _ ro hi (hab.put _ (undef_rel S)) hr⟩
  ·rename_i hw
   simp only [wpListIn, aWanted_ok hab hw, if_true]
   obtain ⟨rs, h1, h2⟩ := bindM_mem hx
   obtain ⟨r, hr1, hr2⟩ := aOp_sem hi hab hr h1
   obtain ⟨ys, h3, h4⟩ := h2 r hr1
   refine ⟨fun _ _ => trivial, ?_⟩
   have hround : (fen ro).round = ro := rfl
   rw [hround]
   generalize (o.semAt ro b.eval).run P w = res at hr2
   have after : ∀ {S1 : Sh} {A1 : AH} {w1 : World} {fs : List AFin}, Fr S A w S1 A1 w1 → (∀ x ∈ fs, ∃ ys, sAfter m rd ops o.dst rest a x = some ys ∧ ∀ y ∈ ys, y ∈ os) → ∀ e w', FinPost G S1 A1 w1 fs e w' →
     (match e with
      | .returned v => wpListIn (fen ro) 0 P ops (OutPost G S A w os) rest (b.put o.dst v) w'
      | .panicked chain => OutPost G S A w os (.panic chain) b w'
      | .outgrown => LetsOut (OutPost G S A w os)) := by
    intro S1 A1 w1 fs hf hfs e w' hp
    obtain ⟨x, hx1, S2, i2, f2, e2⟩ := hp
    obtain ⟨ys, hy1, hy2⟩ := hfs x hx1
    unfold sAfter at hy1
    generalize hxe : x.e = xe at hy1 e2
    cases e2 with
    | returned v u hv =>
     simp only at hy1
     have hle := (hf.trans f2).le
     exact wpListIn_mono (fun _ _ _ h => h.from (hf.trans f2) hy2) _ _ _ (hm.ops _ _ _ _ _ _ hy1 S2 w' _ ro i2 ((hab.mono hle).put _ hv) (hr.mono hle))
    | panicked c d hc =>
     simp only [Option.some.injEq] at hy1
     subst hy1
     exact ⟨_, hy2 _ (List.mem_singleton.2 rfl), S2, i2, hf.trans f2, hab.mono (hf.trans f2).le, .panic _ _ hc⟩
   cases r with
   | val v A' =>
    simp only [sOne] at h3
    cases res with
    | halt x w' => exact hr2.elim
    | ok x w' =>
     cases x <;> first
      | exact hr2.elim
      | (obtain ⟨S', i', f', v'⟩ := hr2
         exact wpListIn_mono (fun _ _ _ h => h.from f' h4) _ _ _ (hm.ops _ _ _ _ _ _ h3 S' w' _ ro i' ((hab.mono f'.le).put _ v') (hr.mono f'.le)))
   | enter f args A' =>
    simp only [sOne] at h3
    obtain ⟨fs, g1, g2⟩ := bindM_mem h3
    cases res with
    | halt x w' => exact hr2.elim
    | ok x w' =>
     cases x <;> first
      | exact hr2.elim
      | skip
     rename_i g vs
     obtain ⟨rfl, S', i', f', v'⟩ := hr2
     refine ⟨(fun h => by simp [fen, Fence.wide] at h), ?_⟩
     exact CallsIn.mono (hm.func _ _ _ _ g1 S' w' _ i' v') (fun e w'' hp => by have := after f' (fun x hx => let ⟨ys, a1, a2⟩ := g2 x hx; ⟨ys, a1, fun y hy => h4 y (a2 y hy)⟩) e w'' hp; cases e <;> exact this)
   | yield l args A' =>
    simp only [sOne] at h3
    obtain ⟨fs, g1, g2⟩ := bindM_mem h3
    cases res with
    | halt x w' => exact hr2.elim
    | ok x w' =>
     cases x <;> first
      | exact hr2.elim
      | skip
     rename_i c fn tmps assign body
     obtain ⟨S', st, pd, ats, ps, d, i', f', hc, hb, hlen, us, vs, rfl, hats, hargs, s, p, fn', hheap, rfl⟩ := hr2
     refine ⟨(fun h => by simp [fen, Fence.wide] at h), ?_⟩
     exact RoundIn.mono (hm.round _ _ _ _ g1 S' w' c vs st pd ats ps assign body d us fn s p _ i' hc hb hlen hargs hats hheap) (fun e w'' hp => by have := after f' (fun x hx => let ⟨ys, a1, a2⟩ := g2 x hx; ⟨ys, a1, fun y hy => h4 y (a2 y hy)⟩) e w'' hp; cases e <;> exact this)
   | dfr d A' =>
    simp only [sOne] at h3
    cases res with
    | halt x w' => exact hr2.elim
    | ok x w' =>
     cases x <;> first
      | exact hr2.elim
      | skip
     obtain ⟨S', i', f', v'⟩ := hr2
     exact wpListIn_mono (fun _ _ _ h => h.from f' h4) _ _ _ (hm.ops _ _ _ _ _ _ h3 S' w' _ ro i' (((hab.mono f'.le).defer v').put _ (undef_rel S')) (hr.mono f'.le))
   | panic v A' =>
    simp only [sOne, Option.some.injEq] at h3
    subst h3
    cases res with
    | ok x w' => exact hr2.elim
    | halt x w' =>
     cases x <;> first
      | exact hr2.elim
      | skip
     obtain ⟨S', i', f', v'⟩ := hr2
     exact ⟨_, h4 _ (List.mem_singleton.2 rfl), S', i', f', hab.mono f'.le, .panic _ _ (.cons _ _ _ _ _ v' .nil)⟩
   | recover A' => cases h3
end step
end
end Go.Am
end
section
namespace Go.Am
open Go
section
variable {P : Program} {G : Gl} {m : Mc}
theorem LoopIn.loop {F : Fence} {n : Nat} {P : Program} {c : Code} {Q : Exit → Act → World → Prop} {a : Act} {w : World} (h : LoopIn F n P c Q a w) : (Code.loop c).wpIn F n P Q a w :=
 fun b k cs hro hb hr => let ⟨e, a', w', q, r⟩ := h b k cs hro hb hr; ⟨e, a', w', q, .of_steps (.one (fenced_calm hb hr rfl) stepR_loop) r⟩
theorem LoopIn.round {F : Fence} {n : Nat} {P : Program} {c : Code} {Q : Exit → Act → World → Prop} {a : Act} {w : World}
  (h : c.wpIn F n P (Exit.then (LoopIn F n P c Q) Q) a w) : LoopIn F n P c Q a w := by
 intro b k cs hro hb hr
 obtain ⟨e, a₁, w₁, hq, harr⟩ := h b (.inLoop c :: k) cs hro hb hr
 cases e with
 | normal =>
  obtain ⟨e₂, a₂, w₂, hq₂, harr₂⟩ := hq b k cs hro hb hr
  exact ⟨e₂, a₂, w₂, hq₂, .of_steps (StepsIn.trans harr (.one (fenced_calm hb hr rfl) stepR_inLoop)) harr₂⟩
 | exit id => exact ⟨_, a₁, w₁, hq, .pass (x := .inLoop c) rfl (fun _ _ => .inl (by simp)) harr⟩
 | goto l => exact ⟨_, a₁, w₁, hq, .pass (x := .inLoop c) rfl (fun _ _ => .inl (by simp)) harr⟩
 | ret => exact ⟨_, a₁, w₁, hq, .pass (x := .inLoop c) rfl (fun _ _ => .inl (by simp)) harr⟩
 | panic ch => exact ⟨_, a₁, w₁, hq, .pass (x := .inLoop c) rfl (fun _ _ => .inl (by simp)) harr⟩
 | outgrown => exact ⟨_, a₁, w₁, hq, .pass (x := .inLoop c) rfl (fun _ _ => .inl (by simp)) harr⟩
theorem LoopIn.mono {F : Fence} {n : Nat} {P : Program} {c : Code} {Q Q' : Exit → Act → World → Prop} {a : Act} {w : World} (h : LoopIn F n P c Q a w) (hq : ∀ e a w, Q e a w → Q' e a w) : LoopIn F n P c Q' a w :=
 fun b k cs hro hb hr => let ⟨e, a', w', q, r⟩ := h b k cs hro hb hr; ⟨e, a', w', hq _ _ _ q, r⟩
theorem stepR_scope {P : Program} {b : Frame} {a : Act} {k : List Item} {cs : List Frame} {w : World} {c : Code} : step P (lone (b.atR a (.code (.scope c) :: k)) cs w) = .next (lone (b.atR a (.code c :: .inScope c :: k)) cs w) :=
 step_lone_go (by simp [stepG, stepG.exec, Frame.atR])
theorem stepR_inScope {P : Program} {b : Frame} {a : Act} {k : List Item} {cs : List Frame} {w : World} {c : Code} : step P (lone (b.atR a (.inScope c :: k)) cs w) = .next (lone (b.atR a k) cs w) :=
 step_lone_go (by simp [stepG, stepG.exec, Frame.atR])
theorem wpIn_scope {F : Fence} {n : Nat} {P : Program} {c : Code} {Q : Exit → Act → World → Prop} {a : Act} {w : World} (h : c.wpIn F n P (fun e a w => (∀ l, e ≠ .goto l) ∧ Q e a w) a w) : (Code.scope c).wpIn F n P Q a w := by
 intro b k cs hro hb hr
 have h0 : (lone (b.atR a (.code (.scope c) :: k)) cs w).fenced P F := fenced_calm hb hr rfl
 obtain ⟨e, a₁, w₁, ⟨hg, hq⟩, harr⟩ := h b (.inScope c :: k) cs hro hb hr
 cases e with
 | normal => exact ⟨.normal, a₁, w₁, hq, .head h0 stepR_scope (StepsIn.trans harr (.one (fenced_calm hb hr rfl) stepR_inScope))⟩
 | exit id =>
  have hx : exitTo id (.inScope c :: k) = exitTo id k := by simp [exitTo]
  exact ⟨.exit id, a₁, w₁, hq, fun k' hk => .head h0 stepR_scope (harr.1 k' (by rw [hx]; exact hk)),
   fun hr' hk => let ⟨k₁, h1, h2⟩ := harr.2 hr' (by rw [hx]; exact hk); ⟨k₁, h1, .head h0 stepR_scope h2⟩⟩
 | goto l => exact absurd rfl (hg l)
 | ret => exact ⟨_, a₁, w₁, hq, .of_steps (.one h0 stepR_scope) harr⟩
 | panic ch => exact ⟨_, a₁, w₁, hq, .of_steps (.one h0 stepR_scope) harr⟩
 | outgrown => exact ⟨_, a₁, w₁, hq, .of_steps (.one h0 stepR_scope) harr⟩
theorem then_ok {S : Sh} {A : AH} {w : World} {xs os : List AOut} {f : AOut → Option (List AOut)} (hx : ∀ o ∈ xs, ∃ ys, f o = some ys ∧ ∀ y ∈ ys, y ∈ os)
  {K : Act → World → Prop}
  (hn : ∀ o ∈ xs, o.e = .normal → ∀ S1 a1 w1 ys, f o = some ys → (∀ y ∈ ys, y ∈ os) → Inv G S1 o.A w1 → Fr S A w S1 o.A w1 → ARel S1 o.a a1 → K a1 w1)
  (he : ∀ o ∈ xs, o.e ≠ .normal → f o = some [o]) :
  ∀ e a' w', OutPost G S A w xs e a' w' → Exit.then K (OutPost G S A w os) e a' w' := by
 intro e a' w' h
 obtain ⟨o, ho, S1, i1, f1, r1, e1⟩ := h
 obtain ⟨ys, h1, h2⟩ := hx o ho
 by_cases hoe : o.e = .normal
 ·rw [hoe] at e1
  cases e1
  exact hn o ho hoe S1 a' w' ys h1 h2 i1 f1 r1
 ·have := he o ho hoe
  rw [this] at h1
  cases h1
  have hin : OutPost G S A w os e a' w' := ⟨o, h2 o (List.mem_singleton.2 rfl), S1, i1, f1, r1, e1⟩
  cases e1b : e with
  | normal =>
   subst e1b
   generalize hoo : o.e = oe at e1 hoe
   cases e1
   exact absurd rfl hoe
  | exit id => subst e1b; exact hin
  | goto l => subst e1b; exact hin
  | ret => subst e1b; exact hin
  | panic ch => subst e1b; exact hin
  | outgrown => subst e1b; exact hin
theorem sLoop_ok (hm : Mc.Ok P G m) {rd : Option Nat} {c : Code} {a : AAct} {A : AH} {os : List AOut} (hx : sLoop m rd c a A = some os) {S : Sh} {w : World} {b : Act} {ro : Option Nat} (hi : Inv G S A w) (hab : ARel S a b) (hr : RdRel S rd ro) :
  LoopIn (fen ro) 0 P c (OutPost G S A w os) b w := by
 unfold sLoop at hx
 obtain ⟨xs, h1, h2⟩ := bindM_mem hx
 refine LoopIn.round (wpIn_mono (hm.code _ _ _ _ _ h1 S w b ro hi hab hr) (then_ok (K := LoopIn (fen ro) 0 P c (OutPost G S A w os)) h2 ?_ ?_))
 ·intro o ho hoe S1 a1 w1 ys hy1 hy2 i1 f1 r1
  simp only [hoe] at hy1
  exact (hm.loop _ _ _ _ _ hy1 S1 w1 a1 ro i1 r1 (hr.mono f1.le)).mono fun _ _ _ h => h.from f1 hy2
 ·intro o ho hoe
  cases hoo : o.e <;> simp_all
theorem sCode_ok (hm : Mc.Ok P G m) {rd : Option Nat} {c : Code} {a : AAct} {A : AH} {os : List AOut} (hx : sCode P m rd c a A = some os) {S : Sh} {w : World} {b : Act} {ro : Option Nat} (hi : Inv G S A w) (hab : ARel S a b) (hr : RdRel S rd ro)
  (hrange : ∀ g ps assign body, sRange P m rd g ps assign body a A = some os → (Code.rangeFunc g ps assign body).wpIn (fen ro) 0 P (OutPost G S A w os) b w) :
  c.wpIn (fen ro) 0 P (OutPost G S A w os) b w := by
 unfold sCode at hx
 split at hx
 ·cases hx; exact wpIn_skip ⟨_, List.mem_singleton.2 rfl, S, hi, Fr.refl S A w, hab, .normal⟩
 ·cases hx; exact wpIn_label ⟨_, List.mem_singleton.2 rfl, S, hi, Fr.refl S A w, hab, .normal⟩
 ·exact wpIn_region_list (hm.ops _ _ _ _ _ _ hx S w b ro hi hab hr)
 ·rename_i x y
  obtain ⟨xs, h1, h2⟩ := bindM_mem hx
  refine wpIn_seq (wpIn_mono (hm.code _ _ _ _ _ h1 S w b ro hi hab hr) (then_ok (K := y.wpIn (fen ro) 0 P (OutPost G S A w os)) h2 ?_ ?_))
  ·intro o ho hoe S1 a1 w1 ys hy1 hy2 i1 f1 r1
   simp only [hoe] at hy1
   exact wpIn_mono (hm.code _ _ _ _ _ hy1 S1 w1 a1 ro i1 r1 (hr.mono f1.le)) fun _ _ _ h => h.from f1 hy2
  ·intro o ho hoe
   cases hoo : o.e <;> simp_all
 ·rename_i c x y
  split at hx
  ·rename_i t hc
   have hv := hab.eval c
   rw [hc] at hv
   generalize hbv : b.eval c = bv at hv
   cases hv
   exact wpIn_cond hbv (hm.code _ _ _ _ _ hx S w b ro hi hab hr)
  ·cases hx
 ·rename_i id c
  obtain ⟨xs, h1, h2⟩ := bindM_mem hx
  refine wpIn_block (wpIn_mono (hm.code _ _ _ _ _ h1 S w b ro hi hab hr) ?_)
  intro e a' w' h
  obtain ⟨o, ho, S1, i1, f1, r1, e1⟩ := h
  obtain ⟨ys, g1, g2⟩ := h2 o ho
  cases g1
  have hin := g2 _ (List.mem_singleton.2 rfl)
  generalize hoe : o.e = oe at e1
  cases e1 with
  | normal => exact ⟨_, hin, S1, i1, f1, r1, by simp only [hoe, AE.unblock]; exact .normal⟩
  | exit id' =>
   simp only [Exit.inBlock]
   by_cases hid : id' = id
   ·rw [if_pos hid]
    exact ⟨_, hin, S1, i1, f1, r1, by simp only [hoe, AE.unblock, if_pos hid]; exact .normal⟩
   ·rw [if_neg hid]
    exact ⟨_, hin, S1, i1, f1, r1, by simp only [hoe, AE.unblock, if_neg hid]; exact .exit _⟩
  | goto l => exact ⟨_, hin, S1, i1, f1, r1, by simp only [hoe, AE.unblock]; exact .goto _⟩
  | ret => exact ⟨_, hin, S1, i1, f1, r1, by simp only [hoe, AE.unblock]; exact .ret⟩
  | panic c d hc => exact ⟨_, hin, S1, i1, f1, r1, by simp only [hoe, AE.unblock]; exact .panic _ _ hc⟩
 ·exact (hm.loop _ _ _ _ _ hx S w b ro hi hab hr).loop
 ·rename_i c
  obtain ⟨xs, h1, h2⟩ := bindM_mem hx
  refine wpIn_scope (wpIn_mono (hm.code _ _ _ _ _ h1 S w b ro hi hab hr) ?_)
  intro e a' w' h
  obtain ⟨o, ho, S1, i1, f1, r1, e1⟩ := h
  obtain ⟨ys, g1, g2⟩ := h2 o ho
  have hng : ∀ l, o.e ≠ .goto l := by
   intro l hl
   rw [hl] at g1
   cases g1
  have hys : ys = [o] := by
   cases hoe : o.e <;> simp only [hoe] at g1 <;> first
    | (cases g1; rfl)
    | exact absurd hoe (hng _)
  subst hys
  have hin := g2 _ (List.mem_singleton.2 rfl)
  refine ⟨fun l hl => ?_, o, hin, S1, i1, f1, r1, e1⟩
  subst hl
  generalize hoe : o.e = oe at e1
  cases e1
  exact hng _ hoe
 ·exact hrange _ _ _ _ hx
 ·cases hx; exact wpIn_exit ⟨_, List.mem_singleton.2 rfl, S, hi, Fr.refl S A w, hab, .exit _⟩
 ·cases hx; exact wpIn_goto ⟨_, List.mem_singleton.2 rfl, S, hi, Fr.refl S A w, hab, .goto _⟩
 ·cases hx; exact wpIn_ret ⟨_, List.mem_singleton.2 rfl, S, hi, Fr.refl S A w, hab, .ret⟩
 ·cases hx
end
end Go.Am
end
section
namespace Go.Am
open Go
theorem ARel.tmpsOf {S : Sh} {args : List AV} {vs : List Value} (fn : Func) (h : LRel S args vs) : ARel S ⟨aTmps fn args, []⟩ { tmps := (⟨vs⟩ : Array Value) ++ Array.replicate (fn.ntmps - (⟨vs⟩ : Array Value).size) undef, defers := [] } := by
 refine ⟨?_, .nil⟩
 simp only [aTmps, Array.toList_append, Array.toList_replicate, List.size_toArray]
 rw [h.length]
 refine h.append ?_
 induction fn.ntmps - vs.length with
 | zero => exact .nil
 | succ n ih => simp only [List.replicate_succ]; exact .cons _ _ _ _ (undef_rel S) ih
theorem leavesInM_mono {F : Fence} {n : Nat} {P : Program} {fn : Func} {tmps : Array Value} {R R' : Ending → World → Prop} (hr : ∀ e w, R e w → R' e w) : ∀ (ds : List Deferred) (u : FrameMode) (w : World),
  LeavesInM F n P fn tmps R ds u w → LeavesInM F n P fn tmps R' ds u w
 | [], .returning, w, h => let ⟨v, h1, h2⟩ := h; ⟨v, h1, hr _ _ h2⟩
 | [], .panicking chain, w, h => hr _ _ h
 | [], .run, w, h => h
 | d :: ds, u, w, h => by
  obtain ⟨h1, h2⟩ := h
  refine ⟨h1, ?_⟩
  rcases h2 with ⟨r, w', a1, a2, a3⟩ | ⟨hn, fv, cap, f, args, a1, a2, a3, a4⟩
  ·exact .inl ⟨r, w', a1, a2, leavesInM_mono hr ds u w' a3⟩
  ·refine .inr ⟨hn, fv, cap, f, args, a1, a2, a3, a4.mono ?_⟩
   intro e u' w' he
   cases e with
   | returned v => exact leavesInM_mono hr ds _ _ he
   | panicked chain => exact leavesInM_mono hr ds _ _ he
   | outgrown => exact hr _ _ he
section
variable {P : Program} {G : Gl}
def resOf (ts : List Value) : ResultVar → Sem Value
 | .tmp t => pure ((⟨ts⟩ : Array Value).getD t undef)
 | .cell a t => do loadVar t (← asAddr ((⟨ts⟩ : Array Value).getD a undef))
theorem aResult_ok {S : Sh} {A : AH} {w : World} (h : Inv G S A w) {tmps : List AV} {ts : List Value} (hl : LRel S tmps ts) {r : ResultVar} {x : AV} (hx : aResult P G A tmps r = some x) :
  ∃ v, (resOf ts r).run P w = .ok v w ∧ VRel S x v := by
 cases r with
 | tmp t =>
  simp only [aResult, Option.some.injEq] at hx
  subst hx
  refine ⟨_, rfl, ?_⟩
  have := hl.getD t
  simpa [Array.getD_eq_getD_getElem?] using this
 | cell a t =>
  simp only [aResult] at hx
  have hv := hl.getD a
  generalize (tmps[a]?).getD .top = y at hx hv
  have hv' : VRel S y ((⟨ts⟩ : Array Value).getD a undef) := by simpa [Array.getD_eq_getD_getElem?] using hv
  unfold resOf
  simp only
  generalize (⟨ts⟩ : Array Value).getD a undef = u at hv'
  obtain ⟨v, h1, h2⟩ := aLoad_ok h hv' hx
  refine ⟨v, ?_, h2⟩
  rw [← h1]
  clear h1 h2 hv
  cases hv' <;> first
   | (simp [aLoad] at hx; done)
   | (simp [asAddr, Instr.loadAt, Instr.sureAddr]; done)
theorem aResultL_ok {S : Sh} {A : AH} {w : World} (h : Inv G S A w) {tmps : List AV} {ts : List Value} (hl : LRel S tmps ts) : ∀ {rs : List ResultVar} {xs : List AV}, aResultL P G A tmps rs = some xs →
  ∃ vs, (rs.mapM (resOf ts) : Sem (List Value)).run P w = .ok vs w ∧ LRel S xs vs
 | [], xs, hx => by simp [aResultL] at hx; subst hx; exact ⟨[], by simp, .nil⟩
 | r :: rs, xs, hx => by
  simp only [aResultL] at hx
  split at hx
  ·rename_i x ys h1 h2
   cases hx
   obtain ⟨v, h3, h4⟩ := aResult_ok h hl h1
   obtain ⟨vs, h5, h6⟩ := aResultL_ok h hl h2
   refine ⟨v :: vs, ?_, .cons _ _ _ _ h4 h6⟩
   simp only [List.mapM_cons, Sem.run_bind, h3, h5, Result.andThen_ok, Sem.run_pure]
  ·cases hx
theorem aResults_ok {S : Sh} {A : AH} {w : World} (h : Inv G S A w) {fn : Func} {tmps : List AV} {ts : List Value} (hl : LRel S tmps ts) {x : AV} (hx : aResults P G A fn tmps = some x) :
  ∃ v, (results fn ⟨ts⟩).run P w = .ok v w ∧ VRel S x v := by
 unfold aResults at hx
 have key : ∀ {xs : List AV}, aResultL P G A tmps fn.results.toList = some xs → ∃ vs, LRel S xs vs ∧ (results fn ⟨ts⟩).run P w = .ok (if h : (⟨vs⟩ : Array Value).size = 1 then (⟨vs⟩ : Array Value)[0] else .tuple ⟨vs⟩) w := by
  intro xs hxs
  obtain ⟨vs, h1, h2⟩ := aResultL_ok h hl hxs
  refine ⟨vs, h2, ?_⟩
  have e : results fn ⟨ts⟩ = (do let vs ← fn.results.mapM (resOf ts); pure (if h : vs.size = 1 then vs[0] else .tuple vs)) := by
   unfold results
   congr 1
  rw [e, Array.mapM_eq_mapM_toList]
  simp only [Sem.run_bind, Sem.run_map, h1, Result.andThen_ok, Sem.run_pure]
 split at hx
 ·rename_i y hy
  cases hx
  obtain ⟨vs, h1, h2⟩ := key hy
  cases h1 with
  | cons _ _ v _ hv hn =>
  cases hn
  exact ⟨v, by rw [h2]; rfl, hv⟩
 ·rename_i xs hne hy
  cases hx
  obtain ⟨vs, h1, h2⟩ := key hy
  refine ⟨.tuple ⟨vs⟩, ?_, .tup _ _ h1⟩
  rw [h2]
  have : ¬ (⟨vs⟩ : Array Value).size = 1 := by
   intro hs
   have := h1.length
   simp only [List.size_toArray] at hs
   rw [hs] at this
   match xs, this with
   | [z], _ => exact hne z rfl
  rw [dif_neg this]
 ·cases hx
theorem aEnter_run {f : FuncId} {args : List AV} {A : AH} {r : AR} (hx : aEnter P f args A = some r) (vs : Array Value) (w : World) : r = .enter f args A ∧ (callFunc f vs).run P w = .ok (.enter f vs) w := by
 unfold aEnter at hx
 split at hx
 ·rename_i fn hf
  split at hx <;> cases hx
  rename_i hc
  obtain ⟨h1, h2⟩ := hc
  have hb : ¬ fn.body = none := by intro hbb; simp [hbb] at h2
  exact ⟨rfl, by simp [callFunc, hf, h1, hb]⟩
 ·cases hx
section step
variable {m : Mc}
theorem sFunc_ok (hm : Mc.Ok P G m) {f : FuncId} {args : List AV} {A : AH} {os : List AFin} (hx : sFunc P m f args A = some os) {S : Sh} {w : World} {vs : List Value} (hi : Inv G S A w) (hl : LRel S args vs) :
  CallsIn Fence.wide 0 P f ⟨vs⟩ w (FinPost G S A w os) := by
 unfold sFunc at hx
 split at hx
 ·rename_i fn hf
  split at hx
  ·rename_i c hb
   obtain ⟨xs, h1, h2⟩ := bindM_mem hx
   refine callsIn_of_wp_marks hf hb trivial (wpIn_mono (hm.code _ _ _ _ _ h1 S w _ none hi (ARel.tmpsOf fn hl) rfl) ?_)
   intro e a' w' h
   obtain ⟨o, ho, S1, i1, f1, r1, e1⟩ := h
   obtain ⟨ys, g1, g2⟩ := h2 o ho
   generalize o.e = oe at g1 e1
   have fin : ∀ {u : AMode} {md : FrameMode}, m.leave fn o.a.tmps o.a.defers u o.A = some ys → MdRel S1 u md → LeavesInM Fence.wide 0 P fn a'.tmps (FinPost G S A w os) a'.defers md w' := by
    intro u md hl' hmd
    have := hm.leave _ _ _ _ _ _ hl' S1 w' a'.tmps.toList a'.defers md i1 r1.tmps r1.defers hmd
    have hq : ∀ e w'', FinPost G S1 o.A w' ys e w'' → FinPost G S A w os e w'' := fun e w'' h => h.from f1 g2
    exact leavesInM_mono hq _ _ _ this
   cases e1 with
   | normal => exact fin g1 .returning
   | ret => exact fin g1 .returning
   | panic c d hc => exact fin g1 (.panicking _ _ hc)
   | exit id => cases g1
   | goto l => cases g1
  ·cases hx
 ·cases hx
end step
end
end Go.Am
end
section
namespace Go.Am
open Go
section
variable {P : Program} {G : Gl}
theorem Inv.live_of {A : AH} {i : Nat} {x : ABlk} (h : A.blks[i]? = some x) (hx : x ≠ .dead) : A.live i := ⟨x, h, hx⟩
theorem MdRel.notRun {S : Sh} {u : AMode} {md : FrameMode} (h : MdRel S u md) : md ≠ .run := by cases h <;> simp
theorem recover_ok {S : Sh} {u : AMode} {md : FrameMode} (h : MdRel S u md) (c0 : Frame) (cs : List Frame) (hc : c0.mode = md) :
  (∃ v md', recoverD (c0 :: cs) = some (v, { c0 with mode := md' } :: cs) ∧ VRel S u.recover.1 v ∧ MdRel S u.recover.2 md') ∨
  (recoverD (c0 :: cs) = none ∧ u.recover = (.nili, u)) := by
 cases h with
 | returning => exact .inr ⟨by simp [recoverD, hc], rfl⟩
 | panicking c d h =>
  cases h with
  | nil => exact .inr ⟨by simp [recoverD, hc], rfl⟩
  | cons x v b xs es h1 h2 =>
   cases b with
   | true => exact .inr ⟨by simp [recoverD, hc], rfl⟩
   | false => exact .inl ⟨v, _, by simp [recoverD, hc], h1, .panicking _ _ (.cons _ _ _ _ _ h1 h2)⟩
theorem wpSIn_recover {F : Fence} {n : Nat} {id : Nat} {ops : Array Oper} {o : Oper} {rest : List Oper} (hops : ops.toList = o :: rest) (ho : isRecover o = true) {Q : Exit → Act → List Frame → World → Prop} {a : Act} {cs : List Frame} {w : World}
  (hF : F.round = none)
  (h : match recoverD cs with
   | some (v, cs') => cs'.length = cs.length ∧ wpListIn F n P ops (fun e a w => Q e a cs' w) rest (a.put o.dst v) w
   | none => wpListIn F n P ops (fun e a w => Q e a cs w) rest (a.put o.dst .nilIface) w) :
  (Code.region id ops false).wpSIn F n P Q a cs w := by
 intro b k hb hro hFn hroom
 have h0 : ops[0]? = some o := by rw [← Array.getElem?_toList, hops]; rfl
 have hsize : ops.size = rest.length + 1 := by rw [← Array.length_toList, hops]; rfl
 unfold isRecover at ho
 split at ho
 ·rename_i c hg hop
  split at ho
  ·rename_i hcal
   have hrest : wpOpsIn F n P ops = fun Q l a w => wpOpsIn F n P ops Q l a w := rfl
   have hlist : ∀ (Q' : Exit → Act → World → Prop), wpListIn F n P ops Q' rest = wpOpsIn F n P ops Q' (List.range' 1 rest.length) := by
    intro Q'
    rw [← wpOpsIn_eq_wpListIn rest 1]
    intro j
    rw [← Array.getElem?_toList, hops, Nat.add_comm, List.getElem?_cons_succ]
   have hw : Region.wanted o (yielded ops a.tmps) = true := by simp [Region.wanted, hg]
   have hrun : (execOp a.eval o).run P w = .ok .recover w := by simp [execOp, hop, resolve, hcal, invoke, builtin]
   have hgo := stepGR_op (P := P) (b := b) (a := a) (k := k) (cs := cs) (w := w) (rest := List.range' 1 rest.length) h0 hw
   rw [hro, Oper.semAt_none] at hgo
   have hfin : ∀ v, (b.atR a (.inRegion ops (0 :: List.range' 1 rest.length) :: k)).finish v = b.atR (a.put o.dst v) (.inRegion ops (List.range' 1 rest.length) :: k) := by
    intro v; rw [Frame.finish_atR, h0]; rfl
   have hk : (b.atR a (.inRegion ops (0 :: List.range' 1 rest.length) :: k)).kind = .deferred := hb
   have htr := tryRecover_deferred hk cs
   have habout : ∀ f, o.about P w a.eval = some f → F.fn f := by
    intro f hf
    simp [Oper.about, hop, resolve, hcal, Target.leads] at hf
   have i0 : (lone (b.atR a (.code (.region id ops false) :: k)) cs w).fenced P F := fenced_calm hFn hroom rfl
   have i1 : (lone (b.atR a (.inRegion ops (0 :: List.range' 1 rest.length) :: k)) cs w).fenced P F := fenced_oper hFn hroom h0 habout
   have hr0 : List.range ops.size = 0 :: List.range' 1 rest.length := by rw [hsize, List.range_eq_range', List.range'_succ]
   split at h
   ·rename_i v cs' hrec
    obtain ⟨hlen, h⟩ := h
    rw [hlist] at h
    obtain ⟨e, a', w', hq, harr⟩ := wp_opsIn _ _ _ h b k cs' (hro.trans hF.symm) hFn (hlen ▸ hroom)
    refine ⟨e, a', cs', w', hlen, hq, .of_steps (.head i0 stepR_region (.one (by rw [hr0]; exact i1) ?_)) harr⟩
    rw [hr0]
    refine step_lone_go ?_
    rw [hgo, ← hfin]
    simp only [Frame.atR, hro] at htr ⊢
    simp [stepG.apply, hrun, htr, hrec]
   ·rename_i hrec
    rw [hlist] at h
    obtain ⟨e, a', w', hq, harr⟩ := wp_opsIn _ _ _ h b k cs (hro.trans hF.symm) hFn hroom
    refine ⟨e, a', cs, w', rfl, hq, .of_steps (.head i0 stepR_region (.one (by rw [hr0]; exact i1) ?_)) harr⟩
    rw [hr0]
    refine step_lone_go ?_
    rw [hgo, ← hfin]
    simp only [Frame.atR, hro] at htr ⊢
    simp [stepG.apply, hrun, htr, hrec]
  ·cases ho
 ·cases ho
section step
variable {m : Mc}
theorem sLeave_ok (hm : Mc.Ok P G m) {fn : Func} {tmps : List AV} {ds : List ADef} {u : AMode} {A : AH} {os : List AFin} (hx : sLeave P G m fn tmps ds u A = some os) {S : Sh} {w : World} {ts : List Value} {es : List Deferred} {md : FrameMode}
  (hi : Inv G S A w) (hl : LRel S tmps ts) (hd : DsRel S ds es) (hu : MdRel S u md) : LeavesInM Fence.wide 0 P fn ⟨ts⟩ (FinPost G S A w os) es md w := by
 unfold sLeave at hx
 split at hx
 ·cases hd
  split at hx
  ·cases hu
   simp only [Option.map_eq_some_iff] at hx
   obtain ⟨x, h1, rfl⟩ := hx
   obtain ⟨v, h2, h3⟩ := aResults_ok hi hl h1
   exact ⟨v, h2, _, List.mem_singleton.2 rfl, S, hi, Fr.refl S A w, .returned _ _ h3⟩
  ·cases hu with
   | panicking c d hc =>
   cases hx
   exact ⟨_, List.mem_singleton.2 rfl, S, hi, Fr.refl S A w, .panicked _ _ hc⟩
 ·rename_i b ds
  cases hd with
  | cons _ e _ es' he hds =>
  cases he with
  | mark _ c hc =>
  split at hx
  ·rename_i hb
   refine ⟨hu.notRun, .inl ?_⟩
   obtain ⟨c', o, s1, s2, s3⟩ := hi.blk b _ hb (by simp)
   obtain rfl := Option.some.inj (s1.symm.trans hc)
   cases s3
   obtain ⟨i1, f1⟩ := hi.kill (w' := w.putObj c' (.deferred none)) (Inv.live_of hb (by simp)) hc (fun b' hb' => World.putObj_heap_other hb') (by simp) rfl rfl rfl (fun cs el hc => by rw [s2] at hc; cases hc)
   refine ⟨c', _, rfl, run_takeDeferred s2, ?_⟩
   have := hm.leave _ _ _ _ _ _ hx S (w.putObj c' (.deferred none)) ts es' md i1 hl hds hu
   exact leavesInM_mono (fun e w' h => h.from f1 fun _ h => h) _ _ _ this
  ·cases hx
 ·rename_i f args cap ds
  cases hd with
  | cons _ e _ es' he hds =>
  cases he with
  | fn _ g _ _ us vs hfr h1 h2 =>
  cases hfr
  split at hx
  ·rename_i f' args' A' hent
   obtain ⟨he1, he2⟩ := aEnter_run hent ⟨us ++ vs⟩ w
   cases he1
   obtain ⟨xs, g1, g2⟩ := bindM_mem hx
   refine ⟨hu.notRun, .inr ⟨(fun h => by simp [Fence.wide] at h), .func f, ⟨vs⟩, f, ⟨us ++ vs⟩, rfl, ?_, fun _ _ => trivial, ?_⟩⟩
   ·have : invoke (.fn (.func f) ⟨vs⟩) ⟨us⟩ = callFunc f ⟨us ++ vs⟩ := by simp [invoke]
    rw [this]; exact he2
   ·refine (hm.dfunc _ _ _ _ _ g1 S w _ md hi (h1.append h2) hu).mono ?_
    intro e u' w' hp
    obtain ⟨x, hx1, S1, i1, f1, e1, m1⟩ := hp
    obtain ⟨ys, y1, y2⟩ := g2 x hx1
    generalize x.e = xe at y1 e1
    cases e1 with
    | returned v z hv =>
     have := hm.leave _ _ _ _ _ _ y1 S1 w' ts es' (Go.settle u') i1 (hl.mono f1.le) (hds.mono f1.le) m1.settle
     exact leavesInM_mono (fun e w' h => h.from f1 y2) _ _ _ this
    | panicked c d hc =>
     have := hm.leave _ _ _ _ _ _ y1 S1 w' ts es' (Go.raised u' d) i1 (hl.mono f1.le) (hds.mono f1.le) (m1.raised hc)
     exact leavesInM_mono (fun e w' h => h.from f1 y2) _ _ _ this
  ·cases hx
 ·cases hx
theorem sDfunc_ok (hm : Mc.Ok P G m) {f : FuncId} {args : List AV} {u : AMode} {A : AH} {os : List ADfin} (hx : sDfunc P G m f args u A = some os) {S : Sh} {w : World} {vs : List Value} {md : FrameMode}
  (hi : Inv G S A w) (hl : LRel S args vs) (hu : MdRel S u md) : CallsDIn Fence.wide 0 P f ⟨vs⟩ md w (DfinPost G S A w os) := by
 unfold sDfunc at hx
 split at hx
 ·rename_i fn hf
  split at hx
  ·rename_i c hb
   obtain ⟨xs, h1, h2⟩ := bindM_mem hx
   refine callsDIn_of_wpSIn hf hb trivial fun c0 cs hc0 => ?_
   have key := hm.codeS _ _ _ _ _ h1 S w _ md c0 cs hi (ARel.tmpsOf fn hl) hu hc0
   intro b k hbk hro hFn hroom
   obtain ⟨e, a', cs', w', hlen, hq, harr⟩ := key b k hbk hro hFn hroom
   refine ⟨e, a', cs', w', hlen, ?_, harr⟩
   obtain ⟨o, ho, S1, md', i1, f1, r1, e1, m1, rfl⟩ := hq
   obtain ⟨ys, g1, g2⟩ := h2 o ho
   have hds := r1.defers
   split at g1
   ·rename_i hnil
    rw [hnil] at hds
    have hde : a'.defers = [] := by generalize a'.defers = dd at hds; cases hds; rfl
    have hres : ∀ {x : AV}, aResults P G o.A fn o.a.tmps = some x → ∃ v, (results fn a'.tmps).run P w' = .ok v w' ∧ VRel S1 x v := fun hx => aResults_ok i1 r1.tmps hx
    generalize o.e = oe at g1 e1
    cases e1 with
    | normal =>
     simp only [Option.map_eq_some_iff] at g1
     obtain ⟨x, hx1, rfl⟩ := g1
     obtain ⟨v, hv1, hv2⟩ := hres hx1
     exact ⟨hde, md', rfl, v, hv1, _, g2 _ (List.mem_singleton.2 rfl), S1, i1, f1, .returned _ _ hv2, m1⟩
    | ret =>
     simp only [Option.map_eq_some_iff] at g1
     obtain ⟨x, hx1, rfl⟩ := g1
     obtain ⟨v, hv1, hv2⟩ := hres hx1
     exact ⟨hde, md', rfl, v, hv1, _, g2 _ (List.mem_singleton.2 rfl), S1, i1, f1, .returned _ _ hv2, m1⟩
    | panic c d hc =>
     cases g1
     exact ⟨hde, md', rfl, _, g2 _ (List.mem_singleton.2 rfl), S1, i1, f1, .panicked _ _ hc, m1⟩
    | exit id => cases g1
    | goto l => cases g1
   ·cases g1
  ·cases hx
 ·cases hx
end step
end
end Go.Am
end
section
namespace Go.Am
open Go
section
variable {P : Program} {G : Gl}
theorem wpSIn_mono {F : Fence} {n : Nat} {c : Code} {Q Q' : Exit → Act → List Frame → World → Prop} {a : Act} {cs : List Frame} {w : World} (h : c.wpSIn F n P Q a cs w) (hq : ∀ e a cs w, Q e a cs w → Q' e a cs w) : c.wpSIn F n P Q' a cs w :=
 fun b k h1 h2 h3 h4 => let ⟨e, a', cs', w', l, q, r⟩ := h b k h1 h2 h3 h4; ⟨e, a', cs', w', l, hq _ _ _ _ q, r⟩
theorem SoutPost.from {c0 c1 : Frame} {cs : List Frame} {md1 : FrameMode} (hc : c1 = { c0 with mode := md1 }) {S S1 : Sh} {A A1 : AH} {w w1 : World} (hf : Fr S A w S1 A1 w1) {os os' : List ASout} (hsub : ∀ x ∈ os', x ∈ os) {e : Exit} {b : Act} {cs' : List Frame} {w' : World}
  (h : SoutPost G c1 cs S1 A1 w1 os' e b cs' w') : SoutPost G c0 cs S A w os e b cs' w' := by
 obtain ⟨o, ho, S', md, h1, h2, h3, h4, h5, h6⟩ := h
 subst hc
 exact ⟨o, hsub o ho, S', md, h1, hf.trans h2, h3, h4, h5, h6⟩
section step
variable {m : Mc}
theorem sCodeS_ok (hm : Mc.Ok P G m) {c : Code} {a : AAct} {u : AMode} {A : AH} {os : List ASout} (hx : sCodeS m c a u A = some os) {S : Sh} {w : World} {b : Act} {md : FrameMode} {c0 : Frame} {cs : List Frame}
  (hi : Inv G S A w) (hab : ARel S a b) (hu : MdRel S u md) (hc0 : c0.mode = md) : c.wpSIn Fence.wide 0 P (SoutPost G c0 cs S A w os) b (c0 :: cs) w := by
 have hself : ({ c0 with mode := md } : Frame) = c0 := by subst hc0; rfl
 have plain : ∀ {c : Code} {os : List ASout}, bindM (m.code .none c a A) (fun o => some [(⟨o.e, o.a, u, o.A⟩ : ASout)]) = some os → c.wpSIn Fence.wide 0 P (SoutPost G c0 cs S A w os) b (c0 :: cs) w := by
  intro c os hx
  obtain ⟨xs, h1, h2⟩ := bindM_mem hx
  refine wpSIn_of_wpIn rfl (wpIn_mono (hm.code _ _ _ _ _ h1 S w b none hi hab rfl) ?_)
  intro e a' w' h
  obtain ⟨o, ho, S1, i1, f1, r1, e1⟩ := h
  obtain ⟨ys, g1, g2⟩ := h2 o ho
  cases g1
  exact ⟨_, g2 _ (List.mem_singleton.2 rfl), S1, md, i1, f1, r1, e1, hu.mono f1.le, by rw [hself]⟩
 unfold sCodeS at hx
 simp only at hx
 split at hx
 ·rename_i x y
  obtain ⟨xs, h1, h2⟩ := bindM_mem hx
  refine wpSIn_seq (wpSIn_mono (hm.codeS _ _ _ _ _ h1 S w b md c0 cs hi hab hu hc0) ?_)
  intro e a' cs' w' h
  obtain ⟨o, ho, S1, md', i1, f1, r1, e1, m1, rfl⟩ := h
  obtain ⟨ys, g1, g2⟩ := h2 o ho
  generalize hoe : o.e = oe at g1 e1
  have other : ∀ {x : Exit}, ERel S1 o.e x → ys = [o] → SoutPost G c0 cs S A w os x a' ({ c0 with mode := md' } :: cs) w' := by
   intro x hx hy
   subst hy
   exact ⟨o, g2 _ (List.mem_singleton.2 rfl), S1, md', i1, f1, r1, hx, m1, rfl⟩
  cases e1 with
  | normal =>
   simp only [Exit.thenS]
   exact wpSIn_mono (hm.codeS _ _ _ _ _ g1 S1 w' a' md' { c0 with mode := md' } cs i1 r1 m1 rfl) fun _ _ _ _ h => h.from rfl f1 g2
  | exit id => simp only [Option.some.injEq] at g1; exact other (by rw [hoe]; exact .exit id) g1.symm
  | goto l => simp only [Option.some.injEq] at g1; exact other (by rw [hoe]; exact .goto l) g1.symm
  | ret => simp only [Option.some.injEq] at g1; exact other (by rw [hoe]; exact .ret) g1.symm
  | panic c d hc => simp only [Option.some.injEq] at g1; exact other (by rw [hoe]; exact .panic _ _ hc) g1.symm
 ·rename_i id ops
  split at hx
  ·rename_i o rest hops
   split at hx
   ·rename_i hrec
    obtain ⟨xs, h1, h2⟩ := bindM_mem hx
    refine wpSIn_recover hops hrec rfl ?_
    have go : ∀ {v : Value} {md' : FrameMode}, VRel S u.recover.1 v → MdRel S u.recover.2 md' → wpListIn Fence.wide 0 P ops (fun e a w' => SoutPost G c0 cs S A w os e a ({ c0 with mode := md' } :: cs) w') rest (b.put o.dst v) w := by
     intro v md' hv hmd
     refine wpListIn_mono ?_ _ _ _ (hm.ops _ _ _ _ _ _ h1 S w _ none hi (hab.put o.dst hv) rfl)
     intro e a' w' h
     obtain ⟨x, hx1, S1, i1, f1, r1, e1⟩ := h
     obtain ⟨ys, g1, g2⟩ := h2 x hx1
     cases g1
     exact ⟨_, g2 _ (List.mem_singleton.2 rfl), S1, md', i1, f1, r1, e1, hmd.mono f1.le, rfl⟩
    rcases recover_ok hu c0 cs hc0 with ⟨v, md', hr1, hr2, hr3⟩ | ⟨hr1, hr2⟩
    ·rw [hr1]
     exact ⟨rfl, go hr2 hr3⟩
    ·rw [hr1]
     have := go (v := .nilIface) (md' := md) (by rw [hr2]; exact .nili) (by rw [hr2]; exact hu)
     rw [hself] at this
     exact this
   ·exact plain hx
  ·exact plain hx
 ·exact plain hx
theorem sRound_ok (hm : Mc.Ok P G m) {l : Nat} {args : List AV} {A : AH} {os : List AFin} (hx : sRound m l args A = some os) {S : Sh} {w : World} {c : Nat} {vs : List Value} {st : LoopState} {pd : Option Code} {ats : List AV} {ps : Array Tmp} {as bd : Code} {d : Nat} {us : List Value}
  {fn : FuncId} (hi : Inv G S A w) (hc : S.ρ l = some c) (hb : A.blks[l]? = some (.loop st pd ats ps as bd d)) (_ : args.length = ps.size) (hl : LRel S args vs) (hus : LRel S ats us) :
  RoundIn Fence.wide 0 P c fn ((ps.zip ⟨vs⟩).foldl (fun tmps (t, a) => tmps.setIfInBounds t a) ⟨us⟩) as bd w (FinPost G S A w os) := by
 unfold sRound at hx
 rw [hb] at hx
 simp only at hx
 obtain ⟨xs, h1, h2⟩ := bindM_mem hx
 have hset : LRel S (aSetAll ps.toList args ats) ((ps.zip ⟨vs⟩).foldl (fun tmps (t, a) => tmps.setIfInBounds t a) (⟨us⟩ : Array Value)).toList := by
  have := set_ok (S := S) ps.toList args vs ats ⟨us⟩ hl hus
  rw [← Array.foldl_toList, Array.toList_zip]
  exact this
 refine roundIn_of_wpIn trivial ?_
 have key := hm.code _ _ _ _ _ h1 S w { tmps := (ps.zip ⟨vs⟩).foldl (fun tmps (t, a) => tmps.setIfInBounds t a) ⟨us⟩, defers := [] } (some c) hi ⟨hset, .nil⟩ ⟨c, rfl, hc⟩
 refine wpIn_mono key ?_
 intro e a1 w1 h
 obtain ⟨o, ho, S1, i1, f1, r1, e1⟩ := h
 obtain ⟨ys, g1, g2⟩ := h2 o ho
 have hc1 := f1.le.ρ _ _ hc
 generalize o.e = oe at g1 e1
 cases e1 with
 | exit id => cases g1
 | goto l => cases g1
 | ret => cases g1
 | panic c d hc => cases g1
 | normal =>
  simp only at g1
  split at g1
  ·rename_i pd' ats' ps' as' bd' d' hb1
   obtain ⟨c', ob, s1, s2, s3⟩ := i1.blk l _ hb1 (by simp)
   obtain rfl := Option.some.inj (s1.symm.trans hc1)
   cases s3 with
   | loop _ _ _ tvs _ _ _ _ dd' fn' htl hdd =>
   have hlt := (Array.getElem?_eq_some_iff.1 s2).1
   have hbr := run_beginRound (P := P) s2 rfl
   simp only [Exit.then]
   obtain ⟨i2, f2⟩ := i1.put (x := .loop .busy pd' ats' ps' as' bd' d') (Inv.live_of hb1 (by simp)) hc1 (by simp) (.loop .busy pd' ats' tvs ps' as' bd' d' dd' fn' htl hdd)
    (w' := w1.putObj c' _) (World.putObj_heap_same hlt) (fun b' hb' => World.putObj_heap_other hb') (by simp) rfl rfl rfl (fun cs el hc => by rw [s2] at hc; cases hc)
   refine ⟨_, hbr, ?_⟩
   obtain ⟨xs', h1', h2'⟩ := bindM_mem g1
   refine wpIn_mono (hm.code _ _ _ _ _ h1' S1 _ a1 (some c') i2 r1 ⟨c', rfl, hc1⟩) ?_
   intro e2 a2 w2 h
   obtain ⟨o2, ho2, S2, i3, f3, r2, e3⟩ := h
   obtain ⟨zs, k1, k2⟩ := h2' o2 ho2
   have hc2 := f3.le.ρ _ _ hc1
   have fin : ∀ (j : Option Code), (match o2.A.blks[l]? with
      | some (.loop _ _ ats'' ps'' as'' bd'' d'') => some [(⟨.returned (.bool j.isNone), o2.A.put l (.loop (if j.isNone then .ready else .done) j ats'' ps'' as'' bd'' d'')⟩ : AFin)]
      | _ => .none) = some zs → ∃ v w', (Instr.endRound c' j).run P w2 = .ok v w' ∧ FinPost G S A w os (.returned v) w' := by
    intro j hj
    split at hj
    ·rename_i pd'' ats'' ps'' as'' bd'' d'' hb2
     cases hj
     obtain ⟨c'', ob2, t1, t2, t3⟩ := i3.blk l _ hb2 (by simp)
     obtain rfl := Option.some.inj (t1.symm.trans hc2)
     cases t3 with
     | loop _ _ _ tvs2 _ _ _ _ dd2 fn2 htl2 hdd2 =>
     have hlt2 := (Array.getElem?_eq_some_iff.1 t2).1
     obtain ⟨i4, f4⟩ := i3.put (x := .loop (if j.isNone then .ready else .done) j ats'' ps'' as'' bd'' d'') (Inv.live_of hb2 (by simp)) hc2 (by simp) (.loop (if j.isNone then .ready else .done) j ats'' tvs2 ps'' as'' bd'' d'' dd2 fn2 htl2 hdd2)
      (w' := w2.putObj c'' _) (World.putObj_heap_same hlt2) (fun b' hb' => World.putObj_heap_other hb') (by simp) rfl rfl rfl (fun cs el hc => by rw [t2] at hc; cases hc)
     exact ⟨_, _, run_endRound j t2, _, g2 _ (k2 _ (List.mem_singleton.2 rfl)), S2, i4, ((f1.trans f2).trans f3).trans f4, .returned _ _ (.bool _)⟩
    ·cases hj
   generalize o2.e = oe2 at k1 e3
   cases e3 with
   | normal => exact fin none k1
   | exit id => exact fin (some (.exit id)) k1
   | goto l => exact fin (some (.goto l)) k1
   | ret => exact fin (some .ret) k1
   | panic c d hc => cases k1
  ·cases g1
end step
end
end Go.Am
end
section
namespace Go.Am
open Go
section
variable {P : Program} {G : Gl}
section step
variable {m : Mc}
theorem sRange_ok (hm : Mc.Ok P G m) {rd : Option Nat} {g : Operand} {ps : Array Tmp} {assign body : Code} {a : AAct} {A : AH} {os : List AOut} (hx : sRange P m rd g ps assign body a A = some os) {S : Sh} {w : World} {b : Act} {ro : Option Nat}
  (hi : Inv G S A w) (hab : ARel S a b) (hr : RdRel S rd ro) : (Code.rangeFunc g ps assign body).wpIn (fen ro) 0 P (OutPost G S A w os) b w := by
 refine wpIn_rangeFunc fun fnid _ => ?_
 -- the record, once the block for the deferred calls is there
 have go : ∀ (d : Nat) (mark : List ADef) (A0 : AH) (S0 : Sh) (w0 : World) (dc : Nat) (es : List Deferred), Inv G S0 A0 w0 → Fr S A w S0 A0 w0 → S0.ρ d = some dc → DsRel S0 mark es →
   (let l := A0.blks.length
    match a.eval g with
    | .fn (.func f) first cap =>
     match aEnter P f (first ++ [.fn (.yield l) [] []] ++ cap) (A0.push (.loop .ready .none a.tmps ps assign body d)) with
     | some (.enter f args A') =>
      bindM (m.func f args A') fun x =>
       match x.e with
       | .panicked c => some [(⟨.panic c, { a with defers := mark ++ a.defers }, x.A⟩ : AOut)]
       | .returned _ =>
        match x.A.blks[l]? with
        | some (.loop .busy _ _ _ _ _ _) => .none
        | some (.loop _ pd ats ps' as' bd' d') =>
         let A'' := x.A.put l (.loop .exhausted pd ats ps' as' bd' d')
         match pd with
         | .none => some [⟨.normal, { a with defers := mark ++ a.defers }, A''⟩]
         | some c => m.code rd c { a with defers := mark ++ a.defers } A''
        | _ => .none
     | _ => .none
    | _ => .none) = some os →
   ∃ (dt : Deferred) (f : FuncId) (args : Array Value),
    (resolve b.eval (rangeCall g w0.heap.size) 0).run P (w0.alloc (.loop { state := .ready, pending := none, fn := fnid, tmps := b.tmps, params := ps, assign, body, defers := dc })) = .ok dt (w0.alloc (.loop { state := .ready, pending := none, fn := fnid, tmps := b.tmps, params := ps, assign, body, defers := dc })) ∧
    (invoke dt.target dt.args).run P (w0.alloc (.loop { state := .ready, pending := none, fn := fnid, tmps := b.tmps, params := ps, assign, body, defers := dc })) = .ok (.enter f args) (w0.alloc (.loop { state := .ready, pending := none, fn := fnid, tmps := b.tmps, params := ps, assign, body, defers := dc })) ∧
    CallsIn (fen ro) (0 - 1) P f args (w0.alloc (.loop { state := .ready, pending := none, fn := fnid, tmps := b.tmps, params := ps, assign, body, defers := dc })) (rangePost (fen ro) 0 P w0.heap.size (OutPost G S A w os) { b with defers := es ++ b.defers }) := by
  intro d mark A0 S0 w0 dc es i0 f0 hd hmark hx
  simp only at hx
  split at hx
  ·rename_i f first cap hev
   have hv := (hab.mono f0.le).eval g
   rw [hev] at hv
   generalize hbv : b.eval g = bv at hv
   cases hv with
   | fn _ gg _ _ us vs hfr h1 h2 =>
   cases hfr
   have hlt : d < A0.blks.length := by
    rcases Nat.lt_or_ge d A0.blks.length with h | h
    ·exact h
    ·rw [i0.ρout d h] at hd; cases hd
   have hle0 := Sh.le_at (i0.ρout _ (Nat.le_refl _)) w0.heap.size
   obtain ⟨i1, f1⟩ := i0.push (x := .loop .ready .none a.tmps ps assign body d) (o := .loop { state := .ready, pending := none, fn := fnid, tmps := b.tmps, params := ps, assign, body, defers := dc }) (by simp)
    (.loop .ready .none a.tmps b.tmps.toList ps assign body d dc fnid ((hab.tmps.mono f0.le).mono hle0) (hle0.ρ _ _ hd))
   have hl : (S0.at A0.blks.length w0.heap.size).ρ A0.blks.length = some w0.heap.size := by simp [Sh.at]
   split at hx
   ·rename_i f' args A' hent
    have hyield : VRel (S0.at A0.blks.length w0.heap.size) (.fn (.yield A0.blks.length) [] []) (.func (.yield w0.heap.size) #[] #[]) := .fn _ _ _ _ [] [] ⟨_, hl, rfl⟩ .nil .nil
    obtain ⟨he1, he2⟩ := aEnter_run hent ⟨us ++ [.func (.yield w0.heap.size) #[] #[]] ++ vs⟩ (w0.alloc (.loop { state := .ready, pending := none, fn := fnid, tmps := b.tmps, params := ps, assign, body, defers := dc }))
    cases he1
    obtain ⟨xs, g1, g2⟩ := bindM_mem hx
    refine ⟨⟨.fn (.func f) ⟨vs⟩, ⟨us ++ [.func (.yield w0.heap.size) #[] #[]]⟩⟩, f, ⟨us ++ [.func (.yield w0.heap.size) #[] #[]] ++ vs⟩, ?_, ?_, ?_⟩
    ·simp only [resolve, Deferred.ofValue, hbv]
     simp [Act.eval]
    ·have : invoke (.fn (.func f) ⟨vs⟩) ⟨us ++ [.func (.yield w0.heap.size) #[] #[]]⟩ = callFunc f ⟨us ++ [.func (.yield w0.heap.size) #[] #[]] ++ vs⟩ := by simp [invoke]
     rw [this]; exact he2
    ·have hargs : LRel (S0.at A0.blks.length w0.heap.size) (first ++ [.fn (.yield A0.blks.length) [] []] ++ cap) (us ++ [.func (.yield w0.heap.size) #[] #[]] ++ vs) :=
      ((h1.mono hle0).append (.cons _ _ _ _ hyield .nil)).append (h2.mono hle0)
     have key := hm.func _ _ _ _ g1 _ _ _ i1 hargs
     have f01 := f0.trans f1
     refine CallsIn.mono (R := FinPost G _ _ _ xs) key ?_
     intro e w3 hp
     obtain ⟨x, hx1, S3, i3, f3, e3⟩ := hp
     obtain ⟨ys, y1, y2⟩ := g2 x hx1
     have f03 := f01.trans f3
     have hab' : ARel S3 { a with defers := mark ++ a.defers } { b with defers := es ++ b.defers } :=
      ⟨hab.tmps.mono f03.le, DsRel.append (hmark.mono (f1.trans f3).le) (hab.defers.mono f03.le)⟩
     generalize x.e = xe at y1 e3
     cases e3 with
     | panicked c dd hc =>
      simp only [Option.some.injEq] at y1
      subst y1
      exact ⟨_, y2 _ (List.mem_singleton.2 rfl), S3, i3, f03, hab', .panic _ _ hc⟩
     | returned v u hv =>
      simp only at y1
      have hl3 := f3.le.ρ _ _ hl
      split at y1
      ·cases y1
      ·rename_i st pd ats ps' as' bd' d' hnb hb
       have hnb : st ≠ .busy := by
        rintro rfl
        exact hnb rfl
       obtain ⟨c', ob, s1, s2, s3⟩ := i3.blk _ _ hb (by simp)
       obtain rfl := Option.some.inj (s1.symm.trans hl3)
       cases s3 with
       | loop _ _ _ tvs _ _ _ _ dd' fn' htl hdd =>
       have hlt3 := (Array.getElem?_eq_some_iff.1 s2).1
       have hend := run_endLoop (P := P) s2 hnb
       obtain ⟨i4, f4⟩ := i3.put (x := .loop .exhausted pd ats ps' as' bd' d') (Inv.live_of hb (by simp)) hl3 (by simp) (.loop .exhausted pd ats tvs ps' as' bd' d' dd' fn' htl hdd)
        (w' := w3.putObj w0.heap.size _) (World.putObj_heap_same hlt3) (fun b' hb' => World.putObj_heap_other hb') (by simp) rfl rfl rfl (fun cs el hc => by rw [s2] at hc; cases hc)
       refine ⟨pd, _, hend, ?_⟩
       split at y1
       ·cases y1
        exact ⟨_, y2 _ (List.mem_singleton.2 rfl), S3, i4, f03.trans f4, hab', .normal⟩
       ·rename_i c
        exact wpIn_mono (hm.code _ _ _ _ _ y1 S3 _ _ ro i4 hab' (hr.mono f03.le)) fun _ _ _ h => h.from (f03.trans f4) y2
      ·cases y1
   ·cases hx
  ·cases hx
 unfold sRange at hx
 cases rd with
 | none =>
  obtain rfl : ro = none := hr
  simp only at hx
  obtain ⟨i0, f0⟩ := hi.push (x := .defers) (o := .deferred (some [])) (by simp) .defers
  have hd : (S.at A.blks.length w.heap.size).ρ A.blks.length = some w.heap.size := by simp [Sh.at]
  obtain ⟨dt, f, args, k1, k2, k3⟩ := go A.blks.length [.mark A.blks.length] (A.push .defers) _ (w.alloc (.deferred (some []))) w.heap.size [{ target := .collected w.heap.size, args := #[] }] i0 f0 hd (.cons _ _ _ _ (.mark _ _ hd) .nil) hx
  rw [World.size_alloc] at k1 k3
  exact ⟨w.heap.size + 1, _, _, dt, (w.alloc (.deferred (some []))).alloc (.loop { state := .ready, pending := none, fn := fnid, tmps := b.tmps, params := ps, assign, body, defers := w.heap.size }), f, args,
   (w.alloc (.deferred (some []))).alloc (.loop { state := .ready, pending := none, fn := fnid, tmps := b.tmps, params := ps, assign, body, defers := w.heap.size }), run_enterLoop_outer fnid b.tmps ps assign body, k1, fun _ _ => trivial, k2, (fun h => by simp [fen, Fence.wide] at h), k3⟩
 | some l0 =>
  obtain ⟨c, rfl, hc⟩ := hr
  simp only at hx
  split at hx
  ·rename_i st pd ats ps0 as0 bd0 d hb
   obtain ⟨c', ob, s1, s2, s3⟩ := hi.blk _ _ hb (by simp)
   obtain rfl := Option.some.inj (s1.symm.trans hc)
   cases s3 with
   | loop _ _ _ tvs _ _ _ _ dd fn' htl hdd =>
   obtain ⟨dt, f, args, k1, k2, k3⟩ := go d [] A S w dd [] hi (Fr.refl S A w) hdd .nil hx
   refine ⟨w.heap.size, [], _, dt, w.alloc (.loop { state := .ready, pending := none, fn := fnid, tmps := b.tmps, params := ps, assign, body, defers := dd }), f, args, w.alloc (.loop { state := .ready, pending := none, fn := fnid, tmps := b.tmps, params := ps, assign, body, defers := dd }), ?_, k1, fun _ _ => trivial, k2, (fun h => by simp [fen, Fence.wide] at h), k3⟩
   simp only [fen, Instr.enterLoop, Sem.run_bind, run_getLoop s2, Result.andThen_ok, Sem.run_pure]
   rfl
  ·cases hx
theorem step_ok (hm : Mc.Ok P G m) : Mc.Ok P G (Mc.step P G m) where
 func _ _ _ _ h _ _ _ hi hl := sFunc_ok hm h hi hl
 code _ _ _ _ _ h _ _ _ _ hi hab hr := sCode_ok hm h hi hab hr fun _ _ _ _ h' => sRange_ok hm h' hi hab hr
 loop _ _ _ _ _ h _ _ _ _ hi hab hr := sLoop_ok hm h hi hab hr
 ops _ _ _ _ _ _ h _ _ _ _ hi hab hr := sOps_ok hm h hi hab hr
 round _ _ _ _ h _ _ _ _ _ _ _ _ _ _ _ _ _ _ _ _ hi hc hb hlen hl hus _ := sRound_ok hm h hi hc hb hlen hl hus
 leave _ _ _ _ _ _ h _ _ _ _ _ hi hl hd hu := sLeave_ok hm h hi hl hd hu
 dfunc _ _ _ _ _ h _ _ _ _ hi hl hu := sDfunc_ok hm h hi hl hu
 codeS _ _ _ _ _ h _ _ _ _ _ _ hi hab hu hc0 := sCodeS_ok hm h hi hab hu hc0
end step
end
end Go.Am
end
section
noncomputable section
namespace Go.Am
open Go
def AV.topLike : AV → AV
 | .agg cs => .agg (cs.map fun _ => .top)
 | _ => .top
theorem topLike_rel {S S' : Sh} {x : AV} {v : Value} (h : VRel S x v) : VRel S' x.topLike v := by
 cases h with
 | agg xs vs hl =>
  refine .agg _ _ ?_
  induction vs generalizing xs with
  | nil => cases hl; exact .nil
  | cons v vs ih =>
   cases hl with
   | cons x xs _ _ h1 h2 => exact .cons _ _ _ _ (.top v) (ih xs h2)
 | _ => exact .top _
section
variable (P : Program) (A : AH)
def purSlice (f : AV → AV) (b off len : Nat) : AV :=
 match A.blks[b]? with
 | some (.cells cs el) =>
  match tAgg P el, tSize P el with
  | some agg, some sz =>
   if 0 < sz ∧ off + len * sz ≤ cs.length ∧ (agg = false → sz = 1) then
    match chunk agg sz len (cs.drop off) with
    | some xs => .isl false none 0 (xs.map f)
    | none => .top
   else .top
  | _, _ => .top
 | _ => .top
def purPtr (f : AV → AV) (b : Nat) : AV :=
 match A.blks[b]? with
 | some (.cells cs el) =>
  match tAgg P el, cs with
  | some true, cs => .iptr (.agg (cs.map f))
  | some false, [c] => if c.isAgg then .top else .iptr (f c)
  | _, _ => .top
 | _ => .top
def pur : Nat → AV → AV
 | 0, x => x.topLike
 | n + 1, x =>
  match x with
  | .top => .top
  | .bool b => .bool b
  | .int k i => .int k i
  | .str s => .str s
  | .nilp => .nilp
  | .gptr g o => .gptr g o
  | .nilm => .nilm
  | .nilf => .nilf
  | .nili => .nili
  | .sym i => .sym i
  | .iptr v => .iptr (pur n v)
  | .isl nil _ _ xs => .isl nil none 0 (xs.map (pur n))
  | .iface t v => .iface t (pur n v)
  | .agg cs => .agg (cs.map (pur n))
  | .tup vs => .tup (vs.map (pur n))
  | .fn (.func f) xs ys => .fn (.func f) (xs.map (pur n)) (ys.map (pur n))
  | .fn _ _ _ => .top
  | .map _ => .top
  | .ptr b 0 => purPtr P A (pur n) b
  | .ptr _ _ => .top
  | .row b len _ => purSlice P A (pur n) b 0 len
  | .msl b off len => purSlice P A (pur n) b off len
variable {P A}
theorem purSlice_noagg (f : AV → AV) (b off len : Nat) : (purSlice P A f b off len).isAgg = false := by
 unfold purSlice
 split
 ·split
  ·split
   ·split <;> rfl
   ·rfl
  ·rfl
 ·rfl
theorem purPtr_noagg (f : AV → AV) (b : Nat) : (purPtr P A f b).isAgg = false := by
 unfold purPtr
 split
 ·split
  ·rfl
  ·split <;> rfl
  ·rfl
 ·rfl
theorem pur_agg (n : Nat) (cs : List AV) : ∃ g : AV → AV, pur P A n (.agg cs) = .agg (cs.map g) ∧ ((∀ x, g x = .top) ∨ ∃ m, n = m + 1 ∧ g = pur P A m) := by
 cases n with
 | zero => exact ⟨fun _ => .top, rfl, .inl fun _ => rfl⟩
 | succ n => exact ⟨pur P A n, rfl, .inr ⟨n, rfl, rfl⟩⟩
theorem pur_noagg (n : Nat) {x : AV} (h : x.isAgg = false) : (pur P A n x).isAgg = false := by
 cases n with
 | zero => cases x <;> first | (cases h; done) | rfl
 | succ n =>
  cases x <;> first
   | (cases h; done)
   | rfl
   | exact purSlice_noagg _ _ _ _
   | skip
  ·rename_i b off
   cases off with
   | zero => exact purPtr_noagg _ _
   | succ o => rfl
  ·rename_i f xs ys
   cases f <;> rfl
theorem pur_len (n : Nat) (x : AV) : (pur P A n x).cells.length = x.cells.length := by
 cases hx : x.isAgg with
 | true =>
  cases x <;> first | (cases hx; done) | skip
  rename_i cs
  obtain ⟨g, h, _⟩ := pur_agg (P := P) (A := A) n cs
  rw [h]; simp [AV.cells]
 | false =>
  rw [AV.cells_of_not hx, AV.cells_of_not (pur_noagg n hx)]
  rfl
def PurOk (S S' : Sh) (f : AV → AV) : Prop := ∀ x v, VRel S x v → VRel S' (f x) v
theorem PurOk.list {S S' : Sh} {f : AV → AV} (hf : PurOk S S' f) : ∀ {xs : List AV} {vs : List Value}, LRel S xs vs → LRel S' (xs.map f) vs
 | _, _, .nil => .nil
 | _, _, .cons _ _ _ _ h1 h2 => .cons _ _ _ _ (hf _ _ h1) (hf.list h2)
theorem LRel.toTops {S S' : Sh} {g : AV → AV} (hg : ∀ x, g x = .top) : ∀ {xs : List AV} {vs : List Value}, LRel S xs vs → LRel S' (xs.map g) vs
 | _, _, .nil => .nil
 | _, _, .cons x xs v vs _ h2 => by
  simp only [List.map_cons, hg]
  exact .cons _ _ _ _ (.top v) (h2.toTops hg)
theorem pur_cells {S S' : Sh} {n : Nat} (hf : ∀ m, m ≤ n → PurOk S S' (pur P A m)) {x : AV} {vs : List Value} (h : LRel S x.cells vs) : LRel S' (pur P A n x).cells vs := by
 cases hx : x.isAgg with
 | true =>
  cases x <;> first | (cases hx; done) | skip
  rename_i cs
  obtain ⟨g, h1, h2⟩ := pur_agg (P := P) (A := A) n cs
  rw [h1]
  simp only [AV.cells] at h ⊢
  rcases h2 with h2 | ⟨m, rfl, rfl⟩
  ·exact h.toTops h2
  ·exact (hf m (by omega)).list h
 | false =>
  rw [AV.cells_of_not hx] at h
  rw [AV.cells_of_not (pur_noagg n hx)]
  cases h with
  | cons _ _ v _ hv hl =>
  cases hl
  exact .cons _ _ _ _ (hf n (Nat.le_refl _) x v hv) .nil
theorem LRel.split {S : Sh} {xs ys : List AV} {vs : List Value} (h : LRel S (xs ++ ys) vs) : ∃ us ws, vs = us ++ ws ∧ LRel S xs us ∧ LRel S ys ws := by
 refine ⟨vs.take xs.length, vs.drop xs.length, (List.take_append_drop _ _).symm, ?_, ?_⟩
 ·have := h.take xs.length; simpa using this
 ·have := h.drop xs.length; simpa using this
theorem pur_flat {S S' : Sh} {n : Nat} (hf : ∀ m, m ≤ n → PurOk S S' (pur P A m)) : ∀ (xs : List AV) {vs : List Value}, LRel S (flat xs) vs → LRel S' (flat (xs.map (pur P A n))) vs
 | [], _, h => by cases h; exact .nil
 | x :: xs, vs, h => by
  simp only [flat, List.map_cons] at h ⊢
  obtain ⟨us, ws, rfl, h1, h2⟩ := h.split
  exact (pur_cells hf h1).append (pur_flat hf xs h2)
structure Frozen (S : Sh) (A : AH) (S' : Sh) : Prop where
 X : S'.X = S.X
 im : ∀ b o v, S.im b o = some v → S'.im b o = some v
 own : ∀ i cs el c, A.blks[i]? = some (.cells cs el) → S.ρ i = some c → ∃ vs, LRel S cs vs ∧ ∀ (j : Nat) (v : Value), vs[j]? = some v → S'.im c j = some v
theorem CRel.turn {S S' : Sh} (him : ∀ b o v, S.im b o = some v → S'.im b o = some v) {cs ds : List AV} {a o : Nat} (h : CRel S cs a o) (hl : ∀ vs, LRel S cs vs → LRel S' ds vs) : CRel S' ds a o := by
 obtain ⟨vs, h1, h2⟩ := CRel.cells h
 exact CRel.of_cells (hl vs h1) fun j v hj => him _ _ _ (h2 j v hj)
theorem pur_slice {S S' : Sh} (hz : Frozen S A S') {n : Nat} (hf : ∀ m, m ≤ n → PurOk S S' (pur P A m)) {b off len c cap : Nat} (hc : S.ρ b = some c) (hcap : len ≤ cap) : VRel S' (purSlice P A (pur P A n) b off len) (.slice (some ⟨c, off, none⟩) len cap) := by
 unfold purSlice
 split
 ·rename_i cs el hb
  split
  ·rename_i agg sz ha hs
   split
   ·rename_i hcd
    obtain ⟨c1, c2, c3⟩ := hcd
    split
    ·rename_i xs hx
     obtain ⟨r1, r2, r3⟩ := chunk_ok c1 c3 len _ xs hx
     obtain ⟨vs, l1, l2⟩ := hz.own b cs el c hb hc
     have key := VRel.isl (S := S') none 0 (xs.map (pur P A n)) sz c off cap c1 (fun y hy => by
      obtain ⟨x, hx', rfl⟩ := List.mem_map.1 hy
      rw [pur_len]; exact r2 x hx') (by
      have hfl : LRel S (flat xs) ((vs.drop off).take (len * sz)) := by rw [r3]; exact (l1.drop off).take _
      refine CRel.of_cells (pur_flat hf xs hfl) fun j v hj => l2 (off + j) v ?_
      rw [List.getElem?_take] at hj
      split at hj
      ·simpa [List.getElem?_drop] using hj
      ·cases hj) (by simp [r1]; exact hcap) (by intro φ hφ; cases hφ)
     simpa [r1] using key
    ·exact .top _
   ·exact .top _
  ·exact .top _
 ·exact .top _
theorem pur_ptr {S S' : Sh} (hz : Frozen S A S') {n : Nat} (hf : ∀ m, m ≤ n → PurOk S S' (pur P A m)) {b c : Nat} (hc : S.ρ b = some c) : VRel S' (purPtr P A (pur P A n) b) (.pointer (some ⟨c, 0, none⟩)) := by
 unfold purPtr
 split
 ·rename_i cs el hb
  obtain ⟨vs, l1, l2⟩ := hz.own b cs el c hb hc
  split
  ·refine .iptr _ _ _ (CRel.of_cells (vs := vs) ((hf n (Nat.le_refl _)).list l1) fun j v hj => ?_)
   rw [Nat.zero_add]; exact l2 j v hj
  ·rename_i x _
   split
   ·exact .top _
   ·rename_i hx
    have hx' : x.isAgg = false := by simpa using hx
    refine .iptr _ _ _ (CRel.of_cells (vs := vs) ?_ fun j v hj => ?_)
    ·exact pur_cells hf (by rw [AV.cells_of_not hx']; exact l1)
    ·rw [Nat.zero_add]; exact l2 j v hj
  ·exact .top _
 ·exact .top _
theorem pur_ok {S S' : Sh} (hz : Frozen S A S') : ∀ n, PurOk S S' (pur P A n) := by
 intro n
 induction n using Nat.strongRecOn with
 | _ n ih =>
 intro x v h
 cases n with
 | zero => exact topLike_rel h
 | succ n =>
  have hf : ∀ m, m ≤ n → PurOk S S' (pur P A m) := fun m hm => ih m (by omega)
  have hn := hf n (Nat.le_refl _)
  cases h with
  | top => exact .top _
  | bool b => exact .bool b
  | int k n => exact .int k n
  | str s => exact .str s
  | nilp => exact .nilp
  | ptr b o c hr =>
   cases o with
   | zero => exact pur_ptr hz hf hr
   | succ o => exact .top _
  | gptr g o => exact .gptr g o
  | iptr w a o hc => exact .iptr _ _ _ (hc.turn hz.im fun vs hl => pur_cells hf hl)
  | islNil f o => exact .islNil _ _
  | islE o a => exact .islE _ _
  | isl f off xs sz a o cap h0 hsz hc hl hfam =>
   have key := VRel.isl (S := S') none 0 (xs.map (pur P A n)) sz a o cap h0 (fun y hy => by
    obtain ⟨x, hx', rfl⟩ := List.mem_map.1 hy
    rw [pur_len]; exact hsz x hx') (hc.turn hz.im fun vs hl => pur_flat hf xs hl) (by simpa using hl) (by intro φ hφ; cases hφ)
   rw [List.length_map] at key
   exact key
  | msl b o l c cap hr hl => exact pur_slice hz hf hr hl
  | row b l sz c cap room hr h0 hl hm hc => exact pur_slice hz hf hr hl
  | map b c hr => exact .top _
  | nilm => exact .nilm
  | fn f g xs ys us vs hfr h1 h2 =>
   cases f <;> first
    | exact .top _
    | (cases hfr; exact .fn _ _ _ _ _ _ rfl (hn.list h1) (hn.list h2))
  | nilf => exact .nilf
  | iface t x v hv => exact .iface _ _ _ (hn _ _ hv)
  | nili => exact .nili
  | sym i v ho hs hv => exact .sym i v (by rw [hz.X]; exact ho) (by rw [hz.X]; exact hs) (by rw [hz.X]; exact hv.still hz.im hs)
  | agg xs vs hl => exact .agg _ _ (hn.list hl)
  | tup xs vs hl => exact .tup _ _ (hn.list hl)
end
end Go.Am
end
section
noncomputable section
namespace Go.Am
open Go
def AH.nil : AH := ⟨[], []⟩
theorem not_live_nil {i : Nat} : ¬ AH.nil.live i := by
 rintro ⟨x, hx, _⟩
 simp [AH.nil] at hx
theorem not_owned_nil {S : Sh} {b : Nat} : ¬ Owned S AH.nil b := by
 rintro (⟨i, h, _⟩ | ⟨φ, ec, room, e, sz, h, _⟩)
 ·exact not_live_nil h
 ·simp [AH.nil] at h
theorem Inv.nil {G : Gl} {S : Sh} {w : World} (him : ∀ b o v, S.im b o = some v → w.cell? ⟨b, o, none⟩ = some v) (hglob : ∀ g o x, G g o = some x → ∃ v, S.im g o = some v ∧ VRel S.bare x v) : Inv G S.bare AH.nil w where
 im := him
 blk i x hx _ := by simp [AH.nil] at hx
 inj i _ _ hi _ _ _ := absurd hi not_live_nil
 free i _ _ hi _ := absurd hi not_live_nil
 fam φ e sz h := by simp [AH.nil] at h
 room φ b ec room he := by obtain ⟨e, sz, h, _⟩ := he; simp [AH.nil] at h
 famInj φ ψ b ec room ec' room' h1 _ := by obtain ⟨e, sz, h, _⟩ := h1; simp [AH.nil] at h
 ρout _ _ := rfl
 tlout φ e x h := by simp [Sh.bare] at h
 glob := hglob
 rm c n h := by simp [Sh.bare] at h
theorem Inv.inner {G : Gl} {S : Sh} {A : AH} {w : World} (h : Inv G S A w) : Inv G S.bare AH.nil w := Inv.nil h.im h.glob
open Classical in
noncomputable def Sh.shut (S : Sh) (A : AH) (w : World) : Sh :=
 {X := S.X, ρ := fun _ => none, tl := fun _ _ => none, rm := fun _ => none, im := fun c o => match S.im c o with
   | some v => some v
   | none => if ∃ i cs el, A.blks[i]? = some (.cells cs el) ∧ S.ρ i = some c ∧ o < cs.length then w.cell? ⟨c, o, none⟩ else none }
theorem Inv.shut {G : Gl} {S : Sh} {A : AH} {w : World} (h : Inv G S A w) : Inv G (S.shut A w) AH.nil w ∧ Frozen S A (S.shut A w) := by
 have him : ∀ b o v, S.im b o = some v → (S.shut A w).im b o = some v := fun b o v hv => by simp [Sh.shut, hv]
 constructor
 ·refine Inv.nil (S := S.shut A w) ?_ ?_
  ·intro b o v hv
   simp only [Sh.shut] at hv
   split at hv
   ·rename_i u hu
    cases hv
    exact h.im b o _ hu
   ·split at hv
    ·exact hv
    ·cases hv
  ·intro g o x hg
   obtain ⟨v, h1, h2⟩ := h.glob g o x hg
   have hle : S.bare.le (S.shut A w).bare := ⟨rfl, (fun _ _ h => by simp [Sh.bare] at h), him, (fun _ _ _ h => by simp [Sh.bare] at h), (fun _ _ h => by simp [Sh.bare] at h)⟩
   exact ⟨v, him _ _ _ h1, h2.mono hle⟩
 ·refine ⟨rfl, him, ?_⟩
  intro i cs el c hb hc
  obtain ⟨c', o, h1, h2, h3⟩ := h.blk i _ hb (by simp)
  obtain rfl := Option.some.inj (h1.symm.trans hc)
  cases h3 with
  | cells _ _ vs rest hl =>
  refine ⟨vs, hl, fun j v hj => ?_⟩
  have hjl := (List.getElem?_eq_some_iff.1 hj).1
  have hfree := h.free i c' j ⟨_, hb, by simp⟩ hc
  simp only [Sh.shut, hfree]
  have hex : ∃ i cs el, A.blks[i]? = some (.cells cs el) ∧ S.ρ i = some c' ∧ j < cs.length := ⟨i, cs, el, hb, hc, by rw [hl.length]; exact hjl⟩
  rw [if_pos hex]
  simp [World.cell?, h2, List.getElem?_append_left hjl, hj]
theorem Fr.shut {S0 S : Sh} {A0 A : AH} {w0 w : World} (hA0 : A0.blks.length = 0) (hρ : ∀ i, S0.ρ i = none) (htl : ∀ f e, S0.tl f e = none) (hrm : ∀ c, S0.rm c = none) (h : Fr S0 A0 w0 S A w) : Fr S0 A0 w0 (S.shut A w) AH.nil w where
 le := ⟨h.le.X, (fun i c hc => by rw [hρ] at hc; cases hc), (fun b o v hv => by simp [Sh.shut, h.le.im _ _ _ hv]), (fun f e x hx => by rw [htl] at hx; cases hx), (fun c n hn => by rw [hrm] at hn; cases hn)⟩
 size := h.size
 os := h.os
 tape := h.tape
 output := h.output
 keep := h.keep
 own b ho _ := absurd ho not_owned_nil
 len := by omega
 ρnew i c h := by simp [Sh.shut] at h
 imNew b o v hv := by
  simp only [Sh.shut] at hv
  split at hv
  ·rename_i u hu
   cases hv
   exact h.imNew b o _ hu
  ·split at hv
   ·rename_i hex
    obtain ⟨i, cs, el, h1, h2, _⟩ := hex
    by_cases hb : b < w0.heap.size
    ·exact .inr (.inr (h.own b (.inl ⟨i, ⟨_, h1, by simp⟩, h2⟩) hb))
    ·exact .inr (.inl (by omega))
   ·cases hv
def Sh.with (S S1 : Sh) : Sh := { S with im := S1.im }
theorem Inv.outer {G : Gl} {S S1 : Sh} {A : AH} {w w1 : World} (h : Inv G S A w) (h1 : Inv G S1 AH.nil w1) (hf : Fr S.bare AH.nil w S1 AH.nil w1) : Inv G (S.with S1) A w1 ∧ Fr S A w (S.with S1) A w1 ∧ S1.bare.le (S.with S1) := by
 have hle : S.le (S.with S1) := ⟨rfl, fun _ _ h => h, fun b o v hv => hf.le.im b o v hv, fun _ _ _ h => h, fun _ _ h => h⟩
 have keep : ∀ b, b < w.heap.size → w1.heap[b]? = w.heap[b]? := fun b hb => hf.keep b hb not_owned_nil
 have old : ∀ {b o}, w.heap[b]? = some o → w1.heap[b]? = some o := fun {b o} hb => by rw [keep b (Array.getElem?_eq_some_iff.1 hb).1]; exact hb
 have imNew : ∀ b o v, S1.im b o = some v → S.im b o = some v ∨ w.heap.size ≤ b := fun b o v hv => by
  rcases hf.imNew b o v hv with h' | h' | h'
  ·exact .inl h'
  ·exact .inr h'
  ·exact absurd h' not_owned_nil
 have ends : ∀ {φ b ec room}, A.ends (S.with S1) φ b ec room → A.ends S φ b ec room := fun h => h
 refine ⟨⟨h1.im, ?_, h.inj, ?_, h.fam, ?_, h.famInj, h.ρout, h.tlout, ?_, ?_⟩, ⟨hle, hf.size, hf.os, hf.tape, hf.output, fun b hb _ => keep b hb, fun b ho _ => ho, ?_, Nat.le_refl _, fun _ _ h => .inl h⟩, ?_⟩
 ·intro i x hx hd
  obtain ⟨c, o, a1, a2, a3⟩ := h.blk i x hx hd
  exact ⟨c, o, a1, old a2, a3.mono hle⟩
 ·intro i c o hi hc
  cases hv : S1.im c o with
  | none => exact hv
  | some v =>
   rcases imNew c o v hv with h' | h'
   ·rw [h.free i c o hi hc] at h'; cases h'
   ·have := h.lt (.inl ⟨i, hi, hc⟩); omega
 ·intro φ b ec room he
  obtain ⟨⟨c, el, a1, a2⟩, a3, a4⟩ := h.room φ b ec room (ends he)
  refine ⟨⟨c, el, old a1, a2⟩, fun o ho => ?_, a4⟩
  cases hv : S1.im b o with
  | none => exact hv
  | some v =>
   rcases imNew b o v hv with h' | h'
   ·rw [a3 o ho] at h'; cases h'
   ·have := (Array.getElem?_eq_some_iff.1 a1).1; omega
 ·exact fun g o x hg => let ⟨v, a1, a2⟩ := h1.glob g o x hg; ⟨v, a1, VRel.mono (S := S1.bare) (S' := (S.with S1).bare) ⟨hf.le.X.symm, (fun _ _ h => h), (fun _ _ _ h => h), (fun _ _ _ h => h), (fun _ _ h => h)⟩ a2⟩
 ·intro c n hn
  obtain ⟨cs, el, a1, a2⟩ := h.rm c n hn
  exact ⟨cs, el, old a1, a2⟩
 ·intro b o v hv
  rcases imNew b o v hv with h' | h'
  ·exact .inl h'
  ·exact .inr (.inl h')
 ·exact ⟨hf.le.X.symm, fun _ _ h => by simp [Sh.bare] at h, fun _ _ _ h => h, fun _ _ _ h => by simp [Sh.bare] at h, fun _ _ h => by simp [Sh.bare] at h⟩
section
variable (P : Program) (G : Gl)
def PCall (f : FuncId) (args : List AV) (es : List AEnd) : Prop :=
 ∀ (S : Sh) (w : World) (vs : List Value), Inv G S.bare AH.nil w → LRel S.bare args vs → CallsIn Fence.wide 0 P f ⟨vs⟩ w fun e w' => ∃ x ∈ es, ∃ S' : Sh, Inv G S'.bare AH.nil w' ∧ Fr S.bare AH.nil w S'.bare AH.nil w' ∧ FinRel S'.bare x e
variable {P G}
theorem FinRel.mono {S S' : Sh} (h : S.le S') {x : AEnd} {e : Ending} : FinRel S x e → FinRel S' x e
 | .returned _ _ h1 => .returned _ _ (h1.mono h)
 | .panicked _ _ h1 => .panicked _ _ (h1.mono h)
theorem PCall.lift {f : FuncId} {args : List AV} {es : List AEnd} (h : PCall P G f args es) {S : Sh} {A : AH} {w : World} {vs : List Value} (hi : Inv G S A w) (hl : LRel S.bare args vs) :
  CallsIn Fence.wide 0 P f ⟨vs⟩ w (FinPost G S A w (es.map fun e => ⟨e, A⟩)) := by
 refine (h S w vs hi.inner hl).mono ?_
 rintro e w' ⟨x, hx, S', i1, f1, r1⟩
 obtain ⟨i2, f2, l2⟩ := hi.outer i1 f1
 exact ⟨⟨x, A⟩, List.mem_map.2 ⟨x, hx, rfl⟩, _, i2, f2, r1.mono (by simpa [Sh.bare] using l2)⟩
def purEnd (P : Program) (n : Nat) (o : AFin) : AEnd :=
 match o.e with
 | .returned v => .returned (pur P o.A n v)
 | .panicked c => .panicked (c.map fun p => (pur P o.A n p.1, p.2))
theorem purEnd_ok {S S' : Sh} {n : Nat} {o : AFin} (hz : Frozen S o.A S') {e : Ending} (h : FinRel S o.e e) : FinRel S' (purEnd P n o) e := by
 unfold purEnd
 generalize o.e = x at h
 cases h with
 | returned v u hv => exact .returned _ _ (pur_ok hz n _ _ hv)
 | panicked c d hc =>
  refine .panicked _ _ ?_
  induction hc with
  | nil => exact .nil
  | cons x v b xs es h1 h2 ih => exact .cons _ _ _ _ _ (pur_ok hz n _ _ h1) ih
theorem PCall.sub {f : FuncId} {args : List AV} {es es' : List AEnd} (h : PCall P G f args es) (hs : ∀ e ∈ es, e ∈ es') : PCall P G f args es' :=
 fun S w vs hi hl => (h S w vs hi hl).mono fun _ _ ⟨x, hx, r⟩ => ⟨x, hs x hx, r⟩
theorem pur_bare {S : Sh} (n : Nat) {x : AV} {v : Value} (h : VRel S x v) : VRel S.bare (pur P AH.nil n x) v :=
 pur_ok (S := S) (S' := S.bare) ⟨rfl, fun _ _ _ h => h, fun i cs el c hb _ => by simp [AH.nil] at hb⟩ n x v h
theorem pur_bares {S : Sh} (n : Nat) {xs : List AV} {vs : List Value} (h : LRel S xs vs) : LRel S.bare (xs.map (pur P AH.nil n)) vs :=
 PurOk.list (fun _ _ h => pur_bare n h) h
end
end Go.Am
end
section
noncomputable section
namespace Go.Am
open Go
mutual
def eqv : AV → AV → Bool
 | .top, .top => true
 | .bool a, .bool b => a == b
 | .int k a, .int j b => decide (k = j) && decide (a = b)
 | .str a, .str b => decide (a = b)
 | .nilp, .nilp => true
 | .ptr a b, .ptr c d => a == c && b == d
 | .gptr a b, .gptr c d => a == c && b == d
 | .iptr a, .iptr b => eqv a b
 | .isl n f o xs, .isl n' f' o' ys => n == n' && decide (f = f') && o == o' && eqvL xs ys
 | .msl a b c, .msl a' b' c' => a == a' && b == b' && c == c'
 | .row a b c, .row a' b' c' => a == a' && b == b' && c == c'
 | .map a, .map b => a == b
 | .nilm, .nilm => true
 | .fn (.func f) xs ys, .fn (.func g) us vs => f == g && eqvL xs us && eqvL ys vs
 | .nilf, .nilf => true
 | .iface t a, .iface u b => t == u && eqv a b
 | .nili, .nili => true
 | .sym i, .sym j => i == j
 | .agg xs, .agg ys => eqvL xs ys
 | .tup xs, .tup ys => eqvL xs ys
 | _, _ => false
def eqvL : List AV → List AV → Bool
 | [], [] => true
 | x :: xs, y :: ys => eqv x y && eqvL xs ys
 | _, _ => false
end
mutual
theorem eqv_eq : ∀ (x y : AV), eqv x y = true → x = y
 | x, y, h => by
  cases x <;> cases y <;> first
   | (simp [eqv] at h; done)
   | rfl
   | (simp [eqv] at h; simp [h]; done)
   | skip
  ·simp only [eqv] at h; rw [eqv_eq _ _ h]
  ·simp only [eqv, Bool.and_eq_true, beq_iff_eq, decide_eq_true_eq] at h
   obtain ⟨⟨⟨rfl, rfl⟩, rfl⟩, h4⟩ := h
   rw [eqvL_eq _ _ h4]
  ·rename_i f xs ys g us vs
   cases f <;> cases g <;> first
    | (simp [eqv] at h; done)
    | (simp only [eqv, Bool.and_eq_true, beq_iff_eq] at h
       obtain ⟨⟨rfl, h2⟩, h3⟩ := h
       rw [eqvL_eq _ _ h2, eqvL_eq _ _ h3])
  ·simp only [eqv, Bool.and_eq_true, beq_iff_eq] at h
   obtain ⟨rfl, h2⟩ := h
   rw [eqv_eq _ _ h2]
  ·simp only [eqv] at h; rw [eqvL_eq _ _ h]
  ·simp only [eqv] at h; rw [eqvL_eq _ _ h]
theorem eqvL_eq : ∀ (xs ys : List AV), eqvL xs ys = true → xs = ys
 | [], [], _ => rfl
 | [], _ :: _, h => by simp [eqvL] at h
 | _ :: _, [], h => by simp [eqvL] at h
 | x :: xs, y :: ys, h => by
  simp only [eqvL, Bool.and_eq_true] at h
  rw [eqv_eq _ _ h.1, eqvL_eq _ _ h.2]
end
def eqvC : AChain → AChain → Bool
 | [], [] => true
 | (x, a) :: xs, (y, b) :: ys => eqv x y && a == b && eqvC xs ys
 | _, _ => false
theorem eqvC_eq : ∀ (xs ys : AChain), eqvC xs ys = true → xs = ys
 | [], [], _ => rfl
 | [], _ :: _, h => by simp [eqvC] at h
 | _ :: _, [], h => by simp [eqvC] at h
 | (x, a) :: xs, (y, b) :: ys, h => by
  simp only [eqvC, Bool.and_eq_true, beq_iff_eq] at h
  obtain ⟨⟨h1, rfl⟩, h3⟩ := h
  rw [eqv_eq _ _ h1, eqvC_eq _ _ h3]
def eqvE : AEnd → AEnd → Bool
 | .returned x, .returned y => eqv x y
 | .panicked c, .panicked d => eqvC c d
 | _, _ => false
theorem eqvE_eq (x y : AEnd) (h : eqvE x y = true) : x = y := by
 cases x <;> cases y <;> first
  | (simp [eqvE] at h; done)
  | (simp only [eqvE] at h; rw [eqv_eq _ _ h])
  | (simp only [eqvE] at h; rw [eqvC_eq _ _ h])
def nubE : List AEnd → List AEnd
 | [] => []
 | [x] => [x]
 | x :: xs => let ys := nubE xs; if ys.any (eqvE x) then ys else x :: ys
theorem mem_nubE : ∀ (xs : List AEnd) (x : AEnd), x ∈ xs → x ∈ nubE xs
 | [], _, h => by simp at h
 | [y], x, h => by simpa [nubE] using h
 | y :: z :: xs, x, h => by
  simp only [nubE]
  have ih := mem_nubE (z :: xs)
  split
  ·rename_i ha
   rcases List.mem_cons.1 h with rfl | h
   ·obtain ⟨u, hu, he⟩ := List.any_eq_true.1 ha
    rw [eqvE_eq _ _ he]; exact hu
   ·exact ih x h
  ·rcases List.mem_cons.1 h with rfl | h
   ·exact List.mem_cons_self
   ·exact List.mem_cons_of_mem _ (ih x h)
mutual
def AV.clean : AV → Bool
 | .top => false
 | .ptr _ _ => false
 | .msl _ _ _ => false
 | .row _ _ _ => false
 | .map _ => false
 | .iptr v => v.clean
 | .isl _ _ _ xs => AV.cleanL xs
 | .fn (.func _) xs ys => AV.cleanL xs && AV.cleanL ys
 | .fn _ _ _ => false
 | .iface _ v => v.clean
 | .agg xs => AV.cleanL xs
 | .tup xs => AV.cleanL xs
 | _ => true
def AV.cleanL : List AV → Bool
 | [] => true
 | x :: xs => x.clean && AV.cleanL xs
end
section
variable (P : Program) (G : Gl)
abbrev Orc := FuncId → List AV → Option (List AEnd)
def Orc.Ok (orc : Orc) : Prop := ∀ f args es, orc f args = some es → PCall P G f args es
def pDepth : Nat := 100
variable {P G}
theorem PCall.of_sFunc {m : Mc} (hm : Mc.Ok P G m) {f : FuncId} {args : List AV} {os : List AFin} (h : sFunc P m f args AH.nil = some os) (n : Nat) : PCall P G f args (os.map (purEnd P n)) := by
 intro S w vs hi hl
 refine (sFunc_ok hm h hi hl).mono ?_
 rintro e w' ⟨o, ho, S', i1, f1, r1⟩
 obtain ⟨i2, z2⟩ := i1.shut
 have f2 := f1.shut rfl (fun _ => rfl) (fun _ _ => rfl) (fun _ => rfl)
 exact ⟨purEnd P n o, List.mem_map.2 ⟨o, ho, rfl⟩, S'.shut o.A w', i2, f2, purEnd_ok z2 r1⟩
theorem PCall.nub {f : FuncId} {args : List AV} {es : List AEnd} (h : PCall P G f args es) : PCall P G f args (nubE es) := h.sub fun e he => mem_nubE es e he
def Orc.table : List (FuncId × List AV × List AEnd) → Orc
 | [], _, _ => .none
 | (g, xs, es) :: t, f, args => if g == f && eqvL xs args then some es else Orc.table t f args
theorem Orc.table_ok : ∀ {t : List (FuncId × List AV × List AEnd)}, (∀ e ∈ t, PCall P G e.1 e.2.1 e.2.2) → Orc.Ok P G (Orc.table t)
 | [], _ => fun _ _ _ h => by cases h
 | (g, xs, es) :: t, ht => fun f args es' h => by
  simp only [Orc.table] at h
  split at h
  ·rename_i hc
   simp only [Bool.and_eq_true, beq_iff_eq] at hc
   obtain ⟨rfl, h2⟩ := hc
   cases h
   rw [← eqvL_eq _ _ h2]
   exact ht _ List.mem_cons_self
  ·exact Orc.table_ok (fun e he => ht e (List.mem_cons_of_mem _ he)) f args es' h
end
end Go.Am
end
section
noncomputable section
namespace Go.Am
open Go
section
variable {P : Program} {F : Fence} {n : Nat} {ops : Array Oper} {Q : Exit → Act → World → Prop} {md : Region.Mode}
def Down (md : Region.Mode) (ops : Array Oper) (D : Nat → Bool) : Prop :=
 ∀ j o, ops[j]? = some o → D j = true → ∀ e ∈ o.after, Region.binds md e = true → D e.on = true
def addD (D : Nat → Bool) (i : Nat) : Nat → Bool := fun j => D j || j == i
def inn (listed : Array Bool) : Nat → Bool := fun j => listed.getD j false
theorem inn_set {listed : Array Bool} {i : Nat} (hi : i < listed.size) : inn (listed.setIfInBounds i true) = addD (inn listed) i := by
 funext j
 simp only [inn, addD, Array.getD_eq_getD_getElem?, Array.getElem?_setIfInBounds]
 by_cases hij : i = j
 ·subst hij; simp [hi]
 ·rw [if_neg hij]
  have : (j == i) = false := by simp; exact fun h => hij h.symm
  rw [this, Bool.or_false]
theorem order_any (St : (Nat → Bool) → Act → World → Prop) (hlow : ∀ j o, ops[j]? = some o → ∀ e ∈ o.after, Region.binds md e = true → e.on < j)
  (step : ∀ D i o, Down md ops D → ops[i]? = some o → D i = false → (∀ e ∈ o.after, Region.binds md e = true → D e.on = true) → ∀ b w, St D b w → wpOpIn F n P ops Q i (St (addD D i)) b w)
  (fin : ∀ D b w, (∀ j, j < ops.size → D j = true) → St D b w → Q .normal b w) :
  ∀ (fuel : Nat) (listed : Array Bool) (b : Act) (w : World), listed.size = ops.size → listed.toList.countP (fun x => !x) ≤ fuel → Down md ops (inn listed) → St (inn listed) b w → wpAnyIn F n P md ops Q fuel listed b w := by
 have done : ∀ (listed : Array Bool), listed.size = ops.size → Region.ready md ops listed = [] → ∀ j, j < ops.size → inn listed j = true := by
  intro listed hs hr j
  induction j using Nat.strongRecOn with
  | _ j ih =>
   intro hj
   cases hd : inn listed j with
   | true => rfl
   | false =>
    exfalso
    have hmem : j ∈ Region.ready md ops listed := by
     rw [mem_ready]
     refine ⟨?_, ops[j], by simp [hj], fun e he hb => ?_⟩
     ·simp only [inn, Array.getD_eq_getD_getElem?] at hd
      simp only [Array.getD_eq_getD_getElem?]
      have hjl : j < listed.size := by omega
      simp [hjl] at hd ⊢
      exact hd
     ·have hlt := hlow j ops[j] (by simp [hj]) e he hb
      exact ih e.on hlt (by omega)
    rw [hr] at hmem; cases hmem
 intro fuel
 induction fuel with
 | zero =>
  intro listed b w hs hc hd hst
  have hall : ∀ j, j < ops.size → inn listed j = true := by
   intro j hj
   have h0 : listed.toList.countP (fun x => !x) = 0 := by omega
   rw [List.countP_eq_zero] at h0
   have hjl : j < listed.size := by omega
   have := h0 listed[j] (by simp)
   simp only [inn, Array.getD_eq_getD_getElem?]
   simp [hjl] at this ⊢
   exact this
  refine ⟨?_, fin _ b w hall hst⟩
  cases hr : Region.ready md ops listed with
  | nil => rfl
  | cons i l =>
   exfalso
   have : i ∈ Region.ready md ops listed := by rw [hr]; simp
   rw [mem_ready] at this
   obtain ⟨h1, o, ho, _⟩ := this
   have hi := (Array.getElem?_eq_some_iff.1 ho).1
   have h2 := hall i hi
   simp only [inn, Array.getD_eq_getD_getElem?] at h2
   simp only [Array.getD_eq_getD_getElem?] at h1
   have hil : i < listed.size := by omega
   simp [hil] at h1 h2
   rw [h1] at h2; cases h2
 | succ fuel ih =>
  intro listed b w hs hc hd hst
  refine ⟨fun hr => fin _ b w (done listed hs hr) hst, fun i hi => ?_⟩
  rw [mem_ready] at hi
  obtain ⟨h1, o, ho, hall⟩ := hi
  have hlt := (Array.getElem?_eq_some_iff.1 ho).1
  have hil : i < listed.size := by omega
  have hDi : inn listed i = false := by
   simp only [inn, Array.getD_eq_getD_getElem?]
   simp only [Array.getD_eq_getD_getElem?] at h1
   simp [hil] at h1 ⊢
   exact h1
  refine wpOpIn_mono ?_ (step (inn listed) i o hd ho hDi hall b w hst)
  intro b' w' hst'
  rw [← inn_set hil] at hst'
  refine ih _ b' w' (by simp [hs]) ?_ ?_ hst'
  ·rw [Array.toList_setIfInBounds, List.countP_set (by simpa using hil)]
   have hel : listed.toList[i]'(by simpa using hil) = false := by
    simp only [inn, Array.getD_eq_getD_getElem?] at hDi
    simp [hil] at hDi
    simpa using hDi
   have hpos : 0 < listed.toList.countP (fun x => !x) := by
    rw [List.countP_pos_iff]
    exact ⟨false, by rw [← hel]; exact List.getElem_mem _, rfl⟩
   simp only [hel, Bool.not_false, if_true, Bool.not_true, Bool.false_eq_true, if_false]
   omega
  ·rw [inn_set hil]
   intro j o' ho' hj e he hb
   simp only [addD, Bool.or_eq_true, beq_iff_eq] at hj ⊢
   rcases hj with hj | rfl
   ·exact .inl (hd j o' ho' hj e he hb)
   ·rw [ho] at ho'; cases ho'
    exact .inl (hall e he hb)
end
end Go.Am
end
section
noncomputable section
namespace Go.Am
open Go
section
variable {P : Program}
theorem fix_ok {G : Gl} {S : Sh} {A : AH} {w : World} (h : Inv G S A w) {xs : List AV} {sz : Nat} (h0 : 0 < sz) (hu : ∀ y ∈ xs, y.cells.length = sz) {vs : List Value} (hv : LRel S (flat xs) vs) (rest : List Value) (el : TypeId) (cap : Nat)
  (hcap : xs.length ≤ cap) (_hroom : cap * sz ≤ (vs ++ rest).length) :
  ∃ S', Inv G S' A { w with heap := w.heap.push (.cells ⟨vs ++ rest⟩ el (0, 0)) } ∧ Fr S A w S' A { w with heap := w.heap.push (.cells ⟨vs ++ rest⟩ el (0, 0)) } ∧
   VRel S' (.isl false none 0 xs) (.slice (some ⟨w.heap.size, 0, none⟩) xs.length cap) := by
 obtain ⟨i1, i2⟩ := h.fix vs rest el (0, 0)
 refine ⟨_, i1, i2, .isl _ 0 xs sz _ 0 cap h0 hu ?_ hcap ?_⟩
 ·refine CRel.of_cells (hv.mono i2.le) fun j v hj => ?_
  simp [Sh.fix, hj]
 ·intro φ hφ
  cases hφ
variable (P) in
def aBuildSliceQ (t : TypeId) (len : Nat) (parts : List (Nat × AV)) : Option AV :=
 match P.underlying t with
 | some (.slice e) =>
  match tSize P e, tZero P e with
  | some (m + 1), some z =>
   if len * (m + 1) ≤ 2 ^ 24 ∧ z.cells.length = m + 1 ∧ z.isTop = false then
    match aSets (m + 1) (List.replicate len z) parts with
    | some xs => some (.isl false none 0 xs)
    | none => none
   else none
  | _, _ => none
 | _ => none
theorem aBuildSliceQ_ok {G : Gl} {S : Sh} {A : AH} {w : World} (h : Inv G S A w) {t : TypeId} {len : Nat} {parts : List (Nat × AV)} {ps : Array (Nat × Value)} {x : AV} (hx : aBuildSliceQ P t len parts = some x) (hp : PRel S parts ps.toList) :
  VOk P G S A w (Instr.buildSlice t len ps) x A := by
 unfold aBuildSliceQ at hx
 split at hx
 ·rename_i e hd
  split at hx
  ·rename_i m z hm hz
   split at hx
   ·rename_i hc
    obtain ⟨h1, h2, h3⟩ := hc
    split at hx
    ·rename_i xs hxs
     cases hx
     obtain ⟨r1, r2, r3⟩ := aSets_ok parts _ xs (uniform_replicate z len h2) hxs
     rw [List.length_replicate] at r3
     obtain ⟨zv, hz1, hz2⟩ := run_zeroValue hz w
     have hzr := ofVs_rel S zv
     rw [← hz2] at hzr
     have hzl := zeros_rel (n := len) hzr h3 h2 (by omega)
     obtain ⟨us, f1, f2⟩ := aFill_ok hp hzl r1
     have hzs : zv.cells.size = m + 1 := by
      have hzt : z ≠ .top := by rintro rfl; simp [AV.isTop] at h3
      have := (hzr.cells hzt).length; simp at this; omega
     have hul := f2.length
     rw [flat_length r2, r3] at hul
     obtain ⟨S', i1, i2, i3⟩ := fix_ok (w := w) h (by omega) r2 f2 [] e len (by omega) (by simp; omega)
     rw [r3] at i3
     refine ⟨_, _, S', ?_, i1, i2, i3⟩
     have i3 := i3
     have z2 : (Array.range (len * (m + 1))).map (fun x => zv.cells[x % zv.cells.size]!) = (Array.range (len * zv.cells.size)).map fun i => zv.cells[i % zv.cells.size]! := by rw [hzs]
     have f1' : Instr.fill (fun i => some (i * (m + 1), m + 1)) ((Array.range (len * (m + 1))).map (fun x => zv.cells[x % zv.cells.size]!)) ps.toList = some ⟨us⟩ := by rw [z2]; exact f1
     simp only [Instr.buildSlice, Sem.run_bind, run_underlying hd, Result.andThen_ok, run_sizeOf hm]
     rw [if_neg (by simp only [Nat.succ_eq_add_one]; omega)]
     simp only [Nat.succ_eq_add_one]
     by_cases hl0 : len * (m + 1) = 0
     ·rw [if_pos hl0]
      have f0 : Instr.fill (fun i => some (i * (m + 1), m + 1)) ((Array.range (len * (m + 1))).map (fun x => (#[] : Array Value)[x % (#[] : Array Value).size]!)) ps.toList = some ⟨us⟩ := by
       have hA : ∀ g : Nat → Value, (Array.range (len * (m + 1))).map g = #[] := by intro g; rw [hl0]; apply Array.ext (by simp); intro i h1 _; simp at h1
       rw [hA] at f1' ⊢; exact f1'
      simp only [Sem.run_bind, Sem.run_pure, Result.andThen_ok, f0]
      simp [newRow]
     ·rw [if_neg hl0]
      simp only [Sem.run_bind, Sem.run_pure, Result.andThen_ok, hz1, f1']
      simp [newRow]
    ·cases hx
   ·cases hx
  ·cases hx
 ·cases hx
def quietOp : Op → Bool
 | .move _ | .assign _ | .pick .. | .build .. | .load .. | .nilCheck _ | .binOp .. | .unOp .. | .convert .. | .makeInterface .. | .makeFunc .. | .slice .. | .fieldAddr .. | .field .. | .indexAddr .. | .index ..
 | .lookup .. | .entry _ | .typeAssert .. | .extract .. => true
 | .call c => match c.callee with | .builtin .len | .builtin .max | .builtin .min => true | _ => false
 | _ => false
theorem aVal_same {A A' : AH} {x : Option AV} {v : AV} (h : aVal A x = some [.val v A']) : A' = A := by
 unfold aVal at h
 cases x <;> simp at h
 exact h.2.symm
theorem quiet_same {G : Gl} {mu rd : Bool} {A A' : AH} {ev : Operand → AV} {o : Oper} {v : AV} (hq : quietOp o.op = true) (h : aOp P G mu rd A ev o = some [.val v A']) : A' = A := by
 unfold aOp at h
 split at h
 all_goals first
  | (cases h; done)
  | (rename_i hop; rw [hop] at hq; first
    | (cases hq; done)
    | exact aVal_same h
    | skip)
 ·simp at h; exact h.2.symm
 ·simp at h; exact h.2.symm
 ·split at h
  ·simp at h; exact h.2.symm
  ·cases h
 ·split at h <;> first | (cases h; done) | (simp at h; exact h.2.symm)
 ·split at h
  ·simp at h; exact h.2.symm
  ·exact aVal_same h
 ·split at h <;> simp at h
  exact h.2.symm
 ·rename_i c
  simp only [Option.map_eq_some_iff, List.cons.injEq, and_true] at h
  obtain ⟨r, hr, rfl⟩ := h
  unfold aCall at hr
  simp only [quietOp] at hq
  split at hr
  ·rename_i f hc; simp [hc] at hq
  ·rename_i hc; simp [hc] at hq
  ·rename_i b hc
   rw [hc] at hq
   split at hr
   ·cases hq
   ·simp at hr; obtain ⟨y, _, _, h1⟩ := hr; exact h1.symm
   ·cases hq
   ·cases hq
   ·cases hq
   ·cases hq
   ·simp at hr; obtain ⟨y, _, _, h1⟩ := hr; exact h1.symm
   ·simp at hr; obtain ⟨y, _, _, h1⟩ := hr; exact h1.symm
   ·cases hq
   ·cases hr
theorem aEnter_same {f g : FuncId} {args xs : List AV} {A A' : AH} (h : aEnter P f args A = some (.enter g xs A')) : A' = A := by
 unfold aEnter at h
 split at h
 ·split at h <;> cases h
  rfl
 ·cases h
theorem aInvoke_same {G : Gl} {A A' : AH} {fn : Fn} {args cap : List AV} {g : FuncId} {xs : List AV} (h : aInvoke P G A fn args cap = some (.enter g xs A')) : A' = A := by
 unfold aInvoke at h
 split at h
 ·exact aEnter_same h
 ·split at h
  ·split at h
   ·exact aEnter_same h
   ·cases h
  ·cases h
 ·split at h
  ·split at h
   ·exact aEnter_same h
   ·cases h
  ·cases h
  ·split at h
   ·exact aEnter_same h
   ·cases h
  ·cases h
 ·split at h
  ·split at h
   ·split at h
    ·exact aEnter_same h
    ·cases h
   ·cases h
  ·cases h
 ·split at h
  ·split at h <;> cases h
  ·cases h
theorem enter_same {G : Gl} {mu rd : Bool} {A A' : AH} {ev : Operand → AV} {o : Oper} {f : FuncId} {xs : List AV} (h : aOp P G mu rd A ev o = some [.enter f xs A']) : A' = A := by
 have hv : ∀ {x : Option AV}, aVal A x ≠ some [.enter f xs A'] := by
  intro x hx
  unfold aVal at hx
  cases x <;> simp at hx
 have hh : ∀ {x : Option (AV × AH)}, aValH x ≠ some [.enter f xs A'] := by
  intro x hx
  unfold aValH at hx
  cases x <;> simp at hx
 have he : ∀ {x : Option AH}, aEff x ≠ some [.enter f xs A'] := by
  intro x hx
  unfold aEff at hx
  cases x <;> simp at hx
 unfold aOp at h
 split at h
 all_goals first
  | (cases h; done)
  | exact absurd h hv
  | exact absurd h hh
  | exact absurd h he
  | (split at h <;> exact absurd h hh)
  | (split at h <;> first | (cases h; done) | (split at h <;> cases h; done) | exact absurd h hv)
  | skip
 ·simp only [Option.map_eq_some_iff] at h
  obtain ⟨l, hl, h⟩ := h
  cases l with
  | nil => cases h
  | cons x l => obtain ⟨v, A2⟩ := x; simp at h
 ·simp only [Option.map_eq_some_iff, List.cons.injEq, and_true] at h
  obtain ⟨r, hr, rfl⟩ := h
  unfold aCall at hr
  split at hr
  ·split at hr
   ·exact aInvoke_same hr
   ·cases hr
  ·split at hr
   ·split at hr
    ·exact aEnter_same hr
    ·cases hr
   ·cases hr
  ·split at hr <;> first
    | (cases hr; done)
    | (simp at hr; done)
    | (split at hr <;> first
      | (cases hr; done)
      | (simp at hr; done))
 ·split at h
  ·cases h
  ·simp at h
end
end Go.Am
end
section
noncomputable section
namespace Go.Am
open Go
section
variable (P : Program) (G : Gl)
def QCall (f : FuncId) (args : List AV) (es : List AEnd) : Prop :=
 ∀ (S : Sh) (A : AH) (w : World) (vs : List Value), Inv G S A w → LRel S args vs → CallsIn Fence.wide 0 P f ⟨vs⟩ w (FinPost G S A w (es.map fun e => ⟨e, A⟩))
abbrev PF := FuncId → List AV → Option (List AEnd)
def aOp1 (pf : PF) (m : Mc) (rd : Option Nat) (ops : Array Oper) (a : AAct) (A : AH) (o : Oper) : Option (AV × AH × Bool) :=
 match aWanted ops a o with
 | .none => .none
 | some false => some (.tup [], A, false)
 | some true =>
  match o.op with
  | .buildSlice t n ps => (aBuildSliceQ P t n (aParts a.eval ps)).map fun v => (v, A, false)
  | _ =>
   match aOp P G (m.mu o) rd.isSome A a.eval o with
   | some [.val v A'] => if quietOp o.op then some (v, A, false) else some (v, A', true)
   | some [.enter f args A'] =>
    match pf f args with
    | some [.returned v] => some (v, A, false)
    | some _ => .none
    | .none =>
     match m.func f args A' with
     | some [x] => match x.e with | .returned v => some (v, x.A, true) | _ => .none
     | _ => .none
   | some [.yield l args A'] =>
    match m.round l args A' with
    | some [x] => match x.e with | .returned v => some (v, x.A, true) | _ => .none
    | _ => .none
   | _ => .none
variable {P G}
theorem quiet_heap {pf : PF} {m : Mc} {rd : Option Nat} {ops : Array Oper} {a : AAct} {A A' : AH} {o : Oper} {v : AV} (h : aOp1 P G pf m rd ops a A o = some (v, A', false)) : A' = A := by
 unfold aOp1 at h
 split at h
 ·cases h
 ·cases h; rfl
 ·split at h
  ·simp only [Option.map_eq_some_iff] at h; obtain ⟨x, _, h1⟩ := h; cases h1; rfl
  ·split at h
   ·split at h <;> cases h; rfl
   ·split at h
    ·cases h; rfl
    ·cases h
    ·split at h
     ·split at h <;> cases h
     ·cases h
   ·split at h
    ·split at h <;> cases h
    ·cases h
   ·cases h
theorem aOp1_ok {pf : PF} {m : Mc} (hm : Mc.Ok P G m) (hpf : ∀ f args es, pf f args = some es → QCall P G f args es) {rd ro : Option Nat} {ops : Array Oper} {a : AAct} {A A' : AH} {o : Oper} {v : AV} {l : Bool}
  (h : aOp1 P G pf m rd ops a A o = some (v, A', l)) {S : Sh} {w : World} {b : Act} (hi : Inv G S A w) (hab : ARel S a b) (hr : RdRel S rd ro) {i : Nat} (ho : ops[i]? = some o) {Q : Exit → Act → World → Prop} {K : Act → World → Prop}
  (hK : ∀ S' u w', Inv G S' A' w' → Fr S A w S' A' w' → VRel S' v u → K (b.put o.dst u) w') : wpOpIn (fen ro) 0 P ops Q i K b w := by
 unfold wpOpIn
 rw [ho]
 simp only
 unfold aOp1 at h
 split at h
 ·cases h
 ·rename_i hw
  cases h
  rw [aWanted_ok hab hw]
  simp only [Bool.false_eq_true, if_false]
  exact ⟨fun _ _ => trivial, hK S undef w hi (Fr.refl S A w) (undef_rel S)⟩
 ·rename_i hw
  rw [aWanted_ok hab hw]
  simp only [if_true]
  refine ⟨fun _ _ => trivial, ?_⟩
  have hround : (fen ro).round = ro := rfl
  rw [hround]
  split at h
  ·rename_i t n ps hop
   simp only [Option.map_eq_some_iff] at h
   obtain ⟨x, hx, h1⟩ := h
   cases h1
   have hnd : ∀ c, o.op ≠ .defer c := by intro c hc; rw [hop] at hc; cases hc
   rw [Oper.semAt_eq _ _ _ hnd]
   simp only [execOp, hop]
   obtain ⟨u, w', S', r1, r2, r3, r4⟩ := aBuildSliceQ_ok hi hx (ps := ps.map fun p => (p.1, b.eval p.2)) (by simpa [aParts] using hab.parts ps.toList)
   simp only [Sem.run_bind, r1, Result.andThen_ok, Sem.run_pure, Oper.uponIn]
   exact hK S' u w' r2 r3 r4
  ·have callCase : ∀ {f : FuncId} {args : List AV} {A1 : AH} {fs : List AFin} {x : AV} {A2 : AH} {S1 : Sh} {w1 : World} {vs : Array Value}, CallsIn Fence.wide 0 P f vs w1 (FinPost G S1 A1 w1 fs) → Fr S A w S1 A1 w1 →
     (∀ y ∈ fs, y.e = .returned x ∧ y.A = A2) → (∀ S' u w', Inv G S' A2 w' → Fr S A w S' A2 w' → VRel S' x u → K (b.put o.dst u) w') →
     CallsIn (fen ro) (0 - 1) P f vs w1 (fun
      | .returned v, w'' => K (b.put o.dst v) w''
      | .panicked chain, w'' => Q (.panic chain) b w''
      | .outgrown, _ => LetsOut Q) := by
    intro f args A1 fs x A2 S1 w1 vs hc hf hfs hk
    refine CallsIn.mono (R := FinPost G S1 A1 w1 fs) hc ?_
    rintro e w'' ⟨y, hy, S2, i2, f2, e2⟩
    obtain ⟨h1, h2⟩ := hfs y hy
    rw [h1] at e2
    cases e2 with
    | returned _ u hu => rw [h2] at i2 f2; exact hk S2 u w'' i2 (hf.trans f2) hu
   split at h
   ·rename_i x A1 hop
    obtain ⟨r, hr1, hr2⟩ := aOp_sem hi hab hr hop
    obtain rfl := List.mem_singleton.1 hr1
    have key : ∀ S' u w', Inv G S' A1 w' → Fr S A w S' A1 w' → VRel S' x u → K (b.put o.dst u) w' := by
     split at h
     ·rename_i hq
      cases h
      have hA := quiet_same hq hop
      subst hA
      exact hK
     ·cases h
      exact hK
    generalize (o.semAt ro b.eval).run P w = res at hr2
    cases res with
    | halt y w' => exact hr2.elim
    | ok y w' =>
     cases y <;> first
      | exact hr2.elim
      | (obtain ⟨S', i', f', v'⟩ := hr2
         exact key S' _ w' i' f' v')
   ·rename_i f args A1 hop
    have hA := enter_same hop
    subst hA
    obtain ⟨r, hr1, hr2⟩ := aOp_sem hi hab hr hop
    obtain rfl := List.mem_singleton.1 hr1
    generalize (o.semAt ro b.eval).run P w = res at hr2
    cases res with
    | halt y w' => exact hr2.elim
    | ok y w' =>
     cases y <;> first
      | exact hr2.elim
      | skip
     rename_i g vs
     obtain ⟨rfl, S', i', f', v'⟩ := hr2
     refine ⟨(fun h => by simp [fen, Fence.wide] at h), ?_⟩
     split at h
     ·rename_i x hp
      cases h
      exact callCase (args := args) (hpf _ _ _ hp S' _ w' vs.toList i' v') f' (by simp) hK
     ·cases h
     ·split at h
      ·rename_i y hy
       split at h
       ·rename_i x hx
        cases h
        exact callCase (args := args) (hm.func _ _ _ _ hy S' w' vs.toList i' v') f' (fun z hz => by obtain rfl := List.mem_singleton.1 hz; exact ⟨hx, rfl⟩) hK
       ·cases h
      ·cases h
   ·rename_i l' args A1 hop
    obtain ⟨r, hr1, hr2⟩ := aOp_sem hi hab hr hop
    obtain rfl := List.mem_singleton.1 hr1
    generalize (o.semAt ro b.eval).run P w = res at hr2
    cases res with
    | halt y w' => exact hr2.elim
    | ok y w' =>
     cases y <;> first
      | exact hr2.elim
      | skip
     rename_i c fn tmps assign body
     obtain ⟨S', st, pd, ats, ps, d, i', f', hc, hb, hlen, us, vs, rfl, hats, hargs, s, p, fn', hheap, rfl⟩ := hr2
     refine ⟨(fun h => by simp [fen, Fence.wide] at h), ?_⟩
     split at h
     ·rename_i y hy
      split at h
      ·rename_i x hx
       cases h
       refine RoundIn.mono (hm.round _ _ _ _ hy S' w' c vs st pd ats ps assign body d us fn s p _ i' hc hb hlen hargs hats hheap) ?_
       rintro e w'' ⟨z, hz, S2, i2, f2, e2⟩
       obtain rfl := List.mem_singleton.1 hz
       rw [hx] at e2
       cases e2 with
       | returned _ u hu => exact hK S2 u w'' i2 (f'.trans f2) hu
      ·cases h
     ·cases h
   ·cases h
end
end Go.Am
end
section
noncomputable section
namespace Go.Am
open Go
section
variable {P : Program} {G : Gl}
theorem map_congr_ev {ev ev' : Operand → AV} {l : List Operand} (h : ∀ x ∈ l, ev x = ev' x) : l.map ev = l.map ev' := List.map_congr_left h
theorem optmap_congr {ev ev' : Operand → AV} {l : Option Operand} (h : ∀ x ∈ l, ev x = ev' x) : l.map ev = l.map ev' := by
 cases l with
 | none => rfl
 | some x => simp [h x rfl]
theorem parts_congr {ev ev' : Operand → AV} {ps : Array (Nat × Operand)} (h : ∀ p ∈ ps.toList, ev p.2 = ev' p.2) : aParts ev ps = aParts ev' ps := by
 unfold aParts
 exact List.map_congr_left fun p hp => by rw [h p hp]
theorem aCall_congr {mu : Bool} {A : AH} {ev ev' : Operand → AV} {c : Call} (h : ∀ x ∈ c.operands, ev x = ev' x) : aCall P G mu A ev c = aCall P G mu A ev' c := by
 have hargs : ∀ x ∈ c.args.toList, ev x = ev' x := fun x hx => h x (by unfold Call.operands; simp at hx ⊢; exact .inr hx)
 have hmap := map_congr_ev hargs
 unfold aCall
 cases hc : c.callee with
 | value f =>
  have hf : ev f = ev' f := h f (by unfold Call.operands; simp [hc])
  simp only [hf, hmap]
 | invoke r name =>
  have hf : ev r = ev' r := h r (by unfold Call.operands; simp [hc])
  simp only [hf, hmap]
 | builtin b =>
  simp only
  generalize hl : c.args.toList = l at hargs
  cases b <;> first
   | rfl
   | (match l, hargs with
      | [], _ => rfl
      | [x], hargs => simp only [hargs x (by simp)]; try rfl
      | [x, y], hargs => simp only [List.map_cons, List.map_nil, hargs x (by simp), hargs y (by simp)]; try rfl
      | x :: y :: z :: l, hargs =>
        have e : (y :: z :: l).map ev = (y :: z :: l).map ev' := map_congr_ev fun u hu => hargs u (List.mem_cons_of_mem _ hu)
        simp only [hargs x (by simp), e]
        try rfl)
theorem aOp_congr {mu rd : Bool} {A : AH} {ev ev' : Operand → AV} {o : Oper} (h : ∀ x ∈ o.op.operands, ev x = ev' x) : aOp P G mu rd A ev o = aOp P G mu rd A ev' o := by
 unfold aOp
 cases hop : o.op <;> rw [hop] at h <;> simp only [Op.operands] at h <;> first
  | rfl
  | (simp at h; simp only [h]; done)
  | (simp at h; obtain ⟨h1, h2⟩ := h; simp only [h1]; done)
  | skip
 case build t ps => simp only [parts_congr (ps := ps) fun p hp => h p.2 (by simp; exact ⟨p.1, by simpa using hp⟩)]
 case buildSlice t n ps => simp only [parts_congr (ps := ps) fun p hp => h p.2 (by simp; exact ⟨p.1, by simpa using hp⟩)]
 case makeFunc f first cap =>
  have h1 := map_congr_ev (ev := ev) (ev' := ev') (l := first.toList) fun x hx => h x (by simp at hx ⊢; exact .inl hx)
  have h2 := map_congr_ev (ev := ev) (ev' := ev') (l := cap.toList) fun x hx => h x (by simp at hx ⊢; exact .inr hx)
  simp only [h1, h2]
 case makeMap t r => cases r <;> rfl
 case slice t x lo hi mx =>
  have h0 : ev x = ev' x := h x (by simp)
  have h1 := optmap_congr (ev := ev) (ev' := ev') (l := lo) fun y hy => h y (by simp at hy ⊢; simp [hy])
  have h2 := optmap_congr (ev := ev) (ev' := ev') (l := hi) fun y hy => h y (by simp at hy ⊢; simp [hy])
  have h3 := optmap_congr (ev := ev) (ev' := ev') (l := mx) fun y hy => h y (by simp at hy ⊢; simp [hy])
  simp only [h0, h1, h2, h3]
 case next it b =>
  have h0 : ev it = ev' it := h it (by simp)
  cases b <;> simp only [h0]
 case call c => simp only [aCall_congr h]
 case defer c =>
  have hargs : ∀ x ∈ c.args.toList, ev x = ev' x := fun x hx => h x (by unfold Call.operands; simp at hx ⊢; exact .inr hx)
  have hmap := map_congr_ev hargs
  have : aDefer ev c = aDefer ev' c := by
   unfold aDefer
   cases hc : c.callee with
   | value f =>
    have hf : ev f = ev' f := h f (by unfold Call.operands; simp [hc])
    simp only [hf, hmap]
   | invoke r name => rfl
   | builtin b => rfl
  simp only [this]
def Alike (ops : Array Oper) (o : Oper) (a a' : AAct) : Prop :=
 (∀ x ∈ o.op.operands, a.eval x = a'.eval x) ∧ (∀ p, o.guard = some p → ∀ t, (ops[p.1]?).bind (·.dst) = some t → a.tmps[t]? = a'.tmps[t]?)
theorem aOp1_congr {pf : PF} {m : Mc} {rd : Option Nat} {ops : Array Oper} {a a' : AAct} {A : AH} {o : Oper} (h : Alike ops o a a') : aOp1 P G pf m rd ops a A o = aOp1 P G pf m rd ops a' A o := by
 obtain ⟨h1, h2⟩ := h
 have hw : aWanted ops a o = aWanted ops a' o := by
  unfold aWanted
  cases hg : o.guard with
  | none => rfl
  | some p =>
   obtain ⟨j, want⟩ := p
   simp only
   have : aYielded ops a j = aYielded ops a' j := by
    unfold aYielded
    cases hd : (ops[j]?).bind (·.dst) with
    | none => rfl
    | some t =>
     have := h2 (j, want) hg t hd
     simp only [this]
   rw [this]
 have ho := aOp_congr (P := P) (G := G) (mu := m.mu o) (rd := rd.isSome) (A := A) (ev := a.eval) (ev' := a'.eval) h1
 unfold aOp1
 rw [hw, ho]
 split
 ·rfl
 ·rfl
 ·split
  ·rename_i t n ps hop
   rw [hop] at h1
   have : aParts a.eval ps = aParts a'.eval ps := parts_congr fun p hp => h1 p.2 (by simp [Op.operands]; exact ⟨p.1, by simpa using hp⟩)
   rw [this]
  ·rfl
end
end Go.Am
end
section
noncomputable section
namespace Go.Am
open Go
/-! ### Activations -/
def disj (d d' : Option Tmp) : Prop := ∀ t, d = some t → d' ≠ some t
def actF : List (Option Tmp × AV) → Nat → (Nat → Bool) → AAct → AAct
 | [], _, _, a => a
 | (d, v) :: l, k, D, a => actF l (k + 1) D (if D k then a.put d v else a)
theorem AAct.put_comm (a : AAct) {d d' : Option Tmp} (v v' : AV) (h : disj d d') : (a.put d v).put d' v' = (a.put d' v').put d v := by
 cases d with
 | none => rfl
 | some t =>
  cases d' with
  | none => rfl
  | some t' =>
   have : t ≠ t' := fun e => h t rfl (by rw [e])
   simp only [AAct.put, setR_eq, List.set_comm _ _ this]
theorem actF_put {d : Option Tmp} {v : AV} : ∀ (l : List (Option Tmp × AV)) (k : Nat) (D : Nat → Bool) (a : AAct), (∀ j p, l[j]? = some p → D (k + j) = true → disj d p.1) → actF l k D (a.put d v) = (actF l k D a).put d v
 | [], _, _, _, _ => rfl
 | (d', v') :: l, k, D, a, h => by
  simp only [actF]
  have hrest : ∀ j p, l[j]? = some p → D (k + 1 + j) = true → disj d p.1 := fun j p hp hD => h (j + 1) p (by simpa using hp) (by rw [show k + (j + 1) = k + 1 + j by omega]; exact hD)
  cases hk : D k with
  | false => simp only [Bool.false_eq_true, if_false]; exact actF_put l (k + 1) D a hrest
  | true =>
   simp only [if_true]
   have hd := h 0 (d', v') rfl (by simpa using hk)
   rw [AAct.put_comm a v v' hd]
   exact actF_put l (k + 1) D _ hrest
theorem actF_congr {D D' : Nat → Bool} : ∀ (l : List (Option Tmp × AV)) (k : Nat) (a : AAct), (∀ j, j < l.length → D (k + j) = D' (k + j)) → actF l k D a = actF l k D' a
 | [], _, _, _ => rfl
 | (d', v') :: l, k, a, h => by
  simp only [actF]
  have h0 := h 0 (by simp)
  simp only [Nat.add_zero] at h0
  rw [h0]
  exact actF_congr l (k + 1) _ fun j hj => by have := h (j + 1) (by simp; omega); rw [show k + 1 + j = k + (j + 1) by omega]; exact this
theorem actF_add {D : Nat → Bool} {d : Option Tmp} {v : AV} : ∀ (l : List (Option Tmp × AV)) (i k : Nat) (a : AAct), l[i]? = some (d, v) → D (k + i) = false → (∀ j p, i < j → l[j]? = some p → D (k + j) = true → disj d p.1) →
  actF l k (addD D (k + i)) a = (actF l k D a).put d v
 | [], i, _, _, h, _, _ => by simp at h
 | (d', v') :: l, 0, k, a, h, hD, hdis => by
  simp at h
  obtain ⟨rfl, rfl⟩ := h
  simp only [actF, Nat.add_zero] at hD ⊢
  have h1 : addD D k k = true := by simp [addD]
  simp only [h1, hD, if_true, Bool.false_eq_true, if_false]
  rw [actF_congr (D' := D) l (k + 1) _ fun j _ => by simp [addD]; omega]
  exact actF_put l (k + 1) D a fun j p hp hj => hdis (j + 1) p (by omega) (by simpa using hp) (by rw [show k + (j + 1) = k + 1 + j by omega]; exact hj)
 | (d', v') :: l, i + 1, k, a, h, hD, hdis => by
  simp only [actF]
  have h1 : addD D (k + (i + 1)) k = D k := by simp [addD]
  rw [h1, show k + (i + 1) = k + 1 + i by omega]
  exact actF_add l i (k + 1) _ (by simpa using h) (by rw [show k + 1 + i = k + (i + 1) by omega]; exact hD) fun j p hij hp hj => hdis (j + 1) p (by omega) (by simpa using hp) (by rw [show k + (j + 1) = k + 1 + j by omega]; exact hj)
theorem put_length (a : AAct) (d : Option Tmp) (v : AV) : (a.put d v).tmps.length = a.tmps.length := by cases d <;> simp [AAct.put, setR_eq]
theorem put_get_ne (a : AAct) {d : Option Tmp} (v : AV) {t : Tmp} (h : d ≠ some t) : (a.put d v).tmps[t]? = a.tmps[t]? := by
 cases d with
 | none => rfl
 | some u =>
  simp only [AAct.put, setR_eq]
  rw [List.getElem?_set_ne (fun e => h (by rw [e]))]
theorem actF_get {D D' : Nat → Bool} {t : Tmp} : ∀ (l : List (Option Tmp × AV)) (k : Nat) (a a' : AAct), a.tmps.length = a'.tmps.length → a.tmps[t]? = a'.tmps[t]? → (∀ j p, l[j]? = some p → p.1 = some t → D (k + j) = D' (k + j)) →
  (actF l k D a).tmps[t]? = (actF l k D' a').tmps[t]?
 | [], _, _, _, _, h, _ => h
 | (d, v) :: l, k, a, a', hl, h, hw => by
  simp only [actF]
  have hrest : ∀ j p, l[j]? = some p → p.1 = some t → D (k + 1 + j) = D' (k + 1 + j) := fun j p hp ht => by
   have := hw (j + 1) p (by simpa using hp) ht
   rw [show k + 1 + j = k + (j + 1) by omega]; exact this
  by_cases hd : d = some t
  ·have h0 := hw 0 (d, v) rfl hd
   simp only [Nat.add_zero] at h0
   rw [← h0]
   subst hd
   cases D k with
   | false => simp only [Bool.false_eq_true, if_false]; exact actF_get l (k + 1) a a' hl h hrest
   | true =>
    simp only [if_true]
    refine actF_get l (k + 1) _ _ (by simp [put_length, hl]) ?_ hrest
    simp only [AAct.put, setR_eq, List.getElem?_set, hl, ↓reduceIte]
  ·refine actF_get l (k + 1) _ _ ?_ ?_ hrest
   ·split <;> split <;> simp [put_length, hl]
   ·split <;> split <;> simp [put_get_ne _ _ hd, h]
/-! ### Counts -/
def cntF : List Bool → Nat → (Nat → Bool) → Nat
 | [], _, _ => 0
 | b :: l, k, D => (if b && D k then 1 else 0) + cntF l (k + 1) D
theorem cntF_mono {D D' : Nat → Bool} : ∀ (l : List Bool) (k : Nat), (∀ j, l[j]? = some true → D (k + j) = true → D' (k + j) = true) → cntF l k D ≤ cntF l k D'
 | [], _, _ => Nat.le_refl _
 | b :: l, k, h => by
  simp only [cntF]
  have ih := cntF_mono l (k + 1) fun j hj hD => by
   have := h (j + 1) (by simpa using hj) (by rw [show k + (j + 1) = k + 1 + j by omega]; exact hD)
   rw [show k + 1 + j = k + (j + 1) by omega]; exact this
  cases b with
  | false => simpa using ih
  | true =>
   have h0 := h 0 (by simp)
   simp only [Nat.add_zero] at h0
   cases hD : D k with
   | false => simp; omega
   | true => simp [h0 hD]; omega
theorem cntF_add {D : Nat → Bool} {b : Bool} : ∀ (l : List Bool) (i k : Nat), l[i]? = some b → D (k + i) = false → cntF l k (addD D (k + i)) = cntF l k D + (if b then 1 else 0)
 | [], i, _, h, _ => by simp at h
 | c :: l, 0, k, h, hD => by
  simp at h; subst h
  simp only [cntF, Nat.add_zero] at hD ⊢
  have h1 : addD D k k = true := by simp [addD]
  simp only [h1, hD]
  have h2 : cntF l (k + 1) (addD D k) = cntF l (k + 1) D := Nat.le_antisymm
   (cntF_mono l (k + 1) fun j _ hj => by simp [addD] at hj; rcases hj with hj | hj; exact hj; omega)
   (cntF_mono l (k + 1) fun j _ hj => by simp [addD, hj])
  rw [h2]
  cases c <;> simp <;> omega
 | c :: l, i + 1, k, h, hD => by
  simp only [cntF]
  have h1 : addD D (k + (i + 1)) k = D k := by simp [addD]
  have ih := cntF_add (D := D) (b := b) l i (k + 1) (by simpa using h) (by rw [show k + 1 + i = k + (i + 1) by omega]; exact hD)
  rw [h1, show k + (i + 1) = k + 1 + i by omega, ih]
  omega
end Go.Am
end
section
noncomputable section
namespace Go.Am
open Go
def maskOf (acc : List Nat) (o : Oper) : Nat := o.after.toList.foldl (fun s e => if Region.binds .any e then s ||| (2 ^ e.on ||| acc.getD e.on 0) else s) 0
def masks : List Oper → List Nat → List Nat
 | [], acc => acc
 | o :: os, acc => masks os (acc ++ [maskOf acc o])
theorem maskFold_bit (acc : List Nat) (i : Nat) : ∀ (l : List Edge) (s : Nat), (l.foldl (fun s e => if Region.binds .any e then s ||| (2 ^ e.on ||| acc.getD e.on 0) else s) s).testBit i = true →
  s.testBit i = true ∨ ∃ e ∈ l, Region.binds .any e = true ∧ (e.on = i ∨ (acc.getD e.on 0).testBit i = true)
 | [], s, h => .inl h
 | e :: l, s, h => by
  rw [List.foldl_cons] at h
  rcases maskFold_bit acc i l _ h with h | ⟨e', he', h1, h2⟩
  ·split at h
   ·rename_i hb
    rw [Nat.testBit_or, Nat.testBit_or, Bool.or_eq_true, Bool.or_eq_true] at h
    rcases h with h | h | h
    ·exact .inl h
    ·rw [Nat.testBit_two_pow] at h
     exact .inr ⟨e, List.mem_cons_self, hb, .inl (by simpa using h)⟩
    ·exact .inr ⟨e, List.mem_cons_self, hb, .inr h⟩
   ·exact .inl h
  ·exact .inr ⟨e', List.mem_cons_of_mem _ he', h1, h2⟩
theorem masks_old : ∀ (os : List Oper) (acc : List Nat) (j : Nat), j < acc.length → (masks os acc)[j]? = acc[j]?
 | [], acc, j, _ => rfl
 | o :: os, acc, j, h => by
  simp only [masks]
  rw [masks_old os _ j (by simp; omega), List.getElem?_append_left h]
theorem masks_take : ∀ (os : List Oper) (acc : List Nat), (masks os acc).take acc.length = acc
 | [], acc => by simp [masks]
 | o :: os, acc => by
  simp only [masks]
  have h := masks_take os (acc ++ [maskOf acc o])
  have h2 : ((masks os (acc ++ [maskOf acc o])).take (acc ++ [maskOf acc o]).length).take acc.length = acc := by rw [h]; simp
  rw [List.take_take] at h2
  rw [Nat.min_eq_left (by simp)] at h2
  exact h2
theorem masks_new : ∀ (os : List Oper) (acc : List Nat) (m : Nat) (o : Oper), os[m]? = some o → (masks os acc)[acc.length + m]? = some (maskOf ((masks os acc).take (acc.length + m)) o)
 | [], _, _, _, h => by simp at h
 | o' :: os, acc, 0, o, h => by
  simp at h; subst h
  rw [Nat.add_zero, masks_take]
  simp only [masks]
  rw [masks_old os _ _ (by simp)]
  simp
 | o' :: os, acc, m + 1, o, h => by
  have := masks_new os (acc ++ [maskOf acc o']) m o (by simpa using h)
  simp only [List.length_append, List.length_cons, List.length_nil] at this
  simp only [masks]
  rw [show acc.length + (m + 1) = acc.length + (0 + 1) + m by omega]
  exact this
section
variable {ops : Array Oper}
def mskA (ops : Array Oper) : List Nat := masks ops.toList []
def bef (ops : Array Oper) (j i : Nat) : Bool := ((nthR (mskA ops) j).getD 0).testBit i
theorem bef_def (ops : Array Oper) (j i : Nat) : bef ops j i = ((mskA ops).getD j 0).testBit i := by unfold bef; rw [nthR_eq, List.getD_eq_getElem?_getD]
theorem bef_edge {j i : Nat} (h : bef ops j i = true) : ∃ o, ops[j]? = some o ∧ ∃ e ∈ o.after, Region.binds .any e = true ∧ (e.on = i ∨ bef ops e.on i = true) := by
 rw [bef_def] at h
 cases ho : ops[j]? with
 | none =>
  exfalso
  have hsz : ops.size ≤ j := by simpa using ho
  have hlen : ∀ (os : List Oper) (acc : List Nat), (masks os acc).length = acc.length + os.length := by
   intro os
   induction os with
   | nil => intro acc; simp [masks]
   | cons o os ih => intro acc; simp only [masks]; rw [ih]; simp; omega
  have : (mskA ops).getD j 0 = 0 := by
   rw [List.getD_eq_getElem?_getD, List.getElem?_eq_none (by rw [mskA, hlen]; simp; omega)]
   rfl
  rw [this] at h
  simp at h
 | some o =>
  have h1 := masks_new ops.toList [] j o (by simpa using ho)
  simp only [List.length_nil, Nat.zero_add] at h1
  have h2 : (mskA ops).getD j 0 = maskOf ((mskA ops).take j) o := by
   rw [List.getD_eq_getElem?_getD]
   show ((masks ops.toList [])[j]?).getD 0 = _
   rw [h1]; rfl
  rw [h2] at h
  rcases maskFold_bit _ i _ _ h with h | ⟨e, he, hb, h⟩
  ·simp at h
  ·refine ⟨o, rfl, e, by simpa using he, hb, ?_⟩
   rcases h with h | h
   ·exact .inl h
   ·refine .inr ?_
    rw [bef_def]
    rw [List.getD_eq_getElem?_getD] at h ⊢
    rw [List.getElem?_take] at h
    split at h
    ·exact h
    ·simp at h
theorem bef_low (hlow : ∀ j o, ops[j]? = some o → ∀ e ∈ o.after, Region.binds .any e = true → e.on < j) : ∀ (j i : Nat), bef ops j i = true → i < j := by
 intro j
 induction j using Nat.strongRecOn with
 | _ j ih =>
  intro i h
  obtain ⟨o, ho, e, he, hb, h⟩ := bef_edge h
  have := hlow j o ho e he hb
  rcases h with rfl | h
  ·exact this
  ·have := ih e.on this i h; omega
theorem bef_down (hlow : ∀ j o, ops[j]? = some o → ∀ e ∈ o.after, Region.binds .any e = true → e.on < j) {D : Nat → Bool} (hD : Down .any ops D) : ∀ (j i : Nat), D j = true → bef ops j i = true → D i = true := by
 intro j
 induction j using Nat.strongRecOn with
 | _ j ih =>
  intro i hj h
  obtain ⟨o, ho, e, he, hb, h⟩ := bef_edge h
  have h1 := hD j o ho hj e he hb
  rcases h with rfl | h
  ·exact h1
  ·exact ih e.on (hlow j o ho e he hb) i h1 h
theorem bef_ready (hlow : ∀ j o, ops[j]? = some o → ∀ e ∈ o.after, Region.binds .any e = true → e.on < j) {D : Nat → Bool} (hD : Down .any ops D) {j i : Nat} {o : Oper} (ho : ops[j]? = some o) (hr : ∀ e ∈ o.after, Region.binds .any e = true → D e.on = true)
  (h : bef ops j i = true) : D i = true := by
 obtain ⟨o', ho', e, he, hb, h⟩ := bef_edge h
 rw [ho] at ho'; cases ho'
 rcases h with rfl | h
 ·exact hr e he hb
 ·exact bef_down hlow hD e.on i (hr e he hb) h
end
end Go.Am
end
section
noncomputable section
namespace Go.Am
open Go
theorem Inv.idle {G : Gl} {S : Sh} {A : AH} {w : World} (h : Inv G S A w) (o : Obj) : Inv G S A { w with heap := w.heap.push o } ∧ Fr S A w S A { w with heap := w.heap.push o } := by
 refine ⟨⟨fun b o' v hv => cell?_push (h.im b o' v hv), ?_, h.inj, h.free, h.fam, ?_, h.famInj, h.ρout, h.tlout, h.glob, fun c n hn => let ⟨cs, el, h1, h2⟩ := h.rm c n hn; ⟨cs, el, push_old h1, h2⟩⟩, ⟨.refl _, by simp, rfl, rfl, rfl, ?_, fun _ h _ => h, fun _ _ _ h => .inl h, Nat.le_refl _, fun _ _ h => .inl h⟩⟩
 ·exact fun i x hx hd => let ⟨c, o', h1, h2, h3⟩ := h.blk i x hx hd; ⟨c, o', h1, push_old h2, h3⟩
 ·exact fun φ b ec room he => let ⟨⟨c, el, h1, h2⟩, h3, h4⟩ := h.room φ b ec room he; ⟨⟨c, el, push_old h1, h2⟩, h3, h4⟩
 ·intro b hb _
  simp only [Array.getElem?_push, if_neg (Nat.ne_of_lt hb)]
theorem Inv.adopt {G : Gl} {S : Sh} {A : AH} {w : World} (h : Inv G S A w) {c : Nat} {x : ABlk} {o : Obj} (hc : w.heap[c]? = some o) (hno : ¬ Owned S A c) (him : ∀ k, S.im c k = none) (hr : BRel (S.at A.blks.length c) x o) :
  Inv G (S.at A.blks.length c) (A.push x) w := by
 have hnone := h.ρout A.blks.length (Nat.le_refl _)
 have hle := Sh.le_at hnone c
 have liveNew : ∀ {i}, (A.push x).live i → A.live i ∨ i = A.blks.length := by
  rintro i ⟨y, hy, hd⟩
  simp only [AH.push] at hy
  rcases Nat.lt_trichotomy i A.blks.length with hlt | heq | hgt
  ·rw [List.getElem?_append_left hlt] at hy; exact .inl ⟨y, hy, hd⟩
  ·exact .inr heq
  ·rw [List.getElem?_append_right (by omega)] at hy
   rw [List.getElem?_eq_none (by simp; omega)] at hy; cases hy
 have ρold : ∀ {i}, A.live i → (S.at A.blks.length c).ρ i = S.ρ i := fun {i} hi => by
  have := live_lt hi
  simp only [Sh.at]; rw [if_neg (by omega)]
 have notc : ∀ {i}, A.live i → S.ρ i ≠ some c := fun {i} hi hic => hno (.inl ⟨i, hi, hic⟩)
 refine ⟨h.im, ?_, ?_, ?_, h.fam, ?_, h.famInj, ?_, h.tlout, ?_, h.rm⟩
 ·intro i y hy hd
  simp only [AH.push] at hy
  rcases Nat.lt_trichotomy i A.blks.length with hlt | heq | hgt
  ·rw [List.getElem?_append_left hlt] at hy
   obtain ⟨d, o', h1, h2, h3⟩ := h.blk i y hy hd
   refine ⟨d, o', ?_, h2, h3.mono hle⟩
   simp only [Sh.at]; rw [if_neg (by omega)]; exact h1
  ·subst heq
   rw [List.getElem?_append_right (Nat.le_refl _)] at hy
   simp at hy; subst hy
   exact ⟨c, o, by simp [Sh.at], hc, hr⟩
  ·rw [List.getElem?_append_right (by omega), List.getElem?_eq_none (by simp; omega)] at hy; cases hy
 ·intro i j d hi hj h1 h2
  rcases liveNew hi with hi' | rfl <;> rcases liveNew hj with hj' | rfl
  ·rw [ρold hi'] at h1; rw [ρold hj'] at h2; exact h.inj i j d hi' hj' h1 h2
  ·rw [ρold hi'] at h1
   simp [Sh.at] at h2; subst h2
   exact absurd h1 (notc hi')
  ·rw [ρold hj'] at h2
   simp [Sh.at] at h1; subst h1
   exact absurd h2 (notc hj')
  ·rfl
 ·intro i d o' hi hd
  rcases liveNew hi with hi' | rfl
  ·rw [ρold hi'] at hd; exact h.free i d o' hi' hd
  ·simp [Sh.at] at hd; subst hd
   exact him o'
 ·intro φ b ec room he
  obtain ⟨h1, h3, h4⟩ := h.room φ b ec room he
  refine ⟨h1, h3, fun i hi => ?_⟩
  rcases liveNew hi with hi' | rfl
  ·rw [ρold hi']; exact h4 i hi'
  ·simp only [Sh.at, ↓reduceIte]
   intro hcb
   cases hcb
   exact hno (.inr ⟨φ, ec, room, he⟩)
 ·intro i hi
  simp only [AH.push, List.length_append, List.length_cons, List.length_nil] at hi
  simp only [Sh.at]; rw [if_neg (by omega)]; exact h.ρout i (by omega)
 ·exact fun g o x hg => let ⟨v, h1, h2⟩ := h.glob g o x hg; ⟨v, h1, h2.mono hle.bare⟩
theorem Fr.adopt {S0 S : Sh} {A0 A : AH} {w0 w : World} (h : Fr S0 A0 w0 S A w) {c : Nat} {x : ABlk} (hnone : S.ρ A.blks.length = none) (hc : w0.heap.size ≤ c) : Fr S0 A0 w0 (S.at A.blks.length c) (A.push x) w := by
 refine ⟨h.le.trans (Sh.le_at hnone c), h.size, h.os, h.tape, h.output, h.keep, ?_, h.imNew, Nat.le_trans h.len (by simp [AH.push]), fun i d hd => ?_⟩
 rotate_left
 ·rcases ρnew_at _ _ i d hd with h1 | h1
  ·exact h.ρnew i d h1
  ·exact .inr (Nat.le_trans h.len h1)
 intro b ho hb
 rcases ho with ⟨i, ⟨y, hy, hd⟩, hr⟩ | ho
 ·simp only [AH.push] at hy
  rcases Nat.lt_trichotomy i A.blks.length with hlt | heq | hgt
  ·rw [List.getElem?_append_left hlt] at hy
   simp only [Sh.at] at hr; rw [if_neg (by omega)] at hr
   exact h.own b (.inl ⟨i, ⟨y, hy, hd⟩, hr⟩) hb
  ·subst heq
   simp [Sh.at] at hr
   omega
  ·rw [List.getElem?_append_right (by omega), List.getElem?_eq_none (by simp; omega)] at hy; cases hy
 ·exact h.own b (.inr ho) hb
end Go.Am
end
section
noncomputable section
namespace Go.Am
open Go
def namesOf (ops : Array Oper) (o : Oper) : List Tmp :=
 o.dst.toList ++ (o.op.operands.toList.filterMap fun | .tmp t => some t | _ => none) ++ (match o.guard with | some (j, _) => ((ops[j]?).bind (·.dst)).toList | none => [])
def drawS (ops : Array Oper) : Bool :=
 (List.range ops.size).all fun i =>
  match ops[i]? with
  | none => true
  | some o =>
   (o.after.toList.all fun e => !Region.binds .any e || decide (e.on < i)) &&
   (List.range ops.size).all fun j =>
    match (ops[j]?).bind (·.dst) with
    | none => true
    | some t => j == i || !(namesOf ops o).contains t || bef ops i j || bef ops j i
def idxs : List Bool → Nat → List Nat
 | [], _ => []
 | true :: l, k => k :: idxs l (k + 1)
 | false :: l, k => idxs l (k + 1)
def cntI (D : Nat → Bool) : List Nat → Nat
 | [] => 0
 | k :: l => match D k with
  | true => cntI D l + 1
  | false => cntI D l
theorem cntI_idxs (D : Nat → Bool) : ∀ (l : List Bool) (k : Nat), cntI D (idxs l k) = cntF l k D
 | [], _ => rfl
 | true :: l, k => by
  simp only [idxs, cntI, cntF, Bool.true_and, cntI_idxs D l (k + 1)]
  cases D k <;> simp <;> omega
 | false :: l, k => by simp only [idxs, cntF, Bool.false_and, Bool.false_eq_true, if_false, Nat.zero_add, cntI_idxs D l (k + 1)]
theorem idxs_mem : ∀ (l : List Bool) (k i : Nat), l[i]? = some true → k + i ∈ idxs l k
 | [], _, _, h => by simp at h
 | true :: l, k, 0, _ => by simp [idxs]
 | true :: l, k, i + 1, h => by
  have := idxs_mem l (k + 1) i (by simpa using h)
  simp only [idxs]
  exact List.mem_cons_of_mem _ (by rw [show k + (i + 1) = k + 1 + i by omega]; exact this)
 | false :: l, k, 0, h => by simp at h
 | false :: l, k, i + 1, h => by
  have := idxs_mem l (k + 1) i (by simpa using h)
  simp only [idxs]
  rw [show k + (i + 1) = k + 1 + i by omega]; exact this
def drawI (ops : Array Oper) (I : List Nat) : Bool := I.all fun i => I.all fun j => j == i || bef ops i j || bef ops j i
def isFloat (ops : Array Oper) (p i : Nat) (o : Oper) : Bool :=
 match o.guard, o.op, o.dst with
 | none, .alloc _, some d => (List.range p).all fun j => j == i || match ops[j]? with | some oj => !(namesOf ops oj).contains d | none => true
 | _, _, _ => false
def tailStart (ops : Array Oper) : Nat → Nat
 | 0 => 0
 | j + 1 => if (mskA ops).getD j 0 == 2 ^ j - 1 then tailStart ops j else j + 1
section
variable (P : Program) (G : Gl) (pf : PF) (m : Mc) (rd : Option Nat) (ops : Array Oper)
def aOpF (p i : Nat) (a : AAct) (A : AH) (o : Oper) : Option (AV × AH × Bool) := if isFloat ops p i o then some (.top, A, false) else aOp1 P G pf m rd ops a A o
def dRun (p : Nat) : List Oper → Nat → AAct → AH → Option (List (AV × Bool) × List AH)
 | [], _, _, _ => some ([], [])
 | o :: rest, i, a, A =>
  match aOpF P G pf m rd ops p i a A o with
  | some (v, A', l) =>
   match dRun p rest (i + 1) (a.put o.dst v) A' with
   | some (rs, hs) => some ((v, l) :: rs, if l then A' :: hs else hs)
   | none => none
  | none => none
def winOne (p : Nat) (I : List Nat) (Hs : List AH) (i : Nat) (o : Oper) (a : AAct) (v : AV) : Bool :=
 let lo := cntI (bef ops i) I
 let hi := cntI (fun j => !bef ops j i) I
 decide (hi ≤ lo) || ((Hs.drop lo).take (hi + 1 - lo)).all fun H =>
  match aOpF P G pf m rd ops p i a H o with
  | some (v', _, l') => !l' && eqv v' v
  | none => false
def winB (p : Nat) (I : List Nat) (Hs : List AH) : List Oper → List (AV × Bool) → Nat → AAct → Bool
 | o :: rest, (v, l) :: rs, i, a => (l || winOne P G pf m rd ops p I Hs i o a v) && winB p I Hs rest rs (i + 1) (a.put o.dst v)
 | _, _, _, _ => true
def zipR : List Oper → List (AV × Bool) → List (Option Tmp × AV)
 | o :: os, (v, _) :: rs => (o.dst, v) :: zipR os rs
 | _, _ => []
def adoptAll (p : Nat) : List Oper → Nat → AAct → AH → Option (AAct × AH)
 | [], _, a, A => some (a, A)
 | o :: rest, i, a, A =>
  if isFloat ops p i o then
   match o.op with
   | .alloc t =>
    match tZero P t with
    | some x => if x.isTop then none else adoptAll p rest (i + 1) (a.put o.dst (.ptr A.blks.length 0)) (A.push (.cells x.cells t))
    | none => none
   | _ => none
  else adoptAll p rest (i + 1) a A
def aDraw (a : AAct) (A : AH) : Option (List AOut) :=
 let p := tailStart ops ops.size
 let pre := ops.toList.take p
 match dRun P G pf m rd ops p pre 0 a A with
 | some (rs, hs) =>
  let I := idxs (rs.map (·.2)) 0
  if drawS ops && drawI ops I && (I.isEmpty || winB P G pf m rd ops p I (A :: hs) pre rs 0 a) then
   match adoptAll P ops p pre 0 (actF (zipR pre rs) 0 (fun _ => true) a) (((A :: hs)[cntI (fun _ => true) I]?).getD A) with
   | some (a', A') => m.ops rd ops (ops.toList.drop p) a' A'
   | none => none
  else none
 | none => none
variable {P G pf m rd ops}
theorem actF_shift : ∀ (l : List (Option Tmp × AV)) (k : Nat) (D : Nat → Bool) (a : AAct), actF l (k + 1) D a = actF l k (fun j => D (j + 1)) a
 | [], _, _, _ => rfl
 | (d, v) :: l, k, D, a => by simp only [actF]; exact actF_shift l (k + 1) D _
theorem cntF_shift : ∀ (l : List Bool) (k : Nat) (D : Nat → Bool), cntF l (k + 1) D = cntF l k (fun j => D (j + 1))
 | [], _, _ => rfl
 | b :: l, k, D => by simp only [cntF]; rw [cntF_shift l (k + 1) D]
theorem actF_none : ∀ (l : List (Option Tmp × AV)) (k : Nat) (D : Nat → Bool) (a : AAct), (∀ j, D j = false) → actF l k D a = a
 | [], _, _, _, _ => rfl
 | (d, v) :: l, k, D, a, h => by simp only [actF, h, Bool.false_eq_true, if_false]; exact actF_none l (k + 1) D a h
theorem cntF_none : ∀ (l : List Bool) (k : Nat) (D : Nat → Bool), (∀ j, D j = false) → cntF l k D = 0
 | [], _, _, _ => rfl
 | b :: l, k, D, h => by simp only [cntF, h, Bool.and_false, Bool.false_eq_true, if_false]; rw [cntF_none l (k + 1) D h]
theorem lt_succ_fun (i : Nat) : (fun j => decide (j + 1 < i + 1)) = fun j => decide (j < i) := by
 funext j; simp
theorem quietF {p i : Nat} {a : AAct} {A A' : AH} {o : Oper} {v : AV} (h : aOpF P G pf m rd ops p i a A o = some (v, A', false)) : A' = A := by
 unfold aOpF at h
 split at h
 ·cases h; rfl
 ·exact quiet_heap h
theorem dRun_spec {p : Nat} : ∀ (l : List Oper) (k : Nat) (a : AAct) (A : AH) (rs : List (AV × Bool)) (hs : List AH), dRun P G pf m rd ops p l k a A = some (rs, hs) →
  rs.length = l.length ∧ ∀ i o, l[i]? = some o → ∃ v lb H A', rs[i]? = some (v, lb) ∧ (A :: hs)[cntF (rs.map (·.2)) 0 fun j => decide (j < i)]? = some H ∧
   aOpF P G pf m rd ops p (k + i) (actF (zipR l rs) 0 (fun j => decide (j < i)) a) H o = some (v, A', lb) ∧ (lb = true → (A :: hs)[(cntF (rs.map (·.2)) 0 fun j => decide (j < i)) + 1]? = some A')
 | [], k, a, A, rs, hs, h => by
  simp only [dRun, Option.some.injEq, Prod.mk.injEq] at h
  obtain ⟨rfl, rfl⟩ := h
  exact ⟨rfl, fun i o ho => by simp at ho⟩
 | o :: l, k, a, A, rs, hs, h => by
  simp only [dRun] at h
  split at h
  ·rename_i v A' lb h1
   split at h
   ·rename_i rs' hs' h2
    simp only [Option.some.injEq, Prod.mk.injEq] at h
    obtain ⟨rfl, rfl⟩ := h
    obtain ⟨hlen, ih⟩ := dRun_spec l _ _ _ _ _ h2
    refine ⟨by simp [hlen], ?_⟩
    intro i o' ho
    cases i with
    | zero =>
     simp at ho; subst ho
     refine ⟨v, lb, A, A', rfl, ?_, ?_, ?_⟩
     ·rw [cntF_none _ _ _ (fun j => by simp)]; rfl
     ·rw [actF_none _ _ _ _ (fun j => by simp)]; exact h1
     ·intro hlb; subst hlb
      rw [cntF_none _ _ _ (fun j => by simp)]; rfl
    | succ i =>
     obtain ⟨v', lb', H, A'', q1, q2, q3, q4⟩ := ih i o' (by simpa using ho)
     refine ⟨v', lb', H, A'', by simpa using q1, ?_, ?_, ?_⟩
     ·simp only [List.map_cons, cntF]
      rw [cntF_shift, lt_succ_fun]
      cases lb with
      | true =>
       simp only [if_true, Bool.true_and, decide_eq_true_eq, Nat.zero_lt_succ]
       rw [Nat.add_comm, List.getElem?_cons_succ]; exact q2
      | false =>
       have := quietF h1
       subst this
       simpa using q2
     ·simp only [zipR, actF]
      rw [actF_shift, lt_succ_fun]
      simp only [Nat.zero_lt_succ, decide_true, if_true]
      rw [show k + (i + 1) = k + 1 + i by omega]
      exact q3
     ·intro hlb
      have q4 := q4 hlb
      simp only [List.map_cons, cntF]
      rw [cntF_shift, lt_succ_fun]
      cases lb with
      | true =>
       simp only [if_true, Bool.true_and, decide_eq_true_eq, Nat.zero_lt_succ]
       rw [Nat.add_comm 1, Nat.add_assoc, Nat.add_comm 1, ← Nat.add_assoc, List.getElem?_cons_succ]; exact q4
      | false =>
       have := quietF h1
       subst this
       simpa using q4
   ·cases h
  ·cases h
theorem winB_nil {p : Nat} {Hs : List AH} : ∀ (l : List Oper) (rs : List (AV × Bool)) (k : Nat) (a : AAct), winB P G pf m rd ops p [] Hs l rs k a = true
 | [], _, _, _ => by unfold winB; rfl
 | o :: l, [], _, _ => by unfold winB; rfl
 | o :: l, (v, lb) :: rs, k, a => by
  simp only [winB, winB_nil l rs, winOne, cntI, Nat.le_refl, decide_true, Bool.true_or, Bool.or_true, Bool.and_true]
theorem win_all {p : Nat} {I : List Nat} {Hs : List AH} {l : List Oper} {rs : List (AV × Bool)} {k : Nat} {a : AAct} (h : (I.isEmpty || winB P G pf m rd ops p I Hs l rs k a) = true) : winB P G pf m rd ops p I Hs l rs k a = true := by
 cases I with
 | nil => exact winB_nil l rs k a
 | cons i I => simpa using h
theorem winB_spec {p : Nat} {I : List Nat} {Hs : List AH} : ∀ (l : List Oper) (rs : List (AV × Bool)) (k : Nat) (a : AAct), winB P G pf m rd ops p I Hs l rs k a = true → ∀ i o v, l[i]? = some o → rs[i]? = some (v, false) →
  winOne P G pf m rd ops p I Hs (k + i) o (actF (zipR l rs) 0 (fun j => decide (j < i)) a) v = true
 | [], _, _, _, _, i, o, v, ho, _ => by simp at ho
 | o :: l, [], _, _, _, i, _, v, _, hr => by simp at hr
 | o :: l, (v, lb) :: rs, k, a, h, 0, o', v', ho, hr => by
  simp at ho hr
  obtain ⟨rfl, rfl⟩ := hr
  subst ho
  simp only [winB, Bool.false_or, Bool.and_eq_true] at h
  rw [actF_none _ _ _ _ (fun j => by simp)]
  exact h.1
 | o :: l, (v, lb) :: rs, k, a, h, i + 1, o', v', ho, hr => by
  simp only [winB, Bool.and_eq_true] at h
  have := winB_spec l rs (k + 1) _ h.2 i o' v' (by simpa using ho) (by simpa using hr)
  simp only [zipR, actF]
  rw [actF_shift, lt_succ_fun, show k + (i + 1) = k + 1 + i by omega]
  simp only [Nat.zero_lt_succ, decide_true, if_true]
  exact this
end
end Go.Am
end