/-
  What the proof is built of: What the abstract machine's values are, and how they stand to the model's: an immutable slice is the list of its elements, a block of the call's own is a number. The abstract heap, how it stands to a world, and what three kinds of change do to that: a new block, a block that is written, a new row of cells that changes no more. The abstract heap: what can grow grows, in its own row of cells or in a new one. The abstract machine's operations on memory and on parts of values, each held against the model's. The abstract machine's operations on numbers, strings and parts, and what is equal, each held against the model's. The abstract machine's operations: fields, places in rows, slicing, boxes, conversions, each held against the model's. The abstract machine's operations: slicing, rows that are made, copies, appends, each held against the model's. The abstract machine's operations: rows that are made, appends, copies, lengths, each held against the model's. The abstract machine's operations: append, copy, make, len, min, max, conversions, each held against the model's. The abstract machine's operations: copy, make, len, min, max, conversions, assertions, each held against the model's. The abstract machine's operations on maps, assertions and methods, each held against the model's. The abstract machine's operations: ranging over maps, assertions, methods, each held against the model's. Rows that are written and grow: a block is given up; its cells become another block's. Conditions: none.
-/
import Derived.DefersIn
import Derived.RangeFuncIn
import Derived.Recover
import Derived.Laws.World
import Derived.Laws.Strings
set_option linter.unusedVariables false
set_option linter.unusedSimpArgs false
section
namespace Go.Am
open Go
inductive AV where
 | top
 | bool (b : Bool)
 | int (k : IntKind) (n : Int)
 | str (s : List UInt8)
 | nilp
 | ptr (b off : Nat)
 | gptr (g off : Nat)
 | iptr (v : AV)
 | isl (nil : Bool) (fam : Option Nat) (off : Nat) (xs : List AV)
 | msl (b off len : Nat)
 | row (b len sz : Nat)
 | map (b : Nat)
 | nilm
 | fn (f : Fn) (first cap : List AV)
 | nilf
 | iface (t : TypeId) (v : AV)
 | nili
 | agg (cs : List AV)
 | tup (vs : List AV)
 | sym (i : Nat)
 deriving Inhabited
def AV.cells : AV → List AV
 | .agg cs => cs
 | v => [v]
def AV.plain1 : AV → Bool
 | .top => false
 | .agg _ => false
 | .tup _ => false
 | .sym _ => false
 | _ => true
mutual
def AV.still : AV → Bool
 | .top => false
 | .ptr _ _ => false
 | .msl _ _ _ => false
 | .row _ _ _ => false
 | .map _ => false
 | .sym _ => false
 | .iptr v => v.still
 | .isl _ none _ xs => AV.stillL xs
 | .isl _ (some _) _ _ => false
 | .fn (.func _) xs ys => AV.stillL xs && AV.stillL ys
 | .fn _ _ _ => false
 | .iface _ v => v.still
 | .agg xs => AV.stillL xs
 | .tup xs => AV.stillL xs
 | _ => true
def AV.stillL : List AV → Bool
 | [] => true
 | x :: xs => x.still && AV.stillL xs
end
def flat : List AV → List AV
 | [] => []
 | x :: xs => x.cells ++ flat xs
structure Sh where
 X : Nat → AV
 ρ : Nat → Option Nat
 im : Nat → Nat → Option Value
 tl : Nat → Nat → Option (Nat × Nat × Nat × Nat)
 rm : Nat → Option Nat
structure Sh.le (S S' : Sh) : Prop where
 X : S'.X = S.X
 ρ : ∀ i c, S.ρ i = some c → S'.ρ i = some c
 im : ∀ b o c, S.im b o = some c → S'.im b o = some c
 tl : ∀ f e x, S.tl f e = some x → S'.tl f e = some x
 rm : ∀ c n, S.rm c = some n → S'.rm c = some n
theorem Sh.le.refl (S : Sh) : S.le S := ⟨rfl, fun _ _ h => h, fun _ _ _ h => h, fun _ _ _ h => h, fun _ _ h => h⟩
theorem Sh.le.trans {S S' S'' : Sh} (h : S.le S') (h' : S'.le S'') : S.le S'' :=
 ⟨h'.X.trans h.X, fun _ _ x => h'.ρ _ _ (h.ρ _ _ x), fun _ _ _ x => h'.im _ _ _ (h.im _ _ _ x), fun _ _ _ x => h'.tl _ _ _ (h.tl _ _ _ x), fun _ _ x => h'.rm _ _ (h.rm _ _ x)⟩
def FRel (S : Sh) : Fn → Fn → Prop
 | .yield l, g => ∃ c, S.ρ l = some c ∧ g = .yield c
 | f, g => g = f
def FamOk (S : Sh) (fam : Option Nat) (e a endc o cap sz : Nat) : Prop :=
 ∀ φ, fam = some φ → ∃ room, S.tl φ e = some (a, endc, room, sz) ∧ o + cap * sz ≤ room
mutual
inductive VRel (S : Sh) : AV → Value → Prop
 | top (v : Value) : VRel S .top v
 | bool (b : Bool) : VRel S (.bool b) (.bool b)
 | int (k : IntKind) (n : Int) : VRel S (.int k n) (.int k n)
 | str (s : List UInt8) : VRel S (.str s) (.string ⟨s.toArray⟩)
 | nilp : VRel S .nilp (.pointer none)
 | ptr (b off c : Nat) : S.ρ b = some c → VRel S (.ptr b off) (.pointer (some ⟨c, off, none⟩))
 | gptr (g off : Nat) : VRel S (.gptr g off) (.pointer (some ⟨g, off, none⟩))
 | iptr (v : AV) (a o : Nat) : CRel S v.cells a o → VRel S (.iptr v) (.pointer (some ⟨a, o, none⟩))
 | islNil (fam : Option Nat) (off : Nat) : VRel S (.isl true fam off []) (.slice none 0 0)
 | islE (off : Nat) (a : Addr) : VRel S (.isl false none off []) (.slice (some a) 0 0)
 | isl (fam : Option Nat) (off : Nat) (xs : List AV) (sz a o cap : Nat) : 0 < sz → (∀ x ∈ xs, x.cells.length = sz) → CRel S (flat xs) a o → xs.length ≤ cap →
   FamOk S fam (off + xs.length) a (o + xs.length * sz) o cap sz → VRel S (.isl false fam off xs) (.slice (some ⟨a, o, none⟩) xs.length cap)
 | msl (b off len c cap : Nat) : S.ρ b = some c → len ≤ cap → VRel S (.msl b off len) (.slice (some ⟨c, off, none⟩) len cap)
 | row (b len sz c cap room : Nat) : S.ρ b = some c → 0 < sz → len ≤ cap → S.rm c = some room → cap * sz ≤ room → VRel S (.row b len sz) (.slice (some ⟨c, 0, none⟩) len cap)
 | map (b c : Nat) : S.ρ b = some c → VRel S (.map b) (.map (some c))
 | nilm : VRel S .nilm (.map none)
 | fn (f g : Fn) (xs ys : List AV) (us vs : List Value) : FRel S f g → LRel S xs us → LRel S ys vs → VRel S (.fn f xs ys) (.func g ⟨us⟩ ⟨vs⟩)
 | nilf : VRel S .nilf .nilFunc
 | iface (t : TypeId) (x : AV) (v : Value) : VRel S x v → VRel S (.iface t x) (.iface t v)
 | nili : VRel S .nili .nilIface
 | agg (xs : List AV) (vs : List Value) : LRel S xs vs → VRel S (.agg xs) (.agg ⟨vs⟩)
 | tup (xs : List AV) (vs : List Value) : LRel S xs vs → VRel S (.tup xs) (.tuple ⟨vs⟩)
 | sym (i : Nat) (v : Value) : (S.X i).plain1 = true → (S.X i).still = true → VRel S (S.X i) v → VRel S (.sym i) v
inductive CRel (S : Sh) : List AV → Nat → Nat → Prop
 | nil (a o : Nat) : CRel S [] a o
 | cons (x : AV) (xs : List AV) (a o : Nat) (v : Value) : S.im a o = some v → VRel S x v → CRel S xs a (o + 1) → CRel S (x :: xs) a o
inductive LRel (S : Sh) : List AV → List Value → Prop
 | nil : LRel S [] []
 | cons (x : AV) (xs : List AV) (v : Value) (vs : List Value) : VRel S x v → LRel S xs vs → LRel S (x :: xs) (v :: vs)
end
theorem FRel.mono {S S' : Sh} (h : S.le S') {f g : Fn} (r : FRel S f g) : FRel S' f g := by
 cases f <;> simp only [FRel] at r ⊢ <;> first
  | exact r
  | (obtain ⟨c, h1, h2⟩ := r; exact ⟨c, h.ρ _ _ h1, h2⟩)
theorem FamOk.mono {S S' : Sh} (h : S.le S') {fam : Option Nat} {e a endc o cap sz : Nat} (r : FamOk S fam e a endc o cap sz) : FamOk S' fam e a endc o cap sz :=
 fun φ hφ => let ⟨room, h1, h2⟩ := r φ hφ; ⟨room, h.tl _ _ _ h1, h2⟩
mutual
theorem VRel.mono {S S' : Sh} (h : S.le S') : ∀ {x : AV} {v : Value}, VRel S x v → VRel S' x v
 | _, _, .top v => .top v
 | _, _, .bool b => .bool b
 | _, _, .int k n => .int k n
 | _, _, .str s => .str s
 | _, _, .nilp => .nilp
 | _, _, .ptr b o c hr => .ptr b o c (h.ρ _ _ hr)
 | _, _, .gptr g o => .gptr g o
 | _, _, .iptr v a o hc => .iptr v a o (CRel.mono h hc)
 | _, _, .islNil f o => .islNil f o
 | _, _, .islE o a => .islE o a
 | _, _, .isl f off xs sz a o cap h0 hsz hc hl hf => .isl f off xs sz a o cap h0 hsz (CRel.mono h hc) hl (hf.mono h)
 | _, _, .msl b o l c cap hr hl => .msl b o l c cap (h.ρ _ _ hr) hl
 | _, _, .row b l sz c cap room hr h0 hl hm hc => .row b l sz c cap room (h.ρ _ _ hr) h0 hl (h.rm _ _ hm) hc
 | _, _, .map b c hr => .map b c (h.ρ _ _ hr)
 | _, _, .nilm => .nilm
 | _, _, .fn f g xs ys us vs hf h1 h2 => .fn f g xs ys us vs (hf.mono h) (LRel.mono h h1) (LRel.mono h h2)
 | _, _, .nilf => .nilf
 | _, _, .iface t x v hv => .iface t x v (VRel.mono h hv)
 | _, _, .nili => .nili
 | _, _, .agg xs vs hl => .agg xs vs (LRel.mono h hl)
 | _, _, .tup xs vs hl => .tup xs vs (LRel.mono h hl)
 | _, _, .sym i v ho hs hv => .sym i v (by rw [h.X]; exact ho) (by rw [h.X]; exact hs) (by rw [h.X]; exact VRel.mono h hv)
theorem CRel.mono {S S' : Sh} (h : S.le S') : ∀ {xs : List AV} {a o : Nat}, CRel S xs a o → CRel S' xs a o
 | _, _, _, .nil a o => .nil a o
 | _, _, _, .cons x xs a o v hi hv hc => .cons x xs a o v (h.im _ _ _ hi) (VRel.mono h hv) (CRel.mono h hc)
theorem LRel.mono {S S' : Sh} (h : S.le S') : ∀ {xs : List AV} {vs : List Value}, LRel S xs vs → LRel S' xs vs
 | _, _, .nil => .nil
 | _, _, .cons x xs v vs hv hl => .cons x xs v vs (VRel.mono h hv) (LRel.mono h hl)
end
theorem AV.stillL_append : ∀ (xs ys : List AV), AV.stillL (xs ++ ys) = (AV.stillL xs && AV.stillL ys)
 | [], ys => by simp [AV.stillL]
 | x :: xs, ys => by simp [AV.stillL, AV.stillL_append xs ys, Bool.and_assoc]
theorem AV.still_cells (x : AV) (h : x.still = true) : AV.stillL x.cells = true := by
 cases x <;> first
  | (simp only [AV.cells, AV.stillL, h, Bool.true_and]; done)
  | (simpa only [AV.cells, AV.still] using h)
theorem AV.still_flat : ∀ (xs : List AV), AV.stillL xs = true → AV.stillL (flat xs) = true
 | [], _ => rfl
 | x :: xs, h => by
  simp only [AV.stillL, Bool.and_eq_true] at h
  simp only [flat, AV.stillL_append, AV.still_cells x h.1, AV.still_flat xs h.2, Bool.true_and]
mutual
theorem VRel.still {S S' : Sh} (him : ∀ b o c, S.im b o = some c → S'.im b o = some c) : ∀ {x : AV} {v : Value}, VRel S x v → x.still = true → VRel S' x v
 | _, _, .top v, h => by simp [AV.still] at h
 | _, _, .bool b, _ => .bool b
 | _, _, .int k n, _ => .int k n
 | _, _, .str s, _ => .str s
 | _, _, .nilp, _ => .nilp
 | _, _, .ptr b o c hr, h => by simp [AV.still] at h
 | _, _, .gptr g o, _ => .gptr g o
 | _, _, .iptr v a o hc, h => .iptr v a o (CRel.still him hc (AV.still_cells v (by simpa [AV.still] using h)))
 | _, _, .islNil f o, _ => .islNil f o
 | _, _, .islE o a, _ => .islE o a
 | _, _, .isl none off xs sz a o cap h0 hsz hc hl hf, h => .isl none off xs sz a o cap h0 hsz (CRel.still him hc (AV.still_flat xs (by simpa [AV.still] using h))) hl (fun φ hφ => by cases hφ)
 | _, _, .isl (some φ) off xs sz a o cap h0 hsz hc hl hf, h => by simp [AV.still] at h
 | _, _, .msl b o l c cap hr hl, h => by simp [AV.still] at h
 | _, _, .row b l sz c cap room hr h0 hl hm hc, h => by simp [AV.still] at h
 | _, _, .map b c hr, h => by simp [AV.still] at h
 | _, _, .nilm, _ => .nilm
 | _, _, .fn (.func f) g xs ys us vs hf h1 h2, h => by
  simp only [AV.still, Bool.and_eq_true] at h
  exact .fn _ g xs ys us vs hf (LRel.still him h1 h.1) (LRel.still him h2 h.2)
 | _, _, .fn f g xs ys us vs hf h1 h2, h => by
  cases f <;> first
   | (simp [AV.still] at h; done)
   | (simp only [AV.still, Bool.and_eq_true] at h
      exact .fn _ g xs ys us vs hf (LRel.still him h1 h.1) (LRel.still him h2 h.2))
 | _, _, .nilf, _ => .nilf
 | _, _, .iface t x v hv, h => .iface t x v (VRel.still him hv (by simpa [AV.still] using h))
 | _, _, .nili, _ => .nili
 | _, _, .agg xs vs hl, h => .agg xs vs (LRel.still him hl (by simpa [AV.still] using h))
 | _, _, .tup xs vs hl, h => .tup xs vs (LRel.still him hl (by simpa [AV.still] using h))
 | _, _, .sym i v ho hs hv, h => by simp [AV.still] at h
theorem CRel.still {S S' : Sh} (him : ∀ b o c, S.im b o = some c → S'.im b o = some c) : ∀ {xs : List AV} {a o : Nat}, CRel S xs a o → AV.stillL xs = true → CRel S' xs a o
 | _, _, _, .nil a o, _ => .nil a o
 | _, _, _, .cons x xs a o v hi hv hc, h => by
  simp only [AV.stillL, Bool.and_eq_true] at h
  exact .cons x xs a o v (him _ _ _ hi) (VRel.still him hv h.1) (CRel.still him hc h.2)
theorem LRel.still {S S' : Sh} (him : ∀ b o c, S.im b o = some c → S'.im b o = some c) : ∀ {xs : List AV} {vs : List Value}, LRel S xs vs → AV.stillL xs = true → LRel S' xs vs
 | _, _, .nil, _ => .nil
 | _, _, .cons x xs v vs hv hl, h => by
  simp only [AV.stillL, Bool.and_eq_true] at h
  exact .cons x xs v vs (VRel.still him hv h.1) (LRel.still him hl h.2)
end
theorem LRel.length {S : Sh} : ∀ {xs : List AV} {vs : List Value}, LRel S xs vs → xs.length = vs.length
 | _, _, .nil => rfl
 | _, _, .cons _ _ _ _ _ h => by simp [LRel.length h]
theorem LRel.get {S : Sh} : ∀ {xs : List AV} {vs : List Value}, LRel S xs vs → ∀ (i : Nat) (x : AV), xs[i]? = some x → ∃ v, vs[i]? = some v ∧ VRel S x v
 | _, _, .nil, i, x, h => by simp at h
 | _, _, .cons x xs v vs hv hl, 0, y, h => by simp at h; subst h; exact ⟨v, by simp, hv⟩
 | _, _, .cons x xs v vs hv hl, i + 1, y, h => by simp at h; obtain ⟨u, h1, h2⟩ := LRel.get hl i y h; exact ⟨u, by simpa using h1, h2⟩
theorem LRel.getD {S : Sh} {xs : List AV} {vs : List Value} (h : LRel S xs vs) (i : Nat) : VRel S ((xs[i]?).getD .top) ((vs[i]?).getD undef) := by
 cases hx : xs[i]? with
 | none => exact .top _
 | some x => obtain ⟨v, h1, h2⟩ := h.get i x hx; rw [h1]; exact h2
theorem LRel.set {S : Sh} : ∀ {xs : List AV} {vs : List Value}, LRel S xs vs → ∀ (i : Nat) {x : AV} {v : Value}, VRel S x v → LRel S (xs.set i x) (vs.set i v)
 | _, _, .nil, _, _, _, _ => .nil
 | _, _, .cons x xs v vs _ hl, 0, _, _, h => .cons _ _ _ _ h hl
 | _, _, .cons x xs v vs hv hl, i + 1, _, _, h => .cons _ _ _ _ hv (hl.set i h)
theorem LRel.append {S : Sh} : ∀ {xs : List AV} {vs : List Value} {ys : List AV} {us : List Value}, LRel S xs vs → LRel S ys us → LRel S (xs ++ ys) (vs ++ us)
 | _, _, _, _, .nil, h => h
 | _, _, _, _, .cons x xs v vs hv hl, h => .cons _ _ _ _ hv (hl.append h)
theorem LRel.take {S : Sh} : ∀ {xs : List AV} {vs : List Value}, LRel S xs vs → ∀ n, LRel S (xs.take n) (vs.take n)
 | _, _, .nil, n => by simp; exact .nil
 | _, _, .cons x xs v vs hv hl, 0 => by simp; exact .nil
 | _, _, .cons x xs v vs hv hl, n + 1 => .cons _ _ _ _ hv (hl.take n)
theorem LRel.drop {S : Sh} : ∀ {xs : List AV} {vs : List Value}, LRel S xs vs → ∀ n, LRel S (xs.drop n) (vs.drop n)
 | _, _, .nil, n => by simp; exact .nil
 | _, _, .cons x xs v vs hv hl, 0 => .cons _ _ _ _ hv hl
 | _, _, .cons x xs v vs hv hl, n + 1 => hl.drop n
theorem CRel.append {S : Sh} : ∀ {xs ys : List AV} {a o : Nat}, CRel S (xs ++ ys) a o ↔ CRel S xs a o ∧ CRel S ys a (o + xs.length)
 | [], ys, a, o => by simp; exact fun _ => .nil _ _
 | x :: xs, ys, a, o => by
  constructor
  ·intro h
   cases h with
   | cons _ _ _ _ v hi hv hc =>
    obtain ⟨h1, h2⟩ := CRel.append.1 hc
    exact ⟨.cons _ _ _ _ v hi hv h1, by rw [List.length_cons, show o + (xs.length + 1) = o + 1 + xs.length by omega]; exact h2⟩
  ·rintro ⟨h, h'⟩
   cases h with
   | cons _ _ _ _ v hi hv hc =>
    refine .cons _ _ _ _ v hi hv (CRel.append.2 ⟨hc, ?_⟩)
    rw [List.length_cons, show o + (xs.length + 1) = o + 1 + xs.length by omega] at h'
    exact h'
theorem CRel.cells {S : Sh} : ∀ {xs : List AV} {a o : Nat}, CRel S xs a o → ∃ vs, LRel S xs vs ∧ ∀ (j : Nat) (v : Value), vs[j]? = some v → S.im a (o + j) = some v
 | _, _, _, .nil a o => ⟨[], .nil, by simp⟩
 | _, _, _, .cons x xs a o v hi hv hc => by
  obtain ⟨vs, h1, h2⟩ := CRel.cells hc
  refine ⟨v :: vs, .cons _ _ _ _ hv h1, ?_⟩
  intro j u hj
  cases j with
  | zero => simp at hj; subst hj; exact hi
  | succ j => simp at hj; rw [show o + (j + 1) = o + 1 + j by omega]; exact h2 j u hj
theorem CRel.of_cells {S : Sh} : ∀ {xs : List AV} {vs : List Value} {a o : Nat}, LRel S xs vs → (∀ (j : Nat) (v : Value), vs[j]? = some v → S.im a (o + j) = some v) → CRel S xs a o
 | _, _, a, o, .nil, _ => .nil a o
 | _, _, a, o, .cons x xs v vs hv hl, h => by
  refine .cons _ _ _ _ v (by simpa using h 0 v rfl) hv (CRel.of_cells hl fun j u hj => ?_)
  have := h (j + 1) u (by simpa using hj)
  rw [show o + 1 + j = o + (j + 1) by omega]; exact this
theorem flat_length {sz : Nat} : ∀ {xs : List AV}, (∀ x ∈ xs, x.cells.length = sz) → (flat xs).length = xs.length * sz
 | [], _ => by simp [flat]
 | x :: xs, h => by
  simp only [flat, List.length_append, List.length_cons]
  rw [h x (by simp), flat_length (xs := xs) fun y hy => h y (by simp [hy]), Nat.succ_mul]; omega
theorem flat_append (xs ys : List AV) : flat (xs ++ ys) = flat xs ++ flat ys := by
 induction xs with
 | nil => rfl
 | cons x xs ih => simp [flat, ih]
theorem CRel.elem {S : Sh} {sz : Nat} : ∀ {xs : List AV} {a o : Nat}, (∀ x ∈ xs, x.cells.length = sz) → CRel S (flat xs) a o → ∀ (i : Nat) (x : AV), xs[i]? = some x → CRel S x.cells a (o + i * sz)
 | [], a, o, _, _, i, x, h => by simp at h
 | y :: xs, a, o, hs, hc, 0, x, h => by
  simp at h; subst h
  simp only [flat] at hc
  simpa using (CRel.append.1 hc).1
 | y :: xs, a, o, hs, hc, i + 1, x, h => by
  simp at h
  simp only [flat] at hc
  have := (CRel.append.1 hc).2
  rw [hs y (by simp)] at this
  have := CRel.elem (fun z hz => hs z (by simp [hz])) this i x h
  rw [show o + (i + 1) * sz = o + sz + i * sz by rw [Nat.succ_mul]; omega]; exact this
def ofV : Value → AV
 | .bool b => .bool b
 | .int k n => .int k n
 | .string s => .str s.data.toList
 | .pointer none => .nilp
 | .slice none 0 0 => .isl true none 0 []
 | .map none => .nilm
 | .nilFunc => .nilf
 | .nilIface => .nili
 | .func (.func f) ⟨[]⟩ ⟨[]⟩ => .fn (.func f) [] []
 | _ => .top
def ofVs : Value → AV
 | .agg cs => .agg (cs.toList.map ofV)
 | v => ofV v
theorem ofV_rel (S : Sh) (v : Value) : VRel S (ofV v) v := by
 unfold ofV
 split
 ·exact .bool _
 ·exact .int _ _
 ·rename_i s
  have := VRel.str (S := S) s.data.toList
  simpa using this
 ·exact .nilp
 ·exact .islNil _ _
 ·exact .nilm
 ·exact .nilf
 ·exact .nili
 ·exact .fn _ _ _ _ _ _ rfl .nil .nil
 ·exact .top _
theorem ofVl_rel (S : Sh) : ∀ (vs : List Value), LRel S (vs.map ofV) vs
 | [] => .nil
 | v :: vs => .cons _ _ _ _ (ofV_rel S v) (ofVl_rel S vs)
theorem ofVs_rel (S : Sh) (v : Value) : VRel S (ofVs v) v := by
 unfold ofVs
 split
 ·rename_i cs
  exact .agg _ _ (ofVl_rel S cs.toList)
 ·exact ofV_rel S v
theorem VRel.one_cells {S : Sh} {x : AV} {v : Value} (h : VRel S x v) (hx : x.plain1 = true) : v.cells.toList = [v] := by
 cases h <;> first
  | rfl
  | (simp [AV.plain1] at hx)
theorem VRel.cells {S : Sh} {x : AV} {v : Value} (h : VRel S x v) (hx : x ≠ .top) : LRel S x.cells v.cells.toList := by
 cases h with
 | top => exact absurd rfl hx
 | agg xs vs hl => exact hl
 | bool b => exact .cons _ _ _ _ (.bool b) .nil
 | int k n => exact .cons _ _ _ _ (.int k n) .nil
 | str s => exact .cons _ _ _ _ (.str s) .nil
 | nilp => exact .cons _ _ _ _ .nilp .nil
 | ptr b o c hr => exact .cons _ _ _ _ (.ptr b o c hr) .nil
 | gptr g o => exact .cons _ _ _ _ (.gptr g o) .nil
 | iptr v a o hc => exact .cons _ _ _ _ (.iptr v a o hc) .nil
 | islNil f o => exact .cons _ _ _ _ (.islNil f o) .nil
 | islE o a => exact .cons _ _ _ _ (.islE o a) .nil
 | isl f off xs sz a o cap h0 hsz hc hl hf => exact .cons _ _ _ _ (.isl f off xs sz a o cap h0 hsz hc hl hf) .nil
 | msl b o l c cap hr hl => exact .cons _ _ _ _ (.msl b o l c cap hr hl) .nil
 | row b l sz c cap room hr h0 hl hm hc => exact .cons _ _ _ _ (.row b l sz c cap room hr h0 hl hm hc) .nil
 | map b c hr => exact .cons _ _ _ _ (.map b c hr) .nil
 | nilm => exact .cons _ _ _ _ .nilm .nil
 | fn f g xs ys us vs hf h1 h2 => exact .cons _ _ _ _ (.fn f g xs ys us vs hf h1 h2) .nil
 | nilf => exact .cons _ _ _ _ .nilf .nil
 | iface t x v hv => exact .cons _ _ _ _ (.iface t x v hv) .nil
 | nili => exact .cons _ _ _ _ .nili .nil
 | sym i v ho hs hv => rw [hv.one_cells ho]; exact .cons _ _ _ _ (.sym i v ho hs hv) .nil
 | tup xs vs hl => exact .cons _ _ _ _ (.tup xs vs hl) .nil
end Go.Am
end
section
namespace Go.Am
open Go
inductive ABlk where
 | cells (cs : List AV) (elem : TypeId)
 | map (es : List (AV × AV × Nat)) (clock : Nat)
 | iter (m : Option Nat) (since : Nat) (seen : List Nat) (stepped : Nat)
 | loop (state : LoopState) (pending : Option Code) (tmps : List AV) (params : Array Tmp) (assign body : Code) (defers : Nat)
 | defers
 | dead
 deriving Inhabited
structure AH where
 blks : List ABlk
 fams : List (Nat × Nat)
def AH.live (A : AH) (i : Nat) : Prop := ∃ x, A.blks[i]? = some x ∧ x ≠ .dead
def AH.push (A : AH) (x : ABlk) : AH := { A with blks := A.blks ++ [x] }
def AH.put (A : AH) (i : Nat) (x : ABlk) : AH := { A with blks := A.blks.set i x }
def AH.grow (A : AH) (n sz : Nat) : AH := { A with fams := A.fams ++ [(n, sz)] }
inductive MRel (S : Sh) : List (AV × AV × Nat) → List MapEntry → Prop
 | nil : MRel S [] []
 | cons (k x : AV) (n : Nat) (es : List (AV × AV × Nat)) (u v : Value) (ms : List MapEntry) : VRel S k u → VRel S x v → MRel S es ms → MRel S ((k, x, n) :: es) (⟨u, v, n⟩ :: ms)
theorem MRel.mono {S S' : Sh} (h : S.le S') : ∀ {es : List (AV × AV × Nat)} {ms : List MapEntry}, MRel S es ms → MRel S' es ms
 | _, _, .nil => .nil
 | _, _, .cons k x n es u v ms h1 h2 h3 => .cons k x n es u v ms (h1.mono h) (h2.mono h) (h3.mono h)
inductive BRel (S : Sh) : ABlk → Obj → Prop
 | cells (cs : List AV) (elem : TypeId) (vs rest : List Value) : LRel S cs vs → BRel S (.cells cs elem) (.cells ⟨vs ++ rest⟩ elem (0, 0))
 | map (es : List (AV × AV × Nat)) (clock : Nat) (ms : List MapEntry) : MRel S es ms → BRel S (.map es clock) (.map ⟨ms⟩ clock)
 | iterNil (since : Nat) (seen : List Nat) (stepped : Nat) : BRel S (.iter none since seen stepped) (.mapIter none since ⟨seen⟩ stepped)
 | iter (m c since : Nat) (seen : List Nat) (stepped : Nat) : S.ρ m = some c → BRel S (.iter (some m) since seen stepped) (.mapIter (some c) since ⟨seen⟩ stepped)
 | loop (state : LoopState) (pending : Option Code) (tmps : List AV) (vs : List Value) (params : Array Tmp) (assign body : Code) (defers d : Nat) (fn : FuncId) :
   LRel S tmps vs → S.ρ defers = some d → BRel S (.loop state pending tmps params assign body defers) (.loop { state, pending, fn, tmps := ⟨vs⟩, params, assign, body, defers := d })
 | defers : BRel S .defers (.deferred (some []))
theorem BRel.mono {S S' : Sh} (h : S.le S') {x : ABlk} {o : Obj} (r : BRel S x o) : BRel S' x o := by
 cases r with
 | cells cs elem vs rest hl => exact .cells cs elem vs rest (hl.mono h)
 | map es clock ms hm => exact .map es clock ms (hm.mono h)
 | iterNil a b c => exact .iterNil a b c
 | iter m c a b d hr => exact .iter m c a b d (h.ρ _ _ hr)
 | loop st p ts vs ps as bd df d fn hl hr => exact .loop st p ts vs ps as bd df d fn (hl.mono h) (h.ρ _ _ hr)
 | defers => exact .defers
abbrev Gl := Nat → Nat → Option AV
def Sh.bare (S : Sh) : Sh := { X := S.X, ρ := fun _ => none, im := S.im, tl := fun _ _ => none, rm := fun _ => none }
theorem Sh.bare_le (S : Sh) : S.bare.le S := ⟨rfl, fun _ _ h => by simp [Sh.bare] at h, fun _ _ _ h => h, fun _ _ _ h => by simp [Sh.bare] at h, fun _ _ h => by simp [Sh.bare] at h⟩
theorem Sh.le.bare {S S' : Sh} (h : S.le S') : S.bare.le S'.bare := ⟨h.X, fun _ _ h => by simp [Sh.bare] at h, h.im, fun _ _ _ h => by simp [Sh.bare] at h, fun _ _ h => by simp [Sh.bare] at h⟩
def AH.ends (A : AH) (S : Sh) (φ b ec room : Nat) : Prop := ∃ e sz, A.fams[φ]? = some (e, sz) ∧ S.tl φ e = some (b, ec, room, sz)
structure Inv (G : Gl) (S : Sh) (A : AH) (w : World) : Prop where
 im : ∀ b o v, S.im b o = some v → w.cell? ⟨b, o, none⟩ = some v
 blk : ∀ i x, A.blks[i]? = some x → x ≠ .dead → ∃ c o, S.ρ i = some c ∧ w.heap[c]? = some o ∧ BRel S x o
 inj : ∀ i j c, A.live i → A.live j → S.ρ i = some c → S.ρ j = some c → i = j
 free : ∀ i c o, A.live i → S.ρ i = some c → S.im c o = none
 fam : ∀ φ e sz, A.fams[φ]? = some (e, sz) → ∃ b ec room, S.tl φ e = some (b, ec, room, sz)
 room : ∀ φ b ec room, A.ends S φ b ec room → (∃ c el, w.heap[b]? = some (.cells c el (0, 0)) ∧ c.size = room) ∧ (∀ o, ec ≤ o → S.im b o = none) ∧ (∀ i, A.live i → S.ρ i ≠ some b)
 famInj : ∀ φ ψ b ec room ec' room', A.ends S φ b ec room → A.ends S ψ b ec' room' → φ = ψ
 ρout : ∀ i, A.blks.length ≤ i → S.ρ i = none
 tlout : ∀ φ e x, S.tl φ e = some x → ∃ e0 sz, A.fams[φ]? = some (e0, sz) ∧ e ≤ e0
 glob : ∀ g o x, G g o = some x → ∃ v, S.im g o = some v ∧ VRel S.bare x v
 rm : ∀ c n, S.rm c = some n → ∃ cs el, w.heap[c]? = some (.cells cs el (0, 0)) ∧ cs.size = n
def Owned (S : Sh) (A : AH) (b : Nat) : Prop := (∃ i, A.live i ∧ S.ρ i = some b) ∨ ∃ φ ec room, A.ends S φ b ec room
structure Fr (S : Sh) (A : AH) (w : World) (S' : Sh) (A' : AH) (w' : World) : Prop where
 le : S.le S'
 size : w.heap.size ≤ w'.heap.size
 os : w'.os = w.os
 tape : w'.tape = w.tape
 output : w'.output = w.output
 keep : ∀ b, b < w.heap.size → ¬ Owned S A b → w'.heap[b]? = w.heap[b]?
 own : ∀ b, Owned S' A' b → b < w.heap.size → Owned S A b
 imNew : ∀ b o v, S'.im b o = some v → S.im b o = some v ∨ w.heap.size ≤ b ∨ Owned S A b
 len : A.blks.length ≤ A'.blks.length
 ρnew : ∀ i c, S'.ρ i = some c → S.ρ i = some c ∨ A.blks.length ≤ i
theorem Fr.refl (S : Sh) (A : AH) (w : World) : Fr S A w S A w := ⟨.refl _, Nat.le_refl _, rfl, rfl, rfl, fun _ _ _ => rfl, fun _ h _ => h, fun _ _ _ h => .inl h, Nat.le_refl _, fun _ _ h => .inl h⟩
theorem Fr.trans {S S' S'' : Sh} {A A' A'' : AH} {w w' w'' : World} (h : Fr S A w S' A' w') (k : Fr S' A' w' S'' A'' w'') : Fr S A w S'' A'' w'' := by
 refine ⟨h.le.trans k.le, Nat.le_trans h.size k.size, k.os.trans h.os, k.tape.trans h.tape, k.output.trans h.output, ?_, ?_, ?_, Nat.le_trans h.len k.len, ?_⟩
 ·intro b hb hn
  rw [k.keep b (Nat.lt_of_lt_of_le hb h.size) fun ho => hn (h.own b ho hb)]
  exact h.keep b hb hn
 ·intro b ho hb
  exact h.own b (k.own b ho (Nat.lt_of_lt_of_le hb h.size)) hb
 ·intro b o v hv
  rcases k.imNew b o v hv with h1 | h1 | h1
  ·exact h.imNew b o v h1
  ·exact .inr (.inl (Nat.le_trans h.size h1))
  ·by_cases hb : b < w.heap.size
   ·exact .inr (.inr (h.own b h1 hb))
   ·exact .inr (.inl (by omega))
 ·intro i c hc
  rcases k.ρnew i c hc with h1 | h1
  ·exact h.ρnew i c h1
  ·exact .inr (Nat.le_trans h.len h1)
theorem Inv.drew {G : Gl} {S : Sh} {A : AH} {w : World} (h : Inv G S A w) (n : Nat) : Inv G S A { w with drawn := n } ∧ Fr S A w S A { w with drawn := n } :=
 ⟨⟨h.im, h.blk, h.inj, h.free, h.fam, h.room, h.famInj, h.ρout, h.tlout, h.glob, h.rm⟩, ⟨.refl _, Nat.le_refl _, rfl, rfl, rfl, fun _ _ _ => rfl, fun _ h _ => h, fun _ _ _ h => .inl h, Nat.le_refl _, fun _ _ h => .inl h⟩⟩
theorem live_lt {A : AH} {i : Nat} (h : A.live i) : i < A.blks.length := by
 obtain ⟨x, hx, _⟩ := h
 exact (List.getElem?_eq_some_iff.1 hx).1
theorem Inv.lt {G : Gl} {S : Sh} {A : AH} {w : World} (h : Inv G S A w) {b : Nat} (ho : Owned S A b) : b < w.heap.size := by
 rcases ho with ⟨i, ⟨x, hx, hd⟩, hr⟩ | ⟨φ, ec, room, he⟩
 ·obtain ⟨c, o, h1, h2, _⟩ := h.blk i x hx hd
  obtain rfl := Option.some.inj (h1.symm.trans hr)
  exact (Array.getElem?_eq_some_iff.1 h2).1
 ·obtain ⟨⟨c, el, h1, _⟩, _⟩ := h.room φ b ec room he
  exact (Array.getElem?_eq_some_iff.1 h1).1
theorem Inv.imlt {G : Gl} {S : Sh} {A : AH} {w : World} (h : Inv G S A w) {b o : Nat} {v : Value} (hi : S.im b o = some v) : b < w.heap.size := by
 have := h.im b o v hi
 unfold World.cell? at this
 split at this
 ·rename_i c _ _ hh
  exact (Array.getElem?_eq_some_iff.1 hh).1
 ·cases this
def Sh.at (S : Sh) (i c : Nat) : Sh := { S with ρ := fun j => if j = i then some c else S.ρ j }
theorem Sh.le_at {S : Sh} {i : Nat} (h : S.ρ i = none) (c : Nat) : S.le (S.at i c) :=
 ⟨rfl, fun j d hj => by simp only [Sh.at]; split <;> simp_all, fun _ _ _ h => h, fun _ _ _ h => h, fun _ _ h => h⟩
theorem cell?_push {w : World} {o : Obj} {a : Addr} {v : Value} (h : w.cell? a = some v) : ({ w with heap := w.heap.push o } : World).cell? a = some v := by
 unfold World.cell? at h ⊢
 split at h
 ·rename_i c e f hh
  have hlt := (Array.getElem?_eq_some_iff.1 hh).1
  simp only [Array.getElem?_push, if_neg (Nat.ne_of_lt hlt), hh]
  exact h
 ·cases h
theorem push_old {w : World} {o o' : Obj} {b : Nat} (h : w.heap[b]? = some o') : ({ w with heap := w.heap.push o } : World).heap[b]? = some o' := by
 have hlt := (Array.getElem?_eq_some_iff.1 h).1
 simp only [Array.getElem?_push, if_neg (Nat.ne_of_lt hlt), h]
theorem ρnew_at {S : Sh} (n c : Nat) : ∀ i d, (S.at n c).ρ i = some d → S.ρ i = some d ∨ n ≤ i := by
 intro i d h
 simp only [Sh.at] at h
 split at h
 ·rename_i hi; exact .inr (by omega)
 ·exact .inl h
theorem Inv.push {G : Gl} {S : Sh} {A : AH} {w : World} (h : Inv G S A w) {x : ABlk} {o : Obj} (_hx : x ≠ .dead) (hr : BRel (S.at A.blks.length w.heap.size) x o) :
  Inv G (S.at A.blks.length w.heap.size) (A.push x) { w with heap := w.heap.push o } ∧ Fr S A w (S.at A.blks.length w.heap.size) (A.push x) { w with heap := w.heap.push o } := by
 have hnone := h.ρout A.blks.length (Nat.le_refl _)
 have hle := Sh.le_at hnone w.heap.size
 have liveOld : ∀ {i}, A.live i → (A.push x).live i := fun {i} ⟨y, hy, hd⟩ => ⟨y, by
  have := (List.getElem?_eq_some_iff.1 hy).1
  simp only [AH.push]; rw [List.getElem?_append_left this]; exact hy, hd⟩
 have liveNew : ∀ {i}, (A.push x).live i → A.live i ∨ i = A.blks.length := by
  rintro i ⟨y, hy, hd⟩
  simp only [AH.push] at hy
  rcases Nat.lt_trichotomy i A.blks.length with hlt | heq | hgt
  ·rw [List.getElem?_append_left hlt] at hy; exact .inl ⟨y, hy, hd⟩
  ·exact .inr heq
  ·rw [List.getElem?_append_right (by omega)] at hy
   rw [List.getElem?_eq_none (by simp; omega)] at hy; cases hy
 have ρold : ∀ {i}, A.live i → (S.at A.blks.length w.heap.size).ρ i = S.ρ i := fun {i} hi => by
  have := live_lt hi
  simp only [Sh.at]; rw [if_neg (by omega)]
 have ownedLt : ∀ {i c}, A.live i → S.ρ i = some c → c < w.heap.size := fun hi hc => h.lt (.inl ⟨_, hi, hc⟩)
 have endsEq : ∀ {φ b ec room}, (A.push x).ends (S.at A.blks.length w.heap.size) φ b ec room → A.ends S φ b ec room := fun h => h
 constructor
 ·refine ⟨?_, ?_, ?_, ?_, h.fam, ?_, ?_, ?_, h.tlout, ?_, fun c n hn => let ⟨cs, el, h1, h2⟩ := h.rm c n hn; ⟨cs, el, push_old h1, h2⟩⟩
  ·exact fun b o v hv => cell?_push (h.im b o v hv)
  ·intro i y hy hd
   simp only [AH.push] at hy
   rcases Nat.lt_trichotomy i A.blks.length with hlt | heq | hgt
   ·rw [List.getElem?_append_left hlt] at hy
    obtain ⟨c, o', h1, h2, h3⟩ := h.blk i y hy hd
    refine ⟨c, o', ?_, push_old h2, h3.mono hle⟩
    simp only [Sh.at]; rw [if_neg (by omega)]; exact h1
   ·subst heq
    rw [List.getElem?_append_right (Nat.le_refl _)] at hy
    simp at hy; subst hy
    exact ⟨w.heap.size, o, by simp [Sh.at], by simp, hr⟩
   ·rw [List.getElem?_append_right (by omega)] at hy
    rw [List.getElem?_eq_none (by simp; omega)] at hy; cases hy
  ·intro i j c hi hj h1 h2
   rcases liveNew hi with hi' | rfl <;> rcases liveNew hj with hj' | rfl
   ·rw [ρold hi'] at h1; rw [ρold hj'] at h2; exact h.inj i j c hi' hj' h1 h2
   ·rw [ρold hi'] at h1
    have := ownedLt hi' h1
    simp [Sh.at] at h2; omega
   ·rw [ρold hj'] at h2
    have := ownedLt hj' h2
    simp [Sh.at] at h1; omega
   ·rfl
  ·intro i c o' hi hc
   rcases liveNew hi with hi' | rfl
   ·rw [ρold hi'] at hc; exact h.free i c o' hi' hc
   ·simp [Sh.at] at hc; subst hc
    cases him : S.im w.heap.size o' with
    | none => exact him
    | some v => exact absurd (h.imlt him) (by omega)
  ·intro φ b ec room he
   obtain ⟨⟨c, el, h1, h2⟩, h3, h4⟩ := h.room φ b ec room (endsEq he)
   refine ⟨⟨c, el, push_old h1, h2⟩, h3, fun i hi => ?_⟩
   rcases liveNew hi with hi' | rfl
   ·rw [ρold hi']; exact h4 i hi'
   ·have := (Array.getElem?_eq_some_iff.1 h1).1
    simp [Sh.at]; omega
  ·exact fun φ ψ b ec room ec' room' h1 h2 => h.famInj φ ψ b ec room ec' room' h1 h2
  ·intro i hi
   simp only [AH.push, List.length_append, List.length_cons, List.length_nil] at hi
   simp only [Sh.at]; rw [if_neg (by omega)]; exact h.ρout i (by omega)
  ·exact fun g o x hg => let ⟨v, h1, h2⟩ := h.glob g o x hg; ⟨v, h1, h2.mono hle.bare⟩
 ·refine ⟨hle, by simp, rfl, rfl, rfl, ?_, ?_, fun _ _ _ h => .inl h, by simp [AH.push], ρnew_at _ _⟩
  ·intro b hb _
   simp only [Array.getElem?_push, if_neg (Nat.ne_of_lt hb)]
  ·intro b ho hb
   rcases ho with ⟨i, hi, hr⟩ | ho
   ·rcases liveNew hi with hi' | rfl
    ·rw [ρold hi'] at hr; exact .inl ⟨i, hi', hr⟩
    ·simp [Sh.at] at hr; omega
   ·exact .inr ho
theorem Inv.put {G : Gl} {S : Sh} {A : AH} {w : World} (h : Inv G S A w) {i c : Nat} {x : ABlk} {o : Obj} (hi : A.live i) (hc : S.ρ i = some c) (hx : x ≠ .dead) (hr : BRel S x o)
  {w' : World} (hw : w'.heap[c]? = some o) (hk : ∀ b, b ≠ c → w'.heap[b]? = w.heap[b]?) (hs : w'.heap.size = w.heap.size) (hos : w'.os = w.os) (htape : w'.tape = w.tape) (hout : w'.output = w.output)
  (hsz : ∀ cs el, w.heap[c]? = some (.cells cs el (0, 0)) → ∃ cs' el', o = .cells cs' el' (0, 0) ∧ cs'.size = cs.size) :
  Inv G S (A.put i x) w' ∧ Fr S A w S (A.put i x) w' := by
 have hlt := live_lt hi
 have liveIff : ∀ {j}, (A.put i x).live j ↔ A.live j := by
  intro j
  simp only [AH.live, AH.put, List.getElem?_set]
  by_cases hij : i = j
  ·subst hij
   simp only [if_pos hlt, ↓reduceIte]
   exact ⟨fun _ => hi, fun _ => ⟨x, rfl, hx⟩⟩
  ·simp only [if_neg hij]
 have cellKeep : ∀ b o' v, b ≠ c → w.cell? ⟨b, o', none⟩ = some v → w'.cell? ⟨b, o', none⟩ = some v := by
  intro b o' v hb hv
  unfold World.cell? at hv ⊢
  simp only at hv ⊢
  rw [hk b hb]; exact hv
 constructor
 ·refine ⟨?_, ?_, ?_, ?_, h.fam, ?_, h.famInj, ?_, h.tlout, h.glob, ?_⟩
  ·intro b o' v hv
   refine cellKeep b o' v ?_ (h.im b o' v hv)
   rintro rfl
   rw [h.free i b o' hi hc] at hv; cases hv
  ·intro j y hy hd
   simp only [AH.put, List.getElem?_set] at hy
   by_cases hij : i = j
   ·subst hij
    simp only [if_pos hlt, ↓reduceIte, Option.some.injEq] at hy
    subst hy
    exact ⟨c, o, hc, hw, hr⟩
   ·simp only [if_neg hij] at hy
    obtain ⟨d, o', h1, h2, h3⟩ := h.blk j y hy hd
    refine ⟨d, o', h1, ?_, h3⟩
    rw [hk d]; exact h2
    rintro rfl
    exact hij (h.inj i j d hi ⟨y, hy, hd⟩ hc h1)
  ·exact fun j k d hj hk' => h.inj j k d (liveIff.1 hj) (liveIff.1 hk')
  ·exact fun j d o' hj => h.free j d o' (liveIff.1 hj)
  ·intro φ b ec room he
   obtain ⟨⟨c', el, h1, h2⟩, h3, h4⟩ := h.room φ b ec room he
   refine ⟨⟨c', el, ?_, h2⟩, h3, fun j hj => h4 j (liveIff.1 hj)⟩
   rw [hk b]; exact h1
   rintro rfl
   exact h4 i hi hc
  ·intro j hj
   simp only [AH.put, List.length_set] at hj
   exact h.ρout j hj
  ·intro d n hn
   obtain ⟨cs, el, h1, h2⟩ := h.rm d n hn
   by_cases hdc : d = c
   ·subst hdc
    obtain ⟨cs', el', h3, h4⟩ := hsz cs el h1
    subst h3
    exact ⟨cs', el', hw, h4.trans h2⟩
   ·exact ⟨cs, el, by rw [hk d hdc]; exact h1, h2⟩
 ·refine ⟨.refl _, Nat.le_of_eq hs.symm, hos, htape, hout, ?_, ?_, fun _ _ _ h => .inl h, by simp [AH.put], fun _ _ h => .inl h⟩
  ·intro b hb hn
   refine hk b ?_
   rintro rfl
   exact hn (.inl ⟨i, hi, hc⟩)
  ·intro b ho _
   rcases ho with ⟨j, hj, hr'⟩ | ho
   ·exact .inl ⟨j, liveIff.1 hj, hr'⟩
   ·exact .inr ho
def Sh.row (S : Sh) (b : Nat) (vs : List Value) (φ n room sz : Nat) : Sh :=
 { S with im := fun b' o => if b' = b then vs[o]? else S.im b' o, tl := fun ψ e => if ψ = φ then (if e = n then some (b, vs.length, room, sz) else none) else S.tl ψ e }
theorem Inv.row {G : Gl} {S : Sh} {A : AH} {w : World} (h : Inv G S A w) (vs rest : List Value) (el : TypeId) (n sz : Nat) :
  let S' := S.row w.heap.size vs A.fams.length n (vs ++ rest).length sz
  let w' : World := { w with heap := w.heap.push (.cells ⟨vs ++ rest⟩ el (0, 0)) }
  Inv G S' (A.grow n sz) w' ∧ Fr S A w S' (A.grow n sz) w' := by
 intro S' w'
 have tlnone : ∀ e, S.tl A.fams.length e = none := by
  intro e
  cases hx : S.tl A.fams.length e with
  | none => rfl
  | some x =>
   obtain ⟨e0, _, h1, _⟩ := h.tlout _ _ _ hx
   rw [List.getElem?_eq_none (Nat.le_refl _)] at h1; cases h1
 have imnone : ∀ o, S.im w.heap.size o = none := by
  intro o
  cases hx : S.im w.heap.size o with
  | none => rfl
  | some v => exact absurd (h.imlt hx) (by omega)
 have hle : S.le S' := by
  refine ⟨rfl, fun _ _ h => h, ?_, ?_, fun _ _ h => h⟩
  ·intro b o v hv
   have := h.imlt hv
   simp only [S', Sh.row]; rw [if_neg (by omega)]; exact hv
  ·intro ψ e x hx
   simp only [S', Sh.row]
   rw [if_neg ?_]; exact hx
   rintro rfl
   rw [tlnone] at hx; cases hx
 have endsNew : ∀ {φ b ec room}, (A.grow n sz).ends S' φ b ec room → A.ends S φ b ec room ∨ (φ = A.fams.length ∧ b = w.heap.size ∧ ec = vs.length ∧ room = (vs ++ rest).length) := by
  rintro φ b ec room ⟨e, sz', h1, h2⟩
  simp only [AH.grow] at h1
  simp only [S', Sh.row] at h2
  rcases Nat.lt_trichotomy φ A.fams.length with hlt | heq | hgt
  ·rw [List.getElem?_append_left hlt] at h1
   rw [if_neg (by omega)] at h2
   exact .inl ⟨e, sz', h1, h2⟩
  ·subst heq
   rw [List.getElem?_append_right (Nat.le_refl _)] at h1
   simp at h1; obtain ⟨rfl, rfl⟩ := h1
   simp at h2
   obtain ⟨rfl, rfl, rfl⟩ := h2
   exact .inr ⟨rfl, rfl, rfl, by simp⟩
  ·rw [List.getElem?_append_right (by omega), List.getElem?_eq_none (by simp; omega)] at h1; cases h1
 constructor
 ·refine ⟨?_, ?_, h.inj, ?_, ?_, ?_, ?_, h.ρout, ?_, ?_, fun c n hn => let ⟨cs, el, h1, h2⟩ := h.rm c n hn; ⟨cs, el, push_old h1, h2⟩⟩
  ·intro b o v hv
   simp only [S', Sh.row] at hv
   by_cases hb : b = w.heap.size
   ·subst hb
    rw [if_pos rfl] at hv
    have hlt := (List.getElem?_eq_some_iff.1 hv).1
    simp only [w', World.cell?, Array.getElem?_push, if_pos]
    simp [List.getElem?_append_left hlt, hv]
   ·rw [if_neg hb] at hv
    exact cell?_push (h.im b o v hv)
  ·intro i y hy hd
   obtain ⟨c, o, h1, h2, h3⟩ := h.blk i y hy hd
   exact ⟨c, o, h1, push_old h2, h3.mono hle⟩
  ·intro i c o hi hc
   have := h.lt (.inl ⟨i, hi, hc⟩)
   simp only [S', Sh.row]; rw [if_neg (by omega)]; exact h.free i c o hi hc
  ·intro φ e sz' he
   simp only [AH.grow] at he
   rcases Nat.lt_trichotomy φ A.fams.length with hlt | heq | hgt
   ·rw [List.getElem?_append_left hlt] at he
    obtain ⟨b, ec, room, h1⟩ := h.fam φ e sz' he
    exact ⟨b, ec, room, hle.tl _ _ _ h1⟩
   ·subst heq
    rw [List.getElem?_append_right (Nat.le_refl _)] at he
    simp at he; obtain ⟨rfl, rfl⟩ := he
    exact ⟨w.heap.size, vs.length, (vs ++ rest).length, by simp [S', Sh.row]⟩
   ·rw [List.getElem?_append_right (by omega), List.getElem?_eq_none (by simp; omega)] at he; cases he
  ·intro φ b ec room he
   rcases endsNew he with he' | ⟨rfl, rfl, rfl, rfl⟩
   ·obtain ⟨⟨c, el', h1, h2⟩, h3, h4⟩ := h.room φ b ec room he'
    have := (Array.getElem?_eq_some_iff.1 h1).1
    refine ⟨⟨c, el', push_old h1, h2⟩, fun o ho => ?_, h4⟩
    simp only [S', Sh.row]; rw [if_neg (by omega)]; exact h3 o ho
   ·refine ⟨⟨⟨vs ++ rest⟩, el, by simp [w'], by simp⟩, fun o ho => ?_, fun i hi hc => ?_⟩
    ·simp only [S', Sh.row, if_pos]
     exact List.getElem?_eq_none ho
    ·have := h.lt (.inl ⟨i, hi, hc⟩); omega
  ·intro φ ψ b ec room ec' room' h1 h2
   rcases endsNew h1 with h1' | ⟨rfl, rfl, rfl, rfl⟩ <;> rcases endsNew h2 with h2' | ⟨rfl, h2b, rfl, rfl⟩
   ·exact h.famInj φ ψ b ec room ec' room' h1' h2'
   ·subst h2b
    have := h.lt (.inr ⟨φ, ec, room, h1'⟩); omega
   ·have := h.lt (.inr ⟨ψ, ec', room', h2'⟩); omega
   ·rfl
  ·intro φ e x hx
   simp only [S', Sh.row] at hx
   by_cases hφ : φ = A.fams.length
   ·subst hφ
    simp at hx
    exact ⟨n, sz, by simp [AH.grow], by omega⟩
   ·rw [if_neg hφ] at hx
    obtain ⟨e0, sz', h1, h2⟩ := h.tlout φ e x hx
    have := (List.getElem?_eq_some_iff.1 h1).1
    exact ⟨e0, sz', by simp only [AH.grow]; rw [List.getElem?_append_left this]; exact h1, h2⟩
  ·exact fun g o x hg => let ⟨v, h1, h2⟩ := h.glob g o x hg; ⟨v, hle.im _ _ _ h1, h2.mono hle.bare⟩
 ·refine ⟨hle, by simp [w'], rfl, rfl, rfl, ?_, ?_, ?_, by simp [AH.grow], fun _ _ h => .inl h⟩
  ·intro b hb _
   simp only [w', Array.getElem?_push, if_neg (Nat.ne_of_lt hb)]
  ·intro b ho hb
   rcases ho with ho | ⟨φ, ec, room, he⟩
   ·exact .inl ho
   ·rcases endsNew he with he' | ⟨rfl, rfl, rfl, rfl⟩
    ·exact .inr ⟨φ, ec, room, he'⟩
    ·omega
  ·intro b o v hv
   simp only [S', Sh.row] at hv
   by_cases hb : b = w.heap.size
   ·exact .inr (.inl (by omega))
   ·rw [if_neg hb] at hv; exact .inl hv
end Go.Am
end
section
namespace Go.Am
open Go
def AH.reach (A : AH) (φ n sz : Nat) : AH := { A with fams := A.fams.set φ (n, sz) }
def Sh.more (S : Sh) (b lo : Nat) (vs : List Value) (φ n room sz : Nat) : Sh :=
 { S with im := fun b' o => if b' = b ∧ lo ≤ o ∧ o < lo + vs.length then vs[o - lo]? else S.im b' o, tl := fun ψ e => if ψ = φ ∧ e = n then some (b, lo + vs.length, room, sz) else S.tl ψ e }
theorem Inv.more_aux {G : Gl} {S : Sh} {A : AH} {w : World} (h : Inv G S A w) {φ e n sz : Nat} (he : A.fams[φ]? = some (e, sz)) (hn : e < n) {b lo : Nat} (vs : List Value) (room : Nat)
  (hfree : ∀ o, lo ≤ o → S.im b o = none) (hlive : ∀ i, A.live i → S.ρ i ≠ some b)
  (hfam : ∀ ψ ec' room', A.ends S ψ b ec' room' → ψ = φ)
  {w' : World} (hcell : ∀ o v, S.im b o = some v → w'.cell? ⟨b, o, none⟩ = some v) (hnew : ∀ j v, vs[j]? = some v → w'.cell? ⟨b, lo + j, none⟩ = some v)
  (hblk : ∃ c el, w'.heap[b]? = some (.cells c el (0, 0)) ∧ c.size = room) (hk : ∀ b', b' ≠ b → b' < w.heap.size → w'.heap[b']? = w.heap[b']?)
  (hs : w.heap.size ≤ w'.heap.size) (hos : w'.os = w.os) (htape : w'.tape = w.tape) (hout : w'.output = w.output)
  (hown : b < w.heap.size → Owned S A b) (hrm : ∀ k, S.rm b = some k → k = room) :
  Inv G (S.more b lo vs φ n room sz) (A.reach φ n sz) w' ∧ Fr S A w (S.more b lo vs φ n room sz) (A.reach φ n sz) w' := by
 have hφ := (List.getElem?_eq_some_iff.1 he).1
 have hle : S.le (S.more b lo vs φ n room sz) := by
  refine ⟨rfl, fun _ _ h => h, ?_, ?_, fun _ _ h => h⟩
  ·intro b' o v hv
   simp only [Sh.more]
   rw [if_neg]; exact hv
   rintro ⟨rfl, h1, _⟩
   rw [hfree o h1] at hv; cases hv
  ·intro ψ e' x hx
   simp only [Sh.more]
   rw [if_neg]; exact hx
   rintro ⟨rfl, rfl⟩
   obtain ⟨e0, _, h1, h2⟩ := h.tlout _ _ _ hx
   rw [he] at h1; cases h1; omega
 have keepCell : ∀ b' o v, b' ≠ b → w.cell? ⟨b', o, none⟩ = some v → w'.cell? ⟨b', o, none⟩ = some v := by
  intro b' o v hb hv
  unfold World.cell? at hv ⊢
  simp only at hv ⊢
  rw [hk b' hb]
  ·exact hv
  ·split at hv
   ·rename_i hh; exact (Array.getElem?_eq_some_iff.1 hh).1
   ·cases hv
 have endsOf : ∀ {ψ b' ec room'}, (A.reach φ n sz).ends (S.more b lo vs φ n room sz) ψ b' ec room' → (ψ ≠ φ ∧ A.ends S ψ b' ec room') ∨ (ψ = φ ∧ b' = b ∧ ec = lo + vs.length ∧ room' = room) := by
  rintro ψ b' ec room' ⟨e', sz', h1, h2⟩
  simp only [AH.reach, List.getElem?_set] at h1
  simp only [Sh.more] at h2
  by_cases hψ : φ = ψ
  ·subst hψ
   simp only [hφ, ↓reduceIte, Option.some.injEq, Prod.mk.injEq] at h1
   obtain ⟨rfl, rfl⟩ := h1
   simp at h2
   exact .inr ⟨rfl, h2.1.symm, h2.2.1.symm, h2.2.2.symm⟩
  ·simp only [if_neg hψ] at h1
   rw [if_neg (fun hh => hψ hh.1.symm)] at h2
   exact .inl ⟨fun hh => hψ hh.symm, e', sz', h1, h2⟩
 constructor
 ·refine ⟨?_, ?_, h.inj, ?_, ?_, ?_, ?_, h.ρout, ?_, ?_, ?_⟩
  ·intro b' o v hv
   simp only [Sh.more] at hv
   by_cases hb : b' = b ∧ lo ≤ o ∧ o < lo + vs.length
   ·rw [if_pos hb] at hv
    obtain ⟨rfl, h1, _⟩ := hb
    have := hnew (o - lo) v hv
    rw [show lo + (o - lo) = o by omega] at this; exact this
   ·rw [if_neg hb] at hv
    by_cases hb' : b' = b
    ·subst hb'; exact hcell o v hv
    ·exact keepCell b' o v hb' (h.im b' o v hv)
  ·intro i y hy hd
   obtain ⟨c, o, h1, h2, h3⟩ := h.blk i y hy hd
   refine ⟨c, o, h1, ?_, h3.mono hle⟩
   rw [hk c]
   ·exact h2
   ·rintro rfl; exact hlive i ⟨y, hy, hd⟩ h1
   ·exact (Array.getElem?_eq_some_iff.1 h2).1
  ·intro i c o hi hc
   simp only [Sh.more]
   rw [if_neg]
   ·exact h.free i c o hi hc
   ·rintro ⟨rfl, _⟩; exact hlive i hi hc
  ·intro ψ e' sz' he'
   simp only [AH.reach, List.getElem?_set] at he'
   by_cases hψ : φ = ψ
   ·subst hψ
    simp only [hφ, ↓reduceIte, Option.some.injEq, Prod.mk.injEq] at he'
    obtain ⟨rfl, rfl⟩ := he'
    exact ⟨b, lo + vs.length, room, by simp [Sh.more]⟩
   ·simp only [if_neg hψ] at he'
    obtain ⟨b', ec, room', h1⟩ := h.fam ψ e' sz' he'
    exact ⟨b', ec, room', hle.tl _ _ _ h1⟩
  ·intro ψ b' ec room' hE
   rcases endsOf hE with ⟨hψ, hE'⟩ | ⟨rfl, rfl, rfl, rfl⟩
   ·obtain ⟨⟨c, el, h1, h2⟩, h3, h4⟩ := h.room ψ b' ec room' hE'
    have hb : b' ≠ b := by rintro rfl; exact hψ (hfam ψ ec room' hE')
    refine ⟨⟨c, el, ?_, h2⟩, fun o ho => ?_, h4⟩
    ·rw [hk b' hb (Array.getElem?_eq_some_iff.1 h1).1]; exact h1
    ·simp only [Sh.more]; rw [if_neg (fun hh => hb hh.1)]; exact h3 o ho
   ·refine ⟨hblk, fun o ho => ?_, hlive⟩
    simp only [Sh.more]; rw [if_neg (by omega)]; exact hfree o (by omega)
  ·intro ψ χ b' ec room' ec' room'' h1 h2
   rcases endsOf h1 with ⟨h1a, h1'⟩ | ⟨rfl, rfl, rfl, rfl⟩ <;> rcases endsOf h2 with ⟨h2a, h2'⟩ | ⟨h2b, h2c, _, _⟩
   ·exact h.famInj ψ χ b' ec room' ec' room'' h1' h2'
   ·subst h2b h2c; exact hfam ψ ec room' h1'
   ·exact (hfam χ ec' room'' h2').symm
   ·exact h2b.symm
  ·intro ψ e' x hx
   simp only [Sh.more] at hx
   by_cases hψ : ψ = φ
   ·subst hψ
    refine ⟨n, sz, by simp [AH.reach, hφ], ?_⟩
    by_cases h' : e' = n
    ·omega
    ·rw [if_neg (fun hh => h' hh.2)] at hx
     obtain ⟨e0, _, h1, h2⟩ := h.tlout _ _ _ hx
     rw [he] at h1; cases h1; omega
   ·rw [if_neg (fun hh => hψ hh.1)] at hx
    obtain ⟨e0, sz', h1, h2⟩ := h.tlout _ _ _ hx
    refine ⟨e0, sz', ?_, h2⟩
    simp only [AH.reach, List.getElem?_set]
    rw [if_neg (fun hh => hψ hh.symm)]; exact h1
  ·exact fun g o x hg => let ⟨v, h1, h2⟩ := h.glob g o x hg; ⟨v, hle.im _ _ _ h1, h2.mono hle.bare⟩
  ·intro d k hd
   by_cases hdb : d = b
   ·subst hdb
    obtain ⟨c, el, h1, h2⟩ := hblk
    exact ⟨c, el, h1, h2.trans (hrm k hd).symm⟩
   ·obtain ⟨cs, el, h1, h2⟩ := h.rm d k hd
    exact ⟨cs, el, by rw [hk d hdb (Array.getElem?_eq_some_iff.1 h1).1]; exact h1, h2⟩
 ·refine ⟨hle, hs, hos, htape, hout, ?_, ?_, ?_, by simp [AH.reach], fun _ _ h => .inl h⟩
  ·intro b' hb hn'
   refine hk b' ?_ hb
   rintro rfl
   exact hn' (hown hb)
  ·intro b' ho hb
   rcases ho with ho | ⟨ψ, ec, room', hE⟩
   ·exact .inl ho
   ·rcases endsOf hE with ⟨_, hE'⟩ | ⟨rfl, rfl, rfl, rfl⟩
    ·exact .inr ⟨ψ, ec, room', hE'⟩
    ·exact hown hb
  ·intro b' o v hv
   simp only [Sh.more] at hv
   by_cases hb : b' = b ∧ lo ≤ o ∧ o < lo + vs.length
   ·obtain ⟨rfl, _⟩ := hb
    by_cases hlt : b' < w.heap.size
    ·exact .inr (.inr (hown hlt))
    ·exact .inr (.inl (by omega))
   ·rw [if_neg hb] at hv; exact .inl hv
theorem Inv.reachRow {G : Gl} {S : Sh} {A : AH} {w : World} (h : Inv G S A w) {φ e n sz : Nat} (he : A.fams[φ]? = some (e, sz)) (hn : e < n) (vs rest : List Value) (el : TypeId) :
  let S' := S.more w.heap.size 0 vs φ n (vs ++ rest).length sz
  let w' : World := { w with heap := w.heap.push (.cells ⟨vs ++ rest⟩ el (0, 0)) }
  Inv G S' (A.reach φ n sz) w' ∧ Fr S A w S' (A.reach φ n sz) w' := by
 intro S' w'
 have himn : ∀ o, S.im w.heap.size o = none := by
  intro o
  cases hx : S.im w.heap.size o with
  | none => rfl
  | some v => exact absurd (h.imlt hx) (by omega)
 refine h.more_aux he hn vs _ (fun o _ => himn o) (fun i hi hc => ?_) (fun ψ ec' room' hE => ?_) (fun o v hv => ?_) (fun j v hj => ?_) ⟨⟨vs ++ rest⟩, el, by simp [w'], by simp⟩ (fun b' _ hlt => ?_) (by simp [w']) rfl rfl rfl (fun hb => absurd hb (by omega)) (fun k hk => ?_)
 ·have := h.lt (.inl ⟨i, hi, hc⟩); omega
 ·have := h.lt (.inr ⟨ψ, ec', room', hE⟩); omega
 ·rw [himn] at hv; cases hv
 ·have hlt := (List.getElem?_eq_some_iff.1 hj).1
  simp [w', World.cell?, List.getElem?_append_left hlt, hj]
 ·simp only [w', Array.getElem?_push, if_neg (Nat.ne_of_lt hlt)]
 ·obtain ⟨cs, el, h1, _⟩ := h.rm _ _ hk
  have := (Array.getElem?_eq_some_iff.1 h1).1
  omega
theorem Inv.reachHere {G : Gl} {S : Sh} {A : AH} {w : World} (h : Inv G S A w) {φ e n b ec room sz : Nat} (he : A.fams[φ]? = some (e, sz)) (hn : e < n) (ht : S.tl φ e = some (b, ec, room, sz)) (vs : List Value)
  {w' : World} {c : Array Value} {el : TypeId} (hw : w'.heap[b]? = some (.cells c el (0, 0))) (hc : c.size = room) (hold : ∀ o, o < ec → w'.cell? ⟨b, o, none⟩ = w.cell? ⟨b, o, none⟩)
  (hnew : ∀ j v, vs[j]? = some v → w'.cell? ⟨b, ec + j, none⟩ = some v) (hk : ∀ b', b' ≠ b → w'.heap[b']? = w.heap[b']?) (hs : w'.heap.size = w.heap.size) (hos : w'.os = w.os) (htape : w'.tape = w.tape) (hout : w'.output = w.output) :
  Inv G (S.more b ec vs φ n room sz) (A.reach φ n sz) w' ∧ Fr S A w (S.more b ec vs φ n room sz) (A.reach φ n sz) w' := by
 have hE : A.ends S φ b ec room := ⟨e, sz, he, ht⟩
 obtain ⟨⟨c0, el0, g1, g2⟩, h3, h4⟩ := h.room φ b ec room hE
 refine h.more_aux he hn vs room h3 h4 (fun ψ ec' room' hE' => h.famInj ψ φ b ec' room' ec room hE' hE) (fun o v hv => ?_) hnew ⟨c, el, hw, hc⟩ (fun b' hb _ => hk b' hb) (Nat.le_of_eq hs.symm) hos htape hout (fun _ => .inr ⟨φ, ec, room, hE⟩) (fun k hk' => ?_)
 ·have : o < ec := by
   rcases Nat.lt_or_ge o ec with h' | h'
   ·exact h'
   ·rw [h3 o h'] at hv; cases hv
  rw [hold o this]; exact h.im b o v hv
 ·obtain ⟨cs, el', k1, k2⟩ := h.rm _ _ hk'
  rw [g1] at k1
  cases k1
  exact k2.symm.trans g2
def Sh.know (S : Sh) (c n : Nat) : Sh := { S with rm := fun d => if d = c then some n else S.rm d }
theorem Inv.know {G : Gl} {S : Sh} {A : AH} {w : World} (h : Inv G S A w) {c : Nat} {cs : Array Value} {el : TypeId} (hc : w.heap[c]? = some (.cells cs el (0, 0))) :
  Inv G (S.know c cs.size) A w ∧ Fr S A w (S.know c cs.size) A w := by
 have hle : S.le (S.know c cs.size) := by
  refine ⟨rfl, fun _ _ h => h, fun _ _ _ h => h, fun _ _ _ h => h, fun d n hn => ?_⟩
  simp only [Sh.know]
  by_cases hd : d = c
  ·subst hd
   obtain ⟨cs', el', h1, h2⟩ := h.rm d n hn
   rw [hc] at h1
   cases h1
   rw [if_pos rfl, h2]
  ·rw [if_neg hd]; exact hn
 constructor
 ·refine ⟨h.im, ?_, h.inj, h.free, h.fam, h.room, h.famInj, h.ρout, h.tlout, ?_, ?_⟩
  ·exact fun i x hx hd => let ⟨d, o, h1, h2, h3⟩ := h.blk i x hx hd; ⟨d, o, h1, h2, h3.mono hle⟩
  ·exact fun g o x hg => let ⟨v, h1, h2⟩ := h.glob g o x hg; ⟨v, h1, h2.mono hle.bare⟩
  ·intro d n hn
   simp only [Sh.know] at hn
   by_cases hd : d = c
   ·subst hd
    rw [if_pos rfl] at hn
    cases hn
    exact ⟨cs, el, hc, rfl⟩
   ·rw [if_neg hd] at hn
    exact h.rm d n hn
 ·exact ⟨hle, Nat.le_refl _, rfl, rfl, rfl, fun _ _ _ => rfl, fun _ h _ => h, fun _ _ _ h => .inl h, Nat.le_refl _, fun _ _ h => .inl h⟩
end Go.Am
end
section
namespace Go.Am
open Go
section types
variable (P : Program)
def tAgg (t : TypeId) : Option Bool :=
 match P.underlying t with
 | some (.struct _) | some (.array _ _) => some true
 | some _ => some false
 | none => none
def tSize (t : TypeId) : Option Nat := (P.info? t).map (·.size)
def tZero (t : TypeId) : Option AV := ((P.info? t).bind (·.zero)).map ofVs
variable {P}
theorem run_underlying {t : TypeId} {d : TypeDesc} (h : P.underlying t = some d) (w : World) : (underlying t).run P w = .ok d w := by
 simp [underlying, h]
theorem run_typeInfo {t : TypeId} {i : TypeInfo} (h : P.info? t = some i) (w : World) : (typeInfo t).run P w = .ok i w := by
 simp [typeInfo, h]
theorem run_sizeOf {t : TypeId} {n : Nat} (h : tSize P t = some n) (w : World) : (sizeOf t).run P w = .ok n w := by
 simp only [tSize, Option.map_eq_some_iff] at h
 obtain ⟨i, h1, rfl⟩ := h
 simp [sizeOf, run_typeInfo h1]
theorem run_isAgg {t : TypeId} {b : Bool} (h : tAgg P t = some b) (w : World) : (isAgg t).run P w = .ok b w := by
 unfold tAgg at h
 split at h
 ·rename_i d hd; cases h; simp [isAgg, run_underlying hd]
 ·rename_i d hd; cases h; simp [isAgg, run_underlying hd]
 ·rename_i d hne hne' hd
  cases h
  simp only [isAgg, Sem.run_bind, run_underlying hd, Result.andThen_ok]
  cases d <;> first
   | exact absurd rfl (fun e => hne _ e)
   | exact absurd rfl (fun e => hne' _ _ e)
   | rfl
 ·cases h
theorem run_zeroValue {t : TypeId} {x : AV} (h : tZero P t = some x) (w : World) : ∃ v, (zeroValue t).run P w = .ok v w ∧ x = ofVs v := by
 simp only [tZero, Option.map_eq_some_iff, Option.bind_eq_some_iff] at h
 obtain ⟨v, ⟨i, h1, h2⟩, rfl⟩ := h
 exact ⟨v, by simp [zeroValue, run_typeInfo h1, h2], rfl⟩
end types
theorem add_mk (b o n : Nat) : (⟨b, o, none⟩ : Addr).add n = ⟨b, o + n, none⟩ := by
 unfold Addr.add; split
 ·rename_i h; subst h; rfl
 ·rfl
theorem run_loadCellsFrom {P : Program} {w : World} {b : Nat} : ∀ (vs : List Value) (o i : Nat) (acc : Array Value), (∀ (j : Nat) v, vs[j]? = some v → w.cell? ⟨b, o + (i + j), none⟩ = some v) →
  (loadCellsFrom ⟨b, o, none⟩ i vs.length acc).run P w = .ok (acc ++ vs.toArray) w
 | [], o, i, acc, _ => by simp [loadCellsFrom]
 | v :: vs, o, i, acc, h => by
  have h0 := h 0 v rfl
  have ih := run_loadCellsFrom (P := P) (w := w) (b := b) vs o (i + 1) (acc.push v) (fun j u hj => by
   have := h (j + 1) u (by simpa using hj)
   rw [show i + 1 + j = i + (j + 1) by omega]; exact this)
  simp only [List.length_cons, loadCellsFrom, Sem.run_bind, add_mk, run_load, Nat.add_zero] at h0 ⊢
  simp only [h0, Result.andThen_ok, ih]
  simp
theorem run_loadCells {P : Program} {w : World} {b o n : Nat} {vs : List Value} (hn : vs.length = n) (h : ∀ (j : Nat) v, vs[j]? = some v → w.cell? ⟨b, o + j, none⟩ = some v) :
  (loadCells ⟨b, o, none⟩ n).run P w = .ok vs.toArray w := by
 subst hn
 have := run_loadCellsFrom (P := P) (w := w) (b := b) vs o 0 #[] (fun j v hj => by simpa using h j v hj)
 simpa [loadCells] using this
def over {α : Type} : List α → Nat → List α → List α
 | l, _, [] => l
 | l, k, v :: vs => over (l.set k v) (k + 1) vs
theorem over_length {α : Type} : ∀ (vs l : List α) (k : Nat), (over l k vs).length = l.length
 | [], l, k => rfl
 | v :: vs, l, k => by simp [over, over_length vs]
theorem over_append {α : Type} : ∀ (vs l r : List α) (k : Nat), k + vs.length ≤ l.length → over (l ++ r) k vs = over l k vs ++ r
 | [], l, r, k, _ => rfl
 | v :: vs, l, r, k, h => by
  simp only [over, List.length_cons] at h ⊢
  rw [List.set_append_left _ _ (by omega)]
  exact over_append vs _ r (k + 1) (by simp; omega)
theorem over_lt {α : Type} : ∀ (vs l : List α) (k o : Nat), o < k → (over l k vs)[o]? = l[o]?
 | [], l, k, o, _ => rfl
 | v :: vs, l, k, o, h => by
  simp only [over]
  rw [over_lt vs _ (k + 1) o (by omega), List.getElem?_set, if_neg (by omega)]
theorem over_new {α : Type} : ∀ (vs l : List α) (k j : Nat) (v : α), k + vs.length ≤ l.length → vs[j]? = some v → (over l k vs)[k + j]? = some v
 | [], l, k, j, v, _, h => by simp at h
 | u :: vs, l, k, 0, v, hl, h => by
  simp at h; subst h
  simp only [over, List.length_cons] at hl ⊢
  rw [show k + 0 = k by omega, over_lt vs _ (k + 1) k (by omega), List.getElem?_set_self (by omega)]
 | u :: vs, l, k, j + 1, v, hl, h => by
  simp at h
  simp only [over, List.length_cons] at hl ⊢
  have := over_new vs (l.set k u) (k + 1) j v (by simp; omega) h
  rw [show k + (j + 1) = k + 1 + j by omega]; exact this
theorem LRel.over {S : Sh} : ∀ {ys : List AV} {us : List Value} {xs : List AV} {vs : List Value} (k : Nat), LRel S ys us → LRel S xs vs → LRel S (over xs k ys) (over vs k us)
 | _, _, _, _, _, .nil, h => h
 | _, _, _, _, k, .cons y ys u us hy hl, h => LRel.over (k + 1) hl (h.set k hy)
theorem run_storeCells {P : Program} {el : TypeId} {c : Nat} : ∀ (vs : List Value) (w : World) (l : List Value) (o i : Nat), w.heap[c]? = some (.cells ⟨l⟩ el (0, 0)) → o + i + vs.length ≤ l.length →
  (∀ v ∈ vs, v.oneCell' = true) → ∃ w', (storeCells ⟨c, o, none⟩ vs i).run P w = .ok () w' ∧ w'.heap[c]? = some (.cells ⟨over l (o + i) vs⟩ el (0, 0)) ∧ (∀ b, b ≠ c → w'.heap[b]? = w.heap[b]?) ∧
   w'.heap.size = w.heap.size ∧ w'.os = w.os ∧ w'.tape = w.tape ∧ w'.output = w.output
 | [], w, l, o, i, h, _, _ => ⟨w, by simp [storeCells], by simpa [over] using h, fun _ _ => rfl, rfl, rfl, rfl, rfl⟩
 | v :: vs, w, l, o, i, h, hl, h1 => by
  simp only [List.length_cons] at hl
  have hc : w.cell? ⟨c, o + i, none⟩ = some (l[o + i]'(by omega)) := by
   unfold World.cell?; simp [h]
  have hf : w.frozen? ⟨c, o + i, none⟩ = false := by
   unfold World.frozen?; simp [h]
  have hw : (w.setCell ⟨c, o + i, none⟩ v).heap[c]? = some (.cells ⟨l.set (o + i) v⟩ el (0, 0)) := by
   simp [World.setCell, Array.getElem?_modify, h]
  obtain ⟨w', r1, r2, r3, r4, r5, r6, r7⟩ := run_storeCells (P := P) (el := el) vs (w.setCell ⟨c, o + i, none⟩ v) (l.set (o + i) v) o (i + 1) hw (by simp; omega) (fun u hu => h1 u (by simp [hu]))
  refine ⟨w', ?_, ?_, ?_, ?_, r5, r6, r7⟩
  ·simp only [storeCells, Sem.run_bind, add_mk, run_store P w _ v _ (h1 v (by simp)), hc, hf]
   simpa using r1
  ·simp only [over]; rw [show o + i + 1 = o + (i + 1) by omega]; exact r2
  ·intro b hb
   rw [r3 b hb]
   simp [World.setCell, Array.getElem?_modify, Ne.symm hb]
  ·rw [r4]; simp [World.setCell]
def AV.one : AV → Bool
 | .top | .agg _ | .tup _ => false
 | _ => true
theorem VRel.plain1 {S : Sh} {x : AV} {v : Value} (h : VRel S x v) (hx : x.plain1 = true) : v.oneCell' = true := by
 cases h <;> first | rfl | (simp [AV.plain1] at hx; done) | simp [Value.oneCell']
theorem VRel.one {S : Sh} {x : AV} {v : Value} (h : VRel S x v) (hx : x.one = true) : v.oneCell' = true := by
 cases h with
 | sym i v ho _ hv => exact hv.plain1 ho
 | _ => first | rfl | (simp [AV.one] at hx; done) | simp [Value.oneCell']
theorem LRel.ones {S : Sh} : ∀ {xs : List AV} {vs : List Value}, LRel S xs vs → xs.all AV.one = true → ∀ v ∈ vs, v.oneCell' = true
 | _, _, .nil, _, v, hv => by cases hv
 | _, _, .cons x xs u us h hl, ha, v, hv => by
  simp at ha
  rcases List.mem_cons.1 hv with rfl | hv
  ·exact h.one ha.1
  ·exact hl.ones (by simpa using ha.2) v hv
def AV.isTop : AV → Bool
 | .top => true
 | _ => false
/-! ### Memory -/
section mem
variable (P : Program) (G : Gl)
def gCells (g off : Nat) : Nat → Option (List AV)
 | 0 => some []
 | n + 1 => match G g off, gCells g (off + 1) n with
  | some x, some xs => some (x :: xs)
  | _, _ => none
def aLoad (A : AH) (t : TypeId) : AV → Option AV
 | .ptr b off =>
  match A.blks[b]?, tAgg P t, tSize P t with
  | some (.cells cs _), some true, some n => if off + n ≤ cs.length then some (.agg ((cs.drop off).take n)) else none
  | some (.cells cs _), some false, _ => cs[off]?
  | _, _, _ => none
 | .iptr v =>
  match tAgg P t, tSize P t, v with
  | some true, some n, .agg cs => if cs.length = n then some (.agg cs) else none
  | some true, _, _ => none
  | some false, _, .agg _ => none
  | some false, _, v => some v
  | none, _, _ => none
 | .gptr g off =>
  match tAgg P t, tSize P t with
  | some true, some n => (gCells G g off n).map .agg
  | some false, _ => G g off
  | _, _ => none
 | _ => none
variable {P G}
theorem cell_of_heap {w : World} {c o : Nat} {l : Array Value} {el : TypeId} {fz : Nat × Nat} (h : w.heap[c]? = some (.cells l el fz)) : w.cell? ⟨c, o, none⟩ = l[o]? := by
 unfold World.cell?; simp [h]
theorem gCells_rel {S : Sh} {A : AH} {w : World} (h : Inv G S A w) : ∀ (n g off : Nat) (xs : List AV), gCells G g off n = some xs → xs.length = n ∧ CRel S xs g off
 | 0, g, off, xs, hx => by simp [gCells] at hx; subst hx; exact ⟨rfl, .nil _ _⟩
 | n + 1, g, off, xs, hx => by
  simp only [gCells] at hx
  split at hx
  ·rename_i x ys h1 h2
   cases hx
   obtain ⟨h3, h4⟩ := gCells_rel h n g (off + 1) ys h2
   obtain ⟨v, h5, h6⟩ := h.glob g off x h1
   exact ⟨by simp [h3], .cons _ _ _ _ v h5 (h6.mono S.bare_le) h4⟩
  ·cases hx
theorem aLoad_ok {S : Sh} {A : AH} {w : World} (h : Inv G S A w) {t : TypeId} {a x : AV} {u : Value} (ha : VRel S a u) (hx : aLoad P G A t a = some x) :
  ∃ v, (Instr.loadAt t u).run P w = .ok v w ∧ VRel S x v := by
 unfold aLoad at hx
 split at hx
 ·-- a block of the call's own
  rename_i b off
  cases ha with
  | ptr _ _ c hc =>
  split at hx
  ·rename_i cs el n hb hagg hn
   split at hx <;> cases hx
   rename_i hle
   obtain ⟨c', o, h1, h2, h3⟩ := h.blk b _ hb (by simp)
   obtain rfl := Option.some.inj (h1.symm.trans hc)
   cases h3 with
   | cells _ _ vs rest hl =>
   have hlen := hl.length
   have hcells := run_loadCells (P := P) (w := w) (b := c') (o := off) (n := n) (vs := (vs.drop off).take n) (by simp; omega) (fun j v hj => by
    rw [cell_of_heap h2]
    rw [List.getElem?_take] at hj
    split at hj
    ·simp only [List.getElem?_drop] at hj
     simpa [List.getElem?_append_left (List.getElem?_eq_some_iff.1 hj).1] using hj
    ·cases hj)
   refine ⟨.agg ⟨(vs.drop off).take n⟩, ?_, .agg _ _ ((hl.drop off).take n)⟩
   simp [Instr.loadAt, Instr.sureAddr, loadVar, run_isAgg hagg, run_sizeOf hn, hcells]
  ·rename_i cs el _ hb hagg
   obtain ⟨c', o, h1, h2, h3⟩ := h.blk b _ hb (by simp)
   obtain rfl := Option.some.inj (h1.symm.trans hc)
   cases h3 with
   | cells _ _ vs rest hl =>
   obtain ⟨v, h4, h5⟩ := hl.get off x hx
   have hcell : w.cell? ⟨c', off, none⟩ = some v := by
    rw [cell_of_heap h2]
    simpa [List.getElem?_append_left (List.getElem?_eq_some_iff.1 h4).1] using h4
   exact ⟨v, by simp [Instr.loadAt, Instr.sureAddr, loadVar, run_isAgg hagg, hcell], h5⟩
  ·cases hx
 ·-- what never changes
  rename_i y
  cases ha with
  | iptr _ b o hc =>
  split at hx
  ·rename_i n cs hagg hn
   split at hx <;> cases hx
   rename_i hlen
   obtain ⟨vs, h1, h2⟩ := CRel.cells hc
   simp only [AV.cells] at h1
   have hcells := run_loadCells (P := P) (w := w) (b := b) (o := o) (n := n) (vs := vs) (by rw [← h1.length]; exact hlen) (fun j v hj => h.im _ _ _ (h2 j v hj))
   exact ⟨.agg ⟨vs⟩, by simp [Instr.loadAt, Instr.sureAddr, loadVar, run_isAgg hagg, run_sizeOf hn, hcells], .agg _ _ h1⟩
  ·cases hx
  ·cases hx
  ·rename_i hagg hna
   cases hx
   have hxc : x.cells = [x] := by
    unfold AV.cells; split
    ·rename_i cs; exact absurd rfl (hna cs)
    ·rfl
   rw [hxc] at hc
   cases hc with
   | cons _ _ _ _ v hi hv _ =>
    exact ⟨v, by simp [Instr.loadAt, Instr.sureAddr, loadVar, run_isAgg hagg, h.im _ _ _ hi], hv⟩
  ·cases hx
 ·rename_i g off
  cases ha
  split at hx
  ·rename_i n hagg hn
   simp only [Option.map_eq_some_iff] at hx
   obtain ⟨xs, hx, rfl⟩ := hx
   obtain ⟨hlen, hc⟩ := gCells_rel h n g off xs hx
   obtain ⟨vs, h1, h2⟩ := CRel.cells hc
   have hcells := run_loadCells (P := P) (w := w) (b := g) (o := off) (n := n) (vs := vs) (by rw [← h1.length]; exact hlen) (fun j v hj => h.im _ _ _ (h2 j v hj))
   exact ⟨.agg ⟨vs⟩, by simp [Instr.loadAt, Instr.sureAddr, loadVar, run_isAgg hagg, run_sizeOf hn, hcells], .agg _ _ h1⟩
  ·rename_i hagg
   obtain ⟨v, hi, hv⟩ := h.glob g off x hx
   exact ⟨v, by simp [Instr.loadAt, Instr.sureAddr, loadVar, run_isAgg hagg, h.im _ _ _ hi], hv.mono S.bare_le⟩
  ·cases hx
 ·cases hx
variable (P) in
def aStore (A : AH) (t : TypeId) (a x : AV) : Option AH :=
 match a with
 | .ptr b off =>
  match A.blks[b]?, tSize P t with
  | some (.cells cs el), some n =>
   if x.cells.length = n ∧ off + n ≤ cs.length ∧ x.cells.all AV.one then some (A.put b (.cells (over cs off x.cells) el)) else none
  | _, _ => none
 | _ => none
theorem aStore_ok {S : Sh} {A A' : AH} {w : World} (h : Inv G S A w) {t : TypeId} {a x : AV} {u v : Value} (ha : VRel S a u) (hv : VRel S x v) (hx : aStore P A t a x = some A') :
  ∃ w', (Instr.storeAt t u v).run P w = .ok () w' ∧ Inv G S A' w' ∧ Fr S A w S A' w' := by
 unfold aStore at hx
 split at hx
 ·rename_i b off
  cases ha with
  | ptr _ _ c hc =>
  split at hx
  ·rename_i cs el n hb hn
   split at hx <;> cases hx
   rename_i hle
   obtain ⟨hlen, hle, hone⟩ := hle
   obtain ⟨c', o, h1, h2, h3⟩ := h.blk b _ hb (by simp)
   obtain rfl := Option.some.inj (h1.symm.trans hc)
   cases h3 with
   | cells _ _ vs rest hl =>
   have hxt : x ≠ .top := by rintro rfl; simp [AV.cells, AV.one] at hone
   have hcl := hv.cells hxt
   have hlen' : v.cells.toList.length = n := by rw [← hcl.length]; exact hlen
   have hvl := hl.length
   obtain ⟨w', r1, r2, r3, r4, r5, r6, r7⟩ := run_storeCells (P := P) (el := el) (c := c') v.cells.toList w (vs ++ rest) off 0 h2 (by simp; simp at hlen'; omega) (hcl.ones hone)
   rw [Nat.add_zero, over_append _ _ _ _ (by omega)] at r2
   obtain ⟨i1, i2⟩ := h.put (x := .cells (over cs off x.cells) el) ⟨_, hb, by simp⟩ hc (by simp) (.cells _ _ _ _ (LRel.over off hcl hl)) r2 r3 r4 r5 r6 r7 (fun cs' el' hh => by rw [h2] at hh; cases hh; exact ⟨_, _, rfl, by simp [over_length]⟩)
   refine ⟨w', ?_, i1, i2⟩
   have hsz : v.cells.size = n := by simpa using hlen'
   simp [Instr.storeAt, Instr.sureAddr, storeVar, run_sizeOf hn, hsz, r1]
  ·cases hx
 ·cases hx
end mem
end Go.Am
end
section
namespace Go.Am
open Go
section parts
variable (P : Program)
def aPart (t : TypeId) (cs : List AV) (off : Nat) : Option AV :=
 match tAgg P t, tSize P t with
 | some true, some n => if off + n ≤ cs.length then some (.agg ((cs.drop off).take n)) else none
 | some false, _ => cs[off]?
 | _, _ => none
variable {P}
theorem aPart_ok {S : Sh} {t : TypeId} {cs : List AV} {vs : List Value} {off : Nat} {x : AV} (h : LRel S cs vs) (hx : aPart P t cs off = some x) (w : World) :
  ∃ v, (part t ⟨vs⟩ off).run P w = .ok v w ∧ VRel S x v := by
 unfold aPart at hx
 split at hx
 ·rename_i n hagg hn
  split at hx <;> cases hx
  refine ⟨.agg ⟨(vs.drop off).take n⟩, ?_, .agg _ _ ((h.drop off).take n)⟩
  simp [part, run_isAgg hagg, run_sizeOf hn]
 ·rename_i hagg
  obtain ⟨v, h1, h2⟩ := h.get off x hx
  exact ⟨v, by simp [part, run_isAgg hagg, h1], h2⟩
 ·cases hx
end parts
/-! ### Numbers, strings -/
def aInt (op : BinOp) (k : IntKind) (a b : Int) : Option AV :=
 match op with
 | .add => some (.int k (k.wrap (a + b)))
 | .sub => some (.int k (k.wrap (a - b)))
 | .mul => some (.int k (k.wrap (a * b)))
 | .quo => if b = 0 then none else some (.int k (k.wrap (a.tdiv b)))
 | .rem => if b = 0 then none else some (.int k (a.tmod b))
 | .and => some (.int k (k.wrap (BitVec.ofInt k.bits a &&& BitVec.ofInt k.bits b).toNat))
 | .or => some (.int k (k.wrap (BitVec.ofInt k.bits a ||| BitVec.ofInt k.bits b).toNat))
 | .xor => some (.int k (k.wrap (BitVec.ofInt k.bits a ^^^ BitVec.ofInt k.bits b).toNat))
 | .andNot => some (.int k (k.wrap (BitVec.ofInt k.bits a &&& ~~~BitVec.ofInt k.bits b).toNat))
 | .eql => some (.bool (decide (a = b)))
 | .neq => some (.bool (!decide (a = b)))
 | .lss => some (.bool (decide (a < b)))
 | .leq => some (.bool (decide (a ≤ b)))
 | .gtr => some (.bool (decide (b < a)))
 | .geq => some (.bool (decide (b ≤ a)))
 | .shl => if b < 0 then none else some (.int k (k.wrap (a * 2 ^ (min b.toNat k.bits))))
 | .shr => if b < 0 then none else some (.int k (a.fdiv (2 ^ (min b.toNat k.bits))))
theorem aInt_ok {P : Program} {op : BinOp} {k k' : IntKind} {a b : Int} {x : AV} (hk : k = k' ∨ op = .shl ∨ op = .shr) (hx : aInt op k a b = some x) (S : Sh) (t : TypeId) (w : World) :
  ∃ v, (binOp op t (.int k a) (.int k' b)).run P w = .ok v w ∧ VRel S x v := by
 cases op <;> simp only [aInt, Option.some.injEq] at hx <;> (try (split at hx <;> simp only [Option.some.injEq, reduceCtorEq] at hx)) <;> subst hx <;>
  first
   | (obtain rfl : k = k' := by simpa using hk
      simp only [binOp, Op.intArith, Op.intBits, Op.intCmp, Op.intDiv, ne_eq, not_true_eq_false, if_false]
      first
        | exact ⟨_, rfl, by first | exact .int _ _ | exact .bool _⟩
        | (rename_i hb; simp only [if_neg hb]; exact ⟨_, rfl, .int _ _⟩)
        | (refine ⟨_, rfl, ?_⟩; first | (rw [show (a == b) = decide (a = b) from rfl]; exact .bool _) | (rw [show (a != b) = !decide (a = b) from rfl]; exact .bool _)))
   | (rename_i hb
      simp only [binOp, Op.shift, if_neg hb]
      exact ⟨_, rfl, .int _ _⟩)
def aStr (op : BinOp) (a b : List UInt8) : Option AV :=
 match op with
 | .add => if ((a.length + b.length : Nat) : Int) > IntKind.i64.max then none else some (.str (a ++ b))
 | .eql => some (.bool (decide (a = b)))
 | .neq => some (.bool (!decide (a = b)))
 | .lss => some (.bool (Op.bytesLess a b))
 | .leq => some (.bool (Op.bytesLess a b || decide (a = b)))
 | .gtr => some (.bool (!(Op.bytesLess a b || decide (a = b))))
 | .geq => some (.bool (!(Op.bytesLess a b)))
 | _ => none
theorem byteArray_append (a b : List UInt8) : (ByteArray.mk a.toArray ++ ByteArray.mk b.toArray) = ByteArray.mk (a ++ b).toArray := by
 apply ByteArray.ext
 simp
theorem aStr_ok {P : Program} {op : BinOp} {a b : List UInt8} {x : AV} (hx : aStr op a b = some x) (S : Sh) (t : TypeId) (w : World) :
  ∃ v, (binOp op t (.string ⟨a.toArray⟩) (.string ⟨b.toArray⟩)).run P w = .ok v w ∧ VRel S x v := by
 have hb : (a == b) = decide (a = b) := by rw [Bool.eq_iff_iff]; simp
 cases op <;> simp only [aStr, Option.some.injEq, reduceCtorEq] at hx <;> (try (split at hx <;> simp only [Option.some.injEq, reduceCtorEq] at hx)) <;> subst hx <;>
  simp only [binOp, Op.stringOp, ByteArray.toList_mk, hb]
 ·rename_i hs
  have : ((ByteArray.mk a.toArray).size + (ByteArray.mk b.toArray).size : Nat) = a.length + b.length := rfl
  rw [if_neg (by rw [this]; exact hs), byteArray_append]
  exact ⟨_, rfl, .str _⟩
 all_goals exact ⟨_, rfl, .bool _⟩
/-! ### What is equal -/
section equal
variable (P : Program)
def aliveB (A : AH) (b : Nat) : Bool :=
 match A.blks[b]? with
 | some (.cells ..) => true
 | _ => false
def aEqs (eq : TypeId → AV → AV → Option Bool) : List Field → List AV → List AV → Option Bool
 | [], _, _ => some true
 | f :: fs, xs, ys =>
  if f.name ≠ "_" then
   match aPart P f.type xs f.offset, aPart P f.type ys f.offset with
   | some x, some y =>
    match eq f.type x y with
    | some true => aEqs eq fs xs ys
    | some false => some false
    | none => none
   | _, _ => none
  else aEqs eq fs xs ys
def aEq (A : AH) : Nat → TypeId → AV → AV → Option Bool
 | 0, _, _, _ => none
 | d + 1, t, x, y =>
  match P.underlying t, x, y with
  | some .bool, .bool a, .bool b => some (a == b)
  | some (.int _), .int k a, .int k' b => if k = k' then some (decide (a = b)) else none
  | some .string, .str a, .str b => some (decide (a = b))
  | some (.pointer _), .nilp, .nilp => some true
  | some (.pointer _), .nilp, .ptr _ _ | some (.pointer _), .nilp, .iptr _ | some (.pointer _), .nilp, .gptr _ _ => some false
  | some (.pointer _), .ptr _ _, .nilp | some (.pointer _), .iptr _, .nilp | some (.pointer _), .gptr _ _, .nilp => some false
  | some (.pointer e), .ptr b o, .ptr b' o' =>
   match tSize P e with
   | some (_ + 1) => if aliveB A b && aliveB A b' then some (b == b' && o == o') else none
   | _ => none
  | some (.interface _), .nili, .nili => some true
  | some (.interface _), .nili, .iface _ _ | some (.interface _), .iface _ _, .nili => some false
  | some (.interface _), .iface tx vx, .iface ty vy =>
   if tx ≠ ty then some false else
   match P.info? tx with
   | some i => if i.comparable then aEq A d tx vx vy else none
   | none => none
  | some (.struct fields), .agg xs, .agg ys => if P.stoodInHeld t then none else aEqs P (aEq A d) fields.toList xs ys
  | some (.slice _), .isl true _ _ _, .isl true _ _ _ => some true
  | some (.slice _), .isl true _ _ _, .isl false _ _ _ | some (.slice _), .isl false _ _ _, .isl true _ _ _ => some false
  | some (.slice _), .isl true _ _ _, .msl .. | some (.slice _), .msl .., .isl true _ _ _ => some false
  | some (.map _ _), .nilm, .nilm => some true
  | some (.map _ _), .nilm, .map _ | some (.map _ _), .map _, .nilm => some false
  | some (.func _ _ _), .nilf, .nilf => some true
  | some (.func _ _ _), .nilf, .fn .. | some (.func _ _ _), .fn .., .nilf => some false
  | _, _, _ => none
variable {P}
theorem bytes_beq (a b : List UInt8) : ((ByteArray.mk a.toArray) == (ByteArray.mk b.toArray)) = decide (a = b) := by
 show (a.toArray == b.toArray) = decide (a = b)
 rw [Bool.eq_iff_iff, beq_iff_eq, decide_eq_true_eq]
 simp
theorem aliveB_live {A : AH} {b : Nat} (h : aliveB A b = true) : ∃ cs el, A.blks[b]? = some (.cells cs el) := by
 unfold aliveB at h
 split at h
 ·rename_i cs el hb; exact ⟨cs, el, hb⟩
 ·cases h
theorem sameAddr_ok {G : Gl} {S : Sh} {A : AH} {w : World} (h : Inv G S A w) {b b' o o' c c' : Nat} (hb : aliveB A b = true) (hb' : aliveB A b' = true) (hc : S.ρ b = some c) (hc' : S.ρ b' = some c') :
  (sameAddr ⟨c, o, none⟩ ⟨c', o', none⟩).run P w = .ok (b == b' && o == o') w := by
 obtain ⟨cs, el, hl⟩ := aliveB_live hb
 obtain ⟨cs', el', hl'⟩ := aliveB_live hb'
 obtain ⟨d, x, h1, h2, h3⟩ := h.blk b _ hl (by simp)
 obtain rfl := Option.some.inj (h1.symm.trans hc)
 obtain ⟨d', x', h1', h2', h3'⟩ := h.blk b' _ hl' (by simp)
 obtain rfl := Option.some.inj (h1'.symm.trans hc')
 cases h3 with
 | cells _ _ vs rest _ =>
 cases h3' with
 | cells _ _ vs' rest' _ =>
 unfold sameAddr
 by_cases hd : d = d'
 ·subst hd
  obtain rfl := h.inj b b' d ⟨_, hl, by simp⟩ ⟨_, hl', by simp⟩ hc hc'
  simp only [beq_self_eq_true, if_true, Sem.run_pure, Bool.true_and]
  congr 1
  rw [Bool.eq_iff_iff]; simp
 ·have hbb : (b == b') = false := by
   simp only [beq_eq_false_iff_ne]; rintro rfl
   exact hd (Option.some.inj (hc.symm.trans hc'))
  have f1 : ∀ k, w.frozen? ⟨d, k, none⟩ = false := fun k => by unfold World.frozen?; simp [h2]
  have f2 : ∀ k, w.frozen? ⟨d', k, none⟩ = false := fun k => by unfold World.frozen?; simp [h2']
  have s1 : w.shape? d = some (el, (vs ++ rest).length) := by unfold World.shape?; simp [h2]
  have s2 : w.shape? d' = some (el', (vs' ++ rest').length) := by unfold World.shape?; simp [h2']
  have hdd : (d == d') = false := by simpa using hd
  simp [hdd, hbb, f1, f2, noView, viewAt, s1, s2, mayBeOne, stringish]
theorem equalIn_fields {eq : TypeId → AV → AV → Option Bool} {d : Nat} {S : Sh} {w : World} (hrec : ∀ t x y b u v, eq t x y = some b → VRel S x u → VRel S y v → (Op.equalIn d t u v).run P w = .ok b w)
  {us vs : List Value} : ∀ (fs : List Field) (xs ys : List AV) (b : Bool), aEqs P eq fs xs ys = some b → LRel S xs us → LRel S ys vs →
  (do
   let r ← forIn fs ((none, ()) : Option Bool × Unit) fun f _ =>
    if f.name ≠ "_" then do
     if !(← Op.equalIn d f.type (← part f.type ⟨us⟩ f.offset) (← part f.type ⟨vs⟩ f.offset)) then pure (ForInStep.done (some false, ())) else pure (ForInStep.yield (none, ()))
    else pure (ForInStep.yield (none, ()))
   match r.1 with
   | some a => pure a
   | none => pure true : Sem Bool).run P w = .ok b w
 | [], xs, ys, b, h, _, _ => by simp [aEqs] at h; subst h; simp
 | f :: fs, xs, ys, b, h, h1, h2 => by
  simp only [aEqs] at h
  by_cases hn : f.name ≠ "_"
  ·rw [if_pos hn] at h
   split at h
   ·rename_i x y hx hy
    obtain ⟨u, r1, r2⟩ := aPart_ok h1 hx w
    obtain ⟨v, s1, s2⟩ := aPart_ok h2 hy w
    split at h
    ·rename_i he
     have := hrec _ _ _ _ _ _ he r2 s2
     have ih := equalIn_fields hrec fs xs ys b h h1 h2
     simp only [List.forIn_cons, if_pos hn, Sem.run_bind, r1, s1, Result.andThen_ok, this, Bool.not_true, Bool.false_eq_true, if_false, Sem.run_pure]
     simpa using ih
    ·rename_i he
     cases h
     have := hrec _ _ _ _ _ _ he r2 s2
     simp only [List.forIn_cons, if_pos hn, Sem.run_bind, r1, s1, Result.andThen_ok, this, Bool.not_false, if_true, Sem.run_pure]
    ·cases h
   ·cases h
  ·rw [if_neg hn] at h
   have ih := equalIn_fields hrec fs xs ys b h h1 h2
   simp only [List.forIn_cons, if_neg hn, Sem.run_bind, Sem.run_pure, Result.andThen_ok]
   simpa using ih
set_option maxHeartbeats 4000000 in
theorem aEq_ok {G : Gl} {S : Sh} {A : AH} {w : World} (h : Inv G S A w) : ∀ (d : Nat) (t : TypeId) (x y : AV) (b : Bool) (u v : Value), aEq P A d t x y = some b → VRel S x u → VRel S y v →
  (Op.equalIn d t u v).run P w = .ok b w
 | 0, t, x, y, b, u, v, he, _, _ => by simp [aEq] at he
 | d + 1, t, x, y, b, u, v, he, hx, hy => by
  have ih := aEq_ok h d
  unfold aEq at he
  split at he
  ·rename_i hd; cases hx <;> cases hy <;> cases he <;> simp [Op.equalIn, run_underlying hd]
  ·rename_i hd; cases hx; cases hy
   split at he <;> cases he
   rename_i hk; subst hk
   simp [Op.equalIn, run_underlying hd]; rfl
  ·rename_i hd; cases hx; cases hy; cases he; simp [Op.equalIn, run_underlying hd, bytes_beq]
  ·rename_i hd; cases hx <;> cases hy <;> cases he <;> simp [Op.equalIn, run_underlying hd]
  ·rename_i hd; cases hx <;> cases hy <;> cases he <;> simp [Op.equalIn, run_underlying hd]
  ·rename_i hd; cases hx <;> cases hy <;> cases he <;> simp [Op.equalIn, run_underlying hd]
  ·rename_i hd; cases hx <;> cases hy <;> cases he <;> simp [Op.equalIn, run_underlying hd]
  ·rename_i hd; cases hx <;> cases hy <;> cases he <;> simp [Op.equalIn, run_underlying hd]
  ·rename_i hd; cases hx <;> cases hy <;> cases he <;> simp [Op.equalIn, run_underlying hd]
  ·rename_i hd; cases hx <;> cases hy <;> cases he <;> simp [Op.equalIn, run_underlying hd]
  ·rename_i e b1 o1 b2 o2 hd
   cases hx with
   | ptr _ _ c hc =>
   cases hy with
   | ptr _ _ c' hc' =>
   split at he
   ·rename_i n hn
    split at he <;> cases he
    rename_i hl
    simp only [Bool.and_eq_true] at hl
    have hs := sameAddr_ok (P := P) (o := o1) (o' := o2) h hl.1 hl.2 hc hc'
    simp [Op.equalIn, run_underlying hd, run_sizeOf hn, hs]
   ·cases he
  ·rename_i hd; cases hx <;> cases hy <;> cases he <;> simp [Op.equalIn, run_underlying hd]
  ·rename_i hd; cases hx <;> cases hy <;> cases he <;> simp [Op.equalIn, run_underlying hd]
  ·rename_i hd; cases hx <;> cases hy <;> cases he <;> simp [Op.equalIn, run_underlying hd]
  ·rename_i tx vx ty vy hd
   cases hx with
   | iface _ _ vx' hvx =>
   cases hy with
   | iface _ _ vy' hvy =>
   split at he
   ·rename_i hne; cases he; simp [Op.equalIn, run_underlying hd, hne]
   ·rename_i heq
    have heq : tx = ty := by simpa using heq
    subst heq
    split at he
    ·rename_i i hi
     split at he
     ·rename_i hcmp
      have := ih tx vx vy b vx' vy' he hvx hvy
      simp [Op.equalIn, run_underlying hd, run_typeInfo hi, hcmp, this]
     ·cases he
    ·cases he
  ·rename_i fields xs ys hd
   cases hx with
   | agg _ us hxl =>
   cases hy with
   | agg _ vs hyl =>
   split at he
   ·cases he
   ·rename_i hst
    have hst : P.stoodInHeld t = false := by simpa using hst
    have := equalIn_fields (P := P) (w := w) (d := d) (S := S) (eq := aEq P A d) (fun t x y b u v he hx hy => ih t x y b u v he hx hy) fields.toList xs ys b he hxl hyl
    simp only [Op.equalIn, Sem.run_bind, run_underlying hd, Result.andThen_ok, run_program, hst, Bool.false_eq_true, if_false]
    rw [← Array.forIn_toList]
    simp only [Sem.run_bind] at this
    refine Eq.trans ?_ this
    congr 1
    funext a w'
    cases a.1 <;> rfl
  ·rename_i hd; cases hx <;> cases hy <;> cases he <;> simp [Op.equalIn, run_underlying hd]
  ·rename_i hd; cases hx <;> cases hy <;> cases he <;> simp [Op.equalIn, run_underlying hd]
  ·rename_i hd; cases hx <;> cases hy <;> cases he <;> simp [Op.equalIn, run_underlying hd]
  ·rename_i hd; cases hx <;> cases hy <;> cases he <;> simp [Op.equalIn, run_underlying hd]
  ·rename_i hd; cases hx <;> cases hy <;> cases he <;> simp [Op.equalIn, run_underlying hd]
  ·rename_i hd; cases hx <;> cases hy <;> cases he <;> simp [Op.equalIn, run_underlying hd]
  ·rename_i hd; cases hx <;> cases hy <;> cases he <;> simp [Op.equalIn, run_underlying hd]
  ·rename_i hd; cases hx <;> cases hy <;> cases he <;> simp [Op.equalIn, run_underlying hd]
  ·rename_i hd; cases hx <;> cases hy <;> cases he <;> simp [Op.equalIn, run_underlying hd]
  ·rename_i hd; cases hx <;> cases hy <;> cases he <;> simp [Op.equalIn, run_underlying hd]
  ·rename_i hd; cases hx <;> cases hy <;> cases he <;> simp [Op.equalIn, run_underlying hd]
  ·cases he
end equal
end Go.Am
end
section
namespace Go.Am
open Go
def VOk (P : Program) (G : Gl) (S : Sh) (A : AH) (w : World) (s : Sem Value) (x : AV) (A' : AH) : Prop :=
 ∃ v w' S', s.run P w = .ok v w' ∧ Inv G S' A' w' ∧ Fr S A w S' A' w' ∧ VRel S' x v
theorem VOk.same {P : Program} {G : Gl} {S : Sh} {A : AH} {w : World} (h : Inv G S A w) {s : Sem Value} {x : AV} {v : Value} (hr : s.run P w = .ok v w) (hv : VRel S x v) : VOk P G S A w s x A :=
 ⟨v, w, S, hr, h, Fr.refl S A w, hv⟩
theorem CRel.part {S : Sh} {cs : List AV} {a o : Nat} (h : CRel S cs a o) (k n : Nat) (hk : k ≤ cs.length) : CRel S ((cs.drop k).take n) a (o + k) := by
 rw [← List.take_append_drop k cs] at h
 have h2 := (CRel.append.1 h).2
 rw [List.length_take, Nat.min_eq_left hk, ← List.take_append_drop n (cs.drop k)] at h2
 exact (CRel.append.1 h2).1
theorem CRel.one_at {S : Sh} {cs : List AV} {a o : Nat} (h : CRel S cs a o) {k : Nat} {x : AV} (hk : cs[k]? = some x) : CRel S [x] a (o + k) := by
 have hlt := (List.getElem?_eq_some_iff.1 hk).1
 have := h.part k 1 (by omega)
 rw [show (cs.drop k).take 1 = [x] from ?_] at this
 ·exact this
 ·rw [List.getElem?_eq_some_iff] at hk
  obtain ⟨h1, h2⟩ := hk
  rw [List.drop_eq_getElem_cons h1, h2]; rfl
def AV.isAgg : AV → Bool
 | .agg _ => true
 | _ => false
theorem AV.cells_of_not {x : AV} (h : x.isAgg = false) : x.cells = [x] := by
 cases x <;> first | rfl | simp [AV.isAgg] at h
section ops
variable (P : Program)
def aPartP (t : TypeId) (cs : List AV) (off : Nat) : Option AV :=
 match aPart P t cs off with
 | some x => if (tAgg P t == some false) && x.isAgg then none else some x
 | none => none
def aFieldAddr (t : TypeId) (x : AV) (i : Nat) : Option AV :=
 match P.underlying t with
 | some (.struct fields) =>
  match fields[i]? with
  | some f =>
   match tSize P f.type with
   | some (_ + 1) =>
    match x with
    | .ptr b o => some (.ptr b (o + f.offset))
    | .gptr g o => some (.gptr g (o + f.offset))
    | .iptr (.agg cs) => (aPartP P f.type cs f.offset).map .iptr
    | _ => none
   | _ => none
  | none => none
 | _ => none
variable {P}
theorem aPartP_ok {S : Sh} {t : TypeId} {cs : List AV} {off a o : Nat} {x : AV} (hx : aPartP P t cs off = some x) (h : CRel S cs a o) : CRel S x.cells a (o + off) := by
 unfold aPartP at hx
 split at hx
 ·rename_i y hy
  split at hx <;> cases hx
  rename_i hna
  unfold aPart at hy
  split at hy
  ·split at hy <;> cases hy
   simp only [AV.cells]
   exact h.part off _ (by omega)
  ·rename_i hagg
   have hxa : x.isAgg = false := by
    simp only [hagg, beq_self_eq_true, Bool.true_and] at hna
    simpa using hna
   rw [AV.cells_of_not hxa]
   exact h.one_at hy
  ·cases hy
 ·cases hx
theorem run_fieldPlace {f : Field} {n : Nat} (hn : tSize P f.type = some (n + 1)) (b o : Nat) (w : World) : (fieldPlace ⟨b, o, none⟩ f).run P w = .ok ⟨b, o + f.offset, none⟩ w := by
 simp [fieldPlace, run_sizeOf hn, add_mk]
theorem aFieldAddr_ok {S : Sh} {t : TypeId} {x y : AV} {i : Nat} {u : Value} (hx : aFieldAddr P t x i = some y) (hu : VRel S x u) (w : World) :
  ∃ v, (Instr.fieldAt t u i).run P w = .ok v w ∧ VRel S y v := by
 unfold aFieldAddr at hx
 split at hx
 ·rename_i fields hd
  split at hx
  ·rename_i f hf
   split at hx
   ·rename_i n hn
    split at hx
    ·rename_i b o
     cases hx
     cases hu with
     | ptr _ _ c hc => exact ⟨.pointer (some ⟨c, o + f.offset, none⟩), by simp [Instr.fieldAt, run_underlying hd, hf, Instr.sureAddr, run_fieldPlace hn], .ptr _ _ _ hc⟩
    ·rename_i g o
     cases hx
     cases hu with
     | gptr => exact ⟨.pointer (some ⟨g, o + f.offset, none⟩), by simp [Instr.fieldAt, run_underlying hd, hf, Instr.sureAddr, run_fieldPlace hn], .gptr _ _⟩
    ·simp only [Option.map_eq_some_iff] at hx
     obtain ⟨z, hz, rfl⟩ := hx
     cases hu with
     | iptr _ a o hc =>
      simp only [AV.cells] at hc
      exact ⟨.pointer (some ⟨a, o + f.offset, none⟩), by simp [Instr.fieldAt, run_underlying hd, hf, Instr.sureAddr, run_fieldPlace hn], .iptr _ _ _ (aPartP_ok hz hc)⟩
    ·cases hx
   ·cases hx
  ·cases hx
 ·cases hx
variable (P) in
def aField (t : TypeId) (x : AV) (i : Nat) : Option AV :=
 match P.underlying t, x with
 | some (.struct fields), .agg cs =>
  match fields[i]? with
  | some f => aPart P f.type cs f.offset
  | none => none
 | _, _ => none
theorem aField_ok {S : Sh} {t : TypeId} {x y : AV} {i : Nat} {u : Value} (hx : aField P t x i = some y) (hu : VRel S x u) (w : World) :
  ∃ v, (Instr.field t u i).run P w = .ok v w ∧ VRel S y v := by
 unfold aField at hx
 split at hx
 ·rename_i fields cs hd
  cases hu with
  | agg _ vs hl =>
  split at hx
  ·rename_i f hf
   obtain ⟨v, h1, h2⟩ := aPart_ok hl hx w
   exact ⟨v, by simp [Instr.field, run_underlying hd, hf, asAgg, h1], h2⟩
  ·cases hx
 ·cases hx
variable (P) in
def aIndexAddr (t : TypeId) (x : AV) (ix : AV) : Option AV :=
 match ix with
 | .int _ n =>
  if n < 0 then none else
  match P.underlying t, x with
  | some (.slice e), .isl false _ _ xs =>
   match xs[n.toNat]?, tSize P e with
   | some v, some (m + 1) => if v.cells.length = m + 1 then some (.iptr v) else none
   | _, _ => none
  | some (.slice e), .msl b off len =>
   match tSize P e with
   | some (m + 1) => if n < len then some (.ptr b (off + n.toNat * (m + 1))) else none
   | _ => none
  | some (.array len e), .ptr b off =>
   match tSize P e with
   | some (m + 1) => if n < len then some (.ptr b (off + n.toNat * (m + 1))) else none
   | _ => none
  | some (.array len e), .gptr g off =>
   match tSize P e with
   | some (m + 1) => if n < len then some (.gptr g (off + n.toNat * (m + 1))) else none
   | _ => none
  | some (.array len e), .iptr (.agg cs) =>
   match tSize P e with
   | some (m + 1) => if n < len then (aPartP P e cs (n.toNat * (m + 1))).map .iptr else none
   | _ => none
  | _, _ => none
 | _ => none
theorem aIndexAddr_ok {S : Sh} {t : TypeId} {x y ix : AV} {u i : Value} (hx : aIndexAddr P t x ix = some y) (hu : VRel S x u) (hi : VRel S ix i) (w : World) :
  ∃ v, (Instr.indexAt t u i).run P w = .ok v w ∧ VRel S y v := by
 unfold aIndexAddr at hx
 split at hx
 ·rename_i k n
  cases hi
  split at hx
  ·cases hx
  rename_i hn0
  have hn : 0 ≤ n := by omega
  split at hx
  ·rename_i e fam off xs hd
   cases hu with
   | islE => simp at hx
   | isl _ _ _ sz a o cap h0 hsz hc hl hf =>
   split at hx
   ·rename_i v m hv hm
    split at hx <;> cases hx
    rename_i hlen
    have hlt := (List.getElem?_eq_some_iff.1 hv).1
    have hsz' : sz = m + 1 := by rw [← hsz v (List.mem_of_getElem? hv)]; exact hlen
    refine ⟨.pointer (some ⟨a, o + n.toNat * (m + 1), none⟩), ?_, .iptr _ _ _ (by rw [← hsz']; exact CRel.elem hsz hc n.toNat v hv)⟩
    have : n < (xs.length : Int) := by omega
    simp [Instr.indexAt, asIntOf, run_underlying hd, hn, this, run_sizeOf hm, add_mk]
   ·cases hx
  ·rename_i e b off len hd
   cases hu with
   | msl _ _ _ c cap hc hl =>
   split at hx
   ·rename_i m hm
    split at hx <;> cases hx
    rename_i hlt
    exact ⟨.pointer (some ⟨c, off + n.toNat * (m + 1), none⟩), by simp [Instr.indexAt, asIntOf, run_underlying hd, hn, hlt, run_sizeOf hm, add_mk], .ptr _ _ _ hc⟩
   ·cases hx
  ·rename_i len e b off hd
   cases hu with
   | ptr _ _ c hc =>
   split at hx
   ·rename_i m hm
    split at hx <;> cases hx
    rename_i hlt
    exact ⟨.pointer (some ⟨c, off + n.toNat * (m + 1), none⟩), by simp [Instr.indexAt, asIntOf, run_underlying hd, Instr.sureAddr, hn, hlt, run_sizeOf hm, add_mk], .ptr _ _ _ hc⟩
   ·cases hx
  ·rename_i len e g off hd
   cases hu
   split at hx
   ·rename_i m hm
    split at hx <;> cases hx
    rename_i hlt
    exact ⟨.pointer (some ⟨g, off + n.toNat * (m + 1), none⟩), by simp [Instr.indexAt, asIntOf, run_underlying hd, Instr.sureAddr, hn, hlt, run_sizeOf hm, add_mk], .gptr _ _⟩
   ·cases hx
  ·rename_i len e cs hd
   cases hu with
   | iptr _ a o hc =>
   split at hx
   ·rename_i m hm
    split at hx
    ·rename_i hlt
     simp only [Option.map_eq_some_iff] at hx
     obtain ⟨z, hz, rfl⟩ := hx
     exact ⟨.pointer (some ⟨a, o + n.toNat * (m + 1), none⟩), by simp [Instr.indexAt, asIntOf, run_underlying hd, Instr.sureAddr, hn, hlt, run_sizeOf hm, add_mk], .iptr _ _ _ (aPartP_ok hz hc)⟩
    ·cases hx
   ·cases hx
  ·cases hx
 ·cases hx
variable (P) in
def aIndex (t : TypeId) (x ix : AV) : Option AV :=
 match ix with
 | .int _ n =>
  if n < 0 then none else
  match P.underlying t, x with
  | some (.array len e), .agg cs =>
   match tSize P e with
   | some m => if n < len then aPart P e cs (n.toNat * m) else none
   | none => none
  | some .string, .str s => (s[n.toNat]?).map fun b => .int .u8 b.toNat
  | _, _ => none
 | _ => none
theorem aIndex_ok {S : Sh} {t : TypeId} {x y ix : AV} {u i : Value} (hx : aIndex P t x ix = some y) (hu : VRel S x u) (hi : VRel S ix i) (w : World) :
  ∃ v, (Instr.index t u i).run P w = .ok v w ∧ VRel S y v := by
 unfold aIndex at hx
 split at hx
 ·rename_i k n
  cases hi
  split at hx
  ·cases hx
  rename_i hn0
  have hn : 0 ≤ n := by omega
  split at hx
  ·rename_i len e cs hd
   cases hu with
   | agg _ vs hl =>
   split at hx
   ·rename_i m hm
    split at hx
    ·rename_i hlt
     obtain ⟨v, h1, h2⟩ := aPart_ok hl hx w
     exact ⟨v, by simp [Instr.index, asIntOf, run_underlying hd, hn, hlt, run_sizeOf hm, h1], h2⟩
    ·cases hx
   ·cases hx
  ·rename_i s hd
   cases hu
   simp only [Option.map_eq_some_iff] at hx
   obtain ⟨b, hb, rfl⟩ := hx
   have hs : (ByteArray.mk s.toArray)[n.toNat]? = some b := by
    obtain ⟨h1, h2⟩ := List.getElem?_eq_some_iff.1 hb
    have hsz : n.toNat < (ByteArray.mk s.toArray).size := h1
    rw [getElem?_pos (ByteArray.mk s.toArray) n.toNat hsz]
    exact congrArg some h2
   exact ⟨.int .u8 b.toNat, by simp [Instr.index, asIntOf, run_underlying hd, hn, hs], .int _ _⟩
  ·cases hx
 ·cases hx
theorem box_ok {G : Gl} {S : Sh} {A : AH} {w : World} (h : Inv G S A w) {t : TypeId} {x : AV} {v : Value} (hv : VRel S x v) (hx : x.isTop = false) :
  VOk P G S A w (Instr.box t v) (.ptr A.blks.length 0) (A.push (.cells x.cells t)) := by
 have hxt : x ≠ .top := by rintro rfl; simp [AV.isTop] at hx
 have hle := Sh.le_at (h.ρout _ (Nat.le_refl _)) w.heap.size
 have hl := (hv.mono hle).cells hxt
 have := BRel.cells (S := S.at A.blks.length w.heap.size) x.cells t v.cells.toList [] hl
 obtain ⟨h1, h2⟩ := h.push (x := .cells x.cells t) (o := .cells ⟨v.cells.toList ++ []⟩ t (0, 0)) (by simp) this
 refine ⟨.pointer (some ⟨w.heap.size, 0, none⟩), _, _, ?_, h1, h2, .ptr _ _ _ (by simp [Sh.at])⟩
 simp [Instr.box, newVar, newRow]
theorem alloc_ok {G : Gl} {S : Sh} {A : AH} {w : World} (h : Inv G S A w) {t : TypeId} {x : AV} (hz : tZero P t = some x) (hx : x.isTop = false) :
  VOk P G S A w (Instr.alloc t true (.tuple #[])) (.ptr A.blks.length 0) (A.push (.cells x.cells t)) := by
 obtain ⟨z, h1, rfl⟩ := run_zeroValue hz w
 have hz' : (zeroValue t).run P w = .ok z w := h1
 obtain ⟨v, w', S', r1, r2, r3, r4⟩ := box_ok (P := P) h (t := t) (ofVs_rel S z) hx
 refine ⟨v, w', S', ?_, r2, r3, r4⟩
 have : (Instr.alloc t true (.tuple #[])).run P w = (Instr.box t z).run P w := by
  simp [Instr.alloc, Instr.box, hz']
 rw [this]; exact r1
variable (P) in
def aIface (t : TypeId) (x : AV) : Option AV :=
 match P.underlying t with
 | some (.interface _) => none
 | some _ => some (.iface t x)
 | none => none
theorem aIface_ok {S : Sh} {t : TypeId} {x y : AV} {u : Value} (hx : aIface P t x = some y) (hu : VRel S x u) (w : World) :
  ∃ v, (Instr.makeInterface t u).run P w = .ok v w ∧ VRel S y v := by
 unfold aIface at hx
 split at hx
 ·cases hx
 ·rename_i d hne hd
  cases hx
  refine ⟨.iface t u, ?_, .iface _ _ _ hu⟩
  simp only [Instr.makeInterface, Sem.run_bind, run_underlying hd, Result.andThen_ok]
  cases d <;> first | rfl | exact absurd rfl (fun e => hne _ e)
 ·cases hx
def aExtract (x : AV) (i : Nat) : Option AV :=
 match x with
 | .tup vs => vs[i]?
 | _ => none
theorem aExtract_ok {S : Sh} {x y : AV} {i : Nat} {u : Value} (hx : aExtract x i = some y) (hu : VRel S x u) (w : World) :
  ∃ v, (Instr.extract u i).run P w = .ok v w ∧ VRel S y v := by
 unfold aExtract at hx
 split at hx
 ·cases hu with
  | tup _ vs hl =>
  obtain ⟨v, h1, h2⟩ := hl.get i y hx
  exact ⟨v, by simp [Instr.extract, h1], h2⟩
 ·cases hx
end ops
end Go.Am
end
section
namespace Go.Am
open Go
section ops
variable (P : Program)
def aBound (x : Option AV) (dflt : Nat) : Option Nat :=
 match x with
 | none => some dflt
 | some (.int _ n) => if n < 0 then none else some n.toNat
 | some _ => none
inductive ORel (S : Sh) : Option AV → Option Value → Prop
 | none : ORel S none none
 | some (x : AV) (v : Value) : VRel S x v → ORel S (some x) (some v)
def aSlice (t : TypeId) (x : AV) (lo hi mx : Option AV) : Option AV :=
 match P.underlying t, x, mx with
 | some .string, .str s, none =>
  match aBound hi s.length, aBound lo 0 with
  | some h, some l => if l ≤ h ∧ h ≤ s.length then some (.str ((s.drop l).take (h - l))) else none
  | _, _ => none
 | some (.slice e), .isl true fam off [], none =>
  match aBound hi 0, aBound lo 0, tSize P e with
  | some 0, some 0, some _ => some (.isl true fam off [])
  | _, _, _ => none
 | some (.slice e), .isl false fam off xs, none =>
  match aBound hi xs.length, aBound lo 0, tSize P e with
  | some h, some l, some (m + 1) =>
   if l ≤ h ∧ h ≤ xs.length ∧ (xs.all fun x => x.cells.length == m + 1) then some (.isl false (if h = xs.length ∧ l < h then fam else none) (off + l) ((xs.drop l).take (h - l))) else none
  | _, _, _ => none
 | some (.slice e), .msl b off len, none =>
  match aBound hi len, aBound lo 0, tSize P e with
  | some h, some l, some (m + 1) =>
   if l ≤ h ∧ h ≤ len then (if h = l then some (.isl false none 0 []) else some (.msl b (off + l * (m + 1)) (h - l))) else none
  | _, _, _ => none
 | some (.array n e), .ptr b off, none =>
  match aBound hi n, aBound lo 0, tSize P e with
  | some h, some l, some (m + 1) =>
   if l ≤ h ∧ h ≤ n then (if h = l then some (.isl false none 0 []) else some (.msl b (off + l * (m + 1)) (h - l))) else none
  | _, _, _ => none
 | _, _, _ => none
variable {P}
theorem run_sliceBound {S : Sh} {x : AV} {v : Value} {n y : Nat} {code : BoundsCode} (hx : aBound (some x) 0 = some n) (hv : VRel S x v) (hy : n ≤ y) (w : World) :
  (Instr.sliceBound v y code).run P w = .ok n w := by
 unfold aBound at hx
 split at hx
 ·simp_all
 ·rename_i k m heq
  cases heq
  cases hv
  split at hx <;> cases hx
  rename_i h0
  have h1 : 0 ≤ m := by omega
  have h2 : m ≤ (y : Int) := by omega
  simp [Instr.sliceBound, asIntOf, h1, h2]
 ·cases hx
theorem run_sliceBounds {S : Sh} {lo hi : Option AV} {lo' hi' : Option Value} {b : Bool} {len cap l h : Nat} (hlo : ORel S lo lo') (hhi : ORel S hi hi') (h1 : aBound hi len = some h) (h2 : aBound lo 0 = some l)
  (hl : l ≤ h) (hc : h ≤ cap) (w : World) : (Instr.sliceBounds b len cap lo' hi' none).run P w = .ok (l, h, cap) w := by
 cases hhi with
 | none =>
  simp only [aBound, Option.some.injEq] at h1; subst h1
  cases hlo with
  | none => simp only [aBound, Option.some.injEq] at h2; subst h2; simp [Instr.sliceBounds]
  | some x v hv =>
   have e : aBound (some x) 0 = some l := by cases x <;> simp_all [aBound]
   simp [Instr.sliceBounds, run_sliceBound e hv hl]
 | some z u hu =>
  have e' : aBound (some z) 0 = some h := by cases z <;> simp_all [aBound]
  cases hlo with
  | none => simp only [aBound, Option.some.injEq] at h2; subst h2; simp [Instr.sliceBounds, run_sliceBound e' hu hc]
  | some x v hv =>
   have e : aBound (some x) 0 = some l := by cases x <;> simp_all [aBound]
   simp [Instr.sliceBounds, run_sliceBound e hv hl, run_sliceBound e' hu hc]
theorem uniform_take {sz : Nat} {xs : List AV} (h : ∀ x ∈ xs, x.cells.length = sz) (l n : Nat) : ∀ x ∈ (xs.drop l).take n, x.cells.length = sz :=
 fun x hx => h x (List.mem_of_mem_drop (List.mem_of_mem_take hx))
theorem CRel.rows {S : Sh} {sz : Nat} {xs : List AV} {a o : Nat} (hsz : ∀ x ∈ xs, x.cells.length = sz) (hc : CRel S (flat xs) a o) (l n : Nat) (hl : l ≤ xs.length) :
  CRel S (flat ((xs.drop l).take n)) a (o + l * sz) := by
 have e1 : flat xs = flat (xs.take l) ++ (flat ((xs.drop l).take n) ++ flat ((xs.drop l).drop n)) := by
  rw [← flat_append, ← flat_append, List.take_append_drop, List.take_append_drop]
 rw [e1] at hc
 have h2 := (CRel.append.1 (CRel.append.1 hc).2).1
 rw [flat_length (sz := sz) (fun x hx => hsz x (List.mem_of_mem_take hx)), List.length_take, Nat.min_eq_left hl] at h2
 exact h2
theorem aSlice_ok {S : Sh} {t : TypeId} {x y : AV} {lo hi mx : Option AV} {u : Value} {lo' hi' mx' : Option Value} (hx : aSlice P t x lo hi mx = some y) (hu : VRel S x u) (hlo : ORel S lo lo') (hhi : ORel S hi hi') (hmx : ORel S mx mx') (w : World) :
  ∃ v, (Instr.sliceAt t u lo' hi' mx').run P w = .ok v w ∧ VRel S y v := by
 unfold aSlice at hx
 split at hx
 ·rename_i s hd
  cases hmx; cases hu
  split at hx
  ·rename_i h l hh hl
   split at hx <;> cases hx
   rename_i hle
   have hb := run_sliceBounds (P := P) (b := false) (cap := s.length) hlo hhi hh hl hle.1 hle.2 w
   refine ⟨.string ⟨((s.drop l).take (h - l)).toArray⟩, ?_, .str _⟩
   have hsz : (ByteArray.mk s.toArray).size = s.length := rfl
   have hex : (ByteArray.mk s.toArray).extract l h = ⟨((s.drop l).take (h - l)).toArray⟩ := by
    apply ByteArray.ext
    simp
   simp [Instr.sliceAt, Instr.slice, run_underlying hd, hsz, hb, hex]
  ·cases hx
 ·rename_i e fam off hd
  cases hmx; cases hu
  split at hx
  ·rename_i n hh hl hn
   cases hx
   have hb := run_sliceBounds (P := P) (b := true) (len := 0) (cap := 0) hlo hhi hh hl (Nat.le_refl _) (Nat.le_refl _) w
   exact ⟨.slice none 0 0, by simp [Instr.sliceAt, Instr.slice, run_underlying hd, hb, run_sizeOf hn], .islNil _ _⟩
  ·cases hx
 ·rename_i e fam off xs hd
  cases hmx
  cases hu with
  | islE off a =>
   split at hx
   ·rename_i h l m hh hl hm
    split at hx <;> cases hx
    rename_i hle
    obtain ⟨h1, h2, h3⟩ := hle
    simp only [List.length_nil, Nat.le_zero] at h2
    subst h2
    obtain rfl : l = 0 := by omega
    have hb := run_sliceBounds (P := P) (b := true) (len := 0) (cap := 0) hlo hhi hh hl (Nat.le_refl _) (Nat.le_refl _) w
    refine ⟨.slice (some a) 0 0, by simp [Instr.sliceAt, Instr.slice, run_underlying hd, hb, run_sizeOf hm], ?_⟩
    simp
    exact .islE _ _
   ·cases hx
  | isl _ _ _ sz a o cap h0 hsz hc hcap hf =>
  split at hx
  ·rename_i h l m hh hl hm
   split at hx <;> cases hx
   rename_i hle
   obtain ⟨h1, h2, h3⟩ := hle
   have hb := run_sliceBounds (P := P) (b := true) (len := xs.length) (cap := cap) hlo hhi hh hl h1 (by omega) w
   have hszm : ∀ x ∈ xs, x.cells.length = m + 1 := fun x hx => by simpa using List.all_eq_true.1 h3 x hx
   have hlen : ((xs.drop l).take (h - l)).length = h - l := by simp; omega
   by_cases hcl : cap = l
   ·have hhl : h = l := by omega
    subst hhl
    subst hcl
    refine ⟨.slice (some ⟨a, o, none⟩) 0 0, by simp [Instr.sliceAt, Instr.slice, run_underlying hd, hb, run_sizeOf hm], ?_⟩
    rw [if_neg (by omega), Nat.sub_self, List.take_zero]
    exact .isl none _ [] 1 a o 0 (by omega) (by simp) (by simp [flat]; exact .nil _ _) (Nat.le_refl _) (fun φ hφ => by cases hφ)
   ·refine ⟨.slice (some ⟨a, o + l * (m + 1), none⟩) (h - l) (cap - l), by simp [Instr.sliceAt, Instr.slice, run_underlying hd, hb, run_sizeOf hm, hcl, add_mk], ?_⟩
    by_cases hx0 : xs = []
    ·subst hx0
     simp only [List.length_nil, Nat.le_zero] at h2
     subst h2
     obtain rfl : l = 0 := by omega
     rw [if_neg (by omega)]
     simp only [Nat.sub_self, List.take_zero]
     exact .isl none _ [] 1 a _ _ (by omega) (by simp) (by simp [flat]; exact .nil _ _) (Nat.zero_le _) (fun φ hφ => by cases hφ)
    ·have hsz' : sz = m + 1 := by
      obtain ⟨x, xs', rfl⟩ := List.exists_cons_of_ne_nil hx0
      rw [← hsz x (by simp)]; exact hszm x (by simp)
     subst hsz'
     have key := VRel.isl (S := S) (if h = xs.length ∧ l < h then fam else none) (off + l) ((xs.drop l).take (h - l)) (m + 1) a (o + l * (m + 1)) (cap - l) h0 (uniform_take hsz l (h - l)) (CRel.rows hsz hc l (h - l) (by omega)) (by omega) ?_
     ·rw [hlen] at key; exact key
     ·intro φ hφ
      split at hφ
      ·rename_i hcond
       obtain ⟨hc1, hc2⟩ := hcond
       obtain ⟨room, r1, r2⟩ := hf φ hφ
       refine ⟨room, ?_, ?_⟩
       ·have e1 : off + l + (h - l) = off + xs.length := by omega
        have e2 : o + l * (m + 1) + (h - l) * (m + 1) = o + xs.length * (m + 1) := by
         rw [Nat.add_assoc, ← Nat.add_mul]; congr 2; omega
        rw [hlen, e1, e2]; exact r1
       ·have : o + l * (m + 1) + (cap - l) * (m + 1) = o + cap * (m + 1) := by
         rw [Nat.add_assoc, ← Nat.add_mul]; congr 2; omega
        omega
      ·cases hφ
  ·cases hx
 ·rename_i e b off len hd
  cases hmx
  cases hu with
  | msl _ _ _ c cap hc hcap =>
  split at hx
  ·rename_i h l m hh hl hm
   split at hx
   ·rename_i hle
    have hb := run_sliceBounds (P := P) (b := true) (len := len) (cap := cap) hlo hhi hh hl hle.1 (by omega) w
    by_cases hhl : h = l
    ·rw [if_pos hhl] at hx; cases hx
     subst hhl
     refine ⟨.slice (some (if cap = h then ⟨c, off, none⟩ else ⟨c, off + h * (m + 1), none⟩)) 0 (cap - h), ?_, ?_⟩
     ·simp [Instr.sliceAt, Instr.slice, run_underlying hd, hb, run_sizeOf hm, add_mk]
      split <;> rfl
     ·split
      all_goals exact .isl none _ [] 1 c _ _ (by omega) (by simp) (by simp [flat]; exact .nil _ _) (Nat.zero_le _) (fun φ hφ => by cases hφ)
    ·rw [if_neg hhl] at hx; cases hx
     have hne : cap ≠ l := by omega
     exact ⟨.slice (some ⟨c, off + l * (m + 1), none⟩) (h - l) (cap - l), by simp [Instr.sliceAt, Instr.slice, run_underlying hd, hb, run_sizeOf hm, hne, add_mk], .msl _ _ _ _ _ hc (by omega)⟩
   ·cases hx
  ·cases hx
 ·rename_i n e b off hd
  cases hmx
  cases hu with
  | ptr _ _ c hc =>
  split at hx
  ·rename_i h l m hh hl hm
   split at hx
   ·rename_i hle
    have hb := run_sliceBounds (P := P) (b := false) (len := n) (cap := n) hlo hhi hh hl hle.1 hle.2 w
    by_cases hhl : h = l
    ·rw [if_pos hhl] at hx; cases hx
     subst hhl
     refine ⟨.slice (some (if n = h then ⟨c, off, none⟩ else ⟨c, off + h * (m + 1), none⟩)) 0 (n - h), ?_, ?_⟩
     ·simp [Instr.sliceAt, run_underlying hd, Instr.sureAddr, hb, run_sizeOf hm, add_mk]
     ·split
      all_goals exact .isl none _ [] 1 c _ _ (by omega) (by simp) (by simp [flat]; exact .nil _ _) (Nat.zero_le _) (fun φ hφ => by cases hφ)
    ·rw [if_neg hhl] at hx; cases hx
     have hne : n ≠ l := by omega
     exact ⟨.slice (some ⟨c, off + l * (m + 1), none⟩) (h - l) (n - l), by simp [Instr.sliceAt, run_underlying hd, Instr.sureAddr, hb, run_sizeOf hm, hne, add_mk], .msl _ _ _ _ _ hc (by omega)⟩
   ·cases hx
  ·cases hx
 ·cases hx
end ops
end Go.Am
end
section
namespace Go.Am
open Go
theorem LRel.of_get {S : Sh} : ∀ {xs : List AV} {vs : List Value}, xs.length = vs.length → (∀ (j : Nat) x v, xs[j]? = some x → vs[j]? = some v → VRel S x v) → LRel S xs vs
 | [], [], _, _ => .nil
 | x :: xs, v :: vs, hl, h => .cons _ _ _ _ (h 0 x v rfl rfl) (LRel.of_get (by simpa using hl) fun j y u hy hu => h (j + 1) y u (by simpa using hy) (by simpa using hu))
 | [], _ :: _, hl, _ => by simp at hl
 | _ :: _, [], hl, _ => by simp at hl
theorem flat_replicate_get (z : AV) {sz : Nat} (hz : z.cells.length = sz) : ∀ (n j : Nat), j < n * sz → (flat (List.replicate n z))[j]? = z.cells[j % sz]?
 | 0, j, h => by simp at h
 | n + 1, j, h => by
  simp only [List.replicate_succ, flat]
  by_cases hj : j < sz
  ·rw [List.getElem?_append_left (by omega), Nat.mod_eq_of_lt hj]
  ·rw [List.getElem?_append_right (by omega), hz]
   have h' : j - sz < n * sz := by rw [Nat.succ_mul] at h; omega
   rw [flat_replicate_get z hz n (j - sz) h', Nat.mod_eq_sub_mod (a := j) (by omega)]
theorem uniform_replicate (z : AV) (n : Nat) {sz : Nat} (hz : z.cells.length = sz) : ∀ x ∈ List.replicate n z, x.cells.length = sz := by
 intro x hx
 rw [List.eq_of_mem_replicate hx]; exact hz
theorem zeros_rel {S : Sh} {z : AV} {zv : Value} {sz n : Nat} (h : VRel S z zv) (ht : z.isTop = false) (hz : z.cells.length = sz) (h0 : 0 < sz) :
  LRel S (flat (List.replicate n z)) ((Array.range (n * zv.cells.size)).map fun i => zv.cells[i % zv.cells.size]!).toList := by
 have hzt : z ≠ .top := by rintro rfl; simp [AV.isTop] at ht
 have hl := h.cells hzt
 have hs : zv.cells.size = sz := by have := hl.length; simp at this; omega
 refine LRel.of_get ?_ ?_
 ·rw [flat_length (uniform_replicate z n hz)]; simp [hs]
 ·intro j x v hx hv
  simp only [Array.getElem?_toList, Array.getElem?_map, Array.getElem?_range] at hv
  rw [hs] at hv
  by_cases hj : j < n * sz
  ·rw [if_pos hj] at hv
   simp only [Option.map_some, Option.some.injEq] at hv
   rw [flat_replicate_get z hz n j hj] at hx
   obtain ⟨u, h1, h2⟩ := hl.get _ x hx
   have hm : j % sz < zv.cells.size := by rw [hs]; exact Nat.mod_lt _ h0
   rw [getElem!_pos zv.cells (j % sz) hm] at hv
   simp only [Array.getElem?_toList] at h1
   rw [Array.getElem?_eq_getElem hm] at h1
   cases h1; rw [← hv]; exact h2
  ·rw [if_neg hj] at hv; cases hv
theorem flat_set {sz : Nat} : ∀ (xs : List AV) (i : Nat) (x : AV), (∀ y ∈ xs, y.cells.length = sz) → x.cells.length = sz → i < xs.length → flat (xs.set i x) = over (flat xs) (i * sz) x.cells
 | [], i, x, _, _, h => by simp at h
 | y :: xs, 0, x, hu, hx, _ => by
  have hy := hu y (by simp)
  simp only [List.set_cons_zero, flat, Nat.zero_mul]
  rw [over_append _ _ _ _ (by omega)]
  congr 1
  apply List.ext_getElem?
  intro j
  by_cases hj : j < sz
  ·have e : x.cells[j]? = some (x.cells[j]'(by omega)) := List.getElem?_eq_getElem (by omega)
   have := over_new x.cells y.cells 0 j _ (by omega) e
   rw [Nat.zero_add] at this
   rw [this, e]
  ·rw [List.getElem?_eq_none (by omega), List.getElem?_eq_none (by rw [over_length]; omega)]
 | y :: xs, i + 1, x, hu, hx, h => by
  have hy := hu y (by simp)
  simp only [List.set_cons_succ, flat]
  rw [flat_set xs i x (fun z hz => hu z (by simp [hz])) hx (by simpa using h)]
  have key : ∀ (vs l r : List AV) (k : Nat), over (l ++ r) (l.length + k) vs = l ++ over r k vs := by
   intro vs
   induction vs with
   | nil => intro l r k; rfl
   | cons v vs ih =>
    intro l r k
    simp only [over]
    rw [List.set_append_right _ _ (by omega), Nat.add_sub_cancel_left]
    exact ih l _ (k + 1)
  rw [← key, hy, Nat.succ_mul, Nat.add_comm]
section fill
def aFill (place : Nat → Option (Nat × Nat)) : List AV → List (Nat × AV) → Option (List AV)
 | cells, [] => some cells
 | cells, (i, x) :: rest =>
  match place i with
  | some (off, size) => if x.cells.length = size ∧ off + size ≤ cells.length ∧ x.isTop = false then aFill place (over cells off x.cells) rest else none
  | none => none
theorem fold_over (off : Nat) : ∀ (l : List Value) (k : Nat) (cs : Array Value), (l.zipIdx k).foldl (fun cs (c, j) => cs.setIfInBounds (off + j) c) cs = ⟨over cs.toList (off + k) l⟩
 | [], k, cs => rfl
 | v :: l, k, cs => by
  simp only [List.zipIdx_cons, List.foldl_cons, over]
  rw [fold_over off l (k + 1) (cs.setIfInBounds (off + k) v), ← Nat.add_assoc]
  simp
inductive PRel (S : Sh) : List (Nat × AV) → List (Nat × Value) → Prop
 | nil : PRel S [] []
 | cons (i : Nat) (x : AV) (v : Value) (xs : List (Nat × AV)) (vs : List (Nat × Value)) : VRel S x v → PRel S xs vs → PRel S ((i, x) :: xs) ((i, v) :: vs)
theorem aFill_ok {S : Sh} {place : Nat → Option (Nat × Nat)} : ∀ {parts : List (Nat × AV)} {ps : List (Nat × Value)} {cs out : List AV} {vs : List Value}, PRel S parts ps → LRel S cs vs → aFill place cs parts = some out →
  ∃ us, Instr.fill place ⟨vs⟩ ps = some ⟨us⟩ ∧ LRel S out us
 | _, _, cs, out, vs, .nil, hl, h => by simp [aFill] at h; subst h; exact ⟨vs, by simp [Instr.fill], hl⟩
 | _, _, cs, out, vs, .cons i x v xs ps hv hr, hl, h => by
  simp only [aFill] at h
  split at h
  ·rename_i off size hp
   split at h
   ·rename_i hc
    obtain ⟨h1, h2, h3⟩ := hc
    have hxt : x ≠ .top := by rintro rfl; simp [AV.isTop] at h3
    have hcl := hv.cells hxt
    have hlen := hcl.length
    have hlen' := hl.length
    simp at hlen
    obtain ⟨us, r1, r2⟩ := aFill_ok hr (LRel.over off hcl hl) h
    refine ⟨us, ?_, r2⟩
    simp only [Instr.fill, hp]
    rw [if_neg]
    ·have : (v.cells.zipIdx.foldl (fun cs (c, j) => cs.setIfInBounds (off + j) c) (⟨vs⟩ : Array Value)) = ⟨over vs off v.cells.toList⟩ := by
      rw [← Array.foldl_toList, Array.toList_zipIdx]
      exact fold_over off v.cells.toList 0 ⟨vs⟩
     rw [this]; exact r1
    ·simp; omega
   ·cases h
  ·cases h
end fill
section ops
variable (P : Program)
def aPlaces : List Field → Option (List (Nat × Nat))
 | [] => some []
 | f :: fs => match tSize P f.type, aPlaces fs with
  | some n, some ps => some ((f.offset, n) :: ps)
  | _, _ => none
def aBuild (t : TypeId) (parts : List (Nat × AV)) : Option AV :=
 match tZero P t, P.underlying t with
 | some (.agg zs), some (.struct fields) =>
  match aPlaces P fields.toList with
  | some ps => (aFill (ps[·]?) zs parts).map .agg
  | none => none
 | some (.agg zs), some (.array _ e) =>
  match tSize P e with
  | some n => (aFill (fun i => some (i * n, n)) zs parts).map .agg
  | none => none
 | _, _ => none
variable {P}
theorem aPlaces_ok {w : World} : ∀ (fs : List Field) (ps : List (Nat × Nat)), aPlaces P fs = some ps → (fs.mapM fun f => do pure (f.offset, ← sizeOf f.type) : Sem (List (Nat × Nat))).run P w = .ok ps w
 | [], ps, h => by simp [aPlaces] at h; subst h; simp
 | f :: fs, ps, h => by
  simp only [aPlaces] at h
  split at h
  ·rename_i n qs h1 h2
   cases h
   have := aPlaces_ok (w := w) fs qs h2
   simp only [List.mapM_cons, Sem.run_bind, run_sizeOf h1, Result.andThen_ok, Sem.run_pure]
   rw [this]; rfl
  ·cases h
theorem aBuild_ok {S : Sh} {t : TypeId} {parts : List (Nat × AV)} {ps : Array (Nat × Value)} {x : AV} (hx : aBuild P t parts = some x) (hp : PRel S parts ps.toList) (w : World) :
  ∃ v, (Instr.build t ps).run P w = .ok v w ∧ VRel S x v := by
 unfold aBuild at hx
 split at hx
 ·rename_i zs fields hz hd
  split at hx
  ·rename_i qs hq
   simp only [Option.map_eq_some_iff] at hx
   obtain ⟨out, hf, rfl⟩ := hx
   obtain ⟨zv, hz1, hz2⟩ := run_zeroValue hz w
   have hzr := ofVs_rel S zv
   rw [← hz2] at hzr
   cases hzr with
   | agg _ vs hl =>
   obtain ⟨us, r1, r2⟩ := aFill_ok hp hl hf
   refine ⟨.agg ⟨us⟩, ?_, .agg _ _ r2⟩
   have hm : (fields.mapM fun f => do pure (f.offset, ← sizeOf f.type) : Sem (Array (Nat × Nat))).run P w = .ok qs.toArray w := by
    rw [Array.mapM_eq_mapM_toList, Sem.run_map, aPlaces_ok _ _ hq]
    rfl
   have hfun : (fun x : Nat => (qs.toArray)[x]?) = (fun x : Nat => qs[x]?) := by funext i; simp
   simp only [Instr.build, Sem.run_bind, hz1, Result.andThen_ok, run_underlying hd, hm, Value.cells, hfun, r1]
   rfl
  ·cases hx
 ·rename_i zs n e hz hd
  split at hx
  ·rename_i m hm
   simp only [Option.map_eq_some_iff] at hx
   obtain ⟨out, hf, rfl⟩ := hx
   obtain ⟨zv, hz1, hz2⟩ := run_zeroValue hz w
   have hzr := ofVs_rel S zv
   rw [← hz2] at hzr
   cases hzr with
   | agg _ vs hl =>
   obtain ⟨us, r1, r2⟩ := aFill_ok hp hl hf
   refine ⟨.agg ⟨us⟩, ?_, .agg _ _ r2⟩
   simp only [Instr.build, Sem.run_bind, hz1, Result.andThen_ok, run_underlying hd, run_sizeOf hm, Value.cells, r1]
   rfl
  ·cases hx
 ·cases hx
def aSets (sz : Nat) : List AV → List (Nat × AV) → Option (List AV)
 | xs, [] => some xs
 | xs, (i, x) :: rest => if x.cells.length = sz ∧ i < xs.length ∧ x.isTop = false then aSets sz (xs.set i x) rest else none
theorem uniform_set {sz : Nat} {xs : List AV} {i : Nat} {x : AV} (h : ∀ y ∈ xs, y.cells.length = sz) (hx : x.cells.length = sz) : ∀ y ∈ xs.set i x, y.cells.length = sz := by
 intro y hy
 rcases List.mem_or_eq_of_mem_set hy with h1 | rfl
 ·exact h y h1
 ·exact hx
theorem aSets_ok {sz : Nat} : ∀ (parts : List (Nat × AV)) (xs out : List AV), (∀ y ∈ xs, y.cells.length = sz) → aSets sz xs parts = some out →
  aFill (fun i => some (i * sz, sz)) (flat xs) parts = some (flat out) ∧ (∀ y ∈ out, y.cells.length = sz) ∧ out.length = xs.length
 | [], xs, out, hu, h => by simp [aSets] at h; subst h; exact ⟨rfl, hu, rfl⟩
 | (i, x) :: rest, xs, out, hu, h => by
  simp only [aSets] at h
  split at h
  ·rename_i hc
   obtain ⟨h1, h2, h3⟩ := hc
   obtain ⟨r1, r2, r3⟩ := aSets_ok rest (xs.set i x) out (uniform_set hu h1) h
   have hle : i * sz + sz ≤ (flat xs).length := by
    rw [flat_length hu, ← Nat.succ_mul]
    exact Nat.mul_le_mul_right _ h2
   refine ⟨?_, r2, by rw [r3]; simp⟩
   simp only [aFill]
   rw [if_pos ⟨h1, hle, h3⟩, ← flat_set xs i x hu h1 h2]
   exact r1
  ·cases h
variable (P) in
def aBuildSlice (A : AH) (t : TypeId) (len : Nat) (parts : List (Nat × AV)) : Option (AV × AH) :=
 match P.underlying t with
 | some (.slice e) =>
  match tSize P e, tZero P e with
  | some (m + 1), some z =>
   if len * (m + 1) ≤ 2 ^ 24 ∧ z.cells.length = m + 1 ∧ z.isTop = false then
    match aSets (m + 1) (List.replicate len z) parts with
    | some xs => some (.isl false (some A.fams.length) 0 xs, A.grow len (m + 1))
    | none => none
   else none
  | _, _ => none
 | _ => none
theorem row_ok {G : Gl} {S : Sh} {A : AH} {w : World} (h : Inv G S A w) {xs : List AV} {sz : Nat} (h0 : 0 < sz) (hu : ∀ y ∈ xs, y.cells.length = sz) {vs : List Value} (hv : LRel S (flat xs) vs) (rest : List Value) (el : TypeId) (cap : Nat)
  (hcap : xs.length ≤ cap) (hroom : cap * sz ≤ (vs ++ rest).length) :
  ∃ S', Inv G S' (A.grow xs.length sz) { w with heap := w.heap.push (.cells ⟨vs ++ rest⟩ el (0, 0)) } ∧ Fr S A w S' (A.grow xs.length sz) { w with heap := w.heap.push (.cells ⟨vs ++ rest⟩ el (0, 0)) } ∧
   VRel S' (.isl false (some A.fams.length) 0 xs) (.slice (some ⟨w.heap.size, 0, none⟩) xs.length cap) := by
 obtain ⟨i1, i2⟩ := h.row vs rest el xs.length sz
 refine ⟨_, i1, i2, .isl _ 0 xs sz _ 0 cap h0 hu ?_ hcap ?_⟩
 ·refine CRel.of_cells (hv.mono i2.le) fun j v hj => ?_
  simp [Sh.row, hj]
 ·intro φ hφ
  cases hφ
  refine ⟨(vs ++ rest).length, ?_, by omega⟩
  have hlen := hv.length
  rw [flat_length hu] at hlen
  simp [Sh.row, hlen]
theorem aBuildSlice_ok {G : Gl} {S : Sh} {A A' : AH} {w : World} (h : Inv G S A w) {t : TypeId} {len : Nat} {parts : List (Nat × AV)} {ps : Array (Nat × Value)} {x : AV} (hx : aBuildSlice P A t len parts = some (x, A')) (hp : PRel S parts ps.toList) :
  VOk P G S A w (Instr.buildSlice t len ps) x A' := by
 unfold aBuildSlice at hx
 split at hx
 ·rename_i e hd
  split at hx
  ·rename_i m z hm hz
   split at hx
   ·rename_i hc
    obtain ⟨h1, h2, h3⟩ := hc
    split at hx
    ·rename_i xs hxs
     cases hx
     obtain ⟨r1, r2, r3⟩ := aSets_ok parts _ xs (uniform_replicate z len h2) hxs
     rw [List.length_replicate] at r3
     obtain ⟨zv, hz1, hz2⟩ := run_zeroValue hz w
     have hzr := ofVs_rel S zv
     rw [← hz2] at hzr
     have hzl := zeros_rel (n := len) hzr h3 h2 (by omega)
     obtain ⟨us, f1, f2⟩ := aFill_ok hp hzl r1
     have hzs : zv.cells.size = m + 1 := by
      have hzt : z ≠ .top := by rintro rfl; simp [AV.isTop] at h3
      have := (hzr.cells hzt).length; simp at this; omega
     have hul := f2.length
     rw [flat_length r2, r3] at hul
     obtain ⟨S', i1, i2, i3⟩ := row_ok (w := w) h (by omega) r2 f2 [] e len (by omega) (by simp; omega)
     rw [r3] at i1 i2 i3
     refine ⟨_, _, S', ?_, i1, i2, i3⟩
     have z2 : (Array.range (len * (m + 1))).map (fun x => zv.cells[x % zv.cells.size]!) = (Array.range (len * zv.cells.size)).map fun i => zv.cells[i % zv.cells.size]! := by rw [hzs]
     have f1' : Instr.fill (fun i => some (i * (m + 1), m + 1)) ((Array.range (len * (m + 1))).map (fun x => zv.cells[x % zv.cells.size]!)) ps.toList = some ⟨us⟩ := by rw [z2]; exact f1
     simp only [Instr.buildSlice, Sem.run_bind, run_underlying hd, Result.andThen_ok, run_sizeOf hm]
     rw [if_neg (by simp only [Nat.succ_eq_add_one]; omega)]
     simp only [Nat.succ_eq_add_one]
     by_cases hl0 : len * (m + 1) = 0
     ·rw [if_pos hl0]
      have f0 : Instr.fill (fun i => some (i * (m + 1), m + 1)) ((Array.range (len * (m + 1))).map (fun x => (#[] : Array Value)[x % (#[] : Array Value).size]!)) ps.toList = some ⟨us⟩ := by
       have hA : ∀ g : Nat → Value, (Array.range (len * (m + 1))).map g = #[] := by intro g; rw [hl0]; apply Array.ext (by simp); intro i h1 _; simp at h1
       rw [hA] at f1' ⊢; exact f1'
      simp only [Sem.run_bind, Sem.run_pure, Result.andThen_ok, f0]
      simp [newRow]
     ·rw [if_neg hl0]
      simp only [Sem.run_bind, Sem.run_pure, Result.andThen_ok, hz1, f1']
      simp [newRow]
    ·cases hx
   ·cases hx
  ·cases hx
 ·cases hx
end ops
end Go.Am
end
section
namespace Go.Am
open Go
section ops
variable (P : Program)
def aLen : AV → Option Nat
 | .isl _ _ _ xs => some xs.length
 | .msl _ _ len => some len
 | .str s => some s.length
 | _ => none
def chunk (agg : Bool) (sz : Nat) : Nat → List AV → Option (List AV)
 | 0, _ => some []
 | n + 1, cs =>
  match chunk agg sz n (cs.drop sz) with
  | some xs =>
   if agg then (if sz ≤ cs.length then some (.agg (cs.take sz) :: xs) else none) else
   match cs with
   | c :: _ => if c.isAgg then none else some (c :: xs)
   | [] => none
  | none => none
def aElems (A : AH) (e : TypeId) (sz n : Nat) : AV → Option (List AV)
 | .isl _ _ _ xs => if n ≤ xs.length ∧ ((xs.take n).all fun x => x.cells.length == sz) then some (xs.take n) else none
 | .msl b off _ =>
  match A.blks[b]?, tAgg P e with
  | some (.cells cs _), some agg => if off + n * sz ≤ cs.length ∧ (agg = false → sz = 1) then chunk agg sz n (cs.drop off) else none
  | _, _ => none
 | .str s => if sz = 1 then some ((s.take n).map fun b => .int .u8 b.toNat) else none
 | _ => none
variable {P}
theorem aLen_ok {S : Sh} {x : AV} {n : Nat} {u : Value} (hx : aLen x = some n) (hu : VRel S x u) (w : World) : (Builtin.lenOf u).run P w = .ok n w := by
 cases hu <;> simp only [aLen, Option.some.injEq, reduceCtorEq] at hx <;> subst hx <;> rfl
theorem chunk_ok {agg : Bool} {sz : Nat} (h0 : 0 < sz) (h1 : agg = false → sz = 1) : ∀ (n : Nat) (cs xs : List AV), chunk agg sz n cs = some xs → xs.length = n ∧ (∀ x ∈ xs, x.cells.length = sz) ∧ flat xs = cs.take (n * sz)
 | 0, cs, xs, h => by simp [chunk] at h; subst h; simp [flat]
 | n + 1, cs, xs, h => by
  simp only [chunk] at h
  split at h
  ·rename_i ys hys
   obtain ⟨r1, r2, r3⟩ := chunk_ok h0 h1 n _ ys hys
   have htake : ∀ c : List AV, cs.take sz = c → c ++ (cs.drop sz).take (n * sz) = cs.take ((n + 1) * sz) := by
    rintro c rfl
    rw [Nat.succ_mul, Nat.add_comm, List.take_add]
   split at h
   ·split at h <;> cases h
    rename_i hle
    refine ⟨by simp [r1], ?_, ?_⟩
    ·intro x hx
     rcases List.mem_cons.1 hx with rfl | hx
     ·simp only [AV.cells, List.length_take]; omega
     ·exact r2 x hx
    ·simp only [flat, AV.cells, r3]; exact htake _ rfl
   ·rename_i hagg
    have hagg : agg = false := by simpa using hagg
    have hs := h1 hagg
    subst hs
    split at h
    ·rename_i c cs'
     split at h <;> cases h
     rename_i hna
     have hc : c.cells = [c] := AV.cells_of_not (by simpa using hna)
     refine ⟨by simp [r1], ?_, ?_⟩
     ·intro x hx
      rcases List.mem_cons.1 hx with rfl | hx
      ·rw [hc]; rfl
      ·exact r2 x hx
     ·simp only [flat, hc, r3]; exact htake _ rfl
    ·cases h
  ·cases h
theorem LRel.bytes (S : Sh) : ∀ (s : List UInt8), LRel S (s.map fun b => AV.int .u8 b.toNat) (s.map fun b => Value.int .u8 b.toNat)
 | [] => .nil
 | _ :: s => .cons _ _ _ _ (.int _ _) (LRel.bytes S s)
theorem aElems_ok {G : Gl} {S : Sh} {A : AH} {w : World} (h : Inv G S A w) {e : TypeId} {sz n : Nat} (h0 : 0 < sz) {x : AV} {ys : List AV} {u : Value} (hy : aElems P A e sz n x = some ys) (hu : VRel S x u) (hn : ∃ m, aLen x = some m ∧ n ≤ m) :
  ∃ vs, (Builtin.firstCells sz n u).run P w = .ok ⟨vs⟩ w ∧ LRel S (flat ys) vs ∧ (∀ y ∈ ys, y.cells.length = sz) ∧ ys.length = n := by
 obtain ⟨m, hm, hnm⟩ := hn
 unfold aElems at hy
 split at hy
 ·rename_i b fam off xs
  split at hy <;> cases hy
  rename_i hc
  obtain ⟨h1, h2⟩ := hc
  have hsz : ∀ y ∈ xs.take n, y.cells.length = sz := fun y hy => by simpa using List.all_eq_true.1 h2 y hy
  have hlen : (xs.take n).length = n := by simp; omega
  cases hu with
  | islNil =>
   simp only [List.length_nil, Nat.le_zero] at h1
   subst h1
   exact ⟨[], by simp [Builtin.firstCells], by simp [flat]; exact .nil, hsz, hlen⟩
  | islE off a =>
   simp only [List.length_nil, Nat.le_zero] at h1
   subst h1
   exact ⟨[], by simp [Builtin.firstCells, loadCells, loadCellsFrom], by simp [flat]; exact .nil, hsz, hlen⟩
  | isl _ _ _ sz' a o cap h0' hsz' hc hl hf =>
   have hcr := CRel.rows hsz' hc 0 n (by omega)
   simp only [List.drop_zero, Nat.zero_mul, Nat.add_zero] at hcr
   obtain ⟨vs, r1, r2⟩ := CRel.cells hcr
   have hvl : vs.length = n * sz := by rw [← r1.length, flat_length hsz, hlen]
   exact ⟨vs, by simp [Builtin.firstCells, run_loadCells hvl (fun j v hj => h.im _ _ _ (r2 j v hj))], r1, hsz, hlen⟩
 ·rename_i b off len
  cases hu with
  | msl _ _ _ c cap hc hcap =>
  split at hy
  ·rename_i cs el agg hb hagg
   split at hy
   ·rename_i hle
    obtain ⟨hle, h1⟩ := hle
    obtain ⟨r1, r2, r3⟩ := chunk_ok h0 h1 n _ ys hy
    obtain ⟨c', o, s1, s2, s3⟩ := h.blk b _ hb (by simp)
    obtain rfl := Option.some.inj (s1.symm.trans hc)
    cases s3 with
    | cells _ _ vs rest hl =>
    have hlen := hl.length
    refine ⟨(vs.drop off).take (n * sz), ?_, by rw [r3]; exact (hl.drop off).take _, r2, r1⟩
    have hcells := run_loadCells (P := P) (w := w) (b := c') (o := off) (n := n * sz) (vs := (vs.drop off).take (n * sz)) (by simp; omega) (fun j v hj => by
     rw [cell_of_heap s2]
     rw [List.getElem?_take] at hj
     split at hj
     ·simp only [List.getElem?_drop] at hj
      simpa [List.getElem?_append_left (List.getElem?_eq_some_iff.1 hj).1] using hj
     ·cases hj)
    simpa [Builtin.firstCells] using hcells
   ·cases hy
  ·cases hy
 ·rename_i s
  split at hy <;> cases hy
  rename_i hs
  subst hs
  cases hu
  simp only [aLen, Option.some.injEq] at hm
  subst hm
  refine ⟨(s.take n).map fun b => .int .u8 b.toNat, ?_, ?_, ?_, by simp; omega⟩
  ·have : ((ByteArray.mk s.toArray).extract 0 n) = ⟨(s.take n).toArray⟩ := by apply ByteArray.ext; simp
   simp [Builtin.firstCells, this]
  ·have : flat ((s.take n).map fun b => AV.int .u8 b.toNat) = (s.take n).map fun b => AV.int .u8 b.toNat := by
    induction s.take n with
    | nil => rfl
    | cons b s ih => simp only [List.map_cons, flat, AV.cells, ih]; rfl
   rw [this]; exact LRel.bytes S _
  ·intro y hy
   obtain ⟨b, _, rfl⟩ := List.mem_map.1 hy
   rfl
 ·cases hy
theorem growBy_le (n : Nat) : ∀ (r c : Nat), c ≤ 2 * n + 200 → Builtin.growBy n r c ≤ 2 * n + 200
 | 0, c, h => h
 | r + 1, c, h => by
  unfold Builtin.growBy
  split
  ·exact h
  ·exact growBy_le n r _ (by omega)
theorem nextslicecap_le (n c : Nat) (h : c < n) : Builtin.nextslicecap n c ≤ 2 * n + 200 := by
 unfold Builtin.nextslicecap
 split
 ·omega
 ·split
  ·omega
  ·exact growBy_le n 4 c (by omega)
variable (P) in
def aElemOf (argTypes : Array TypeId) : Option (TypeId × Nat × AV × Nat) :=
 match argTypes[0]?, argTypes[1]? with
 | some t, some t' =>
  match P.underlying t, P.underlying t' with
  | some (.slice _), some (.int _) => none
  | some (.slice e), some _ =>
   match P.info? e, tZero P e with
   | some i, some z => if z.cells.length = i.size ∧ z.isTop = false ∧ 0 < i.size ∧ i.bytes ≤ 2 ^ 32 then some (e, i.size, z, i.bytes) else none
   | _, _ => none
  | _, _ => none
 | _, _ => none
variable (P) in
def aAppend (A : AH) (argTypes : Array TypeId) (s x : AV) : Option (AV × AH) :=
 match aElemOf P argTypes, aLen x with
 | some (e, sz, _, bytes), some n =>
  match aElems P A e sz n x with
  | some ys =>
   match s with
   | .isl nil fam off xs =>
    if n = 0 then some (.isl nil fam off xs, A) else
    if (xs.length + n) * bytes ≤ 2 ^ 45 ∧ xs.length + n ≤ 2 ^ 60 ∧ (flat ys).all AV.one then
     match nil, fam with
     | true, _ => some (.isl false (some A.fams.length) 0 ys, A.grow n sz)
     | false, some φ => if A.fams[φ]? = some (off + xs.length, sz) ∧ (xs.all fun x => x.cells.length == sz) then some (.isl false (some φ) off (xs ++ ys), A.reach φ (off + xs.length + n) sz) else none
     | false, none => none
    else none
   | _ => none
  | none => none
 | _, _ => none
theorem aElemOf_ok {argTypes : Array TypeId} {e : TypeId} {sz bytes : Nat} {z : AV} (h : aElemOf P argTypes = some (e, sz, z, bytes)) :
  ∃ t t' d i, argTypes[0]? = some t ∧ argTypes[1]? = some t' ∧ P.underlying t = some (.slice e) ∧ P.underlying t' = some d ∧ (∀ k, d ≠ .int k) ∧ P.info? e = some i ∧ tZero P e = some z ∧ i.size = sz ∧ i.bytes = bytes ∧
   z.cells.length = sz ∧ z.isTop = false ∧ 0 < sz ∧ bytes ≤ 2 ^ 32 := by
 unfold aElemOf at h
 split at h
 ·rename_i t t' h0 h1
  split at h
  ·cases h
  ·rename_i e' d hne hd hd'
   split at h
   ·rename_i i z' hi hz
    split at h <;> cases h
    rename_i hc
    obtain ⟨c1, c2, c3, c4⟩ := hc
    exact ⟨t, t', d, i, h0, h1, hd, hd', fun k hk => hne k hk, hi, hz, rfl, rfl, c1, c2, c3, c4⟩
   ·cases h
  ·cases h
 ·cases h
section append
variable {argTypes : Array TypeId} {t t' e : TypeId} {d : TypeDesc} {i : TypeInfo} {ty : TypeId} {sLen sCap n : Nat} {v : Value} {w : World}
theorem run_append_in {base : Option Addr} (h0 : argTypes[0]? = some t) (h1 : argTypes[1]? = some t') (hd : P.underlying t = some (.slice e)) (hd' : P.underlying t' = some d) (hne : ∀ k, d ≠ .int k) (hi : P.info? e = some i)
  (hlen : (Builtin.lenOf v).run P w = .ok n w) (hle : sLen + n ≤ sCap) {vs : List Value} (hf : (Builtin.firstCells i.size n v).run P w = .ok ⟨vs⟩ w) {w' : World}
  (hst : match base with | some a => (storeCells (a.add (sLen * i.size)) vs).run P w = .ok () w' | none => w' = w) :
  (Builtin.append_ argTypes ty #[.slice base sLen sCap, v]).run P w = .ok (.slice base (sLen + n) sCap) w' := by
 have hs : (sizeOf e).run P w = .ok i.size w := run_sizeOf (by simp [tSize, hi]) w
 have hint : ∀ k, ¬ d = .int k := hne
 unfold Builtin.append_
 simp only [h0, h1]
 cases base with
 | none =>
  subst hst
  simp [run_underlying hd, hs, run_underlying hd', hlen, run_typeInfo hi, hle, hf]
 | some a =>
  simp only at hst
  simp [run_underlying hd, hs, run_underlying hd', hlen, run_typeInfo hi, hle, hf, hst]
theorem run_append_out {base : Option Addr} (h0 : argTypes[0]? = some t) (h1 : argTypes[1]? = some t') (hd : P.underlying t = some (.slice e)) (hd' : P.underlying t' = some d) (hne : ∀ k, d ≠ .int k) (hi : P.info? e = some i)
  (hlen : (Builtin.lenOf v).run P w = .ok n w) (hgt : sCap < sLen + n) (hsmall : sLen + n ≤ 2 ^ 60) (hbytes : i.bytes ≤ 2 ^ 32) (hroom : (sLen + n) * i.bytes ≤ 2 ^ 45) {os vs : List Value} {zv : Value}
  (ho : (Builtin.firstCells i.size sLen (.slice base sLen sCap)).run P w.drew = .ok ⟨os⟩ w.drew) (hf : (Builtin.firstCells i.size n v).run P w.drew = .ok ⟨vs⟩ w.drew) (hz : (zeroValue e).run P w.drew = .ok zv w.drew) :
  ∃ newCap, sLen + n ≤ newCap ∧ (Builtin.append_ argTypes ty #[.slice base sLen sCap, v]).run P w =
   .ok (.slice (some ⟨w.heap.size, 0, none⟩) (sLen + n) newCap) { w.drew with heap := w.heap.push (.cells ⟨os ++ vs ++ (Builtin.zeroCells zv.cells (newCap - (sLen + n))).toList⟩ e (0, 0)) } := by
 have hs : (sizeOf e).run P w = .ok i.size w := run_sizeOf (by simp [tSize, hi]) w
 have hint : ∀ k, ¬ d = .int k := hne
 have hcap := nextslicecap_le (sLen + n) sCap hgt
 have hb : ¬ 281474976710656 < Builtin.nextslicecap (sLen + n) sCap * i.bytes := by
  have h2 := Nat.mul_le_mul_right i.bytes hcap
  rw [Nat.add_mul, Nat.mul_assoc] at h2
  have : 200 * i.bytes ≤ 200 * 2 ^ 32 := Nat.mul_le_mul_left _ hbytes
  omega
 have hmax : ¬ (9223372036854775807 < (sLen : Int) + (n : Int) ∧ i.bytes = 0) := by omega
 refine ⟨(Question.appendCap (sLen + n) sCap e).cut (w.tape w.drawn (Question.appendCap (sLen + n) sCap e)), ?_, ?_⟩
 ·simp only [Question.cut]; omega
 ·unfold Builtin.append_
  simp only [h0, h1]
  simp [run_underlying hd, hs, run_underlying hd', hlen, run_typeInfo hi, Nat.not_le.2 hgt, hb, hmax, Question.forced, ho, hf, hz, newRow]
  have e1 : ∀ Z : Array Value, ((⟨os⟩ : Array Value) ++ ((⟨vs⟩ : Array Value) ++ Z)) = ⟨os ++ (vs ++ Z.toList)⟩ := by intro Z; apply Array.ext'; simp
  rw [e1]; rfl
end append
theorem zeroCells_length (zc : Array Value) (n : Nat) : (Builtin.zeroCells zc n).toList.length = n * zc.size := by
 simp [Builtin.zeroCells]
theorem aAppend_ok {G : Gl} {S : Sh} {A A' : AH} {w : World} (h : Inv G S A w) {argTypes : Array TypeId} {ty : TypeId} {s x y : AV} {u v : Value} (hx : aAppend P A argTypes s x = some (y, A')) (hu : VRel S s u) (hv : VRel S x v) :
  VOk P G S A w (Builtin.append_ argTypes ty #[u, v]) y A' := by
 unfold aAppend at hx
 split at hx
 ·rename_i e sz z bytes n hE hn
  obtain ⟨t, t', d, i, h0, h1, hd, hd', hne, hi, hz, rfl, rfl, hzl, hzt, hsz, hby⟩ := aElemOf_ok hE
  split at hx
  ·rename_i ys hys
   have hlen := aLen_ok (P := P) hn hv w
   obtain ⟨vs, f1, f2, f3, f4⟩ := aElems_ok h hsz hys hv ⟨n, hn, Nat.le_refl _⟩
   have hdrew := (h.drew (w.drawn + 1)).1
   have hdfr := (h.drew (w.drawn + 1)).2
   obtain ⟨vs', f1', f2', _, _⟩ := aElems_ok (w := w.drew) hdrew hsz hys hv ⟨n, hn, Nat.le_refl _⟩
   obtain ⟨zv, hz1, hz2⟩ := run_zeroValue hz w.drew
   have hzr := ofVs_rel S zv
   rw [← hz2] at hzr
   have hzs : zv.cells.size = i.size := by
    have hzt' : z ≠ .top := by rintro rfl; simp [AV.isTop] at hzt
    have := (hzr.cells hzt').length; simp at this; omega
   split at hx
   ·rename_i nil fam off xs
    split at hx
    ·-- nothing is appended
     rename_i hn0
     cases hx
     subst hn0
     have hvs : vs = [] := by
      have := f2.length
      rw [flat_length f3, f4] at this
      exact List.eq_nil_of_length_eq_zero (by omega)
     subst hvs
     cases hu with
     | islNil =>
      exact VOk.same h (run_append_in (base := none) h0 h1 hd hd' hne hi hlen (Nat.le_refl _) f1 rfl) (.islNil _ _)
     | islE off a =>
      exact VOk.same h (run_append_in (base := some a) h0 h1 hd hd' hne hi hlen (Nat.le_refl _) f1 (by simp [storeCells])) (.islE _ _)
     | isl _ _ _ sz' a o cap q1 q2 q3 q4 q5 =>
      exact VOk.same h (run_append_in (base := some ⟨a, o, none⟩) h0 h1 hd hd' hne hi hlen (by omega) f1 (by simp [storeCells])) (.isl _ _ _ sz' a o cap q1 q2 q3 q4 q5)
    ·rename_i hn0
     split at hx
     ·rename_i hc
      obtain ⟨c1, c2, c3⟩ := hc
      split at hx
      ·-- to nothing
       cases hx
       cases hu
       simp only [List.length_nil] at c1 c2
       obtain ⟨newCap, g1, g2⟩ := run_append_out (ty := ty) (base := none) (sLen := 0) (sCap := 0) (os := []) h0 h1 hd hd' hne hi hlen (by omega) c2 hby c1 (by simp [Builtin.firstCells]) f1' hz1
       simp only [List.nil_append, Nat.zero_add] at g1 g2
       have hvl := f2'.length
       rw [flat_length f3, f4] at hvl
       obtain ⟨S', r1, r2, r3⟩ := row_ok (w := w.drew) hdrew hsz f3 f2' (Builtin.zeroCells zv.cells (newCap - n)).toList e newCap (by omega) (by
        rw [List.length_append, zeroCells_length, hzs, ← hvl, ← Nat.add_mul]
        exact Nat.mul_le_mul_right _ (by omega))
       rw [f4] at r1 r2 r3
       exact ⟨_, _, S', g2, r1, hdfr.trans r2, r3⟩
      ·-- behind others
       rename_i φ
       split at hx
       ·rename_i hfam
        obtain ⟨hfam, hxs⟩ := hfam
        cases hx
        have hxsz : ∀ y ∈ xs, y.cells.length = i.size := fun y hy => by simpa using List.all_eq_true.1 hxs y hy
        cases hu with
        | isl _ _ _ sz' a o cap q1 q2 q3 q4 q5 =>
        obtain ⟨room, t1, t2⟩ := q5 φ rfl
        obtain ⟨b', ec', room', t3⟩ := h.fam φ _ _ hfam
        rw [t1] at t3
        simp only [Option.some.injEq, Prod.mk.injEq] at t3
        obtain ⟨rfl, rfl, rfl, rfl⟩ := t3
        have hends : A.ends S φ a (o + xs.length * i.size) room := ⟨_, _, hfam, t1⟩
        obtain ⟨⟨c, el, hheap, hcsz⟩, _, _⟩ := h.room φ _ _ _ hends
        have hvl := f2.length
        rw [flat_length f3, f4] at hvl
        have hlt : off + xs.length < off + xs.length + n := by omega
        by_cases hfit : xs.length + n ≤ cap
        ·-- where it ends
         have hroom : o + xs.length * i.size + 0 + vs.length ≤ c.toList.length := by
          have := Nat.mul_le_mul_right i.size hfit
          rw [Nat.add_mul] at this
          simp only [Array.length_toList]
          omega
         obtain ⟨w', s1, s2, s3, s4, s5, s6, s7⟩ := run_storeCells (P := P) (el := el) (c := a) vs w c.toList (o + xs.length * i.size) 0 (by simpa using hheap) hroom (f2.ones c3)
         rw [Nat.add_zero] at s2
         have hcell : ∀ k, w'.cell? ⟨a, k, none⟩ = (over c.toList (o + xs.length * i.size) vs)[k]? := fun k => by rw [cell_of_heap s2]; simp
         obtain ⟨i1, i2⟩ := h.reachHere hfam hlt t1 vs s2 (by simp [over_length, hcsz]) (fun k hk => by
          rw [hcell, over_lt _ _ _ _ hk, cell_of_heap hheap]; simp) (fun j v hj => by
          rw [hcell]; exact over_new _ _ _ _ _ (by omega) hj) s3 s4 s5 s6 s7
         refine ⟨_, w', _, run_append_in (base := some ⟨a, o, none⟩) h0 h1 hd hd' hne hi hlen hfit f1 (by simpa [add_mk] using s1), i1, i2, ?_⟩
         have key := VRel.isl (S := S.more a (o + xs.length * i.size) vs φ (off + xs.length + n) room i.size) (some φ) off (xs ++ ys) i.size a o cap hsz (fun y hy => by
          rcases List.mem_append.1 hy with hy | hy
          ·exact q2 y hy
          ·exact f3 y hy) (by
          rw [flat_append]
          refine CRel.append.2 ⟨q3.mono i2.le, ?_⟩
          rw [flat_length q2]
          refine CRel.of_cells (f2.mono i2.le) fun j v hj => ?_
          have := (List.getElem?_eq_some_iff.1 hj).1
          simp only [Sh.more]
          rw [if_pos ⟨trivial, by omega, by omega⟩]
          rw [show o + xs.length * i.size + j - (o + xs.length * i.size) = j by omega]; exact hj) (by simp [f4]; exact hfit) (by
          intro ψ hψ; cases hψ
          refine ⟨room, ?_, t2⟩
          simp only [Sh.more, List.length_append, f4]
          rw [if_pos ⟨trivial, by omega⟩, ← hvl, Nat.add_mul, Nat.add_assoc])
         simpa [f4] using key
        ·-- in a new row
         obtain ⟨os, o1, o2⟩ := CRel.cells q3
         have hol : os.length = xs.length * i.size := by rw [← o1.length, flat_length q2]
         have ho : (Builtin.firstCells i.size xs.length (.slice (some ⟨a, o, none⟩) xs.length cap)).run P w.drew = .ok ⟨os⟩ w.drew := by
          simp [Builtin.firstCells, run_loadCells (P := P) (w := w.drew) hol (fun j v hj => hdrew.im _ _ _ (o2 j v hj))]
         obtain ⟨newCap, g1, g2⟩ := run_append_out (ty := ty) (base := some ⟨a, o, none⟩) h0 h1 hd hd' hne hi hlen (by omega) c2 hby c1 ho f1' hz1
         have hvl' := f2'.length
         rw [flat_length f3, f4] at hvl'
         obtain ⟨i1, i2⟩ := hdrew.reachRow hfam hlt (os ++ vs') (Builtin.zeroCells zv.cells (newCap - (xs.length + n))).toList e
         refine ⟨_, _, _, g2, i1, hdfr.trans i2, ?_⟩
         have key := VRel.isl (S := S.more w.drew.heap.size 0 (os ++ vs') φ (off + xs.length + n) ((os ++ vs') ++ (Builtin.zeroCells zv.cells (newCap - (xs.length + n))).toList).length i.size) (some φ) off (xs ++ ys) i.size w.heap.size 0 newCap hsz (fun y hy => by
          rcases List.mem_append.1 hy with hy | hy
          ·exact q2 y hy
          ·exact f3 y hy) (by
          rw [flat_append]
          refine CRel.of_cells ((o1.append f2').mono i2.le) fun j v hj => ?_
          have := (List.getElem?_eq_some_iff.1 hj).1
          simp only [Sh.more]
          rw [if_pos ⟨rfl, by omega, by omega⟩]
          rw [show 0 + j - 0 = j by omega]; exact hj) (by simp [f4]; exact g1) (by
          intro ψ hψ; cases hψ
          refine ⟨((os ++ vs') ++ (Builtin.zeroCells zv.cells (newCap - (xs.length + n))).toList).length, ?_, ?_⟩
          ·simp only [Sh.more, List.length_append, f4]
           rw [if_pos ⟨trivial, by omega⟩, hol, ← hvl', Nat.add_mul]
           rfl
          ·rw [List.length_append, List.length_append, zeroCells_length, hzs, hol, ← hvl', ← Nat.add_mul, ← Nat.add_mul, Nat.zero_add]
           exact Nat.mul_le_mul_right _ (by omega))
         simpa [f4] using key
       ·cases hx
      ·cases hx
     ·cases hx
   ·cases hx
  ·cases hx
 ·cases hx
end ops
end Go.Am
end
section
namespace Go.Am
open Go
section ops
variable (P : Program)
def aCopy (A : AH) (argTypes : Array TypeId) (d s : AV) : Option (AV × AH) :=
 match argTypes[0]? with
 | some t =>
  match P.underlying t with
  | some (.slice e) =>
   match tSize P e, aLen s, d with
   | some (m + 1), some k, .msl b off len =>
    match aElems P A e (m + 1) (min k len) s, A.blks[b]? with
    | some ys, some (.cells cs el) =>
     if (flat ys).all AV.one ∧ off + min k len * (m + 1) ≤ cs.length then some (.int .i64 (min k len : Nat), A.put b (.cells (over cs off (flat ys)) el)) else none
    | _, _ => none
   | _, _, _ => none
  | _ => none
 | none => none
variable {P}
theorem aCopy_ok {G : Gl} {S : Sh} {A A' : AH} {w : World} (h : Inv G S A w) {argTypes : Array TypeId} {ty : TypeId} {d s y : AV} {u v : Value} (hx : aCopy P A argTypes d s = some (y, A')) (hu : VRel S d u) (hv : VRel S s v) :
  VOk P G S A w (Builtin.copy_ argTypes ty #[u, v]) y A' := by
 unfold aCopy at hx
 split at hx
 ·rename_i t ht
  split at hx
  ·rename_i e hd
   split at hx
   ·rename_i m k b off len hm hk
    split at hx
    ·rename_i ys cs el hys hb
     split at hx <;> cases hx
     rename_i hc
     obtain ⟨c1, c2⟩ := hc
     cases hu with
     | msl _ _ _ c cap hc hcap =>
     obtain ⟨vs, f1, f2, f3, f4⟩ := aElems_ok h (by omega) hys hv ⟨k, hk, Nat.min_le_left _ _⟩
     obtain ⟨c', o, s1, s2, s3⟩ := h.blk b _ hb (by simp)
     obtain rfl := Option.some.inj (s1.symm.trans hc)
     cases s3 with
     | cells _ _ us rest hl =>
     have hvl := f2.length
     rw [flat_length f3, f4] at hvl
     have hll := hl.length
     obtain ⟨w', r1, r2, r3, r4, r5, r6, r7⟩ := run_storeCells (P := P) (el := el) (c := c') vs w (us ++ rest) off 0 s2 (by simp; omega) (f2.ones c1)
     rw [Nat.add_zero, over_append _ _ _ _ (by omega)] at r2
     obtain ⟨i1, i2⟩ := h.put (x := .cells (over cs off (flat ys)) el) ⟨_, hb, by simp⟩ hc (by simp) (.cells _ _ _ _ (LRel.over off f2 hl)) r2 r3 r4 r5 r6 r7 (fun cs' el' hh => by rw [s2] at hh; cases hh; exact ⟨_, _, rfl, by simp [over_length]⟩)
     refine ⟨_, w', S, ?_, i1, i2, .int _ _⟩
     simp [Builtin.copy_, ht, run_underlying hd, aLen_ok (P := P) hk hv w, run_sizeOf hm, f1, r1, goInt]
    ·cases hx
   ·cases hx
  ·cases hx
 ·cases hx
variable (P) in
def aMake (A : AH) (t : TypeId) (len cap : AV) : Option (AV × AH) :=
 match len, cap with
 | .int _ l, .int _ c =>
  match P.underlying t with
  | some (.slice e) =>
   match P.info? e, tZero P e with
   | some i, some z =>
    if 0 ≤ l ∧ l ≤ c ∧ c ≤ 2 ^ 40 ∧ i.bytes ≤ 2 ^ 8 ∧ 0 < i.size ∧ z.cells.length = i.size ∧ z.isTop = false then
     if l = 0 then some (.isl false (some A.fams.length) 0 [], A.grow 0 i.size) else
     some (.row A.blks.length l.toNat i.size, A.push (.cells (flat (List.replicate c.toNat z)) e))
    else none
   | _, _ => none
  | _ => none
 | _, _ => none
theorem aMake_ok {G : Gl} {S : Sh} {A A' : AH} {w : World} (h : Inv G S A w) {t : TypeId} {len cap y : AV} {u v : Value} (hx : aMake P A t len cap = some (y, A')) (hu : VRel S len u) (hv : VRel S cap v) :
  VOk P G S A w (Instr.makeSlice t u v) y A' := by
 unfold aMake at hx
 split at hx
 ·rename_i k l k' c
  cases hu; cases hv
  split at hx
  ·rename_i e hd
   split at hx
   ·rename_i i z hi hz
    split at hx
    ·rename_i hc
     obtain ⟨c1, c2, c3, c4, c5, c6, c7⟩ := hc
     obtain ⟨zv, hz1, hz2⟩ := run_zeroValue hz w
     have hzr := ofVs_rel S zv
     rw [← hz2] at hzr
     have hzs : zv.cells.size = i.size := by
      have hzt' : z ≠ .top := by rintro rfl; simp [AV.isTop] at c7
      have := (hzr.cells hzt').length; simp at this; omega
     have hwl : IntKind.i64.wrap l = l := by simp only [IntKind.wrap, IntKind.bits, IntKind.signed]; simp; omega
     have hwc : IntKind.i64.wrap c = c := by simp only [IntKind.wrap, IntKind.bits, IntKind.signed]; simp; omega
     have hprod : (i.bytes : Int) * c ≤ 281474976710656 := by
      have h1 : (i.bytes : Int) * c ≤ (2 ^ 8 : Int) * 2 ^ 40 := Int.mul_le_mul (by exact_mod_cast c4) c3 (by omega) (by omega)
      omega
     have hsz : (sizeOf e).run P w = .ok i.size w := run_sizeOf (by simp [tSize, hi]) w
     have hrow : ∃ T : Array Value, T = (Array.range (c.toNat * zv.cells.size)).map (fun j => zv.cells[j % zv.cells.size]!) ∧
       (Instr.makeSlice t (.int k l) (.int k' c)).run P w = .ok (.slice (some ⟨w.heap.size, 0, none⟩) l.toNat c.toNat) { w with heap := w.heap.push (.cells ⟨T.toList ++ []⟩ e (0, 0)) } := by
      refine ⟨_, rfl, ?_⟩
      have hnot : ¬ (c < 0 ∨ 281474976710656 < (i.bytes : Int) * c) := by omega
      have hl0 : ¬ l < 0 := by omega
      have hlc : ¬ c < l := by omega
      by_cases hc0 : c.toNat * i.size = 0
      ·have hA : ∀ (g : Nat → Value) (n : Nat), n = 0 → (Array.range n).map g = #[] := by
        intro g n hn; subst hn; apply Array.ext (by simp); intro i h1 _; simp at h1
       simp [Instr.makeSlice, run_underlying hd, asInt, asIntOf, run_typeInfo hi, hwl, hwc, hnot, hl0, hlc, hsz, hc0, newRow, hzs]
       rw [hA _ 0 rfl]
      ·simp [Instr.makeSlice, run_underlying hd, asInt, asIntOf, run_typeInfo hi, hwl, hwc, hnot, hl0, hlc, hsz, hc0, hz1, newRow, hzs]
       have hB : ∀ (g : Nat → Value) (n : Nat), (Array.range n).map g = ⟨(List.range n).map g⟩ := by intro g n; apply Array.ext'; simp
       rw [hB]
     obtain ⟨T, hT, hrun⟩ := hrow
     have hTl : T.toList.length = c.toNat * i.size := by rw [hT]; simp [hzs]
     split at hx
     ·rename_i hl0
      cases hx
      obtain ⟨S', r1, r2, r3⟩ := row_ok (w := w) (xs := []) (sz := i.size) h c5 (by simp) (vs := []) (by simp [flat]; exact .nil) T.toList e c.toNat (by simp) (by simp only [List.nil_append]; omega)
      simp only [List.length_nil, List.nil_append] at r1 r2 r3
      subst hl0
      exact ⟨_, _, S', by simpa using hrun, r1, r2, r3⟩
     ·cases hx
      have hzl := zeros_rel (n := c.toNat) hzr c7 c6 c5
      rw [← hT] at hzl
      have hle := Sh.le_at (h.ρout _ (Nat.le_refl _)) w.heap.size
      obtain ⟨i1, i2⟩ := h.push (x := .cells (flat (List.replicate c.toNat z)) e) (o := .cells ⟨T.toList ++ []⟩ e (0, 0)) (by simp) (.cells _ _ _ _ (hzl.mono hle))
      obtain ⟨j1, j2⟩ := i1.know (c := w.heap.size) (cs := ⟨T.toList ++ []⟩) (el := e) (by simp)
      exact ⟨_, _, _, hrun, j1, i2.trans j2, .row _ _ _ w.heap.size c.toNat (T.toList ++ []).length (by simp [Sh.at, Sh.know]) c5 (by omega) (by simp only [Sh.know, ↓reduceIte]; rfl) (by rw [List.append_nil, hTl]; exact Nat.le_refl _)⟩
    ·cases hx
   ·cases hx
  ·cases hx
 ·cases hx
variable (P) in
def aLenB (A : AH) (argTypes : Array TypeId) (x : AV) : Option AV :=
 match argTypes[0]? with
 | some t =>
  match P.underlying t, x with
  | some .string, .str s => some (.int .i64 s.length)
  | some (.slice _), .isl _ _ _ xs => some (.int .i64 xs.length)
  | some (.slice _), .msl _ _ len => some (.int .i64 len)
  | some (.array n _), _ => some (.int .i64 n)
  | some (.map _ _), .nilm => some (.int .i64 0)
  | some (.map _ _), .map b =>
   match A.blks[b]? with
   | some (.map es _) => some (.int .i64 es.length)
   | _ => none
  | _, _ => none
 | none => none
theorem MRel.length {S : Sh} : ∀ {es : List (AV × AV × Nat)} {ms : List MapEntry}, MRel S es ms → es.length = ms.length
 | _, _, .nil => rfl
 | _, _, .cons _ _ _ _ _ _ _ _ _ h => by simp [MRel.length h]
theorem aLenB_ok {G : Gl} {S : Sh} {A : AH} {w : World} (h : Inv G S A w) {argTypes : Array TypeId} {ty : TypeId} {x y : AV} {u : Value} (hx : aLenB P A argTypes x = some y) (hu : VRel S x u) :
  ∃ v, (Builtin.len_ argTypes ty #[u]).run P w = .ok v w ∧ VRel S y v := by
 unfold aLenB at hx
 split at hx
 ·rename_i t ht
  split at hx
  ·rename_i s hd; cases hx; cases hu
   exact ⟨_, by simp [Builtin.len_, ht, run_underlying hd]; rfl, .int _ _⟩
  ·rename_i xs hd; cases hx
   cases hu with
   | islNil => exact ⟨_, by simp [Builtin.len_, ht, run_underlying hd]; rfl, .int _ _⟩
   | islE => exact ⟨_, by simp [Builtin.len_, ht, run_underlying hd]; rfl, .int _ _⟩
   | isl => exact ⟨_, by simp [Builtin.len_, ht, run_underlying hd]; rfl, .int _ _⟩
  ·rename_i len hd; cases hx; cases hu
   exact ⟨_, by simp [Builtin.len_, ht, run_underlying hd]; rfl, .int _ _⟩
  ·rename_i n e hd; cases hx
   exact ⟨_, by simp [Builtin.len_, ht, run_underlying hd]; rfl, .int _ _⟩
  ·rename_i hd; cases hx; cases hu
   exact ⟨_, by simp [Builtin.len_, ht, run_underlying hd]; rfl, .int _ _⟩
  ·rename_i b hd
   split at hx
   ·rename_i es clock hb
    cases hx
    cases hu with
    | map _ c hc =>
    obtain ⟨c', o, s1, s2, s3⟩ := h.blk b _ hb (by simp)
    obtain rfl := Option.some.inj (s1.symm.trans hc)
    cases s3 with
    | map _ _ ms hm =>
    have hlen := hm.length
    refine ⟨.int .i64 ms.length, ?_, by rw [hlen]; exact .int _ _⟩
    simp [Builtin.len_, ht, run_underlying hd, getObj, Sem.run, s2, goInt]
   ·cases hx
  ·cases hx
 ·cases hx
def aMax2 (mx : Bool) : AV → AV → Option AV
 | .int k a, .int k' b => if k = k' then some (.int k (if mx then (if b > a then b else a) else (if b < a then b else a))) else none
 | _, _ => none
def aMaxs (mx : Bool) : AV → List AV → Option AV
 | x, [] => some x
 | x, y :: ys => match aMax2 mx x y with
  | some z => aMaxs mx z ys
  | none => none
theorem aMaxs_ok {S : Sh} {mx : Bool} (w : World) : ∀ (ys : List AV) (vs : List Value) (x y : AV) (u : Value), aMaxs mx x ys = some y → VRel S x u → LRel S ys vs →
  ∃ v, (vs.foldlM (if mx then Builtin.max2 else Builtin.min2) u).run P w = .ok v w ∧ VRel S y v
 | [], _, x, y, u, h, hx, .nil => by simp [aMaxs] at h; subst h; exact ⟨u, by simp, hx⟩
 | z :: ys, _, x, y, u, h, hx, .cons _ _ v vs hz hl => by
  simp only [aMaxs] at h
  split at h
  ·rename_i r hr
   unfold aMax2 at hr
   split at hr
   ·split at hr <;> cases hr
    rename_i k a k' b hk
    subst hk
    cases hx; cases hz
    obtain ⟨v', h1, h2⟩ := aMaxs_ok w ys vs _ y (.int k (if mx then (if b > a then b else a) else (if b < a then b else a))) h (.int _ _) hl
    refine ⟨v', ?_, h2⟩
    rw [← h1]
    cases mx <;> simp [List.foldlM_cons, Builtin.max2, Builtin.min2]
   ·cases hr
  ·cases h
/-! ### Conversions, assertions -/
def aBytes : List AV → Option (List UInt8)
 | [] => some []
 | .int .u8 n :: xs => (aBytes xs).map (UInt8.ofNat n.toNat :: ·)
 | _ => none
variable (P) in
def aConvert (A : AH) (src dst : TypeId) (x : AV) : Option AV :=
 match P.underlying src, P.underlying dst, x with
 | some _, some (.int k), .int _ n => some (.int k (k.wrap n))
 | some _, some .string, .str s => some (.str s)
 | some (.slice e), some .string, .isl _ _ _ xs =>
  match P.underlying e with
  | some (.int .u8) => if (xs.all fun x => x.cells.length == 1) then (aBytes (flat xs)).map .str else none
  | _ => none
 | some (.slice e), some .string, .msl b off len =>
  match P.underlying e, A.blks[b]? with
  | some (.int .u8), some (.cells cs _) => if off + len ≤ cs.length then (aBytes ((cs.drop off).take len)).map .str else none
  | _, _ => none
 | _, _, _ => none
theorem forIn_bytes {P : Program} {S : Sh} (w : World) {xs : List AV} {vs : List Value} (hl : LRel S xs vs) : ∀ (bs acc : List UInt8), aBytes xs = some bs →
  (forIn vs (ByteArray.mk acc.toArray) (fun c s =>
   match c with
   | .int .u8 n => pure (ForInStep.yield (s.push (UInt8.ofNat n.toNat)))
   | _ => do
    stuck "bytesToString: byte expected"
    pure (ForInStep.yield s)) : Sem ByteArray).run P w = .ok ⟨(acc ++ bs).toArray⟩ w := by
 induction vs generalizing xs with
 | nil =>
  intro bs acc h
  cases hl
  simp [aBytes] at h; subst h; simp
 | cons v vs ih =>
  intro bs acc h
  cases hl with
  | cons x xs _ _ hx hl =>
  unfold aBytes at h
  split at h
  ·rename_i heq; cases heq
  ·rename_i n xs' heq
   cases heq
   simp only [Option.map_eq_some_iff] at h
   obtain ⟨cs, h1, rfl⟩ := h
   cases hx
   have ih := ih hl cs (acc ++ [UInt8.ofNat n.toNat]) h1
   simp only [List.forIn_cons, Sem.run_bind, Sem.run_pure, Result.andThen_ok]
   have : (ByteArray.mk acc.toArray).push (UInt8.ofNat n.toNat) = ⟨(acc ++ [UInt8.ofNat n.toNat]).toArray⟩ := by
    apply ByteArray.ext; simp
   rw [this, ih]
   simp
  ·cases h
theorem bytesToString_ok {P : Program} {S : Sh} {w : World} {a o len : Nat} {vs : List Value} {xs : List AV} {bs : List UInt8} (hb : aBytes xs = some bs) (hl : LRel S xs vs) (hn : vs.length = len)
  (hc : ∀ (j : Nat) v, vs[j]? = some v → w.cell? ⟨a, o + j, none⟩ = some v) (cap : Nat) : (Conv.bytesToString (.slice (some ⟨a, o, none⟩) len cap)).run P w = .ok (.string ⟨bs.toArray⟩) w := by
 have hf := forIn_bytes (P := P) w hl bs [] hb
 simp only [Conv.bytesToString, Sem.run_bind, run_loadCells hn hc, Result.andThen_ok]
 rw [← Array.forIn_toList]
 have hf' : (forIn vs ByteArray.empty (fun c s =>
   match c with
   | .int .u8 n => pure (ForInStep.yield (s.push (UInt8.ofNat n.toNat)))
   | _ => do
    stuck "bytesToString: byte expected"
    pure (ForInStep.yield s)) : Sem ByteArray).run P w = .ok ⟨bs.toArray⟩ w := by
  simp only [List.nil_append] at hf
  exact hf
 simp only [Sem.run_pure]
 refine Eq.trans (congrArg (fun r : Result ByteArray => r.andThen fun a w' => .ok (Value.string a) w') ?_) (b := (Result.ok (⟨bs.toArray⟩ : ByteArray) w).andThen fun a w' => .ok (Value.string a) w') rfl
 refine Eq.trans ?_ hf'
 rfl
theorem aConvert_ok {G : Gl} {S : Sh} {A : AH} {w : World} (h : Inv G S A w) {src dst : TypeId} {x y : AV} {u : Value} (hx : aConvert P A src dst x = some y) (hu : VRel S x u) :
  ∃ v, (convert src dst u).run P w = .ok v w ∧ VRel S y v := by
 unfold aConvert at hx
 split at hx
 ·rename_i d k k' n hd hd'
  cases hx; cases hu
  refine ⟨.int k (k.wrap n), ?_, .int _ _⟩
  simp [convert, run_underlying hd, run_underlying hd', Conv.intToInt]
 ·rename_i d s hd hd'
  cases hx; cases hu
  refine ⟨_, ?_, .str _⟩
  simp [convert, run_underlying hd, run_underlying hd']
 ·rename_i e xs hd hd'
  split at hx
  ·rename_i hu8
   split at hx
   ·rename_i hone
    simp only [Option.map_eq_some_iff] at hx
    obtain ⟨bs, hb, rfl⟩ := hx
    cases hu with
    | islNil =>
     simp [flat, aBytes] at hb; subst hb
     refine ⟨.string .empty, ?_, ?_⟩
     ·simp [convert, run_underlying hd, run_underlying hd', run_underlying hu8, Conv.bytesToString]
     ·exact .str []
    | islE off a =>
     simp [flat, aBytes] at hb; subst hb
     refine ⟨.string .empty, ?_, ?_⟩
     ·simp [convert, run_underlying hd, run_underlying hd', run_underlying hu8, Conv.bytesToString, loadCells, loadCellsFrom]
     ·exact .str []
    | isl _ _ _ sz a o cap q1 q2 q3 q4 q5 =>
     have hone' : ∀ y ∈ xs, y.cells.length = 1 := fun y hy => by simpa using List.all_eq_true.1 hone y hy
     obtain ⟨vs, r1, r2⟩ := CRel.cells q3
     have hvl : vs.length = xs.length := by rw [← r1.length, flat_length hone', Nat.mul_one]
     refine ⟨_, ?_, .str bs⟩
     have := bytesToString_ok (P := P) (w := w) hb r1 hvl (fun j v hj => h.im _ _ _ (r2 j v hj)) cap
     simp [convert, run_underlying hd, run_underlying hd', run_underlying hu8, this]
   ·cases hx
  ·cases hx
 ·rename_i e b off len hd hd'
  split at hx
  ·rename_i cs el hu8 hb
   split at hx
   ·rename_i hle
    simp only [Option.map_eq_some_iff] at hx
    obtain ⟨bs, hbs, rfl⟩ := hx
    cases hu with
    | msl _ _ _ c cap hc hcap =>
    obtain ⟨c', o, s1, s2, s3⟩ := h.blk b _ hb (by simp)
    obtain rfl := Option.some.inj (s1.symm.trans hc)
    cases s3 with
    | cells _ _ vs rest hl =>
    have hlen := hl.length
    have := bytesToString_ok (P := P) (w := w) (a := c') (o := off) (len := len) hbs ((hl.drop off).take len) (by simp; omega) (fun j v hj => by
     rw [cell_of_heap s2]
     rw [List.getElem?_take] at hj
     split at hj
     ·simp only [List.getElem?_drop] at hj
      simpa [List.getElem?_append_left (List.getElem?_eq_some_iff.1 hj).1] using hj
     ·cases hj) cap
    refine ⟨_, ?_, .str bs⟩
    simp [convert, run_underlying hd, run_underlying hd', run_underlying hu8, this]
   ·cases hx
  ·cases hx
 ·cases hx
end ops
end Go.Am
end
section
namespace Go.Am
open Go
section maps
variable (P : Program)
def aKeyOks (ok : TypeId → AV → Bool) (cs : List AV) : List Field → Bool
 | [] => true
 | f :: fs => (f.name == "_" || (match aPart P f.type cs f.offset with | some y => ok f.type y | none => false)) && aKeyOks ok cs fs
def aKeyOk : Nat → TypeId → AV → Bool
 | 0, _, _ => false
 | n + 1, t, x =>
  match P.underlying t with
  | some (.struct fields) =>
   match x with
   | .agg cs => aKeyOks P (aKeyOk n) cs fields.toList
   | _ => false
  | some (.interface _) => false
  | some (.array _ _) => false
  | some _ => true
  | none => false
variable {P}
theorem checkKeys_ok {S : Sh} {w : World} {empty : Bool} {n : Nat} {cs : List AV} {vs : List Value} (hrec : ∀ t x u, aKeyOk P n t x = true → VRel S x u → (Instr.checkKey empty n t u).run P w = .ok () w) (hl : LRel S cs vs) :
  ∀ (fs : List Field), aKeyOks P (aKeyOk P n) cs fs = true →
  (forIn fs PUnit.unit fun f _ => do
    if f.name ≠ "_" then do
     Instr.checkKey empty n f.type (← part f.type ⟨vs⟩ f.offset)
     pure (ForInStep.yield PUnit.unit)
    else pure (ForInStep.yield PUnit.unit) : Sem PUnit).run P w = .ok () w
 | [], _ => by simp
 | f :: fs, h => by
  simp only [aKeyOks, Bool.and_eq_true, Bool.or_eq_true, beq_iff_eq] at h
  obtain ⟨h1, h2⟩ := h
  have ih := checkKeys_ok hrec hl fs h2
  by_cases hn : f.name = "_"
  ·simp only [List.forIn_cons, hn, ne_eq, not_true_eq_false, if_false, Sem.run_bind, Sem.run_pure, Result.andThen_ok]
   simpa using ih
  ·rcases h1 with h1 | h1
   ·exact absurd h1 hn
   split at h1
   ·rename_i y hy
    obtain ⟨v, r1, r2⟩ := aPart_ok hl hy w
    have := hrec _ _ _ h1 r2
    simp only [List.forIn_cons, ne_eq, hn, not_false_eq_true, if_true, Sem.run_bind, r1, Result.andThen_ok, this, Sem.run_pure]
    simpa using ih
   ·cases h1
theorem aKeyOk_ok {S : Sh} {w : World} (empty : Bool) : ∀ (n : Nat) (t : TypeId) (x : AV) (u : Value), aKeyOk P n t x = true → VRel S x u → (Instr.checkKey empty n t u).run P w = .ok () w
 | 0, t, x, u, h, _ => by simp [aKeyOk] at h
 | n + 1, t, x, u, h, hu => by
  have ih := aKeyOk_ok (S := S) (w := w) empty n
  unfold aKeyOk at h
  split at h
  ·rename_i fields hd
   split at h
   ·rename_i cs
    cases hu with
    | agg _ vs hl =>
    have := checkKeys_ok (empty := empty) ih hl fields.toList h
    simp only [Instr.checkKey, Sem.run_bind, run_underlying hd, Result.andThen_ok]
    rw [← Array.forIn_toList]
    rw [this]; rfl
   ·cases h
  ·cases h
  ·cases h
  ·rename_i d hs hi ha hd
   simp only [Instr.checkKey, Sem.run_bind, run_underlying hd, Result.andThen_ok]
   cases d <;> first
    | rfl
    | exact absurd rfl (fun e => hi _ e)
    | exact absurd rfl (fun e => ha _ _ e)
    | exact absurd rfl (fun e => hs _ e)
  ·cases h
variable (P) in
def aFind (A : AH) (kt : TypeId) (k : AV) : List (AV × AV × Nat) → Nat → Option (Option (Nat × AV))
 | [], _ => some none
 | (k', x, _) :: es, i =>
  match aEq P A 10000 kt k k' with
  | some true => some (some (i, x))
  | some false => aFind A kt k es (i + 1)
  | none => none
def FRes (S : Sh) : Option (Nat × AV) → Option (Nat × Value) → Prop
 | none, none => True
 | some (i, x), some (j, v) => i = j ∧ VRel S x v
 | _, _ => False
theorem sameNow_ok {S : Sh} {A : AH} {kt : TypeId} {d : TypeDesc} (hd : P.underlying kt = some d) {x y : AV} {u v : Value} {b b' : Bool} (he : aEq P A 10000 kt x y = some b) (hx : VRel S x u) (hy : VRel S y v)
  (hs : Instr.sameNow d u v = some b') : b = b' := by
 rw [show (10000 : Nat) = 9999 + 1 from rfl] at he
 unfold aEq at he
 rw [hd] at he
 unfold Instr.sameNow at hs
 split at hs
 ·rename_i k1 k a k' b1
  cases hx <;> cases hy <;> simp only [reduceCtorEq] at he
  ·split at hs <;> cases hs
   rename_i hk; subst hk
   simp at he; rw [← he]; rfl
 ·rename_i s1 s2
  cases hx <;> cases hy <;> simp only [reduceCtorEq] at he
  cases hs; cases he
  rw [bytes_beq]
 ·cases hx <;> cases hy <;> simp only [reduceCtorEq] at he
  cases hs; cases he; rfl
 ·cases hs
theorem findNow_ok {S : Sh} {A : AH} {kt : TypeId} {d : TypeDesc} (hd : P.underlying kt = some d) {k : AV} {u : Value} (hk : VRel S k u) : ∀ {es : List (AV × AV × Nat)} {ms : List MapEntry} (i : Nat) {r : Option (Nat × AV)} {r' : Option (Nat × Value)},
  MRel S es ms → aFind P A kt k es i = some r → Instr.findNow d u ms i = some r' → FRes S r r'
 | _, _, i, r, r', .nil, h, h' => by simp [aFind] at h; simp [Instr.findNow] at h'; subst h h'; trivial
 | _, _, i, r, r', .cons k' x n es u' v ms hk' hx hm, h, h' => by
  simp only [aFind] at h
  simp only [Instr.findNow] at h'
  split at h
  ·rename_i he
   split at h'
   ·cases h; cases h'; exact ⟨rfl, hx⟩
   ·rename_i hs; have := sameNow_ok hd he hk hk' hs; cases this
   ·cases h'
  ·rename_i he
   split at h'
   ·rename_i hs; have := sameNow_ok hd he hk hk' hs; cases this
   ·exact findNow_ok hd hk (i + 1) hm h h'
   ·cases h'
  ·cases h
theorem findAsking_ok {G : Gl} {S : Sh} {A : AH} {w : World} (hI : Inv G S A w) {kt : TypeId} {k : AV} {u : Value} (hk : VRel S k u) : ∀ {es : List (AV × AV × Nat)} {ms : List MapEntry} (i : Nat) {r : Option (Nat × AV)},
  MRel S es ms → aFind P A kt k es i = some r → ∃ r', (Instr.findAsking kt u ms i).run P w = .ok r' w ∧ FRes S r r'
 | _, _, i, r, .nil, h => by simp [aFind] at h; subst h; exact ⟨none, by simp [Instr.findAsking], trivial⟩
 | _, _, i, r, .cons k' x n es u' v ms hk' hx hm, h => by
  simp only [aFind] at h
  split at h
  ·rename_i he
   cases h
   have := aEq_ok hI 10000 kt k k' true u u' he hk hk'
   exact ⟨some (i, v), by simp [Instr.findAsking, Op.equal, Op.maxDepth, this], rfl, hx⟩
  ·rename_i he
   have := aEq_ok hI 10000 kt k k' false u u' he hk hk'
   obtain ⟨r', r1, r2⟩ := findAsking_ok hI hk (i + 1) hm h
   exact ⟨r', by simp [Instr.findAsking, Op.equal, Op.maxDepth, this, r1], r2⟩
  ·cases h
theorem findKey_ok {G : Gl} {S : Sh} {A : AH} {w : World} (hI : Inv G S A w) {kt : TypeId} {d : TypeDesc} (hd : P.underlying kt = some d) {k : AV} {u : Value} (hk : VRel S k u) {es : List (AV × AV × Nat)} {ms : List MapEntry} {r : Option (Nat × AV)}
  (hm : MRel S es ms) (h : aFind P A kt k es 0 = some r) : ∃ r', (Instr.findKey kt u ms).run P w = .ok r' w ∧ FRes S r r' := by
 simp only [Instr.findKey, Sem.run_bind, run_underlying hd, Result.andThen_ok]
 cases hn : Instr.findNow d u ms 0 with
 | some r' => exact ⟨r', rfl, findNow_ok hd hk 0 hm h hn⟩
 | none => exact findAsking_ok hI hk 0 hm h
theorem MRel.get {S : Sh} : ∀ {es : List (AV × AV × Nat)} {ms : List MapEntry}, MRel S es ms → ∀ (i : Nat) (k x : AV) (n : Nat), es[i]? = some (k, x, n) → ∃ u v, ms[i]? = some ⟨u, v, n⟩ ∧ VRel S k u ∧ VRel S x v
 | _, _, .nil, i, k, x, n, h => by simp at h
 | _, _, .cons k x n es u v ms h1 h2 h3, 0, k', x', n', h => by simp at h; obtain ⟨rfl, rfl, rfl⟩ := h; exact ⟨u, v, rfl, h1, h2⟩
 | _, _, .cons k x n es u v ms h1 h2 h3, i + 1, k', x', n', h => by simp at h; obtain ⟨u', v', r1, r2⟩ := h3.get i k' x' n' h; exact ⟨u', v', by simpa using r1, r2⟩
theorem MRel.set {S : Sh} : ∀ {es : List (AV × AV × Nat)} {ms : List MapEntry}, MRel S es ms → ∀ (i : Nat) {k x : AV} {n : Nat} {u v : Value}, VRel S k u → VRel S x v → MRel S (es.set i (k, x, n)) (ms.set i ⟨u, v, n⟩)
 | _, _, .nil, _, _, _, _, _, _, _, _ => .nil
 | _, _, .cons _ _ _ _ _ _ _ _ _ h3, 0, _, _, _, _, _, h, h' => .cons _ _ _ _ _ _ _ h h' h3
 | _, _, .cons _ _ _ _ _ _ _ h1 h2 h3, i + 1, _, _, _, _, _, h, h' => .cons _ _ _ _ _ _ _ h1 h2 (h3.set i h h')
theorem MRel.append {S : Sh} : ∀ {es es' : List (AV × AV × Nat)} {ms ms' : List MapEntry}, MRel S es ms → MRel S es' ms' → MRel S (es ++ es') (ms ++ ms')
 | _, _, _, _, .nil, h => h
 | _, _, _, _, .cons _ _ _ _ _ _ _ h1 h2 h3, h => .cons _ _ _ _ _ _ _ h1 h2 (h3.append h)
def aBits : Nat → AV → AV → Bool
 | _, .bool a, .bool b => a == b
 | _, .int j a, .int k b => decide (j = k) && decide (a = b)
 | _, .str a, .str b => decide (a = b)
 | _, .nilp, .nilp => true
 | _, .ptr b o, .ptr b' o' => b == b' && o == o'
 | n + 1, .agg xs, .agg ys => go n xs ys
 | _, _, _ => false
 where
 go (n : Nat) : List AV → List AV → Bool
 | [], [] => true
 | x :: xs, y :: ys => aBits n x y && go n xs ys
 | _, _ => false
theorem aBits_ok {S : Sh} : ∀ (n : Nat) (x y : AV) (u v : Value), aBits n x y = true → VRel S x u → VRel S y v → Instr.sameBits n u v = true
 | n, x, y, u, v, h, hx, hy => by
  unfold aBits at h
  split at h
  ·cases hx; cases hy; simpa [Instr.sameBits] using h
  ·cases hx; cases hy; simpa [Instr.sameBits] using h
  ·cases hx; cases hy; simp only [Instr.sameBits, bytes_beq]; exact h
  ·cases hx; cases hy; simp [Instr.sameBits]
  ·rename_i b o b' o'
   simp only [Bool.and_eq_true, beq_iff_eq] at h
   obtain ⟨rfl, rfl⟩ := h
   cases hx with
   | ptr _ _ c hc =>
   cases hy with
   | ptr _ _ c' hc' =>
   obtain rfl := Option.some.inj (hc.symm.trans hc')
   simp [Instr.sameBits]
  ·rename_i n xs ys
   cases hx with
   | agg _ us hl =>
   cases hy with
   | agg _ vs hl' =>
   simp only [Instr.sameBits]
   have key : ∀ (xs ys : List AV) (us vs : List Value), aBits.go n xs ys = true → LRel S xs us → LRel S ys vs → us.length = vs.length ∧ (us.zip vs).all (fun (x, y) => Instr.sameBits n x y) = true := by
    intro xs
    induction xs with
    | nil =>
     intro ys us vs h h1 h2
     cases ys with
     | nil => cases h1; cases h2; exact ⟨rfl, rfl⟩
     | cons _ _ => simp [aBits.go] at h
    | cons x xs ih =>
     intro ys us vs h h1 h2
     cases ys with
     | nil => simp [aBits.go] at h
     | cons y ys =>
      simp only [aBits.go, Bool.and_eq_true] at h
      cases h1 with
      | cons _ _ u us hu hl1 =>
      cases h2 with
      | cons _ _ v vs hv hl2 =>
      obtain ⟨r1, r2⟩ := ih ys us vs h.2 hl1 hl2
      refine ⟨by simp [r1], ?_⟩
      simp only [List.zip_cons_cons, List.all_cons, Bool.and_eq_true]
      exact ⟨aBits_ok n x y u v h.1 hu hv, r2⟩
   obtain ⟨k1, k2⟩ := key xs ys us vs h hl hl'
   simp [k1, k2]
  ·cases h
 termination_by n => n
section ops
variable (P) in
def aLookup (A : AH) (t : TypeId) (m k : AV) (commaOk : Bool) : Option AV :=
 match P.underlying t with
 | some (.map kt e) =>
  match tZero P e, P.underlying kt with
  | some z, some _ =>
   if aKeyOk P 10000 kt k then
    match m with
    | .nilm => some (if commaOk then .tup [z, .bool false] else z)
    | .map b =>
     match A.blks[b]? with
     | some (.map es _) =>
      match aFind P A kt k es 0 with
      | some (some (_, x)) => some (if commaOk then .tup [x, .bool true] else x)
      | some none => some (if commaOk then .tup [z, .bool false] else z)
      | none => none
     | _ => none
    | _ => none
   else none
  | _, _ => none
 | _ => none
theorem run_getObj {w : World} {c : Nat} {o : Obj} (h : w.heap[c]? = some o) (hn : ∀ a b f, o ≠ .cells a b f) : (getObj c).run P w = .ok o w := by
 simp only [getObj, Sem.run, h]
theorem run_setObj {w : World} {c : Nat} {o o' : Obj} (h : w.heap[c]? = some o) (hn : ∀ a b f, o ≠ .cells a b f) : (setObj c o').run P w = .ok () { w with heap := w.heap.setIfInBounds c o' } := by
 simp only [setObj, Sem.run, h]
theorem tup2 {S : Sh} {x y : AV} {u v : Value} (h1 : VRel S x u) (h2 : VRel S y v) : VRel S (.tup [x, y]) (.tuple #[u, v]) := .tup _ _ (.cons _ _ _ _ h1 (.cons _ _ _ _ h2 .nil))
theorem aLookup_ok {G : Gl} {S : Sh} {A : AH} {w : World} (h : Inv G S A w) {t : TypeId} {m k y : AV} {cOk : Bool} {u v : Value} (hx : aLookup P A t m k cOk = some y) (hu : VRel S m u) (hv : VRel S k v) :
  ∃ r, (Instr.lookup t u v cOk).run P w = .ok r w ∧ VRel S y r := by
 unfold aLookup at hx
 split at hx
 ·rename_i kt e hd
  split at hx
  ·rename_i z d hz hkd
   split at hx
   ·rename_i hok
    obtain ⟨zv, hz1, hz2⟩ := run_zeroValue hz w
    have hzr := ofVs_rel S zv
    rw [← hz2] at hzr
    split at hx
    ·cases hx
     cases hu
     have hck := aKeyOk_ok (P := P) (w := w) true 10000 kt k v hok hv
     obtain ⟨r', f1, f2⟩ := findKey_ok h hkd hv (es := []) (ms := []) (r := none) .nil (by simp [aFind])
     cases r' with
     | some => cases f2
     | none =>
      cases cOk with
      | true => exact ⟨.tuple #[zv, .bool false], by simp [Instr.lookup, run_underlying hd, hck, f1, hz1], tup2 hzr (.bool _)⟩
      | false => exact ⟨zv, by simp [Instr.lookup, run_underlying hd, hck, f1, hz1], hzr⟩
    ·rename_i b
     cases hu with
     | map _ c hc =>
     split at hx
     ·rename_i es clock hb
      obtain ⟨c', o, s1, s2, s3⟩ := h.blk b _ hb (by simp)
      obtain rfl := Option.some.inj (s1.symm.trans hc)
      cases s3 with
      | map _ _ ms hm =>
      have hck := aKeyOk_ok (P := P) (w := w) ms.isEmpty 10000 kt k v hok hv
      have hg := run_getObj (P := P) s2 (by simp)
      split at hx
      ·rename_i i x hf
       cases hx
       obtain ⟨r', f1, f2⟩ := findKey_ok h hkd hv hm hf
       cases r' with
       | none => cases f2
       | some jv =>
        obtain ⟨j, v'⟩ := jv
        obtain ⟨_, f3⟩ := f2
        cases cOk with
        | true => exact ⟨.tuple #[v', .bool true], by simp [Instr.lookup, run_underlying hd, hg, hck, f1], tup2 f3 (.bool _)⟩
        | false => exact ⟨v', by simp [Instr.lookup, run_underlying hd, hg, hck, f1], f3⟩
      ·rename_i hf
       cases hx
       obtain ⟨r', f1, f2⟩ := findKey_ok h hkd hv hm hf
       cases r' with
       | some => cases f2
       | none =>
        cases cOk with
        | true => exact ⟨.tuple #[zv, .bool false], by simp [Instr.lookup, run_underlying hd, hg, hck, f1, hz1], tup2 hzr (.bool _)⟩
        | false => exact ⟨zv, by simp [Instr.lookup, run_underlying hd, hg, hck, f1, hz1], hzr⟩
      ·cases hx
     ·cases hx
    ·cases hx
   ·cases hx
  ·cases hx
 ·cases hx
variable (P) in
def aMapUpdate (A : AH) (t : TypeId) (m k x : AV) : Option AH :=
 match P.underlying t, m with
 | some (.map kt _), .map b =>
  match A.blks[b]?, P.underlying kt with
  | some (.map es clock), some _ =>
   if aKeyOk P 10000 kt k then
    match aFind P A kt k es 0 with
    | some (some (i, _)) =>
     match es[i]? with
     | some (k0, _, n) => if aBits 10000 k0 k then some (A.put b (.map (es.set i (k, x, n)) clock)) else none
     | none => none
    | some none => some (A.put b (.map (es ++ [(k, x, clock)]) (clock + 1)))
    | none => none
   else none
  | _, _ => none
 | _, _ => none
theorem setObj_put {G : Gl} {S : Sh} {A : AH} {w : World} (h : Inv G S A w) {b c : Nat} {x x' : ABlk} {o o' : Obj} (hb : A.blks[b]? = some x) (hx : x ≠ .dead) (hc : S.ρ b = some c) (ho : w.heap[c]? = some o) (hx' : x' ≠ .dead) (hr : BRel S x' o') (hno : ∀ a b f, o ≠ .cells a b f) :
  Inv G S (A.put b x') { w with heap := w.heap.setIfInBounds c o' } ∧ Fr S A w S (A.put b x') { w with heap := w.heap.setIfInBounds c o' } := by
 have hlt := (Array.getElem?_eq_some_iff.1 ho).1
 refine h.put ⟨x, hb, hx⟩ hc hx' hr ?_ ?_ ?_ rfl rfl rfl (fun cs el hh => by rw [ho] at hh; cases hh; exact absurd rfl (hno _ _ _))
 ·simp [hlt]
 ·intro d hd
  simp only [Array.getElem?_setIfInBounds]
  rw [if_neg (Ne.symm hd)]
 ·simp
theorem aMapUpdate_ok {G : Gl} {S : Sh} {A A' : AH} {w : World} (h : Inv G S A w) {t : TypeId} {m k x : AV} {u v z : Value} (hx : aMapUpdate P A t m k x = some A') (hu : VRel S m u) (hv : VRel S k v) (hz : VRel S x z) :
  ∃ w', (Instr.mapUpdate t u v z).run P w = .ok () w' ∧ Inv G S A' w' ∧ Fr S A w S A' w' := by
 unfold aMapUpdate at hx
 split at hx
 ·rename_i kt e b hd
  cases hu with
  | map _ c hc =>
  split at hx
  ·rename_i es clock d hb hkd
   split at hx
   ·rename_i hok
    obtain ⟨c', o, s1, s2, s3⟩ := h.blk b _ hb (by simp)
    obtain rfl := Option.some.inj (s1.symm.trans hc)
    cases s3 with
    | map _ _ ms hm =>
    have hck := aKeyOk_ok (P := P) (w := w) false 10000 kt k v hok hv
    have hg := run_getObj (P := P) s2 (by simp)
    split at hx
    ·rename_i i y hf
     split at hx
     ·rename_i k0 x0 n hi
      split at hx <;> cases hx
      rename_i hbits
      obtain ⟨r', f1, f2⟩ := findKey_ok h hkd hv hm hf
      cases r' with
      | none => cases f2
      | some jv =>
       obtain ⟨j, v'⟩ := jv
       obtain ⟨hij, _⟩ := f2
       subst hij
       obtain ⟨u0, v0, g1, g2, g3⟩ := hm.get i k0 x0 n hi
       have hsame := aBits_ok 10000 k0 k u0 v hbits g2 hv
       obtain ⟨i1, i2⟩ := setObj_put h hb (by simp) hc s2 (x' := .map (es.set i (k, x, n)) clock) (by simp) (.map _ clock _ (hm.set i (n := n) hv hz)) (by simp)
       have hmod : ms.modify i (fun e => { key := v, val := z, born := e.born }) = ms.set i ⟨v, z, n⟩ := by
        apply List.ext_getElem?
        intro j
        simp only [List.getElem?_modify, List.getElem?_set]
        by_cases hij : i = j
        ·subst hij
         have := (List.getElem?_eq_some_iff.1 g1).1
         simp only [if_pos this, g1, ↓reduceIte]; rfl
        ·simp [hij]
       refine ⟨_, ?_, i1, i2⟩
       have hst := run_setObj (P := P) (o' := .map ⟨ms.set i ⟨v, z, n⟩⟩ clock) s2 (by simp)
       simp [Instr.mapUpdate, run_underlying hd, hg, hck, f1, Instr.keyThatStays, g1, hsame, hmod, hst]
     ·cases hx
    ·rename_i hf
     cases hx
     obtain ⟨r', f1, f2⟩ := findKey_ok h hkd hv hm hf
     cases r' with
     | some => cases f2
     | none =>
      obtain ⟨i1, i2⟩ := setObj_put h hb (by simp) hc s2 (x' := .map (es ++ [(k, x, clock)]) (clock + 1)) (by simp) (.map _ (clock + 1) _ (hm.append (.cons k x clock [] v z [] hv hz .nil))) (by simp)
      refine ⟨_, ?_, i1, i2⟩
      have hst := run_setObj (P := P) (o' := .map ⟨ms ++ [⟨v, z, clock⟩]⟩ (clock + 1)) s2 (by simp)
      have hpush : (⟨ms⟩ : Array MapEntry).push ⟨v, z, clock⟩ = ⟨ms ++ [⟨v, z, clock⟩]⟩ := by apply Array.ext'; simp
      simp [Instr.mapUpdate, run_underlying hd, hg, hck, f1, hpush, hst]
    ·cases hx
   ·cases hx
  ·cases hx
 ·cases hx
end ops
end maps
end Go.Am
end
section
namespace Go.Am
open Go
section ops
variable (P : Program) (G : Gl)
theorem makeMap_ok {P : Program} {G : Gl} {S : Sh} {A : AH} {w : World} (h : Inv G S A w) {t : TypeId} : VOk P G S A w (Instr.makeMap t none) (.map A.blks.length) (A.push (.map [] 0)) := by
 obtain ⟨h1, h2⟩ := h.push (x := .map [] 0) (o := .map ⟨[]⟩ 0) (by simp) (.map [] 0 [] .nil)
 exact ⟨.map (some w.heap.size), _, _, by simp [Instr.makeMap], h1, h2, .map _ _ (by simp [Sh.at])⟩
def aRange (A : AH) (t : TypeId) (m : AV) : Option (AV × AH) :=
 match P.underlying t, m with
 | some (.map _ _), .nilm => some (.ptr A.blks.length 0, A.push (.iter none 0 [] 0))
 | some (.map _ _), .map b =>
  match A.blks[b]? with
  | some (.map _ clock) => some (.ptr A.blks.length 0, A.push (.iter (some b) clock [] clock))
  | _ => none
 | _, _ => none
variable {P G}
theorem aRange_ok {S : Sh} {A A' : AH} {w : World} (h : Inv G S A w) {t : TypeId} {m y : AV} {u : Value} (hx : aRange P A t m = some (y, A')) (hu : VRel S m u) : VOk P G S A w (Instr.range t u) y A' := by
 unfold aRange at hx
 split at hx
 ·rename_i hd
  cases hx; cases hu
  obtain ⟨h1, h2⟩ := h.push (x := .iter none 0 [] 0) (o := .mapIter none 0 ⟨[]⟩ 0) (by simp) (.iterNil 0 [] 0)
  exact ⟨.pointer (some ⟨w.heap.size, 0, none⟩), _, _, by simp [Instr.range, run_underlying hd], h1, h2, .ptr _ _ _ (by simp [Sh.at])⟩
 ·rename_i b hd
  cases hu with
  | map _ c hc =>
  split at hx
  ·rename_i es clock hb
   cases hx
   obtain ⟨c', o, s1, s2, s3⟩ := h.blk b _ hb (by simp)
   obtain rfl := Option.some.inj (s1.symm.trans hc)
   cases s3 with
   | map _ _ ms hm =>
   have hg := run_getObj (P := P) s2 (by simp)
   have hlt := (List.getElem?_eq_some_iff.1 hb).1
   obtain ⟨h1, h2⟩ := h.push (x := .iter (some b) clock [] clock) (o := .mapIter (some c') clock ⟨[]⟩ clock) (by simp) (.iter b c' clock [] clock (by simp only [Sh.at]; rw [if_neg (by omega)]; exact hc))
   exact ⟨.pointer (some ⟨w.heap.size, 0, none⟩), _, _, by simp [Instr.range, run_underlying hd, hg], h1, h2, .ptr _ _ _ (by simp [Sh.at])⟩
  ·cases hx
 ·cases hx
def aCands (es : List (AV × AV × Nat)) (since : Nat) (seen : List Nat) : List (Option (AV × AV × Nat)) :=
 let left := es.filter fun e => !seen.contains e.2.2
 let old := left.filter fun e => decide (e.2.2 < since)
 let new := left.filter fun e => decide (e.2.2 ≥ since)
 (if old.isEmpty then [none] else []) ++ (old ++ new).map some
def aNext (A : AH) (it : AV) : Option (List (AV × AH)) :=
 match it with
 | .ptr r 0 =>
  match A.blks[r]? with
  | some (.iter none _ _ _) => some [(.tup [.bool false], A)]
  | some (.iter (some m) since seen last) =>
   match A.blks[m]? with
   | some (.map es clock) =>
    if !seen.isEmpty && !es.isEmpty && es.all (fun e => decide (e.2.2 ≥ last)) then none else
    some ((aCands es since seen).map fun
     | none => (.tup [.bool false], A)
     | some (k, x, n) => (.tup [.bool true, k, x], A.put r (.iter (some m) since (seen ++ [n]) clock)))
   | _ => none
  | _ => none
 | _ => none
theorem MRel.filter {S : Sh} (p : Nat → Bool) : ∀ {es : List (AV × AV × Nat)} {ms : List MapEntry}, MRel S es ms → MRel S (es.filter fun e => p e.2.2) (ms.filter fun e => p e.born)
 | _, _, .nil => .nil
 | _, _, .cons k x n es u v ms h1 h2 h3 => by
  have ih := h3.filter p
  simp only [List.filter_cons]
  cases hp : p n
  ·simp; exact ih
  ·simp; exact .cons k x n _ u v _ h1 h2 ih
theorem MRel.all {S : Sh} (p : Nat → Bool) : ∀ {es : List (AV × AV × Nat)} {ms : List MapEntry}, MRel S es ms → (es.all fun e => p e.2.2) = (ms.all fun e => p e.born)
 | _, _, .nil => rfl
 | _, _, .cons k x n es u v ms _ _ h3 => by simp only [List.all_cons, h3.all p]
theorem MRel.isEmpty {S : Sh} {es : List (AV × AV × Nat)} {ms : List MapEntry} (h : MRel S es ms) : es.isEmpty = ms.isEmpty := by cases h <;> rfl
inductive CandRel (S : Sh) : List (Option (AV × AV × Nat)) → List (Option MapEntry) → Prop
 | fin : CandRel S [] []
 | over (xs : List (Option (AV × AV × Nat))) (ys : List (Option MapEntry)) : CandRel S xs ys → CandRel S (none :: xs) (none :: ys)
 | more (k x : AV) (n : Nat) (u v : Value) (xs : List (Option (AV × AV × Nat))) (ys : List (Option MapEntry)) : VRel S k u → VRel S x v → CandRel S xs ys → CandRel S (some (k, x, n) :: xs) (some ⟨u, v, n⟩ :: ys)
theorem CandRel.of_m {S : Sh} : ∀ {es : List (AV × AV × Nat)} {ms : List MapEntry}, MRel S es ms → CandRel S (es.map some) (ms.map some)
 | _, _, .nil => .fin
 | _, _, .cons k x n _ u v _ h1 h2 h3 => .more k x n u v _ _ h1 h2 (CandRel.of_m h3)
theorem CandRel.get {S : Sh} : ∀ {xs : List (Option (AV × AV × Nat))} {ys : List (Option MapEntry)}, CandRel S xs ys → xs.length = ys.length ∧ ∀ (i : Nat) (y : Option MapEntry), ys[i]? = Option.some y →
  (y = Option.none ∧ xs[i]? = Option.some Option.none) ∨ ∃ k x n u v, y = Option.some ⟨u, v, n⟩ ∧ xs[i]? = Option.some (Option.some (k, x, n)) ∧ VRel S k u ∧ VRel S x v
 | _, _, .fin => ⟨rfl, fun i y h => by simp at h⟩
 | _, _, .over xs ys h => by
  obtain ⟨h1, h2⟩ := h.get
  refine ⟨by simp [h1], fun i y hy => ?_⟩
  cases i with
  | zero => simp at hy; exact .inl ⟨hy.symm, rfl⟩
  | succ i => simpa using h2 i y (by simpa using hy)
 | _, _, .more k x n u v xs ys hk hx h => by
  obtain ⟨h1, h2⟩ := h.get
  refine ⟨by simp [h1], fun i y hy => ?_⟩
  cases i with
  | zero => simp at hy; exact .inr ⟨k, x, n, u, v, hy.symm, rfl, hk, hx⟩
  | succ i => simpa using h2 i y (by simpa using hy)
theorem run_next {w : World} {c cm since last clock : Nat} {seen : List Nat} {ms : List MapEntry} {L : List (Option MapEntry)} {ty : TypeId}
  (hg : (getObj c).run P w = .ok (.mapIter (some cm) since ⟨seen⟩ last) w) (hg' : (getObj cm).run P w = .ok (.map ⟨ms⟩ clock) w)
  (hno : ¬ ((!seen.isEmpty && !ms.isEmpty && ms.all (fun e => decide (e.born ≥ last))) = true))
  (hL : ((if ((ms.filter fun e => !seen.contains e.born).filter fun e => decide (e.born < since)).isEmpty then [none] else []) ++
      (((ms.filter fun e => !seen.contains e.born).filter fun e => decide (e.born < since)) ++ ((ms.filter fun e => !seen.contains e.born).filter fun e => decide (e.born ≥ since))).map some : List (Option MapEntry)) = L) :
  (Instr.next (.pointer (some ⟨c, 0, none⟩)) false ty).run P w = ((choose (.mapNext L.length)).run P w).andThen fun i w1 =>
   (match L[i]? with
    | some (some e) => do
      setObj c (.mapIter (some cm) since ⟨seen ++ [e.born]⟩ clock)
      pure (.tuple #[.bool true, e.key, e.val])
    | some none => pure (.tuple #[.bool false])
    | none => stuck "Next: no such candidate" : Sem Value).run P w1 := by
 have hcnd : ¬ ((!(⟨seen⟩ : Array Nat).isEmpty && !(⟨ms⟩ : Array MapEntry).isEmpty && (⟨ms⟩ : Array MapEntry).all (fun e => decide (e.born ≥ last))) = true) := by
  simpa using hno
 have hfil : ∀ (p : MapEntry → Bool) (l : List MapEntry), Array.filter p (⟨l⟩ : Array MapEntry) = ⟨l.filter p⟩ := by intro p l; apply Array.ext'; simp
 have hcon : ∀ n : Nat, (⟨seen⟩ : Array Nat).contains n = seen.contains n := by intro n; simp
 have harr : ((if (Array.filter (fun e => decide (e.born < since)) (Array.filter (fun e => !(⟨seen⟩ : Array Nat).contains e.born) (⟨ms⟩ : Array MapEntry))).isEmpty = true then #[none] else #[]) ++
   Array.map some (Array.filter (fun e => decide (e.born < since)) (Array.filter (fun e => !(⟨seen⟩ : Array Nat).contains e.born) (⟨ms⟩ : Array MapEntry)) ++ Array.filter (fun e => decide (e.born ≥ since)) (Array.filter (fun e => !(⟨seen⟩ : Array Nat).contains e.born) (⟨ms⟩ : Array MapEntry)))) = L.toArray := by
  rw [← hL]
  simp only [hfil, hcon]
  have he : ∀ l : List MapEntry, (⟨l⟩ : Array MapEntry).isEmpty = l.isEmpty := by intro l; cases l <;> rfl
  rw [he]
  split
  ·apply Array.ext'; simp
  ·apply Array.ext'; simp
 simp only [Instr.next, Sem.run_bind, hg, hg', Result.andThen_ok]
 rw [if_neg hcnd]
 simp only [Sem.run_bind]
 rw [harr]
 have hpush : ∀ n : Nat, (⟨seen⟩ : Array Nat).push n = ⟨seen ++ [n]⟩ := by intro n; apply Array.ext'; simp
 simp only [List.size_toArray, List.getElem?_toArray, hpush]
 congr 1
theorem aNext_ok {S : Sh} {A : AH} {w : World} (h : Inv G S A w) {it : AV} {u : Value} {outs : List (AV × AH)} {ty : TypeId} (hx : aNext A it = some outs) (hu : VRel S it u) :
  ∃ y A', (y, A') ∈ outs ∧ VOk P G S A w (Instr.next u false ty) y A' := by
 unfold aNext at hx
 split at hx
 ·rename_i r
  cases hu with
  | ptr _ _ c hc =>
  split at hx
  ·rename_i a b d hr
   cases hx
   obtain ⟨c', o, s1, s2, s3⟩ := h.blk r _ hr (by simp)
   obtain rfl := Option.some.inj (s1.symm.trans hc)
   cases s3
   have hg := run_getObj (P := P) s2 (by simp)
   refine ⟨_, _, List.mem_singleton.2 rfl, VOk.same h (v := .tuple #[.bool false]) ?_ (.tup _ _ (.cons _ _ _ _ (.bool _) .nil))⟩
   simp [Instr.next, hg]
  ·rename_i m since seen last hr
   obtain ⟨c', o, s1, s2, s3⟩ := h.blk r _ hr (by simp)
   obtain rfl := Option.some.inj (s1.symm.trans hc)
   cases s3 with
   | iter _ cm _ _ _ hcm =>
   have hg := run_getObj (P := P) s2 (by simp)
   split at hx
   ·rename_i es clock hm
    split at hx <;> cases hx
    rename_i hno
    obtain ⟨cm', o', t1, t2, t3⟩ := h.blk m _ hm (by simp)
    obtain rfl := Option.some.inj (t1.symm.trans hcm)
    cases t3 with
    | map _ _ ms hms =>
    have hg' := run_getObj (P := P) t2 (by simp)
    have hleft := hms.filter fun n => !seen.contains n
    have hold := hleft.filter fun n => decide (n < since)
    have hnew := hleft.filter fun n => decide (n ≥ since)
    have hcand : CandRel S (aCands es since seen) ((if ((ms.filter fun e => !seen.contains e.born).filter fun e => decide (e.born < since)).isEmpty then [none] else []) ++
      (((ms.filter fun e => !seen.contains e.born).filter fun e => decide (e.born < since)) ++ ((ms.filter fun e => !seen.contains e.born).filter fun e => decide (e.born ≥ since))).map some) := by
     unfold aCands
     simp only
     rw [hold.isEmpty]
     split
     ·exact .over _ _ (CandRel.of_m (hold.append hnew))
     ·exact CandRel.of_m (hold.append hnew)
    have hno' : ¬ ((!seen.isEmpty && !ms.isEmpty && ms.all (fun e => decide (e.born ≥ last))) = true) := by
     rw [← hms.isEmpty, ← hms.all (fun n => decide (n ≥ last))]; exact hno
    generalize hL : ((if ((ms.filter fun e => !seen.contains e.born).filter fun e => decide (e.born < since)).isEmpty then [none] else []) ++
      (((ms.filter fun e => !seen.contains e.born).filter fun e => decide (e.born < since)) ++ ((ms.filter fun e => !seen.contains e.born).filter fun e => decide (e.born ≥ since))).map some : List (Option MapEntry)) = L at hcand
    have hrun := run_next (P := P) (ty := ty) hg hg' hno' hL
    have hLlen : 0 < L.length := by
     rw [← hL]
     cases ho : ((ms.filter fun e => !seen.contains e.born).filter fun e => decide (e.born < since)) with
     | nil => simp
     | cons e es' => simp
    obtain ⟨hlen, hget⟩ := hcand.get
    have hch : ∃ i, i < L.length ∧ ∃ k, (choose (.mapNext L.length)).run P w = .ok i { w with drawn := k } := by
     simp only [run_choose]
     split
     ·exact ⟨0, hLlen, w.drawn, rfl⟩
     ·exact ⟨_, Nat.mod_lt _ hLlen, w.drawn + 1, rfl⟩
    obtain ⟨i, hi, k, hck⟩ := hch
    rw [hck] at hrun
    simp only [Result.andThen_ok] at hrun
    obtain ⟨d1, d2⟩ := h.drew k
    have hLi : L[i]? = some L[i] := List.getElem?_eq_getElem hi
    rw [hLi] at hrun
    rcases hget i L[i] hLi with ⟨e1, e2⟩ | ⟨kk, xx, n, u', v', e1, e2, e3, e4⟩
    ·rw [e1] at hrun
     refine ⟨_, _, List.mem_map.2 ⟨none, List.mem_of_getElem? e2, rfl⟩, _, _, S, hrun, d1, d2, .tup _ _ (.cons _ _ _ _ (.bool _) .nil)⟩
    ·rw [e1] at hrun
     have s2' : ({ w with drawn := k } : World).heap[c']? = some (.mapIter (some cm') since ⟨seen⟩ last) := s2
     obtain ⟨i1, i2⟩ := setObj_put d1 hr (by simp) hc s2' (x' := .iter (some m) since (seen ++ [n]) clock) (by simp) (.iter m cm' since (seen ++ [n]) clock hcm) (by simp)
     refine ⟨_, _, List.mem_map.2 ⟨some (kk, xx, n), List.mem_of_getElem? e2, rfl⟩, _, _, S, ?_, i1, d2.trans i2, .tup _ _ (.cons _ _ _ _ (.bool true) (.cons _ _ _ _ e3 (.cons _ _ _ _ e4 .nil)))⟩
     rw [hrun]
     have hst := run_setObj (P := P) (o' := .mapIter (some cm') since ⟨seen ++ [n]⟩ clock) s2' (by simp)
     simp only [Sem.run_bind, hst, Result.andThen_ok, Sem.run_pure]
   ·cases hx
  ·cases hx
 ·cases hx
def aEntry (A : AH) (it : AV) : Option AV :=
 match it with
 | .ptr r 0 =>
  match A.blks[r]? with
  | some (.iter (some m) _ seen stepped) =>
   match A.blks[m]?, seen.getLast? with
   | some (.map es clock), some stamp =>
    if clock = stepped then
     match es.find? (fun e => e.2.2 == stamp) with
     | some (k, x, _) => some (.tup [k, x])
     | none => none
    else none
   | _, _ => none
  | _ => none
 | _ => none
theorem MRel.find {S : Sh} (stamp : Nat) : ∀ {es : List (AV × AV × Nat)} {ms : List MapEntry}, MRel S es ms → ∀ (k x : AV) (n : Nat), es.find? (fun e => e.2.2 == stamp) = some (k, x, n) →
  ∃ u v, ms.find? (fun e => e.born == stamp) = some ⟨u, v, n⟩ ∧ VRel S k u ∧ VRel S x v
 | _, _, .nil, k, x, n, h => by simp at h
 | _, _, .cons k' x' n' es u v ms h1 h2 h3, k, x, n, h => by
  simp only [List.find?_cons] at h ⊢
  by_cases hn : (n' == stamp) = true
  ·simp only [hn] at h ⊢
   cases h
   exact ⟨u, v, rfl, h1, h2⟩
  ·have hn : (n' == stamp) = false := by simpa using hn
   simp only [hn] at h ⊢
   exact h3.find stamp k x n h
theorem aEntry_ok {S : Sh} {A : AH} {w : World} (h : Inv G S A w) {it y : AV} {u : Value} (hx : aEntry A it = some y) (hu : VRel S it u) :
  ∃ v, (Instr.entry u).run P w = .ok v w ∧ VRel S y v := by
 unfold aEntry at hx
 split at hx
 ·rename_i r
  cases hu with
  | ptr _ _ c hc =>
  split at hx
  ·rename_i m since seen stepped hr
   split at hx
   ·rename_i es clock stamp hm hstamp
    split at hx
    ·rename_i hclk
     split at hx
     ·rename_i k x n hf
      cases hx
      obtain ⟨c', o, s1, s2, s3⟩ := h.blk r _ hr (by simp)
      obtain rfl := Option.some.inj (s1.symm.trans hc)
      cases s3 with
      | iter _ cm _ _ _ hcm =>
      obtain ⟨cm', o', t1, t2, t3⟩ := h.blk m _ hm (by simp)
      obtain rfl := Option.some.inj (t1.symm.trans hcm)
      cases t3 with
      | map _ _ ms hms =>
      have hg := run_getObj (P := P) s2 (by simp)
      have hg' := run_getObj (P := P) t2 (by simp)
      obtain ⟨u', v', f1, f2, f3⟩ := hms.find stamp k x n hf
      refine ⟨_, ?_, tup2 f2 f3⟩
      have hb : (⟨seen⟩ : Array Nat).back? = some stamp := by
       rw [← hstamp]; simp
      simp only [Instr.entry, Sem.run_bind, hg, Result.andThen_ok, hb, hg', hclk]
      simp [f1]
     ·cases hx
    ·cases hx
   ·cases hx
  ·cases hx
 ·cases hx
variable (P) in
def aAssert (x : AV) (_xType asserted : TypeId) (cOk : Bool) : Option AV :=
 match P.underlying asserted with
 | some (.interface want) =>
  match x with
  | .iface t v =>
   match P.info? t with
   | some i => if (Instr.missingMethod want i.methods).isNone then some (if cOk then .tup [.iface t v, .bool true] else .iface t v) else none
   | none => none
  | _ => none
 | some _ =>
  match x with
  | .nili => if cOk then (tZero P asserted).map fun z => .tup [z, .bool false] else none
  | .iface t v => if t = asserted then some (if cOk then .tup [v, .bool true] else v) else if cOk then (tZero P asserted).map fun z => .tup [z, .bool false] else none
  | _ => none
 | none => none
theorem aAssert_ok {S : Sh} {x y : AV} {xt t : TypeId} {cOk : Bool} {u : Value} (hx : aAssert P x xt t cOk = some y) (hu : VRel S x u) (w : World) :
  ∃ v, (Instr.typeAssert u xt t cOk).run P w = .ok v w ∧ VRel S y v := by
 unfold aAssert at hx
 split at hx
 ·rename_i want hd
  split at hx
  ·rename_i t' v
   cases hu with
   | iface _ _ v' hv =>
   split at hx
   ·rename_i i hi
    split at hx <;> cases hx
    rename_i hmm
    have hmm : Instr.missingMethod want i.methods = none := by simpa using hmm
    cases cOk with
    | true => exact ⟨_, by simp [Instr.typeAssert, run_underlying hd, run_typeInfo hi, hmm], tup2 (.iface _ _ _ hv) (.bool _)⟩
    | false => exact ⟨_, by simp [Instr.typeAssert, run_underlying hd, run_typeInfo hi, hmm], .iface _ _ _ hv⟩
   ·cases hx
  ·cases hx
 ·rename_i d hne hd
  have hd' : ∀ ms, d ≠ .interface ms := fun ms e => hne ms e
  split at hx
  ·cases hu
   split at hx
   ·rename_i hc
    subst hc
    simp only [Option.map_eq_some_iff] at hx
    obtain ⟨z, hz, rfl⟩ := hx
    obtain ⟨zv, hz1, hz2⟩ := run_zeroValue hz w
    have hzr := ofVs_rel S zv
    rw [← hz2] at hzr
    refine ⟨.tuple #[zv, .bool false], ?_, tup2 hzr (.bool _)⟩
    simp only [Instr.typeAssert, Sem.run_bind, run_underlying hd, Result.andThen_ok]
    cases d <;> first | (exact absurd rfl (hd' _)) | simp [hz1]
   ·cases hx
  ·rename_i t' v
   cases hu with
   | iface _ _ v' hv =>
   split at hx
   ·rename_i ht
    subst ht
    cases hx
    cases cOk with
    | true =>
     refine ⟨.tuple #[v', .bool true], ?_, tup2 hv (.bool _)⟩
     simp only [Instr.typeAssert, Sem.run_bind, run_underlying hd, Result.andThen_ok]
     cases d <;> first | (exact absurd rfl (hd' _)) | simp
    | false =>
     refine ⟨v', ?_, hv⟩
     simp only [Instr.typeAssert, Sem.run_bind, run_underlying hd, Result.andThen_ok]
     cases d <;> first | (exact absurd rfl (hd' _)) | simp
   ·rename_i ht
    split at hx
    ·rename_i hc
     subst hc
     simp only [Option.map_eq_some_iff] at hx
     obtain ⟨z, hz, rfl⟩ := hx
     obtain ⟨zv, hz1, hz2⟩ := run_zeroValue hz w
     have hzr := ofVs_rel S zv
     rw [← hz2] at hzr
     refine ⟨.tuple #[zv, .bool false], ?_, tup2 hzr (.bool _)⟩
     simp only [Instr.typeAssert, Sem.run_bind, run_underlying hd, Result.andThen_ok]
     cases d <;> first | (exact absurd rfl (hd' _)) | simp [ht, hz1]
    ·cases hx
  ·cases hx
 ·cases hx
/-! ### Methods -/
inductive APl where
 | val (v : AV)
 | var (a : AV)
variable (P G) in
def APl.get (A : AH) (t : TypeId) : APl → Option AV
 | .val v => some v
 | .var a => aLoad P G A t a
variable (P G) in
def aFollow (A : AH) : List FieldStep → TypeId → APl → Option (TypeId × APl)
 | [], t, x => some (t, x)
 | s :: rest, t, x =>
  match P.underlying s.struct with
  | some (.struct fields) =>
   match fields[s.index]? with
   | some f =>
    if s.deref then
     match x.get P G A t with
     | some p => match aFieldAddr P s.struct p s.index with
      | some a => aFollow A rest f.type (.var a)
      | none => none
     | none => none
    else
     match x with
     | .var a => match aFieldAddr P s.struct a s.index with
      | some a' => aFollow A rest f.type (.var a')
      | none => none
     | .val (.agg cs) => match aPart P f.type cs f.offset with
      | some v => aFollow A rest f.type (.val v)
      | none => none
     | .val _ => none
   | none => none
  | _ => none
variable (P G) in
def aRecv (A : AH) (xt : TypeId) (x : APl) (pr : Bool) : Option AV :=
 match P.underlying xt with
 | some (.pointer _) => if pr then x.get P G A xt else none
 | some _ =>
  if pr then (match x with | .var a => some a | .val _ => none) else x.get P G A xt
 | none => none
variable (P G) in
def aMethod (A : AH) : Nat → TypeId → AV → String → Option (FuncId × AV)
 | 0, _, _, _ => none
 | n + 1, t, v, name =>
  match P.info? t with
  | some i =>
   match i.methods.find? (·.name == name) with
   | some m =>
    match aFollow P G A m.path.toList t (.val v) with
    | some (xt, x) =>
     match m.func with
     | none =>
      match x.get P G A xt with
      | some (.iface t' v') => aMethod A n t' v' name
      | _ => none
     | some (f, pr) => (aRecv P G A xt x pr).map fun r => (f, r)
    | none => none
   | none => none
  | none => none
def PlRel (S : Sh) : APl → Place → Prop
 | .val v, .val u => VRel S v u
 | .var a, .var b => VRel S a (.pointer (some b))
 | _, _ => False
theorem APl.get_ok {S : Sh} {A : AH} {w : World} (h : Inv G S A w) {t : TypeId} {x : APl} {p : Place} {y : AV} (hx : x.get P G A t = some y) (hp : PlRel S x p) : ∃ v, (p.get t).run P w = .ok v w ∧ VRel S y v := by
 cases x with
 | val v =>
  cases p with
  | val u => simp only [APl.get, Option.some.injEq] at hx; subst hx; exact ⟨u, by simp [Place.get], hp⟩
  | var b => cases hp
 | var a =>
  cases p with
  | val u => cases hp
  | var b =>
   simp only [APl.get] at hx
   obtain ⟨v, h1, h2⟩ := aLoad_ok h hp hx
   exact ⟨v, by simpa [Place.get, Instr.loadAt, Instr.sureAddr] using h1, h2⟩
theorem fieldAt_place {S : Sh} {t : TypeId} {fields : Array Field} {f : Field} {i : Nat} {a y : AV} {b : Addr} (hd : P.underlying t = some (.struct fields)) (hf : fields[i]? = some f) (hx : aFieldAddr P t a i = some y) (ha : VRel S a (.pointer (some b))) (w : World) :
  ∃ b', (fieldPlace b f).run P w = .ok b' w ∧ VRel S y (.pointer (some b')) := by
 obtain ⟨v, h1, h2⟩ := aFieldAddr_ok hx ha w
 simp only [Instr.fieldAt, Sem.run_bind, run_underlying hd, Result.andThen_ok, hf, Instr.sureAddr, Sem.run_pure] at h1
 cases hr : (fieldPlace b f).run P w with
 | ok b' w' =>
  rw [hr] at h1
  simp only [Result.andThen_ok, Result.ok.injEq] at h1
  obtain ⟨rfl, rfl⟩ := h1
  exact ⟨b', rfl, h2⟩
 | halt e w' => rw [hr] at h1; cases h1
theorem aFollow_ok {S : Sh} {A : AH} {w : World} (h : Inv G S A w) : ∀ (steps : List FieldStep) (t : TypeId) (x : APl) (p : Place) (r : TypeId × APl), aFollow P G A steps t x = some r → PlRel S x p →
  ∃ q, (follow steps t p).run P w = .ok (r.1, q) w ∧ PlRel S r.2 q
 | [], t, x, p, r, hx, hp => by simp [aFollow] at hx; subst hx; exact ⟨p, by simp [follow], hp⟩
 | s :: rest, t, x, p, r, hx, hp => by
  simp only [aFollow] at hx
  split at hx
  ·rename_i fields hd
   split at hx
   ·rename_i f hf
    split at hx
    ·rename_i hdr
     split at hx
     ·rename_i ptr hptr
      split at hx
      ·rename_i a ha
       obtain ⟨v, g1, g2⟩ := APl.get_ok h hptr hp
       have hv : ∃ b, v = .pointer (some b) := by
        unfold aFieldAddr at ha
        rw [hd] at ha
        simp only [hf] at ha
        split at ha
        ·split at ha <;> first | cases ha | skip
         ·cases g2; exact ⟨_, rfl⟩
         ·cases g2; exact ⟨_, rfl⟩
         ·cases g2; exact ⟨_, rfl⟩
        ·cases ha
       obtain ⟨b, rfl⟩ := hv
       obtain ⟨b', f1, f2⟩ := fieldAt_place hd hf ha g2 w
       obtain ⟨q, r1, r2⟩ := aFollow_ok h rest f.type (.var a) (.var b') r hx f2
       refine ⟨q, ?_, r2⟩
       simp only [follow, Sem.run_bind, run_underlying hd, Result.andThen_ok, hf, hdr, if_true, g1, asAddr, Sem.run_pure, f1, r1]
      ·cases hx
     ·cases hx
    ·rename_i hdr
     split at hx
     ·rename_i a
      split at hx
      ·rename_i a' ha
       cases p with
       | val u => cases hp
       | var b =>
        obtain ⟨b', f1, f2⟩ := fieldAt_place hd hf ha hp w
        obtain ⟨q, r1, r2⟩ := aFollow_ok h rest f.type (.var a') (.var b') r hx f2
        refine ⟨q, ?_, r2⟩
        simp [follow, run_underlying hd, hf, hdr, f1, r1]
      ·cases hx
     ·rename_i cs
      split at hx
      ·rename_i v hv
       cases p with
       | var b => cases hp
       | val u =>
        cases hp with
        | agg _ vs hl =>
        obtain ⟨v', f1, f2⟩ := aPart_ok hl hv w
        obtain ⟨q, r1, r2⟩ := aFollow_ok h rest f.type (.val v) (.val v') r hx f2
        refine ⟨q, ?_, r2⟩
        simp [follow, run_underlying hd, hf, hdr, f1, r1]
      ·cases hx
     ·cases hx
   ·cases hx
  ·cases hx
theorem aRecv_ok {S : Sh} {A : AH} {w : World} (h : Inv G S A w) {xt : TypeId} {x : APl} {p : Place} {pr : Bool} {y : AV} {wr : Option String} (hx : aRecv P G A xt x pr = some y) (hp : PlRel S x p) :
  ∃ v, (receiverAt xt p pr wr).run P w = .ok v w ∧ VRel S y v := by
 unfold aRecv at hx
 split at hx
 ·rename_i e hd
  split at hx
  ·rename_i hpr; subst hpr
   obtain ⟨v, g1, g2⟩ := APl.get_ok h hx hp
   exact ⟨v, by simp [receiverAt, run_underlying hd, g1], g2⟩
  ·cases hx
 ·rename_i d hne hd
  have hd' : ∀ e, d ≠ .pointer e := fun e he => hne e he
  split at hx
  ·rename_i hpr; subst hpr
   split at hx
   ·rename_i a
    cases hx
    cases p with
    | val u => cases hp
    | var b =>
     refine ⟨_, ?_, hp⟩
     simp only [receiverAt, Sem.run_bind, run_underlying hd, Result.andThen_ok]
     cases d <;> first | (exact absurd rfl (hd' _)) | rfl
   ·cases hx
  ·rename_i hpr
   have hpr : pr = false := by simpa using hpr
   subst hpr
   obtain ⟨v, g1, g2⟩ := APl.get_ok h hx hp
   refine ⟨v, ?_, g2⟩
   simp only [receiverAt, Sem.run_bind, run_underlying hd, Result.andThen_ok]
   cases d <;> first | (exact absurd rfl (hd' _)) | exact g1
 ·cases hx
theorem aMethod_ok {S : Sh} {A : AH} {w : World} (h : Inv G S A w) : ∀ (n : Nat) (t : TypeId) (v : AV) (u : Value) (name : String) (f : FuncId) (y : AV), aMethod P G A n t v name = some (f, y) → VRel S v u →
  ∃ r, (method n t u name).run P w = .ok (f, r) w ∧ VRel S y r
 | 0, t, v, u, name, f, y, hx, _ => by simp [aMethod] at hx
 | n + 1, t, v, u, name, f, y, hx, hu => by
  simp only [aMethod] at hx
  split at hx
  ·rename_i i hi
   split at hx
   ·rename_i m hm
    split at hx
    ·rename_i xt x hfol
     obtain ⟨q, r1, r2⟩ := aFollow_ok h m.path.toList t (.val v) (.val u) _ hfol hu
     split at hx
     ·rename_i hfn
      split at hx
      ·rename_i t' v' hget
       obtain ⟨u', g1, g2⟩ := APl.get_ok h hget r2
       cases g2 with
       | iface _ _ u'' hv =>
       obtain ⟨r, s1, s2⟩ := aMethod_ok h n t' v' u'' name f y hx hv
       refine ⟨r, ?_, s2⟩
       simp [method, run_typeInfo hi, hm, r1, hfn, g1, s1]
      ·cases hx
     ·rename_i f' pr hfn
      simp only [Option.map_eq_some_iff] at hx
      obtain ⟨z, hz, hzz⟩ := hx
      cases hzz
      obtain ⟨v', g1, g2⟩ := aRecv_ok (wr := if m.path.isEmpty then some ((name.splitOn ".").getLastD name) else none) h hz r2
      refine ⟨v', ?_, g2⟩
      simp only [method, Sem.run_bind, run_typeInfo hi, Result.andThen_ok, hm, r1, hfn, g1, Sem.run_pure]
    ·cases hx
   ·cases hx
  ·cases hx
end ops
end Go.Am
end
section
namespace Go.Am
open Go
theorem Inv.kill {G : Gl} {S : Sh} {A : AH} {w : World} (h : Inv G S A w) {i c : Nat} (hi : A.live i) (hc : S.ρ i = some c)
  {w' : World} (hk : ∀ b, b ≠ c → w'.heap[b]? = w.heap[b]?) (hs : w'.heap.size = w.heap.size) (hos : w'.os = w.os) (htape : w'.tape = w.tape) (hout : w'.output = w.output)
  (hsz : ∀ cs el, w.heap[c]? = some (.cells cs el (0, 0)) → ∃ cs' el', w'.heap[c]? = some (.cells cs' el' (0, 0)) ∧ cs'.size = cs.size) :
  Inv G S (A.put i .dead) w' ∧ Fr S A w S (A.put i .dead) w' := by
 have liveSub : ∀ {j}, (A.put i .dead).live j → A.live j ∧ j ≠ i := by
  rintro j ⟨x, hx, hd⟩
  simp only [AH.put, List.getElem?_set] at hx
  by_cases hij : i = j
  ·subst hij
   simp only [↓reduceIte] at hx
   split at hx
   ·cases hx; exact absurd rfl hd
   ·cases hx
  ·simp only [if_neg hij] at hx
   exact ⟨⟨x, hx, hd⟩, fun e => hij e.symm⟩
 have cellKeep : ∀ b o' v, b ≠ c → w.cell? ⟨b, o', none⟩ = some v → w'.cell? ⟨b, o', none⟩ = some v := by
  intro b o' v hb hv
  unfold World.cell? at hv ⊢
  simp only at hv ⊢
  rw [hk b hb]; exact hv
 constructor
 ·refine ⟨?_, ?_, ?_, ?_, h.fam, ?_, h.famInj, ?_, h.tlout, h.glob, ?_⟩
  ·intro b o' v hv
   refine cellKeep b o' v ?_ (h.im b o' v hv)
   rintro rfl
   rw [h.free i b o' hi hc] at hv; cases hv
  ·intro j y hy hd
   obtain ⟨hj, hne⟩ := liveSub ⟨y, hy, hd⟩
   simp only [AH.put, List.getElem?_set] at hy
   rw [if_neg (fun e => hne e.symm)] at hy
   obtain ⟨d, o', h1, h2, h3⟩ := h.blk j y hy hd
   refine ⟨d, o', h1, ?_, h3⟩
   rw [hk d]; exact h2
   rintro rfl
   exact hne (h.inj j i d hj hi h1 hc)
  ·exact fun j k d hj hk' => h.inj j k d (liveSub hj).1 (liveSub hk').1
  ·exact fun j d o' hj => h.free j d o' (liveSub hj).1
  ·intro φ b ec room he
   obtain ⟨⟨c', el, h1, h2⟩, h3, h4⟩ := h.room φ b ec room he
   refine ⟨⟨c', el, ?_, h2⟩, h3, fun j hj => h4 j (liveSub hj).1⟩
   rw [hk b]; exact h1
   rintro rfl
   exact h4 i hi hc
  ·intro j hj
   simp only [AH.put, List.length_set] at hj
   exact h.ρout j hj
  ·intro d n hn
   obtain ⟨cs, el, h1, h2⟩ := h.rm d n hn
   by_cases hdc : d = c
   ·subst hdc
    obtain ⟨cs', el', h3, h4⟩ := hsz cs el h1
    exact ⟨cs', el', h3, h4.trans h2⟩
   ·exact ⟨cs, el, by rw [hk d hdc]; exact h1, h2⟩
 ·refine ⟨.refl _, Nat.le_of_eq hs.symm, hos, htape, hout, ?_, ?_, fun _ _ _ h => .inl h, by simp [AH.put], fun _ _ h => .inl h⟩
  ·intro b hb hn
   refine hk b ?_
   rintro rfl
   exact hn (.inl ⟨i, hi, hc⟩)
  ·intro b ho _
   rcases ho with ⟨j, hj, hr'⟩ | ho
   ·exact .inl ⟨j, (liveSub hj).1, hr'⟩
   ·exact .inr ho
def Sh.fix (S : Sh) (b : Nat) (vs : List Value) : Sh := { S with im := fun b' o => if b' = b then vs[o]? else S.im b' o }
theorem Inv.fix {G : Gl} {S : Sh} {A : AH} {w : World} (h : Inv G S A w) (vs rest : List Value) (el : TypeId) (f : Nat × Nat) :
  Inv G (S.fix w.heap.size vs) A { w with heap := w.heap.push (.cells ⟨vs ++ rest⟩ el f) } ∧ Fr S A w (S.fix w.heap.size vs) A { w with heap := w.heap.push (.cells ⟨vs ++ rest⟩ el f) } := by
 have hle : S.le (S.fix w.heap.size vs) := by
  refine ⟨rfl, fun _ _ h => h, ?_, fun _ _ _ h => h, fun _ _ h => h⟩
  intro b o v hv
  have := h.imlt hv
  simp only [Sh.fix]; rw [if_neg (by omega)]; exact hv
 constructor
 ·refine ⟨?_, ?_, h.inj, ?_, h.fam, ?_, h.famInj, h.ρout, h.tlout, ?_, fun c n hn => let ⟨cs, el, h1, h2⟩ := h.rm c n hn; ⟨cs, el, push_old h1, h2⟩⟩
  ·intro b o v hv
   simp only [Sh.fix] at hv
   by_cases hb : b = w.heap.size
   ·subst hb
    rw [if_pos rfl] at hv
    have hlt := (List.getElem?_eq_some_iff.1 hv).1
    simp only [World.cell?, Array.getElem?_push, if_pos]
    simp [List.getElem?_append_left hlt, hv]
   ·rw [if_neg hb] at hv
    exact cell?_push (h.im b o v hv)
  ·intro i y hy hd
   obtain ⟨c, o, h1, h2, h3⟩ := h.blk i y hy hd
   exact ⟨c, o, h1, push_old h2, h3.mono hle⟩
  ·intro i c o hi hc
   have := h.lt (.inl ⟨i, hi, hc⟩)
   simp only [Sh.fix]; rw [if_neg (by omega)]; exact h.free i c o hi hc
  ·intro φ b ec room he
   obtain ⟨⟨c, el', h1, h2⟩, h3, h4⟩ := h.room φ b ec room he
   have := (Array.getElem?_eq_some_iff.1 h1).1
   refine ⟨⟨c, el', push_old h1, h2⟩, fun o ho => ?_, h4⟩
   simp only [Sh.fix]; rw [if_neg (by omega)]; exact h3 o ho
  ·exact fun g o x hg => let ⟨v, h1, h2⟩ := h.glob g o x hg; ⟨v, hle.im _ _ _ h1, h2.mono hle.bare⟩
 ·refine ⟨hle, by simp, rfl, rfl, rfl, ?_, fun b ho _ => ho, ?_, Nat.le_refl _, fun _ _ h => .inl h⟩
  ·intro b hb _
   simp only [Array.getElem?_push, if_neg (Nat.ne_of_lt hb)]
  ·intro b o v hv
   simp only [Sh.fix] at hv
   by_cases hb : b = w.heap.size
   ·exact .inr (.inl (by omega))
   ·rw [if_neg hb] at hv; exact .inl hv
theorem Inv.move {G : Gl} {S : Sh} {A : AH} {w : World} (h : Inv G S A w) {i c : Nat} (hi : A.live i) (hc : S.ρ i = some c) {x : ABlk} {o : Obj} (hr : BRel (S.at A.blks.length c) x o)
  {w' : World} (hw : w'.heap[c]? = some o) (hk : ∀ b, b ≠ c → w'.heap[b]? = w.heap[b]?) (hs : w'.heap.size = w.heap.size) (hos : w'.os = w.os) (htape : w'.tape = w.tape) (hout : w'.output = w.output)
  (hsz : ∀ cs el, w.heap[c]? = some (.cells cs el (0, 0)) → ∃ cs' el', o = .cells cs' el' (0, 0) ∧ cs'.size = cs.size) :
  Inv G (S.at A.blks.length c) ((A.put i .dead).push x) w' ∧ Fr S A w (S.at A.blks.length c) ((A.put i .dead).push x) w' := by
 obtain ⟨k1, k2⟩ := h.kill hi hc hk hs hos htape hout (fun cs el hh => let ⟨cs', el', h1, h2⟩ := hsz cs el hh; ⟨cs', el', by rw [hw, h1], h2⟩)
 have hlen : (A.put i .dead).blks.length = A.blks.length := by simp [AH.put]
 have hnone := h.ρout A.blks.length (Nat.le_refl _)
 have hle := Sh.le_at hnone c
 have notOwn : ∀ j, (A.put i .dead).live j → S.ρ j ≠ some c := by
  intro j hj hjc
  obtain ⟨y, hy, hd⟩ := hj
  simp only [AH.put, List.getElem?_set] at hy
  by_cases hij : i = j
  ·subst hij
   simp only [↓reduceIte] at hy
   split at hy
   ·cases hy; exact absurd rfl hd
   ·cases hy
  ·rw [if_neg hij] at hy
   exact hij (h.inj i j c hi ⟨y, hy, hd⟩ hc hjc)
 have liveNew : ∀ {j}, ((A.put i .dead).push x).live j → (A.put i .dead).live j ∨ j = A.blks.length := by
  rintro j ⟨y, hy, hd⟩
  simp only [AH.push] at hy
  rcases Nat.lt_trichotomy j A.blks.length with hlt | heq | hgt
  ·rw [List.getElem?_append_left (by omega)] at hy; exact .inl ⟨y, hy, hd⟩
  ·exact .inr heq
  ·rw [List.getElem?_append_right (by omega), List.getElem?_eq_none (by simp; omega)] at hy; cases hy
 have ρold : ∀ {j}, (A.put i .dead).live j → (S.at A.blks.length c).ρ j = S.ρ j := fun {j} hj => by
  have := live_lt hj
  simp only [Sh.at]; rw [if_neg (by omega)]
 constructor
 ·refine ⟨k1.im, ?_, ?_, ?_, k1.fam, ?_, k1.famInj, ?_, k1.tlout, ?_, k1.rm⟩
  ·intro j y hy hd
   rcases liveNew ⟨y, hy, hd⟩ with hj | rfl
   ·have hlt := live_lt hj
    simp only [AH.push] at hy
    rw [List.getElem?_append_left (by omega)] at hy
    obtain ⟨d, o', h1, h2, h3⟩ := k1.blk j y hy hd
    exact ⟨d, o', by rw [ρold hj]; exact h1, h2, h3.mono hle⟩
   ·simp only [AH.push] at hy
    rw [List.getElem?_append_right (by omega)] at hy
    simp [hlen] at hy; subst hy
    exact ⟨c, o, by simp [Sh.at], hw, hr⟩
  ·intro j k d hj hk' h1 h2
   rcases liveNew hj with hj' | rfl <;> rcases liveNew hk' with hk'' | rfl
   ·rw [ρold hj'] at h1; rw [ρold hk''] at h2; exact k1.inj j k d hj' hk'' h1 h2
   ·rw [ρold hj'] at h1
    simp [Sh.at] at h2; subst h2
    exact absurd h1 (notOwn j hj')
   ·rw [ρold hk''] at h2
    simp [Sh.at] at h1; subst h1
    exact absurd h2 (notOwn k hk'')
   ·rfl
  ·intro j d o' hj hd
   rcases liveNew hj with hj' | rfl
   ·rw [ρold hj'] at hd; exact k1.free j d o' hj' hd
   ·simp [Sh.at] at hd; subst hd
    exact h.free i c o' hi hc
  ·intro φ b ec room he
   obtain ⟨h1, h2, h3⟩ := k1.room φ b ec room he
   refine ⟨h1, h2, fun j hj => ?_⟩
   rcases liveNew hj with hj' | rfl
   ·rw [ρold hj']; exact h3 j hj'
   ·simp only [Sh.at, ↓reduceIte]
    intro hcb
    cases hcb
    obtain ⟨_, _, h4⟩ := h.room φ c ec room he
    exact h4 i hi hc
  ·intro j hj
   simp only [AH.push, List.length_append, List.length_cons, List.length_nil, hlen] at hj
   simp only [Sh.at]; rw [if_neg (by omega)]; exact h.ρout j (by omega)
  ·exact fun g o x hg => let ⟨v, h1, h2⟩ := k1.glob g o x hg; ⟨v, h1, h2.mono hle.bare⟩
 ·refine ⟨hle, k2.size, k2.os, k2.tape, k2.output, k2.keep, ?_, fun _ _ _ h => .inl h, by simp [AH.push, hlen], fun i' d hd => (ρnew_at _ _ i' d hd).imp_right (by omega)⟩
  intro b ho hb
  rcases ho with ⟨j, hj, hr'⟩ | ho
  ·rcases liveNew hj with hj' | rfl
   ·rw [ρold hj'] at hr'
    exact k2.own b (.inl ⟨j, hj', hr'⟩) hb
   ·simp [Sh.at] at hr'; subst hr'
    exact .inl ⟨i, hi, hc⟩
  ·exact .inr ho
def AV.weak : AV → AV
 | .row b len _ => .msl b 0 len
 | x => x
theorem VRel.weak {S : Sh} {x : AV} {v : Value} (h : VRel S x v) : VRel S x.weak v := by
 cases h with
 | row b l sz c cap room hr h0 hl hm hc => exact .msl b 0 l c cap hr hl
 | top => exact .top _
 | bool b => exact .bool b
 | int k n => exact .int k n
 | str s => exact .str s
 | nilp => exact .nilp
 | ptr b o c hr => exact .ptr b o c hr
 | gptr g o => exact .gptr g o
 | iptr v a o hc => exact .iptr v a o hc
 | islNil f o => exact .islNil f o
 | islE o a => exact .islE o a
 | isl f off xs sz a o cap h0 hsz hc hl hf => exact .isl f off xs sz a o cap h0 hsz hc hl hf
 | msl b o l c cap hr hl => exact .msl b o l c cap hr hl
 | map b c hr => exact .map b c hr
 | nilm => exact .nilm
 | fn f g xs ys us vs hf h1 h2 => exact .fn f g xs ys us vs hf h1 h2
 | nilf => exact .nilf
 | iface t x v hv => exact .iface t x v hv
 | nili => exact .nili
 | agg xs vs hl => exact .agg xs vs hl
 | tup xs vs hl => exact .tup xs vs hl
 | sym i v ho hs hv => exact .sym i v ho hs hv
section
variable (P : Program)
def aAppendR (A : AH) (argTypes : Array TypeId) (s x : AV) : Option (AV × AH) :=
 match aElemOf P argTypes, aLen x with
 | some (e, sz, _, bytes), some n =>
  match aElems P A e sz n x with
  | some ys =>
   match s with
   | .isl true _ _ [] =>
    if n = 0 then none else
    if n * bytes ≤ 2 ^ 45 ∧ n ≤ 2 ^ 60 ∧ (flat ys).all AV.one then some (.row A.blks.length n sz, A.push (.cells (flat ys) e)) else none
   | .row b len sz' =>
    match A.blks[b]? with
    | some (.cells cs el) =>
     if n = 0 then some (.row b len sz', A) else
     if (len + n) * bytes ≤ 2 ^ 45 ∧ len + n ≤ 2 ^ 60 ∧ (flat ys).all AV.one ∧ sz' = sz ∧ el = e ∧ len * sz ≤ cs.length then some (.row A.blks.length (len + n) sz, (A.put b .dead).push (.cells (cs.take (len * sz) ++ flat ys) e)) else none
    | _ => none
   | _ => none
  | none => none
 | _, _ => none
variable {P}
theorem over_tail {α : Type} : ∀ (vs l r : List α), vs.length ≤ r.length → over (l ++ r) l.length vs = l ++ vs ++ r.drop vs.length
 | [], l, r, _ => by simp [over]
 | v :: vs, l, [], h => by simp at h
 | v :: vs, l, x :: r, h => by
  simp only [over]
  have e : (l ++ x :: r).set l.length v = (l ++ [v]) ++ r := by simp
  rw [e]
  have := over_tail vs (l ++ [v]) r (by simpa using h)
  rw [List.length_append] at this
  simp only [List.length_cons, List.length_nil] at this
  rw [this]
  simp
theorem aAppendR_ok {G : Gl} {S : Sh} {A A' : AH} {w : World} (h : Inv G S A w) {argTypes : Array TypeId} {ty : TypeId} {s x y : AV} {u v : Value} (hx : aAppendR P A argTypes s x = some (y, A')) (hu : VRel S s u) (hv : VRel S x v) :
  VOk P G S A w (Builtin.append_ argTypes ty #[u, v]) y A' := by
 unfold aAppendR at hx
 split at hx
 ·rename_i e sz z bytes n hE hn
  obtain ⟨t, t', d, i, h0, h1, hd, hd', hne, hi, hz, rfl, rfl, hzl, hzt, hsz, hby⟩ := aElemOf_ok hE
  split at hx
  ·rename_i ys hys
   have hlen := aLen_ok (P := P) hn hv w
   obtain ⟨vs, f1, f2, f3, f4⟩ := aElems_ok h hsz hys hv ⟨n, hn, Nat.le_refl _⟩
   have hdrew := (h.drew (w.drawn + 1)).1
   have hdfr := (h.drew (w.drawn + 1)).2
   obtain ⟨vs', f1', f2', _, _⟩ := aElems_ok (w := w.drew) hdrew hsz hys hv ⟨n, hn, Nat.le_refl _⟩
   obtain ⟨zv, hz1, hz2⟩ := run_zeroValue hz w.drew
   have hzr := ofVs_rel S zv
   rw [← hz2] at hzr
   have hzs : zv.cells.size = i.size := by
    have hzt' : z ≠ .top := by rintro rfl; simp [AV.isTop] at hzt
    have := (hzr.cells hzt').length; simp at this; omega
   have hvl := f2.length
   rw [flat_length f3, f4] at hvl
   have hvl' := f2'.length
   rw [flat_length f3, f4] at hvl'
   split at hx
   ·split at hx
    ·cases hx
    ·rename_i hn0
     split at hx <;> cases hx
     rename_i hc
     obtain ⟨c1, c2, c3⟩ := hc
     cases hu
     obtain ⟨newCap, g1, g2⟩ := run_append_out (ty := ty) (base := none) (sLen := 0) (sCap := 0) (os := []) h0 h1 hd hd' hne hi hlen (by omega) (by omega) hby (by simpa using c1) (by simp [Builtin.firstCells]) f1' hz1
     simp only [List.nil_append, Nat.zero_add] at g1 g2
     have hle := Sh.le_at (hdrew.ρout _ (Nat.le_refl _)) w.drew.heap.size
     obtain ⟨i1, i2⟩ := hdrew.push (x := .cells (flat ys) e) (o := .cells ⟨vs' ++ (Builtin.zeroCells zv.cells (newCap - n)).toList⟩ e (0, 0)) (by simp) (.cells _ _ _ _ (f2'.mono hle))
     obtain ⟨j1, j2⟩ := i1.know (c := w.drew.heap.size) (cs := ⟨vs' ++ (Builtin.zeroCells zv.cells (newCap - n)).toList⟩) (el := e) (by simp)
     refine ⟨_, _, _, g2, j1, hdfr.trans (i2.trans j2), ?_⟩
     refine .row _ _ _ w.drew.heap.size newCap (vs' ++ (Builtin.zeroCells zv.cells (newCap - n)).toList).length (by simp [Sh.at, Sh.know]) hsz g1 (by simp [Sh.know]) ?_
     rw [List.length_append, zeroCells_length, hzs, ← hvl', ← Nat.add_mul]
     exact Nat.mul_le_mul_right _ (by omega)
   ·rename_i b len sz'
    split at hx
    ·rename_i cs el hb
     cases hu with
     | row _ _ _ c cap room hc q0 hl hm hcap =>
     split at hx
     ·rename_i hn0
      cases hx
      subst hn0
      have hvs : vs = [] := List.eq_nil_of_length_eq_zero (by omega)
      subst hvs
      exact VOk.same h (run_append_in (base := some ⟨c, 0, none⟩) h0 h1 hd hd' hne hi hlen (by omega) f1 (by simp [storeCells])) (.row _ _ _ c cap room hc q0 hl hm hcap)
     ·rename_i hn0
      split at hx <;> cases hx
      rename_i hcd
      obtain ⟨c1, c2, c3, rfl, rfl, c4⟩ := hcd
      obtain ⟨c', o, s1, s2, s3⟩ := h.blk b _ hb (by simp)
      obtain rfl := Option.some.inj (s1.symm.trans hc)
      cases s3 with
      | cells _ _ us rest hul =>
      obtain ⟨us, rest, hul, s2, c4⟩ : ∃ us' rest' : List Value, LRel S (cs.take (len * i.size)) us' ∧ w.heap[c']? = some (.cells ⟨us' ++ rest'⟩ el (0, 0)) ∧ (cs.take (len * i.size)).length = len * i.size :=
       ⟨us.take (len * i.size), us.drop (len * i.size) ++ rest, hul.take _, by rw [← List.append_assoc, List.take_append_drop]; exact s2, by rw [List.length_take]; omega⟩
      generalize cs.take (len * i.size) = cs at *
      obtain ⟨cs0, el0, k1, k2⟩ := h.rm _ _ hm
      rw [s2] at k1
      simp only [Option.some.injEq, Obj.cells.injEq] at k1
      obtain ⟨rfl, rfl, _⟩ := k1
      have hull := hul.length
      simp only [List.size_toArray, List.length_append] at k2
      by_cases hfit : len + n ≤ cap
      ·have hroom : len * i.size + n * i.size ≤ us.length + rest.length := by
        rw [← Nat.add_mul, k2]
        exact Nat.le_trans (Nat.mul_le_mul_right _ hfit) hcap
       obtain ⟨w', r1, r2, r3, r4, r5, r6, r7⟩ := run_storeCells (P := P) (el := el) (c := c') vs w (us ++ rest) (len * i.size) 0 s2 (by simp; omega) (f2.ones c3)
       rw [Nat.add_zero, show len * i.size = us.length by omega, over_tail _ _ _ (by omega)] at r2
       have hle := Sh.le_at (h.ρout _ (Nat.le_refl _)) c'
       obtain ⟨i1, i2⟩ := h.move (x := .cells (cs ++ flat ys) el) ⟨_, hb, by simp⟩ hc (.cells _ _ (us ++ vs) (rest.drop vs.length) ((hul.append f2).mono hle)) r2 r3 r4 r5 r6 r7 (fun cs' el' hh => by
        rw [s2] at hh; cases hh; exact ⟨_, _, rfl, by simp; omega⟩)
       refine ⟨_, w', _, run_append_in (base := some ⟨c', 0, none⟩) h0 h1 hd hd' hne hi hlen hfit f1 (by simpa [add_mk] using r1), i1, i2, ?_⟩
       exact .row _ _ _ c' cap room (by simp [Sh.at]) hsz hfit hm hcap
      ·have ho : (Builtin.firstCells i.size len (.slice (some ⟨c', 0, none⟩) len cap)).run P w.drew = .ok ⟨us⟩ w.drew := by
        have s2' : w.drew.heap[c']? = some (.cells ⟨us ++ rest⟩ el (0, 0)) := s2
        simp [Builtin.firstCells, run_loadCells (P := P) (w := w.drew) (b := c') (o := 0) (n := len * i.size) (vs := us) (by omega) (fun j v hj => by
         rw [cell_of_heap s2', Nat.zero_add]
         have := (List.getElem?_eq_some_iff.1 hj).1
         simp only [List.getElem?_toArray]
         rw [List.getElem?_append_left this]; exact hj)]
       obtain ⟨newCap, g1, g2⟩ := run_append_out (ty := ty) (base := some ⟨c', 0, none⟩) h0 h1 hd hd' hne hi hlen (by omega) c2 hby c1 ho f1' hz1
       obtain ⟨k3, k4⟩ := hdrew.kill ⟨_, hb, by simp⟩ hc (w' := w.drew) (fun _ _ => rfl) rfl rfl rfl rfl (fun cs el hh => ⟨cs, el, hh, rfl⟩)
       have hlen' : (A.put b .dead).blks.length = A.blks.length := by simp [AH.put]
       have hle := Sh.le_at (k3.ρout _ (Nat.le_refl _)) w.drew.heap.size
       obtain ⟨i1, i2⟩ := k3.push (x := .cells (cs ++ flat ys) el) (o := .cells ⟨us ++ vs' ++ (Builtin.zeroCells zv.cells (newCap - (len + n))).toList⟩ el (0, 0)) (by simp) (.cells _ _ (us ++ vs') _ ((hul.append f2').mono hle))
       obtain ⟨j1, j2⟩ := i1.know (c := w.drew.heap.size) (cs := ⟨us ++ vs' ++ (Builtin.zeroCells zv.cells (newCap - (len + n))).toList⟩) (el := el) (by exact Array.getElem?_push_size)
       refine ⟨_, _, _, g2, j1, hdfr.trans (k4.trans (i2.trans j2)), ?_⟩
       refine .row _ _ _ w.drew.heap.size newCap (us ++ vs' ++ (Builtin.zeroCells zv.cells (newCap - (len + n))).toList).length (by simp [Sh.at, Sh.know, hlen']) hsz g1 (by simp [Sh.know]) ?_
       rw [List.length_append, List.length_append, zeroCells_length, hzs, ← hvl', show us.length = len * i.size by omega, ← Nat.add_mul, ← Nat.add_mul]
       exact Nat.mul_le_mul_right _ (by omega)
    ·cases hx
   ·cases hx
  ·cases hx
 ·cases hx
end
end Go.Am
end