/-
  What the abstract machine's values are, and how they stand to the model's: an immutable slice is the list of its elements, a block of the call's own is a number. Conditions: none.
-/
import Derived.DefersIn
import Derived.RangeFuncIn
import Derived.Recover
import Derived.Laws.World
namespace Go.Am
open Go

/-- The values. -/
inductive AV where
  | top
  | bool (b : Bool)
  | int (k : IntKind) (n : Int)
  | str (s : List UInt8)
  | nilp
  | ptr (b off : Nat)
  | gptr (g off : Nat)
  | iptr (v : AV)
  | isl (nil : Bool) (fam : Option Nat) (off : Nat) (xs : List AV)
  | msl (b off len : Nat)
  | row (b len sz : Nat)
  | map (b : Nat)
  | nilm
  | fn (f : Fn) (first cap : List AV)
  | nilf
  | iface (t : TypeId) (v : AV)
  | nili
  | agg (cs : List AV)
  | tup (vs : List AV)
  | sym (i : Nat)
  deriving Inhabited

def AV.cells : AV → List AV
  | .agg cs => cs
  | v => [v]

/-- One cell, and no name. -/
def AV.plain1 : AV → Bool
  | .top => false
  | .agg _ => false
  | .tup _ => false
  | .sym _ => false
  | _ => true

mutual
/-- Nothing in it that can be written, or grows, and no name. -/
def AV.still : AV → Bool
  | .top => false
  | .ptr _ _ => false
  | .msl _ _ _ => false
  | .row _ _ _ => false
  | .map _ => false
  | .sym _ => false
  | .iptr v => v.still
  | .isl _ none _ xs => AV.stillL xs
  | .isl _ (some _) _ _ => false
  | .fn (.func _) xs ys => AV.stillL xs && AV.stillL ys
  | .fn _ _ _ => false
  | .iface _ v => v.still
  | .agg xs => AV.stillL xs
  | .tup xs => AV.stillL xs
  | _ => true
def AV.stillL : List AV → Bool
  | [] => true
  | x :: xs => x.still && AV.stillL xs
end

def flat : List AV → List AV
  | [] => []
  | x :: xs => x.cells ++ flat xs

/-- How abstract places lie in the world: blocks of the call's own; cells that change no more; the ends of what can grow; what names stand for. -/
structure Sh where
  X : Nat → AV
  ρ : Nat → Option Nat
  im : Nat → Nat → Option Value
  tl : Nat → Nat → Option (Nat × Nat × Nat × Nat)
  rm : Nat → Option Nat

structure Sh.le (S S' : Sh) : Prop where
  X : S'.X = S.X
  ρ : ∀ i c, S.ρ i = some c → S'.ρ i = some c
  im : ∀ b o c, S.im b o = some c → S'.im b o = some c
  tl : ∀ f e x, S.tl f e = some x → S'.tl f e = some x
  rm : ∀ c n, S.rm c = some n → S'.rm c = some n

theorem Sh.le.refl (S : Sh) : S.le S := ⟨rfl, fun _ _ h => h, fun _ _ _ h => h, fun _ _ _ h => h, fun _ _ h => h⟩
theorem Sh.le.trans {S S' S'' : Sh} (h : S.le S') (h' : S'.le S'') : S.le S'' :=
  ⟨h'.X.trans h.X, fun _ _ x => h'.ρ _ _ (h.ρ _ _ x), fun _ _ _ x => h'.im _ _ _ (h.im _ _ _ x), fun _ _ _ x => h'.tl _ _ _ (h.tl _ _ _ x), fun _ _ x => h'.rm _ _ (h.rm _ _ x)⟩

/-- A function value's code: a yield bears its loop's block. -/
def FRel (S : Sh) : Fn → Fn → Prop
  | .yield l, g => ∃ c, S.ρ l = some c ∧ g = .yield c
  | f, g => g = f

/-- The slice of that end can grow there. -/
def FamOk (S : Sh) (fam : Option Nat) (e a endc o cap sz : Nat) : Prop :=
  ∀ φ, fam = some φ → ∃ room, S.tl φ e = some (a, endc, room, sz) ∧ o + cap * sz ≤ room

mutual
inductive VRel (S : Sh) : AV → Value → Prop
  | top (v : Value) : VRel S .top v
  | bool (b : Bool) : VRel S (.bool b) (.bool b)
  | int (k : IntKind) (n : Int) : VRel S (.int k n) (.int k n)
  | str (s : List UInt8) : VRel S (.str s) (.string ⟨s.toArray⟩)
  | nilp : VRel S .nilp (.pointer none)
  | ptr (b off c : Nat) : S.ρ b = some c → VRel S (.ptr b off) (.pointer (some ⟨c, off, none⟩))
  | gptr (g off : Nat) : VRel S (.gptr g off) (.pointer (some ⟨g, off, none⟩))
  | iptr (v : AV) (a o : Nat) : CRel S v.cells a o → VRel S (.iptr v) (.pointer (some ⟨a, o, none⟩))
  | islNil (fam : Option Nat) (off : Nat) : VRel S (.isl true fam off []) (.slice none 0 0)
  | isl (fam : Option Nat) (off : Nat) (xs : List AV) (sz a o cap : Nat) : 0 < sz → (∀ x ∈ xs, x.cells.length = sz) → CRel S (flat xs) a o → xs.length ≤ cap →
      FamOk S fam (off + xs.length) a (o + xs.length * sz) o cap sz → VRel S (.isl false fam off xs) (.slice (some ⟨a, o, none⟩) xs.length cap)
  | msl (b off len c cap : Nat) : S.ρ b = some c → len ≤ cap → VRel S (.msl b off len) (.slice (some ⟨c, off, none⟩) len cap)
  | row (b len sz c cap room : Nat) : S.ρ b = some c → 0 < sz → len ≤ cap → S.rm c = some room → cap * sz ≤ room → VRel S (.row b len sz) (.slice (some ⟨c, 0, none⟩) len cap)
  | map (b c : Nat) : S.ρ b = some c → VRel S (.map b) (.map (some c))
  | nilm : VRel S .nilm (.map none)
  | fn (f g : Fn) (xs ys : List AV) (us vs : List Value) : FRel S f g → LRel S xs us → LRel S ys vs → VRel S (.fn f xs ys) (.func g ⟨us⟩ ⟨vs⟩)
  | nilf : VRel S .nilf .nilFunc
  | iface (t : TypeId) (x : AV) (v : Value) : VRel S x v → VRel S (.iface t x) (.iface t v)
  | nili : VRel S .nili .nilIface
  | agg (xs : List AV) (vs : List Value) : LRel S xs vs → VRel S (.agg xs) (.agg ⟨vs⟩)
  | tup (xs : List AV) (vs : List Value) : LRel S xs vs → VRel S (.tup xs) (.tuple ⟨vs⟩)
  | sym (i : Nat) (v : Value) : (S.X i).plain1 = true → (S.X i).still = true → VRel S (S.X i) v → VRel S (.sym i) v
inductive CRel (S : Sh) : List AV → Nat → Nat → Prop
  | nil (a o : Nat) : CRel S [] a o
  | cons (x : AV) (xs : List AV) (a o : Nat) (v : Value) : S.im a o = some v → VRel S x v → CRel S xs a (o + 1) → CRel S (x :: xs) a o
inductive LRel (S : Sh) : List AV → List Value → Prop
  | nil : LRel S [] []
  | cons (x : AV) (xs : List AV) (v : Value) (vs : List Value) : VRel S x v → LRel S xs vs → LRel S (x :: xs) (v :: vs)
end

theorem FRel.mono {S S' : Sh} (h : S.le S') {f g : Fn} (r : FRel S f g) : FRel S' f g := by
  cases f <;> simp only [FRel] at r ⊢ <;> first
    | exact r
    | (obtain ⟨c, h1, h2⟩ := r; exact ⟨c, h.ρ _ _ h1, h2⟩)

theorem FamOk.mono {S S' : Sh} (h : S.le S') {fam : Option Nat} {e a endc o cap sz : Nat} (r : FamOk S fam e a endc o cap sz) : FamOk S' fam e a endc o cap sz :=
  fun φ hφ => let ⟨room, h1, h2⟩ := r φ hφ; ⟨room, h.tl _ _ _ h1, h2⟩

mutual
theorem VRel.mono {S S' : Sh} (h : S.le S') : ∀ {x : AV} {v : Value}, VRel S x v → VRel S' x v
  | _, _, .top v => .top v
  | _, _, .bool b => .bool b
  | _, _, .int k n => .int k n
  | _, _, .str s => .str s
  | _, _, .nilp => .nilp
  | _, _, .ptr b o c hr => .ptr b o c (h.ρ _ _ hr)
  | _, _, .gptr g o => .gptr g o
  | _, _, .iptr v a o hc => .iptr v a o (CRel.mono h hc)
  | _, _, .islNil f o => .islNil f o
  | _, _, .isl f off xs sz a o cap h0 hsz hc hl hf => .isl f off xs sz a o cap h0 hsz (CRel.mono h hc) hl (hf.mono h)
  | _, _, .msl b o l c cap hr hl => .msl b o l c cap (h.ρ _ _ hr) hl
  | _, _, .row b l sz c cap room hr h0 hl hm hc => .row b l sz c cap room (h.ρ _ _ hr) h0 hl (h.rm _ _ hm) hc
  | _, _, .map b c hr => .map b c (h.ρ _ _ hr)
  | _, _, .nilm => .nilm
  | _, _, .fn f g xs ys us vs hf h1 h2 => .fn f g xs ys us vs (hf.mono h) (LRel.mono h h1) (LRel.mono h h2)
  | _, _, .nilf => .nilf
  | _, _, .iface t x v hv => .iface t x v (VRel.mono h hv)
  | _, _, .nili => .nili
  | _, _, .agg xs vs hl => .agg xs vs (LRel.mono h hl)
  | _, _, .tup xs vs hl => .tup xs vs (LRel.mono h hl)
  | _, _, .sym i v ho hs hv => .sym i v (by rw [h.X]; exact ho) (by rw [h.X]; exact hs) (by rw [h.X]; exact VRel.mono h hv)
theorem CRel.mono {S S' : Sh} (h : S.le S') : ∀ {xs : List AV} {a o : Nat}, CRel S xs a o → CRel S' xs a o
  | _, _, _, .nil a o => .nil a o
  | _, _, _, .cons x xs a o v hi hv hc => .cons x xs a o v (h.im _ _ _ hi) (VRel.mono h hv) (CRel.mono h hc)
theorem LRel.mono {S S' : Sh} (h : S.le S') : ∀ {xs : List AV} {vs : List Value}, LRel S xs vs → LRel S' xs vs
  | _, _, .nil => .nil
  | _, _, .cons x xs v vs hv hl => .cons x xs v vs (VRel.mono h hv) (LRel.mono h hl)
end

theorem AV.stillL_append : ∀ (xs ys : List AV), AV.stillL (xs ++ ys) = (AV.stillL xs && AV.stillL ys)
  | [], ys => by simp [AV.stillL]
  | x :: xs, ys => by simp [AV.stillL, AV.stillL_append xs ys, Bool.and_assoc]

theorem AV.still_cells (x : AV) (h : x.still = true) : AV.stillL x.cells = true := by
  cases x <;> first
    | (simp only [AV.cells, AV.stillL, h, Bool.true_and]; done)
    | (simpa only [AV.cells, AV.still] using h)

theorem AV.still_flat : ∀ (xs : List AV), AV.stillL xs = true → AV.stillL (flat xs) = true
  | [], _ => rfl
  | x :: xs, h => by
    simp only [AV.stillL, Bool.and_eq_true] at h
    simp only [flat, AV.stillL_append, AV.still_cells x h.1, AV.still_flat xs h.2, Bool.true_and]

mutual
/-- It stands for the same wherever these cells are known. -/
theorem VRel.still {S S' : Sh} (him : ∀ b o c, S.im b o = some c → S'.im b o = some c) : ∀ {x : AV} {v : Value}, VRel S x v → x.still = true → VRel S' x v
  | _, _, .top v, h => by simp [AV.still] at h
  | _, _, .bool b, _ => .bool b
  | _, _, .int k n, _ => .int k n
  | _, _, .str s, _ => .str s
  | _, _, .nilp, _ => .nilp
  | _, _, .ptr b o c hr, h => by simp [AV.still] at h
  | _, _, .gptr g o, _ => .gptr g o
  | _, _, .iptr v a o hc, h => .iptr v a o (CRel.still him hc (AV.still_cells v (by simpa [AV.still] using h)))
  | _, _, .islNil f o, _ => .islNil f o
  | _, _, .isl none off xs sz a o cap h0 hsz hc hl hf, h => .isl none off xs sz a o cap h0 hsz (CRel.still him hc (AV.still_flat xs (by simpa [AV.still] using h))) hl (fun φ hφ => by cases hφ)
  | _, _, .isl (some φ) off xs sz a o cap h0 hsz hc hl hf, h => by simp [AV.still] at h
  | _, _, .msl b o l c cap hr hl, h => by simp [AV.still] at h
  | _, _, .row b l sz c cap room hr h0 hl hm hc, h => by simp [AV.still] at h
  | _, _, .map b c hr, h => by simp [AV.still] at h
  | _, _, .nilm, _ => .nilm
  | _, _, .fn (.func f) g xs ys us vs hf h1 h2, h => by
    simp only [AV.still, Bool.and_eq_true] at h
    exact .fn _ g xs ys us vs hf (LRel.still him h1 h.1) (LRel.still him h2 h.2)
  | _, _, .fn f g xs ys us vs hf h1 h2, h => by
    cases f <;> first
      | (simp [AV.still] at h; done)
      | (simp only [AV.still, Bool.and_eq_true] at h
         exact .fn _ g xs ys us vs hf (LRel.still him h1 h.1) (LRel.still him h2 h.2))
  | _, _, .nilf, _ => .nilf
  | _, _, .iface t x v hv, h => .iface t x v (VRel.still him hv (by simpa [AV.still] using h))
  | _, _, .nili, _ => .nili
  | _, _, .agg xs vs hl, h => .agg xs vs (LRel.still him hl (by simpa [AV.still] using h))
  | _, _, .tup xs vs hl, h => .tup xs vs (LRel.still him hl (by simpa [AV.still] using h))
  | _, _, .sym i v ho hs hv, h => by simp [AV.still] at h
theorem CRel.still {S S' : Sh} (him : ∀ b o c, S.im b o = some c → S'.im b o = some c) : ∀ {xs : List AV} {a o : Nat}, CRel S xs a o → AV.stillL xs = true → CRel S' xs a o
  | _, _, _, .nil a o, _ => .nil a o
  | _, _, _, .cons x xs a o v hi hv hc, h => by
    simp only [AV.stillL, Bool.and_eq_true] at h
    exact .cons x xs a o v (him _ _ _ hi) (VRel.still him hv h.1) (CRel.still him hc h.2)
theorem LRel.still {S S' : Sh} (him : ∀ b o c, S.im b o = some c → S'.im b o = some c) : ∀ {xs : List AV} {vs : List Value}, LRel S xs vs → AV.stillL xs = true → LRel S' xs vs
  | _, _, .nil, _ => .nil
  | _, _, .cons x xs v vs hv hl, h => by
    simp only [AV.stillL, Bool.and_eq_true] at h
    exact .cons x xs v vs (VRel.still him hv h.1) (LRel.still him hl h.2)
end

theorem LRel.length {S : Sh} : ∀ {xs : List AV} {vs : List Value}, LRel S xs vs → xs.length = vs.length
  | _, _, .nil => rfl
  | _, _, .cons _ _ _ _ _ h => by simp [LRel.length h]

theorem LRel.get {S : Sh} : ∀ {xs : List AV} {vs : List Value}, LRel S xs vs → ∀ (i : Nat) (x : AV), xs[i]? = some x → ∃ v, vs[i]? = some v ∧ VRel S x v
  | _, _, .nil, i, x, h => by simp at h
  | _, _, .cons x xs v vs hv hl, 0, y, h => by simp at h; subst h; exact ⟨v, by simp, hv⟩
  | _, _, .cons x xs v vs hv hl, i + 1, y, h => by simp at h; obtain ⟨u, h1, h2⟩ := LRel.get hl i y h; exact ⟨u, by simpa using h1, h2⟩

theorem LRel.getD {S : Sh} {xs : List AV} {vs : List Value} (h : LRel S xs vs) (i : Nat) : VRel S ((xs[i]?).getD .top) ((vs[i]?).getD undef) := by
  cases hx : xs[i]? with
  | none => exact .top _
  | some x => obtain ⟨v, h1, h2⟩ := h.get i x hx; rw [h1]; exact h2

theorem LRel.set {S : Sh} : ∀ {xs : List AV} {vs : List Value}, LRel S xs vs → ∀ (i : Nat) {x : AV} {v : Value}, VRel S x v → LRel S (xs.set i x) (vs.set i v)
  | _, _, .nil, _, _, _, _ => .nil
  | _, _, .cons x xs v vs _ hl, 0, _, _, h => .cons _ _ _ _ h hl
  | _, _, .cons x xs v vs hv hl, i + 1, _, _, h => .cons _ _ _ _ hv (hl.set i h)

theorem LRel.append {S : Sh} : ∀ {xs : List AV} {vs : List Value} {ys : List AV} {us : List Value}, LRel S xs vs → LRel S ys us → LRel S (xs ++ ys) (vs ++ us)
  | _, _, _, _, .nil, h => h
  | _, _, _, _, .cons x xs v vs hv hl, h => .cons _ _ _ _ hv (hl.append h)

theorem LRel.take {S : Sh} : ∀ {xs : List AV} {vs : List Value}, LRel S xs vs → ∀ n, LRel S (xs.take n) (vs.take n)
  | _, _, .nil, n => by simp; exact .nil
  | _, _, .cons x xs v vs hv hl, 0 => by simp; exact .nil
  | _, _, .cons x xs v vs hv hl, n + 1 => .cons _ _ _ _ hv (hl.take n)

theorem LRel.drop {S : Sh} : ∀ {xs : List AV} {vs : List Value}, LRel S xs vs → ∀ n, LRel S (xs.drop n) (vs.drop n)
  | _, _, .nil, n => by simp; exact .nil
  | _, _, .cons x xs v vs hv hl, 0 => .cons _ _ _ _ hv hl
  | _, _, .cons x xs v vs hv hl, n + 1 => hl.drop n

theorem LRel.tops {S : Sh} : ∀ (vs : List Value), LRel S (List.replicate vs.length .top) vs
  | [] => .nil
  | v :: vs => .cons _ _ _ _ (.top v) (LRel.tops vs)

theorem CRel.append {S : Sh} : ∀ {xs ys : List AV} {a o : Nat}, CRel S (xs ++ ys) a o ↔ CRel S xs a o ∧ CRel S ys a (o + xs.length)
  | [], ys, a, o => by simp; exact fun _ => .nil _ _
  | x :: xs, ys, a, o => by
    constructor
    · intro h
      cases h with
      | cons _ _ _ _ v hi hv hc =>
        obtain ⟨h1, h2⟩ := CRel.append.1 hc
        exact ⟨.cons _ _ _ _ v hi hv h1, by rw [List.length_cons, show o + (xs.length + 1) = o + 1 + xs.length by omega]; exact h2⟩
    · rintro ⟨h, h'⟩
      cases h with
      | cons _ _ _ _ v hi hv hc =>
        refine .cons _ _ _ _ v hi hv (CRel.append.2 ⟨hc, ?_⟩)
        rw [List.length_cons, show o + (xs.length + 1) = o + 1 + xs.length by omega] at h'
        exact h'

/-- The cells that a list stands for. -/
theorem CRel.cells {S : Sh} : ∀ {xs : List AV} {a o : Nat}, CRel S xs a o → ∃ vs, LRel S xs vs ∧ ∀ (j : Nat) (v : Value), vs[j]? = some v → S.im a (o + j) = some v
  | _, _, _, .nil a o => ⟨[], .nil, by simp⟩
  | _, _, _, .cons x xs a o v hi hv hc => by
    obtain ⟨vs, h1, h2⟩ := CRel.cells hc
    refine ⟨v :: vs, .cons _ _ _ _ hv h1, ?_⟩
    intro j u hj
    cases j with
    | zero => simp at hj; subst hj; exact hi
    | succ j => simp at hj; rw [show o + (j + 1) = o + 1 + j by omega]; exact h2 j u hj

theorem CRel.of_cells {S : Sh} : ∀ {xs : List AV} {vs : List Value} {a o : Nat}, LRel S xs vs → (∀ (j : Nat) (v : Value), vs[j]? = some v → S.im a (o + j) = some v) → CRel S xs a o
  | _, _, a, o, .nil, _ => .nil a o
  | _, _, a, o, .cons x xs v vs hv hl, h => by
    refine .cons _ _ _ _ v (by simpa using h 0 v rfl) hv (CRel.of_cells hl fun j u hj => ?_)
    have := h (j + 1) u (by simpa using hj)
    rw [show o + 1 + j = o + (j + 1) by omega]; exact this

theorem flat_length {sz : Nat} : ∀ {xs : List AV}, (∀ x ∈ xs, x.cells.length = sz) → (flat xs).length = xs.length * sz
  | [], _ => by simp [flat]
  | x :: xs, h => by
    simp only [flat, List.length_append, List.length_cons]
    rw [h x (by simp), flat_length (xs := xs) fun y hy => h y (by simp [hy]), Nat.succ_mul]; omega

theorem flat_append (xs ys : List AV) : flat (xs ++ ys) = flat xs ++ flat ys := by
  induction xs with
  | nil => rfl
  | cons x xs ih => simp [flat, ih]

/-- The cells of the i-th element. -/
theorem CRel.elem {S : Sh} {sz : Nat} : ∀ {xs : List AV} {a o : Nat}, (∀ x ∈ xs, x.cells.length = sz) → CRel S (flat xs) a o → ∀ (i : Nat) (x : AV), xs[i]? = some x → CRel S x.cells a (o + i * sz)
  | [], a, o, _, _, i, x, h => by simp at h
  | y :: xs, a, o, hs, hc, 0, x, h => by
    simp at h; subst h
    simp only [flat] at hc
    simpa using (CRel.append.1 hc).1
  | y :: xs, a, o, hs, hc, i + 1, x, h => by
    simp at h
    simp only [flat] at hc
    have := (CRel.append.1 hc).2
    rw [hs y (by simp)] at this
    have := CRel.elem (fun z hz => hs z (by simp [hz])) this i x h
    rw [show o + (i + 1) * sz = o + sz + i * sz by rw [Nat.succ_mul]; omega]; exact this

/-- A value of the program's text. -/
def ofV : Value → AV
  | .bool b => .bool b
  | .int k n => .int k n
  | .string s => .str s.data.toList
  | .pointer none => .nilp
  | .slice none 0 0 => .isl true none 0 []
  | .map none => .nilm
  | .nilFunc => .nilf
  | .nilIface => .nili
  | .func (.func f) ⟨[]⟩ ⟨[]⟩ => .fn (.func f) [] []
  | _ => .top

/-- Constants, one level of a struct or an array. -/
def ofVs : Value → AV
  | .agg cs => .agg (cs.toList.map ofV)
  | v => ofV v

theorem ofV_rel (S : Sh) (v : Value) : VRel S (ofV v) v := by
  unfold ofV
  split
  · exact .bool _
  · exact .int _ _
  · rename_i s
    have := VRel.str (S := S) s.data.toList
    simpa using this
  · exact .nilp
  · exact .islNil _ _
  · exact .nilm
  · exact .nilf
  · exact .nili
  · exact .fn _ _ _ _ _ _ rfl .nil .nil
  · exact .top _

theorem ofVl_rel (S : Sh) : ∀ (vs : List Value), LRel S (vs.map ofV) vs
  | [] => .nil
  | v :: vs => .cons _ _ _ _ (ofV_rel S v) (ofVl_rel S vs)

theorem ofVs_rel (S : Sh) (v : Value) : VRel S (ofVs v) v := by
  unfold ofVs
  split
  · rename_i cs
    exact .agg _ _ (ofVl_rel S cs.toList)
  · exact ofV_rel S v

theorem VRel.one_cells {S : Sh} {x : AV} {v : Value} (h : VRel S x v) (hx : x.plain1 = true) : v.cells.toList = [v] := by
  cases h <;> first
    | rfl
    | (simp [AV.plain1] at hx)

/-- The cells of a value. -/
theorem VRel.cells {S : Sh} {x : AV} {v : Value} (h : VRel S x v) (hx : x ≠ .top) : LRel S x.cells v.cells.toList := by
  cases h with
  | top => exact absurd rfl hx
  | agg xs vs hl => exact hl
  | bool b => exact .cons _ _ _ _ (.bool b) .nil
  | int k n => exact .cons _ _ _ _ (.int k n) .nil
  | str s => exact .cons _ _ _ _ (.str s) .nil
  | nilp => exact .cons _ _ _ _ .nilp .nil
  | ptr b o c hr => exact .cons _ _ _ _ (.ptr b o c hr) .nil
  | gptr g o => exact .cons _ _ _ _ (.gptr g o) .nil
  | iptr v a o hc => exact .cons _ _ _ _ (.iptr v a o hc) .nil
  | islNil f o => exact .cons _ _ _ _ (.islNil f o) .nil
  | isl f off xs sz a o cap h0 hsz hc hl hf => exact .cons _ _ _ _ (.isl f off xs sz a o cap h0 hsz hc hl hf) .nil
  | msl b o l c cap hr hl => exact .cons _ _ _ _ (.msl b o l c cap hr hl) .nil
  | row b l sz c cap room hr h0 hl hm hc => exact .cons _ _ _ _ (.row b l sz c cap room hr h0 hl hm hc) .nil
  | map b c hr => exact .cons _ _ _ _ (.map b c hr) .nil
  | nilm => exact .cons _ _ _ _ .nilm .nil
  | fn f g xs ys us vs hf h1 h2 => exact .cons _ _ _ _ (.fn f g xs ys us vs hf h1 h2) .nil
  | nilf => exact .cons _ _ _ _ .nilf .nil
  | iface t x v hv => exact .cons _ _ _ _ (.iface t x v hv) .nil
  | nili => exact .cons _ _ _ _ .nili .nil
  | sym i v ho hs hv => rw [hv.one_cells ho]; exact .cons _ _ _ _ (.sym i v ho hs hv) .nil
  | tup xs vs hl => exact .cons _ _ _ _ (.tup xs vs hl) .nil

end Go.Am
