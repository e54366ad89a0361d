/-
  What is handed to a call, read in memory, as the machine's values; and what a call that is proved on them says of the program. Conditions: none.
-/
import Derived.Test.YtnmolpkkemljoaaGreatDoorM5
import Derived.Test.YtnmolpkkemljoaaGreatDoorM2
import Derived.Carry
set_option linter.unusedVariables false
set_option linter.unusedSimpArgs false
noncomputable section
namespace Go.Am
open Go Go.RowKit
def memSh (w : World) : Sh := { X := fun _ => .top, ρ := fun _ => none, im := fun b o => w.cell? ⟨b, o, none⟩, tl := fun _ _ => none, rm := fun _ => none }
theorem memSh_bare (w : World) : (memSh w).bare = memSh w := rfl
theorem Inv.mem (w : World) : Inv g0 (memSh w) AH.nil w := by
 rw [← memSh_bare]
 exact Inv.nil (fun _ _ _ h => h) (fun _ _ _ h => by cases h)
theorem QuietJ.calls {P : Program} {f : FuncId} {args : List AV} {b : Bool} (h : QuietJ P g0 f args (.bool b)) {w : World} {vs : List Value} (hl : LRel (memSh w) args vs) :
  Calls P f ⟨vs⟩ w fun e w' => e = .returned (.bool b) ∧ Below w.heap.size w w' := by
 refine callsIn_wide.1 ((h AH.nil (memSh w) w vs (Inv.mem w) hl).mono ?_)
 rintro e w' ⟨x, rfl, S', _, f1, r1⟩
 refine ⟨?_, f1.os, f1.tape, f1.output, f1.size, fun k hk => f1.keep k hk not_owned_nil⟩
 cases r1 with
 | returned v u hv =>
  cases hv
  rfl
theorem exists_list {α : Type} {Q : Nat → α → Prop} : ∀ (n : Nat), (∀ i, i < n → ∃ v, Q i v) → ∃ l : List α, l.length = n ∧ ∀ i v, l[i]? = some v → Q i v
 | 0, _ => ⟨[], rfl, fun i v h => by simp at h⟩
 | n + 1, h => by
  obtain ⟨l, h1, h2⟩ := exists_list n fun i hi => h i (by omega)
  obtain ⟨v, hv⟩ := h n (by omega)
  refine ⟨l ++ [v], by simp [h1], fun i u hu => ?_⟩
  rcases Nat.lt_or_ge i n with hi | hi
  ·rw [List.getElem?_append_left (by omega)] at hu
   exact h2 i u hu
  ·rw [List.getElem?_append_right (by omega)] at hu
   obtain rfl : i = n := by
    rcases Nat.lt_or_ge (i - l.length) 1 with h | h
    ·omega
    ·rw [List.getElem?_eq_none (by simpa using h)] at hu; cases hu
   rw [h1, Nat.sub_self] at hu
   simp at hu
   subst hu; exact hv
theorem crel_elems {S : Sh} {a sz : Nat} : ∀ (l : List AV) (o : Nat), (∀ i v, l[i]? = some v → v.cells.length = sz ∧ CRel S v.cells a (o + i * sz)) → CRel S (flat l) a o
 | [], o, _ => .nil a o
 | v :: l, o, h => by
  obtain ⟨h1, h2⟩ := h 0 v rfl
  rw [flat, CRel.append]
  refine ⟨by simpa using h2, crel_elems (sz := sz) l _ fun i u hu => ?_⟩
  obtain ⟨h3, h4⟩ := h (i + 1) u (by simpa using hu)
  refine ⟨h3, ?_⟩
  rw [h1, Nat.add_assoc, show sz + i * sz = (i + 1) * sz by rw [Nat.add_mul]; omega]
  exact h4
variable {H : Type} {enc : TypeId × Value → H} {P : Program} {w : World}
theorem crel_of_cells {x : List AV} {a : Addr} {n : Nat} {cs : List Value} (ha : a.spot = none) (hc : w.cells? 0 a n = some cs) (hx : LRel (memSh w) x cs) : CRel (memSh w) x a.block a.off := by
 refine CRel.of_cells hx fun j v hj => ?_
 simp only [World.cells?, Nat.zero_le, if_true] at hc
 have hlen := mapM_some_length hc
 have hj' : j < cs.length := (List.getElem?_eq_some_iff.1 hj).1
 rw [List.length_range] at hlen
 have := mapM_some_get hc j j (by rw [List.getElem?_range (by omega)])
 rw [hj] at this
 show w.cell? ⟨a.block, a.off + j, none⟩ = some v
 rw [← this]
 unfold Addr.add
 split
 ·next h => subst h; cases a; simp_all
 ·cases a; simp_all
theorem spot_of_cells {a : Addr} {n : Nat} {cs : List Value} (hn : 0 < n) (hc : w.cells? 0 a n = some cs) : a.spot = none := by
 simp only [World.cells?, Nat.zero_le, if_true] at hc
 have hlen := mapM_some_length hc
 rw [List.length_range] at hlen
 have := mapM_some_get hc 0 0 (by rw [List.getElem?_range (by omega)])
 have h0 : 0 < cs.length := by omega
 rw [List.getElem?_eq_getElem h0] at this
 have e : a.add 0 = a := by simp [Addr.add]
 rw [e] at this
 unfold World.cell? at this
 split at this
 ·split at this
  ·cases this
  ·next h => simpa using h
 ·cases this
theorem read_sliceB {fuel : Nat} {t e : TypeId} {cs : List Value} {x : DataW H × List MemPlace} {held : Bool} (ht : P.underlying t = some (.slice e)) (he : 0 < P.cellsOf e) {R : AV → Prop}
  (hR : ∀ (n : Nat) (cs : List Value) (x : DataW H × List MemPlace), n < fuel → DataW.trod enc P w 0 (fun _ => true) held n e cs = some x → ∃ v : AV, R v ∧ v.cells.length = P.cellsOf e ∧ LRel (memSh w) v.cells cs)
  (h : DataW.trod enc P w 0 (fun _ => true) held fuel t cs = some x) :
  ∃ (b : Bool) (xs : List AV), (∀ v ∈ xs, R v) ∧ (b = true → xs = []) ∧ LRel (memSh w) [.isl b none 0 xs] cs ∧ xs.length ≤ maxLen := by
 rcases DataW.trod_slice ht h with ⟨rfl, -⟩ | ⟨a, len, cap, elems, rest, n, rfl, rfl, -, -, hlc, hcm, hlen, hel, hrest, -⟩
 ·exact ⟨true, [], by simp, fun _ => rfl, .cons _ _ _ _ (.islNil _ _) .nil, by simp⟩
 ·obtain ⟨hrl, hrest⟩ := hrest rfl
  by_cases hcap : cap = 0
  ·subst hcap
   obtain rfl : len = 0 := by omega
   exact ⟨false, [], by simp, (by simp), .cons _ _ _ _ (.islE _ _) .nil, by simp⟩
  ·have hspot : a.spot = none := by
    have key : ∃ cs', w.cells? 0 a (P.cellsOf e) = some cs' := by
     by_cases hl0 : len = 0
     ·have := hrest 0 (by omega)
      rw [List.getElem?_eq_getElem (by omega : 0 < rest.length)] at this
      simp only [hl0, Nat.zero_add, Nat.zero_mul, Option.bind_eq_some_iff] at this
      obtain ⟨cs', h1, -⟩ := this
      exact ⟨cs', by simpa [Addr.add] using h1⟩
     ·have := hel 0 (by omega)
      rw [List.getElem?_eq_getElem (by omega : 0 < elems.length)] at this
      simp only [Nat.zero_mul, Option.bind_eq_some_iff] at this
      obtain ⟨cs', h1, -⟩ := this
      exact ⟨cs', by simpa [Addr.add] using h1⟩
    obtain ⟨cs', h1⟩ := key
    exact spot_of_cells he h1
   have each : ∀ i, i < len → ∃ v : AV, R v ∧ v.cells.length = P.cellsOf e ∧ CRel (memSh w) v.cells a.block (a.off + i * P.cellsOf e) := by
    intro i hi
    have := hel i hi
    rw [List.getElem?_eq_getElem (by omega : i < elems.length)] at this
    simp only [Option.bind_eq_some_iff] at this
    obtain ⟨cs', h1, h2⟩ := this
    obtain ⟨v, r1, r2, r3⟩ := hR n cs' _ (by omega) h2
    have hs : (a.add (i * P.cellsOf e)).spot = none := by unfold Addr.add; split <;> simp [hspot]
    have := crel_of_cells hs h1 r3
    have e1 : (a.add (i * P.cellsOf e)).block = a.block := by unfold Addr.add; split <;> rfl
    have e2 : (a.add (i * P.cellsOf e)).off = a.off + i * P.cellsOf e := by unfold Addr.add; split <;> simp_all
    rw [e1, e2] at this
    exact ⟨v, r1, r2, this⟩
   obtain ⟨xs, hxl, hx⟩ := exists_list len each
   subst hxl
   refine ⟨false, xs, fun v hv => ?_, (by simp), .cons _ _ _ _ ?_ .nil, by omega⟩
   ·obtain ⟨i, hi⟩ := List.getElem?_of_mem hv
    exact (hx i v hi).1
   ·have := VRel.isl (S := memSh w) none 0 xs (P.cellsOf e) a.block a.off cap he (fun v hv => by
     obtain ⟨i, hi⟩ := List.getElem?_of_mem hv
     exact (hx i v hi).2.1) (crel_elems xs _ fun i v hv => (hx i v hv).2) hlc (fun φ hφ => by cases hφ)
    obtain ⟨ab, ao, as⟩ := a
    simp only at hspot
    subst hspot
    exact this
theorem read_slice {fuel : Nat} {t e : TypeId} {cs : List Value} {x : DataW H × List MemPlace} {held : Bool} (ht : P.underlying t = some (.slice e)) (he : 0 < P.cellsOf e) {R : AV → Prop}
  (hR : ∀ (n : Nat) (cs : List Value) (x : DataW H × List MemPlace), n < fuel → DataW.trod enc P w 0 (fun _ => true) held n e cs = some x → ∃ v : AV, R v ∧ v.cells.length = P.cellsOf e ∧ LRel (memSh w) v.cells cs)
  (h : DataW.trod enc P w 0 (fun _ => true) held fuel t cs = some x) :
  ∃ (b : Bool) (xs : List AV), (∀ v ∈ xs, R v) ∧ (b = true → xs = []) ∧ LRel (memSh w) [.isl b none 0 xs] cs := by
 obtain ⟨b, xs, h1, h2, h3, _⟩ := read_sliceB ht he hR h
 exact ⟨b, xs, h1, h2, h3⟩
end Go.Am
end