/-
  strings.Join over this program: the library's contract, and what it says to the abstract machine. Conditions: none.
-/
import Derived.Shelf.Strings.OnBuilder
import Derived.Test.YthoenpmifmomaaaGreatDoorProg
import Derived.Test.YthoenpmifmomaaaGreatDoorAm34
namespace Go.Proofs
open Go.Shelf
def Tryz.lays156_ren : Go.Shelf.Ren := ⟨fun | 156 => 286 | 165 => 304 | 166 => 305 | 169 => 306 | 240 => 316 | 241 => 317 | 276 => 323 | 277 => 324 | n => n, fun | 31 => 377 | 9 => 9 | 3 => 3 | 4 => 4 | 0 => 0 | 20 => 20 | 72 => 403 | 76 => 406 | 70 => 400 | 37 => 401 | 75 => 405 | 127 => 413 | 164 => 419 | 5 => 5 | 80 => 408 | n => n, fun | n => n⟩
theorem Tryz.lays156 : Go.Proofs.Lays.n156 Tryz.prog Tryz.lays156_ren := {
  mixed := by kernel_rfl
  f156 := Tryz.func286.trans (congrArg some (by kernel_rfl))
  f165 := Tryz.func304.trans (congrArg some (by kernel_rfl))
  f166 := Tryz.func305.trans (congrArg some (by kernel_rfl))
  f169 := Tryz.func306.trans (congrArg some (by kernel_rfl))
  f240 := Tryz.func316.trans (congrArg some (by kernel_rfl))
  f241 := Tryz.func317.trans (congrArg some (by kernel_rfl))
  f276 := Tryz.func323.trans (congrArg some (by kernel_rfl))
  f277 := Tryz.func324.trans (congrArg some (by kernel_rfl))
  t0 := Tryz.underlying0
  a0 := Tryz.isAgg0
  z0 := Tryz.sizeOf0
  v0 := Tryz.zeroValue0
  t3 := Tryz.underlying3
  a3 := Tryz.isAgg3
  z3 := Tryz.sizeOf3
  v3 := Tryz.zeroValue3
  t4 := Tryz.underlying4
  a4 := Tryz.isAgg4
  z4 := Tryz.sizeOf4
  v4 := Tryz.zeroValue4
  t9 := Tryz.underlying9
  a9 := Tryz.isAgg9
  z9 := Tryz.sizeOf9
  v9 := Tryz.zeroValue9
  t20 := Tryz.underlying20
  a20 := Tryz.isAgg20
  z20 := Tryz.sizeOf20
  v20 := Tryz.zeroValue20
  t31 := Tryz.underlying377
  a31 := Tryz.isAgg377
  z31 := Tryz.sizeOf377
  v31 := Tryz.zeroValue377
  t37 := Tryz.underlying401
  a37 := Tryz.isAgg401
  z37 := Tryz.sizeOf401
  v37 := Tryz.zeroValue401
  t70 := Tryz.underlying400
  a70 := Tryz.isAgg400
  z70 := Tryz.sizeOf400
  v70 := Tryz.zeroValue400
  t72 := Tryz.underlying403
  a72 := Tryz.isAgg403
  z72 := Tryz.sizeOf403
  v72 := Tryz.zeroValue403
  t75 := Tryz.underlying405
  a75 := Tryz.isAgg405
  z75 := Tryz.sizeOf405
  v75 := Tryz.zeroValue405
  t76 := Tryz.underlying406
  a76 := Tryz.isAgg406
  z76 := Tryz.sizeOf406
  v76 := Tryz.zeroValue406
  t127 := Tryz.underlying413
  a127 := Tryz.isAgg413
  z127 := Tryz.sizeOf413
  v127 := Tryz.zeroValue413
  t164 := Tryz.underlying419
  a164 := Tryz.isAgg419
  z164 := Tryz.sizeOf419
  v164 := Tryz.zeroValue419 }
theorem Tryz.Builder_Extra_156 : Builder.Extra Tryz.prog Tryz.lays156_ren := {
  sizeBuilder := by kernel_rfl
  liesBuilder := by kernel_rfl
  t5 := Tryz.underlying5
  a5 := Tryz.isAgg5
  z5 := Tryz.sizeOf5
  v5 := Tryz.zeroValue5
  infoByte := by kernel_rfl
  cellsByte := by kernel_rfl
  sizeByte := by kernel_rfl
  neB5 := by decide }
open Go.RowKit in
/-- No element: the empty string; the world is as it was. (Whatever the slice's address and capacity: a nil slice too.) (LAID: no walk: one application.) -/
theorem Tryz.strings_Join_none (a : Option Addr) (c : Nat) (sep : ByteArray) (w : World) :
    Calls Tryz.prog 286 #[.slice a 0 c, .string sep] w fun e w' => e = .returned (.string ⟨#[]⟩) ∧ w' = w := Any.strings_Join_none Tryz.lays156 Tryz.Builder_Extra_156 a c sep w
open Go.RowKit in
/-- strings.Join: "Join concatenates the elements of its first argument to create a single string. The separator string sep is placed between elements in the resulting string.": HOWEVER MANY ELEMENTS. Below the heap's end the world is as it was. (LAID: no walk: one application.) -/
theorem Tryz.strings_Join (bk o c : Nat) (xs : List ByteArray) (sep : ByteArray) (w : World) (hcells : ∀ (j : Nat) x, xs[j]? = some x → w.cell? ⟨bk, o + j, none⟩ = some (.string x)) (hbk : bk < w.heap.size) (hN : xs.length ≤ 140737488355328) (hcap : xs.length ≤ c) (hlen : (Lib.join (xs.map (·.data.toList)) sep.data.toList).length ≤ 140737488355328) :
    Calls Tryz.prog 286 #[.slice (some ⟨bk, o, none⟩) xs.length c, .string sep] w fun e w' => e = .returned (.string ⟨(Lib.join (xs.map (·.data.toList)) sep.data.toList).toArray⟩) ∧ Below w.heap.size w w' := Any.strings_Join Tryz.lays156 Tryz.Builder_Extra_156 bk o c xs sep w hcells hbk hN hcap hlen

end Go.Proofs
namespace Go.Am
open Go Go.RowKit

/-- A contract that leaves all as it was below, as a call that is handed values alone. -/
theorem PCall.of_below {P : Program} {G : Gl} {f : FuncId} {args : List AV} {es : List AEnd}
    (h : ∀ (S : Sh) (w : World) (vs : List Value), Inv G S.bare AH.nil w → LRel S.bare args vs → Calls P f ⟨vs⟩ w fun e w' => (∃ x ∈ es, FinRel S.bare x e) ∧ Below w.heap.size w w') : PCall P G f args es := by
  intro S w vs hi hl
  refine callsIn_wide.2 ((h S w vs hi hl).mono ?_)
  rintro e w' ⟨⟨x, hx, hr⟩, hb⟩
  have him : ∀ b o v, S.im b o = some v → w'.cell? ⟨b, o, none⟩ = some v := fun b o v hv => by
    have h1 := hi.im b o v hv
    have h2 : b < w.heap.size := hi.imlt (b := b) (o := o) (v := v) hv
    rw [hb.cell (p := ⟨b, o, none⟩) h2]; exact h1
  exact ⟨x, hx, S, Inv.nil him hi.glob, ⟨.refl _, hb.size, hb.os, hb.tape, hb.output, fun k hk _ => hb.block k hk, fun b ho _ => absurd ho not_owned_nil, fun _ _ _ h => .inl h⟩, hr⟩

/-- Texts. -/
def strsOf : List AV → Option (List (List UInt8))
  | [] => some []
  | .str s :: xs => match strsOf xs with | some l => some (s :: l) | none => none
  | _ => none

theorem strsOf_eq : ∀ {xs : List AV} {l : List (List UInt8)}, strsOf xs = some l → xs = l.map .str
  | [], l, h => by simp [strsOf] at h; subst h; rfl
  | .str s :: xs, l, h => by
    simp only [strsOf] at h
    split at h
    · rename_i l' hl
      cases h
      rw [strsOf_eq hl]; rfl
    · cases h
  | .top :: _, _, h | .bool _ :: _, _, h | .int _ _ :: _, _, h | .nilp :: _, _, h | .ptr _ _ :: _, _, h | .gptr _ _ :: _, _, h | .iptr _ :: _, _, h | .isl _ _ _ _ :: _, _, h | .msl _ _ _ :: _, _, h
  | .row _ _ _ :: _, _, h | .map _ :: _, _, h | .nilm :: _, _, h | .fn _ _ _ :: _, _, h | .nilf :: _, _, h | .iface _ _ :: _, _, h | .nili :: _, _, h | .agg _ :: _, _, h | .tup _ :: _, _, h | .sym _ :: _, _, h => by simp [strsOf] at h

theorem flat_strs (l : List (List UInt8)) : flat (l.map .str) = l.map .str := by
  induction l with
  | nil => rfl
  | cons s l ih => simp only [List.map_cons, flat, AV.cells, ih, List.cons_append, List.nil_append]

theorem strs_cells {S : Sh} : ∀ (l : List (List UInt8)) (a o : Nat), CRel S (l.map .str) a o → ∀ (j : Nat) (s : List UInt8), l[j]? = some s → S.im a (o + j) = some (.string ⟨s.toArray⟩)
  | [], _, _, _, j, s, h => by simp at h
  | x :: l, a, o, hc, j, s, h => by
    cases hc with
    | cons _ _ _ _ v hi hv hc =>
    cases j with
    | zero =>
      simp at h; subst h
      cases hv
      exact hi
    | succ j =>
      have := strs_cells l a (o + 1) hc j s (by simpa using h)
      rw [show o + (j + 1) = o + 1 + j by omega]; exact this

/-- One or the other. -/
def Orc.or (a b : Orc) : Orc := fun f args => match a f args with | some e => some e | .none => b f args
theorem Orc.or_ok {P : Program} {G : Gl} {a b : Orc} (ha : Orc.Ok P G a) (hb : Orc.Ok P G b) : Orc.Ok P G (Orc.or a b) := by
  intro f args es h
  unfold Orc.or at h
  split at h
  · rename_i e he; cases h; exact ha _ _ _ he
  · exact hb _ _ _ h

/-- What strings.Join comes to. -/
def orcJoin (k : FuncId) : Orc := fun f args =>
  match f == k, args with
  | true, [.isl false .none 0 (x :: xs), .str sep] =>
    match strsOf (x :: xs) with
    | some l => match decide ((Lib.join l sep).length ≤ 1048576) && decide (l.length ≤ 1048576) with | true => some [.returned (.str (Lib.join l sep))] | false => .none
    | .none => .none
  | _, _ => .none

end Go.Am
namespace Go.Proofs.YthoenpmifmomaaaGreatDoor
open Go Go.Am Go.RowKit

theorem orcJ_ok {G : Gl} : Orc.Ok Tryz.prog G (orcJoin 286) := by
  intro f args es h
  unfold orcJoin at h
  split at h
  · rename_i x xs sep hf
    obtain rfl : f = 286 := by simpa using hf
    split at h
    · rename_i l hl
      split at h
      · rename_i hc
        cases h
        simp only [Bool.and_eq_true, decide_eq_true_eq] at hc
        obtain ⟨c1, c2⟩ := hc
        refine PCall.of_below fun S w vs hi hl' => ?_
        have hxs := strsOf_eq hl
        rw [hxs] at hl'
        cases hl' with
        | cons _ _ v0 _ h0 hl' =>
        cases hl' with
        | cons _ _ v1 _ h1 hl' =>
        cases hl'
        cases h1
        cases h0 with
        | isl _ _ _ sz a o cap q0 hsz hc hcap hf =>
        rw [flat_strs] at hc
        have hcells := strs_cells l a o hc
        obtain ⟨s0, l0, rfl⟩ : ∃ s0 l0, l = s0 :: l0 := by
          cases l with
          | nil => simp at hxs
          | cons a b => exact ⟨a, b, rfl⟩
        have hid : ((s0 :: l0).map fun s => (⟨s.toArray⟩ : ByteArray)).map (·.data.toList) = s0 :: l0 := by
          rw [List.map_map]
          conv => rhs; rw [← List.map_id (s0 :: l0)]
          exact List.map_congr_left fun s _ => by simp
        have key := Go.Proofs.Tryz.strings_Join a o cap ((s0 :: l0).map fun s => (⟨s.toArray⟩ : ByteArray)) ⟨sep.toArray⟩ w (fun j y hj => by
          simp only [List.getElem?_map, Option.map_eq_some_iff] at hj
          obtain ⟨s, hs, rfl⟩ := hj
          exact hi.im _ _ _ (hcells j s hs)) (hi.imlt (hcells 0 s0 rfl)) (by rw [List.length_map]; omega) (by simpa using hcap) (by rw [hid]; show (Lib.join (s0 :: l0) sep.toArray.toList).length ≤ _; simp only; omega)
        rw [hid] at key
        have e1 : (⟨sep.toArray⟩ : ByteArray).data.toList = sep := by simp
        rw [e1] at key
        have e2 : ((s0 :: l0).map fun s => (⟨s.toArray⟩ : ByteArray)).length = ((s0 :: l0).map AV.str).length := by simp
        rw [e2] at key
        refine key.mono fun e w' ⟨he, hb⟩ => ⟨⟨_, List.mem_singleton.2 rfl, ?_⟩, hb⟩
        subst he
        exact .returned _ _ (.str _)
      · cases h
    · cases h
  · cases h

end Go.Proofs.YthoenpmifmomaaaGreatDoor
