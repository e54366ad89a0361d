/-
  What the proof is built of: Unify: tied, the graph of a type. Unify: a range over a map of nodes. Unify: acyclic. Unify: built.join. Unify: same. Unify: acyclic's walk over a node. Unify: acyclic. Unify: a node's type; types in memory of the call's own. Unify: whole's walk over a node, where it stops. Conditions: none.
-/
import Derived.Test.YtnmolpkkemljoaaGreatDoorM15
import Derived.Test.YtnmolpkkemljoaaGreatDoorM6
import Derived.Test.YtnmolpkkemljoaaGreatDoorM8
import Derived.Test.YtnmolpkkemljoaaGreatDoorM16
import Derived.Deep.QuietTactic
import Derived.BigQuiet
import Derived.StillTailTactics
import Derived.Deep.AppendLies
import Derived.Deep.RegionLaw
import Derived.Test.YtnmolpkkemljoaaGreatDoorM10
import Derived.Deep.LoopGhost
import Derived.Deep.RegionWith
import Derived.Deep.Cut
import Derived.Laws.Rows
set_option linter.unusedVariables false
set_option linter.unusedSimpArgs false
set_option maxHeartbeats 8000000
set_option maxRecDepth 100000
section
namespace Go.Proofs.YtnmolpkkemljoaaGreatDoor
open Go Go.RowKit Go.Am Kd
abbrev Vs := List (Int × Nat × Nat)
def vsE (vs : Vs) : List (Int × Value × Nat) := vs.map fun x => (x.1, ptrN x.2.1, x.2.2)
def vget : Vs → Int → Option Nat
 | [], _ => none
 | x :: vs, n => if n = x.1 then some x.2.1 else vget vs n
theorem vget_none : ∀ {vs : Vs} {n : Int}, vget vs n = none → ∀ x ∈ vs, x.1 ≠ n
 | y :: vs, n, h, x, hx => by
  simp only [vget] at h
  split at h
  ·cases h
  ·rename_i hn
   rcases List.mem_cons.1 hx with rfl | hx
   ·exact fun e => hn e.symm
   ·exact vget_none h x hx
theorem vget_mem : ∀ {vs : Vs}, (vs.map fun x => x.1).Nodup → ∀ x ∈ vs, vget vs x.1 = some x.2.1
 | y :: vs, hn, x, hx => by
  simp only [List.map_cons, List.nodup_cons] at hn
  simp only [vget]
  rcases List.mem_cons.1 hx with rfl | hx
  ·rw [if_pos rfl]
  ·rw [if_neg (fun e => hn.1 (by rw [← e]; exact List.mem_map_of_mem (f := fun x : Int × Nat × Nat => x.1) hx))]
   exact vget_mem hn.2 x hx
theorem look_vs : ∀ (vs : Vs) (n : Int) (i : Nat), (lookI (vsE vs) n i).map (fun x => x.2) = (vget vs n).map ptrN
 | [], _, _ => rfl
 | x :: vs, n, i => by
  simp only [vsE, List.map_cons, lookI, vget]
  by_cases h : n = x.1
  ·simp [h]
  ·rw [if_neg h, if_neg h]
   exact look_vs vs n (i + 1)
structure TreeG (G : Grf) (vs : Vs) (τ : Nat → Ty) : Prop where
 node : ∀ b x, G b = some x → τ b = if x.k = 6 then varT x.n else .mk x.k 0 (nilB x.kids) (x.kids.map τ)
 ld : ∀ b x, G b = some x → x.ld = none
 ar : ∀ b x, G b = some x → x.kids.length = arN x.k
 kids : ∀ b x c, G b = some x → c ∈ x.kids → ∃ y, G c = some y
 var : ∀ b x, G b = some x → x.k = 6 → vget vs x.n = some b
 vs : ∀ n b, vget vs n = some b → ∃ x, G b = some x ∧ x.k = 6 ∧ x.n = n
 rows : rowsOk G
 kd : ∀ b x, G b = some x → 0 ≤ x.k ∧ x.k < 7 ∧ (x.k = 6 → 0 ≤ x.n ∧ x.n < 1000)
structure TSt (w0 : World) (kb vb : Nat) (G : Grf) (vs : Vs) (c : Nat) (w : World) : Prop where
 below : Below w0.heap.size w0 w
 grf : GrfAt G w
 knot : w.heap[kb]? = some (.cells #[.map (some vb)] 67 (0, 0))
 map : w.heap[vb]? = some (.map ((vsE vs).map entI).toArray c)
 hi : ∀ b x, G b = some x → w0.heap.size ≤ b ∧ ∀ g, x.row = some g → w0.heap.size ≤ g
 gk : G kb = none
 gv : G vb = none
 rk : ∀ b x, G b = some x → x.row ≠ some kb ∧ x.row ≠ some vb
 kv : kb ≠ vb
 hk : w0.heap.size ≤ kb
 hv : w0.heap.size ≤ vb
 old : ∀ x ∈ vs, x.2.2 < c
 born : (vs.map fun x => x.2.2).Nodup
 keys : (vs.map fun x => x.1).Nodup
theorem TSt.keep {w0 w w' : World} {kb vb c : Nat} {G : Grf} {vs : Vs} (h : TSt w0 kb vb G vs c w) (hb : Below w0.heap.size w w') (hk : ∀ k, k < w.heap.size → w'.heap[k]? = w.heap[k]?) : TSt w0 kb vb G vs c w' :=
 { below := h.below.trans hb, grf := h.grf.keep hk, knot := (hk _ (Array.getElem?_eq_some_iff.1 h.knot).1).trans h.knot, map := (hk _ (Array.getElem?_eq_some_iff.1 h.map).1).trans h.map, hi := h.hi, gk := h.gk, gv := h.gv, rk := h.rk, kv := h.kv, hk := h.hk, hv := h.hv, old := h.old, born := h.born, keys := h.keys }
theorem TSt.alloc {w0 w : World} {kb vb c : Nat} {G : Grf} {vs : Vs} (h : TSt w0 kb vb G vs c w) (o : Obj) : TSt w0 kb vb G vs c (w.alloc o) :=
 h.keep ((Below.refl _ w).alloc h.below.size o) fun k hk => Below.heap_alloc w o k hk
theorem TSt.drewN {w0 w : World} {kb vb c : Nat} {G : Grf} {vs : Vs} (h : TSt w0 kb vb G vs c w) (n : Nat) : TSt w0 kb vb G vs c (w.drewN n) :=
 h.keep ⟨rfl, rfl, rfl, Nat.le_refl _, fun _ _ => rfl⟩ fun _ _ => rfl
inductive Occ (n : Int) : Ty → Prop
 | var (b : Bool) (l : List Ty) : Occ n (.mk 6 n b l)
 | part {k m : Int} {b : Bool} {l : List Ty} {x : Ty} : k ≠ 6 → x ∈ l → Occ n x → Occ n (.mk k m b l)
def TiedSays (w0 : World) (kb vb : Nat) (t : Ty) (G : Grf) (τ : Nat → Ty) (w : World) (e : Ending) (w' : World) : Prop :=
 ∃ a G' vs' c' τ', e = .returned (ptrN a) ∧ TSt w0 kb vb G' vs' c' w' ∧ TreeG G' vs' τ' ∧ τ' a = cleanT t ∧ (∃ x, G' a = some x) ∧ (∀ b x, G b = some x → G' b = some x ∧ τ' b = τ b) ∧
  (∀ b x, G' b = some x → G b = some x ∨ (w.heap.size ≤ b ∧ (∀ g, x.row = some g → w.heap.size ≤ g) ∧ (x.k = 6 → Occ x.n t))) ∧ w.heap.size ≤ w'.heap.size ∧ ∀ k, k < w.heap.size → k ≠ vb → w'.heap[k]? = w.heap[k]?
theorem islSlice {S : Sh} {b : Bool} {fam : Option Nat} {off : Nat} {xs : List AV} {v : Value} (h : VRel S (.isl b fam off xs) v) : ∃ p n c, v = .slice p n c := by
 cases h <;> exact ⟨_, _, _, rfl⟩
theorem ty_elem {S : Sh} {nl : Bool} {l : List Ty} {sp : Option Addr} {sl cp : Nat} (h : VRel S (.isl nl none 0 (encL l)) (.slice sp sl cp)) : sl = l.length ∧ ∀ i (hi : i < l.length), ∃ a o, sp = some ⟨a, o, none⟩ ∧ ∃ sp' sl' cp', S.im a (o + i * 3) = some (.int .i64 l[i].kind) ∧ S.im a (o + i * 3 + 1) = some (.int .i64 l[i].n) ∧ S.im a (o + i * 3 + 2) = some (.slice sp' sl' cp') ∧
  VRel S (.isl l[i].nl none 0 (encL l[i].l)) (.slice sp' sl' cp') := by
 generalize he : encL l = xs at h
 have hlen : xs.length = l.length := by rw [← he, encL_length]
 cases h with
 | islNil _ _ => exact ⟨hlen, fun i hi => by simp at hlen; omega⟩
 | islE _ _ => exact ⟨hlen, fun i hi => by simp at hlen; omega⟩
 | isl _ _ _ sz a o cap h0 hsz hc hl hf =>
  refine ⟨hlen, fun i hi => ⟨a, o, rfl, ?_⟩⟩
  have hx : xs[i]? = some (encD l[i]) := by rw [← he]; exact encL_get l i hi
  have hs : (encD l[i]).cells.length = sz := hsz _ (List.mem_of_getElem? hx)
  have hs3 : sz = 3 := hs.symm
  subst hs3
  have := CRel.elem hsz hc i _ hx
  have hcs : (encD l[i]).cells = [.int .i64 l[i].kind, .int .i64 l[i].n, .isl l[i].nl none 0 (encL l[i].l)] := rfl
  rw [hcs] at this
  cases this with
  | cons _ _ _ _ v1 i1 r1 c1 =>
  cases c1 with
  | cons _ _ _ _ v2 i2 r2 c2 =>
  cases c2 with
  | cons _ _ _ _ v3 i3 r3 c3 =>
  cases r1
  cases r2
  obtain ⟨p, q, r, rfl⟩ := islSlice r3
  exact ⟨p, q, r, i1, i2, i3, r3⟩
theorem tied_known {w0 w : World} {kb vb c : Nat} {G : Grf} {vs : Vs} {τ : Nat → Ty} (hS : TSt w0 kb vb G vs c w) (hT : TreeG G vs τ) {n : Int} {b : Bool} {v : Value} {a : Nat} (ha : vget vs n = some a) :
  Calls Tryz.prog 54 #[ptrN kb, .agg #[.int .i64 6, .int .i64 n, v]] w (TiedSays w0 kb vb (.mk 6 n b []) G τ w) := by
 have hlk : ∃ j, lookI (vsE vs) n 0 = some (j, ptrN a) := by
  have := look_vs vs n 0
  rw [ha] at this
  cases hx : lookI (vsE vs) n 0 with
  | none => rw [hx] at this; cases this
  | some x =>
   rw [hx] at this
   simp only [Option.map_some, Option.some.injEq] at this
   exact ⟨x.1, by rw [← this]⟩
 obtain ⟨j, hlk⟩ := hlk
 have hk0 : w.cell? ⟨kb, 0, none⟩ = some (.map (some vb)) := by simp [World.cell?, hS.knot]
 have hkl : kb < w.heap.size := (Array.getElem?_eq_some_iff.1 hS.knot).1
 have hvl : vb < w.heap.size := (Array.getElem?_eq_some_iff.1 hS.map).1
 unfold ptrN at *
 go_enter Tryz.func54, Tryz.ntmps54
 go_wp2_with fail
 obtain ⟨w1, hw1⟩ : ∃ w1, w1 = w.alloc (Obj.cells #[Value.int IntKind.i64 6, Value.int IntKind.i64 n, v] 24) := ⟨_, rfl⟩
 have q0 : w1.cell? ⟨w.heap.size, 0, none⟩ = some (.int .i64 6) := by rw [hw1]; go_simp
 have q1 : w1.cell? ⟨w.heap.size, 1, none⟩ = some (.int .i64 n) := by rw [hw1]; go_simp
 have q2 : w1.cell? ⟨kb, 0, none⟩ = some (.map (some vb)) := by rw [hw1]; go_simp
 have qm : w1.heap[vb]? = some (.map ((vsE vs).map entI).toArray c) := by rw [hw1, Below.heap_alloc _ _ _ hvl]; exact hS.map
 have qs : TSt w0 kb vb G vs c w1 := by rw [hw1]; exact hS.alloc _
 have qk : ∀ k, k < w.heap.size → w1.heap[k]? = w.heap[k]? := fun k hk => by rw [hw1]; exact Below.heap_alloc _ _ _ hk
 have ql : w.heap.size < w1.heap.size := by rw [hw1]; simp
 rw [← hw1]
 obtain ⟨s, hs⟩ : ∃ s, s ≤ w.heap.size ∧ w.heap.size ≤ s := ⟨_, Nat.le_refl _, Nat.le_refl _⟩
 have hs1 : w.heap.size = s := by omega
 rw [hs1] at q0 q1 qk ql hkl hvl ⊢
 clear hw1 hs1
 have hl : ∀ m, (Instr.lookup 65 (.map (some vb)) (.int .i64 n) true).run Tryz.prog (w1.drewN m) = .ok (.tuple #[.pointer (some ⟨a, 0, none⟩), .bool true]) (w1.drewN m) := fun m => by
  have := lookup65 (w := w1.drewN m) qm n
  rw [hlk] at this
  exact this
 go_quiet (fail)
 have r0 : (w1.drewN nq).cell? ⟨s, 0, none⟩ = some (.int .i64 6) := q0
 have rs : TSt w0 kb vb G vs c (w1.drewN nq) := qs.drewN nq
 have rk : ∀ k, k < s → (w1.drewN nq).heap[k]? = w.heap[k]? := qk
 have rl : s < (w1.drewN nq).heap.size := ql
 generalize w1.drewN nq = w2 at *
 clear q0 q1 q2 qm qs qk ql hl
 go_wp2_with fail
 go_ret
 have hs1 : s = w.heap.size := by omega
 subst hs1
 obtain ⟨x, hx, hx6, hxn⟩ := hT.vs n a ha
 refine ⟨a, G, vs, c, τ, rfl, rs, hT, ?_, ⟨x, hx⟩, fun b x h => ⟨h, rfl⟩, fun b x h => .inl h, by omega, fun k hk _ => rk k hk⟩
 rw [hT.node a x hx, if_pos hx6, hxn, cleanT, if_pos rfl]
 rfl
end Go.Proofs.YtnmolpkkemljoaaGreatDoor
end
section
namespace Go.Proofs.YtnmolpkkemljoaaGreatDoor
open Go Go.RowKit Go.Sort Go.Am Kd
section
variable {P : Program} (w : World) {ops : Array Oper} {rest : List Oper} {o : Oper} {a : Act} {Q : Exit → Act → World → Prop}
theorem wpList_next_int (hg : o.guard = none) (it : Operand) (hop : o.op = Op.next it false) (b r since c0 : Nat) (seen : Array Nat) (l : List (Int × Value × Nat)) (clock : Nat)
  (hit : a.eval it = .pointer (some ⟨r, 0, none⟩)) (hr : w.heap[r]? = some (.mapIter (some b) since seen c0)) (hb : w.heap[b]? = some (.map (l.map entI).toArray clock))
  (hold : ∀ x ∈ l, x.2.2 < since) (hsc : since ≤ c0) (hnd : (l.map (·.2.2)).Nodup)
  (hDone : (∀ x ∈ l, seen.contains x.2.2 = true) → wpList P ops Q rest (a.put o.dst (.tuple #[.bool false])) w)
  (hMore : ∀ (x : Int × Value × Nat) (w' : World), x ∈ l → seen.contains x.2.2 = false → w.grownBy w' (some r) → w'.heap.size = w.heap.size → w'.heap[r]? = some (.mapIter (some b) since (seen.push x.2.2) clock) → w'.heap[b]? = some (.map (l.map entI).toArray clock) →
   w'.rangeLeft b r < w.rangeLeft b r →
   (Instr.entry (.pointer (some ⟨r, 0, none⟩))).run P w' = .ok (.tuple #[.int .i64 x.1, x.2.1]) w' → wpList P ops Q rest (a.put o.dst (.tuple #[.bool true, .int .i64 x.1, x.2.1])) w') :
  wpList P ops Q (o :: rest) a w := by
 refine wpList_plain hg fun K' hK' => ?_
 have hne : r ≠ b := by
  intro e
  rw [e, hb] at hr
  cases hr
 have hold' : ∀ x ∈ (l.map entI).toArray.toList, x.born < since := by
  intro e he
  have he' : e ∈ l.map entI := by simpa only [List.toList_toArray] using he
  obtain ⟨x, hx, rfl⟩ := List.mem_map.1 he'
  exact hold x hx
 unfold Oper.wp
 rcases run_next_at (P := P) w o.type r b since c0 seen _ clock hr hb hold' hsc with ⟨h0, hrun⟩ | ⟨e, he, w1, hal, hrun⟩
 ·simp [execOp, hop, hit, hrun, Result.andThen]
  refine hK' _ _ (hDone fun x hx => ?_)
  exact all_seen _ seen h0 (entI x) (by simpa using ⟨x.1, x.2.1, x.2.2, hx, rfl⟩)
 ·obtain ⟨hem, hes⟩ := mem_left he
  obtain ⟨x, hx, rfl⟩ : ∃ x ∈ l, entI x = e := by
   have : e ∈ l.map entI := by simpa using hem
   obtain ⟨x, hx, h⟩ := List.mem_map.1 this
   exact ⟨x, hx, h⟩
  simp [execOp, hop, hit, hrun, Result.andThen]
  have hr1 : w1.heap[r]? = some (.mapIter (some b) since seen c0) := by rcases hal with rfl | rfl <;> exact hr
  have hb1 : w1.heap[b]? = some (.map (l.map entI).toArray clock) := by rcases hal with rfl | rfl <;> exact hb
  have hset := Go.MapKept.heap_set (o' := .mapIter (some b) since (seen.push (entI x).born) clock) hr1
  have hb' := (hset.2 b (fun e1 => hne e1.symm)).trans hb1
  refine hK' _ _ (hMore x _ hx hes ?_ ?_ hset.1 hb' ?_ ?_)
  ·rcases hal with rfl | rfl <;> exact ⟨rfl, rfl, rfl, by simp [ChangeMaps.setBlock], fun i _ hi => hset.2 i (fun e1 => hi (by rw [e1]))⟩
  ·rcases hal with rfl | rfl <;> simp [ChangeMaps.setBlock]
  ·have q1 : (ChangeMaps.setBlock w1 r (.mapIter (some b) since (seen.push (entI x).born) clock)).heap[r]? = _ := hset.1
   have q2 : (ChangeMaps.setBlock w1 r (.mapIter (some b) since (seen.push (entI x).born) clock)).heap[b]? = _ := hb'
   simp only [World.rangeLeft, q1, q2, hb, hr]
   exact left_shrinks _ seen _ he
  ·exact run_entry_at _ r b since seen _ clock _ hset.1 hb' hem (by simpa [Function.comp_def, entI] using hnd)
end
theorem vsE_born (vs : Vs) : (vsE vs).map (·.2.2) = vs.map fun x => x.2.2 := by simp [vsE, Function.comp_def]
end Go.Proofs.YtnmolpkkemljoaaGreatDoor
end
section
namespace Go.Proofs.YtnmolpkkemljoaaGreatDoor
open Go Go.RowKit Go.Am Kd
abbrev Cs := List (Nat × Int × Nat)
def esV (es : Cs) : List (Nat × Value × Nat) := es.map fun x => (x.1, .int .i64 x.2.1, x.2.2)
def cget : Cs → Nat → Int
 | [], _ => 0
 | x :: es, b => if b = x.1 then x.2.1 else cget es b
def cset : Cs → Nat → Int → Nat → Cs
 | [], a, v, c => [(a, v, c)]
 | x :: es, a, v, c => if a = x.1 then (x.1, v, x.2.2) :: es else x :: cset es a v c
theorem cget_look : ∀ (es : Cs) (a i : Nat), (match lookP (esV es) a i with | some x => x.2 | none => .int .i64 0) = .int .i64 (cget es a)
 | [], a, i => rfl
 | x :: es, a, i => by
  simp only [esV, List.map_cons, lookP, cget]
  by_cases h : a = x.1
  ·simp [h]
  ·rw [if_neg h, if_neg h]; exact cget_look es a (i + 1)
theorem lookCs {w : World} {vb c a : Nat} {x : Nd} {es : Cs} (hb : w.heap[vb]? = some (.map ((esV es).map entP).toArray c)) (ha : nodeAt w a x) (h : ∀ e ∈ esV es, ∃ y, nodeAt w e.1 y) :
  (Instr.lookup 129 (.map (some vb)) (ptrN a) false).run Tryz.prog w = .ok (.int .i64 (cget es a)) w :=
 (lookup129 hb ha h).trans (congrArg (fun v => Result.ok v w) (cget_look es a 0))
theorem setP_cset : ∀ (es : Cs) (a : Nat) (v : Int) (c : Nat), setP (esV es) a (.int .i64 v) c = esV (cset es a v c)
 | [], _, _, _ => rfl
 | x :: es, a, v, c => by
  simp only [esV, List.map_cons, setP, cset]
  by_cases h : a = x.1
  ·simp [h]
  ·rw [if_neg h, if_neg h]
   have := setP_cset es a v c
   simp only [esV] at this
   rw [this]; rfl
theorem cget_cset : ∀ (es : Cs) (a : Nat) (v : Int) (c b : Nat), cget (cset es a v c) b = if b = a then v else cget es b
 | [], a, v, c, b => rfl
 | x :: es, a, v, c, b => by
  simp only [cset]
  by_cases h : a = x.1
  ·rw [if_pos h]
   simp only [cget]
   by_cases hb : b = x.1
   ·simp [hb, h]
   ·rw [if_neg hb, if_neg (fun e => hb (e.trans h)), if_neg hb]
  ·rw [if_neg h]
   simp only [cget]
   by_cases hb : b = x.1
   ·rw [if_pos hb, if_neg (fun e => h (e.symm.trans hb)), if_pos hb]
   ·rw [if_neg hb, if_neg hb]; exact cget_cset es a v c b
theorem cset_mem : ∀ {es : Cs} {a : Nat} {v : Int} {c : Nat} {P : Nat → Prop}, (∀ e ∈ es, P e.1) → P a → ∀ e ∈ cset es a v c, P e.1
 | [], a, v, c, P, h, ha, e, he => by
  obtain rfl := List.mem_singleton.1 he
  exact ha
 | x :: es, a, v, c, P, h, ha, e, he => by
  simp only [cset] at he
  split at he
  ·rcases List.mem_cons.1 he with rfl | he
   ·exact h x (List.mem_cons_self ..)
   ·exact h e (List.mem_cons_of_mem _ he)
  ·rcases List.mem_cons.1 he with rfl | he
   ·exact h _ (List.mem_cons_self ..)
   ·exact cset_mem (fun e he => h e (List.mem_cons_of_mem _ he)) ha e he
structure ACt (G : Grf) (sv wv sb : Nat) (es : Cs) (w : World) : Prop where
 grf : GrfAt G w
 at1 : w.heap[sv]? = some (.cells #[.map (some sb)] 129 (0, 0))
 at2 : w.heap[wv]? = some (.cells #[.func (.func 94) #[] #[ptrN sv, ptrN wv]] 128 (0, 0))
 at3 : ∃ c, w.heap[sb]? = some (.map ((esV es).map entP).toArray c)
 gs : G sb = none
 rs : ∀ b x, G b = some x → x.row ≠ some sb
 key : ∀ e ∈ es, ∃ x, G e.1 = some x
 ne : sb ≠ sv ∧ sb ≠ wv
structure Rank (G : Grf) (ρ : Nat → Nat) (es : Cs) (R : Nat → Nat) (K : Nat) : Prop where
 over : ∀ b x, G b = some x → cget es b = 2 → ∀ c ∈ x.kids, cget es (ρ c) = 2 ∧ R (ρ c) < R b
 low : ∀ b, cget es b = 2 → R b < K
 col : ∀ b, cget es b = 0 ∨ cget es b = 1 ∨ cget es b = 2
def wht (G : Grf) (es : Cs) : Nat → Nat
 | 0 => 0
 | n + 1 => wht G es n + (match G n with | some _ => (if cget es n = 0 then 1 else 0) | none => 0)
theorem wht_le {G : Grf} {es es' : Cs} (h : ∀ b, cget es' b = 0 → cget es b = 0) : ∀ N, wht G es' N ≤ wht G es N
 | 0 => Nat.le_refl _
 | n + 1 => by
  have ih := wht_le h (G := G) n
  simp only [wht]
  cases G n with
  | none => simpa using ih
  | some x =>
   simp only
   by_cases h0 : cget es' n = 0
   ·rw [if_pos h0, if_pos (h n h0)]; omega
   ·rw [if_neg h0]; omega
theorem wht_lt {G : Grf} {es es' : Cs} (h : ∀ b, cget es' b = 0 → cget es b = 0) {a : Nat} {x : Nd} (ha : G a = some x) (h0 : cget es a = 0) (h1 : cget es' a ≠ 0) : ∀ N, a < N → wht G es' N < wht G es N
 | 0, hN => by omega
 | n + 1, hN => by
  simp only [wht]
  by_cases hn : a = n
  ·subst hn
   have := wht_le h (G := G) a
   simp only [ha, if_pos h0, if_neg h1]
   omega
  ·have ih := wht_lt h ha h0 h1 n (by omega)
   cases G n with
   | none => simpa using ih
   | some y =>
    simp only
    by_cases h2 : cget es' n = 0
    ·rw [if_pos h2, if_pos (h n h2)]; omega
    ·rw [if_neg h2]; omega
def AcySays (G : Grf) (ρ : Nat → Nat) (sv wv sb : Nat) (es : Cs) (R : Nat → Nat) (K n : Nat) (w : World) (e : Ending) (w' : World) : Prop :=
 (w'.os = w.os ∧ w'.tape = w.tape ∧ w'.output = w.output ∧ w.heap.size ≤ w'.heap.size ∧ ∀ k, k < w.heap.size → k ≠ sb → w'.heap[k]? = w.heap[k]?) ∧
 ((e = .returned (.tuple #[]) ∧ ∃ es' R' K', ACt G sv wv sb es' w' ∧ Rank G ρ es' R' K' ∧ cget es' (ρ n) = 2 ∧ (∀ b, cget es b = 2 → cget es' b = 2 ∧ R' b = R b) ∧ (∀ b, cget es b = 1 ↔ cget es' b = 1) ∧ ∀ b, cget es' b = 0 → cget es b = 0) ∨
  (e = .panicked (stopP 15) ∧ ∀ v : Nat → Ty, Cons v G → (∀ g, cget es g = 1 → SizeOf.sizeOf (v n) < SizeOf.sizeOf (v g)) → False))
end Go.Proofs.YtnmolpkkemljoaaGreatDoor
end
section
namespace Go.Proofs.YtnmolpkkemljoaaGreatDoor
open Go Go.RowKit Go.Am Kd
theorem join_f {N : Nat} {G : Grf} {ρ d : Nat → Nat} {w : World} {a b : Nat} {x y : Nd} (hG : GrfAt G w) (hr : rowsOk G) (ho : Okg G ρ d) (ha : G a = some x) (hb : G b = some y) (hx : x.k ≠ 6) (hk : x.k ≠ y.k) (hy : y.k ≠ 6) :
  Calls Tryz.prog 186 #[.agg #[ptrN a], ptrN b] w (SameSays G N a b w) := by
 have ca := (hG a x ha).cells.1
 have cb := (hG b y hb).cells.1
 have la := hG.lt ha
 have lb := hG.lt hb
 have hd : decide (x.k = y.k) = false := decide_eq_false hk
 unfold ptrN at *
 go_enter Tryz.func186, Tryz.ntmps186
 go_wp2_with fail
 obtain ⟨w1, hw1⟩ : ∃ w1, w1 = w.alloc (Obj.cells #[Value.pointer (some { block := a, off := 0 })] 125) := ⟨_, rfl⟩
 have q0 : w1.cell? ⟨w.heap.size, 0, none⟩ = some (Value.pointer (some { block := a, off := 0 })) := by rw [hw1]; go_simp
 have q1 : w1.cell? ⟨a, 0, none⟩ = some (Value.int IntKind.i64 x.k) := by rw [hw1]; go_simp
 have q2 : w1.cell? ⟨b, 0, none⟩ = some (Value.int IntKind.i64 y.k) := by rw [hw1]; go_simp
 have qt : Touch G w w1 := by rw [hw1]; exact (Touch.refl G w).alloc _
 rw [← hw1]
 generalize w.heap.size = s at *
 clear hw1
 refine wp_region_still_tail 13 (by kernel_rfl) (by kernel_rfl) ?_
 simp only [List.take_succ_cons, List.take_zero, List.drop_succ_cons, List.drop_zero]
 change wpStill _ _ w1.drew (fun a' => wpList _ _ _ _ a' w1.drew) _ _
 repeat still_step
 refine wpStill_nil ?_
 have he : (x.k == y.k) = false := by simpa using hk
 rw [he]
 generalize hw2 : w1.drew = w2
 go_wp2_with (go_at_call 66; refine (must_f _ _).mono ?_; rintro e w' ⟨rfl, rfl⟩)
 subst hw2
 refine ⟨rfl, qt.drewN 1, .inr ⟨rfl, fun v hv hab => ?_⟩⟩
 rw [(hv a x ha).1 hx, (hv b y hb).1 hy] at hab
 exact hk (Ty.mk.inj hab).1
theorem nodeAt.cell3 {w : World} {b : Nat} {x : Nd} (h : nodeAt w b x) : ∃ p, w.cell? ⟨b, 3, none⟩ = some p ∧ rowAt w x.kids x.row p := by
 obtain ⟨l, p, h, h2⟩ := h
 exact ⟨p, by simp [World.cell?, h], h2⟩
theorem rowAt.slice {w : World} {kids : List Nat} {r : Option Nat} {p : Value} (h : rowAt w kids r p) : ∃ sp cap, p = .slice sp kids.length cap ∧ kids.length ≤ cap ∧ ∀ j, j < kids.length → ∃ g, r = some g ∧ sp = some ⟨g, 0, none⟩ := by
 cases r with
 | none =>
  obtain ⟨h1, h2⟩ := h
  subst h1
  exact ⟨none, 0, h2, Nat.le_refl _, fun j hj => by simp at hj⟩
 | some g =>
  obtain ⟨cap, cur, h1, h2, _⟩ := h
  exact ⟨_, cap, h1, h2, fun j _ => ⟨g, rfl, rfl⟩⟩
theorem nodeAt.kid {w : World} {b g : Nat} {x : Nd} (h : nodeAt w b x) (hr : x.row = some g) {j c : Nat} (hj : x.kids[j]? = some c) : w.cell? ⟨g, j, none⟩ = some (ptrN c) := by
 obtain ⟨l, p, h, h2⟩ := h
 rw [hr] at h2
 obtain ⟨cap, cur, h1, h2, h3, h4, h5⟩ := h2
 simp [World.cell?, h4, h5 j c hj]
theorem join_t {M N : Nat} (ih : SameOk M N) {G : Grf} {ρ d : Nat → Nat} {w : World} {a b : Nat} {x y : Nd} (hM : opn G N ≤ M + 1) (hN : ∀ c z, G c = some z → c < N) (hG : GrfAt G w) (hr : rowsOk G) (ho : Okg G ρ d) (ha : G a = some x) (hb : G b = some y)
  (hab : a ≠ b) (hxt : x.ld = none) (hyt : y.ld = none) (hx : x.k ≠ 6) (hk : x.k = y.k) :
  Calls Tryz.prog 186 #[.agg #[ptrN a], ptrN b] w (SameSays G N a b w) := by
 have ca := (hG a x ha).cells.1
 have cb := (hG b y hb).cells.1
 have la := hG.lt ha
 have lb := hG.lt hb
 unfold ptrN at *
 go_enter Tryz.func186, Tryz.ntmps186
 go_wp2_with fail
 obtain ⟨w1, hw1⟩ : ∃ w1, w1 = w.alloc (Obj.cells #[Value.pointer (some { block := a, off := 0 })] 125) := ⟨_, rfl⟩
 have q0 : w1.cell? ⟨w.heap.size, 0, none⟩ = some (Value.pointer (some { block := a, off := 0 })) := by rw [hw1]; go_simp
 have q1 : w1.cell? ⟨a, 0, none⟩ = some (Value.int IntKind.i64 x.k) := by rw [hw1]; go_simp
 have q2 : w1.cell? ⟨b, 0, none⟩ = some (Value.int IntKind.i64 y.k) := by rw [hw1]; go_simp
 have qt : Touch G w w1 := by rw [hw1]; exact (Touch.refl G w).alloc _
 have qg : GrfAt G w1 := by rw [hw1]; exact hG.alloc _
 have ql : w.heap.size < w1.heap.size := by rw [hw1]; simp
 rw [← hw1]
 generalize w.heap.size = s at *
 clear hw1
 refine wp_region_still_tail 13 (by kernel_rfl) (by kernel_rfl) ?_
 simp only [List.take_succ_cons, List.take_zero, List.drop_succ_cons, List.drop_zero]
 change wpStill _ _ w1.drew (fun a' => wpList _ _ _ _ a' w1.drew) _ _
 repeat still_step
 refine wpStill_nil ?_
 have q0' : w1.drew.cell? ⟨s, 0, none⟩ = some (Value.pointer (some { block := a, off := 0 })) := q0
 have qt' : Touch G w w1.drew := qt.drewN 1
 have qg' : GrfAt G w1.drew := qg.keep fun _ _ => rfl
 have ql' : s < w1.drew.heap.size := ql
 generalize w1.drew = w2 at *
 clear q0 q1 q2 qt qg ql
 have ho1 := open_run (b := b) (qg' a x ha)
 unfold ptrN at ho1
 have qt3 : Touch G w ((w2.setCell ⟨a, 4, none⟩ (ptrN b)).alloc (.cells #[ptrN a] 123)) := (qt'.setCell (p := ⟨a, 4, none⟩) ha _).alloc _
 have qg3 : GrfAt (joinG G a b) ((w2.setCell ⟨a, 4, none⟩ (ptrN b)).alloc (.cells #[ptrN a] 123)) := (qg'.join hr ha).alloc _
 have ql3 : s < (w2.setCell ⟨a, 4, none⟩ (ptrN b)).heap.size := Nat.lt_of_lt_of_le ql' (Below.setCell (Below.refl 0 w2) (p := ⟨a, 4, none⟩) (Nat.zero_le _) (ptrN b)).size
 unfold ptrN at qt3 qg3 ql3
 obtain ⟨p, hp3, hrow⟩ := (qg3 a { x with ld := some b } (by simp [joinG, ha])).cell3
 obtain ⟨sp, cap, rfl, hcap, hsp⟩ := hrow.slice
 simp only at hp3 hcap hsp
 go_wp2_with (first
  | (go_at_call 66; refine (must_t _ _).mono ?_; rintro e w' ⟨rfl, rfl⟩)
  | (go_at_call 185; refine ho1.mono ?_; rintro e w' ⟨rfl, rfl⟩))
 obtain ⟨ρ1, d1, ho'⟩ := ho.join ha hb hab hxt hyt (fun h => absurd h hx) (fun _ => hk.symm)
 have hlen : ∀ j, j < x.kids.length → j < y.kids.length := fun j hj => by rw [ho.ar b y hb, ← hk, ← ho.ar a x ha]; exact hj
 have hl2 : x.kids.length ≤ 2 := by
  rw [ho.ar a x ha]
  unfold arN
  split
  ·omega
  ·split <;> omega
 have hopn := opn_join (b := b) ha hxt N
 rw [if_pos (hN a x ha)] at hopn
 have hparts : ∀ v : Nat → Ty, Cons v G → v a = v b → ∀ (j c e : Nat), x.kids[j]? = some c → y.kids[j]? = some e → v c = v e := by
  intro v hv hvab j c e hc he
  rw [(hv a x ha).1 hx, (hv b y hb).1 (by rw [← hk]; exact hx)] at hvab
  have h1 := (Ty.mk.inj hvab).2.2.2
  have h2 := congrArg (fun l : List Ty => l[j]?) h1
  simpa [hc, he] using h2
 clear hp3 ho1 qg' qt' hrow
 go_loopw [31] (fun v wr => ∃ (i : Nat) (Gi : Grf) (ρi di : Nat → Nat), i ≤ x.kids.length ∧ v = .int .i64 i ∧ GrfAt Gi wr ∧ Okg Gi ρi di ∧ Ext (joinG G a b) Gi ∧ opn Gi N ≤ opn (joinG G a b) N ∧ Touch G w wr ∧
   (∀ u : Nat → Ty, Cons u Gi ↔ (Cons u (joinG G a b) ∧ ∀ (j c e : Nat), j < i → x.kids[j]? = some c → y.kids[j]? = some e → u c = u e)) ∧
   (∀ (j c e : Nat), j < i → x.kids[j]? = some c → y.kids[j]? = some e → ρi c = ρi e) ∧
   (∀ (c : Nat) (x0 z : Nd) (t : Nat), c ≠ a → G c = some x0 → x0.ld = none → x0.k ≠ 6 → Gi c = some z → z.ld = some t → ∃ y, G t = some y ∧ y.k = x0.k ∧ ∀ (j p q : Nat), x0.kids[j]? = some p → y.kids[j]? = some q → ρi p = ρi q))
  (fun v _ => x.kids.length - (intOf v).toNat)
 case atStart => exact ⟨0, joinG G a b, ρ1, d1, Nat.zero_le _, rfl, qg3, ho', Ext.refl _, Nat.le_refl _, qt3, fun u => ⟨fun h => ⟨h, fun j _ _ hj => absurd hj (Nat.not_lt_zero _)⟩, fun h => h.1⟩, fun j _ _ hj => absurd hj (Nat.not_lt_zero _), fun c x0 z t hca hc hl hk hz ht => by
  simp only [joinG, hca, if_false] at hz
  rw [hc] at hz
  cases hz
  rw [hl] at ht
  cases ht⟩
 case round =>
  obtain ⟨i, Gi, ρi, di, hi, rfl, hGi, hoi, hext, hop, htt, hco, hk1, hk2⟩ := hrel
  have hex : Ext G Gi := (joinG_ext ha hxt).trans hext
  by_cases hlt : i < x.kids.length
  ·obtain ⟨g, hg, rfl⟩ := hsp i hlt
   obtain ⟨tx, hxi, _⟩ := hex.fwd a x ha
   obtain ⟨ty, hyi, _⟩ := hex.fwd b y hb
   have nx := hGi a _ hxi
   have ny := hGi b _ hyi
   obtain ⟨c, hc⟩ : ∃ c, x.kids[i]? = some c := ⟨_, List.getElem?_eq_getElem hlt⟩
   obtain ⟨e, he⟩ : ∃ e, y.kids[i]? = some e := ⟨_, List.getElem?_eq_getElem (hlen i hlt)⟩
   have kx := nx.kid (j := i) hg hc
   obtain ⟨p', hp', hrow'⟩ := ny.cell3
   obtain ⟨sp', cap', rfl, hcap', hsp'⟩ := hrow'.slice
   simp only at hp' hcap' hsp'
   obtain ⟨g', hg', rfl⟩ := hsp' i (hlen i hlt)
   have ky := ny.kid (j := i) hg' he
   obtain ⟨xc, hxc⟩ := hoi.kids a _ c hxi (List.mem_of_getElem? hc)
   obtain ⟨ye, hye⟩ := hoi.kids b _ e hyi (List.mem_of_getElem? he)
   have hcall := ih Gi ρi di wr c e xc ye (by omega) (fun k z hz => by
    cases hk2 : G k with
    | none => rw [hex.bwd k hk2] at hz; cases hz
    | some z0 => exact hN k z0 hk2) hGi (hex.rows hr) hoi hxc hye
   have hly : i < y.kids.length := hlen i hlt
   unfold ptrN at kx ky hcall
   clear nx ny hrow' hxi hyi hGi
   go_wp2_with (go_at_call 55; refine hcall.mono ?_; rintro e' w' ⟨ht, ⟨rfl, Gj, ρj, dj, hGj, hoj, hexj, hopj, hcoj, hcg⟩ | ⟨rfl, hnone⟩⟩)
   ·go_roundw
    case rel =>
     refine ⟨i + 1, Gj, ρj, dj, by omega, by simp, hGj, hoj, hext.trans hexj, by omega, htt.trans (ht.ext hex), fun u => ?_, (kids_on hex hoi hoj hexj hcg.one hk1 hk2 hcg.kids ha hb ho.kids hc he).1, (kids_on hex hoi hoj hexj hcg.one hk1 hk2 hcg.kids ha hb ho.kids hc he).2⟩
     rw [hcoj u, hco u]
     constructor
     ·rintro ⟨⟨h1, h2⟩, h3⟩
      refine ⟨h1, fun j c' e' hj hc' he' => ?_⟩
      by_cases hji : j < i
      ·exact h2 j c' e' hji hc' he'
      ·obtain rfl : j = i := by omega
       rw [hc] at hc'
       rw [he] at he'
       cases hc'
       cases he'
       exact h3
     ·rintro ⟨h1, h2⟩
      exact ⟨⟨h1, fun j c' e' hj hc' he' => h2 j c' e' (by omega) hc' he'⟩, h2 i c e (by omega) hc he⟩
    case measure => simp [intOf]; omega
   ·refine ⟨rfl, htt.trans (ht.ext hex), .inr ⟨rfl, fun v hv hvab => ?_⟩⟩
    exact hnone v ((hco v).2 ⟨(cons_join ha hxt).2 ⟨hv, hvab⟩, fun j c' e' _ h1 h2 => hparts v hv hvab j c' e' h1 h2⟩) (hparts v hv hvab i c e hc he)
  ·obtain rfl : i = x.kids.length := by omega
   go_wp2
   go_end0
   refine ⟨htt, .inl ⟨rfl, Gi, ρi, di, hGi, hoi, hex, by omega, fun v => ?_, kids_end ha hxt hb hk.symm hext hoi hk1 hk2⟩⟩
   rw [hco v, cons_join ha hxt]
   constructor
   ·exact fun h => h.1
   ·exact fun h => ⟨h, fun j c e _ h1 h2 => hparts v h.1 h.2 j c e h1 h2⟩
end Go.Proofs.YtnmolpkkemljoaaGreatDoor
end
section
namespace Go.Proofs.YtnmolpkkemljoaaGreatDoor
open Go Go.RowKit Go.Am Kd
theorem eql_run {w : World} {a b : Nat} {x y : Nd} (ha : nodeAt w a x) (hb : nodeAt w b y) : Sem.run Tryz.prog (binOp BinOp.eql 68 (.pointer (some ⟨a, 0, none⟩)) (.pointer (some ⟨b, 0, none⟩))) w = .ok (.bool (decide (a = b))) w := by
 simp only [binOp]
 simp [Op.equal, Op.maxDepth, eqi ha hb]
 by_cases h : a = b <;> simp [h]
theorem SameSays.swap {G : Grf} {N a b : Nat} {w w' : World} {e : Ending} (h : SameSays G N a b w e w') : SameSays G N b a w e w' := by
 obtain ⟨h1, ⟨h2, G', ρ', d', h3, h4, h5, h6, h7, h8⟩ | ⟨h2, h3⟩⟩ := h
 ·exact ⟨h1, .inl ⟨h2, G', ρ', d', h3, h4, h5, h6, fun v => (h7 v).trans ⟨fun h => ⟨h.1, h.2.symm⟩, fun h => ⟨h.1, h.2.symm⟩⟩, ⟨h8.one.symm, h8.kids⟩⟩⟩
 ·exact ⟨h1, .inr ⟨h2, fun v hv e => h3 v hv e.symm⟩⟩
theorem SameSays.roots {G : Grf} {ρ d : Nat → Nat} (ho : Okg G ρ d) {N a b : Nat} {x y : Nd} (ha : G a = some x) (hb : G b = some y) {w w' : World} {e : Ending} (h : SameSays G N (ρ a) (ρ b) w e w') : SameSays G N a b w e w' := by
 have key : ∀ v, Cons v G → (v (ρ a) = v (ρ b) ↔ v a = v b) := fun v hv => by rw [hv.root ho ha, hv.root ho hb]
 obtain ⟨h1, ⟨h2, G', ρ', d', h3, h4, h5, h6, h7, h8⟩ | ⟨h2, h3⟩⟩ := h
 ·exact ⟨h1, .inl ⟨h2, G', ρ', d', h3, h4, h5, h6, fun v => (h7 v).trans ⟨fun h => ⟨h.1, (key v h.1).1 h.2⟩, fun h => ⟨h.1, (key v h.1).2 h.2⟩⟩, ⟨by rw [h5.root ho h4 ha, h5.root ho h4 hb]; exact h8.one, h8.kids⟩⟩⟩
 ·exact ⟨h1, .inr ⟨h2, fun v hv e => h3 v hv ((key v hv).2 e)⟩⟩
theorem meth_open (a : Nat) (w : World) : (method 320 123 (.agg #[.pointer (some ⟨a, 0, none⟩)]) "sheafworks/kind.join").run Tryz.prog w = .ok (185, .agg #[.pointer (some ⟨a, 0, none⟩)]) w := by kernel_rfl
theorem meth_built (a : Nat) (w : World) : (method 320 125 (.agg #[.pointer (some ⟨a, 0, none⟩)]) "sheafworks/kind.join").run Tryz.prog w = .ok (186, .agg #[.pointer (some ⟨a, 0, none⟩)]) w := by kernel_rfl
theorem open_says {N : Nat} {G : Grf} {ρ d : Nat → Nat} {w w1 w2 : World} {a b : Nat} {x y : Nd} (hN : ∀ c z, G c = some z → c < N) (hG : GrfAt G w1) (ht : Touch G w w1) (hr : rowsOk G) (ho : Okg G ρ d) (ha : G a = some x) (hb : G b = some y) (hab : a ≠ b) (hxt : x.ld = none) (hyt : y.ld = none) (hx : x.k = 6) (hm : y.k = 6 → y.n ≤ x.n)
  (hw : w2 = (w1.setCell ⟨a, 4, none⟩ (ptrN b)).alloc (.cells #[ptrN a] 123)) : SameSays G N a b w (.returned (.tuple #[])) w2 := by
 subst hw
 obtain ⟨ρ1, d1, ho'⟩ := ho.join ha hb hab hxt hyt (fun _ => hm) (fun h => absurd hx h)
 have hopn := opn_join (b := b) ha hxt N
 rw [if_pos (hN a x ha)] at hopn
 exact ⟨(ht.setCell (p := ⟨a, 4, none⟩) ha _).alloc _, .inl ⟨rfl, joinG G a b, ρ1, d1, (hG.join hr ha).alloc _, ho', joinG_ext ha hxt, by omega, fun v => cons_join ha hxt, ⟨(ho'.roots.step a { x with ld := some b } b (by simp [joinG, ha]) rfl).1, fun c x' z t hc hl hk hz ht => by
  by_cases hca : c = a
  ·subst hca
   rw [ha] at hc
   cases hc
   exact absurd hx hk
  ·simp only [joinG, hca, if_false] at hz
   rw [hc] at hz
   cases hz
   rw [hl] at ht
   cases ht⟩⟩⟩
theorem same_a1 {M N : Nat} (ih : SameOk M N) {G : Grf} {ρ d : Nat → Nat} {w : World} {a b α β : Nat} {xr yr : Nd} (hM : opn G N ≤ M + 1) (hN : ∀ c z, G c = some z → c < N) (hG : GrfAt G w) (hr : rowsOk G) (ho : Okg G ρ d) (hxr : G α = some xr) (hyr : G β = some yr) (hxt : xr.ld = none) (hyt : yr.ld = none)
  (h57a : Calls Tryz.prog 57 #[ptrN a] w fun e w' => e = .returned (ptrN α) ∧ w' = w) (h57b : Calls Tryz.prog 57 #[ptrN b] w fun e w' => e = .returned (ptrN β) ∧ w' = w) (hab : ¬ α = β) (hx : xr.k = 6) (hy : yr.k = 6) (hn : xr.n < yr.n) : Calls Tryz.prog 55 #[ptrN a, ptrN b] w (SameSays G N α β w) := by
 obtain ⟨ca0, ca1⟩ := (hG α xr hxr).cells
 obtain ⟨cb0, cb1⟩ := (hG β yr hyr).cells
 have hq : Sem.run Tryz.prog (binOp BinOp.eql 68 (.pointer (some ⟨α, 0, none⟩)) (.pointer (some ⟨β, 0, none⟩))) w = .ok (.bool false) w := by rw [eql_run (hG α xr hxr) (hG β yr hyr)]; simp [hab]
 unfold ptrN at h57a h57b ⊢
 go_enter Tryz.func55, Tryz.ntmps55
 go_wp2_with (first
  | (go_at_call 57; with_reducible refine h57a.mono ?_; rintro e w' ⟨rfl, hw'⟩; subst w')
  | (go_at_call 57; with_reducible refine h57b.mono ?_; rintro e w' ⟨rfl, hw'⟩; subst w'))
 rw [hx] at ca0
 rw [hy] at cb0
 clear h57a h57b hq
 go_quiet (fail)
 have qt : Touch G w (w.drewN nq) := (Touch.refl G w).drewN _
 have qg : GrfAt G (w.drewN nq) := hG.keep fun _ _ => rfl
 have hj := open_run (b := α) (qg β yr hyr)
 have c2 : (w.drewN nq).cell? ⟨β, 0, none⟩ = some (.int .i64 6) := cb0
 unfold ptrN at hj
 have hm : ∀ w : World, _ := meth_open β
 generalize w.drewN nq = w1 at *
 go_wp2_with (go_at_call 185; with_reducible refine hj.mono ?_; rintro e w' ⟨rfl, rfl⟩)
 go_end0
 exact (open_says hN qg qt hr ho hyr hxr (Ne.symm hab) hyt hxt hy (fun _ => by omega) rfl).swap
theorem same_a2 {M N : Nat} (ih : SameOk M N) {G : Grf} {ρ d : Nat → Nat} {w : World} {a b α β : Nat} {xr yr : Nd} (hM : opn G N ≤ M + 1) (hN : ∀ c z, G c = some z → c < N) (hG : GrfAt G w) (hr : rowsOk G) (ho : Okg G ρ d) (hxr : G α = some xr) (hyr : G β = some yr) (hxt : xr.ld = none) (hyt : yr.ld = none)
  (h57a : Calls Tryz.prog 57 #[ptrN a] w fun e w' => e = .returned (ptrN α) ∧ w' = w) (h57b : Calls Tryz.prog 57 #[ptrN b] w fun e w' => e = .returned (ptrN β) ∧ w' = w) (hab : ¬ α = β) (hx : xr.k = 6) (hy : yr.k = 6) (hn : ¬ xr.n < yr.n) : Calls Tryz.prog 55 #[ptrN a, ptrN b] w (SameSays G N α β w) := by
 obtain ⟨ca0, ca1⟩ := (hG α xr hxr).cells
 obtain ⟨cb0, cb1⟩ := (hG β yr hyr).cells
 have hq : Sem.run Tryz.prog (binOp BinOp.eql 68 (.pointer (some ⟨α, 0, none⟩)) (.pointer (some ⟨β, 0, none⟩))) w = .ok (.bool false) w := by rw [eql_run (hG α xr hxr) (hG β yr hyr)]; simp [hab]
 unfold ptrN at h57a h57b ⊢
 go_enter Tryz.func55, Tryz.ntmps55
 go_wp2_with (first
  | (go_at_call 57; with_reducible refine h57a.mono ?_; rintro e w' ⟨rfl, hw'⟩; subst w')
  | (go_at_call 57; with_reducible refine h57b.mono ?_; rintro e w' ⟨rfl, hw'⟩; subst w'))
 rw [hx] at ca0
 rw [hy] at cb0
 have hn2 : decide (xr.n < yr.n) = false := decide_eq_false (by omega)
 clear h57a h57b hq
 go_quiet (fail)
 have qt : Touch G w (w.drewN nq) := (Touch.refl G w).drewN _
 have qg : GrfAt G (w.drewN nq) := hG.keep fun _ _ => rfl
 have hj := open_run (b := β) (qg α xr hxr)
 have c2 : (w.drewN nq).cell? ⟨α, 0, none⟩ = some (.int .i64 6) := ca0
 unfold ptrN at hj
 have hm : ∀ w : World, _ := meth_open α
 generalize w.drewN nq = w1 at *
 go_wp2_with (go_at_call 185; with_reducible refine hj.mono ?_; rintro e w' ⟨rfl, rfl⟩)
 go_end0
 exact open_says hN qg qt hr ho hxr hyr hab hxt hyt hx (fun _ => by omega) rfl
theorem same_a3 {M N : Nat} (ih : SameOk M N) {G : Grf} {ρ d : Nat → Nat} {w : World} {a b α β : Nat} {xr yr : Nd} (hM : opn G N ≤ M + 1) (hN : ∀ c z, G c = some z → c < N) (hG : GrfAt G w) (hr : rowsOk G) (ho : Okg G ρ d) (hxr : G α = some xr) (hyr : G β = some yr) (hxt : xr.ld = none) (hyt : yr.ld = none)
  (h57a : Calls Tryz.prog 57 #[ptrN a] w fun e w' => e = .returned (ptrN α) ∧ w' = w) (h57b : Calls Tryz.prog 57 #[ptrN b] w fun e w' => e = .returned (ptrN β) ∧ w' = w) (hab : ¬ α = β) (hx : xr.k = 6) (hy : ¬ yr.k = 6) : Calls Tryz.prog 55 #[ptrN a, ptrN b] w (SameSays G N α β w) := by
 obtain ⟨ca0, ca1⟩ := (hG α xr hxr).cells
 obtain ⟨cb0, cb1⟩ := (hG β yr hyr).cells
 have hq : Sem.run Tryz.prog (binOp BinOp.eql 68 (.pointer (some ⟨α, 0, none⟩)) (.pointer (some ⟨β, 0, none⟩))) w = .ok (.bool false) w := by rw [eql_run (hG α xr hxr) (hG β yr hyr)]; simp [hab]
 unfold ptrN at h57a h57b ⊢
 go_enter Tryz.func55, Tryz.ntmps55
 go_wp2_with (first
  | (go_at_call 57; with_reducible refine h57a.mono ?_; rintro e w' ⟨rfl, hw'⟩; subst w')
  | (go_at_call 57; with_reducible refine h57b.mono ?_; rintro e w' ⟨rfl, hw'⟩; subst w'))
 rw [hx] at ca0
 have hy2 : decide (yr.k = 6) = false := decide_eq_false hy
 have hy3 : (yr.k == 6) = false := by simpa using hy
 clear h57a h57b hq
 go_quiet (fail)
 have qt : Touch G w (w.drewN nq) := (Touch.refl G w).drewN _
 have qg : GrfAt G (w.drewN nq) := hG.keep fun _ _ => rfl
 have hj := open_run (b := β) (qg α xr hxr)
 have c2 : (w.drewN nq).cell? ⟨α, 0, none⟩ = some (.int .i64 6) := ca0
 unfold ptrN at hj
 have hm : ∀ w : World, _ := meth_open α
 generalize w.drewN nq = w1 at *
 go_wp2_with (go_at_call 185; with_reducible refine hj.mono ?_; rintro e w' ⟨rfl, rfl⟩)
 go_end0
 exact open_says hN qg qt hr ho hxr hyr hab hxt hyt hx (fun h => absurd h hy) rfl
theorem same_a4 {M N : Nat} (ih : SameOk M N) {G : Grf} {ρ d : Nat → Nat} {w : World} {a b α β : Nat} {xr yr : Nd} (hM : opn G N ≤ M + 1) (hN : ∀ c z, G c = some z → c < N) (hG : GrfAt G w) (hr : rowsOk G) (ho : Okg G ρ d) (hxr : G α = some xr) (hyr : G β = some yr) (hxt : xr.ld = none) (hyt : yr.ld = none)
  (h57a : Calls Tryz.prog 57 #[ptrN a] w fun e w' => e = .returned (ptrN α) ∧ w' = w) (h57b : Calls Tryz.prog 57 #[ptrN b] w fun e w' => e = .returned (ptrN β) ∧ w' = w) (hab : ¬ α = β) (hx : ¬ xr.k = 6) (hy : yr.k = 6) : Calls Tryz.prog 55 #[ptrN a, ptrN b] w (SameSays G N α β w) := by
 obtain ⟨ca0, ca1⟩ := (hG α xr hxr).cells
 obtain ⟨cb0, cb1⟩ := (hG β yr hyr).cells
 have hq : Sem.run Tryz.prog (binOp BinOp.eql 68 (.pointer (some ⟨α, 0, none⟩)) (.pointer (some ⟨β, 0, none⟩))) w = .ok (.bool false) w := by rw [eql_run (hG α xr hxr) (hG β yr hyr)]; simp [hab]
 unfold ptrN at h57a h57b ⊢
 go_enter Tryz.func55, Tryz.ntmps55
 go_wp2_with (first
  | (go_at_call 57; with_reducible refine h57a.mono ?_; rintro e w' ⟨rfl, hw'⟩; subst w')
  | (go_at_call 57; with_reducible refine h57b.mono ?_; rintro e w' ⟨rfl, hw'⟩; subst w'))
 rw [hy] at cb0
 have hx2 : decide (xr.k = 6) = false := decide_eq_false hx
 have hx3 : (xr.k == 6) = false := by simpa using hx
 have hx4 : (xr.k != 6) = true := by simpa using hx
 clear h57a h57b hq
 go_quiet (fail)
 have qt : Touch G w (w.drewN nq) := (Touch.refl G w).drewN _
 have qg : GrfAt G (w.drewN nq) := hG.keep fun _ _ => rfl
 have hj := open_run (b := α) (qg β yr hyr)
 have c2 : (w.drewN nq).cell? ⟨β, 0, none⟩ = some (.int .i64 6) := cb0
 unfold ptrN at hj
 have hm : ∀ w : World, _ := meth_open β
 generalize w.drewN nq = w1 at *
 go_wp2_with (go_at_call 185; with_reducible refine hj.mono ?_; rintro e w' ⟨rfl, rfl⟩)
 go_end0
 exact (open_says hN qg qt hr ho hyr hxr (Ne.symm hab) hyt hxt hy (fun h => absurd h hx) rfl).swap
theorem same_a5 {M N : Nat} (ih : SameOk M N) {G : Grf} {ρ d : Nat → Nat} {w : World} {a b α β : Nat} {xr yr : Nd} (hM : opn G N ≤ M + 1) (hN : ∀ c z, G c = some z → c < N) (hG : GrfAt G w) (hr : rowsOk G) (ho : Okg G ρ d) (hxr : G α = some xr) (hyr : G β = some yr) (hxt : xr.ld = none) (hyt : yr.ld = none)
  (h57a : Calls Tryz.prog 57 #[ptrN a] w fun e w' => e = .returned (ptrN α) ∧ w' = w) (h57b : Calls Tryz.prog 57 #[ptrN b] w fun e w' => e = .returned (ptrN β) ∧ w' = w) (hab : ¬ α = β) (hx : ¬ xr.k = 6) (hy : ¬ yr.k = 6) : Calls Tryz.prog 55 #[ptrN a, ptrN b] w (SameSays G N α β w) := by
 obtain ⟨ca0, ca1⟩ := (hG α xr hxr).cells
 obtain ⟨cb0, cb1⟩ := (hG β yr hyr).cells
 have hq : Sem.run Tryz.prog (binOp BinOp.eql 68 (.pointer (some ⟨α, 0, none⟩)) (.pointer (some ⟨β, 0, none⟩))) w = .ok (.bool false) w := by rw [eql_run (hG α xr hxr) (hG β yr hyr)]; simp [hab]
 unfold ptrN at h57a h57b ⊢
 go_enter Tryz.func55, Tryz.ntmps55
 go_wp2_with (first
  | (go_at_call 57; with_reducible refine h57a.mono ?_; rintro e w' ⟨rfl, hw'⟩; subst w')
  | (go_at_call 57; with_reducible refine h57b.mono ?_; rintro e w' ⟨rfl, hw'⟩; subst w'))
 have hx2 : decide (xr.k = 6) = false := decide_eq_false hx
 have hx3 : (xr.k == 6) = false := by simpa using hx
 have hx4 : (xr.k != 6) = true := by simpa using hx
 have hy2 : decide (yr.k = 6) = false := decide_eq_false hy
 have hy3 : (yr.k == 6) = false := by simpa using hy
 clear h57a h57b hq
 go_quiet (fail)
 have qt : Touch G w (w.drewN nq) := (Touch.refl G w).drewN _
 have qg : GrfAt G (w.drewN nq) := hG.keep fun _ _ => rfl
 have hj : Calls Tryz.prog 186 #[.agg #[ptrN α], ptrN β] (w.drewN nq) (SameSays G N α β (w.drewN nq)) := by
  by_cases hk : xr.k = yr.k
  ·exact join_t ih hM hN qg hr ho hxr hyr hab hxt hyt hx hk
  ·exact join_f qg hr ho hxr hyr hx hk hy
 have c2 : (w.drewN nq).cell? ⟨α, 0, none⟩ = some (.int .i64 xr.k) := ca0
 unfold ptrN at hj
 have hm : ∀ w : World, _ := meth_built α
 generalize w.drewN nq = w1 at *
 go_wp2_with (go_at_call 186; (with_reducible refine hj.mono ?_); rintro e w' ⟨ht, ⟨rfl, hA⟩ | ⟨rfl, hB⟩⟩)
 ·go_end0
  exact ⟨qt.trans ht, .inl ⟨rfl, hA⟩⟩
 ·exact ⟨rfl, qt.trans ht, .inr ⟨rfl, hB⟩⟩
theorem same_a0 {N : Nat} {G : Grf} {ρ d : Nat → Nat} {w : World} {a b α : Nat} {xr : Nd} (hG : GrfAt G w) (ho : Okg G ρ d) (hxr : G α = some xr)
  (h57a : Calls Tryz.prog 57 #[ptrN a] w fun e w' => e = .returned (ptrN α) ∧ w' = w) (h57b : Calls Tryz.prog 57 #[ptrN b] w fun e w' => e = .returned (ptrN α) ∧ w' = w) : Calls Tryz.prog 55 #[ptrN a, ptrN b] w (SameSays G N α α w) := by
 have hq : Sem.run Tryz.prog (binOp BinOp.eql 68 (.pointer (some ⟨α, 0, none⟩)) (.pointer (some ⟨α, 0, none⟩))) w = .ok (.bool true) w := by rw [eql_run (hG α xr hxr) (hG α xr hxr)]; simp
 unfold ptrN at h57a h57b ⊢
 go_enter Tryz.func55, Tryz.ntmps55
 go_wp2_with (first
  | (go_at_call 57; with_reducible refine h57a.mono ?_; rintro e w' ⟨rfl, hw'⟩; subst w')
  | (go_at_call 57; with_reducible refine h57b.mono ?_; rintro e w' ⟨rfl, hw'⟩; subst w'))
 refine bodyPost_ret (results_none rfl _ _ _) rfl ?_
 exact ⟨Touch.refl _ _, .inl ⟨rfl, G, ρ, d, hG, ho, Ext.refl _, Nat.le_refl _, fun v => ⟨fun h => ⟨h, rfl⟩, fun h => h.1⟩, ⟨rfl, fun c x' z t hc hl hk hz ht => by
  rw [hc] at hz
  cases hz
  rw [hl] at ht
  cases ht⟩⟩⟩
theorem same_step {M N : Nat} (ih : SameOk M N) {G : Grf} {ρ d : Nat → Nat} {w : World} {a b : Nat} {x y : Nd} (hM : opn G N ≤ M + 1) (hN : ∀ c z, G c = some z → c < N) (hG : GrfAt G w) (hr : rowsOk G) (ho : Okg G ρ d) (ha : G a = some x) (hb : G b = some y) :
  Calls Tryz.prog 55 #[ptrN a, ptrN b] w (SameSays G N a b w) := by
 have h57a := root_run hG ho.roots ho.ld a x ha
 have h57b := root_run hG ho.roots ho.ld b y hb
 obtain ⟨xr, hxr, hxt⟩ := ho.rooted ha
 obtain ⟨yr, hyr, hyt⟩ := ho.rooted hb
 refine Calls.mono ?_ fun e w' h => SameSays.roots ho ha hb h
 by_cases hab : ρ a = ρ b
 ·rw [← hab] at h57b hyr ⊢
  exact same_a0 hG ho hxr h57a h57b
 by_cases hx : xr.k = 6
 ·by_cases hy : yr.k = 6
  ·by_cases hn : xr.n < yr.n
   ·exact same_a1 ih hM hN hG hr ho hxr hyr hxt hyt h57a h57b hab hx hy hn
   ·exact same_a2 ih hM hN hG hr ho hxr hyr hxt hyt h57a h57b hab hx hy hn
  ·exact same_a3 ih hM hN hG hr ho hxr hyr hxt hyt h57a h57b hab hx hy
 ·by_cases hy : yr.k = 6
  ·exact same_a4 ih hM hN hG hr ho hxr hyr hxt hyt h57a h57b hab hx hy
  ·exact same_a5 ih hM hN hG hr ho hxr hyr hxt hyt h57a h57b hab hx hy
theorem same_run (N : Nat) : ∀ M, SameOk M N
 | 0 => by
  intro G ρ d w a b x y hM hN hG hr ho ha hb
  exfalso
  obtain ⟨xr, hxr, hxt⟩ := ho.rooted ha
  have := opn_join (b := b) hxr hxt N
  rw [if_pos (hN _ _ hxr)] at this
  omega
 | M + 1 => fun G ρ d w a b x y hM hN hG hr ho ha hb => same_step (same_run N M) hM hN hG hr ho ha hb
end Go.Proofs.YtnmolpkkemljoaaGreatDoor
end
section
namespace Go.Proofs.YtnmolpkkemljoaaGreatDoor
open Go Go.RowKit Go.Am Kd
theorem ACt.turn {G : Grf} {sv wv sb c c' : Nat} {es es' : Cs} {w : World} (h : ACt G sv wv sb es w) (hb : w.heap[sb]? = some (.map ((esV es).map entP).toArray c)) (hk : ∀ e ∈ es', ∃ x, G e.1 = some x) : ACt G sv wv sb es' (ChangeMaps.setBlock w sb (.map ((esV es').map entP).toArray c')) := by
 have h1 : (ChangeMaps.setBlock w sb (.map ((esV es').map entP).toArray c')).heap[sb]? = some (.map ((esV es').map entP).toArray c') := (Go.MapKept.heap_set hb).1
 have h2 : ∀ k, k ≠ sb → (ChangeMaps.setBlock w sb (.map ((esV es').map entP).toArray c')).heap[k]? = w.heap[k]? := (Go.MapKept.heap_set hb).2
 exact
 {grf := fun b x hx => by
   obtain ⟨p, q, g1, g2⟩ := h.grf b x hx
   have hbs : b ≠ sb := fun e => by rw [e, h.gs] at hx; cases hx
   exact ⟨p, q, (h2 b hbs).trans g1, g2.keep fun g hg => h2 g (fun e => h.rs b x hx (by rw [hg, e]))⟩
  at1 := (h2 sv (fun e => h.ne.1 e.symm)).trans h.at1
  at2 := (h2 wv (fun e => h.ne.2 e.symm)).trans h.at2
  at3 := ⟨c', h1⟩
  gs := h.gs, rs := h.rs, key := hk, ne := h.ne }
theorem setBlock_frame {w : World} {sb : Nat} {o o' : Obj} (hb : w.heap[sb]? = some o) : (ChangeMaps.setBlock w sb o').os = w.os ∧ (ChangeMaps.setBlock w sb o').tape = w.tape ∧ (ChangeMaps.setBlock w sb o').output = w.output ∧ w.heap.size ≤ (ChangeMaps.setBlock w sb o').heap.size ∧ ∀ k, k < w.heap.size → k ≠ sb → (ChangeMaps.setBlock w sb o').heap[k]? = w.heap[k]? :=
 ⟨rfl, rfl, rfl, by simp [ChangeMaps.setBlock], fun k _ hk => (Go.MapKept.heap_set hb).2 k hk⟩
theorem size_kid {v : Nat → Ty} {b c : Nat} {x : Nd} {k n : Int} {nl : Bool} (h : v b = .mk k n nl (x.kids.map v)) (hc : c ∈ x.kids) : SizeOf.sizeOf (v c) < SizeOf.sizeOf (v b) := by
 rw [h]
 simp only [Ty.mk.sizeOf_spec]
 have := List.sizeOf_lt_of_mem (List.mem_map.2 ⟨c, hc, rfl⟩ : v c ∈ x.kids.map v)
 omega
theorem acy_gray {G : Grf} {ρ d : Nat → Nat} {sv wv sb n : Nat} {es : Cs} {w : World} {R : Nat → Nat} {K : Nat} {x : Nd} (ho : Okg G ρ d) (hA : ACt G sv wv sb es w) (hn : G n = some x) (hc : cget es (ρ n) = 1) :
  Calls Tryz.prog 94 #[ptrN n, ptrN sv, ptrN wv] w (AcySays G ρ sv wv sb es R K n w) := by
 have h57 := root_run hA.grf ho.roots ho.ld n x hn
 obtain ⟨xr, hxr, hxt⟩ := ho.rooted hn
 obtain ⟨c, hsb⟩ := hA.at3
 have hl := lookCs hsb (hA.grf _ _ hxr) (fun e he => by
  obtain ⟨y, hy, rfl⟩ : ∃ y ∈ es, (y.1, Value.int .i64 y.2.1, y.2.2) = e := List.mem_map.1 he
  obtain ⟨z, hz⟩ := hA.key y hy
  exact ⟨z, hA.grf _ _ hz⟩)
 rw [hc] at hl
 have c1 : w.cell? ⟨sv, 0, none⟩ = some (.map (some sb)) := by simp [World.cell?, hA.at1]
 unfold ptrN at *
 go_enter Tryz.func94, Tryz.ntmps94
 go_wp2_with (first
  | (go_at_call 57; (with_reducible refine h57.mono ?_); rintro e w' ⟨rfl, hw'⟩; subst w')
  | (go_at_call 66; (with_reducible refine (must_f _ _).mono ?_); rintro e w' ⟨rfl, hw'⟩; subst w'))
 refine ⟨rfl, ⟨rfl, rfl, rfl, Nat.le_refl _, fun _ _ _ => rfl⟩, .inr ⟨rfl, fun v hv hg => ?_⟩⟩
 have h1 := hg (ρ n) hc
 rw [hv.root ho hn] at h1
 omega
theorem acy_black {G : Grf} {ρ d : Nat → Nat} {sv wv sb n : Nat} {es : Cs} {w : World} {R : Nat → Nat} {K : Nat} {x : Nd} (ho : Okg G ρ d) (hA : ACt G sv wv sb es w) (hR : Rank G ρ es R K) (hn : G n = some x) (hc : cget es (ρ n) = 2) :
  Calls Tryz.prog 94 #[ptrN n, ptrN sv, ptrN wv] w (AcySays G ρ sv wv sb es R K n w) := by
 have h57 := root_run hA.grf ho.roots ho.ld n x hn
 obtain ⟨xr, hxr, hxt⟩ := ho.rooted hn
 obtain ⟨c, hsb⟩ := hA.at3
 have hl := lookCs hsb (hA.grf _ _ hxr) (fun e he => by
  obtain ⟨y, hy, rfl⟩ : ∃ y ∈ es, (y.1, Value.int .i64 y.2.1, y.2.2) = e := List.mem_map.1 he
  obtain ⟨z, hz⟩ := hA.key y hy
  exact ⟨z, hA.grf _ _ hz⟩)
 rw [hc] at hl
 have c1 : w.cell? ⟨sv, 0, none⟩ = some (.map (some sb)) := by simp [World.cell?, hA.at1]
 unfold ptrN at *
 go_enter Tryz.func94, Tryz.ntmps94
 go_wp2_with (first
  | (go_at_call 57; (with_reducible refine h57.mono ?_); rintro e w' ⟨rfl, hw'⟩; subst w')
  | (go_at_call 66; (with_reducible refine (must_t _ _).mono ?_); rintro e w' ⟨rfl, hw'⟩; subst w'))
 refine bodyPost_ret (results_none rfl _ _ _) rfl ?_
 exact ⟨⟨rfl, rfl, rfl, Nat.le_refl _, fun _ _ _ => rfl⟩, .inl ⟨rfl, es, R, K, hA, hR, hc, fun b h => ⟨h, rfl⟩, fun b => Iff.rfl, fun b h => h⟩⟩
theorem acy_white {G : Grf} {ρ d : Nat → Nat} {N M : Nat} (ho : Okg G ρ d) (hN : ∀ c z, G c = some z → c < N) {sv wv sb : Nat}
  (ih : ∀ (es : Cs) (R : Nat → Nat) (K n : Nat) (w : World) (x : Nd), wht G es N ≤ M → ACt G sv wv sb es w → Rank G ρ es R K → G n = some x → Calls Tryz.prog 94 #[ptrN n, ptrN sv, ptrN wv] w (AcySays G ρ sv wv sb es R K n w))
  {n : Nat} {es : Cs} {w : World} {R : Nat → Nat} {K : Nat} {x : Nd} (hM : wht G es N ≤ M + 1) (hA : ACt G sv wv sb es w) (hR : Rank G ρ es R K) (hn : G n = some x) (hc : cget es (ρ n) = 0) :
  Calls Tryz.prog 94 #[ptrN n, ptrN sv, ptrN wv] w (AcySays G ρ sv wv sb es R K n w) := by
 have h57 := root_run hA.grf ho.roots ho.ld n x hn
 obtain ⟨xr, hxr, hxt⟩ := ho.rooted hn
 obtain ⟨c, hsb⟩ := hA.at3
 have hkey : ∀ e ∈ esV es, ∃ y, nodeAt w e.1 y := fun e he => by
  obtain ⟨y, hy, rfl⟩ : ∃ y ∈ es, (y.1, Value.int .i64 y.2.1, y.2.2) = e := List.mem_map.1 he
  obtain ⟨z, hz⟩ := hA.key y hy
  exact ⟨z, hA.grf _ _ hz⟩
 have hl := lookCs hsb (hA.grf _ _ hxr) hkey
 rw [hc] at hl
 have hu := update129 hsb (hA.grf _ _ hxr) hkey (.int .i64 1)
 rw [setP_cset] at hu
 have hA1 := hA.turn (c' := clkP (esV es) (ρ n) c) hsb (cset_mem (v := 1) (c := c) (P := fun b => ∃ x, G b = some x) hA.key ⟨xr, hxr⟩)
 have hf1 := setBlock_frame (o' := .map ((esV (cset es (ρ n) 1 c)).map entP).toArray (clkP (esV es) (ρ n) c)) hsb
 have c1 : w.cell? ⟨sv, 0, none⟩ = some (.map (some sb)) := by simp [World.cell?, hA.at1]
 have hroot := hA.grf.lt hxr
 generalize hr : ρ n = r at *
 obtain ⟨es1, he1⟩ : ∃ es1, es1 = cset es r 1 c := ⟨_, rfl⟩
 rw [← he1] at hu hA1 hf1
 generalize ChangeMaps.setBlock w sb (.map ((esV es1).map entP).toArray (clkP (esV es) r c)) = w1 at *
 have hg1 : ∀ b, cget es1 b = if b = r then 1 else cget es b := fun b => by rw [he1, cget_cset]
 clear he1
 have hR1 : Rank G ρ es1 R K :=
  {over := fun b y hb h2 e he => by
    rw [hg1] at h2
    split at h2
    ·cases h2
    ·obtain ⟨q1, q2⟩ := hR.over b y hb h2 e he
     have : ρ e ≠ r := fun h => by rw [h, hc] at q1; cases q1
     exact ⟨by rw [hg1, if_neg this]; exact q1, q2⟩
   low := fun b h2 => by
    rw [hg1] at h2
    split at h2
    ·cases h2
    ·exact hR.low b h2
   col := fun b => by
    rw [hg1]
    split
    ·exact .inr (.inl rfl)
    ·exact hR.col b }
 have hw1 : wht G es1 N < wht G es N := wht_lt (fun b h => by
  rw [hg1] at h
  split at h
  ·cases h
  ·exact h) hxr hc (by rw [hg1, if_pos rfl]; decide) N (hN _ _ hxr)
 obtain ⟨p, hp3, hrow⟩ := (hA1.grf _ _ hxr).cell3
 obtain ⟨sp, cap, rfl, hcap, hsp⟩ := hrow.slice
 have hl2 : xr.kids.length ≤ 2 := by
  rw [ho.ar _ _ hxr]
  unfold arN
  split
  ·omega
  ·split <;> omega
 have c2 : w1.cell? ⟨wv, 0, none⟩ = some (.func (.func 94) #[] #[ptrN sv, ptrN wv]) := by simp [World.cell?, hA1.at2]
 unfold ptrN at *
 go_enter Tryz.func94, Tryz.ntmps94
 go_wp2_with (first
  | (go_at_call 57; (with_reducible refine h57.mono ?_); rintro e w' ⟨rfl, hw'⟩; subst w')
  | (go_at_call 66; (with_reducible refine (must_t _ _).mono ?_); rintro e w' ⟨rfl, hw'⟩; subst w'))
 clear hl hu c1 hp3 c2
 go_loopw [24] (fun v wr => ∃ (i : Nat) (esi : Cs) (Ri : Nat → Nat) (Ki : Nat), i ≤ xr.kids.length ∧ v = .int .i64 i ∧ ACt G sv wv sb esi wr ∧ Rank G ρ esi Ri Ki ∧ (∀ b, cget es1 b = 2 → cget esi b = 2 ∧ Ri b = R b) ∧ (∀ b, cget es1 b = 1 ↔ cget esi b = 1) ∧ (∀ b, cget esi b = 0 → cget es1 b = 0) ∧
   (∀ (j e : Nat), j < i → xr.kids[j]? = some e → cget esi (ρ e) = 2) ∧ (wr.os = w.os ∧ wr.tape = w.tape ∧ wr.output = w.output ∧ w.heap.size ≤ wr.heap.size ∧ ∀ k, k < w.heap.size → k ≠ sb → wr.heap[k]? = w.heap[k]?))
  (fun v _ => xr.kids.length - (intOf v).toNat)
 case atStart => exact ⟨0, es1, R, K, Nat.zero_le _, rfl, hA1, hR1, fun b h => ⟨h, rfl⟩, fun b => Iff.rfl, fun b h => h, fun j e h => absurd h (Nat.not_lt_zero _), hf1⟩
 case round =>
  obtain ⟨i, esi, Ri, Ki, hi, rfl, hAi, hRi, hov, hgr, hwh, hdn, hfr⟩ := hrel
  by_cases hlt : i < xr.kids.length
  ·obtain ⟨g, hg, rfl⟩ := hsp i hlt
   obtain ⟨e, he⟩ : ∃ e, xr.kids[i]? = some e := ⟨_, List.getElem?_eq_getElem hlt⟩
   have ke := (hAi.grf _ _ hxr).kid (j := i) hg he
   obtain ⟨xe, hxe⟩ := ho.kids _ _ e hxr (List.mem_of_getElem? he)
   have hwi : wht G esi N ≤ M := by
    have := wht_le hwh (G := G) N
    omega
   have hcall := ih esi Ri Ki e wr xe hwi hAi hRi hxe
   have cw : wr.cell? ⟨wv, 0, none⟩ = some (.func (.func 94) #[] #[.pointer (some ⟨sv, 0, none⟩), .pointer (some ⟨wv, 0, none⟩)]) := by
    have := hAi.at2
    unfold ptrN at this
    simp [World.cell?, this]
   unfold ptrN at ke
   go_wp2_with (go_at_call 94; (with_reducible refine hcall.mono ?_); rintro e' w' ⟨hft, ⟨rfl, esj, Rj, Kj, hAj, hRj, hej, hoj, hgj, hwj⟩ | ⟨rfl, hnone⟩⟩)
   ·go_roundw
    case rel =>
     refine ⟨i + 1, esj, Rj, Kj, by omega, by simp, hAj, hRj, fun b h => ?_, fun b => (hgr b).trans (hgj b), fun b h => hwh b (hwj b h), fun j c' hj hc' => ?_, ?_⟩
     ·obtain ⟨q1, q2⟩ := hov b h
      obtain ⟨q3, q4⟩ := hoj b q1
      exact ⟨q3, q4.trans q2⟩
     ·by_cases hji : j < i
      ·exact (hoj _ (hdn j c' hji hc')).1
      ·obtain rfl : j = i := by omega
       rw [he] at hc'
       cases hc'
       exact hej
     ·obtain ⟨f1, f2, f3, f4, f5⟩ := hfr
      obtain ⟨g1, g2, g3, g4, g5⟩ := hft
      exact ⟨g1.trans f1, g2.trans f2, g3.trans f3, by omega, fun k hk hks => (g5 k (by omega) hks).trans (f5 k hk hks)⟩
    case measure => simp [intOf]; omega
   ·obtain ⟨f1, f2, f3, f4, f5⟩ := hfr
    obtain ⟨g1, g2, g3, g4, g5⟩ := hft
    refine ⟨rfl, ⟨g1.trans f1, g2.trans f2, g3.trans f3, by omega, fun k hk hks => (g5 k (by omega) hks).trans (f5 k hk hks)⟩, .inr ⟨rfl, fun v hv hg2 => hnone v hv fun y hy => ?_⟩⟩
    have hk6 : xr.k ≠ 6 := fun h6 => by
     have := ho.ar _ _ hxr
     rw [h6] at this
     have h0 : xr.kids.length = 0 := this
     omega
    have hs := size_kid ((hv _ _ hxr).1 hk6) (List.mem_of_getElem? he)
    have hvn := hv.root ho hn
    rw [hr] at hvn
    rw [← hgr y, hg1] at hy
    split at hy
    ·rename_i e1
     rw [e1]; exact hs
    ·have := hg2 y hy
     rw [hvn] at this
     omega
  ·obtain rfl : i = xr.kids.length := by omega
   obtain ⟨c', hsb'⟩ := hAi.at3
   have hkey' : ∀ e ∈ esV esi, ∃ y, nodeAt wr e.1 y := fun e he => by
    obtain ⟨y, hy, rfl⟩ : ∃ y ∈ esi, (y.1, Value.int .i64 y.2.1, y.2.2) = e := List.mem_map.1 he
    obtain ⟨z, hz⟩ := hAi.key y hy
    exact ⟨z, hAi.grf _ _ hz⟩
   have hu2 := update129 hsb' (hAi.grf _ _ hxr) hkey' (.int .i64 2)
   rw [setP_cset] at hu2
   have hA2 := hAi.turn (c' := clkP (esV esi) r c') hsb' (cset_mem (v := 2) (c := c') (P := fun b => ∃ x, G b = some x) hAi.key ⟨xr, hxr⟩)
   have hf2 := setBlock_frame (o' := .map ((esV (cset esi r 2 c')).map entP).toArray (clkP (esV esi) r c')) hsb'
   have cs : wr.cell? ⟨sv, 0, none⟩ = some (.map (some sb)) := by simp [World.cell?, hAi.at1]
   obtain ⟨es2, he2⟩ : ∃ es2, es2 = cset esi r 2 c' := ⟨_, rfl⟩
   rw [← he2] at hu2 hA2 hf2
   have hg2 : ∀ b, cget es2 b = if b = r then 2 else cget esi b := fun b => by rw [he2, cget_cset]
   generalize ChangeMaps.setBlock wr sb (.map ((esV es2).map entP).toArray (clkP (esV esi) r c')) = w2 at *
   clear he2 hsb' hkey'
   unfold ptrN at hu2
   go_wp2_with fail
   go_end0
   have hri : cget esi r = 1 := (hgr r).1 (by rw [hg1, if_pos rfl])
   obtain ⟨f1, f2, f3, f4, f5⟩ := hfr
   obtain ⟨g1, g2, g3, g4, g5⟩ := hf2
   refine ⟨⟨g1.trans f1, g2.trans f2, g3.trans f3, by omega, fun k hk hks => (g5 k (by omega) hks).trans (f5 k hk hks)⟩, .inl ⟨rfl, es2, fun b => if b = r then Ki else Ri b, Ki + 1, hA2, ?_, ?_, fun b h => ?_, fun b => ?_, fun b h => ?_⟩⟩
   ·have hne : ∀ b, cget esi b = 2 → b ≠ r := fun b h e => by rw [e, hri] at h; cases h
    exact
    {over := fun b y hb h2 e he => by
      rw [hg2] at h2
      split at h2
      ·rename_i hbr
       subst hbr
       rw [hxr] at hb
       cases hb
       obtain ⟨j, hj⟩ := List.getElem?_of_mem he
       have h3 := hdn j e (List.getElem?_eq_some_iff.1 hj).1 hj
       have h4 := hne _ h3
       refine ⟨by rw [hg2, if_neg h4]; exact h3, ?_⟩
       rw [if_neg h4, if_pos rfl]
       exact hRi.low _ h3
      ·rename_i hbr
       obtain ⟨q1, q2⟩ := hRi.over b y hb h2 e he
       have h4 := hne _ q1
       refine ⟨by rw [hg2, if_neg h4]; exact q1, ?_⟩
       rw [if_neg h4, if_neg hbr]
       exact q2
     low := fun b h2 => by
      rw [hg2] at h2
      split
      ·omega
      ·rename_i hbr
       rw [if_neg hbr] at h2
       have := hRi.low b h2
       omega
     col := fun b => by
      rw [hg2]
      split
      ·exact .inr (.inr rfl)
      ·exact hRi.col b }
   ·rw [hr, hg2, if_pos rfl]
   ·have hbr : b ≠ r := fun e => by rw [e, hc] at h; cases h
    have h1 := hov b (by rw [hg1, if_neg hbr]; exact h)
    exact ⟨by rw [hg2, if_neg hbr]; exact h1.1, (if_neg hbr).trans h1.2⟩
   ·rw [hg2]
    by_cases hbr : b = r
    ·rw [hbr, hc, if_pos rfl]
     constructor <;> intro h <;> cases h
    ·rw [if_neg hbr, ← hgr b, hg1, if_neg hbr]
   ·rw [hg2] at h
    split at h
    ·cases h
    ·rename_i hbr
     have := hwh b h
     rw [hg1, if_neg hbr] at this
     exact this
theorem acy_run {G : Grf} {ρ d : Nat → Nat} {N : Nat} (ho : Okg G ρ d) (hN : ∀ c z, G c = some z → c < N) {sv wv sb : Nat} : ∀ (M : Nat) (es : Cs) (R : Nat → Nat) (K n : Nat) (w : World) (x : Nd), wht G es N ≤ M → ACt G sv wv sb es w → Rank G ρ es R K → G n = some x →
  Calls Tryz.prog 94 #[ptrN n, ptrN sv, ptrN wv] w (AcySays G ρ sv wv sb es R K n w)
 | 0, es, R, K, n, w, x, hM, hA, hR, hn => by
  rcases hR.col (ρ n) with h | h | h
  ·exfalso
   obtain ⟨xr, hxr, hxt⟩ := ho.rooted hn
   have := wht_lt (es' := cset es (ρ n) 1 0) (fun b hb => by
    rw [cget_cset] at hb
    split at hb
    ·cases hb
    ·exact hb) hxr h (by rw [cget_cset, if_pos rfl]; decide) N (hN _ _ hxr)
   omega
  ·exact acy_gray ho hA hn h
  ·exact acy_black ho hA hR hn h
 | M + 1, es, R, K, n, w, x, hM, hA, hR, hn => by
  rcases hR.col (ρ n) with h | h | h
  ·exact acy_white ho hN (acy_run ho hN M) hM hA hR hn h
  ·exact acy_gray ho hA hn h
  ·exact acy_black ho hA hR hn h
end Go.Proofs.YtnmolpkkemljoaaGreatDoor
end
section
namespace Go.Proofs.YtnmolpkkemljoaaGreatDoor
open Go Go.RowKit Go.Am Kd
def AcyRun (G : Grf) (ρ : Nat → Nat) (a b : Nat) (w : World) (e : Ending) (w' : World) : Prop :=
 Below w.heap.size w w' ∧ ((e = .returned (.tuple #[]) ∧ ∃ (S : Nat → Prop) (R : Nat → Nat), S (ρ a) ∧ S (ρ b) ∧ ∀ c x, G c = some x → S c → ∀ k ∈ x.kids, S (ρ k) ∧ R (ρ k) < R c) ∨
  (e = .panicked (stopP 15) ∧ ∀ v : Nat → Ty, Cons v G → False))
theorem World.cell?_of_heap {w : World} {b : Nat} {v : Value} {t : TypeId} (h : w.heap[b]? = some (.cells #[v] t (0, 0))) : w.cell? ⟨b, 0, none⟩ = some v ∧ w.frozen? ⟨b, 0, none⟩ = false := by
 simp [World.cell?, World.frozen?, h]
theorem acyclic_run {G : Grf} {ρ d : Nat → Nat} {w : World} {a b ab cp : Nat} {x y : Nd} (ho : Okg G ρ d) (hG : GrfAt G w) (hr : rowsOk G) (ha : G a = some x) (hb : G b = some y)
  (h0 : w.cell? ⟨ab, 0, none⟩ = some (ptrN a)) (h1 : w.cell? ⟨ab, 1, none⟩ = some (ptrN b)) (hab : ab < w.heap.size) :
  Calls Tryz.prog 56 #[.slice (some ⟨ab, 0, none⟩) 2 cp] w (AcyRun G ρ a b w) := by
 have hmf : ∀ (fn : Fn) (first cap : Array Value) (w : World), (Instr.makeFunc fn first cap).run Tryz.prog w = .ok (.func fn first cap) w := fun _ _ _ _ => rfl
 have hmm : ∀ (w : World), (Instr.makeMap 129 none).run Tryz.prog w = .ok (.map (some w.heap.size)) (w.alloc (.map #[] 0)) := fun w => by simp [Instr.makeMap]
 unfold ptrN at *
 go_enter Tryz.func56, Tryz.ntmps56
 have e3 : (((w.alloc (Obj.map #[] 0)).alloc (Obj.cells #[Value.map (some w.heap.size)] 129)).alloc (Obj.cells #[Value.nilFunc] 128)).heap[w.heap.size + 1 + 1]? = some (Obj.cells #[Value.nilFunc] 128) := by
  have := heap_alloc_new ((w.alloc (Obj.map #[] 0)).alloc (Obj.cells #[Value.map (some w.heap.size)] 129)) (Obj.cells #[Value.nilFunc] 128)
  simpa using this
 obtain ⟨f3, g3⟩ := World.cell?_of_heap e3
 have hst : Sem.run Tryz.prog (store ⟨w.heap.size + 1 + 1, 0, none⟩ (Value.func (Fn.func 94) #[] #[Value.pointer (some ⟨w.heap.size + 1, 0, none⟩), Value.pointer (some ⟨w.heap.size + 1 + 1, 0, none⟩)])) (((w.alloc (Obj.map #[] 0)).alloc (Obj.cells #[Value.map (some w.heap.size)] 129)).alloc (Obj.cells #[Value.nilFunc] 128)) =
   .ok () ((((w.alloc (Obj.map #[] 0)).alloc (Obj.cells #[Value.map (some w.heap.size)] 129)).alloc (Obj.cells #[Value.nilFunc] 128)).setCell ⟨w.heap.size + 1 + 1, 0, none⟩ (Value.func (Fn.func 94) #[] #[Value.pointer (some ⟨w.heap.size + 1, 0, none⟩), Value.pointer (some ⟨w.heap.size + 1 + 1, 0, none⟩)])) := by
  rw [run_store _ _ _ _ _ rfl, f3, g3]
  rfl
 have hA : ACt G (w.heap.size + 1) (w.heap.size + 1 + 1) w.heap.size [] (((w.alloc (Obj.map #[] 0)).alloc (Obj.cells #[Value.map (some w.heap.size)] 129)).alloc (Obj.cells #[Value.func (Fn.func 94) #[] #[Value.pointer (some ⟨w.heap.size + 1, 0, none⟩), Value.pointer (some ⟨w.heap.size + 1 + 1, 0, none⟩)]] 128)) ∧ Below w.heap.size w (((w.alloc (Obj.map #[] 0)).alloc (Obj.cells #[Value.map (some w.heap.size)] 129)).alloc (Obj.cells #[Value.func (Fn.func 94) #[] #[Value.pointer (some ⟨w.heap.size + 1, 0, none⟩), Value.pointer (some ⟨w.heap.size + 1 + 1, 0, none⟩)]] 128)) := by
  have k0 := heap_alloc_new w (Obj.map #[] 0)
  have k1 := heap_alloc_new (w.alloc (Obj.map #[] 0)) (Obj.cells #[Value.map (some w.heap.size)] 129)
  have k2 := heap_alloc_new ((w.alloc (Obj.map #[] 0)).alloc (Obj.cells #[Value.map (some w.heap.size)] 129)) (Obj.cells #[Value.func (Fn.func 94) #[] #[Value.pointer (some ⟨w.heap.size + 1, 0, none⟩), Value.pointer (some ⟨w.heap.size + 1 + 1, 0, none⟩)]] 128)
  have s1 : (w.alloc (Obj.map #[] 0)).heap.size = w.heap.size + 1 := by simp
  have s2 : ((w.alloc (Obj.map #[] 0)).alloc (Obj.cells #[Value.map (some w.heap.size)] 129)).heap.size = w.heap.size + 1 + 1 := by simp
  rw [s1] at k1
  rw [s2] at k2
  have hbel : Below w.heap.size w (((w.alloc (Obj.map #[] 0)).alloc (Obj.cells #[Value.map (some w.heap.size)] 129)).alloc (Obj.cells #[Value.func (Fn.func 94) #[] #[Value.pointer (some ⟨w.heap.size + 1, 0, none⟩), Value.pointer (some ⟨w.heap.size + 1 + 1, 0, none⟩)]] 128)) := ((((Below.refl w.heap.size w).alloc (Nat.le_refl _) _).alloc (by omega) _).alloc (by omega) _)
  refine ⟨?_, hbel⟩
  exact
  {grf := hG.keep fun k hk => hbel.block k hk
   at1 := by
    rw [Below.heap_alloc _ _ _ (by omega)]
    exact k1
   at2 := k2
   at3 := ⟨0, by
    rw [Below.heap_alloc _ _ _ (by omega), Below.heap_alloc _ _ _ (by omega)]
    exact k0⟩
   gs := by
    cases hx : G w.heap.size with
    | none => rfl
    | some y => have := hG.lt hx; omega
   rs := fun b x hx e => by have := hG.rowLt hx e; omega
   key := fun e he => by cases he
   ne := ⟨by omega, by omega⟩ }
 obtain ⟨hA, hB⟩ := hA
 clear e3 f3 g3
 go_upto_region 3 with (fail)
 clear hst
 generalize (((w.alloc (Obj.map #[] 0)).alloc (Obj.cells #[Value.map (some w.heap.size)] 129)).alloc (Obj.cells #[Value.func (Fn.func 94) #[] #[Value.pointer (some ⟨w.heap.size + 1, 0, none⟩), Value.pointer (some ⟨w.heap.size + 1 + 1, 0, none⟩)]] 128)) = w1 at *
 obtain ⟨s, hs⟩ : ∃ s, s ≤ w.heap.size ∧ w.heap.size ≤ s := ⟨_, Nat.le_refl _, Nat.le_refl _⟩
 have hs1 : w.heap.size = s := by omega
 rw [hs1] at hA ⊢
 clear hs1
 have hN : ∀ c z, G c = some z → c < w.heap.size := fun c z hz => hG.lt hz
 have hrun := acy_run ho hN (sv := s + 1) (wv := s + 1 + 1) (sb := s)
 go_upto_region 4 with (fail)
 go_loopw [10] (fun v wr => ∃ (i : Nat) (es : Cs) (R : Nat → Nat) (K : Nat), i ≤ 2 ∧ v = .int .i64 i ∧ ACt G (s + 1) (s + 1 + 1) s es wr ∧ Rank G ρ es R K ∧ (∀ b, cget es b ≠ 1) ∧ (0 < i → cget es (ρ a) = 2) ∧ (1 < i → cget es (ρ b) = 2) ∧ Below w.heap.size w wr)
  (fun v _ => 2 - (intOf v).toNat)
 case atStart => exact ⟨0, [], fun _ => 0, 0, by omega, rfl, hA, { over := fun b x _ h => (by cases h), low := fun b h => (by cases h), col := fun b => .inl rfl }, fun b h => (by cases h), fun h => (by omega), fun h => (by omega), hB⟩
 case round =>
  obtain ⟨i, es, R, K, hi, rfl, hAi, hRi, hng, hd0, hd1, hBi⟩ := hrel
  have cw : wr.cell? ⟨s + 1 + 1, 0, none⟩ = some (.func (.func 94) #[] #[.pointer (some ⟨s + 1, 0, none⟩), .pointer (some ⟨s + 1 + 1, 0, none⟩)]) := by
   have := hAi.at2
   unfold ptrN at this
   simp [World.cell?, this]
  have k0 : wr.cell? ⟨ab, 0, none⟩ = some (.pointer (some ⟨a, 0, none⟩)) := (hBi.cell (p := ⟨ab, 0, none⟩) hab).trans h0
  have k1 : wr.cell? ⟨ab, 1, none⟩ = some (.pointer (some ⟨b, 0, none⟩)) := (hBi.cell (p := ⟨ab, 1, none⟩) hab).trans h1
  rcases (show i = 0 ∨ i = 1 ∨ i = 2 by omega) with rfl | rfl | rfl
  ·have hcall := hrun _ es R K a wr _ (Nat.le_refl _) hAi hRi ha
   unfold ptrN at hcall
   go_wp2_with (go_at_call 94; (with_reducible refine hcall.mono ?_); rintro e' w' ⟨⟨g1, g2, g3, g4, g5⟩, ⟨rfl, es', R', K', hA', hR', he', ho', hg', hw'⟩ | ⟨rfl, hnone⟩⟩)
   ·go_roundw
    case rel => exact ⟨1, es', R', K', by omega, by simp, hA', hR', fun b h => hng b ((hg' b).2 h), fun _ => he', fun h => (by omega), ⟨g1.trans hBi.os, g2.trans hBi.tape, g3.trans hBi.output, Nat.le_trans hBi.size g4, fun k hk => (g5 k (Nat.lt_of_lt_of_le hk hBi.size) (by omega)).trans (hBi.block k hk)⟩⟩
    case measure => simp [intOf]
   ·exact ⟨rfl, ⟨g1.trans hBi.os, g2.trans hBi.tape, g3.trans hBi.output, Nat.le_trans hBi.size g4, fun k hk => (g5 k (Nat.lt_of_lt_of_le hk hBi.size) (by omega)).trans (hBi.block k hk)⟩, .inr ⟨rfl, fun v hv => hnone v hv fun g hg => absurd hg (hng g)⟩⟩
  ·have hcall := hrun _ es R K b wr _ (Nat.le_refl _) hAi hRi hb
   unfold ptrN at hcall
   go_wp2_with (go_at_call 94; (with_reducible refine hcall.mono ?_); rintro e' w' ⟨⟨g1, g2, g3, g4, g5⟩, ⟨rfl, es', R', K', hA', hR', he', ho', hg', hw'⟩ | ⟨rfl, hnone⟩⟩)
   ·go_roundw
    case rel => exact ⟨2, es', R', K', by omega, by simp, hA', hR', fun b h => hng b ((hg' b).2 h), fun _ => (ho' _ (hd0 (by omega))).1, fun _ => he', ⟨g1.trans hBi.os, g2.trans hBi.tape, g3.trans hBi.output, Nat.le_trans hBi.size g4, fun k hk => (g5 k (Nat.lt_of_lt_of_le hk hBi.size) (by omega)).trans (hBi.block k hk)⟩⟩
    case measure => simp [intOf]
   ·exact ⟨rfl, ⟨g1.trans hBi.os, g2.trans hBi.tape, g3.trans hBi.output, Nat.le_trans hBi.size g4, fun k hk => (g5 k (Nat.lt_of_lt_of_le hk hBi.size) (by omega)).trans (hBi.block k hk)⟩, .inr ⟨rfl, fun v hv => hnone v hv fun g hg => absurd hg (hng g)⟩⟩
  ·go_wp2_with fail
   go_end0
   refine ⟨hBi, .inl ⟨rfl, fun c => cget es c = 2, R, hd0 (by omega), hd1 (by omega), fun c x hx hc k hk => hRi.over c x hx hc k hk⟩⟩
end Go.Proofs.YtnmolpkkemljoaaGreatDoor
end
section
namespace Go.Proofs.YtnmolpkkemljoaaGreatDoor
open Go Go.RowKit Go.Am Kd
theorem und24 : ∃ fs, Tryz.prog.underlying 24 = some (.struct fs) := ⟨_, Tryz.underlying24⟩
theorem size24 : (Tryz.prog.info? 24).map (·.size) = some 3 := by kernel_rfl
theorem third (w : World) (a b c : Obj) : (((w.alloc a).alloc b).alloc c).heap[w.heap.size + 1]? = some b := by
 rw [Below.heap_alloc _ _ _ (by simp)]
 exact heap_alloc2_new w a b
theorem clean_leaf (k n : Int) (w : World) : Calls Tryz.prog 68 #[.agg #[.int .i64 k, .int .i64 n, .slice none 0 0]] w fun e w' => e = .returned (.agg #[.int .i64 k, .int .i64 (if k = 6 then n else 0), .slice none 0 0]) ∧ Below w.heap.size w w' := by
 obtain ⟨fs, hfs⟩ := und24
 by_cases h6 : k = 6
 ·subst h6
  go_enter Tryz.func68, Tryz.ntmps68
  go_wp2
  refine bodyPost_ret (results_cell_row rfl _ _ (w.heap.size + 1) 24 #[.int .i64 6, .int .i64 n, .slice none 0 0] (0, 0) _ rfl (third _ _ _ _) hfs rfl size24) rfl ?_
  exact ⟨by simp, (((Below.refl w.heap.size w).alloc (Nat.le_refl _) _).alloc (by simp) _).alloc (by simp; omega) _⟩
 ·have h7 : (k == 6) = false := by simpa using h6
  go_enter Tryz.func68, Tryz.ntmps68
  go_wp2
  refine bodyPost_ret (results_cell_row rfl _ _ (w.heap.size + 1) 24 #[.int .i64 k, .int .i64 0, .slice none 0 0] (0, 0) _ rfl (third _ _ _ _) hfs rfl size24) rfl ?_
  exact ⟨by simp [h6], (((Below.refl w.heap.size w).alloc (Nat.le_refl _) _).alloc (by simp) _).alloc (by simp; omega) _⟩
theorem islSlice' {S : Sh} {b : Bool} {fam : Option Nat} {off : Nat} {xs : List AV} {v : Value} (h : VRel S (.isl b fam off xs) v) : ∃ p n c, v = .slice p n c := by
 cases h <;> exact ⟨_, _, _, rfl⟩
open Classical in
noncomputable def shF (w : World) (F : Nat → Prop) : Sh := { X := fun _ => .top, ρ := fun _ => none, im := fun b o => if F b then w.cell? ⟨b, o, none⟩ else none, tl := fun _ _ => none, rm := fun _ => none }
theorem shF_le {w w' : World} {F F' : Nat → Prop} (h : ∀ b, F b → F' b ∧ w'.heap[b]? = w.heap[b]?) : ∀ b o u, (shF w F).im b o = some u → (shF w' F').im b o = some u := by
 intro b o u hu
 simp only [shF] at hu ⊢
 split at hu
 ·rename_i hb
  rw [if_pos (h b hb).1, World.cell?_of_block (w := w) (h b hb).2]
  exact hu
 ·cases hu
theorem encD_st (t : Ty) : (encD t).still = true := by
 rw [← enc_D]; exact enc_still t
def tyF (w : World) (F : Nat → Prop) (t : Ty) (v : Value) : Prop := VRel (shF w F) (encD t) v
theorem tyF.mono {w w' : World} {F F' : Nat → Prop} {t : Ty} {v : Value} (h : tyF w F t v) (hk : ∀ b, F b → F' b ∧ w'.heap[b]? = w.heap[b]?) : tyF w' F' t v := VRel.still (shF_le hk) h (encD_st t)
theorem tyF.agg {w : World} {F : Nat → Prop} {t : Ty} {v : Value} (h : tyF w F t v) : ∃ p n c, v = .agg #[.int .i64 t.kind, .int .i64 t.n, .slice p n c] ∧ VRel (shF w F) (.isl t.nl none 0 (encL t.l)) (.slice p n c) := by
 unfold tyF encD at h
 cases h with
 | agg _ vs hl =>
  cases hl with
  | cons _ _ _ _ g1 hl =>
   cases g1
   cases hl with
   | cons _ _ _ _ g2 hl =>
    cases g2
    cases hl with
    | cons _ _ _ _ g3 hl =>
     cases hl
     obtain ⟨p, n, c, rfl⟩ := islSlice' g3
     exact ⟨p, n, c, rfl, g3⟩
end Go.Proofs.YtnmolpkkemljoaaGreatDoor
end
section
namespace Go.Proofs.YtnmolpkkemljoaaGreatDoor
open Go Go.RowKit Go.Am Kd
def Wok (T : Nat → Prop) (G : Grf) (ρ : Nat → Nat) (W : Nat → Ty) : Prop := ∀ b x, G b = some x → T b → W b = W (ρ b) ∧ T (ρ b) ∧ (x.ld = none → (W b = if x.k = 6 then varT x.n else .mk x.k 0 (nilB x.kids) (x.kids.map W)) ∧ ∀ k ∈ x.kids, T k)
structure WSt (G : Grf) (lv wv : Nat) (L : Int) (w : World) : Prop where
 grf : GrfAt G w
 at1 : w.heap[lv]? = some (.cells #[.int .i64 L] 3 (0, 0))
 at2 : w.heap[wv]? = some (.cells #[.func (.func 95) #[] #[ptrN lv, ptrN wv]] 130 (0, 0))
 gl : G lv = none
 rl : ∀ b x, G b = some x → x.row ≠ some lv
 ne : lv ≠ wv
def FrW (lv : Nat) (w w' : World) : Prop := w'.os = w.os ∧ w'.tape = w.tape ∧ w'.output = w.output ∧ w.heap.size ≤ w'.heap.size ∧ ∀ k, k < w.heap.size → k ≠ lv → w'.heap[k]? = w.heap[k]?
theorem FrW.trans {lv : Nat} {a b c : World} (h : FrW lv a b) (k : FrW lv b c) : FrW lv a c :=
 ⟨k.1.trans h.1, k.2.1.trans h.2.1, k.2.2.1.trans h.2.2.1, Nat.le_trans h.2.2.2.1 k.2.2.2.1, fun i hi hn => (k.2.2.2.2 i (Nat.lt_of_lt_of_le hi h.2.2.2.1) hn).trans (h.2.2.2.2 i hi hn)⟩
theorem FrW.below {lv : Nat} {a b : World} (h : Below a.heap.size a b) : FrW lv a b := ⟨h.os, h.tape, h.output, h.size, fun k hk _ => h.block k hk⟩
theorem WSt.keep {G : Grf} {lv wv : Nat} {L : Int} {w w' : World} (h : WSt G lv wv L w) (hk : ∀ k, k < w.heap.size → w'.heap[k]? = w.heap[k]?) : WSt G lv wv L w' :=
 ⟨h.grf.keep hk, (hk _ (Array.getElem?_eq_some_iff.1 h.at1).1).trans h.at1, (hk _ (Array.getElem?_eq_some_iff.1 h.at2).1).trans h.at2, h.gl, h.rl, h.ne⟩
theorem WSt.put {G : Grf} {lv wv : Nat} {L M : Int} {w : World} (h : WSt G lv wv L w) : WSt G lv wv M (w.setCell ⟨lv, 0, none⟩ (.int .i64 M)) ∧ FrW lv w (w.setCell ⟨lv, 0, none⟩ (.int .i64 M)) := by
 have hk : ∀ k, k ≠ lv → (w.setCell ⟨lv, 0, none⟩ (.int .i64 M)).heap[k]? = w.heap[k]? := fun k hk => Below.heap_setCell w _ _ k hk
 refine ⟨⟨fun b x hx => ?_, ?_, (hk wv (fun e => h.ne e.symm)).trans h.at2, h.gl, h.rl, h.ne⟩, rfl, rfl, rfl, (Below.setCell (Below.refl 0 w) (p := ⟨lv, 0, none⟩) (Nat.zero_le _) _).size, fun k _ hn => hk k hn⟩
 ·obtain ⟨p, q, h1, h2⟩ := h.grf b x hx
  have hb : b ≠ lv := fun e => by rw [e, h.gl] at hx; cases hx
  exact ⟨p, q, (hk b hb).trans h1, h2.keep fun g hg => hk g (fun e => h.rl b x hx (by rw [hg, e]))⟩
 ·simp only [World.setCell]
  rw [Array.getElem?_modify, if_pos rfl, h.at1]
  rfl
def Fits (T : Ty) (L D : Int) : Prop := (cnt T : Int) ≤ L ∧ D + depT T ≤ 13
def WholeSays (G : Grf) (W : Nat → Ty) (lv wv n : Nat) (L D : Int) (w : World) (e : Ending) (w' : World) : Prop :=
 FrW lv w w' ∧ ((∃ v F, e = .returned v ∧ (∀ b, F b → w.heap.size ≤ b ∧ b < w'.heap.size) ∧ tyF w' F (W n) v ∧ Fits (W n) L D ∧ WSt G lv wv (L - cnt (W n)) w') ∨ (e = .panicked (stopP 9) ∧ ¬ Fits (W n) L D))
theorem whole_no {G : Grf} {ρ d : Nat → Nat} {W : Nat → Ty} {lv wv n : Nat} {L D : Int} {w : World} {x : Nd} (ho : Okg G ρ d) (hS : WSt G lv wv L w) (hn : G n = some x) (hL0 : 0 ≤ L) (hL1 : L ≤ 60) (hD0 : 1 ≤ D) (hD1 : D ≤ 13) (hno : ¬ (1 ≤ L ∧ D ≤ 12)) :
  Calls Tryz.prog 95 #[ptrN n, .int .i64 D, ptrN lv, ptrN wv] w (WholeSays G W lv wv n L D w) := by
 have h57 : Calls Tryz.prog 57 #[ptrN n] (w.alloc (.cells #[.int .i64 0, .int .i64 0, .slice none 0 0] 24)) fun e w' => e = .returned (ptrN (ρ n)) ∧ w' = w.alloc (.cells #[.int .i64 0, .int .i64 0, .slice none 0 0] 24) := root_run (hS.grf.alloc _) ho.roots ho.ld n x hn
 have hll := (Array.getElem?_eq_some_iff.1 hS.at1).1
 have c1 : w.cell? ⟨lv, 0, none⟩ = some (.int .i64 L) := by simp [World.cell?, hS.at1]
 have f1 : w.frozen? ⟨lv, 0, none⟩ = false := by simp [World.frozen?, hS.at1]
 have hfin : ¬ Fits (W n) L D := by
  rintro ⟨h1, h2⟩
  have h3 := cnt_pos (W n)
  have h4 : 1 ≤ depT (W n) := by
   generalize W n = T
   obtain ⟨k, m, b, l⟩ := T
   have h5 : ∀ (l : List Ty) (m : Int), m ≤ depG l m := by
    intro l
    induction l with
    | nil => intro m; exact Int.le_refl _
    | cons y l ih => intro m; exact Int.le_trans (Int.le_max_left _ _) (ih _)
   have := h5 l 0
   simp only [depT]
   omega
  omega
 obtain ⟨hp1, hp2⟩ := hS.put (M := L - 1)
 have hfr : FrW lv w ((w.setCell ⟨lv, 0, none⟩ (.int .i64 (L - 1))).alloc (.cells #[.int .i64 0, .int .i64 0, .slice none 0 0] 24)) := hp2.trans (FrW.below ((Below.refl _ _).alloc (Nat.le_refl _) _))
 unfold ptrN at *
 by_cases hL : 1 ≤ L
 ·have hD : D = 13 := by omega
  subst hD
  go_enter Tryz.func95, Tryz.ntmps95
  go_wp2_with (first
   | (go_at_call 57; (with_reducible refine h57.mono ?_); rintro e w' ⟨rfl, hw'⟩; subst w')
   | (go_at_call 66; (with_reducible refine (must_f _ _).mono ?_); rintro e w' ⟨rfl, hw'⟩; subst w'))
  exact ⟨rfl, hfr, .inr ⟨rfl, hfin⟩⟩
 ·have hL : L = 0 := by omega
  subst hL
  go_enter Tryz.func95, Tryz.ntmps95
  go_wp2_with (first
   | (go_at_call 57; (with_reducible refine h57.mono ?_); rintro e w' ⟨rfl, hw'⟩; subst w')
   | (go_at_call 66; (with_reducible refine (must_f _ _).mono ?_); rintro e w' ⟨rfl, hw'⟩; subst w'))
  exact ⟨rfl, (by simpa using hfr), .inr ⟨rfl, hfin⟩⟩
end Go.Proofs.YtnmolpkkemljoaaGreatDoor
end