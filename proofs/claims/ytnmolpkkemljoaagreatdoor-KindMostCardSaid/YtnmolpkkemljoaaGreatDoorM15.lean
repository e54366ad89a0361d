/-
  What the proof is built of: Unify: the nodes of a graph in memory; root. Unify: must; open.join. Unify: graphs, their roots, and what is joined. Unify: graphs in memory, joined. Maps with keys that are numbers, and maps with keys that are nodes, as they lie in memory. Conditions: none.
-/
import Derived.Test.YtnmolpkkemljoaaGreatDoorM10
import Derived.WalkLawsBesides
import Derived.Test.YtnmolpkkemljoaaGreatDoorM8
import Derived.Test.YtnmolpkkemljoaaGreatDoorM0
set_option linter.unusedVariables false
set_option linter.unusedSimpArgs false
set_option maxHeartbeats 8000000
set_option maxRecDepth 100000
section
namespace Go.Proofs.YtnmolpkkemljoaaGreatDoor
open Go Go.RowKit
structure Nd where
 k : Int
 n : Int
 kids : List Nat
 ld : Option Nat
 row : Option Nat
def ptrN (b : Nat) : Value := .pointer (some ⟨b, 0, none⟩)
def ptrO : Option Nat → Value
 | none => .pointer none
 | some b => ptrN b
def blkOf : Value → Nat
 | .pointer (some a) => a.block
 | _ => 0
abbrev Grf := Nat → Option Nd
def rowAt (w : World) (kids : List Nat) : Option Nat → Value → Prop
 | none, p => kids = [] ∧ p = .slice none 0 0
 | some g, p => ∃ (cap : Nat) (cur : Array Value), p = .slice (some ⟨g, 0, none⟩) kids.length cap ∧ kids.length ≤ cap ∧ cur.size = cap ∧ w.heap[g]? = some (.cells cur 68 (0, 0)) ∧ ∀ (j : Nat) (b : Nat), kids[j]? = some b → cur[j]? = some (ptrN b)
def nodeAt (w : World) (b : Nat) (x : Nd) : Prop :=
 ∃ l p, w.heap[b]? = some (.cells #[.int .i64 x.k, .int .i64 x.n, l, p, ptrO x.ld] 121 (0, 0)) ∧ rowAt w x.kids x.row p
def GrfAt (G : Grf) (w : World) : Prop := ∀ b x, G b = some x → nodeAt w b x
structure Roots (G : Grf) (ρ d : Nat → Nat) : Prop where
 root : ∀ b x, G b = some x → x.ld = none → ρ b = b
 step : ∀ b x c, G b = some x → x.ld = some c → ρ b = ρ c ∧ d b = d c + 1
theorem nodeAt.cell4 {w : World} {b : Nat} {x : Nd} (h : nodeAt w b x) : w.cell? ⟨b, 4, none⟩ = some (ptrO x.ld) := by
 obtain ⟨l, p, h, _⟩ := h
 simp [World.cell?, h]
theorem root_run {G : Grf} {ρ d : Nat → Nat} {w : World} (hG : GrfAt G w) (hr : Roots G ρ d) (hto : ∀ b x c, G b = some x → x.ld = some c → ∃ y, G c = some y) (b : Nat) (x : Nd) (hb : G b = some x) :
  Calls Tryz.prog 57 #[ptrN b] w fun e w' => e = .returned (ptrN (ρ b)) ∧ w' = w := by
 unfold ptrN
 go_enter Tryz.func57, Tryz.ntmps57
 go_wp2
 go_loop [0] (fun v => ∃ c y, v = ptrN c ∧ G c = some y ∧ ρ c = ρ b)
  (fun v => d (blkOf v))
 case atStart => exact ⟨b, x, rfl, hb, rfl⟩
 case round =>
  obtain ⟨c, y, rfl, hy, hc⟩ := hrel
  unfold ptrN at *
  have h4 := (hG c y hy).cell4
  cases ht : y.ld with
  | none =>
   rw [ht] at h4
   simp only [ptrO] at h4
   go_wp2
   go_ret
   refine ⟨?_, rfl⟩
   rw [← hc, hr.root c y hy ht]
   rfl
  | some e =>
   rw [ht] at h4
   simp only [ptrO, ptrN] at h4
   obtain ⟨z, hz⟩ := hto c y e hy ht
   obtain ⟨s1, s2⟩ := hr.step c y e hy ht
   go_wp2
   go_round
   case rel => exact ⟨e, z, rfl, hz, s1.symm.trans hc⟩
   case measure => simp [blkOf]; omega
end Go.Proofs.YtnmolpkkemljoaaGreatDoor
end
section
namespace Go.Proofs.YtnmolpkkemljoaaGreatDoor
open Go Go.RowKit
def stopP (e : Int) : List PanicEntry := [{ v := .iface 117 (.agg #[.int .i64 e]), recovered := false }]
theorem must_t (w : World) (e : Int) : Calls Tryz.prog 66 #[.bool true, .int .i64 e] w fun r w' => r = .returned (.tuple #[]) ∧ w' = w := by
 go_enter Tryz.func66, Tryz.ntmps66
 go_wp2
 go_end0
 exact ⟨rfl, rfl⟩
theorem must_f (w : World) (e : Int) : Calls Tryz.prog 66 #[.bool false, .int .i64 e] w fun r w' => r = .panicked (stopP e) ∧ w' = w := by
 go_enter Tryz.func66, Tryz.ntmps66
 go_wp2
 exact ⟨rfl, rfl, rfl⟩
theorem open_run {w : World} {a b : Nat} {x : Nd} (ha : nodeAt w a x) : Calls Tryz.prog 185 #[.agg #[ptrN a], ptrN b] w fun r w' => r = .returned (.tuple #[]) ∧ w' = (w.setCell ⟨a, 4, none⟩ (ptrN b)).alloc (.cells #[ptrN a] 123) := by
 have h4 := ha.cell4
 obtain ⟨l, p, hh, _⟩ := ha
 have hlt : a < w.heap.size := (Array.getElem?_eq_some_iff.1 hh).1
 have hf : w.frozen? ⟨a, 4, none⟩ = false := by simp [World.frozen?, hh]
 unfold ptrN at *
 go_enter Tryz.func185, Tryz.ntmps185
 go_wp2
 go_end0
 exact ⟨rfl, rfl⟩
end Go.Proofs.YtnmolpkkemljoaaGreatDoor
end
section
namespace Go.Proofs.YtnmolpkkemljoaaGreatDoor
open Go Go.RowKit Go.Am Kd
def arN (k : Int) : Nat := if k = 2 ∨ k = 3 ∨ k = 5 then 2 else if k = 4 then 1 else 0
structure Okg (G : Grf) (ρ d : Nat → Nat) : Prop where
 roots : Roots G ρ d
 zero : ∀ b x, G b = some x → x.ld = none → d b = 0
 ar : ∀ b x, G b = some x → x.kids.length = arN x.k
 kind : ∀ b x r, G b = some x → G (ρ b) = some r → x.k ≠ 6 → r.k = x.k
 least : ∀ b x r, G b = some x → G (ρ b) = some r → x.k = 6 → r.k = 6 → r.n ≤ x.n
 ld : ∀ b x c, G b = some x → x.ld = some c → ∃ y, G c = some y
 kids : ∀ b x c, G b = some x → c ∈ x.kids → ∃ y, G c = some y
def rowsOk (G : Grf) : Prop := ∀ b x g, G b = some x → x.row = some g → G g = none ∧ ∀ b' x', G b' = some x' → x'.row = some g → b' = b
def joinG (G : Grf) (a b : Nat) : Grf := fun c => if c = a then (G a).map fun x => { x with ld := some b } else G c
structure Ext (G G' : Grf) : Prop where
 fwd : ∀ b x, G b = some x → ∃ t, G' b = some { x with ld := t } ∧ ∀ c, x.ld = some c → t = some c
 bwd : ∀ b, G b = none → G' b = none
theorem Ext.refl (G : Grf) : Ext G G := ⟨fun b x h => ⟨x.ld, h, fun _ h => h⟩, fun _ h => h⟩
theorem Ext.trans {A B C : Grf} (h : Ext A B) (k : Ext B C) : Ext A C := by
 refine ⟨fun b x hx => ?_, fun b hb => k.bwd b (h.bwd b hb)⟩
 obtain ⟨t, h1, h2⟩ := h.fwd b x hx
 obtain ⟨u, h3, h4⟩ := k.fwd b _ h1
 exact ⟨u, h3, fun c hc => h4 c (h2 c hc)⟩
theorem Ext.rows {G G' : Grf} (h : Ext G G') (hr : rowsOk G) : rowsOk G' := by
 have back : ∀ b x', G' b = some x' → ∃ x, G b = some x ∧ x'.row = x.row := by
  intro b x' hx'
  cases hb : G b with
  | none => rw [h.bwd b hb] at hx'; cases hx'
  | some x =>
   obtain ⟨t, h1, _⟩ := h.fwd b x hb
   rw [h1] at hx'
   exact ⟨x, rfl, by rw [← Option.some.inj hx']⟩
 intro b x' g hb hg
 obtain ⟨x, h1, h2⟩ := back b x' hb
 obtain ⟨h3, h4⟩ := hr b x g h1 (by rw [← h2]; exact hg)
 refine ⟨h.bwd g h3, fun b' y' hy hg' => ?_⟩
 obtain ⟨y, h5, h6⟩ := back b' y' hy
 exact h4 b' y h5 (by rw [← h6]; exact hg')
theorem joinG_ext {G : Grf} {a b : Nat} {x : Nd} (ha : G a = some x) (ht : x.ld = none) : Ext G (joinG G a b) := by
 refine ⟨fun c y hy => ?_, fun c hc => ?_⟩
 ·by_cases h : c = a
  ·subst h
   rw [ha] at hy
   cases hy
   exact ⟨some b, by simp [joinG, ha], fun c hc => by rw [ht] at hc; cases hc⟩
  ·exact ⟨y.ld, by simp [joinG, h, hy], fun c hc => hc⟩
 ·by_cases h : c = a
  ·subst h; rw [ha] at hc; cases hc
  ·simp [joinG, h, hc]
def opn (G : Grf) : Nat → Nat
 | 0 => 0
 | n + 1 => opn G n + (match G n with | some x => (match x.ld with | none => 1 | some _ => 0) | none => 0)
theorem opn_join {G : Grf} {a b : Nat} {x : Nd} (ha : G a = some x) (ht : x.ld = none) : ∀ N, opn (joinG G a b) N + (if a < N then 1 else 0) = opn G N
 | 0 => rfl
 | n + 1 => by
  have ih := opn_join (b := b) ha ht n
  simp only [opn]
  by_cases h : n = a
  ·subst h
   simp only [joinG, if_true, ha, Option.map_some, ht] at ih ⊢
   rw [if_neg (Nat.lt_irrefl n)] at ih
   rw [if_pos (Nat.lt_succ_self n)]
   omega
  ·have e : joinG G a b n = G n := by simp [joinG, h]
   rw [e]
   by_cases h2 : a < n
   ·rw [if_pos h2] at ih
    rw [if_pos (by omega)]
    omega
   ·rw [if_neg h2] at ih
    rw [if_neg (by omega)]
    omega
theorem Okg.rootNode {G : Grf} {ρ d : Nat → Nat} (h : Okg G ρ d) : ∀ (n b : Nat) (x : Nd), d b ≤ n → G b = some x → ∃ r, G (ρ b) = some r ∧ r.ld = none
 | 0, b, x, hn, hb => by
  cases ht : x.ld with
  | none => rw [h.roots.root b x hb ht]; exact ⟨x, hb, ht⟩
  | some c =>
   have := (h.roots.step b x c hb ht).2
   omega
 | n + 1, b, x, hn, hb => by
  cases ht : x.ld with
  | none => rw [h.roots.root b x hb ht]; exact ⟨x, hb, ht⟩
  | some c =>
   obtain ⟨s1, s2⟩ := h.roots.step b x c hb ht
   obtain ⟨y, hy⟩ := h.ld b x c hb ht
   rw [s1]
   exact h.rootNode n c y (by omega) hy
theorem Okg.rooted {G : Grf} {ρ d : Nat → Nat} (h : Okg G ρ d) {b : Nat} {x : Nd} (hb : G b = some x) : ∃ r, G (ρ b) = some r ∧ r.ld = none := h.rootNode (d b) b x (Nat.le_refl _) hb
def Cons (v : Nat → Ty) (G : Grf) : Prop := ∀ b x, G b = some x → (x.k ≠ 6 → v b = .mk x.k 0 (nilB x.kids) (x.kids.map v)) ∧ ∀ c, x.ld = some c → v b = v c
theorem Cons.rootN {v : Nat → Ty} {G : Grf} {ρ d : Nat → Nat} (hv : Cons v G) (h : Okg G ρ d) : ∀ (n b : Nat) (x : Nd), d b ≤ n → G b = some x → v b = v (ρ b)
 | 0, b, x, hn, hb => by
  cases ht : x.ld with
  | none => rw [h.roots.root b x hb ht]
  | some c =>
   have := (h.roots.step b x c hb ht).2
   omega
 | n + 1, b, x, hn, hb => by
  cases ht : x.ld with
  | none => rw [h.roots.root b x hb ht]
  | some c =>
   obtain ⟨s1, s2⟩ := h.roots.step b x c hb ht
   obtain ⟨y, hy⟩ := h.ld b x c hb ht
   rw [s1, (hv b x hb).2 c ht]
   exact hv.rootN h n c y (by omega) hy
theorem Cons.root {v : Nat → Ty} {G : Grf} {ρ d : Nat → Nat} (hv : Cons v G) (h : Okg G ρ d) {b : Nat} {x : Nd} (hb : G b = some x) : v b = v (ρ b) := hv.rootN h (d b) b x (Nat.le_refl _) hb
theorem cons_join {v : Nat → Ty} {G : Grf} {a b : Nat} {x : Nd} (ha : G a = some x) (ht : x.ld = none) : Cons v (joinG G a b) ↔ Cons v G ∧ v a = v b := by
 constructor
 ·intro h
  refine ⟨fun c y hy => ?_, ?_⟩
  ·by_cases hc : c = a
   ·subst hc
    rw [ha] at hy
    cases hy
    have := h c { x with ld := some b } (by simp [joinG, ha])
    exact ⟨this.1, fun e he => by rw [ht] at he; cases he⟩
   ·exact h c y (by simp [joinG, hc, hy])
  ·exact (h a { x with ld := some b } (by simp [joinG, ha])).2 b rfl
 ·rintro ⟨h, hab⟩ c y hy
  by_cases hc : c = a
  ·subst hc
   simp only [joinG, if_true, ha, Option.map_some, Option.some.injEq] at hy
   subst hy
   exact ⟨(h c x ha).1, fun e he => by cases he; exact hab⟩
  ·simp only [joinG, hc, if_false] at hy
   exact h c y hy
theorem Okg.join {G : Grf} {ρ d : Nat → Nat} (h : Okg G ρ d) {a b : Nat} {x y : Nd} (ha : G a = some x) (hb : G b = some y) (hne : a ≠ b) (hx : x.ld = none) (hy : y.ld = none) (h1 : x.k = 6 → y.k = 6 → y.n ≤ x.n) (h2 : x.k ≠ 6 → y.k = x.k) :
  ∃ ρ' d', Okg (joinG G a b) ρ' d' := by
 have ra := h.roots.root a x ha hx
 have rb := h.roots.root b y hb hy
 have za := h.zero a x ha hx
 have zb := h.zero b y hb hy
 have get : ∀ c z, joinG G a b c = some z → (c = a ∧ z = { x with ld := some b }) ∨ (c ≠ a ∧ G c = some z) := by
  intro c z hz
  by_cases hc : c = a
  ·subst hc
   simp only [joinG, if_true, ha, Option.map_some, Option.some.injEq] at hz
   exact .inl ⟨rfl, hz.symm⟩
  ·simp only [joinG, hc, if_false] at hz
   exact .inr ⟨hc, hz⟩
 have put : ∀ c z, G c = some z → ∃ z', joinG G a b c = some z' := by
  intro c z hz
  by_cases hc : c = a
  ·subst hc; exact ⟨_, by simp only [joinG, if_true, ha, Option.map_some]; rfl⟩
  ·exact ⟨z, by simp [joinG, hc, hz]⟩
 have old : ∀ c z, joinG G a b c = some z → ∃ z0, G c = some z0 ∧ z.k = z0.k ∧ z.n = z0.n ∧ z.kids = z0.kids := by
  intro c z hz
  rcases get c z hz with ⟨rfl, rfl⟩ | ⟨_, hz⟩
  ·exact ⟨x, ha, rfl, rfl, rfl⟩
  ·exact ⟨z, hz, rfl, rfl, rfl⟩
 refine ⟨fun c => if ρ c = a then b else ρ c, fun c => if ρ c = a then d c + 1 else d c, ⟨fun c z hz ht => ?_, fun c z e hz ht => ?_⟩, fun c z hz ht => ?_, fun c z hz => ?_, fun c z r hz hr hk => ?_, fun c z r hz hr hk hk2 => ?_, fun c z e hz ht => ?_, fun c z e hz he => ?_⟩
 ·rcases get c z hz with ⟨rfl, rfl⟩ | ⟨hc, hz⟩
  ·cases ht
  ·have := h.roots.root c z hz ht
   simp only [this, hc, if_false]
 ·rcases get c z hz with ⟨rfl, rfl⟩ | ⟨hc, hz⟩
  ·cases ht
   have : ¬ b = c := fun e => hne e.symm
   simp only [ra, rb, if_true, this, if_false, za, zb]
   exact ⟨trivial, trivial⟩
  ·obtain ⟨s1, s2⟩ := h.roots.step c z e hz ht
   simp only [s1, s2]
   split <;> exact ⟨by trivial, by trivial⟩
 ·rcases get c z hz with ⟨rfl, rfl⟩ | ⟨hc, hz⟩
  ·cases ht
  ·have := h.roots.root c z hz ht
   simp only [this, hc, if_false]
   exact h.zero c z hz ht
 ·obtain ⟨z0, h3, h4, h5, h6⟩ := old c z hz
  rw [h6, h4]
  exact h.ar c z0 h3
 ·obtain ⟨z0, h3, h4, h5, h6⟩ := old c z hz
  rw [h4] at hk ⊢
  split at hr
  ·rename_i hca
   have hy' : joinG G a b b = some y := by simp only [joinG, if_neg (Ne.symm hne), hb]
   rw [hy'] at hr
   cases hr
   have := h.kind c z0 x h3 (by rw [hca]; exact ha) hk
   rw [h2 (by rw [this]; exact hk), this]
  ·rename_i hca
   have hr' : G (ρ c) = some r := by simpa [joinG, hca] using hr
   exact h.kind c z0 r h3 hr' hk
 ·obtain ⟨z0, h3, h4, h5, h6⟩ := old c z hz
  rw [h5]
  rw [h4] at hk
  split at hr
  ·rename_i hca
   have hy' : joinG G a b b = some y := by simp only [joinG, if_neg (Ne.symm hne), hb]
   rw [hy'] at hr
   cases hr
   have hx6 : x.k = 6 := by
    by_cases hx6 : x.k = 6
    ·exact hx6
    ·rw [h2 hx6] at hk2; exact hk2
   have := h.least c z0 x h3 (by rw [hca]; exact ha) hk hx6
   have := h1 hx6 hk2
   omega
  ·rename_i hca
   have hr' : G (ρ c) = some r := by simpa [joinG, hca] using hr
   exact h.least c z0 r h3 hr' hk hk2
 ·rcases get c z hz with ⟨rfl, rfl⟩ | ⟨hc, hz⟩
  ·cases ht; exact put b y hb
  ·obtain ⟨y', hy'⟩ := h.ld c z e hz ht
   exact put e y' hy'
 ·obtain ⟨z0, h3, h4, h5, h6⟩ := old c z hz
  rw [h6] at he
  obtain ⟨y', hy'⟩ := h.kids c z0 e h3 he
  exact put e y' hy'
end Go.Proofs.YtnmolpkkemljoaaGreatDoor
end
section
namespace Go.Proofs.YtnmolpkkemljoaaGreatDoor
open Go Go.RowKit Go.Am Kd
structure Touch (G : Grf) (w w' : World) : Prop where
 os : w'.os = w.os
 tape : w'.tape = w.tape
 output : w'.output = w.output
 size : w.heap.size ≤ w'.heap.size
 block : ∀ k, k < w.heap.size → G k = none → w'.heap[k]? = w.heap[k]?
theorem Touch.refl (G : Grf) (w : World) : Touch G w w := ⟨rfl, rfl, rfl, Nat.le_refl _, fun _ _ _ => rfl⟩
theorem Touch.trans {G : Grf} {a b c : World} (h : Touch G a b) (k : Touch G b c) : Touch G a c :=
 ⟨k.os.trans h.os, k.tape.trans h.tape, k.output.trans h.output, Nat.le_trans h.size k.size, fun i hi hn => (k.block i (Nat.lt_of_lt_of_le hi h.size) hn).trans (h.block i hi hn)⟩
theorem Touch.ext {G G' : Grf} {a b : World} (hG : Ext G G') (h : Touch G' a b) : Touch G a b := ⟨h.os, h.tape, h.output, h.size, fun k hk hn => h.block k hk (hG.bwd k hn)⟩
theorem Touch.drewN {G : Grf} {a w : World} (h : Touch G a w) (n : Nat) : Touch G a (w.drewN n) := ⟨h.os, h.tape, h.output, h.size, h.block⟩
theorem Touch.alloc {G : Grf} {a w : World} (h : Touch G a w) (o : Obj) : Touch G a (w.alloc o) :=
 h.trans ⟨rfl, rfl, rfl, (Below.alloc (Below.refl 0 w) (Nat.zero_le _) o).size, fun k hk _ => Below.heap_alloc w o k hk⟩
theorem Touch.setCell {G : Grf} {a w : World} (h : Touch G a w) {p : Addr} {x : Nd} (hp : G p.block = some x) (u : Value) : Touch G a (w.setCell p u) :=
 h.trans ⟨rfl, rfl, rfl, (Below.setCell (Below.refl 0 w) (p := p) (Nat.zero_le _) u).size, fun k hk hn => Below.heap_setCell w p u k (fun e => by rw [e, hp] at hn; cases hn)⟩
theorem rowAt.keep {w w' : World} {kids : List Nat} {r : Option Nat} {p : Value} (h : rowAt w kids r p) (hk : ∀ g, r = some g → w'.heap[g]? = w.heap[g]?) : rowAt w' kids r p := by
 cases r with
 | none => exact h
 | some g =>
  obtain ⟨cap, cur, h1, h2, h3, h4, h5⟩ := h
  exact ⟨cap, cur, h1, h2, h3, (hk g rfl).trans h4, h5⟩
theorem GrfAt.lt {G : Grf} {w : World} (h : GrfAt G w) {b : Nat} {x : Nd} (hb : G b = some x) : b < w.heap.size := by
 obtain ⟨l, p, h1, _⟩ := h b x hb
 exact (Array.getElem?_eq_some_iff.1 h1).1
theorem GrfAt.rowLt {G : Grf} {w : World} (h : GrfAt G w) {b g : Nat} {x : Nd} (hb : G b = some x) (hr : x.row = some g) : g < w.heap.size := by
 obtain ⟨l, p, _, h1⟩ := h b x hb
 rw [hr] at h1
 obtain ⟨cap, cur, _, _, _, h4, _⟩ := h1
 exact (Array.getElem?_eq_some_iff.1 h4).1
theorem GrfAt.keep {G : Grf} {w w' : World} (h : GrfAt G w) (hk : ∀ k, k < w.heap.size → w'.heap[k]? = w.heap[k]?) : GrfAt G w' := by
 intro b x hb
 have hlt := h.lt hb
 obtain ⟨l, p, h1, h2⟩ := h b x hb
 exact ⟨l, p, (hk b hlt).trans h1, h2.keep fun g hg => hk g (h.rowLt hb hg)⟩
theorem GrfAt.alloc {G : Grf} {w : World} (h : GrfAt G w) (o : Obj) : GrfAt G (w.alloc o) := h.keep fun k hk => Below.heap_alloc w o k hk
theorem GrfAt.join {G : Grf} {w : World} (h : GrfAt G w) (hr : rowsOk G) {a b : Nat} {x : Nd} (ha : G a = some x) : GrfAt (joinG G a b) (w.setCell ⟨a, 4, none⟩ (ptrN b)) := by
 have key : ∀ c y, G c = some y → rowAt w y.kids y.row = rowAt (w.setCell ⟨a, 4, none⟩ (ptrN b)) y.kids y.row := by
  intro c y hy
  funext p
  have hk : ∀ g, y.row = some g → (w.setCell ⟨a, 4, none⟩ (ptrN b)).heap[g]? = w.heap[g]? := fun g hg => Below.heap_setCell w _ _ g (fun e => by
   have := (hr c y g hy hg).1
   rw [e] at this
   simp only at this
   rw [ha] at this
   cases this)
  exact propext ⟨fun h => h.keep hk, fun h => h.keep fun g hg => (hk g hg).symm⟩
 intro c z hz
 by_cases hc : c = a
 ·subst hc
  simp only [joinG, if_true, ha, Option.map_some, Option.some.injEq] at hz
  subst hz
  obtain ⟨l, p, h1, h2⟩ := h c x ha
  refine ⟨l, p, ?_, by rw [key c x ha] at h2; exact h2⟩
  simp only [World.setCell]
  rw [Array.getElem?_modify]
  simp [h1, ptrO]
 ·simp only [joinG, hc, if_false] at hz
  obtain ⟨l, p, h1, h2⟩ := h c z hz
  exact ⟨l, p, (Below.heap_setCell w _ _ c hc).trans h1, by rw [key c z hz] at h2; exact h2⟩
theorem nodeAt.cells {w : World} {b : Nat} {x : Nd} (h : nodeAt w b x) : w.cell? ⟨b, 0, none⟩ = some (.int .i64 x.k) ∧ w.cell? ⟨b, 1, none⟩ = some (.int .i64 x.n) := by
 obtain ⟨l, p, h, _⟩ := h
 simp [World.cell?, h]
theorem Ext.rootN {G G' : Grf} {ρ d ρ' d' : Nat → Nat} (he : Ext G G') (ho : Okg G ρ d) (ho' : Okg G' ρ' d') : ∀ (n b : Nat) (x : Nd), d b ≤ n → G b = some x → ρ' b = ρ' (ρ b)
 | 0, b, x, hn, hb => by
  cases ht : x.ld with
  | none => rw [ho.roots.root b x hb ht]
  | some c =>
   have := (ho.roots.step b x c hb ht).2
   omega
 | n + 1, b, x, hn, hb => by
  cases ht : x.ld with
  | none => rw [ho.roots.root b x hb ht]
  | some c =>
   obtain ⟨s1, s2⟩ := ho.roots.step b x c hb ht
   obtain ⟨y, hy⟩ := ho.ld b x c hb ht
   obtain ⟨t, h1, h2⟩ := he.fwd b x hb
   have := (ho'.roots.step b _ c h1 (h2 c ht)).1
   rw [s1, this]
   exact he.rootN ho ho' n c y (by omega) hy
theorem Ext.root {G G' : Grf} {ρ d ρ' d' : Nat → Nat} (he : Ext G G') (ho : Okg G ρ d) (ho' : Okg G' ρ' d') {b : Nat} {x : Nd} (hb : G b = some x) : ρ' b = ρ' (ρ b) := he.rootN ho ho' (d b) b x (Nat.le_refl _) hb
theorem Ext.oneRoot {G G' : Grf} {ρ d ρ' d' : Nat → Nat} (he : Ext G G') (ho : Okg G ρ d) (ho' : Okg G' ρ' d') {b c : Nat} {x y : Nd} (hb : G b = some x) (hc : G c = some y) (h : ρ b = ρ c) : ρ' b = ρ' c := by
 rw [he.root ho ho' hb, he.root ho ho' hc, h]
structure Cng (G G' : Grf) (ρ' : Nat → Nat) (a b : Nat) : Prop where
 one : ρ' a = ρ' b
 kids : ∀ (c : Nat) (x z : Nd) (t : Nat), G c = some x → x.ld = none → x.k ≠ 6 → G' c = some z → z.ld = some t → ∃ y, G t = some y ∧ y.k = x.k ∧ ∀ (j p q : Nat), x.kids[j]? = some p → y.kids[j]? = some q → ρ' p = ρ' q
theorem Ext.old {G G' : Grf} (h : Ext G G') {b : Nat} {z : Nd} (hz : G' b = some z) : ∃ x, G b = some x ∧ z = { x with ld := z.ld } ∧ ∀ c, x.ld = some c → z.ld = some c := by
 cases hb : G b with
 | none => rw [h.bwd b hb] at hz; cases hz
 | some x =>
  obtain ⟨t, h1, h2⟩ := h.fwd b x hb
  rw [h1] at hz
  cases hz
  exact ⟨x, rfl, rfl, h2⟩
theorem kids_on {G Gi Gj : Grf} {ρi di ρj dj : Nat → Nat} {a b i c e : Nat} {x y : Nd} (hex : Ext G Gi) (hoi : Okg Gi ρi di) (hoj : Okg Gj ρj dj) (hexj : Ext Gi Gj) (hone : ρj c = ρj e)
  (hk1 : ∀ (j c e : Nat), j < i → x.kids[j]? = some c → y.kids[j]? = some e → ρi c = ρi e)
  (hk2 : ∀ (c : Nat) (x0 z : Nd) (t : Nat), c ≠ a → G c = some x0 → x0.ld = none → x0.k ≠ 6 → Gi c = some z → z.ld = some t → ∃ y, G t = some y ∧ y.k = x0.k ∧ ∀ (j p q : Nat), x0.kids[j]? = some p → y.kids[j]? = some q → ρi p = ρi q)
  (hcg : ∀ (c : Nat) (x z : Nd) (t : Nat), Gi c = some x → x.ld = none → x.k ≠ 6 → Gj c = some z → z.ld = some t → ∃ y, Gi t = some y ∧ y.k = x.k ∧ ∀ (j p q : Nat), x.kids[j]? = some p → y.kids[j]? = some q → ρj p = ρj q)
  (ha : G a = some x) (hb : G b = some y) (hkids : ∀ b x c, G b = some x → c ∈ x.kids → ∃ y, G c = some y) (hc : x.kids[i]? = some c) (he : y.kids[i]? = some e) :
  (∀ (j c e : Nat), j < i + 1 → x.kids[j]? = some c → y.kids[j]? = some e → ρj c = ρj e) ∧
  (∀ (c : Nat) (x0 z : Nd) (t : Nat), c ≠ a → G c = some x0 → x0.ld = none → x0.k ≠ 6 → Gj c = some z → z.ld = some t → ∃ y, G t = some y ∧ y.k = x0.k ∧ ∀ (j p q : Nat), x0.kids[j]? = some p → y.kids[j]? = some q → ρj p = ρj q) := by
 have up : ∀ {p q : Nat} {u v : Nd}, G p = some u → G q = some v → ρi p = ρi q → ρj p = ρj q := by
  intro p q u v hp hq h
  obtain ⟨_, h1, _⟩ := hex.fwd p u hp
  obtain ⟨_, h2, _⟩ := hex.fwd q v hq
  exact hexj.oneRoot hoi hoj h1 h2 h
 refine ⟨fun j c' e' hj hc' he' => ?_, fun c' x0 z t hca hx hl hk hz ht => ?_⟩
 ·by_cases hji : j < i
  ·obtain ⟨u, hu⟩ := hkids a x c' ha (List.mem_of_getElem? hc')
   obtain ⟨v, hv⟩ := hkids b y e' hb (List.mem_of_getElem? he')
   exact up hu hv (hk1 j c' e' hji hc' he')
  ·obtain rfl : j = i := by omega
   rw [hc] at hc'
   rw [he] at he'
   cases hc'
   cases he'
   exact hone
 ·obtain ⟨zi, hzi, hz1, hz2⟩ := hexj.old hz
  obtain ⟨x1, hx1, hx2, hx3⟩ := hex.old hzi
  rw [hx] at hx1
  cases hx1
  cases hzl : zi.ld with
  | none =>
   obtain ⟨y1, hy1, hyk, hy2⟩ := hcg c' zi z t hzi hzl (by rw [hx2]; exact hk) hz ht
   obtain ⟨y0, hy3, hy4, _⟩ := hex.old hy1
   refine ⟨y0, hy3, by rw [hx2, hy4] at hyk; exact hyk, fun j p q hp hq => hy2 j p q (by rw [hx2]; exact hp) (by rw [hy4]; exact hq)⟩
  | some t' =>
   have := hz2 t' hzl
   rw [ht] at this
   cases this
   obtain ⟨y0, hy3, hyk, hy4⟩ := hk2 c' x0 zi t hca hx hl hk hzi hzl
   refine ⟨y0, hy3, hyk, fun j p q hp hq => ?_⟩
   obtain ⟨u, hu⟩ := hkids c' x0 p hx (List.mem_of_getElem? hp)
   obtain ⟨v, hv⟩ := hkids t y0 q hy3 (List.mem_of_getElem? hq)
   exact up hu hv (hy4 j p q hp hq)
theorem kids_end {G Gi : Grf} {ρi di : Nat → Nat} {a b : Nat} {x y : Nd} (ha : G a = some x) (hxt : x.ld = none) (hb : G b = some y) (hk : y.k = x.k) (hext : Ext (joinG G a b) Gi) (hoi : Okg Gi ρi di)
  (hk1 : ∀ (j c e : Nat), j < x.kids.length → x.kids[j]? = some c → y.kids[j]? = some e → ρi c = ρi e)
  (hk2 : ∀ (c : Nat) (x0 z : Nd) (t : Nat), c ≠ a → G c = some x0 → x0.ld = none → x0.k ≠ 6 → Gi c = some z → z.ld = some t → ∃ y, G t = some y ∧ y.k = x0.k ∧ ∀ (j p q : Nat), x0.kids[j]? = some p → y.kids[j]? = some q → ρi p = ρi q) : Cng G Gi ρi a b := by
 obtain ⟨t0, h1, h2⟩ := hext.fwd a { x with ld := some b } (by simp [joinG, ha])
 have h3 := h2 b rfl
 refine ⟨(hoi.roots.step a _ b h1 h3).1, fun c x0 z t hx hl hk6 hz ht => ?_⟩
 by_cases hca : c = a
 ·subst hca
  rw [ha] at hx
  cases hx
  rw [h1] at hz
  cases hz
  simp only at ht
  rw [h3] at ht
  cases ht
  exact ⟨y, hb, hk, fun j p q hp hq => hk1 j p q (List.getElem?_eq_some_iff.1 hp).1 hp hq⟩
 ·exact hk2 c x0 z t hca hx hl hk6 hz ht
def SameSays (G : Grf) (N a b : Nat) (w : World) (e : Ending) (w' : World) : Prop :=
 Touch G w w' ∧ ((e = .returned (.tuple #[]) ∧ ∃ G' ρ' d', GrfAt G' w' ∧ Okg G' ρ' d' ∧ Ext G G' ∧ opn G' N ≤ opn G N ∧ (∀ v, Cons v G' ↔ (Cons v G ∧ v a = v b)) ∧ Cng G G' ρ' a b) ∨
  (e = .panicked (stopP 15) ∧ ∀ v, Cons v G → v a = v b → False))
def SameOk (M N : Nat) : Prop := ∀ (G : Grf) (ρ d : Nat → Nat) (w : World) (a b : Nat) (x y : Nd), opn G N ≤ M → (∀ c z, G c = some z → c < N) → GrfAt G w → rowsOk G → Okg G ρ d → G a = some x → G b = some y →
 Calls Tryz.prog 55 #[ptrN a, ptrN b] w (SameSays G N a b w)
end Go.Proofs.YtnmolpkkemljoaaGreatDoor
end
section
namespace Go.Proofs.YtnmolpkkemljoaaGreatDoor
open Go Go.RowKit Go.Am Kd
def entI (x : Int × Value × Nat) : MapEntry := ⟨.int .i64 x.1, x.2.1, x.2.2⟩
def lookI : List (Int × Value × Nat) → Int → Nat → Option (Nat × Value)
 | [], _, _ => none
 | x :: es, k, i => if k = x.1 then some (i, x.2.1) else lookI es k (i + 1)
theorem findNow_int (k : Int) : ∀ (es : List (Int × Value × Nat)) (i : Nat), Instr.findNow (.int .i64) (.int .i64 k) (es.map entI) i = some (lookI es k i)
 | [], i => rfl
 | x :: es, i => by
  simp only [List.map_cons, Instr.findNow, entI, Instr.sameNow, if_true, lookI]
  by_cases h : k = x.1
  ·simp [h]
  ·have : (k == x.1) = false := by simpa using h
   simp only [this, if_neg h]
   exact findNow_int k es (i + 1)
theorem und65 : Tryz.prog.underlying 65 = some (.map 3 68) := by kernel_rfl
theorem und74 : Tryz.prog.underlying 74 = some (.map 3 24) := by kernel_rfl
theorem und129 : Tryz.prog.underlying 129 = some (.map 68 3) := by kernel_rfl
theorem und3 : Tryz.prog.underlying 3 = some (.int .i64) := by kernel_rfl
theorem und68 : Tryz.prog.underlying 68 = some (.pointer 121) := by kernel_rfl
theorem siz121 : Am.tSize (P := Tryz.prog) 121 = some 5 := by kernel_rfl
theorem zero68 (w : World) : (zeroValue 68).run Tryz.prog w = .ok (.pointer none) w := by kernel_rfl
theorem zero3 (w : World) : (zeroValue 3).run Tryz.prog w = .ok (.int .i64 0) w := by kernel_rfl
theorem check3n (e : Bool) (n : Nat) (k : Int) (w : World) : (Instr.checkKey e (n + 1) 3 (.int .i64 k)).run Tryz.prog w = .ok () w := by
 simp only [Instr.checkKey, Sem.run_bind, Am.run_underlying und3, Result.andThen_ok]
 rfl
theorem check68n (e : Bool) (n : Nat) (p : Value) (w : World) : (Instr.checkKey e (n + 1) 68 p).run Tryz.prog w = .ok () w := by
 simp only [Instr.checkKey, Sem.run_bind, Am.run_underlying und68, Result.andThen_ok]
 rfl
theorem check3 (e : Bool) (k : Int) (w : World) : (Instr.checkKey e 10000 3 (.int .i64 k)).run Tryz.prog w = .ok () w := check3n e 9999 k w
theorem check68 (e : Bool) (p : Value) (w : World) : (Instr.checkKey e 10000 68 p).run Tryz.prog w = .ok () w := check68n e 9999 p w
theorem findKey3 (k : Int) (es : List (Int × Value × Nat)) (w : World) : (Instr.findKey 3 (.int .i64 k) (es.map entI)).run Tryz.prog w = .ok (lookI es k 0) w := by
 simp only [Instr.findKey, Sem.run_bind, Am.run_underlying und3, Result.andThen_ok, findNow_int]
 rfl
theorem lookup65 {w : World} {vb c : Nat} {es : List (Int × Value × Nat)} (hb : w.heap[vb]? = some (.map (es.map entI).toArray c)) (k : Int) :
  (Instr.lookup 65 (.map (some vb)) (.int .i64 k) true).run Tryz.prog w = .ok (match lookI es k 0 with | some x => .tuple #[x.2, .bool true] | none => .tuple #[.pointer none, .bool false]) w := by
 have hg := run_getObj (P := Tryz.prog) hb (by simp)
 simp only [Instr.lookup, Sem.run_bind, Am.run_underlying und65, Result.andThen_ok, hg, Sem.run_pure, check3, findKey3]
 cases lookI es k 0 with
 | none => simp [zero68]
 | some x => simp
theorem update_new {w : World} {vb c t e : Nat} (ht : Tryz.prog.underlying t = some (.map 3 e)) {es : List (Int × Value × Nat)} (hb : w.heap[vb]? = some (.map (es.map entI).toArray c)) (k : Int) (v : Value) (hk : lookI es k 0 = none) :
  (Instr.mapUpdate t (.map (some vb)) (.int .i64 k) v).run Tryz.prog w = .ok () (ChangeMaps.setBlock w vb (.map ((es ++ [(k, v, c)]).map entI).toArray (c + 1))) := by
 have hg := run_getObj (P := Tryz.prog) hb (by simp)
 have hst := run_setObj (P := Tryz.prog) (o' := .map ((es.map entI).toArray.push (entI (k, v, c))) (c + 1)) hb (by simp)
 simp only [Instr.mapUpdate, Sem.run_bind, Am.run_underlying ht, Result.andThen_ok, hg, Sem.run_pure, check3, findKey3, hk]
 have e : ((es ++ [(k, v, c)]).map entI).toArray = (es.map entI).toArray.push (entI (k, v, c)) := by simp
 rw [e]
 exact hst
theorem sameAddr_nodes {w : World} {a b : Nat} {x y : Nd} (ha : nodeAt w a x) (hb : nodeAt w b y) : (sameAddr ⟨a, 0, none⟩ ⟨b, 0, none⟩).run Tryz.prog w = .ok (a == b) w := by
 obtain ⟨_, _, h1, _⟩ := ha
 obtain ⟨_, _, h2, _⟩ := hb
 have f1 : ∀ k, w.frozen? ⟨a, k, none⟩ = false := fun k => by unfold World.frozen?; simp [h1]
 have f2 : ∀ k, w.frozen? ⟨b, k, none⟩ = false := fun k => by unfold World.frozen?; simp [h2]
 unfold sameAddr
 by_cases hd : a = b
 ·subst hd
  simp
 ·have s1 : ∃ n, w.shape? a = some (121, n) := by unfold World.shape?; simp [h1]
  have s2 : ∃ n, w.shape? b = some (121, n) := by unfold World.shape?; simp [h2]
  obtain ⟨n1, s1⟩ := s1
  obtain ⟨n2, s2⟩ := s2
  have hdd : (a == b) = false := by simpa using hd
  simp [hdd, f1, f2, noView, viewAt, s1, s2, mayBeOne, stringish]
theorem eqi {w : World} {a b : Nat} {x y : Nd} (ha : nodeAt w a x) (hb : nodeAt w b y) (d : Nat) : (Op.equalIn (d + 1) 68 (.pointer (some ⟨a, 0, none⟩)) (.pointer (some ⟨b, 0, none⟩))).run Tryz.prog w = .ok (a == b) w := by
 simp [Op.equalIn, Go.Am.run_underlying und68, Go.Am.run_sizeOf siz121, sameAddr_nodes ha hb]
theorem eqb_run {w : World} {op : Bool} {a b : Nat} {x y : Nd} (ha : nodeAt w a x) (hb : nodeAt w b y) : Sem.run Tryz.prog (binOp (if op then .eql else .neq) 68 (.pointer (some ⟨a, 0, none⟩)) (.pointer (some ⟨b, 0, none⟩))) w = .ok (.bool (if op then decide (a = b) else !decide (a = b))) w := by
 cases op
 ·simp only [Bool.false_eq_true, if_false, binOp]
  simp [Op.equal, Op.maxDepth, eqi ha hb]
  by_cases h : a = b <;> simp [h]
 ·simp only [if_true, binOp]
  simp [Op.equal, Op.maxDepth, eqi ha hb]
  by_cases h : a = b <;> simp [h]
def entP (x : Nat × Value × Nat) : MapEntry := ⟨ptrN x.1, x.2.1, x.2.2⟩
def lookP : List (Nat × Value × Nat) → Nat → Nat → Option (Nat × Value)
 | [], _, _ => none
 | x :: es, k, i => if k = x.1 then some (i, x.2.1) else lookP es k (i + 1)
theorem findAsk {w : World} {a : Nat} {x : Nd} (ha : nodeAt w a x) : ∀ (es : List (Nat × Value × Nat)) (i : Nat), (∀ e ∈ es, ∃ y, nodeAt w e.1 y) → (Instr.findAsking 68 (ptrN a) (es.map entP) i).run Tryz.prog w = .ok (lookP es a i) w
 | [], i, _ => rfl
 | e :: es, i, h => by
  obtain ⟨y, hy⟩ := h e (List.mem_cons_self ..)
  have ih := findAsk ha es (i + 1) fun e' he => h e' (List.mem_cons_of_mem _ he)
  have hq := eqi ha hy 9999
  simp only [List.map_cons, Instr.findAsking, Sem.run_bind, entP, ptrN, Op.equal, Op.maxDepth, lookP] at hq ih ⊢
  rw [hq]
  simp only [Result.andThen_ok]
  by_cases hk : a = e.1
  ·subst hk; simp
  ·have : (a == e.1) = false := by simpa using hk
   simp only [this, Bool.false_eq_true, if_false, if_neg hk]
   exact ih
theorem findKey68 {w : World} {a : Nat} {x : Nd} (ha : nodeAt w a x) (es : List (Nat × Value × Nat)) (h : ∀ e ∈ es, ∃ y, nodeAt w e.1 y) : (Instr.findKey 68 (ptrN a) (es.map entP)).run Tryz.prog w = .ok (lookP es a 0) w := by
 simp only [Instr.findKey, Sem.run_bind, Am.run_underlying und68, Result.andThen_ok]
 cases es with
 | nil => rfl
 | cons e es =>
  have : Instr.findNow (.pointer 121) (ptrN a) ((e :: es).map entP) 0 = none := by
   simp [Instr.findNow, Instr.sameNow]
  rw [this]
  exact findAsk ha _ 0 h
theorem lookup129 {w : World} {vb c a : Nat} {x : Nd} {es : List (Nat × Value × Nat)} (hb : w.heap[vb]? = some (.map (es.map entP).toArray c)) (ha : nodeAt w a x) (h : ∀ e ∈ es, ∃ y, nodeAt w e.1 y) :
  (Instr.lookup 129 (.map (some vb)) (ptrN a) false).run Tryz.prog w = .ok (match lookP es a 0 with | some x => x.2 | none => .int .i64 0) w := by
 have hg := run_getObj (P := Tryz.prog) hb (by simp)
 simp only [Instr.lookup, Sem.run_bind, Am.run_underlying und129, Result.andThen_ok, hg, Sem.run_pure, check68, findKey68 ha es h]
 cases lookP es a 0 with
 | none => simp [zero3]
 | some x => simp
def setP : List (Nat × Value × Nat) → Nat → Value → Nat → List (Nat × Value × Nat)
 | [], a, v, c => [(a, v, c)]
 | x :: es, a, v, c => if a = x.1 then (x.1, v, x.2.2) :: es else x :: setP es a v c
def clkP (es : List (Nat × Value × Nat)) (a c : Nat) : Nat := if (lookP es a 0).isSome then c else c + 1
theorem lookP_shift : ∀ (es : List (Nat × Value × Nat)) (a i : Nat), lookP es a i = (lookP es a 0).map fun x => (x.1 + i, x.2)
 | [], a, i => rfl
 | x :: es, a, i => by
  simp only [lookP]
  by_cases h : a = x.1
  ·simp [h]
  ·rw [if_neg h, if_neg h, lookP_shift es a (i + 1), lookP_shift es a 1, Option.map_map]
   congr 1
   funext y
   simp only [Function.comp, Prod.mk.injEq, and_true]
   omega
theorem setP_none : ∀ {es : List (Nat × Value × Nat)} {a : Nat} {v : Value} {c : Nat}, lookP es a 0 = none → setP es a v c = es ++ [(a, v, c)]
 | [], _, _, _, _ => rfl
 | x :: es, a, v, c, h => by
  simp only [lookP] at h
  by_cases hx : a = x.1
  ·rw [if_pos hx] at h; cases h
  ·rw [if_neg hx, lookP_shift, Option.map_eq_none_iff] at h
   simp only [setP, if_neg hx, setP_none h, List.cons_append]
theorem setP_some : ∀ {es : List (Nat × Value × Nat)} {a : Nat} {v u : Value} {c i : Nat}, lookP es a 0 = some (i, u) → (∃ x, es[i]? = some x ∧ x.1 = a) ∧ (setP es a v c).map entP = (es.map entP).modify i fun e => { e with key := ptrN a, val := v }
 | [], _, _, _, _, _, h => by cases h
 | x :: es, a, v, u, c, i, h => by
  simp only [lookP] at h
  by_cases hx : a = x.1
  ·rw [if_pos hx] at h
   cases h
   subst hx
   refine ⟨⟨x, rfl, rfl⟩, ?_⟩
   simp [setP, entP]
  ·rw [if_neg hx, lookP_shift] at h
   simp only [Option.map_eq_some_iff] at h
   obtain ⟨⟨j, u'⟩, hj, he⟩ := h
   simp only [Prod.mk.injEq] at he
   obtain ⟨rfl, rfl⟩ := he
   obtain ⟨h1, h2⟩ := setP_some (v := v) (c := c) hj
   refine ⟨by simpa using h1, ?_⟩
   simp only [setP, if_neg hx, List.map_cons, h2, List.modify_succ_cons]
theorem update129 {w : World} {vb c a : Nat} {x : Nd} {es : List (Nat × Value × Nat)} (hb : w.heap[vb]? = some (.map (es.map entP).toArray c)) (ha : nodeAt w a x) (h : ∀ e ∈ es, ∃ y, nodeAt w e.1 y) (v : Value) :
  (Instr.mapUpdate 129 (.map (some vb)) (ptrN a) v).run Tryz.prog w = .ok () (ChangeMaps.setBlock w vb (.map ((setP es a v c).map entP).toArray (clkP es a c))) := by
 have hg := run_getObj (P := Tryz.prog) hb (by simp)
 simp only [Instr.mapUpdate, Sem.run_bind, Am.run_underlying und129, Result.andThen_ok, hg, Sem.run_pure, check68, findKey68 ha es h]
 cases hl : lookP es a 0 with
 | none =>
  have hst := run_setObj (P := Tryz.prog) (o' := .map ((es.map entP).toArray.push (entP (a, v, c))) (c + 1)) hb (by simp)
  have e : ((setP es a v c).map entP).toArray = (es.map entP).toArray.push (entP (a, v, c)) := by rw [setP_none hl]; simp
  rw [e]
  simp only [clkP, hl, Option.isSome_none, Bool.false_eq_true, if_false]
  exact hst
 | some iu =>
  obtain ⟨i, u⟩ := iu
  obtain ⟨⟨y, hy, hya⟩, h2⟩ := setP_some (v := v) (c := c) hl
  have hst := run_setObj (P := Tryz.prog) (o' := .map ((es.map entP).toArray.modify i fun e => { e with key := ptrN a, val := v }) c) hb (by simp)
  have e : ((setP es a v c).map entP).toArray = (es.map entP).toArray.modify i fun e => { e with key := ptrN a, val := v } := by rw [h2]; simp
  rw [e]
  have hs : Instr.sameBits 10000 (ptrN a) (ptrN a) = true := by simp [ptrN, Instr.sameBits]
  have hy' : ((es.map entP).toArray[i]?).map (·.key) = some (ptrN a) := by simp [hy, entP, hya]
  simp only [clkP, hl, Option.isSome_some, if_true, hy', Option.getD_some, Instr.keyThatStays, hs, Sem.run_pure, Result.andThen_ok]
  exact hst
end Go.Proofs.YtnmolpkkemljoaaGreatDoor
end