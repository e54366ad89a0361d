/-
  What the proof is built of: Unify: what the joined graph says, in plain words. Unify: the unifier that the graph says, and that it is the most general one. Unify: the one most general unifier. Unify: whole, between two parts. Unify: whole, behind its parts. Unify: whole's walk over a node. Unify: whole. Unify: tied, between two parts. Unify: tied, where a node is made. Unify: tied, whole. Unify: the map of bindings, between two variables. Unify: the deferred closure, stopped. Unify: check. Unify: the way out. Unify: the walk. Conditions: none.
-/
import Derived.Test.YtnmolpkkemljoaaGreatDoorM17
import Derived.Test.YtnmolpkkemljoaaGreatDoorM18
import Derived.Test.YtnmolpkkemljoaaGreatDoorM8
import Derived.Laws.AppendOwn
import Derived.Deep.CutRange
import Derived.RegionDies
import Derived.Deep.Cut
import Derived.Test.YtnmolpkkemljoaaGreatDoorM15
import Derived.Defers
import Derived.Recover
import Derived.Laws.Pointers
import Derived.Test.YtnmolpkkemljoaaGreatDoorM16
import Derived.Test.YtnmolpkkemljoaaGreatDoorM6
import Derived.Test.YtnmolpkkemljoaaGreatDoorM10
set_option linter.unusedVariables false
set_option linter.unusedSimpArgs false
set_option maxHeartbeats 8000000
set_option maxRecDepth 100000
section
namespace Go.Proofs.YtnmolpkkemljoaaGreatDoor
open Go Go.RowKit Go.Am Kd
theorem start_okg {G : Grf} {vs : Vs} {τ : Nat → Ty} (h : TreeG G vs τ) : Okg G (fun b => b) (fun _ => 0) where
 roots := ⟨fun _ _ _ _ => rfl, fun b x c hx hc => by rw [h.ld b x hx] at hc; cases hc⟩
 zero := fun _ _ _ _ => rfl
 ar := h.ar
 kind := fun b x r hx hr _ => by rw [hx] at hr; cases hr; rfl
 least := fun b x r hx hr _ _ => by rw [hx] at hr; cases hr; exact Int.le_refl _
 ld := fun b x c hx hc => by rw [h.ld b x hx] at hc; cases hc
 kids := h.kids
theorem congr_n {G G' : Grf} {vs : Vs} {τ : Nat → Ty} {ρ' d' : Nat → Nat} {a b : Nat} (hT : TreeG G vs τ) (ho : Okg G' ρ' d') (he : Ext G G') (hc : Cng G G' ρ' a b) :
  ∀ (n c : Nat) (x : Nd), d' c ≤ n → G c = some x → x.k ≠ 6 → ∃ y, G (ρ' c) = some y ∧ y.k = x.k ∧ ∀ (j p q : Nat), x.kids[j]? = some p → y.kids[j]? = some q → ρ' p = ρ' q := by
 intro n
 induction n with
 | zero =>
  intro c x hn hx hk
  obtain ⟨t, h1, _⟩ := he.fwd c x hx
  cases ht : t with
  | none =>
   subst ht
   have : ρ' c = c := ho.roots.root c _ h1 rfl
   rw [this]
   exact ⟨x, hx, rfl, fun j p q hp hq => by rw [hp] at hq; cases hq; rfl⟩
  | some e =>
   subst ht
   have := (ho.roots.step c _ e h1 rfl).2
   omega
 | succ n ih =>
  intro c x hn hx hk
  obtain ⟨t, h1, _⟩ := he.fwd c x hx
  cases ht : t with
  | none =>
   subst ht
   have : ρ' c = c := ho.roots.root c _ h1 rfl
   rw [this]
   exact ⟨x, hx, rfl, fun j p q hp hq => by rw [hp] at hq; cases hq; rfl⟩
  | some e =>
   subst ht
   obtain ⟨s1, s2⟩ := ho.roots.step c _ e h1 rfl
   obtain ⟨y, hy, hyk, hkid⟩ := hc.kids c x _ e hx (hT.ld c x hx) hk h1 rfl
   obtain ⟨z, hz, hzk, hkz⟩ := ih e y (by omega) hy (by rw [hyk]; exact hk)
   refine ⟨z, by rw [s1]; exact hz, hzk.trans hyk, fun j p q hp hq => ?_⟩
   have hl : j < y.kids.length := by
    rw [hT.ar e y hy, hyk, ← hT.ar c x hx]
    exact (List.getElem?_eq_some_iff.1 hp).1
   have hm : y.kids[j]? = some y.kids[j] := List.getElem?_eq_getElem hl
   exact (hkid j p _ hp hm).trans (hkz j _ q hm hq)
structure Joined (G G' : Grf) (vs : Vs) (τ : Nat → Ty) (ρ' d' : Nat → Nat) (a b : Nat) (S : Nat → Prop) (R : Nat → Nat) : Prop where
 tree : TreeG G vs τ
 ok : Okg G' ρ' d'
 ext : Ext G G'
 cng : Cng G G' ρ' a b
 over : ∀ c x, G' c = some x → S c → ∀ k ∈ x.kids, S (ρ' k) ∧ R (ρ' k) < R c
section
variable {G G' : Grf} {vs : Vs} {τ : Nat → Ty} {ρ' d' : Nat → Nat} {a b : Nat} {S : Nat → Prop} {R : Nat → Nat}
theorem Joined.part (h : Joined G G' vs τ ρ' d' a b S R) {c : Nat} {x : Nd} (hx : G c = some x) (hk : x.k ≠ 6) (hS : S (ρ' c)) : ∀ p ∈ x.kids, S (ρ' p) := by
 intro p hp
 obtain ⟨y, hy, hyk, hkid⟩ := congr_n h.tree h.ok h.ext h.cng (d' c) c x (Nat.le_refl _) hx hk
 obtain ⟨j, hj⟩ := List.getElem?_of_mem hp
 have hl : j < y.kids.length := by
  rw [h.tree.ar _ y hy, hyk, ← h.tree.ar c x hx]
  exact (List.getElem?_eq_some_iff.1 hj).1
 rw [hkid j p _ hj (List.getElem?_eq_getElem hl)]
 obtain ⟨t, h1, _⟩ := h.ext.fwd _ y hy
 exact (h.over _ _ h1 hS _ (List.getElem_mem hl)).1
theorem Joined.covers (h : Joined G G' vs τ ρ' d' a b S R) (n : Int) (t : Ty) (hO : Occ n t) : ∀ (c : Nat) (x : Nd), okT t = true → G c = some x → τ c = cleanT t → S (ρ' c) → ∀ e, vget vs n = some e → S (ρ' e) := by
 induction hO with
 | var bb l =>
  intro c x ho hx hc hS e he
  have := h.tree.node c x hx
  rw [hc] at this
  split at this
  ·rename_i h6
   simp only [cleanT, if_true, varT] at this
   have hn : n = x.n := (Ty.mk.inj this).2.1
   have hv := h.tree.var c x hx h6
   rw [← hn, he] at hv
   cases hv
   exact hS
  ·rename_i h6
   simp only [cleanT] at this
   exact absurd (Ty.mk.inj this).1.symm h6
 | part hk hx' hO ih =>
  rename_i k m bb l z
  intro c x ho hx hc hS e he
  have := h.tree.node c x hx
  rw [hc] at this
  split at this
  ·rename_i h6
   simp only [cleanT, varT] at this
   exact absurd (Ty.mk.inj this).1 hk
  ·rename_i h6
   simp only [cleanT] at this
   have hl := (Ty.mk.inj this).2.2.2
   obtain ⟨j, hj⟩ := List.getElem?_of_mem hx'
   have hcl : ∀ (l : List Ty) (j : Nat) (x : Ty), l[j]? = some x → (cleanL l)[j]? = some (cleanT x) := by
    intro l
    induction l with
    | nil => intro j x hx; simp at hx
    | cons z l ih =>
     intro j x hx
     cases j with
     | zero => simp at hx; subst hx; simp [cleanL]
     | succ j => simp at hx; simpa [cleanL] using ih j x hx
   have h1 := hcl l j z hj
   rw [hl, List.getElem?_map] at h1
   cases hp : x.kids[j]? with
   | none => rw [hp] at h1; cases h1
   | some p =>
    rw [hp] at h1
    obtain ⟨y, hy⟩ := h.tree.kids c x p hx (List.mem_of_getElem? hp)
    exact ih p y (okL_mem (ok_node ho).2 z hx') hy (Option.some.inj h1) (h.part hx h6 hS p (List.mem_of_getElem? hp)) e he
end
def wOf (G : Grf) (ρ : Nat → Nat) : Nat → Nat → Ty
 | 0, _ => varT 0
 | n + 1, c => match G (ρ c) with
  | some r => if r.k = 6 then varT r.n else .mk r.k 0 (nilB r.kids) (r.kids.map (wOf G ρ n))
  | none => varT 0
def wAt (G : Grf) (ρ R : Nat → Nat) (c : Nat) : Ty := wOf G ρ (R (ρ c) + 1) c
section
variable {G G' : Grf} {vs : Vs} {τ : Nat → Ty} {ρ' d' : Nat → Nat} {a b : Nat} {S : Nat → Prop} {R : Nat → Nat}
theorem Joined.fuel (h : Joined G G' vs τ ρ' d' a b S R) : ∀ (n c : Nat), S (ρ' c) → R (ρ' c) < n → wOf G' ρ' n c = wAt G' ρ' R c := by
 have key : ∀ (m n c : Nat), S (ρ' c) → R (ρ' c) < n → R (ρ' c) < m → wOf G' ρ' n c = wOf G' ρ' m c := by
  intro m
  induction m with
  | zero => intro n c _ _ h; omega
  | succ m ih =>
   intro n c hS hn hm
   obtain ⟨n, rfl⟩ : ∃ k, n = k + 1 := ⟨n - 1, by omega⟩
   simp only [wOf]
   cases hr : G' (ρ' c) with
   | none => rfl
   | some r =>
    simp only
    split
    ·rfl
    ·congr 1
     apply List.map_congr_left
     intro k hk
     obtain ⟨h1, h2⟩ := h.over _ r hr hS k hk
     exact ih n k h1 (by omega) (by omega)
 intro n c hS hn
 exact key _ n c hS hn (Nat.lt_succ_self _)
theorem Okg.idem {G : Grf} {ρ d : Nat → Nat} (h : Okg G ρ d) {b : Nat} {x : Nd} (hb : G b = some x) : ρ (ρ b) = ρ b := by
 obtain ⟨r, h1, h2⟩ := h.rooted hb
 exact h.roots.root _ r h1 h2
theorem Joined.wok (h : Joined G G' vs τ ρ' d' a b S R) : Wok (fun c => S (ρ' c)) G' ρ' (wAt G' ρ' R) := by
 intro c x hx hS
 have hi := h.ok.idem hx
 refine ⟨?_, by show S (ρ' (ρ' c)); rw [hi]; exact hS, fun hl => ?_⟩
 ·simp only [wAt, hi, wOf]
 ·have hr := h.ok.roots.root c x hx hl
  rw [hr] at hS
  have hov := h.over c x hx hS
  refine ⟨?_, fun k hk => (hov k hk).1⟩
  simp only [wAt, hr, wOf, hx]
  split
  ·rfl
  ·congr 1
   apply List.map_congr_left
   intro k hk
   exact h.fuel _ k (hov k hk).1 (hov k hk).2
end
end Go.Proofs.YtnmolpkkemljoaaGreatDoor
end
section
namespace Go.Proofs.YtnmolpkkemljoaaGreatDoor
open Go Go.RowKit Go.Am Kd
def sigG (G : Grf) (vs : Vs) (ρ R : Nat → Nat) (n : Int) : Ty := match vget vs n with
 | some b => wAt G ρ R b
 | none => varT n
section
variable {G G' : Grf} {vs : Vs} {τ : Nat → Ty} {ρ' d' : Nat → Nat} {a b : Nat} {S : Nat → Prop} {R : Nat → Nat}
theorem Joined.atRoot (h : Joined G G' vs τ ρ' d' a b S R) {c : Nat} {x : Nd} (hx : G c = some x) : ∃ r r', G (ρ' c) = some r ∧ G' (ρ' c) = some r' ∧ r'.k = r.k ∧ r'.n = r.n ∧ r'.kids = r.kids ∧ r'.ld = none := by
 obtain ⟨t, h1, _⟩ := h.ext.fwd c x hx
 obtain ⟨r', h2, h3⟩ := h.ok.rooted h1
 obtain ⟨r, h4, h5, _⟩ := h.ext.old h2
 exact ⟨r, r', h4, h2, by rw [h5], by rw [h5], by rw [h5], h3⟩
theorem Joined.wEq (h : Joined G G' vs τ ρ' d' a b S R) {c : Nat} {x r : Nd} (hx : G c = some x) (hr : G (ρ' c) = some r) (hS : S (ρ' c)) :
  wAt G' ρ' R c = if r.k = 6 then varT r.n else .mk r.k 0 (nilB r.kids) (r.kids.map (wAt G' ρ' R)) := by
 obtain ⟨r1, r', h1, h2, h3, h4, h5, h6⟩ := h.atRoot hx
 rw [hr] at h1
 cases h1
 obtain ⟨t, q1, _⟩ := h.ext.fwd c x hx
 obtain ⟨w1, w2, _⟩ := h.wok c _ q1 hS
 have hi := h.ok.idem q1
 have hS' : S (ρ' (ρ' c)) := by rw [hi]; exact hS
 rw [w1, ((h.wok (ρ' c) r' h2 hS').2.2 h6).1, h3, h4, h5]
theorem Joined.sub (h : Joined G G' vs τ ρ' d' a b S R) : (∀ t, ∀ (c : Nat) (x : Nd), okT t = true → G c = some x → τ c = cleanT t → S (ρ' c) → wAt G' ρ' R c = subT (sigG G' vs ρ' R) t) ∧
  (∀ l, ∀ (ks : List Nat), okL l = true → ks.map τ = cleanL l → (∀ k ∈ ks, (∃ y, G k = some y) ∧ S (ρ' k)) → ks.map (wAt G' ρ' R) = subL (sigG G' vs ρ' R) l) := by
 refine Ty.ind (fun k n bb l ih => ?_) (fun ks _ hk _ => ?_) (fun t l h1 h2 => ?_)
 ·intro c x ho hx hc hS
  obtain ⟨ho1, ho2⟩ := ok_node ho
  have hn := h.tree.node c x hx
  rw [hc] at hn
  by_cases hk : k = 6
  ·subst hk
   split at hn
   ·rename_i h6
    simp only [cleanT, if_true, varT] at hn
    have hnn : n = x.n := (Ty.mk.inj hn).2.1
    have hv := h.tree.var c x hx h6
    simp only [subT, if_true, sigG, hnn, hv]
   ·rename_i h6
    simp only [cleanT] at hn
    exact absurd (Ty.mk.inj hn).1.symm h6
  ·split at hn
   ·rename_i h6
    simp only [cleanT, varT] at hn
    exact absurd (Ty.mk.inj hn).1 hk
   ·rename_i h6
    simp only [cleanT] at hn
    obtain ⟨e1, _, _, e4⟩ := Ty.mk.inj hn
    obtain ⟨r, hr, hrk, hkid⟩ := congr_n h.tree h.ok h.ext h.cng (d' c) c x (Nat.le_refl _) hx h6
    rw [h.wEq hx hr hS, if_neg (by rw [hrk]; exact h6), subT, if_neg hk]
    have hlen : r.kids.length = x.kids.length := by rw [h.tree.ar _ r hr, hrk, h.tree.ar c x hx]
    have hmap : r.kids.map (wAt G' ρ' R) = x.kids.map (wAt G' ρ' R) := by
     apply List.ext_getElem?
     intro j
     rw [List.getElem?_map, List.getElem?_map]
     cases hj : x.kids[j]? with
     | none =>
      have : r.kids[j]? = none := by rw [List.getElem?_eq_none_iff] at hj ⊢; omega
      rw [this]
     | some p =>
      have hl : j < r.kids.length := by rw [hlen]; exact (List.getElem?_eq_some_iff.1 hj).1
      rw [List.getElem?_eq_getElem hl, Option.map_some, Option.map_some]
      have hpq := hkid j p _ hj (List.getElem?_eq_getElem hl)
      simp only [wAt, hpq, wOf]
    have hll : l.length = x.kids.length := by
     have := congrArg List.length e4
     rw [cleanL_len, List.length_map] at this
     exact this
    have hnl : nilB r.kids = nilB l := by simp only [nilB, hlen, hll]
    rw [hmap, hnl, hrk, ← e1, ih x.kids ho2 e4.symm fun p hp => ⟨h.tree.kids c x p hx hp, h.part hx h6 hS p hp⟩]
 ·have : ks = [] := by
   have := congrArg List.length hk
   simpa [cleanL] using this
  subst this
  rfl
 ·intro ks ho hks hall
  cases ks with
  | nil => simp [cleanL] at hks
  | cons p ks =>
   simp only [List.map_cons, cleanL, List.cons.injEq] at hks
   simp only [okL, Bool.and_eq_true] at ho
   obtain ⟨⟨y, hy⟩, hp⟩ := hall p (by simp)
   simp only [List.map_cons, subL]
   rw [h1 p y ho.1 hy hks.1 hp, h2 ks ho.2 hks.2 fun q hq => hall q (by simp [hq])]
theorem sub_cons {θ : Int → Ty} (hT : TreeG G vs τ) : Cons (fun c => subT θ (τ c)) G := by
 intro c x hx
 refine ⟨fun hk => ?_, fun e he => by rw [hT.ld c x hx] at he; cases he⟩
 have hs : ∀ l : List Nat, subL θ (l.map τ) = l.map fun c => subT θ (τ c) := by
  intro l
  induction l with
  | nil => rfl
  | cons p l ih => simp only [List.map_cons, subL, ih]
 show subT θ (τ c) = _
 rw [hT.node c x hx, if_neg hk, subT, if_neg hk, hs]
 simp only [nilB, List.length_map]
theorem sub_of_clean (θ : Int → Ty) : (∀ t, subT θ (cleanT t) = subT θ t) ∧ ∀ l, subL θ (cleanL l) = subL θ l :=
 Ty.ind (fun k n b l ih => by
  by_cases h6 : k = 6
  ·simp only [cleanT, subT, if_pos h6]
  ·simp only [cleanT, subT, if_neg h6, ih, nilB, cleanL_len]) rfl fun x xs h1 h2 => by simp only [cleanL, subL, h1, h2]
theorem Joined.general (h : Joined G G' vs τ ρ' d' a b S R) {v : Nat → Ty} (hv : Cons v G') {θ : Int → Ty} (hθ : ∀ c x, G c = some x → x.k = 6 → v c = θ x.n) :
  ∀ (m c : Nat) (x : Nd), R (ρ' c) < m → G c = some x → S (ρ' c) → v c = subT θ (wAt G' ρ' R c) := by
 intro m
 induction m with
 | zero => intro c x h; omega
 | succ m ih =>
  intro c x hm hx hS
  obtain ⟨r, r', h1, h2, h3, h4, h5, h6⟩ := h.atRoot hx
  obtain ⟨t, q1, _⟩ := h.ext.fwd c x hx
  rw [h.wEq hx h1 hS, hv.root h.ok q1]
  split
  ·rename_i hk
   rw [hθ _ r h1 hk]
   simp only [varT, subT, if_true]
  ·rename_i hk
   have hov := h.over _ r' h2 hS
   rw [(hv (ρ' c) r' h2).1 (by rw [h3]; exact hk), subT, if_neg hk, h3, h5]
   have hs : ∀ l : List Nat, (∀ k ∈ l, v k = subT θ (wAt G' ρ' R k)) → l.map v = subL θ (l.map (wAt G' ρ' R)) := by
    intro l hl
    induction l with
    | nil => rfl
    | cons p l ihl => simp only [List.map_cons, subL, hl p (by simp), ihl fun k hk => hl k (by simp [hk])]
   rw [hs r.kids fun k hk => ?_]
   ·simp only [nilB, List.length_map]
   ·obtain ⟨y, hy⟩ := h.tree.kids _ r k h1 hk
    obtain ⟨o1, o2⟩ := hov k (by rw [h5]; exact hk)
    exact ih k y (by omega) hy o1
end
end Go.Proofs.YtnmolpkkemljoaaGreatDoor
end
section
namespace Go.Proofs.YtnmolpkkemljoaaGreatDoor
open Go Go.RowKit Go.Am Kd
structure CanMgu (σ : Int → Ty) (t u : Ty) : Prop where
 one : subT σ t = subT σ u
 gen : ∀ θ : Int → Ty, subT θ t = subT θ u → ∀ n, θ n = subT θ (σ n)
 clean : ∀ n, subT varT (σ n) = σ n
 rep : ∀ n m, σ n = varT m → σ m = varT m ∧ m ≤ n
 off : ∀ n, ¬ Occ n t → ¬ Occ n u → σ n = varT n
 good : ∀ n, σ n ≠ varT n → okT (σ n) = true
theorem CanMgu.symm {σ : Int → Ty} {t u : Ty} (h : CanMgu σ t u) : CanMgu σ u t :=
 ⟨h.one.symm, fun θ e => h.gen θ e.symm, h.clean, h.rep, fun n h1 h2 => h.off n h2 h1, h.good⟩
theorem varT_of {x : Ty} (h : subT varT x = x) (hk : x.kind = 6) : x = varT x.n := by
 obtain ⟨k, n, b, l⟩ := x
 simp only [Ty.kind] at hk
 subst hk
 rw [← h]
 rfl
theorem uniq_aux {σ σ' : Int → Ty} (hc : ∀ n, subT varT (σ' n) = σ' n) (hr : ∀ n m, σ n = varT m → σ m = varT m ∧ m ≤ n) (hr' : ∀ n m, σ' n = varT m → σ' m = varT m ∧ m ≤ n) :
  (∀ x, subT varT x = x → subT σ (subT σ' x) = x → subT σ' x = x) ∧ ∀ l, subL varT l = l → subL σ (subL σ' l) = l → subL σ' l = l := by
 refine Ty.ind (fun k n b l ih h1 h2 => ?_) (fun _ _ => rfl) (fun x l h1 h2 h3 h4 => ?_)
 ·by_cases hk : k = 6
  ·subst hk
   have hx : Ty.mk 6 n b l = varT n := varT_of h1 rfl
   rw [hx] at h2 ⊢
   simp only [varT, subT, if_true] at h2 ⊢
   have hkind : (σ' n).kind = 6 := by
    cases hs : σ' n with
    | mk k' n' b' l' =>
     rw [hs, subT] at h2
     by_cases hk' : k' = 6
     ·exact hk'
     ·rw [if_neg hk'] at h2
      exact absurd (Ty.mk.inj h2).1 hk'
   have hv := varT_of (hc n) hkind
   rw [hv] at h2
   simp only [varT, subT, if_true] at h2
   obtain ⟨_, h5⟩ := hr' n _ hv
   obtain ⟨_, h6⟩ := hr _ n h2
   have : (σ' n).n = n := by omega
   rw [this] at hv
   exact hv
  ·simp only [subT, if_neg hk] at h1 h2 ⊢
   obtain ⟨_, e2, e3, e4⟩ := Ty.mk.inj h1
   obtain ⟨_, _, _, e5⟩ := Ty.mk.inj h2
   rw [ih e4 e5, e2, e3]
 ·simp only [subL, List.cons.injEq] at h3 h4 ⊢
  exact ⟨h1 h3.1 h4.1, h2 h3.2 h4.2⟩
theorem CanMgu.uniq {σ σ' : Int → Ty} {t u : Ty} (h : CanMgu σ t u) (h' : CanMgu σ' t u) : σ = σ' := by
 funext n
 have e1 := h.gen σ' h'.one n
 have e2 := h'.gen σ h.one n
 have := (uniq_aux h'.clean h.rep h'.rep).1 (σ n) (h.clean n) (by rw [← e1, ← e2])
 rw [e1, this]
section
variable {G G' : Grf} {vs : Vs} {τ : Nat → Ty} {ρ' d' : Nat → Nat} {a b : Nat} {S : Nat → Prop} {R : Nat → Nat}
theorem wOf_clean (G : Grf) (ρ : Nat → Nat) : ∀ (n c : Nat), subT varT (wOf G ρ n c) = wOf G ρ n c
 | 0, c => rfl
 | n + 1, c => by
  simp only [wOf]
  cases hr : G (ρ c) with
  | none => rfl
  | some r =>
   simp only
   split
   ·rfl
   ·rename_i hk
    have : ∀ l : List Nat, subL varT (l.map (wOf G ρ n)) = l.map (wOf G ρ n) := by
     intro l
     induction l with
     | nil => rfl
     | cons p l ih => simp only [List.map_cons, subL, ih, wOf_clean G ρ n p]
    rw [subT, if_neg hk, this]
    simp only [nilB, List.length_map]
theorem Joined.okW (h : Joined G G' vs τ ρ' d' a b S R) : ∀ (m c : Nat) (x : Nd), R (ρ' c) < m → G c = some x → S (ρ' c) → okT (wAt G' ρ' R c) = true := by
 intro m
 induction m with
 | zero => intro c x h; omega
 | succ m ih =>
  intro c x hm hx hS
  obtain ⟨r, r', h1, h2, h3, h4, h5, h6⟩ := h.atRoot hx
  rw [h.wEq hx h1 hS]
  obtain ⟨k1, k2, k3⟩ := h.tree.kd _ r h1
  have har := h.tree.ar _ r h1
  split
  ·rename_i hk
   exact ok_mk (k := 6) (n := r.n) (b := true) (l := []) ⟨by decide, by decide, fun _ => rfl, fun h => absurd h (by decide), fun h => absurd h (by decide), fun _ => k3 hk⟩ rfl
  ·rename_i hk
   refine ok_mk ?_ ?_
   ·simp only [NodeOk, List.length_map]
    rw [har]
    unfold arN
    refine ⟨k1, k2, fun h => ?_, fun h => ?_, fun h => ?_, fun h => absurd h hk⟩
    ·rw [if_neg (by omega), if_neg (by omega)]
    ·rw [if_pos h]
    ·rw [if_neg (by omega), if_pos h]
   ·have hov := h.over _ r' h2 hS
    have hl : ∀ l : List Nat, (∀ k ∈ l, k ∈ r.kids) → okL (l.map (wAt G' ρ' R)) = true := by
     intro l
     induction l with
     | nil => intro _; rfl
     | cons p l ihl =>
      intro hal
      obtain ⟨o1, o2⟩ := hov p (by rw [h5]; exact hal p (by simp))
      obtain ⟨y, hy⟩ := h.tree.kids _ r p h1 (hal p (by simp))
      simp only [List.map_cons, okL, Bool.and_eq_true]
      exact ⟨ih p y (by omega) hy o1, ihl fun k hk => hal k (by simp [hk])⟩
    exact hl r.kids fun k hk => hk
theorem Joined.mgu (h : Joined G G' vs τ ρ' d' a b S R) (hco : ∀ v, Cons v G' ↔ (Cons v G ∧ v a = v b)) {t u : Ty} (ht : okT t = true) (hu : okT u = true) {x y : Nd} (ha : G a = some x) (hb : G b = some y) (hta : τ a = cleanT t) (htb : τ b = cleanT u)
  (hSa : S (ρ' a)) (hSb : S (ρ' b)) (hvs : ∀ n e, vget vs n = some e → Occ n t ∨ Occ n u) :
  CanMgu (sigG G' vs ρ' R) t u := by
 have cov : ∀ n e, vget vs n = some e → S (ρ' e) := fun n e he => by
  rcases hvs n e he with h1 | h1
  ·exact h.covers n t h1 a x ht ha hta hSa e he
  ·exact h.covers n u h1 b y hu hb htb hSb e he
 refine ⟨?_, fun θ hθ n => ?_, fun n => ?_, fun n m hm => ?_, fun n h1 h2 => ?_, fun n hne => ?_⟩
 ·rw [← h.sub.1 t a x ht ha hta hSa, ← h.sub.1 u b y hu hb htb hSb]
  simp only [wAt, h.cng.one, wOf]
 ·simp only [sigG]
  cases he : vget vs n with
  | none => simp only [varT, subT, if_true]
  | some e =>
   simp only
   obtain ⟨z, hz, hz6, hzn⟩ := h.tree.vs n e he
   have hv : Cons (fun c => subT θ (τ c)) G' := (hco _).2 ⟨sub_cons h.tree, by
    show subT θ (τ a) = subT θ (τ b)
    rw [hta, htb, (sub_of_clean θ).1, (sub_of_clean θ).1, hθ]⟩
   have hvar : ∀ c x, G c = some x → x.k = 6 → subT θ (τ c) = θ x.n := fun c x hx hk => by
    rw [h.tree.node c x hx, if_pos hk]
    simp only [varT, subT, if_true]
   have := h.general hv (θ := θ) hvar _ e z (Nat.lt_succ_self _) hz (cov n e he)
   rw [← this]
   show θ n = subT θ (τ e)
   rw [hvar e z hz hz6, hzn]
 ·simp only [sigG]
  split
  ·exact wOf_clean _ _ _ _
  ·rfl
 ·simp only [sigG] at hm
  cases he : vget vs n with
  | none =>
   rw [he] at hm
   simp only [varT] at hm
   have hnm : n = m := (Ty.mk.inj hm).2.1
   subst hnm
   refine ⟨?_, Int.le_refl _⟩
   simp only [sigG, he]
  | some e =>
   rw [he] at hm
   simp only at hm
   obtain ⟨z, hz, hz6, hzn⟩ := h.tree.vs n e he
   have hSe := cov n e he
   obtain ⟨r, r', h1, h2, h3, h4, h5, h6⟩ := h.atRoot hz
   have hw := h.wEq hz h1 hSe
   rw [hm] at hw
   split at hw
   ·rename_i hk
    have hmn : m = r.n := (Ty.mk.inj hw).2.1
    have hv := h.tree.var _ r h1 hk
    rw [← hmn] at hv
    obtain ⟨t1, q1, _⟩ := h.ext.fwd e z hz
    have hi := h.ok.idem q1
    refine ⟨?_, ?_⟩
    ·simp only [sigG, hv]
     have := h.wEq h1 (by rw [hi]; exact h1) (by rw [hi]; exact hSe)
     rw [this, if_pos hk, hmn]
    ·have := h.ok.least e _ r' q1 h2 hz6 (by rw [h3]; exact hk)
     rw [h4] at this
     simp only at this
     omega
   ·rename_i hk
    simp only [varT] at hw
    exact absurd (Ty.mk.inj hw).1.symm hk
 ·simp only [sigG]
  cases he : vget vs n with
  | none => rfl
  | some e =>
   rcases hvs n e he with h3 | h3
   ·exact absurd h3 h1
   ·exact absurd h3 h2
 ·simp only [sigG] at hne ⊢
  cases he : vget vs n with
  | none => rw [he] at hne; exact absurd rfl hne
  | some e =>
   obtain ⟨z, hz, _⟩ := h.tree.vs n e he
   exact h.okW _ e z (Nat.lt_succ_self _) hz (cov n e he)
end
end Go.Proofs.YtnmolpkkemljoaaGreatDoor
end
section
namespace Go.Proofs.YtnmolpkkemljoaaGreatDoor
open Go Go.RowKit Go.Am Kd
structure Lf where
 T : Ty
 p : Option Addr
 n : Nat
 c : Nat
def Lf.cells (x : Lf) : List Value := [.int .i64 x.T.kind, .int .i64 x.T.n, .slice x.p x.n x.c]
def Lf.ok (w : World) (F : Nat → Prop) (x : Lf) : Prop := VRel (shF w F) (.isl x.T.nl none 0 (encL x.T.l)) (.slice x.p x.n x.c)
theorem encL_st : ∀ l, AV.stillL (encL l) = true := encL_still
theorem Lf.ok.mono {w w' : World} {F F' : Nat → Prop} {x : Lf} (h : x.ok w F) (hk : ∀ b, F b → F' b ∧ w'.heap[b]? = w.heap[b]?) : x.ok w' F' := VRel.still (shF_le hk) h (by simp [AV.still, encL_st])
theorem lfs_rel {S : Sh} : ∀ (lfs : List Lf), (∀ x ∈ lfs, VRel S (.isl x.T.nl none 0 (encL x.T.l)) (.slice x.p x.n x.c)) → LRel S (flat (encL (lfs.map (·.T)))) (lfs.flatMap Lf.cells)
 | [], _ => .nil
 | x :: lfs, h => by
  have hx := h x (List.mem_cons_self ..)
  have ih := lfs_rel lfs fun y hy => h y (List.mem_cons_of_mem _ hy)
  have e1 : flat (encL ((x :: lfs).map (·.T))) = [.int .i64 x.T.kind, .int .i64 x.T.n, .isl x.T.nl none 0 (encL x.T.l)] ++ flat (encL (lfs.map (·.T))) := by
   rw [List.map_cons, encL_map, List.map_cons, ← encL_map, enc_D]; rfl
  have e2 : (x :: lfs).flatMap Lf.cells = [.int .i64 x.T.kind, .int .i64 x.T.n, .slice x.p x.n x.c] ++ lfs.flatMap Lf.cells := rfl
  rw [e1, e2]
  exact .cons _ _ _ _ (.int ..) (.cons _ _ _ _ (.int ..) (.cons _ _ _ _ hx ih))
theorem lf_len (lfs : List Lf) : (lfs.flatMap Lf.cells).length = lfs.length * 3 := by
 induction lfs with
 | nil => rfl
 | cons x l ih => simp only [List.flatMap_cons, List.length_append, ih, List.length_cons, Lf.cells]; simp; omega
theorem shF_im {w : World} {F : Nat → Prop} {b o : Nat} (h : F b) : (shF w F).im b o = w.cell? ⟨b, o, none⟩ := by simp [shF, h]
theorem row_rel {w : World} {base : Nat} {pv : Value} {i : Nat} {lfs : List Lf} {F : Nat → Prop} (h : w.ownsRow base 24 3 pv i (lfs.flatMap Lf.cells)) (hi : lfs.length = i) (hn : i = 0 → pv = .slice none 0 0) (ho : ∀ x ∈ lfs, x.ok w F) :
  VRel (shF w fun b => F b ∨ pv.ownBlock = some b) (.isl (nilB (lfs.map (·.T))) none 0 (encL (lfs.map (·.T)))) pv := by
 obtain ⟨h1, ⟨rfl, h2⟩ | ⟨g, cap, cur, rfl, h3, h4, h5, h6, h7, h8⟩⟩ := h
 ·have hl : lfs = [] := List.eq_nil_of_length_eq_zero (by omega)
  subst hl
  exact .islNil _ _
 ·by_cases hz : i = 0
  ·cases hn hz
  ·have hb : nilB (lfs.map (·.T)) = false := by simp only [nilB, List.length_map, decide_eq_false_iff_not]; omega
   rw [hb]
   have hlen : (encL (lfs.map (·.T))).length = i := by rw [encL_length, List.length_map, hi]
   have := VRel.isl (S := shF w fun b => F b ∨ (Value.slice (some ⟨g, 0, none⟩) i cap).ownBlock = some b) none 0 (encL (lfs.map (·.T))) 3 g 0 cap (by omega) (fun v hv => by
    rw [encL_map] at hv
    obtain ⟨t, _, rfl⟩ := List.mem_map.1 hv
    rw [enc_D]; rfl) (CRel.of_cells (lfs_rel lfs fun x hx => (ho x hx).mono fun b hb => ⟨.inl hb, rfl⟩) fun j v hj => by
     rw [shF_im (F := fun b => F b ∨ (Value.slice (some ⟨g, 0, none⟩) i cap).ownBlock = some b) (.inr rfl), Nat.zero_add]
     have h9 := congrArg (fun l : List Value => l[j]?) h8
     simp only [List.getElem?_take] at h9
     have hjl : j < i * 3 := by
      have := (List.getElem?_eq_some_iff.1 hj).1
      rw [lf_len] at this
      omega
     rw [if_pos hjl, hj] at h9
     simp only [World.cell?, h4]
     simpa using h9) (by omega) (fun φ hφ => by cases hφ)
   rw [hlen] at this
   exact this
structure WL (G : Grf) (W : Nat → Ty) (lv wv s tb : Nat) (k cn : Int) (kids : List Nat) (L D : Int) (w : World) (i : Nat) (wr : World) (Li : Int) (pv : Value) (lfs : List Lf) (F : Nat → Prop) : Prop where
 st : WSt G lv wv Li wr
 fr : FrW lv w wr
 res : wr.heap[s]? = some (.cells #[.int .i64 0, .int .i64 0, .slice none 0 0] 24 (0, 0))
 cell : wr.heap[tb]? = some (.cells #[.int .i64 k, .int .i64 cn, pv] 24 (0, 0))
 row : wr.ownsRow tb 24 3 pv i (lfs.flatMap Lf.cells)
 ty : lfs.map (·.T) = (kids.take i).map W
 nil : i = 0 → pv = .slice none 0 0
 ok : ∀ x ∈ lfs, x.ok wr F
 foot : ∀ b, F b → s < b ∧ tb ≠ b ∧ b < wr.heap.size
 own : ∀ g, pv.ownBlock = some g → ¬ F g ∧ g ≠ tb
 left : Li = L - 1 - cntL ((kids.take i).map W)
 pos : 0 ≤ Li
 deep : ∀ T ∈ (kids.take i).map W, D + 1 + depT T ≤ 13
 lo : w.heap.size = s
 hs : s < tb
 hl : lv < s ∧ wv < s
 gN : ∀ b x, G b = some x → b < s ∧ ∀ g, x.row = some g → g < s
theorem ownsRow_heapW {w w' : World} {base : Nat} {e : TypeId} {size : Nat} {v : Value} {n : Nat} {xs : List Value} (h : w.ownsRow base e size v n xs) (hk : ∀ g, v.ownBlock = some g → w'.heap[g]? = w.heap[g]?) : w'.ownsRow base e size v n xs := by
 obtain ⟨h1, h2 | ⟨g, cap, cur, rfl, h3, h4, h5⟩⟩ := h
 ·exact ⟨h1, .inl h2⟩
 ·exact ⟨h1, .inr ⟨g, cap, cur, rfl, h3, (hk g rfl).trans h4, h5⟩⟩
theorem wr_lt {w : World} {b : Nat} {o : Obj} (h : w.heap[b]? = some o) : b < w.heap.size := (Array.getElem?_eq_some_iff.1 h).1
theorem cntL_append (l m : List Ty) : cntL (l ++ m) = cntL l + cntL m := by
 induction l with
 | nil => simp [cntL]
 | cons x l ih => simp only [List.cons_append, cntL, ih]; omega
theorem depG_le : ∀ (l : List Ty) (a m : Int), a ≤ m → (∀ T ∈ l, depT T ≤ m) → depG l a ≤ m
 | [], a, m, h, _ => h
 | x :: l, a, m, h, ht => depG_le l _ m (by have := ht x (List.mem_cons_self ..); omega) fun T hT => ht T (List.mem_cons_of_mem _ hT)
theorem le_depG : ∀ (l : List Ty) (a : Int), a ≤ depG l a ∧ ∀ T ∈ l, depT T ≤ depG l a
 | [], a => ⟨Int.le_refl _, fun _ h => by cases h⟩
 | x :: l, a => by
  obtain ⟨h1, h2⟩ := le_depG l (max a (depT x))
  simp only [depG]
  refine ⟨by omega, fun T hT => ?_⟩
  rcases List.mem_cons.1 hT with rfl | hT
  ·omega
  ·exact h2 T hT
theorem le_cntL : ∀ {l : List Ty} {T : Ty}, T ∈ l → cnt T ≤ cntL l
 | x :: l, T, h => by
  simp only [cntL]
  rcases List.mem_cons.1 h with rfl | h
  ·omega
  ·have := le_cntL h; omega
theorem WSt.off {G : Grf} {lv wv : Nat} {L : Int} {w w' : World} (X : Nat → Prop) (h : WSt G lv wv L w) (hk : ∀ k, k < w.heap.size → ¬ X k → w'.heap[k]? = w.heap[k]?) (h1 : ¬ X lv) (h2 : ¬ X wv) (hX : ∀ b x, G b = some x → ¬ X b ∧ ∀ g, x.row = some g → ¬ X g) : WSt G lv wv L w' :=
 ⟨fun b x hbx => by
   obtain ⟨p, q, g1, g2⟩ := h.grf b x hbx
   exact ⟨p, q, (hk b (h.grf.lt hbx) (hX b x hbx).1).trans g1, g2.keep fun g hg => hk g (h.grf.rowLt hbx hg) ((hX b x hbx).2 g hg)⟩,
  (hk _ (wr_lt h.at1) h1).trans h.at1, (hk _ (wr_lt h.at2) h2).trans h.at2, h.gl, h.rl, h.ne⟩
theorem WL.rowNe {G : Grf} {W : Nat → Ty} {lv wv s tb : Nat} {k cn : Int} {kids : List Nat} {L D : Int} {w : World} {i : Nat} {wr : World} {Li : Int} {pv : Value} {lfs : List Lf} {F : Nat → Prop} (h : WL G W lv wv s tb k cn kids L D w i wr Li pv lfs F) {g : Nat} (hg : pv.ownBlock = some g) : tb < g ∧ g < wr.heap.size := by
 obtain ⟨h1, h2⟩ := h.row.lt g hg
 have := (h.own g hg).2
 exact ⟨by omega, h2⟩
theorem WL.push {G : Grf} {W : Nat → Ty} {lv wv s tb : Nat} {k cn : Int} {kids : List Nat} {L D : Int} {w : World} {i : Nat} {wr : World} {Li : Int} {pv : Value} {lfs : List Lf} {F : Nat → Prop} (h : WL G W lv wv s tb k cn kids L D w i wr Li pv lfs F)
  {e : Nat} (he : kids[i]? = some e) {wn w1 w2 : World} {F' : Nat → Prop} {p : Option Addr} {n c g cap : Nat} (hft : FrW lv wr wn) (hF : ∀ b, F' b → wr.heap.size ≤ b ∧ b < wn.heap.size) (hty : VRel (shF wn F') (.isl (W e).nl none 0 (encL (W e).l)) (.slice p n c)) (hfit : Fits (W e) Li (D + 1)) (hst : WSt G lv wv (Li - cnt (W e)) wn)
  (hb : Below wn.heap.size wn w1) (hrow : w2.ownsRow tb 24 3 (.slice (some ⟨g, 0, none⟩) (i + 1) cap) (i + 1) (lfs.flatMap Lf.cells ++ [.int .i64 (W e).kind, .int .i64 (W e).n, .slice p n c])) (hgr : w1.grownBy w2 pv.ownBlock) (hg : pv.ownBlock = some g ∨ wn.heap.size ≤ g) :
  WL G W lv wv s tb k cn kids L D w (i + 1) (w2.setCell ⟨tb, 2, none⟩ (.slice (some ⟨g, 0, none⟩) (i + 1) cap)) (Li - cnt (W e)) (.slice (some ⟨g, 0, none⟩) (i + 1) cap) (lfs ++ [⟨W e, p, n, c⟩]) (fun b => F b ∨ F' b) := by
 have htb := wr_lt h.cell
 have hs := h.hs
 have hlo := h.lo
 obtain ⟨hl1, hl2⟩ := h.hl
 obtain ⟨t1, t2, t3, t4, t5⟩ := hft
 have hg1 : tb < g := by
  rcases hg with hg | hg
  ·exact (h.rowNe hg).1
  ·omega
 have hset : ∀ j, j ≠ tb → (w2.setCell ⟨tb, 2, none⟩ (.slice (some ⟨g, 0, none⟩) (i + 1) cap)).heap[j]? = w2.heap[j]? := fun j hj => Below.heap_setCell w2 _ _ j hj
 have hsz : w2.heap.size ≤ (w2.setCell ⟨tb, 2, none⟩ (.slice (some ⟨g, 0, none⟩) (i + 1) cap)).heap.size := (Below.setCell (Below.refl 0 w2) (p := ⟨tb, 2, none⟩) (Nat.zero_le _) _).size
 have hsz1 := hb.size
 have hsz2 := hgr.size
 have hne : ∀ j, j ≤ tb → pv.ownBlock ≠ some j := fun j hj e => by have := (h.rowNe e).1; omega
 have hk2 : ∀ j, j < wn.heap.size → pv.ownBlock ≠ some j → w2.heap[j]? = wn.heap[j]? := fun j hj hn => by
  rw [hgr.block j (by omega) (fun e => hn e.symm)]
  exact hb.block j hj
 have htake : (kids.take (i + 1)).map W = (kids.take i).map W ++ [W e] := by
  rw [List.take_add_one, he, List.map_append]; rfl
 obtain ⟨f1, f2⟩ := hfit
 exact
 {st := WSt.off (fun j => j = tb ∨ pv.ownBlock = some j) hst (fun j hj hX => by
    rw [hset j (fun e => hX (.inl e))]
    exact hk2 j hj fun e => hX (.inr e)) (by
    rintro (e | e)
    ·omega
    ·exact hne lv (by omega) e) (by
    rintro (e | e)
    ·omega
    ·exact hne wv (by omega) e) fun b x hbx => by
    obtain ⟨g2, g3⟩ := h.gN b x hbx
    refine ⟨?_, fun r hr => ?_⟩
    ·rintro (e | e)
     ·omega
     ·exact hne b (by omega) e
    ·have := g3 r hr
     rintro (e | e)
     ·omega
     ·exact hne r (by omega) e
  fr := by
   obtain ⟨a1, a2, a3, a4, a5⟩ := h.fr
   refine ⟨by rw [← a1, ← t1, ← hb.os, ← hgr.os]; rfl, by rw [← a2, ← t2, ← hb.tape, ← hgr.tape]; rfl, by rw [← a3, ← t3, ← hb.output, ← hgr.output]; rfl, by omega, fun j hj hn => ?_⟩
   rw [hset j (by omega), hk2 j (by omega) (hne j (by omega)), t5 j (by omega) hn]
   exact a5 j hj hn
  res := by
   rw [hset s (by omega), hk2 s (by omega) (hne s (by omega)), t5 s (by omega) (by omega)]
   exact h.res
  cell := by
   simp only [World.setCell]
   rw [Array.getElem?_modify, if_pos rfl, hk2 tb (by omega) (hne tb (Nat.le_refl _)), t5 tb htb (by omega), h.cell]
   rfl
  row := by
   rw [List.flatMap_append]
   refine ownsRow_heapW (by simpa [Lf.cells] using hrow) fun j e => hset j ?_
   cases e
   show g ≠ tb
   omega
  ty := by rw [List.map_append, h.ty, htake]; rfl
  nil := fun e => by omega
  ok := fun x hx => by
   rcases List.mem_append.1 hx with hx | hx
   ·refine (h.ok x hx).mono fun b hbF => ⟨.inl hbF, ?_⟩
    obtain ⟨q1, q2, q3⟩ := h.foot b hbF
    have hno : pv.ownBlock ≠ some b := fun e => (h.own b e).1 hbF
    rw [hset b (fun e => q2 e.symm), hk2 b (by omega) hno, t5 b q3 (by omega)]
   ·obtain rfl := List.mem_singleton.1 hx
    refine VRel.still (shF_le fun b hbF => ⟨.inr hbF, ?_⟩) hty (by simp [AV.still, encL_st])
    obtain ⟨q1, q2⟩ := hF b hbF
    have hno : pv.ownBlock ≠ some b := fun e => by have := (h.rowNe e).2; omega
    rw [hset b (by omega), hk2 b q2 hno]
  foot := fun b hbF => by
   rcases hbF with hbF | hbF
   ·obtain ⟨q1, q2, q3⟩ := h.foot b hbF
    exact ⟨q1, q2, by omega⟩
   ·obtain ⟨q1, q2⟩ := hF b hbF
    exact ⟨by omega, by omega, by omega⟩
  own := fun r hr => by
   obtain rfl : g = r := by simpa [Value.ownBlock] using hr
   refine ⟨?_, by omega⟩
   rintro (hbF | hbF)
   ·rcases hg with hg | hg
    ·exact (h.own g hg).1 hbF
    ·have := (h.foot g hbF).2.2; omega
   ·obtain ⟨q1, q2⟩ := hF g hbF
    rcases hg with hg | hg
    ·have := (h.rowNe hg).2; omega
    ·omega
  left := by
   rw [htake, cntL_append, h.left]
   simp only [cntL]
   omega
  pos := by omega
  deep := fun T hT => by
   rw [htake] at hT
   rcases List.mem_append.1 hT with hT | hT
   ·exact h.deep T hT
   ·obtain rfl := List.mem_singleton.1 hT
    omega
  lo := h.lo, hs := h.hs, hl := h.hl, gN := h.gN }
end Go.Proofs.YtnmolpkkemljoaaGreatDoor
end
section
namespace Go.Proofs.YtnmolpkkemljoaaGreatDoor
open Go Go.RowKit Go.Am Kd
theorem set3 {w : World} {b : Nat} {x y z x' y' z' : Value} {t : TypeId} (h : w.heap[b]? = some (.cells #[x, y, z] t (0, 0))) : (((w.setCell ⟨b, 0, none⟩ x').setCell ⟨b, 1, none⟩ y').setCell ⟨b, 2, none⟩ z').heap[b]? = some (.cells #[x', y', z'] t (0, 0)) ∧ ∀ k, k ≠ b → (((w.setCell ⟨b, 0, none⟩ x').setCell ⟨b, 1, none⟩ y').setCell ⟨b, 2, none⟩ z').heap[k]? = w.heap[k]? := by
 refine ⟨?_, fun k hk => ?_⟩
 ·simp only [World.setCell]
  rw [Array.getElem?_modify, if_pos rfl, Array.getElem?_modify, if_pos rfl, Array.getElem?_modify, if_pos rfl, h]
  rfl
 ·rw [Below.heap_setCell _ _ _ k hk, Below.heap_setCell _ _ _ k hk, Below.heap_setCell _ _ _ k hk]
theorem WL.done {G : Grf} {W : Nat → Ty} {lv wv s tb n : Nat} {xr : Nd} {cn : Int} {L D : Int} {w : World} {wr : World} {Li : Int} {pv : Value} {lfs : List Lf} {F : Nat → Prop} (h : WL G W lv wv s tb xr.k cn xr.kids L D w xr.kids.length wr Li pv lfs F)
  (hW : W n = if xr.k = 6 then varT xr.n else .mk xr.k 0 (nilB xr.kids) (xr.kids.map W)) (hcn : cn = if xr.k = 6 then xr.n else 0) (h6 : xr.k = 6 → xr.kids = []) (hD : D ≤ 12) :
  WholeSays G W lv wv n L D w (.returned (.agg #[.int .i64 xr.k, .int .i64 cn, pv])) (((wr.setCell ⟨s, 0, none⟩ (.int .i64 xr.k)).setCell ⟨s, 1, none⟩ (.int .i64 cn)).setCell ⟨s, 2, none⟩ pv) := by
 obtain ⟨hs1, hs2⟩ := set3 (x' := .int .i64 xr.k) (y' := .int .i64 cn) (z' := pv) h.res
 have hsz : wr.heap.size ≤ (((wr.setCell ⟨s, 0, none⟩ (.int .i64 xr.k)).setCell ⟨s, 1, none⟩ (.int .i64 cn)).setCell ⟨s, 2, none⟩ pv).heap.size :=
  (((Below.refl 0 wr).setCell (p := ⟨s, 0, none⟩) (Nat.zero_le _) _).setCell (p := ⟨s, 1, none⟩) (Nat.zero_le _) _ |>.setCell (p := ⟨s, 2, none⟩) (Nat.zero_le _) _).size
 have hos : (((wr.setCell ⟨s, 0, none⟩ (.int .i64 xr.k)).setCell ⟨s, 1, none⟩ (.int .i64 cn)).setCell ⟨s, 2, none⟩ pv).os = wr.os ∧ (((wr.setCell ⟨s, 0, none⟩ (.int .i64 xr.k)).setCell ⟨s, 1, none⟩ (.int .i64 cn)).setCell ⟨s, 2, none⟩ pv).tape = wr.tape ∧ (((wr.setCell ⟨s, 0, none⟩ (.int .i64 xr.k)).setCell ⟨s, 1, none⟩ (.int .i64 cn)).setCell ⟨s, 2, none⟩ pv).output = wr.output := ⟨rfl, rfl, rfl⟩
 generalize ((wr.setCell ⟨s, 0, none⟩ (.int .i64 xr.k)).setCell ⟨s, 1, none⟩ (.int .i64 cn)).setCell ⟨s, 2, none⟩ pv = wf at *
 have hlen : lfs.length = xr.kids.length := by
  have := congrArg List.length h.ty
  simpa using this
 have hrel := row_rel h.row hlen h.nil h.ok
 have htk : xr.kids.take xr.kids.length = xr.kids := List.take_length
 have hty := h.ty
 have hleft := h.left
 have hdeep := h.deep
 rw [htk] at hty hleft hdeep
 rw [hty] at hrel
 have hlo := h.lo
 have hst := h.hs
 obtain ⟨hl1, hl2⟩ := h.hl
 have hfr : FrW lv w wf := by
  obtain ⟨a1, a2, a3, a4, a5⟩ := h.fr
  exact ⟨hos.1.trans a1, hos.2.1.trans a2, hos.2.2.trans a3, by omega, fun k hk hn => (hs2 k (by omega)).trans (a5 k hk hn)⟩
 have hfoot : ∀ b, (F b ∨ pv.ownBlock = some b) → s < b ∧ b < wr.heap.size := fun b hb => by
  rcases hb with hb | hb
  ·obtain ⟨q1, q2, q3⟩ := h.foot b hb
   exact ⟨q1, q3⟩
  ·obtain ⟨q1, q2⟩ := h.rowNe hb
   exact ⟨by omega, q2⟩
 have hrel2 : VRel (shF wf fun b => F b ∨ pv.ownBlock = some b) (.isl (nilB (xr.kids.map W)) none 0 (encL (xr.kids.map W))) pv :=
  VRel.still (shF_le fun b hb => ⟨hb, hs2 b (by have := (hfoot b hb).1; omega)⟩) hrel (by simp [AV.still, encL_st])
 have hcnt : (cnt (W n) : Int) = 1 + cntL (xr.kids.map W) ∧ D + depT (W n) ≤ 13 := by
  by_cases hk : xr.k = 6
  ·rw [hW, if_pos hk, h6 hk]
   simp [varT, cnt, cntL, depT, depG]
   omega
  ·rw [hW, if_neg hk]
   simp only [cnt, depT]
   have := depG_le (xr.kids.map W) 0 (12 - D) (by omega) fun T hT => by have := hdeep T hT; omega
   exact ⟨by omega, by omega⟩
 have hpos := h.pos
 refine ⟨hfr, .inl ⟨_, fun b => F b ∨ pv.ownBlock = some b, rfl, fun b hb => ?_, ?_, ⟨by omega, hcnt.2⟩, ?_⟩⟩
 ·obtain ⟨q1, q2⟩ := hfoot b hb
  exact ⟨by omega, by omega⟩
 ·unfold tyF encD
  by_cases hk : xr.k = 6
  ·rw [hW, if_pos hk]
   have hz : pv = .slice none 0 0 := h.nil (by rw [h6 hk]; rfl)
   subst hz
   rw [hcn, if_pos hk, hk]
   exact .agg _ _ (.cons _ _ _ _ (.int ..) (.cons _ _ _ _ (.int ..) (.cons _ _ _ _ (.islNil _ _) .nil)))
  ·rw [hW, if_neg hk]
   rw [hcn, if_neg hk]
   have e : nilB (xr.kids.map W) = nilB xr.kids := by simp only [nilB, List.length_map]
   rw [e] at hrel2
   exact .agg _ _ (.cons _ _ _ _ (.int ..) (.cons _ _ _ _ (.int ..) (.cons _ _ _ _ hrel2 .nil)))
 ·have : L - cnt (W n) = Li := by omega
  rw [this]
  exact WSt.off (fun j => j = s) h.st (fun j hj hX => hs2 j hX) (by omega) (by omega) fun b x hbx => by
   obtain ⟨g1, g2⟩ := h.gN b x hbx
   exact ⟨by omega, fun r hr => by have := g2 r hr; omega⟩
end Go.Proofs.YtnmolpkkemljoaaGreatDoor
end
section
namespace Go.Proofs.YtnmolpkkemljoaaGreatDoor
open Go Go.RowKit Go.Am Kd
theorem news24 (w : World) (x y z : Value) : ∀ (j : Nat) (u : Value), [x, y, z][j]? = some u → (w.alloc (.cells #[x, y, z] 24)).cell? ((⟨w.heap.size, 0, none⟩ : Addr).add j) = some u := by
 intro j u hj
 match j, hj with
 | 0, hj => simp at hj; simp [Addr.add, hj]
 | 1, hj => simp at hj; simp [Addr.add, hj]
 | 2, hj => simp at hj; simp [Addr.add, hj]
theorem one24 (k n : Int) (p : Option Addr) (m c : Nat) : ∀ u ∈ [Value.int .i64 k, Value.int .i64 n, Value.slice p m c], u.oneCell' = true := by
 intro u hu
 simp only [List.mem_cons, List.not_mem_nil, or_false] at hu
 rcases hu with rfl | rfl | rfl <;> rfl
theorem WL.child {G : Grf} {W : Nat → Ty} {lv wv s tb : Nat} {k cn : Int} {kids : List Nat} {L D : Int} {w : World} {i : Nat} {wr wn : World} {Li : Int} {pv : Value} {lfs : List Lf} {F : Nat → Prop} (h : WL G W lv wv s tb k cn kids L D w i wr Li pv lfs F)
  {e : Nat} {e' : Ending} (hfit : Fits (W e) Li (D + 1)) (hs : WholeSays G W lv wv e Li (D + 1) wr.drew e' wn) : FrW lv wr wn ∧ ∃ p nn cc F', e' = .returned (.agg #[.int .i64 (W e).kind, .int .i64 (W e).n, .slice p nn cc]) ∧ (∀ b, F' b → wr.heap.size ≤ b ∧ b < wn.heap.size) ∧ VRel (shF wn F') (.isl (W e).nl none 0 (encL (W e).l)) (.slice p nn cc) ∧ WSt G lv wv (Li - cnt (W e)) wn ∧
   wn.cell? ⟨tb, 2, none⟩ = some pv ∧ wn.frozen? ⟨tb, 2, none⟩ = false ∧ tb < wn.heap.size ∧ wn.ownsRow tb 24 3 pv i (lfs.flatMap Lf.cells) := by
 obtain ⟨hf, ⟨v, F', rfl, h1, h2, _, h3⟩ | ⟨_, h4⟩⟩ := hs
 ·obtain ⟨p, nn, cc, rfl, h5⟩ := h2.agg
  have hf' : FrW lv wr wn := hf
  have htb := wr_lt h.cell
  have hlt : lv < tb := by have := h.hl.1; have := h.hs; omega
  have hc : wn.heap[tb]? = some (.cells #[.int .i64 k, .int .i64 cn, pv] 24 (0, 0)) := (hf'.2.2.2.2 tb htb (by omega)).trans h.cell
  refine ⟨hf', p, nn, cc, F', rfl, h1, h5, h3, by simp [World.cell?, hc], by simp [World.frozen?, hc], wr_lt hc, ownsRow_heapW h.row fun g hg => hf'.2.2.2.2 g (h.rowNe hg).2 (by have := (h.rowNe hg).1; omega)⟩
 ·exact absurd hfit h4
theorem info24 : (Tryz.prog.info? 24).map (fun i => (i.zero, i.size, i.bytes)) = some (some (.agg #[.int .i64 0, .int .i64 0, .slice none 0 0]), 3, 40) := by kernel_rfl
theorem three_cells {w : World} {b : Nat} {x y z : Value} {t : TypeId} (h : w.heap[b]? = some (.cells #[x, y, z] t (0, 0))) : (w.cell? ⟨b, 0, none⟩ = some x ∧ w.cell? ⟨b, 1, none⟩ = some y ∧ w.cell? ⟨b, 2, none⟩ = some z) ∧ w.frozen? ⟨b, 0, none⟩ = false ∧ w.frozen? ⟨b, 1, none⟩ = false ∧ w.frozen? ⟨b, 2, none⟩ = false := by
 simp [World.cell?, World.frozen?, h]
theorem Below.set3 {w1 w2 : World} {o : Obj} {x y z x' y' z' : Value} {t : TypeId} (hb : Below (w1.alloc o).heap.size (w1.alloc o).drew w2) (h : w2.heap[w1.heap.size]? = some (.cells #[x, y, z] t (0, 0))) :
  Below w1.heap.size w1 (((w2.setCell ⟨w1.heap.size, 0, none⟩ x').setCell ⟨w1.heap.size, 1, none⟩ y').setCell ⟨w1.heap.size, 2, none⟩ z') := by
 have h1 : Below w1.heap.size w1 w2 := ⟨hb.os, hb.tape, hb.output, Nat.le_trans (by simp) hb.size, fun k hk => (hb.block k (by simp; omega)).trans (Below.heap_alloc w1 o k hk)⟩
 exact ((h1.setCell (p := ⟨w1.heap.size, 0, none⟩) (Nat.le_refl _) _).setCell (p := ⟨w1.heap.size, 1, none⟩) (Nat.le_refl _) _).setCell (p := ⟨w1.heap.size, 2, none⟩) (Nat.le_refl _) _
theorem whole_go {T : Nat → Prop} {G : Grf} {ρ d : Nat → Nat} {W : Nat → Ty} {lv wv n : Nat} {L D : Int} {w : World} {x : Nd} (ho : Okg G ρ d) (hW : Wok T G ρ W)
  (ih : ∀ (n : Nat) (L : Int) (w : World) (x : Nd), WSt G lv wv L w → G n = some x → T n → 0 ≤ L → L ≤ 60 → Calls Tryz.prog 95 #[ptrN n, .int .i64 (D + 1), ptrN lv, ptrN wv] w (WholeSays G W lv wv n L (D + 1) w))
  (hS : WSt G lv wv L w) (hn : G n = some x) (hTn : T n) (hL0 : 1 ≤ L) (hL1 : L ≤ 60) (hD0 : 1 ≤ D) (hD1 : D ≤ 12) :
  Calls Tryz.prog 95 #[ptrN n, .int .i64 D, ptrN lv, ptrN wv] w (WholeSays G W lv wv n L D w) := by
 have h57 : Calls Tryz.prog 57 #[ptrN n] (w.alloc (.cells #[.int .i64 0, .int .i64 0, .slice none 0 0] 24)) fun e w' => e = .returned (ptrN (ρ n)) ∧ w' = w.alloc (.cells #[.int .i64 0, .int .i64 0, .slice none 0 0] 24) := root_run (hS.grf.alloc _) ho.roots ho.ld n x hn
 obtain ⟨xr, hxr, hxt⟩ := ho.rooted hn
 have hll := (Array.getElem?_eq_some_iff.1 hS.at1).1
 have c1 : w.cell? ⟨lv, 0, none⟩ = some (.int .i64 L) := by simp [World.cell?, hS.at1]
 have f1 : w.frozen? ⟨lv, 0, none⟩ = false := by simp [World.frozen?, hS.at1]
 obtain ⟨hp1, hp2⟩ := hS.put (M := L - 1)
 have hw1s : WSt G lv wv (L - 1) ((w.setCell ⟨lv, 0, none⟩ (.int .i64 (L - 1))).alloc (.cells #[.int .i64 0, .int .i64 0, .slice none 0 0] 24)) := hp1.keep fun k hk => Below.heap_alloc _ _ _ hk
 have hfr : FrW lv w ((w.setCell ⟨lv, 0, none⟩ (.int .i64 (L - 1))).alloc (.cells #[.int .i64 0, .int .i64 0, .slice none 0 0] 24)) := hp2.trans (FrW.below ((Below.refl _ _).alloc (Nat.le_refl _) _))
 have hres : ((w.setCell ⟨lv, 0, none⟩ (.int .i64 (L - 1))).alloc (.cells #[.int .i64 0, .int .i64 0, .slice none 0 0] 24)).heap[w.heap.size]? = some (.cells #[.int .i64 0, .int .i64 0, .slice none 0 0] 24 (0, 0)) := by
  have := heap_alloc_new (w.setCell ⟨lv, 0, none⟩ (.int .i64 (L - 1))) (.cells #[.int .i64 0, .int .i64 0, .slice none 0 0] 24)
  have hs : (w.setCell ⟨lv, 0, none⟩ (.int .i64 (L - 1))).heap.size = w.heap.size := by simp [World.setCell]
  rw [hs] at this
  exact this
 have hrl := hS.grf.lt hxr
 have hwl := wr_lt hS.at2
 have hgn : ∀ b x, G b = some x → b < w.heap.size ∧ ∀ g, x.row = some g → g < w.heap.size := fun b x hx => ⟨hS.grf.lt hx, fun g hg => hS.grf.rowLt hx hg⟩
 unfold ptrN at *
 go_enter Tryz.func95, Tryz.ntmps95
 go_upto_region 4 with (first
  | (go_at_call 57; (with_reducible refine h57.mono ?_); rintro e w' ⟨rfl, hw'⟩; subst w')
  | (go_at_call 66; (with_reducible refine (must_t _ _).mono ?_); rintro e w' ⟨rfl, hw'⟩; subst w'))
 generalize (w.setCell ⟨lv, 0, none⟩ (.int .i64 (L - 1))).alloc (.cells #[.int .i64 0, .int .i64 0, .slice none 0 0] 24) = w1 at *
 clear h57 hp1 hp2 c1 f1 hS
 obtain ⟨s, hs⟩ : ∃ s, s ≤ w.heap.size ∧ w.heap.size ≤ s := ⟨_, Nat.le_refl _, Nat.le_refl _⟩
 have hs1 : w.heap.size = s := by omega
 rw [hs1] at hres hrl hll hwl hgn ⊢
 clear hs1
 obtain ⟨k0, k1⟩ := (hw1s.grf _ _ hxr).cells
 obtain ⟨r, hr⟩ : ∃ r, ρ n = r := ⟨_, rfl⟩
 rw [hr] at k0 k1 hxr hrl ⊢
 have hWr : W n = if xr.k = 6 then varT xr.n else .mk xr.k 0 (nilB xr.kids) (xr.kids.map W) := by
  rw [(hW n x hn hTn).1, hr]
  have hTr := (hW n x hn hTn).2.1
  rw [hr] at hTr
  exact ((hW r xr hxr hTr).2.2 hxt).1
 have hTk : ∀ k ∈ xr.kids, T k := by
  have hTr := (hW n x hn hTn).2.1
  rw [hr] at hTr
  exact ((hW r xr hxr hTr).2.2 hxt).2
 clear hn
 obtain ⟨cn, hcn⟩ : ∃ cn, cn = if xr.k = 6 then xr.n else 0 := ⟨_, rfl⟩
 have hcl := clean_leaf xr.k xr.n
 rw [← hcn] at hcl
 go_cut [7] from 7 to 53 (fun v wc => ∃ tb, v = .pointer (some ⟨tb, 0, none⟩) ∧ w1.heap.size ≤ tb ∧ wc.heap[tb]? = some (.cells #[.int .i64 xr.k, .int .i64 cn, .slice none 0 0] 24 (0, 0)) ∧ Below w1.heap.size w1 wc)
 case first =>
  have hrl1 : r < w1.heap.size := hw1s.grf.lt hxr
  clear hcn hWr
  go_region_law (go_simp; go_at_call 68; (with_reducible refine (hcl _).mono ?_); rintro e wz ⟨rfl, hbz⟩; (try (have zz : wz.heap[w1.heap.size]? = some (.cells #[.int .i64 0, .int .i64 0, .slice none 0 0] 24 (0, 0)) := (by rw [hbz.block _ (by simp)]; exact heap_alloc_new _ _)); obtain ⟨⟨z0, z1, z2⟩, y0, y1, y2⟩ := three_cells zz))
  all_goals (
   go_wp2_with fail
   go_meet
   case rel => first
    | exact ⟨w1.heap.size, rfl, Nat.le_refl _, (set3 zz).1, Below.set3 hbz zz⟩
    | exact ⟨wz.heap.size, rfl, hbz.size, heap_alloc_new _ _, Below.alloc (B := w1.heap.size) (a := w1) (w := wz) ⟨hbz.os, hbz.tape, hbz.output, hbz.size, hbz.block⟩ hbz.size _⟩)
 case rest =>
  obtain ⟨tb, rfl, htb, ht, hbc⟩ := hcut
  have hsw := wr_lt hres
  have hstart : WL G W lv wv s tb xr.k cn xr.kids L D w 0 wc (L - 1) (.slice none 0 0) [] (fun _ => False) :=
   {st := hw1s.keep fun k hk => hbc.block k hk, fr := hfr.trans (FrW.below hbc), res := (hbc.block s hsw).trans hres, cell := ht, row := World.ownsRow_nil _ _ _ _, ty := rfl, nil := fun _ => rfl, ok := fun x hx => (by cases hx), foot := fun b hb => hb.elim, own := fun g hg => (by cases hg)
    left := (by simp [cntL]), pos := (by omega), deep := fun T hT => (by simp at hT), lo := (by omega), hs := (by omega), hl := ⟨(by omega), (by omega)⟩, gN := hgn }
  obtain ⟨p, hp3, hrow⟩ := (hstart.st.grf _ _ hxr).cell3
  obtain ⟨sp, cap, rfl, hcap, hsp⟩ := hrow.slice
  have hl2 : xr.kids.length ≤ 2 := by
   rw [ho.ar _ _ hxr]
   unfold arN
   split
   ·omega
   ·split <;> omega
  clear hw1s hfr hres hbc ht hrow
  go_upto_region 6 with (fail)
  go_loopw [38] (fun v wr => ∃ (i : Nat) (Li : Int) (pv : Value) (lfs : List Lf) (F : Nat → Prop), i ≤ xr.kids.length ∧ v = .int .i64 i ∧ WL G W lv wv s tb xr.k cn xr.kids L D w i wr Li pv lfs F)
   (fun v _ => xr.kids.length - (intOf v).toNat)
  case atStart => exact ⟨0, _, _, _, _, Nat.zero_le _, rfl, hstart⟩
  case round =>
   obtain ⟨i, Li, pv, lfs, F, hi, rfl, hL⟩ := hrel
   by_cases hlt : i < xr.kids.length
   ·obtain ⟨g, hg, rfl⟩ := hsp i hlt
    obtain ⟨e, he⟩ : ∃ e, xr.kids[i]? = some e := ⟨_, List.getElem?_eq_getElem hlt⟩
    have ke := (hL.st.grf _ _ hxr).kid (j := i) hg he
    obtain ⟨xe, hxe⟩ := ho.kids _ _ e hxr (List.mem_of_getElem? he)
    have hLi : Li ≤ 60 := by have := hL.left; omega
    have hcall := ih e Li wr.drew xe (hL.st.keep fun _ _ => rfl) hxe (hTk e (List.mem_of_getElem? he)) hL.pos hLi
    have cw : wr.cell? ⟨wv, 0, none⟩ = some (.func (.func 95) #[] #[.pointer (some ⟨lv, 0, none⟩), .pointer (some ⟨wv, 0, none⟩)]) := by
     have := hL.st.at2
     unfold ptrN at this
     simp [World.cell?, this]
    have ct : wr.cell? ⟨tb, 2, none⟩ = some pv := by simp [World.cell?, hL.cell]
    unfold ptrN at ke
    clear hp3
    go_upto_region 8 with (fail)
    obtain ⟨i0, hi0, hz0, hz1, hz2⟩ := info_parts info24
    have hwd : IntKind.i64.wrap (D + 1) = D + 1 := wrap_id (by omega) (by omega)
    by_cases hfit : Fits (W e) Li (D + 1)
    ·have hmx : i + 1 ≤ maxLen := by unfold maxLen; omega
     have hcq := hcall.mono fun e' wn hs => hL.child hfit hs
     go_region_law (first
      | (go_simp; go_at_call 95; (with_reducible refine hcq.mono ?_); rintro e' wn ⟨hft, p, nn, cc, F', rfl, hF, hty, hst, p3n, f3n, l3n, hrn⟩)
      | (refine step_append_lies _ rfl (.tmp 43) (.tmp 49) 22 rfl tb 24 i0 (.agg #[.int .i64 0, .int .i64 0, .slice none 0 0]) 3 40 (by kernel_rfl) hi0 hz0 hz1 hz2 rfl (by decide) pv i (lfs.flatMap Lf.cells) (by simp [Act.eval, Act.put]) (hrn.alloc _) ⟨wn.heap.size, 0, none⟩ 1 1 [.int .i64 (W e).kind, .int .i64 (W e).n, .slice p nn cc] (by simp [Act.eval, Act.put]) rfl (news24 wn _ _ _) (one24 _ _ _ _ _) (by decide) hmx (by omega) (by simp; omega) _ rfl ?_; intro g' cap' w3 hown3 hgr3 hg3 hgl3; have hne3 : some tb ≠ pv.ownBlock := (fun q => by have := (hL.rowNe q.symm).1; omega); have hal : tb < (wn.alloc (.cells #[.int .i64 (W e).kind, .int .i64 (W e).n, .slice p nn cc] 24)).heap.size := (by simp; omega); have s3 : w3.cell? ⟨tb, 2, none⟩ = some pv := (by rw [hgr3.cell_far ⟨tb, 2, none⟩ hal hne3]; go_simp); have z3 : w3.frozen? ⟨tb, 2, none⟩ = false := (by rw [hgr3.frozen_far ⟨tb, 2, none⟩ hal hne3]; go_simp)))
     all_goals (
      have hg4 : pv.ownBlock = some g' ∨ wn.heap.size ≤ g' := hg3.imp id (fun q => by rw [q]; simp)
      have hL' := hL.push he hft hF hty hfit hst ((Below.refl _ wn).alloc (Nat.le_refl _) _) hown3 hgr3 hg4
      go_wp2_with fail
      go_roundw
      case rel => exact ⟨i + 1, _, _, _, _, by omega, by simp, hL'⟩
      case measure => simp [intOf]; omega)
    ·have hcq : Calls Tryz.prog 95 #[.pointer (some ⟨e, 0, none⟩), .int .i64 (D + 1), .pointer (some ⟨lv, 0, none⟩), .pointer (some ⟨wv, 0, none⟩)] wr.drew fun e' wn => e' = .panicked (stopP 9) ∧ FrW lv wr wn := hcall.mono fun e' wn hs => by
      obtain ⟨hf, ⟨v, F', rfl, h1, h2, h3, _⟩ | ⟨h4, _⟩⟩ := hs
      ·exact absurd h3 hfit
      ·exact ⟨h4, hf⟩
     have hfin : ¬ Fits (W n) L D := by
      rintro ⟨f1, f2⟩
      have hk6 : xr.k ≠ 6 := fun h6 => by
       have := ho.ar _ _ hxr
       rw [h6] at this
       have h0 : xr.kids.length = 0 := this
       omega
      rw [hWr, if_neg hk6] at f1 f2
      simp only [cnt, depT] at f1 f2
      apply hfit
      have hle := hL.left
      have hsplit : xr.kids.map W = (xr.kids.take i).map W ++ (xr.kids.drop i).map W := by rw [← List.map_append, List.take_append_drop]
      have hmem : W e ∈ (xr.kids.drop i).map W := by
       refine List.mem_map.2 ⟨e, ?_, rfl⟩
       rw [List.drop_eq_getElem_cons hlt]
       rw [List.getElem?_eq_getElem hlt] at he
       rw [Option.some.inj he]
       exact List.mem_cons_self ..
      rw [hsplit, cntL_append] at f1
      have h1 := le_cntL hmem
      have h2 := (le_depG (xr.kids.map W) 0).2 (W e) (List.mem_map.2 ⟨e, List.mem_of_getElem? he, rfl⟩)
      exact ⟨by omega, by omega⟩
     have hfr0 := hL.fr
     go_region_dies
     all_goals (
      with_reducible refine hcq.mono ?_
      rintro e' wn ⟨rfl, hft⟩
      exact ⟨rfl, hfr0.trans hft, .inr ⟨rfl, hfin⟩⟩)
   ·obtain rfl : i = xr.kids.length := by omega
    obtain ⟨fs, hfs⟩ := und24
    obtain ⟨pp, pn, pc, rfl⟩ : ∃ pp pn pc, pv = .slice pp pn pc := by
     obtain ⟨_, ⟨h2, _⟩ | ⟨g, cap, cur, h2, _⟩⟩ := hL.row
     ·exact ⟨_, _, _, h2⟩
     ·exact ⟨_, _, _, h2⟩
    obtain ⟨⟨t0, t1, t2⟩, _⟩ := three_cells hL.cell
    obtain ⟨⟨v0, v1, v2⟩, y0, y1, y2⟩ := three_cells hL.res
    have hdone := hL.done hWr hcn (fun h6 => by
     have := ho.ar _ _ hxr
     rw [h6] at this
     exact List.eq_nil_of_length_eq_zero this) hD1
    have hres2 := (set3 (x' := .int .i64 xr.k) (y' := .int .i64 cn) (z' := .slice pp pn pc) hL.res).1
    clear hWr hcn hp3
    go_wp2_with fail
    refine bodyPost_ret (results_cell_row rfl _ _ s 24 #[.int .i64 xr.k, .int .i64 cn, .slice pp pn pc] (0, 0) _ rfl hres2 hfs rfl size24) rfl ?_
    exact hdone
theorem whole_run {T : Nat → Prop} {G : Grf} {ρ d : Nat → Nat} {W : Nat → Ty} {lv wv : Nat} (ho : Okg G ρ d) (hW : Wok T G ρ W) : ∀ (M : Nat) (D : Int) (n : Nat) (L : Int) (w : World) (x : Nd), 13 - D ≤ M → 1 ≤ D → D ≤ 13 → WSt G lv wv L w → G n = some x → T n → 0 ≤ L → L ≤ 60 →
  Calls Tryz.prog 95 #[ptrN n, .int .i64 D, ptrN lv, ptrN wv] w (WholeSays G W lv wv n L D w)
 | 0, D, n, L, w, x, hM, h1, h2, hS, hn, hTn, hL0, hL1 => whole_no ho hS hn hL0 hL1 h1 h2 (by omega)
 | M + 1, D, n, L, w, x, hM, h1, h2, hS, hn, hTn, hL0, hL1 => by
  by_cases hg : 1 ≤ L ∧ D ≤ 12
  ·exact whole_go ho hW (fun n L w x hS hn hTn hL0 hL1 => whole_run ho hW M (D + 1) n L w x (by omega) (by omega) (by omega) hS hn hTn hL0 hL1) hS hn hTn hg.1 hL1 h1 hg.2
  ·exact whole_no ho hS hn hL0 hL1 h1 h2 hg
end Go.Proofs.YtnmolpkkemljoaaGreatDoor
end
section
namespace Go.Proofs.YtnmolpkkemljoaaGreatDoor
open Go Go.RowKit Go.Am Kd
def WholeRun (W : Nat → Ty) (n : Nat) (w : World) (e : Ending) (w' : World) : Prop :=
 Below w.heap.size w w' ∧ ((∃ v F, e = .returned v ∧ (∀ b, F b → w.heap.size ≤ b ∧ b < w'.heap.size) ∧ tyF w' F (W n) v ∧ Fits (W n) 60 1) ∨ (e = .panicked (stopP 9) ∧ ¬ Fits (W n) 60 1))
theorem whole58_run {T : Nat → Prop} {G : Grf} {ρ d : Nat → Nat} {W : Nat → Ty} {w : World} {n : Nat} {x : Nd} (ho : Okg G ρ d) (hW : Wok T G ρ W) (hG : GrfAt G w) (hn : G n = some x) (hTn : T n) :
  Calls Tryz.prog 58 #[ptrN n] w (WholeRun W n w) := by
 have hmf : ∀ (fn : Fn) (first cap : Array Value) (w : World), (Instr.makeFunc fn first cap).run Tryz.prog w = .ok (.func fn first cap) w := fun _ _ _ _ => rfl
 have e3 : (((w.alloc (Obj.cells #[.int .i64 0, .int .i64 0, .slice none 0 0] 24)).alloc (Obj.cells #[.int .i64 60] 3)).alloc (Obj.cells #[Value.nilFunc] 130)).heap[w.heap.size + 1 + 1]? = some (Obj.cells #[Value.nilFunc] 130) := by
  have := heap_alloc_new ((w.alloc (Obj.cells #[.int .i64 0, .int .i64 0, .slice none 0 0] 24)).alloc (Obj.cells #[.int .i64 60] 3)) (Obj.cells #[Value.nilFunc] 130)
  simpa using this
 obtain ⟨f3, g3⟩ := World.cell?_of_heap e3
 have hst : Sem.run Tryz.prog (store ⟨w.heap.size + 1 + 1, 0, none⟩ (Value.func (Fn.func 95) #[] #[Value.pointer (some ⟨w.heap.size + 1, 0, none⟩), Value.pointer (some ⟨w.heap.size + 1 + 1, 0, none⟩)])) (((w.alloc (Obj.cells #[.int .i64 0, .int .i64 0, .slice none 0 0] 24)).alloc (Obj.cells #[.int .i64 60] 3)).alloc (Obj.cells #[Value.nilFunc] 130)) =
   .ok () ((((w.alloc (Obj.cells #[.int .i64 0, .int .i64 0, .slice none 0 0] 24)).alloc (Obj.cells #[.int .i64 60] 3)).alloc (Obj.cells #[Value.nilFunc] 130)).setCell ⟨w.heap.size + 1 + 1, 0, none⟩ (Value.func (Fn.func 95) #[] #[Value.pointer (some ⟨w.heap.size + 1, 0, none⟩), Value.pointer (some ⟨w.heap.size + 1 + 1, 0, none⟩)])) := by
  rw [run_store _ _ _ _ _ rfl, f3, g3]
  rfl
 clear e3 f3 g3
 unfold ptrN at *
 go_enter Tryz.func58, Tryz.ntmps58
 go_wp2_with fail
 have hA : WSt G (w.heap.size + 1) (w.heap.size + 1 + 1) 60 (((w.alloc (Obj.cells #[Value.int .i64 0, Value.int .i64 0, Value.slice none 0 0] 24)).alloc (Obj.cells #[Value.int .i64 60] 3)).alloc (Obj.cells #[Value.func (Fn.func 95) #[] #[Value.pointer (some ⟨w.heap.size + 1, 0, none⟩), Value.pointer (some ⟨w.heap.size + 1 + 1, 0, none⟩)]] 130)) ∧ Below w.heap.size w (((w.alloc (Obj.cells #[Value.int .i64 0, Value.int .i64 0, Value.slice none 0 0] 24)).alloc (Obj.cells #[Value.int .i64 60] 3)).alloc (Obj.cells #[Value.func (Fn.func 95) #[] #[Value.pointer (some ⟨w.heap.size + 1, 0, none⟩), Value.pointer (some ⟨w.heap.size + 1 + 1, 0, none⟩)]] 130)) ∧ (((w.alloc (Obj.cells #[Value.int .i64 0, Value.int .i64 0, Value.slice none 0 0] 24)).alloc (Obj.cells #[Value.int .i64 60] 3)).alloc (Obj.cells #[Value.func (Fn.func 95) #[] #[Value.pointer (some ⟨w.heap.size + 1, 0, none⟩), Value.pointer (some ⟨w.heap.size + 1 + 1, 0, none⟩)]] 130)).heap[w.heap.size]? = some (.cells #[.int .i64 0, .int .i64 0, .slice none 0 0] 24 (0, 0)) := by
  have k0 := heap_alloc_new w (Obj.cells #[Value.int .i64 0, Value.int .i64 0, Value.slice none 0 0] 24)
  have k1 := heap_alloc_new (w.alloc (Obj.cells #[Value.int .i64 0, Value.int .i64 0, Value.slice none 0 0] 24)) (Obj.cells #[Value.int .i64 60] 3)
  have k2 := heap_alloc_new ((w.alloc (Obj.cells #[Value.int .i64 0, Value.int .i64 0, Value.slice none 0 0] 24)).alloc (Obj.cells #[Value.int .i64 60] 3)) (Obj.cells #[Value.func (Fn.func 95) #[] #[Value.pointer (some ⟨w.heap.size + 1, 0, none⟩), Value.pointer (some ⟨w.heap.size + 1 + 1, 0, none⟩)]] 130)
  have s1 : (w.alloc (Obj.cells #[Value.int .i64 0, Value.int .i64 0, Value.slice none 0 0] 24)).heap.size = w.heap.size + 1 := by simp
  have s2 : ((w.alloc (Obj.cells #[Value.int .i64 0, Value.int .i64 0, Value.slice none 0 0] 24)).alloc (Obj.cells #[Value.int .i64 60] 3)).heap.size = w.heap.size + 1 + 1 := by simp
  rw [s1] at k1
  rw [s2] at k2
  have hbel : Below w.heap.size w (((w.alloc (Obj.cells #[Value.int .i64 0, Value.int .i64 0, Value.slice none 0 0] 24)).alloc (Obj.cells #[Value.int .i64 60] 3)).alloc (Obj.cells #[Value.func (Fn.func 95) #[] #[Value.pointer (some ⟨w.heap.size + 1, 0, none⟩), Value.pointer (some ⟨w.heap.size + 1 + 1, 0, none⟩)]] 130)) := ((((Below.refl w.heap.size w).alloc (Nat.le_refl _) _).alloc (by omega) _).alloc (by omega) _)
  refine ⟨?_, hbel, ?_⟩
  ·exact
   {grf := hG.keep fun k hk => hbel.block k hk
    at1 := by
     rw [Below.heap_alloc _ _ _ (by omega)]
     exact k1
    at2 := k2
    gl := by
     cases hx : G (w.heap.size + 1) with
     | none => rfl
     | some y => have := hG.lt hx; omega
    rl := fun b x hx e => by have := hG.rowLt hx e; omega
    ne := by omega }
  ·rw [Below.heap_alloc _ _ _ (by omega), Below.heap_alloc _ _ _ (by omega)]
   exact k0
 obtain ⟨hA, hB, hC⟩ := hA
 clear hst
 generalize (((w.alloc (Obj.cells #[Value.int .i64 0, Value.int .i64 0, Value.slice none 0 0] 24)).alloc (Obj.cells #[Value.int .i64 60] 3)).alloc (Obj.cells #[Value.func (Fn.func 95) #[] #[Value.pointer (some ⟨w.heap.size + 1, 0, none⟩), Value.pointer (some ⟨w.heap.size + 1 + 1, 0, none⟩)]] 130)) = w1 at *
 have hsz := wr_lt hC
 obtain ⟨s, hs⟩ : ∃ s, s ≤ w.heap.size ∧ w.heap.size ≤ s := ⟨_, Nat.le_refl _, Nat.le_refl _⟩
 have hs1 : w.heap.size = s := by omega
 rw [hs1] at hA hC hsz ⊢
 clear hs1
 obtain ⟨fs, hfs⟩ := und24
 refine (whole_run ho hW 12 1 n 60 w1 x (by omega) (by omega) (by omega) hA hn hTn (by omega) (by omega)).mono ?_
 rintro e w' ⟨hf, ⟨v, F, rfl, hF, hty, hfit, hst⟩ | ⟨rfl, hno⟩⟩
 ·obtain ⟨p, nn, c, rfl, _⟩ := hty.agg
  have hc : w'.heap[s]? = some (.cells #[.int .i64 0, .int .i64 0, .slice none 0 0] 24 (0, 0)) := (hf.2.2.2.2 s hsz (by omega)).trans hC
  obtain ⟨⟨v0, v1, v2⟩, y0, y1, y2⟩ := three_cells hc
  have hres := set3 (x' := .int .i64 (W n).kind) (y' := .int .i64 (W n).n) (z' := .slice p nn c) hc
  have hsw : w'.heap.size ≤ (((w'.setCell ⟨s, 0, none⟩ (.int .i64 (W n).kind)).setCell ⟨s, 1, none⟩ (.int .i64 (W n).n)).setCell ⟨s, 2, none⟩ (.slice p nn c)).heap.size :=
   (((Below.refl 0 w').setCell (p := ⟨s, 0, none⟩) (Nat.zero_le _) _).setCell (p := ⟨s, 1, none⟩) (Nat.zero_le _) _ |>.setCell (p := ⟨s, 2, none⟩) (Nat.zero_le _) _).size
  clear hfs
  go_wp2_with fail
  obtain ⟨fs, hfs⟩ := und24
  refine bodyPost_ret (results_cell_row rfl _ _ s 24 #[.int .i64 (W n).kind, .int .i64 (W n).n, .slice p nn c] (0, 0) _ rfl hres.1 hfs rfl size24) rfl ?_
  obtain ⟨a1, a2, a3, a4, a5⟩ := hf
  refine ⟨⟨a1.trans hB.os, a2.trans hB.tape, a3.trans hB.output, by have := hB.size; omega, fun k hk => ?_⟩, .inl ⟨_, F, rfl, fun b hb => ?_, ?_, hfit⟩⟩
  ·rw [hres.2 k (by omega), a5 k (by omega) (by omega)]
   exact hB.block k hk
  ·obtain ⟨q1, q2⟩ := hF b hb
   exact ⟨by omega, by omega⟩
  ·exact hty.mono fun b hb => ⟨hb, hres.2 b (by have := (hF b hb).1; omega)⟩
 ·obtain ⟨a1, a2, a3, a4, a5⟩ := hf
  exact ⟨rfl, ⟨a1.trans hB.os, a2.trans hB.tape, a3.trans hB.output, by have := hB.size; omega, fun k hk => (a5 k (by omega) (by omega)).trans (hB.block k hk)⟩, .inr ⟨rfl, hno⟩⟩
end Go.Proofs.YtnmolpkkemljoaaGreatDoor
end
section
namespace Go.Proofs.YtnmolpkkemljoaaGreatDoor
open Go Go.RowKit Go.Am Kd
structure TL (w0 w : World) (kb vb nb : Nat) (k n : Int) (lv : Value) (l : List Ty) (G : Grf) (τ : Nat → Ty) (i : Nat) (wr : World) (Gi : Grf) (vsi : Vs) (ci : Nat) (τi : Nat → Ty) (pv : Value) (kids : List Nat) : Prop where
 st : TSt w0 kb vb Gi vsi ci wr
 tree : TreeG Gi vsi τi
 keep : ∀ b x, G b = some x → Gi b = some x ∧ τi b = τ b
 new : ∀ b x, Gi b = some x → G b = some x ∨ (w.heap.size ≤ b ∧ (∀ g, x.row = some g → w.heap.size ≤ g) ∧ (x.k = 6 → ∃ y ∈ l, Occ x.n y))
 cell : wr.heap[nb]? = some (.cells #[.int .i64 k, .int .i64 n, lv, pv, .pointer none] 121 (0, 0))
 row : wr.ownsRow nb 68 1 pv i (kids.map ptrN)
 len : kids.length = i
 part : ∀ (j a : Nat), kids[j]? = some a → (∃ x, l[j]? = some x ∧ τi a = cleanT x) ∧ ∃ y, Gi a = some y
 noN : Gi nb = none
 noR : ∀ b x, Gi b = some x → x.row ≠ some nb
 noP : ∀ g, pv.ownBlock = some g → Gi g = none ∧ ∀ b x, Gi b = some x → x.row ≠ some g
 frame : ∀ k, k < w.heap.size → k ≠ vb → wr.heap[k]? = w.heap[k]?
 lo : w.heap.size ≤ nb
 hk : kb < w.heap.size
 hv : vb < w.heap.size
 hw0 : w0.heap.size ≤ w.heap.size
theorem ownsRow_heap {w w' : World} {base : Nat} {e : TypeId} {size : Nat} {v : Value} {n : Nat} {xs : List Value} (h : w.ownsRow base e size v n xs) (hk : ∀ g, v.ownBlock = some g → w'.heap[g]? = w.heap[g]?) : w'.ownsRow base e size v n xs := by
 obtain ⟨h1, h2 | ⟨g, cap, cur, rfl, h3, h4, h5⟩⟩ := h
 ·exact ⟨h1, .inl h2⟩
 ·exact ⟨h1, .inr ⟨g, cap, cur, rfl, h3, (hk g rfl).trans h4, h5⟩⟩
theorem TSt.off {w0 w w' : World} {kb vb c : Nat} {G : Grf} {vs : Vs} (X : Nat → Prop) (h : TSt w0 kb vb G vs c w) (hb : Below w0.heap.size w0 w') (hk : ∀ k, k < w.heap.size → ¬ X k → w'.heap[k]? = w.heap[k]?) (hkb : ¬ X kb) (hvb : ¬ X vb) (hX : ∀ b x, G b = some x → ¬ X b ∧ ∀ g, x.row = some g → ¬ X g) : TSt w0 kb vb G vs c w' :=
 {below := hb
  grf := fun b x hbx => by
   obtain ⟨p, q, h1, h2⟩ := h.grf b x hbx
   exact ⟨p, q, (hk b (h.grf.lt hbx) (hX b x hbx).1).trans h1, h2.keep fun g hg => hk g (h.grf.rowLt hbx hg) ((hX b x hbx).2 g hg)⟩
  knot := (hk _ (Array.getElem?_eq_some_iff.1 h.knot).1 hkb).trans h.knot
  map := (hk _ (Array.getElem?_eq_some_iff.1 h.map).1 hvb).trans h.map
  hi := h.hi, gk := h.gk, gv := h.gv, rk := h.rk, kv := h.kv, hk := h.hk, hv := h.hv, old := h.old, born := h.born, keys := h.keys }
theorem TL.rowNe {w0 w : World} {kb vb nb : Nat} {k n : Int} {lv : Value} {l : List Ty} {G : Grf} {τ : Nat → Ty} {i : Nat} {wr : World} {Gi : Grf} {vsi : Vs} {ci : Nat} {τi : Nat → Ty} {pv : Value} {kids : List Nat} (h : TL w0 w kb vb nb k n lv l G τ i wr Gi vsi ci τi pv kids) {g : Nat} (hg : pv.ownBlock = some g) : nb < g ∧ g < wr.heap.size := by
 obtain ⟨h1, h2⟩ := h.row.lt g hg
 refine ⟨?_, h2⟩
 rcases Nat.lt_or_ge nb g with h3 | h3
 ·exact h3
 ·exfalso
  obtain rfl : g = nb := by omega
  obtain ⟨_, ⟨rfl, _⟩ | ⟨g', cap, cur, rfl, _, h4, _⟩⟩ := h.row
  ·cases hg
  ·cases hg
   rw [h.cell] at h4
   cases h4
theorem TL.keepW {w0 w : World} {kb vb nb : Nat} {k n : Int} {lv : Value} {l : List Ty} {G : Grf} {τ : Nat → Ty} {i : Nat} {wr wr' : World} {Gi : Grf} {vsi : Vs} {ci : Nat} {τi : Nat → Ty} {pv : Value} {kids : List Nat} (h : TL w0 w kb vb nb k n lv l G τ i wr Gi vsi ci τi pv kids)
  (hb : Below w0.heap.size wr wr') (hk : ∀ k, k < wr.heap.size → wr'.heap[k]? = wr.heap[k]?) : TL w0 w kb vb nb k n lv l G τ i wr' Gi vsi ci τi pv kids :=
 {st := h.st.keep hb hk, tree := h.tree, keep := h.keep, new := h.new, cell := (hk _ (Array.getElem?_eq_some_iff.1 h.cell).1).trans h.cell, row := ownsRow_heap h.row fun g hg => hk g (h.rowNe hg).2, len := h.len, part := h.part, noN := h.noN, noR := h.noR, noP := h.noP,
  frame := fun k hk1 hk2 => (hk k (Nat.lt_trans (Nat.lt_of_lt_of_le hk1 h.lo) (Array.getElem?_eq_some_iff.1 h.cell).1)).trans (h.frame k hk1 hk2), lo := h.lo, hk := h.hk, hv := h.hv, hw0 := h.hw0 }
theorem TL.child {w0 w : World} {kb vb nb : Nat} {k n : Int} {lv : Value} {l : List Ty} {G : Grf} {τ : Nat → Ty} {i : Nat} {wr wr' : World} {Gi : Grf} {vsi : Vs} {ci : Nat} {τi : Nat → Ty} {pv : Value} {kids : List Nat} (h : TL w0 w kb vb nb k n lv l G τ i wr Gi vsi ci τi pv kids)
  {x : Ty} {e : Ending} (hxl : x ∈ l) (hs : TiedSays w0 kb vb x Gi τi wr e wr') : ∃ a G' vs' c' τ', e = .returned (ptrN a) ∧ TL w0 w kb vb nb k n lv l G τ i wr' G' vs' c' τ' pv kids ∧ τ' a = cleanT x ∧ (∃ y, G' a = some y) := by
 obtain ⟨a, G', vs', c', τ', he, h1, h2, h3, h4, h5, h6, h7, h8⟩ := hs
 have hnb := (Array.getElem?_eq_some_iff.1 h.cell).1
 have hlo := h.lo
 have hv := h.hv
 have hold : ∀ b y, G' b = some y → b < wr.heap.size → Gi b = some y := fun b y hy hb => by
  rcases h6 b y hy with h9 | ⟨h9, _⟩
  ·exact h9
  ·omega
 have hrow : ∀ b y g, G' b = some y → y.row = some g → g < wr.heap.size → Gi b = some y := fun b y g hy hg hlt => by
  rcases h6 b y hy with h9 | ⟨_, h9, _⟩
  ·exact h9
  ·have := h9 g hg; omega
 refine ⟨a, G', vs', c', τ', he, ?_, h3, h4⟩
 exact
 {st := h1
  tree := h2
  keep := fun b y hy => by
   obtain ⟨k1, k2⟩ := h.keep b y hy
   obtain ⟨k3, k4⟩ := h5 b y k1
   exact ⟨k3, k4.trans k2⟩
  new := fun b y hy => by
   rcases h6 b y hy with h9 | ⟨h9, h10, h11⟩
   ·exact h.new b y h9
   ·exact .inr ⟨by omega, fun g hg => by have := h10 g hg; omega, fun h12 => ⟨x, hxl, h11 h12⟩⟩
  cell := (h8 nb hnb (by omega)).trans h.cell
  row := ownsRow_heap h.row fun g hg => h8 g (h.rowNe hg).2 (by have := (h.rowNe hg).1; omega)
  len := h.len
  part := fun j b hj => by
   obtain ⟨⟨y, q1, q2⟩, z, q3⟩ := h.part j b hj
   obtain ⟨q4, q5⟩ := h5 b z q3
   exact ⟨⟨y, q1, q5.trans q2⟩, z, q4⟩
  noN := by
   cases hx : G' nb with
   | none => rfl
   | some y => exact absurd (hold nb y hx hnb) (by rw [h.noN]; simp)
  noR := fun b y hy hg => h.noR b y (hrow b y nb hy hg hnb) hg
  noP := fun g hg => by
   obtain ⟨q1, q2⟩ := h.noP g hg
   have hgl := (h.rowNe hg).2
   refine ⟨?_, fun b y hy hg' => q2 b y (hrow b y g hy hg' hgl) hg'⟩
   cases hx : G' g with
   | none => rfl
   | some y => exact absurd (hold g y hx hgl) (by rw [q1]; simp)
  frame := fun j hj1 hj2 => (h8 j (by omega) hj2).trans (h.frame j hj1 hj2)
  lo := h.lo, hk := h.hk, hv := h.hv, hw0 := h.hw0 }
theorem TL.push {w0 w : World} {kb vb nb : Nat} {k n : Int} {lv : Value} {l : List Ty} {G : Grf} {τ : Nat → Ty} {i : Nat} {wr w1 w2 : World} {Gi : Grf} {vsi : Vs} {ci : Nat} {τi : Nat → Ty} {pv : Value} {kids : List Nat} (h : TL w0 w kb vb nb k n lv l G τ i wr Gi vsi ci τi pv kids)
  {a g cap : Nat} {x : Ty} (hx : l[i]? = some x) (ha : τi a = cleanT x) (hy : ∃ y, Gi a = some y) (hb : Below w0.heap.size wr w1) (hk : ∀ k, k < wr.heap.size → w1.heap[k]? = wr.heap[k]?)
  (hrow : w2.ownsRow nb 68 1 (.slice (some ⟨g, 0, none⟩) (i + 1) cap) (i + 1) (kids.map ptrN ++ [ptrN a])) (hgr : w1.grownBy w2 pv.ownBlock) (hg : pv.ownBlock = some g ∨ wr.heap.size ≤ g) :
  TL w0 w kb vb nb k n lv l G τ (i + 1) (w2.setCell ⟨nb, 3, none⟩ (.slice (some ⟨g, 0, none⟩) (i + 1) cap)) Gi vsi ci τi (.slice (some ⟨g, 0, none⟩) (i + 1) cap) (kids ++ [a]) := by
 have hnb := (Array.getElem?_eq_some_iff.1 h.cell).1
 have hlo := h.lo
 have hv := h.hv
 have hkk := h.hk
 have hw0 := h.hw0
 have hg1 : nb < g := by
  rcases hg with hg | hg
  ·exact (h.rowNe hg).1
  ·omega
 have hkeep : ∀ j, j < wr.heap.size → pv.ownBlock ≠ some j → w2.heap[j]? = wr.heap[j]? := fun j hj hne => by
  rw [hgr.block j (Nat.lt_of_lt_of_le hj hb.size) (fun e => hne e.symm)]
  exact hk j hj
 have hne : ∀ j, j ≤ nb → pv.ownBlock ≠ some j := fun j hj e => by have := (h.rowNe e).1; omega
 have hset : ∀ j, j ≠ nb → (w2.setCell ⟨nb, 3, none⟩ (.slice (some ⟨g, 0, none⟩) (i + 1) cap)).heap[j]? = w2.heap[j]? := fun j hj => Below.heap_setCell w2 _ _ j hj
 exact
 {st := by
   refine TSt.off (fun j => j = nb ∨ pv.ownBlock = some j) h.st ?_ (fun j hj hX => ?_) ?_ ?_ fun b y hby => ⟨?_, fun r hr => ?_⟩
   ·refine ((h.st.below.trans hb).grown hgr ?_ fun j e => ?_).setCell (p := ⟨nb, 3, none⟩) (by show w0.heap.size ≤ nb; omega) _
    ·have := hb.size; omega
    ·have := (h.rowNe e).1; omega
   ·rw [hset j (fun e => hX (.inl e))]
    exact hkeep j hj fun e => hX (.inr e)
   ·rintro (e | e)
    ·omega
    ·exact hne kb (by omega) e
   ·rintro (e | e)
    ·omega
    ·exact hne vb (by omega) e
   ·rintro (rfl | e)
    ·rw [h.noN] at hby; cases hby
    ·rw [(h.noP b e).1] at hby; cases hby
   ·rintro (rfl | e)
    ·exact h.noR b y hby hr
    ·exact (h.noP r e).2 b y hby hr
  tree := h.tree
  keep := h.keep
  new := h.new
  cell := by
   simp only [World.setCell]
   rw [Array.getElem?_modify]
   simp [hkeep nb hnb (hne nb (Nat.le_refl _)), h.cell]
  row := by
   rw [List.map_append]
   refine ownsRow_heap hrow fun j e => hset j ?_
   cases e
   show g ≠ nb
   omega
  len := by rw [List.length_append, h.len]; rfl
  part := fun j b hj => by
   by_cases hji : j < kids.length
   ·rw [List.getElem?_append_left hji] at hj
    exact h.part j b hj
   ·rw [List.getElem?_append_right (by omega)] at hj
    have hj0 : j - kids.length = 0 := by
     rcases Nat.eq_zero_or_pos (j - kids.length) with h1 | h1
     ·exact h1
     ·rw [List.getElem?_eq_none (by simp; omega)] at hj; cases hj
    rw [hj0] at hj
    simp at hj
    subst hj
    have : j = i := by have := h.len; omega
    subst this
    exact ⟨⟨x, hx, ha⟩, hy⟩
  noN := h.noN
  noR := h.noR
  noP := fun r hr => by
   obtain rfl : g = r := by simpa [Value.ownBlock] using hr
   rcases hg with hg | hg
   ·exact h.noP g hg
   ·refine ⟨?_, fun b y hby e => ?_⟩
    ·cases hx : Gi g with
     | none => rfl
     | some y => have := h.st.grf.lt hx; omega
    ·have := h.st.grf.rowLt hby e; omega
  frame := fun j hj1 hj2 => by
   rw [hset j (by omega), hkeep j (by omega) (hne j (by omega))]
   exact h.frame j hj1 hj2
  lo := h.lo, hk := h.hk, hv := h.hv, hw0 := h.hw0 }
theorem TL.done {w0 w : World} {kb vb nb : Nat} {k n : Int} {lv : Value} {l : List Ty} {G : Grf} {τ : Nat → Ty} {wr : World} {Gi : Grf} {vsi : Vs} {ci : Nat} {τi : Nat → Ty} {pv : Value} {kids : List Nat} {nl : Bool} (h : TL w0 w kb vb nb k n lv l G τ l.length wr Gi vsi ci τi pv kids) (h6 : k ≠ 6) (ho : okT (.mk k n nl l) = true) :
  TiedSays w0 kb vb (.mk k n nl l) G τ w (.returned (ptrN nb)) wr := by
 have hnb := (Array.getElem?_eq_some_iff.1 h.cell).1
 have hlo := h.lo
 have hv := h.hv
 have hkk := h.hk
 have hw0 := h.hw0
 let nd : Nd := ⟨k, n, kids, none, pv.ownBlock⟩
 have put : ∀ b x, (if b = nb then some nd else Gi b) = some x → (b = nb ∧ x = nd) ∨ (b ≠ nb ∧ Gi b = some x) := fun b x hx => by
  by_cases hb : b = nb
  ·rw [if_pos hb] at hx; exact .inl ⟨hb, (Option.some.inj hx).symm⟩
  ·rw [if_neg hb] at hx; exact .inr ⟨hb, hx⟩
 have got : ∀ b x, Gi b = some x → b ≠ nb := fun b x hx e => by rw [e, h.noN] at hx; cases hx
 have hmap : kids.map (fun b => if b = nb then cleanT (.mk k n nl l) else τi b) = cleanL l := by
  apply List.ext_getElem?
  intro j
  rw [List.getElem?_map]
  cases hj : kids[j]? with
  | none =>
   have : kids.length ≤ j := by simpa using hj
   rw [Option.map_none, List.getElem?_eq_none (by rw [cleanL_len]; have := h.len; omega)]
  | some a =>
   obtain ⟨⟨x, q1, q2⟩, y, q3⟩ := h.part j a hj
   rw [Option.map_some, if_neg (got a y q3), q2]
   have : ∀ (l : List Ty) (j : Nat) (x : Ty), l[j]? = some x → (cleanL l)[j]? = some (cleanT x) := by
    intro l
    induction l with
    | nil => intro j x hx; simp at hx
    | cons z l ih =>
     intro j x hx
     cases j with
     | zero => simp at hx; subst hx; simp [cleanL]
     | succ j => simp at hx; simpa [cleanL] using ih j x hx
   rw [this l j x q1]
 refine ⟨nb, fun b => if b = nb then some nd else Gi b, vsi, ci, fun b => if b = nb then cleanT (.mk k n nl l) else τi b, rfl, ?_, ?_, by simp, ⟨nd, by simp⟩, fun b x hx => ?_, fun b x hx => ?_, by omega, h.frame⟩
 ·exact
  {below := h.st.below
   grf := fun b x hx => by
    rcases put b x hx with ⟨rfl, rfl⟩ | ⟨_, hx⟩
    ·refine ⟨lv, pv, h.cell, ?_⟩
     obtain ⟨h1, ⟨h2, h3⟩ | ⟨g, cap, cur, h2, h3, h4, h5, h7, h8, h9⟩⟩ := h.row
     ·subst h2
      have hk0 : kids = [] := List.eq_nil_of_length_eq_zero (by rw [h.len, h3])
      exact ⟨hk0, rfl⟩
     ·subst h2
      refine ⟨cap, cur, by rw [show nd.kids = kids from rfl, h.len], by rw [show nd.kids = kids from rfl, h.len]; exact h5, by omega, h4, fun j b hj => ?_⟩
      have hjl : j < kids.length := (List.getElem?_eq_some_iff.1 hj).1
      have h10 := congrArg (fun l : List Value => l[j]?) h9
      simp only [List.getElem?_take, List.getElem?_map] at h10
      have hjl2 := h.len
      rw [if_pos (by omega), show kids[j]? = some b from hj] at h10
      simpa using h10
    ·exact h.st.grf b x hx
   knot := h.st.knot
   map := h.st.map
   hi := fun b x hx => by
    rcases put b x hx with ⟨rfl, rfl⟩ | ⟨_, hx⟩
    ·exact ⟨by omega, fun g hg => by have := (h.rowNe hg).1; omega⟩
    ·exact h.st.hi b x hx
   gk := by
    show (if kb = nb then some nd else Gi kb) = none
    rw [if_neg (by omega)]; exact h.st.gk
   gv := by
    show (if vb = nb then some nd else Gi vb) = none
    rw [if_neg (by omega)]; exact h.st.gv
   rk := fun b x hx => by
    rcases put b x hx with ⟨rfl, rfl⟩ | ⟨_, hx⟩
    ·exact ⟨fun e => by have := (h.rowNe e).1; omega, fun e => by have := (h.rowNe e).1; omega⟩
    ·exact h.st.rk b x hx
   kv := h.st.kv, hk := h.st.hk, hv := h.st.hv, old := h.st.old, born := h.st.born, keys := h.st.keys }
 ·exact
  {node := fun b x hx => by
    rcases put b x hx with ⟨rfl, rfl⟩ | ⟨hb, hx⟩
    ·show (if b = b then _ else _) = if k = 6 then _ else _
     rw [if_pos rfl, if_neg h6]
     show cleanT (.mk k n nl l) = .mk k 0 (nilB kids) (kids.map _)
     rw [hmap]
     simp only [cleanT, if_neg h6]
     congr 1
     simp only [nilB, h.len]
    ·show (if b = nb then _ else τi b) = _
     rw [if_neg hb, h.tree.node b x hx]
     have : x.kids.map (fun b => if b = nb then cleanT (.mk k n nl l) else τi b) = x.kids.map τi := by
      apply List.map_congr_left
      intro c hc
      obtain ⟨y, hy⟩ := h.tree.kids b x c hx hc
      rw [if_neg (got c y hy)]
     rw [this]
   ld := fun b x hx => by
    rcases put b x hx with ⟨rfl, rfl⟩ | ⟨hb, hx⟩
    ·rfl
    ·exact h.tree.ld b x hx
   kd := fun b x hx => by
    rcases put b x hx with ⟨rfl, rfl⟩ | ⟨hb, hx⟩
    ·have := (ok_node ho).1
     simp only [NodeOk] at this
     exact ⟨this.1, this.2.1, fun e => absurd e h6⟩
    ·exact h.tree.kd b x hx
   ar := fun b x hx => by
    rcases put b x hx with ⟨rfl, rfl⟩ | ⟨hb, hx⟩
    ·show kids.length = arN k
     rw [h.len]
     have := (ok_node ho).1
     simp only [NodeOk] at this
     unfold arN
     split
     ·omega
     ·split
      ·omega
      ·omega
    ·exact h.tree.ar b x hx
   kids := fun b x c hx hc => by
    have : ∃ y, Gi c = some y := by
     rcases put b x hx with ⟨rfl, rfl⟩ | ⟨hb, hx⟩
     ·obtain ⟨j, hj⟩ := List.getElem?_of_mem (show c ∈ kids from hc)
      exact (h.part j c hj).2
     ·exact h.tree.kids b x c hx hc
    obtain ⟨y, hy⟩ := this
    exact ⟨y, by rw [if_neg (got c y hy)]; exact hy⟩
   var := fun b x hx hx6 => by
    rcases put b x hx with ⟨rfl, rfl⟩ | ⟨hb, hx⟩
    ·exact absurd hx6 h6
    ·exact h.tree.var b x hx hx6
   vs := fun m b hb => by
    obtain ⟨x, q1, q2⟩ := h.tree.vs m b hb
    exact ⟨x, by rw [if_neg (got b x q1)]; exact q1, q2⟩
   rows := fun b x g hx hg => by
    rcases put b x hx with ⟨e1, e2⟩ | ⟨hb, hx2⟩
    ·subst e2
     obtain ⟨q1, q2⟩ := h.noP g hg
     have := (h.rowNe hg).1
     refine ⟨(if_neg (by omega)).trans q1, fun b' x' hx' hg' => ?_⟩
     rcases put b' x' hx' with ⟨e3, _⟩ | ⟨_, hx3⟩
     ·rw [e1, e3]
     ·exact absurd hg' (q2 b' x' hx3)
    ·obtain ⟨q1, q2⟩ := h.tree.rows b x g hx2 hg
     have hgn : g ≠ nb := fun e => h.noR b x hx2 (by rw [hg, e])
     refine ⟨(if_neg hgn).trans q1, fun b' x' hx' hg' => ?_⟩
     rcases put b' x' hx' with ⟨e3, e4⟩ | ⟨_, hx3⟩
     ·subst e4
      exact absurd hg (fun e => (h.noP g hg').2 b x hx2 e)
     ·exact q2 b' x' hx3 hg' }
 ·obtain ⟨q1, q2⟩ := h.keep b x hx
  have := got b x q1
  exact ⟨(if_neg this).trans q1, (if_neg this).trans q2⟩
 ·rcases put b x hx with ⟨e1, e2⟩ | ⟨_, hx2⟩
  ·subst e2
   exact .inr ⟨by omega, fun g hg => by have := (h.rowNe hg).1; omega, fun e => absurd e h6⟩
  ·rcases h.new b x hx2 with h9 | ⟨h9, h10, h11⟩
   ·exact .inl h9
   ·refine .inr ⟨h9, h10, fun e => ?_⟩
    obtain ⟨y, hy, hz⟩ := h11 e
    exact .part h6 hy hz
end Go.Proofs.YtnmolpkkemljoaaGreatDoor
end
section
namespace Go.Proofs.YtnmolpkkemljoaaGreatDoor
open Go Go.RowKit Go.Am Kd
theorem news68 (w : World) (a : Nat) : ∀ (j : Nat) (u : Value), [Value.pointer (some ⟨a, 0, none⟩)][j]? = some u → (w.alloc (.cells #[.pointer (some ⟨a, 0, none⟩)] 68)).cell? ((⟨w.heap.size, 0, none⟩ : Addr).add j) = some u := by
 intro j u hj
 cases j with
 | zero => simp at hj; simp [Addr.add, hj]
 | succ j => simp at hj
theorem one68 (a : Nat) : ∀ u ∈ [Value.pointer (some ⟨a, 0, none⟩)], u.oneCell' = true := by
 intro u hu
 obtain rfl := List.mem_singleton.1 hu
 rfl
theorem TL.child' {w0 w : World} {kb vb nb : Nat} {k n : Int} {lv : Value} {l : List Ty} {G : Grf} {τ : Nat → Ty} {i : Nat} {wr wr' : World} {Gi : Grf} {vsi : Vs} {ci : Nat} {τi : Nat → Ty} {pv : Value} {kids : List Nat} (h : TL w0 w kb vb nb k n lv l G τ i wr Gi vsi ci τi pv kids)
  {x : Ty} {e : Ending} (hxl : x ∈ l) (hs : TiedSays w0 kb vb x Gi τi wr e wr') : ∃ a G' vs' c' τ', e = .returned (.pointer (some ⟨a, 0, none⟩)) ∧ TL w0 w kb vb nb k n lv l G τ i wr' G' vs' c' τ' pv kids ∧ τ' a = cleanT x ∧ (∃ y, G' a = some y) ∧ wr'.cell? ⟨nb, 3, none⟩ = some pv ∧ wr'.frozen? ⟨nb, 3, none⟩ = false ∧ nb < wr'.heap.size := by
 obtain ⟨a, G', vs', c', τ', h1, h2, h3, h4⟩ := h.child hxl hs
 exact ⟨a, G', vs', c', τ', h1, h2, h3, h4, by simp [World.cell?, h2.cell], by simp [World.frozen?, h2.cell], (Array.getElem?_eq_some_iff.1 h2.cell).1⟩
theorem info68 : (Tryz.prog.info? 68).map (fun i => (i.zero, i.size, i.bytes)) = some (some (.pointer none), 1, 8) := by kernel_rfl
theorem tied_node {w0 w : World} {kb vb c : Nat} {G : Grf} {vs : Vs} {τ : Nat → Ty} (hS : TSt w0 kb vb G vs c w) (hT : TreeG G vs τ) {k n : Int} {nl : Bool} {l : List Ty} {sp : Option Addr} {sl cp : Nat} (h6 : k ≠ 6) (ho : okT (.mk k n nl l) = true) (hv : VRel (memSh w0) (.isl nl none 0 (encL l)) (.slice sp sl cp))
  (ih : ∀ x ∈ l, ∀ (sp : Option Addr) (sl cp : Nat), VRel (memSh w0) (.isl x.nl none 0 (encL x.l)) (.slice sp sl cp) → ∀ (G : Grf) (vs : Vs) (c : Nat) (τ : Nat → Ty) (w : World), TSt w0 kb vb G vs c w → TreeG G vs τ → Calls Tryz.prog 54 #[ptrN kb, .agg #[.int .i64 x.kind, .int .i64 x.n, .slice sp sl cp]] w (TiedSays w0 kb vb x G τ w)) :
  Calls Tryz.prog 54 #[ptrN kb, .agg #[.int .i64 k, .int .i64 n, .slice sp sl cp]] w (TiedSays w0 kb vb (.mk k n nl l) G τ w) := by
 obtain ⟨rfl, hel⟩ := ty_elem hv
 have hk0 : w.cell? ⟨kb, 0, none⟩ = some (.map (some vb)) := by simp [World.cell?, hS.knot]
 have hkl : kb < w.heap.size := (Array.getElem?_eq_some_iff.1 hS.knot).1
 have hvl : vb < w.heap.size := (Array.getElem?_eq_some_iff.1 hS.map).1
 unfold ptrN at *
 go_enter Tryz.func54, Tryz.ntmps54
 go_wp2_with fail
 obtain ⟨w1, hw1⟩ : ∃ w1, w1 = w.alloc (Obj.cells #[Value.int IntKind.i64 k, Value.int IntKind.i64 n, .slice sp l.length cp] 24) := ⟨_, rfl⟩
 have q0 : w1.cell? ⟨w.heap.size, 0, none⟩ = some (.int .i64 k) := by rw [hw1]; go_simp
 have q1 : w1.cell? ⟨w.heap.size, 1, none⟩ = some (.int .i64 n) := by rw [hw1]; go_simp
 have q3 : w1.cell? ⟨w.heap.size, 2, none⟩ = some (.slice sp l.length cp) := by rw [hw1]; go_simp
 have q2 : w1.cell? ⟨kb, 0, none⟩ = some (.map (some vb)) := by rw [hw1]; go_simp
 have qm : w1.heap[vb]? = some (.map ((vsE vs).map entI).toArray c) := by rw [hw1, Below.heap_alloc _ _ _ hvl]; exact hS.map
 have qs : TSt w0 kb vb G vs c w1 := by rw [hw1]; exact hS.alloc _
 have qk : ∀ k, k < w.heap.size → w1.heap[k]? = w.heap[k]? := fun k hk => by rw [hw1]; exact Below.heap_alloc _ _ _ hk
 have ql : w.heap.size < w1.heap.size := by rw [hw1]; simp
 rw [← hw1]
 obtain ⟨s, hs⟩ : ∃ s, s ≤ w.heap.size ∧ w.heap.size ≤ s := ⟨_, Nat.le_refl _, Nat.le_refl _⟩
 have hs1 : w.heap.size = s := by omega
 rw [hs1] at q0 q1 q3 qk ql hkl hvl ⊢
 clear hw1 hs1
 obtain ⟨z, is, hz⟩ : ∃ z is, ∀ m, (Instr.lookup 65 (.map (some vb)) (.int .i64 n) true).run Tryz.prog (w1.drewN m) = .ok (.tuple #[z, .bool is]) (w1.drewN m) := by
  cases hx : lookI (vsE vs) n 0 with
  | none => exact ⟨_, false, fun m => by have := lookup65 (w := w1.drewN m) qm n; rw [hx] at this; exact this⟩
  | some x => exact ⟨_, true, fun m => by have := lookup65 (w := w1.drewN m) qm n; rw [hx] at this; exact this⟩
 go_quiet (fail)
 have r0 : (w1.drewN nq).cell? ⟨s, 0, none⟩ = some (.int .i64 k) := q0
 have r1 : (w1.drewN nq).cell? ⟨s, 1, none⟩ = some (.int .i64 n) := q1
 have r3 : (w1.drewN nq).cell? ⟨s, 2, none⟩ = some (.slice sp l.length cp) := q3
 have rs : TSt w0 kb vb G vs c (w1.drewN nq) := qs.drewN nq
 have rk : ∀ k, k < s → (w1.drewN nq).heap[k]? = w.heap[k]? := qk
 have rl : s < (w1.drewN nq).heap.size := ql
 generalize w1.drewN nq = w2 at *
 clear q0 q1 q2 q3 qm qs qk ql hz
 have h6' : (k == 6) = false := by simpa using h6
 go_upto_region 2 with (fail)
 go_cut [25] from 5 to 25 (fun v wc => v = .bool false ∧ wc = w2)
 case first =>
  cases is
  ·go_wp2_with fail
   go_meet
   case rel => exact ⟨rfl, rfl⟩
  ·go_wp2_with fail
   go_meet
   case rel => exact ⟨rfl, rfl⟩
 case rest =>
  obtain ⟨rfl, hwc⟩ := hcut
  subst hwc
  have hl2 : l.length ≤ 2 := by rcases parts_cases ho with e | ⟨x, e, _⟩ | ⟨x, y, e, _⟩ <;> rw [e] <;> simp
  go_upto_region 8 with (fail)
  have hnl : wc.heap.size < (wc.alloc (Obj.cells #[Value.int IntKind.i64 k, Value.int IntKind.i64 n, Value.slice sp l.length cp, Value.slice none 0 0, Value.pointer none] 121)).heap.size := by simp
  have hstart : TL w0 w kb vb wc.heap.size k n (.slice sp l.length cp) l G τ 0 (wc.alloc (Obj.cells #[Value.int IntKind.i64 k, Value.int IntKind.i64 n, Value.slice sp l.length cp, Value.slice none 0 0, Value.pointer none] 121)) G vs c τ (.slice none 0 0) [] :=
   {st := rs.alloc _, tree := hT, keep := fun b x h => ⟨h, rfl⟩, new := fun b x h => .inl h, cell := heap_alloc_new _ _, row := World.ownsRow_nil _ _ _ _, len := rfl, part := fun j a h => by simp at h
    noN := by
     cases hx : G wc.heap.size with
     | none => rfl
     | some y => have := rs.grf.lt hx; omega
    noR := fun b x hb hr => by have := rs.grf.rowLt hb hr; omega
    noP := fun g hg => by cases hg
    frame := fun j hj _ => (Below.heap_alloc _ _ _ (by omega)).trans (rk j (by omega)), lo := by omega, hk := by omega, hv := by omega, hw0 := hS.below.size }
  generalize hnb : wc.heap.size = nb at *
  generalize wc.alloc (Obj.cells #[Value.int IntKind.i64 k, Value.int IntKind.i64 n, Value.slice sp l.length cp, Value.slice none 0 0, Value.pointer none] 121) = wn at *
  clear hnb r0 r1 r3 rs rk rl
  go_loopw [43] (fun v wr => ∃ (i : Nat) (Gi : Grf) (vsi : Vs) (ci : Nat) (τi : Nat → Ty) (pv : Value) (kids : List Nat), i ≤ l.length ∧ v = .int .i64 i ∧ TL w0 w kb vb nb k n (.slice sp l.length cp) l G τ i wr Gi vsi ci τi pv kids)
   (fun v _ => l.length - (intOf v).toNat)
  case atStart => exact ⟨0, G, vs, c, τ, _, _, Nat.zero_le _, rfl, hstart⟩
  case round =>
   obtain ⟨i, Gi, vsi, ci, τi, pv, kids, hi, rfl, hL⟩ := hrel
   by_cases hlt : i < l.length
   ·obtain ⟨a, o, rfl, sp', sl', cp', m0, m1, m2, hv'⟩ := hel i hlt
    have hold : ∀ o' u, (memSh w0).im a o' = some u → wr.cell? ⟨a, o', none⟩ = some u := fun o' u hu => by
     have hu' : w0.cell? ⟨a, o', none⟩ = some u := hu
     have hlt0 : a < w0.heap.size := by
      unfold World.cell? at hu'
      cases hx : w0.heap[a]? with
      | none => simp [hx] at hu'
      | some _ => exact (Array.getElem?_eq_some_iff.1 hx).1
     rw [← hu']
     exact hL.st.below.cell (p := ⟨a, o', none⟩) hlt0
    have c0 := hold _ _ m0
    have c1 := hold _ _ m1
    have c2 := hold _ _ m2
    have hcall := ih l[i] (List.getElem_mem hlt) sp' sl' cp' hv' Gi vsi ci τi
    clear hold m0 m1 m2 hel hstart
    go_upto_region 10 with (fail)
    have hnw := (Array.getElem?_eq_some_iff.1 hL.cell).1
    obtain ⟨wq, hwq⟩ : ∃ wq, wq = wr.alloc (Obj.cells #[Value.int IntKind.i64 l[i].kind, Value.int IntKind.i64 l[i].n, Value.slice sp' sl' cp'] 24) := ⟨_, rfl⟩
    have hLq : TL w0 w kb vb nb k n (.slice (some ⟨a, o, none⟩) l.length cp) l G τ i wq Gi vsi ci τi pv kids := by
     rw [hwq]
     exact hL.keepW ((Below.refl _ wr).alloc hL.st.below.size _) fun k hk => Below.heap_alloc _ _ _ hk
    have b0 : wq.cell? ⟨wr.heap.size, 0, none⟩ = some (Value.int IntKind.i64 l[i].kind) := by rw [hwq]; go_simp
    have b1 : wq.cell? ⟨wr.heap.size, 1, none⟩ = some (Value.int IntKind.i64 l[i].n) := by rw [hwq]; go_simp
    have b2 : wq.cell? ⟨wr.heap.size, 2, none⟩ = some (Value.slice sp' sl' cp') := by rw [hwq]; go_simp
    rw [← hwq]
    clear hwq c0 c1 c2 hL
    generalize wr.heap.size = bs at *
    have hcq := hcall wq.drew (hLq.st.drewN 1) hLq.tree
    have p3 : wq.cell? ⟨nb, 3, none⟩ = some pv := by simp [World.cell?, hLq.cell]
    clear hcall
    have hLd := hLq.keepW (wr' := wq.drew) ⟨rfl, rfl, rfl, Nat.le_refl _, fun _ _ => rfl⟩ fun _ _ => rfl
    obtain ⟨i0, hi0, hz0, hz1, hz2⟩ := info_parts info68
    have hmx : i + 1 ≤ maxLen := by unfold maxLen; omega
    go_region_law (first
     | (go_simp; go_at_call 54; (with_reducible refine hcq.mono ?_); rintro e wn' hs'; obtain ⟨ca, G', vs', c', τ', rfl, hLn, hca, hcy, p3n, f3n, l3n⟩ := hLd.child' (List.getElem_mem hlt) hs')
     | (refine step_append_lies _ rfl (.tmp 51) (.tmp 55) 72 rfl nb 68 i0 (.pointer none) 1 8 (by kernel_rfl) hi0 hz0 hz1 hz2 rfl (by decide) pv i (kids.map ptrN) (by simp [Act.eval, Act.put]) (hLn.row.alloc _) ⟨wn'.heap.size, 0, none⟩ 1 1 [.pointer (some ⟨ca, 0, none⟩)] (by simp [Act.eval, Act.put]) rfl (news68 wn' ca) (one68 ca) (by decide) hmx (by omega) (by simp; omega) _ rfl ?_; intro g cap w3 hown3 hgr3 hg3 hgl3; have hne3 : some nb ≠ pv.ownBlock := (fun e => by have := (hLn.rowNe e.symm).1; omega); have hal : nb < (wn'.alloc (.cells #[.pointer (some ⟨ca, 0, none⟩)] 68)).heap.size := (by simp; omega); have s3 : w3.cell? ⟨nb, 3, none⟩ = some pv := (by rw [hgr3.cell_far ⟨nb, 3, none⟩ hal hne3]; go_simp); have z3 : w3.frozen? ⟨nb, 3, none⟩ = false := (by rw [hgr3.frozen_far ⟨nb, 3, none⟩ hal hne3]; go_simp)))
    all_goals (
     have hb4 : Below w0.heap.size wn' (wn'.alloc (.cells #[.pointer (some ⟨ca, 0, none⟩)] 68)) := (Below.refl _ wn').alloc hLn.st.below.size _
     have hg4 : pv.ownBlock = some g ∨ wn'.heap.size ≤ g := hg3.imp id (fun e => by rw [e]; simp)
     have hT' := hLn.push (List.getElem?_eq_getElem hlt) hca hcy hb4 (fun k hk => Below.heap_alloc _ _ _ hk) hown3 hgr3 hg4
     go_wp2_with fail
     go_roundw
     case rel => exact ⟨i + 1, G', vs', c', τ', _, kids ++ [ca], by omega, by simp, hT'⟩
     case measure => simp [intOf]; omega)
   ·obtain rfl : i = l.length := by omega
    go_wp2_with fail
    go_ret
    exact hL.done h6 ho
end Go.Proofs.YtnmolpkkemljoaaGreatDoor
end
section
namespace Go.Proofs.YtnmolpkkemljoaaGreatDoor
open Go Go.RowKit Go.Am Kd
theorem vget_app : ∀ (vs : Vs) (x : Int × Nat × Nat) (m : Int), vget (vs ++ [x]) m = (vget vs m).or (if m = x.1 then some x.2.1 else none)
 | [], x, m => by simp [vget]
 | y :: vs, x, m => by
  simp only [List.cons_append, vget]
  by_cases h : m = y.1
  ·simp [h]
  ·rw [if_neg h, if_neg h]; exact vget_app vs x m
theorem look_none {vs : Vs} {n : Int} (h : vget vs n = none) : lookI (vsE vs) n 0 = none := by
 have := look_vs vs n 0
 rw [h] at this
 simpa using this
theorem var_says {w0 w wr wf : World} {kb vb nb c : Nat} {G : Grf} {vs : Vs} {τ : Nat → Ty} {n : Int} {nl : Bool} {lv : Value} (hS : TSt w0 kb vb G vs c wr) (hT : TreeG G vs τ) (hv : vget vs n = none)
  (hcell : wr.heap[nb]? = some (.cells #[.int .i64 6, .int .i64 n, lv, .slice none 0 0, .pointer none] 121 (0, 0))) (hlo : w.heap.size ≤ nb) (hkw : kb < w.heap.size) (hvw : vb < w.heap.size) (hw0 : w0.heap.size ≤ w.heap.size)
  (hfr : ∀ k, k < w.heap.size → k ≠ vb → wr.heap[k]? = w.heap[k]?) (hnew : ∀ b x, G b = some x → b < w.heap.size ∧ ∀ g, x.row = some g → g < w.heap.size)
  (hw : wf = ChangeMaps.setBlock wr vb (.map ((vsE vs ++ [(n, ptrN nb, c)]).map entI).toArray (c + 1))) (hn : 0 ≤ n ∧ n < 1000) :
  TiedSays w0 kb vb (.mk 6 n nl []) G τ w (.returned (ptrN nb)) wf := by
 subst hw
 have hs1 : (ChangeMaps.setBlock wr vb (.map ((vsE vs ++ [(n, ptrN nb, c)]).map entI).toArray (c + 1))).heap[vb]? = some (.map ((vsE vs ++ [(n, ptrN nb, c)]).map entI).toArray (c + 1)) := (Go.MapKept.heap_set hS.map).1
 have hs2 : ∀ k, k ≠ vb → (ChangeMaps.setBlock wr vb (.map ((vsE vs ++ [(n, ptrN nb, c)]).map entI).toArray (c + 1))).heap[k]? = wr.heap[k]? := (Go.MapKept.heap_set hS.map).2
 have hsz : (ChangeMaps.setBlock wr vb (.map ((vsE vs ++ [(n, ptrN nb, c)]).map entI).toArray (c + 1))).heap.size = wr.heap.size := by simp [ChangeMaps.setBlock]
 have hnb := (Array.getElem?_eq_some_iff.1 hcell).1
 generalize hwf : ChangeMaps.setBlock wr vb (.map ((vsE vs ++ [(n, ptrN nb, c)]).map entI).toArray (c + 1)) = wf at *
 have hbel : Below w0.heap.size w0 wf := by
  refine hS.below.trans ⟨by rw [← hwf]; rfl, by rw [← hwf]; rfl, by rw [← hwf]; rfl, by omega, fun k hk => hs2 k (by have := hS.hv; omega)⟩
 have got : ∀ b x, G b = some x → b ≠ nb := fun b x hx e => by have := (hnew b x hx).1; omega
 let nd : Nd := ⟨6, n, [], none, none⟩
 have put : ∀ b x, (if b = nb then some nd else G b) = some x → (b = nb ∧ x = nd) ∨ (b ≠ nb ∧ G b = some x) := fun b x hx => by
  by_cases hb : b = nb
  ·rw [if_pos hb] at hx; exact .inl ⟨hb, (Option.some.inj hx).symm⟩
  ·rw [if_neg hb] at hx; exact .inr ⟨hb, hx⟩
 refine ⟨nb, fun b => if b = nb then some nd else G b, vs ++ [(n, nb, c)], c + 1, fun b => if b = nb then varT n else τ b, rfl, ?_, ?_, ?_, ⟨nd, by simp⟩, fun b x hx => ⟨(if_neg (got b x hx)).trans hx, if_neg (got b x hx)⟩, fun b x hx => ?_, by omega, fun k hk hkv => (hs2 k hkv).trans (hfr k hk hkv)⟩
 ·exact
  {below := hbel
   grf := fun b x hx => by
    rcases put b x hx with ⟨rfl, rfl⟩ | ⟨_, hx2⟩
    ·exact ⟨lv, _, (hs2 b (by omega)).trans hcell, rfl, rfl⟩
    ·obtain ⟨p, q, h1, h2⟩ := hS.grf b x hx2
     have hbv : b ≠ vb := fun e => by rw [e, hS.gv] at hx2; cases hx2
     exact ⟨p, q, (hs2 b hbv).trans h1, h2.keep fun g hg => hs2 g (fun e => (hS.rk b x hx2).2 (by rw [hg, e]))⟩
   knot := (hs2 kb hS.kv).trans hS.knot
   map := by
    rw [hs1]
    simp [vsE]
   hi := fun b x hx => by
    rcases put b x hx with ⟨rfl, rfl⟩ | ⟨_, hx2⟩
    ·exact ⟨by omega, fun g hg => by cases hg⟩
    ·exact hS.hi b x hx2
   gk := (if_neg (by omega)).trans hS.gk
   gv := (if_neg (by omega)).trans hS.gv
   rk := fun b x hx => by
    rcases put b x hx with ⟨rfl, rfl⟩ | ⟨_, hx2⟩
    ·exact ⟨fun e => (by cases e), fun e => (by cases e)⟩
    ·exact hS.rk b x hx2
   kv := hS.kv, hk := hS.hk, hv := hS.hv
   old := fun x hx => by
    rcases List.mem_append.1 hx with h | h
    ·have := hS.old x h; omega
    ·obtain rfl := List.mem_singleton.1 h
     exact Nat.lt_succ_self c
   born := by
    rw [List.map_append, List.nodup_append]
    refine ⟨hS.born, by simp, fun a ha b hb => ?_⟩
    obtain ⟨x, hx, rfl⟩ := List.mem_map.1 ha
    have := hS.old x hx
    simp at hb
    omega
   keys := by
    rw [List.map_append, List.nodup_append]
    refine ⟨hS.keys, by simp, fun a ha b hb => ?_⟩
    obtain ⟨x, hx, rfl⟩ := List.mem_map.1 ha
    have := vget_none hv x hx
    simp at hb
    rw [hb]
    exact this }
 ·exact
  {node := fun b x hx => by
    rcases put b x hx with ⟨rfl, rfl⟩ | ⟨hb, hx2⟩
    ·show (if b = b then _ else _) = if (6 : Int) = 6 then _ else _
     rw [if_pos rfl, if_pos rfl]
    ·show (if b = nb then _ else τ b) = _
     rw [if_neg hb, hT.node b x hx2]
     have : x.kids.map (fun b => if b = nb then varT n else τ b) = x.kids.map τ := by
      apply List.map_congr_left
      intro e he
      obtain ⟨y, hy⟩ := hT.kids b x e hx2 he
      rw [if_neg (got e y hy)]
     rw [this]
   ld := fun b x hx => by
    rcases put b x hx with ⟨rfl, rfl⟩ | ⟨hb, hx2⟩
    ·rfl
    ·exact hT.ld b x hx2
   kd := fun b x hx => by
    rcases put b x hx with ⟨rfl, rfl⟩ | ⟨hb, hx2⟩
    ·exact ⟨by show (0 : Int) ≤ 6; decide, by show (6 : Int) < 7; decide, fun _ => hn⟩
    ·exact hT.kd b x hx2
   ar := fun b x hx => by
    rcases put b x hx with ⟨rfl, rfl⟩ | ⟨hb, hx2⟩
    ·rfl
    ·exact hT.ar b x hx2
   kids := fun b x e hx he => by
    rcases put b x hx with ⟨rfl, rfl⟩ | ⟨hb, hx2⟩
    ·cases he
    ·obtain ⟨y, hy⟩ := hT.kids b x e hx2 he
     exact ⟨y, (if_neg (got e y hy)).trans hy⟩
   var := fun b x hx h6 => by
    rw [vget_app]
    rcases put b x hx with ⟨rfl, rfl⟩ | ⟨hb, hx2⟩
    ·rw [show nd.n = n from rfl, hv]; simp
    ·rw [hT.var b x hx2 h6]; rfl
   vs := fun m b hb => by
    rw [vget_app] at hb
    cases hm : vget vs m with
    | some b' =>
     rw [hm] at hb
     cases hb
     obtain ⟨x, h1, h2⟩ := hT.vs m b hm
     exact ⟨x, (if_neg (got b x h1)).trans h1, h2⟩
    | none =>
     rw [hm] at hb
     simp only [Option.none_or] at hb
     split at hb
     ·rename_i e
      cases hb
      exact ⟨nd, by simp, rfl, e.symm⟩
     ·cases hb
   rows := fun b x g hx hg => by
    rcases put b x hx with ⟨rfl, rfl⟩ | ⟨hb, hx2⟩
    ·cases hg
    ·obtain ⟨q1, q2⟩ := hT.rows b x g hx2 hg
     have hgn : g ≠ nb := fun e => by have := (hnew b x hx2).2 g hg; omega
     refine ⟨(if_neg hgn).trans q1, fun b' x' hx' hg' => ?_⟩
     rcases put b' x' hx' with ⟨rfl, rfl⟩ | ⟨_, hx3⟩
     ·cases hg'
     ·exact q2 b' x' hx3 hg' }
 ·simp [cleanT, cleanL, varT, nilB]
 ·rcases put b x hx with ⟨rfl, rfl⟩ | ⟨_, hx2⟩
  ·exact .inr ⟨hlo, fun g hg => (by cases hg), fun _ => Occ.var _ _⟩
  ·exact .inl hx2
theorem tied_var {w0 w : World} {kb vb c : Nat} {G : Grf} {vs : Vs} {τ : Nat → Ty} (hS : TSt w0 kb vb G vs c w) (hT : TreeG G vs τ) {n : Int} {nl : Bool} {sp : Option Addr} {cp : Nat} (hv : vget vs n = none) (hn : 0 ≤ n ∧ n < 1000) :
  Calls Tryz.prog 54 #[ptrN kb, .agg #[.int .i64 6, .int .i64 n, .slice sp 0 cp]] w (TiedSays w0 kb vb (.mk 6 n nl []) G τ w) := by
 have hk0 : w.cell? ⟨kb, 0, none⟩ = some (.map (some vb)) := by simp [World.cell?, hS.knot]
 have hkl : kb < w.heap.size := (Array.getElem?_eq_some_iff.1 hS.knot).1
 have hvl : vb < w.heap.size := (Array.getElem?_eq_some_iff.1 hS.map).1
 have hnew : ∀ b x, G b = some x → b < w.heap.size ∧ ∀ g, x.row = some g → g < w.heap.size := fun b x hx => ⟨hS.grf.lt hx, fun g hg => hS.grf.rowLt hx hg⟩
 have hw0 := hS.below.size
 unfold ptrN at *
 go_enter Tryz.func54, Tryz.ntmps54
 go_wp2_with fail
 obtain ⟨w1, hw1⟩ : ∃ w1, w1 = w.alloc (Obj.cells #[Value.int IntKind.i64 6, Value.int IntKind.i64 n, .slice sp 0 cp] 24) := ⟨_, rfl⟩
 have q0 : w1.cell? ⟨w.heap.size, 0, none⟩ = some (.int .i64 6) := by rw [hw1]; go_simp
 have q1 : w1.cell? ⟨w.heap.size, 1, none⟩ = some (.int .i64 n) := by rw [hw1]; go_simp
 have q3 : w1.cell? ⟨w.heap.size, 2, none⟩ = some (.slice sp 0 cp) := by rw [hw1]; go_simp
 have q2 : w1.cell? ⟨kb, 0, none⟩ = some (.map (some vb)) := by rw [hw1]; go_simp
 have qm : w1.heap[vb]? = some (.map ((vsE vs).map entI).toArray c) := by rw [hw1, Below.heap_alloc _ _ _ hvl]; exact hS.map
 have qs : TSt w0 kb vb G vs c w1 := by rw [hw1]; exact hS.alloc _
 have qk : ∀ k, k < w.heap.size → w1.heap[k]? = w.heap[k]? := fun k hk => by rw [hw1]; exact Below.heap_alloc _ _ _ hk
 have ql : w.heap.size < w1.heap.size := by rw [hw1]; simp
 rw [← hw1]
 obtain ⟨s, hs⟩ : ∃ s, s ≤ w.heap.size ∧ w.heap.size ≤ s := ⟨_, Nat.le_refl _, Nat.le_refl _⟩
 have hs1 : w.heap.size = s := by omega
 rw [hs1] at q0 q1 q3 qk ql hkl hvl hnew hw0 ⊢
 clear hw1 hs1
 have hz : ∀ m, (Instr.lookup 65 (.map (some vb)) (.int .i64 n) true).run Tryz.prog (w1.drewN m) = .ok (.tuple #[.pointer none, .bool false]) (w1.drewN m) := fun m => by
  have := lookup65 (w := w1.drewN m) qm n
  rw [look_none hv] at this
  exact this
 go_quiet (fail)
 have r0 : (w1.drewN nq).cell? ⟨s, 0, none⟩ = some (.int .i64 6) := q0
 have r1 : (w1.drewN nq).cell? ⟨s, 1, none⟩ = some (.int .i64 n) := q1
 have r2 : (w1.drewN nq).cell? ⟨kb, 0, none⟩ = some (.map (some vb)) := q2
 have r3 : (w1.drewN nq).cell? ⟨s, 2, none⟩ = some (.slice sp 0 cp) := q3
 have rs : TSt w0 kb vb G vs c (w1.drewN nq) := qs.drewN nq
 have rk : ∀ k, k < s → (w1.drewN nq).heap[k]? = w.heap[k]? := qk
 have rl : s < (w1.drewN nq).heap.size := ql
 generalize w1.drewN nq = w2 at *
 clear q0 q1 q2 q3 qm qs qk ql hz
 go_upto_region 6 with (fail)
 obtain ⟨wn, hwn⟩ : ∃ wn, wn = w2.alloc (Obj.cells #[Value.int IntKind.i64 6, Value.int IntKind.i64 n, Value.slice sp 0 cp, Value.slice none 0 0, Value.pointer none] 121) := ⟨_, rfl⟩
 have hkw2 : kb < w2.heap.size := by omega
 have c1 : wn.cell? ⟨s, 1, none⟩ = some (.int .i64 n) := by rw [hwn]; go_simp
 have c2 : wn.cell? ⟨kb, 0, none⟩ = some (.map (some vb)) := by rw [hwn]; go_simp
 have c3 : wn.cell? ⟨s, 2, none⟩ = some (.slice sp 0 cp) := by rw [hwn]; go_simp
 have cs : TSt w0 kb vb G vs c wn := by rw [hwn]; exact rs.alloc _
 have ck : ∀ k, k < s → wn.heap[k]? = w.heap[k]? := fun k hk => by rw [hwn, Below.heap_alloc _ _ _ (by omega)]; exact rk k hk
 have cn : wn.heap[w2.heap.size]? = some (.cells #[.int .i64 6, .int .i64 n, .slice sp 0 cp, .slice none 0 0, .pointer none] 121 (0, 0)) := by rw [hwn]; exact heap_alloc_new _ _
 rw [← hwn]
 have hnl : s < w2.heap.size := rl
 generalize w2.heap.size = nb at *
 clear hwn r0 r1 r2 r3 rs rk rl
 refine wp_region_still_tail 7 (by kernel_rfl) (by kernel_rfl) ?_
 simp only [List.take_succ_cons, List.take_zero, List.drop_succ_cons, List.drop_zero]
 change wpStill _ _ wn.drew (fun a' => wpList _ _ _ _ a' wn.drew) _ _
 repeat still_step
 refine wpStill_nil ?_
 have hup := update_new (w := wn.drew) und65 cs.map n (.pointer (some ⟨nb, 0, none⟩)) (look_none hv)
 have d3 : (ChangeMaps.setBlock wn.drew vb (.map ((vsE vs ++ [(n, Value.pointer (some ⟨nb, 0, none⟩), c)]).map entI).toArray (c + 1))).cell? ⟨s, 2, none⟩ = some (.slice sp 0 cp) := by
  rw [← c3]
  exact World.cell?_of_block (w := wn) ((Go.MapKept.heap_set (w := wn.drew) (o' := .map ((vsE vs ++ [(n, Value.pointer (some ⟨nb, 0, none⟩), c)]).map entI).toArray (c + 1)) cs.map).2 s (by omega))
 have hfin := var_says (w := w) (wr := wn.drew) (nl := nl) (cs.drewN 1) hT hv cn (by omega) (by omega) (by omega) (by omega) (fun k hk _ => ck k (by omega)) (fun b x hx => ⟨by have := (hnew b x hx).1; omega, fun g hg => by have := (hnew b x hx).2 g hg; omega⟩) rfl hn
 unfold ptrN at hfin
 generalize ChangeMaps.setBlock wn.drew vb (.map ((vsE vs ++ [(n, Value.pointer (some ⟨nb, 0, none⟩), c)]).map entI).toArray (c + 1)) = wf at *
 clear cs ck cn c1 c2 c3
 go_wp2_with fail
 go_loopw [43] (fun v wr => v = .int .i64 0 ∧ wr = wf) (fun _ _ => 0)
 case atStart => exact ⟨rfl, rfl⟩
 case round =>
  obtain ⟨rfl, hwr⟩ := hrel
  subst hwr
  go_wp2_with fail
  go_ret
  exact hfin
theorem tied_run {w0 : World} {kb vb : Nat} : ∀ (N : Nat) (t : Ty), SizeOf.sizeOf t < N → okT t = true → ∀ (sp : Option Addr) (sl cp : Nat), VRel (memSh w0) (.isl t.nl none 0 (encL t.l)) (.slice sp sl cp) → ∀ (G : Grf) (vs : Vs) (c : Nat) (τ : Nat → Ty) (w : World), TSt w0 kb vb G vs c w → TreeG G vs τ →
  Calls Tryz.prog 54 #[ptrN kb, .agg #[.int .i64 t.kind, .int .i64 t.n, .slice sp sl cp]] w (TiedSays w0 kb vb t G τ w)
 | 0, t, h, _ => by omega
 | N + 1, .mk k n nl l, h, ho => by
  intro sp sl cp hv G vs c τ w hS hT
  simp only [Ty.kind, Ty.n, Ty.nl, Ty.l] at hv ⊢
  by_cases h6 : k = 6
  ·subst h6
   have h1 := (ok_node ho).1
   simp only [NodeOk] at h1
   have hl : l = [] := List.eq_nil_of_length_eq_zero (h1.2.2.1 (by simp))
   subst hl
   obtain ⟨rfl, _⟩ := ty_elem hv
   cases hg : vget vs n with
   | none => exact tied_var hS hT hg (h1.2.2.2.2.2 trivial)
   | some a => exact tied_known hS hT hg
  ·refine tied_node hS hT h6 ho hv fun x hx sp sl cp hv' G vs c τ w hS hT => ?_
   refine tied_run N x ?_ (okL_mem (ok_node ho).2 x hx) sp sl cp hv' G vs c τ w hS hT
   have := List.sizeOf_lt_of_mem hx
   simp only [Ty.mk.sizeOf_spec] at h
   omega
end Go.Proofs.YtnmolpkkemljoaaGreatDoor
end
section
namespace Go.Proofs.YtnmolpkkemljoaaGreatDoor
open Go Go.RowKit Go.Am Kd
def entT (x : Ent) : Int × Value × Nat := (x.n, x.entry.val, x.born)
theorem entT_ent (l : List Ent) : (l.map entT).map entI = l.map Ent.entry := by simp [Function.comp_def, entI, entT, Ent.entry]
structure ULoop (w : World) (vb q ob r cl : Nat) (G : Grf) (vs : Vs) (σ : Int → Ty) (wr : World) (ds rest : Vs) (c0 : Nat) (l : List Ent) (F : Nat → Prop) : Prop where
 perm : (ds ++ rest).Perm vs
 it : wr.heap[r]? = some (.mapIter (some vb) cl (ds.map fun x => x.2.2).toArray c0)
 sc : cl ≤ c0
 map : wr.heap[vb]? = some (.map ((vsE vs).map entI).toArray cl)
 grf : GrfAt G wr
 err : wr.heap[q]? = some (.cells #[.int .i64 0] 28 (0, 0))
 out : wr.heap[ob]? = some (.map (l.map Ent.entry).toArray l.length)
 born : ∀ x ∈ l, x.born < l.length
 bnd : (l.map (·.born)).Nodup
 below : Below w.heap.size w wr
 new : ∀ b, F b → w.heap.size ≤ b ∧ b < wr.heap.size ∧ b ≠ ob ∧ b ≠ r
 ty : ∀ x ∈ l, tyF wr F (σ x.n) x.entry.val ∧ σ x.n ≠ varT x.n ∧ Fits (σ x.n) 60 1
 has : ∀ y ∈ ds, σ y.1 ≠ varT y.1 → ∃ x ∈ l, x.n = y.1
 src : ∀ x ∈ l, ∃ y ∈ ds, y.1 = x.n
 nd : (l.map (·.n)).Nodup
structure UPl (w : World) (vb q ob r : Nat) (G : Grf) : Prop where
 g : ∀ b x, G b = some x → b < ob ∧ ∀ g, x.row = some g → g < ob
 v : vb < ob
 q : q < ob
 r : ob < r
 w : w.heap.size ≤ vb
 gv : G vb = none
 gr : ∀ b x, G b = some x → x.row ≠ some vb
section
variable {w : World} {vb q ob r cl : Nat} {G : Grf} {vs : Vs} {σ : Int → Ty} {wr : World} {ds rest : Vs} {c0 : Nat} {l : List Ent} {F : Nat → Prop}
theorem ULoop.grfKeep (hP : UPl w vb q ob r G) (h : ULoop w vb q ob r cl G vs σ wr ds rest c0 l F) {w' : World} (hk : ∀ k, k < ob → w'.heap[k]? = wr.heap[k]?) : GrfAt G w' := by
 intro b x hb
 obtain ⟨p, o, h1, h2⟩ := h.grf b x hb
 exact ⟨p, o, (hk b (hP.g b x hb).1).trans h1, h2.keep fun g hg => hk g ((hP.g b x hb).2 g hg)⟩
theorem ULoop.nxt (h : ULoop w vb q ob r cl G vs σ wr ds rest c0 l F) {y : Int × Nat × Nat} (hy : y ∈ vs) (hn : y ∉ ds) : ∃ rest', (ds ++ [y] ++ rest').Perm vs := by
 have hyr : y ∈ rest := by
  rcases List.mem_append.1 (h.perm.mem_iff.2 hy) with h1 | h1
  ·exact absurd h1 hn
  ·exact h1
 obtain ⟨s, t, rfl⟩ := List.append_of_mem hyr
 refine ⟨s ++ t, .trans ?_ h.perm⟩
 rw [List.append_assoc]
 exact List.Perm.append_left ds (List.Perm.symm List.perm_middle : (y :: (s ++ t)).Perm (s ++ y :: t))
theorem ULoop.step1 (hP : UPl w vb q ob r G) (h : ULoop w vb q ob r cl G vs σ wr ds rest c0 l F) {y : Int × Nat × Nat} {w1 : World} (hy : y ∈ vs) (hn : y ∉ ds) (hg : wr.grownBy w1 (some r)) (hs : w1.heap.size = wr.heap.size)
  (hr : w1.heap[r]? = some (.mapIter (some vb) cl ((ds.map fun x => x.2.2).toArray.push y.2.2) cl)) :
  ∃ rest', (ds ++ [y] ++ rest').Perm vs ∧ (σ y.1 = varT y.1 → ULoop w vb q ob r cl G vs σ w1 (ds ++ [y]) rest' cl l F) ∧ GrfAt G w1 ∧ (∀ k, k < wr.heap.size → k ≠ r → w1.heap[k]? = wr.heap[k]?) := by
 obtain ⟨rest', hp⟩ := h.nxt hy hn
 have hrl := (Array.getElem?_eq_some_iff.1 h.it).1
 have hpr := hP.r
 have hpv := hP.v
 have hpq := hP.q
 have hpw := hP.w
 have hk : ∀ k, k < wr.heap.size → k ≠ r → w1.heap[k]? = wr.heap[k]? := fun k hk hne => hg.block k hk fun e => hne (Option.some.inj e)
 have hk2 : ∀ k, k < ob → w1.heap[k]? = wr.heap[k]? := fun k hk1 => hk k (by omega) (by omega)
 have hgr := h.grfKeep hP hk2
 refine ⟨rest', hp, fun hσ => ?_, hgr, hk⟩
 exact
 {perm := hp
  it := by rw [hr]; simp
  sc := Nat.le_refl _
  map := (hk2 vb hpv).trans h.map
  grf := hgr
  err := (hk2 q hpq).trans h.err
  out := (hk ob (by omega) (by omega)).trans h.out
  born := h.born
  bnd := h.bnd
  below := h.below.trans ⟨hg.os, hg.tape, hg.output, by omega, fun k hkk => hk k (by omega) (by omega)⟩
  new := fun b hb => by have := h.new b hb; rw [hs]; exact this
  ty := fun x hx => ⟨(h.ty x hx).1.mono fun b hb => ⟨hb, hk b (h.new b hb).2.1 (h.new b hb).2.2.2⟩, (h.ty x hx).2⟩
  has := fun z hz hne => by
   rcases List.mem_append.1 hz with hz | hz
   ·exact h.has z hz hne
   ·obtain rfl := List.mem_singleton.1 hz
    exact absurd hσ hne
  src := fun x hx => by
   obtain ⟨z, hz, e⟩ := h.src x hx
   exact ⟨z, List.mem_append_left _ hz, e⟩
  nd := h.nd }
theorem ULoop.step2 (hP : UPl w vb q ob r G) (h : ULoop w vb q ob r cl G vs σ wr ds rest c0 l F) {y : Int × Nat × Nat} {w1 w2 wf : World} (hg : wr.grownBy w1 (some r)) (hs : w1.heap.size = wr.heap.size)
  (hr : w1.heap[r]? = some (.mapIter (some vb) cl ((ds.map fun x => x.2.2).toArray.push y.2.2) cl)) {rest' : Vs} (hp : (ds ++ [y] ++ rest').Perm vs) (hkeys : (vs.map fun x => x.1).Nodup)
  (hk : ∀ k, k < wr.heap.size → k ≠ r → w1.heap[k]? = wr.heap[k]?) (hB : Below w1.heap.size w1 w2) {F' : Nat → Prop} {p : Option Addr} {n c : Nat} (hF : ∀ b, F' b → w1.heap.size ≤ b ∧ b < w2.heap.size) (hty : tyF w2 F' (σ y.1) (.agg #[.int .i64 (σ y.1).kind, .int .i64 (σ y.1).n, .slice p n c]))
  (hne : σ y.1 ≠ varT y.1) (hfit : Fits (σ y.1) 60 1) (hy0 : 0 ≤ y.1) (hy1 : y.1 < 1000)
  (hwf : wf = ChangeMaps.setBlock w2 ob (.map ((l.map entT ++ [(y.1, Value.agg #[.int .i64 (σ y.1).kind, .int .i64 (σ y.1).n, .slice p n c], l.length)]).map entI).toArray (l.length + 1))) :
  ∃ l' F'', ULoop w vb q ob r cl G vs σ wf (ds ++ [y]) rest' cl l' F'' ∧ wf.heap[r]? = w1.heap[r]? ∧ wf.heap[vb]? = w1.heap[vb]? := by
 have hrl := (Array.getElem?_eq_some_iff.1 h.it).1
 have hpr := hP.r
 have hpv := hP.v
 have hpq := hP.q
 have hpw := hP.w
 have hob2 : w2.heap[ob]? = some (.map (l.map Ent.entry).toArray l.length) := (hB.block ob (by omega)).trans ((hk ob (by omega) (by omega)).trans h.out)
 have hs1 : wf.heap[ob]? = some (.map ((l.map entT ++ [(y.1, Value.agg #[.int .i64 (σ y.1).kind, .int .i64 (σ y.1).n, .slice p n c], l.length)]).map entI).toArray (l.length + 1)) := by rw [hwf]; exact (Go.MapKept.heap_set hob2).1
 have hs2 : ∀ k, k ≠ ob → wf.heap[k]? = w2.heap[k]? := by rw [hwf]; exact (Go.MapKept.heap_set hob2).2
 have hsz : wf.heap.size = w2.heap.size := by rw [hwf]; simp [ChangeMaps.setBlock]
 have hbel : Below ob w2 wf := ⟨by rw [hwf]; rfl, by rw [hwf]; rfl, by rw [hwf]; rfl, by omega, fun k hk => hs2 k (by omega)⟩
 clear hwf
 have hsb := hB.size
 have hk3 : ∀ k, k < wr.heap.size → k ≠ r → k ≠ ob → wf.heap[k]? = wr.heap[k]? := fun k h1 h2 h3 => (hs2 k h3).trans ((hB.block k (by omega)).trans (hk k h1 h2))
 have hrr : wf.heap[r]? = w1.heap[r]? := (hs2 r (by omega)).trans (hB.block r (by omega))
 let x0 : Ent := ⟨y.1, (σ y.1).kind, (σ y.1).n, p, n, c, l.length, hy0, hy1⟩
 have hnk : ∀ x ∈ l, x.n ≠ y.1 := fun x hx e => by
  obtain ⟨z, hz, ez⟩ := h.src x hx
  have h1 := (hp.map fun x => x.1).nodup_iff.2 hkeys
  rw [List.map_append, List.map_append, List.append_assoc, List.nodup_append] at h1
  exact h1.2.2 z.1 (List.mem_map_of_mem (f := fun x : Int × Nat × Nat => x.1) hz) y.1 (by simp) (ez.trans e)
 refine ⟨l ++ [x0], fun b => F b ∨ F' b, ?_, hrr, hk3 vb (by omega) (by omega) (by omega) |>.trans (hk vb (by omega) (by omega)).symm⟩
 exact
 {perm := hp
  it := by rw [hrr, hr]; simp
  sc := Nat.le_refl _
  map := (hk3 vb (by omega) (by omega) (by omega)).trans h.map
  grf := h.grfKeep hP fun k hk => hk3 k (by omega) (by omega) (by omega)
  err := (hk3 q (by omega) (by omega) (by omega)).trans h.err
  out := by
   rw [hs1]
   rw [List.map_append, entT_ent, List.map_append]
   simp [entI, Ent.entry, x0]
  born := fun x hx => by
   rw [List.length_append]
   rcases List.mem_append.1 hx with hx | hx
   ·have := h.born x hx; omega
   ·obtain rfl := List.mem_singleton.1 hx
    exact Nat.lt_succ_self _
  bnd := by
   rw [List.map_append, List.nodup_append]
   refine ⟨h.bnd, by simp, fun a ha b hb => ?_⟩
   obtain ⟨x, hx, rfl⟩ := List.mem_map.1 ha
   have := h.born x hx
   simp [x0] at hb
   omega
  below := h.below.trans ⟨hbel.os.trans (hB.os.trans hg.os), hbel.tape.trans (hB.tape.trans hg.tape), hbel.output.trans (hB.output.trans hg.output), by omega, fun k hkk => hk3 k (by omega) (by omega) (by omega)⟩
  new := fun b hb => by
   rcases hb with hb | hb
   ·have := h.new b hb; omega
   ·have := hF b hb
    have := h.below.size
    omega
  ty := fun x hx => by
   rcases List.mem_append.1 hx with hx | hx
   ·exact ⟨(h.ty x hx).1.mono fun b hb => ⟨.inl hb, hk3 b (h.new b hb).2.1 (h.new b hb).2.2.2 (h.new b hb).2.2.1⟩, (h.ty x hx).2⟩
   ·obtain rfl := List.mem_singleton.1 hx
    exact ⟨hty.mono fun b hb => ⟨.inr hb, hs2 b (by have := hF b hb; omega)⟩, hne, hfit⟩
  has := fun z hz hz2 => by
   rcases List.mem_append.1 hz with hz | hz
   ·obtain ⟨x, hx, e⟩ := h.has z hz hz2
    exact ⟨x, List.mem_append_left _ hx, e⟩
   ·obtain rfl := List.mem_singleton.1 hz
    exact ⟨x0, by simp, rfl⟩
  src := fun x hx => by
   rcases List.mem_append.1 hx with hx | hx
   ·obtain ⟨z, hz, e⟩ := h.src x hx
    exact ⟨z, List.mem_append_left _ hz, e⟩
   ·obtain rfl := List.mem_singleton.1 hx
    exact ⟨y, by simp, rfl⟩
  nd := by
   rw [List.map_append, List.nodup_append]
   refine ⟨h.nd, by simp, fun a ha b hb => ?_⟩
   obtain ⟨x, hx, rfl⟩ := List.mem_map.1 ha
   simp [x0] at hb
   rw [hb]
   exact hnk x hx }
end
theorem occ_num {n : Int} {t : Ty} (h : Occ n t) : okT t = true → 0 ≤ n ∧ n < 1000 := by
 induction h with
 | var b l =>
  intro ho
  have := (ok_node ho).1
  simp only [NodeOk] at this
  exact this.2.2.2.2.2 trivial
 | part hk hx hO ih => exact fun ho => ih (okL_mem (ok_node ho).2 _ hx)
theorem lookI_none : ∀ (l : List Ent) (n : Int) (i : Nat), (∀ x ∈ l, x.n ≠ n) → lookI (l.map entT) n i = none
 | [], _, _, _ => rfl
 | x :: l, n, i, h => by
  simp only [List.map_cons, lookI, entT]
  rw [if_neg (fun e => h x (by simp) e.symm)]
  exact lookI_none l n (i + 1) fun y hy => h y (by simp [hy])
theorem rest_nil' {ds rest vs : Vs} (hp : (ds ++ rest).Perm vs) (hnd : (vs.map fun x => x.2.2).Nodup) (hall : ∀ x ∈ vs, ∃ a, a ∈ ds ∧ a.2.2 = x.2.2) : rest = [] := by
 cases rest with
 | nil => rfl
 | cons y rest =>
  exfalso
  obtain ⟨a, ha, e⟩ := hall y (hp.mem_iff.1 (by simp))
  have h1 := (hp.map fun x => x.2.2).nodup_iff.2 hnd
  rw [List.map_append, List.nodup_append] at h1
  exact h1.2.2 a.2.2 (List.mem_map_of_mem (f := fun x : Int × Nat × Nat => x.2.2) ha) y.2.2 (by simp) e
theorem nodup_le : ∀ (N : Nat) (l : List Nat), l.Nodup → (∀ x ∈ l, x < N) → l.length ≤ N
 | 0, l, _, h => by
  cases l with
  | nil => exact Nat.le_refl _
  | cons x l => exact absurd (h x (by simp)) (Nat.not_lt_zero _)
 | N + 1, l, hn, h => by
  have h1 := nodup_le N (l.erase N) (hn.erase N) fun x hx => by
   have h2 := h x (List.mem_of_mem_erase hx)
   have h3 : x ≠ N := fun e => by
    rw [e, hn.mem_erase_iff] at hx
    exact hx.1 rfl
   omega
  have := List.length_erase (a := N) (l := l)
  split at this
  ·omega
  ·omega
theorem ents_le {l : List Ent} (h : (l.map (·.n)).Nodup) : l.length ≤ 1000 := by
 have := nodup_le 1000 (l.map fun x => x.n.toNat) ?_ ?_
 ·simpa using this
 ·unfold List.Nodup at h ⊢
  rw [List.pairwise_map] at h ⊢
  exact h.imp fun {x y} hne e => hne (by have := x.h0; have := y.h0; omega)
 ·intro x hx
  obtain ⟨y, _, rfl⟩ := List.mem_map.1 hx
  have := y.h0; have := y.h1
  omega
theorem vget_in : ∀ {vs : Vs} {n : Int} {e : Nat}, vget vs n = some e → ∃ c, (n, e, c) ∈ vs
 | y :: vs, n, e, h => by
  simp only [vget] at h
  split at h
  ·rename_i hn
   cases h
   exact ⟨y.2.2, by rw [hn]; simp⟩
  ·obtain ⟨c, hc⟩ := vget_in h
   exact ⟨c, by simp [hc]⟩
end Go.Proofs.YtnmolpkkemljoaaGreatDoor
end
section
namespace Go.Proofs.YtnmolpkkemljoaaGreatDoor
open Go Go.RowKit
theorem stopped_nil (w : World) (p : Value) : Calls Tryz.prog 52 #[.nilIface, p] w fun r w' => r = .returned (.tuple #[]) ∧ w' = w := by
 go_enter Tryz.func52, Tryz.ntmps52
 go_wp2
 refine bodyPost_ret (results_none rfl _ _ _) rfl ?_
 exact ⟨rfl, rfl⟩
theorem stopped_e (w : World) (e : Nat) (n v : Int) (T : TypeId) (hc : w.heap[e]? = some (.cells #[.int .i64 v] T (0, 0))) : Calls Tryz.prog 52 #[.iface 117 (.agg #[.int .i64 n]), .pointer (some ⟨e, 0, none⟩)] w fun r w' => r = .returned (.tuple #[]) ∧ w' = (w.setCell ⟨e, 0, none⟩ (.int .i64 n)).alloc (.cells #[.int .i64 n] 117) := by
 have hlt : e < w.heap.size := (Array.getElem?_eq_some_iff.1 hc).1
 have h0 : w.cell? ⟨e, 0, none⟩ = some (.int .i64 v) := by simp [World.cell?, hc]
 have hf : w.frozen? ⟨e, 0, none⟩ = false := by simp [World.frozen?, hc]
 have hta : Sem.run Tryz.prog (Instr.typeAssert (.iface 117 (.agg #[.int .i64 n])) 20 117 true) w = .ok (.tuple #[.agg #[.int .i64 n], .bool true]) w := rfl
 go_enter Tryz.func52, Tryz.ntmps52
 go_wp2
 go_end0
 exact ⟨rfl, rfl⟩
theorem defer_idle (e : Nat) (w : World) :
  CallsD Tryz.prog 51 #[.pointer (some ⟨e, 0, none⟩)] .returning w fun r u' w' => r = .returned (.tuple #[]) ∧ u' = .returning ∧ w' = w := by
 refine callsD_of_wpS Tryz.func51 rfl fun c₀ cs hu => ?_
 apply wpS_region
 simp [wpOpsS, go_sem, recoverD, hu, Tryz.ntmps51, Exit.thenS]
 refine (stopped_nil w _).mono ?_
 rintro e' w'' ⟨rfl, rfl⟩
 cases c₀
 simp_all [bodyPostS, results, Tryz.results51]
theorem defer_stop (e : Nat) (n v : Int) (T : TypeId) (w : World) (hc : w.heap[e]? = some (.cells #[.int .i64 v] T (0, 0))) :
  CallsD Tryz.prog 51 #[.pointer (some ⟨e, 0, none⟩)] (.panicking (stopP n)) w fun r u' w' => r = .returned (.tuple #[]) ∧ u' = .panicking [{ v := .iface 117 (.agg #[.int .i64 n]), recovered := true }] ∧ w' = (w.setCell ⟨e, 0, none⟩ (.int .i64 n)).alloc (.cells #[.int .i64 n] 117) := by
 refine callsD_of_wpS Tryz.func51 rfl fun c₀ cs hu => ?_
 apply wpS_region
 unfold stopP at hu
 simp [wpOpsS, go_sem, recoverD, hu, Tryz.ntmps51, Exit.thenS]
 refine (stopped_e w e n v T hc).mono ?_
 rintro e' w'' ⟨rfl, rfl⟩
 simp [bodyPostS, results, Tryz.results51]
end Go.Proofs.YtnmolpkkemljoaaGreatDoor
end
section
namespace Go.Proofs.YtnmolpkkemljoaaGreatDoor
open Go Go.RowKit Go.Am Kd
theorem mem_le {w w' : World} (h : Below w.heap.size w w') : (memSh w).le (memSh w') := by
 refine ⟨rfl, fun _ _ e => e, fun b o v hv => ?_, fun _ _ _ e => e, fun _ _ e => e⟩
 have hb : b < w.heap.size := by
  by_cases h : b < w.heap.size
  ·exact h
  ·have : w.heap[b]? = none := Array.getElem?_eq_none (by omega)
   simp [memSh, World.cell?, this] at hv
 exact (World.cell?_of_block (h.block b hb)).trans hv
theorem valid_run {w0 w : World} {t : Ty} {sl : Value} (hB : Below w0.heap.size w0 w) (hc : cnt t ≤ 1000) (hv : VRel (memSh w0) (.isl t.nl none 0 (encL t.l)) sl) :
  Calls Tryz.prog 76 #[.agg #[.int .i64 t.kind, .int .i64 t.n, sl]] w fun e w' => e = .returned (.bool (validB t)) ∧ Below w.heap.size w w' := by
 have hv' := hv.mono (mem_le hB)
 have h := (valid_ok t hc).calls (w := w) (vs := [.agg #[.int .i64 t.kind, .int .i64 t.n, sl]]) ?_
 ·exact h
 ·obtain ⟨k, n, b, l⟩ := t
  refine .cons _ _ _ _ (.agg _ _ ?_) .nil
  exact .cons _ _ _ _ (.int _ _) (.cons _ _ _ _ (.int _ _) (.cons _ _ _ _ hv' .nil))
theorem check_run {w : World} {t u : Ty} {sp sp' : Option Addr} {sl sc sl' sc' ab cp : Nat} (ht : cnt t ≤ 1000) (hu : cnt u ≤ 1000)
  (hvt : VRel (memSh w) (.isl t.nl none 0 (encL t.l)) (.slice sp sl sc)) (hvu : VRel (memSh w) (.isl u.nl none 0 (encL u.l)) (.slice sp' sl' sc'))
  (k0 k1 k2 k3 : Int)
  (e0 : k0 = t.kind) (e1 : k1 = t.n) (e2 : k2 = u.kind) (e3 : k3 = u.n)
  (h0 : w.cell? ⟨ab, 0, none⟩ = some (.int .i64 k0)) (h1 : w.cell? ⟨ab, 1, none⟩ = some (.int .i64 k1)) (h2 : w.cell? ⟨ab, 2, none⟩ = some (.slice sp sl sc))
  (h3 : w.cell? ⟨ab, 3, none⟩ = some (.int .i64 k2)) (h4 : w.cell? ⟨ab, 4, none⟩ = some (.int .i64 k3)) (h5 : w.cell? ⟨ab, 5, none⟩ = some (.slice sp' sl' sc')) :
  Calls Tryz.prog 53 #[.slice (some ⟨ab, 0, none⟩) 2 cp] w fun e w' => Below w.heap.size w w' ∧ ((e = .returned (.tuple #[]) ∧ validB t = true ∧ validB u = true) ∨ (e = .panicked (stopP 1) ∧ (validB t = true → validB u = true → False))) := by
 have hct : ∀ w1, Below w.heap.size w w1 → Calls Tryz.prog 76 #[.agg #[.int .i64 k0, .int .i64 k1, .slice sp sl sc]] w1 fun e w' => e = .returned (.bool (validB t)) ∧ Below w1.heap.size w1 w' := fun w1 hB => by
  rw [e0, e1]
  exact valid_run hB ht hvt
 have hcu : ∀ w1, Below w.heap.size w w1 → Calls Tryz.prog 76 #[.agg #[.int .i64 k2, .int .i64 k3, .slice sp' sl' sc']] w1 fun e w' => e = .returned (.bool (validB u)) ∧ Below w1.heap.size w1 w' := fun w1 hB => by
  rw [e2, e3]
  exact valid_run hB hu hvu
 have hab : ab < w.heap.size := (by by_cases h : ab < w.heap.size; exact h; have : w.heap[ab]? = none := Array.getElem?_eq_none (by omega); simp [World.cell?, this] at h0)
 clear e0 e1 e2 e3 hvt hvu
 generalize validB t = vt at *
 generalize validB u = vu at *
 go_enter Tryz.func53, Tryz.ntmps53
 go_wp2_with fail
 go_loopw [6] (fun v wr => ∃ (i : Nat), i ≤ 2 ∧ v = .int .i64 i ∧ (0 < i → vt = true) ∧ (1 < i → vu = true) ∧ Below w.heap.size w wr)
  (fun v _ => 2 - (intOf v).toNat)
 case atStart => exact ⟨0, by omega, rfl, fun h => (by omega), fun h => (by omega), Below.refl _ _⟩
 case round =>
  obtain ⟨i, hi, rfl, hd0, hd1, hBi⟩ := hrel
  have c0 := (hBi.cell (p := ⟨ab, 0, none⟩) hab).trans h0
  have c1 := (hBi.cell (p := ⟨ab, 1, none⟩) hab).trans h1
  have c2 := (hBi.cell (p := ⟨ab, 2, none⟩) hab).trans h2
  have c3 := (hBi.cell (p := ⟨ab, 3, none⟩) hab).trans h3
  have c4 := (hBi.cell (p := ⟨ab, 4, none⟩) hab).trans h4
  have c5 := (hBi.cell (p := ⟨ab, 5, none⟩) hab).trans h5
  rcases (show i = 0 ∨ i = 1 ∨ i = 2 by omega) with rfl | rfl | rfl
  ·cases vt with
   | true =>
    go_wp2_with (first | (go_at_call 76; (with_reducible refine (hct _ (hBi.alloc hBi.size _)).mono ?_); rintro e' w' ⟨rfl, hz⟩) | (go_at_call 66; (with_reducible refine (must_t _ 1).mono ?_); rintro e' w'' ⟨rfl, rfl⟩))
    go_roundw
    case rel => exact ⟨1, by omega, by simp, fun _ => trivial, fun h => (by omega), (hBi.alloc hBi.size _).trans (hz.mono (by have := hBi.size; simp; omega))⟩
    case measure => simp [intOf]
   | false =>
    go_wp2_with (first | (go_at_call 76; (with_reducible refine (hct _ (hBi.alloc hBi.size _)).mono ?_); rintro e' w' ⟨rfl, hz⟩) | (go_at_call 66; (with_reducible refine (must_f _ 1).mono ?_); rintro e' w'' ⟨rfl, rfl⟩))
    exact ⟨rfl, (hBi.alloc hBi.size _).trans (hz.mono (by have := hBi.size; simp; omega)), .inr ⟨rfl, fun h1 h2 => by simp at h1 h2⟩⟩
  ·have hd0' : 0 < 2 → vt = true := fun _ => hd0 (by omega)
   clear hd0 hd1
   cases vu with
   | true =>
    go_wp2_with (first | (go_at_call 76; (with_reducible refine (hcu _ (hBi.alloc hBi.size _)).mono ?_); rintro e' w' ⟨rfl, hz⟩) | (go_at_call 66; (with_reducible refine (must_t _ 1).mono ?_); rintro e' w'' ⟨rfl, rfl⟩))
    go_roundw
    case rel => exact ⟨2, by omega, by simp, hd0', fun _ => trivial, (hBi.alloc hBi.size _).trans (hz.mono (by have := hBi.size; simp; omega))⟩
    case measure => simp [intOf]
   | false =>
    go_wp2_with (first | (go_at_call 76; (with_reducible refine (hcu _ (hBi.alloc hBi.size _)).mono ?_); rintro e' w' ⟨rfl, hz⟩) | (go_at_call 66; (with_reducible refine (must_f _ 1).mono ?_); rintro e' w'' ⟨rfl, rfl⟩))
    exact ⟨rfl, (hBi.alloc hBi.size _).trans (hz.mono (by have := hBi.size; simp; omega)), .inr ⟨rfl, fun h1 h2 => by simp at h1 h2⟩⟩
  ·go_wp2_with fail
   go_end0
   exact ⟨hBi, .inl ⟨rfl, hd0 (by omega), hd1 (by omega)⟩⟩
end Go.Proofs.YtnmolpkkemljoaaGreatDoor
end
section
namespace Go.Proofs.YtnmolpkkemljoaaGreatDoor
open Go Go.RowKit
def OnlyN (K : Act → World → Prop) : Exit → Act → World → Prop
 | .normal, a, w => K a w
 | _, _, _ => False
theorem wp_onlyN {P : Program} {c : Code} {K : Act → World → Prop} {Q : Exit → Act → World → Prop} {a : Act} {w : World} (h : c.wp P (OnlyN K) a w) : c.wp P (Exit.then K Q) a w := by
 intro b k cs
 obtain ⟨e, a', w', hq, hr⟩ := h b k cs
 refine ⟨e, a', w', ?_, hr⟩
 cases e with
 | normal => exact hq
 | exit _ => exact hq.elim
 | goto _ => exact hq.elim
 | ret => exact hq.elim
 | panic _ => exact hq.elim
 | outgrown => exact hq.elim
theorem wp_cutN {P : Program} {c : Code} {K : Act → World → Prop} {Q : Exit → Act → World → Prop} {a : Act} {w : World} (K' : Act → World → Prop) (h : c.wp P (OnlyN K') a w) (hK : ∀ a w, K' a w → K a w) : c.wp P (Exit.then K Q) a w := by
 refine wp_onlyN fun b k cs => ?_
 obtain ⟨e, a', w', hq, hr⟩ := h b k cs
 refine ⟨e, a', w', ?_, hr⟩
 cases e with
 | normal => exact hK _ _ hq
 | exit _ => exact hq.elim
 | goto _ => exact hq.elim
 | ret => exact hq.elim
 | panic _ => exact hq.elim
 | outgrown => exact hq.elim
theorem door_stop {tm : Array Value} {q : Nat} {n : Int} {w : World} {Q : Ending → World → Prop} (h4 : tm[4]? = some (.slice none 0 0)) (h5 : tm[5]? = some (.pointer (some ⟨q, 0, none⟩))) (hc : w.heap[q]? = some (.cells #[.int .i64 0] 28 (0, 0)))
  (hQ : Q (.returned (.tuple #[.slice none 0 0, .int .i64 n])) ((w.setCell ⟨q, 0, none⟩ (.int .i64 n)).alloc (.cells #[.int .i64 n] 117))) :
  bodyPostD Tryz.prog Tryz.f16 Q (Exit.panic (stopP n)) { tmps := tm, defers := [{ target := Target.fn (Fn.func 51) #[.pointer (some ⟨q, 0, none⟩)], args := #[] }] } w := by
 refine leaves_cons (f := 51) (args := #[.pointer (some ⟨q, 0, none⟩)]) (by simp) (by simp [go_sem]) ?_
 refine (defer_stop q n 0 28 w hc).mono ?_
 rintro e u' w'' ⟨rfl, rfl, rfl⟩
 have hcell : ((w.setCell ⟨q, 0, none⟩ (.int .i64 n)).alloc (.cells #[.int .i64 n] 117)).cell? ⟨q, 0, none⟩ = some (.int .i64 n) := by
  have hlt : q < w.heap.size := (Array.getElem?_eq_some_iff.1 hc).1
  have h0 : w.cell? ⟨q, 0, none⟩ = some (.int .i64 0) := by simp [World.cell?, hc]
  go_simp
 simp [Leaves, settle, results, Tryz.results16, go_sem, h4, h5, hcell]
 exact hQ
theorem door_done {tm : Array Value} {q : Nat} {v : Value} {w : World} {Q : Ending → World → Prop} (h4 : tm[4]? = some v) (h5 : tm[5]? = some (.pointer (some ⟨q, 0, none⟩))) (hc : w.heap[q]? = some (.cells #[.int .i64 0] 28 (0, 0)))
  (hQ : Q (.returned (.tuple #[v, .int .i64 0])) w) :
  bodyPostD Tryz.prog Tryz.f16 Q Exit.ret { tmps := tm, defers := [{ target := Target.fn (Fn.func 51) #[.pointer (some ⟨q, 0, none⟩)], args := #[] }] } w := by
 refine leaves_cons (f := 51) (args := #[.pointer (some ⟨q, 0, none⟩)]) (by simp) (by simp [go_sem]) ?_
 refine (defer_idle q w).mono ?_
 rintro e u' w'' ⟨rfl, rfl, rfl⟩
 have hcell : w''.cell? ⟨q, 0, none⟩ = some (.int .i64 0) := by simp [World.cell?, hc]
 simp [Leaves, settle, results, Tryz.results16, go_sem, h4, h5, hcell]
 exact hQ
end Go.Proofs.YtnmolpkkemljoaaGreatDoor
end
section
namespace Go.Proofs.YtnmolpkkemljoaaGreatDoor
open Go Go.RowKit Go.Am Kd
def Two (w0 : World) (kb vb s a b : Nat) (t u : Ty) (G : Grf) (vs : Vs) (c : Nat) (τ : Nat → Ty) (w : World) : Prop :=
 TSt w0 kb vb G vs c w ∧ TreeG G vs τ ∧ τ a = cleanT t ∧ τ b = cleanT u ∧ (∃ x, G a = some x) ∧ (∃ x, G b = some x) ∧ (∀ n e, vget vs n = some e → Occ n t ∨ Occ n u) ∧ w.heap[s]? = some (.cells #[.int .i64 0] 28 (0, 0)) ∧ (∀ b x, G b = some x → vb < b ∧ ∀ g, x.row = some g → vb < g)
theorem start_st {w w6 : World} {vb : Nat} (hB : Below w.heap.size w w6) (m0 : w6.heap[vb]? = some (.map #[] 0)) (m1 : w6.heap[vb + 1]? = some (.cells #[.map (some vb)] 67 (0, 0))) (hv : w.heap.size ≤ vb) : TSt w (vb + 1) vb (fun _ => none) [] 0 w6 :=
 {below := hB, grf := fun b x h => by cases h
  knot := m1, map := m0, hi := fun b x h => by cases h
  gk := rfl, gv := rfl, rk := fun b x h => by cases h
  kv := by omega, hk := by omega, hv := hv, old := fun x h => by cases h
  born := List.nodup_nil, keys := List.nodup_nil }
theorem start_tree : TreeG (fun _ => none) [] (fun _ => varT 0) :=
 {node := fun b x h => by cases h
  ld := fun b x h => by cases h
  ar := fun b x h => by cases h
  kids := fun b x c h => by cases h
  var := fun b x h => by cases h
  vs := fun n b h => by cases h
  rows := fun b x g h => by cases h
  kd := fun b x h => by cases h }
def Fst (w0 : World) (kb vb : Nat) (t u : Ty) (a : Nat) (p1 p2 : Nat) (sl : Value) (G : Grf) (vs : Vs) (c : Nat) (τ : Nat → Ty) (w : World) : Prop :=
 TSt w0 kb vb G vs c w ∧ TreeG G vs τ ∧ τ a = cleanT t ∧ (∃ x, G a = some x) ∧ (∀ n e, vget vs n = some e → Occ n t) ∧ w.heap[p1]? = some (.cells #[.int .i64 u.kind, .int .i64 u.n, sl] 24 (0, 0)) ∧ w.heap[p2]? = some (.cells #[.int .i64 0] 28 (0, 0)) ∧ (∀ b x, G b = some x → vb < b ∧ ∀ g, x.row = some g → vb < g)
theorem fst_run {w w6 : World} {vb p1 p2 : Nat} {t u : Ty} {sp : Option Addr} {sl sc : Nat} {slu : Value} (ho : okT t = true) (hS : TSt w (vb + 1) vb (fun _ => none) [] 0 w6) (hv : VRel (memSh w) (.isl t.nl none 0 (encL t.l)) (.slice sp sl sc))
  (h1 : w6.heap[p1]? = some (.cells #[.int .i64 u.kind, .int .i64 u.n, slu] 24 (0, 0))) (h2 : w6.heap[p2]? = some (.cells #[.int .i64 0] 28 (0, 0))) (hp1 : p1 < vb) (hp2 : p2 < vb) :
  Calls Tryz.prog 54 #[.pointer (some ⟨vb + 1, 0, none⟩), .agg #[.int .i64 t.kind, .int .i64 t.n, .slice sp sl sc]] w6 fun e w7 => ∃ a G vs c τ, e = .returned (.pointer (some ⟨a, 0, none⟩)) ∧ Fst w (vb + 1) vb t u a p1 p2 slu G vs c τ w7 ∧
   w7.cell? ⟨p1, 0, none⟩ = some (.int .i64 u.kind) ∧ w7.cell? ⟨p1, 1, none⟩ = some (.int .i64 u.n) ∧ w7.cell? ⟨p1, 2, none⟩ = some slu := by
 refine (tied_run _ t (Nat.lt_succ_self _) ho sp sl sc hv _ _ _ _ w6 hS start_tree).mono ?_
 rintro e w7 ⟨a, G, vs, c, τ, rfl, hS', hT', hta, hga, _, hnew, hsz, hfr⟩
 have hkl : vb + 1 < w6.heap.size := (Array.getElem?_eq_some_iff.1 hS.knot).1
 have q1 := (hfr p1 (by omega) (by omega)).trans h1
 have q2 := (hfr p2 (by omega) (by omega)).trans h2
 refine ⟨a, G, vs, c, τ, rfl, ⟨hS', hT', hta, hga, fun n e he => ?_, q1, q2, fun b x hx => ?_⟩, by simp [World.cell?, q1], by simp [World.cell?, q1], by simp [World.cell?, q1]⟩
 ·obtain ⟨x, hx, hx6, hxn⟩ := hT'.vs n e he
  rcases hnew e x hx with h | ⟨_, _, h⟩
  ·cases h
  ·rw [← hxn]; exact h hx6
 ·rcases hnew b x hx with h | ⟨h, h', _⟩
  ·cases h
  ·exact ⟨by omega, fun g hg => by have := h' g hg; omega⟩
theorem snd_run {w w7 : World} {vb p1 p2 a c : Nat} {t u : Ty} {sp : Option Addr} {sl sc : Nat} {slu : Value} {G : Grf} {vs : Vs} {τ : Nat → Ty} (ho : okT u = true) (hF : Fst w (vb + 1) vb t u a p1 p2 slu G vs c τ w7) (hv : VRel (memSh w) (.isl u.nl none 0 (encL u.l)) (.slice sp sl sc)) (hp2 : p2 < vb) :
  Calls Tryz.prog 54 #[.pointer (some ⟨vb + 1, 0, none⟩), .agg #[.int .i64 u.kind, .int .i64 u.n, .slice sp sl sc]] w7 fun e w8 => ∃ b G vs c τ, e = .returned (.pointer (some ⟨b, 0, none⟩)) ∧ Two w (vb + 1) vb p2 a b t u G vs c τ w8 := by
 obtain ⟨hS, hT, hta, ⟨x, hxa⟩, hvs, h1, h2, hlo⟩ := hF
 refine (tied_run _ u (Nat.lt_succ_self _) ho sp sl sc hv _ _ _ _ w7 hS hT).mono ?_
 rintro e w8 ⟨b, G', vs', c', τ', rfl, hS', hT', htb, hgb, hkeep, hnew, hsz, hfr⟩
 have hkl : vb + 1 < w7.heap.size := (Array.getElem?_eq_some_iff.1 hS.knot).1
 have q2 := (hfr p2 (by omega) (by omega)).trans h2
 obtain ⟨k1, k2⟩ := hkeep a x hxa
 refine ⟨b, G', vs', c', τ', rfl, hS', hT', k2.trans hta, htb, ⟨x, k1⟩, hgb, fun n e he => ?_, q2, fun e y hy => ?_⟩
 ·obtain ⟨y, hy, hy6, hyn⟩ := hT'.vs n e he
  rcases hnew e y hy with h | ⟨_, _, h⟩
  ·have := hT.var e y h hy6
   rw [hyn] at this
   exact .inl (hvs n e this)
  ·rw [← hyn]; exact .inr (h hy6)
 ·rcases hnew e y hy with h | ⟨h, h', _⟩
  ·exact hlo e y h
  ·exact ⟨by omega, fun g hg => by have := h' g hg; omega⟩
def UniRun (t u : Ty) (w : World) (e : Ending) (w' : World) : Prop :=
 Below w.heap.size w w' ∧ ((e = .returned (.tuple #[.slice none 0 0, .int .i64 1]) ∧ (validB t = true → validB u = true → False)) ∨
  (validB t = true ∧ validB u = true ∧ ((e = .returned (.tuple #[.slice none 0 0, .int .i64 15]) ∧ ∀ θ : Int → Ty, subT θ t = subT θ u → False) ∨
   (∃ σ, CanMgu σ t u ∧ ((e = .returned (.tuple #[.slice none 0 0, .int .i64 9]) ∧ ∃ n, σ n ≠ varT n ∧ ¬ Fits (σ n) 60 1) ∨
    ∃ v l F, e = .returned (.tuple #[v, .int .i64 0]) ∧ Listed w.heap.size l v w' ∧ (∀ b, F b → w.heap.size ≤ b ∧ b < w'.heap.size) ∧ (∀ x ∈ l, tyF w' F (σ x.n) x.entry.val ∧ σ x.n ≠ varT x.n ∧ Fits (σ x.n) 60 1) ∧ (∀ n, σ n ≠ varT n → ∃ x ∈ l, x.n = n) ∧ (l.map (·.n)).Nodup)))))
theorem UniRun.stop1 {t u : Ty} {w w' : World} {q : Nat} (hB : Below w.heap.size w w') (hq : w.heap.size ≤ q) (h : validB t = true → validB u = true → False) : UniRun t u w (.returned (.tuple #[.slice none 0 0, .int .i64 1])) ((w'.setCell ⟨q, 0, none⟩ (.int .i64 1)).alloc (.cells #[.int .i64 1] 117)) :=
 ⟨(hB.setCell (p := ⟨q, 0, none⟩) hq _).alloc (Nat.le_trans hB.size (Below.setCell (Below.refl 0 w') (p := ⟨q, 0, none⟩) (Nat.zero_le _) _).size) _, .inl ⟨rfl, h⟩⟩
theorem UniRun.stop {t u : Ty} {w w' : World} {q : Nat} {n : Int} (hB : Below w.heap.size w w') (hq : w.heap.size ≤ q) (h1 : validB t = true) (h2 : validB u = true)
  (h : (n = 15 ∧ ∀ θ : Int → Ty, subT θ t = subT θ u → False) ∨ (n = 9 ∧ ∃ σ, CanMgu σ t u ∧ ∃ n, σ n ≠ varT n ∧ ¬ Fits (σ n) 60 1)) : UniRun t u w (.returned (.tuple #[.slice none 0 0, .int .i64 n])) ((w'.setCell ⟨q, 0, none⟩ (.int .i64 n)).alloc (.cells #[.int .i64 n] 117)) := by
 refine ⟨(hB.setCell (p := ⟨q, 0, none⟩) hq _).alloc (Nat.le_trans hB.size (Below.setCell (Below.refl 0 w') (p := ⟨q, 0, none⟩) (Nat.zero_le _) _).size) _, .inr ⟨h1, h2, ?_⟩⟩
 rcases h with ⟨rfl, h⟩ | ⟨rfl, σ, h3, h4⟩
 ·exact .inl ⟨rfl, h⟩
 ·exact .inr ⟨σ, h3, .inl ⟨rfl, h4⟩⟩
theorem no_theta {G : Grf} {vs : Vs} {τ : Nat → Ty} {a b : Nat} {t u : Ty} (hT : TreeG G vs τ) (ha : τ a = cleanT t) (hb : τ b = cleanT u) (h : ∀ v, Cons v G → v a = v b → False) : ∀ θ : Int → Ty, subT θ t = subT θ u → False := fun θ e =>
 h _ (sub_cons (θ := θ) hT) (by
  show subT θ (τ a) = subT θ (τ b)
  rw [ha, hb, (sub_of_clean θ).1, (sub_of_clean θ).1, e])
theorem unify_run {w : World} {t u : Ty} {sp sp' : Option Addr} {sl sc sl' sc' : Nat} (ht : cnt t ≤ 1000) (hu : cnt u ≤ 1000)
  (hvt : VRel (memSh w) (.isl t.nl none 0 (encL t.l)) (.slice sp sl sc)) (hvu : VRel (memSh w) (.isl u.nl none 0 (encL u.l)) (.slice sp' sl' sc')) :
  Calls Tryz.prog 16 #[.agg #[.int .i64 t.kind, .int .i64 t.n, .slice sp sl sc], .agg #[.int .i64 u.kind, .int .i64 u.n, .slice sp' sl' sc']] w (UniRun t u w) := by
 have hmf : ∀ (fn : Fn) (first cap : Array Value) (w : World), (Instr.makeFunc fn first cap).run Tryz.prog w = .ok (.func fn first cap) w := fun _ _ _ _ => rfl
 have hmm : ∀ (w : World), (Instr.makeMap 65 none).run Tryz.prog w = .ok (.map (some w.heap.size)) (w.alloc (.map #[] 0)) := fun w => by simp [Instr.makeMap]
 have hmm2 : ∀ (w : World), (Instr.makeMap 74 none).run Tryz.prog w = .ok (.map (some w.heap.size)) (w.alloc (.map #[] 0)) := fun w => by simp [Instr.makeMap]
 go_enter_defers Tryz.func16, Tryz.ntmps16
 go_upto_region 2 with (fail)
 obtain ⟨w3, hw3⟩ : ∃ w3, w3 = ((w.alloc (Obj.cells #[Value.int IntKind.i64 t.kind, Value.int IntKind.i64 t.n, Value.slice sp sl sc] 24)).alloc (Obj.cells #[Value.int IntKind.i64 u.kind, Value.int IntKind.i64 u.n, Value.slice sp' sl' sc'] 24)).alloc (Obj.cells #[Value.int IntKind.i64 0] 28) := ⟨_, rfl⟩
 have f0 : w3.heap[w.heap.size]? = some (.cells #[Value.int IntKind.i64 t.kind, Value.int IntKind.i64 t.n, Value.slice sp sl sc] 24 (0, 0)) := by
  rw [hw3, Below.heap_alloc _ _ _ (by simp; omega), Below.heap_alloc _ _ _ (by simp)]
  exact heap_alloc_new _ _
 have f1 : w3.heap[w.heap.size + 1]? = some (.cells #[Value.int IntKind.i64 u.kind, Value.int IntKind.i64 u.n, Value.slice sp' sl' sc'] 24 (0, 0)) := by
  rw [hw3]
  exact third _ _ _ _
 have f2 : w3.heap[w.heap.size + 1 + 1]? = some (.cells #[Value.int IntKind.i64 0] 28 (0, 0)) := by
  have := heap_alloc_new ((w.alloc (Obj.cells #[Value.int IntKind.i64 t.kind, Value.int IntKind.i64 t.n, Value.slice sp sl sc] 24)).alloc (Obj.cells #[Value.int IntKind.i64 u.kind, Value.int IntKind.i64 u.n, Value.slice sp' sl' sc'] 24)) (Obj.cells #[Value.int IntKind.i64 0] 28)
  rw [hw3]
  simpa using this
 have f3 : Below w.heap.size w w3 := by
  rw [hw3]
  exact (((Below.refl _ w).alloc (Nat.le_refl _) _).alloc (by simp) _).alloc (by simp; omega) _
 rw [← hw3]
 clear hw3
 have hchk : ∀ w4 ab cp, Below w.heap.size w w4 → w4.heap[ab]? = some (.cells #[Value.int IntKind.i64 t.kind, Value.int IntKind.i64 t.n, Value.slice sp sl sc, Value.int IntKind.i64 u.kind, Value.int IntKind.i64 u.n, Value.slice sp' sl' sc'] 24 (0, 0)) →
   Calls Tryz.prog 53 #[.slice (some ⟨ab, 0, none⟩) 2 cp] w4 fun e w' => Below w4.heap.size w4 w' ∧ ((e = .returned (.tuple #[]) ∧ validB t = true ∧ validB u = true) ∨ (e = .panicked (stopP 1) ∧ (validB t = true → validB u = true → False))) := fun w4 ab cp hB hc => by
  refine check_run ht hu (hvt.mono (mem_le hB)) (hvu.mono (mem_le hB)) _ _ _ _ rfl rfl rfl rfl ?_ ?_ ?_ ?_ ?_ ?_ <;> simp [World.cell?, hc]
 obtain ⟨s, hs⟩ : ∃ s, s ≤ w.heap.size ∧ w.heap.size ≤ s := ⟨_, Nat.le_refl _, Nat.le_refl _⟩
 have hs1 : w.heap.size = s := by omega
 rw [hs1] at f0 f1 f2 f3 hchk ⊢
 clear hs1
 have c00 : w3.cell? ⟨s, 0, none⟩ = some (Value.int IntKind.i64 t.kind) := by simp [World.cell?, f0]
 have c01 : w3.cell? ⟨s, 1, none⟩ = some (Value.int IntKind.i64 t.n) := by simp [World.cell?, f0]
 have c02 : w3.cell? ⟨s, 2, none⟩ = some (Value.slice sp sl sc) := by simp [World.cell?, f0]
 have c10 : w3.cell? ⟨s + 1, 0, none⟩ = some (Value.int IntKind.i64 u.kind) := by simp [World.cell?, f1]
 have c11 : w3.cell? ⟨s + 1, 1, none⟩ = some (Value.int IntKind.i64 u.n) := by simp [World.cell?, f1]
 have c12 : w3.cell? ⟨s + 1, 2, none⟩ = some (Value.slice sp' sl' sc') := by simp [World.cell?, f1]
 have hl2 : s + 1 + 1 < w3.heap.size := (Array.getElem?_eq_some_iff.1 f2).1
 go_upto_region 3 with (go_at_call 53; (with_reducible refine (hchk _ _ _ (f3.alloc (by omega) _) (heap_alloc_new _ _)).mono ?_); rintro e' w' ⟨hB4, ⟨rfl, hv1, hv2⟩ | ⟨rfl, hno⟩⟩)
 case inr =>
  have hse : s = w.heap.size := by omega
  subst hse
  exact door_stop rfl rfl ((hB4.block _ (by simp; omega)).trans ((Below.heap_alloc _ _ _ hl2).trans f2)) (.stop1 ((f3.alloc (by omega) _).trans (hB4.mono (by simp; omega))) (by omega) hno)
 have gB : Below s w w' := (f3.alloc (by omega) _).trans (hB4.mono (by simp; omega))
 have up : ∀ k, k < w3.heap.size → w'.heap[k]? = w3.heap[k]? := fun k hk => (hB4.block _ (by simp; omega)).trans (Below.heap_alloc _ _ _ hk)
 have g0 := (up s (by omega)).trans f0
 have g1 := (up (s + 1) (by omega)).trans f1
 have g2 := (up (s + 1 + 1) (by omega)).trans f2
 have gl : s + 1 + 1 < w'.heap.size := (Array.getElem?_eq_some_iff.1 g2).1
 clear up hB4 hchk c00 c01 c02 c10 c11 c12 f0 f1 f2 f3 hl2
 generalize w3.heap.size = s3 at *
 clear w3
 go_upto_region 4 with (fail)
 obtain ⟨w6, hw6⟩ : ∃ w6, w6 = (w'.alloc (Obj.map #[] 0)).alloc (Obj.cells #[Value.map (some w'.heap.size)] 67) := ⟨_, rfl⟩
 have up : ∀ k, k < w'.heap.size → w6.heap[k]? = w'.heap[k]? := fun k hk => by rw [hw6, Below.heap_alloc _ _ _ (by simp; omega), Below.heap_alloc _ _ _ hk]
 have m0 : w6.heap[w'.heap.size]? = some (.map #[] 0) := by
  rw [hw6, Below.heap_alloc _ _ _ (by simp)]
  exact heap_alloc_new _ _
 have m1 : w6.heap[w'.heap.size + 1]? = some (.cells #[.map (some w'.heap.size)] 67 (0, 0)) := by
  have := heap_alloc_new (w'.alloc (Obj.map #[] 0)) (Obj.cells #[Value.map (some w'.heap.size)] 67)
  rw [hw6]
  simpa using this
 have mB : Below s w w6 := by rw [hw6]; exact (gB.alloc (by omega) _).alloc (by simp; omega) _
 have l0 := (up s (by omega)).trans g0
 have l1 := (up (s + 1) (by omega)).trans g1
 have l2 := (up (s + 1 + 1) (by omega)).trans g2
 rw [← hw6]
 clear hw6 up g0 g1 g2 gB
 generalize w'.heap.size = vb at *
 clear w'
 have hot : okT t = true := ((valid_eq t).1 hv1).2.2
 have hou : okT u = true := ((valid_eq u).1 hv2).2.2
 have hS0 : TSt w (vb + 1) vb (fun _ => none) [] 0 w6 := start_st (mB.mono (by omega)) m0 m1 (by omega)
 have hq1 := fst_run (u := u) hot (hS0.drewN 1) hvt (w6 := w6.drew) l1 l2 (by omega) (by omega)
 have c00 : w6.cell? ⟨s, 0, none⟩ = some (Value.int IntKind.i64 t.kind) := by simp [World.cell?, l0]
 have c01 : w6.cell? ⟨s, 1, none⟩ = some (Value.int IntKind.i64 t.n) := by simp [World.cell?, l0]
 have c02 : w6.cell? ⟨s, 2, none⟩ = some (Value.slice sp sl sc) := by simp [World.cell?, l0]
 have c10 : w6.cell? ⟨s + 1, 0, none⟩ = some (Value.int IntKind.i64 u.kind) := by simp [World.cell?, l1]
 have c11 : w6.cell? ⟨s + 1, 1, none⟩ = some (Value.int IntKind.i64 u.n) := by simp [World.cell?, l1]
 have c12 : w6.cell? ⟨s + 1, 2, none⟩ = some (Value.slice sp' sl' sc') := by simp [World.cell?, l1]
 clear l0 l1 l2 m0 m1 hS0
 have hp2 : s + 1 + 1 < vb := gl
 have hsn := fun {w7 : World} {a c : Nat} {G : Grf} {vs : Vs} {τ : Nat → Ty} (hF : Fst w (vb + 1) vb t u a (s + 1) (s + 1 + 1) (Value.slice sp' sl' sc') G vs c τ w7) => snd_run hou hF hvu hp2
 refine wp_cutN (fun a' w' => ∃ a b G vs cl τ, Two w (vb + 1) vb (s + 1 + 1) a b t u G vs cl τ w' ∧ a' = { tmps := #[Value.agg #[Value.int IntKind.i64 t.kind, Value.int IntKind.i64 t.n, Value.slice sp sl sc], Value.agg #[Value.int IntKind.i64 u.kind, Value.int IntKind.i64 u.n, Value.slice sp' sl' sc'], Value.pointer (some ⟨s, 0, none⟩), Value.pointer (some ⟨s + 1, 0, none⟩), Value.slice none 0 0, Value.pointer (some ⟨s + 1 + 1, 0, none⟩), Value.pointer (some ⟨vb + 1, 0, none⟩), Value.pointer (some ⟨a, 0, none⟩), Value.pointer (some ⟨b, 0, none⟩), undef, undef, undef, undef, Value.func (Fn.func 51) #[] #[Value.pointer (some ⟨s + 1 + 1, 0, none⟩)], Value.agg #[Value.int IntKind.i64 t.kind, Value.int IntKind.i64 t.n, Value.slice sp sl sc], Value.agg #[Value.int IntKind.i64 u.kind, Value.int IntKind.i64 u.n, Value.slice sp' sl' sc'], Value.slice (some ⟨s3, 0, none⟩) 2 2, Value.tuple #[], Value.map (some vb), Value.agg #[Value.map (some vb)], Value.pointer (some ⟨vb + 1, 0, none⟩), Value.pointer (some ⟨vb + 1, 0, none⟩), Value.agg #[Value.int IntKind.i64 t.kind, Value.int IntKind.i64 t.n, Value.slice sp sl sc], Value.pointer (some ⟨a, 0, none⟩), Value.pointer (some ⟨vb + 1, 0, none⟩), Value.agg #[Value.int IntKind.i64 u.kind, Value.int IntKind.i64 u.n, Value.slice sp' sl' sc'], Value.pointer (some ⟨b, 0, none⟩), undef, undef, undef, undef, undef, undef, undef, undef, undef, undef, undef, undef, undef, undef, undef, undef, undef, undef, undef, undef, undef, undef, undef, undef, undef, undef, undef, undef, undef], defers := [{ target := Target.fn (Fn.func 51) #[Value.pointer (some ⟨s + 1 + 1, 0, none⟩)], args := #[] }] }) ?_ ?_
 ·go_region_law (first
   | (go_simp; go_at_call 54; (with_reducible refine hq1.mono ?_); rintro e7 w7 ⟨a, G1, vs1, cl1, τ1, rfl, hF7, d0, d1, d2⟩)
   | (go_simp; go_at_call 54; (with_reducible refine (hsn hF7).mono ?_); rintro e8 w8 ⟨b, G2, vs2, cl2, τ2, rfl, hF8⟩))
  all_goals exact ⟨a, b, G2, vs2, cl2, τ2, hF8, rfl⟩
 rename_i K1 hK1
 rintro a' w' ⟨a, b, G, vs, cl, τ, hTwo, rfl⟩
 refine hK1 _ _ ?_
 clear hK1 K1 hq1 hsn c00 c01 c02 c10 c11 c12 mB
 dsimp only
 obtain ⟨hS, hT, hta, htb, ⟨xa, hxa⟩, ⟨xb, hxb⟩, hvs, g2, hlo⟩ := hTwo
 have hsame := same_run w'.heap.size _ G _ _ w' a b xa xb (Nat.le_refl _) (fun c z hz => hS.grf.lt hz) hS.grf hT.rows (start_okg hT) hxa hxb
 have hns : G (s + 1 + 1) = none := by
  cases hx : G (s + 1 + 1) with
  | none => rfl
  | some y => have := (hlo _ _ hx).1; omega
 have hwB : ∀ w9, Touch G w' w9 → Below w.heap.size w w9 := fun w9 ht => hS.below.trans ⟨ht.os, ht.tape, ht.output, ht.size, fun k hk => ht.block k (by have := hS.below.size; omega) (by
  cases hx : G k with
  | none => rfl
  | some y => have := (hS.hi _ _ hx).1; omega)⟩
 unfold ptrN at hsame
 go_upto_region 6 with (go_at_call 55; (with_reducible refine hsame.mono ?_); rintro e' w9 ⟨htc, ⟨rfl, G', ρ', d', hG', ho', he', _, hco, hcg⟩ | ⟨rfl, hno⟩⟩)
 case inr => exact door_stop rfl rfl ((htc.block _ (Array.getElem?_eq_some_iff.1 g2).1 hns).trans g2) (.stop (hwB _ htc) (by omega) hv1 hv2 (.inl ⟨rfl, no_theta hT hta htb hno⟩))
 have g3 := (htc.block _ (Array.getElem?_eq_some_iff.1 g2).1 hns).trans g2
 have hB9 := hwB _ htc
 have hm9 := (htc.block _ (Array.getElem?_eq_some_iff.1 hS.map).1 hS.gv).trans hS.map
 clear hsame hwB
 have hacy : ∀ w4 ab cp, Below w9.heap.size w9 w4 → w4.heap[ab]? = some (.cells #[.pointer (some ⟨a, 0, none⟩), .pointer (some ⟨b, 0, none⟩)] 68 (0, 0)) → Calls Tryz.prog 56 #[.slice (some ⟨ab, 0, none⟩) 2 cp] w4 (AcyRun G' ρ' a b w4) := fun w4 ab cp hB hc => by
  obtain ⟨ta, qa, _⟩ := he'.fwd a xa hxa
  obtain ⟨tb, qb, _⟩ := he'.fwd b xb hxb
  refine acyclic_run ho' (hG'.keep fun k hk => hB.block k hk) (he'.rows hT.rows) qa qb ?_ ?_ (Array.getElem?_eq_some_iff.1 hc).1 <;> simp [World.cell?, hc, ptrN]
 go_upto_region 7 with (go_at_call 56; (with_reducible refine (hacy _ _ _ ((Below.refl _ _).alloc (Nat.le_refl _) _) (heap_alloc_new _ _)).mono ?_); rintro e' w10 ⟨hB10, ⟨rfl, S, R, hSa, hSb, hover⟩ | ⟨rfl, hno⟩⟩)
 case inr =>
  have hk10 : ∀ k, k < w9.heap.size → w10.heap[k]? = w9.heap[k]? := fun k hk => (hB10.block k (by simp; omega)).trans (Below.heap_alloc _ _ _ hk)
  have hB' : Below w.heap.size w w10 := hB9.trans ((((Below.refl w.heap.size w9).alloc hB9.size _)).trans (hB10.mono (by have := hB9.size; simp; omega)))
  exact door_stop rfl rfl ((hk10 _ (Array.getElem?_eq_some_iff.1 g3).1).trans g3) (.stop hB' (by omega) hv1 hv2 (.inl ⟨rfl, no_theta hT hta htb fun v h1 h2 => hno v ((hco v).2 ⟨h1, h2⟩)⟩))
 have hk10 : ∀ k, k < w9.heap.size → w10.heap[k]? = w9.heap[k]? := fun k hk => (hB10.block k (by simp; omega)).trans (Below.heap_alloc _ _ _ hk)
 have hG10 : GrfAt G' w10 := hG'.keep hk10
 have hm10 := (hk10 _ (Array.getElem?_eq_some_iff.1 hm9).1).trans hm9
 have hkn9 := (htc.block _ (Array.getElem?_eq_some_iff.1 hS.knot).1 hS.gk).trans hS.knot
 have hkn10 := (hk10 _ (Array.getElem?_eq_some_iff.1 hkn9).1).trans hkn9
 have g10 := (hk10 _ (Array.getElem?_eq_some_iff.1 g3).1).trans g3
 have hB' : Below w.heap.size w w10 := hB9.trans ((((Below.refl w.heap.size w9).alloc hB9.size _)).trans (hB10.mono (by have := hB9.size; simp; omega)))
 have hJ : Joined G G' vs τ ρ' d' a b S R := ⟨hT, ho', he', hcg, hover⟩
 have hM := hJ.mgu hco hot hou hxa hxb hta htb hSa hSb hvs
 have hglt : ∀ b x, G' b = some x → b < w10.heap.size ∧ ∀ g, x.row = some g → g < w10.heap.size := fun b x hx => ⟨hG10.lt hx, fun g hg => hG10.rowLt hx hg⟩
 have hvl := (Array.getElem?_eq_some_iff.1 hm10).1
 have hql := (Array.getElem?_eq_some_iff.1 g10).1
 have hgv' : G' vb = none := he'.bwd vb hS.gv
 have hgr' : ∀ b x, G' b = some x → x.row ≠ some vb := fun b x hx => by
  obtain ⟨x0, h1, h2, _⟩ := he'.old hx
  rw [h2]
  exact (hS.rk b x0 h1).2
 have hkl := (Array.getElem?_eq_some_iff.1 hkn10).1
 have hold : ∀ x ∈ vsE vs, x.2.2 < cl := fun x hx => by
  obtain ⟨y, hy, rfl⟩ := List.mem_map.1 hx
  exact hS.old y hy
 have hbnd : ((vsE vs).map (·.2.2)).Nodup := by rw [vsE_born]; exact hS.born
 have hkeys := hS.keys
 clear hacy hB10 hk10 hkn9 hm9 g3 htc hB9 hG' hS hlo hns g2
 generalize w9.heap.size = s9 at *
 go_upto_region 8 with (fail)
 obtain ⟨w11, hw11⟩ : ∃ w11, w11 = w10.alloc (Obj.map #[] 0) := ⟨_, rfl⟩
 rw [← hw11]
 have o11 : w11.heap[w10.heap.size]? = some (.map #[] 0) := by rw [hw11]; exact heap_alloc_new _ _
 have k11 : ∀ k, k < w10.heap.size → w11.heap[k]? = w10.heap[k]? := fun k hk => by rw [hw11]; exact Below.heap_alloc _ _ _ hk
 have z11 : w11.heap.size = w10.heap.size + 1 := by rw [hw11]; simp
 have b11 : Below w.heap.size w w11 := by rw [hw11]; exact hB'.alloc hB'.size _
 have G11 : GrfAt G' w11 := by rw [hw11]; exact hG10.alloc _
 have m11 := (k11 _ hvl).trans hm10
 have e11 := (k11 _ hql).trans g10
 have n11 : w11.cell? ⟨vb + 1, 0, none⟩ = some (.map (some vb)) := by simp [World.cell?, k11 _ hkl, hkn10]
 clear hw11 k11 hB' hG10 hm10 g10 hkn10
 obtain ⟨ob, hob⟩ : ∃ ob, ob = w10.heap.size := ⟨_, rfl⟩
 rw [← hob] at o11 z11 hglt hvl hql hkl ⊢
 clear hob
 clear w10
 have z11' : ob + 1 ≤ w11.heap.size ∧ w11.heap.size ≤ ob + 1 := by omega
 have hP : UPl w vb (s + 1 + 1) ob w11.heap.size G' := ⟨hglt, hvl, hql, by omega, by omega, hgv', hgr'⟩
 have hL0 : ULoop w vb (s + 1 + 1) ob w11.heap.size cl G' vs (sigG G' vs ρ' R) (w11.alloc (.mapIter (some vb) cl #[] cl)) [] vs cl [] (fun _ => False) :=
  {perm := .refl _
   it := heap_alloc_new _ _
   sc := Nat.le_refl _
   map := (Below.heap_alloc _ _ _ (by omega)).trans m11
   grf := G11.alloc _
   err := (Below.heap_alloc _ _ _ (by omega)).trans e11
   out := (Below.heap_alloc _ _ _ (by omega)).trans o11
   born := fun x hx => by cases hx
   bnd := List.nodup_nil
   below := b11.alloc b11.size _
   new := fun b hb => hb.elim
   ty := fun x hx => by cases hx
   has := fun y hy => by cases hy
   src := fun x hx => by cases hx
   nd := List.nodup_nil }
 clear z11
 go_wp2_with (first
  | (at_range; refine wpList_range_raw _ rfl _ 65 rfl 3 68 (by kernel_rfl) vb _ cl rfl m11 ?_)
  | go_in)
 go_frame
 clear m11 e11 o11 n11 G11 b11
 generalize w11.alloc (.mapIter (some vb) cl #[] cl) = w12 at *
 generalize w11.heap.size = r at *
 clear w11
 go_loopw [10] (fun _ wr => ∃ (ds rest : Vs) (c0 : Nat) (l : List Ent) (F : Nat → Prop), ULoop w vb (s + 1 + 1) ob r cl G' vs (sigG G' vs ρ' R) wr ds rest c0 l F)
  (fun _ wr => wr.rangeLeft vb r)
 case atStart => exact ⟨_, _, _, _, _, hL0⟩
 case round =>
  obtain ⟨ds, rest, c0, l, F, hL⟩ := hrel
  clear hL0
  go_wp2_with (first
   | (at_next; refine wpList_next_int _ rfl _ rfl vb r cl c0 _ (vsE vs) cl rfl hL.it hL.map hold hL.sc hbnd ?_ ?_)
   | go_in)
  ·intro hall
   have hrest : rest = [] := rest_nil' hL.perm (by have := hbnd; rw [vsE_born] at this; exact this) fun y hy => by
    obtain ⟨a1, a2, h⟩ := hall y.1 (ptrN y.2.1) y.2.2 (List.mem_map_of_mem (f := fun x : Int × Nat × Nat => (x.1, ptrN x.2.1, x.2.2)) hy)
    exact ⟨_, h, rfl⟩
   subst hrest
   have hlist := list_run sort_says sort_none wr ob l l.length hL.out hL.born hL.bnd (ents_le hL.nd)
   have hqw := (Array.getElem?_eq_some_iff.1 hL.err).1
   clear hall
   go_upto_region 14 with (fail)
   go_wp2_with (go_at_call 59; (with_reducible refine hlist.mono ?_); rintro e' w' ⟨hBl, v, rfl, hLi⟩; have hc9 := (hBl.block _ hqw).trans hL.err; have c9 : w'.cell? ⟨s + 1 + 1, 0, none⟩ = some (.int .i64 0) := (by simp [World.cell?, hc9]); have f9 : w'.frozen? ⟨s + 1 + 1, 0, none⟩ = false := (by simp [World.frozen?, hc9]))
   have hcs : (w'.setCell ⟨s + 1 + 1, 0, none⟩ (.int .i64 0)).heap[s + 1 + 1]? = some (.cells #[.int .i64 0] 28 (0, 0)) := by
    simp only [World.setCell]
    rw [Array.getElem?_modify, if_pos rfl, hc9]
    rfl
   have hks : ∀ k, (w'.setCell ⟨s + 1 + 1, 0, none⟩ (.int .i64 0)).heap[k]? = w'.heap[k]? := fun k => by
    by_cases hk : k = s + 1 + 1
    ·rw [hk, hcs, hc9]
    ·exact Below.heap_setCell _ _ _ _ hk
   have hsz : (w'.setCell ⟨s + 1 + 1, 0, none⟩ (.int .i64 0)).heap.size = w'.heap.size := by simp [World.setCell]
   have hwr := hL.below.size
   have hwz := hBl.size
   have hB9 : Below w.heap.size w w' := hL.below.trans (hBl.mono hwr)
   refine door_done rfl rfl hcs ⟨hB9.trans ⟨rfl, rfl, rfl, by omega, fun k _ => hks k⟩, .inr ⟨hv1, hv2, .inr ⟨_, hM, .inr ⟨v, l, F, rfl, ?_, fun b1 hb => ?_, fun x hx => ?_, fun n hn => ?_, hL.nd⟩⟩⟩⟩
   ·rcases hLi with h1 | ⟨g, cap, cur, d9, h1, h2, h3, h4, h5⟩
    ·exact .inl h1
    ·exact .inr ⟨g, cap, cur, d9, h1, h2, by omega, (hks g).trans h4, h5⟩
   ·have := hL.new b1 hb
    omega
   ·exact ⟨(hL.ty x hx).1.mono fun b1 hb => ⟨hb, (hks b1).trans (hBl.block b1 (hL.new b1 hb).2.1)⟩, (hL.ty x hx).2⟩
   ·cases hve : vget vs n with
    | none => exact absurd (by simp only [sigG, hve]) hn
    | some e =>
     obtain ⟨c1, hc1⟩ := vget_in hve
     have := hL.perm.mem_iff.2 hc1
     rw [List.append_nil] at this
     exact hL.has _ this hn
  ·intro n pv bn w1 hx hxs hg1 hs1 hr1 hb1 hlt hen
   obtain ⟨⟨n', e, bn'⟩, hy, heq⟩ := List.mem_map.1 hx
   simp only [Prod.mk.injEq] at heq
   obtain ⟨rfl, rfl, rfl⟩ := heq
   have hny : (n', e, bn') ∉ ds := hxs n' e
   obtain ⟨rest', hp', hst1, hG1, hk1⟩ := hL.step1 hP hy hny hg1 hs1 (by simpa using hr1)
   have hve : vget vs n' = some e := vget_mem hkeys _ hy
   obtain ⟨z, hz, hz6, hzn⟩ := hT.vs n' e hve
   obtain ⟨te, he1, _⟩ := he'.fwd e z hz
   have hSe : S (ρ' e) := by
    rcases hvs n' e hve with h1 | h1
    ·exact hJ.covers n' t h1 a xa hot hxa hta hSa e hve
    ·exact hJ.covers n' u h1 b xb hou hxb htb hSb e hve
   have hnum : 0 ≤ n' ∧ n' < 1000 := by
    rcases hvs n' e hve with h1 | h1
    ·exact occ_num h1 hot
    ·exact occ_num h1 hou
   have hσ : sigG G' vs ρ' R n' = wAt G' ρ' R e := by simp only [sigG, hve]
   obtain ⟨r0, r0', q1, q2, q3, q4, q5, q6⟩ := hJ.atRoot hz
   have h57 := root_run hG1 ho'.roots ho'.ld e _ he1
   have hneq := eqb_run (op := false) (hG1 _ _ q2) (hG1 _ _ he1)
   simp only [Bool.false_eq_true, if_false] at hneq
   unfold ptrN at h57 hen
   by_cases hroot : ρ' e = e
   ·have hnq : (!decide (ρ' e = e)) = false := by simp [hroot]
    rw [hnq] at hneq
    rw [hroot] at h57 hneq q1
    have hself : sigG G' vs ρ' R n' = varT n' := by
     rw [hz] at q1
     cases q1
     rw [hσ, hJ.wEq hz (by rw [hroot]; exact hz) hSe, if_pos hz6, hzn]
    have hL1 := hst1 hself
    clear hst1 hL hG1 hk1
    go_wp2_with (go_at_call 57; (with_reducible refine h57.mono ?_); rintro e' w' ⟨rfl, hw'⟩; subst w')
    go_roundw
    case rel => exact ⟨_, _, _, _, _, hL1⟩
    case measure => exact hlt
   ·have hnq : (!decide (ρ' e = e)) = true := by simp [hroot]
    rw [hnq] at hneq
    have hne : sigG G' vs ρ' R n' ≠ varT n' := by
     rw [hσ, hJ.wEq hz q1 hSe]
     intro heq
     split at heq
     ·rename_i hk6
      have hn0 : r0.n = n' := (Ty.mk.inj heq).2.1
      have := hT.var _ r0 q1 hk6
      rw [hn0, hve] at this
      exact hroot (Option.some.inj this).symm
     ·rename_i hk6
      exact hk6 (Ty.mk.inj heq).1
    have hw58 := whole58_run ho' hJ.wok hG1 he1 hSe
    have hkn : ∀ x ∈ l, x.n ≠ n' := fun x hx e2 => by
     obtain ⟨y2, hy2, e3⟩ := hL.src x hx
     have h1 := (hp'.map fun x => x.1).nodup_iff.2 hkeys
     rw [List.map_append, List.map_append, List.append_assoc, List.nodup_append] at h1
     exact h1.2.2 y2.1 (List.mem_map_of_mem (f := fun x : Int × Nat × Nat => x.1) hy2) n' (by simp) (e3.trans e2)
    have hlk := lookI_none l n' 0 hkn
    have hobr : ob < wr.heap.size ∧ ob ≠ r := ⟨(Array.getElem?_eq_some_iff.1 hL.out).1, by have := hP.r; omega⟩
    have hob1 : w1.heap[ob]? = some (.map ((l.map entT).map entI).toArray l.length) := by
     rw [entT_ent]
     exact (hk1 ob hobr.1 hobr.2).trans hL.out
    have hob1l := (Array.getElem?_eq_some_iff.1 hob1).1
    unfold WholeRun at hw58
    rw [← hσ] at hw58
    unfold ptrN at hw58
    clear hst1 hkn hG1 hσ
    go_wp2_with (first
     | (go_at_call 57; (with_reducible refine h57.mono ?_); rintro e' w' ⟨rfl, hw'⟩; subst w')
     | (go_at_call 58; (with_reducible refine hw58.mono ?_); rintro e' w2 ⟨hB2, ⟨v, F', rfl, hF', hty, hfit⟩ | ⟨rfl, hnf⟩⟩; obtain ⟨p, nn, c, hvv, _⟩ := hty.agg; subst hvv; have hob2 := (hB2.block ob hob1l).trans hob1; have hup := update_new und74 hob2 n' (.agg #[.int .i64 (sigG G' vs ρ' R n').kind, .int .i64 (sigG G' vs ρ' R n').n, .slice p nn c]) hlk))
    ·obtain ⟨l', F'', hL', hrr, hvv⟩ := hL.step2 hP (y := (n', e, bn')) hg1 hs1 (by simpa using hr1) hp' hkeys hk1 hB2 hF' hty hne hfit hnum.1 hnum.2 rfl
     simp only [List.map_append, List.map_map, List.map_cons, List.map_nil] at hL' hrr hvv
     go_roundw
     case rel => exact ⟨_, _, _, _, _, hL'⟩
     case measure =>
      simp only [World.rangeLeft, hrr, hvv] at hlt ⊢
      exact hlt
    ·have hrr := hP.r
     have hqq := hP.q
     have hq2 := (hB2.block _ (by omega)).trans ((hk1 _ (by omega) (by omega)).trans hL.err)
     exact door_stop rfl rfl hq2 (.stop ((hL.below.grown hg1 hL.below.size (fun k e3 => by cases e3; omega)).trans (hB2.mono (by have := hL.below.size; omega))) (by omega) hv1 hv2 (.inr ⟨rfl, _, hM, n', hne, hnf⟩))
end Go.Proofs.YtnmolpkkemljoaaGreatDoor
end