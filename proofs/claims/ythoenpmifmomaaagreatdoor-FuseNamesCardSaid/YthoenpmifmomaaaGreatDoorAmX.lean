/-
  A region that draws its order, in which the last two that turn the heap are stores to two blocks: they may change places. Conditions: none.
-/
import Derived.Test.YthoenpmifmomaaaGreatDoorAm32
noncomputable section
namespace Go.Am
open Go

/-- All but these two come one after the other. -/
def drawIx (ops : Array Oper) (s1 s2 : Nat) (I : List Nat) : Bool :=
  I.all fun i => I.all fun j => j == i || bef ops i j || bef ops j i || (i == s1 && j == s2) || (i == s2 && j == s1)

section
variable (P : Program) (G : Gl) (pf : PF) (m : Mc) (rd : Option Nat) (ops : Array Oper)

/-- What stands beside the first of the two comes to the same where the second one is carried out ahead of it. -/
def winAlt (p s1 s2 : Nat) (H2 : AH) : List Oper → List (AV × Bool) → Nat → AAct → Bool
  | o :: rest, (v, l) :: rs, i, a =>
    (l || bef ops i s1 || bef ops s2 i || (match aOpF P G pf m rd ops p i a H2 o with | some (v', _, l') => !l' && eqv v' v | none => false)) && winAlt p s1 s2 H2 rest rs (i + 1) (a.put o.dst v)
  | _, _, _, _ => true

def aDrawS (a : AAct) (A : AH) : Option (List AOut) :=
  let p := tailStart ops ops.size
  let pre := ops.toList.take p
  match dRun P G pf m rd ops p pre 0 a A with
  | some (rs, hs) =>
    let I := idxs (rs.map (·.2)) 0
    match I.reverse with
    | s2 :: s1 :: R =>
      match ops[s1]?, ops[s2]?, (A :: hs)[R.length]? with
      | some o1, some o2, some H1 =>
        match o1.op, o2.op, o1.guard, o2.guard with
        | .store _ p1 _, .store t2 p2 x2, none, none =>
          match (actF (zipR pre rs) 0 (fun k => decide (k < s1)) a).eval p1, (actF (zipR pre rs) 0 (fun k => decide (k < s2)) a).eval p2 with
          | .ptr b1 _, .ptr b2 e2 =>
            match aStore P H1 t2 (.ptr b2 e2) ((actF (zipR pre rs) 0 (fun k => decide (k < s2)) a).eval x2) with
            | some H2 =>
              if drawS ops && drawIx ops s1 s2 I && !(b1 == b2) && winB P G pf m rd ops p I (A :: hs) pre rs 0 a && winAlt P G pf m rd ops p s1 s2 H2 pre rs 0 a then
                match adoptAll P ops p pre 0 (actF (zipR pre rs) 0 (fun _ => true) a) (((A :: hs)[R.length + 2]?).getD A) with
                | some (a', A') => m.ops rd ops (ops.toList.drop p) a' A'
                | none => none
              else none
            | none => none
          | _, _ => none
        | _, _, _, _ => none
      | _, _, _ => none
    | _ => none
  | none => none

variable {P G pf m rd ops}

theorem winAlt_spec {p s1 s2 : Nat} {H2 : AH} : ∀ (l : List Oper) (rs : List (AV × Bool)) (k : Nat) (a : AAct), winAlt P G pf m rd ops p s1 s2 H2 l rs k a = true → ∀ i o v, l[i]? = some o → rs[i]? = some (v, false) →
    bef ops (k + i) s1 = true ∨ bef ops s2 (k + i) = true ∨ ∃ A', aOpF P G pf m rd ops p (k + i) (actF (zipR l rs) 0 (fun j => decide (j < i)) a) H2 o = some (v, A', false)
  | [], _, _, _, _, i, o, v, ho, _ => by simp at ho
  | o :: l, [], _, _, _, i, _, v, _, hr => by simp at hr
  | o :: l, (v, lb) :: rs, k, a, h, 0, o', v', ho, hr => by
    simp at ho hr
    obtain ⟨rfl, rfl⟩ := hr
    subst ho
    simp only [winAlt, Bool.false_or, Bool.and_eq_true, Bool.or_eq_true] at h
    rw [actF_none _ _ _ _ (fun j => by simp)]
    rcases h.1 with (h1 | h1) | h1
    · exact .inl h1
    · exact .inr (.inl h1)
    · refine .inr (.inr ?_)
      split at h1
      · rename_i v'' A' l' he
        simp only [Bool.and_eq_true, Bool.not_eq_true'] at h1
        obtain ⟨rfl, h2⟩ := h1
        rw [eqv_eq _ _ h2] at he
        exact ⟨A', he⟩
      · cases h1
  | o :: l, (v, lb) :: rs, k, a, h, i + 1, o', v', ho, hr => by
    simp only [winAlt, Bool.and_eq_true] at h
    have := winAlt_spec l rs (k + 1) _ h.2 i o' v' (by simpa using ho) (by simpa using hr)
    simp only [zipR, actF]
    rw [actF_shift, lt_succ_fun, show k + (i + 1) = k + 1 + i by omega]
    simp only [Nat.zero_lt_succ, decide_true, if_true]
    exact this

theorem drawIx_spec {s1 s2 : Nat} {louds : List Bool} (h : drawIx ops s1 s2 (idxs louds 0) = true) {i j : Nat} (hli : louds[i]? = some true) (hlj : louds[j]? = some true) (hne : j ≠ i) (h1' : ¬ (i = s1 ∧ j = s2)) (h2' : ¬ (i = s2 ∧ j = s1)) : bef ops i j = true ∨ bef ops j i = true := by
  unfold drawIx at h
  have mem : ∀ k, louds[k]? = some true → k ∈ idxs louds 0 := fun k hk => by simpa using idxs_mem louds 0 k hk
  have h1 := List.all_eq_true.1 h i (mem i hli)
  have h2 := List.all_eq_true.1 h1 j (mem j hlj)
  simp only [Bool.or_eq_true, Bool.and_eq_true, beq_iff_eq] at h2
  rcases h2 with (((h2 | h2) | h2) | h2) | h2
  · exact absurd h2 hne
  · exact .inl h2
  · exact .inr h2
  · exact absurd h2 h1'
  · exact absurd h2 h2'

theorem cntI_countP (D : Nat → Bool) (I : List Nat) : cntI D I = I.countP D := by
  induction I with
  | nil => rfl
  | cons k I ih =>
    simp only [cntI, List.countP_cons]
    cases hD : D k <;> simp [ih]

theorem idxs_sorted : ∀ (l : List Bool) (k : Nat), (idxs l k).Pairwise (· < ·) ∧ ∀ x ∈ idxs l k, k ≤ x ∧ l[x - k]? = some true
  | [], _ => by simp [idxs]
  | true :: l, k => by
    obtain ⟨h1, h2⟩ := idxs_sorted l (k + 1)
    simp only [idxs]
    refine ⟨List.pairwise_cons.2 ⟨fun x hx => by have := (h2 x hx).1; omega, h1⟩, fun x hx => ?_⟩
    rcases List.mem_cons.1 hx with rfl | hx
    · simp
    · obtain ⟨a1, a2⟩ := h2 x hx
      refine ⟨by omega, ?_⟩
      rw [show x - k = (x - (k + 1)) + 1 by omega, List.getElem?_cons_succ]; exact a2
  | false :: l, k => by
    obtain ⟨h1, h2⟩ := idxs_sorted l (k + 1)
    simp only [idxs]
    refine ⟨h1, fun x hx => ?_⟩
    obtain ⟨a1, a2⟩ := h2 x hx
    refine ⟨by omega, ?_⟩
    rw [show x - k = (x - (k + 1)) + 1 by omega, List.getElem?_cons_succ]; exact a2

theorem rev_spec {louds : List Bool} {s1 s2 : Nat} {R : List Nat} (h : (idxs louds 0).reverse = s2 :: s1 :: R) :
    louds[s1]? = some true ∧ louds[s2]? = some true ∧ s1 < s2 ∧ (cntF louds 0 fun j => decide (j < s1)) = R.length ∧ (cntF louds 0 fun j => decide (j < s2)) = R.length + 1 ∧ (cntF louds 0 fun _ => true) = R.length + 2 ∧
      (∀ x, x ∈ R → x < s1) ∧ (∀ x, louds[x]? = some true → x ≠ s1 → x ≠ s2 → x < s1) := by
  have hI : idxs louds 0 = R.reverse ++ [s1, s2] := by
    have := congrArg List.reverse h
    simpa using this
  obtain ⟨hs, hm⟩ := idxs_sorted louds 0
  rw [hI] at hs hm
  obtain ⟨h1, h2, h3⟩ := List.pairwise_append.1 hs
  have h12 : s1 < s2 := by simpa using h2
  have hR : ∀ x, x ∈ R → x < s1 := fun x hx => h3 x (by simpa using hx) s1 (by simp)
  have hR2 : ∀ x ∈ R.reverse, decide (x < s1) = true := fun x hx => by simpa using hR x (by simpa using hx)
  have hR3 : ∀ x ∈ R.reverse, decide (x < s2) = true := fun x hx => by simpa using Nat.lt_trans (hR x (by simpa using hx)) h12
  refine ⟨by simpa using (hm s1 (by simp)).2, by simpa using (hm s2 (by simp)).2, h12, ?_, ?_, ?_, hR, ?_⟩
  · rw [← cntI_idxs, cntI_countP, hI, List.countP_append, List.countP_eq_length.2 hR2]
    simp; omega
  · rw [← cntI_idxs, cntI_countP, hI, List.countP_append, List.countP_eq_length.2 hR3]
    simp [h12]
  · rw [← cntI_idxs, cntI_countP, hI, List.countP_append, List.countP_eq_length.2 (fun _ _ => rfl)]
    simp
  · intro x hx n1 n2
    have : x ∈ R.reverse ++ [s1, s2] := by rw [← hI]; simpa using idxs_mem louds 0 x hx
    rcases List.mem_append.1 this with h' | h'
    · exact hR x (by simpa using h')
    · simp at h'; rcases h' with h' | h'
      · exact absurd h' n1
      · exact absurd h' n2

theorem aStore_put {A A' : AH} {t : TypeId} {b off : Nat} {x : AV} (h : aStore P A t (.ptr b off) x = some A') : ∃ X, A' = A.put b X ∧ ∀ B : AH, B.blks[b]? = A.blks[b]? → aStore P B t (.ptr b off) x = some (B.put b X) := by
  unfold aStore at h
  simp only at h
  split at h
  · rename_i cs el n hb hn
    split at h <;> cases h
    rename_i hc
    refine ⟨_, rfl, fun B hB => ?_⟩
    unfold aStore
    simp only [hB, hb, hn]
    rw [if_pos hc]
  · cases h

theorem put_blks_ne (A : AH) {b c : Nat} (X : ABlk) (h : b ≠ c) : (A.put b X).blks[c]? = A.blks[c]? := by
  simp only [AH.put]
  rw [List.getElem?_set_ne h]

theorem AH.put_comm (A : AH) {b c : Nat} (X Y : ABlk) (h : b ≠ c) : (A.put b X).put c Y = (A.put c Y).put b X := by
  simp only [AH.put]
  rw [List.set_comm _ _ h]

theorem aOp1_store {act : AAct} {H : AH} {o : Oper} {t : TypeId} {p x : Operand} (hop : o.op = .store t p x) (hg : o.guard = none) :
    aOp1 P G pf m rd ops act H o = (aStore P H t (act.eval p) (act.eval x)).map fun H' => (.top, H', true) := by
  have hw : aWanted ops act o = some true := by unfold aWanted; rw [hg]
  unfold aOp1
  rw [hw]
  simp only [hop]
  unfold aOp
  rw [hop]
  simp only [aEff]
  cases aStore P H t (act.eval p) (act.eval x) <;> simp [quietOp]

theorem aDrawS_core (hm : Mc.Ok P G m) (hpf : ∀ f args es, pf f args = some es → QCall P G f args es) (hmix : P.follows .mixedOrders = true) {a : AAct} {A : AH} {os : List AOut}
    {S : Sh} {w : World} {b : Act} {ro : Option Nat} (hi : Inv G S A w) (hab : ARel S a b) (hr : RdRel S rd ro) (id : Nat) {p : Nat} (hp : p ≤ ops.size) (htail : ∀ j, p ≤ j → j < ops.size → ∀ i, i < j → bef ops j i = true)
    {rs : List (AV × Bool)} {hs : List AH} (hrun : dRun P G pf m rd ops p (ops.toList.take p) 0 a A = some (rs, hs)) {s1 s2 : Nat} {R : List Nat} (hrev : (idxs (rs.map (·.2)) 0).reverse = s2 :: s1 :: R)
    {o1 o2 : Oper} {H1 : AH} (hos1 : ops[s1]? = some o1) (hos2 : ops[s2]? = some o2) (hH1 : (A :: hs)[R.length]? = some H1) {t1 t2 : TypeId} {p1 p2 x1 x2 : Operand} (hop1 : o1.op = .store t1 p1 x1) (hop2 : o2.op = .store t2 p2 x2) (hg1 : o1.guard = none) (hg2 : o2.guard = none)
    {b1 e1 b2 e2 : Nat} (hptr1 : (actF (zipR (ops.toList.take p) rs) 0 (fun k => decide (k < s1)) a).eval p1 = .ptr b1 e1) (hptr2 : (actF (zipR (ops.toList.take p) rs) 0 (fun k => decide (k < s2)) a).eval p2 = .ptr b2 e2)
    {H2 : AH} (hst2 : aStore P H1 t2 (.ptr b2 e2) ((actF (zipR (ops.toList.take p) rs) 0 (fun k => decide (k < s2)) a).eval x2) = some H2)
    (hc : (drawS ops && drawIx ops s1 s2 (idxs (rs.map (·.2)) 0) && !(b1 == b2) && winB P G pf m rd ops p (idxs (rs.map (·.2)) 0) (A :: hs) (ops.toList.take p) rs 0 a && winAlt P G pf m rd ops p s1 s2 H2 (ops.toList.take p) rs 0 a) = true)
    {a2 : AAct} {A2 : AH} (hadopt : adoptAll P ops p (ops.toList.take p) 0 (actF (zipR (ops.toList.take p) rs) 0 (fun _ => true) a) (((A :: hs)[R.length + 2]?).getD A) = some (a2, A2)) (hx : m.ops rd ops (ops.toList.drop p) a2 A2 = some os) :
    (Code.region id ops true).wpIn (fen ro) 0 P (OutPost G S A w os) b w := by
  simp only [Bool.and_eq_true, Bool.not_eq_true', beq_eq_false_iff_ne] at hc
  obtain ⟨⟨⟨⟨hS, hL⟩, hbb⟩, hW⟩, hA⟩ := hc
  obtain ⟨hlow, hnames⟩ := drawS_spec hS
  obtain ⟨hlen, hspec⟩ := dRun_spec _ _ _ _ _ _ hrun
  have hwin := winB_spec _ _ _ _ hW
  have hprel : (ops.toList.take p).length = p := by simp; omega
  have hrsz : rs.length = p := by rw [hlen, hprel]
  have hpre : ∀ i o, i < p → ops[i]? = some o → (ops.toList.take p)[i]? = some o := by
    intro i o hip ho
    rw [List.getElem?_take, if_pos hip]; simpa using ho
  have hpre' : ∀ i o, (ops.toList.take p)[i]? = some o → i < p ∧ ops[i]? = some o := by
    intro i o ho
    rw [List.getElem?_take] at ho
    split at ho
    · rename_i hip; exact ⟨hip, by simpa using ho⟩
    · cases ho
  -- where an operation is at hand
  have look : ∀ (D : Nat → Bool) (i : Nat) (o : Oper), Down .any ops D → ops[i]? = some o → D i = false → (∀ e ∈ o.after, Region.binds .any e = true → D e.on = true) →
      (∀ j, bef ops i j = true → D j = true) ∧ (∀ j, D j = true → bef ops j i = false) := by
    intro D i o hD ho hDi hr
    refine ⟨fun j hj => bef_ready hlow hD ho hr hj, fun j hj => ?_⟩
    cases hb : bef ops j i with
    | false => rfl
    | true =>
      have := bef_down hlow hD j i hj hb
      rw [hDi] at this; cases this
  -- the two that may change places
  obtain ⟨k1, k2, k3, k4, k5, k6, k7, k8⟩ := rev_spec hrev
  have hs1p : s1 < p := by have := (List.getElem?_eq_some_iff.1 k1).1; simp at this; omega
  have hs2p : s2 < p := by have := (List.getElem?_eq_some_iff.1 k2).1; simp at this; omega
  have hnf1 : isFloat ops p s1 o1 = false := by unfold isFloat; rw [hop1]; cases o1.guard <;> rfl
  have hnf2 : isFloat ops p s2 o2 = false := by unfold isFloat; rw [hop2]; cases o2.guard <;> rfl
  have hord : ∀ x y, (rs.map (·.2))[x]? = some true → (rs.map (·.2))[y]? = some true → y ≠ x → ¬ (x = s1 ∧ y = s2) → ¬ (x = s2 ∧ y = s1) → bef ops x y = true ∨ bef ops y x = true := fun x y hx hy hne h1 h2 => drawIx_spec hL hx hy hne h1 h2
  have hoth : ∀ x, (rs.map (·.2))[x]? = some true → x ≠ s1 → x ≠ s2 → bef ops s1 x = true ∧ bef ops s2 x = true := by
    intro x hx hx1 hx2
    have hlt := k8 x hx hx1 hx2
    constructor
    · rcases hord s1 x k1 hx hx1 (fun h => hx2 h.2) (fun h => hx1 h.2) with h | h
      · exact h
      · have := bef_low hlow x s1 h; omega
    · rcases hord s2 x k2 hx hx2 (fun h => hx2 h.2) (fun h => hx1 h.2) with h | h
      · exact h
      · have := bef_low hlow x s2 h; omega
  obtain ⟨v1, lb1, Hc1, A1', q11, q12, q13, q14⟩ := hspec s1 o1 (hpre s1 o1 hs1p hos1)
  obtain ⟨v2, lb2, Hc2, A2', q21, q22, q23, q24⟩ := hspec s2 o2 (hpre s2 o2 hs2p hos2)
  obtain rfl : lb1 = true := by have := k1; simp [q11] at this; exact this
  obtain rfl : lb2 = true := by have := k2; simp [q21] at this; exact this
  rw [Nat.zero_add] at q13 q23
  unfold aOpF at q13 q23
  rw [hnf1] at q13
  rw [hnf2] at q23
  simp only [Bool.false_eq_true, if_false] at q13 q23
  rw [k4, hH1] at q12; cases q12
  have q14 := q14 rfl
  have q24 := q24 rfl
  rw [k4] at q14
  rw [k5, q14] at q22; cases q22
  rw [k5] at q24
  rw [aOp1_store hop1 hg1, hptr1] at q13
  rw [aOp1_store hop2 hg2, hptr2] at q23
  simp only [Option.map_eq_some_iff, Prod.mk.injEq, and_true] at q13 q23
  obtain ⟨_, g1, rfl, rfl⟩ := q13
  obtain ⟨_, g2, rfl, rfl⟩ := q23
  obtain ⟨X1, rfl, u1⟩ := aStore_put g1
  obtain ⟨X2, rfl, u2⟩ := aStore_put hst2
  -- the second one first: then the first one
  have hf1 : aStore P (H1.put b2 X2) t1 (.ptr b1 e1) ((actF (zipR (ops.toList.take p) rs) 0 (fun k => decide (k < s1)) a).eval x1) = some ((H1.put b2 X2).put b1 X1) := u1 _ (put_blks_ne _ _ (fun h => hbb h.symm))
  have hf2 := u2 (H1.put b1 X1) (put_blks_ne _ _ hbb)
  rw [g2] at hf2; cases hf2
  rw [AH.put_comm H1 X1 X2 hbb] at q24
  let sw : (Nat → Bool) → Bool := fun D => D s2 && !D s1
  let hpD : (Nat → Bool) → Option AH := fun D => if sw D then some (H1.put b2 X2) else (A :: hs)[cntF (rs.map (·.2)) 0 D]?
  let zr := zipR (ops.toList.take p) rs
  let Pre : (Nat → Bool) → Act → World → Prop := fun D b' w' => ∃ S' H cf, hpD D = some H ∧ Inv G S' H w' ∧ Fr S A w S' H w' ∧ ARel S' (actF zr 0 D a) b' ∧ Flo P ops p w.heap.size D b' w' S' H cf
  let St : (Nat → Bool) → Act → World → Prop := fun D b' w' => (∃ i0, i0 < p ∧ D i0 = false ∧ Pre D b' w') ∨
    (∃ t, (∀ j, j < p + t → j < ops.size → D j = true) ∧ (∀ j, p + t ≤ j → j < ops.size → D j = false) ∧ p + t ≤ ops.size ∧ wpListIn (fen ro) 0 P ops (OutPost G S A w os) (ops.toList.drop (p + t)) b' w')
  -- the first p are done
  have finish : ∀ (D : Nat → Bool) b' w', (∀ j, j < p → D j = true) → Pre D b' w' → wpListIn (fen ro) 0 P ops (OutPost G S A w os) (ops.toList.drop p) b' w' := by
    intro D b' w' hall ⟨S', H, cf, hH, iH, fH, rH, flo⟩
    have hDt : cntF (rs.map (·.2)) 0 D = cntF (rs.map (·.2)) 0 fun _ => true := Nat.le_antisymm (cntF_mono _ _ fun _ _ _ => rfl) (cntF_mono _ _ fun j hj _ => by
      rw [Nat.zero_add]
      have := (List.getElem?_eq_some_iff.1 hj).1
      exact hall j (by simp at this; omega))
    have hzl : ∀ (l : List Oper) (r : List (AV × Bool)), (zipR l r).length ≤ l.length := by
      intro l
      induction l with
      | nil => intro r; simp [zipR]
      | cons o l ih => intro r; cases r with
        | nil => simp [zipR]
        | cons x r => obtain ⟨v, b⟩ := x; simp only [zipR, List.length_cons]; have := ih r; omega
    have hAt : actF zr 0 D a = actF zr 0 (fun _ => true) a := by
      refine actF_congr _ 0 a fun j hj => ?_
      rw [Nat.zero_add]
      have hz : zr.length ≤ p := by
        show (zipR (ops.toList.take p) rs).length ≤ p
        have := hzl (ops.toList.take p) rs
        omega
      exact hall j (by omega)
    have hsw0 : sw D = false := by simp [sw, hall s1 hs1p]
    simp only [hpD, hsw0, Bool.false_eq_true, if_false] at hH
    rw [hDt, k6] at hH
    rw [hAt] at rH
    rw [hH] at hadopt
    simp only [Option.getD_some] at hadopt
    obtain ⟨S2, i2, f2, r2⟩ := adopt_ok (cf := cf) (sz0 := w.heap.size) rfl _ _ _ _ _ _ hadopt (fun j o hj => by rw [Nat.zero_add]; exact (hpre' j o hj).2) (by rw [hprel]; omega) S' iH fH rH (flo.fewer fun j hj _ => hall j hj)
    exact wpListIn_mono (fun _ _ _ h => h.from f2 fun _ h => h) _ _ _ (hm.ops _ _ _ _ _ _ hx S2 w' b' ro i2 r2 (hr.mono f2.le))
  refine wpIn_region_any hmix ?_
  refine order_any St hlow ?_ ?_ ops.size _ b _ (by simp) ?_ ?_ ?_
  · intro D i o hD ho hDi hrdy b' w' hst
    have hil := (Array.getElem?_eq_some_iff.1 ho).1
    obtain ⟨h1, h2⟩ := look D i o hD ho hDi hrdy
    rcases hst with ⟨i0, hi0, hDi0, hpre0⟩ | ⟨t, ht1, ht2, ht3, hw⟩
    · -- one of the first p
      have hip : i < p := by
        rcases Nat.lt_or_ge i p with h' | h'
        · exact h'
        · have := h1 i0 (htail i h' hil i0 (by omega))
          rw [hDi0] at this; cases this
      obtain ⟨S', H, cf, hH, iH, fH, rH, flo⟩ := hpre0
      have hol : (ops.toList.take p)[i]? = some o := hpre i o hip ho
      obtain ⟨v, lb, Hc, A', q1, q2, q3, q4⟩ := hspec i o hol
      rw [Nat.zero_add] at q3
      suffices hsuf : wpOpIn (fen ro) 0 P ops (OutPost G S A w os) i (Pre (addD D i)) b' w' by
        refine wpOpIn_mono ?_ hsuf
        intro b2 w2 hp2
        by_cases hex : ∃ i1, i1 < p ∧ addD D i i1 = false
        · obtain ⟨i1, hi1, hd1⟩ := hex
          exact .inl ⟨i1, hi1, hd1, hp2⟩
        · have hall : ∀ j, j < p → addD D i j = true := fun j hj => by
            cases hd : addD D i j with
            | true => rfl
            | false => exact absurd ⟨j, hj, hd⟩ hex
          refine .inr ⟨0, fun j hj _ => hall j (by omega), fun j hj hjs => ?_, by omega, by simpa using finish _ _ _ hall hp2⟩
          simp only [addD, Bool.or_eq_false_iff, beq_eq_false_iff_ne]
          refine ⟨?_, by omega⟩
          cases hd : D j with
          | false => rfl
          | true =>
            have := h2 j hd
            rw [htail j (by omega) hjs i (by omega)] at this; cases this
      -- whoever writes what it names
      have hwr : ∀ j t, (ops[j]?).bind (·.dst) = some t → t ∈ namesOf ops o → D j = decide (j < i) := by
        intro j t hj ht
        by_cases hji : j = i
        · subst hji; simp [hDi]
        · rcases hnames i j o t ho hj hji ht with hb | hb
          · rw [h1 j hb]; simp [bef_low hlow i j hb]
          · have hlt := bef_low hlow j i hb
            have : D j = false := by
              cases hd : D j with
              | false => rfl
              | true => rw [h2 j hd] at hb; cases hb
            rw [this]; simp; omega
      have hget : ∀ t, t ∈ namesOf ops o → (actF zr 0 D a).tmps[t]? = (actF zr 0 (fun j => decide (j < i)) a).tmps[t]? := by
        intro t ht
        refine actF_get _ 0 a a rfl rfl fun j p' hp' hpt => ?_
        obtain ⟨oj, ho1, ho2⟩ := zipR_inv _ _ _ _ hp'
        rw [Nat.zero_add]
        exact hwr j t (by rw [(hpre' j oj ho1).2]; simp [ho2, hpt]) ht
      have halike : Alike ops o (actF zr 0 D a) (actF zr 0 (fun j => decide (j < i)) a) := by
        refine ⟨fun x hx => ?_, fun p' hp' t ht => ?_⟩
        · cases x with
          | tmp t =>
            have := hget t (by
              unfold namesOf
              refine List.mem_append_left _ (List.mem_append_right _ (List.mem_filterMap.2 ⟨.tmp t, by simpa using hx, rfl⟩)))
            simp only [AAct.eval, AAct.get, nthR_eq, this]
          | const v => rfl
          | global g => rfl
          | func f => rfl
        · refine hget t ?_
          unfold namesOf
          refine List.mem_append_right _ ?_
          rw [hp']
          obtain ⟨j, want⟩ := p'
          simp only at ht ⊢
          rw [ht]; simp
      have hlb : (rs.map (·.2))[i]? = some lb := by simp [q1]
      have hact : actF zr 0 (addD D i) a = (actF zr 0 D a).put o.dst v := by
        have := actF_add (D := D) zr i 0 a (zipR_get _ _ _ _ _ _ hol q1) (by simpa using hDi) (fun j p' hij hp' hj => by
          intro t ht hpt
          obtain ⟨oj, ho1, ho2⟩ := zipR_inv _ _ _ _ hp'
          rw [Nat.zero_add] at hj
          have := hwr j t (by rw [(hpre' j oj ho1).2]; simp [ho2, hpt]) (by unfold namesOf; refine List.mem_append_left _ (List.mem_append_left _ ?_); rw [ht]; simp)
          rw [hj] at this
          simp at this; omega)
        simpa using this
      have hcnt := cntF_add (D := D) (rs.map (·.2)) i 0 hlb (by simpa using hDi)
      simp only [Nat.zero_add] at hcnt
      have hpQ : (rs.map (·.2))[i]? ≠ some true → hpD (addD D i) = hpD D := by
        intro hq
        have h1' : i ≠ s1 := by rintro rfl; exact hq k1
        have h2' : i ≠ s2 := by rintro rfl; exact hq k2
        have hl : lb = false := by cases lb with | false => rfl | true => exact absurd hlb hq
        subst hl
        simp only [Bool.false_eq_true, if_false, Nat.add_zero] at hcnt
        have hsw1 : sw (addD D i) = sw D := by
          show (addD D i s2 && !addD D i s1) = (D s2 && !D s1)
          have e1 : (s1 == i) = false := beq_eq_false_iff_ne.2 (Ne.symm h1')
          have e2 : (s2 == i) = false := beq_eq_false_iff_ne.2 (Ne.symm h2')
          simp [addD, e1, e2]
        simp only [hpD, hsw1, hcnt]
      cases hfl : isFloat ops p i o with
      | true =>
        obtain ⟨t, d, hg, hop, hdst, hnm⟩ := isFloat_spec hfl
        obtain ⟨x, hz⟩ := adopt_zero _ _ _ _ _ _ hadopt i o t hol (by rw [Nat.zero_add]; exact hfl) hop
        obtain ⟨z, hxz, hrunz⟩ := run_alloc hz w'
        unfold aOpF at q3
        rw [if_pos hfl] at q3
        cases q3
        simp only [Bool.false_eq_true, if_false, Nat.add_zero] at hcnt
        have hnd : ∀ c, o.op ≠ .defer c := by intro c hc; rw [hop] at hc; cases hc
        unfold wpOpIn
        rw [ho]
        simp only
        have hwant : Region.wanted o (yielded ops b'.tmps) = true := by simp [Region.wanted, hg]
        rw [hwant]
        simp only [if_true]
        refine ⟨fun _ _ => trivial, ?_⟩
        rw [Oper.semAt_eq _ _ _ hnd]
        simp only [execOp, hop, Sem.run_bind, hrunz, Result.andThen_ok, Sem.run_pure, Oper.uponIn]
        obtain ⟨i2, f2⟩ := iH.idle (.cells ⟨z.cells.toList⟩ t (0, 0))
        refine ⟨S', H, _, by rw [hpQ (by rw [hlb]; simp)]; exact hH, i2, fH.trans f2, ?_, flo.lay rfl iH fH ho hip hDi hfl hop hz hxz⟩
        rw [hact]
        exact rH.put _ (.top _)
      | false =>
        have hopF : ∀ a A, aOpF P G pf m rd ops p i a A o = aOp1 P G pf m rd ops a A o := fun a A => by unfold aOpF; rw [hfl]; rfl
        rw [hopF] at q3
        have fin : ∀ A2, aOp1 P G pf m rd ops (actF zr 0 D a) H o = some (v, A2, lb) → hpD (addD D i) = some A2 → wpOpIn (fen ro) 0 P ops (OutPost G S A w os) i (Pre (addD D i)) b' w' := by
          intro A2 hop hA2
          refine aOp1_ok hm hpf hop iH rH (hr.mono fH.le) ho ?_
          intro S2 u w2 i2 f2 v2
          refine ⟨S2, A2, cf, hA2, i2, fH.trans f2, ?_, flo.keep f2 ho hip hDi hfl u⟩
          rw [hact]
          exact (rH.mono f2.le).put _ v2
        cases lb with
        | true =>
          have gen : (∀ j, (rs.map (·.2))[j]? = some true → D j = decide (j < i)) → sw D = false → sw (addD D i) = false → wpOpIn (fen ro) 0 P ops (OutPost G S A w os) i (Pre (addD D i)) b' w' := by
            intro hone hsw hsw'
            have hceq : cntF (rs.map (·.2)) 0 D = cntF (rs.map (·.2)) 0 fun j => decide (j < i) := by
              refine Nat.le_antisymm (cntF_mono _ _ fun j hj hd => ?_) (cntF_mono _ _ fun j hj hd => ?_)
              · rw [Nat.zero_add] at hd ⊢; rw [← hone j hj]; exact hd
              · rw [Nat.zero_add] at hd ⊢; rw [hone j hj]; exact hd
            simp only [hpD, hsw, Bool.false_eq_true, if_false] at hH
            rw [hceq, q2] at hH
            cases hH
            refine fin A' ?_ ?_
            · rw [aOp1_congr halike]; exact q3
            · simp only [hpD, hsw', Bool.false_eq_true, if_false]
              rw [hcnt, hceq]; exact q4 rfl
          by_cases hi1 : i = s1
          · cases hD2 : D s2 with
            | false =>
              refine gen (fun j hj => ?_) (by simp [sw, hD2]) (by show (addD D i s2 && !addD D i s1) = false; simp [addD, hi1])
              by_cases hj1 : j = s1
              · rw [hj1, ← hi1, hDi]; simp
              · by_cases hj2 : j = s2
                · rw [hj2, hD2]; simp; omega
                · have hb := (hoth j hj hj1 hj2).1
                  rw [← hi1] at hb
                  rw [h1 j hb]
                  have := k8 j hj hj1 hj2
                  simp; omega
            | true =>
              have hsw : sw D = true := by show (D s2 && !D s1) = true; rw [← hi1, hD2, hDi]; rfl
              simp only [hpD, hsw, if_true] at hH
              cases hH
              have hoe : o = o1 := by rw [hi1, hos1] at ho; exact (Option.some.inj ho).symm
              have hve : v = .top := by
                rw [hi1] at q1
                have := q1.symm.trans q11
                simp at this; exact this
              refine fin ((H1.put b2 X2).put b1 X1) ?_ ?_
              · rw [aOp1_congr halike, hoe, hve, aOp1_store hop1 hg1, hi1]
                show (aStore P (H1.put b2 X2) t1 ((actF (zipR (ops.toList.take p) rs) 0 (fun k => decide (k < s1)) a).eval p1) ((actF (zipR (ops.toList.take p) rs) 0 (fun k => decide (k < s1)) a).eval x1)).map (fun H' => (AV.top, H', true)) = _
                rw [hptr1, hf1]; rfl
              · have hsw' : sw (addD D i) = false := by show (addD D i s2 && !addD D i s1) = false; simp [addD, hi1]
                simp only [hpD, hsw', Bool.false_eq_true, if_false]
                have htot : cntF (rs.map (·.2)) 0 (addD D i) = cntF (rs.map (·.2)) 0 fun _ => true := by
                  refine Nat.le_antisymm (cntF_mono _ _ fun _ _ _ => rfl) (cntF_mono _ _ fun j hj _ => ?_)
                  rw [Nat.zero_add]
                  by_cases hj1 : j = s1
                  · simp [addD, hj1, hi1]
                  · by_cases hj2 : j = s2
                    · simp [addD, hj2, hD2]
                    · have := bef_down hlow hD s2 j hD2 (hoth j hj hj1 hj2).2
                      simp [addD, this]
                rw [htot, k6]; exact q24
          · by_cases hi2 : i = s2
            · cases hD1 : D s1 with
              | true =>
                refine gen (fun j hj => ?_) (by show (D s2 && !D s1) = false; rw [hD1]; simp) (by show (addD D i s2 && !addD D i s1) = false; simp [addD, hD1])
                by_cases hj1 : j = s1
                · rw [hj1, hD1]; simp; omega
                · by_cases hj2 : j = s2
                  · rw [hj2, ← hi2, hDi]; simp
                  · have hb := (hoth j hj hj1 hj2).2
                    rw [← hi2] at hb
                    rw [h1 j hb]
                    have := k8 j hj hj1 hj2
                    simp; omega
              | false =>
                have hsw : sw D = false := by show (D s2 && !D s1) = false; rw [← hi2, hDi]; rfl
                simp only [hpD, hsw, Bool.false_eq_true, if_false] at hH
                have hone : ∀ j, (rs.map (·.2))[j]? = some true → D j = decide (j < s1) := by
                  intro j hj
                  by_cases hj1 : j = s1
                  · rw [hj1, hD1]; simp
                  · by_cases hj2 : j = s2
                    · rw [hj2, ← hi2, hDi]; simp; omega
                    · have hb := (hoth j hj hj1 hj2).2
                      rw [← hi2] at hb
                      rw [h1 j hb]
                      have := k8 j hj hj1 hj2
                      simp; omega
                have hceq : cntF (rs.map (·.2)) 0 D = cntF (rs.map (·.2)) 0 fun j => decide (j < s1) := by
                  refine Nat.le_antisymm (cntF_mono _ _ fun j hj hd => ?_) (cntF_mono _ _ fun j hj hd => ?_)
                  · rw [Nat.zero_add] at hd ⊢; rw [← hone j hj]; exact hd
                  · rw [Nat.zero_add] at hd ⊢; rw [hone j hj]; exact hd
                rw [hceq, k4, hH1] at hH
                cases hH
                have hoe : o = o2 := by rw [hi2, hos2] at ho; exact (Option.some.inj ho).symm
                have hve : v = .top := by
                  rw [hi2] at q1
                  have := q1.symm.trans q21
                  simp at this; exact this
                refine fin (H1.put b2 X2) ?_ ?_
                · rw [aOp1_congr halike, hoe, hve, aOp1_store hop2 hg2, hi2]
                  show (aStore P H1 t2 ((actF (zipR (ops.toList.take p) rs) 0 (fun k => decide (k < s2)) a).eval p2) ((actF (zipR (ops.toList.take p) rs) 0 (fun k => decide (k < s2)) a).eval x2)).map (fun H' => (AV.top, H', true)) = _
                  rw [hptr2, hst2]; rfl
                · have hsw' : sw (addD D i) = true := by
                    show (addD D i s2 && !addD D i s1) = true
                    simp [addD, hi2, hD1]; omega
                  simp only [hpD, hsw', if_true]
            · have hb := hoth i hlb hi1 hi2
              have hD1 : D s1 = false := by
                cases hd : D s1 with
                | false => rfl
                | true => have := h2 s1 hd; rw [hb.1] at this; cases this
              have hD2 : D s2 = false := by
                cases hd : D s2 with
                | false => rfl
                | true => have := h2 s2 hd; rw [hb.2] at this; cases this
              have hlt := k8 i hlb hi1 hi2
              refine gen (fun j hj => ?_) (by show (D s2 && !D s1) = false; rw [hD2]; rfl) (by show (addD D i s2 && !addD D i s1) = false; simp [addD, hD2, Ne.symm hi2])
              by_cases hji : j = i
              · subst hji; simp [hDi]
              · by_cases hj1 : j = s1
                · rw [hj1, hD1]; simp; omega
                · by_cases hj2 : j = s2
                  · rw [hj2, hD2]; simp; omega
                  · rcases hord i j hlb hj hji (fun h => hi1 h.1) (fun h => hi2 h.1) with hb | hb
                    · rw [h1 j hb]; simp [bef_low hlow i j hb]
                    · have hlt := bef_low hlow j i hb
                      have : D j = false := by
                        cases hd : D j with
                        | false => rfl
                        | true => rw [h2 j hd] at hb; cases hb
                      rw [this]; simp; omega
        | false =>
          have hnq : (rs.map (·.2))[i]? ≠ some true := by rw [hlb]; simp
          cases hsw : sw D with
          | true =>
            simp only [hpD, hsw, if_true] at hH
            cases hH
            have hD12 : D s2 = true ∧ D s1 = false := by
              have : (D s2 && !D s1) = true := hsw
              simpa using this
            rcases winAlt_spec _ _ _ _ hA i o v hol q1 with h | h | ⟨A'', h⟩
            · rw [Nat.zero_add] at h
              have := h1 s1 h
              rw [hD12.2] at this; cases this
            · rw [Nat.zero_add] at h
              have := h2 s2 hD12.1
              rw [h] at this; cases this
            · rw [Nat.zero_add, hopF] at h
              have := quiet_heap h
              subst this
              exact fin _ (by rw [aOp1_congr halike]; exact h) (by rw [hpQ hnq]; simp only [hpD, hsw, if_true])
          | false =>
          simp only [hpD, hsw, Bool.false_eq_true, if_false] at hH
          simp only [Bool.false_eq_true, if_false, Nat.add_zero] at hcnt
          have hlo : cntF (rs.map (·.2)) 0 (bef ops i) ≤ cntF (rs.map (·.2)) 0 D := cntF_mono _ _ fun j _ hj => by rw [Nat.zero_add] at hj ⊢; exact h1 j hj
          have hhi : cntF (rs.map (·.2)) 0 D ≤ cntF (rs.map (·.2)) 0 fun j => !bef ops j i := cntF_mono _ _ fun j _ hj => by rw [Nat.zero_add] at hj ⊢; rw [h2 j hj]; rfl
          have hw := hwin i o v hol q1
          rw [Nat.zero_add] at hw
          have hop : aOp1 P G pf m rd ops (actF zr 0 D a) H o = some (v, H, false) := by
            rw [aOp1_congr halike]
            unfold winOne at hw
            rw [cntI_idxs, cntI_idxs] at hw
            simp only [Bool.or_eq_true, decide_eq_true_eq] at hw
            rcases hw with hw | hw
            · have hclo : cntF (rs.map (·.2)) 0 (bef ops i) ≤ cntF (rs.map (·.2)) 0 fun j => decide (j < i) := cntF_mono _ _ fun j _ hj => by rw [Nat.zero_add] at hj ⊢; simp [bef_low hlow i j hj]
              have hchi : (cntF (rs.map (·.2)) 0 fun j => decide (j < i)) ≤ cntF (rs.map (·.2)) 0 fun j => !bef ops j i := cntF_mono _ _ fun j _ hj => by
                rw [Nat.zero_add] at hj ⊢
                cases hb : bef ops j i with
                | false => rfl
                | true => have := bef_low hlow j i hb; simp at hj; omega
              have hce : cntF (rs.map (·.2)) 0 D = cntF (rs.map (·.2)) 0 fun j => decide (j < i) := by omega
              rw [hce, q2] at hH
              cases hH
              have := quiet_heap q3
              subst this
              exact q3
            · have hmem : H ∈ ((A :: hs).drop (cntF (rs.map (·.2)) 0 (bef ops i))).take ((cntF (rs.map (·.2)) 0 fun j => !bef ops j i) + 1 - cntF (rs.map (·.2)) 0 (bef ops i)) := by
                refine List.mem_of_getElem? (i := cntF (rs.map (·.2)) 0 D - cntF (rs.map (·.2)) 0 (bef ops i)) ?_
                rw [List.getElem?_take, if_pos (by omega), List.getElem?_drop, show cntF (rs.map (·.2)) 0 (bef ops i) + (cntF (rs.map (·.2)) 0 D - cntF (rs.map (·.2)) 0 (bef ops i)) = cntF (rs.map (·.2)) 0 D by omega]
                exact hH
              have := List.all_eq_true.1 hw H hmem
              rw [hopF] at this
              split at this
              · rename_i v' A2 l' hop
                simp only [Bool.and_eq_true, Bool.not_eq_true'] at this
                obtain ⟨rfl, he⟩ := this
                have := eqv_eq _ _ he
                subst this
                have := quiet_heap hop
                subst this
                exact hop
              · cases this
          exact fin H hop (by rw [hpQ hnq]; simp only [hpD, hsw, Bool.false_eq_true, if_false]; exact hH)
    · -- one of the others
      have hit : i = p + t := by
        rcases Nat.lt_trichotomy i (p + t) with h' | h' | h'
        · have := ht1 i h' hil
          rw [hDi] at this; cases this
        · exact h'
        · have hpt : p + t < ops.size := by omega
          have := h1 (p + t) (htail i (by omega) hil (p + t) h')
          rw [ht2 (p + t) (Nat.le_refl _) hpt] at this; cases this
      subst hit
      have hdrop : ops.toList.drop (p + t) = o :: ops.toList.drop (p + (t + 1)) := by
        have : ops.toList[p + t]? = some o := by simpa using ho
        rw [show p + (t + 1) = p + t + 1 by omega]
        exact (List.drop_eq_getElem?_toList_append).trans (by rw [this]; rfl)
      rw [hdrop] at hw
      refine wpOpIn_mono (K := wpListIn (fen ro) 0 P ops (OutPost G S A w os) (ops.toList.drop (p + (t + 1)))) ?_ ?_
      · intro b2 w2 h
        refine .inr ⟨t + 1, fun j hj hjs => ?_, fun j hj hjs => ?_, by omega, h⟩
        · simp only [addD, Bool.or_eq_true, beq_iff_eq]
          by_cases hji : j = p + t
          · exact .inr hji
          · exact .inl (ht1 j (by omega) hjs)
        · simp only [addD, Bool.or_eq_false_iff, beq_eq_false_iff_ne]
          exact ⟨ht2 j (by omega) hjs, by omega⟩
      · unfold wpOpIn
        rw [ho]
        exact hw
  · intro D b' w' hall hst
    rcases hst with ⟨i0, hi0, hDi0, _⟩ | ⟨t, ht1, ht2, ht3, hw⟩
    · rw [hall i0 (by omega)] at hDi0; cases hDi0
    · have : p + t = ops.size := by
        rcases Nat.lt_or_ge (p + t) ops.size with h' | h'
        · have := ht2 (p + t) (Nat.le_refl _) h'
          rw [hall (p + t) h'] at this; cases this
        · omega
      rw [this, List.drop_eq_nil_of_le (by simp)] at hw
      exact hw
  · have : ((Array.replicate ops.size false).toList.countP fun x => !x) ≤ (Array.replicate ops.size false).toList.length := List.countP_le_length
    simpa using this
  · intro j o ho hj
    simp [inn, Array.getD_eq_getD_getElem?, Array.getElem?_replicate] at hj
    split at hj <;> simp at hj
  · obtain ⟨i1, f1⟩ := hi.drew (w.drawn + 1)
    have hz : ∀ j, inn (Array.replicate ops.size false) j = false := by
      intro j
      simp only [inn, Array.getD_eq_getD_getElem?, Array.getElem?_replicate]
      split <;> rfl
    have hpre0 : Pre (inn (Array.replicate ops.size false)) b { w with drawn := w.drawn + 1 } := by
      refine ⟨S, A, fun _ => 0, ?_, i1, f1, ?_, ?_, ?_⟩
      · have hsw : sw (inn (Array.replicate ops.size false)) = false := by show (inn (Array.replicate ops.size false) s2 && _) = false; rw [hz s2]; rfl
        simp only [hpD, hsw, Bool.false_eq_true, if_false]
        rw [cntF_none _ _ _ hz]; rfl
      · rw [actF_none _ _ _ _ hz]; exact hab
      · intro i o t d _ _ _ hD
        rw [hz] at hD; cases hD
      · intro i j oi oj _ _ _ _ _ _ hD
        rw [hz] at hD; cases hD
    by_cases hp0 : p = 0
    · refine .inr ⟨0, fun j hj _ => by omega, fun j _ _ => hz j, by omega, ?_⟩
      have := finish _ _ _ (fun j hj => by omega) hpre0
      simpa using this
    · exact .inl ⟨0, by omega, hz 0, hpre0⟩

theorem aDrawS_ok (hm : Mc.Ok P G m) (hpf : ∀ f args es, pf f args = some es → QCall P G f args es) (hmix : P.follows .mixedOrders = true) {a : AAct} {A : AH} {os : List AOut} (hx : aDrawS P G pf m rd ops a A = some os)
    {S : Sh} {w : World} {b : Act} {ro : Option Nat} (hi : Inv G S A w) (hab : ARel S a b) (hr : RdRel S rd ro) (id : Nat) : (Code.region id ops true).wpIn (fen ro) 0 P (OutPost G S A w os) b w := by
  unfold aDrawS at hx
  simp only at hx
  obtain ⟨hp, htail⟩ := tail_spec (ops := ops) ops.size
  generalize tailStart ops ops.size = p at hx hp htail
  split at hx
  · rename_i rs hs hrun
    split at hx
    · rename_i s2 s1 R hrev
      split at hx
      · rename_i o1 o2 H1 hos1 hos2 hH1
        split at hx
        · rename_i t1 p1 x1 t2 p2 x2 hop1 hop2 hg1 hg2
          split at hx
          · rename_i b1 e1 b2 e2 hptr1 hptr2
            split at hx
            · rename_i H2 hst2
              split at hx
              · rename_i hc
                split at hx
                · rename_i a2 A2 hadopt
                  exact aDrawS_core hm hpf hmix hi hab hr id hp htail hrun hrev hos1 hos2 hH1 hop1 hop2 hg1 hg2 hptr1 hptr2 hst2 hc hadopt hx
                · cases hx
              · cases hx
            · cases hx
          · cases hx
        · cases hx
      · cases hx
    · cases hx
  · cases hx

end
end Go.Am
