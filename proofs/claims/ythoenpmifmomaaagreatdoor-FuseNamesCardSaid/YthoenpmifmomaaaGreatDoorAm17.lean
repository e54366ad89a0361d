/-
  The evaluator's round is sound: pieces of code, loops, functions. Conditions: none.
-/
import Derived.Test.YthoenpmifmomaaaGreatDoorAm16
namespace Go.Am
open Go

section
variable {P : Program} {G : Gl} {m : Mc}

theorem LoopIn.loop {F : Fence} {n : Nat} {P : Program} {c : Code} {Q : Exit → Act → World → Prop} {a : Act} {w : World} (h : LoopIn F n P c Q a w) : (Code.loop c).wpIn F n P Q a w :=
  fun b k cs hro hb hr => let ⟨e, a', w', q, r⟩ := h b k cs hro hb hr; ⟨e, a', w', q, .of_steps (.one (fenced_calm hb hr rfl) stepR_loop) r⟩

theorem LoopIn.round {F : Fence} {n : Nat} {P : Program} {c : Code} {Q : Exit → Act → World → Prop} {a : Act} {w : World}
    (h : c.wpIn F n P (Exit.then (LoopIn F n P c Q) Q) a w) : LoopIn F n P c Q a w := by
  intro b k cs hro hb hr
  obtain ⟨e, a₁, w₁, hq, harr⟩ := h b (.inLoop c :: k) cs hro hb hr
  cases e with
  | normal =>
    obtain ⟨e₂, a₂, w₂, hq₂, harr₂⟩ := hq b k cs hro hb hr
    exact ⟨e₂, a₂, w₂, hq₂, .of_steps (StepsIn.trans harr (.one (fenced_calm hb hr rfl) stepR_inLoop)) harr₂⟩
  | exit id => exact ⟨_, a₁, w₁, hq, .pass (x := .inLoop c) rfl (fun _ _ => .inl (by simp)) harr⟩
  | goto l => exact ⟨_, a₁, w₁, hq, .pass (x := .inLoop c) rfl (fun _ _ => .inl (by simp)) harr⟩
  | ret => exact ⟨_, a₁, w₁, hq, .pass (x := .inLoop c) rfl (fun _ _ => .inl (by simp)) harr⟩
  | panic ch => exact ⟨_, a₁, w₁, hq, .pass (x := .inLoop c) rfl (fun _ _ => .inl (by simp)) harr⟩
  | outgrown => exact ⟨_, a₁, w₁, hq, .pass (x := .inLoop c) rfl (fun _ _ => .inl (by simp)) harr⟩

theorem LoopIn.mono {F : Fence} {n : Nat} {P : Program} {c : Code} {Q Q' : Exit → Act → World → Prop} {a : Act} {w : World} (h : LoopIn F n P c Q a w) (hq : ∀ e a w, Q e a w → Q' e a w) : LoopIn F n P c Q' a w :=
  fun b k cs hro hb hr => let ⟨e, a', w', q, r⟩ := h b k cs hro hb hr; ⟨e, a', w', hq _ _ _ q, r⟩

theorem stepR_scope {P : Program} {b : Frame} {a : Act} {k : List Item} {cs : List Frame} {w : World} {c : Code} : step P (lone (b.atR a (.code (.scope c) :: k)) cs w) = .next (lone (b.atR a (.code c :: .inScope c :: k)) cs w) :=
  step_lone_go (by simp [stepG, stepG.exec, Frame.atR])
theorem stepR_inScope {P : Program} {b : Frame} {a : Act} {k : List Item} {cs : List Frame} {w : World} {c : Code} : step P (lone (b.atR a (.inScope c :: k)) cs w) = .next (lone (b.atR a k) cs w) :=
  step_lone_go (by simp [stepG, stepG.exec, Frame.atR])

theorem wpIn_scope {F : Fence} {n : Nat} {P : Program} {c : Code} {Q : Exit → Act → World → Prop} {a : Act} {w : World} (h : c.wpIn F n P (fun e a w => (∀ l, e ≠ .goto l) ∧ Q e a w) a w) : (Code.scope c).wpIn F n P Q a w := by
  intro b k cs hro hb hr
  have h0 : (lone (b.atR a (.code (.scope c) :: k)) cs w).fenced P F := fenced_calm hb hr rfl
  obtain ⟨e, a₁, w₁, ⟨hg, hq⟩, harr⟩ := h b (.inScope c :: k) cs hro hb hr
  cases e with
  | normal => exact ⟨.normal, a₁, w₁, hq, .head h0 stepR_scope (StepsIn.trans harr (.one (fenced_calm hb hr rfl) stepR_inScope))⟩
  | exit id =>
    have hx : exitTo id (.inScope c :: k) = exitTo id k := by simp [exitTo]
    exact ⟨.exit id, a₁, w₁, hq, fun k' hk => .head h0 stepR_scope (harr.1 k' (by rw [hx]; exact hk)),
      fun hr' hk => let ⟨k₁, h1, h2⟩ := harr.2 hr' (by rw [hx]; exact hk); ⟨k₁, h1, .head h0 stepR_scope h2⟩⟩
  | goto l => exact absurd rfl (hg l)
  | ret => exact ⟨_, a₁, w₁, hq, .of_steps (.one h0 stepR_scope) harr⟩
  | panic ch => exact ⟨_, a₁, w₁, hq, .of_steps (.one h0 stepR_scope) harr⟩
  | outgrown => exact ⟨_, a₁, w₁, hq, .of_steps (.one h0 stepR_scope) harr⟩

/-- On with what is behind. -/
theorem then_ok {S : Sh} {A : AH} {w : World} {xs os : List AOut} {f : AOut → Option (List AOut)} (hx : ∀ o ∈ xs, ∃ ys, f o = some ys ∧ ∀ y ∈ ys, y ∈ os)
    {K : Act → World → Prop}
    (hn : ∀ o ∈ xs, o.e = .normal → ∀ S1 a1 w1 ys, f o = some ys → (∀ y ∈ ys, y ∈ os) → Inv G S1 o.A w1 → Fr S A w S1 o.A w1 → ARel S1 o.a a1 → K a1 w1)
    (he : ∀ o ∈ xs, o.e ≠ .normal → f o = some [o]) :
    ∀ e a' w', OutPost G S A w xs e a' w' → Exit.then K (OutPost G S A w os) e a' w' := by
  intro e a' w' h
  obtain ⟨o, ho, S1, i1, f1, r1, e1⟩ := h
  obtain ⟨ys, h1, h2⟩ := hx o ho
  by_cases hoe : o.e = .normal
  · rw [hoe] at e1
    cases e1
    exact hn o ho hoe S1 a' w' ys h1 h2 i1 f1 r1
  · have := he o ho hoe
    rw [this] at h1
    cases h1
    have hin : OutPost G S A w os e a' w' := ⟨o, h2 o (List.mem_singleton.2 rfl), S1, i1, f1, r1, e1⟩
    cases e1b : e with
    | normal =>
      subst e1b
      generalize hoo : o.e = oe at e1 hoe
      cases e1
      exact absurd rfl hoe
    | exit id => subst e1b; exact hin
    | goto l => subst e1b; exact hin
    | ret => subst e1b; exact hin
    | panic ch => subst e1b; exact hin
    | outgrown => subst e1b; exact hin


theorem sLoop_ok (hm : Mc.Ok P G m) {rd : Option Nat} {c : Code} {a : AAct} {A : AH} {os : List AOut} (hx : sLoop m rd c a A = some os) {S : Sh} {w : World} {b : Act} {ro : Option Nat} (hi : Inv G S A w) (hab : ARel S a b) (hr : RdRel S rd ro) :
    LoopIn (fen ro) 0 P c (OutPost G S A w os) b w := by
  unfold sLoop at hx
  obtain ⟨xs, h1, h2⟩ := bindM_mem hx
  refine LoopIn.round (wpIn_mono (hm.code _ _ _ _ _ h1 S w b ro hi hab hr) (then_ok (K := LoopIn (fen ro) 0 P c (OutPost G S A w os)) h2 ?_ ?_))
  · intro o ho hoe S1 a1 w1 ys hy1 hy2 i1 f1 r1
    simp only [hoe] at hy1
    exact (hm.loop _ _ _ _ _ hy1 S1 w1 a1 ro i1 r1 (hr.mono f1.le)).mono fun _ _ _ h => h.from f1 hy2
  · intro o ho hoe
    cases hoo : o.e <;> simp_all

theorem sCode_ok (hm : Mc.Ok P G m) {rd : Option Nat} {c : Code} {a : AAct} {A : AH} {os : List AOut} (hx : sCode P m rd c a A = some os) {S : Sh} {w : World} {b : Act} {ro : Option Nat} (hi : Inv G S A w) (hab : ARel S a b) (hr : RdRel S rd ro)
    (hrange : ∀ g ps assign body, sRange P m rd g ps assign body a A = some os → (Code.rangeFunc g ps assign body).wpIn (fen ro) 0 P (OutPost G S A w os) b w) :
    c.wpIn (fen ro) 0 P (OutPost G S A w os) b w := by
  unfold sCode at hx
  split at hx
  · cases hx; exact wpIn_skip ⟨_, List.mem_singleton.2 rfl, S, hi, Fr.refl S A w, hab, .normal⟩
  · cases hx; exact wpIn_label ⟨_, List.mem_singleton.2 rfl, S, hi, Fr.refl S A w, hab, .normal⟩
  · exact wpIn_region_list (hm.ops _ _ _ _ _ _ hx S w b ro hi hab hr)
  · rename_i x y
    obtain ⟨xs, h1, h2⟩ := bindM_mem hx
    refine wpIn_seq (wpIn_mono (hm.code _ _ _ _ _ h1 S w b ro hi hab hr) (then_ok (K := y.wpIn (fen ro) 0 P (OutPost G S A w os)) h2 ?_ ?_))
    · intro o ho hoe S1 a1 w1 ys hy1 hy2 i1 f1 r1
      simp only [hoe] at hy1
      exact wpIn_mono (hm.code _ _ _ _ _ hy1 S1 w1 a1 ro i1 r1 (hr.mono f1.le)) fun _ _ _ h => h.from f1 hy2
    · intro o ho hoe
      cases hoo : o.e <;> simp_all
  · rename_i c x y
    split at hx
    · rename_i t hc
      have hv := hab.eval c
      rw [hc] at hv
      generalize hbv : b.eval c = bv at hv
      cases hv
      exact wpIn_cond hbv (hm.code _ _ _ _ _ hx S w b ro hi hab hr)
    · cases hx
  · rename_i id c
    obtain ⟨xs, h1, h2⟩ := bindM_mem hx
    refine wpIn_block (wpIn_mono (hm.code _ _ _ _ _ h1 S w b ro hi hab hr) ?_)
    intro e a' w' h
    obtain ⟨o, ho, S1, i1, f1, r1, e1⟩ := h
    obtain ⟨ys, g1, g2⟩ := h2 o ho
    cases g1
    have hin := g2 _ (List.mem_singleton.2 rfl)
    generalize hoe : o.e = oe at e1
    cases e1 with
    | normal => exact ⟨_, hin, S1, i1, f1, r1, by simp only [hoe, AE.unblock]; exact .normal⟩
    | exit id' =>
      simp only [Exit.inBlock]
      by_cases hid : id' = id
      · rw [if_pos hid]
        exact ⟨_, hin, S1, i1, f1, r1, by simp only [hoe, AE.unblock, if_pos hid]; exact .normal⟩
      · rw [if_neg hid]
        exact ⟨_, hin, S1, i1, f1, r1, by simp only [hoe, AE.unblock, if_neg hid]; exact .exit _⟩
    | goto l => exact ⟨_, hin, S1, i1, f1, r1, by simp only [hoe, AE.unblock]; exact .goto _⟩
    | ret => exact ⟨_, hin, S1, i1, f1, r1, by simp only [hoe, AE.unblock]; exact .ret⟩
    | panic c d hc => exact ⟨_, hin, S1, i1, f1, r1, by simp only [hoe, AE.unblock]; exact .panic _ _ hc⟩
  · exact (hm.loop _ _ _ _ _ hx S w b ro hi hab hr).loop
  · rename_i c
    obtain ⟨xs, h1, h2⟩ := bindM_mem hx
    refine wpIn_scope (wpIn_mono (hm.code _ _ _ _ _ h1 S w b ro hi hab hr) ?_)
    intro e a' w' h
    obtain ⟨o, ho, S1, i1, f1, r1, e1⟩ := h
    obtain ⟨ys, g1, g2⟩ := h2 o ho
    have hng : ∀ l, o.e ≠ .goto l := by
      intro l hl
      rw [hl] at g1
      cases g1
    have hys : ys = [o] := by
      cases hoe : o.e <;> simp only [hoe] at g1 <;> first
        | (cases g1; rfl)
        | exact absurd hoe (hng _)
    subst hys
    have hin := g2 _ (List.mem_singleton.2 rfl)
    refine ⟨fun l hl => ?_, o, hin, S1, i1, f1, r1, e1⟩
    subst hl
    generalize hoe : o.e = oe at e1
    cases e1
    exact hng _ hoe
  · exact hrange _ _ _ _ hx
  · cases hx; exact wpIn_exit ⟨_, List.mem_singleton.2 rfl, S, hi, Fr.refl S A w, hab, .exit _⟩
  · cases hx; exact wpIn_goto ⟨_, List.mem_singleton.2 rfl, S, hi, Fr.refl S A w, hab, .goto _⟩
  · cases hx; exact wpIn_ret ⟨_, List.mem_singleton.2 rfl, S, hi, Fr.refl S A w, hab, .ret⟩
  · cases hx

end
end Go.Am
