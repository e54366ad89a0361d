/-
  The evaluator's round is sound: bodies of deferred functions, rounds of a range over a function, the range itself; so are as many rounds as one likes. Conditions: none.
-/
import Derived.Test.YthoenpmifmomaaaGreatDoorAm19
namespace Go.Am
open Go

section
variable {P : Program} {G : Gl}

theorem wpSIn_mono {F : Fence} {n : Nat} {c : Code} {Q Q' : Exit → Act → List Frame → World → Prop} {a : Act} {cs : List Frame} {w : World} (h : c.wpSIn F n P Q a cs w) (hq : ∀ e a cs w, Q e a cs w → Q' e a cs w) : c.wpSIn F n P Q' a cs w :=
  fun b k h1 h2 h3 h4 => let ⟨e, a', cs', w', l, q, r⟩ := h b k h1 h2 h3 h4; ⟨e, a', cs', w', l, hq _ _ _ _ q, r⟩

theorem SoutPost.from {c0 c1 : Frame} {cs : List Frame} {md1 : FrameMode} (hc : c1 = { c0 with mode := md1 }) {S S1 : Sh} {A A1 : AH} {w w1 : World} (hf : Fr S A w S1 A1 w1) {os os' : List ASout} (hsub : ∀ x ∈ os', x ∈ os) {e : Exit} {b : Act} {cs' : List Frame} {w' : World}
    (h : SoutPost G c1 cs S1 A1 w1 os' e b cs' w') : SoutPost G c0 cs S A w os e b cs' w' := by
  obtain ⟨o, ho, S', md, h1, h2, h3, h4, h5, h6⟩ := h
  subst hc
  exact ⟨o, hsub o ho, S', md, h1, hf.trans h2, h3, h4, h5, h6⟩

section step
variable {m : Mc}

theorem sCodeS_ok (hm : Mc.Ok P G m) {c : Code} {a : AAct} {u : AMode} {A : AH} {os : List ASout} (hx : sCodeS m c a u A = some os) {S : Sh} {w : World} {b : Act} {md : FrameMode} {c0 : Frame} {cs : List Frame}
    (hi : Inv G S A w) (hab : ARel S a b) (hu : MdRel S u md) (hc0 : c0.mode = md) : c.wpSIn Fence.wide 0 P (SoutPost G c0 cs S A w os) b (c0 :: cs) w := by
  have hself : ({ c0 with mode := md } : Frame) = c0 := by subst hc0; rfl
  have plain : ∀ {c : Code} {os : List ASout}, bindM (m.code .none c a A) (fun o => some [(⟨o.e, o.a, u, o.A⟩ : ASout)]) = some os → c.wpSIn Fence.wide 0 P (SoutPost G c0 cs S A w os) b (c0 :: cs) w := by
    intro c os hx
    obtain ⟨xs, h1, h2⟩ := bindM_mem hx
    refine wpSIn_of_wpIn rfl (wpIn_mono (hm.code _ _ _ _ _ h1 S w b none hi hab rfl) ?_)
    intro e a' w' h
    obtain ⟨o, ho, S1, i1, f1, r1, e1⟩ := h
    obtain ⟨ys, g1, g2⟩ := h2 o ho
    cases g1
    exact ⟨_, g2 _ (List.mem_singleton.2 rfl), S1, md, i1, f1, r1, e1, hu.mono f1.le, by rw [hself]⟩
  unfold sCodeS at hx
  simp only at hx
  split at hx
  · rename_i x y
    obtain ⟨xs, h1, h2⟩ := bindM_mem hx
    refine wpSIn_seq (wpSIn_mono (hm.codeS _ _ _ _ _ h1 S w b md c0 cs hi hab hu hc0) ?_)
    intro e a' cs' w' h
    obtain ⟨o, ho, S1, md', i1, f1, r1, e1, m1, rfl⟩ := h
    obtain ⟨ys, g1, g2⟩ := h2 o ho
    generalize hoe : o.e = oe at g1 e1
    have other : ∀ {x : Exit}, ERel S1 o.e x → ys = [o] → SoutPost G c0 cs S A w os x a' ({ c0 with mode := md' } :: cs) w' := by
      intro x hx hy
      subst hy
      exact ⟨o, g2 _ (List.mem_singleton.2 rfl), S1, md', i1, f1, r1, hx, m1, rfl⟩
    cases e1 with
    | normal =>
      simp only [Exit.thenS]
      exact wpSIn_mono (hm.codeS _ _ _ _ _ g1 S1 w' a' md' { c0 with mode := md' } cs i1 r1 m1 rfl) fun _ _ _ _ h => h.from rfl f1 g2
    | exit id => simp only [Option.some.injEq] at g1; exact other (by rw [hoe]; exact .exit id) g1.symm
    | goto l => simp only [Option.some.injEq] at g1; exact other (by rw [hoe]; exact .goto l) g1.symm
    | ret => simp only [Option.some.injEq] at g1; exact other (by rw [hoe]; exact .ret) g1.symm
    | panic c d hc => simp only [Option.some.injEq] at g1; exact other (by rw [hoe]; exact .panic _ _ hc) g1.symm
  · rename_i id ops
    split at hx
    · rename_i o rest hops
      split at hx
      · rename_i hrec
        obtain ⟨xs, h1, h2⟩ := bindM_mem hx
        refine wpSIn_recover hops hrec rfl ?_
        have go : ∀ {v : Value} {md' : FrameMode}, VRel S u.recover.1 v → MdRel S u.recover.2 md' → wpListIn Fence.wide 0 P ops (fun e a w' => SoutPost G c0 cs S A w os e a ({ c0 with mode := md' } :: cs) w') rest (b.put o.dst v) w := by
          intro v md' hv hmd
          refine wpListIn_mono ?_ _ _ _ (hm.ops _ _ _ _ _ _ h1 S w _ none hi (hab.put o.dst hv) rfl)
          intro e a' w' h
          obtain ⟨x, hx1, S1, i1, f1, r1, e1⟩ := h
          obtain ⟨ys, g1, g2⟩ := h2 x hx1
          cases g1
          exact ⟨_, g2 _ (List.mem_singleton.2 rfl), S1, md', i1, f1, r1, e1, hmd.mono f1.le, rfl⟩
        rcases recover_ok hu c0 cs hc0 with ⟨v, md', hr1, hr2, hr3⟩ | ⟨hr1, hr2⟩
        · rw [hr1]
          exact ⟨rfl, go hr2 hr3⟩
        · rw [hr1]
          have := go (v := .nilIface) (md' := md) (by rw [hr2]; exact .nili) (by rw [hr2]; exact hu)
          rw [hself] at this
          exact this
      · exact plain hx
    · exact plain hx
  · exact plain hx

theorem sRound_ok (hm : Mc.Ok P G m) {l : Nat} {args : List AV} {A : AH} {os : List AFin} (hx : sRound m l args A = some os) {S : Sh} {w : World} {c : Nat} {vs : List Value} {st : LoopState} {pd : Option Code} {ats : List AV} {ps : Array Tmp} {as bd : Code} {d : Nat} {us : List Value}
    {fn : FuncId} (hi : Inv G S A w) (hc : S.ρ l = some c) (hb : A.blks[l]? = some (.loop st pd ats ps as bd d)) (_ : args.length = ps.size) (hl : LRel S args vs) (hus : LRel S ats us) :
    RoundIn Fence.wide 0 P c fn ((ps.zip ⟨vs⟩).foldl (fun tmps (t, a) => tmps.setIfInBounds t a) ⟨us⟩) as bd w (FinPost G S A w os) := by
  unfold sRound at hx
  rw [hb] at hx
  simp only at hx
  obtain ⟨xs, h1, h2⟩ := bindM_mem hx
  have hset : LRel S (aSetAll ps.toList args ats) ((ps.zip ⟨vs⟩).foldl (fun tmps (t, a) => tmps.setIfInBounds t a) (⟨us⟩ : Array Value)).toList := by
    have := set_ok (S := S) ps.toList args vs ats ⟨us⟩ hl hus
    rw [← Array.foldl_toList, Array.toList_zip]
    exact this
  refine roundIn_of_wpIn trivial ?_
  have key := hm.code _ _ _ _ _ h1 S w { tmps := (ps.zip ⟨vs⟩).foldl (fun tmps (t, a) => tmps.setIfInBounds t a) ⟨us⟩, defers := [] } (some c) hi ⟨hset, .nil⟩ ⟨c, rfl, hc⟩
  refine wpIn_mono key ?_
  intro e a1 w1 h
  obtain ⟨o, ho, S1, i1, f1, r1, e1⟩ := h
  obtain ⟨ys, g1, g2⟩ := h2 o ho
  have hc1 := f1.le.ρ _ _ hc
  generalize o.e = oe at g1 e1
  cases e1 with
  | exit id => cases g1
  | goto l => cases g1
  | ret => cases g1
  | panic c d hc => cases g1
  | normal =>
    simp only at g1
    split at g1
    · rename_i pd' ats' ps' as' bd' d' hb1
      obtain ⟨c', ob, s1, s2, s3⟩ := i1.blk l _ hb1 (by simp)
      obtain rfl := Option.some.inj (s1.symm.trans hc1)
      cases s3 with
      | loop _ _ _ tvs _ _ _ _ dd' fn' htl hdd =>
      have hlt := (Array.getElem?_eq_some_iff.1 s2).1
      have hbr := run_beginRound (P := P) s2 rfl
      simp only [Exit.then]
      obtain ⟨i2, f2⟩ := i1.put (x := .loop .busy pd' ats' ps' as' bd' d') (Inv.live_of hb1 (by simp)) hc1 (by simp) (.loop .busy pd' ats' tvs ps' as' bd' d' dd' fn' htl hdd)
        (w' := w1.putObj c' _) (World.putObj_heap_same hlt) (fun b' hb' => World.putObj_heap_other hb') (by simp) rfl rfl rfl (fun cs el hc => by rw [s2] at hc; cases hc)
      refine ⟨_, hbr, ?_⟩
      obtain ⟨xs', h1', h2'⟩ := bindM_mem g1
      refine wpIn_mono (hm.code _ _ _ _ _ h1' S1 _ a1 (some c') i2 r1 ⟨c', rfl, hc1⟩) ?_
      intro e2 a2 w2 h
      obtain ⟨o2, ho2, S2, i3, f3, r2, e3⟩ := h
      obtain ⟨zs, k1, k2⟩ := h2' o2 ho2
      have hc2 := f3.le.ρ _ _ hc1
      have fin : ∀ (j : Option Code), (match o2.A.blks[l]? with
            | some (.loop _ _ ats'' ps'' as'' bd'' d'') => some [(⟨.returned (.bool j.isNone), o2.A.put l (.loop (if j.isNone then .ready else .done) j ats'' ps'' as'' bd'' d'')⟩ : AFin)]
            | _ => .none) = some zs → ∃ v w', (Instr.endRound c' j).run P w2 = .ok v w' ∧ FinPost G S A w os (.returned v) w' := by
        intro j hj
        split at hj
        · rename_i pd'' ats'' ps'' as'' bd'' d'' hb2
          cases hj
          obtain ⟨c'', ob2, t1, t2, t3⟩ := i3.blk l _ hb2 (by simp)
          obtain rfl := Option.some.inj (t1.symm.trans hc2)
          cases t3 with
          | loop _ _ _ tvs2 _ _ _ _ dd2 fn2 htl2 hdd2 =>
          have hlt2 := (Array.getElem?_eq_some_iff.1 t2).1
          obtain ⟨i4, f4⟩ := i3.put (x := .loop (if j.isNone then .ready else .done) j ats'' ps'' as'' bd'' d'') (Inv.live_of hb2 (by simp)) hc2 (by simp) (.loop (if j.isNone then .ready else .done) j ats'' tvs2 ps'' as'' bd'' d'' dd2 fn2 htl2 hdd2)
            (w' := w2.putObj c'' _) (World.putObj_heap_same hlt2) (fun b' hb' => World.putObj_heap_other hb') (by simp) rfl rfl rfl (fun cs el hc => by rw [t2] at hc; cases hc)
          exact ⟨_, _, run_endRound j t2, _, g2 _ (k2 _ (List.mem_singleton.2 rfl)), S2, i4, ((f1.trans f2).trans f3).trans f4, .returned _ _ (.bool _)⟩
        · cases hj
      generalize o2.e = oe2 at k1 e3
      cases e3 with
      | normal => exact fin none k1
      | exit id => exact fin (some (.exit id)) k1
      | goto l => exact fin (some (.goto l)) k1
      | ret => exact fin (some .ret) k1
      | panic c d hc => cases k1
    · cases g1

end step
end
end Go.Am
