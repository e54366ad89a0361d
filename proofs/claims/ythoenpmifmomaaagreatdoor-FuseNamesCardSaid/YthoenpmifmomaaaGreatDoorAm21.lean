/-
  The evaluator is sound: the range over a function; so many rounds. Conditions: none.
-/
import Derived.Test.YthoenpmifmomaaaGreatDoorAm20
namespace Go.Am
open Go

section
variable {P : Program} {G : Gl}

section step
variable {m : Mc}

theorem sRange_ok (hm : Mc.Ok P G m) {rd : Option Nat} {g : Operand} {ps : Array Tmp} {assign body : Code} {a : AAct} {A : AH} {os : List AOut} (hx : sRange P m rd g ps assign body a A = some os) {S : Sh} {w : World} {b : Act} {ro : Option Nat}
    (hi : Inv G S A w) (hab : ARel S a b) (hr : RdRel S rd ro) : (Code.rangeFunc g ps assign body).wpIn (fen ro) 0 P (OutPost G S A w os) b w := by
  refine wpIn_rangeFunc fun fnid _ => ?_
  -- the record, once the block for the deferred calls is there
  have go : ∀ (d : Nat) (mark : List ADef) (A0 : AH) (S0 : Sh) (w0 : World) (dc : Nat) (es : List Deferred), Inv G S0 A0 w0 → Fr S A w S0 A0 w0 → S0.ρ d = some dc → DsRel S0 mark es →
      (let l := A0.blks.length
       match a.eval g with
       | .fn (.func f) first cap =>
        match aEnter P f (first ++ [.fn (.yield l) [] []] ++ cap) (A0.push (.loop .ready .none a.tmps ps assign body d)) with
        | some (.enter f args A') =>
          bindM (m.func f args A') fun x =>
            match x.e with
            | .panicked c => some [(⟨.panic c, { a with defers := mark ++ a.defers }, x.A⟩ : AOut)]
            | .returned _ =>
              match x.A.blks[l]? with
              | some (.loop .busy _ _ _ _ _ _) => .none
              | some (.loop _ pd ats ps' as' bd' d') =>
                let A'' := x.A.put l (.loop .exhausted pd ats ps' as' bd' d')
                match pd with
                | .none => some [⟨.normal, { a with defers := mark ++ a.defers }, A''⟩]
                | some c => m.code rd c { a with defers := mark ++ a.defers } A''
              | _ => .none
        | _ => .none
       | _ => .none) = some os →
      ∃ (dt : Deferred) (f : FuncId) (args : Array Value),
        (resolve b.eval (rangeCall g w0.heap.size) 0).run P (w0.alloc (.loop { state := .ready, pending := none, fn := fnid, tmps := b.tmps, params := ps, assign, body, defers := dc })) = .ok dt (w0.alloc (.loop { state := .ready, pending := none, fn := fnid, tmps := b.tmps, params := ps, assign, body, defers := dc })) ∧
        (invoke dt.target dt.args).run P (w0.alloc (.loop { state := .ready, pending := none, fn := fnid, tmps := b.tmps, params := ps, assign, body, defers := dc })) = .ok (.enter f args) (w0.alloc (.loop { state := .ready, pending := none, fn := fnid, tmps := b.tmps, params := ps, assign, body, defers := dc })) ∧
        CallsIn (fen ro) (0 - 1) P f args (w0.alloc (.loop { state := .ready, pending := none, fn := fnid, tmps := b.tmps, params := ps, assign, body, defers := dc })) (rangePost (fen ro) 0 P w0.heap.size (OutPost G S A w os) { b with defers := es ++ b.defers }) := by
    intro d mark A0 S0 w0 dc es i0 f0 hd hmark hx
    simp only at hx
    split at hx
    · rename_i f first cap hev
      have hv := (hab.mono f0.le).eval g
      rw [hev] at hv
      generalize hbv : b.eval g = bv at hv
      cases hv with
      | fn _ gg _ _ us vs hfr h1 h2 =>
      cases hfr
      have hlt : d < A0.blks.length := by
        rcases Nat.lt_or_ge d A0.blks.length with h | h
        · exact h
        · rw [i0.ρout d h] at hd; cases hd
      have hle0 := Sh.le_at (i0.ρout _ (Nat.le_refl _)) w0.heap.size
      obtain ⟨i1, f1⟩ := i0.push (x := .loop .ready .none a.tmps ps assign body d) (o := .loop { state := .ready, pending := none, fn := fnid, tmps := b.tmps, params := ps, assign, body, defers := dc }) (by simp)
        (.loop .ready .none a.tmps b.tmps.toList ps assign body d dc fnid ((hab.tmps.mono f0.le).mono hle0) (hle0.ρ _ _ hd))
      have hl : (S0.at A0.blks.length w0.heap.size).ρ A0.blks.length = some w0.heap.size := by simp [Sh.at]
      split at hx
      · rename_i f' args A' hent
        have hyield : VRel (S0.at A0.blks.length w0.heap.size) (.fn (.yield A0.blks.length) [] []) (.func (.yield w0.heap.size) #[] #[]) := .fn _ _ _ _ [] [] ⟨_, hl, rfl⟩ .nil .nil
        obtain ⟨he1, he2⟩ := aEnter_run hent ⟨us ++ [.func (.yield w0.heap.size) #[] #[]] ++ vs⟩ (w0.alloc (.loop { state := .ready, pending := none, fn := fnid, tmps := b.tmps, params := ps, assign, body, defers := dc }))
        cases he1
        obtain ⟨xs, g1, g2⟩ := bindM_mem hx
        refine ⟨⟨.fn (.func f) ⟨vs⟩, ⟨us ++ [.func (.yield w0.heap.size) #[] #[]]⟩⟩, f, ⟨us ++ [.func (.yield w0.heap.size) #[] #[]] ++ vs⟩, ?_, ?_, ?_⟩
        · simp only [resolve, Deferred.ofValue, hbv]
          simp [Act.eval]
        · have : invoke (.fn (.func f) ⟨vs⟩) ⟨us ++ [.func (.yield w0.heap.size) #[] #[]]⟩ = callFunc f ⟨us ++ [.func (.yield w0.heap.size) #[] #[]] ++ vs⟩ := by simp [invoke]
          rw [this]; exact he2
        · have hargs : LRel (S0.at A0.blks.length w0.heap.size) (first ++ [.fn (.yield A0.blks.length) [] []] ++ cap) (us ++ [.func (.yield w0.heap.size) #[] #[]] ++ vs) :=
            ((h1.mono hle0).append (.cons _ _ _ _ hyield .nil)).append (h2.mono hle0)
          have key := hm.func _ _ _ _ g1 _ _ _ i1 hargs
          have f01 := f0.trans f1
          refine CallsIn.mono (R := FinPost G _ _ _ xs) key ?_
          intro e w3 hp
          obtain ⟨x, hx1, S3, i3, f3, e3⟩ := hp
          obtain ⟨ys, y1, y2⟩ := g2 x hx1
          have f03 := f01.trans f3
          have hab' : ARel S3 { a with defers := mark ++ a.defers } { b with defers := es ++ b.defers } :=
            ⟨hab.tmps.mono f03.le, DsRel.append (hmark.mono (f1.trans f3).le) (hab.defers.mono f03.le)⟩
          generalize x.e = xe at y1 e3
          cases e3 with
          | panicked c dd hc =>
            simp only [Option.some.injEq] at y1
            subst y1
            exact ⟨_, y2 _ (List.mem_singleton.2 rfl), S3, i3, f03, hab', .panic _ _ hc⟩
          | returned v u hv =>
            simp only at y1
            have hl3 := f3.le.ρ _ _ hl
            split at y1
            · cases y1
            · rename_i st pd ats ps' as' bd' d' hnb hb
              have hnb : st ≠ .busy := by
                rintro rfl
                exact hnb rfl
              obtain ⟨c', ob, s1, s2, s3⟩ := i3.blk _ _ hb (by simp)
              obtain rfl := Option.some.inj (s1.symm.trans hl3)
              cases s3 with
              | loop _ _ _ tvs _ _ _ _ dd' fn' htl hdd =>
              have hlt3 := (Array.getElem?_eq_some_iff.1 s2).1
              have hend := run_endLoop (P := P) s2 hnb
              obtain ⟨i4, f4⟩ := i3.put (x := .loop .exhausted pd ats ps' as' bd' d') (Inv.live_of hb (by simp)) hl3 (by simp) (.loop .exhausted pd ats tvs ps' as' bd' d' dd' fn' htl hdd)
                (w' := w3.putObj w0.heap.size _) (World.putObj_heap_same hlt3) (fun b' hb' => World.putObj_heap_other hb') (by simp) rfl rfl rfl (fun cs el hc => by rw [s2] at hc; cases hc)
              refine ⟨pd, _, hend, ?_⟩
              split at y1
              · cases y1
                exact ⟨_, y2 _ (List.mem_singleton.2 rfl), S3, i4, f03.trans f4, hab', .normal⟩
              · rename_i c
                exact wpIn_mono (hm.code _ _ _ _ _ y1 S3 _ _ ro i4 hab' (hr.mono f03.le)) fun _ _ _ h => h.from (f03.trans f4) y2
            · cases y1
      · cases hx
    · cases hx
  unfold sRange at hx
  cases rd with
  | none =>
    obtain rfl : ro = none := hr
    simp only at hx
    obtain ⟨i0, f0⟩ := hi.push (x := .defers) (o := .deferred (some [])) (by simp) .defers
    have hd : (S.at A.blks.length w.heap.size).ρ A.blks.length = some w.heap.size := by simp [Sh.at]
    obtain ⟨dt, f, args, k1, k2, k3⟩ := go A.blks.length [.mark A.blks.length] (A.push .defers) _ (w.alloc (.deferred (some []))) w.heap.size [{ target := .collected w.heap.size, args := #[] }] i0 f0 hd (.cons _ _ _ _ (.mark _ _ hd) .nil) hx
    rw [World.size_alloc] at k1 k3
    exact ⟨w.heap.size + 1, _, _, dt, (w.alloc (.deferred (some []))).alloc (.loop { state := .ready, pending := none, fn := fnid, tmps := b.tmps, params := ps, assign, body, defers := w.heap.size }), f, args,
      (w.alloc (.deferred (some []))).alloc (.loop { state := .ready, pending := none, fn := fnid, tmps := b.tmps, params := ps, assign, body, defers := w.heap.size }), run_enterLoop_outer fnid b.tmps ps assign body, k1, fun _ _ => trivial, k2, (fun h => by simp [fen, Fence.wide] at h), k3⟩
  | some l0 =>
    obtain ⟨c, rfl, hc⟩ := hr
    simp only at hx
    split at hx
    · rename_i st pd ats ps0 as0 bd0 d hb
      obtain ⟨c', ob, s1, s2, s3⟩ := hi.blk _ _ hb (by simp)
      obtain rfl := Option.some.inj (s1.symm.trans hc)
      cases s3 with
      | loop _ _ _ tvs _ _ _ _ dd fn' htl hdd =>
      obtain ⟨dt, f, args, k1, k2, k3⟩ := go d [] A S w dd [] hi (Fr.refl S A w) hdd .nil hx
      refine ⟨w.heap.size, [], _, dt, w.alloc (.loop { state := .ready, pending := none, fn := fnid, tmps := b.tmps, params := ps, assign, body, defers := dd }), f, args, w.alloc (.loop { state := .ready, pending := none, fn := fnid, tmps := b.tmps, params := ps, assign, body, defers := dd }), ?_, k1, fun _ _ => trivial, k2, (fun h => by simp [fen, Fence.wide] at h), k3⟩
      simp only [fen, Instr.enterLoop, Sem.run_bind, run_getLoop s2, Result.andThen_ok, Sem.run_pure]
      rfl
    · cases hx

theorem step_ok (hm : Mc.Ok P G m) : Mc.Ok P G (Mc.step P G m) where
  func _ _ _ _ h _ _ _ hi hl := sFunc_ok hm h hi hl
  code _ _ _ _ _ h _ _ _ _ hi hab hr := sCode_ok hm h hi hab hr fun _ _ _ _ h' => sRange_ok hm h' hi hab hr
  loop _ _ _ _ _ h _ _ _ _ hi hab hr := sLoop_ok hm h hi hab hr
  ops _ _ _ _ _ _ h _ _ _ _ hi hab hr := sOps_ok hm h hi hab hr
  round _ _ _ _ h _ _ _ _ _ _ _ _ _ _ _ _ _ _ _ _ hi hc hb hlen hl hus _ := sRound_ok hm h hi hc hb hlen hl hus
  leave _ _ _ _ _ _ h _ _ _ _ _ hi hl hd hu := sLeave_ok hm h hi hl hd hu
  dfunc _ _ _ _ _ h _ _ _ _ hi hl hu := sDfunc_ok hm h hi hl hu
  codeS _ _ _ _ _ h _ _ _ _ _ _ hi hab hu hc0 := sCodeS_ok hm h hi hab hu hc0

theorem run_ok (hm : Mc.Ok P G m) (n : Nat) : Mc.Ok P G (Mc.run P G m n) := by
  induction n with
  | zero => exact hm
  | succ n ih => exact step_ok ih

end step
end
end Go.Am
