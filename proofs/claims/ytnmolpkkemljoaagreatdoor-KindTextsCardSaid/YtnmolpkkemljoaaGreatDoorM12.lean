/-
  What the proof is built of: Types that are read, and Parse, come to what they say. KindReads, KindTexts: the hooks. KindTexts: the hooks. The conditions of KindTexts, evaluated. KindReads returns true. What is written is read as the same type, and what is read is written the same. KindTexts returns true. A world in which the listed variables hold what their initialisers lay. What the laid variables hold, as far as the walks look at it. Conditions: none.
-/
import Derived.Test.YtnmolpkkemljoaaGreatDoorM10
import Derived.Test.YtnmolpkkemljoaaGreatDoorM11
import Derived.Test.YtnmolpkkemljoaaGreatDoorM8
import Derived.Test.YtnmolpkkemljoaaGreatDoorCards
import Derived.Test.YtnmolpkkemljoaaGreatDoorTie
import Derived.WalkKit
import Derived.ProofKit
import Derived.OpenShut
import Derived.Deep.DeepHandedRow
import Derived.Deep.DeepWitnessRowRef
import Derived.Lib.LaidTab
import Derived.Lib.LaidU8
import Derived.Lib.ItoaNum
section
set_option maxRecDepth 100000
set_option linter.unusedSimpArgs false
set_option linter.unusedVariables false
namespace Kd
open Go Go.Am Go.Proofs.YtnmolpkkemljoaaGreatDoor

theorem cutP_len (s p : List UInt8) : (cutP s p).length ≤ s.length := by
  cases h : hasP s p with
  | true => rw [cutP_yes h]; simp
  | false => rw [cutP_no h]; exact Nat.le_refl _
theorem cutP_lt {s p : List UInt8} (h : hasP s p = true) (hp : 0 < p.length) : (cutP s p).length + p.length = s.length := by
  have := (hasP_iff.1 h).1
  rw [cutP_yes h, List.length_drop]; omega
theorem rnR_len (s : List UInt8) : (rnR s).length ≤ s.length := by
  unfold rnR rnF
  split
  · simp
  · exact Nat.le_refl _
theorem opF_len {s m : List UInt8} {k : Int} (h : opF s = some (k, m)) : m.length ≤ s.length := by
  unfold opF at h
  repeat' split at h
  all_goals first
    | (cases h; exact cutP_len _ _)
    | cases h
theorem rdR_len : ∀ (n : Nat) (s : List UInt8), (rdR n s).length ≤ s.length
  | 0, s => Nat.le_refl _
  | n + 1, s => by
    have ih := rdR_len n
    unfold rdR at ih ⊢
    simp only [rdF]
    split
    · exact cutP_len _ _
    split
    · exact cutP_len _ _
    split
    · exact Nat.le_trans (rnR_len _) (cutP_len _ _)
    split
    · split
      · have h1 := cutP_len (rdF n (cutP s [91])).2.1 [93]
        have h2 := ih (cutP s [91])
        have h3 := cutP_len s [91]
        simp only; omega
      · exact Nat.le_refl _
    split
    · split
      · split
        · exact Nat.le_refl _
        · rename_i k m hm
          split
          · have h1 := cutP_len (rdF n m).2.1 [41]
            have h2 := ih m
            have h3 := opF_len hm
            have h4 := ih (cutP s [40])
            have h5 := cutP_len s [40]
            simp only; omega
          · exact Nat.le_refl _
      · exact Nat.le_refl _
    · exact Nat.le_refl _
theorem opF_lt {s m : List UInt8} {k : Int} (h : opF s = some (k, m)) : m.length + 3 ≤ s.length := by
  unfold opF at h
  split at h
  · rename_i hp
    cases h
    have := cutP_lt hp (by simp)
    simp only [List.length_cons, List.length_nil] at this; omega
  split at h
  · rename_i hp
    cases h
    have := cutP_lt hp (by simp)
    simp only [List.length_cons, List.length_nil] at this; omega
  split at h
  · rename_i hp
    cases h
    have := cutP_lt hp (by simp)
    simp only [List.length_cons, List.length_nil] at this; omega
  · cases h
/-- A type has no more types in it than its text has bytes. -/
theorem rd_cnt : ∀ (n : Nat) (s : List UInt8), rdB n s = true → cnt (rdT n s) + (rdR n s).length ≤ s.length
  | 0, s, h => by cases h
  | n + 1, s, h => by
    have ih := rd_cnt n
    simp only [rdB, rdT, rdR] at ih h ⊢
    simp only [rdF] at h ⊢
    split
    · rename_i hp
      have := cutP_lt hp (by simp)
      simp only [zeroT, cnt, cntL, List.length_cons, List.length_nil] at this ⊢; omega
    rename_i h1
    rw [if_neg h1] at h
    split
    · rename_i hp
      have := cutP_lt hp (by simp)
      simp only [cnt, cntL, List.length_cons, List.length_nil] at this ⊢; omega
    rename_i h2
    rw [if_neg h2] at h
    split
    · rename_i hp
      have h3 := cutP_lt hp (by simp)
      have h4 := rnR_len (cutP s [39])
      simp only [varT, cnt, cntL, List.length_cons, List.length_nil] at h3 ⊢; omega
    rename_i h3
    rw [if_neg h3] at h
    split
    · rename_i hp
      rw [if_pos hp] at h
      have h4 := cutP_lt hp (by simp)
      simp only [List.length_cons, List.length_nil] at h4
      split
      · rename_i hb
        have h5 := ih _ hb
        have h6 := cutP_len (rdF n (cutP s [91])).2.1 [93]
        simp only [cnt, cntL]; omega
      · rename_i hb
        rw [if_neg hb] at h; cases h
    rename_i h4
    rw [if_neg h4] at h
    split
    · rename_i hp
      rw [if_pos hp] at h
      have h5 := cutP_lt hp (by simp)
      simp only [List.length_cons, List.length_nil] at h5
      split
      · rename_i hb
        rw [if_pos hb] at h
        have h6 := ih _ hb
        split
        · rename_i hm
          rw [hm] at h; cases h
        · rename_i k m hm
          rw [hm] at h
          have h7 := opF_lt hm
          simp only at h
          split
          · rename_i hb2
            have h8 := ih _ hb2
            have h9 := cutP_len (rdF n m).2.1 [41]
            simp only [cnt, cntL]; omega
          · rename_i hb2
            rw [if_neg hb2] at h; cases h
      · rename_i hb
        rw [if_neg hb] at h; cases h
    · rename_i hp
      rw [if_neg hp] at h; cases h
theorem rdR_eq (n : Nat) (s : List UInt8) : (rdF n s).2.1 = rdR n s := rfl
theorem rdT_eq (n : Nat) (s : List UInt8) : (rdF n s).1 = rdT n s := rfl
theorem rdB_eq (n : Nat) (s : List UInt8) : (rdF n s).2.2 = rdB n s := rfl
end Kd
noncomputable section
namespace Go.Proofs.YtnmolpkkemljoaaGreatDoor
open Go Go.Am Kd

theorem encL_1 (a : Ty) : encL [a] = [encD a] := by simp only [encL, enc_D]
theorem encL_two (a b : Ty) : encL [a, b] = [encD a, encD b] := by simp only [encL, enc_D]

def tyEnd (N : Nat) (s : List UInt8) : AEnd := match rdB N s with | true => .returned (encD (rdT N s)) | false => .panicked (stopC 8)
def tyAft (N : Nat) (s : List UInt8) : List UInt8 := match rdB N s with | true => rdR N s | false => pdF N s

theorem num_hook : HSpec.Ok Tryz.prog gT 108 numH := by
  intro args A K h'
  unfold numH at h'
  split at h'
  · split at h'
    · rename_i b _ s hb
      obtain ⟨hl, hK⟩ := h'
      rw [nthR_eq] at hb
      have hj := num_ok s hl
      unfold numEnd numAft at hj
      cases hf : rnB s with
      | true =>
        rw [hf] at hK hj
        have hr := FuncJ.oneP (A := A) (b := b) (x' := .cells [.str (rnR s)] 98) hj (by simp [AV.stillL]) (by simp [ABlk.bnd, AV.bndL, AV.bnd]) (by simp [ABlk.bnd, AV.bndL, AV.bnd]) (by simp [ABlk.bnd, AV.bndL, AV.bnd]) (by simp [AEnd.bnd, AV.bnd]) (by simp) (by simp) hb
        exact ⟨_, hr, hK⟩
      | false =>
        rw [hf] at hK hj
        have hr := FuncJ.oneP (A := A) (b := b) (x' := .cells [.str s] 98) hj (by simp [AV.stillL]) (by simp [ABlk.bnd, AV.bndL, AV.bnd]) (by simp [ABlk.bnd, AV.bndL, AV.bnd]) (by simp [ABlk.bnd, AV.bndL, AV.bnd]) (stop_bnd ..) (by simp) (by simp) hb
        exact ⟨_, hr, hK⟩
    · exact h'.elim
  · exact h'.elim

theorem ty_hook {N : Nat} (ih : ∀ s, s.length < N → s.length ≤ 2000 → FuncJ Tryz.prog gT 75 [.ptr 0 0] (rdA s) (hpIs 0 (tyEnd N s) (rdA (tyAft N s)))) : HSpec.Ok Tryz.prog gT 75 (tyH N) := by
  intro args A K h'
  unfold tyH at h'
  split at h'
  · split at h'
    · rename_i b _ s hb
      obtain ⟨hl, hK⟩ := h'
      rw [nthR_eq] at hb
      have hj := ih s hl.1 hl.2
      unfold tyEnd tyAft at hj
      cases hf : rdB N s with
      | true =>
        rw [hf] at hK hj
        have hr := FuncJ.oneP (A := A) (b := b) (x' := .cells [.str (rdR N s)] 98) hj (by simp [AV.stillL]) (by simp [ABlk.bnd, AV.bndL, AV.bnd]) (by simp [ABlk.bnd, AV.bndL, AV.bnd]) (by simp [ABlk.bnd, AV.bndL, AV.bnd]) (by simp [AEnd.bnd, AV.still_bnd, encD_still]) (by simp) (by simp) hb
        exact ⟨_, hr, hK⟩
      | false =>
        rw [hf] at hK hj
        have hr := FuncJ.oneP (A := A) (b := b) (x' := .cells [.str (pdF N s)] 98) hj (by simp [AV.stillL]) (by simp [ABlk.bnd, AV.bndL, AV.bnd]) (by simp [ABlk.bnd, AV.bndL, AV.bnd]) (by simp [ABlk.bnd, AV.bndL, AV.bnd]) (stop_bnd ..) (by simp) (by simp) hb
        exact ⟨_, hr, hK⟩
    · exact h'.elim
  · exact h'.elim

theorem kty_ok : ∀ (N : Nat) (s : List UInt8), s.length < N → s.length ≤ 2000 → FuncJ Tryz.prog gT 75 [.ptr 0 0] (rdA s) (hpIs 0 (tyEnd N s) (rdA (tyAft N s))) := by
  intro N
  induction N with
  | zero => intro s h; omega
  | succ N ih =>
    intro s hN hl
    have hh : Hooks.Ok Tryz.prog gT (tyHk N) := mkHooks_ok (all_cons kindsT_hook (all_cons cp_hook all_nil)) (all_cons (ty_hook ih) (all_cons num_hook all_nil)) all_nil
    refine FuncJ.mono (K := fun o => o = ⟨tyEnd (N + 1) s, rdA (tyAft (N + 1) s)⟩) ?_ fun o ho => by subst ho; exact hpIs_self rfl
    have hbe : (tyEnd (N + 1) s).bnd 1 0 = true := by
      unfold tyEnd
      split
      · simp [AEnd.bnd, AV.still_bnd, encD_still]
      · rfl
    refine FuncJ.fz (n := 1) (nf := 0) (k := 5) ?_ rfl rfl (Nat.le_refl _) (Nat.le_refl _) (by simp [rdA, ABlk.bnd, AV.bndL, AV.bnd]) hbe
    refine FuncJ.run (el := els) (mu := mu0) (hk := tyHk N) hmix hh (n := 60) ?_
    show runT (tyHk N) 60 75 [.ptr 0 0] (rdA s) _
    rw [ty_top]
    have good : ∀ t r, rdF (N + 1) s = (t, r, true) → AEnd.returned (encD t) = tyEnd (N + 1) s ∧ r = tyAft (N + 1) s := by
      intro t r h
      unfold tyEnd tyAft rdB rdT rdR
      rw [h]; exact ⟨rfl, rfl⟩
    have bad : ∀ r, (rdF (N + 1) s).2.2 = false → pdF (N + 1) s = r → AEnd.panicked [(AV.iface 117 (AV.agg [AV.int .i64 8]), false)] = tyEnd (N + 1) s ∧ r = tyAft (N + 1) s := by
      intro r h e
      unfold tyEnd tyAft rdB
      rw [h]; exact ⟨rfl, e.symm⟩
    simp only [eq_self, true_and, and_true, AV.str.injEq]
    refine bothR_bool (fun hU => good zeroT _ ?_) fun hU => ?_
    · simp only [rdF, hU, if_true]
    rw [cutP_no hU]
    refine bothR_bool (fun hI => good (.mk 1 0 true []) _ ?_) fun hI => ?_
    · simp only [rdF, hU, hI, if_true, Bool.false_eq_true, if_false]
    rw [cutP_no hI]
    refine bothR_bool (fun hQ => ⟨?_, bothR_bool (fun hn => good (varT (rnV (cutP s [39]))) _ ?_) fun hn => bad _ ?_ ?_⟩) fun hQ => ?_
    · have := cutP_len s [39]; omega
    · simp only [rdF, hU, hI, hQ, hn, if_true, Bool.false_eq_true, if_false]
    · simp only [rdF, hU, hI, hQ, hn, if_true, Bool.false_eq_true, if_false]
    · simp only [pdF, hQ, if_true]
    rw [cutP_no hQ]
    refine bothR_bool (fun hB => ?_) fun hB => ?_
    · have hlt := cutP_lt hB (by simp)
      simp only [List.length_singleton] at hlt
      refine ⟨⟨by omega, by omega⟩, bothR_bool (fun h1 => bothR_nbool (fun h2 => bad _ ?_ ?_) fun h2 => ?_) fun h1 => bad _ ?_ ?_⟩
      · simp only [rdF, rdB_eq, rdR_eq, rdT_eq, hU, hI, hQ, hB, h1, h2, if_true, Bool.false_eq_true, if_false]
      · rw [cutP_no h2]
        simp only [pdF, hQ, hB, h1, if_true, Bool.false_eq_true, if_false]
      · have := good (.mk 4 0 false [rdT N (cutP s [91])]) (cutP (rdR N (cutP s [91])) [93]) (by simp only [rdF, rdB_eq, rdR_eq, rdT_eq, hU, hI, hQ, hB, h1, h2, if_true, Bool.false_eq_true, if_false])
        rw [← this.1, ← this.2]
        simp only [encD, tk_mk, tn_mk, tb_mk, tl_mk, encL_1, and_true]
      · simp only [rdF, rdB_eq, rdR_eq, rdT_eq, hU, hI, hQ, hB, h1, if_true, Bool.false_eq_true, if_false]
      · simp only [pdF, hQ, hB, h1, if_true, Bool.false_eq_true, if_false]
    rw [cutP_no hB]
    refine bothR_nbool (fun hP => bad _ ?_ ?_) fun hP => ?_
    · simp only [rdF, hU, hI, hQ, hB, hP, Bool.false_eq_true, if_false]
    · rw [cutP_no hP]
      simp only [pdF, hQ, hB, hP, Bool.false_eq_true, if_false]
    have hlt := cutP_lt hP (by simp)
    simp only [List.length_singleton] at hlt
    have hrl := rdR_len N (cutP s [40])
    refine ⟨⟨by omega, by omega⟩, bothR_bool (fun h1 => ?_) fun h1 => bad _ ?_ ?_⟩
    rotate_left
    · simp only [rdF, rdB_eq, rdR_eq, rdT_eq, hU, hI, hQ, hB, hP, h1, if_true, Bool.false_eq_true, if_false]
    · simp only [pdF, hQ, hB, hP, h1, if_true, Bool.false_eq_true, if_false]
    have br : ∀ k m, opF (rdR N (cutP s [40])) = some (k, m) → ((m.length < N ∧ m.length ≤ 2000) ∧ bothR (rdB N m)
        (bothR (!hasP (rdR N m) [41]) (AEnd.panicked [(AV.iface 117 (AV.agg [AV.int .i64 8]), false)] = tyEnd (N + 1) s ∧ cutP (rdR N m) [41] = tyAft (N + 1) s)
          (AEnd.returned (encD (.mk k 0 false [rdT N (cutP s [40]), rdT N m])) = tyEnd (N + 1) s ∧ cutP (rdR N m) [41] = tyAft (N + 1) s))
        (AEnd.panicked [(AV.iface 117 (AV.agg [AV.int .i64 8]), false)] = tyEnd (N + 1) s ∧ pdF N m = tyAft (N + 1) s)) := by
      intro k m hop
      have hm := opF_len hop
      refine ⟨⟨by omega, by omega⟩, bothR_bool (fun h2 => bothR_nbool (fun h3 => bad _ ?_ ?_) fun h3 => good (.mk k 0 false [rdT N (cutP s [40]), rdT N m]) _ ?_) fun h2 => bad _ ?_ ?_⟩
      · simp only [rdF, rdB_eq, rdR_eq, rdT_eq, hU, hI, hQ, hB, hP, h1, h2, h3, hop, if_true, Bool.false_eq_true, if_false]
      · rw [cutP_no h3]
        simp only [pdF, hQ, hB, hP, h1, h2, hop, if_true, Bool.false_eq_true, if_false]
      · simp only [rdF, rdB_eq, rdR_eq, rdT_eq, hU, hI, hQ, hB, hP, h1, h2, h3, hop, if_true, Bool.false_eq_true, if_false]
      · simp only [rdF, rdB_eq, rdR_eq, rdT_eq, hU, hI, hQ, hB, hP, h1, h2, hop, if_true, Bool.false_eq_true, if_false]
      · simp only [pdF, hQ, hB, hP, h1, h2, hop, if_true, Bool.false_eq_true, if_false]
    simp only [encD, tk_mk, tn_mk, tb_mk, tl_mk, encL_two] at br
    generalize hR : rdR N (cutP s [40]) = R at *
    refine bothR_bool (fun g1 => br 2 _ ?_) fun g1 => ?_
    · simp only [opF, g1, if_true]
    rw [cutP_no g1]
    refine bothR_bool (fun g2 => br 3 _ ?_) fun g2 => ?_
    · simp only [opF, g1, g2, if_true, Bool.false_eq_true, if_false]
    rw [cutP_no g2]
    refine bothR_bool (fun g3 => br 5 _ ?_) fun g3 => ?_
    · simp only [opF, g1, g2, g3, if_true, Bool.false_eq_true, if_false]
    rw [cutP_no g3]
    refine bad _ ?_ ?_
    · simp only [rdF, rdB_eq, rdR_eq, rdT_eq, hR, opF, hU, hI, hQ, hB, hP, h1, g1, g2, g3, if_true, Bool.false_eq_true, if_false]
    · simp only [pdF, rdB_eq, rdR_eq, hR, opF, hQ, hB, hP, h1, g1, g2, g3, if_true, Bool.false_eq_true, if_false]

end Go.Proofs.YtnmolpkkemljoaaGreatDoor
end
namespace Kd
open Go Go.Am Go.Proofs.YtnmolpkkemljoaaGreatDoor
/-- What Parse hands back. -/
def parE (s : List UInt8) : Int := if 1000 < s.length then 3 else if rdB 1300 s = true ∧ rdR 1300 s = [] then (if validB (rdT 1300 s) = true then 0 else 9) else 8
def parT (s : List UInt8) : Ty := if parE s = 0 then rdT 1300 s else zeroT
end Kd
noncomputable section
namespace Go.Proofs.YtnmolpkkemljoaaGreatDoor
open Go Go.Am Kd
def parV (s : List UInt8) : AV := .tup [encD (parT s), .int .i64 (parE s)]

theorem par_cases (s : List UInt8) : (1000 < s.length ∧ parE s = 3 ∧ parT s = zeroT) ∨ (s.length ≤ 1000 ∧ ¬ (rdB 1300 s = true ∧ rdR 1300 s = []) ∧ parE s = 8 ∧ parT s = zeroT) ∨
    (s.length ≤ 1000 ∧ rdB 1300 s = true ∧ rdR 1300 s = [] ∧ validB (rdT 1300 s) = false ∧ parE s = 9 ∧ parT s = zeroT) ∨ (s.length ≤ 1000 ∧ rdB 1300 s = true ∧ rdR 1300 s = [] ∧ validB (rdT 1300 s) = true ∧ parE s = 0 ∧ parT s = rdT 1300 s) := by
  by_cases h1 : 1000 < s.length
  · exact .inl ⟨h1, by simp [parE, h1], by simp [parT, parE, h1]⟩
  · by_cases h2 : rdB 1300 s = true ∧ rdR 1300 s = []
    · cases h3 : validB (rdT 1300 s) with
      | false => exact .inr (.inr (.inl ⟨by omega, h2.1, h2.2, rfl, by simp [parE, h1, h2, h3], by simp [parT, parE, h1, h2, h3]⟩))
      | true => exact .inr (.inr (.inr ⟨by omega, h2.1, h2.2, rfl, by simp [parE, h1, h2, h3], by simp [parT, parE, h1, h2, h3]⟩))
    · exact .inr (.inl ⟨by omega, h2, by simp [parE, h1, h2], by simp [parT, parE, h1, h2]⟩)

theorem kpar_ok (s : List UInt8) : QT 24 [.str s] (parV s) := by
  have hh : Hooks.Ok Tryz.prog gT paHk := mkHooks_ok (all_cons valid_hook.lift all_nil) (all_cons (ty_hook (kty_ok 1300)) all_nil) all_nil
  refine QT.by (hk := paHk) rfl (by simp [parV, AV.still, AV.stillL, encD_still]) hh ?_
  unfold parV
  rw [pa_top]
  simp only [iC, ex_enc, Ty.eta]
  rcases par_cases s with ⟨h1, h2, h3⟩ | ⟨h1, h0, h2, h3⟩ | ⟨h1, hb, hr, hv, h2, h3⟩ | ⟨h1, hb, hr, hv, h2, h3⟩
  · rw [h2, h3]
    exact bothR_ndec (fun _ => rfl) fun h => by omega
  · rw [h2, h3]
    refine bothR_ndec (fun h => absurd (by omega) h) fun _ => ⟨⟨by omega, by omega⟩, bothR_bool (fun hb => bothR_ndec (fun _ => rfl) fun hr => absurd ⟨hb, hr⟩ h0) fun _ => rfl⟩
  · rw [h2, h3]
    have hc := rd_cnt 1300 s hb
    refine bothR_ndec (fun h => absurd (by omega) h) fun _ => ⟨⟨by omega, by omega⟩, ?_⟩
    rw [hb, hv]
    exact bothR_ndec (fun h => absurd hr h) fun _ => ⟨by omega, rfl⟩
  · rw [h2, h3]
    have hc := rd_cnt 1300 s hb
    refine bothR_ndec (fun h => absurd (by omega) h) fun _ => ⟨⟨by omega, by omega⟩, ?_⟩
    rw [hb, hv]
    exact bothR_ndec (fun h => absurd hr h) fun _ => ⟨by omega, rfl⟩

end Go.Proofs.YtnmolpkkemljoaaGreatDoor
end
end

section
namespace Kd
open Go.Am
end Kd
noncomputable section
namespace Go.Proofs.YtnmolpkkemljoaaGreatDoor
open Go Go.Am Kd
def parQ : QSpec
  | [.str s], K => K (parV s)
  | _, _ => False
def gr1Q (t : Ty) : QSpec := fun args K => args.map (weakA 3) = [.isl false none 0 [encD t]] ∧ K (.bool (greatB t))
end Go.Proofs.YtnmolpkkemljoaaGreatDoor
end
end

section
noncomputable section
namespace Go.Proofs.YtnmolpkkemljoaaGreatDoor
open Go Go.Am Kd
/-- Known of this type alone. -/
def fix1Q (t : Ty) (v : AV) : QSpec := fun args K => args = [encD t] ∧ (cnt t ≤ 1000) ∧ K v
def sm2Q (t : Ty) : QSpec
  | [x, y], K => y = encD t ∧ argTy x fun u => (cnt u ≤ 1000 ∧ cnt t ≤ 1000) ∧ K (.bool (sameB u t))
  | _, _ => False
def textHk (t : Ty) : Hooks := hooks [(14, gr1Q t), (15, closed.aliveQ), (26, fix1Q t (.tup [.str (txtF t), .int .i64 (errF t)])), (27, fix1Q t (.int .i64 (checkN t))), (24, parQ), (23, sm2Q t)] [] []
end Go.Proofs.YtnmolpkkemljoaaGreatDoor
end
end

section
noncomputable section
namespace Go.Proofs.YtnmolpkkemljoaaGreatDoor
open Go Go.Am Kd
set_option maxRecDepth 100000

theorem text_top (t : Ty) (k : Int) : (runT (textHk t) 60 5 [encD t, .int .u16 k] AH.nil (retIs Tryz.prog 5 (.bool true))) = ( [AV.isl false none (0) [AV.agg [AV.int IntKind.i64 (Ty.kind t), AV.int IntKind.i64 (Ty.n t), AV.isl (Ty.nl t) none (0) (encL (Ty.l t))]]] = [AV.isl false none (0) [AV.agg [AV.int IntKind.i64 (Ty.kind t), AV.int IntKind.i64 (Ty.n t), AV.isl (Ty.nl t) none (0) (encL (Ty.l t))]]] ∧ bothR (greatB t) (AV.bool true = AV.bool true) ([AV.agg [AV.int IntKind.i64 (Ty.kind t), AV.int IntKind.i64 (Ty.n t), AV.isl (Ty.nl t) none (0) (encL (Ty.l t))]] =
 [AV.agg [AV.int IntKind.i64 (Ty.kind t), AV.int IntKind.i64 (Ty.n t), AV.isl (Ty.nl t) none (0) (encL (Ty.l t))]] ∧ cnt t ≤ 1000 ∧ [AV.agg [AV.int IntKind.i64 (Ty.kind t), AV.int IntKind.i64 (Ty.n t), AV.isl (Ty.nl t) none (0) (encL (Ty.l t))]] = [AV.agg [AV.int IntKind.i64 (Ty.kind t), AV.int IntKind.i64 (Ty.n t), AV.isl (Ty.nl t) none (0) (encL (Ty.l t))]] ∧ cnt t ≤ 1000 ∧ bothR (!decide (checkN t = (0 : Int))) (bothR (decide (errF t = (1 : Int))) (bothR (decide (txtF t = [])) (AV.bool true = AV.bool true) (AV.bool false = AV.bool true)) (AV.bool false = AV.bool true))
 (bothR (!decide (errF t = (0 : Int))) (AV.bool false = AV.bool true) (bothR (!decide (parE (txtF t) = (0 : Int))) (AV.bool false = AV.bool true) (AV.agg [AV.int IntKind.i64 (Ty.kind t), AV.int IntKind.i64 (Ty.n t), AV.isl (Ty.nl t) none (0) (encL (Ty.l t))] = AV.agg [AV.int IntKind.i64 (Ty.kind t), AV.int IntKind.i64 (Ty.n t), AV.isl (Ty.nl t) none (0) (encL (Ty.l t))] ∧ ∃ l, encL (Ty.l (parT (txtF t))) = encL l ∧ (cnt (Ty.mk (Ty.kind (parT (txtF t))) (Ty.n (parT (txtF t))) (Ty.nl (parT (txtF t))) l) ≤ 1000 ∧ cnt t ≤ 1000) ∧
 bothR (!sameB (Ty.mk (Ty.kind (parT (txtF t))) (Ty.n (parT (txtF t))) (Ty.nl (parT (txtF t))) l) t) (AV.bool false = AV.bool true) (bothR (decide (iC (List.length (txtF t)) = (0 : Int))) (AV.bool false = AV.bool true) (IntKind.i64 = IntKind.i64 ∧ iC (List.length (txtF t)) ≠ 0 ∧ 0 ≤ Int.tmod (IntKind.wrap IntKind.i64 k) (iC (List.length (txtF t))) ∧ (0 ≤ Int.toNat (Int.tmod (IntKind.wrap IntKind.i64 k) (iC (List.length (txtF t)))) ∧ Int.toNat (Int.tmod (IntKind.wrap IntKind.i64 k) (iC (List.length (txtF t)))) ≤ List.length (txtF t)) ∧
 0 ≤ IntKind.wrap IntKind.i64 (Int.tmod (IntKind.wrap IntKind.i64 k) (iC (List.length (txtF t))) + (1 : Int)) ∧ (Int.toNat (IntKind.wrap IntKind.i64 (Int.tmod (IntKind.wrap IntKind.i64 k) (iC (List.length (txtF t))) + (1 : Int))) ≤ List.length (txtF t) ∧ List.length (txtF t) ≤ List.length (txtF t)) ∧ iC (List.length (List.take (Int.toNat (Int.tmod (IntKind.wrap IntKind.i64 k) (iC (List.length (txtF t)))) - 0) (txtF t)) + List.length (List.take (List.length (txtF t) - Int.toNat (IntKind.wrap IntKind.i64 (Int.tmod (IntKind.wrap IntKind.i64 k) (iC (List.length (txtF t))) + (1 : Int)))) (List.drop
 (Int.toNat (IntKind.wrap IntKind.i64 (Int.tmod (IntKind.wrap IntKind.i64 k) (iC (List.length (txtF t))) + (1 : Int)))) (txtF t)))) ≤ 9223372036854775807 ∧ AV.str (txtF t) = AV.str (txtF t) ∧ AV.int IntKind.i64 (Int.tmod (IntKind.wrap IntKind.i64 k) (iC (List.length (txtF t)))) = AV.int IntKind.i64 (Int.tmod (IntKind.wrap IntKind.i64 k) (iC (List.length (txtF t)))) ∧ (0 ≤ Int.tmod (IntKind.wrap IntKind.i64 k) (iC (List.length (txtF t))) ∧ (0 ≤ Int.toNat (Int.tmod (IntKind.wrap IntKind.i64 k) (iC (List.length (txtF t)))) ∧
 Int.toNat (Int.tmod (IntKind.wrap IntKind.i64 k) (iC (List.length (txtF t)))) ≤ List.length (txtF t)) ∧ AV.str (List.take (Int.toNat (Int.tmod (IntKind.wrap IntKind.i64 k) (iC (List.length (txtF t)))) - 0) (txtF t)) = AV.str (List.take (Int.toNat (Int.tmod (IntKind.wrap IntKind.i64 k) (iC (List.length (txtF t)))) - 0) (txtF t))) ∧ AV.str (txtF t) = AV.str (txtF t) ∧ AV.int IntKind.i64 (Int.tmod (IntKind.wrap IntKind.i64 k) (iC (List.length (txtF t)))) = AV.int IntKind.i64 (Int.tmod (IntKind.wrap IntKind.i64 k) (iC (List.length (txtF t)))) ∧ AV.int IntKind.i64
 (IntKind.wrap IntKind.i64 (Int.tmod (IntKind.wrap IntKind.i64 k) (iC (List.length (txtF t))) + (1 : Int))) = AV.int IntKind.i64 (IntKind.wrap IntKind.i64 (Int.tmod (IntKind.wrap IntKind.i64 k) (iC (List.length (txtF t))) + (1 : Int))) ∧ (0 ≤ IntKind.wrap IntKind.i64 (Int.tmod (IntKind.wrap IntKind.i64 k) (iC (List.length (txtF t))) + (1 : Int)) ∧ (Int.toNat (IntKind.wrap IntKind.i64 (Int.tmod (IntKind.wrap IntKind.i64 k) (iC (List.length (txtF t))) + (1 : Int))) ≤ List.length (txtF t) ∧ List.length (txtF t) ≤ List.length (txtF t)) ∧ AV.str (List.take (List.length (txtF t) - Int.toNat
 (IntKind.wrap IntKind.i64 (Int.tmod (IntKind.wrap IntKind.i64 k) (iC (List.length (txtF t))) + (1 : Int)))) (List.drop (Int.toNat (IntKind.wrap IntKind.i64 (Int.tmod (IntKind.wrap IntKind.i64 k) (iC (List.length (txtF t))) + (1 : Int)))) (txtF t))) = AV.str (List.take (List.length (txtF t) - Int.toNat (IntKind.wrap IntKind.i64 (Int.tmod (IntKind.wrap IntKind.i64 k) (iC (List.length (txtF t))) + (1 : Int)))) (List.drop (Int.toNat (IntKind.wrap IntKind.i64 (Int.tmod (IntKind.wrap IntKind.i64 k) (iC (List.length (txtF t))) + (1 : Int)))) (txtF t)))) ∧ (iC (List.length
 (List.take (Int.toNat (Int.tmod (IntKind.wrap IntKind.i64 k) (iC (List.length (txtF t)))) - 0) (txtF t)) + List.length (List.take (List.length (txtF t) - Int.toNat (IntKind.wrap IntKind.i64 (Int.tmod (IntKind.wrap IntKind.i64 k) (iC (List.length (txtF t))) + (1 : Int)))) (List.drop (Int.toNat (IntKind.wrap IntKind.i64 (Int.tmod (IntKind.wrap IntKind.i64 k) (iC (List.length (txtF t))) + (1 : Int)))) (txtF t)))) ≤ 9223372036854775807 ∧ AV.str (List.take (Int.toNat (Int.tmod (IntKind.wrap IntKind.i64 k) (iC (List.length (txtF t)))) - 0) (txtF t) ++ List.take (List.length (txtF t) - Int.toNat
 (IntKind.wrap IntKind.i64 (Int.tmod (IntKind.wrap IntKind.i64 k) (iC (List.length (txtF t))) + (1 : Int)))) (List.drop (Int.toNat (IntKind.wrap IntKind.i64 (Int.tmod (IntKind.wrap IntKind.i64 k) (iC (List.length (txtF t))) + (1 : Int)))) (txtF t))) = AV.str (List.take (Int.toNat (Int.tmod (IntKind.wrap IntKind.i64 k) (iC (List.length (txtF t)))) - 0) (txtF t) ++ List.take (List.length (txtF t) - Int.toNat (IntKind.wrap IntKind.i64 (Int.tmod (IntKind.wrap IntKind.i64 k) (iC (List.length (txtF t))) + (1 : Int)))) (List.drop (Int.toNat (IntKind.wrap IntKind.i64
 (Int.tmod (IntKind.wrap IntKind.i64 k) (iC (List.length (txtF t))) + (1 : Int)))) (txtF t)))) ∧ AV.tup [AV.agg [AV.int IntKind.i64 (Ty.kind (parT (List.take (Int.toNat (Int.tmod (IntKind.wrap IntKind.i64 k) (iC (List.length (txtF t)))) - 0) (txtF t) ++ List.take (List.length (txtF t) - Int.toNat (IntKind.wrap IntKind.i64 (Int.tmod (IntKind.wrap IntKind.i64 k) (iC (List.length (txtF t))) + (1 : Int)))) (List.drop (Int.toNat (IntKind.wrap IntKind.i64 (Int.tmod (IntKind.wrap IntKind.i64 k) (iC (List.length (txtF t))) + (1 : Int)))) (txtF t))))), AV.int IntKind.i64 (Ty.n (parT
 (List.take (Int.toNat (Int.tmod (IntKind.wrap IntKind.i64 k) (iC (List.length (txtF t)))) - 0) (txtF t) ++ List.take (List.length (txtF t) - Int.toNat (IntKind.wrap IntKind.i64 (Int.tmod (IntKind.wrap IntKind.i64 k) (iC (List.length (txtF t))) + (1 : Int)))) (List.drop (Int.toNat (IntKind.wrap IntKind.i64 (Int.tmod (IntKind.wrap IntKind.i64 k) (iC (List.length (txtF t))) + (1 : Int)))) (txtF t))))), AV.isl (Ty.nl (parT (List.take (Int.toNat (Int.tmod (IntKind.wrap IntKind.i64 k) (iC (List.length (txtF t)))) - 0) (txtF t) ++ List.take (List.length (txtF t) - Int.toNat (IntKind.wrap IntKind.i64
 (Int.tmod (IntKind.wrap IntKind.i64 k) (iC (List.length (txtF t))) + (1 : Int)))) (List.drop (Int.toNat (IntKind.wrap IntKind.i64 (Int.tmod (IntKind.wrap IntKind.i64 k) (iC (List.length (txtF t))) + (1 : Int)))) (txtF t))))) none (0) (encL (Ty.l (parT (List.take (Int.toNat (Int.tmod (IntKind.wrap IntKind.i64 k) (iC (List.length (txtF t)))) - 0) (txtF t) ++ List.take (List.length (txtF t) - Int.toNat (IntKind.wrap IntKind.i64 (Int.tmod (IntKind.wrap IntKind.i64 k) (iC (List.length (txtF t))) + (1 : Int)))) (List.drop (Int.toNat (IntKind.wrap IntKind.i64
 (Int.tmod (IntKind.wrap IntKind.i64 k) (iC (List.length (txtF t))) + (1 : Int)))) (txtF t))))))], AV.int IntKind.i64 (parE (List.take (Int.toNat (Int.tmod (IntKind.wrap IntKind.i64 k) (iC (List.length (txtF t)))) - 0) (txtF t) ++ List.take (List.length (txtF t) - Int.toNat (IntKind.wrap IntKind.i64 (Int.tmod (IntKind.wrap IntKind.i64 k) (iC (List.length (txtF t))) + (1 : Int)))) (List.drop (Int.toNat (IntKind.wrap IntKind.i64 (Int.tmod (IntKind.wrap IntKind.i64 k) (iC (List.length (txtF t))) + (1 : Int)))) (txtF t))))] = AV.tup [AV.agg [AV.int IntKind.i64 (Ty.kind (parT
 (List.take (Int.toNat (Int.tmod (IntKind.wrap IntKind.i64 k) (iC (List.length (txtF t)))) - 0) (txtF t) ++ List.take (List.length (txtF t) - Int.toNat (IntKind.wrap IntKind.i64 (Int.tmod (IntKind.wrap IntKind.i64 k) (iC (List.length (txtF t))) + (1 : Int)))) (List.drop (Int.toNat (IntKind.wrap IntKind.i64 (Int.tmod (IntKind.wrap IntKind.i64 k) (iC (List.length (txtF t))) + (1 : Int)))) (txtF t))))), AV.int IntKind.i64 (Ty.n (parT (List.take (Int.toNat (Int.tmod (IntKind.wrap IntKind.i64 k) (iC (List.length (txtF t)))) - 0) (txtF t) ++ List.take (List.length (txtF t) - Int.toNat
 (IntKind.wrap IntKind.i64 (Int.tmod (IntKind.wrap IntKind.i64 k) (iC (List.length (txtF t))) + (1 : Int)))) (List.drop (Int.toNat (IntKind.wrap IntKind.i64 (Int.tmod (IntKind.wrap IntKind.i64 k) (iC (List.length (txtF t))) + (1 : Int)))) (txtF t))))), AV.isl (Ty.nl (parT (List.take (Int.toNat (Int.tmod (IntKind.wrap IntKind.i64 k) (iC (List.length (txtF t)))) - 0) (txtF t) ++ List.take (List.length (txtF t) - Int.toNat (IntKind.wrap IntKind.i64 (Int.tmod (IntKind.wrap IntKind.i64 k) (iC (List.length (txtF t))) + (1 : Int)))) (List.drop (Int.toNat (IntKind.wrap IntKind.i64
 (Int.tmod (IntKind.wrap IntKind.i64 k) (iC (List.length (txtF t))) + (1 : Int)))) (txtF t))))) none (0) (encL (Ty.l (parT (List.take (Int.toNat (Int.tmod (IntKind.wrap IntKind.i64 k) (iC (List.length (txtF t)))) - 0) (txtF t) ++ List.take (List.length (txtF t) - Int.toNat (IntKind.wrap IntKind.i64 (Int.tmod (IntKind.wrap IntKind.i64 k) (iC (List.length (txtF t))) + (1 : Int)))) (List.drop (Int.toNat (IntKind.wrap IntKind.i64 (Int.tmod (IntKind.wrap IntKind.i64 k) (iC (List.length (txtF t))) + (1 : Int)))) (txtF t))))))], AV.int IntKind.i64 (parE
 (List.take (Int.toNat (Int.tmod (IntKind.wrap IntKind.i64 k) (iC (List.length (txtF t)))) - 0) (txtF t) ++ List.take (List.length (txtF t) - Int.toNat (IntKind.wrap IntKind.i64 (Int.tmod (IntKind.wrap IntKind.i64 k) (iC (List.length (txtF t))) + (1 : Int)))) (List.drop (Int.toNat (IntKind.wrap IntKind.i64 (Int.tmod (IntKind.wrap IntKind.i64 k) (iC (List.length (txtF t))) + (1 : Int)))) (txtF t))))] ∧ AV.tup [AV.agg [AV.int IntKind.i64 (Ty.kind (parT (List.take (Int.toNat (Int.tmod (IntKind.wrap IntKind.i64 k) (iC (List.length (txtF t)))) - 0) (txtF t) ++ List.take (List.length (txtF t) -
 Int.toNat (IntKind.wrap IntKind.i64 (Int.tmod (IntKind.wrap IntKind.i64 k) (iC (List.length (txtF t))) + (1 : Int)))) (List.drop (Int.toNat (IntKind.wrap IntKind.i64 (Int.tmod (IntKind.wrap IntKind.i64 k) (iC (List.length (txtF t))) + (1 : Int)))) (txtF t))))), AV.int IntKind.i64 (Ty.n (parT (List.take (Int.toNat (Int.tmod (IntKind.wrap IntKind.i64 k) (iC (List.length (txtF t)))) - 0) (txtF t) ++ List.take (List.length (txtF t) - Int.toNat (IntKind.wrap IntKind.i64 (Int.tmod (IntKind.wrap IntKind.i64 k) (iC (List.length (txtF t))) + (1 : Int)))) (List.drop (Int.toNat (IntKind.wrap IntKind.i64
 (Int.tmod (IntKind.wrap IntKind.i64 k) (iC (List.length (txtF t))) + (1 : Int)))) (txtF t))))), AV.isl (Ty.nl (parT (List.take (Int.toNat (Int.tmod (IntKind.wrap IntKind.i64 k) (iC (List.length (txtF t)))) - 0) (txtF t) ++ List.take (List.length (txtF t) - Int.toNat (IntKind.wrap IntKind.i64 (Int.tmod (IntKind.wrap IntKind.i64 k) (iC (List.length (txtF t))) + (1 : Int)))) (List.drop (Int.toNat (IntKind.wrap IntKind.i64 (Int.tmod (IntKind.wrap IntKind.i64 k) (iC (List.length (txtF t))) + (1 : Int)))) (txtF t))))) none (0) (encL (Ty.l (parT (List.take
 (Int.toNat (Int.tmod (IntKind.wrap IntKind.i64 k) (iC (List.length (txtF t)))) - 0) (txtF t) ++ List.take (List.length (txtF t) - Int.toNat (IntKind.wrap IntKind.i64 (Int.tmod (IntKind.wrap IntKind.i64 k) (iC (List.length (txtF t))) + (1 : Int)))) (List.drop (Int.toNat (IntKind.wrap IntKind.i64 (Int.tmod (IntKind.wrap IntKind.i64 k) (iC (List.length (txtF t))) + (1 : Int)))) (txtF t))))))], AV.int IntKind.i64 (parE (List.take (Int.toNat (Int.tmod (IntKind.wrap IntKind.i64 k) (iC (List.length (txtF t)))) - 0) (txtF t) ++ List.take (List.length (txtF t) - Int.toNat (IntKind.wrap IntKind.i64
 (Int.tmod (IntKind.wrap IntKind.i64 k) (iC (List.length (txtF t))) + (1 : Int)))) (List.drop (Int.toNat (IntKind.wrap IntKind.i64 (Int.tmod (IntKind.wrap IntKind.i64 k) (iC (List.length (txtF t))) + (1 : Int)))) (txtF t))))] = AV.tup [AV.agg [AV.int IntKind.i64 (Ty.kind (parT (List.take (Int.toNat (Int.tmod (IntKind.wrap IntKind.i64 k) (iC (List.length (txtF t)))) - 0) (txtF t) ++ List.take (List.length (txtF t) - Int.toNat (IntKind.wrap IntKind.i64 (Int.tmod (IntKind.wrap IntKind.i64 k) (iC (List.length (txtF t))) + (1 : Int)))) (List.drop (Int.toNat (IntKind.wrap IntKind.i64
 (Int.tmod (IntKind.wrap IntKind.i64 k) (iC (List.length (txtF t))) + (1 : Int)))) (txtF t))))), AV.int IntKind.i64 (Ty.n (parT (List.take (Int.toNat (Int.tmod (IntKind.wrap IntKind.i64 k) (iC (List.length (txtF t)))) - 0) (txtF t) ++ List.take (List.length (txtF t) - Int.toNat (IntKind.wrap IntKind.i64 (Int.tmod (IntKind.wrap IntKind.i64 k) (iC (List.length (txtF t))) + (1 : Int)))) (List.drop (Int.toNat (IntKind.wrap IntKind.i64 (Int.tmod (IntKind.wrap IntKind.i64 k) (iC (List.length (txtF t))) + (1 : Int)))) (txtF t))))), AV.isl (Ty.nl (parT
 (List.take (Int.toNat (Int.tmod (IntKind.wrap IntKind.i64 k) (iC (List.length (txtF t)))) - 0) (txtF t) ++ List.take (List.length (txtF t) - Int.toNat (IntKind.wrap IntKind.i64 (Int.tmod (IntKind.wrap IntKind.i64 k) (iC (List.length (txtF t))) + (1 : Int)))) (List.drop (Int.toNat (IntKind.wrap IntKind.i64 (Int.tmod (IntKind.wrap IntKind.i64 k) (iC (List.length (txtF t))) + (1 : Int)))) (txtF t))))) none (0) (encL (Ty.l (parT (List.take (Int.toNat (Int.tmod (IntKind.wrap IntKind.i64 k) (iC (List.length (txtF t)))) - 0) (txtF t) ++ List.take (List.length (txtF t) - Int.toNat
 (IntKind.wrap IntKind.i64 (Int.tmod (IntKind.wrap IntKind.i64 k) (iC (List.length (txtF t))) + (1 : Int)))) (List.drop (Int.toNat (IntKind.wrap IntKind.i64 (Int.tmod (IntKind.wrap IntKind.i64 k) (iC (List.length (txtF t))) + (1 : Int)))) (txtF t))))))], AV.int IntKind.i64 (parE (List.take (Int.toNat (Int.tmod (IntKind.wrap IntKind.i64 k) (iC (List.length (txtF t)))) - 0) (txtF t) ++ List.take (List.length (txtF t) - Int.toNat (IntKind.wrap IntKind.i64 (Int.tmod (IntKind.wrap IntKind.i64 k) (iC (List.length (txtF t))) + (1 : Int)))) (List.drop (Int.toNat (IntKind.wrap IntKind.i64
 (Int.tmod (IntKind.wrap IntKind.i64 k) (iC (List.length (txtF t))) + (1 : Int)))) (txtF t))))] ∧ AV.agg [AV.int IntKind.i64 (Ty.kind (parT (List.take (Int.toNat (Int.tmod (IntKind.wrap IntKind.i64 k) (iC (List.length (txtF t)))) - 0) (txtF t) ++ List.take (List.length (txtF t) - Int.toNat (IntKind.wrap IntKind.i64 (Int.tmod (IntKind.wrap IntKind.i64 k) (iC (List.length (txtF t))) + (1 : Int)))) (List.drop (Int.toNat (IntKind.wrap IntKind.i64 (Int.tmod (IntKind.wrap IntKind.i64 k) (iC (List.length (txtF t))) + (1 : Int)))) (txtF t))))), AV.int IntKind.i64 (Ty.n (parT
 (List.take (Int.toNat (Int.tmod (IntKind.wrap IntKind.i64 k) (iC (List.length (txtF t)))) - 0) (txtF t) ++ List.take (List.length (txtF t) - Int.toNat (IntKind.wrap IntKind.i64 (Int.tmod (IntKind.wrap IntKind.i64 k) (iC (List.length (txtF t))) + (1 : Int)))) (List.drop (Int.toNat (IntKind.wrap IntKind.i64 (Int.tmod (IntKind.wrap IntKind.i64 k) (iC (List.length (txtF t))) + (1 : Int)))) (txtF t))))), AV.isl (Ty.nl (parT (List.take (Int.toNat (Int.tmod (IntKind.wrap IntKind.i64 k) (iC (List.length (txtF t)))) - 0) (txtF t) ++ List.take (List.length (txtF t) - Int.toNat (IntKind.wrap IntKind.i64
 (Int.tmod (IntKind.wrap IntKind.i64 k) (iC (List.length (txtF t))) + (1 : Int)))) (List.drop (Int.toNat (IntKind.wrap IntKind.i64 (Int.tmod (IntKind.wrap IntKind.i64 k) (iC (List.length (txtF t))) + (1 : Int)))) (txtF t))))) none (0) (encL (Ty.l (parT (List.take (Int.toNat (Int.tmod (IntKind.wrap IntKind.i64 k) (iC (List.length (txtF t)))) - 0) (txtF t) ++ List.take (List.length (txtF t) - Int.toNat (IntKind.wrap IntKind.i64 (Int.tmod (IntKind.wrap IntKind.i64 k) (iC (List.length (txtF t))) + (1 : Int)))) (List.drop (Int.toNat (IntKind.wrap IntKind.i64
 (Int.tmod (IntKind.wrap IntKind.i64 k) (iC (List.length (txtF t))) + (1 : Int)))) (txtF t))))))] = AV.agg [AV.int IntKind.i64 (Ty.kind (parT (List.take (Int.toNat (Int.tmod (IntKind.wrap IntKind.i64 k) (iC (List.length (txtF t)))) - 0) (txtF t) ++ List.take (List.length (txtF t) - Int.toNat (IntKind.wrap IntKind.i64 (Int.tmod (IntKind.wrap IntKind.i64 k) (iC (List.length (txtF t))) + (1 : Int)))) (List.drop (Int.toNat (IntKind.wrap IntKind.i64 (Int.tmod (IntKind.wrap IntKind.i64 k) (iC (List.length (txtF t))) + (1 : Int)))) (txtF t))))), AV.int IntKind.i64 (Ty.n (parT
 (List.take (Int.toNat (Int.tmod (IntKind.wrap IntKind.i64 k) (iC (List.length (txtF t)))) - 0) (txtF t) ++ List.take (List.length (txtF t) - Int.toNat (IntKind.wrap IntKind.i64 (Int.tmod (IntKind.wrap IntKind.i64 k) (iC (List.length (txtF t))) + (1 : Int)))) (List.drop (Int.toNat (IntKind.wrap IntKind.i64 (Int.tmod (IntKind.wrap IntKind.i64 k) (iC (List.length (txtF t))) + (1 : Int)))) (txtF t))))), AV.isl (Ty.nl (parT (List.take (Int.toNat (Int.tmod (IntKind.wrap IntKind.i64 k) (iC (List.length (txtF t)))) - 0) (txtF t) ++ List.take (List.length (txtF t) - Int.toNat (IntKind.wrap IntKind.i64
 (Int.tmod (IntKind.wrap IntKind.i64 k) (iC (List.length (txtF t))) + (1 : Int)))) (List.drop (Int.toNat (IntKind.wrap IntKind.i64 (Int.tmod (IntKind.wrap IntKind.i64 k) (iC (List.length (txtF t))) + (1 : Int)))) (txtF t))))) none (0) (encL (Ty.l (parT (List.take (Int.toNat (Int.tmod (IntKind.wrap IntKind.i64 k) (iC (List.length (txtF t)))) - 0) (txtF t) ++ List.take (List.length (txtF t) - Int.toNat (IntKind.wrap IntKind.i64 (Int.tmod (IntKind.wrap IntKind.i64 k) (iC (List.length (txtF t))) + (1 : Int)))) (List.drop (Int.toNat (IntKind.wrap IntKind.i64
 (Int.tmod (IntKind.wrap IntKind.i64 k) (iC (List.length (txtF t))) + (1 : Int)))) (txtF t))))))] ∧ AV.int IntKind.i64 (parE (List.take (Int.toNat (Int.tmod (IntKind.wrap IntKind.i64 k) (iC (List.length (txtF t)))) - 0) (txtF t) ++ List.take (List.length (txtF t) - Int.toNat (IntKind.wrap IntKind.i64 (Int.tmod (IntKind.wrap IntKind.i64 k) (iC (List.length (txtF t))) + (1 : Int)))) (List.drop (Int.toNat (IntKind.wrap IntKind.i64 (Int.tmod (IntKind.wrap IntKind.i64 k) (iC (List.length (txtF t))) + (1 : Int)))) (txtF t)))) = AV.int IntKind.i64 (parE
 (List.take (Int.toNat (Int.tmod (IntKind.wrap IntKind.i64 k) (iC (List.length (txtF t)))) - 0) (txtF t) ++ List.take (List.length (txtF t) - Int.toNat (IntKind.wrap IntKind.i64 (Int.tmod (IntKind.wrap IntKind.i64 k) (iC (List.length (txtF t))) + (1 : Int)))) (List.drop (Int.toNat (IntKind.wrap IntKind.i64 (Int.tmod (IntKind.wrap IntKind.i64 k) (iC (List.length (txtF t))) + (1 : Int)))) (txtF t)))) ∧ AV.int IntKind.i64 (parE (List.take (Int.toNat (Int.tmod (IntKind.wrap IntKind.i64 k) (iC (List.length (txtF t)))) - 0) (txtF t) ++ List.take (List.length (txtF t) - Int.toNat
 (IntKind.wrap IntKind.i64 (Int.tmod (IntKind.wrap IntKind.i64 k) (iC (List.length (txtF t))) + (1 : Int)))) (List.drop (Int.toNat (IntKind.wrap IntKind.i64 (Int.tmod (IntKind.wrap IntKind.i64 k) (iC (List.length (txtF t))) + (1 : Int)))) (txtF t)))) = AV.int IntKind.i64 (parE (List.take (Int.toNat (Int.tmod (IntKind.wrap IntKind.i64 k) (iC (List.length (txtF t)))) - 0) (txtF t) ++ List.take (List.length (txtF t) - Int.toNat (IntKind.wrap IntKind.i64 (Int.tmod (IntKind.wrap IntKind.i64 k) (iC (List.length (txtF t))) + (1 : Int)))) (List.drop (Int.toNat (IntKind.wrap IntKind.i64
 (Int.tmod (IntKind.wrap IntKind.i64 k) (iC (List.length (txtF t))) + (1 : Int)))) (txtF t)))) ∧ 0 ≤ Int.tmod (IntKind.wrap IntKind.i64 k) (iC (List.length (txtF t))) ∧ (0 ≤ Int.toNat (Int.tmod (IntKind.wrap IntKind.i64 k) (iC (List.length (txtF t)))) ∧ Int.toNat (Int.tmod (IntKind.wrap IntKind.i64 k) (iC (List.length (txtF t)))) ≤ List.length (txtF t)) ∧ iC (List.length (List.take (Int.toNat (Int.tmod (IntKind.wrap IntKind.i64 k) (iC (List.length (txtF t)))) - 0) (txtF t)) + 1) ≤ 9223372036854775807 ∧ 0 ≤ Int.tmod (IntKind.wrap IntKind.i64 k) (iC (List.length (txtF t))) ∧
 (Int.toNat (Int.tmod (IntKind.wrap IntKind.i64 k) (iC (List.length (txtF t)))) ≤ List.length (txtF t) ∧ List.length (txtF t) ≤ List.length (txtF t)) ∧ iC (List.length (List.take (Int.toNat (Int.tmod (IntKind.wrap IntKind.i64 k) (iC (List.length (txtF t)))) - 0) (txtF t) ++ [32]) + List.length (List.take (List.length (txtF t) - Int.toNat (Int.tmod (IntKind.wrap IntKind.i64 k) (iC (List.length (txtF t))))) (List.drop (Int.toNat (Int.tmod (IntKind.wrap IntKind.i64 k) (iC (List.length (txtF t))))) (txtF t)))) ≤ 9223372036854775807 ∧ AV.str (txtF t) = AV.str (txtF t) ∧
 AV.int IntKind.i64 (Int.tmod (IntKind.wrap IntKind.i64 k) (iC (List.length (txtF t)))) = AV.int IntKind.i64 (Int.tmod (IntKind.wrap IntKind.i64 k) (iC (List.length (txtF t)))) ∧ (0 ≤ Int.tmod (IntKind.wrap IntKind.i64 k) (iC (List.length (txtF t))) ∧ (0 ≤ Int.toNat (Int.tmod (IntKind.wrap IntKind.i64 k) (iC (List.length (txtF t)))) ∧ Int.toNat (Int.tmod (IntKind.wrap IntKind.i64 k) (iC (List.length (txtF t)))) ≤ List.length (txtF t)) ∧ AV.str (List.take (Int.toNat (Int.tmod (IntKind.wrap IntKind.i64 k) (iC (List.length (txtF t)))) - 0) (txtF t)) = AV.str (List.take (Int.toNat
 (Int.tmod (IntKind.wrap IntKind.i64 k) (iC (List.length (txtF t)))) - 0) (txtF t))) ∧ (iC (List.length (List.take (Int.toNat (Int.tmod (IntKind.wrap IntKind.i64 k) (iC (List.length (txtF t)))) - 0) (txtF t)) + 1) ≤ 9223372036854775807 ∧ AV.str (List.take (Int.toNat (Int.tmod (IntKind.wrap IntKind.i64 k) (iC (List.length (txtF t)))) - 0) (txtF t) ++ [32]) = AV.str (List.take (Int.toNat (Int.tmod (IntKind.wrap IntKind.i64 k) (iC (List.length (txtF t)))) - 0) (txtF t) ++ [32])) ∧ AV.str (txtF t) = AV.str (txtF t) ∧ AV.int IntKind.i64
 (Int.tmod (IntKind.wrap IntKind.i64 k) (iC (List.length (txtF t)))) = AV.int IntKind.i64 (Int.tmod (IntKind.wrap IntKind.i64 k) (iC (List.length (txtF t)))) ∧ (0 ≤ Int.tmod (IntKind.wrap IntKind.i64 k) (iC (List.length (txtF t))) ∧ (Int.toNat (Int.tmod (IntKind.wrap IntKind.i64 k) (iC (List.length (txtF t)))) ≤ List.length (txtF t) ∧ List.length (txtF t) ≤ List.length (txtF t)) ∧ AV.str (List.take (List.length (txtF t) - Int.toNat (Int.tmod (IntKind.wrap IntKind.i64 k) (iC (List.length (txtF t))))) (List.drop (Int.toNat (Int.tmod (IntKind.wrap IntKind.i64 k) (iC (List.length (txtF t)))))
 (txtF t))) = AV.str (List.take (List.length (txtF t) - Int.toNat (Int.tmod (IntKind.wrap IntKind.i64 k) (iC (List.length (txtF t))))) (List.drop (Int.toNat (Int.tmod (IntKind.wrap IntKind.i64 k) (iC (List.length (txtF t))))) (txtF t)))) ∧ (iC (List.length (List.take (Int.toNat (Int.tmod (IntKind.wrap IntKind.i64 k) (iC (List.length (txtF t)))) - 0) (txtF t) ++ [32]) + List.length (List.take (List.length (txtF t) - Int.toNat (Int.tmod (IntKind.wrap IntKind.i64 k) (iC (List.length (txtF t))))) (List.drop (Int.toNat (Int.tmod (IntKind.wrap IntKind.i64 k) (iC (List.length (txtF t)))))
 (txtF t)))) ≤ 9223372036854775807 ∧ AV.str (List.take (Int.toNat (Int.tmod (IntKind.wrap IntKind.i64 k) (iC (List.length (txtF t)))) - 0) (txtF t) ++ [32] ++ List.take (List.length (txtF t) - Int.toNat (Int.tmod (IntKind.wrap IntKind.i64 k) (iC (List.length (txtF t))))) (List.drop (Int.toNat (Int.tmod (IntKind.wrap IntKind.i64 k) (iC (List.length (txtF t))))) (txtF t))) = AV.str (List.take (Int.toNat (Int.tmod (IntKind.wrap IntKind.i64 k) (iC (List.length (txtF t)))) - 0) (txtF t) ++ [32] ++ List.take (List.length (txtF t) - Int.toNat (Int.tmod (IntKind.wrap IntKind.i64 k)
 (iC (List.length (txtF t))))) (List.drop (Int.toNat (Int.tmod (IntKind.wrap IntKind.i64 k) (iC (List.length (txtF t))))) (txtF t)))) ∧ AV.tup [AV.agg [AV.int IntKind.i64 (Ty.kind (parT (List.take (Int.toNat (Int.tmod (IntKind.wrap IntKind.i64 k) (iC (List.length (txtF t)))) - 0) (txtF t) ++ [32] ++ List.take (List.length (txtF t) - Int.toNat (Int.tmod (IntKind.wrap IntKind.i64 k) (iC (List.length (txtF t))))) (List.drop (Int.toNat (Int.tmod (IntKind.wrap IntKind.i64 k) (iC (List.length (txtF t))))) (txtF t))))), AV.int IntKind.i64 (Ty.n (parT (List.take (Int.toNat
 (Int.tmod (IntKind.wrap IntKind.i64 k) (iC (List.length (txtF t)))) - 0) (txtF t) ++ [32] ++ List.take (List.length (txtF t) - Int.toNat (Int.tmod (IntKind.wrap IntKind.i64 k) (iC (List.length (txtF t))))) (List.drop (Int.toNat (Int.tmod (IntKind.wrap IntKind.i64 k) (iC (List.length (txtF t))))) (txtF t))))), AV.isl (Ty.nl (parT (List.take (Int.toNat (Int.tmod (IntKind.wrap IntKind.i64 k) (iC (List.length (txtF t)))) - 0) (txtF t) ++ [32] ++ List.take (List.length (txtF t) - Int.toNat (Int.tmod (IntKind.wrap IntKind.i64 k) (iC (List.length (txtF t))))) (List.drop (Int.toNat
 (Int.tmod (IntKind.wrap IntKind.i64 k) (iC (List.length (txtF t))))) (txtF t))))) none (0) (encL (Ty.l (parT (List.take (Int.toNat (Int.tmod (IntKind.wrap IntKind.i64 k) (iC (List.length (txtF t)))) - 0) (txtF t) ++ [32] ++ List.take (List.length (txtF t) - Int.toNat (Int.tmod (IntKind.wrap IntKind.i64 k) (iC (List.length (txtF t))))) (List.drop (Int.toNat (Int.tmod (IntKind.wrap IntKind.i64 k) (iC (List.length (txtF t))))) (txtF t))))))], AV.int IntKind.i64 (parE (List.take (Int.toNat (Int.tmod (IntKind.wrap IntKind.i64 k) (iC (List.length (txtF t)))) - 0) (txtF t) ++ [32] ++ List.take
 (List.length (txtF t) - Int.toNat (Int.tmod (IntKind.wrap IntKind.i64 k) (iC (List.length (txtF t))))) (List.drop (Int.toNat (Int.tmod (IntKind.wrap IntKind.i64 k) (iC (List.length (txtF t))))) (txtF t))))] = AV.tup [AV.agg [AV.int IntKind.i64 (Ty.kind (parT (List.take (Int.toNat (Int.tmod (IntKind.wrap IntKind.i64 k) (iC (List.length (txtF t)))) - 0) (txtF t) ++ [32] ++ List.take (List.length (txtF t) - Int.toNat (Int.tmod (IntKind.wrap IntKind.i64 k) (iC (List.length (txtF t))))) (List.drop (Int.toNat (Int.tmod (IntKind.wrap IntKind.i64 k) (iC (List.length (txtF t))))) (txtF t))))),
 AV.int IntKind.i64 (Ty.n (parT (List.take (Int.toNat (Int.tmod (IntKind.wrap IntKind.i64 k) (iC (List.length (txtF t)))) - 0) (txtF t) ++ [32] ++ List.take (List.length (txtF t) - Int.toNat (Int.tmod (IntKind.wrap IntKind.i64 k) (iC (List.length (txtF t))))) (List.drop (Int.toNat (Int.tmod (IntKind.wrap IntKind.i64 k) (iC (List.length (txtF t))))) (txtF t))))), AV.isl (Ty.nl (parT (List.take (Int.toNat (Int.tmod (IntKind.wrap IntKind.i64 k) (iC (List.length (txtF t)))) - 0) (txtF t) ++ [32] ++ List.take (List.length (txtF t) - Int.toNat (Int.tmod (IntKind.wrap IntKind.i64 k)
 (iC (List.length (txtF t))))) (List.drop (Int.toNat (Int.tmod (IntKind.wrap IntKind.i64 k) (iC (List.length (txtF t))))) (txtF t))))) none (0) (encL (Ty.l (parT (List.take (Int.toNat (Int.tmod (IntKind.wrap IntKind.i64 k) (iC (List.length (txtF t)))) - 0) (txtF t) ++ [32] ++ List.take (List.length (txtF t) - Int.toNat (Int.tmod (IntKind.wrap IntKind.i64 k) (iC (List.length (txtF t))))) (List.drop (Int.toNat (Int.tmod (IntKind.wrap IntKind.i64 k) (iC (List.length (txtF t))))) (txtF t))))))], AV.int IntKind.i64 (parE (List.take (Int.toNat (Int.tmod (IntKind.wrap IntKind.i64 k)
 (iC (List.length (txtF t)))) - 0) (txtF t) ++ [32] ++ List.take (List.length (txtF t) - Int.toNat (Int.tmod (IntKind.wrap IntKind.i64 k) (iC (List.length (txtF t))))) (List.drop (Int.toNat (Int.tmod (IntKind.wrap IntKind.i64 k) (iC (List.length (txtF t))))) (txtF t))))] ∧ AV.tup [AV.agg [AV.int IntKind.i64 (Ty.kind (parT (List.take (Int.toNat (Int.tmod (IntKind.wrap IntKind.i64 k) (iC (List.length (txtF t)))) - 0) (txtF t) ++ [32] ++ List.take (List.length (txtF t) - Int.toNat (Int.tmod (IntKind.wrap IntKind.i64 k) (iC (List.length (txtF t))))) (List.drop (Int.toNat
 (Int.tmod (IntKind.wrap IntKind.i64 k) (iC (List.length (txtF t))))) (txtF t))))), AV.int IntKind.i64 (Ty.n (parT (List.take (Int.toNat (Int.tmod (IntKind.wrap IntKind.i64 k) (iC (List.length (txtF t)))) - 0) (txtF t) ++ [32] ++ List.take (List.length (txtF t) - Int.toNat (Int.tmod (IntKind.wrap IntKind.i64 k) (iC (List.length (txtF t))))) (List.drop (Int.toNat (Int.tmod (IntKind.wrap IntKind.i64 k) (iC (List.length (txtF t))))) (txtF t))))), AV.isl (Ty.nl (parT (List.take (Int.toNat (Int.tmod (IntKind.wrap IntKind.i64 k) (iC (List.length (txtF t)))) - 0) (txtF t) ++ [32] ++ List.take
 (List.length (txtF t) - Int.toNat (Int.tmod (IntKind.wrap IntKind.i64 k) (iC (List.length (txtF t))))) (List.drop (Int.toNat (Int.tmod (IntKind.wrap IntKind.i64 k) (iC (List.length (txtF t))))) (txtF t))))) none (0) (encL (Ty.l (parT (List.take (Int.toNat (Int.tmod (IntKind.wrap IntKind.i64 k) (iC (List.length (txtF t)))) - 0) (txtF t) ++ [32] ++ List.take (List.length (txtF t) - Int.toNat (Int.tmod (IntKind.wrap IntKind.i64 k) (iC (List.length (txtF t))))) (List.drop (Int.toNat (Int.tmod (IntKind.wrap IntKind.i64 k) (iC (List.length (txtF t))))) (txtF t))))))], AV.int IntKind.i64 (parE
 (List.take (Int.toNat (Int.tmod (IntKind.wrap IntKind.i64 k) (iC (List.length (txtF t)))) - 0) (txtF t) ++ [32] ++ List.take (List.length (txtF t) - Int.toNat (Int.tmod (IntKind.wrap IntKind.i64 k) (iC (List.length (txtF t))))) (List.drop (Int.toNat (Int.tmod (IntKind.wrap IntKind.i64 k) (iC (List.length (txtF t))))) (txtF t))))] = AV.tup [AV.agg [AV.int IntKind.i64 (Ty.kind (parT (List.take (Int.toNat (Int.tmod (IntKind.wrap IntKind.i64 k) (iC (List.length (txtF t)))) - 0) (txtF t) ++ [32] ++ List.take (List.length (txtF t) - Int.toNat (Int.tmod (IntKind.wrap IntKind.i64 k)
 (iC (List.length (txtF t))))) (List.drop (Int.toNat (Int.tmod (IntKind.wrap IntKind.i64 k) (iC (List.length (txtF t))))) (txtF t))))), AV.int IntKind.i64 (Ty.n (parT (List.take (Int.toNat (Int.tmod (IntKind.wrap IntKind.i64 k) (iC (List.length (txtF t)))) - 0) (txtF t) ++ [32] ++ List.take (List.length (txtF t) - Int.toNat (Int.tmod (IntKind.wrap IntKind.i64 k) (iC (List.length (txtF t))))) (List.drop (Int.toNat (Int.tmod (IntKind.wrap IntKind.i64 k) (iC (List.length (txtF t))))) (txtF t))))), AV.isl (Ty.nl (parT (List.take (Int.toNat (Int.tmod (IntKind.wrap IntKind.i64 k)
 (iC (List.length (txtF t)))) - 0) (txtF t) ++ [32] ++ List.take (List.length (txtF t) - Int.toNat (Int.tmod (IntKind.wrap IntKind.i64 k) (iC (List.length (txtF t))))) (List.drop (Int.toNat (Int.tmod (IntKind.wrap IntKind.i64 k) (iC (List.length (txtF t))))) (txtF t))))) none (0) (encL (Ty.l (parT (List.take (Int.toNat (Int.tmod (IntKind.wrap IntKind.i64 k) (iC (List.length (txtF t)))) - 0) (txtF t) ++ [32] ++ List.take (List.length (txtF t) - Int.toNat (Int.tmod (IntKind.wrap IntKind.i64 k) (iC (List.length (txtF t))))) (List.drop (Int.toNat (Int.tmod (IntKind.wrap IntKind.i64 k)
 (iC (List.length (txtF t))))) (txtF t))))))], AV.int IntKind.i64 (parE (List.take (Int.toNat (Int.tmod (IntKind.wrap IntKind.i64 k) (iC (List.length (txtF t)))) - 0) (txtF t) ++ [32] ++ List.take (List.length (txtF t) - Int.toNat (Int.tmod (IntKind.wrap IntKind.i64 k) (iC (List.length (txtF t))))) (List.drop (Int.toNat (Int.tmod (IntKind.wrap IntKind.i64 k) (iC (List.length (txtF t))))) (txtF t))))] ∧ AV.agg [AV.int IntKind.i64 (Ty.kind (parT (List.take (Int.toNat (Int.tmod (IntKind.wrap IntKind.i64 k) (iC (List.length (txtF t)))) - 0) (txtF t) ++ [32] ++ List.take (List.length (txtF t) -
 Int.toNat (Int.tmod (IntKind.wrap IntKind.i64 k) (iC (List.length (txtF t))))) (List.drop (Int.toNat (Int.tmod (IntKind.wrap IntKind.i64 k) (iC (List.length (txtF t))))) (txtF t))))), AV.int IntKind.i64 (Ty.n (parT (List.take (Int.toNat (Int.tmod (IntKind.wrap IntKind.i64 k) (iC (List.length (txtF t)))) - 0) (txtF t) ++ [32] ++ List.take (List.length (txtF t) - Int.toNat (Int.tmod (IntKind.wrap IntKind.i64 k) (iC (List.length (txtF t))))) (List.drop (Int.toNat (Int.tmod (IntKind.wrap IntKind.i64 k) (iC (List.length (txtF t))))) (txtF t))))), AV.isl (Ty.nl (parT (List.take (Int.toNat
 (Int.tmod (IntKind.wrap IntKind.i64 k) (iC (List.length (txtF t)))) - 0) (txtF t) ++ [32] ++ List.take (List.length (txtF t) - Int.toNat (Int.tmod (IntKind.wrap IntKind.i64 k) (iC (List.length (txtF t))))) (List.drop (Int.toNat (Int.tmod (IntKind.wrap IntKind.i64 k) (iC (List.length (txtF t))))) (txtF t))))) none (0) (encL (Ty.l (parT (List.take (Int.toNat (Int.tmod (IntKind.wrap IntKind.i64 k) (iC (List.length (txtF t)))) - 0) (txtF t) ++ [32] ++ List.take (List.length (txtF t) - Int.toNat (Int.tmod (IntKind.wrap IntKind.i64 k) (iC (List.length (txtF t))))) (List.drop (Int.toNat
 (Int.tmod (IntKind.wrap IntKind.i64 k) (iC (List.length (txtF t))))) (txtF t))))))] = AV.agg [AV.int IntKind.i64 (Ty.kind (parT (List.take (Int.toNat (Int.tmod (IntKind.wrap IntKind.i64 k) (iC (List.length (txtF t)))) - 0) (txtF t) ++ [32] ++ List.take (List.length (txtF t) - Int.toNat (Int.tmod (IntKind.wrap IntKind.i64 k) (iC (List.length (txtF t))))) (List.drop (Int.toNat (Int.tmod (IntKind.wrap IntKind.i64 k) (iC (List.length (txtF t))))) (txtF t))))), AV.int IntKind.i64 (Ty.n (parT (List.take (Int.toNat (Int.tmod (IntKind.wrap IntKind.i64 k) (iC (List.length (txtF t)))) - 0) (txtF t) ++
 [32] ++ List.take (List.length (txtF t) - Int.toNat (Int.tmod (IntKind.wrap IntKind.i64 k) (iC (List.length (txtF t))))) (List.drop (Int.toNat (Int.tmod (IntKind.wrap IntKind.i64 k) (iC (List.length (txtF t))))) (txtF t))))), AV.isl (Ty.nl (parT (List.take (Int.toNat (Int.tmod (IntKind.wrap IntKind.i64 k) (iC (List.length (txtF t)))) - 0) (txtF t) ++ [32] ++ List.take (List.length (txtF t) - Int.toNat (Int.tmod (IntKind.wrap IntKind.i64 k) (iC (List.length (txtF t))))) (List.drop (Int.toNat (Int.tmod (IntKind.wrap IntKind.i64 k) (iC (List.length (txtF t))))) (txtF t))))) none (0) (encL (Ty.l
 (parT (List.take (Int.toNat (Int.tmod (IntKind.wrap IntKind.i64 k) (iC (List.length (txtF t)))) - 0) (txtF t) ++ [32] ++ List.take (List.length (txtF t) - Int.toNat (Int.tmod (IntKind.wrap IntKind.i64 k) (iC (List.length (txtF t))))) (List.drop (Int.toNat (Int.tmod (IntKind.wrap IntKind.i64 k) (iC (List.length (txtF t))))) (txtF t))))))] ∧ AV.int IntKind.i64 (parE (List.take (Int.toNat (Int.tmod (IntKind.wrap IntKind.i64 k) (iC (List.length (txtF t)))) - 0) (txtF t) ++ [32] ++ List.take (List.length (txtF t) - Int.toNat (Int.tmod (IntKind.wrap IntKind.i64 k) (iC (List.length (txtF t)))))
 (List.drop (Int.toNat (Int.tmod (IntKind.wrap IntKind.i64 k) (iC (List.length (txtF t))))) (txtF t)))) = AV.int IntKind.i64 (parE (List.take (Int.toNat (Int.tmod (IntKind.wrap IntKind.i64 k) (iC (List.length (txtF t)))) - 0) (txtF t) ++ [32] ++ List.take (List.length (txtF t) - Int.toNat (Int.tmod (IntKind.wrap IntKind.i64 k) (iC (List.length (txtF t))))) (List.drop (Int.toNat (Int.tmod (IntKind.wrap IntKind.i64 k) (iC (List.length (txtF t))))) (txtF t)))) ∧ AV.int IntKind.i64 (parE (List.take (Int.toNat (Int.tmod (IntKind.wrap IntKind.i64 k) (iC (List.length (txtF t)))) - 0) (txtF t) ++
 [32] ++ List.take (List.length (txtF t) - Int.toNat (Int.tmod (IntKind.wrap IntKind.i64 k) (iC (List.length (txtF t))))) (List.drop (Int.toNat (Int.tmod (IntKind.wrap IntKind.i64 k) (iC (List.length (txtF t))))) (txtF t)))) = AV.int IntKind.i64 (parE (List.take (Int.toNat (Int.tmod (IntKind.wrap IntKind.i64 k) (iC (List.length (txtF t)))) - 0) (txtF t) ++ [32] ++ List.take (List.length (txtF t) - Int.toNat (Int.tmod (IntKind.wrap IntKind.i64 k) (iC (List.length (txtF t))))) (List.drop (Int.toNat (Int.tmod (IntKind.wrap IntKind.i64 k) (iC (List.length (txtF t))))) (txtF t)))) ∧ 0 ≤
 Int.tmod (IntKind.wrap IntKind.i64 k) (iC (List.length (txtF t))) ∧ (0 ≤ Int.toNat (Int.tmod (IntKind.wrap IntKind.i64 k) (iC (List.length (txtF t)))) ∧ Int.toNat (Int.tmod (IntKind.wrap IntKind.i64 k) (iC (List.length (txtF t)))) ≤ List.length (txtF t)) ∧ bothR (!decide (parE (List.take (Int.toNat (Int.tmod (IntKind.wrap IntKind.i64 k) (iC (List.length (txtF t)))) - 0) (txtF t) ++ List.take (List.length (txtF t) - Int.toNat (IntKind.wrap IntKind.i64 (Int.tmod (IntKind.wrap IntKind.i64 k) (iC (List.length (txtF t))) + (1 : Int)))) (List.drop (Int.toNat (IntKind.wrap IntKind.i64
 (Int.tmod (IntKind.wrap IntKind.i64 k) (iC (List.length (txtF t))) + (1 : Int)))) (txtF t))) = (0 : Int))) (bothR (decide (parE (List.take (Int.toNat (Int.tmod (IntKind.wrap IntKind.i64 k) (iC (List.length (txtF t)))) - 0) (txtF t) ++ [32] ++ List.take (List.length (txtF t) - Int.toNat (Int.tmod (IntKind.wrap IntKind.i64 k) (iC (List.length (txtF t))))) (List.drop (Int.toNat (Int.tmod (IntKind.wrap IntKind.i64 k) (iC (List.length (txtF t))))) (txtF t))) = (8 : Int))) (bothR (!decide (parE (List.take (Int.toNat (Int.tmod (IntKind.wrap IntKind.i64 k) (iC (List.length (txtF t)))) - 0)
 (txtF t)) = (0 : Int))) (AV.bool true = AV.bool true) (bothR (decide ((0 : Int) < Int.tmod (IntKind.wrap IntKind.i64 k) (iC (List.length (txtF t))))) (AV.bool true = AV.bool true) (AV.bool false = AV.bool true))) (AV.bool false = AV.bool true)) (AV.agg [AV.int IntKind.i64 (Ty.kind t), AV.int IntKind.i64 (Ty.n t), AV.isl (Ty.nl t) none (0) (encL (Ty.l t))] = AV.agg [AV.int IntKind.i64 (Ty.kind t), AV.int IntKind.i64 (Ty.n t), AV.isl (Ty.nl t) none (0) (encL (Ty.l t))] ∧ ∃ l, encL (Ty.l (parT (List.take (Int.toNat (Int.tmod (IntKind.wrap IntKind.i64 k) (iC (List.length (txtF t)))) - 0)
 (txtF t) ++ List.take (List.length (txtF t) - Int.toNat (IntKind.wrap IntKind.i64 (Int.tmod (IntKind.wrap IntKind.i64 k) (iC (List.length (txtF t))) + (1 : Int)))) (List.drop (Int.toNat (IntKind.wrap IntKind.i64 (Int.tmod (IntKind.wrap IntKind.i64 k) (iC (List.length (txtF t))) + (1 : Int)))) (txtF t))))) = encL l ∧ (cnt (Ty.mk (Ty.kind (parT (List.take (Int.toNat (Int.tmod (IntKind.wrap IntKind.i64 k) (iC (List.length (txtF t)))) - 0) (txtF t) ++ List.take (List.length (txtF t) - Int.toNat (IntKind.wrap IntKind.i64 (Int.tmod (IntKind.wrap IntKind.i64 k) (iC (List.length (txtF t))) +
 (1 : Int)))) (List.drop (Int.toNat (IntKind.wrap IntKind.i64 (Int.tmod (IntKind.wrap IntKind.i64 k) (iC (List.length (txtF t))) + (1 : Int)))) (txtF t))))) (Ty.n (parT (List.take (Int.toNat (Int.tmod (IntKind.wrap IntKind.i64 k) (iC (List.length (txtF t)))) - 0) (txtF t) ++ List.take (List.length (txtF t) - Int.toNat (IntKind.wrap IntKind.i64 (Int.tmod (IntKind.wrap IntKind.i64 k) (iC (List.length (txtF t))) + (1 : Int)))) (List.drop (Int.toNat (IntKind.wrap IntKind.i64 (Int.tmod (IntKind.wrap IntKind.i64 k) (iC (List.length (txtF t))) + (1 : Int)))) (txtF t))))) (Ty.nl (parT (List.take
 (Int.toNat (Int.tmod (IntKind.wrap IntKind.i64 k) (iC (List.length (txtF t)))) - 0) (txtF t) ++ List.take (List.length (txtF t) - Int.toNat (IntKind.wrap IntKind.i64 (Int.tmod (IntKind.wrap IntKind.i64 k) (iC (List.length (txtF t))) + (1 : Int)))) (List.drop (Int.toNat (IntKind.wrap IntKind.i64 (Int.tmod (IntKind.wrap IntKind.i64 k) (iC (List.length (txtF t))) + (1 : Int)))) (txtF t))))) l) ≤ 1000 ∧ cnt t ≤ 1000) ∧ bothR (!sameB (Ty.mk (Ty.kind (parT (List.take (Int.toNat (Int.tmod (IntKind.wrap IntKind.i64 k) (iC (List.length (txtF t)))) - 0) (txtF t) ++ List.take (List.length (txtF t) -
 Int.toNat (IntKind.wrap IntKind.i64 (Int.tmod (IntKind.wrap IntKind.i64 k) (iC (List.length (txtF t))) + (1 : Int)))) (List.drop (Int.toNat (IntKind.wrap IntKind.i64 (Int.tmod (IntKind.wrap IntKind.i64 k) (iC (List.length (txtF t))) + (1 : Int)))) (txtF t))))) (Ty.n (parT (List.take (Int.toNat (Int.tmod (IntKind.wrap IntKind.i64 k) (iC (List.length (txtF t)))) - 0) (txtF t) ++ List.take (List.length (txtF t) - Int.toNat (IntKind.wrap IntKind.i64 (Int.tmod (IntKind.wrap IntKind.i64 k) (iC (List.length (txtF t))) + (1 : Int)))) (List.drop (Int.toNat (IntKind.wrap IntKind.i64 (Int.tmod
 (IntKind.wrap IntKind.i64 k) (iC (List.length (txtF t))) + (1 : Int)))) (txtF t))))) (Ty.nl (parT (List.take (Int.toNat (Int.tmod (IntKind.wrap IntKind.i64 k) (iC (List.length (txtF t)))) - 0) (txtF t) ++ List.take (List.length (txtF t) - Int.toNat (IntKind.wrap IntKind.i64 (Int.tmod (IntKind.wrap IntKind.i64 k) (iC (List.length (txtF t))) + (1 : Int)))) (List.drop (Int.toNat (IntKind.wrap IntKind.i64 (Int.tmod (IntKind.wrap IntKind.i64 k) (iC (List.length (txtF t))) + (1 : Int)))) (txtF t))))) l) t) (bothR (decide (parE (List.take (Int.toNat (Int.tmod (IntKind.wrap IntKind.i64 k)
 (iC (List.length (txtF t)))) - 0) (txtF t) ++ [32] ++ List.take (List.length (txtF t) - Int.toNat (Int.tmod (IntKind.wrap IntKind.i64 k) (iC (List.length (txtF t))))) (List.drop (Int.toNat (Int.tmod (IntKind.wrap IntKind.i64 k) (iC (List.length (txtF t))))) (txtF t))) = (8 : Int))) (bothR (!decide (parE (List.take (Int.toNat (Int.tmod (IntKind.wrap IntKind.i64 k) (iC (List.length (txtF t)))) - 0) (txtF t)) = (0 : Int))) (AV.bool true = AV.bool true) (bothR (decide ((0 : Int) < Int.tmod (IntKind.wrap IntKind.i64 k) (iC (List.length (txtF t))))) (AV.bool true = AV.bool true)
 (AV.bool false = AV.bool true))) (AV.bool false = AV.bool true)) (AV.bool false = AV.bool true))))))))) := by kernel_rfl

end Go.Proofs.YtnmolpkkemljoaaGreatDoor
end
end

section
set_option maxRecDepth 100000
noncomputable section
namespace Go.Proofs.YtnmolpkkemljoaaGreatDoor
open Go Go.Am Kd

theorem kpar_hook : QSpec.Ok Tryz.prog gT 24 parQ := by
  intro args K h
  unfold parQ at h
  split at h
  · exact ⟨_, kpar_ok _, h⟩
  · exact h.elim
theorem par_cnt (s : List UInt8) : cnt (parT s) ≤ 1000 := by
  rcases par_cases s with ⟨h1, h2, h3⟩ | ⟨h1, h0, h2, h3⟩ | ⟨h1, hb, hr, hv, h2, h3⟩ | ⟨h1, hb, hr, hv, h2, h3⟩
  · rw [h3]; simp [zeroT, cnt, cntL]
  · rw [h3]; simp [zeroT, cnt, cntL]
  · rw [h3]; simp [zeroT, cnt, cntL]
  · rw [h3]; have := ((valid_eq _).1 hv).2.1; omega

end Go.Proofs.YtnmolpkkemljoaaGreatDoor
end
end

section
set_option maxRecDepth 100000
set_option linter.unusedSimpArgs false
set_option linter.unusedVariables false
namespace Kd
open Go Go.Am Go.Proofs.YtnmolpkkemljoaaGreatDoor

theorem hasP_app (p r : List UInt8) : hasP (p ++ r) p = true := hasP_iff.2 ⟨by simp, by simp⟩
theorem cutP_app (p r : List UInt8) : cutP (p ++ r) p = r := by rw [cutP_yes (hasP_app p r)]; simp
theorem hasP_eq {s p : List UInt8} (h : hasP s p = true) : s = p ++ cutP s p := by
  rw [cutP_yes h]
  have := (hasP_iff.1 h).2
  exact (List.take_append_drop p.length s).symm.trans (by rw [this])
theorem hasP_ne {x y : UInt8} {s q : List UInt8} (h : x ≠ y) : hasP (x :: s) (y :: q) = false := by
  cases hh : hasP (x :: s) (y :: q) with
  | false => rfl
  | true =>
    have := (hasP_iff.1 hh).2
    simp only [List.length_cons, List.take_succ_cons] at this
    exact absurd (List.cons.inj this).1 h
theorem hasP_ne2 {a x y : UInt8} {s q : List UInt8} (h : x ≠ y) : hasP (a :: x :: s) (a :: y :: q) = false := by
  cases hh : hasP (a :: x :: s) (a :: y :: q) with
  | false => rfl
  | true =>
    have := (hasP_iff.1 hh).2
    simp only [List.length_cons, List.take_succ_cons] at this
    exact absurd (List.cons.inj (List.cons.inj this).2).1 h

theorem dgN_app {r : List UInt8} (hr : dgN r = 0) : ∀ s : List UInt8, s.all isDg = true → dgN (s ++ r) = s.length
  | [], _ => hr
  | c :: l, h => by
    simp only [List.all_cons, Bool.and_eq_true] at h
    simp only [List.cons_append, dgN, h.1, if_true, List.length_cons, dgN_app hr l h.2]
theorem itoa_digs {n : Int} (h0 : 0 ≤ n) (h1 : n < 1000) : digs (itoaL n) = true ∧ numV (itoaL n) = n := by
  have d : ∀ {k : Nat}, k < 10 → isDg (dig k) = true := fun h => (dg_of h).1
  have v : ∀ {k : Nat}, k < 10 → ((dig k).toNat : Int) - 48 = k := fun {k} h => by rw [(dg_of h).2]; omega
  unfold itoaL itoaN
  split
  · rename_i h
    refine ⟨by simp [digs, d h], ?_⟩
    simp only [numV, numA, v h]; omega
  split
  · rename_i h g
    have ha : n.toNat / 10 < 10 := by omega
    have hb : n.toNat % 10 < 10 := by omega
    refine ⟨by simp [digs, d ha, d hb], ?_⟩
    simp only [numV, numA, v ha, v hb]; omega
  · rename_i h g
    have ha : n.toNat / 100 < 10 := by omega
    have hb : n.toNat / 10 % 10 < 10 := by omega
    have hc : n.toNat % 10 < 10 := by omega
    refine ⟨by simp [digs, d ha, d hb, d hc], ?_⟩
    simp only [numV, numA, v ha, v hb, v hc]; omega
theorem rn_app {n : Int} (h0 : 0 ≤ n) (h1 : n < 1000) {r : List UInt8} (hr : dgN r = 0) : rnF (itoaL n ++ r) = (n, r, true) := by
  obtain ⟨hd, hv⟩ := itoa_digs h0 h1
  have hd' := hd
  simp only [digs, Bool.and_eq_true, decide_eq_true_eq] at hd'
  have hn := dgN_app hr (itoaL n) hd'.2.2
  simp only [rnF, hn, List.take_left', List.drop_left', hv, decide_eq_true_eq, Bool.and_eq_true, hd'.1, hd'.2.1, and_self, if_true, decide_true]
theorem rn_eq {s : List UInt8} (h : rnB s = true) : s = itoaL (rnV s) ++ rnR s ∧ (s.take (dgN s)).all isDg = true ∧ rnR s = s.drop (dgN s) := by
  unfold rnB rnV rnR at *
  unfold rnF at h ⊢
  split
  · rename_i hc
    rw [if_pos hc] at h
    simp only [decide_eq_true_eq] at h ⊢
    rw [h]
    exact ⟨(List.take_append_drop _ _).symm, dgN_all s _ (Nat.le_refl _), trivial⟩
  · rename_i hc
    rw [if_neg hc] at h
    cases h

theorem noDg_cons {c : UInt8} {r : List UInt8} (h : isDg c = false) : dgN (c :: r) = 0 := by simp [dgN, h]

theorem rd_write : ∀ (N : Nat) (t : Ty) (r : List UInt8), okT t = true → cnt t ≤ N → dgN r = 0 → rdF N (writeS t ++ r) = (cleanT t, r, true)
  | 0, t, _, _, h, _ => by have := cnt_pos t; omega
  | N + 1, .mk k n b l, r, h, hc, hr => by
    obtain ⟨hn, hl⟩ := ok_node h
    simp only [NodeOk] at hn
    simp only [cnt] at hc
    have h46 : isDg 93 = false := by decide
    have h41 : isDg 41 = false := by decide
    have h32 : isDg 32 = false := by decide
    have two : k = 2 ∨ k = 3 ∨ k = 5 → rdF (N + 1) (writeS (.mk k n b l) ++ r) = (cleanT (.mk k n b l), r, true) := by
      intro hk
      have hlen : l.length = 2 := by omega
      match l, hlen, hl, hc with
      | [x, y], _, hl, hc =>
        simp only [okL, Bool.and_eq_true, Bool.and_true] at hl
        simp only [cntL] at hc
        have hk6 : ¬ k = 6 := by omega
        have hw : writeS (.mk k n b [x, y]) ++ r = 40 :: (writeS x ++ (btwS k ++ (writeS y ++ 41 :: r))) := by
          rcases hk with rfl | rfl | rfl <;> simp [writeS, writeL, befS, btwS, aftS]
        have hcl : cleanT (.mk k n b [x, y]) = .mk k 0 false [cleanT x, cleanT y] := by
          simp only [cleanT, cleanL, if_neg hk6, nilB, List.length_cons, List.length_nil]; rfl
        have i1 := rd_write N x (btwS k ++ (writeS y ++ 41 :: r)) hl.1 (by omega) (by rcases hk with rfl | rfl | rfl <;> exact noDg_cons h32)
        have i2 := rd_write N y (41 :: r) hl.2 (by omega) (noDg_cons h41)
        have ho : opF (btwS k ++ (writeS y ++ 41 :: r)) = some (k, writeS y ++ 41 :: r) := by
          unfold opF
          rcases hk with rfl | rfl | rfl
          · have e : btwS 2 = [32, 42, 32] := rfl
            rw [e, hasP_app, cutP_app]; rfl
          · have e : btwS 3 = [32, 43, 32] := rfl
            rw [e, hasP_app, cutP_app, show hasP ([32, 43, 32] ++ (writeS y ++ 41 :: r)) [32, 42, 32] = false from hasP_ne2 (by decide)]; rfl
          · have e : btwS 5 = [32, 45, 62, 32] := rfl
            rw [e, hasP_app, cutP_app, show hasP ([32, 45, 62, 32] ++ (writeS y ++ 41 :: r)) [32, 42, 32] = false from hasP_ne2 (by decide), show hasP ([32, 45, 62, 32] ++ (writeS y ++ 41 :: r)) [32, 43, 32] = false from hasP_ne2 (by decide)]; rfl
        have e40 : cutP (40 :: (writeS x ++ (btwS k ++ (writeS y ++ 41 :: r)))) [40] = writeS x ++ (btwS k ++ (writeS y ++ 41 :: r)) := cutP_app [40] _
        have e41 : cutP (41 :: r) [41] = r := cutP_app [41] _
        have p40 : hasP (40 :: (writeS x ++ (btwS k ++ (writeS y ++ 41 :: r)))) [40] = true := hasP_app [40] _
        have p41 : hasP (41 :: r) [41] = true := hasP_app [41] _
        rw [hw, hcl]
        unfold rdF
        rw [show hasP (40 :: (writeS x ++ (btwS k ++ (writeS y ++ 41 :: r)))) [117, 110, 105, 116] = false from hasP_ne (by decide),
          show hasP (40 :: (writeS x ++ (btwS k ++ (writeS y ++ 41 :: r)))) [105, 110, 116] = false from hasP_ne (by decide),
          show hasP (40 :: (writeS x ++ (btwS k ++ (writeS y ++ 41 :: r)))) [39] = false from hasP_ne (by decide),
          show hasP (40 :: (writeS x ++ (btwS k ++ (writeS y ++ 41 :: r)))) [91] = false from hasP_ne (by decide), p40, e40, i1]
        simp only [Bool.false_eq_true, if_false, if_true, ho, i2, e41, p41]
    rcases okT_kind h with rfl | rfl | rfl | rfl | rfl | rfl | rfl
    · have : l = [] := List.length_eq_zero_iff.1 (by omega)
      subst this
      have hw : writeS (.mk 0 n b []) ++ r = [117, 110, 105, 116] ++ r := by simp [writeS, writeL, befS, btwS, aftS]
      rw [hw]
      unfold rdF
      rw [hasP_app, cutP_app]
      simp [cleanT, cleanL, nilB, zeroT]
    · have : l = [] := List.length_eq_zero_iff.1 (by omega)
      subst this
      have hw : writeS (.mk 1 n b []) ++ r = [105, 110, 116] ++ r := by simp [writeS, writeL, befS, btwS, aftS]
      rw [hw]
      unfold rdF
      rw [hasP_app, cutP_app, show hasP ([105, 110, 116] ++ r) [117, 110, 105, 116] = false from hasP_ne (by decide)]
      simp [cleanT, cleanL, nilB]
    · exact two (.inl rfl)
    · exact two (.inr (.inl rfl))
    · have hlen : l.length = 1 := by omega
      match l, hlen, hl, hc with
      | [x], _, hl, hc =>
        simp only [okL, Bool.and_eq_true, Bool.and_true] at hl
        simp only [cntL] at hc
        have hw : writeS (.mk 4 n b [x]) ++ r = [91] ++ (writeS x ++ 93 :: r) := by simp [writeS, writeL, befS, btwS, aftS]
        have i1 := rd_write N x (93 :: r) hl (by omega) (noDg_cons h46)
        have e93 : cutP (93 :: r) [93] = r := cutP_app [93] _
        have p93 : hasP (93 :: r) [93] = true := hasP_app [93] _
        rw [hw]
        unfold rdF
        rw [hasP_app, cutP_app, show hasP ([91] ++ (writeS x ++ 93 :: r)) [117, 110, 105, 116] = false from hasP_ne (by decide),
          show hasP ([91] ++ (writeS x ++ 93 :: r)) [105, 110, 116] = false from hasP_ne (by decide),
          show hasP ([91] ++ (writeS x ++ 93 :: r)) [39] = false from hasP_ne (by decide), i1]
        simp only [Bool.false_eq_true, if_false, if_true, e93, p93, cleanT, cleanL, nilB, List.length_cons, List.length_nil]
        rfl
    · exact two (.inr (.inr rfl))
    · have : l = [] := List.length_eq_zero_iff.1 (by omega)
      subst this
      have hw : writeS (.mk 6 n b []) ++ r = [39] ++ (itoaL n ++ r) := by simp [writeS, writeL, befS, btwS, aftS]
      have hf := rn_app (n := n) (by omega) (by omega) hr
      rw [hw]
      unfold rdF
      rw [hasP_app, cutP_app, show hasP ([39] ++ (itoaL n ++ r)) [117, 110, 105, 116] = false from hasP_ne (by decide),
        show hasP ([39] ++ (itoaL n ++ r)) [105, 110, 116] = false from hasP_ne (by decide)]
      simp only [Bool.false_eq_true, if_false, if_true, rnV, rnR, rnB, hf, cleanT, cleanL, nilB, varT, List.length_nil, decide_true]

theorem opF_eq {s m : List UInt8} {k : Int} (h : opF s = some (k, m)) : s = btwS k ++ m ∧ (k = 2 ∨ k = 3 ∨ k = 5) := by
  unfold opF at h
  split at h
  · rename_i hp
    cases h
    exact ⟨hasP_eq hp, by omega⟩
  split at h
  · rename_i hp
    cases h
    exact ⟨hasP_eq hp, by omega⟩
  split at h
  · rename_i hp
    cases h
    exact ⟨hasP_eq hp, by omega⟩
  · cases h

/-- How many blanks. -/
def blk (s : List UInt8) : Nat := s.count 32
theorem blk_app (s r : List UInt8) : blk (s ++ r) = blk s + blk r := List.count_append
theorem blk_dg : ∀ s : List UInt8, s.all isDg = true → blk s = 0
  | [], _ => rfl
  | c :: l, h => by
    simp only [List.all_cons, Bool.and_eq_true] at h
    have := blk_dg l h.2
    have hc : c ≠ 32 := by
      intro e; subst e; exact absurd h.1 (by decide)
    unfold blk at this ⊢
    rw [List.count_cons_of_ne hc]
    exact this

theorem rd_eq : ∀ (N : Nat) (s : List UInt8), rdB N s = true → s = writeS (rdT N s) ++ rdR N s ∧ blk s % 2 = blk (rdR N s) % 2
  | 0, s, h => by cases h
  | N + 1, s, h => by
    have ih := rd_eq N
    simp only [rdB, rdT, rdR] at ih h ⊢
    simp only [rdF] at h ⊢
    split
    · rename_i hp
      have e := hasP_eq hp
      refine ⟨by simpa [writeS, writeL, befS, btwS, aftS, zeroT] using e, ?_⟩
      rw [congrArg blk e, blk_app]; simp [blk]
    rename_i h1
    rw [if_neg h1] at h
    split
    · rename_i hp
      have e := hasP_eq hp
      refine ⟨by simpa [writeS, writeL, befS, btwS, aftS] using e, ?_⟩
      rw [congrArg blk e, blk_app]; simp [blk]
    rename_i h2
    rw [if_neg h2] at h
    split
    · rename_i hp
      rw [if_pos hp] at h
      have e := hasP_eq hp
      obtain ⟨e1, e2, e3⟩ := rn_eq h
      refine ⟨?_, ?_⟩
      · simp only [writeS, writeL, befS, btwS, aftS, varT]
        exact e.trans (by simpa using e1)
      · dsimp only
        rw [congrArg blk e, blk_app, e3]
        have := congrArg blk (List.take_append_drop (dgN (cutP s [39])) (cutP s [39]))
        rw [blk_app, blk_dg _ e2] at this
        have h39 : blk [39] = 0 := by decide
        omega
    rename_i h3
    rw [if_neg h3] at h
    split
    · rename_i hp
      rw [if_pos hp] at h
      have e := hasP_eq hp
      split
      · rename_i hb
        rw [if_pos hb] at h
        obtain ⟨i1, i2⟩ := ih _ hb
        have e2 := hasP_eq h
        have h91 : blk [91] = 0 := by decide
        have h93 : blk [93] = 0 := by decide
        refine ⟨?_, ?_⟩
        · simp only [writeS, writeL, befS, btwS, aftS]
          refine e.trans ?_
          rw [congrArg ([91] ++ ·) i1]
          rw [congrArg (writeS _ ++ ·) e2]
          simp
        · dsimp only
          rw [congrArg blk e, blk_app]
          have g := congrArg blk e2
          rw [blk_app] at g
          omega
      · rename_i hb
        rw [if_neg hb] at h; cases h
    rename_i h4
    rw [if_neg h4] at h
    split
    · rename_i hp
      rw [if_pos hp] at h
      have e := hasP_eq hp
      split
      · rename_i hb
        rw [if_pos hb] at h
        obtain ⟨i1, i2⟩ := ih _ hb
        split
        · rename_i hm
          rw [hm] at h; cases h
        · rename_i k m hm
          rw [hm] at h
          obtain ⟨e1, hk⟩ := opF_eq hm
          simp only at h
          split
          · rename_i hb2
            rw [if_pos hb2] at h
            obtain ⟨j1, j2⟩ := ih _ hb2
            have e2 := hasP_eq h
            have h40 : blk [40] = 0 := by decide
            have h41 : blk [41] = 0 := by decide
            have hbt : blk (btwS k) = 2 := by rcases hk with rfl | rfl | rfl <;> decide
            refine ⟨?_, ?_⟩
            · have hw : ∀ x y : Ty, ∀ r, writeS (.mk k 0 false [x, y]) ++ r = [40] ++ (writeS x ++ (btwS k ++ (writeS y ++ ([41] ++ r)))) := by
                intro x y r
                rcases hk with rfl | rfl | rfl <;> simp [writeS, writeL, befS, btwS, aftS]
              rw [hw, ← e2, ← j1, ← e1, ← i1, ← e]
            · dsimp only
              rw [congrArg blk e, blk_app]
              have g := congrArg blk e2
              have g1 := congrArg blk e1
              rw [blk_app] at g g1
              omega
          · rename_i hb2
            rw [if_neg hb2] at h; cases h
      · rename_i hb
        rw [if_neg hb] at h; cases h
    · rename_i hp
      rw [if_neg hp] at h; cases h

theorem same_writes : (∀ a b, sameB a b = true → writeS a = writeS b) ∧ ∀ l m, l.length = m.length → sameL l m = true → ∀ s f, writeL s l f = writeL s m f := by
  have key : ∀ (N : Nat), (∀ a b, SizeOf.sizeOf a < N → sameB a b = true → writeS a = writeS b) ∧ ∀ l m, SizeOf.sizeOf l < N → l.length = m.length → sameL l m = true → ∀ s f, writeL s l f = writeL s m f := by
    intro N
    induction N with
    | zero => exact ⟨fun _ _ h => by omega, fun _ _ h => by omega⟩
    | succ N ih =>
      obtain ⟨ih1, ih2⟩ := ih
      constructor
      · rintro ⟨k, n, b, l⟩ ⟨k', n', b', l'⟩ ha h
        simp only [Ty.mk.sizeOf_spec] at ha
        simp only [sameB, Bool.and_eq_true, Bool.or_eq_true, decide_eq_true_eq, Bool.not_eq_true', decide_eq_false_iff_not] at h
        obtain ⟨rfl, hn, hl, hs⟩ := h
        simp only [writeS, ih2 l l' (by omega) hl hs]
        by_cases h6 : k = 6
        · rw [hn.resolve_left (by simpa using h6)]
        · simp only [if_neg h6]
      · intro l m hl hlen h s f
        cases l with
        | nil => cases m with
          | nil => rfl
          | cons y ys => simp at hlen
        | cons x xs => cases m with
          | nil => simp at hlen
          | cons y ys =>
            simp only [List.cons.sizeOf_spec] at hl
            simp only [sameL, Bool.and_eq_true] at h
            simp only [writeL, ih1 x y (by omega) h.1, ih2 xs ys (by omega) (by simpa using hlen) h.2]
  exact ⟨fun a b => (key (SizeOf.sizeOf a + 1)).1 a b (by omega), fun l m => (key (SizeOf.sizeOf l + 1)).2 l m (by omega)⟩
theorem same_write {a b : Ty} (h : sameB a b = true) : writeS a = writeS b := same_writes.1 a b h

theorem same_clean : ∀ t, sameB (cleanT t) t = true := by
  have key : ∀ (N : Nat), (∀ t, SizeOf.sizeOf t < N → sameB (cleanT t) t = true) ∧ ∀ l, SizeOf.sizeOf l < N → sameL (cleanL l) l = true := by
    intro N
    induction N with
    | zero => exact ⟨fun _ h => by omega, fun _ h => by omega⟩
    | succ N ih =>
      obtain ⟨ih1, ih2⟩ := ih
      constructor
      · intro t ht
        cases t with
        | mk k n b l =>
          simp only [Ty.mk.sizeOf_spec] at ht
          simp only [cleanT, sameB, cleanL_len, ih2 l (by omega), decide_true, Bool.true_and, Bool.and_true, Bool.or_eq_true, Bool.not_eq_true', decide_eq_false_iff_not, decide_eq_true_eq]
          by_cases h6 : k = 6
          · rw [if_pos h6]; exact .inr rfl
          · exact .inl h6
      · intro l hl
        cases l with
        | nil => rfl
        | cons x xs =>
          simp only [List.cons.sizeOf_spec] at hl
          simp only [cleanL, sameL, ih1 x (by omega), ih2 xs (by omega), Bool.true_and]
  exact fun t => (key (SizeOf.sizeOf t + 1)).1 t (by omega)

theorem write_pos {t : Ty} (h : okT t = true) : 1 ≤ (writeS t).length := by
  obtain ⟨k, n, b, l⟩ := t
  simp only [writeS, List.length_append]
  rcases okT_kind h with rfl | rfl | rfl | rfl | rfl | rfl | rfl <;> simp [befS] <;> omega

theorem dep_clean : ∀ t, depT (cleanT t) = depT t := by
  have key : ∀ (N : Nat), (∀ t, SizeOf.sizeOf t < N → depT (cleanT t) = depT t) ∧ ∀ l, SizeOf.sizeOf l < N → ∀ n, depG (cleanL l) n = depG l n := by
    intro N
    induction N with
    | zero => exact ⟨fun _ h => by omega, fun _ h => by omega⟩
    | succ N ih =>
      obtain ⟨ih1, ih2⟩ := ih
      constructor
      · intro t ht
        cases t with
        | mk k n b l =>
          simp only [Ty.mk.sizeOf_spec] at ht
          simp only [cleanT, depT, ih2 l (by omega)]
      · intro l hl n
        cases l with
        | nil => rfl
        | cons x xs =>
          simp only [List.cons.sizeOf_spec] at hl
          simp only [cleanL, depG, ih1 x (by omega), ih2 xs (by omega)]
  exact fun t => (key (SizeOf.sizeOf t + 1)).1 t (by omega)
theorem valid_clean {t : Ty} (h : validB t = true) : validB (cleanT t) = true := by
  rw [valid_eq] at h ⊢
  rw [dep_clean, cnt_clean]
  exact ⟨h.1, h.2.1, ok_clean t h.2.2⟩

/-- What is written is read. -/
theorem par_write {t : Ty} (h : validB t = true) : parE (writeS t) = 0 ∧ parT (writeS t) = cleanT t := by
  have hv := (valid_eq t).1 h
  have hr := rd_write 1300 t [] hv.2.2 (by omega) rfl
  rw [List.append_nil] at hr
  have hl := write_len t
  have hE : parE (writeS t) = 0 := by
    unfold parE rdB rdR rdT
    rw [if_neg (by omega), hr]
    simp [valid_clean h]
  refine ⟨hE, ?_⟩
  unfold parT
  rw [if_pos hE]
  unfold rdT
  rw [hr]
theorem par_eq {s : List UInt8} (h : parE s = 0) : s = writeS (parT s) := by
  rcases par_cases s with ⟨h1, h2, h3⟩ | ⟨h1, h0, h2, h3⟩ | ⟨h1, hb, hr, hv, h2, h3⟩ | ⟨h1, hb, hr, hv, h2, h3⟩
  · rw [h2] at h; cases h
  · rw [h2] at h; cases h
  · rw [h2] at h; cases h
  · have := (rd_eq 1300 s hb).1
    rw [hr, List.append_nil] at this
    rw [h3]; exact this
theorem par_odd {s : List UInt8} (h : s.length ≤ 1000) (hb : blk s % 2 = 1) : parE s = 8 := by
  unfold parE
  rw [if_neg (by omega), if_neg]
  rintro ⟨h1, h2⟩
  have := (rd_eq 1300 s h1).2
  rw [h2, hb] at this
  cases this
theorem blk_write {t : Ty} (h : validB t = true) : blk (writeS t) % 2 = 0 := by
  have hv := (valid_eq t).1 h
  have hr := rd_write 1300 t [] hv.2.2 (by omega) rfl
  rw [List.append_nil] at hr
  have := (rd_eq 1300 (writeS t) (by unfold rdB; rw [hr])).2
  unfold rdR at this
  rw [hr] at this
  exact this
end Kd
end

section
set_option maxRecDepth 100000
noncomputable section
namespace Go.Proofs.YtnmolpkkemljoaaGreatDoor
open Go Go.Am Kd

theorem text_hooks (t : Ty) : Hooks.Ok Tryz.prog gT (textHk t) := by
  refine mkHooks_ok (all_cons ?_ (all_cons closed.alive_hook.lift (all_cons ?_ (all_cons ?_ (all_cons kpar_hook (all_cons ?_ all_nil)))))) all_nil all_nil
  · rintro args K ⟨he, hK⟩
    have h1 : QuietJ Tryz.prog gT 14 (args.map (weakA 3)) (.bool (greatB t)) := by
      rw [he, ← enc_D]; exact (great1_ok false t).lift
    exact ⟨_, h1.weakA 3, hK⟩
  · rintro args K ⟨rfl, hc, hK⟩
    refine ⟨_, ?_, hK⟩
    have h := text_ok t hc
    rw [← enc_D]
    unfold txtF errF
    unfold textV at h
    by_cases hv : validB t = true
    · simp only [if_pos hv] at h ⊢; exact h
    · simp only [if_neg hv] at h ⊢; exact h
  · rintro args K ⟨rfl, hc, hK⟩
    exact ⟨_, by rw [← enc_D]; exact (check_ok t hc).lift, hK⟩
  · intro args K h'
    show ∃ _, _
    simp only [] at h'
    unfold sm2Q at h'
    split at h'
    · obtain ⟨rfl, h2⟩ := h'
      obtain ⟨u, rfl, h3, h4⟩ := argTy_elim h2
      exact ⟨_, by rw [← enc_D]; exact (same_ok u t h3.1 h3.2).lift, h4⟩
    · exact h'.elim

theorem texts_ok (t : Ty) (k : Int) (h0 : 0 ≤ k) (h1 : k ≤ 65535) : QT 5 [enc t, .int .u16 k] (.bool true) := by
  have hst : (enc t).still = true := enc_still t
  rw [enc_D]
  refine QT.by (hk := textHk t) (by rw [← enc_D]; simp [AV.stillL, hst, AV.still]) rfl (text_hooks t) ?_
  rw [text_top]
  refine ⟨rfl, bothR_bool (fun _ => rfl) fun hg => ?_⟩
  have hc : cnt t ≤ 1000 := by have := great_cnt hg; omega
  refine ⟨rfl, hc, rfl, hc, ?_⟩
  by_cases hv : validB t = true
  rotate_left
  · have hC : checkN t = 1 := by unfold checkN; simp only [Bool.not_eq_true] at hv; rw [hv]
    have hE : errF t = 1 := by unfold errF; rw [if_neg hv]
    have hT : txtF t = [] := by unfold txtF; rw [if_neg hv]
    rw [hC, hE, hT]; rfl
  have hC : checkN t = 0 := by unfold checkN; rw [hv]
  have hE : errF t = 0 := by unfold errF; rw [if_pos hv]
  have hT : txtF t = writeS t := by unfold txtF; rw [if_pos hv]
  have hv' := (valid_eq t).1 hv
  obtain ⟨p1, p2⟩ := par_write hv
  rw [hC, hE, hT, p1, p2]
  have hlen := write_len t
  have hpos := write_pos hv'.2.2
  have hcc := cnt_clean t
  generalize hS : writeS t = s at *
  have hk : IntKind.i64.wrap k = k := wrap_id (by omega) (by omega)
  obtain ⟨q, rfl⟩ : ∃ q : Nat, k = q := ⟨k.toNat, by omega⟩
  rw [hk]
  have hm : Int.tmod (q : Int) (iC s.length) = ((q % s.length : Nat) : Int) := rfl
  have hml : q % s.length < s.length := Nat.mod_lt _ (by omega)
  rw [hm]
  generalize q % s.length = m at *
  have hw : IntKind.i64.wrap ((m : Int) + 1) = ((m + 1 : Nat) : Int) := by rw [wrap_id (by omega) (by omega)]; rfl
  rw [hw]
  simp only [Int.toNat_natCast, Nat.sub_zero]
  have hd1 : (s.drop (m + 1)).take (s.length - (m + 1)) = s.drop (m + 1) := List.take_of_length_le (by simp)
  have hd2 : (s.drop m).take (s.length - m) = s.drop m := List.take_of_length_le (by simp)
  simp only [hd1, hd2, true_and, and_true]
  have hi : iC s.length ≤ 9223372036854775807 := by simp only [iC]; omega
  have hsp : s.take m ++ s.drop m = s := List.take_append_drop m s
  have htl : (s.take m).length = m := by rw [List.length_take]; omega
  have hb8 : parE (s.take m ++ [32] ++ s.drop m) = 8 := by
    refine par_odd ?_ ?_
    · simp only [List.length_append, List.length_cons, List.length_nil, htl, List.length_drop]; omega
    · have h1 := blk_write hv
      rw [hS] at h1
      have h2 := congrArg blk hsp
      rw [blk_app] at h2
      rw [blk_app, blk_app]
      have h3 : blk [32] = 1 := by decide
      omega
  have hlast : bothR (!decide (parE (s.take m) = 0)) True (bothR (decide ((0 : Int) < m)) True (AV.bool false = AV.bool true)) := by
    refine bothR_ndec (fun _ => trivial) fun h => bothR_dec (fun _ => trivial) fun h0 => absurd h ?_
    have : m = 0 := by omega
    subst this
    show ¬ parE [] = 0
    decide +kernel
  have hend : bothR (decide (parE (s.take m ++ [32] ++ s.drop m) = 8)) (bothR (!decide (parE (s.take m) = 0)) True (bothR (decide ((0 : Int) < m)) True (AV.bool false = AV.bool true))) (AV.bool false = AV.bool true) :=
    bothR_dec (fun _ => hlast) fun h => absurd hb8 h
  have hdel : parE (s.take m ++ s.drop (m + 1)) = 0 → sameB (parT (s.take m ++ s.drop (m + 1))) t = false := by
    intro h
    cases hsm : sameB (parT (s.take m ++ s.drop (m + 1))) t with
    | false => rfl
    | true =>
      have h1 := par_eq h
      rw [same_write hsm, hS] at h1
      have h2 := congrArg List.length h1
      simp only [List.length_append, htl, List.length_drop] at h2
      omega
  have hpc := par_cnt (s.take m ++ s.drop (m + 1))
  have hl1 : ((s.take m).length + (s.drop (m + 1)).length : Nat) ≤ 1000 := by rw [htl, List.length_drop]; omega
  have hl2 : ((s.take m ++ [32]).length + (s.drop m).length : Nat) ≤ 1001 := by
    simp only [List.length_append, List.length_cons, List.length_nil, htl, List.length_drop]; omega
  refine bothR_ndec (fun h => absurd trivial h) fun _ => bothR_ndec (fun h => absurd trivial h) fun _ => bothR_ndec (fun h => absurd trivial h) fun _ => ⟨(cleanT t).l, rfl, ?_⟩
  rw [Ty.eta]
  refine ⟨⟨by omega, hc⟩, bothR_nbool (fun h => absurd (same_clean t) (by rw [h]; simp)) fun _ => bothR_dec (fun h => absurd h (by simp only [iC]; omega)) fun _ => ?_⟩
  refine ⟨by simp only [iC]; omega, by omega, by omega, by omega, by omega, by simp only [iC]; omega, by omega, by omega, by simp only [iC]; omega, by omega, by omega, by simp only [iC]; omega, by omega, by omega, by simp only [iC]; omega, by omega, by simp only [iC]; omega, by omega, by simp only [iC]; omega, by omega, by omega, ?_⟩
  refine bothR_ndec (fun _ => hend) fun h => ⟨(parT (s.take m ++ s.drop (m + 1))).l, rfl, ?_⟩
  rw [Ty.eta]
  exact ⟨⟨hpc, hc⟩, bothR_nbool (fun _ => hend) fun h2 => absurd h2 (by rw [hdel h]; simp)⟩
end Go.Proofs.YtnmolpkkemljoaaGreatDoor
end
end

section
namespace Go.Proofs.YtnmolpkkemljoaaGreatDoor
open Go.ChangeShapes Go.WideShapes Go.ChangeAt Go.RowKit

theorem own : ownKnob Tryz.prog.godebug = none := by kernel_rfl

def cellsOf {H : Type} : DataW H → Array Value
  | .agg l => (l.map fun | .lit (.int k n) => Value.int k n | _ => undef).toArray
  | _ => #[]

def wordOf {H : Type} : DataW H → Array Value
  | .iface _ (.ptr (.agg [.lit (.string l)])) => #[.string ⟨l.toArray⟩]
  | _ => #[]

noncomputable def laidWorld (os : Os) : World :=
  let N := (World.settled Tryz.prog os).heap.size
  let w0 := World.holding Tryz.prog os ⟨#[.cells (wordOf (Rows.laid_strconv_ErrSyntax (H := Unit))) 203, .cells (wordOf (Rows.laid_strconv_ErrRange (H := Unit))) 203], #[], []⟩
  let put (h : Array Obj) (g : Nat) (cs : Array Value) : Array Obj := h.modify g fun
    | .cells _ t frozen => .cells cs t frozen
    | o => o
  let h0 := put (put w0.heap 1 #[.iface 201 (.pointer (some ⟨N, 0, none⟩))]) 2 #[.iface 201 (.pointer (some ⟨N + 1, 0, none⟩))]
  let h1 := put h0 0 (cellsOf (Rows.laid_internal_strconv_uint64pow10 (H := Unit)))
  let h2 := put h1 3 (cellsOf (Rows.laid_math_bits_deBruijn32tab (H := Unit)))
  let h3 := put h2 4 (cellsOf (Rows.laid_math_bits_deBruijn64tab (H := Unit)))
  { w0 with heap := h3 }

set_option maxRecDepth 1000000 in
theorem laid_met (os : Os) (args : Array Value) : laidMet Tryz.prog Rows.kindNamesRow.laid ((laidWorld os).forCall (fun _ _ => 0) ⟨#[], args, []⟩).memory :=
  laidMet_of_run' 8 (by kernel_rfl) (by kernel_rfl)

end Go.Proofs.YtnmolpkkemljoaaGreatDoor
end

section
noncomputable section
namespace Go.Proofs.YtnmolpkkemljoaaGreatDoor
open Go Go.Am Go.RowKit Go.ChangeShapes Go.WideShapes Go.ChangeAt

theorem pow10_tab {W : World} (h : laidMet Tryz.prog Rows.kindNamesRow.laid W) : Lib.TabIs Tryz.prog W "internal/strconv.uint64pow10" .u64 Lib.pow10Tab := by
  obtain ⟨g, t, cs, fuel, p, hg, ht, hv, hd⟩ := Lib.laidMet.reads h (.tail _ (.tail _ (.head _)))
  obtain rfl := Option.some.inj ((show Tryz.prog.globalNamed "internal/strconv.uint64pow10" = some 0 by kernel_rfl).symm.trans hg)
  obtain rfl := Option.some.inj ((show (Tryz.prog.globals[0]?).map (·.type) = some 190 by kernel_rfl).symm.trans ht)
  unfold Lib.TabIs
  have e := Lib.cells_of_tab (k := .u64) (zs := Lib.pow10Tab) (n := 20) (e := 166) (by kernel_rfl) (by kernel_rfl) (by kernel_rfl) (by kernel_rfl) hd
  rw [hv, ← e]

theorem gT_met {W : World} (h : laidMet Tryz.prog Rows.kindNamesRow.laid W) : ∀ g o x, gT g o = some x → ∃ v, W.cell? ⟨g, o, none⟩ = some v ∧ ∀ S : Sh, VRel S x v := by
  intro g o x hx
  unfold gT at hx
  split at hx
  · rename_i hg
    simp only [beq_iff_eq] at hg
    subst hg
    split at hx
    · rename_i n hn
      cases hx
      rw [nthR_eq] at hn
      have ho : o < 20 := by
        have := (List.getElem?_eq_some_iff.1 hn).1
        simpa [pow10] using this
      have hc := (pow10_tab h).cell (show Tryz.prog.globalNamed "internal/strconv.uint64pow10" = some 0 by kernel_rfl) o (by rw [Lib.pow10Tab_length]; exact ho)
      rw [Lib.pow10Tab_at o ho] at hc
      have : n = 10 ^ o := by
        have key : ∀ i : Nat, i < 20 → pow10[i]? = some (10 ^ i) := by decide
        rw [key o ho] at hn
        exact (Option.some.inj hn).symm
      subst this
      exact ⟨_, hc, fun S => .int _ _⟩
    · cases hx
  · cases hx

end Go.Proofs.YtnmolpkkemljoaaGreatDoor
end
end
