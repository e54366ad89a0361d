/-
  What the proof is built of: Types that are read, and Parse, come to what they say. KindReads, KindTexts: the hooks. The conditions of KindReads and KindTexts, evaluated. KindReads returns true. A world in which the listed variables hold what their initialisers lay. What the laid variables hold, as far as the walks look at it. Conditions: none.
-/
import Derived.Test.YtnmolpkkemljoaaGreatDoorM10
import Derived.Test.YtnmolpkkemljoaaGreatDoorM11
import Derived.Test.YtnmolpkkemljoaaGreatDoorCards
import Derived.Test.YtnmolpkkemljoaaGreatDoorTie
import Derived.WalkKit
import Derived.ProofKit
import Derived.OpenShut
import Derived.Deep.DeepHandedRow
import Derived.Deep.DeepWitnessRowRef
import Derived.Lib.LaidTab
import Derived.Lib.LaidU8
import Derived.Lib.ItoaNum
section
set_option maxRecDepth 100000
set_option linter.unusedSimpArgs false
set_option linter.unusedVariables false
namespace Kd
open Go Go.Am Go.Proofs.YtnmolpkkemljoaaGreatDoor

theorem cutP_len (s p : List UInt8) : (cutP s p).length ≤ s.length := by
  cases h : hasP s p with
  | true => rw [cutP_yes h]; simp
  | false => rw [cutP_no h]; exact Nat.le_refl _
theorem cutP_lt {s p : List UInt8} (h : hasP s p = true) (hp : 0 < p.length) : (cutP s p).length + p.length = s.length := by
  have := (hasP_iff.1 h).1
  rw [cutP_yes h, List.length_drop]; omega
theorem rnR_len (s : List UInt8) : (rnR s).length ≤ s.length := by
  unfold rnR rnF
  split
  · simp
  · exact Nat.le_refl _
theorem opF_len {s m : List UInt8} {k : Int} (h : opF s = some (k, m)) : m.length ≤ s.length := by
  unfold opF at h
  repeat' split at h
  all_goals first
    | (cases h; exact cutP_len _ _)
    | cases h
theorem rdR_len : ∀ (n : Nat) (s : List UInt8), (rdR n s).length ≤ s.length
  | 0, s => Nat.le_refl _
  | n + 1, s => by
    have ih := rdR_len n
    unfold rdR at ih ⊢
    simp only [rdF]
    split
    · exact cutP_len _ _
    split
    · exact cutP_len _ _
    split
    · exact Nat.le_trans (rnR_len _) (cutP_len _ _)
    split
    · split
      · have h1 := cutP_len (rdF n (cutP s [91])).2.1 [93]
        have h2 := ih (cutP s [91])
        have h3 := cutP_len s [91]
        simp only; omega
      · exact Nat.le_refl _
    split
    · split
      · split
        · exact Nat.le_refl _
        · rename_i k m hm
          split
          · have h1 := cutP_len (rdF n m).2.1 [41]
            have h2 := ih m
            have h3 := opF_len hm
            have h4 := ih (cutP s [40])
            have h5 := cutP_len s [40]
            simp only; omega
          · exact Nat.le_refl _
      · exact Nat.le_refl _
    · exact Nat.le_refl _
theorem opF_lt {s m : List UInt8} {k : Int} (h : opF s = some (k, m)) : m.length + 3 ≤ s.length := by
  unfold opF at h
  split at h
  · rename_i hp
    cases h
    have := cutP_lt hp (by simp)
    simp only [List.length_cons, List.length_nil] at this; omega
  split at h
  · rename_i hp
    cases h
    have := cutP_lt hp (by simp)
    simp only [List.length_cons, List.length_nil] at this; omega
  split at h
  · rename_i hp
    cases h
    have := cutP_lt hp (by simp)
    simp only [List.length_cons, List.length_nil] at this; omega
  · cases h
/-- A type has no more types in it than its text has bytes. -/
theorem rd_cnt : ∀ (n : Nat) (s : List UInt8), rdB n s = true → cnt (rdT n s) + (rdR n s).length ≤ s.length
  | 0, s, h => by cases h
  | n + 1, s, h => by
    have ih := rd_cnt n
    simp only [rdB, rdT, rdR] at ih h ⊢
    simp only [rdF] at h ⊢
    split
    · rename_i hp
      have := cutP_lt hp (by simp)
      simp only [zeroT, cnt, cntL, List.length_cons, List.length_nil] at this ⊢; omega
    rename_i h1
    rw [if_neg h1] at h
    split
    · rename_i hp
      have := cutP_lt hp (by simp)
      simp only [cnt, cntL, List.length_cons, List.length_nil] at this ⊢; omega
    rename_i h2
    rw [if_neg h2] at h
    split
    · rename_i hp
      have h3 := cutP_lt hp (by simp)
      have h4 := rnR_len (cutP s [39])
      simp only [varT, cnt, cntL, List.length_cons, List.length_nil] at h3 ⊢; omega
    rename_i h3
    rw [if_neg h3] at h
    split
    · rename_i hp
      rw [if_pos hp] at h
      have h4 := cutP_lt hp (by simp)
      simp only [List.length_cons, List.length_nil] at h4
      split
      · rename_i hb
        have h5 := ih _ hb
        have h6 := cutP_len (rdF n (cutP s [91])).2.1 [93]
        simp only [cnt, cntL]; omega
      · rename_i hb
        rw [if_neg hb] at h; cases h
    rename_i h4
    rw [if_neg h4] at h
    split
    · rename_i hp
      rw [if_pos hp] at h
      have h5 := cutP_lt hp (by simp)
      simp only [List.length_cons, List.length_nil] at h5
      split
      · rename_i hb
        rw [if_pos hb] at h
        have h6 := ih _ hb
        split
        · rename_i hm
          rw [hm] at h; cases h
        · rename_i k m hm
          rw [hm] at h
          have h7 := opF_lt hm
          simp only at h
          split
          · rename_i hb2
            have h8 := ih _ hb2
            have h9 := cutP_len (rdF n m).2.1 [41]
            simp only [cnt, cntL]; omega
          · rename_i hb2
            rw [if_neg hb2] at h; cases h
      · rename_i hb
        rw [if_neg hb] at h; cases h
    · rename_i hp
      rw [if_neg hp] at h; cases h
theorem rdR_eq (n : Nat) (s : List UInt8) : (rdF n s).2.1 = rdR n s := rfl
theorem rdT_eq (n : Nat) (s : List UInt8) : (rdF n s).1 = rdT n s := rfl
theorem rdB_eq (n : Nat) (s : List UInt8) : (rdF n s).2.2 = rdB n s := rfl
end Kd
noncomputable section
namespace Go.Proofs.YtnmolpkkemljoaaGreatDoor
open Go Go.Am Kd

theorem encL_1 (a : Ty) : encL [a] = [encD a] := by simp only [encL, enc_D]
theorem encL_two (a b : Ty) : encL [a, b] = [encD a, encD b] := by simp only [encL, enc_D]

def tyEnd (N : Nat) (s : List UInt8) : AEnd := match rdB N s with | true => .returned (encD (rdT N s)) | false => .panicked (stopC 8)
def tyAft (N : Nat) (s : List UInt8) : List UInt8 := match rdB N s with | true => rdR N s | false => pdF N s

theorem num_hook : HSpec.Ok Tryz.prog gT 108 numH := by
  intro args A K h'
  unfold numH at h'
  split at h'
  · split at h'
    · rename_i b _ s hb
      obtain ⟨hl, hK⟩ := h'
      rw [nthR_eq] at hb
      have hj := num_ok s hl
      unfold numEnd numAft at hj
      cases hf : rnB s with
      | true =>
        rw [hf] at hK hj
        have hr := FuncJ.oneP (A := A) (b := b) (x' := .cells [.str (rnR s)] 98) hj (by simp [AV.stillL]) (by simp [ABlk.bnd, AV.bndL, AV.bnd]) (by simp [ABlk.bnd, AV.bndL, AV.bnd]) (by simp [ABlk.bnd, AV.bndL, AV.bnd]) (by simp [AEnd.bnd, AV.bnd]) (by simp) (by simp) hb
        exact ⟨_, hr, hK⟩
      | false =>
        rw [hf] at hK hj
        have hr := FuncJ.oneP (A := A) (b := b) (x' := .cells [.str s] 98) hj (by simp [AV.stillL]) (by simp [ABlk.bnd, AV.bndL, AV.bnd]) (by simp [ABlk.bnd, AV.bndL, AV.bnd]) (by simp [ABlk.bnd, AV.bndL, AV.bnd]) (stop_bnd ..) (by simp) (by simp) hb
        exact ⟨_, hr, hK⟩
    · exact h'.elim
  · exact h'.elim

theorem ty_hook {N : Nat} (ih : ∀ s, s.length < N → s.length ≤ 2000 → FuncJ Tryz.prog gT 75 [.ptr 0 0] (rdA s) (hpIs 0 (tyEnd N s) (rdA (tyAft N s)))) : HSpec.Ok Tryz.prog gT 75 (tyH N) := by
  intro args A K h'
  unfold tyH at h'
  split at h'
  · split at h'
    · rename_i b _ s hb
      obtain ⟨hl, hK⟩ := h'
      rw [nthR_eq] at hb
      have hj := ih s hl.1 hl.2
      unfold tyEnd tyAft at hj
      cases hf : rdB N s with
      | true =>
        rw [hf] at hK hj
        have hr := FuncJ.oneP (A := A) (b := b) (x' := .cells [.str (rdR N s)] 98) hj (by simp [AV.stillL]) (by simp [ABlk.bnd, AV.bndL, AV.bnd]) (by simp [ABlk.bnd, AV.bndL, AV.bnd]) (by simp [ABlk.bnd, AV.bndL, AV.bnd]) (by simp [AEnd.bnd, AV.still_bnd, encD_still]) (by simp) (by simp) hb
        exact ⟨_, hr, hK⟩
      | false =>
        rw [hf] at hK hj
        have hr := FuncJ.oneP (A := A) (b := b) (x' := .cells [.str (pdF N s)] 98) hj (by simp [AV.stillL]) (by simp [ABlk.bnd, AV.bndL, AV.bnd]) (by simp [ABlk.bnd, AV.bndL, AV.bnd]) (by simp [ABlk.bnd, AV.bndL, AV.bnd]) (stop_bnd ..) (by simp) (by simp) hb
        exact ⟨_, hr, hK⟩
    · exact h'.elim
  · exact h'.elim

theorem kty_ok : ∀ (N : Nat) (s : List UInt8), s.length < N → s.length ≤ 2000 → FuncJ Tryz.prog gT 75 [.ptr 0 0] (rdA s) (hpIs 0 (tyEnd N s) (rdA (tyAft N s))) := by
  intro N
  induction N with
  | zero => intro s h; omega
  | succ N ih =>
    intro s hN hl
    have hh : Hooks.Ok Tryz.prog gT (tyHk N) := mkHooks_ok (all_cons kindsT_hook (all_cons cp_hook all_nil)) (all_cons (ty_hook ih) (all_cons num_hook all_nil)) all_nil
    refine FuncJ.mono (K := fun o => o = ⟨tyEnd (N + 1) s, rdA (tyAft (N + 1) s)⟩) ?_ fun o ho => by subst ho; exact hpIs_self rfl
    have hbe : (tyEnd (N + 1) s).bnd 1 0 = true := by
      unfold tyEnd
      split
      · simp [AEnd.bnd, AV.still_bnd, encD_still]
      · rfl
    refine FuncJ.fz (n := 1) (nf := 0) (k := 5) ?_ rfl rfl (Nat.le_refl _) (Nat.le_refl _) (by simp [rdA, ABlk.bnd, AV.bndL, AV.bnd]) hbe
    refine FuncJ.run (el := els) (mu := mu0) (hk := tyHk N) hmix hh (n := 60) ?_
    show runT (tyHk N) 60 75 [.ptr 0 0] (rdA s) _
    rw [ty_top]
    have good : ∀ t r, rdF (N + 1) s = (t, r, true) → AEnd.returned (encD t) = tyEnd (N + 1) s ∧ r = tyAft (N + 1) s := by
      intro t r h
      unfold tyEnd tyAft rdB rdT rdR
      rw [h]; exact ⟨rfl, rfl⟩
    have bad : ∀ r, (rdF (N + 1) s).2.2 = false → pdF (N + 1) s = r → AEnd.panicked [(AV.iface 117 (AV.agg [AV.int .i64 8]), false)] = tyEnd (N + 1) s ∧ r = tyAft (N + 1) s := by
      intro r h e
      unfold tyEnd tyAft rdB
      rw [h]; exact ⟨rfl, e.symm⟩
    simp only [eq_self, true_and, and_true, AV.str.injEq]
    refine bothR_bool (fun hU => good zeroT _ ?_) fun hU => ?_
    · simp only [rdF, hU, if_true]
    rw [cutP_no hU]
    refine bothR_bool (fun hI => good (.mk 1 0 true []) _ ?_) fun hI => ?_
    · simp only [rdF, hU, hI, if_true, Bool.false_eq_true, if_false]
    rw [cutP_no hI]
    refine bothR_bool (fun hQ => ⟨?_, bothR_bool (fun hn => good (varT (rnV (cutP s [39]))) _ ?_) fun hn => bad _ ?_ ?_⟩) fun hQ => ?_
    · have := cutP_len s [39]; omega
    · simp only [rdF, hU, hI, hQ, hn, if_true, Bool.false_eq_true, if_false]
    · simp only [rdF, hU, hI, hQ, hn, if_true, Bool.false_eq_true, if_false]
    · simp only [pdF, hQ, if_true]
    rw [cutP_no hQ]
    refine bothR_bool (fun hB => ?_) fun hB => ?_
    · have hlt := cutP_lt hB (by simp)
      simp only [List.length_singleton] at hlt
      refine ⟨⟨by omega, by omega⟩, bothR_bool (fun h1 => bothR_nbool (fun h2 => bad _ ?_ ?_) fun h2 => ?_) fun h1 => bad _ ?_ ?_⟩
      · simp only [rdF, rdB_eq, rdR_eq, rdT_eq, hU, hI, hQ, hB, h1, h2, if_true, Bool.false_eq_true, if_false]
      · rw [cutP_no h2]
        simp only [pdF, hQ, hB, h1, if_true, Bool.false_eq_true, if_false]
      · have := good (.mk 4 0 false [rdT N (cutP s [91])]) (cutP (rdR N (cutP s [91])) [93]) (by simp only [rdF, rdB_eq, rdR_eq, rdT_eq, hU, hI, hQ, hB, h1, h2, if_true, Bool.false_eq_true, if_false])
        rw [← this.1, ← this.2]
        simp only [encD, tk_mk, tn_mk, tb_mk, tl_mk, encL_1, and_true]
      · simp only [rdF, rdB_eq, rdR_eq, rdT_eq, hU, hI, hQ, hB, h1, if_true, Bool.false_eq_true, if_false]
      · simp only [pdF, hQ, hB, h1, if_true, Bool.false_eq_true, if_false]
    rw [cutP_no hB]
    refine bothR_nbool (fun hP => bad _ ?_ ?_) fun hP => ?_
    · simp only [rdF, hU, hI, hQ, hB, hP, Bool.false_eq_true, if_false]
    · rw [cutP_no hP]
      simp only [pdF, hQ, hB, hP, Bool.false_eq_true, if_false]
    have hlt := cutP_lt hP (by simp)
    simp only [List.length_singleton] at hlt
    have hrl := rdR_len N (cutP s [40])
    refine ⟨⟨by omega, by omega⟩, bothR_bool (fun h1 => ?_) fun h1 => bad _ ?_ ?_⟩
    rotate_left
    · simp only [rdF, rdB_eq, rdR_eq, rdT_eq, hU, hI, hQ, hB, hP, h1, if_true, Bool.false_eq_true, if_false]
    · simp only [pdF, hQ, hB, hP, h1, if_true, Bool.false_eq_true, if_false]
    have br : ∀ k m, opF (rdR N (cutP s [40])) = some (k, m) → ((m.length < N ∧ m.length ≤ 2000) ∧ bothR (rdB N m)
        (bothR (!hasP (rdR N m) [41]) (AEnd.panicked [(AV.iface 117 (AV.agg [AV.int .i64 8]), false)] = tyEnd (N + 1) s ∧ cutP (rdR N m) [41] = tyAft (N + 1) s)
          (AEnd.returned (encD (.mk k 0 false [rdT N (cutP s [40]), rdT N m])) = tyEnd (N + 1) s ∧ cutP (rdR N m) [41] = tyAft (N + 1) s))
        (AEnd.panicked [(AV.iface 117 (AV.agg [AV.int .i64 8]), false)] = tyEnd (N + 1) s ∧ pdF N m = tyAft (N + 1) s)) := by
      intro k m hop
      have hm := opF_len hop
      refine ⟨⟨by omega, by omega⟩, bothR_bool (fun h2 => bothR_nbool (fun h3 => bad _ ?_ ?_) fun h3 => good (.mk k 0 false [rdT N (cutP s [40]), rdT N m]) _ ?_) fun h2 => bad _ ?_ ?_⟩
      · simp only [rdF, rdB_eq, rdR_eq, rdT_eq, hU, hI, hQ, hB, hP, h1, h2, h3, hop, if_true, Bool.false_eq_true, if_false]
      · rw [cutP_no h3]
        simp only [pdF, hQ, hB, hP, h1, h2, hop, if_true, Bool.false_eq_true, if_false]
      · simp only [rdF, rdB_eq, rdR_eq, rdT_eq, hU, hI, hQ, hB, hP, h1, h2, h3, hop, if_true, Bool.false_eq_true, if_false]
      · simp only [rdF, rdB_eq, rdR_eq, rdT_eq, hU, hI, hQ, hB, hP, h1, h2, hop, if_true, Bool.false_eq_true, if_false]
      · simp only [pdF, hQ, hB, hP, h1, h2, hop, if_true, Bool.false_eq_true, if_false]
    simp only [encD, tk_mk, tn_mk, tb_mk, tl_mk, encL_two] at br
    generalize hR : rdR N (cutP s [40]) = R at *
    refine bothR_bool (fun g1 => br 2 _ ?_) fun g1 => ?_
    · simp only [opF, g1, if_true]
    rw [cutP_no g1]
    refine bothR_bool (fun g2 => br 3 _ ?_) fun g2 => ?_
    · simp only [opF, g1, g2, if_true, Bool.false_eq_true, if_false]
    rw [cutP_no g2]
    refine bothR_bool (fun g3 => br 5 _ ?_) fun g3 => ?_
    · simp only [opF, g1, g2, g3, if_true, Bool.false_eq_true, if_false]
    rw [cutP_no g3]
    refine bad _ ?_ ?_
    · simp only [rdF, rdB_eq, rdR_eq, rdT_eq, hR, opF, hU, hI, hQ, hB, hP, h1, g1, g2, g3, if_true, Bool.false_eq_true, if_false]
    · simp only [pdF, rdB_eq, rdR_eq, hR, opF, hQ, hB, hP, h1, g1, g2, g3, if_true, Bool.false_eq_true, if_false]

theorem rd_hook {N : Nat} (ih : ∀ s, s.length < N → s.length ≤ 2000 → QT 77 [.str s] (.tup [encD (rdT N s), .str (rdR N s), .bool (rdB N s)])) : QSpec.Ok Tryz.prog gT 77 (rdQ N) := by
  intro args K h
  unfold rdQ at h
  split at h
  · exact ⟨_, ih _ h.1.1 h.1.2, h.2⟩
  · exact h.elim
theorem rn_hookT : QSpec.Ok Tryz.prog gT 112 rnQ := by
  intro args K h
  unfold rnQ at h
  split at h
  · exact ⟨_, rnum_ok _ h.1, h.2⟩
  · exact h.elim

theorem rread_ok : ∀ (N : Nat) (s : List UInt8), s.length < N → s.length ≤ 2000 → QT 77 [.str s] (.tup [encD (rdT N s), .str (rdR N s), .bool (rdB N s)]) := by
  intro N
  induction N with
  | zero => intro s h; omega
  | succ N ih =>
    intro s hN hl
    have hh : Hooks.Ok Tryz.prog gT (rdHk N) := mkHooks_ok (all_cons (rd_hook ih) (all_cons rn_hookT (all_cons af_hook (all_cons var_hook.lift all_nil)))) all_nil all_nil
    refine QT.by (hk := rdHk N) rfl (by simp [AV.still, AV.stillL, encD_still]) hh ?_
    rw [rd_top]
    have fin : ∀ t r b, rdF (N + 1) s = (t, r, b) → AV.tup [encD t, .str r, .bool b] = AV.tup [encD (rdT (N + 1) s), .str (rdR (N + 1) s), .bool (rdB (N + 1) s)] := by
      intro t r b h
      unfold rdB rdT rdR
      rw [h]
    refine bothR_bool (fun hU => fin zeroT _ _ ?_) fun hU => ?_
    · simp only [rdF, hU, if_true]
    refine bothR_bool (fun hI => fin (.mk 1 0 true []) _ _ ?_) fun hI => ?_
    · simp only [rdF, hU, hI, if_true, Bool.false_eq_true, if_false]
    refine bothR_bool (fun hQ => ⟨?_, fin (varT (rnV (cutP s [39]))) _ _ ?_⟩) fun hQ => ?_
    · have := cutP_len s [39]; omega
    · simp only [rdF, hU, hI, hQ, if_true, Bool.false_eq_true, if_false]
    refine bothR_bool (fun hB => ?_) fun hB => ?_
    · have hlt := cutP_lt hB (by simp)
      simp only [List.length_singleton] at hlt
      refine ⟨⟨by omega, by omega⟩, bothR_nbool (fun h1 => fin (rdT N (cutP s [91])) _ _ ?_) fun h1 => ?_⟩
      · simp only [rdF, rdB_eq, rdR_eq, rdT_eq, hU, hI, hQ, hB, h1, if_true, Bool.false_eq_true, if_false]
      · have := fin (.mk 4 0 false [rdT N (cutP s [91])]) (cutP (rdR N (cutP s [91])) [93]) (hasP (rdR N (cutP s [91])) [93]) (by simp only [rdF, rdB_eq, rdR_eq, rdT_eq, hU, hI, hQ, hB, h1, if_true, Bool.false_eq_true, if_false])
        simp only [encD, tk_mk, tn_mk, tb_mk, tl_mk, encL_1] at this ⊢
        exact this
    refine bothR_nbool (fun hP => fin zeroT _ _ ?_) fun hP => ?_
    · simp only [rdF, hU, hI, hQ, hB, hP, Bool.false_eq_true, if_false]
    have hlt := cutP_lt hP (by simp)
    simp only [List.length_singleton] at hlt
    have hrl := rdR_len N (cutP s [40])
    refine ⟨⟨by omega, by omega⟩, bothR_nbool (fun h1 => fin (rdT N (cutP s [40])) _ _ ?_) fun h1 => ?_⟩
    · simp only [rdF, rdB_eq, rdR_eq, rdT_eq, hU, hI, hQ, hB, hP, h1, if_true, Bool.false_eq_true, if_false]
    have br : ∀ k m, opF (rdR N (cutP s [40])) = some (k, m) → ((m.length < N ∧ m.length ≤ 2000) ∧ bothR (!rdB N m)
        (AV.tup [encD (rdT N (cutP s [40])), .str s, .bool false] = AV.tup [encD (rdT (N + 1) s), .str (rdR (N + 1) s), .bool (rdB (N + 1) s)])
        (AV.tup [encD (.mk k 0 false [rdT N (cutP s [40]), rdT N m]), .str (cutP (rdR N m) [41]), .bool (hasP (rdR N m) [41])] = AV.tup [encD (rdT (N + 1) s), .str (rdR (N + 1) s), .bool (rdB (N + 1) s)])) := by
      intro k m hop
      have hm := opF_len hop
      refine ⟨⟨by omega, by omega⟩, bothR_nbool (fun h2 => fin _ _ _ ?_) fun h2 => fin _ _ _ ?_⟩
      · simp only [rdF, rdB_eq, rdR_eq, rdT_eq, hU, hI, hQ, hB, hP, h1, h2, hop, if_true, Bool.false_eq_true, if_false]
      · simp only [rdF, rdB_eq, rdR_eq, rdT_eq, hU, hI, hQ, hB, hP, h1, h2, hop, if_true, Bool.false_eq_true, if_false]
    simp only [encD, tk_mk, tn_mk, tb_mk, tl_mk, encL_two] at br
    cases g1 : hasP (rdR N (cutP s [40])) [32, 42, 32] with
    | true => exact br 2 _ (by simp only [opF, g1, if_true])
    | false =>
      cases g2 : hasP (rdR N (cutP s [40])) [32, 43, 32] with
      | true => exact br 3 _ (by simp only [opF, g1, g2, if_true, Bool.false_eq_true, if_false])
      | false =>
        cases g3 : hasP (rdR N (cutP s [40])) [32, 45, 62, 32] with
        | true => exact br 5 _ (by simp only [opF, g1, g2, g3, if_true, Bool.false_eq_true, if_false])
        | false =>
          exact fin (rdT N (cutP s [40])) _ _ (by simp only [rdF, rdB_eq, rdR_eq, rdT_eq, opF, hU, hI, hQ, hB, hP, h1, g1, g2, g3, if_true, Bool.false_eq_true, if_false])

end Go.Proofs.YtnmolpkkemljoaaGreatDoor
end
namespace Kd
open Go Go.Am Go.Proofs.YtnmolpkkemljoaaGreatDoor
/-- What Parse hands back. -/
def parE (s : List UInt8) : Int := if 1000 < s.length then 3 else if rdB 1300 s = true ∧ rdR 1300 s = [] then (if validB (rdT 1300 s) = true then 0 else 9) else 8
def parT (s : List UInt8) : Ty := if parE s = 0 then rdT 1300 s else zeroT
end Kd
noncomputable section
namespace Go.Proofs.YtnmolpkkemljoaaGreatDoor
open Go Go.Am Kd
def parV (s : List UInt8) : AV := .tup [encD (parT s), .int .i64 (parE s)]

theorem par_cases (s : List UInt8) : (1000 < s.length ∧ parE s = 3 ∧ parT s = zeroT) ∨ (s.length ≤ 1000 ∧ ¬ (rdB 1300 s = true ∧ rdR 1300 s = []) ∧ parE s = 8 ∧ parT s = zeroT) ∨
    (s.length ≤ 1000 ∧ rdB 1300 s = true ∧ rdR 1300 s = [] ∧ validB (rdT 1300 s) = false ∧ parE s = 9 ∧ parT s = zeroT) ∨ (s.length ≤ 1000 ∧ rdB 1300 s = true ∧ rdR 1300 s = [] ∧ validB (rdT 1300 s) = true ∧ parE s = 0 ∧ parT s = rdT 1300 s) := by
  by_cases h1 : 1000 < s.length
  · exact .inl ⟨h1, by simp [parE, h1], by simp [parT, parE, h1]⟩
  · by_cases h2 : rdB 1300 s = true ∧ rdR 1300 s = []
    · cases h3 : validB (rdT 1300 s) with
      | false => exact .inr (.inr (.inl ⟨by omega, h2.1, h2.2, rfl, by simp [parE, h1, h2, h3], by simp [parT, parE, h1, h2, h3]⟩))
      | true => exact .inr (.inr (.inr ⟨by omega, h2.1, h2.2, rfl, by simp [parE, h1, h2, h3], by simp [parT, parE, h1, h2, h3]⟩))
    · exact .inr (.inl ⟨by omega, h2, by simp [parE, h1, h2], by simp [parT, parE, h1, h2]⟩)

theorem kpar_ok (s : List UInt8) : QT 24 [.str s] (parV s) := by
  have hh : Hooks.Ok Tryz.prog gT paHk := mkHooks_ok (all_cons valid_hook.lift all_nil) (all_cons (ty_hook (kty_ok 1300)) all_nil) all_nil
  refine QT.by (hk := paHk) rfl (by simp [parV, AV.still, AV.stillL, encD_still]) hh ?_
  unfold parV
  rw [pa_top]
  simp only [iC, ex_enc, Ty.eta]
  rcases par_cases s with ⟨h1, h2, h3⟩ | ⟨h1, h0, h2, h3⟩ | ⟨h1, hb, hr, hv, h2, h3⟩ | ⟨h1, hb, hr, hv, h2, h3⟩
  · rw [h2, h3]
    exact bothR_ndec (fun _ => rfl) fun h => by omega
  · rw [h2, h3]
    refine bothR_ndec (fun h => absurd (by omega) h) fun _ => ⟨⟨by omega, by omega⟩, bothR_bool (fun hb => bothR_ndec (fun _ => rfl) fun hr => absurd ⟨hb, hr⟩ h0) fun _ => rfl⟩
  · rw [h2, h3]
    have hc := rd_cnt 1300 s hb
    refine bothR_ndec (fun h => absurd (by omega) h) fun _ => ⟨⟨by omega, by omega⟩, ?_⟩
    rw [hb, hv]
    exact bothR_ndec (fun h => absurd hr h) fun _ => ⟨by omega, rfl⟩
  · rw [h2, h3]
    have hc := rd_cnt 1300 s hb
    refine bothR_ndec (fun h => absurd (by omega) h) fun _ => ⟨⟨by omega, by omega⟩, ?_⟩
    rw [hb, hv]
    exact bothR_ndec (fun h => absurd hr h) fun _ => ⟨by omega, rfl⟩

theorem rpar_ok (s : List UInt8) : QT 25 [.str s] (parV s) := by
  have hh : Hooks.Ok Tryz.prog gT rpaHk := mkHooks_ok (all_cons (rd_hook (rread_ok 1300)) (all_cons type_hook.lift all_nil)) all_nil all_nil
  refine QT.by (hk := rpaHk) rfl (by simp [parV, AV.still, AV.stillL, encD_still]) hh ?_
  unfold parV
  rw [rpa_top]
  simp only [iC, ex_enc, Ty.eta]
  rcases par_cases s with ⟨h1, h2, h3⟩ | ⟨h1, h0, h2, h3⟩ | ⟨h1, hb, hr, hv, h2, h3⟩ | ⟨h1, hb, hr, hv, h2, h3⟩
  · rw [h2, h3]
    exact bothR_dec (fun _ => rfl) fun h => absurd (by omega) h
  · rw [h2, h3]
    refine bothR_dec (fun h => by omega) fun _ => ⟨⟨by omega, by omega⟩, bothR_nbool (fun _ => rfl) fun hb => bothR_ndec (fun _ => rfl) fun hr => absurd ⟨hb, hr⟩ h0⟩
  · rw [h2, h3]
    have hc := rd_cnt 1300 s hb
    refine bothR_dec (fun h => by omega) fun _ => ⟨⟨by omega, by omega⟩, ?_⟩
    rw [hb, hv]
    exact bothR_ndec (fun h => absurd hr h) fun _ => ⟨by omega, rfl⟩
  · rw [h2, h3]
    have hc := rd_cnt 1300 s hb
    refine bothR_dec (fun h => by omega) fun _ => ⟨⟨by omega, by omega⟩, ?_⟩
    rw [hb, hv]
    exact bothR_ndec (fun h => absurd hr h) fun _ => ⟨by omega, rfl⟩

end Go.Proofs.YtnmolpkkemljoaaGreatDoor
end
end

section
namespace Kd
open Go.Am
/-- The same, by the reference. -/
def parE2 (s : List UInt8) : Int := parE s
def parT2 (s : List UInt8) : Ty := parT s
end Kd
noncomputable section
namespace Go.Proofs.YtnmolpkkemljoaaGreatDoor
open Go Go.Am Kd
def parQ : QSpec
  | [.str s], K => K (parV s)
  | _, _ => False
def parQ2 : QSpec
  | [.str s], K => K (.tup [encD (parT2 s), .int .i64 (parE2 s)])
  | _, _ => False
def readsHk : Hooks := hooks [(15, closed.aliveQ), (24, parQ), (25, parQ2), (23, smeQ)] [] []
end Go.Proofs.YtnmolpkkemljoaaGreatDoor
end
end

section
noncomputable section
namespace Go.Proofs.YtnmolpkkemljoaaGreatDoor
open Go Go.Am Kd
set_option maxRecDepth 100000

theorem reads_top (s : List UInt8) : (runT readsHk 60 4 [.str s] AH.nil (retIs Tryz.prog 5 (.bool true))) = ( bothR (decide ((1200 : Int) < iC (List.length s))) (AV.bool true = AV.bool true) (∃ l, encL (Ty.l (parT s)) = encL l ∧ ∃ l_1, encL (Ty.l (parT2 s)) = encL l_1 ∧ (cnt (Ty.mk (Ty.kind (parT s)) (Ty.n (parT s)) (Ty.nl (parT s)) l) ≤ 1000 ∧ cnt (Ty.mk (Ty.kind (parT2 s)) (Ty.n (parT2 s)) (Ty.nl (parT2 s)) l_1) ≤ 1000) ∧ bothR (sameB (Ty.mk (Ty.kind (parT s)) (Ty.n (parT s)) (Ty.nl (parT s)) l) (Ty.mk (Ty.kind (parT2 s)) (Ty.n (parT2 s)) (Ty.nl (parT2 s)) l_1))
 (bothR (decide (parE s = parE2 s)) (AV.bool true = AV.bool true) (AV.bool false = AV.bool true)) (AV.bool false = AV.bool true))) := by kernel_rfl

end Go.Proofs.YtnmolpkkemljoaaGreatDoor
end
end

section
set_option maxRecDepth 100000
noncomputable section
namespace Go.Proofs.YtnmolpkkemljoaaGreatDoor
open Go Go.Am Kd

theorem kpar_hook : QSpec.Ok Tryz.prog gT 24 parQ := by
  intro args K h
  unfold parQ at h
  split at h
  · exact ⟨_, kpar_ok _, h⟩
  · exact h.elim
theorem rpar_hook : QSpec.Ok Tryz.prog gT 25 parQ2 := by
  intro args K h
  unfold parQ2 at h
  split at h
  · exact ⟨_, rpar_ok _, h⟩
  · exact h.elim
theorem par_cnt (s : List UInt8) : cnt (parT s) ≤ 1000 := by
  rcases par_cases s with ⟨h1, h2, h3⟩ | ⟨h1, h0, h2, h3⟩ | ⟨h1, hb, hr, hv, h2, h3⟩ | ⟨h1, hb, hr, hv, h2, h3⟩
  · rw [h3]; simp [zeroT, cnt, cntL]
  · rw [h3]; simp [zeroT, cnt, cntL]
  · rw [h3]; simp [zeroT, cnt, cntL]
  · rw [h3]; have := ((valid_eq _).1 hv).2.1; omega

theorem reads_ok (s : List UInt8) : QT 4 [.str s] (.bool true) := by
  have hh : Hooks.Ok Tryz.prog gT readsHk := mkHooks_ok (all_cons closed.alive_hook.lift (all_cons kpar_hook (all_cons rpar_hook (all_cons sme_hook all_nil)))) all_nil all_nil
  refine QT.by (hk := readsHk) rfl rfl hh ?_
  rw [reads_top]
  have e1 : parT2 s = parT s := rfl
  have e2 : parE2 s = parE s := rfl
  have hc := par_cnt s
  simp only [e1, e2, ex_enc, Ty.eta, eq_self, hc, sameB_refl, decide_true, bothR, and_self]
  exact bothR_bool (fun _ => trivial) fun _ => trivial

end Go.Proofs.YtnmolpkkemljoaaGreatDoor
end
end

section
namespace Go.Proofs.YtnmolpkkemljoaaGreatDoor
open Go.ChangeShapes Go.WideShapes Go.ChangeAt Go.RowKit

theorem own : ownKnob Tryz.prog.godebug = none := by kernel_rfl

def cellsOf {H : Type} : DataW H → Array Value
  | .agg l => (l.map fun | .lit (.int k n) => Value.int k n | _ => undef).toArray
  | _ => #[]

def wordOf {H : Type} : DataW H → Array Value
  | .iface _ (.ptr (.agg [.lit (.string l)])) => #[.string ⟨l.toArray⟩]
  | _ => #[]

noncomputable def laidWorld (os : Os) : World :=
  let N := (World.settled Tryz.prog os).heap.size
  let w0 := World.holding Tryz.prog os ⟨#[.cells (wordOf (Rows.laid_strconv_ErrSyntax (H := Unit))) 203, .cells (wordOf (Rows.laid_strconv_ErrRange (H := Unit))) 203], #[], []⟩
  let put (h : Array Obj) (g : Nat) (cs : Array Value) : Array Obj := h.modify g fun
    | .cells _ t frozen => .cells cs t frozen
    | o => o
  let h0 := put (put w0.heap 1 #[.iface 201 (.pointer (some ⟨N, 0, none⟩))]) 2 #[.iface 201 (.pointer (some ⟨N + 1, 0, none⟩))]
  let h1 := put h0 0 (cellsOf (Rows.laid_internal_strconv_uint64pow10 (H := Unit)))
  let h2 := put h1 3 (cellsOf (Rows.laid_math_bits_deBruijn32tab (H := Unit)))
  let h3 := put h2 4 (cellsOf (Rows.laid_math_bits_deBruijn64tab (H := Unit)))
  { w0 with heap := h3 }

set_option maxRecDepth 1000000 in
theorem laid_met (os : Os) (args : Array Value) : laidMet Tryz.prog Rows.kindNamesRow.laid ((laidWorld os).forCall (fun _ _ => 0) ⟨#[], args, []⟩).memory :=
  laidMet_of_run' 8 (by kernel_rfl) (by kernel_rfl)

end Go.Proofs.YtnmolpkkemljoaaGreatDoor
end

section
noncomputable section
namespace Go.Proofs.YtnmolpkkemljoaaGreatDoor
open Go Go.Am Go.RowKit Go.ChangeShapes Go.WideShapes Go.ChangeAt

theorem pow10_tab {W : World} (h : laidMet Tryz.prog Rows.kindNamesRow.laid W) : Lib.TabIs Tryz.prog W "internal/strconv.uint64pow10" .u64 Lib.pow10Tab := by
  obtain ⟨g, t, cs, fuel, p, hg, ht, hv, hd⟩ := Lib.laidMet.reads h (.tail _ (.tail _ (.head _)))
  obtain rfl := Option.some.inj ((show Tryz.prog.globalNamed "internal/strconv.uint64pow10" = some 0 by kernel_rfl).symm.trans hg)
  obtain rfl := Option.some.inj ((show (Tryz.prog.globals[0]?).map (·.type) = some 190 by kernel_rfl).symm.trans ht)
  unfold Lib.TabIs
  have e := Lib.cells_of_tab (k := .u64) (zs := Lib.pow10Tab) (n := 20) (e := 166) (by kernel_rfl) (by kernel_rfl) (by kernel_rfl) (by kernel_rfl) hd
  rw [hv, ← e]

theorem gT_met {W : World} (h : laidMet Tryz.prog Rows.kindNamesRow.laid W) : ∀ g o x, gT g o = some x → ∃ v, W.cell? ⟨g, o, none⟩ = some v ∧ ∀ S : Sh, VRel S x v := by
  intro g o x hx
  unfold gT at hx
  split at hx
  · rename_i hg
    simp only [beq_iff_eq] at hg
    subst hg
    split at hx
    · rename_i n hn
      cases hx
      rw [nthR_eq] at hn
      have ho : o < 20 := by
        have := (List.getElem?_eq_some_iff.1 hn).1
        simpa [pow10] using this
      have hc := (pow10_tab h).cell (show Tryz.prog.globalNamed "internal/strconv.uint64pow10" = some 0 by kernel_rfl) o (by rw [Lib.pow10Tab_length]; exact ho)
      rw [Lib.pow10Tab_at o ho] at hc
      have : n = 10 ^ o := by
        have key : ∀ i : Nat, i < 20 → pow10[i]? = some (10 ^ i) := by decide
        rw [key o ho] at hn
        exact (Option.some.inj hn).symm
      subst this
      exact ⟨_, hc, fun S => .int _ _⟩
    · cases hx
  · cases hx

end Go.Proofs.YtnmolpkkemljoaaGreatDoor
end
end
