/-
  What the proof is built of: KindWidths. The conditions of K12, evaluated. The conditions of K12, evaluated: of and v. What is valid, and what is ground, in plain words; own and data of what is made of parts. KindWidths returns true. A world in which the listed variables hold what their initialisers lay. Conditions: none.
-/
import Derived.Test.YtnmolpkkemljoaaGreatDoorM6
import Derived.Test.YtnmolpkkemljoaaGreatDoorM7
import Derived.Test.YtnmolpkkemljoaaGreatDoorCards
import Derived.Test.YtnmolpkkemljoaaGreatDoorTie
import Derived.WalkKit
import Derived.ProofKit
import Derived.OpenShut
import Derived.Deep.DeepHandedRow
import Derived.Deep.DeepWitnessRowRef
import Derived.Lib.LaidTab
section
noncomputable section
namespace Go.Proofs.YtnmolpkkemljoaaGreatDoor
open Go Go.Am Kd
def ownQ0 : QSpec
  | [t], K => argTy t fun t => (cnt t ≤ 1000) ∧ K (.int .i64 (ownT t))
  | _, _ => False
def datQ0 : QSpec
  | [t], K => argTy t fun t => (cnt t ≤ 1000) ∧ K (.int .i64 (datT t))
  | _, _ => False
theorem own_hook0 : QSpec.Ok Tryz.prog g0 30 ownQ0 := by
  intro args K h'
  unfold ownQ0 at h'
  split at h'
  · obtain ⟨t, rfl, h1, h2⟩ := argTy_elim h'
    exact ⟨_, (od_ok t h1).1, h2⟩
  · exact h'.elim
theorem dat_hook0 : QSpec.Ok Tryz.prog g0 31 datQ0 := by
  intro args K h'
  unfold datQ0 at h'
  split at h'
  · obtain ⟨t, rfl, h1, h2⟩ := argTy_elim h'
    exact ⟨_, (od_ok t h1).2, h2⟩
  · exact h'.elim
def ofQ : QSpec
  | [.int .i64 k, .isl b none 0 xs], K => AV.stillL xs = true ∧ K (.agg [.int .i64 k, .int .i64 0, .isl b none 0 xs])
  | _, _ => False
def vQ : QSpec
  | [.int .i64 n], K => K (.agg [.int .i64 6, .int .i64 n, .isl true none 0 []])
  | _, _ => False
def widthsHk : Hooks := hooks [(14, weakQ 3 greatQ), (15, closed.aliveQ), (29, weakQ 3 ofQ), (32, vQ), (28, weakQ 3 groundQ), (30, weakQ 3 ownQ0), (31, weakQ 3 datQ0), (27, weakQ 3 checkQ)] [] []
end Go.Proofs.YtnmolpkkemljoaaGreatDoor
end
end

section
noncomputable section
namespace Go.Proofs.YtnmolpkkemljoaaGreatDoor
open Go Go.Am Kd
set_option maxRecDepth 100000

theorem widths_top (t u : Ty) : (runF widthsHk 60 6 [encD t, encD u] AH.nil (retIs Tryz.prog 5 (.bool true))) = (
    ∃ l,
      encL (Ty.l t) = encL l ∧
        ∃ l_1,
          encL (Ty.l u) = encL l_1 ∧
            bothR (greatB (Ty.mk (Ty.kind t) (Ty.n t) (Ty.nl t) l) || greatB (Ty.mk (Ty.kind u) (Ty.n u) (Ty.nl u) l_1)) (AV.bool true = AV.bool true)
              (∃ l,
                encL (Ty.l t) = encL l ∧
                  cnt (Ty.mk (Ty.kind t) (Ty.n t) (Ty.nl t) l) ≤ 1000 ∧
                    bothR (!groundB (Ty.mk (Ty.kind t) (Ty.n t) (Ty.nl t) l))
                      ((AV.stillL (encL (Ty.l t)) && true && (AV.stillL (encL (Ty.l u)) && true && true)) = true ∧
                        ∃ l,
                          [AV.agg [AV.int IntKind.i64 (Ty.kind t), AV.int IntKind.i64 (Ty.n t), AV.isl (Ty.nl t) none (0) (encL (Ty.l t))],
                                AV.agg [AV.int IntKind.i64 (Ty.kind u), AV.int IntKind.i64 (Ty.n u), AV.isl (Ty.nl u) none (0) (encL (Ty.l u))]] =
                              encL l ∧
                            cnt (Ty.mk ((2 : Int)) ((0 : Int)) false l) ≤ 1000 ∧
                              bothR (!groundB (Ty.mk ((2 : Int)) ((0 : Int)) false l))
                                (∃ l,
                                  [AV.agg [AV.int IntKind.i64 (Ty.kind t), AV.int IntKind.i64 (Ty.n t), AV.isl (Ty.nl t) none (0) (encL (Ty.l t))],
                                        AV.agg [AV.int IntKind.i64 (Ty.kind u), AV.int IntKind.i64 (Ty.n u), AV.isl (Ty.nl u) none (0) (encL (Ty.l u))]] =
                                      encL l ∧
                                    cnt (Ty.mk ((2 : Int)) ((0 : Int)) false l) ≤ 1000 ∧
                                      bothR (decide (ownT (Ty.mk ((2 : Int)) ((0 : Int)) false l) = Int.negSucc 0))
                                        (∃ l,
                                          [AV.agg [AV.int IntKind.i64 (Ty.kind t), AV.int IntKind.i64 (Ty.n t), AV.isl (Ty.nl t) none (0) (encL (Ty.l t))],
                                                AV.agg [AV.int IntKind.i64 (Ty.kind u), AV.int IntKind.i64 (Ty.n u), AV.isl (Ty.nl u) none (0) (encL (Ty.l u))]] =
                                              encL l ∧
                                            cnt (Ty.mk ((2 : Int)) ((0 : Int)) false l) ≤ 1000 ∧
                                              bothR (decide (datT (Ty.mk ((2 : Int)) ((0 : Int)) false l) = Int.negSucc 0)) (AV.bool true = AV.bool true)
                                                (AV.bool false = AV.bool true))
                                        (AV.bool false = AV.bool true))
                                (AV.bool false = AV.bool true))
                      (∃ l,
                        encL (Ty.l u) = encL l ∧
                          cnt (Ty.mk (Ty.kind u) (Ty.n u) (Ty.nl u) l) ≤ 1000 ∧
                            bothR (!groundB (Ty.mk (Ty.kind u) (Ty.n u) (Ty.nl u) l))
                              ((AV.stillL (encL (Ty.l t)) && true && (AV.stillL (encL (Ty.l u)) && true && true)) = true ∧
                                ∃ l,
                                  [AV.agg [AV.int IntKind.i64 (Ty.kind t), AV.int IntKind.i64 (Ty.n t), AV.isl (Ty.nl t) none (0) (encL (Ty.l t))],
                                        AV.agg [AV.int IntKind.i64 (Ty.kind u), AV.int IntKind.i64 (Ty.n u), AV.isl (Ty.nl u) none (0) (encL (Ty.l u))]] =
                                      encL l ∧
                                    cnt (Ty.mk ((2 : Int)) ((0 : Int)) false l) ≤ 1000 ∧
                                      bothR (!groundB (Ty.mk ((2 : Int)) ((0 : Int)) false l))
                                        (∃ l,
                                          [AV.agg [AV.int IntKind.i64 (Ty.kind t), AV.int IntKind.i64 (Ty.n t), AV.isl (Ty.nl t) none (0) (encL (Ty.l t))],
                                                AV.agg [AV.int IntKind.i64 (Ty.kind u), AV.int IntKind.i64 (Ty.n u), AV.isl (Ty.nl u) none (0) (encL (Ty.l u))]] =
                                              encL l ∧
                                            cnt (Ty.mk ((2 : Int)) ((0 : Int)) false l) ≤ 1000 ∧
                                              bothR (decide (ownT (Ty.mk ((2 : Int)) ((0 : Int)) false l) = Int.negSucc 0))
                                                (∃ l,
                                                  [AV.agg [AV.int IntKind.i64 (Ty.kind t), AV.int IntKind.i64 (Ty.n t), AV.isl (Ty.nl t) none (0) (encL (Ty.l t))],
                                                        AV.agg [AV.int IntKind.i64 (Ty.kind u), AV.int IntKind.i64 (Ty.n u), AV.isl (Ty.nl u) none (0) (encL (Ty.l u))]] =
                                                      encL l ∧
                                                    cnt (Ty.mk ((2 : Int)) ((0 : Int)) false l) ≤ 1000 ∧
                                                      bothR (decide (datT (Ty.mk ((2 : Int)) ((0 : Int)) false l) = Int.negSucc 0)) (AV.bool true = AV.bool true)
                                                        (AV.bool false = AV.bool true))
                                                (AV.bool false = AV.bool true))
                                        (AV.bool false = AV.bool true))
                              (∃ l,
                                encL (Ty.l t) = encL l ∧
                                  cnt (Ty.mk (Ty.kind t) (Ty.n t) (Ty.nl t) l) ≤ 1000 ∧
                                    ∃ l_2,
                                      encL (Ty.l t) = encL l_2 ∧
                                        cnt (Ty.mk (Ty.kind t) (Ty.n t) (Ty.nl t) l_2) ≤ 1000 ∧
                                          ∃ l_3,
                                            encL (Ty.l u) = encL l_3 ∧
                                              cnt (Ty.mk (Ty.kind u) (Ty.n u) (Ty.nl u) l_3) ≤ 1000 ∧
                                                ∃ l_4,
                                                  encL (Ty.l u) = encL l_4 ∧
                                                    cnt (Ty.mk (Ty.kind u) (Ty.n u) (Ty.nl u) l_4) ≤ 1000 ∧
                                                      (AV.stillL (encL (Ty.l t)) && true && (AV.stillL (encL (Ty.l u)) && true && true)) = true ∧
                                                        (AV.stillL (encL (Ty.l t)) && true && (AV.stillL (encL (Ty.l u)) && true && true)) = true ∧
                                                          (AV.stillL (encL (Ty.l t)) && true && true) = true ∧
                                                            ∃ l_5,
                                                              [AV.agg
                                                                      [AV.int IntKind.i64 (Ty.kind t), AV.int IntKind.i64 (Ty.n t),
                                                                        AV.isl (Ty.nl t) none (0) (encL (Ty.l t))],
                                                                    AV.agg
                                                                      [AV.int IntKind.i64 (Ty.kind u), AV.int IntKind.i64 (Ty.n u),
                                                                        AV.isl (Ty.nl u) none (0) (encL (Ty.l u))]] =
                                                                  encL l_5 ∧
                                                                cnt (Ty.mk ((2 : Int)) ((0 : Int)) false l_5) ≤ 1000 ∧
                                                                  bothR (decide (checkN (Ty.mk ((2 : Int)) ((0 : Int)) false l_5) = (0 : Int)))
                                                                    (∃ l_6,
                                                                      [AV.agg
                                                                              [AV.int IntKind.i64 (Ty.kind t), AV.int IntKind.i64 (Ty.n t),
                                                                                AV.isl (Ty.nl t) none (0) (encL (Ty.l t))],
                                                                            AV.agg
                                                                              [AV.int IntKind.i64 (Ty.kind u), AV.int IntKind.i64 (Ty.n u),
                                                                                AV.isl (Ty.nl u) none (0) (encL (Ty.l u))]] =
                                                                          encL l_6 ∧
                                                                        cnt (Ty.mk ((2 : Int)) ((0 : Int)) false l_6) ≤ 1000 ∧
                                                                          bothR
                                                                            (!decide
                                                                                (ownT (Ty.mk ((2 : Int)) ((0 : Int)) false l_6) =
                                                                                  IntKind.wrap IntKind.i64
                                                                                    (ownT (Ty.mk (Ty.kind t) (Ty.n t) (Ty.nl t) l) + ownT (Ty.mk (Ty.kind u) (Ty.n u) (Ty.nl u) l_3))))
                                                                            (AV.bool false = AV.bool true)
                                                                            (∃ l_7,
                                                                              [AV.agg
                                                                                      [AV.int IntKind.i64 (Ty.kind t), AV.int IntKind.i64 (Ty.n t),
                                                                                        AV.isl (Ty.nl t) none (0) (encL (Ty.l t))],
                                                                                    AV.agg
                                                                                      [AV.int IntKind.i64 (Ty.kind u), AV.int IntKind.i64 (Ty.n u),
                                                                                        AV.isl (Ty.nl u) none (0) (encL (Ty.l u))]] =
                                                                                  encL l_7 ∧
                                                                                cnt (Ty.mk ((2 : Int)) ((0 : Int)) false l_7) ≤ 1000 ∧
                                                                                  bothR
                                                                                    (!decide
                                                                                        (datT (Ty.mk ((2 : Int)) ((0 : Int)) false l_7) =
                                                                                          IntKind.wrap IntKind.i64
                                                                                            (datT (Ty.mk (Ty.kind t) (Ty.n t) (Ty.nl t) l_2) +
                                                                                              datT (Ty.mk (Ty.kind u) (Ty.n u) (Ty.nl u) l_4))))
                                                                                    (AV.bool false = AV.bool true)
                                                                                    (∃ l_8,
                                                                                      [AV.agg
                                                                                              [AV.int IntKind.i64 (Ty.kind t), AV.int IntKind.i64 (Ty.n t),
                                                                                                AV.isl (Ty.nl t) none (0) (encL (Ty.l t))],
                                                                                            AV.agg
                                                                                              [AV.int IntKind.i64 (Ty.kind u), AV.int IntKind.i64 (Ty.n u),
                                                                                                AV.isl (Ty.nl u) none (0) (encL (Ty.l u))]] =
                                                                                          encL l_8 ∧
                                                                                        cnt (Ty.mk ((3 : Int)) ((0 : Int)) false l_8) ≤ 1000 ∧
                                                                                          bothR
                                                                                            (!decide
                                                                                                (ownT (Ty.mk ((3 : Int)) ((0 : Int)) false l_8) =
                                                                                                  IntKind.wrap IntKind.i64
                                                                                                    (IntKind.wrap IntKind.i64
                                                                                                        ((1 : Int) + ownT (Ty.mk (Ty.kind t) (Ty.n t) (Ty.nl t) l)) +
                                                                                                      ownT (Ty.mk (Ty.kind u) (Ty.n u) (Ty.nl u) l_3))))
                                                                                            (AV.bool false = AV.bool true)
                                                                                            (∃ l_9,
                                                                                              [AV.agg
                                                                                                      [AV.int IntKind.i64 (Ty.kind t), AV.int IntKind.i64 (Ty.n t),
                                                                                                        AV.isl (Ty.nl t) none (0) (encL (Ty.l t))],
                                                                                                    AV.agg
                                                                                                      [AV.int IntKind.i64 (Ty.kind u), AV.int IntKind.i64 (Ty.n u),
                                                                                                        AV.isl (Ty.nl u) none (0) (encL (Ty.l u))]] =
                                                                                                  encL l_9 ∧
                                                                                                cnt (Ty.mk ((3 : Int)) ((0 : Int)) false l_9) ≤ 1000 ∧
                                                                                                  bothR
                                                                                                    (!decide
                                                                                                        (datT (Ty.mk ((3 : Int)) ((0 : Int)) false l_9) =
                                                                                                          IntKind.wrap IntKind.i64
                                                                                                            (datT (Ty.mk (Ty.kind t) (Ty.n t) (Ty.nl t) l_2) +
                                                                                                              datT (Ty.mk (Ty.kind u) (Ty.n u) (Ty.nl u) l_4))))
                                                                                                    (AV.bool false = AV.bool true)
                                                                                                    (∃ l_10,
                                                                                                      [AV.agg
                                                                                                              [AV.int IntKind.i64 (Ty.kind t), AV.int IntKind.i64 (Ty.n t),
                                                                                                                AV.isl (Ty.nl t) none (0) (encL (Ty.l t))],
                                                                                                            AV.agg
                                                                                                              [AV.int IntKind.i64 (Ty.kind u), AV.int IntKind.i64 (Ty.n u),
                                                                                                                AV.isl (Ty.nl u) none (0) (encL (Ty.l u))]] =
                                                                                                          encL l_10 ∧
                                                                                                        cnt (Ty.mk ((2 : Int)) ((0 : Int)) false l_10) ≤ 1000 ∧
                                                                                                          bothR (!groundB (Ty.mk ((2 : Int)) ((0 : Int)) false l_10))
                                                                                                            (AV.bool false = AV.bool true)
                                                                                                            (∃ l_11,
                                                                                                              [AV.agg
                                                                                                                      [AV.int IntKind.i64 (Ty.kind t), AV.int IntKind.i64 (Ty.n t),
                                                                                                                        AV.isl (Ty.nl t) none (0) (encL (Ty.l t))],
                                                                                                                    AV.agg
                                                                                                                      [AV.int IntKind.i64 (Ty.kind u), AV.int IntKind.i64 (Ty.n u),
                                                                                                                        AV.isl (Ty.nl u) none (0) (encL (Ty.l u))]] =
                                                                                                                  encL l_11 ∧
                                                                                                                cnt (Ty.mk ((3 : Int)) ((0 : Int)) false l_11) ≤ 1000 ∧
                                                                                                                  bothR (!groundB (Ty.mk ((3 : Int)) ((0 : Int)) false l_11))
                                                                                                                    (AV.bool false = AV.bool true)
                                                                                                                    (∃ l_12,
                                                                                                                      [AV.agg
                                                                                                                              [AV.int IntKind.i64 (Ty.kind t),
                                                                                                                                AV.int IntKind.i64 (Ty.n t),
                                                                                                                                AV.isl (Ty.nl t) none (0)
                                                                                                                                  (encL (Ty.l t))]] =
                                                                                                                          encL l_12 ∧
                                                                                                                        cnt (Ty.mk ((4 : Int)) ((0 : Int)) false l_12) ≤
                                                                                                                            1000 ∧
                                                                                                                          bothR
                                                                                                                            (decide
                                                                                                                              (checkN (Ty.mk ((4 : Int)) ((0 : Int)) false l_12) =
                                                                                                                                (0 : Int)))
                                                                                                                            (∃ l_13,
                                                                                                                              [AV.agg
                                                                                                                                      [AV.int IntKind.i64 (Ty.kind t),
                                                                                                                                        AV.int IntKind.i64 (Ty.n t),
                                                                                                                                        AV.isl (Ty.nl t) none (0)
                                                                                                                                          (encL (Ty.l t))]] =
                                                                                                                                  encL l_13 ∧
                                                                                                                                cnt (Ty.mk ((4 : Int)) ((0 : Int)) false l_13) ≤
                                                                                                                                    1000 ∧
                                                                                                                                  bothR
                                                                                                                                    (!decide
                                                                                                                                        (ownT
                                                                                                                                            (Ty.mk ((4 : Int)) ((0 : Int)) false
                                                                                                                                              l_13) =
                                                                                                                                          (2 : Int)))
                                                                                                                                    (AV.bool false = AV.bool true)
                                                                                                                                    (∃ l_14,
                                                                                                                                      [AV.agg
                                                                                                                                              [AV.int IntKind.i64 (Ty.kind t),
                                                                                                                                                AV.int IntKind.i64 (Ty.n t),
                                                                                                                                                AV.isl (Ty.nl t) none (0)
                                                                                                                                                  (encL (Ty.l t))]] =
                                                                                                                                          encL l_14 ∧
                                                                                                                                        cnt
                                                                                                                                              (Ty.mk ((4 : Int)) ((0 : Int)) false
                                                                                                                                                l_14) ≤
                                                                                                                                            1000 ∧
                                                                                                                                          bothR
                                                                                                                                            (!decide
                                                                                                                                                (datT
                                                                                                                                                    (Ty.mk ((4 : Int)) ((0 : Int))
                                                                                                                                                      false l_14) =
                                                                                                                                                  IntKind.wrap IntKind.i64
                                                                                                                                                    (ownT
                                                                                                                                                        (Ty.mk (Ty.kind t) (Ty.n t)
                                                                                                                                                          (Ty.nl t) l) +
                                                                                                                                                      datT
                                                                                                                                                        (Ty.mk (Ty.kind t) (Ty.n t)
                                                                                                                                                          (Ty.nl t) l_2))))
                                                                                                                                            (AV.bool false = AV.bool true)
                                                                                                                                            (bothR
                                                                                                                                              (decide
                                                                                                                                                ((0 : Int) ≤
                                                                                                                                                  ownT
                                                                                                                                                    (Ty.mk (Ty.kind t) (Ty.n t)
                                                                                                                                                      (Ty.nl t) l)))
                                                                                                                                              (bothR
                                                                                                                                                (decide
                                                                                                                                                  ((0 : Int) ≤
                                                                                                                                                    datT
                                                                                                                                                      (Ty.mk (Ty.kind t) (Ty.n t)
                                                                                                                                                        (Ty.nl t) l_2)))
                                                                                                                                                ((AV.stillL (encL (Ty.l t)) && true &&
                                                                                                                                                      (AV.stillL (encL (Ty.l u)) &&
                                                                                                                                                          true &&
                                                                                                                                                        true)) =
                                                                                                                                                    true ∧
                                                                                                                                                  ∃ l,
                                                                                                                                                    [AV.agg
                                                                                                                                                            [AV.int IntKind.i64
                                                                                                                                                                (Ty.kind t),
                                                                                                                                                              AV.int IntKind.i64
                                                                                                                                                                (Ty.n t),
                                                                                                                                                              AV.isl (Ty.nl t) none
                                                                                                                                                                (0)
                                                                                                                                                                (encL (Ty.l t))],
                                                                                                                                                          AV.agg
                                                                                                                                                            [AV.int IntKind.i64
                                                                                                                                                                (Ty.kind u),
                                                                                                                                                              AV.int IntKind.i64
                                                                                                                                                                (Ty.n u),
                                                                                                                                                              AV.isl (Ty.nl u) none
                                                                                                                                                                (0)
                                                                                                                                                                (encL (Ty.l u))]] =
                                                                                                                                                        encL l ∧
                                                                                                                                                      cnt
                                                                                                                                                            (Ty.mk ((5 : Int))
                                                                                                                                                              ((0 : Int)) false l) ≤
                                                                                                                                                          1000 ∧
                                                                                                                                                        bothR
                                                                                                                                                          (!groundB
                                                                                                                                                              (Ty.mk ((5 : Int))
                                                                                                                                                                ((0 : Int)) false l))
                                                                                                                                                          (true = true ∧
                                                                                                                                                            ∃ l,
                                                                                                                                                              [AV.agg
                                                                                                                                                                      [AV.int
                                                                                                                                                                          IntKind.i64
                                                                                                                                                                          (OfNat.ofNat
                                                                                                                                                                            6),
                                                                                                                                                                        AV.int
                                                                                                                                                                          IntKind.i64
                                                                                                                                                                          (OfNat.ofNat
                                                                                                                                                                            0),
                                                                                                                                                                        AV.isl true none
                                                                                                                                                                          (OfNat.ofNat
                                                                                                                                                                            0)
                                                                                                                                                                          []]] =
                                                                                                                                                                  encL l ∧
                                                                                                                                                                cnt
                                                                                                                                                                      (Ty.mk
                                                                                                                                                                        ((4 : Int))
                                                                                                                                                                        ((0 : Int))
                                                                                                                                                                        false l) ≤
                                                                                                                                                                    1000 ∧
                                                                                                                                                                  bothR
                                                                                                                                                                    (!groundB
                                                                                                                                                                        (Ty.mk
                                                                                                                                                                          ((4 : Int))
                                                                                                                                                                          ((0 : Int))
                                                                                                                                                                          false l))
                                                                                                                                                                    ((AV.stillL
                                                                                                                                                                              (encL
                                                                                                                                                                                (Ty.l
                                                                                                                                                                                  t)) &&
                                                                                                                                                                            true &&
                                                                                                                                                                          (AV.stillL
                                                                                                                                                                                (encL
                                                                                                                                                                                  (Ty.l
                                                                                                                                                                                    u)) &&
                                                                                                                                                                              true &&
                                                                                                                                                                            true)) =
                                                                                                                                                                        true ∧
                                                                                                                                                                      ∃ l,
                                                                                                                                                                        [AV.agg
                                                                                                                                                                                [AV.int
                                                                                                                                                                                    IntKind.i64
                                                                                                                                                                                    (Ty.kind
                                                                                                                                                                                      t),
                                                                                                                                                                                  AV.int
                                                                                                                                                                                    IntKind.i64
                                                                                                                                                                                    (Ty.n
                                                                                                                                                                                      t),
                                                                                                                                                                                  AV.isl
                                                                                                                                                                                    (Ty.nl
                                                                                                                                                                                      t)
                                                                                                                                                                                    none
                                                                                                                                                                                    (OfNat.ofNat
                                                                                                                                                                                      0)
                                                                                                                                                                                    (encL
                                                                                                                                                                                      (Ty.l
                                                                                                                                                                                        t))],
                                                                                                                                                                              AV.agg
                                                                                                                                                                                [AV.int
                                                                                                                                                                                    IntKind.i64
                                                                                                                                                                                    (Ty.kind
                                                                                                                                                                                      u),
                                                                                                                                                                                  AV.int
                                                                                                                                                                                    IntKind.i64
                                                                                                                                                                                    (Ty.n
                                                                                                                                                                                      u),
                                                                                                                                                                                  AV.isl
                                                                                                                                                                                    (Ty.nl
                                                                                                                                                                                      u)
                                                                                                                                                                                    none
                                                                                                                                                                                    (OfNat.ofNat
                                                                                                                                                                                      0)
                                                                                                                                                                                    (encL
                                                                                                                                                                                      (Ty.l
                                                                                                                                                                                        u))]] =
                                                                                                                                                                            encL l ∧
                                                                                                                                                                          cnt
                                                                                                                                                                                (Ty.mk
                                                                                                                                                                                  (Int.ofNat
                                                                                                                                                                                    5)
                                                                                                                                                                                  (Int.ofNat
                                                                                                                                                                                    0)
                                                                                                                                                                                  false
                                                                                                                                                                                  l) ≤
                                                                                                                                                                              OfNat.ofNat
                                                                                                                                                                                1000 ∧
                                                                                                                                                                            bothR
                                                                                                                                                                              (decide
                                                                                                                                                                                (ownT
                                                                                                                                                                                    (Ty.mk
                                                                                                                                                                                      (Int.ofNat
                                                                                                                                                                                        5)
                                                                                                                                                                                      (Int.ofNat
                                                                                                                                                                                        0)
                                                                                                                                                                                      false
                                                                                                                                                                                      l) =
                                                                                                                                                                                  Int.negSucc
                                                                                                                                                                                    0))
                                                                                                                                                                              (AV.bool
                                                                                                                                                                                  true =
                                                                                                                                                                                AV.bool
                                                                                                                                                                                  true)
                                                                                                                                                                              (AV.bool
                                                                                                                                                                                  false =
                                                                                                                                                                                AV.bool
                                                                                                                                                                                  true))
                                                                                                                                                                    (AV.bool false =
                                                                                                                                                                      AV.bool true))
                                                                                                                                                          (AV.bool false =
                                                                                                                                                            AV.bool true))
                                                                                                                                                (AV.bool false = AV.bool true))
                                                                                                                                              (AV.bool false = AV.bool true))))
                                                                                                                            (bothR
                                                                                                                              (decide
                                                                                                                                ((0 : Int) ≤
                                                                                                                                  ownT (Ty.mk (Ty.kind t) (Ty.n t) (Ty.nl t) l)))
                                                                                                                              (bothR
                                                                                                                                (decide
                                                                                                                                  ((0 : Int) ≤
                                                                                                                                    datT (Ty.mk (Ty.kind t) (Ty.n t) (Ty.nl t) l_2)))
                                                                                                                                ((AV.stillL (encL (Ty.l t)) && true &&
                                                                                                                                      (AV.stillL (encL (Ty.l u)) && true && true)) =
                                                                                                                                    true ∧
                                                                                                                                  ∃ l,
                                                                                                                                    [AV.agg
                                                                                                                                            [AV.int IntKind.i64 (Ty.kind t),
                                                                                                                                              AV.int IntKind.i64 (Ty.n t),
                                                                                                                                              AV.isl (Ty.nl t) none (0)
                                                                                                                                                (encL (Ty.l t))],
                                                                                                                                          AV.agg
                                                                                                                                            [AV.int IntKind.i64 (Ty.kind u),
                                                                                                                                              AV.int IntKind.i64 (Ty.n u),
                                                                                                                                              AV.isl (Ty.nl u) none (0)
                                                                                                                                                (encL (Ty.l u))]] =
                                                                                                                                        encL l ∧
                                                                                                                                      cnt (Ty.mk ((5 : Int)) ((0 : Int)) false l) ≤
                                                                                                                                          1000 ∧
                                                                                                                                        bothR
                                                                                                                                          (!groundB
                                                                                                                                              (Ty.mk ((5 : Int)) ((0 : Int)) false
                                                                                                                                                l))
                                                                                                                                          (true = true ∧
                                                                                                                                            ∃ l,
                                                                                                                                              [AV.agg
                                                                                                                                                      [AV.int IntKind.i64
                                                                                                                                                          (6),
                                                                                                                                                        AV.int IntKind.i64
                                                                                                                                                          (0),
                                                                                                                                                        AV.isl true none (0)
                                                                                                                                                          []]] =
                                                                                                                                                  encL l ∧
                                                                                                                                                cnt
                                                                                                                                                      (Ty.mk ((4 : Int)) ((0 : Int))
                                                                                                                                                        false l) ≤
                                                                                                                                                    1000 ∧
                                                                                                                                                  bothR
                                                                                                                                                    (!groundB
                                                                                                                                                        (Ty.mk ((4 : Int))
                                                                                                                                                          ((0 : Int)) false l))
                                                                                                                                                    ((AV.stillL (encL (Ty.l t)) &&
                                                                                                                                                            true &&
                                                                                                                                                          (AV.stillL (encL (Ty.l u)) &&
                                                                                                                                                              true &&
                                                                                                                                                            true)) =
                                                                                                                                                        true ∧
                                                                                                                                                      ∃ l,
                                                                                                                                                        [AV.agg
                                                                                                                                                                [AV.int IntKind.i64
                                                                                                                                                                    (Ty.kind t),
                                                                                                                                                                  AV.int IntKind.i64
                                                                                                                                                                    (Ty.n t),
                                                                                                                                                                  AV.isl (Ty.nl t) none
                                                                                                                                                                    (0)
                                                                                                                                                                    (encL (Ty.l t))],
                                                                                                                                                              AV.agg
                                                                                                                                                                [AV.int IntKind.i64
                                                                                                                                                                    (Ty.kind u),
                                                                                                                                                                  AV.int IntKind.i64
                                                                                                                                                                    (Ty.n u),
                                                                                                                                                                  AV.isl (Ty.nl u) none
                                                                                                                                                                    (0)
                                                                                                                                                                    (encL (Ty.l u))]] =
                                                                                                                                                            encL l ∧
                                                                                                                                                          cnt
                                                                                                                                                                (Ty.mk ((5 : Int))
                                                                                                                                                                  ((0 : Int)) false
                                                                                                                                                                  l) ≤
                                                                                                                                                              1000 ∧
                                                                                                                                                            bothR
                                                                                                                                                              (decide
                                                                                                                                                                (ownT
                                                                                                                                                                    (Ty.mk ((5 : Int))
                                                                                                                                                                      ((0 : Int))
                                                                                                                                                                      false l) =
                                                                                                                                                                  Int.negSucc 0))
                                                                                                                                                              (AV.bool true =
                                                                                                                                                                AV.bool true)
                                                                                                                                                              (AV.bool false =
                                                                                                                                                                AV.bool true))
                                                                                                                                                    (AV.bool false = AV.bool true))
                                                                                                                                          (AV.bool false = AV.bool true))
                                                                                                                                (AV.bool false = AV.bool true))
                                                                                                                              (AV.bool false = AV.bool true)))))))))
                                                                    (∃ l_6,
                                                                      [AV.agg
                                                                              [AV.int IntKind.i64 (Ty.kind t), AV.int IntKind.i64 (Ty.n t),
                                                                                AV.isl (Ty.nl t) none (0) (encL (Ty.l t))]] =
                                                                          encL l_6 ∧
                                                                        cnt (Ty.mk ((4 : Int)) ((0 : Int)) false l_6) ≤ 1000 ∧
                                                                          bothR (decide (checkN (Ty.mk ((4 : Int)) ((0 : Int)) false l_6) = (0 : Int)))
                                                                            (∃ l_7,
                                                                              [AV.agg
                                                                                      [AV.int IntKind.i64 (Ty.kind t), AV.int IntKind.i64 (Ty.n t),
                                                                                        AV.isl (Ty.nl t) none (0) (encL (Ty.l t))]] =
                                                                                  encL l_7 ∧
                                                                                cnt (Ty.mk ((4 : Int)) ((0 : Int)) false l_7) ≤ 1000 ∧
                                                                                  bothR (!decide (ownT (Ty.mk ((4 : Int)) ((0 : Int)) false l_7) = (2 : Int)))
                                                                                    (AV.bool false = AV.bool true)
                                                                                    (∃ l_8,
                                                                                      [AV.agg
                                                                                              [AV.int IntKind.i64 (Ty.kind t), AV.int IntKind.i64 (Ty.n t),
                                                                                                AV.isl (Ty.nl t) none (0) (encL (Ty.l t))]] =
                                                                                          encL l_8 ∧
                                                                                        cnt (Ty.mk ((4 : Int)) ((0 : Int)) false l_8) ≤ 1000 ∧
                                                                                          bothR
                                                                                            (!decide
                                                                                                (datT (Ty.mk ((4 : Int)) ((0 : Int)) false l_8) =
                                                                                                  IntKind.wrap IntKind.i64
                                                                                                    (ownT (Ty.mk (Ty.kind t) (Ty.n t) (Ty.nl t) l) +
                                                                                                      datT (Ty.mk (Ty.kind t) (Ty.n t) (Ty.nl t) l_2))))
                                                                                            (AV.bool false = AV.bool true)
                                                                                            (bothR (decide ((0 : Int) ≤ ownT (Ty.mk (Ty.kind t) (Ty.n t) (Ty.nl t) l)))
                                                                                              (bothR (decide ((0 : Int) ≤ datT (Ty.mk (Ty.kind t) (Ty.n t) (Ty.nl t) l_2)))
                                                                                                ((AV.stillL (encL (Ty.l t)) && true && (AV.stillL (encL (Ty.l u)) && true && true)) =
                                                                                                    true ∧
                                                                                                  ∃ l,
                                                                                                    [AV.agg
                                                                                                            [AV.int IntKind.i64 (Ty.kind t), AV.int IntKind.i64 (Ty.n t),
                                                                                                              AV.isl (Ty.nl t) none (0) (encL (Ty.l t))],
                                                                                                          AV.agg
                                                                                                            [AV.int IntKind.i64 (Ty.kind u), AV.int IntKind.i64 (Ty.n u),
                                                                                                              AV.isl (Ty.nl u) none (0) (encL (Ty.l u))]] =
                                                                                                        encL l ∧
                                                                                                      cnt (Ty.mk ((5 : Int)) ((0 : Int)) false l) ≤ 1000 ∧
                                                                                                        bothR (!groundB (Ty.mk ((5 : Int)) ((0 : Int)) false l))
                                                                                                          (true = true ∧
                                                                                                            ∃ l,
                                                                                                              [AV.agg
                                                                                                                      [AV.int IntKind.i64 (6),
                                                                                                                        AV.int IntKind.i64 (0),
                                                                                                                        AV.isl true none (0) []]] =
                                                                                                                  encL l ∧
                                                                                                                cnt (Ty.mk ((4 : Int)) ((0 : Int)) false l) ≤ 1000 ∧
                                                                                                                  bothR (!groundB (Ty.mk ((4 : Int)) ((0 : Int)) false l))
                                                                                                                    ((AV.stillL (encL (Ty.l t)) && true &&
                                                                                                                          (AV.stillL (encL (Ty.l u)) && true && true)) =
                                                                                                                        true ∧
                                                                                                                      ∃ l,
                                                                                                                        [AV.agg
                                                                                                                                [AV.int IntKind.i64 (Ty.kind t),
                                                                                                                                  AV.int IntKind.i64 (Ty.n t),
                                                                                                                                  AV.isl (Ty.nl t) none (0)
                                                                                                                                    (encL (Ty.l t))],
                                                                                                                              AV.agg
                                                                                                                                [AV.int IntKind.i64 (Ty.kind u),
                                                                                                                                  AV.int IntKind.i64 (Ty.n u),
                                                                                                                                  AV.isl (Ty.nl u) none (0)
                                                                                                                                    (encL (Ty.l u))]] =
                                                                                                                            encL l ∧
                                                                                                                          cnt (Ty.mk ((5 : Int)) ((0 : Int)) false l) ≤
                                                                                                                              1000 ∧
                                                                                                                            bothR
                                                                                                                              (decide
                                                                                                                                (ownT (Ty.mk ((5 : Int)) ((0 : Int)) false l) =
                                                                                                                                  Int.negSucc 0))
                                                                                                                              (AV.bool true = AV.bool true)
                                                                                                                              (AV.bool false = AV.bool true))
                                                                                                                    (AV.bool false = AV.bool true))
                                                                                                          (AV.bool false = AV.bool true))
                                                                                                (AV.bool false = AV.bool true))
                                                                                              (AV.bool false = AV.bool true))))
                                                                            (bothR (decide ((0 : Int) ≤ ownT (Ty.mk (Ty.kind t) (Ty.n t) (Ty.nl t) l)))
                                                                              (bothR (decide ((0 : Int) ≤ datT (Ty.mk (Ty.kind t) (Ty.n t) (Ty.nl t) l_2)))
                                                                                ((AV.stillL (encL (Ty.l t)) && true && (AV.stillL (encL (Ty.l u)) && true && true)) = true ∧
                                                                                  ∃ l,
                                                                                    [AV.agg
                                                                                            [AV.int IntKind.i64 (Ty.kind t), AV.int IntKind.i64 (Ty.n t),
                                                                                              AV.isl (Ty.nl t) none (0) (encL (Ty.l t))],
                                                                                          AV.agg
                                                                                            [AV.int IntKind.i64 (Ty.kind u), AV.int IntKind.i64 (Ty.n u),
                                                                                              AV.isl (Ty.nl u) none (0) (encL (Ty.l u))]] =
                                                                                        encL l ∧
                                                                                      cnt (Ty.mk ((5 : Int)) ((0 : Int)) false l) ≤ 1000 ∧
                                                                                        bothR (!groundB (Ty.mk ((5 : Int)) ((0 : Int)) false l))
                                                                                          (true = true ∧
                                                                                            ∃ l,
                                                                                              [AV.agg
                                                                                                      [AV.int IntKind.i64 (6), AV.int IntKind.i64 (0),
                                                                                                        AV.isl true none (0) []]] =
                                                                                                  encL l ∧
                                                                                                cnt (Ty.mk ((4 : Int)) ((0 : Int)) false l) ≤ 1000 ∧
                                                                                                  bothR (!groundB (Ty.mk ((4 : Int)) ((0 : Int)) false l))
                                                                                                    ((AV.stillL (encL (Ty.l t)) && true &&
                                                                                                          (AV.stillL (encL (Ty.l u)) && true && true)) =
                                                                                                        true ∧
                                                                                                      ∃ l,
                                                                                                        [AV.agg
                                                                                                                [AV.int IntKind.i64 (Ty.kind t), AV.int IntKind.i64 (Ty.n t),
                                                                                                                  AV.isl (Ty.nl t) none (0) (encL (Ty.l t))],
                                                                                                              AV.agg
                                                                                                                [AV.int IntKind.i64 (Ty.kind u), AV.int IntKind.i64 (Ty.n u),
                                                                                                                  AV.isl (Ty.nl u) none (0) (encL (Ty.l u))]] =
                                                                                                            encL l ∧
                                                                                                          cnt (Ty.mk ((5 : Int)) ((0 : Int)) false l) ≤ 1000 ∧
                                                                                                            bothR
                                                                                                              (decide
                                                                                                                (ownT (Ty.mk ((5 : Int)) ((0 : Int)) false l) = Int.negSucc 0))
                                                                                                              (AV.bool true = AV.bool true) (AV.bool false = AV.bool true))
                                                                                                    (AV.bool false = AV.bool true))
                                                                                          (AV.bool false = AV.bool true))
                                                                                (AV.bool false = AV.bool true))
                                                                              (AV.bool false = AV.bool true))))))) := by kernel_rfl

end Go.Proofs.YtnmolpkkemljoaaGreatDoor
end
end

section
noncomputable section
namespace Go.Proofs.YtnmolpkkemljoaaGreatDoor
open Go Go.Am Kd
set_option maxRecDepth 100000

theorem of_top (k : Int) (b : Bool) (xs : List AV) : (runF hk0 40 29 [.int .i64 k, .isl b none 0 xs] AH.nil (retIs Tryz.prog 5 (.agg [.int .i64 k, .int .i64 0, .isl b none 0 xs]))) = (
    AV.agg [AV.int IntKind.i64 k, AV.int IntKind.i64 (0), AV.isl b none (0) xs] =
      AV.agg [AV.int IntKind.i64 k, AV.int IntKind.i64 (0), AV.isl b none (0) xs]) := by kernel_rfl

theorem v_top (n : Int) : (runF hk0 40 32 [.int .i64 n] AH.nil (retIs Tryz.prog 5 (.agg [.int .i64 6, .int .i64 n, .isl true none 0 []]))) = (
    AV.agg [AV.int IntKind.i64 (6), AV.int IntKind.i64 n, AV.isl true none (0) []] =
      AV.agg [AV.int IntKind.i64 (6), AV.int IntKind.i64 n, AV.isl true none (0) []]) := by kernel_rfl

end Go.Proofs.YtnmolpkkemljoaaGreatDoor
end
end

section
namespace Kd
open Go.Am Go.Proofs.YtnmolpkkemljoaaGreatDoor

theorem depG_max : ∀ (l : List Ty) (n : Int), 0 ≤ n → depG l n = max n (depG l 0)
  | [], n, h => by simp only [depG]; omega
  | x :: xs, n, h => by
    have h1 := (dep_bd.1 x).1
    simp only [depG]
    rw [depG_max xs (max n (depT x)) (by omega), depG_max xs (max 0 (depT x)) (by omega)]
    omega

theorem deep_eq : (∀ (t : Ty) (m : Int), 0 ≤ m → deepT t m = min (depT t) (m + 1)) := by
  have key : ∀ (N : Nat), (∀ (t : Ty) (m : Int), SizeOf.sizeOf t < N → 0 ≤ m → deepT t m = min (depT t) (m + 1)) ∧
      (∀ (l : List Ty) (n m : Int), SizeOf.sizeOf l < N → 0 ≤ n → n ≤ m → deepG l n m = min (depG l n) m) := by
    intro N
    induction N with
    | zero => exact ⟨fun _ _ h => by omega, fun _ _ _ h => by omega⟩
    | succ N ih =>
      obtain ⟨ih1, ih2⟩ := ih
      constructor
      · intro t m ht hm
        cases t with
        | mk k n b l =>
          simp only [Ty.mk.sizeOf_spec] at ht
          simp only [deepT, depT, ih2 l 0 m (by omega) (by omega) hm]
          omega
      · intro l n m hl h1 h2
        cases l with
        | nil => simp only [deepG, depG]; omega
        | cons x xs =>
          simp only [List.cons.sizeOf_spec] at hl
          have hx := (dep_bd.1 x).1
          have hb := (dep_bd.2 xs (max n (depT x))).1
          simp only [deepG, depG]
          split
          · rw [ih1 x (m - 1) (by omega) (by omega), ih2 xs _ m (by omega) (by omega) (by omega)]
            rw [depG_max xs (max n (depT x)) (by omega), depG_max xs (max n (min (depT x) (m - 1 + 1))) (by omega)]
            omega
          · omega
  exact fun t m => (key (SizeOf.sizeOf t + 1)).1 t m (by omega)

mutual
/-- Has each type within a type the kind, the parts and the number that it must have? -/
def okT : Ty → Bool
  | .mk k n0 b l => decide (NodeOk (.mk k n0 b l)) && okL l
def okL : List Ty → Bool
  | [] => true
  | x :: xs => okT x && okL xs
end

theorem walk_eq : ∀ (t : Ty) (n : Int), walkB t n = true ↔ n + cnt t ≤ 60 ∧ okT t = true := by
  have key : ∀ (N : Nat), (∀ (t : Ty) (n : Int), SizeOf.sizeOf t < N → (walkB t n = true ↔ n + cnt t ≤ 60 ∧ okT t = true) ∧ (walkB t n = true → walkN t n = n + cnt t)) ∧
      (∀ (l : List Ty) (n : Int), SizeOf.sizeOf l < N → n ≤ 60 → (walkBL l n = true ↔ n + cntL l ≤ 60 ∧ okL l = true) ∧ (walkBL l n = true → walkNL l n = n + cntL l)) := by
    intro N
    induction N with
    | zero => exact ⟨fun _ _ h => by omega, fun _ _ h => by omega⟩
    | succ N ih =>
      obtain ⟨ih1, ih2⟩ := ih
      constructor
      · intro t n ht
        cases t with
        | mk k n0 b l =>
          simp only [Ty.mk.sizeOf_spec] at ht
          simp only [walkB, walkN, cnt, okT, Bool.and_eq_true, decide_eq_true_eq, Int.natCast_add, Int.cast_ofNat_Int]
          cases hb : okB n (.mk k n0 b l) with
          | true =>
            have h2 : n + 1 ≤ 60 ∧ NodeOk (.mk k n0 b l) := by simpa [okB] using hb
            obtain ⟨h3, h4⟩ := ih2 l (n + 1) (by omega) h2.1
            refine ⟨⟨fun h => ?_, fun h => ⟨rfl, ?_⟩⟩, fun h => ?_⟩
            · have h5 := h3.1 h.2
              exact ⟨by omega, h2.2, h5.2⟩
            · exact h3.2 ⟨by omega, h.2.2⟩
            · have := h4 h.2
              simp only [this]; omega
          | false =>
            have h2 : ¬ (n + 1 ≤ 60 ∧ NodeOk (.mk k n0 b l)) := by
              intro h
              have : okB n (.mk k n0 b l) = true := by simpa [okB] using h
              rw [hb] at this; cases this
            refine ⟨⟨fun h => (by cases h.1), fun h => ?_⟩, fun h => (by cases h.1)⟩
            exact absurd ⟨by omega, h.2.1⟩ h2
      · intro l n hl hn
        cases l with
        | nil => simp only [walkBL, walkNL, cntL, okL]; simp; omega
        | cons x xs =>
          simp only [List.cons.sizeOf_spec] at hl
          obtain ⟨h1, h2⟩ := ih1 x n (by omega)
          simp only [walkBL, walkNL, cntL, okL, Bool.and_eq_true, Int.natCast_add]
          cases hb : walkB x n with
          | true =>
            have hw := h2 hb
            have hx := h1.1 hb
            obtain ⟨h3, h4⟩ := ih2 xs (walkN x n) (by omega) (by omega)
            refine ⟨⟨fun h => ?_, fun h => ⟨rfl, ?_⟩⟩, fun h => ?_⟩
            · have h5 := h3.1 h.2
              exact ⟨by omega, hx.2, h5.2⟩
            · exact h3.2 ⟨by omega, h.2.2⟩
            · have := h4 h.2
              simp only [this]; omega
          | false =>
            refine ⟨⟨fun h => (by cases h.1), fun h => ?_⟩, fun h => (by cases h.1)⟩
            have := h1.2 ⟨by omega, h.2.1⟩
            rw [hb] at this; cases this
  exact fun t n => ((key (SizeOf.sizeOf t + 1)).1 t n (by omega)).1

theorem valid_eq (t : Ty) : validB t = true ↔ depT t ≤ 12 ∧ cnt t ≤ 60 ∧ okT t = true := by
  simp only [validB, Bool.and_eq_true, decide_eq_true_eq, walk_eq, deep_eq t 12 (by omega)]
  exact ⟨fun h => ⟨by omega, by omega, h.2.2⟩, fun h => ⟨by omega, by omega, h.2.2⟩⟩

theorem ground_eq (t : Ty) : groundB t = true ↔ depT t ≤ 12 ∧ cnt t ≤ 60 ∧ okT t = true ∧ bareT t = true := by
  simp only [groundB, Bool.and_eq_true, valid_eq, and_assoc]

theorem okL_mem : ∀ {l : List Ty}, okL l = true → ∀ x ∈ l, okT x = true
  | [], _, x, h => by cases h
  | y :: ys, h, x, hx => by
    simp only [okL, Bool.and_eq_true] at h
    cases hx with
    | head => exact h.1
    | tail _ hx => exact okL_mem h.2 x hx
theorem bareL_mem : ∀ {l : List Ty}, bareL l = true → ∀ x ∈ l, bareT x = true
  | [], _, x, h => by cases h
  | y :: ys, h, x, hx => by
    simp only [bareL, Bool.and_eq_true] at h
    cases hx with
    | head => exact h.1
    | tail _ hx => exact bareL_mem h.2 x hx
theorem depG_mem : ∀ {l : List Ty}, ∀ x ∈ l, depT x ≤ depG l 0
  | y :: ys, x, hx => by
    have h1 := (dep_bd.1 y).1
    simp only [depG]
    rw [depG_max ys _ (by omega)]
    cases hx with
    | head => omega
    | tail _ hx => have := depG_mem (l := ys) x hx; omega
theorem cntL_mem : ∀ {l : List Ty}, ∀ x ∈ l, cnt x ≤ cntL l
  | y :: ys, x, hx => by
    simp only [cntL]
    cases hx with
    | head => omega
    | tail _ hx => have := cntL_mem (l := ys) x hx; omega

/-- The parts of what is ground are ground. -/
theorem ground_parts {k n : Int} {b : Bool} {l : List Ty} (h : groundB (.mk k n b l) = true) : ∀ x ∈ l, groundB x = true := by
  intro x hx
  rw [ground_eq] at h ⊢
  simp only [depT, cnt, okT, bareT, Bool.and_eq_true] at h
  have h1 := depG_mem x hx
  have h2 := cntL_mem x hx
  exact ⟨by omega, by omega, okL_mem h.2.2.1.2 x hx, bareL_mem h.2.2.2.2 x hx⟩

theorem od_nonneg : ∀ t, groundB t = true → 0 ≤ ownT t ∧ 0 ≤ datT t := by
  have key : ∀ (N : Nat), (∀ t, SizeOf.sizeOf t < N → groundB t = true → 0 ≤ ownT t ∧ 0 ≤ datT t) ∧
      ∀ l : List Ty, SizeOf.sizeOf l < N → (∀ x ∈ l, groundB x = true) → 0 ≤ ownL l ∧ 0 ≤ datL l ∧ 0 ≤ bothH l := by
    intro N
    induction N with
    | zero => exact ⟨fun _ h => by omega, fun _ h => by omega⟩
    | succ N ih =>
      obtain ⟨ih1, ih2⟩ := ih
      constructor
      · intro t ht hg
        cases t with
        | mk k n b l =>
          simp only [Ty.mk.sizeOf_spec] at ht
          have := ih2 l (by omega) (ground_parts hg)
          have hk : 0 ≤ ownK k := by
            unfold ownK
            repeat' split
            all_goals omega
          simp only [ownT, datT, hg, if_pos]
          split
          · omega
          · omega
      · intro l hl hg
        cases l with
        | nil => simp [ownL, datL, bothH]
        | cons x xs =>
          simp only [List.cons.sizeOf_spec] at hl
          have h1 := ih1 x (by omega) (hg x (by simp))
          have h2 := ih2 xs (by omega) fun y hy => hg y (by simp [hy])
          simp only [ownL, datL, bothH]
          omega
  exact fun t => (key (SizeOf.sizeOf t + 1)).1 t (by omega)

end Kd
end

section
set_option maxRecDepth 100000
noncomputable section
namespace Go.Proofs.YtnmolpkkemljoaaGreatDoor
open Go Go.Am Kd

theorem ex_enc {l : List Ty} {P : List Ty → Prop} : (∃ l', encL l = encL l' ∧ P l') = P l :=
  propext ⟨fun ⟨l', h, hp⟩ => by rw [encL_inj h]; exact hp, fun h => ⟨l, rfl, h⟩⟩
theorem enc_cons (t : Ty) (l : List Ty) : AV.agg [.int .i64 t.kind, .int .i64 t.n, .isl t.nl none 0 (encL t.l)] :: encL l = encL (t :: l) := by
  cases t; rfl
theorem enc_one (t : Ty) : [AV.agg [.int .i64 t.kind, .int .i64 t.n, .isl t.nl none 0 (encL t.l)]] = encL [t] := by
  cases t; rfl
theorem enc_var : [AV.agg [.int .i64 6, .int .i64 0, .isl true none 0 []]] = encL [.mk 6 0 true []] := rfl
theorem bothR_t {x y : Prop} : bothR true x y = x := rfl
theorem bothR_f {x y : Prop} : bothR false x y = y := rfl

theorem avb : (AV.bool false = AV.bool true) = False := by simp

theorem pair_not {k n : Int} {b : Bool} {t u : Ty} (h : groundB t = false ∨ groundB u = false) : groundB (.mk k n b [t, u]) = false := by
  cases hg : groundB (.mk k n b [t, u]) with
  | false => rfl
  | true =>
    have := ground_parts hg
    rcases h with h | h
    · rw [this t (by simp)] at h; cases h
    · rw [this u (by simp)] at h; cases h

theorem widths_ok0 (t u : Ty) : runF widthsHk 60 6 [encD t, encD u] AH.nil (retIs Tryz.prog 5 (.bool true)) := by
  rw [widths_top]
  simp only [enc_cons, enc_one, enc_var, ex_enc, Ty.eta, eq_self, true_and, encL_still, Bool.and_self, avb]
  refine bothR_bool (fun _ => trivial) fun hgr => ?_
  simp only [Bool.or_eq_false_iff] at hgr
  have c1 := great_cnt hgr.1
  have c2 := great_cnt hgr.2
  have d1 : cnt t ≤ 1000 := by omega
  have d2 : cnt u ≤ 1000 := by omega
  have d3 : ∀ k n b, cnt (.mk k n b [t, u]) ≤ 1000 := fun k n b => by simp only [cnt, cntL]; omega
  have d4 : ∀ k n b, cnt (.mk k n b [t]) ≤ 1000 := fun k n b => by simp only [cnt, cntL]; omega
  have d5 : ∀ k n b, cnt (.mk k n b [.mk 6 0 true []]) ≤ 1000 := fun k n b => by simp only [cnt, cntL]; omega
  simp only [d1, d2, d3, d4, d5, true_and]
  have low (h : groundB t = false ∨ groundB u = false) : ownT (.mk 2 0 false [t, u]) = Int.negSucc 0 ∧ datT (.mk 2 0 false [t, u]) = Int.negSucc 0 := by
    have := pair_not (k := 2) (n := 0) (b := false) h
    simp only [ownT, datT, this]
    exact ⟨rfl, rfl⟩
  refine bothR_nbool (fun ht => ?_) fun ht => bothR_nbool (fun hu => ?_) fun hu => ?_
  · have hl := low (.inl ht)
    simp only [pair_not (k := 2) (n := 0) (b := false) (.inl ht : groundB t = false ∨ groundB u = false), hl.1, hl.2, Bool.not_false, decide_true, bothR_t]
  · have hl := low (.inr hu)
    simp only [pair_not (k := 2) (n := 0) (b := false) (.inr hu : groundB t = false ∨ groundB u = false), hl.1, hl.2, Bool.not_false, decide_true, bothR_t]
  · have i5 : (Int.ofNat 5) = 5 := rfl
    have i0 : (Int.ofNat 0) = 0 := rfl
    have bt : bareT t = true := ((ground_eq t).1 ht).2.2.2
    have bu : bareT u = true := ((ground_eq u).1 hu).2.2.2
    have nt := od_nonneg t ht
    have nu := od_nonneg u hu
    have ot := od_bd.1 t
    have ou := od_bd.1 u
    have gF : groundB (.mk 5 0 false [t, u]) = false := by simp [groundB, bareT, plainB, Ty.kind]
    have gV : groundB (.mk 4 0 false [.mk 6 0 true []]) = false := by simp [groundB, bareT, bareL, plainB, Ty.kind]
    have oF : ownT (.mk 5 0 false [t, u]) = Int.negSucc 0 := by simp only [ownT, gF]; rfl
    have e1 : (0 ≤ ownT t) = True := by simp [nt.1]
    have e2 : (0 ≤ datT t) = True := by simp [nt.2]
    simp only [i5, i0, gF, gV, oF, e1, e2, Bool.not_false, decide_true, bothR_t]
    have seq : bothR (decide (checkN (Ty.mk 4 0 false [t]) = 0)) (bothR (!decide (ownT (Ty.mk 4 0 false [t]) = 2)) False (bothR (!decide (datT (Ty.mk 4 0 false [t]) = IntKind.i64.wrap (ownT t + datT t))) False True)) True := by
      refine bothR_dec (fun hc => ?_) fun _ => trivial
      have hv : validB (.mk 4 0 false [t]) = true := by
        cases h : validB (.mk 4 0 false [t]) with
        | true => rfl
        | false => simp [checkN, h] at hc
      have hg : groundB (.mk 4 0 false [t]) = true := by simp [groundB, hv, bareT, bareL, plainB, Ty.kind, bt]
      have h1 : ownT (.mk 4 0 false [t]) = 2 := by simp [ownT, hg]
      have h2 : datT (.mk 4 0 false [t]) = ownT t + datT t := by simp [datT, hg, bothH]
      rw [h1, h2, wrap_id (by omega) (by omega)]
      simp only [decide_true, Bool.not_true, bothR_f]
    refine bothR_dec (fun hc => ?_) fun _ => seq
    have hv : validB (.mk 2 0 false [t, u]) = true := by
      cases h : validB (.mk 2 0 false [t, u]) with
      | true => rfl
      | false => simp [checkN, h] at hc
    have hv3 : validB (.mk 3 0 false [t, u]) = true := by
      rw [valid_eq] at hv ⊢
      simp only [depT, cnt, okT, Bool.and_eq_true] at hv ⊢
      exact ⟨hv.1, hv.2.1, by simp [NodeOk], hv.2.2.2⟩
    have g2 : groundB (.mk 2 0 false [t, u]) = true := by simp [groundB, hv, bareT, bareL, plainB, Ty.kind, bt, bu]
    have g3 : groundB (.mk 3 0 false [t, u]) = true := by simp [groundB, hv3, bareT, bareL, plainB, Ty.kind, bt, bu]
    have h1 : ownT (.mk 2 0 false [t, u]) = ownT t + ownT u := by simp [ownT, g2, ownK, ownL]
    have h2 : datT (.mk 2 0 false [t, u]) = datT t + datT u := by simp [datT, g2, datL]
    have h3 : ownT (.mk 3 0 false [t, u]) = 1 + ownT t + ownT u := by simp [ownT, g3, ownK, ownL]; omega
    have h4 : datT (.mk 3 0 false [t, u]) = datT t + datT u := by simp [datT, g3, datL]
    rw [h1, h2, h3, h4, g2, g3, wrap_id (n := ownT t + ownT u) (by omega) (by omega), wrap_id (n := datT t + datT u) (by omega) (by omega), wrap_id (n := 1 + ownT t) (by omega) (by omega), wrap_id (n := 1 + ownT t + ownT u) (by omega) (by omega)]
    simp only [decide_true, Bool.not_true, bothR_f]
    exact seq

theorem of_ok (k : Int) (b : Bool) (xs : List AV) (h : AV.stillL xs = true) : QJ 29 [.int .i64 k, .isl b none 0 xs] (.agg [.int .i64 k, .int .i64 0, .isl b none 0 xs]) := by
  refine QuietJ.ret (P := Tryz.prog) (G := g0) (f := 29) 5 (by simp [AV.stillL, AV.still, h]) (by simp [AV.stillL, AV.still, h]) (FuncJ.run (el := els) (mu := mu0) (hk := hk0) hmix hk0_ok (n := 40) ?_)
  show runF hk0 40 29 _ _ _
  rw [of_top]

theorem v_ok (n : Int) : QJ 32 [.int .i64 n] (.agg [.int .i64 6, .int .i64 n, .isl true none 0 []]) := by
  refine QuietJ.ret (P := Tryz.prog) (G := g0) (f := 32) 5 rfl rfl (FuncJ.run (el := els) (mu := mu0) (hk := hk0) hmix hk0_ok (n := 40) ?_)
  show runF hk0 40 32 _ _ _
  rw [v_top]

theorem of_hook : QSpec.Ok Tryz.prog g0 29 ofQ := by
  intro args K h'
  unfold ofQ at h'
  split at h'
  · exact ⟨_, of_ok _ _ _ h'.1, h'.2⟩
  · exact h'.elim
theorem v_hook : QSpec.Ok Tryz.prog g0 32 vQ := by
  intro args K h'
  unfold vQ at h'
  split at h'
  · exact ⟨_, v_ok _, h'⟩
  · exact h'.elim

theorem widths_ok (t u : Ty) : QJ 6 [enc t, enc u] (.bool true) := by
  refine QuietJ.ret (P := Tryz.prog) (G := g0) (f := 6) 5 (by simp [AV.stillL, enc_still]) rfl (FuncJ.run (el := els) (mu := mu0) (hk := widthsHk) hmix (mkHooks_ok (all_cons (great_hook.weak 3) (all_cons closed.alive_hook (all_cons (of_hook.weak 3) (all_cons v_hook (all_cons (ground_hook.weak 3) (all_cons (own_hook0.weak 3) (all_cons (dat_hook0.weak 3) (all_cons (check_hook.weak 3) all_nil)))))))) all_nil all_nil) (n := 60) ?_)
  rw [enc_D, enc_D]
  exact widths_ok0 t u

end Go.Proofs.YtnmolpkkemljoaaGreatDoor
end
end

section
namespace Go.Proofs.YtnmolpkkemljoaaGreatDoor
open Go.ChangeShapes Go.WideShapes Go.ChangeAt Go.RowKit

theorem own : ownKnob Tryz.prog.godebug = none := by kernel_rfl

def cellsOf {H : Type} : DataW H → Array Value
  | .agg l => (l.map fun | .lit (.int k n) => Value.int k n | _ => undef).toArray
  | _ => #[]

def wordOf {H : Type} : DataW H → Array Value
  | .iface _ (.ptr (.agg [.lit (.string l)])) => #[.string ⟨l.toArray⟩]
  | _ => #[]

noncomputable def laidWorld (os : Os) : World :=
  let N := (World.settled Tryz.prog os).heap.size
  let w0 := World.holding Tryz.prog os ⟨#[.cells (wordOf (Rows.laid_strconv_ErrSyntax (H := Unit))) 203, .cells (wordOf (Rows.laid_strconv_ErrRange (H := Unit))) 203], #[], []⟩
  let put (h : Array Obj) (g : Nat) (cs : Array Value) : Array Obj := h.modify g fun
    | .cells _ t frozen => .cells cs t frozen
    | o => o
  let h0 := put (put w0.heap 1 #[.iface 201 (.pointer (some ⟨N, 0, none⟩))]) 2 #[.iface 201 (.pointer (some ⟨N + 1, 0, none⟩))]
  let h1 := put h0 0 (cellsOf (Rows.laid_internal_strconv_uint64pow10 (H := Unit)))
  let h2 := put h1 3 (cellsOf (Rows.laid_math_bits_deBruijn32tab (H := Unit)))
  let h3 := put h2 4 (cellsOf (Rows.laid_math_bits_deBruijn64tab (H := Unit)))
  { w0 with heap := h3 }

set_option maxRecDepth 1000000 in
theorem laid_met (os : Os) (args : Array Value) : laidMet Tryz.prog Rows.kindNamesRow.laid ((laidWorld os).forCall (fun _ _ => 0) ⟨#[], args, []⟩).memory :=
  laidMet_of_run' 8 (by kernel_rfl) (by kernel_rfl)

end Go.Proofs.YtnmolpkkemljoaaGreatDoor
end
