/-
  What the proof is built of: What is known of the table of powers of ten. Numbers as texts: up to three figures. The library's contracts over this program (strings.CutPrefix, strconv.Atoi, bits.Len64), laid by the kit's shelf tool. Numbers as texts: up to three figures. The conditions of K29, evaluated. Itoa comes to the figures, for numbers below a thousand. Types as texts: what they come to. The conditions of K30, evaluated. Written, Write, Text: what they come to. The document's examples, run. KindChecks: the hooks. The condition of KindChecks, evaluated. KindChecks returns true. A world in which the listed variables hold what their initialisers lay. What the laid variables hold, as far as the walks look at it. Conditions: none.
-/
import Derived.Test.YtnmolpkkemljoaaGreatDoorM9
import Derived.Test.YtnmolpkkemljoaaGreatDoorM10
import Derived.Shelf.Small.Wraps
import Derived.Shelf.Strconv.Atoi
import Derived.Shelf.Strconv.Itoa0
import Derived.Test.YtnmolpkkemljoaaGreatDoorProg
import Derived.Test.YtnmolpkkemljoaaGreatDoorM8
import Derived.Test.YtnmolpkkemljoaaGreatDoorM6
import Derived.Test.YtnmolpkkemljoaaGreatDoorCards
import Derived.Test.YtnmolpkkemljoaaGreatDoorTie
import Derived.WalkKit
import Derived.ProofKit
import Derived.OpenShut
import Derived.Deep.DeepHandedRow
import Derived.Deep.DeepWitnessRowRef
import Derived.Lib.LaidTab
import Derived.Lib.LaidU8
import Derived.Lib.ItoaNum
section
noncomputable section
namespace Go.Proofs.YtnmolpkkemljoaaGreatDoor
open Go Go.Am Kd

def pow10 : List Nat := [1, 10, 100, 1000, 10000, 100000, 1000000, 10000000, 100000000, 1000000000, 10000000000, 100000000000, 1000000000000, 10000000000000, 100000000000000, 1000000000000000, 10000000000000000, 100000000000000000, 1000000000000000000, 10000000000000000000]
/-- The table. -/
def gT : Gl := fun g o => match g == 0 with
  | true => match nthR pow10 o with | some n => some (.int .u64 n) | none => none
  | false => none
def runT (hk : Hooks) (n : Nat) (f : FuncId) (args : List AV) (A : AH) (K : AFin → Prop) : Prop := sFuncR Tryz.prog (Rm.W Tryz.prog gT els mu0 hk n) f args A K

end Go.Proofs.YtnmolpkkemljoaaGreatDoor
end
end

section
set_option maxRecDepth 100000
namespace Kd
def smallsL : List UInt8 := [48, 48, 48, 49, 48, 50, 48, 51, 48, 52, 48, 53, 48, 54, 48, 55, 48, 56, 48, 57, 49, 48, 49, 49, 49, 50, 49, 51, 49, 52, 49, 53, 49, 54, 49, 55, 49, 56, 49, 57, 50, 48, 50, 49, 50, 50, 50, 51, 50, 52, 50, 53, 50, 54, 50, 55, 50, 56, 50, 57, 51, 48, 51, 49, 51, 50, 51, 51, 51, 52, 51, 53, 51, 54, 51, 55, 51, 56, 51, 57, 52, 48, 52, 49, 52, 50, 52, 51, 52, 52, 52, 53, 52, 54, 52, 55, 52, 56, 52, 57, 53, 48, 53, 49, 53, 50, 53, 51, 53, 52, 53, 53, 53, 54, 53, 55, 53, 56, 53, 57, 54, 48, 54, 49, 54, 50, 54, 51, 54, 52, 54, 53, 54, 54, 54, 55, 54, 56, 54, 57, 55, 48, 55, 49, 55, 50, 55, 51, 55, 52, 55, 53, 55, 54, 55, 55, 55, 56, 55, 57, 56, 48, 56, 49, 56, 50, 56, 51, 56, 52, 56, 53, 56, 54, 56, 55, 56, 56, 56, 57, 57, 48, 57, 49, 57, 50, 57, 51, 57, 52, 57, 53, 57, 54, 57, 55, 57, 56, 57, 57]
def digitsL : List UInt8 := [48, 49, 50, 51, 52, 53, 54, 55, 56, 57, 97, 98, 99, 100, 101, 102, 103, 104, 105, 106, 107, 108, 109, 110, 111, 112, 113, 114, 115, 116, 117, 118, 119, 120, 121, 122]
end Kd
noncomputable section
namespace Go.Proofs.YtnmolpkkemljoaaGreatDoor
open Go Go.Am Kd

abbrev QT := QuietJ Tryz.prog gT

theorem QT.by {hk : Hooks} {f : FuncId} {args : List AV} {v : AV} (ha : AV.stillL args = true) (hv : v.still = true) (hh : Hooks.Ok Tryz.prog gT hk) (h : runT hk 60 f args AH.nil (retIs Tryz.prog 5 v)) : QT f args v :=
  QuietJ.ret (P := Tryz.prog) (G := gT) (f := f) 5 ha hv (FuncJ.run (el := els) (mu := mu0) (hk := hk) hmix hh (n := 60) h)

end Go.Proofs.YtnmolpkkemljoaaGreatDoor
end
end

section
namespace Go.Proofs
open Go.Shelf
def Tryz.lays103_ren : Go.Shelf.Ren := ⟨fun | 103 => 127 | 210 => 140 | 206 => 152 | n => n, fun | 9 => 9 | 4 => 4 | 24 => 141 | 3 => 3 | n => n, fun | n => n⟩
theorem Tryz.lays103 : Go.Proofs.Lays.n103 Tryz.prog Tryz.lays103_ren := {
  mixed := by kernel_rfl
  f103 := Tryz.func127.trans (congrArg some (by kernel_rfl))
  f206 := Tryz.func152.trans (congrArg some (by kernel_rfl))
  f210 := Tryz.func140.trans (congrArg some (by kernel_rfl))
  t3 := Tryz.underlying3
  a3 := Tryz.isAgg3
  z3 := Tryz.sizeOf3
  v3 := Tryz.zeroValue3
  t4 := Tryz.underlying4
  a4 := Tryz.isAgg4
  z4 := Tryz.sizeOf4
  v4 := Tryz.zeroValue4
  t9 := Tryz.underlying9
  a9 := Tryz.isAgg9
  z9 := Tryz.sizeOf9
  v9 := Tryz.zeroValue9
  t24 := Tryz.underlying141
  a24 := Tryz.isAgg141
  z24 := Tryz.sizeOf141
  v24 := Tryz.zeroValue141 }
open Go.RowKit in
theorem Tryz.strings_CutPrefix (s p : ByteArray) (w : World) :
    Calls Tryz.prog 127 #[.string s, .string p] w fun e w' => e = .returned (.tuple #[.string ⟨(Lib.trimPrefix s.data.toList p.data.toList).toArray⟩, .bool (Lib.hasPrefix s.data.toList p.data.toList)]) ∧ w' = w := Any.strings_CutPrefix Tryz.lays103 s p w
def Tryz.lays172_ren : Go.Shelf.Ren := ⟨fun | 172 => 128 | 244 => 141 | 245 => 142 | 247 => 153 | 279 => 154 | 280 => 155 | 281 => 156 | 282 => 157 | 287 => 163 | 316 => 164 | 171 => 105 | 205 => 165 | 321 => 168 | 322 => 169 | 243 => 126 | 246 => 139 | 283 => 148 | 284 => 149 | 285 => 150 | 286 => 151 | 129 => 138 | 317 => 159 | 318 => 160 | 319 => 161 | 320 => 162 | 337 => 166 | 338 => 167 | n => n, fun | 9 => 9 | 3 => 3 | 75 => 153 | 76 => 154 | 4 => 4 | 5 => 5 | 167 => 181 | 37 => 177 | 0 => 0 | 85 => 182 | 2 => 2 | 168 => 184 | 53 => 166 | 175 => 193 | 46 => 150 | 210 => 197 | 127 => 200 | 145 => 203 | 143 => 201 | 21 => 21 | 171 => 175 | 173 => 178 | 212 => 190 | 51 => 164 | 20 => 20 | 213 => 191 | 232 => 204 | 233 => 205 | 80 => 206 | n => n, fun | 15 => 1 | 16 => 2 | 17 => 0 | 18 => 3 | 19 => 4 | n => n⟩
theorem Tryz.lays172 : Go.Proofs.Lays.n172 Tryz.prog Tryz.lays172_ren := {
  mixed := by kernel_rfl
  f129 := Tryz.func138.trans (congrArg some (by kernel_rfl))
  f171 := Tryz.func105.trans (congrArg some (by kernel_rfl))
  f172 := Tryz.func128.trans (congrArg some (by kernel_rfl))
  f205 := Tryz.func165.trans (congrArg some (by kernel_rfl))
  f243 := Tryz.func126.trans (congrArg some (by kernel_rfl))
  f244 := Tryz.func141.trans (congrArg some (by kernel_rfl))
  f245 := Tryz.func142.trans (congrArg some (by kernel_rfl))
  f246 := Tryz.func139.trans (congrArg some (by kernel_rfl))
  f247 := Tryz.func153.trans (congrArg some (by kernel_rfl))
  f279 := Tryz.func154.trans (congrArg some (by kernel_rfl))
  f280 := Tryz.func155.trans (congrArg some (by kernel_rfl))
  f281 := Tryz.func156.trans (congrArg some (by kernel_rfl))
  f282 := Tryz.func157.trans (congrArg some (by kernel_rfl))
  f283 := Tryz.func148.trans (congrArg some (by kernel_rfl))
  f284 := Tryz.func149.trans (congrArg some (by kernel_rfl))
  f285 := Tryz.func150.trans (congrArg some (by kernel_rfl))
  f286 := Tryz.func151.trans (congrArg some (by kernel_rfl))
  f287 := Tryz.func163.trans (congrArg some (by kernel_rfl))
  f316 := Tryz.func164.trans (congrArg some (by kernel_rfl))
  f317 := Tryz.func159.trans (congrArg some (by kernel_rfl))
  f318 := Tryz.func160.trans (congrArg some (by kernel_rfl))
  f319 := Tryz.func161.trans (congrArg some (by kernel_rfl))
  f320 := Tryz.func162.trans (congrArg some (by kernel_rfl))
  f321 := Tryz.func168.trans (congrArg some (by kernel_rfl))
  f322 := Tryz.func169.trans (congrArg some (by kernel_rfl))
  f337 := Tryz.func166.trans (congrArg some (by kernel_rfl))
  f338 := Tryz.func167.trans (congrArg some (by kernel_rfl))
  t0 := Tryz.underlying0
  a0 := Tryz.isAgg0
  z0 := Tryz.sizeOf0
  v0 := Tryz.zeroValue0
  t2 := Tryz.underlying2
  a2 := Tryz.isAgg2
  z2 := Tryz.sizeOf2
  v2 := Tryz.zeroValue2
  t3 := Tryz.underlying3
  a3 := Tryz.isAgg3
  z3 := Tryz.sizeOf3
  v3 := Tryz.zeroValue3
  t4 := Tryz.underlying4
  a4 := Tryz.isAgg4
  z4 := Tryz.sizeOf4
  v4 := Tryz.zeroValue4
  t5 := Tryz.underlying5
  a5 := Tryz.isAgg5
  z5 := Tryz.sizeOf5
  v5 := Tryz.zeroValue5
  t9 := Tryz.underlying9
  a9 := Tryz.isAgg9
  z9 := Tryz.sizeOf9
  v9 := Tryz.zeroValue9
  t20 := Tryz.underlying20
  a20 := Tryz.isAgg20
  z20 := Tryz.sizeOf20
  v20 := Tryz.zeroValue20
  t21 := Tryz.underlying21
  a21 := Tryz.isAgg21
  z21 := Tryz.sizeOf21
  v21 := Tryz.zeroValue21
  t37 := Tryz.underlying177
  a37 := Tryz.isAgg177
  z37 := Tryz.sizeOf177
  v37 := Tryz.zeroValue177
  t46 := Tryz.underlying150
  a46 := Tryz.isAgg150
  z46 := Tryz.sizeOf150
  v46 := Tryz.zeroValue150
  t51 := Tryz.underlying164
  a51 := Tryz.isAgg164
  z51 := Tryz.sizeOf164
  v51 := Tryz.zeroValue164
  t53 := Tryz.underlying166
  a53 := Tryz.isAgg166
  z53 := Tryz.sizeOf166
  v53 := Tryz.zeroValue166
  t75 := Tryz.underlying153
  a75 := Tryz.isAgg153
  z75 := Tryz.sizeOf153
  v75 := Tryz.zeroValue153
  t76 := Tryz.underlying154
  a76 := Tryz.isAgg154
  z76 := Tryz.sizeOf154
  v76 := Tryz.zeroValue154
  t85 := Tryz.underlying182
  a85 := Tryz.isAgg182
  z85 := Tryz.sizeOf182
  v85 := Tryz.zeroValue182
  t127 := Tryz.underlying200
  a127 := Tryz.isAgg200
  z127 := Tryz.sizeOf200
  v127 := Tryz.zeroValue200
  t143 := Tryz.underlying201
  a143 := Tryz.isAgg201
  z143 := Tryz.sizeOf201
  v143 := Tryz.zeroValue201
  t145 := Tryz.underlying203
  a145 := Tryz.isAgg203
  z145 := Tryz.sizeOf203
  v145 := Tryz.zeroValue203
  t167 := Tryz.underlying181
  a167 := Tryz.isAgg181
  z167 := Tryz.sizeOf181
  v167 := Tryz.zeroValue181
  t168 := Tryz.underlying184
  a168 := Tryz.isAgg184
  z168 := Tryz.sizeOf184
  v168 := Tryz.zeroValue184
  t171 := Tryz.underlying175
  a171 := Tryz.isAgg175
  z171 := Tryz.sizeOf175
  v171 := Tryz.zeroValue175
  t173 := Tryz.underlying178
  a173 := Tryz.isAgg178
  z173 := Tryz.sizeOf178
  v173 := Tryz.zeroValue178
  t175 := Tryz.underlying193
  a175 := Tryz.isAgg193
  z175 := Tryz.sizeOf193
  v175 := Tryz.zeroValue193
  t210 := Tryz.underlying197
  a210 := Tryz.isAgg197
  z210 := Tryz.sizeOf197
  v210 := Tryz.zeroValue197
  t212 := Tryz.underlying190
  a212 := Tryz.isAgg190
  z212 := Tryz.sizeOf190
  v212 := Tryz.zeroValue190
  t213 := Tryz.underlying191
  a213 := Tryz.isAgg191
  z213 := Tryz.sizeOf191
  t232 := Tryz.underlying204
  a232 := Tryz.isAgg204
  z232 := Tryz.sizeOf204
  v232 := Tryz.zeroValue204
  t233 := Tryz.underlying205
  a233 := Tryz.isAgg205
  z233 := Tryz.sizeOf205
  v233 := Tryz.zeroValue205
  g15 := by kernel_rfl
  g16 := by kernel_rfl
  g17 := by kernel_rfl
  g18 := by kernel_rfl
  g19 := by kernel_rfl }
open Go.RowKit in
theorem Tryz.strconv_Atoi (s : ByteArray) (n : Int) (hl : s.size ≤ 18) (h : Lib.atoi s.data.toList = some n) (w : World) :
    Calls Tryz.prog 128 #[.string s] w fun e w' => e = .returned (.tuple #[.int .i64 n, .nilIface]) ∧ ∃ t, w' = Lib.bytesWorld w 5 t := Any.strconv_Atoi Tryz.lays172 s n hl h w
def Tryz.lays129_ren : Go.Shelf.Ren := ⟨fun | 129 => 138 | n => n, fun | 53 => 166 | 3 => 3 | 4 => 4 | 46 => 150 | 5 => 5 | 9 => 9 | n => n, fun | n => n⟩
theorem Tryz.lays129 : Go.Proofs.Lays.n129 Tryz.prog Tryz.lays129_ren := {
  mixed := by kernel_rfl
  f129 := Tryz.func138.trans (congrArg some (by kernel_rfl))
  t3 := Tryz.underlying3
  a3 := Tryz.isAgg3
  z3 := Tryz.sizeOf3
  v3 := Tryz.zeroValue3
  t4 := Tryz.underlying4
  a4 := Tryz.isAgg4
  z4 := Tryz.sizeOf4
  v4 := Tryz.zeroValue4
  t5 := Tryz.underlying5
  a5 := Tryz.isAgg5
  z5 := Tryz.sizeOf5
  v5 := Tryz.zeroValue5
  t9 := Tryz.underlying9
  a9 := Tryz.isAgg9
  z9 := Tryz.sizeOf9
  v9 := Tryz.zeroValue9
  t46 := Tryz.underlying150
  a46 := Tryz.isAgg150
  z46 := Tryz.sizeOf150
  v46 := Tryz.zeroValue150
  t53 := Tryz.underlying166
  a53 := Tryz.isAgg166
  z53 := Tryz.sizeOf166
  v53 := Tryz.zeroValue166 }
theorem Tryz.bits_Len64 (x : Int) (w : World) (h0 : 0 ≤ x) (h1 : x ≤ 18446744073709551615) :
    Calls Tryz.prog 138 #[.int .u64 x] w fun e w' => e = .returned (.int .i64 (Lib.bitLen x.toNat)) ∧ w' = w := Any.bits_Len64 Tryz.lays129 x w h0 h1
end Go.Proofs
end

section
set_option maxRecDepth 100000
namespace Kd
open Go Go.Am
def dig (n : Nat) : UInt8 := UInt8.ofNat (48 + n)
def itoaN (n : Nat) : List UInt8 := if n < 10 then [dig n] else if n < 100 then [dig (n / 10), dig (n % 10)] else [dig (n / 100), dig (n / 10 % 10), dig (n % 10)]
def itoaL (n : Int) : List UInt8 := itoaN n.toNat
def bl (n : Int) : Nat := Lib.bitLen n.toNat
end Kd
noncomputable section
namespace Go.Proofs.YtnmolpkkemljoaaGreatDoor
open Go Go.Am Kd

def lenQ (m : Nat) : QSpec
  | [.int .u64 u], K => (0 ≤ u ∧ u ≤ 999 ∧ bl u = m) ∧ K (.int .i64 m)
  | _, _ => False
def lenHk (m : Nat) : Hooks := mkHooks Tryz.prog [(138, lenQ m)] [] []
def smQ : QSpec
  | [n], K => argInt n fun n => (0 ≤ n ∧ n < 100) ∧ K (.str (itoaL n))
  | _, _ => False
def ndQ : QSpec
  | [.int .u64 u], K => (100 ≤ u ∧ u ≤ 999) ∧ K (.int .i64 3)
  | _, _ => False
def fiHk : Hooks := mkHooks Tryz.prog [(148, smQ), (149, ndQ)] [] []
def fi10Q : QSpec
  | [n, b], K => argInt n fun n => argInt b fun b => tfR (decide (b = 10)) ((0 ≤ n ∧ n < 1000) ∧ K (.str (itoaL n))) False
  | _, _ => False
def itHk : Hooks := mkHooks Tryz.prog [(139, fi10Q)] [] []
def itoaQ : QSpec
  | [n], K => argInt n fun n => (0 ≤ n ∧ n < 1000) ∧ K (.str (itoaL n))
  | _, _ => False

end Go.Proofs.YtnmolpkkemljoaaGreatDoor
end
end

section
noncomputable section
namespace Go.Proofs.YtnmolpkkemljoaaGreatDoor
open Go Go.Am Kd
set_option maxRecDepth 100000

theorem sm_top (n : Int) (s : List UInt8) : (runT hk0 60 148 [.int .i64 n] AH.nil (retIs Tryz.prog 5 (.str s))) = ( bothR (decide (n < (10 : Int))) (0 ≤ n ∧ 0 ≤ IntKind.wrap IntKind.i64 (n + (1 : Int)) ∧ (Int.toNat n ≤ Int.toNat (IntKind.wrap IntKind.i64 (n + (1 : Int))) ∧ Int.toNat (IntKind.wrap IntKind.i64 (n + (1 : Int))) ≤ 36) ∧ AV.str (List.take (Int.toNat (IntKind.wrap IntKind.i64 (n + (1 : Int))) - Int.toNat n) (List.drop (Int.toNat n) digitsL)) = AV.str s) (0 ≤ IntKind.wrap IntKind.i64 (n * (2 : Int)) ∧
 0 ≤ IntKind.wrap IntKind.i64 (IntKind.wrap IntKind.i64 (n * (2 : Int)) + (2 : Int)) ∧ (Int.toNat (IntKind.wrap IntKind.i64 (n * (2 : Int))) ≤ Int.toNat (IntKind.wrap IntKind.i64 (IntKind.wrap IntKind.i64 (n * (2 : Int)) + (2 : Int))) ∧ Int.toNat (IntKind.wrap IntKind.i64 (IntKind.wrap IntKind.i64 (n * (2 : Int)) + (2 : Int))) ≤ 200) ∧ AV.str (List.take (Int.toNat (IntKind.wrap IntKind.i64 (IntKind.wrap IntKind.i64 (n * (2 : Int)) + (2 : Int))) - Int.toNat (IntKind.wrap IntKind.i64 (n * (2 : Int)))) (List.drop (Int.toNat (IntKind.wrap IntKind.i64 (n * (2 : Int)))) smallsL)) =
 AV.str s)) := by kernel_rfl

theorem nd7_top (u r : Int) : (runT (lenHk 7) 60 149 [.int .u64 u] AH.nil (retIs Tryz.prog 5 (.int .i64 r))) = ( (0 ≤ u ∧ u ≤ 999 ∧ bl u = 7) ∧ bothR (decide (Int.ofNat (100) ≤ u)) (AV.int IntKind.i64 (3) = AV.int IntKind.i64 r) (AV.int IntKind.i64 (2) = AV.int IntKind.i64 r)) := by kernel_rfl

theorem nd8_top (u r : Int) : (runT (lenHk 8) 60 149 [.int .u64 u] AH.nil (retIs Tryz.prog 5 (.int .i64 r))) = ( (0 ≤ u ∧ u ≤ 999 ∧ bl u = 8) ∧ bothR (decide (Int.ofNat (100) ≤ u)) (AV.int IntKind.i64 (3) = AV.int IntKind.i64 r) (AV.int IntKind.i64 (2) = AV.int IntKind.i64 r)) := by kernel_rfl

theorem nd9_top (u r : Int) : (runT (lenHk 9) 60 149 [.int .u64 u] AH.nil (retIs Tryz.prog 5 (.int .i64 r))) = ( (0 ≤ u ∧ u ≤ 999 ∧ bl u = 9) ∧ bothR (decide (Int.ofNat (100) ≤ u)) (AV.int IntKind.i64 (3) = AV.int IntKind.i64 r) (AV.int IntKind.i64 (2) = AV.int IntKind.i64 r)) := by kernel_rfl

theorem nd10_top (u r : Int) : (runT (lenHk 10) 60 149 [.int .u64 u] AH.nil (retIs Tryz.prog 5 (.int .i64 r))) = ( (0 ≤ u ∧ u ≤ 999 ∧ bl u = 10) ∧ bothR (decide (Int.ofNat (1000) ≤ u)) (AV.int IntKind.i64 (4) = AV.int IntKind.i64 r) (AV.int IntKind.i64 (3) = AV.int IntKind.i64 r)) := by kernel_rfl

theorem fint_top (n : Int) (s : List UInt8) : (runT fiHk 60 139 [.int .i64 n, .int .i64 10] AH.nil (retIs Tryz.prog 5 (.str s))) = ( bothR (decide ((0 : Int) ≤ n)) (bothR (decide (n < (100 : Int))) ((0 ≤ n ∧ n < 100) ∧ AV.str (itoaL n) = AV.str s) (bothR (decide (n < (0 : Int))) ((100 ≤ IntKind.wrap IntKind.u64 ((0 : Int) - IntKind.wrap IntKind.u64 n) ∧ IntKind.wrap IntKind.u64 ((0 : Int) - IntKind.wrap IntKind.u64 n) ≤ 999) ∧ IntKind.u32 = IntKind.u32 ∧ (100 : Int) ≠ 0 ∧ IntKind.u32 = IntKind.u32 ∧ (100 : Int) ≠ 0 ∧ 0 ≤ IntKind.wrap IntKind.u32 (IntKind.wrap IntKind.u32
 (Int.tmod (IntKind.wrap IntKind.u32 (IntKind.wrap IntKind.u64 ((0 : Int) - IntKind.wrap IntKind.u64 n))) ((100 : Int)) * (2 : Int)) + (1 : Int)) ∧ ∃ c, smallsL[Int.toNat (IntKind.wrap IntKind.u32 (IntKind.wrap IntKind.u32 (Int.tmod (IntKind.wrap IntKind.u32 (IntKind.wrap IntKind.u64 ((0 : Int) - IntKind.wrap IntKind.u64 n))) ((100 : Int)) * (2 : Int)) + (1 : Int)))]? = some c ∧ 0 ≤ IntKind.wrap IntKind.u32 (Int.tmod (IntKind.wrap IntKind.u32 (IntKind.wrap IntKind.u64 ((0 : Int) - IntKind.wrap IntKind.u64 n))) ((100 : Int)) * (2 : Int)) ∧ ∃ c_1, smallsL[Int.toNat (IntKind.wrap IntKind.u32
 (Int.tmod (IntKind.wrap IntKind.u32 (IntKind.wrap IntKind.u64 ((0 : Int) - IntKind.wrap IntKind.u64 n))) ((100 : Int)) * (2 : Int)))]? = some c_1 ∧ AV.msl (0) (1) (3) = AV.msl (0) (1) (3) ∧ AV.int IntKind.i64 (3) = AV.int IntKind.i64 (3) ∧ AV.int IntKind.i64 (1) = AV.int IntKind.i64 (1) ∧ AV.int IntKind.u32 (IntKind.wrap IntKind.u32 (Int.tmod (IntKind.wrap IntKind.u32 (IntKind.wrap IntKind.u64 ((0 : Int) - IntKind.wrap IntKind.u64 n))) ((100 : Int)) * (2 : Int))) = AV.int IntKind.u32 (IntKind.wrap IntKind.u32
 (Int.tmod (IntKind.wrap IntKind.u32 (IntKind.wrap IntKind.u64 ((0 : Int) - IntKind.wrap IntKind.u64 n))) ((100 : Int)) * (2 : Int))) ∧ (0 ≤ IntKind.wrap IntKind.u32 (Int.tmod (IntKind.wrap IntKind.u32 (IntKind.wrap IntKind.u64 ((0 : Int) - IntKind.wrap IntKind.u64 n))) ((100 : Int)) * (2 : Int)) ∧ ∃ c, smallsL[Int.toNat (IntKind.wrap IntKind.u32 (Int.tmod (IntKind.wrap IntKind.u32 (IntKind.wrap IntKind.u64 ((0 : Int) - IntKind.wrap IntKind.u64 n))) ((100 : Int)) * (2 : Int)))]? = some c ∧ AV.int IntKind.u8 (iC (UInt8.toNat c)) = AV.int IntKind.u8 (iC (UInt8.toNat c_1))) ∧
 bothR (decide (n < (0 : Int))) (AV.str [45, UInt8.ofNat (Int.toNat (IntKind.wrap IntKind.u8 (IntKind.wrap IntKind.u32 ((48 : Int) + IntKind.wrap IntKind.u32 (Int.tdiv (IntKind.wrap IntKind.u32 (IntKind.wrap IntKind.u64 ((0 : Int) - IntKind.wrap IntKind.u64 n))) ((100 : Int))))))), UInt8.ofNat (Int.toNat (iC (UInt8.toNat c_1))), UInt8.ofNat (Int.toNat (iC (UInt8.toNat c)))] = AV.str s) (AV.str [UInt8.ofNat (Int.toNat (IntKind.wrap IntKind.u8 (IntKind.wrap IntKind.u32 ((48 : Int) + IntKind.wrap IntKind.u32
 (Int.tdiv (IntKind.wrap IntKind.u32 (IntKind.wrap IntKind.u64 ((0 : Int) - IntKind.wrap IntKind.u64 n))) ((100 : Int))))))), UInt8.ofNat (Int.toNat (iC (UInt8.toNat c_1))), UInt8.ofNat (Int.toNat (iC (UInt8.toNat c)))] = AV.str s)) ((100 ≤ IntKind.wrap IntKind.u64 n ∧ IntKind.wrap IntKind.u64 n ≤ 999) ∧ IntKind.u32 = IntKind.u32 ∧ (100 : Int) ≠ 0 ∧ IntKind.u32 = IntKind.u32 ∧ (100 : Int) ≠ 0 ∧ 0 ≤ IntKind.wrap IntKind.u32 (IntKind.wrap IntKind.u32 (Int.tmod (IntKind.wrap IntKind.u32 (IntKind.wrap IntKind.u64 n)) ((100 : Int)) * (2 : Int)) + (1 : Int)) ∧ ∃ c, smallsL[Int.toNat
 (IntKind.wrap IntKind.u32 (IntKind.wrap IntKind.u32 (Int.tmod (IntKind.wrap IntKind.u32 (IntKind.wrap IntKind.u64 n)) ((100 : Int)) * (2 : Int)) + (1 : Int)))]? = some c ∧ 0 ≤ IntKind.wrap IntKind.u32 (Int.tmod (IntKind.wrap IntKind.u32 (IntKind.wrap IntKind.u64 n)) ((100 : Int)) * (2 : Int)) ∧ ∃ c_1, smallsL[Int.toNat (IntKind.wrap IntKind.u32 (Int.tmod (IntKind.wrap IntKind.u32 (IntKind.wrap IntKind.u64 n)) ((100 : Int)) * (2 : Int)))]? = some c_1 ∧ AV.msl (0) (1) (3) = AV.msl (0) (1) (3) ∧ AV.int IntKind.i64 (3) = AV.int IntKind.i64 (3) ∧ AV.int IntKind.i64 (1) = AV.int IntKind.i64 (1) ∧
 AV.int IntKind.u32 (IntKind.wrap IntKind.u32 (Int.tmod (IntKind.wrap IntKind.u32 (IntKind.wrap IntKind.u64 n)) ((100 : Int)) * (2 : Int))) = AV.int IntKind.u32 (IntKind.wrap IntKind.u32 (Int.tmod (IntKind.wrap IntKind.u32 (IntKind.wrap IntKind.u64 n)) ((100 : Int)) * (2 : Int))) ∧ (0 ≤ IntKind.wrap IntKind.u32 (Int.tmod (IntKind.wrap IntKind.u32 (IntKind.wrap IntKind.u64 n)) ((100 : Int)) * (2 : Int)) ∧ ∃ c, smallsL[Int.toNat (IntKind.wrap IntKind.u32 (Int.tmod (IntKind.wrap IntKind.u32 (IntKind.wrap IntKind.u64 n)) ((100 : Int)) * (2 : Int)))]? = some c ∧
 AV.int IntKind.u8 (iC (UInt8.toNat c)) = AV.int IntKind.u8 (iC (UInt8.toNat c_1))) ∧ bothR (decide (n < (0 : Int))) (AV.str [45, UInt8.ofNat (Int.toNat (IntKind.wrap IntKind.u8 (IntKind.wrap IntKind.u32 ((48 : Int) + IntKind.wrap IntKind.u32 (Int.tdiv (IntKind.wrap IntKind.u32 (IntKind.wrap IntKind.u64 n)) ((100 : Int))))))), UInt8.ofNat (Int.toNat (iC (UInt8.toNat c_1))), UInt8.ofNat (Int.toNat (iC (UInt8.toNat c)))] = AV.str s) (AV.str [UInt8.ofNat (Int.toNat (IntKind.wrap IntKind.u8 (IntKind.wrap IntKind.u32 ((48 : Int) +
 IntKind.wrap IntKind.u32 (Int.tdiv (IntKind.wrap IntKind.u32 (IntKind.wrap IntKind.u64 n)) ((100 : Int))))))), UInt8.ofNat (Int.toNat (iC (UInt8.toNat c_1))), UInt8.ofNat (Int.toNat (iC (UInt8.toNat c)))] = AV.str s)))) (bothR (decide (n < (0 : Int))) ((100 ≤ IntKind.wrap IntKind.u64 ((0 : Int) - IntKind.wrap IntKind.u64 n) ∧ IntKind.wrap IntKind.u64 ((0 : Int) - IntKind.wrap IntKind.u64 n) ≤ 999) ∧ IntKind.u32 = IntKind.u32 ∧ (100 : Int) ≠ 0 ∧ IntKind.u32 = IntKind.u32 ∧ (100 : Int) ≠ 0 ∧ 0 ≤ IntKind.wrap IntKind.u32 (IntKind.wrap IntKind.u32
 (Int.tmod (IntKind.wrap IntKind.u32 (IntKind.wrap IntKind.u64 ((0 : Int) - IntKind.wrap IntKind.u64 n))) ((100 : Int)) * (2 : Int)) + (1 : Int)) ∧ ∃ c, smallsL[Int.toNat (IntKind.wrap IntKind.u32 (IntKind.wrap IntKind.u32 (Int.tmod (IntKind.wrap IntKind.u32 (IntKind.wrap IntKind.u64 ((0 : Int) - IntKind.wrap IntKind.u64 n))) ((100 : Int)) * (2 : Int)) + (1 : Int)))]? = some c ∧ 0 ≤ IntKind.wrap IntKind.u32 (Int.tmod (IntKind.wrap IntKind.u32 (IntKind.wrap IntKind.u64 ((0 : Int) - IntKind.wrap IntKind.u64 n))) ((100 : Int)) * (2 : Int)) ∧ ∃ c_1, smallsL[Int.toNat (IntKind.wrap IntKind.u32
 (Int.tmod (IntKind.wrap IntKind.u32 (IntKind.wrap IntKind.u64 ((0 : Int) - IntKind.wrap IntKind.u64 n))) ((100 : Int)) * (2 : Int)))]? = some c_1 ∧ AV.msl (0) (1) (3) = AV.msl (0) (1) (3) ∧ AV.int IntKind.i64 (3) = AV.int IntKind.i64 (3) ∧ AV.int IntKind.i64 (1) = AV.int IntKind.i64 (1) ∧ AV.int IntKind.u32 (IntKind.wrap IntKind.u32 (Int.tmod (IntKind.wrap IntKind.u32 (IntKind.wrap IntKind.u64 ((0 : Int) - IntKind.wrap IntKind.u64 n))) ((100 : Int)) * (2 : Int))) = AV.int IntKind.u32 (IntKind.wrap IntKind.u32
 (Int.tmod (IntKind.wrap IntKind.u32 (IntKind.wrap IntKind.u64 ((0 : Int) - IntKind.wrap IntKind.u64 n))) ((100 : Int)) * (2 : Int))) ∧ (0 ≤ IntKind.wrap IntKind.u32 (Int.tmod (IntKind.wrap IntKind.u32 (IntKind.wrap IntKind.u64 ((0 : Int) - IntKind.wrap IntKind.u64 n))) ((100 : Int)) * (2 : Int)) ∧ ∃ c, smallsL[Int.toNat (IntKind.wrap IntKind.u32 (Int.tmod (IntKind.wrap IntKind.u32 (IntKind.wrap IntKind.u64 ((0 : Int) - IntKind.wrap IntKind.u64 n))) ((100 : Int)) * (2 : Int)))]? = some c ∧ AV.int IntKind.u8 (iC (UInt8.toNat c)) = AV.int IntKind.u8 (iC (UInt8.toNat c_1))) ∧
 bothR (decide (n < (0 : Int))) (AV.str [45, UInt8.ofNat (Int.toNat (IntKind.wrap IntKind.u8 (IntKind.wrap IntKind.u32 ((48 : Int) + IntKind.wrap IntKind.u32 (Int.tdiv (IntKind.wrap IntKind.u32 (IntKind.wrap IntKind.u64 ((0 : Int) - IntKind.wrap IntKind.u64 n))) ((100 : Int))))))), UInt8.ofNat (Int.toNat (iC (UInt8.toNat c_1))), UInt8.ofNat (Int.toNat (iC (UInt8.toNat c)))] = AV.str s) (AV.str [UInt8.ofNat (Int.toNat (IntKind.wrap IntKind.u8 (IntKind.wrap IntKind.u32 ((48 : Int) + IntKind.wrap IntKind.u32
 (Int.tdiv (IntKind.wrap IntKind.u32 (IntKind.wrap IntKind.u64 ((0 : Int) - IntKind.wrap IntKind.u64 n))) ((100 : Int))))))), UInt8.ofNat (Int.toNat (iC (UInt8.toNat c_1))), UInt8.ofNat (Int.toNat (iC (UInt8.toNat c)))] = AV.str s)) ((100 ≤ IntKind.wrap IntKind.u64 n ∧ IntKind.wrap IntKind.u64 n ≤ 999) ∧ IntKind.u32 = IntKind.u32 ∧ (100 : Int) ≠ 0 ∧ IntKind.u32 = IntKind.u32 ∧ (100 : Int) ≠ 0 ∧ 0 ≤ IntKind.wrap IntKind.u32 (IntKind.wrap IntKind.u32 (Int.tmod (IntKind.wrap IntKind.u32 (IntKind.wrap IntKind.u64 n)) ((100 : Int)) * (2 : Int)) + (1 : Int)) ∧ ∃ c, smallsL[Int.toNat
 (IntKind.wrap IntKind.u32 (IntKind.wrap IntKind.u32 (Int.tmod (IntKind.wrap IntKind.u32 (IntKind.wrap IntKind.u64 n)) ((100 : Int)) * (2 : Int)) + (1 : Int)))]? = some c ∧ 0 ≤ IntKind.wrap IntKind.u32 (Int.tmod (IntKind.wrap IntKind.u32 (IntKind.wrap IntKind.u64 n)) ((100 : Int)) * (2 : Int)) ∧ ∃ c_1, smallsL[Int.toNat (IntKind.wrap IntKind.u32 (Int.tmod (IntKind.wrap IntKind.u32 (IntKind.wrap IntKind.u64 n)) ((100 : Int)) * (2 : Int)))]? = some c_1 ∧ AV.msl (0) (1) (3) = AV.msl (0) (1) (3) ∧ AV.int IntKind.i64 (3) = AV.int IntKind.i64 (3) ∧ AV.int IntKind.i64 (1) = AV.int IntKind.i64 (1) ∧
 AV.int IntKind.u32 (IntKind.wrap IntKind.u32 (Int.tmod (IntKind.wrap IntKind.u32 (IntKind.wrap IntKind.u64 n)) ((100 : Int)) * (2 : Int))) = AV.int IntKind.u32 (IntKind.wrap IntKind.u32 (Int.tmod (IntKind.wrap IntKind.u32 (IntKind.wrap IntKind.u64 n)) ((100 : Int)) * (2 : Int))) ∧ (0 ≤ IntKind.wrap IntKind.u32 (Int.tmod (IntKind.wrap IntKind.u32 (IntKind.wrap IntKind.u64 n)) ((100 : Int)) * (2 : Int)) ∧ ∃ c, smallsL[Int.toNat (IntKind.wrap IntKind.u32 (Int.tmod (IntKind.wrap IntKind.u32 (IntKind.wrap IntKind.u64 n)) ((100 : Int)) * (2 : Int)))]? = some c ∧
 AV.int IntKind.u8 (iC (UInt8.toNat c)) = AV.int IntKind.u8 (iC (UInt8.toNat c_1))) ∧ bothR (decide (n < (0 : Int))) (AV.str [45, UInt8.ofNat (Int.toNat (IntKind.wrap IntKind.u8 (IntKind.wrap IntKind.u32 ((48 : Int) + IntKind.wrap IntKind.u32 (Int.tdiv (IntKind.wrap IntKind.u32 (IntKind.wrap IntKind.u64 n)) ((100 : Int))))))), UInt8.ofNat (Int.toNat (iC (UInt8.toNat c_1))), UInt8.ofNat (Int.toNat (iC (UInt8.toNat c)))] = AV.str s) (AV.str [UInt8.ofNat (Int.toNat (IntKind.wrap IntKind.u8 (IntKind.wrap IntKind.u32
 ((48 : Int) + IntKind.wrap IntKind.u32 (Int.tdiv (IntKind.wrap IntKind.u32 (IntKind.wrap IntKind.u64 n)) ((100 : Int))))))), UInt8.ofNat (Int.toNat (iC (UInt8.toNat c_1))), UInt8.ofNat (Int.toNat (iC (UInt8.toNat c)))] = AV.str s)))) := by kernel_rfl

theorem it_top (n : Int) (s : List UInt8) : (runT itHk 60 105 [.int .i64 n] AH.nil (retIs Tryz.prog 5 (.str s))) = ( (0 ≤ n ∧ n < 1000) ∧ AV.str (itoaL n) = AV.str s) := by kernel_rfl

end Go.Proofs.YtnmolpkkemljoaaGreatDoor
end
end

section
set_option maxRecDepth 100000
set_option linter.unusedSimpArgs false
namespace Kd
open Go Go.Am
theorem dig_one : ∀ k : Nat, k < 10 → (digitsL.drop k).take 1 = [dig k] := by decide
theorem dig_two : ∀ k : Nat, k < 100 → smallsL[k * 2]? = some (dig (k / 10)) ∧ smallsL[k * 2 + 1]? = some (dig (k % 10)) := by decide +kernel
theorem dig_two' : ∀ k : Nat, k < 100 → (smallsL.drop (k * 2)).take 2 = [dig (k / 10), dig (k % 10)] := by decide +kernel
theorem u64_id {n : Int} (h1 : 0 ≤ n) (h2 : n < 18446744073709551616) : IntKind.u64.wrap n = n := by
  simp only [IntKind.wrap, IntKind.signed, IntKind.bits, Bool.false_and, Bool.false_eq_true, if_false]
  show n % 18446744073709551616 = n
  omega
theorem u32_id {n : Int} (h1 : 0 ≤ n) (h2 : n < 4294967296) : IntKind.u32.wrap n = n := by
  simp only [IntKind.wrap, IntKind.signed, IntKind.bits, Bool.false_and, Bool.false_eq_true, if_false]
  show n % 4294967296 = n
  omega
theorem u8_id {n : Int} (h1 : 0 ≤ n) (h2 : n < 256) : IntKind.u8.wrap n = n := by
  simp only [IntKind.wrap, IntKind.signed, IntKind.bits, Bool.false_and, Bool.false_eq_true, if_false]
  show n % 256 = n
  omega
theorem tmod_nat (k m : Nat) : Int.tmod (k : Int) (m : Int) = ((k % m : Nat) : Int) := rfl
theorem tdiv_nat (k m : Nat) : Int.tdiv (k : Int) (m : Int) = ((k / m : Nat) : Int) := rfl
theorem bl_range : ∀ k : Nat, k < 1000 → 100 ≤ k → (bl k = 7 ∨ bl k = 8 ∨ bl k = 9 ∨ (bl k = 10 ∧ 512 ≤ k)) := by decide +kernel
end Kd
noncomputable section
namespace Go.Proofs.YtnmolpkkemljoaaGreatDoor
open Go Go.Am Kd

theorem len64_ok {G : Gl} (u : Int) (h0 : 0 ≤ u) (h1 : u ≤ 18446744073709551615) : QuietJ Tryz.prog G 138 [.int .u64 u] (.int .i64 (bl u)) := by
  refine QuietJ.of_below fun S A w vs hi hl => ?_
  cases hl with
  | cons _ _ v _ hv hl =>
  cases hl
  cases hv
  refine (Go.Proofs.Tryz.bits_Len64 u w h0 h1).mono ?_
  rintro e w' ⟨rfl, rfl⟩
  exact ⟨.returned _ _ (.int _ _), Go.RowKit.Below.refl _ _⟩
theorem len_hook (m : Nat) : QSpec.Ok Tryz.prog gT 138 (lenQ m) := by
  intro args K h
  unfold lenQ at h
  split at h
  · obtain ⟨⟨h1, h2, h3⟩, h4⟩ := h
    subst h3
    exact ⟨_, len64_ok _ h1 (by omega), h4⟩
  · exact h.elim

theorem nd_ok (u : Int) (h0 : 100 ≤ u) (h1 : u ≤ 999) : QT 149 [.int .u64 u] (.int .i64 3) := by
  obtain ⟨k, rfl⟩ : ∃ k : Nat, u = (k : Int) := ⟨u.toNat, by omega⟩
  have hb := bl_range k (by omega) (by omega)
  have go : ∀ m, bl (k : Int) = m → Hooks.Ok Tryz.prog gT (lenHk m) := fun m _ => mkHooks_ok (all_cons (len_hook m) all_nil) all_nil all_nil
  rcases hb with hb | hb | hb | ⟨hb, h5⟩
  · refine QT.by (hk := lenHk 7) rfl rfl (go _ hb) ?_
    rw [nd7_top]
    exact ⟨⟨by omega, by omega, hb⟩, bothR_dec (fun _ => rfl) fun h => absurd h0 h⟩
  · refine QT.by (hk := lenHk 8) rfl rfl (go _ hb) ?_
    rw [nd8_top]
    exact ⟨⟨by omega, by omega, hb⟩, bothR_dec (fun _ => rfl) fun h => absurd h0 h⟩
  · refine QT.by (hk := lenHk 9) rfl rfl (go _ hb) ?_
    rw [nd9_top]
    exact ⟨⟨by omega, by omega, hb⟩, bothR_dec (fun _ => rfl) fun h => absurd h0 h⟩
  · refine QT.by (hk := lenHk 10) rfl rfl (go _ hb) ?_
    rw [nd10_top]
    exact ⟨⟨by omega, by omega, hb⟩, bothR_dec (fun h => absurd h1 (by have : (1000 : Int) ≤ k := h; omega)) fun h => rfl⟩
theorem nd_hook : QSpec.Ok Tryz.prog gT 149 ndQ := by
  intro args K h
  unfold ndQ at h
  split at h
  · exact ⟨_, nd_ok _ h.1.1 h.1.2, h.2⟩
  · exact h.elim

theorem sm_ok (n : Int) (h0 : 0 ≤ n) (h1 : n < 100) : QT 148 [.int .i64 n] (.str (itoaL n)) := by
  obtain ⟨k, rfl⟩ : ∃ k : Nat, n = (k : Int) := ⟨n.toNat, by omega⟩
  refine QT.by (hk := hk0) rfl rfl (mkHooks_ok all_nil all_nil all_nil) ?_
  rw [sm_top, wrap_id (n := (k : Int) + 1) (by omega) (by omega), wrap_id (n := (k : Int) * 2) (by omega) (by omega), wrap_id (n := (k : Int) * 2 + 2) (by omega) (by omega)]
  refine bothR_dec (fun h => ⟨by omega, by omega, by omega, ?_⟩) fun h => ⟨by omega, by omega, by omega, ?_⟩
  · have e1 : ((k : Int) + 1).toNat - (k : Int).toNat = 1 := by omega
    rw [e1, Int.toNat_natCast, dig_one k (by omega)]
    simp only [itoaL, itoaN, Int.toNat_natCast, if_pos (show k < 10 by omega)]
  · have e1 : ((k : Int) * 2 + 2).toNat - ((k : Int) * 2).toNat = 2 := by omega
    have e2 : ((k : Int) * 2).toNat = k * 2 := by omega
    rw [e1, e2, dig_two' k (by omega)]
    simp only [itoaL, itoaN, Int.toNat_natCast, if_neg (show ¬ k < 10 by omega), if_pos (show k < 100 by omega)]
theorem sm_hook : QSpec.Ok Tryz.prog gT 148 smQ := by
  intro args K h
  unfold smQ at h
  split at h
  · obtain ⟨n, rfl, h1, h2⟩ := argInt_elim h
    exact ⟨_, sm_ok n h1.1 h1.2, h2⟩
  · exact h.elim

theorem fi_ok (n : Int) (h0 : 0 ≤ n) (h1 : n < 1000) : QT 139 [.int .i64 n, .int .i64 10] (.str (itoaL n)) := by
  obtain ⟨k, rfl⟩ : ∃ k : Nat, n = (k : Int) := ⟨n.toNat, by omega⟩
  refine QT.by (hk := fiHk) rfl rfl (mkHooks_ok (all_cons sm_hook (all_cons nd_hook all_nil)) all_nil all_nil) ?_
  rw [fint_top]
  refine bothR_dec (fun _ => bothR_dec (fun h => ⟨⟨h0, h⟩, rfl⟩) fun h => bothR_dec (fun h => absurd h (by omega)) fun _ => ?_) fun h => absurd h0 h
  rw [u64_id (n := (k : Int)) (by omega) (by omega), u32_id (n := (k : Int)) (by omega) (by omega)]
  have e1 : Int.tmod (k : Int) 100 = ((k % 100 : Nat) : Int) := rfl
  have e2 : Int.tdiv (k : Int) 100 = ((k / 100 : Nat) : Int) := rfl
  rw [e1, e2]
  have l1 : k % 100 < 100 := Nat.mod_lt _ (by omega)
  rw [u32_id (n := ((k % 100 : Nat) : Int) * 2) (by omega) (by omega), u32_id (n := ((k % 100 : Nat) : Int) * 2 + 1) (by omega) (by omega), u32_id (n := ((k / 100 : Nat) : Int)) (by omega) (by omega),
    u32_id (n := 48 + ((k / 100 : Nat) : Int)) (by omega) (by omega), u8_id (n := 48 + ((k / 100 : Nat) : Int)) (by omega) (by omega)]
  have e3 : (((k % 100 : Nat) : Int) * 2).toNat = k % 100 * 2 := by omega
  have e4 : (((k % 100 : Nat) : Int) * 2 + 1).toNat = k % 100 * 2 + 1 := by omega
  have e5 : (48 + ((k / 100 : Nat) : Int)).toNat = 48 + k / 100 := by omega
  rw [e3, e4, e5]
  obtain ⟨d1, d2⟩ := dig_two (k % 100) l1
  refine ⟨⟨by omega, by omega⟩, rfl, by omega, rfl, by omega, by omega, _, d2, by omega, _, d1, rfl, rfl, rfl, rfl, ⟨by omega, _, d1, rfl⟩, bothR_dec (fun h => absurd h (by omega)) fun _ => ?_⟩
  simp only [iC, Int.toNat_natCast, UInt8.ofNat_toNat, itoaL, itoaN, if_neg (show ¬ k < 10 by omega), if_neg (show ¬ k < 100 by omega)]
  rw [show k % 100 / 10 = k / 10 % 10 by omega, show k % 100 % 10 = k % 10 by omega]
  rfl
theorem fi10_hook : QSpec.Ok Tryz.prog gT 139 fi10Q := by
  intro args K h
  unfold fi10Q at h
  split at h
  · obtain ⟨n, rfl, h3⟩ := argInt_elim h
    obtain ⟨b, rfl, h4⟩ := argInt_elim h3
    rcases tfR_elim h4 with ⟨hb, h1, h2⟩ | ⟨_, h⟩
    · simp only [decide_eq_true_eq] at hb
      subst hb
      exact ⟨_, fi_ok n h1.1 h1.2, h2⟩
    · exact h.elim
  · exact h.elim

theorem itoa_ok (n : Int) (h0 : 0 ≤ n) (h1 : n < 1000) : QT 105 [.int .i64 n] (.str (itoaL n)) := by
  refine QT.by (hk := itHk) rfl rfl (mkHooks_ok (all_cons fi10_hook all_nil) all_nil all_nil) ?_
  rw [it_top]
  exact ⟨⟨h0, h1⟩, rfl⟩
theorem itoa_hook : QSpec.Ok Tryz.prog gT 105 itoaQ := by
  intro args K h
  unfold itoaQ at h
  split at h
  · obtain ⟨n, rfl, h1, h2⟩ := argInt_elim h
    exact ⟨_, itoa_ok n h1.1 h1.2, h2⟩
  · exact h.elim

end Go.Proofs.YtnmolpkkemljoaaGreatDoor
end
end

section
set_option maxRecDepth 100000
namespace Kd
open Go.Am Go.Proofs.YtnmolpkkemljoaaGreatDoor

def befS (k : Int) : List UInt8 := if k = 0 then [117, 110, 105, 116] else if k = 1 then [105, 110, 116] else if k = 4 then [91] else if k = 6 then [39] else [40]
def btwS (k : Int) : List UInt8 := if k = 2 then [32, 42, 32] else if k = 3 then [32, 43, 32] else if k = 5 then [32, 45, 62, 32] else []
def aftS (k : Int) : List UInt8 := if k = 4 then [93] else if k = 0 ∨ k = 1 ∨ k = 6 then [] else [41]
mutual
/-- A type as a text. -/
def writeS : Ty → List UInt8
  | .mk k n _ l => (befS k ++ if k = 6 then itoaL n else []) ++ writeL (btwS k) l true ++ aftS k
def writeL (s : List UInt8) : List Ty → Bool → List UInt8
  | [], _ => []
  | x :: xs, first => (if first then [] else s) ++ writeS x ++ writeL s xs false
end
structure WSt where
  i : Nat
  acc : List UInt8
def zeroB (i : Nat) : Bool := decide (i = 0)

theorem itoaN_len (n : Nat) : (itoaN n).length ≤ 3 := by
  unfold itoaN
  split
  · simp
  · split <;> simp
theorem sep_len (k : Int) : (befS k).length ≤ 4 ∧ (btwS k).length ≤ 4 ∧ (aftS k).length ≤ 1 := by
  refine ⟨?_, ?_, ?_⟩
  · unfold befS; repeat' split
    all_goals simp
  · unfold btwS; repeat' split
    all_goals simp
  · unfold aftS; repeat' split
    all_goals simp
theorem write_lens : (∀ t, (writeS t).length + 4 ≤ 12 * cnt t) ∧ ∀ (s : List UInt8) l b, s.length ≤ 4 → (writeL s l b).length ≤ 12 * cntL l := by
  have key : ∀ (N : Nat), (∀ t, SizeOf.sizeOf t < N → (writeS t).length + 4 ≤ 12 * cnt t) ∧ ∀ l, SizeOf.sizeOf l < N → ∀ (s : List UInt8) b, s.length ≤ 4 → (writeL s l b).length ≤ 12 * cntL l := by
    intro N
    induction N with
    | zero => exact ⟨fun _ h => by omega, fun _ h => by omega⟩
    | succ N ih =>
      obtain ⟨ih1, ih2⟩ := ih
      constructor
      · intro t ht
        cases t with
        | mk k n b l =>
          simp only [Ty.mk.sizeOf_spec] at ht
          obtain ⟨h1, h2, h3⟩ := sep_len k
          have h4 := ih2 l (by omega) (btwS k) true h2
          have h5 : (if k = 6 then itoaL n else []).length ≤ 3 := by
            split
            · exact itoaN_len _
            · simp
          simp only [writeS, cnt, List.length_append]
          omega
      · intro l hl s b hs
        cases l with
        | nil => simp [writeL, cntL]
        | cons x xs =>
          simp only [List.cons.sizeOf_spec] at hl
          have h1 := ih1 x (by omega)
          have h2 := ih2 xs (by omega) s false hs
          have h3 : (if b = true then [] else s).length ≤ 4 := by
            split
            · simp
            · exact hs
          simp only [writeL, cntL, List.length_append]
          omega
  exact ⟨fun t => (key (SizeOf.sizeOf t + 1)).1 t (by omega), fun s l b => (key (SizeOf.sizeOf l + 1)).2 l (by omega) s b⟩
theorem write_len (t : Ty) : (writeS t).length + 4 ≤ 12 * cnt t := write_lens.1 t
end Kd
noncomputable section
namespace Go.Proofs.YtnmolpkkemljoaaGreatDoor
open Go Go.Am Kd

def runTC (hk : Hooks) (n : Nat) (rd : Option Nat) (c : Code) (a : AAct) (A : AH) (K : AOut → Prop) : Prop := fCodeR Tryz.prog gT els mu0 hk (Rm.W Tryz.prog gT els mu0 hk n) rd c a A K
def runTL {ι ρ : Type} (hk : Hooks) (n : Nat) (f k : Nat) (s : LSt ι ρ) (meas : ι → Nat) (x : ι) : Prop := runTC hk n s.rd (loopC f k) (s.fr x) (s.hp x) (s.post meas x)
/-- A loop, by its text. -/
theorem LSt.byT {ι ρ : Type} (s : LSt ι ρ) (meas : ι → Nat) {f k : Nat} {hk : Hooks} (hh : Hooks.Ok Tryz.prog gT hk) (hrd : s.rd = none) (hw : ∀ x, s.inv x → Whole s.n s.nf (s.fr x) (s.hp x))
    (hwo : ∀ x b, s.inv x → Whole s.n s.nf (s.out b (s.res x)).a (s.out b (s.res x)).A) (round : ∀ x, s.inv x → runTL hk 60 f k s meas x) : LHook.Ok Tryz.prog gT ⟨f, k, s.spec⟩ :=
  LSt.ok s meas (fun l h => by rw [hrd] at h; cases h) hw hwo fun x hx => CodeJ.run (el := els) (mu := mu0) hmix hh (n := 60) (round x hx)

def wrQ (N : Nat) : QSpec
  | [t], K => argTy t fun t => (SizeOf.sizeOf t < N ∧ okT t = true ∧ cnt t ≤ 1000) ∧ K (.str (writeS t))
  | _, _ => False
def wrQ0 : QSpec
  | [t], K => argTy t fun t => (okT t = true ∧ cnt t ≤ 1000) ∧ K (.str (writeS t))
  | _, _ => False
def wrB (t : Ty) : ABlk := .cells [.top, .top, .str (btwS t.kind), .str (aftS t.kind), .top, .top] 106
def wrSt (t : Ty) : LSt WSt (List UInt8) where
  n := 2
  nf := 0
  rd := none
  fr x := frm 44 [(1, .ptr 0 0), (3, .ptr 1 0), (4, .str x.acc), (22, .isl t.nl none 0 (encL t.l)), (23, .int .i64 (encL t.l).length), (24, .int .i64 x.i)]
  hp _ := ⟨[tyC t, wrB t], []⟩
  inv x := x.i ≤ t.l.length ∧ okL t.l = true ∧ cnt t ≤ 1000 ∧ x.acc.length + 12 * cntL (t.l.drop x.i) ≤ 20000
  res x := x.acc ++ writeL (btwS t.kind) (t.l.drop x.i) (zeroB x.i)
  sel _ := true
  out _ r := ⟨.exit 0, frm 44 [(3, .ptr 1 0), (4, .str r)], ⟨[tyC t, wrB t], []⟩⟩
def wrHk1 (N : Nat) : Hooks := hooks [(72, wrQ N)] [] []
def wrHk2 (t : Ty) : Hooks := hooks [(81, kindsQ), (105, itoaQ)] [] [(6, ⟨72, 0, (wrSt t).spec⟩)]

def btQ : QSpec
  | [k], K => argInt k fun k => (k = 2 ∨ k = 3 ∨ k = 5) ∧ K (.str (btwS k))
  | _, _ => False
def rwQ (N : Nat) : QSpec
  | [t], K => argTy t fun t => (SizeOf.sizeOf t < N ∧ okT t = true ∧ cnt t ≤ 1000) ∧ K (.str (writeS t))
  | _, _ => False
def rwHk (N : Nat) : Hooks := hooks [(105, itoaQ), (113, btQ), (90, rwQ N)] [] []
def txHk : Hooks := hooks [(76, validQ), (72, wrQ0)] [] []
def trHk : Hooks := hooks [(60, typeQ), (90, wrQ0)] [] []

end Go.Proofs.YtnmolpkkemljoaaGreatDoor
end
end

section
noncomputable section
namespace Go.Proofs.YtnmolpkkemljoaaGreatDoor
open Go Go.Am Kd
set_option maxRecDepth 100000

theorem wr_loop (t : Ty) (N : Nat) (meas : WSt → Nat) (x : WSt) : (runTL (wrHk1 N) 60 72 0 (wrSt t) meas x) = ( bothR (decide (iC (WSt.i x) < iC (List.length (encL (Ty.l t))))) (0 ≤ iC (WSt.i x) ∧ ∃ x_1, (encL (Ty.l t))[Int.toNat (iC (WSt.i x))]? = some (AV.agg [AV.int IntKind.i64 (Ty.kind x_1), AV.int IntKind.i64 (Ty.n x_1), AV.isl (Ty.nl x_1) none (0) (encL (Ty.l x_1))]) ∧ bothR (decide ((0 : Int) < iC (WSt.i x))) (iC (List.length (WSt.acc x) + List.length (btwS (Ty.kind t))) ≤ 9223372036854775807 ∧ ∃ l, encL (Ty.l x_1) = encL l ∧
 (SizeOf.sizeOf (Ty.mk (Ty.kind x_1) (Ty.n x_1) (Ty.nl x_1) l) < N ∧ okT (Ty.mk (Ty.kind x_1) (Ty.n x_1) (Ty.nl x_1) l) = true ∧ cnt (Ty.mk (Ty.kind x_1) (Ty.n x_1) (Ty.nl x_1) l) ≤ 1000) ∧ iC (List.length (WSt.acc x ++ btwS (Ty.kind t)) + List.length (writeS (Ty.mk (Ty.kind x_1) (Ty.n x_1) (Ty.nl x_1) l))) ≤ 9223372036854775807 ∧ ∃ y, (WSt.i y ≤ List.length (Ty.l t) ∧ okL (Ty.l t) = true ∧ cnt t ≤ 1000 ∧ List.length (WSt.acc y) + 12 * cntL (List.drop (WSt.i y) (Ty.l t)) ≤ 20000) ∧ meas y < meas x ∧ WSt.acc y ++ writeL (btwS (Ty.kind t)) (List.drop (WSt.i y) (Ty.l t)) (zeroB (WSt.i y)) =
 WSt.acc x ++ writeL (btwS (Ty.kind t)) (List.drop (WSt.i x) (Ty.l t)) (zeroB (WSt.i x)) ∧ AV.ptr (0) (0) = AV.ptr (0) (0) ∧ AV.ptr (1) (0) = AV.ptr (1) (0) ∧ AV.str (WSt.acc x ++ btwS (Ty.kind t) ++ writeS (Ty.mk (Ty.kind x_1) (Ty.n x_1) (Ty.nl x_1) l)) = AV.str (WSt.acc y) ∧ AV.isl (Ty.nl t) none (0) (encL (Ty.l t)) = AV.isl (Ty.nl t) none (0) (encL (Ty.l t)) ∧ AV.int IntKind.i64 (iC (List.length (encL (Ty.l t)))) = AV.int IntKind.i64 (iC (List.length (encL (Ty.l t)))) ∧ AV.int IntKind.i64 (IntKind.wrap IntKind.i64 (iC (WSt.i x) + (1 : Int))) = AV.int IntKind.i64 (iC (WSt.i y)) ∧ 24 = 24 ∧
 AV.int IntKind.i64 (Ty.kind t) = AV.int IntKind.i64 (Ty.kind t) ∧ AV.int IntKind.i64 (Ty.n t) = AV.int IntKind.i64 (Ty.n t) ∧ AV.isl (Ty.nl t) none (0) (encL (Ty.l t)) = AV.isl (Ty.nl t) none (0) (encL (Ty.l t)) ∧ 106 = 106 ∧ AV.str (btwS (Ty.kind t)) = AV.str (btwS (Ty.kind t)) ∧ AV.str (aftS (Ty.kind t)) = AV.str (aftS (Ty.kind t)) ∧ 0 = 0 ∧ True) (∃ l, encL (Ty.l x_1) = encL l ∧ (SizeOf.sizeOf (Ty.mk (Ty.kind x_1) (Ty.n x_1) (Ty.nl x_1) l) < N ∧ okT (Ty.mk (Ty.kind x_1) (Ty.n x_1) (Ty.nl x_1) l) = true ∧ cnt (Ty.mk (Ty.kind x_1) (Ty.n x_1) (Ty.nl x_1) l) ≤ 1000) ∧
 iC (List.length (WSt.acc x) + List.length (writeS (Ty.mk (Ty.kind x_1) (Ty.n x_1) (Ty.nl x_1) l))) ≤ 9223372036854775807 ∧ ∃ y, (WSt.i y ≤ List.length (Ty.l t) ∧ okL (Ty.l t) = true ∧ cnt t ≤ 1000 ∧ List.length (WSt.acc y) + 12 * cntL (List.drop (WSt.i y) (Ty.l t)) ≤ 20000) ∧ meas y < meas x ∧ WSt.acc y ++ writeL (btwS (Ty.kind t)) (List.drop (WSt.i y) (Ty.l t)) (zeroB (WSt.i y)) = WSt.acc x ++ writeL (btwS (Ty.kind t)) (List.drop (WSt.i x) (Ty.l t)) (zeroB (WSt.i x)) ∧ AV.ptr (0) (0) = AV.ptr (0) (0) ∧ AV.ptr (1) (0) = AV.ptr (1) (0) ∧
 AV.str (WSt.acc x ++ writeS (Ty.mk (Ty.kind x_1) (Ty.n x_1) (Ty.nl x_1) l)) = AV.str (WSt.acc y) ∧ AV.isl (Ty.nl t) none (0) (encL (Ty.l t)) = AV.isl (Ty.nl t) none (0) (encL (Ty.l t)) ∧ AV.int IntKind.i64 (iC (List.length (encL (Ty.l t)))) = AV.int IntKind.i64 (iC (List.length (encL (Ty.l t)))) ∧ AV.int IntKind.i64 (IntKind.wrap IntKind.i64 (iC (WSt.i x) + (1 : Int))) = AV.int IntKind.i64 (iC (WSt.i y)) ∧ 24 = 24 ∧ AV.int IntKind.i64 (Ty.kind t) = AV.int IntKind.i64 (Ty.kind t) ∧ AV.int IntKind.i64 (Ty.n t) = AV.int IntKind.i64 (Ty.n t) ∧
 AV.isl (Ty.nl t) none (0) (encL (Ty.l t)) = AV.isl (Ty.nl t) none (0) (encL (Ty.l t)) ∧ 106 = 106 ∧ AV.str (btwS (Ty.kind t)) = AV.str (btwS (Ty.kind t)) ∧ AV.str (aftS (Ty.kind t)) = AV.str (aftS (Ty.kind t)) ∧ 0 = 0 ∧ True)) (true = true ∧ AV.ptr (1) (0) = AV.ptr (1) (0) ∧ AV.str (WSt.acc x) = AV.str (WSt.acc x ++ writeL (btwS (Ty.kind t)) (List.drop (WSt.i x) (Ty.l t)) (zeroB (WSt.i x))) ∧ 24 = 24 ∧ AV.int IntKind.i64 (Ty.kind t) = AV.int IntKind.i64 (Ty.kind t) ∧ AV.int IntKind.i64 (Ty.n t) = AV.int IntKind.i64 (Ty.n t) ∧
 AV.isl (Ty.nl t) none (0) (encL (Ty.l t)) = AV.isl (Ty.nl t) none (0) (encL (Ty.l t)) ∧ 106 = 106 ∧ AV.str (btwS (Ty.kind t)) = AV.str (btwS (Ty.kind t)) ∧ AV.str (aftS (Ty.kind t)) = AV.str (aftS (Ty.kind t)) ∧ 0 = 0 ∧ True)) := by kernel_rfl

theorem wr_top (t : Ty) (r : List UInt8) : (runT (wrHk2 t) 60 72 [encD t] AH.nil (retIs Tryz.prog 5 (.str r))) = ( bothR (decide (Ty.kind t = (0 : Int))) (bothR (decide (Ty.kind t = (6 : Int))) ((0 ≤ Ty.n t ∧ Ty.n t < 1000) ∧ iC (4 + List.length (itoaL (Ty.n t))) ≤ 9223372036854775807 ∧ codeIs (loopOf Tryz.prog 72 0) Tryz.prog 72 0 (∃ x, (WSt.i x ≤ List.length (Ty.l t) ∧ okL (Ty.l t) = true ∧ cnt t ≤ 1000 ∧ List.length (WSt.acc x) + 12 * cntL (List.drop (WSt.i x) (Ty.l t)) ≤ 20000) ∧ AV.ptr (0) (0) = AV.ptr (0) (0) ∧ AV.ptr (1) (0) = AV.ptr (1) (0) ∧
 AV.str (117 :: 110 :: 105 :: 116 :: itoaL (Ty.n t)) = AV.str (WSt.acc x) ∧ AV.isl (Ty.nl t) none (0) (encL (Ty.l t)) = AV.isl (Ty.nl t) none (0) (encL (Ty.l t)) ∧ AV.int IntKind.i64 (iC (List.length (encL (Ty.l t)))) = AV.int IntKind.i64 (iC (List.length (encL (Ty.l t)))) ∧ AV.int IntKind.i64 (0) = AV.int IntKind.i64 (iC (WSt.i x)) ∧ 24 = 24 ∧ AV.int IntKind.i64 (Ty.kind t) = AV.int IntKind.i64 (Ty.kind t) ∧ AV.int IntKind.i64 (Ty.n t) = AV.int IntKind.i64 (Ty.n t) ∧ AV.isl (Ty.nl t) none (0) (encL (Ty.l t)) = AV.isl (Ty.nl t) none (0) (encL (Ty.l t)) ∧ 106 = 106 ∧
 AV.str [] = AV.str (btwS (Ty.kind t)) ∧ AV.str [] = AV.str (aftS (Ty.kind t)) ∧ 0 = 0 ∧ iC (List.length (WSt.acc x ++ writeL (btwS (Ty.kind t)) (List.drop (WSt.i x) (Ty.l t)) (zeroB (WSt.i x))) + List.length (aftS (Ty.kind t))) ≤ 9223372036854775807 ∧ AV.str (WSt.acc x ++ writeL (btwS (Ty.kind t)) (List.drop (WSt.i x) (Ty.l t)) (zeroB (WSt.i x)) ++ aftS (Ty.kind t)) = AV.str r)) (codeIs (loopOf Tryz.prog 72 0) Tryz.prog 72 0 (∃ x, (WSt.i x ≤ List.length (Ty.l t) ∧ okL (Ty.l t) = true ∧ cnt t ≤ 1000 ∧ List.length (WSt.acc x) + 12 * cntL (List.drop (WSt.i x) (Ty.l t)) ≤ 20000) ∧
 AV.ptr (0) (0) = AV.ptr (0) (0) ∧ AV.ptr (1) (0) = AV.ptr (1) (0) ∧ AV.str [117, 110, 105, 116] = AV.str (WSt.acc x) ∧ AV.isl (Ty.nl t) none (0) (encL (Ty.l t)) = AV.isl (Ty.nl t) none (0) (encL (Ty.l t)) ∧ AV.int IntKind.i64 (iC (List.length (encL (Ty.l t)))) = AV.int IntKind.i64 (iC (List.length (encL (Ty.l t)))) ∧ AV.int IntKind.i64 (0) = AV.int IntKind.i64 (iC (WSt.i x)) ∧ 24 = 24 ∧ AV.int IntKind.i64 (Ty.kind t) = AV.int IntKind.i64 (Ty.kind t) ∧ AV.int IntKind.i64 (Ty.n t) = AV.int IntKind.i64 (Ty.n t) ∧
 AV.isl (Ty.nl t) none (0) (encL (Ty.l t)) = AV.isl (Ty.nl t) none (0) (encL (Ty.l t)) ∧ 106 = 106 ∧ AV.str [] = AV.str (btwS (Ty.kind t)) ∧ AV.str [] = AV.str (aftS (Ty.kind t)) ∧ 0 = 0 ∧ iC (List.length (WSt.acc x ++ writeL (btwS (Ty.kind t)) (List.drop (WSt.i x) (Ty.l t)) (zeroB (WSt.i x))) + List.length (aftS (Ty.kind t))) ≤ 9223372036854775807 ∧ AV.str (WSt.acc x ++ writeL (btwS (Ty.kind t)) (List.drop (WSt.i x) (Ty.l t)) (zeroB (WSt.i x)) ++ aftS (Ty.kind t)) = AV.str r))) (bothR (decide (Ty.kind t = (1 : Int))) (bothR (decide (Ty.kind t = (6 : Int))) ((0 ≤ Ty.n t ∧ Ty.n t < 1000) ∧
 iC (3 + List.length (itoaL (Ty.n t))) ≤ 9223372036854775807 ∧ codeIs (loopOf Tryz.prog 72 0) Tryz.prog 72 0 (∃ x, (WSt.i x ≤ List.length (Ty.l t) ∧ okL (Ty.l t) = true ∧ cnt t ≤ 1000 ∧ List.length (WSt.acc x) + 12 * cntL (List.drop (WSt.i x) (Ty.l t)) ≤ 20000) ∧ AV.ptr (0) (0) = AV.ptr (0) (0) ∧ AV.ptr (1) (0) = AV.ptr (1) (0) ∧ AV.str (105 :: 110 :: 116 :: itoaL (Ty.n t)) = AV.str (WSt.acc x) ∧ AV.isl (Ty.nl t) none (0) (encL (Ty.l t)) = AV.isl (Ty.nl t) none (0) (encL (Ty.l t)) ∧ AV.int IntKind.i64 (iC (List.length (encL (Ty.l t)))) = AV.int IntKind.i64 (iC (List.length (encL (Ty.l t)))) ∧
 AV.int IntKind.i64 (0) = AV.int IntKind.i64 (iC (WSt.i x)) ∧ 24 = 24 ∧ AV.int IntKind.i64 (Ty.kind t) = AV.int IntKind.i64 (Ty.kind t) ∧ AV.int IntKind.i64 (Ty.n t) = AV.int IntKind.i64 (Ty.n t) ∧ AV.isl (Ty.nl t) none (0) (encL (Ty.l t)) = AV.isl (Ty.nl t) none (0) (encL (Ty.l t)) ∧ 106 = 106 ∧ AV.str [] = AV.str (btwS (Ty.kind t)) ∧ AV.str [] = AV.str (aftS (Ty.kind t)) ∧ 0 = 0 ∧ iC (List.length (WSt.acc x ++ writeL (btwS (Ty.kind t)) (List.drop (WSt.i x) (Ty.l t)) (zeroB (WSt.i x))) + List.length (aftS (Ty.kind t))) ≤ 9223372036854775807 ∧
 AV.str (WSt.acc x ++ writeL (btwS (Ty.kind t)) (List.drop (WSt.i x) (Ty.l t)) (zeroB (WSt.i x)) ++ aftS (Ty.kind t)) = AV.str r)) (codeIs (loopOf Tryz.prog 72 0) Tryz.prog 72 0 (∃ x, (WSt.i x ≤ List.length (Ty.l t) ∧ okL (Ty.l t) = true ∧ cnt t ≤ 1000 ∧ List.length (WSt.acc x) + 12 * cntL (List.drop (WSt.i x) (Ty.l t)) ≤ 20000) ∧ AV.ptr (0) (0) = AV.ptr (0) (0) ∧ AV.ptr (1) (0) = AV.ptr (1) (0) ∧ AV.str [105, 110, 116] = AV.str (WSt.acc x) ∧ AV.isl (Ty.nl t) none (0) (encL (Ty.l t)) = AV.isl (Ty.nl t) none (0) (encL (Ty.l t)) ∧
 AV.int IntKind.i64 (iC (List.length (encL (Ty.l t)))) = AV.int IntKind.i64 (iC (List.length (encL (Ty.l t)))) ∧ AV.int IntKind.i64 (0) = AV.int IntKind.i64 (iC (WSt.i x)) ∧ 24 = 24 ∧ AV.int IntKind.i64 (Ty.kind t) = AV.int IntKind.i64 (Ty.kind t) ∧ AV.int IntKind.i64 (Ty.n t) = AV.int IntKind.i64 (Ty.n t) ∧ AV.isl (Ty.nl t) none (0) (encL (Ty.l t)) = AV.isl (Ty.nl t) none (0) (encL (Ty.l t)) ∧ 106 = 106 ∧ AV.str [] = AV.str (btwS (Ty.kind t)) ∧ AV.str [] = AV.str (aftS (Ty.kind t)) ∧ 0 = 0 ∧ iC
 (List.length (WSt.acc x ++ writeL (btwS (Ty.kind t)) (List.drop (WSt.i x) (Ty.l t)) (zeroB (WSt.i x))) + List.length (aftS (Ty.kind t))) ≤ 9223372036854775807 ∧ AV.str (WSt.acc x ++ writeL (btwS (Ty.kind t)) (List.drop (WSt.i x) (Ty.l t)) (zeroB (WSt.i x)) ++ aftS (Ty.kind t)) = AV.str r))) (bothR (decide (Ty.kind t = (2 : Int))) (bothR (decide (Ty.kind t = (6 : Int))) ((0 ≤ Ty.n t ∧ Ty.n t < 1000) ∧ iC (1 + List.length (itoaL (Ty.n t))) ≤ 9223372036854775807 ∧ codeIs (loopOf Tryz.prog 72 0) Tryz.prog 72 0 (∃ x, (WSt.i x ≤ List.length (Ty.l t) ∧
 okL (Ty.l t) = true ∧ cnt t ≤ 1000 ∧ List.length (WSt.acc x) + 12 * cntL (List.drop (WSt.i x) (Ty.l t)) ≤ 20000) ∧ AV.ptr (0) (0) = AV.ptr (0) (0) ∧ AV.ptr (1) (0) = AV.ptr (1) (0) ∧ AV.str (40 :: itoaL (Ty.n t)) = AV.str (WSt.acc x) ∧ AV.isl (Ty.nl t) none (0) (encL (Ty.l t)) = AV.isl (Ty.nl t) none (0) (encL (Ty.l t)) ∧ AV.int IntKind.i64 (iC (List.length (encL (Ty.l t)))) = AV.int IntKind.i64 (iC (List.length (encL (Ty.l t)))) ∧ AV.int IntKind.i64 (0) = AV.int IntKind.i64 (iC (WSt.i x)) ∧ 24 = 24 ∧ AV.int IntKind.i64 (Ty.kind t) = AV.int IntKind.i64 (Ty.kind t) ∧
 AV.int IntKind.i64 (Ty.n t) = AV.int IntKind.i64 (Ty.n t) ∧ AV.isl (Ty.nl t) none (0) (encL (Ty.l t)) = AV.isl (Ty.nl t) none (0) (encL (Ty.l t)) ∧ 106 = 106 ∧ AV.str [32, 42, 32] = AV.str (btwS (Ty.kind t)) ∧ AV.str [41] = AV.str (aftS (Ty.kind t)) ∧ 0 = 0 ∧ iC (List.length (WSt.acc x ++ writeL (btwS (Ty.kind t)) (List.drop (WSt.i x) (Ty.l t)) (zeroB (WSt.i x))) + List.length (aftS (Ty.kind t))) ≤ 9223372036854775807 ∧ AV.str (WSt.acc x ++ writeL (btwS (Ty.kind t)) (List.drop (WSt.i x) (Ty.l t)) (zeroB (WSt.i x)) ++ aftS (Ty.kind t)) = AV.str r))
 (codeIs (loopOf Tryz.prog 72 0) Tryz.prog 72 0 (∃ x, (WSt.i x ≤ List.length (Ty.l t) ∧ okL (Ty.l t) = true ∧ cnt t ≤ 1000 ∧ List.length (WSt.acc x) + 12 * cntL (List.drop (WSt.i x) (Ty.l t)) ≤ 20000) ∧ AV.ptr (0) (0) = AV.ptr (0) (0) ∧ AV.ptr (1) (0) = AV.ptr (1) (0) ∧ AV.str [40] = AV.str (WSt.acc x) ∧ AV.isl (Ty.nl t) none (0) (encL (Ty.l t)) = AV.isl (Ty.nl t) none (0) (encL (Ty.l t)) ∧ AV.int IntKind.i64 (iC (List.length (encL (Ty.l t)))) = AV.int IntKind.i64 (iC (List.length (encL (Ty.l t)))) ∧ AV.int IntKind.i64 (0) = AV.int IntKind.i64 (iC (WSt.i x)) ∧ 24 = 24 ∧
 AV.int IntKind.i64 (Ty.kind t) = AV.int IntKind.i64 (Ty.kind t) ∧ AV.int IntKind.i64 (Ty.n t) = AV.int IntKind.i64 (Ty.n t) ∧ AV.isl (Ty.nl t) none (0) (encL (Ty.l t)) = AV.isl (Ty.nl t) none (0) (encL (Ty.l t)) ∧ 106 = 106 ∧ AV.str [32, 42, 32] = AV.str (btwS (Ty.kind t)) ∧ AV.str [41] = AV.str (aftS (Ty.kind t)) ∧ 0 = 0 ∧ iC (List.length (WSt.acc x ++ writeL (btwS (Ty.kind t)) (List.drop (WSt.i x) (Ty.l t)) (zeroB (WSt.i x))) + List.length (aftS (Ty.kind t))) ≤ 9223372036854775807 ∧
 AV.str (WSt.acc x ++ writeL (btwS (Ty.kind t)) (List.drop (WSt.i x) (Ty.l t)) (zeroB (WSt.i x)) ++ aftS (Ty.kind t)) = AV.str r))) (bothR (decide (Ty.kind t = (3 : Int))) (bothR (decide (Ty.kind t = (6 : Int))) ((0 ≤ Ty.n t ∧ Ty.n t < 1000) ∧ iC (1 + List.length (itoaL (Ty.n t))) ≤ 9223372036854775807 ∧ codeIs (loopOf Tryz.prog 72 0) Tryz.prog 72 0 (∃ x, (WSt.i x ≤ List.length (Ty.l t) ∧ okL (Ty.l t) = true ∧ cnt t ≤ 1000 ∧ List.length (WSt.acc x) + 12 * cntL (List.drop (WSt.i x) (Ty.l t)) ≤ 20000) ∧ AV.ptr (0) (0) = AV.ptr (0) (0) ∧ AV.ptr (1) (0) = AV.ptr (1) (0) ∧
 AV.str (40 :: itoaL (Ty.n t)) = AV.str (WSt.acc x) ∧ AV.isl (Ty.nl t) none (0) (encL (Ty.l t)) = AV.isl (Ty.nl t) none (0) (encL (Ty.l t)) ∧ AV.int IntKind.i64 (iC (List.length (encL (Ty.l t)))) = AV.int IntKind.i64 (iC (List.length (encL (Ty.l t)))) ∧ AV.int IntKind.i64 (0) = AV.int IntKind.i64 (iC (WSt.i x)) ∧ 24 = 24 ∧ AV.int IntKind.i64 (Ty.kind t) = AV.int IntKind.i64 (Ty.kind t) ∧ AV.int IntKind.i64 (Ty.n t) = AV.int IntKind.i64 (Ty.n t) ∧ AV.isl (Ty.nl t) none (0) (encL (Ty.l t)) = AV.isl (Ty.nl t) none (0) (encL (Ty.l t)) ∧ 106 = 106 ∧ AV.str [32, 43, 32] = AV.str (btwS (Ty.kind t)) ∧
 AV.str [41] = AV.str (aftS (Ty.kind t)) ∧ 0 = 0 ∧ iC (List.length (WSt.acc x ++ writeL (btwS (Ty.kind t)) (List.drop (WSt.i x) (Ty.l t)) (zeroB (WSt.i x))) + List.length (aftS (Ty.kind t))) ≤ 9223372036854775807 ∧ AV.str (WSt.acc x ++ writeL (btwS (Ty.kind t)) (List.drop (WSt.i x) (Ty.l t)) (zeroB (WSt.i x)) ++ aftS (Ty.kind t)) = AV.str r)) (codeIs (loopOf Tryz.prog 72 0) Tryz.prog 72 0 (∃ x, (WSt.i x ≤ List.length (Ty.l t) ∧ okL (Ty.l t) = true ∧ cnt t ≤ 1000 ∧ List.length (WSt.acc x) + 12 * cntL (List.drop (WSt.i x) (Ty.l t)) ≤ 20000) ∧ AV.ptr (0) (0) = AV.ptr (0) (0) ∧
 AV.ptr (1) (0) = AV.ptr (1) (0) ∧ AV.str [40] = AV.str (WSt.acc x) ∧ AV.isl (Ty.nl t) none (0) (encL (Ty.l t)) = AV.isl (Ty.nl t) none (0) (encL (Ty.l t)) ∧ AV.int IntKind.i64 (iC (List.length (encL (Ty.l t)))) = AV.int IntKind.i64 (iC (List.length (encL (Ty.l t)))) ∧ AV.int IntKind.i64 (0) = AV.int IntKind.i64 (iC (WSt.i x)) ∧ 24 = 24 ∧ AV.int IntKind.i64 (Ty.kind t) = AV.int IntKind.i64 (Ty.kind t) ∧ AV.int IntKind.i64 (Ty.n t) = AV.int IntKind.i64 (Ty.n t) ∧ AV.isl (Ty.nl t) none (0) (encL (Ty.l t)) = AV.isl (Ty.nl t) none (0) (encL (Ty.l t)) ∧ 106 = 106 ∧
 AV.str [32, 43, 32] = AV.str (btwS (Ty.kind t)) ∧ AV.str [41] = AV.str (aftS (Ty.kind t)) ∧ 0 = 0 ∧ iC (List.length (WSt.acc x ++ writeL (btwS (Ty.kind t)) (List.drop (WSt.i x) (Ty.l t)) (zeroB (WSt.i x))) + List.length (aftS (Ty.kind t))) ≤ 9223372036854775807 ∧ AV.str (WSt.acc x ++ writeL (btwS (Ty.kind t)) (List.drop (WSt.i x) (Ty.l t)) (zeroB (WSt.i x)) ++ aftS (Ty.kind t)) = AV.str r))) (bothR (decide (Ty.kind t = (4 : Int))) (bothR (decide (Ty.kind t = (6 : Int))) ((0 ≤ Ty.n t ∧ Ty.n t < 1000) ∧ iC (1 + List.length (itoaL (Ty.n t))) ≤ 9223372036854775807 ∧
 codeIs (loopOf Tryz.prog 72 0) Tryz.prog 72 0 (∃ x, (WSt.i x ≤ List.length (Ty.l t) ∧ okL (Ty.l t) = true ∧ cnt t ≤ 1000 ∧ List.length (WSt.acc x) + 12 * cntL (List.drop (WSt.i x) (Ty.l t)) ≤ 20000) ∧ AV.ptr (0) (0) = AV.ptr (0) (0) ∧ AV.ptr (1) (0) = AV.ptr (1) (0) ∧ AV.str (91 :: itoaL (Ty.n t)) = AV.str (WSt.acc x) ∧ AV.isl (Ty.nl t) none (0) (encL (Ty.l t)) = AV.isl (Ty.nl t) none (0) (encL (Ty.l t)) ∧ AV.int IntKind.i64 (iC (List.length (encL (Ty.l t)))) = AV.int IntKind.i64 (iC (List.length (encL (Ty.l t)))) ∧ AV.int IntKind.i64 (0) = AV.int IntKind.i64 (iC (WSt.i x)) ∧ 24 = 24 ∧
 AV.int IntKind.i64 (Ty.kind t) = AV.int IntKind.i64 (Ty.kind t) ∧ AV.int IntKind.i64 (Ty.n t) = AV.int IntKind.i64 (Ty.n t) ∧ AV.isl (Ty.nl t) none (0) (encL (Ty.l t)) = AV.isl (Ty.nl t) none (0) (encL (Ty.l t)) ∧ 106 = 106 ∧ AV.str [] = AV.str (btwS (Ty.kind t)) ∧ AV.str [93] = AV.str (aftS (Ty.kind t)) ∧ 0 = 0 ∧ iC (List.length (WSt.acc x ++ writeL (btwS (Ty.kind t)) (List.drop (WSt.i x) (Ty.l t)) (zeroB (WSt.i x))) + List.length (aftS (Ty.kind t))) ≤ 9223372036854775807 ∧ AV.str (WSt.acc x ++ writeL (btwS (Ty.kind t)) (List.drop (WSt.i x) (Ty.l t)) (zeroB (WSt.i x)) ++ aftS (Ty.kind t)) =
 AV.str r)) (codeIs (loopOf Tryz.prog 72 0) Tryz.prog 72 0 (∃ x, (WSt.i x ≤ List.length (Ty.l t) ∧ okL (Ty.l t) = true ∧ cnt t ≤ 1000 ∧ List.length (WSt.acc x) + 12 * cntL (List.drop (WSt.i x) (Ty.l t)) ≤ 20000) ∧ AV.ptr (0) (0) = AV.ptr (0) (0) ∧ AV.ptr (1) (0) = AV.ptr (1) (0) ∧ AV.str [91] = AV.str (WSt.acc x) ∧ AV.isl (Ty.nl t) none (0) (encL (Ty.l t)) = AV.isl (Ty.nl t) none (0) (encL (Ty.l t)) ∧ AV.int IntKind.i64 (iC (List.length (encL (Ty.l t)))) = AV.int IntKind.i64 (iC (List.length (encL (Ty.l t)))) ∧ AV.int IntKind.i64 (0) = AV.int IntKind.i64 (iC (WSt.i x)) ∧ 24 = 24 ∧
 AV.int IntKind.i64 (Ty.kind t) = AV.int IntKind.i64 (Ty.kind t) ∧ AV.int IntKind.i64 (Ty.n t) = AV.int IntKind.i64 (Ty.n t) ∧ AV.isl (Ty.nl t) none (0) (encL (Ty.l t)) = AV.isl (Ty.nl t) none (0) (encL (Ty.l t)) ∧ 106 = 106 ∧ AV.str [] = AV.str (btwS (Ty.kind t)) ∧ AV.str [93] = AV.str (aftS (Ty.kind t)) ∧ 0 = 0 ∧ iC (List.length (WSt.acc x ++ writeL (btwS (Ty.kind t)) (List.drop (WSt.i x) (Ty.l t)) (zeroB (WSt.i x))) + List.length (aftS (Ty.kind t))) ≤ 9223372036854775807 ∧
 AV.str (WSt.acc x ++ writeL (btwS (Ty.kind t)) (List.drop (WSt.i x) (Ty.l t)) (zeroB (WSt.i x)) ++ aftS (Ty.kind t)) = AV.str r))) (bothR (decide (Ty.kind t = (5 : Int))) (bothR (decide (Ty.kind t = (6 : Int))) ((0 ≤ Ty.n t ∧ Ty.n t < 1000) ∧ iC (1 + List.length (itoaL (Ty.n t))) ≤ 9223372036854775807 ∧ codeIs (loopOf Tryz.prog 72 0) Tryz.prog 72 0 (∃ x, (WSt.i x ≤ List.length (Ty.l t) ∧ okL (Ty.l t) = true ∧ cnt t ≤ 1000 ∧ List.length (WSt.acc x) + 12 * cntL (List.drop (WSt.i x) (Ty.l t)) ≤ 20000) ∧ AV.ptr (0) (0) = AV.ptr (0) (0) ∧ AV.ptr (1) (0) = AV.ptr (1) (0) ∧
 AV.str (40 :: itoaL (Ty.n t)) = AV.str (WSt.acc x) ∧ AV.isl (Ty.nl t) none (0) (encL (Ty.l t)) = AV.isl (Ty.nl t) none (0) (encL (Ty.l t)) ∧ AV.int IntKind.i64 (iC (List.length (encL (Ty.l t)))) = AV.int IntKind.i64 (iC (List.length (encL (Ty.l t)))) ∧ AV.int IntKind.i64 (0) = AV.int IntKind.i64 (iC (WSt.i x)) ∧ 24 = 24 ∧ AV.int IntKind.i64 (Ty.kind t) = AV.int IntKind.i64 (Ty.kind t) ∧ AV.int IntKind.i64 (Ty.n t) = AV.int IntKind.i64 (Ty.n t) ∧ AV.isl (Ty.nl t) none (0) (encL (Ty.l t)) = AV.isl (Ty.nl t) none (0) (encL (Ty.l t)) ∧ 106 = 106 ∧
 AV.str [32, 45, 62, 32] = AV.str (btwS (Ty.kind t)) ∧ AV.str [41] = AV.str (aftS (Ty.kind t)) ∧ 0 = 0 ∧ iC (List.length (WSt.acc x ++ writeL (btwS (Ty.kind t)) (List.drop (WSt.i x) (Ty.l t)) (zeroB (WSt.i x))) + List.length (aftS (Ty.kind t))) ≤ 9223372036854775807 ∧ AV.str (WSt.acc x ++ writeL (btwS (Ty.kind t)) (List.drop (WSt.i x) (Ty.l t)) (zeroB (WSt.i x)) ++ aftS (Ty.kind t)) = AV.str r)) (codeIs (loopOf Tryz.prog 72 0) Tryz.prog 72 0 (∃ x, (WSt.i x ≤ List.length (Ty.l t) ∧ okL (Ty.l t) = true ∧ cnt t ≤ 1000 ∧ List.length (WSt.acc x) + 12 * cntL (List.drop (WSt.i x) (Ty.l t)) ≤ 20000) ∧
 AV.ptr (0) (0) = AV.ptr (0) (0) ∧ AV.ptr (1) (0) = AV.ptr (1) (0) ∧ AV.str [40] = AV.str (WSt.acc x) ∧ AV.isl (Ty.nl t) none (0) (encL (Ty.l t)) = AV.isl (Ty.nl t) none (0) (encL (Ty.l t)) ∧ AV.int IntKind.i64 (iC (List.length (encL (Ty.l t)))) = AV.int IntKind.i64 (iC (List.length (encL (Ty.l t)))) ∧ AV.int IntKind.i64 (0) = AV.int IntKind.i64 (iC (WSt.i x)) ∧ 24 = 24 ∧ AV.int IntKind.i64 (Ty.kind t) = AV.int IntKind.i64 (Ty.kind t) ∧ AV.int IntKind.i64 (Ty.n t) = AV.int IntKind.i64 (Ty.n t) ∧ AV.isl (Ty.nl t) none (0) (encL (Ty.l t)) = AV.isl (Ty.nl t) none (0) (encL (Ty.l t)) ∧ 106 = 106 ∧
 AV.str [32, 45, 62, 32] = AV.str (btwS (Ty.kind t)) ∧ AV.str [41] = AV.str (aftS (Ty.kind t)) ∧ 0 = 0 ∧ iC (List.length (WSt.acc x ++ writeL (btwS (Ty.kind t)) (List.drop (WSt.i x) (Ty.l t)) (zeroB (WSt.i x))) + List.length (aftS (Ty.kind t))) ≤ 9223372036854775807 ∧ AV.str (WSt.acc x ++ writeL (btwS (Ty.kind t)) (List.drop (WSt.i x) (Ty.l t)) (zeroB (WSt.i x)) ++ aftS (Ty.kind t)) = AV.str r))) (bothR (decide (Ty.kind t = (6 : Int))) (bothR (decide (Ty.kind t = (6 : Int))) ((0 ≤ Ty.n t ∧ Ty.n t < 1000) ∧ iC (1 + List.length (itoaL (Ty.n t))) ≤ 9223372036854775807 ∧
 codeIs (loopOf Tryz.prog 72 0) Tryz.prog 72 0 (∃ x, (WSt.i x ≤ List.length (Ty.l t) ∧ okL (Ty.l t) = true ∧ cnt t ≤ 1000 ∧ List.length (WSt.acc x) + 12 * cntL (List.drop (WSt.i x) (Ty.l t)) ≤ 20000) ∧ AV.ptr (0) (0) = AV.ptr (0) (0) ∧ AV.ptr (1) (0) = AV.ptr (1) (0) ∧ AV.str (39 :: itoaL (Ty.n t)) = AV.str (WSt.acc x) ∧ AV.isl (Ty.nl t) none (0) (encL (Ty.l t)) = AV.isl (Ty.nl t) none (0) (encL (Ty.l t)) ∧ AV.int IntKind.i64 (iC (List.length (encL (Ty.l t)))) = AV.int IntKind.i64 (iC (List.length (encL (Ty.l t)))) ∧ AV.int IntKind.i64 (0) = AV.int IntKind.i64 (iC (WSt.i x)) ∧ 24 = 24 ∧
 AV.int IntKind.i64 (Ty.kind t) = AV.int IntKind.i64 (Ty.kind t) ∧ AV.int IntKind.i64 (Ty.n t) = AV.int IntKind.i64 (Ty.n t) ∧ AV.isl (Ty.nl t) none (0) (encL (Ty.l t)) = AV.isl (Ty.nl t) none (0) (encL (Ty.l t)) ∧ 106 = 106 ∧ AV.str [] = AV.str (btwS (Ty.kind t)) ∧ AV.str [] = AV.str (aftS (Ty.kind t)) ∧ 0 = 0 ∧ iC (List.length (WSt.acc x ++ writeL (btwS (Ty.kind t)) (List.drop (WSt.i x) (Ty.l t)) (zeroB (WSt.i x))) + List.length (aftS (Ty.kind t))) ≤ 9223372036854775807 ∧ AV.str (WSt.acc x ++ writeL (btwS (Ty.kind t)) (List.drop (WSt.i x) (Ty.l t)) (zeroB (WSt.i x)) ++ aftS (Ty.kind t)) =
 AV.str r)) (codeIs (loopOf Tryz.prog 72 0) Tryz.prog 72 0 (∃ x, (WSt.i x ≤ List.length (Ty.l t) ∧ okL (Ty.l t) = true ∧ cnt t ≤ 1000 ∧ List.length (WSt.acc x) + 12 * cntL (List.drop (WSt.i x) (Ty.l t)) ≤ 20000) ∧ AV.ptr (0) (0) = AV.ptr (0) (0) ∧ AV.ptr (1) (0) = AV.ptr (1) (0) ∧ AV.str [39] = AV.str (WSt.acc x) ∧ AV.isl (Ty.nl t) none (0) (encL (Ty.l t)) = AV.isl (Ty.nl t) none (0) (encL (Ty.l t)) ∧ AV.int IntKind.i64 (iC (List.length (encL (Ty.l t)))) = AV.int IntKind.i64 (iC (List.length (encL (Ty.l t)))) ∧ AV.int IntKind.i64 (0) = AV.int IntKind.i64 (iC (WSt.i x)) ∧ 24 = 24 ∧
 AV.int IntKind.i64 (Ty.kind t) = AV.int IntKind.i64 (Ty.kind t) ∧ AV.int IntKind.i64 (Ty.n t) = AV.int IntKind.i64 (Ty.n t) ∧ AV.isl (Ty.nl t) none (0) (encL (Ty.l t)) = AV.isl (Ty.nl t) none (0) (encL (Ty.l t)) ∧ 106 = 106 ∧ AV.str [] = AV.str (btwS (Ty.kind t)) ∧ AV.str [] = AV.str (aftS (Ty.kind t)) ∧ 0 = 0 ∧ iC (List.length (WSt.acc x ++ writeL (btwS (Ty.kind t)) (List.drop (WSt.i x) (Ty.l t)) (zeroB (WSt.i x))) + List.length (aftS (Ty.kind t))) ≤ 9223372036854775807 ∧ AV.str (WSt.acc x ++ writeL (btwS (Ty.kind t)) (List.drop (WSt.i x) (Ty.l t)) (zeroB (WSt.i x)) ++ aftS (Ty.kind t)) =
 AV.str r))) False))))))) := by kernel_rfl

theorem bt_top (k : Int) (r : List UInt8) : (runT hk0 60 113 [.int .i64 k] AH.nil (retIs Tryz.prog 5 (.str r))) = ( bothR (decide (k = (2 : Int))) (AV.str [32, 42, 32] = AV.str r) (bothR (decide (k = (3 : Int))) (AV.str [32, 43, 32] = AV.str r) (AV.str [32, 45, 62, 32] = AV.str r))) := by kernel_rfl

theorem rw_top (t : Ty) (N : Nat) (r : List UInt8) : (runT (rwHk N) 60 90 [encD t] AH.nil (retIs Tryz.prog 5 (.str r))) = ( bothR (decide (Ty.kind t = (0 : Int))) (AV.str [117, 110, 105, 116] = AV.str r) (bothR (decide (Ty.kind t = (1 : Int))) (AV.str [105, 110, 116] = AV.str r) (bothR (decide (Ty.kind t = (6 : Int))) ((0 ≤ Ty.n t ∧ Ty.n t < 1000) ∧ iC (1 + List.length (itoaL (Ty.n t))) ≤ 9223372036854775807 ∧ AV.str (39 :: itoaL (Ty.n t)) = AV.str r) (bothR (decide (Ty.kind t = (4 : Int))) (Int.NonNeg (0) ∧ ∃ x,
 (encL (Ty.l t))[0]? = some (AV.agg [AV.int IntKind.i64 (Ty.kind x), AV.int IntKind.i64 (Ty.n x), AV.isl (Ty.nl x) none (0) (encL (Ty.l x))]) ∧ ∃ l, encL (Ty.l x) = encL l ∧ (SizeOf.sizeOf (Ty.mk (Ty.kind x) (Ty.n x) (Ty.nl x) l) < N ∧ okT (Ty.mk (Ty.kind x) (Ty.n x) (Ty.nl x) l) = true ∧ cnt (Ty.mk (Ty.kind x) (Ty.n x) (Ty.nl x) l) ≤ 1000) ∧ iC (1 + List.length (writeS (Ty.mk (Ty.kind x) (Ty.n x) (Ty.nl x) l))) ≤ 9223372036854775807 ∧ iC (List.length (writeS (Ty.mk (Ty.kind x) (Ty.n x) (Ty.nl x) l)) + 1 + 1) ≤ 9223372036854775807 ∧
 AV.str (91 :: List.append (writeS (Ty.mk (Ty.kind x) (Ty.n x) (Ty.nl x) l)) [93]) = AV.str r) (Int.NonNeg (0) ∧ ∃ x, (encL (Ty.l t))[0]? = some (AV.agg [AV.int IntKind.i64 (Ty.kind x), AV.int IntKind.i64 (Ty.n x), AV.isl (Ty.nl x) none (0) (encL (Ty.l x))]) ∧ ∃ l, encL (Ty.l x) = encL l ∧ (SizeOf.sizeOf (Ty.mk (Ty.kind x) (Ty.n x) (Ty.nl x) l) < N ∧ okT (Ty.mk (Ty.kind x) (Ty.n x) (Ty.nl x) l) = true ∧ cnt (Ty.mk (Ty.kind x) (Ty.n x) (Ty.nl x) l) ≤ 1000) ∧ iC (1 + List.length (writeS (Ty.mk (Ty.kind x) (Ty.n x) (Ty.nl x) l))) ≤ 9223372036854775807 ∧
 (Ty.kind t = 2 ∨ Ty.kind t = 3 ∨ Ty.kind t = 5) ∧ iC (List.length (writeS (Ty.mk (Ty.kind x) (Ty.n x) (Ty.nl x) l)) + 1 + List.length (btwS (Ty.kind t))) ≤ 9223372036854775807 ∧ Int.NonNeg (1) ∧ ∃ x_1, (encL (Ty.l t))[1]? = some (AV.agg [AV.int IntKind.i64 (Ty.kind x_1), AV.int IntKind.i64 (Ty.n x_1), AV.isl (Ty.nl x_1) none (0) (encL (Ty.l x_1))]) ∧ ∃ l_1, encL (Ty.l x_1) = encL l_1 ∧ (SizeOf.sizeOf (Ty.mk (Ty.kind x_1) (Ty.n x_1) (Ty.nl x_1) l_1) < N ∧ okT (Ty.mk (Ty.kind x_1) (Ty.n x_1) (Ty.nl x_1) l_1) = true ∧ cnt (Ty.mk (Ty.kind x_1) (Ty.n x_1) (Ty.nl x_1) l_1) ≤ 1000) ∧ iC
 (List.length (List.append (writeS (Ty.mk (Ty.kind x) (Ty.n x) (Ty.nl x) l)) (btwS (Ty.kind t))) + 1 + List.length (writeS (Ty.mk (Ty.kind x_1) (Ty.n x_1) (Ty.nl x_1) l_1))) ≤ 9223372036854775807 ∧ iC (List.length (List.append (List.append (writeS (Ty.mk (Ty.kind x) (Ty.n x) (Ty.nl x) l)) (btwS (Ty.kind t))) (writeS (Ty.mk (Ty.kind x_1) (Ty.n x_1) (Ty.nl x_1) l_1))) + 1 + 1) ≤ 9223372036854775807 ∧ AV.str (40 :: List.append (List.append (List.append (writeS (Ty.mk (Ty.kind x) (Ty.n x) (Ty.nl x) l)) (btwS (Ty.kind t))) (writeS (Ty.mk (Ty.kind x_1) (Ty.n x_1) (Ty.nl x_1) l_1))) [41]) =
 AV.str r))))) := by kernel_rfl

theorem tx_top (t : Ty) (r : List UInt8) (e : Int) : (runT txHk 60 26 [encD t] AH.nil (retIs Tryz.prog 5 (.tup [.str r, .int .i64 e]))) = ( Int.NonNeg (0) ∧ ∃ x, some (AV.agg [AV.int IntKind.i64 (Ty.kind t), AV.int IntKind.i64 (Ty.n t), AV.isl (Ty.nl t) none (0) (encL (Ty.l t))]) = some (AV.agg [AV.int IntKind.i64 (Ty.kind x), AV.int IntKind.i64 (Ty.n x), AV.isl (Ty.nl x) none (0) (encL (Ty.l x))]) ∧ ∃ l, encL (Ty.l x) = encL l ∧ cnt (Ty.mk (Ty.kind x) (Ty.n x) (Ty.nl x) l) ≤ 1000 ∧
 bothR (!validB (Ty.mk (Ty.kind x) (Ty.n x) (Ty.nl x) l)) (AV.tup [AV.str [], AV.int IntKind.i64 (1)] = AV.tup [AV.str r, AV.int IntKind.i64 e]) (∃ l, encL (Ty.l t) = encL l ∧ (okT (Ty.mk (Ty.kind t) (Ty.n t) (Ty.nl t) l) = true ∧ cnt (Ty.mk (Ty.kind t) (Ty.n t) (Ty.nl t) l) ≤ 1000) ∧ AV.tup [AV.str (writeS (Ty.mk (Ty.kind t) (Ty.n t) (Ty.nl t) l)), AV.int IntKind.i64 (0)] = AV.tup [AV.str r, AV.int IntKind.i64 e])) := by kernel_rfl

theorem tr_top (t : Ty) (r : List UInt8) (e : Int) : (runT trHk 60 40 [encD t] AH.nil (retIs Tryz.prog 5 (.tup [.str r, .int .i64 e]))) = ( ∃ l, encL (Ty.l t) = encL l ∧ cnt (Ty.mk (Ty.kind t) (Ty.n t) (Ty.nl t) l) ≤ 1000 ∧ bothR (!validB (Ty.mk (Ty.kind t) (Ty.n t) (Ty.nl t) l)) (AV.tup [AV.str [], AV.int IntKind.i64 (1)] = AV.tup [AV.str r, AV.int IntKind.i64 e]) (∃ l, encL (Ty.l t) = encL l ∧ (okT (Ty.mk (Ty.kind t) (Ty.n t) (Ty.nl t) l) = true ∧ cnt (Ty.mk (Ty.kind t) (Ty.n t) (Ty.nl t) l) ≤ 1000) ∧
 AV.tup [AV.str (writeS (Ty.mk (Ty.kind t) (Ty.n t) (Ty.nl t) l)), AV.int IntKind.i64 (0)] = AV.tup [AV.str r, AV.int IntKind.i64 e])) := by kernel_rfl

end Go.Proofs.YtnmolpkkemljoaaGreatDoor
end
end

section
set_option maxRecDepth 100000
set_option linter.unusedSimpArgs false
noncomputable section
namespace Go.Proofs.YtnmolpkkemljoaaGreatDoor
open Go Go.Am Kd

theorem kindsT_hook : QSpec.Ok Tryz.prog gT 81 kindsQ := kinds_hook.lift

theorem writeL_acc (s : List UInt8) (l : List Ty) (i : Nat) (h : i < l.length) (acc : List UInt8) :
    acc ++ writeL s (l.drop i) (zeroB i) = (acc ++ ((if i = 0 then [] else s) ++ writeS l[i])) ++ writeL s (l.drop (i + 1)) (zeroB (i + 1)) := by
  rw [List.drop_eq_getElem_cons h]
  simp only [writeL, zeroB, decide_eq_true_eq, List.append_assoc]
  simp

theorem wr_hook {N : Nat} (ih : ∀ t, SizeOf.sizeOf t < N → okT t = true → cnt t ≤ 1000 → QT 72 [enc t] (.str (writeS t))) : QSpec.Ok Tryz.prog gT 72 (wrQ N) := by
  intro args K h'
  unfold wrQ at h'
  split at h'
  · obtain ⟨t, rfl, h1, h2⟩ := argTy_elim h'
    exact ⟨_, ih t h1.1 h1.2.1 h1.2.2, h2⟩
  · exact h'.elim

theorem okT_kind {k n : Int} {b : Bool} {l : List Ty} (h : okT (.mk k n b l) = true) : k = 0 ∨ k = 1 ∨ k = 2 ∨ k = 3 ∨ k = 4 ∨ k = 5 ∨ k = 6 := by
  obtain ⟨h1, _⟩ := ok_node h
  simp only [NodeOk] at h1
  omega

theorem wr_ok (t : Ty) (h : okT t = true) (hc : cnt t ≤ 1000) : QT 72 [enc t] (.str (writeS t)) := by
  have key : ∀ (N : Nat) (t : Ty), SizeOf.sizeOf t < N → okT t = true → cnt t ≤ 1000 → QT 72 [enc t] (.str (writeS t)) := by
    intro N
    induction N with
    | zero => intro t h; omega
    | succ N ih =>
      intro t ht hok hc
      have hl : LHook.Ok Tryz.prog gT ⟨72, 0, (wrSt t).spec⟩ := by
        refine LSt.byT (hk := wrHk1 N) (wrSt t) (fun x => t.l.length - x.i) (mkHooks_ok (all_cons (wr_hook ih) all_nil) all_nil all_nil) rfl ?_ ?_ ?_
        · intro x _
          exact Whole.frm rfl rfl (by simp [wrSt, AV.bnd, encL_bnd]) (by simp [wrSt, tyC, wrB, ABlk.bnd, AV.bndL, AV.bnd, encL_bnd])
        · intro x b' _
          exact Whole.frm rfl rfl (by simp [wrSt, AV.bnd]) (by simp [wrSt, tyC, wrB, ABlk.bnd, AV.bndL, AV.bnd, encL_bnd])
        · rintro ⟨i, acc⟩ ⟨hi, hl, hcn, hacc⟩
          simp only at hi hacc
          rw [wr_loop]
          simp only [iC, encL_length, eq_self, true_and, and_true]
          refine bothR_dec (fun hlt => ?_) fun hge => ?_
          · have hi' : i < t.l.length := by omega
            have hx := cntL_mem t.l[i] (List.getElem_mem hi')
            have hw := write_len t.l[i]
            have hd := cntL_drop t.l i hi'
            have hs := sep_len t.kind
            have hsz : SizeOf.sizeOf t.l[i] < N := by
              have h1 := Ty.lt_of_get (k := t.kind) (n := t.n) (b := t.nl) hi'
              rw [Ty.eta] at h1
              omega
            have hct : cnt t = cntL t.l + 1 := by cases t; simp only [cnt, Ty.l, Nat.add_comm]
            have hci : cnt t.l[i] ≤ 1000 := by omega
            have hln := len_cnt t.l
            have hoi := okL_mem hl t.l[i] (List.getElem_mem hi')
            refine ⟨by omega, t.l[i], encL_get t.l i hi', bothR_dec (fun h0 => ⟨?_, t.l[i].l, rfl, ?_⟩) fun h0 => ⟨t.l[i].l, rfl, ?_⟩⟩
            · omega
            · rw [Ty.eta, wrap_id (by omega) (by omega)]
              refine ⟨⟨hsz, hoi, hci⟩, by simp only [List.length_append]; omega, ⟨i + 1, acc ++ btwS t.kind ++ writeS t.l[i]⟩, ⟨by simp only; omega, hl, hcn, by simp only [List.length_append]; omega⟩, by simp only; omega, ?_, rfl, rfl⟩
              rw [writeL_acc _ t.l i hi']
              simp [show ¬ i = 0 by omega]
            · rw [Ty.eta, wrap_id (by omega) (by omega)]
              refine ⟨⟨hsz, hoi, hci⟩, by omega, ⟨i + 1, acc ++ writeS t.l[i]⟩, ⟨by simp only; omega, hl, hcn, by simp only [List.length_append]; omega⟩, by simp only; omega, ?_, rfl, rfl⟩
              rw [writeL_acc _ t.l i hi']
              simp [show i = 0 by omega]
          · rw [List.drop_of_length_le (by omega)]
            simp only [writeL, List.append_nil]
      have hst : (enc t).still = true := enc_still t
      rw [enc_D]
      refine QT.by (hk := wrHk2 t) (by rw [← enc_D]; simp [AV.stillL, hst]) rfl (mkHooks_ok (all_cons kindsT_hook (all_cons itoa_hook all_nil)) all_nil (all_cons hl all_nil)) ?_
      rw [wr_top]
      obtain ⟨k, n, b, l⟩ := t
      have hk := okT_kind hok
      obtain ⟨hn, hol⟩ := ok_node hok
      have hcn : 12 * cntL l ≤ 12000 := by simp only [cnt] at hc; omega
      have hil := itoaN_len n.toNat
      simp only [NodeOk] at hn
      rcases hk with rfl | rfl | rfl | rfl | rfl | rfl | rfl
      case inr.inr.inr.inr.inr.inr =>
        have hw := write_lens.2 [] l true (by simp)
        simp [Ty.kind, Ty.n, Ty.l, Ty.nl, bothR, codeIs_self, btwS, aftS, iC]
        have hil' : (itoaL n).length ≤ 3 := hil
        refine ⟨hn.2.2.2.2.2 rfl, by omega, ⟨0, 39 :: itoaL n⟩, ⟨by simp, hol, hc, ?_⟩, rfl, rfl, ?_, ?_⟩
        · simp only [List.drop_zero, List.length_cons]; omega
        · simp only [List.drop_zero, List.length_cons, zeroB, decide_true]; omega
        · simp [writeS, befS, btwS, aftS, zeroB]
      all_goals simp [Ty.kind, Ty.n, Ty.l, Ty.nl, bothR, codeIs_self, btwS, aftS, iC]
      all_goals refine ⟨⟨0, _⟩, ⟨by simp, hol, hc, ?_⟩, rfl, rfl, ?_, ?_⟩
      all_goals first
        | (simp only [List.drop_zero, List.length_cons, List.length_nil]; omega)
        | (simp [writeS, befS, btwS, aftS, zeroB]; done)
        | skip
      all_goals simp only [List.drop_zero, List.length_cons, List.length_nil, zeroB, decide_true]
      all_goals first
        | (have hw := write_lens.2 [] l true (by simp); omega)
        | (have hw := write_lens.2 [32, 42, 32] l true (by simp); omega)
        | (have hw := write_lens.2 [32, 43, 32] l true (by simp); omega)
        | (have hw := write_lens.2 [32, 45, 62, 32] l true (by simp); omega)
  exact key _ t (Nat.lt_succ_self _) h hc

theorem wr_hook0 : QSpec.Ok Tryz.prog gT 72 wrQ0 := by
  intro args K h'
  unfold wrQ0 at h'
  split at h'
  · obtain ⟨t, rfl, h1, h2⟩ := argTy_elim h'
    exact ⟨_, wr_ok t h1.1 h1.2, h2⟩
  · exact h'.elim

theorem bt_ok (k : Int) (h : k = 2 ∨ k = 3 ∨ k = 5) : QT 113 [.int .i64 k] (.str (btwS k)) := by
  refine QT.by (hk := hk0) rfl rfl (mkHooks_ok all_nil all_nil all_nil) ?_
  rw [bt_top]
  rcases h with rfl | rfl | rfl <;> simp [bothR, btwS]
theorem bt_hook : QSpec.Ok Tryz.prog gT 113 btQ := by
  intro args K h'
  unfold btQ at h'
  split at h'
  · obtain ⟨t, rfl, h1, h2⟩ := argInt_elim h'
    exact ⟨_, bt_ok t h1, h2⟩
  · exact h'.elim

theorem rw_hook {N : Nat} (ih : ∀ t, SizeOf.sizeOf t < N → okT t = true → cnt t ≤ 1000 → QT 90 [enc t] (.str (writeS t))) : QSpec.Ok Tryz.prog gT 90 (rwQ N) := by
  intro args K h'
  unfold rwQ at h'
  split at h'
  · obtain ⟨t, rfl, h1, h2⟩ := argTy_elim h'
    exact ⟨_, ih t h1.1 h1.2.1 h1.2.2, h2⟩
  · exact h'.elim

theorem rw_ok (t : Ty) (h : okT t = true) (hc : cnt t ≤ 1000) : QT 90 [enc t] (.str (writeS t)) := by
  have key : ∀ (N : Nat) (t : Ty), SizeOf.sizeOf t < N → okT t = true → cnt t ≤ 1000 → QT 90 [enc t] (.str (writeS t)) := by
    intro N
    induction N with
    | zero => intro t h; omega
    | succ N ih =>
      intro t ht hok hc
      have hst : (enc t).still = true := enc_still t
      rw [enc_D]
      refine QT.by (hk := rwHk N) (by rw [← enc_D]; simp [AV.stillL, hst]) rfl (mkHooks_ok (all_cons itoa_hook (all_cons bt_hook (all_cons (rw_hook ih) all_nil))) all_nil all_nil) ?_
      rw [rw_top]
      obtain ⟨k, n, b, l⟩ := t
      have hk := okT_kind hok
      obtain ⟨hn, hol⟩ := ok_node hok
      have hcn : 12 * cntL l ≤ 12000 := by simp only [cnt] at hc; omega
      have hil : (itoaL n).length ≤ 3 := itoaN_len n.toNat
      simp only [Ty.mk.sizeOf_spec] at ht
      simp only [NodeOk] at hn
      have part : ∀ (i : Nat) (hi : i < l.length), (SizeOf.sizeOf l[i] < N ∧ okT l[i] = true ∧ cnt l[i] ≤ 1000) ∧ (writeS l[i]).length ≤ 12000 := by
        intro i hi
        have h1 := cntL_mem l[i] (List.getElem_mem hi)
        have h2 := write_len l[i]
        have h3 := List.sizeOf_lt_of_mem (List.getElem_mem hi)
        exact ⟨⟨by omega, okL_mem hol l[i] (List.getElem_mem hi), by omega⟩, by omega⟩
      have two : (k = 2 ∨ k = 3 ∨ k = 5) → ∃ x y, l = [x, y] := by
        intro h
        have := hn.2.2.2.1 h
        match l, this with
        | [x, y], _ => exact ⟨x, y, rfl⟩
      have one : k = 4 → ∃ x, l = [x] := by
        intro h
        have := hn.2.2.2.2.1 h
        match l, this with
        | [x], _ => exact ⟨x, rfl⟩
      have none : (k = 0 ∨ k = 1 ∨ k = 6) → l = [] := fun h => List.eq_nil_of_length_eq_zero (hn.2.2.1 h)
      have nn0 : Int.NonNeg 0 := .mk 0
      have nn1 : Int.NonNeg 1 := .mk 1
      refine bothR_dec (fun h0 => ?_) fun h0 => bothR_dec (fun h1 => ?_) fun h1 => bothR_dec (fun h6 => ?_) fun h6 => bothR_dec (fun h4 => ?_) fun h4 => ?_
      · have h0 : k = 0 := h0
        have hl := none (.inl h0)
        subst h0 hl
        simp [writeS, writeL, befS, btwS, aftS]
      · have h1 : k = 1 := h1
        have hl := none (.inr (.inl h1))
        subst h1 hl
        simp [writeS, writeL, befS, btwS, aftS]
      · have h6 : k = 6 := h6
        have hl := none (.inr (.inr h6))
        subst h6 hl
        refine ⟨hn.2.2.2.2.2 rfl, ?_, ?_⟩
        · simp only [iC, Ty.n]; omega
        · simp [writeS, writeL, befS, btwS, aftS, Ty.n]
      · have h4 : k = 4 := h4
        obtain ⟨x, rfl⟩ := one h4
        obtain ⟨p1, p2⟩ := part 0 (by simp)
        simp only [List.getElem_cons_zero] at p1 p2
        subst h4
        refine ⟨nn0, x, encL_get [x] 0 (by simp), x.l, rfl, ?_⟩
        rw [Ty.eta]
        refine ⟨p1, by simp only [iC]; omega, by simp only [iC]; omega, ?_⟩
        simp [writeS, writeL, befS, btwS, aftS]
      · have h0 : k ≠ 0 := h0
        have h1 : k ≠ 1 := h1
        have h6 : k ≠ 6 := h6
        have h4 : k ≠ 4 := h4
        have hk' : k = 2 ∨ k = 3 ∨ k = 5 := by omega
        obtain ⟨x, y, rfl⟩ := two hk'
        obtain ⟨p1, p2⟩ := part 0 (by simp)
        obtain ⟨q1, q2⟩ := part 1 (by simp)
        simp only [List.getElem_cons_zero, List.getElem_cons_succ] at p1 p2 q1 q2
        have hb := (sep_len k).2.1
        refine ⟨nn0, x, encL_get [x, y] 0 (by simp), x.l, rfl, ?_⟩
        rw [Ty.eta]
        refine ⟨p1, by simp only [iC]; omega, hk', by simp only [iC, Ty.kind]; omega, nn1, y, encL_get [x, y] 1 (by simp), y.l, rfl, ?_⟩
        rw [Ty.eta]
        refine ⟨q1, ?_, ?_, ?_⟩
        · simp only [iC, Ty.kind, List.append_eq, List.length_append]; omega
        · simp only [iC, Ty.kind, List.append_eq, List.length_append]; omega
        · rcases hk' with rfl | rfl | rfl <;> simp [writeS, writeL, befS, btwS, aftS, Ty.kind]
  exact key _ t (Nat.lt_succ_self _) h hc

theorem rw_hook0 : QSpec.Ok Tryz.prog gT 90 wrQ0 := by
  intro args K h'
  unfold wrQ0 at h'
  split at h'
  · obtain ⟨t, rfl, h1, h2⟩ := argTy_elim h'
    exact ⟨_, rw_ok t h1.1 h1.2, h2⟩
  · exact h'.elim

def textV (t : Ty) : AV := if validB t = true then .tup [.str (writeS t), .int .i64 0] else .tup [.str [], .int .i64 1]

theorem text_ok (t : Ty) (hc : cnt t ≤ 1000) : QT 26 [enc t] (textV t) := by
  have hst : (enc t).still = true := enc_still t
  have run : ∀ r e, textV t = .tup [.str r, .int .i64 e] → QT 26 [enc t] (textV t) := by
    intro r e he
    rw [he, enc_D]
    refine QT.by (hk := txHk) (by rw [← enc_D]; simp [AV.stillL, hst]) rfl (mkHooks_ok (all_cons valid_hook.lift (all_cons wr_hook0 all_nil)) all_nil all_nil) ?_
    rw [tx_top, ← he]
    refine ⟨.mk 0, t, rfl, t.l, rfl, ?_⟩
    rw [Ty.eta]
    refine ⟨hc, ?_⟩
    cases hv : validB t with
    | false => simp [bothR, textV, hv]
    | true =>
      have := (valid_eq t).1 hv
      refine ⟨t.l, rfl, ?_⟩
      rw [Ty.eta]
      exact ⟨⟨this.2.2, hc⟩, by simp [textV, hv]⟩
  by_cases hv : validB t = true
  · exact run _ _ (if_pos hv)
  · exact run _ _ (if_neg hv)
theorem rtext_ok (t : Ty) (hc : cnt t ≤ 1000) : QT 40 [enc t] (textV t) := by
  have hst : (enc t).still = true := enc_still t
  have run : ∀ r e, textV t = .tup [.str r, .int .i64 e] → QT 40 [enc t] (textV t) := by
    intro r e he
    rw [he, enc_D]
    refine QT.by (hk := trHk) (by rw [← enc_D]; simp [AV.stillL, hst]) rfl (mkHooks_ok (all_cons type_hook.lift (all_cons rw_hook0 all_nil)) all_nil all_nil) ?_
    rw [tr_top, ← he]
    refine ⟨t.l, rfl, ?_⟩
    rw [Ty.eta]
    refine ⟨hc, ?_⟩
    cases hv : validB t with
    | false => simp [bothR, textV, hv]
    | true =>
      have := (valid_eq t).1 hv
      refine ⟨t.l, rfl, ?_⟩
      rw [Ty.eta]
      exact ⟨⟨this.2.2, hc⟩, by simp [textV, hv]⟩
  by_cases hv : validB t = true
  · exact run _ _ (if_pos hv)
  · exact run _ _ (if_neg hv)

end Go.Proofs.YtnmolpkkemljoaaGreatDoor
end
end

section
noncomputable section
namespace Go.Proofs.YtnmolpkkemljoaaGreatDoor.closed
open Go Go.Am

/-- The row that grows: what a map's list is appended to. -/
def muC : Oper → Bool := fun o => o.dst == some 17 && o.type == 27 && (match o.op with | .call c => c.args.size == 2 | _ => false)
/-- Functions that are handed values alone. -/
def puC (f : Nat) : Bool := (14 ≤ f && f ≤ 50 && f != 49) || [53,60,61,62,63,67,68,69,72,73,76,77,80,81,84,86,87,89,90,91,92,93,98,99,100,101,104,105,106,109,110,111,112,113,120,121,122,124,125,126,127,128,137,138,139,140,141,142].contains f

theorem c0 : PCall Tryz.prog g0 109 [.agg [.int .i64 1, .int .i64 0, .isl true none 0 []], .int .i64 12] [.returned (.int .i64 1)] := pRun_ok hmix (Orc.table_ok Orc.tabNil) (pu := puC) (mu := muC) (n := 1000) (by kernel_rfl)
def a0 : AV := .agg [.int .i64 0, .str [117, 110, 105, 116], .str [], .str [], .int .i64 0, .fn (.func 116) [] [], .int .i64 0, .str [105, 110, 116], .str [], .str [], .int .i64 1, .fn (.func 116) [] [], .int .i64 2, .str [40], .str [32, 42, 32], .str [41], .int .i64 0, .fn (.func 116) [] [], .int .i64 2, .str [40], .str [32, 43, 32], .str [41], .int .i64 1, .fn (.func 116) [] [], .int .i64 1, .str [91], .str [], .str [93], .int .i64 2, .fn (.func 117) [] [], .int .i64 2, .str [40], .str [32, 45, 62, 32], .str [41], .int .i64 0, .fn (.func 116) [] [], .int .i64 0, .str [39], .str [], .str [], .int .i64 0, .fn (.func 116) [] []]
theorem c1 : PCall Tryz.prog g0 81 [] [.returned a0] := pRun_ok hmix (Orc.table_ok Orc.tabNil) (pu := puC) (mu := muC) (n := 1000) (by kernel_rfl)
theorem c2 : PCall Tryz.prog g0 76 [.agg [.int .i64 1, .int .i64 0, .isl true none 0 []]] [.returned (.bool true)] := pRun_ok hmix (Orc.table_ok (Orc.tabCons c0 (Orc.tabCons c1 Orc.tabNil))) (pu := puC) (mu := muC) (n := 1000) (by kernel_rfl)
theorem c3 : PCall Tryz.prog g0 76 [.agg [.int .i64 0, .int .i64 0, .isl true none 0 []]] [.returned (.bool true)] := pRun_ok hmix (Orc.table_ok (Orc.tabCons c1 Orc.tabNil)) (pu := puC) (mu := muC) (n := 1000) (by kernel_rfl)
def a1 : AV := .agg [.int .i64 4, .int .i64 0, .isl false none 0 [.agg [.int .i64 6, .int .i64 1, .isl true none 0 []]]]
def a2 : AV := .isl false none 0 [.agg [.int .i64 6, .int .i64 0, .isl true none 0 []], a1]
theorem c4 : PCall Tryz.prog g0 109 [.agg [.int .i64 2, .int .i64 0, a2], .int .i64 12] [.returned (.int .i64 3)] := pRun_ok hmix (Orc.table_ok Orc.tabNil) (pu := puC) (mu := muC) (n := 1000) (by kernel_rfl)
theorem c5 : PCall Tryz.prog g0 76 [.agg [.int .i64 2, .int .i64 0, a2]] [.returned (.bool true)] := pRun_ok hmix (Orc.table_ok (Orc.tabCons c4 (Orc.tabCons c1 Orc.tabNil))) (pu := puC) (mu := muC) (n := 1000) (by kernel_rfl)
def a3 : AV := .isl false none 0 [.agg [.int .i64 1, .int .i64 0, .isl true none 0 []], .agg [.int .i64 0, .int .i64 0, .isl true none 0 []]]
theorem c6 : PCall Tryz.prog g0 109 [.agg [.int .i64 3, .int .i64 0, a3], .int .i64 11] [.returned (.int .i64 2)] := pRun_ok hmix (Orc.table_ok Orc.tabNil) (pu := puC) (mu := muC) (n := 1000) (by kernel_rfl)
def a4 : AV := .agg [.int .i64 4, .int .i64 0, .isl false none 0 [.agg [.int .i64 1, .int .i64 0, .isl true none 0 []]]]
theorem c7 : PCall Tryz.prog g0 109 [.agg [.int .i64 4, .int .i64 0, .isl false none 0 [a4]], .int .i64 11] [.returned (.int .i64 3)] := pRun_ok hmix (Orc.table_ok Orc.tabNil) (pu := puC) (mu := muC) (n := 1000) (by kernel_rfl)
def a5 : AV := .isl false none 0 [.agg [.int .i64 3, .int .i64 0, a3], .agg [.int .i64 4, .int .i64 0, .isl false none 0 [a4]]]
theorem c8 : PCall Tryz.prog g0 76 [.agg [.int .i64 2, .int .i64 0, a5]] [.returned (.bool true)] := pRun_ok hmix (Orc.table_ok (Orc.tabCons c6 (Orc.tabCons c7 (Orc.tabCons c1 Orc.tabNil)))) (pu := puC) (mu := muC) (n := 1000) (by kernel_rfl)
def a6 : AV := .isl false none 0 [.agg [.int .i64 6, .int .i64 2, .isl true none 0 []], .agg [.int .i64 6, .int .i64 5, .isl true none 0 []]]
def a7 : AV := .isl false none 0 [.agg [.int .i64 6, .int .i64 5, .isl true none 0 []], .agg [.int .i64 5, .int .i64 0, a6]]
theorem c9 : PCall Tryz.prog g0 76 [.agg [.int .i64 5, .int .i64 0, a7]] [.returned (.bool true)] := pRun_ok hmix (Orc.table_ok (Orc.tabCons c1 Orc.tabNil)) (pu := puC) (mu := muC) (n := 1000) (by kernel_rfl)
theorem c10 : PCall Tryz.prog g0 68 [.agg [.int .i64 6, .int .i64 2, .isl true none 0 []]] [.returned (.agg [.int .i64 6, .int .i64 2, .isl true none 0 []])] := pRun_ok hmix (Orc.table_ok Orc.tabNil) (pu := puC) (mu := muC) (n := 1000) (by kernel_rfl)
theorem c11 : PCall Tryz.prog g0 68 [.agg [.int .i64 6, .int .i64 0, .isl true none 0 []]] [.returned (.agg [.int .i64 6, .int .i64 0, .isl true none 0 []])] := pRun_ok hmix (Orc.table_ok Orc.tabNil) (pu := puC) (mu := muC) (n := 1000) (by kernel_rfl)
theorem c12 : PCall Tryz.prog g0 68 [.agg [.int .i64 6, .int .i64 1, .isl true none 0 []]] [.returned (.agg [.int .i64 6, .int .i64 1, .isl true none 0 []])] := pRun_ok hmix (Orc.table_ok Orc.tabNil) (pu := puC) (mu := muC) (n := 1000) (by kernel_rfl)
def a8 : AV := .isl false none 0 [.agg [.int .i64 6, .int .i64 1, .isl true none 0 []], .agg [.int .i64 6, .int .i64 0, .isl true none 0 []]]
def a9 : AV := .isl false none 0 [.agg [.int .i64 6, .int .i64 0, .isl true none 0 []], .agg [.int .i64 5, .int .i64 0, a8]]
def a10 : AV := .tup [.agg [.int .i64 5, .int .i64 0, a9], .int .i64 0]
theorem c13 : PCall Tryz.prog g0 38 [.agg [.int .i64 5, .int .i64 0, a7]] [.returned a10] := pRun_ok hmix (Orc.table_ok (Orc.tabCons c9 (Orc.tabCons c10 (Orc.tabCons c11 (Orc.tabCons c12 (Orc.tabCons c1 Orc.tabNil)))))) (pu := puC) (mu := muC) (n := 1000) (by kernel_rfl)
def a11 : AV := .isl false none 0 [.agg [.int .i64 6, .int .i64 0, .isl true none 0 []], .agg [.int .i64 6, .int .i64 1, .isl true none 0 []]]
theorem c14 : PCall Tryz.prog g0 76 [.agg [.int .i64 2, .int .i64 0, a11]] [.returned (.bool true)] := pRun_ok hmix (Orc.table_ok (Orc.tabCons c1 Orc.tabNil)) (pu := puC) (mu := muC) (n := 1000) (by kernel_rfl)
def a12 : AV := .agg [.int .i64 4, .int .i64 0, .isl false none 0 [.agg [.int .i64 6, .int .i64 0, .isl true none 0 []]]]
theorem c15 : PCall Tryz.prog g0 76 [a12] [.returned (.bool true)] := pRun_ok hmix (Orc.table_ok (Orc.tabCons c1 Orc.tabNil)) (pu := puC) (mu := muC) (n := 1000) (by kernel_rfl)
theorem c16 : PCall Tryz.prog g0 68 [.agg [.int .i64 4, .int .i64 0, .isl true none 0 []]] [.returned (.agg [.int .i64 4, .int .i64 0, .isl true none 0 []])] := pRun_ok hmix (Orc.table_ok Orc.tabNil) (pu := puC) (mu := muC) (n := 1000) (by kernel_rfl)
theorem c17 : PCall Tryz.prog g0 138 [.int .u64 2] [.returned (.int .i64 2)] := pRun_ok hmix (Orc.table_ok Orc.tabNil) (pu := puC) (mu := muC) (n := 1000) (by kernel_rfl)
theorem c18 : PCall Tryz.prog g0 124 [.int .u64 2] [.returned (.int .i64 2)] := pRun_ok hmix (Orc.table_ok (Orc.tabCons c17 Orc.tabNil)) (pu := puC) (mu := muC) (n := 1000) (by kernel_rfl)
def a13 : AV := .agg [.int .i64 4, .int .i64 0, .isl false none 0 [.agg [.int .i64 6, .int .i64 2, .isl true none 0 []]]]
def a14 : AV := .isl false none 0 [a13, .agg [.int .i64 6, .int .i64 3, .isl true none 0 []]]
def a15 : AV := .agg [.int .i64 0, .int .i64 4, .int .i64 0, .isl false none 0 [.agg [.int .i64 6, .int .i64 2, .isl true none 0 []]]]
def a16 : AV := .agg [.int .i64 3, .int .i64 4, .int .i64 0, .isl false none 0 [.agg [.int .i64 6, .int .i64 1, .isl true none 0 []]]]
theorem c19 : PCall Tryz.prog g0 16 [.agg [.int .i64 2, .int .i64 0, a2], .agg [.int .i64 2, .int .i64 0, a14]] [.returned (.tup [.isl false none 0 [a15, a16], .int .i64 0])] := pRun_ok hmix (Orc.table_ok (Orc.tabCons c5 (Orc.tabCons c1 (Orc.tabCons c16 (Orc.tabCons c10 (Orc.tabCons c12 (Orc.tabCons c18 Orc.tabNil))))))) (pu := puC) (mu := muC) (n := 1000) (by kernel_rfl)
def a17 : AV := .isl false none 0 [.agg [.int .i64 6, .int .i64 1, .isl true none 0 []], .agg [.int .i64 6, .int .i64 2, .isl true none 0 []]]
def a18 : AV := .isl false none 0 [.agg [.int .i64 1, .int .i64 6, .int .i64 0, .isl true none 0 []], .agg [.int .i64 2, .int .i64 6, .int .i64 0, .isl true none 0 []]]
theorem c20 : PCall Tryz.prog g0 16 [.agg [.int .i64 2, .int .i64 0, a11], .agg [.int .i64 2, .int .i64 0, a17]] [.returned (.tup [a18, .int .i64 0])] := pRun_ok hmix (Orc.table_ok (Orc.tabCons c14 (Orc.tabCons c1 (Orc.tabCons c11 (Orc.tabCons c18 Orc.tabNil))))) (pu := puC) (mu := muC) (n := 1000) (by kernel_rfl)
def a19 : AV := .isl false none 0 [.agg [.int .i64 1, .int .i64 0, .isl true none 0 []], a4]
def a20 : AV := .agg [.int .i64 4, .int .i64 0, .isl false none 0 [.agg [.int .i64 0, .int .i64 0, .isl true none 0 []]]]
def a21 : AV := .isl false none 0 [.agg [.int .i64 0, .int .i64 0, .isl true none 0 []], a20]
def a22 : AV := .isl false none 0 [.agg [.int .i64 2, .int .i64 0, a19], .agg [.int .i64 2, .int .i64 0, a21]]
theorem c21 : PCall Tryz.prog g0 53 [a22] [.returned (.tup [])] := pRun_ok hmix (Orc.table_ok (Orc.tabCons c1 Orc.tabNil)) (pu := puC) (mu := muC) (n := 1000) (by kernel_rfl)
def a23 : AV := .str [40, 39, 48, 32, 42, 32, 91, 39, 49, 93, 41]
def a24 : AV := .tup [.agg [.int .i64 2, .int .i64 0, a2], .int .i64 0]
theorem c22 : PCall Tryz.prog g0 24 [a23] [.returned a24] := pRun_ok hmix (Orc.table_ok (Orc.tabCons c1 (Orc.tabCons c5 Orc.tabNil))) (pu := puC) (mu := muC) (n := 1000) (by kernel_rfl)
theorem c23 : PCall Tryz.prog g0 76 [.agg [.int .i64 3, .int .i64 0, a3]] [.returned (.bool true)] := pRun_ok hmix (Orc.table_ok (Orc.tabCons c1 Orc.tabNil)) (pu := puC) (mu := muC) (n := 1000) (by kernel_rfl)
theorem c24 : PCall Tryz.prog g0 28 [.agg [.int .i64 3, .int .i64 0, a3]] [.returned (.bool true)] := pRun_ok hmix (Orc.table_ok (Orc.tabCons c23 Orc.tabNil)) (pu := puC) (mu := muC) (n := 1000) (by kernel_rfl)
theorem c25 : PCall Tryz.prog g0 28 [.agg [.int .i64 1, .int .i64 0, .isl true none 0 []]] [.returned (.bool true)] := pRun_ok hmix (Orc.table_ok (Orc.tabCons c2 Orc.tabNil)) (pu := puC) (mu := muC) (n := 1000) (by kernel_rfl)
theorem c26 : PCall Tryz.prog g0 30 [.agg [.int .i64 1, .int .i64 0, .isl true none 0 []]] [.returned (.int .i64 1)] := pRun_ok hmix (Orc.table_ok (Orc.tabCons c25 (Orc.tabCons c1 Orc.tabNil))) (pu := puC) (mu := muC) (n := 1000) (by kernel_rfl)
theorem c27 : PCall Tryz.prog g0 31 [.agg [.int .i64 1, .int .i64 0, .isl true none 0 []]] [.returned (.int .i64 0)] := pRun_ok hmix (Orc.table_ok (Orc.tabCons c25 (Orc.tabCons c1 Orc.tabNil))) (pu := puC) (mu := muC) (n := 1000) (by kernel_rfl)
theorem c28 : PCall Tryz.prog g0 31 [.agg [.int .i64 0, .int .i64 0, .isl true none 0 []]] [.returned (.int .i64 0)] := pRun_ok hmix (Orc.table_ok (Orc.tabCons c3 (Orc.tabCons c1 Orc.tabNil))) (pu := puC) (mu := muC) (n := 1000) (by kernel_rfl)
theorem c29 : PCall Tryz.prog g0 76 [.agg [.int .i64 4, .int .i64 0, .isl false none 0 [a4]]] [.returned (.bool true)] := pRun_ok hmix (Orc.table_ok (Orc.tabCons c1 Orc.tabNil)) (pu := puC) (mu := muC) (n := 1000) (by kernel_rfl)
theorem c30 : PCall Tryz.prog g0 28 [.agg [.int .i64 4, .int .i64 0, .isl false none 0 [a4]]] [.returned (.bool true)] := pRun_ok hmix (Orc.table_ok (Orc.tabCons c29 Orc.tabNil)) (pu := puC) (mu := muC) (n := 1000) (by kernel_rfl)
theorem c31 : PCall Tryz.prog g0 109 [a4, .int .i64 12] [.returned (.int .i64 2)] := pRun_ok hmix (Orc.table_ok Orc.tabNil) (pu := puC) (mu := muC) (n := 1000) (by kernel_rfl)
theorem c32 : PCall Tryz.prog g0 76 [a4] [.returned (.bool true)] := pRun_ok hmix (Orc.table_ok (Orc.tabCons c31 (Orc.tabCons c1 Orc.tabNil))) (pu := puC) (mu := muC) (n := 1000) (by kernel_rfl)
theorem c33 : PCall Tryz.prog g0 28 [a4] [.returned (.bool true)] := pRun_ok hmix (Orc.table_ok (Orc.tabCons c32 Orc.tabNil)) (pu := puC) (mu := muC) (n := 1000) (by kernel_rfl)
theorem c34 : PCall Tryz.prog g0 15 [] [.returned (.bool true)] := pRun_ok hmix (Orc.table_ok (Orc.tabCons c19 (Orc.tabCons c20 (Orc.tabCons c1 (Orc.tabCons c15 (Orc.tabCons c5 (Orc.tabCons c8 (Orc.tabCons c18 (Orc.tabCons c21 (Orc.tabCons c22 (Orc.tabCons c24 (Orc.tabCons c26 (Orc.tabCons c27 (Orc.tabCons c3 (Orc.tabCons c28 (Orc.tabCons c30 (Orc.tabCons c33 Orc.tabNil))))))))))))))))) (pu := puC) (mu := muC) (n := 1000) (by kernel_rfl)

theorem alive_ok : QJ 15 [] (.bool true) := QuietJ.ofCall rfl c34

def aliveQ : QSpec
  | [], K => K (.bool true)
  | _, _ => False

theorem alive_hook : QSpec.Ok Tryz.prog g0 15 aliveQ := by
  intro args K h'
  unfold aliveQ at h'
  split at h'
  · exact ⟨_, alive_ok, h'⟩
  · exact h'.elim

end Go.Proofs.YtnmolpkkemljoaaGreatDoor.closed
end
end

section
namespace Kd
open Go.Am Go.Proofs.YtnmolpkkemljoaaGreatDoor
def vlF (t : Ty) : List Int := if validB t = true then varsL t else []
def errF (t : Ty) : Int := if validB t = true then 0 else 1
def vbF (t : Ty) : Bool := if validB t = true then nilB (varsL t) else true
def vbR (t : Ty) : Bool := if validB t = true then nlF true [] (varsL t) else true
def numF (t : Ty) : Ty := if validB t = true then numT t else .mk 0 0 true []
def txtF (t : Ty) : List UInt8 := if validB t = true then writeS t else []
end Kd
noncomputable section
namespace Go.Proofs.YtnmolpkkemljoaaGreatDoor
open Go Go.Am Kd

/-- One type is handed over. -/
def tyQ (r : Ty → AV) : QSpec
  | [t], K => argTy t fun t => (cnt t ≤ 1000) ∧ K (r t)
  | _, _ => False
def kvQ : QSpec := tyQ fun t => .tup [.isl (vbF t) none 0 (encI (vlF t)), .int .i64 (errF t)]
def rvQ : QSpec := tyQ fun t => .tup [.isl (vbR t) none 0 (encI (vlF t)), .int .i64 (errF t)]
def knQ : QSpec := tyQ fun t => .tup [encD (numF t), .int .i64 (errF t)]
def txQ : QSpec := tyQ fun t => .tup [.str (txtF t), .int .i64 (errF t)]
def ckQ : QSpec := tyQ fun t => .int .i64 (checkN t)
def grQ : QSpec := tyQ fun t => .bool (groundB t)
def owQ : QSpec := tyQ fun t => .int .i64 (ownT t)
def daQ : QSpec := tyQ fun t => .int .i64 (datT t)
def intsB (l m : List Int) : Bool := decide (l.length = m.length) && intsL l m
def itsQ : QSpec
  | [a, b], K => argInts a fun _ l => argInts b fun _ m => (l.length ≤ 2000) ∧ K (.bool (intsB l m))
  | _, _ => False
def smeQ : QSpec
  | [t, u], K => argTy t fun t => argTy u fun u => (cnt t ≤ 1000 ∧ cnt u ≤ 1000) ∧ K (.bool (sameB t u))
  | _, _ => False
def checksHk : Hooks := hooks [(14, weakQ 3 greatQ), (15, closed.aliveQ), (36, kvQ), (37, rvQ), (38, knQ), (39, knQ), (26, txQ), (40, txQ), (27, ckQ), (41, ckQ), (28, grQ), (42, grQ), (30, owQ), (43, owQ), (31, daQ), (44, daQ), (45, itsQ), (23, smeQ)] [] []
end Go.Proofs.YtnmolpkkemljoaaGreatDoor
end
end

section
noncomputable section
namespace Go.Proofs.YtnmolpkkemljoaaGreatDoor
open Go Go.Am Kd
set_option maxRecDepth 100000

theorem checks_top (t : Ty) : (runT checksHk 60 9 [encD t] AH.nil (retIs Tryz.prog 5 (.bool true))) = ( ∃ l, encL (Ty.l t) = encL l ∧ bothR (greatB (Ty.mk (Ty.kind t) (Ty.n t) (Ty.nl t) l)) (AV.bool true = AV.bool true) (∃ l, encL (Ty.l t) = encL l ∧ cnt (Ty.mk (Ty.kind t) (Ty.n t) (Ty.nl t) l) ≤ 1000 ∧ ∃ l_1, encL (Ty.l t) = encL l_1 ∧ cnt (Ty.mk (Ty.kind t) (Ty.n t) (Ty.nl t) l_1) ≤ 1000 ∧ ∃ l_2, encL (Ty.l t) = encL l_2 ∧ cnt (Ty.mk (Ty.kind t) (Ty.n t) (Ty.nl t) l_2) ≤ 1000 ∧ ∃ l_3, encL (Ty.l t) = encL l_3 ∧ cnt (Ty.mk (Ty.kind t) (Ty.n t) (Ty.nl t) l_3) ≤ 1000 ∧ ∃ l_4,
 encL (Ty.l t) = encL l_4 ∧ cnt (Ty.mk (Ty.kind t) (Ty.n t) (Ty.nl t) l_4) ≤ 1000 ∧ ∃ l_5, encL (Ty.l t) = encL l_5 ∧ cnt (Ty.mk (Ty.kind t) (Ty.n t) (Ty.nl t) l_5) ≤ 1000 ∧ ∃ l_6, encL (Ty.l t) = encL l_6 ∧ cnt (Ty.mk (Ty.kind t) (Ty.n t) (Ty.nl t) l_6) ≤ 1000 ∧ ∃ l_7, encL (Ty.l t) = encL l_7 ∧ cnt (Ty.mk (Ty.kind t) (Ty.n t) (Ty.nl t) l_7) ≤ 1000 ∧ bothR (decide (checkN (Ty.mk (Ty.kind t) (Ty.n t) (Ty.nl t) l_6) = checkN (Ty.mk (Ty.kind t) (Ty.n t) (Ty.nl t) l_7))) (∃ l_8, encL (Ty.l t) = encL l_8 ∧ cnt (Ty.mk (Ty.kind t) (Ty.n t) (Ty.nl t) l_8) ≤ 1000 ∧ ∃ l_9, encL (Ty.l t) = encL l_9 ∧
 cnt (Ty.mk (Ty.kind t) (Ty.n t) (Ty.nl t) l_9) ≤ 1000 ∧ bothR (groundB (Ty.mk (Ty.kind t) (Ty.n t) (Ty.nl t) l_8) == groundB (Ty.mk (Ty.kind t) (Ty.n t) (Ty.nl t) l_9)) (∃ l_10, encL (Ty.l t) = encL l_10 ∧ cnt (Ty.mk (Ty.kind t) (Ty.n t) (Ty.nl t) l_10) ≤ 1000 ∧ ∃ l_11, encL (Ty.l t) = encL l_11 ∧ cnt (Ty.mk (Ty.kind t) (Ty.n t) (Ty.nl t) l_11) ≤ 1000 ∧ bothR (decide (ownT (Ty.mk (Ty.kind t) (Ty.n t) (Ty.nl t) l_10) = ownT (Ty.mk (Ty.kind t) (Ty.n t) (Ty.nl t) l_11))) (∃ l_12, encL (Ty.l t) = encL l_12 ∧ cnt (Ty.mk (Ty.kind t) (Ty.n t) (Ty.nl t) l_12) ≤ 1000 ∧ ∃ l_13,
 encL (Ty.l t) = encL l_13 ∧ cnt (Ty.mk (Ty.kind t) (Ty.n t) (Ty.nl t) l_13) ≤ 1000 ∧ bothR (decide (datT (Ty.mk (Ty.kind t) (Ty.n t) (Ty.nl t) l_12) = datT (Ty.mk (Ty.kind t) (Ty.n t) (Ty.nl t) l_13))) (∃ l_14, encI (vlF (Ty.mk (Ty.kind t) (Ty.n t) (Ty.nl t) l)) = encI l_14 ∧ ∃ l_15, encI (vlF (Ty.mk (Ty.kind t) (Ty.n t) (Ty.nl t) l_1)) = encI l_15 ∧ List.length l_14 ≤ 2000 ∧ bothR (decide (List.length l_14 = List.length l_15) && intsL l_14 l_15) (bothR (decide (errF (Ty.mk (Ty.kind t) (Ty.n t) (Ty.nl t) l) = errF (Ty.mk (Ty.kind t) (Ty.n t) (Ty.nl t) l_1))) (∃ l,
 encL (Ty.l (numF (Ty.mk (Ty.kind t) (Ty.n t) (Ty.nl t) l_2))) = encL l ∧ ∃ l_16, encL (Ty.l (numF (Ty.mk (Ty.kind t) (Ty.n t) (Ty.nl t) l_3))) = encL l_16 ∧ (cnt (Ty.mk (Ty.kind (numF (Ty.mk (Ty.kind t) (Ty.n t) (Ty.nl t) l_2))) (Ty.n (numF (Ty.mk (Ty.kind t) (Ty.n t) (Ty.nl t) l_2))) (Ty.nl (numF (Ty.mk (Ty.kind t) (Ty.n t) (Ty.nl t) l_2))) l) ≤ 1000 ∧ cnt (Ty.mk (Ty.kind (numF (Ty.mk (Ty.kind t) (Ty.n t) (Ty.nl t) l_3))) (Ty.n (numF (Ty.mk (Ty.kind t) (Ty.n t) (Ty.nl t) l_3))) (Ty.nl (numF (Ty.mk (Ty.kind t) (Ty.n t) (Ty.nl t) l_3))) l_16) ≤ 1000) ∧ bothR (sameB (Ty.mk (Ty.kind
 (numF (Ty.mk (Ty.kind t) (Ty.n t) (Ty.nl t) l_2))) (Ty.n (numF (Ty.mk (Ty.kind t) (Ty.n t) (Ty.nl t) l_2))) (Ty.nl (numF (Ty.mk (Ty.kind t) (Ty.n t) (Ty.nl t) l_2))) l) (Ty.mk (Ty.kind (numF (Ty.mk (Ty.kind t) (Ty.n t) (Ty.nl t) l_3))) (Ty.n (numF (Ty.mk (Ty.kind t) (Ty.n t) (Ty.nl t) l_3))) (Ty.nl (numF (Ty.mk (Ty.kind t) (Ty.n t) (Ty.nl t) l_3))) l_16)) (bothR (decide (errF (Ty.mk (Ty.kind t) (Ty.n t) (Ty.nl t) l_2) = errF (Ty.mk (Ty.kind t) (Ty.n t) (Ty.nl t) l_3))) (bothR (decide (txtF (Ty.mk (Ty.kind t) (Ty.n t) (Ty.nl t) l_4) = txtF (Ty.mk (Ty.kind t) (Ty.n t) (Ty.nl t) l_5))) (bothR
 (decide (errF (Ty.mk (Ty.kind t) (Ty.n t) (Ty.nl t) l_4) = errF (Ty.mk (Ty.kind t) (Ty.n t) (Ty.nl t) l_5))) (AV.bool true = AV.bool true) (AV.bool false = AV.bool true)) (AV.bool false = AV.bool true)) (AV.bool false = AV.bool true)) (AV.bool false = AV.bool true)) (AV.bool false = AV.bool true)) (AV.bool false = AV.bool true)) (AV.bool false = AV.bool true)) (AV.bool false = AV.bool true)) (AV.bool false = AV.bool true)) (AV.bool false = AV.bool true))) := by kernel_rfl

end Go.Proofs.YtnmolpkkemljoaaGreatDoor
end
end

section
set_option maxRecDepth 100000
noncomputable section
namespace Go.Proofs.YtnmolpkkemljoaaGreatDoor
open Go Go.Am Kd

theorem tyQ_ok {G : Gl} {f : FuncId} {r : Ty → AV} (h : ∀ t, cnt t ≤ 1000 → QuietJ Tryz.prog G f [enc t] (r t)) : QSpec.Ok Tryz.prog G f (tyQ r) := by
  intro args K h'
  unfold tyQ at h'
  split at h'
  · obtain ⟨t, rfl, h1, h2⟩ := argTy_elim h'
    exact ⟨_, h t h1, h2⟩
  · exact h'.elim

theorem kv_hook : QSpec.Ok Tryz.prog gT 36 kvQ := tyQ_ok fun t hc => by
  have h := kvars_ok t hc
  unfold vbF vlF errF
  by_cases hv : validB t = true
  · simp only [if_pos hv] at h ⊢; exact h.lift
  · simp only [if_neg hv] at h ⊢; exact h.lift
theorem rv_hook : QSpec.Ok Tryz.prog gT 37 rvQ := tyQ_ok fun t hc => by
  have h := rvars_ok t hc
  unfold vbR vlF errF
  by_cases hv : validB t = true
  · simp only [if_pos hv] at h ⊢; exact h.lift
  · simp only [if_neg hv] at h ⊢; exact h.lift
theorem kn_hook : QSpec.Ok Tryz.prog gT 38 knQ := tyQ_ok fun t hc => by
  have h := knum_ok t hc
  unfold numF errF
  by_cases hv : validB t = true
  · simp only [if_pos hv] at h ⊢; exact h.lift
  · simp only [if_neg hv] at h ⊢; exact h.lift
theorem rn_hook : QSpec.Ok Tryz.prog gT 39 knQ := tyQ_ok fun t hc => by
  have h := rnumber_ok t hc
  unfold numF errF
  by_cases hv : validB t = true
  · simp only [if_pos hv] at h ⊢; exact h.lift
  · simp only [if_neg hv] at h ⊢; exact h.lift
theorem tx_hook : QSpec.Ok Tryz.prog gT 26 txQ := tyQ_ok fun t hc => by
  have h := text_ok t hc
  unfold txtF errF
  unfold textV at h
  by_cases hv : validB t = true
  · simp only [if_pos hv] at h ⊢; exact h
  · simp only [if_neg hv] at h ⊢; exact h
theorem tr_hook : QSpec.Ok Tryz.prog gT 40 txQ := tyQ_ok fun t hc => by
  have h := rtext_ok t hc
  unfold txtF errF
  unfold textV at h
  by_cases hv : validB t = true
  · simp only [if_pos hv] at h ⊢; exact h
  · simp only [if_neg hv] at h ⊢; exact h
theorem its_hook : QSpec.Ok Tryz.prog gT 45 itsQ := by
  intro args K h'
  unfold itsQ at h'
  split at h'
  · obtain ⟨b, l, rfl, h2⟩ := argInts_elim h'
    obtain ⟨c, m, rfl, h3, h4⟩ := argInts_elim h2
    exact ⟨_, (ints_ok b c l m h3).lift, h4⟩
  · exact h'.elim
theorem sme_hook : QSpec.Ok Tryz.prog gT 23 smeQ := by
  intro args K h'
  unfold smeQ at h'
  split at h'
  · obtain ⟨t, rfl, h2⟩ := argTy_elim h'
    obtain ⟨u, rfl, h3, h4⟩ := argTy_elim h2
    exact ⟨_, (same_ok t u h3.1 h3.2).lift, h4⟩
  · exact h'.elim

theorem checks_hooks : Hooks.Ok Tryz.prog gT checksHk :=
  mkHooks_ok (all_cons (great_hook.lift.weak 3) (all_cons closed.alive_hook.lift (all_cons kv_hook (all_cons rv_hook (all_cons kn_hook (all_cons rn_hook (all_cons tx_hook (all_cons tr_hook
    (all_cons (tyQ_ok fun t h => (check_ok t h).lift) (all_cons (tyQ_ok fun t h => (rcheck_ok t h).lift)
    (all_cons (tyQ_ok fun t h => (ground_ok t h).lift) (all_cons (tyQ_ok fun t h => (rground_ok t h).lift)
    (all_cons (tyQ_ok fun t h => QuietJ.lift (od_ok t h).1) (all_cons (tyQ_ok fun t h => (rown_ok t h).lift)
    (all_cons (tyQ_ok fun t h => QuietJ.lift (od_ok t h).2) (all_cons (tyQ_ok fun t h => (rdata_ok t h).lift)
    (all_cons its_hook (all_cons sme_hook all_nil)))))))))))))))))) all_nil all_nil

theorem num_cnt (t : Ty) (h : cnt t ≤ 1000) : cnt (numF t) ≤ 1000 := by
  unfold numF
  split
  · rename_i hv; rw [(num_ok hv).2.2.1]; exact h
  · simp [cnt, cntL]
theorem vl_len (t : Ty) (h : cnt t ≤ 1000) : (vlF t).length ≤ 2000 := by
  unfold vlF
  split
  · have := vars_len t; omega
  · simp

theorem checks_ok (t : Ty) : QT 9 [enc t] (.bool true) := by
  have hst : (enc t).still = true := enc_still t
  rw [enc_D]
  refine QT.by (hk := checksHk) (by rw [← enc_D]; simp [AV.stillL, hst]) rfl checks_hooks ?_
  rw [checks_top]
  simp only [ex_enc, Ty.eta, eq_self]
  refine bothR_bool (fun _ => trivial) fun hg => ?_
  have hc : cnt t ≤ 1000 := by have := great_cnt hg; omega
  have hn := num_cnt t hc
  have hv := vl_len t hc
  simp only [ex_encI, hc, hn, hv, sameB_refl, intsL_refl, decide_true, Bool.and_self, beq_self_eq_true, bothR, and_self]

end Go.Proofs.YtnmolpkkemljoaaGreatDoor
end
end

section
namespace Go.Proofs.YtnmolpkkemljoaaGreatDoor
open Go.ChangeShapes Go.WideShapes Go.ChangeAt Go.RowKit

theorem own : ownKnob Tryz.prog.godebug = none := by kernel_rfl

def cellsOf {H : Type} : DataW H → Array Value
  | .agg l => (l.map fun | .lit (.int k n) => Value.int k n | _ => undef).toArray
  | _ => #[]

def wordOf {H : Type} : DataW H → Array Value
  | .iface _ (.ptr (.agg [.lit (.string l)])) => #[.string ⟨l.toArray⟩]
  | _ => #[]

noncomputable def laidWorld (os : Os) : World :=
  let N := (World.settled Tryz.prog os).heap.size
  let w0 := World.holding Tryz.prog os ⟨#[.cells (wordOf (Rows.laid_strconv_ErrSyntax (H := Unit))) 203, .cells (wordOf (Rows.laid_strconv_ErrRange (H := Unit))) 203], #[], []⟩
  let put (h : Array Obj) (g : Nat) (cs : Array Value) : Array Obj := h.modify g fun
    | .cells _ t frozen => .cells cs t frozen
    | o => o
  let h0 := put (put w0.heap 1 #[.iface 201 (.pointer (some ⟨N, 0, none⟩))]) 2 #[.iface 201 (.pointer (some ⟨N + 1, 0, none⟩))]
  let h1 := put h0 0 (cellsOf (Rows.laid_internal_strconv_uint64pow10 (H := Unit)))
  let h2 := put h1 3 (cellsOf (Rows.laid_math_bits_deBruijn32tab (H := Unit)))
  let h3 := put h2 4 (cellsOf (Rows.laid_math_bits_deBruijn64tab (H := Unit)))
  { w0 with heap := h3 }

set_option maxRecDepth 1000000 in
theorem laid_met (os : Os) (args : Array Value) : laidMet Tryz.prog Rows.kindNamesRow.laid ((laidWorld os).forCall (fun _ _ => 0) ⟨#[], args, []⟩).memory :=
  laidMet_of_run' 8 (by kernel_rfl) (by kernel_rfl)

end Go.Proofs.YtnmolpkkemljoaaGreatDoor
end

section
noncomputable section
namespace Go.Proofs.YtnmolpkkemljoaaGreatDoor
open Go Go.Am Go.RowKit Go.ChangeShapes Go.WideShapes Go.ChangeAt

theorem pow10_tab {W : World} (h : laidMet Tryz.prog Rows.kindNamesRow.laid W) : Lib.TabIs Tryz.prog W "internal/strconv.uint64pow10" .u64 Lib.pow10Tab := by
  obtain ⟨g, t, cs, fuel, p, hg, ht, hv, hd⟩ := Lib.laidMet.reads h (.tail _ (.tail _ (.head _)))
  obtain rfl := Option.some.inj ((show Tryz.prog.globalNamed "internal/strconv.uint64pow10" = some 0 by kernel_rfl).symm.trans hg)
  obtain rfl := Option.some.inj ((show (Tryz.prog.globals[0]?).map (·.type) = some 190 by kernel_rfl).symm.trans ht)
  unfold Lib.TabIs
  have e := Lib.cells_of_tab (k := .u64) (zs := Lib.pow10Tab) (n := 20) (e := 166) (by kernel_rfl) (by kernel_rfl) (by kernel_rfl) (by kernel_rfl) hd
  rw [hv, ← e]

theorem gT_met {W : World} (h : laidMet Tryz.prog Rows.kindNamesRow.laid W) : ∀ g o x, gT g o = some x → ∃ v, W.cell? ⟨g, o, none⟩ = some v ∧ ∀ S : Sh, VRel S x v := by
  intro g o x hx
  unfold gT at hx
  split at hx
  · rename_i hg
    simp only [beq_iff_eq] at hg
    subst hg
    split at hx
    · rename_i n hn
      cases hx
      rw [nthR_eq] at hn
      have ho : o < 20 := by
        have := (List.getElem?_eq_some_iff.1 hn).1
        simpa [pow10] using this
      have hc := (pow10_tab h).cell (show Tryz.prog.globalNamed "internal/strconv.uint64pow10" = some 0 by kernel_rfl) o (by rw [Lib.pow10Tab_length]; exact ho)
      rw [Lib.pow10Tab_at o ho] at hc
      have : n = 10 ^ o := by
        have key : ∀ i : Nat, i < 20 → pow10[i]? = some (10 ^ i) := by decide
        rw [key o ho] at hn
        exact (Option.some.inj hn).symm
      subst this
      exact ⟨_, hc, fun S => .int _ _⟩
    · cases hx
  · cases hx

end Go.Proofs.YtnmolpkkemljoaaGreatDoor
end
end
