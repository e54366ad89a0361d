/-
  What the proof is built of: What is known of the table of powers of ten. Numbers as texts: up to three figures. The library's contracts over this program (strings.CutPrefix, strconv.Atoi, bits.Len64), laid by the kit's shelf tool. Numbers as texts: up to three figures. The conditions of K29, evaluated. Itoa comes to the figures, for numbers below a thousand. Types as texts: what they come to. The conditions of K30, evaluated. Written, Write, Text: what they come to. put, where it may be too much: what it comes to. put comes to what it says, where it may be too much. equal, and slices.EqualFunc at types: what they come to. The conditions of K49, evaluated. equal comes to what it says. list: the bindings of a map, in order. The map's entries as they lie in memory; the comparing function. list (59): the walk, up to what slices.SortFunc says. slices.SortFunc over this program, laid by the kit's shelf tool. list (59): slices.SortFunc at bindings. Conditions: none.
-/
import Derived.Test.YtnmolpkkemljoaaGreatDoorM8
import Derived.Test.YtnmolpkkemljoaaGreatDoorM9
import Derived.Shelf.Small.Wraps
import Derived.Shelf.Strconv.Atoi
import Derived.Shelf.Strconv.Itoa0
import Derived.Test.YtnmolpkkemljoaaGreatDoorProg
import Derived.Test.YtnmolpkkemljoaaGreatDoorM6
import Derived.Maps.RangeWalk
import Derived.Maps.AppendAt
import Derived.WalkKit
import Derived.LoopN
import Derived.Shelf.SlSortCmp.InsertionK
import Derived.Shelf.SlGeneric
import Derived.Shelf.SlSortCmp.WholeK
import Derived.Shelf.SlSortCmp.NoneTotal
import Derived.Ground.SlsfProg
section
noncomputable section
namespace Go.Proofs.YtnmolpkkemljoaaGreatDoor
open Go Go.Am Kd
def pow10 : List Nat := [1, 10, 100, 1000, 10000, 100000, 1000000, 10000000, 100000000, 1000000000, 10000000000, 100000000000, 1000000000000, 10000000000000, 100000000000000, 1000000000000000, 10000000000000000, 100000000000000000, 1000000000000000000, 10000000000000000000]
def gT : Gl := fun g o => match g == 0 with
 | true => match nthR pow10 o with | some n => some (.int .u64 n) | none => none
 | false => none
def runT (hk : Hooks) (n : Nat) (f : FuncId) (args : List AV) (A : AH) (K : AFin → Prop) : Prop := sFuncR Tryz.prog (Rm.W Tryz.prog gT els mu0 hk n) f args A K
end Go.Proofs.YtnmolpkkemljoaaGreatDoor
end
end
section
set_option maxRecDepth 100000
namespace Kd
def smallsL : List UInt8 := [48, 48, 48, 49, 48, 50, 48, 51, 48, 52, 48, 53, 48, 54, 48, 55, 48, 56, 48, 57, 49, 48, 49, 49, 49, 50, 49, 51, 49, 52, 49, 53, 49, 54, 49, 55, 49, 56, 49, 57, 50, 48, 50, 49, 50, 50, 50, 51, 50, 52, 50, 53, 50, 54, 50, 55, 50, 56, 50, 57, 51, 48, 51, 49, 51, 50, 51, 51, 51, 52, 51, 53, 51, 54, 51, 55, 51, 56, 51, 57, 52, 48, 52, 49, 52, 50, 52, 51, 52, 52, 52, 53, 52, 54, 52, 55, 52, 56, 52, 57, 53, 48, 53, 49, 53, 50, 53, 51, 53, 52, 53, 53, 53, 54, 53, 55, 53, 56, 53, 57, 54, 48, 54, 49, 54, 50, 54, 51, 54, 52, 54, 53, 54, 54, 54, 55, 54, 56, 54, 57, 55, 48, 55, 49, 55, 50, 55, 51, 55, 52, 55, 53, 55, 54, 55, 55, 55, 56, 55, 57, 56, 48, 56, 49, 56, 50, 56, 51, 56, 52, 56, 53, 56, 54, 56, 55, 56, 56, 56, 57, 57, 48, 57, 49, 57, 50, 57, 51, 57, 52, 57, 53, 57, 54, 57, 55, 57, 56, 57, 57]
def digitsL : List UInt8 := [48, 49, 50, 51, 52, 53, 54, 55, 56, 57, 97, 98, 99, 100, 101, 102, 103, 104, 105, 106, 107, 108, 109, 110, 111, 112, 113, 114, 115, 116, 117, 118, 119, 120, 121, 122]
end Kd
noncomputable section
namespace Go.Proofs.YtnmolpkkemljoaaGreatDoor
open Go Go.Am Kd
abbrev QT := QuietJ Tryz.prog gT
theorem QT.by {hk : Hooks} {f : FuncId} {args : List AV} {v : AV} (ha : AV.stillL args = true) (hv : v.still = true) (hh : Hooks.Ok Tryz.prog gT hk) (h : runT hk 60 f args AH.nil (retIs Tryz.prog 5 v)) : QT f args v :=
 QuietJ.ret (P := Tryz.prog) (G := gT) (f := f) 5 ha hv (FuncJ.run (el := els) (mu := mu0) (hk := hk) hmix hh (n := 60) h)
end Go.Proofs.YtnmolpkkemljoaaGreatDoor
end
end
section
namespace Go.Proofs
open Go.Shelf
def Tryz.lays172_ren : Go.Shelf.Ren := ⟨fun | 172 => 128 | 244 => 141 | 245 => 142 | 247 => 153 | 279 => 154 | 280 => 155 | 281 => 156 | 282 => 157 | 287 => 163 | 316 => 164 | 171 => 105 | 205 => 165 | 321 => 168 | 322 => 169 | 243 => 126 | 246 => 139 | 283 => 148 | 284 => 149 | 285 => 150 | 286 => 151 | 129 => 138 | 317 => 159 | 318 => 160 | 319 => 161 | 320 => 162 | 337 => 166 | 338 => 167 | n => n, fun | 9 => 9 | 3 => 3 | 75 => 153 | 76 => 154 | 4 => 4 | 5 => 5 | 167 => 181 | 37 => 177 | 0 => 0 | 85 => 182 | 2 => 2 | 168 => 184 | 53 => 166 | 175 => 193 | 46 => 150 | 210 => 197 | 127 => 200 | 145 => 203 | 143 => 201 | 21 => 21 | 171 => 175 | 173 => 178 | 212 => 190 | 51 => 164 | 20 => 20 | 213 => 191 | 232 => 204 | 233 => 205 | 80 => 206 | n => n, fun | 15 => 1 | 16 => 2 | 17 => 0 | 18 => 3 | 19 => 4 | n => n⟩
theorem Tryz.lays172 : Go.Proofs.Lays.n172 Tryz.prog Tryz.lays172_ren := {
 mixed := by kernel_rfl
 f129 := Tryz.func138.trans (congrArg some (by kernel_rfl))
 f171 := Tryz.func105.trans (congrArg some (by kernel_rfl))
 f172 := Tryz.func128.trans (congrArg some (by kernel_rfl))
 f205 := Tryz.func165.trans (congrArg some (by kernel_rfl))
 f243 := Tryz.func126.trans (congrArg some (by kernel_rfl))
 f244 := Tryz.func141.trans (congrArg some (by kernel_rfl))
 f245 := Tryz.func142.trans (congrArg some (by kernel_rfl))
 f246 := Tryz.func139.trans (congrArg some (by kernel_rfl))
 f247 := Tryz.func153.trans (congrArg some (by kernel_rfl))
 f279 := Tryz.func154.trans (congrArg some (by kernel_rfl))
 f280 := Tryz.func155.trans (congrArg some (by kernel_rfl))
 f281 := Tryz.func156.trans (congrArg some (by kernel_rfl))
 f282 := Tryz.func157.trans (congrArg some (by kernel_rfl))
 f283 := Tryz.func148.trans (congrArg some (by kernel_rfl))
 f284 := Tryz.func149.trans (congrArg some (by kernel_rfl))
 f285 := Tryz.func150.trans (congrArg some (by kernel_rfl))
 f286 := Tryz.func151.trans (congrArg some (by kernel_rfl))
 f287 := Tryz.func163.trans (congrArg some (by kernel_rfl))
 f316 := Tryz.func164.trans (congrArg some (by kernel_rfl))
 f317 := Tryz.func159.trans (congrArg some (by kernel_rfl))
 f318 := Tryz.func160.trans (congrArg some (by kernel_rfl))
 f319 := Tryz.func161.trans (congrArg some (by kernel_rfl))
 f320 := Tryz.func162.trans (congrArg some (by kernel_rfl))
 f321 := Tryz.func168.trans (congrArg some (by kernel_rfl))
 f322 := Tryz.func169.trans (congrArg some (by kernel_rfl))
 f337 := Tryz.func166.trans (congrArg some (by kernel_rfl))
 f338 := Tryz.func167.trans (congrArg some (by kernel_rfl))
 t0 := Tryz.underlying0
 a0 := Tryz.isAgg0
 z0 := Tryz.sizeOf0
 v0 := Tryz.zeroValue0
 t2 := Tryz.underlying2
 a2 := Tryz.isAgg2
 z2 := Tryz.sizeOf2
 v2 := Tryz.zeroValue2
 t3 := Tryz.underlying3
 a3 := Tryz.isAgg3
 z3 := Tryz.sizeOf3
 v3 := Tryz.zeroValue3
 t4 := Tryz.underlying4
 a4 := Tryz.isAgg4
 z4 := Tryz.sizeOf4
 v4 := Tryz.zeroValue4
 t5 := Tryz.underlying5
 a5 := Tryz.isAgg5
 z5 := Tryz.sizeOf5
 v5 := Tryz.zeroValue5
 t9 := Tryz.underlying9
 a9 := Tryz.isAgg9
 z9 := Tryz.sizeOf9
 v9 := Tryz.zeroValue9
 t20 := Tryz.underlying20
 a20 := Tryz.isAgg20
 z20 := Tryz.sizeOf20
 v20 := Tryz.zeroValue20
 t21 := Tryz.underlying21
 a21 := Tryz.isAgg21
 z21 := Tryz.sizeOf21
 v21 := Tryz.zeroValue21
 t37 := Tryz.underlying177
 a37 := Tryz.isAgg177
 z37 := Tryz.sizeOf177
 v37 := Tryz.zeroValue177
 t46 := Tryz.underlying150
 a46 := Tryz.isAgg150
 z46 := Tryz.sizeOf150
 v46 := Tryz.zeroValue150
 t51 := Tryz.underlying164
 a51 := Tryz.isAgg164
 z51 := Tryz.sizeOf164
 v51 := Tryz.zeroValue164
 t53 := Tryz.underlying166
 a53 := Tryz.isAgg166
 z53 := Tryz.sizeOf166
 v53 := Tryz.zeroValue166
 t75 := Tryz.underlying153
 a75 := Tryz.isAgg153
 z75 := Tryz.sizeOf153
 v75 := Tryz.zeroValue153
 t76 := Tryz.underlying154
 a76 := Tryz.isAgg154
 z76 := Tryz.sizeOf154
 v76 := Tryz.zeroValue154
 t85 := Tryz.underlying182
 a85 := Tryz.isAgg182
 z85 := Tryz.sizeOf182
 v85 := Tryz.zeroValue182
 t127 := Tryz.underlying200
 a127 := Tryz.isAgg200
 z127 := Tryz.sizeOf200
 v127 := Tryz.zeroValue200
 t143 := Tryz.underlying201
 a143 := Tryz.isAgg201
 z143 := Tryz.sizeOf201
 v143 := Tryz.zeroValue201
 t145 := Tryz.underlying203
 a145 := Tryz.isAgg203
 z145 := Tryz.sizeOf203
 v145 := Tryz.zeroValue203
 t167 := Tryz.underlying181
 a167 := Tryz.isAgg181
 z167 := Tryz.sizeOf181
 v167 := Tryz.zeroValue181
 t168 := Tryz.underlying184
 a168 := Tryz.isAgg184
 z168 := Tryz.sizeOf184
 v168 := Tryz.zeroValue184
 t171 := Tryz.underlying175
 a171 := Tryz.isAgg175
 z171 := Tryz.sizeOf175
 v171 := Tryz.zeroValue175
 t173 := Tryz.underlying178
 a173 := Tryz.isAgg178
 z173 := Tryz.sizeOf178
 v173 := Tryz.zeroValue178
 t175 := Tryz.underlying193
 a175 := Tryz.isAgg193
 z175 := Tryz.sizeOf193
 v175 := Tryz.zeroValue193
 t210 := Tryz.underlying197
 a210 := Tryz.isAgg197
 z210 := Tryz.sizeOf197
 v210 := Tryz.zeroValue197
 t212 := Tryz.underlying190
 a212 := Tryz.isAgg190
 z212 := Tryz.sizeOf190
 v212 := Tryz.zeroValue190
 t213 := Tryz.underlying191
 a213 := Tryz.isAgg191
 z213 := Tryz.sizeOf191
 t232 := Tryz.underlying204
 a232 := Tryz.isAgg204
 z232 := Tryz.sizeOf204
 v232 := Tryz.zeroValue204
 t233 := Tryz.underlying205
 a233 := Tryz.isAgg205
 z233 := Tryz.sizeOf205
 v233 := Tryz.zeroValue205
 g15 := by kernel_rfl
 g16 := by kernel_rfl
 g17 := by kernel_rfl
 g18 := by kernel_rfl
 g19 := by kernel_rfl }
open Go.RowKit in
theorem Tryz.strconv_Atoi (s : ByteArray) (n : Int) (hl : s.size ≤ 18) (h : Lib.atoi s.data.toList = some n) (w : World) :
  Calls Tryz.prog 128 #[.string s] w fun e w' => e = .returned (.tuple #[.int .i64 n, .nilIface]) ∧ ∃ t, w' = Lib.bytesWorld w 5 t := Any.strconv_Atoi Tryz.lays172 s n hl h w
def Tryz.lays129_ren : Go.Shelf.Ren := ⟨fun | 129 => 138 | n => n, fun | 53 => 166 | 3 => 3 | 4 => 4 | 46 => 150 | 5 => 5 | 9 => 9 | n => n, fun | n => n⟩
theorem Tryz.lays129 : Go.Proofs.Lays.n129 Tryz.prog Tryz.lays129_ren := {
 mixed := by kernel_rfl
 f129 := Tryz.func138.trans (congrArg some (by kernel_rfl))
 t3 := Tryz.underlying3
 a3 := Tryz.isAgg3
 z3 := Tryz.sizeOf3
 v3 := Tryz.zeroValue3
 t4 := Tryz.underlying4
 a4 := Tryz.isAgg4
 z4 := Tryz.sizeOf4
 v4 := Tryz.zeroValue4
 t5 := Tryz.underlying5
 a5 := Tryz.isAgg5
 z5 := Tryz.sizeOf5
 v5 := Tryz.zeroValue5
 t9 := Tryz.underlying9
 a9 := Tryz.isAgg9
 z9 := Tryz.sizeOf9
 v9 := Tryz.zeroValue9
 t46 := Tryz.underlying150
 a46 := Tryz.isAgg150
 z46 := Tryz.sizeOf150
 v46 := Tryz.zeroValue150
 t53 := Tryz.underlying166
 a53 := Tryz.isAgg166
 z53 := Tryz.sizeOf166
 v53 := Tryz.zeroValue166 }
theorem Tryz.bits_Len64 (x : Int) (w : World) (h0 : 0 ≤ x) (h1 : x ≤ 18446744073709551615) :
  Calls Tryz.prog 138 #[.int .u64 x] w fun e w' => e = .returned (.int .i64 (Lib.bitLen x.toNat)) ∧ w' = w := Any.bits_Len64 Tryz.lays129 x w h0 h1
end Go.Proofs
end
section
set_option maxRecDepth 100000
namespace Kd
open Go Go.Am
def dig (n : Nat) : UInt8 := UInt8.ofNat (48 + n)
def itoaN (n : Nat) : List UInt8 := if n < 10 then [dig n] else if n < 100 then [dig (n / 10), dig (n % 10)] else [dig (n / 100), dig (n / 10 % 10), dig (n % 10)]
def itoaL (n : Int) : List UInt8 := itoaN n.toNat
def bl (n : Int) : Nat := Lib.bitLen n.toNat
end Kd
noncomputable section
namespace Go.Proofs.YtnmolpkkemljoaaGreatDoor
open Go Go.Am Kd
def lenQ (m : Nat) : QSpec
 | [.int .u64 u], K => (0 ≤ u ∧ u ≤ 999 ∧ bl u = m) ∧ K (.int .i64 m)
 | _, _ => False
def lenHk (m : Nat) : Hooks := mkHooks Tryz.prog [(138, lenQ m)] [] []
def smQ : QSpec
 | [n], K => argInt n fun n => (0 ≤ n ∧ n < 100) ∧ K (.str (itoaL n))
 | _, _ => False
def ndQ : QSpec
 | [.int .u64 u], K => (100 ≤ u ∧ u ≤ 999) ∧ K (.int .i64 3)
 | _, _ => False
def fiHk : Hooks := mkHooks Tryz.prog [(148, smQ), (149, ndQ)] [] []
def fi10Q : QSpec
 | [n, b], K => argInt n fun n => argInt b fun b => tfR (decide (b = 10)) ((0 ≤ n ∧ n < 1000) ∧ K (.str (itoaL n))) False
 | _, _ => False
def itHk : Hooks := mkHooks Tryz.prog [(139, fi10Q)] [] []
def itoaQ : QSpec
 | [n], K => argInt n fun n => (0 ≤ n ∧ n < 1000) ∧ K (.str (itoaL n))
 | _, _ => False
end Go.Proofs.YtnmolpkkemljoaaGreatDoor
end
end
section
noncomputable section
namespace Go.Proofs.YtnmolpkkemljoaaGreatDoor
open Go Go.Am Kd Go.Am.AV Go.IntKind
set_option maxRecDepth 100000
theorem sm_top (n : Int) (s : List UInt8) : (runT hk0 60 148 [.int .i64 n] AH.nil (retIs Tryz.prog 5 (.str s))) = ( bothR (decide (n < (10 : Int))) (0 ≤ n ∧ 0 ≤ IntKind.wrap IntKind.i64 (n + (1 : Int)) ∧ (Int.toNat n ≤ Int.toNat (IntKind.wrap IntKind.i64 (n + (1 : Int))) ∧ Int.toNat (IntKind.wrap IntKind.i64 (n + (1 : Int))) ≤ 36) ∧ str (List.take (Int.toNat (IntKind.wrap IntKind.i64 (n + (1 : Int))) - Int.toNat n) (List.drop (Int.toNat n) digitsL)) = str s) (0 ≤ IntKind.wrap IntKind.i64 (n * (2 : Int)) ∧
 0 ≤ IntKind.wrap IntKind.i64 (IntKind.wrap IntKind.i64 (n * (2 : Int)) + (2 : Int)) ∧ (Int.toNat (IntKind.wrap IntKind.i64 (n * (2 : Int))) ≤ Int.toNat (IntKind.wrap IntKind.i64 (IntKind.wrap IntKind.i64 (n * (2 : Int)) + (2 : Int))) ∧ Int.toNat (IntKind.wrap IntKind.i64 (IntKind.wrap IntKind.i64 (n * (2 : Int)) + (2 : Int))) ≤ 200) ∧ str (List.take (Int.toNat (IntKind.wrap IntKind.i64 (IntKind.wrap IntKind.i64 (n * (2 : Int)) + (2 : Int))) - Int.toNat (IntKind.wrap IntKind.i64 (n * (2 : Int)))) (List.drop (Int.toNat (IntKind.wrap IntKind.i64 (n * (2 : Int)))) smallsL)) =
 str s)) := by kernel_rfl
theorem nd7_top (u r : Int) : (runT (lenHk 7) 60 149 [.int .u64 u] AH.nil (retIs Tryz.prog 5 (.int .i64 r))) = ( (0 ≤ u ∧ u ≤ 999 ∧ bl u = 7) ∧ bothR (decide (Int.ofNat (100) ≤ u)) (int i64 (3) = int i64 r) (int i64 (2) = int i64 r)) := by kernel_rfl
theorem nd8_top (u r : Int) : (runT (lenHk 8) 60 149 [.int .u64 u] AH.nil (retIs Tryz.prog 5 (.int .i64 r))) = ( (0 ≤ u ∧ u ≤ 999 ∧ bl u = 8) ∧ bothR (decide (Int.ofNat (100) ≤ u)) (int i64 (3) = int i64 r) (int i64 (2) = int i64 r)) := by kernel_rfl
theorem nd9_top (u r : Int) : (runT (lenHk 9) 60 149 [.int .u64 u] AH.nil (retIs Tryz.prog 5 (.int .i64 r))) = ( (0 ≤ u ∧ u ≤ 999 ∧ bl u = 9) ∧ bothR (decide (Int.ofNat (100) ≤ u)) (int i64 (3) = int i64 r) (int i64 (2) = int i64 r)) := by kernel_rfl
theorem nd10_top (u r : Int) : (runT (lenHk 10) 60 149 [.int .u64 u] AH.nil (retIs Tryz.prog 5 (.int .i64 r))) = ( (0 ≤ u ∧ u ≤ 999 ∧ bl u = 10) ∧ bothR (decide (Int.ofNat (1000) ≤ u)) (int i64 (4) = int i64 r) (int i64 (3) = int i64 r)) := by kernel_rfl
theorem fint_top (n : Int) (s : List UInt8) : (runT fiHk 60 139 [.int .i64 n, .int .i64 10] AH.nil (retIs Tryz.prog 5 (.str s))) = ( bothR (decide ((0 : Int) ≤ n)) (bothR (decide (n < (100 : Int))) ((0 ≤ n ∧ n < 100) ∧ str (itoaL n) = str s) (bothR (decide (n < (0 : Int))) ((100 ≤ IntKind.wrap IntKind.u64 ((0 : Int) - IntKind.wrap IntKind.u64 n) ∧ IntKind.wrap IntKind.u64 ((0 : Int) - IntKind.wrap IntKind.u64 n) ≤ 999) ∧ IntKind.u32 = IntKind.u32 ∧ (100 : Int) ≠ 0 ∧ IntKind.u32 = IntKind.u32 ∧ (100 : Int) ≠ 0 ∧ 0 ≤ IntKind.wrap IntKind.u32 (IntKind.wrap IntKind.u32
 (Int.tmod (IntKind.wrap IntKind.u32 (IntKind.wrap IntKind.u64 ((0 : Int) - IntKind.wrap IntKind.u64 n))) ((100 : Int)) * (2 : Int)) + (1 : Int)) ∧ ∃ c, smallsL[Int.toNat (IntKind.wrap IntKind.u32 (IntKind.wrap IntKind.u32 (Int.tmod (IntKind.wrap IntKind.u32 (IntKind.wrap IntKind.u64 ((0 : Int) - IntKind.wrap IntKind.u64 n))) ((100 : Int)) * (2 : Int)) + (1 : Int)))]? = some c ∧ 0 ≤ IntKind.wrap IntKind.u32 (Int.tmod (IntKind.wrap IntKind.u32 (IntKind.wrap IntKind.u64 ((0 : Int) - IntKind.wrap IntKind.u64 n))) ((100 : Int)) * (2 : Int)) ∧ ∃ c_1, smallsL[Int.toNat (IntKind.wrap IntKind.u32
 (Int.tmod (IntKind.wrap IntKind.u32 (IntKind.wrap IntKind.u64 ((0 : Int) - IntKind.wrap IntKind.u64 n))) ((100 : Int)) * (2 : Int)))]? = some c_1 ∧ AV.msl (0) (1) (3) = AV.msl (0) (1) (3) ∧ int i64 (3) = int i64 (3) ∧ int i64 (1) = int i64 (1) ∧ AV.int IntKind.u32 (IntKind.wrap IntKind.u32 (Int.tmod (IntKind.wrap IntKind.u32 (IntKind.wrap IntKind.u64 ((0 : Int) - IntKind.wrap IntKind.u64 n))) ((100 : Int)) * (2 : Int))) = AV.int IntKind.u32 (IntKind.wrap IntKind.u32
 (Int.tmod (IntKind.wrap IntKind.u32 (IntKind.wrap IntKind.u64 ((0 : Int) - IntKind.wrap IntKind.u64 n))) ((100 : Int)) * (2 : Int))) ∧ (0 ≤ IntKind.wrap IntKind.u32 (Int.tmod (IntKind.wrap IntKind.u32 (IntKind.wrap IntKind.u64 ((0 : Int) - IntKind.wrap IntKind.u64 n))) ((100 : Int)) * (2 : Int)) ∧ ∃ c, smallsL[Int.toNat (IntKind.wrap IntKind.u32 (Int.tmod (IntKind.wrap IntKind.u32 (IntKind.wrap IntKind.u64 ((0 : Int) - IntKind.wrap IntKind.u64 n))) ((100 : Int)) * (2 : Int)))]? = some c ∧ AV.int IntKind.u8 (iC (UInt8.toNat c)) = AV.int IntKind.u8 (iC (UInt8.toNat c_1))) ∧
 bothR (decide (n < (0 : Int))) (str [45, UInt8.ofNat (Int.toNat (IntKind.wrap IntKind.u8 (IntKind.wrap IntKind.u32 ((48 : Int) + IntKind.wrap IntKind.u32 (Int.tdiv (IntKind.wrap IntKind.u32 (IntKind.wrap IntKind.u64 ((0 : Int) - IntKind.wrap IntKind.u64 n))) ((100 : Int))))))), UInt8.ofNat (Int.toNat (iC (UInt8.toNat c_1))), UInt8.ofNat (Int.toNat (iC (UInt8.toNat c)))] = str s) (str [UInt8.ofNat (Int.toNat (IntKind.wrap IntKind.u8 (IntKind.wrap IntKind.u32 ((48 : Int) + IntKind.wrap IntKind.u32
 (Int.tdiv (IntKind.wrap IntKind.u32 (IntKind.wrap IntKind.u64 ((0 : Int) - IntKind.wrap IntKind.u64 n))) ((100 : Int))))))), UInt8.ofNat (Int.toNat (iC (UInt8.toNat c_1))), UInt8.ofNat (Int.toNat (iC (UInt8.toNat c)))] = str s)) ((100 ≤ IntKind.wrap IntKind.u64 n ∧ IntKind.wrap IntKind.u64 n ≤ 999) ∧ IntKind.u32 = IntKind.u32 ∧ (100 : Int) ≠ 0 ∧ IntKind.u32 = IntKind.u32 ∧ (100 : Int) ≠ 0 ∧ 0 ≤ IntKind.wrap IntKind.u32 (IntKind.wrap IntKind.u32 (Int.tmod (IntKind.wrap IntKind.u32 (IntKind.wrap IntKind.u64 n)) ((100 : Int)) * (2 : Int)) + (1 : Int)) ∧ ∃ c, smallsL[Int.toNat
 (IntKind.wrap IntKind.u32 (IntKind.wrap IntKind.u32 (Int.tmod (IntKind.wrap IntKind.u32 (IntKind.wrap IntKind.u64 n)) ((100 : Int)) * (2 : Int)) + (1 : Int)))]? = some c ∧ 0 ≤ IntKind.wrap IntKind.u32 (Int.tmod (IntKind.wrap IntKind.u32 (IntKind.wrap IntKind.u64 n)) ((100 : Int)) * (2 : Int)) ∧ ∃ c_1, smallsL[Int.toNat (IntKind.wrap IntKind.u32 (Int.tmod (IntKind.wrap IntKind.u32 (IntKind.wrap IntKind.u64 n)) ((100 : Int)) * (2 : Int)))]? = some c_1 ∧ AV.msl (0) (1) (3) = AV.msl (0) (1) (3) ∧ int i64 (3) = int i64 (3) ∧ int i64 (1) = int i64 (1) ∧
 AV.int IntKind.u32 (IntKind.wrap IntKind.u32 (Int.tmod (IntKind.wrap IntKind.u32 (IntKind.wrap IntKind.u64 n)) ((100 : Int)) * (2 : Int))) = AV.int IntKind.u32 (IntKind.wrap IntKind.u32 (Int.tmod (IntKind.wrap IntKind.u32 (IntKind.wrap IntKind.u64 n)) ((100 : Int)) * (2 : Int))) ∧ (0 ≤ IntKind.wrap IntKind.u32 (Int.tmod (IntKind.wrap IntKind.u32 (IntKind.wrap IntKind.u64 n)) ((100 : Int)) * (2 : Int)) ∧ ∃ c, smallsL[Int.toNat (IntKind.wrap IntKind.u32 (Int.tmod (IntKind.wrap IntKind.u32 (IntKind.wrap IntKind.u64 n)) ((100 : Int)) * (2 : Int)))]? = some c ∧
 AV.int IntKind.u8 (iC (UInt8.toNat c)) = AV.int IntKind.u8 (iC (UInt8.toNat c_1))) ∧ bothR (decide (n < (0 : Int))) (str [45, UInt8.ofNat (Int.toNat (IntKind.wrap IntKind.u8 (IntKind.wrap IntKind.u32 ((48 : Int) + IntKind.wrap IntKind.u32 (Int.tdiv (IntKind.wrap IntKind.u32 (IntKind.wrap IntKind.u64 n)) ((100 : Int))))))), UInt8.ofNat (Int.toNat (iC (UInt8.toNat c_1))), UInt8.ofNat (Int.toNat (iC (UInt8.toNat c)))] = str s) (str [UInt8.ofNat (Int.toNat (IntKind.wrap IntKind.u8 (IntKind.wrap IntKind.u32 ((48 : Int) +
 IntKind.wrap IntKind.u32 (Int.tdiv (IntKind.wrap IntKind.u32 (IntKind.wrap IntKind.u64 n)) ((100 : Int))))))), UInt8.ofNat (Int.toNat (iC (UInt8.toNat c_1))), UInt8.ofNat (Int.toNat (iC (UInt8.toNat c)))] = str s)))) (bothR (decide (n < (0 : Int))) ((100 ≤ IntKind.wrap IntKind.u64 ((0 : Int) - IntKind.wrap IntKind.u64 n) ∧ IntKind.wrap IntKind.u64 ((0 : Int) - IntKind.wrap IntKind.u64 n) ≤ 999) ∧ IntKind.u32 = IntKind.u32 ∧ (100 : Int) ≠ 0 ∧ IntKind.u32 = IntKind.u32 ∧ (100 : Int) ≠ 0 ∧ 0 ≤ IntKind.wrap IntKind.u32 (IntKind.wrap IntKind.u32
 (Int.tmod (IntKind.wrap IntKind.u32 (IntKind.wrap IntKind.u64 ((0 : Int) - IntKind.wrap IntKind.u64 n))) ((100 : Int)) * (2 : Int)) + (1 : Int)) ∧ ∃ c, smallsL[Int.toNat (IntKind.wrap IntKind.u32 (IntKind.wrap IntKind.u32 (Int.tmod (IntKind.wrap IntKind.u32 (IntKind.wrap IntKind.u64 ((0 : Int) - IntKind.wrap IntKind.u64 n))) ((100 : Int)) * (2 : Int)) + (1 : Int)))]? = some c ∧ 0 ≤ IntKind.wrap IntKind.u32 (Int.tmod (IntKind.wrap IntKind.u32 (IntKind.wrap IntKind.u64 ((0 : Int) - IntKind.wrap IntKind.u64 n))) ((100 : Int)) * (2 : Int)) ∧ ∃ c_1, smallsL[Int.toNat (IntKind.wrap IntKind.u32
 (Int.tmod (IntKind.wrap IntKind.u32 (IntKind.wrap IntKind.u64 ((0 : Int) - IntKind.wrap IntKind.u64 n))) ((100 : Int)) * (2 : Int)))]? = some c_1 ∧ AV.msl (0) (1) (3) = AV.msl (0) (1) (3) ∧ int i64 (3) = int i64 (3) ∧ int i64 (1) = int i64 (1) ∧ AV.int IntKind.u32 (IntKind.wrap IntKind.u32 (Int.tmod (IntKind.wrap IntKind.u32 (IntKind.wrap IntKind.u64 ((0 : Int) - IntKind.wrap IntKind.u64 n))) ((100 : Int)) * (2 : Int))) = AV.int IntKind.u32 (IntKind.wrap IntKind.u32
 (Int.tmod (IntKind.wrap IntKind.u32 (IntKind.wrap IntKind.u64 ((0 : Int) - IntKind.wrap IntKind.u64 n))) ((100 : Int)) * (2 : Int))) ∧ (0 ≤ IntKind.wrap IntKind.u32 (Int.tmod (IntKind.wrap IntKind.u32 (IntKind.wrap IntKind.u64 ((0 : Int) - IntKind.wrap IntKind.u64 n))) ((100 : Int)) * (2 : Int)) ∧ ∃ c, smallsL[Int.toNat (IntKind.wrap IntKind.u32 (Int.tmod (IntKind.wrap IntKind.u32 (IntKind.wrap IntKind.u64 ((0 : Int) - IntKind.wrap IntKind.u64 n))) ((100 : Int)) * (2 : Int)))]? = some c ∧ AV.int IntKind.u8 (iC (UInt8.toNat c)) = AV.int IntKind.u8 (iC (UInt8.toNat c_1))) ∧
 bothR (decide (n < (0 : Int))) (str [45, UInt8.ofNat (Int.toNat (IntKind.wrap IntKind.u8 (IntKind.wrap IntKind.u32 ((48 : Int) + IntKind.wrap IntKind.u32 (Int.tdiv (IntKind.wrap IntKind.u32 (IntKind.wrap IntKind.u64 ((0 : Int) - IntKind.wrap IntKind.u64 n))) ((100 : Int))))))), UInt8.ofNat (Int.toNat (iC (UInt8.toNat c_1))), UInt8.ofNat (Int.toNat (iC (UInt8.toNat c)))] = str s) (str [UInt8.ofNat (Int.toNat (IntKind.wrap IntKind.u8 (IntKind.wrap IntKind.u32 ((48 : Int) + IntKind.wrap IntKind.u32
 (Int.tdiv (IntKind.wrap IntKind.u32 (IntKind.wrap IntKind.u64 ((0 : Int) - IntKind.wrap IntKind.u64 n))) ((100 : Int))))))), UInt8.ofNat (Int.toNat (iC (UInt8.toNat c_1))), UInt8.ofNat (Int.toNat (iC (UInt8.toNat c)))] = str s)) ((100 ≤ IntKind.wrap IntKind.u64 n ∧ IntKind.wrap IntKind.u64 n ≤ 999) ∧ IntKind.u32 = IntKind.u32 ∧ (100 : Int) ≠ 0 ∧ IntKind.u32 = IntKind.u32 ∧ (100 : Int) ≠ 0 ∧ 0 ≤ IntKind.wrap IntKind.u32 (IntKind.wrap IntKind.u32 (Int.tmod (IntKind.wrap IntKind.u32 (IntKind.wrap IntKind.u64 n)) ((100 : Int)) * (2 : Int)) + (1 : Int)) ∧ ∃ c, smallsL[Int.toNat
 (IntKind.wrap IntKind.u32 (IntKind.wrap IntKind.u32 (Int.tmod (IntKind.wrap IntKind.u32 (IntKind.wrap IntKind.u64 n)) ((100 : Int)) * (2 : Int)) + (1 : Int)))]? = some c ∧ 0 ≤ IntKind.wrap IntKind.u32 (Int.tmod (IntKind.wrap IntKind.u32 (IntKind.wrap IntKind.u64 n)) ((100 : Int)) * (2 : Int)) ∧ ∃ c_1, smallsL[Int.toNat (IntKind.wrap IntKind.u32 (Int.tmod (IntKind.wrap IntKind.u32 (IntKind.wrap IntKind.u64 n)) ((100 : Int)) * (2 : Int)))]? = some c_1 ∧ AV.msl (0) (1) (3) = AV.msl (0) (1) (3) ∧ int i64 (3) = int i64 (3) ∧ int i64 (1) = int i64 (1) ∧
 AV.int IntKind.u32 (IntKind.wrap IntKind.u32 (Int.tmod (IntKind.wrap IntKind.u32 (IntKind.wrap IntKind.u64 n)) ((100 : Int)) * (2 : Int))) = AV.int IntKind.u32 (IntKind.wrap IntKind.u32 (Int.tmod (IntKind.wrap IntKind.u32 (IntKind.wrap IntKind.u64 n)) ((100 : Int)) * (2 : Int))) ∧ (0 ≤ IntKind.wrap IntKind.u32 (Int.tmod (IntKind.wrap IntKind.u32 (IntKind.wrap IntKind.u64 n)) ((100 : Int)) * (2 : Int)) ∧ ∃ c, smallsL[Int.toNat (IntKind.wrap IntKind.u32 (Int.tmod (IntKind.wrap IntKind.u32 (IntKind.wrap IntKind.u64 n)) ((100 : Int)) * (2 : Int)))]? = some c ∧
 AV.int IntKind.u8 (iC (UInt8.toNat c)) = AV.int IntKind.u8 (iC (UInt8.toNat c_1))) ∧ bothR (decide (n < (0 : Int))) (str [45, UInt8.ofNat (Int.toNat (IntKind.wrap IntKind.u8 (IntKind.wrap IntKind.u32 ((48 : Int) + IntKind.wrap IntKind.u32 (Int.tdiv (IntKind.wrap IntKind.u32 (IntKind.wrap IntKind.u64 n)) ((100 : Int))))))), UInt8.ofNat (Int.toNat (iC (UInt8.toNat c_1))), UInt8.ofNat (Int.toNat (iC (UInt8.toNat c)))] = str s) (str [UInt8.ofNat (Int.toNat (IntKind.wrap IntKind.u8 (IntKind.wrap IntKind.u32
 ((48 : Int) + IntKind.wrap IntKind.u32 (Int.tdiv (IntKind.wrap IntKind.u32 (IntKind.wrap IntKind.u64 n)) ((100 : Int))))))), UInt8.ofNat (Int.toNat (iC (UInt8.toNat c_1))), UInt8.ofNat (Int.toNat (iC (UInt8.toNat c)))] = str s)))) := by kernel_rfl
theorem it_top (n : Int) (s : List UInt8) : (runT itHk 60 105 [.int .i64 n] AH.nil (retIs Tryz.prog 5 (.str s))) = ( (0 ≤ n ∧ n < 1000) ∧ str (itoaL n) = str s) := by kernel_rfl
end Go.Proofs.YtnmolpkkemljoaaGreatDoor
end
end
section
set_option maxRecDepth 100000
set_option linter.unusedSimpArgs false
namespace Kd
open Go Go.Am
theorem dig_one : ∀ k : Nat, k < 10 → (digitsL.drop k).take 1 = [dig k] := by decide
theorem dig_two : ∀ k : Nat, k < 100 → smallsL[k * 2]? = some (dig (k / 10)) ∧ smallsL[k * 2 + 1]? = some (dig (k % 10)) := by decide +kernel
theorem dig_two' : ∀ k : Nat, k < 100 → (smallsL.drop (k * 2)).take 2 = [dig (k / 10), dig (k % 10)] := by decide +kernel
theorem u64_id {n : Int} (h1 : 0 ≤ n) (h2 : n < 18446744073709551616) : IntKind.u64.wrap n = n := by
 simp only [IntKind.wrap, IntKind.signed, IntKind.bits, Bool.false_and, Bool.false_eq_true, if_false]
 show n % 18446744073709551616 = n
 omega
theorem u32_id {n : Int} (h1 : 0 ≤ n) (h2 : n < 4294967296) : IntKind.u32.wrap n = n := by
 simp only [IntKind.wrap, IntKind.signed, IntKind.bits, Bool.false_and, Bool.false_eq_true, if_false]
 show n % 4294967296 = n
 omega
theorem u8_id {n : Int} (h1 : 0 ≤ n) (h2 : n < 256) : IntKind.u8.wrap n = n := by
 simp only [IntKind.wrap, IntKind.signed, IntKind.bits, Bool.false_and, Bool.false_eq_true, if_false]
 show n % 256 = n
 omega
theorem bl_range : ∀ k : Nat, k < 1000 → 100 ≤ k → (bl k = 7 ∨ bl k = 8 ∨ bl k = 9 ∨ (bl k = 10 ∧ 512 ≤ k)) := by decide +kernel
end Kd
noncomputable section
namespace Go.Proofs.YtnmolpkkemljoaaGreatDoor
open Go Go.Am Kd
theorem len64_ok {G : Gl} (u : Int) (h0 : 0 ≤ u) (h1 : u ≤ 18446744073709551615) : QuietJ Tryz.prog G 138 [.int .u64 u] (.int .i64 (bl u)) := by
 refine QuietJ.of_below fun S A w vs hi hl => ?_
 cases hl with
 | cons _ _ v _ hv hl =>
 cases hl
 cases hv
 refine (Go.Proofs.Tryz.bits_Len64 u w h0 h1).mono ?_
 rintro e w' ⟨rfl, rfl⟩
 exact ⟨.returned _ _ (.int _ _), Go.RowKit.Below.refl _ _⟩
theorem len_hook (m : Nat) : QSpec.Ok Tryz.prog gT 138 (lenQ m) := by
 intro args K h
 unfold lenQ at h
 split at h
 ·obtain ⟨⟨h1, h2, h3⟩, h4⟩ := h
  subst h3
  exact ⟨_, len64_ok _ h1 (by omega), h4⟩
 ·exact h.elim
theorem nd_ok (u : Int) (h0 : 100 ≤ u) (h1 : u ≤ 999) : QT 149 [.int .u64 u] (.int .i64 3) := by
 obtain ⟨k, rfl⟩ : ∃ k : Nat, u = (k : Int) := ⟨u.toNat, by omega⟩
 have hb := bl_range k (by omega) (by omega)
 have go : ∀ m, bl (k : Int) = m → Hooks.Ok Tryz.prog gT (lenHk m) := fun m _ => mkHooks_ok (all_cons (len_hook m) all_nil) all_nil all_nil
 rcases hb with hb | hb | hb | ⟨hb, h5⟩
 ·refine QT.by (hk := lenHk 7) rfl rfl (go _ hb) ?_
  rw [nd7_top]
  exact ⟨⟨by omega, by omega, hb⟩, bothR_dec (fun _ => rfl) fun h => absurd h0 h⟩
 ·refine QT.by (hk := lenHk 8) rfl rfl (go _ hb) ?_
  rw [nd8_top]
  exact ⟨⟨by omega, by omega, hb⟩, bothR_dec (fun _ => rfl) fun h => absurd h0 h⟩
 ·refine QT.by (hk := lenHk 9) rfl rfl (go _ hb) ?_
  rw [nd9_top]
  exact ⟨⟨by omega, by omega, hb⟩, bothR_dec (fun _ => rfl) fun h => absurd h0 h⟩
 ·refine QT.by (hk := lenHk 10) rfl rfl (go _ hb) ?_
  rw [nd10_top]
  exact ⟨⟨by omega, by omega, hb⟩, bothR_dec (fun h => absurd h1 (by have : (1000 : Int) ≤ k := h; omega)) fun h => rfl⟩
theorem nd_hook : QSpec.Ok Tryz.prog gT 149 ndQ := by
 intro args K h
 unfold ndQ at h
 split at h
 ·exact ⟨_, nd_ok _ h.1.1 h.1.2, h.2⟩
 ·exact h.elim
theorem sm_ok (n : Int) (h0 : 0 ≤ n) (h1 : n < 100) : QT 148 [.int .i64 n] (.str (itoaL n)) := by
 obtain ⟨k, rfl⟩ : ∃ k : Nat, n = (k : Int) := ⟨n.toNat, by omega⟩
 refine QT.by (hk := hk0) rfl rfl (mkHooks_ok all_nil all_nil all_nil) ?_
 rw [sm_top, wrap_id (n := (k : Int) + 1) (by omega) (by omega), wrap_id (n := (k : Int) * 2) (by omega) (by omega), wrap_id (n := (k : Int) * 2 + 2) (by omega) (by omega)]
 refine bothR_dec (fun h => ⟨by omega, by omega, by omega, ?_⟩) fun h => ⟨by omega, by omega, by omega, ?_⟩
 ·have e1 : ((k : Int) + 1).toNat - (k : Int).toNat = 1 := by omega
  rw [e1, Int.toNat_natCast, dig_one k (by omega)]
  simp only [itoaL, itoaN, Int.toNat_natCast, if_pos (show k < 10 by omega)]
 ·have e1 : ((k : Int) * 2 + 2).toNat - ((k : Int) * 2).toNat = 2 := by omega
  have e2 : ((k : Int) * 2).toNat = k * 2 := by omega
  rw [e1, e2, dig_two' k (by omega)]
  simp only [itoaL, itoaN, Int.toNat_natCast, if_neg (show ¬ k < 10 by omega), if_pos (show k < 100 by omega)]
theorem sm_hook : QSpec.Ok Tryz.prog gT 148 smQ := by
 intro args K h
 unfold smQ at h
 split at h
 ·obtain ⟨n, rfl, h1, h2⟩ := argInt_elim h
  exact ⟨_, sm_ok n h1.1 h1.2, h2⟩
 ·exact h.elim
theorem fi_ok (n : Int) (h0 : 0 ≤ n) (h1 : n < 1000) : QT 139 [.int .i64 n, .int .i64 10] (.str (itoaL n)) := by
 obtain ⟨k, rfl⟩ : ∃ k : Nat, n = (k : Int) := ⟨n.toNat, by omega⟩
 refine QT.by (hk := fiHk) rfl rfl (mkHooks_ok (all_cons sm_hook (all_cons nd_hook all_nil)) all_nil all_nil) ?_
 rw [fint_top]
 refine bothR_dec (fun _ => bothR_dec (fun h => ⟨⟨h0, h⟩, rfl⟩) fun h => bothR_dec (fun h => absurd h (by omega)) fun _ => ?_) fun h => absurd h0 h
 rw [u64_id (n := (k : Int)) (by omega) (by omega), u32_id (n := (k : Int)) (by omega) (by omega)]
 have e1 : Int.tmod (k : Int) 100 = ((k % 100 : Nat) : Int) := rfl
 have e2 : Int.tdiv (k : Int) 100 = ((k / 100 : Nat) : Int) := rfl
 rw [e1, e2]
 have l1 : k % 100 < 100 := Nat.mod_lt _ (by omega)
 rw [u32_id (n := ((k % 100 : Nat) : Int) * 2) (by omega) (by omega), u32_id (n := ((k % 100 : Nat) : Int) * 2 + 1) (by omega) (by omega), u32_id (n := ((k / 100 : Nat) : Int)) (by omega) (by omega),
  u32_id (n := 48 + ((k / 100 : Nat) : Int)) (by omega) (by omega), u8_id (n := 48 + ((k / 100 : Nat) : Int)) (by omega) (by omega)]
 have e3 : (((k % 100 : Nat) : Int) * 2).toNat = k % 100 * 2 := by omega
 have e4 : (((k % 100 : Nat) : Int) * 2 + 1).toNat = k % 100 * 2 + 1 := by omega
 have e5 : (48 + ((k / 100 : Nat) : Int)).toNat = 48 + k / 100 := by omega
 rw [e3, e4, e5]
 obtain ⟨d1, d2⟩ := dig_two (k % 100) l1
 refine ⟨⟨by omega, by omega⟩, rfl, by omega, rfl, by omega, by omega, _, d2, by omega, _, d1, rfl, rfl, rfl, rfl, ⟨by omega, _, d1, rfl⟩, bothR_dec (fun h => absurd h (by omega)) fun _ => ?_⟩
 simp only [iC, Int.toNat_natCast, UInt8.ofNat_toNat, itoaL, itoaN, if_neg (show ¬ k < 10 by omega), if_neg (show ¬ k < 100 by omega)]
 rw [show k % 100 / 10 = k / 10 % 10 by omega, show k % 100 % 10 = k % 10 by omega]
 rfl
theorem fi10_hook : QSpec.Ok Tryz.prog gT 139 fi10Q := by
 intro args K h
 unfold fi10Q at h
 split at h
 ·obtain ⟨n, rfl, h3⟩ := argInt_elim h
  obtain ⟨b, rfl, h4⟩ := argInt_elim h3
  rcases tfR_elim h4 with ⟨hb, h1, h2⟩ | ⟨_, h⟩
  ·simp only [decide_eq_true_eq] at hb
   subst hb
   exact ⟨_, fi_ok n h1.1 h1.2, h2⟩
  ·exact h.elim
 ·exact h.elim
theorem itoa_ok (n : Int) (h0 : 0 ≤ n) (h1 : n < 1000) : QT 105 [.int .i64 n] (.str (itoaL n)) := by
 refine QT.by (hk := itHk) rfl rfl (mkHooks_ok (all_cons fi10_hook all_nil) all_nil all_nil) ?_
 rw [it_top]
 exact ⟨⟨h0, h1⟩, rfl⟩
theorem itoa_hook : QSpec.Ok Tryz.prog gT 105 itoaQ := by
 intro args K h
 unfold itoaQ at h
 split at h
 ·obtain ⟨n, rfl, h1, h2⟩ := argInt_elim h
  exact ⟨_, itoa_ok n h1.1 h1.2, h2⟩
 ·exact h.elim
end Go.Proofs.YtnmolpkkemljoaaGreatDoor
end
end
section
set_option maxRecDepth 100000
namespace Kd
open Go.Am Go.Proofs.YtnmolpkkemljoaaGreatDoor
def befS (k : Int) : List UInt8 := if k = 0 then [117, 110, 105, 116] else if k = 1 then [105, 110, 116] else if k = 4 then [91] else if k = 6 then [39] else [40]
def btwS (k : Int) : List UInt8 := if k = 2 then [32, 42, 32] else if k = 3 then [32, 43, 32] else if k = 5 then [32, 45, 62, 32] else []
def aftS (k : Int) : List UInt8 := if k = 4 then [93] else if k = 0 ∨ k = 1 ∨ k = 6 then [] else [41]
mutual
def writeS : Ty → List UInt8
 | .mk k n _ l => (befS k ++ if k = 6 then itoaL n else []) ++ writeL (btwS k) l true ++ aftS k
def writeL (s : List UInt8) : List Ty → Bool → List UInt8
 | [], _ => []
 | x :: xs, first => (if first then [] else s) ++ writeS x ++ writeL s xs false
end
structure WSt where
 i : Nat
 acc : List UInt8
def zeroB (i : Nat) : Bool := decide (i = 0)
theorem itoaN_len (n : Nat) : (itoaN n).length ≤ 3 := by
 unfold itoaN
 split
 ·simp
 ·split <;> simp
theorem sep_len (k : Int) : (befS k).length ≤ 4 ∧ (btwS k).length ≤ 4 ∧ (aftS k).length ≤ 1 := by
 refine ⟨?_, ?_, ?_⟩
 ·unfold befS; repeat' split
  all_goals simp
 ·unfold btwS; repeat' split
  all_goals simp
 ·unfold aftS; repeat' split
  all_goals simp
theorem write_lens : (∀ t, (writeS t).length + 4 ≤ 12 * cnt t) ∧ ∀ (s : List UInt8) l b, s.length ≤ 4 → (writeL s l b).length ≤ 12 * cntL l := by
 have key : ∀ (N : Nat), (∀ t, SizeOf.sizeOf t < N → (writeS t).length + 4 ≤ 12 * cnt t) ∧ ∀ l, SizeOf.sizeOf l < N → ∀ (s : List UInt8) b, s.length ≤ 4 → (writeL s l b).length ≤ 12 * cntL l := by
  intro N
  induction N with
  | zero => exact ⟨fun _ h => by omega, fun _ h => by omega⟩
  | succ N ih =>
   obtain ⟨ih1, ih2⟩ := ih
   constructor
   ·intro t ht
    cases t with
    | mk k n b l =>
     simp only [Ty.mk.sizeOf_spec] at ht
     obtain ⟨h1, h2, h3⟩ := sep_len k
     have h4 := ih2 l (by omega) (btwS k) true h2
     have h5 : (if k = 6 then itoaL n else []).length ≤ 3 := by
      split
      ·exact itoaN_len _
      ·simp
     simp only [writeS, cnt, List.length_append]
     omega
   ·intro l hl s b hs
    cases l with
    | nil => simp [writeL, cntL]
    | cons x xs =>
     simp only [List.cons.sizeOf_spec] at hl
     have h1 := ih1 x (by omega)
     have h2 := ih2 xs (by omega) s false hs
     have h3 : (if b = true then [] else s).length ≤ 4 := by
      split
      ·simp
      ·exact hs
     simp only [writeL, cntL, List.length_append]
     omega
 exact ⟨fun t => (key (SizeOf.sizeOf t + 1)).1 t (by omega), fun s l b => (key (SizeOf.sizeOf l + 1)).2 l (by omega) s b⟩
theorem write_len (t : Ty) : (writeS t).length + 4 ≤ 12 * cnt t := write_lens.1 t
end Kd
noncomputable section
namespace Go.Proofs.YtnmolpkkemljoaaGreatDoor
open Go Go.Am Kd
def runTC (hk : Hooks) (n : Nat) (rd : Option Nat) (c : Code) (a : AAct) (A : AH) (K : AOut → Prop) : Prop := fCodeR Tryz.prog gT els mu0 hk (Rm.W Tryz.prog gT els mu0 hk n) rd c a A K
def runTL {ι ρ : Type} (hk : Hooks) (n : Nat) (f k : Nat) (s : LSt ι ρ) (meas : ι → Nat) (x : ι) : Prop := runTC hk n s.rd (loopC f k) (s.fr x) (s.hp x) (s.post meas x)
theorem LSt.byT {ι ρ : Type} (s : LSt ι ρ) (meas : ι → Nat) {f k : Nat} {hk : Hooks} (hh : Hooks.Ok Tryz.prog gT hk) (hrd : s.rd = none) (hw : ∀ x, s.inv x → Whole s.n s.nf (s.fr x) (s.hp x))
  (hwo : ∀ x b, s.inv x → Whole s.n s.nf (s.out b (s.res x)).a (s.out b (s.res x)).A) (round : ∀ x, s.inv x → runTL hk 60 f k s meas x) : LHook.Ok Tryz.prog gT ⟨f, k, s.spec⟩ :=
 LSt.ok s meas (fun l h => by rw [hrd] at h; cases h) hw hwo fun x hx => CodeJ.run (el := els) (mu := mu0) hmix hh (n := 60) (round x hx)
def wrQ (N : Nat) : QSpec
 | [t], K => argTy t fun t => (SizeOf.sizeOf t < N ∧ okT t = true ∧ cnt t ≤ 1000) ∧ K (.str (writeS t))
 | _, _ => False
def wrQ0 : QSpec
 | [t], K => argTy t fun t => (okT t = true ∧ cnt t ≤ 1000) ∧ K (.str (writeS t))
 | _, _ => False
def wrB (t : Ty) : ABlk := .cells [.top, .top, .str (btwS t.kind), .str (aftS t.kind), .top, .top] 106
def wrSt (t : Ty) : LSt WSt (List UInt8) where
 n := 2
 nf := 0
 rd := none
 fr x := frm 44 [(1, .ptr 0 0), (3, .ptr 1 0), (4, .str x.acc), (22, .isl t.nl none 0 (encL t.l)), (23, .int .i64 (encL t.l).length), (24, .int .i64 x.i)]
 hp _ := ⟨[tyC t, wrB t], []⟩
 inv x := x.i ≤ t.l.length ∧ okL t.l = true ∧ cnt t ≤ 1000 ∧ x.acc.length + 12 * cntL (t.l.drop x.i) ≤ 20000
 res x := x.acc ++ writeL (btwS t.kind) (t.l.drop x.i) (zeroB x.i)
 sel _ := true
 out _ r := ⟨.exit 0, frm 44 [(3, .ptr 1 0), (4, .str r)], ⟨[tyC t, wrB t], []⟩⟩
def wrHk1 (N : Nat) : Hooks := hooks [(72, wrQ N)] [] []
def wrHk2 (t : Ty) : Hooks := hooks [(81, kindsQ), (105, itoaQ)] [] [(6, ⟨72, 0, (wrSt t).spec⟩)]
end Go.Proofs.YtnmolpkkemljoaaGreatDoor
end
end
section
noncomputable section
namespace Go.Proofs.YtnmolpkkemljoaaGreatDoor
open Go Go.Am Kd Go.Am.AV Go.IntKind
set_option maxRecDepth 100000
theorem wr_loop (t : Ty) (N : Nat) (meas : WSt → Nat) (x : WSt) : (runTL (wrHk1 N) 60 72 0 (wrSt t) meas x) = ( bothR (decide (iC (WSt.i x) < iC (List.length (encL (Ty.l t))))) (0 ≤ iC (WSt.i x) ∧ ∃ x_1, (encL (Ty.l t))[Int.toNat (iC (WSt.i x))]? = some (agg [int i64 (Ty.kind x_1), int i64 (Ty.n x_1), isl (Ty.nl x_1) none (0) (encL (Ty.l x_1))]) ∧ bothR (decide ((0 : Int) < iC (WSt.i x))) (iC (List.length (WSt.acc x) + List.length (btwS (Ty.kind t))) ≤ 9223372036854775807 ∧ ∃ l, encL (Ty.l x_1) = encL l ∧
 (SizeOf.sizeOf (Ty.mk (Ty.kind x_1) (Ty.n x_1) (Ty.nl x_1) l) < N ∧ okT (Ty.mk (Ty.kind x_1) (Ty.n x_1) (Ty.nl x_1) l) = true ∧ cnt (Ty.mk (Ty.kind x_1) (Ty.n x_1) (Ty.nl x_1) l) ≤ 1000) ∧ iC (List.length (WSt.acc x ++ btwS (Ty.kind t)) + List.length (writeS (Ty.mk (Ty.kind x_1) (Ty.n x_1) (Ty.nl x_1) l))) ≤ 9223372036854775807 ∧ ∃ y, (WSt.i y ≤ List.length (Ty.l t) ∧ okL (Ty.l t) = true ∧ cnt t ≤ 1000 ∧ List.length (WSt.acc y) + 12 * cntL (List.drop (WSt.i y) (Ty.l t)) ≤ 20000) ∧ meas y < meas x ∧ WSt.acc y ++ writeL (btwS (Ty.kind t)) (List.drop (WSt.i y) (Ty.l t)) (zeroB (WSt.i y)) =
 WSt.acc x ++ writeL (btwS (Ty.kind t)) (List.drop (WSt.i x) (Ty.l t)) (zeroB (WSt.i x)) ∧ ptr (0) (0) = ptr (0) (0) ∧ ptr (1) (0) = ptr (1) (0) ∧ str (WSt.acc x ++ btwS (Ty.kind t) ++ writeS (Ty.mk (Ty.kind x_1) (Ty.n x_1) (Ty.nl x_1) l)) = str (WSt.acc y) ∧ isl (Ty.nl t) none (0) (encL (Ty.l t)) = isl (Ty.nl t) none (0) (encL (Ty.l t)) ∧ int i64 (iC (List.length (encL (Ty.l t)))) = int i64 (iC (List.length (encL (Ty.l t)))) ∧ int i64 (IntKind.wrap IntKind.i64 (iC (WSt.i x) + (1 : Int))) = int i64 (iC (WSt.i y)) ∧ 24 = 24 ∧
 int i64 (Ty.kind t) = int i64 (Ty.kind t) ∧ int i64 (Ty.n t) = int i64 (Ty.n t) ∧ isl (Ty.nl t) none (0) (encL (Ty.l t)) = isl (Ty.nl t) none (0) (encL (Ty.l t)) ∧ 106 = 106 ∧ str (btwS (Ty.kind t)) = str (btwS (Ty.kind t)) ∧ str (aftS (Ty.kind t)) = str (aftS (Ty.kind t)) ∧ 0 = 0 ∧ True) (∃ l, encL (Ty.l x_1) = encL l ∧ (SizeOf.sizeOf (Ty.mk (Ty.kind x_1) (Ty.n x_1) (Ty.nl x_1) l) < N ∧ okT (Ty.mk (Ty.kind x_1) (Ty.n x_1) (Ty.nl x_1) l) = true ∧ cnt (Ty.mk (Ty.kind x_1) (Ty.n x_1) (Ty.nl x_1) l) ≤ 1000) ∧
 iC (List.length (WSt.acc x) + List.length (writeS (Ty.mk (Ty.kind x_1) (Ty.n x_1) (Ty.nl x_1) l))) ≤ 9223372036854775807 ∧ ∃ y, (WSt.i y ≤ List.length (Ty.l t) ∧ okL (Ty.l t) = true ∧ cnt t ≤ 1000 ∧ List.length (WSt.acc y) + 12 * cntL (List.drop (WSt.i y) (Ty.l t)) ≤ 20000) ∧ meas y < meas x ∧ WSt.acc y ++ writeL (btwS (Ty.kind t)) (List.drop (WSt.i y) (Ty.l t)) (zeroB (WSt.i y)) = WSt.acc x ++ writeL (btwS (Ty.kind t)) (List.drop (WSt.i x) (Ty.l t)) (zeroB (WSt.i x)) ∧ ptr (0) (0) = ptr (0) (0) ∧ ptr (1) (0) = ptr (1) (0) ∧
 str (WSt.acc x ++ writeS (Ty.mk (Ty.kind x_1) (Ty.n x_1) (Ty.nl x_1) l)) = str (WSt.acc y) ∧ isl (Ty.nl t) none (0) (encL (Ty.l t)) = isl (Ty.nl t) none (0) (encL (Ty.l t)) ∧ int i64 (iC (List.length (encL (Ty.l t)))) = int i64 (iC (List.length (encL (Ty.l t)))) ∧ int i64 (IntKind.wrap IntKind.i64 (iC (WSt.i x) + (1 : Int))) = int i64 (iC (WSt.i y)) ∧ 24 = 24 ∧ int i64 (Ty.kind t) = int i64 (Ty.kind t) ∧ int i64 (Ty.n t) = int i64 (Ty.n t) ∧
 isl (Ty.nl t) none (0) (encL (Ty.l t)) = isl (Ty.nl t) none (0) (encL (Ty.l t)) ∧ 106 = 106 ∧ str (btwS (Ty.kind t)) = str (btwS (Ty.kind t)) ∧ str (aftS (Ty.kind t)) = str (aftS (Ty.kind t)) ∧ 0 = 0 ∧ True)) (true = true ∧ ptr (1) (0) = ptr (1) (0) ∧ str (WSt.acc x) = str (WSt.acc x ++ writeL (btwS (Ty.kind t)) (List.drop (WSt.i x) (Ty.l t)) (zeroB (WSt.i x))) ∧ 24 = 24 ∧ int i64 (Ty.kind t) = int i64 (Ty.kind t) ∧ int i64 (Ty.n t) = int i64 (Ty.n t) ∧
 isl (Ty.nl t) none (0) (encL (Ty.l t)) = isl (Ty.nl t) none (0) (encL (Ty.l t)) ∧ 106 = 106 ∧ str (btwS (Ty.kind t)) = str (btwS (Ty.kind t)) ∧ str (aftS (Ty.kind t)) = str (aftS (Ty.kind t)) ∧ 0 = 0 ∧ True)) := by kernel_rfl
theorem wr_top (t : Ty) (r : List UInt8) : (runT (wrHk2 t) 60 72 [encD t] AH.nil (retIs Tryz.prog 5 (.str r))) = ( bothR (decide (Ty.kind t = (0 : Int))) (bothR (decide (Ty.kind t = (6 : Int))) ((0 ≤ Ty.n t ∧ Ty.n t < 1000) ∧ iC (4 + List.length (itoaL (Ty.n t))) ≤ 9223372036854775807 ∧ codeIs (loopOf Tryz.prog 72 0) Tryz.prog 72 0 (∃ x, (WSt.i x ≤ List.length (Ty.l t) ∧ okL (Ty.l t) = true ∧ cnt t ≤ 1000 ∧ List.length (WSt.acc x) + 12 * cntL (List.drop (WSt.i x) (Ty.l t)) ≤ 20000) ∧ ptr (0) (0) = ptr (0) (0) ∧ ptr (1) (0) = ptr (1) (0) ∧
 str (117 :: 110 :: 105 :: 116 :: itoaL (Ty.n t)) = str (WSt.acc x) ∧ isl (Ty.nl t) none (0) (encL (Ty.l t)) = isl (Ty.nl t) none (0) (encL (Ty.l t)) ∧ int i64 (iC (List.length (encL (Ty.l t)))) = int i64 (iC (List.length (encL (Ty.l t)))) ∧ int i64 (0) = int i64 (iC (WSt.i x)) ∧ 24 = 24 ∧ int i64 (Ty.kind t) = int i64 (Ty.kind t) ∧ int i64 (Ty.n t) = int i64 (Ty.n t) ∧ isl (Ty.nl t) none (0) (encL (Ty.l t)) = isl (Ty.nl t) none (0) (encL (Ty.l t)) ∧ 106 = 106 ∧
 str [] = str (btwS (Ty.kind t)) ∧ str [] = str (aftS (Ty.kind t)) ∧ 0 = 0 ∧ iC (List.length (WSt.acc x ++ writeL (btwS (Ty.kind t)) (List.drop (WSt.i x) (Ty.l t)) (zeroB (WSt.i x))) + List.length (aftS (Ty.kind t))) ≤ 9223372036854775807 ∧ str (WSt.acc x ++ writeL (btwS (Ty.kind t)) (List.drop (WSt.i x) (Ty.l t)) (zeroB (WSt.i x)) ++ aftS (Ty.kind t)) = str r)) (codeIs (loopOf Tryz.prog 72 0) Tryz.prog 72 0 (∃ x, (WSt.i x ≤ List.length (Ty.l t) ∧ okL (Ty.l t) = true ∧ cnt t ≤ 1000 ∧ List.length (WSt.acc x) + 12 * cntL (List.drop (WSt.i x) (Ty.l t)) ≤ 20000) ∧
 ptr (0) (0) = ptr (0) (0) ∧ ptr (1) (0) = ptr (1) (0) ∧ str [117, 110, 105, 116] = str (WSt.acc x) ∧ isl (Ty.nl t) none (0) (encL (Ty.l t)) = isl (Ty.nl t) none (0) (encL (Ty.l t)) ∧ int i64 (iC (List.length (encL (Ty.l t)))) = int i64 (iC (List.length (encL (Ty.l t)))) ∧ int i64 (0) = int i64 (iC (WSt.i x)) ∧ 24 = 24 ∧ int i64 (Ty.kind t) = int i64 (Ty.kind t) ∧ int i64 (Ty.n t) = int i64 (Ty.n t) ∧
 isl (Ty.nl t) none (0) (encL (Ty.l t)) = isl (Ty.nl t) none (0) (encL (Ty.l t)) ∧ 106 = 106 ∧ str [] = str (btwS (Ty.kind t)) ∧ str [] = str (aftS (Ty.kind t)) ∧ 0 = 0 ∧ iC (List.length (WSt.acc x ++ writeL (btwS (Ty.kind t)) (List.drop (WSt.i x) (Ty.l t)) (zeroB (WSt.i x))) + List.length (aftS (Ty.kind t))) ≤ 9223372036854775807 ∧ str (WSt.acc x ++ writeL (btwS (Ty.kind t)) (List.drop (WSt.i x) (Ty.l t)) (zeroB (WSt.i x)) ++ aftS (Ty.kind t)) = str r))) (bothR (decide (Ty.kind t = (1 : Int))) (bothR (decide (Ty.kind t = (6 : Int))) ((0 ≤ Ty.n t ∧ Ty.n t < 1000) ∧
 iC (3 + List.length (itoaL (Ty.n t))) ≤ 9223372036854775807 ∧ codeIs (loopOf Tryz.prog 72 0) Tryz.prog 72 0 (∃ x, (WSt.i x ≤ List.length (Ty.l t) ∧ okL (Ty.l t) = true ∧ cnt t ≤ 1000 ∧ List.length (WSt.acc x) + 12 * cntL (List.drop (WSt.i x) (Ty.l t)) ≤ 20000) ∧ ptr (0) (0) = ptr (0) (0) ∧ ptr (1) (0) = ptr (1) (0) ∧ str (105 :: 110 :: 116 :: itoaL (Ty.n t)) = str (WSt.acc x) ∧ isl (Ty.nl t) none (0) (encL (Ty.l t)) = isl (Ty.nl t) none (0) (encL (Ty.l t)) ∧ int i64 (iC (List.length (encL (Ty.l t)))) = int i64 (iC (List.length (encL (Ty.l t)))) ∧
 int i64 (0) = int i64 (iC (WSt.i x)) ∧ 24 = 24 ∧ int i64 (Ty.kind t) = int i64 (Ty.kind t) ∧ int i64 (Ty.n t) = int i64 (Ty.n t) ∧ isl (Ty.nl t) none (0) (encL (Ty.l t)) = isl (Ty.nl t) none (0) (encL (Ty.l t)) ∧ 106 = 106 ∧ str [] = str (btwS (Ty.kind t)) ∧ str [] = str (aftS (Ty.kind t)) ∧ 0 = 0 ∧ iC (List.length (WSt.acc x ++ writeL (btwS (Ty.kind t)) (List.drop (WSt.i x) (Ty.l t)) (zeroB (WSt.i x))) + List.length (aftS (Ty.kind t))) ≤ 9223372036854775807 ∧
 str (WSt.acc x ++ writeL (btwS (Ty.kind t)) (List.drop (WSt.i x) (Ty.l t)) (zeroB (WSt.i x)) ++ aftS (Ty.kind t)) = str r)) (codeIs (loopOf Tryz.prog 72 0) Tryz.prog 72 0 (∃ x, (WSt.i x ≤ List.length (Ty.l t) ∧ okL (Ty.l t) = true ∧ cnt t ≤ 1000 ∧ List.length (WSt.acc x) + 12 * cntL (List.drop (WSt.i x) (Ty.l t)) ≤ 20000) ∧ ptr (0) (0) = ptr (0) (0) ∧ ptr (1) (0) = ptr (1) (0) ∧ str [105, 110, 116] = str (WSt.acc x) ∧ isl (Ty.nl t) none (0) (encL (Ty.l t)) = isl (Ty.nl t) none (0) (encL (Ty.l t)) ∧
 int i64 (iC (List.length (encL (Ty.l t)))) = int i64 (iC (List.length (encL (Ty.l t)))) ∧ int i64 (0) = int i64 (iC (WSt.i x)) ∧ 24 = 24 ∧ int i64 (Ty.kind t) = int i64 (Ty.kind t) ∧ int i64 (Ty.n t) = int i64 (Ty.n t) ∧ isl (Ty.nl t) none (0) (encL (Ty.l t)) = isl (Ty.nl t) none (0) (encL (Ty.l t)) ∧ 106 = 106 ∧ str [] = str (btwS (Ty.kind t)) ∧ str [] = str (aftS (Ty.kind t)) ∧ 0 = 0 ∧ iC
 (List.length (WSt.acc x ++ writeL (btwS (Ty.kind t)) (List.drop (WSt.i x) (Ty.l t)) (zeroB (WSt.i x))) + List.length (aftS (Ty.kind t))) ≤ 9223372036854775807 ∧ str (WSt.acc x ++ writeL (btwS (Ty.kind t)) (List.drop (WSt.i x) (Ty.l t)) (zeroB (WSt.i x)) ++ aftS (Ty.kind t)) = str r))) (bothR (decide (Ty.kind t = (2 : Int))) (bothR (decide (Ty.kind t = (6 : Int))) ((0 ≤ Ty.n t ∧ Ty.n t < 1000) ∧ iC (1 + List.length (itoaL (Ty.n t))) ≤ 9223372036854775807 ∧ codeIs (loopOf Tryz.prog 72 0) Tryz.prog 72 0 (∃ x, (WSt.i x ≤ List.length (Ty.l t) ∧
 okL (Ty.l t) = true ∧ cnt t ≤ 1000 ∧ List.length (WSt.acc x) + 12 * cntL (List.drop (WSt.i x) (Ty.l t)) ≤ 20000) ∧ ptr (0) (0) = ptr (0) (0) ∧ ptr (1) (0) = ptr (1) (0) ∧ str (40 :: itoaL (Ty.n t)) = str (WSt.acc x) ∧ isl (Ty.nl t) none (0) (encL (Ty.l t)) = isl (Ty.nl t) none (0) (encL (Ty.l t)) ∧ int i64 (iC (List.length (encL (Ty.l t)))) = int i64 (iC (List.length (encL (Ty.l t)))) ∧ int i64 (0) = int i64 (iC (WSt.i x)) ∧ 24 = 24 ∧ int i64 (Ty.kind t) = int i64 (Ty.kind t) ∧
 int i64 (Ty.n t) = int i64 (Ty.n t) ∧ isl (Ty.nl t) none (0) (encL (Ty.l t)) = isl (Ty.nl t) none (0) (encL (Ty.l t)) ∧ 106 = 106 ∧ str [32, 42, 32] = str (btwS (Ty.kind t)) ∧ str [41] = str (aftS (Ty.kind t)) ∧ 0 = 0 ∧ iC (List.length (WSt.acc x ++ writeL (btwS (Ty.kind t)) (List.drop (WSt.i x) (Ty.l t)) (zeroB (WSt.i x))) + List.length (aftS (Ty.kind t))) ≤ 9223372036854775807 ∧ str (WSt.acc x ++ writeL (btwS (Ty.kind t)) (List.drop (WSt.i x) (Ty.l t)) (zeroB (WSt.i x)) ++ aftS (Ty.kind t)) = str r))
 (codeIs (loopOf Tryz.prog 72 0) Tryz.prog 72 0 (∃ x, (WSt.i x ≤ List.length (Ty.l t) ∧ okL (Ty.l t) = true ∧ cnt t ≤ 1000 ∧ List.length (WSt.acc x) + 12 * cntL (List.drop (WSt.i x) (Ty.l t)) ≤ 20000) ∧ ptr (0) (0) = ptr (0) (0) ∧ ptr (1) (0) = ptr (1) (0) ∧ str [40] = str (WSt.acc x) ∧ isl (Ty.nl t) none (0) (encL (Ty.l t)) = isl (Ty.nl t) none (0) (encL (Ty.l t)) ∧ int i64 (iC (List.length (encL (Ty.l t)))) = int i64 (iC (List.length (encL (Ty.l t)))) ∧ int i64 (0) = int i64 (iC (WSt.i x)) ∧ 24 = 24 ∧
 int i64 (Ty.kind t) = int i64 (Ty.kind t) ∧ int i64 (Ty.n t) = int i64 (Ty.n t) ∧ isl (Ty.nl t) none (0) (encL (Ty.l t)) = isl (Ty.nl t) none (0) (encL (Ty.l t)) ∧ 106 = 106 ∧ str [32, 42, 32] = str (btwS (Ty.kind t)) ∧ str [41] = str (aftS (Ty.kind t)) ∧ 0 = 0 ∧ iC (List.length (WSt.acc x ++ writeL (btwS (Ty.kind t)) (List.drop (WSt.i x) (Ty.l t)) (zeroB (WSt.i x))) + List.length (aftS (Ty.kind t))) ≤ 9223372036854775807 ∧
 str (WSt.acc x ++ writeL (btwS (Ty.kind t)) (List.drop (WSt.i x) (Ty.l t)) (zeroB (WSt.i x)) ++ aftS (Ty.kind t)) = str r))) (bothR (decide (Ty.kind t = (3 : Int))) (bothR (decide (Ty.kind t = (6 : Int))) ((0 ≤ Ty.n t ∧ Ty.n t < 1000) ∧ iC (1 + List.length (itoaL (Ty.n t))) ≤ 9223372036854775807 ∧ codeIs (loopOf Tryz.prog 72 0) Tryz.prog 72 0 (∃ x, (WSt.i x ≤ List.length (Ty.l t) ∧ okL (Ty.l t) = true ∧ cnt t ≤ 1000 ∧ List.length (WSt.acc x) + 12 * cntL (List.drop (WSt.i x) (Ty.l t)) ≤ 20000) ∧ ptr (0) (0) = ptr (0) (0) ∧ ptr (1) (0) = ptr (1) (0) ∧
 str (40 :: itoaL (Ty.n t)) = str (WSt.acc x) ∧ isl (Ty.nl t) none (0) (encL (Ty.l t)) = isl (Ty.nl t) none (0) (encL (Ty.l t)) ∧ int i64 (iC (List.length (encL (Ty.l t)))) = int i64 (iC (List.length (encL (Ty.l t)))) ∧ int i64 (0) = int i64 (iC (WSt.i x)) ∧ 24 = 24 ∧ int i64 (Ty.kind t) = int i64 (Ty.kind t) ∧ int i64 (Ty.n t) = int i64 (Ty.n t) ∧ isl (Ty.nl t) none (0) (encL (Ty.l t)) = isl (Ty.nl t) none (0) (encL (Ty.l t)) ∧ 106 = 106 ∧ str [32, 43, 32] = str (btwS (Ty.kind t)) ∧
 str [41] = str (aftS (Ty.kind t)) ∧ 0 = 0 ∧ iC (List.length (WSt.acc x ++ writeL (btwS (Ty.kind t)) (List.drop (WSt.i x) (Ty.l t)) (zeroB (WSt.i x))) + List.length (aftS (Ty.kind t))) ≤ 9223372036854775807 ∧ str (WSt.acc x ++ writeL (btwS (Ty.kind t)) (List.drop (WSt.i x) (Ty.l t)) (zeroB (WSt.i x)) ++ aftS (Ty.kind t)) = str r)) (codeIs (loopOf Tryz.prog 72 0) Tryz.prog 72 0 (∃ x, (WSt.i x ≤ List.length (Ty.l t) ∧ okL (Ty.l t) = true ∧ cnt t ≤ 1000 ∧ List.length (WSt.acc x) + 12 * cntL (List.drop (WSt.i x) (Ty.l t)) ≤ 20000) ∧ ptr (0) (0) = ptr (0) (0) ∧
 ptr (1) (0) = ptr (1) (0) ∧ str [40] = str (WSt.acc x) ∧ isl (Ty.nl t) none (0) (encL (Ty.l t)) = isl (Ty.nl t) none (0) (encL (Ty.l t)) ∧ int i64 (iC (List.length (encL (Ty.l t)))) = int i64 (iC (List.length (encL (Ty.l t)))) ∧ int i64 (0) = int i64 (iC (WSt.i x)) ∧ 24 = 24 ∧ int i64 (Ty.kind t) = int i64 (Ty.kind t) ∧ int i64 (Ty.n t) = int i64 (Ty.n t) ∧ isl (Ty.nl t) none (0) (encL (Ty.l t)) = isl (Ty.nl t) none (0) (encL (Ty.l t)) ∧ 106 = 106 ∧
 str [32, 43, 32] = str (btwS (Ty.kind t)) ∧ str [41] = str (aftS (Ty.kind t)) ∧ 0 = 0 ∧ iC (List.length (WSt.acc x ++ writeL (btwS (Ty.kind t)) (List.drop (WSt.i x) (Ty.l t)) (zeroB (WSt.i x))) + List.length (aftS (Ty.kind t))) ≤ 9223372036854775807 ∧ str (WSt.acc x ++ writeL (btwS (Ty.kind t)) (List.drop (WSt.i x) (Ty.l t)) (zeroB (WSt.i x)) ++ aftS (Ty.kind t)) = str r))) (bothR (decide (Ty.kind t = (4 : Int))) (bothR (decide (Ty.kind t = (6 : Int))) ((0 ≤ Ty.n t ∧ Ty.n t < 1000) ∧ iC (1 + List.length (itoaL (Ty.n t))) ≤ 9223372036854775807 ∧
 codeIs (loopOf Tryz.prog 72 0) Tryz.prog 72 0 (∃ x, (WSt.i x ≤ List.length (Ty.l t) ∧ okL (Ty.l t) = true ∧ cnt t ≤ 1000 ∧ List.length (WSt.acc x) + 12 * cntL (List.drop (WSt.i x) (Ty.l t)) ≤ 20000) ∧ ptr (0) (0) = ptr (0) (0) ∧ ptr (1) (0) = ptr (1) (0) ∧ str (91 :: itoaL (Ty.n t)) = str (WSt.acc x) ∧ isl (Ty.nl t) none (0) (encL (Ty.l t)) = isl (Ty.nl t) none (0) (encL (Ty.l t)) ∧ int i64 (iC (List.length (encL (Ty.l t)))) = int i64 (iC (List.length (encL (Ty.l t)))) ∧ int i64 (0) = int i64 (iC (WSt.i x)) ∧ 24 = 24 ∧
 int i64 (Ty.kind t) = int i64 (Ty.kind t) ∧ int i64 (Ty.n t) = int i64 (Ty.n t) ∧ isl (Ty.nl t) none (0) (encL (Ty.l t)) = isl (Ty.nl t) none (0) (encL (Ty.l t)) ∧ 106 = 106 ∧ str [] = str (btwS (Ty.kind t)) ∧ str [93] = str (aftS (Ty.kind t)) ∧ 0 = 0 ∧ iC (List.length (WSt.acc x ++ writeL (btwS (Ty.kind t)) (List.drop (WSt.i x) (Ty.l t)) (zeroB (WSt.i x))) + List.length (aftS (Ty.kind t))) ≤ 9223372036854775807 ∧ str (WSt.acc x ++ writeL (btwS (Ty.kind t)) (List.drop (WSt.i x) (Ty.l t)) (zeroB (WSt.i x)) ++ aftS (Ty.kind t)) =
 str r)) (codeIs (loopOf Tryz.prog 72 0) Tryz.prog 72 0 (∃ x, (WSt.i x ≤ List.length (Ty.l t) ∧ okL (Ty.l t) = true ∧ cnt t ≤ 1000 ∧ List.length (WSt.acc x) + 12 * cntL (List.drop (WSt.i x) (Ty.l t)) ≤ 20000) ∧ ptr (0) (0) = ptr (0) (0) ∧ ptr (1) (0) = ptr (1) (0) ∧ str [91] = str (WSt.acc x) ∧ isl (Ty.nl t) none (0) (encL (Ty.l t)) = isl (Ty.nl t) none (0) (encL (Ty.l t)) ∧ int i64 (iC (List.length (encL (Ty.l t)))) = int i64 (iC (List.length (encL (Ty.l t)))) ∧ int i64 (0) = int i64 (iC (WSt.i x)) ∧ 24 = 24 ∧
 int i64 (Ty.kind t) = int i64 (Ty.kind t) ∧ int i64 (Ty.n t) = int i64 (Ty.n t) ∧ isl (Ty.nl t) none (0) (encL (Ty.l t)) = isl (Ty.nl t) none (0) (encL (Ty.l t)) ∧ 106 = 106 ∧ str [] = str (btwS (Ty.kind t)) ∧ str [93] = str (aftS (Ty.kind t)) ∧ 0 = 0 ∧ iC (List.length (WSt.acc x ++ writeL (btwS (Ty.kind t)) (List.drop (WSt.i x) (Ty.l t)) (zeroB (WSt.i x))) + List.length (aftS (Ty.kind t))) ≤ 9223372036854775807 ∧
 str (WSt.acc x ++ writeL (btwS (Ty.kind t)) (List.drop (WSt.i x) (Ty.l t)) (zeroB (WSt.i x)) ++ aftS (Ty.kind t)) = str r))) (bothR (decide (Ty.kind t = (5 : Int))) (bothR (decide (Ty.kind t = (6 : Int))) ((0 ≤ Ty.n t ∧ Ty.n t < 1000) ∧ iC (1 + List.length (itoaL (Ty.n t))) ≤ 9223372036854775807 ∧ codeIs (loopOf Tryz.prog 72 0) Tryz.prog 72 0 (∃ x, (WSt.i x ≤ List.length (Ty.l t) ∧ okL (Ty.l t) = true ∧ cnt t ≤ 1000 ∧ List.length (WSt.acc x) + 12 * cntL (List.drop (WSt.i x) (Ty.l t)) ≤ 20000) ∧ ptr (0) (0) = ptr (0) (0) ∧ ptr (1) (0) = ptr (1) (0) ∧
 str (40 :: itoaL (Ty.n t)) = str (WSt.acc x) ∧ isl (Ty.nl t) none (0) (encL (Ty.l t)) = isl (Ty.nl t) none (0) (encL (Ty.l t)) ∧ int i64 (iC (List.length (encL (Ty.l t)))) = int i64 (iC (List.length (encL (Ty.l t)))) ∧ int i64 (0) = int i64 (iC (WSt.i x)) ∧ 24 = 24 ∧ int i64 (Ty.kind t) = int i64 (Ty.kind t) ∧ int i64 (Ty.n t) = int i64 (Ty.n t) ∧ isl (Ty.nl t) none (0) (encL (Ty.l t)) = isl (Ty.nl t) none (0) (encL (Ty.l t)) ∧ 106 = 106 ∧
 str [32, 45, 62, 32] = str (btwS (Ty.kind t)) ∧ str [41] = str (aftS (Ty.kind t)) ∧ 0 = 0 ∧ iC (List.length (WSt.acc x ++ writeL (btwS (Ty.kind t)) (List.drop (WSt.i x) (Ty.l t)) (zeroB (WSt.i x))) + List.length (aftS (Ty.kind t))) ≤ 9223372036854775807 ∧ str (WSt.acc x ++ writeL (btwS (Ty.kind t)) (List.drop (WSt.i x) (Ty.l t)) (zeroB (WSt.i x)) ++ aftS (Ty.kind t)) = str r)) (codeIs (loopOf Tryz.prog 72 0) Tryz.prog 72 0 (∃ x, (WSt.i x ≤ List.length (Ty.l t) ∧ okL (Ty.l t) = true ∧ cnt t ≤ 1000 ∧ List.length (WSt.acc x) + 12 * cntL (List.drop (WSt.i x) (Ty.l t)) ≤ 20000) ∧
 ptr (0) (0) = ptr (0) (0) ∧ ptr (1) (0) = ptr (1) (0) ∧ str [40] = str (WSt.acc x) ∧ isl (Ty.nl t) none (0) (encL (Ty.l t)) = isl (Ty.nl t) none (0) (encL (Ty.l t)) ∧ int i64 (iC (List.length (encL (Ty.l t)))) = int i64 (iC (List.length (encL (Ty.l t)))) ∧ int i64 (0) = int i64 (iC (WSt.i x)) ∧ 24 = 24 ∧ int i64 (Ty.kind t) = int i64 (Ty.kind t) ∧ int i64 (Ty.n t) = int i64 (Ty.n t) ∧ isl (Ty.nl t) none (0) (encL (Ty.l t)) = isl (Ty.nl t) none (0) (encL (Ty.l t)) ∧ 106 = 106 ∧
 str [32, 45, 62, 32] = str (btwS (Ty.kind t)) ∧ str [41] = str (aftS (Ty.kind t)) ∧ 0 = 0 ∧ iC (List.length (WSt.acc x ++ writeL (btwS (Ty.kind t)) (List.drop (WSt.i x) (Ty.l t)) (zeroB (WSt.i x))) + List.length (aftS (Ty.kind t))) ≤ 9223372036854775807 ∧ str (WSt.acc x ++ writeL (btwS (Ty.kind t)) (List.drop (WSt.i x) (Ty.l t)) (zeroB (WSt.i x)) ++ aftS (Ty.kind t)) = str r))) (bothR (decide (Ty.kind t = (6 : Int))) (bothR (decide (Ty.kind t = (6 : Int))) ((0 ≤ Ty.n t ∧ Ty.n t < 1000) ∧ iC (1 + List.length (itoaL (Ty.n t))) ≤ 9223372036854775807 ∧
 codeIs (loopOf Tryz.prog 72 0) Tryz.prog 72 0 (∃ x, (WSt.i x ≤ List.length (Ty.l t) ∧ okL (Ty.l t) = true ∧ cnt t ≤ 1000 ∧ List.length (WSt.acc x) + 12 * cntL (List.drop (WSt.i x) (Ty.l t)) ≤ 20000) ∧ ptr (0) (0) = ptr (0) (0) ∧ ptr (1) (0) = ptr (1) (0) ∧ str (39 :: itoaL (Ty.n t)) = str (WSt.acc x) ∧ isl (Ty.nl t) none (0) (encL (Ty.l t)) = isl (Ty.nl t) none (0) (encL (Ty.l t)) ∧ int i64 (iC (List.length (encL (Ty.l t)))) = int i64 (iC (List.length (encL (Ty.l t)))) ∧ int i64 (0) = int i64 (iC (WSt.i x)) ∧ 24 = 24 ∧
 int i64 (Ty.kind t) = int i64 (Ty.kind t) ∧ int i64 (Ty.n t) = int i64 (Ty.n t) ∧ isl (Ty.nl t) none (0) (encL (Ty.l t)) = isl (Ty.nl t) none (0) (encL (Ty.l t)) ∧ 106 = 106 ∧ str [] = str (btwS (Ty.kind t)) ∧ str [] = str (aftS (Ty.kind t)) ∧ 0 = 0 ∧ iC (List.length (WSt.acc x ++ writeL (btwS (Ty.kind t)) (List.drop (WSt.i x) (Ty.l t)) (zeroB (WSt.i x))) + List.length (aftS (Ty.kind t))) ≤ 9223372036854775807 ∧ str (WSt.acc x ++ writeL (btwS (Ty.kind t)) (List.drop (WSt.i x) (Ty.l t)) (zeroB (WSt.i x)) ++ aftS (Ty.kind t)) =
 str r)) (codeIs (loopOf Tryz.prog 72 0) Tryz.prog 72 0 (∃ x, (WSt.i x ≤ List.length (Ty.l t) ∧ okL (Ty.l t) = true ∧ cnt t ≤ 1000 ∧ List.length (WSt.acc x) + 12 * cntL (List.drop (WSt.i x) (Ty.l t)) ≤ 20000) ∧ ptr (0) (0) = ptr (0) (0) ∧ ptr (1) (0) = ptr (1) (0) ∧ str [39] = str (WSt.acc x) ∧ isl (Ty.nl t) none (0) (encL (Ty.l t)) = isl (Ty.nl t) none (0) (encL (Ty.l t)) ∧ int i64 (iC (List.length (encL (Ty.l t)))) = int i64 (iC (List.length (encL (Ty.l t)))) ∧ int i64 (0) = int i64 (iC (WSt.i x)) ∧ 24 = 24 ∧
 int i64 (Ty.kind t) = int i64 (Ty.kind t) ∧ int i64 (Ty.n t) = int i64 (Ty.n t) ∧ isl (Ty.nl t) none (0) (encL (Ty.l t)) = isl (Ty.nl t) none (0) (encL (Ty.l t)) ∧ 106 = 106 ∧ str [] = str (btwS (Ty.kind t)) ∧ str [] = str (aftS (Ty.kind t)) ∧ 0 = 0 ∧ iC (List.length (WSt.acc x ++ writeL (btwS (Ty.kind t)) (List.drop (WSt.i x) (Ty.l t)) (zeroB (WSt.i x))) + List.length (aftS (Ty.kind t))) ≤ 9223372036854775807 ∧ str (WSt.acc x ++ writeL (btwS (Ty.kind t)) (List.drop (WSt.i x) (Ty.l t)) (zeroB (WSt.i x)) ++ aftS (Ty.kind t)) =
 str r))) False))))))) := by kernel_rfl
end Go.Proofs.YtnmolpkkemljoaaGreatDoor
end
end
section
set_option maxRecDepth 100000
set_option linter.unusedSimpArgs false
noncomputable section
namespace Go.Proofs.YtnmolpkkemljoaaGreatDoor
open Go Go.Am Kd
theorem kindsT_hook : QSpec.Ok Tryz.prog gT 81 kindsQ := kinds_hook.lift
theorem writeL_acc (s : List UInt8) (l : List Ty) (i : Nat) (h : i < l.length) (acc : List UInt8) :
  acc ++ writeL s (l.drop i) (zeroB i) = (acc ++ ((if i = 0 then [] else s) ++ writeS l[i])) ++ writeL s (l.drop (i + 1)) (zeroB (i + 1)) := by
 rw [List.drop_eq_getElem_cons h]
 simp only [writeL, zeroB, decide_eq_true_eq, List.append_assoc]
 simp
theorem wr_hook {N : Nat} (ih : ∀ t, SizeOf.sizeOf t < N → okT t = true → cnt t ≤ 1000 → QT 72 [enc t] (.str (writeS t))) : QSpec.Ok Tryz.prog gT 72 (wrQ N) := by
 intro args K h'
 unfold wrQ at h'
 split at h'
 ·obtain ⟨t, rfl, h1, h2⟩ := argTy_elim h'
  exact ⟨_, ih t h1.1 h1.2.1 h1.2.2, h2⟩
 ·exact h'.elim
theorem okT_kind {k n : Int} {b : Bool} {l : List Ty} (h : okT (.mk k n b l) = true) : k = 0 ∨ k = 1 ∨ k = 2 ∨ k = 3 ∨ k = 4 ∨ k = 5 ∨ k = 6 := by
 obtain ⟨h1, _⟩ := ok_node h
 simp only [NodeOk] at h1
 omega
theorem wr_ok (t : Ty) (h : okT t = true) (hc : cnt t ≤ 1000) : QT 72 [enc t] (.str (writeS t)) := by
 have key : ∀ (N : Nat) (t : Ty), SizeOf.sizeOf t < N → okT t = true → cnt t ≤ 1000 → QT 72 [enc t] (.str (writeS t)) := by
  intro N
  induction N with
  | zero => intro t h; omega
  | succ N ih =>
   intro t ht hok hc
   have hl : LHook.Ok Tryz.prog gT ⟨72, 0, (wrSt t).spec⟩ := by
    refine LSt.byT (hk := wrHk1 N) (wrSt t) (fun x => t.l.length - x.i) (mkHooks_ok (all_cons (wr_hook ih) all_nil) all_nil all_nil) rfl ?_ ?_ ?_
    ·intro x _
     exact Whole.frm rfl rfl (by simp [wrSt, AV.bnd, encL_bnd]) (by simp [wrSt, tyC, wrB, ABlk.bnd, AV.bndL, AV.bnd, encL_bnd])
    ·intro x b' _
     exact Whole.frm rfl rfl (by simp [wrSt, AV.bnd]) (by simp [wrSt, tyC, wrB, ABlk.bnd, AV.bndL, AV.bnd, encL_bnd])
    ·rintro ⟨i, acc⟩ ⟨hi, hl, hcn, hacc⟩
     simp only at hi hacc
     rw [wr_loop]
     simp only [iC, encL_length, eq_self, true_and, and_true]
     refine bothR_dec (fun hlt => ?_) fun hge => ?_
     ·have hi' : i < t.l.length := by omega
      have hx := cntL_mem t.l[i] (List.getElem_mem hi')
      have hw := write_len t.l[i]
      have hd := cntL_drop t.l i hi'
      have hs := sep_len t.kind
      have hsz : SizeOf.sizeOf t.l[i] < N := by
       have h1 := Ty.lt_of_get (k := t.kind) (n := t.n) (b := t.nl) hi'
       rw [Ty.eta] at h1
       omega
      have hct : cnt t = cntL t.l + 1 := by cases t; simp only [cnt, Ty.l, Nat.add_comm]
      have hci : cnt t.l[i] ≤ 1000 := by omega
      have hln := len_cnt t.l
      have hoi := okL_mem hl t.l[i] (List.getElem_mem hi')
      refine ⟨by omega, t.l[i], encL_get t.l i hi', bothR_dec (fun h0 => ⟨?_, t.l[i].l, rfl, ?_⟩) fun h0 => ⟨t.l[i].l, rfl, ?_⟩⟩
      ·omega
      ·rw [Ty.eta, wrap_id (by omega) (by omega)]
       refine ⟨⟨hsz, hoi, hci⟩, by simp only [List.length_append]; omega, ⟨i + 1, acc ++ btwS t.kind ++ writeS t.l[i]⟩, ⟨by simp only; omega, hl, hcn, by simp only [List.length_append]; omega⟩, by simp only; omega, ?_, rfl, rfl⟩
       rw [writeL_acc _ t.l i hi']
       simp [show ¬ i = 0 by omega]
      ·rw [Ty.eta, wrap_id (by omega) (by omega)]
       refine ⟨⟨hsz, hoi, hci⟩, by omega, ⟨i + 1, acc ++ writeS t.l[i]⟩, ⟨by simp only; omega, hl, hcn, by simp only [List.length_append]; omega⟩, by simp only; omega, ?_, rfl, rfl⟩
       rw [writeL_acc _ t.l i hi']
       simp [show i = 0 by omega]
     ·rw [List.drop_of_length_le (by omega)]
      simp only [writeL, List.append_nil]
   have hst : (enc t).still = true := enc_still t
   rw [enc_D]
   refine QT.by (hk := wrHk2 t) (by rw [← enc_D]; simp [AV.stillL, hst]) rfl (mkHooks_ok (all_cons kindsT_hook (all_cons itoa_hook all_nil)) all_nil (all_cons hl all_nil)) ?_
   rw [wr_top]
   obtain ⟨k, n, b, l⟩ := t
   have hk := okT_kind hok
   obtain ⟨hn, hol⟩ := ok_node hok
   have hcn : 12 * cntL l ≤ 12000 := by simp only [cnt] at hc; omega
   have hil := itoaN_len n.toNat
   simp only [NodeOk] at hn
   rcases hk with rfl | rfl | rfl | rfl | rfl | rfl | rfl
   case inr.inr.inr.inr.inr.inr =>
    have hw := write_lens.2 [] l true (by simp)
    simp [Ty.kind, Ty.n, Ty.l, Ty.nl, bothR, codeIs_self, btwS, aftS, iC]
    have hil' : (itoaL n).length ≤ 3 := hil
    refine ⟨hn.2.2.2.2.2 rfl, by omega, ⟨0, 39 :: itoaL n⟩, ⟨by simp, hol, hc, ?_⟩, rfl, rfl, ?_, ?_⟩
    ·simp only [List.drop_zero, List.length_cons]; omega
    ·simp only [List.drop_zero, List.length_cons, zeroB, decide_true]; omega
    ·simp [writeS, befS, btwS, aftS, zeroB]
   all_goals simp [Ty.kind, Ty.n, Ty.l, Ty.nl, bothR, codeIs_self, btwS, aftS, iC]
   all_goals refine ⟨⟨0, _⟩, ⟨by simp, hol, hc, ?_⟩, rfl, rfl, ?_, ?_⟩
   all_goals first
    | (simp only [List.drop_zero, List.length_cons, List.length_nil]; omega)
    | (simp [writeS, befS, btwS, aftS, zeroB]; done)
    | skip
   all_goals simp only [List.drop_zero, List.length_cons, List.length_nil, zeroB, decide_true]
   all_goals first
    | (have hw := write_lens.2 [] l true (by simp); omega)
    | (have hw := write_lens.2 [32, 42, 32] l true (by simp); omega)
    | (have hw := write_lens.2 [32, 43, 32] l true (by simp); omega)
    | (have hw := write_lens.2 [32, 45, 62, 32] l true (by simp); omega)
 exact key _ t (Nat.lt_succ_self _) h hc
theorem wr_hook0 : QSpec.Ok Tryz.prog gT 72 wrQ0 := by
 intro args K h'
 unfold wrQ0 at h'
 split at h'
 ·obtain ⟨t, rfl, h1, h2⟩ := argTy_elim h'
  exact ⟨_, wr_ok t h1.1 h1.2, h2⟩
 ·exact h'.elim
end Go.Proofs.YtnmolpkkemljoaaGreatDoor
end
end
section
namespace Kd
open Go.Am Go.Proofs.YtnmolpkkemljoaaGreatDoor
end Kd
noncomputable section
namespace Go.Proofs.YtnmolpkkemljoaaGreatDoor
open Go Go.Am Kd
def stopC (e : Int) : AChain := [(.iface 117 (.agg [.int .i64 e]), false)]
end Go.Proofs.YtnmolpkkemljoaaGreatDoor
end
end
section
set_option maxRecDepth 100000
set_option linter.unusedSimpArgs false
set_option linter.unusedVariables false
noncomputable section
namespace Go.Proofs.YtnmolpkkemljoaaGreatDoor
open Go Go.Am Kd
theorem stop_bnd (n nf : Nat) (e : Int) : AEnd.bnd n nf (.panicked (stopC e)) = true := rfl
end Go.Proofs.YtnmolpkkemljoaaGreatDoor
end
end
section
namespace Kd
open Go.Am
def eqL (l m : List Ty) : Bool := decide (l.length = m.length) && sameL l m
end Kd
noncomputable section
namespace Go.Proofs.YtnmolpkkemljoaaGreatDoor
open Go Go.Am Kd
def efQ (N : Nat) : QSpec
 | [.isl _ none 0 xs, .isl _ none 0 ys, .fn (.func 67) [] []], K => ∃ l, xs = encL l ∧ ∃ m, ys = encL m ∧ (SizeOf.sizeOf l < N ∧ okL l = true ∧ okL m = true ∧ l.length ≤ 2 ∧ m.length ≤ 2) ∧ K (.bool (eqL l m))
 | _, _ => False
def eqQ (N : Nat) : QSpec
 | [x, y], K => argTy x fun t => argTy y fun u => (SizeOf.sizeOf t < N ∧ okT t = true ∧ okT u = true) ∧ K (.bool (sameB t u))
 | _, _ => False
def eqQ0 : QSpec
 | [x, y], K => argTy x fun t => argTy y fun u => (okT t = true ∧ okT u = true) ∧ K (.bool (sameB t u))
 | _, _ => False
def eqHk (N : Nat) : Hooks := mkHooks Tryz.prog [(102, efQ N)] [] []
def efHk (N : Nat) : Hooks := mkHooks Tryz.prog [(67, eqQ N)] [] []
def f67 : AV := .fn (.func 67) [] []
end Go.Proofs.YtnmolpkkemljoaaGreatDoor
end
end
section
noncomputable section
namespace Go.Proofs.YtnmolpkkemljoaaGreatDoor
open Go Go.Am Kd Go.Am.AV Go.IntKind
set_option maxRecDepth 100000
theorem eq_top (a b : Ty) (N : Nat) (r : Bool) : (runF (eqHk N) 60 67 [encD a, encD b] AH.nil (retIs Tryz.prog 5 (.bool r))) = ( bothR (decide (Ty.kind a = Ty.kind b)) (bothR (!decide (Ty.kind a = (6 : Int))) (∃ l, encL (Ty.l a) = encL l ∧ ∃ m, encL (Ty.l b) = encL m ∧ (SizeOf.sizeOf l < N ∧ okL l = true ∧ okL m = true ∧ List.length l ≤ 2 ∧ List.length m ≤ 2) ∧ bool (eqL l m) = bool r) (bothR (decide (Ty.n a = Ty.n b)) (∃ l, encL (Ty.l a) = encL l ∧ ∃ m, encL (Ty.l b) = encL m ∧
 (SizeOf.sizeOf l < N ∧ okL l = true ∧ okL m = true ∧ List.length l ≤ 2 ∧ List.length m ≤ 2) ∧ bool (eqL l m) = bool r) (bool false = bool r))) (bool false = bool r)) := by kernel_rfl
theorem ef_00 (b c : Bool) (N : Nat) (r : Bool) : (runF (efHk N) 60 102 [.isl b none 0 [], .isl c none 0 [], f67] AH.nil (retIs Tryz.prog 5 (.bool r))) = ( bool true = bool r) := by kernel_rfl
theorem ef_01 (b c : Bool) (u : Ty) (N : Nat) (r : Bool) : (runF (efHk N) 60 102 [.isl b none 0 [], .isl c none 0 [encD u], f67] AH.nil (retIs Tryz.prog 5 (.bool r))) = ( bool false = bool r) := by kernel_rfl
theorem ef_02 (b c : Bool) (u v : Ty) (N : Nat) (r : Bool) : (runF (efHk N) 60 102 [.isl b none 0 [], .isl c none 0 [encD u, encD v], f67] AH.nil (retIs Tryz.prog 5 (.bool r))) = ( bool false = bool r) := by kernel_rfl
theorem ef_10 (b c : Bool) (x : Ty) (N : Nat) (r : Bool) : (runF (efHk N) 60 102 [.isl b none 0 [encD x], .isl c none 0 [], f67] AH.nil (retIs Tryz.prog 5 (.bool r))) = ( bool false = bool r) := by kernel_rfl
theorem ef_11 (b c : Bool) (x u : Ty) (N : Nat) (r : Bool) : (runF (efHk N) 60 102 [.isl b none 0 [encD x], .isl c none 0 [encD u], f67] AH.nil (retIs Tryz.prog 5 (.bool r))) = ( Int.NonNeg (0) ∧ ∃ x_1, some (agg [int i64 (Ty.kind x), int i64 (Ty.n x), isl (Ty.nl x) none (0) (encL (Ty.l x))]) = some (agg [int i64 (Ty.kind x_1), int i64 (Ty.n x_1), isl (Ty.nl x_1) none (0) (encL (Ty.l x_1))]) ∧ Int.NonNeg (0) ∧ ∃ x, some (agg [int i64 (Ty.kind u), int i64 (Ty.n u), isl (Ty.nl u) none (0) (encL (Ty.l u))]) =
 some (agg [int i64 (Ty.kind x), int i64 (Ty.n x), isl (Ty.nl x) none (0) (encL (Ty.l x))]) ∧ ∃ l, encL (Ty.l x_1) = encL l ∧ ∃ l_1, encL (Ty.l x) = encL l_1 ∧ (SizeOf.sizeOf (Ty.mk (Ty.kind x_1) (Ty.n x_1) (Ty.nl x_1) l) < N ∧ okT (Ty.mk (Ty.kind x_1) (Ty.n x_1) (Ty.nl x_1) l) = true ∧ okT (Ty.mk (Ty.kind x) (Ty.n x) (Ty.nl x) l_1) = true) ∧ bothR (!sameB (Ty.mk (Ty.kind x_1) (Ty.n x_1) (Ty.nl x_1) l) (Ty.mk (Ty.kind x) (Ty.n x) (Ty.nl x) l_1)) (bool false = bool r) (bool true = bool r)) := by kernel_rfl
theorem ef_12 (b c : Bool) (x u v : Ty) (N : Nat) (r : Bool) : (runF (efHk N) 60 102 [.isl b none 0 [encD x], .isl c none 0 [encD u, encD v], f67] AH.nil (retIs Tryz.prog 5 (.bool r))) = ( bool false = bool r) := by kernel_rfl
theorem ef_20 (b c : Bool) (x y : Ty) (N : Nat) (r : Bool) : (runF (efHk N) 60 102 [.isl b none 0 [encD x, encD y], .isl c none 0 [], f67] AH.nil (retIs Tryz.prog 5 (.bool r))) = ( bool false = bool r) := by kernel_rfl
theorem ef_21 (b c : Bool) (x y u : Ty) (N : Nat) (r : Bool) : (runF (efHk N) 60 102 [.isl b none 0 [encD x, encD y], .isl c none 0 [encD u], f67] AH.nil (retIs Tryz.prog 5 (.bool r))) = ( bool false = bool r) := by kernel_rfl
theorem ef_22 (b c : Bool) (x y u v : Ty) (N : Nat) (r : Bool) : (runF (efHk N) 60 102 [.isl b none 0 [encD x, encD y], .isl c none 0 [encD u, encD v], f67] AH.nil (retIs Tryz.prog 5 (.bool r))) = ( Int.NonNeg (0) ∧ ∃ x_1, some (agg [int i64 (Ty.kind x), int i64 (Ty.n x), isl (Ty.nl x) none (0) (encL (Ty.l x))]) = some (agg [int i64 (Ty.kind x_1), int i64 (Ty.n x_1), isl (Ty.nl x_1) none (0) (encL (Ty.l x_1))]) ∧ Int.NonNeg (0) ∧ ∃ x,
 some (agg [int i64 (Ty.kind u), int i64 (Ty.n u), isl (Ty.nl u) none (0) (encL (Ty.l u))]) = some (agg [int i64 (Ty.kind x), int i64 (Ty.n x), isl (Ty.nl x) none (0) (encL (Ty.l x))]) ∧ ∃ l, encL (Ty.l x_1) = encL l ∧ ∃ l_1, encL (Ty.l x) = encL l_1 ∧ (SizeOf.sizeOf (Ty.mk (Ty.kind x_1) (Ty.n x_1) (Ty.nl x_1) l) < N ∧ okT (Ty.mk (Ty.kind x_1) (Ty.n x_1) (Ty.nl x_1) l) = true ∧ okT (Ty.mk (Ty.kind x) (Ty.n x) (Ty.nl x) l_1) = true) ∧
 bothR (!sameB (Ty.mk (Ty.kind x_1) (Ty.n x_1) (Ty.nl x_1) l) (Ty.mk (Ty.kind x) (Ty.n x) (Ty.nl x) l_1)) (bool false = bool r) (Int.NonNeg (1) ∧ ∃ x, some (agg [int i64 (Ty.kind y), int i64 (Ty.n y), isl (Ty.nl y) none (0) (encL (Ty.l y))]) = some (agg [int i64 (Ty.kind x), int i64 (Ty.n x), isl (Ty.nl x) none (0) (encL (Ty.l x))]) ∧ Int.NonNeg (1) ∧ ∃ x_2, some (agg [int i64 (Ty.kind v), int i64 (Ty.n v), isl (Ty.nl v) none (0) (encL (Ty.l v))]) =
 some (agg [int i64 (Ty.kind x_2), int i64 (Ty.n x_2), isl (Ty.nl x_2) none (0) (encL (Ty.l x_2))]) ∧ ∃ l, encL (Ty.l x) = encL l ∧ ∃ l_2, encL (Ty.l x_2) = encL l_2 ∧ (SizeOf.sizeOf (Ty.mk (Ty.kind x) (Ty.n x) (Ty.nl x) l) < N ∧ okT (Ty.mk (Ty.kind x) (Ty.n x) (Ty.nl x) l) = true ∧ okT (Ty.mk (Ty.kind x_2) (Ty.n x_2) (Ty.nl x_2) l_2) = true) ∧ bothR (!sameB (Ty.mk (Ty.kind x) (Ty.n x) (Ty.nl x) l) (Ty.mk (Ty.kind x_2) (Ty.n x_2) (Ty.nl x_2) l_2)) (bool false = bool r) (bool true = bool r))) := by kernel_rfl
end Go.Proofs.YtnmolpkkemljoaaGreatDoor
end
end
section
set_option maxRecDepth 100000
set_option linter.unusedSimpArgs false
set_option linter.unusedVariables false
noncomputable section
namespace Go.Proofs.YtnmolpkkemljoaaGreatDoor
open Go Go.Am Kd
theorem ef_hook {N : Nat} (ih : ∀ (b c : Bool) (l m : List Ty), SizeOf.sizeOf l < N → okL l = true → okL m = true → l.length ≤ 2 → m.length ≤ 2 → QJ 102 [.isl b none 0 (encL l), .isl c none 0 (encL m), f67] (.bool (eqL l m))) : QSpec.Ok Tryz.prog g0 102 (efQ N) := by
 intro args K h'
 unfold efQ at h'
 split at h'
 ·obtain ⟨l, rfl, m, rfl, ⟨h1, h2, h3, h4, h5⟩, hK⟩ := h'
  exact ⟨_, ih _ _ l m h1 h2 h3 h4 h5, hK⟩
 ·exact h'.elim
theorem eq_hook {N : Nat} (ih : ∀ (t u : Ty), SizeOf.sizeOf t < N → okT t = true → okT u = true → QJ 67 [enc t, enc u] (.bool (sameB t u))) : QSpec.Ok Tryz.prog g0 67 (eqQ N) := by
 intro args K h'
 unfold eqQ at h'
 split at h'
 ·obtain ⟨t, rfl, h2⟩ := argTy_elim h'
  obtain ⟨u, rfl, h3, h4⟩ := argTy_elim h2
  exact ⟨_, ih t u h3.1 h3.2.1 h3.2.2, h4⟩
 ·exact h'.elim
theorem eqf_ok {N : Nat} (ih : ∀ (t u : Ty), SizeOf.sizeOf t < N → okT t = true → okT u = true → QJ 67 [enc t, enc u] (.bool (sameB t u))) (b c : Bool) (l m : List Ty) (hN : SizeOf.sizeOf l ≤ N) (hl : okL l = true) (hm : okL m = true) (h1 : l.length ≤ 2) (h2 : m.length ≤ 2) :
  QJ 102 [.isl b none 0 (encL l), .isl c none 0 (encL m), f67] (.bool (eqL l m)) := by
 have hh : Hooks.Ok Tryz.prog g0 (efHk N) := mkHooks_ok (all_cons (eq_hook ih) all_nil) all_nil all_nil
 refine QuietJ.ret (P := Tryz.prog) (G := g0) (f := 102) 5 (by simp [AV.stillL, AV.still, encL_still, f67]) rfl (FuncJ.run (el := els) (mu := mu0) (hk := efHk N) hmix hh (n := 60) ?_)
 have e0 : encL [] = [] := by simp only [encL]
 have e1 : ∀ x, encL [x] = [encD x] := fun x => by simp only [encL, enc_D]
 have e2 : ∀ x y, encL [x, y] = [encD x, encD y] := fun x y => by simp only [encL, enc_D]
 match l, m, h1, h2, hl, hm, hN with
 | [], [], _, _, _, _, _ => simp only [e0, e1, e2]; exact Eq.mpr (ef_00 b c N _) rfl
 | [], [u], _, _, _, _, _ => simp only [e0, e1, e2]; exact Eq.mpr (ef_01 b c u N _) rfl
 | [], [u, v], _, _, _, _, _ => simp only [e0, e1, e2]; exact Eq.mpr (ef_02 b c u v N _) rfl
 | [x], [], _, _, _, _, _ => simp only [e0, e1, e2]; exact Eq.mpr (ef_10 b c x N _) rfl
 | [x, y], [], _, _, _, _, _ => simp only [e0, e1, e2]; exact Eq.mpr (ef_20 b c x y N _) rfl
 | [x], [u, v], _, _, _, _, _ => simp only [e0, e1, e2]; exact Eq.mpr (ef_12 b c x u v N _) rfl
 | [x, y], [u], _, _, _, _, _ => simp only [e0, e1, e2]; exact Eq.mpr (ef_21 b c x y u N _) rfl
 | [x], [u], _, _, hl, hm, hN =>
  rw [e1, e1]
  simp only [okL, Bool.and_true] at hl hm
  simp only [List.cons.sizeOf_spec] at hN
  show runF (efHk N) 60 102 [.isl b none 0 [encD x], .isl c none 0 [encD u], f67] AH.nil _
  rw [ef_11]
  refine ⟨nn 0, x, rfl, nn 0, u, rfl, x.l, rfl, u.l, rfl, ?_⟩
  rw [Ty.eta, Ty.eta]
  refine ⟨⟨by omega, hl, hm⟩, bothR_nbool (fun h => ?_) fun h => ?_⟩
  ·simp [eqL, sameL, h]
  ·simp [eqL, sameL, h]
 | [x, y], [u, v], _, _, hl, hm, hN =>
  rw [e2, e2]
  simp only [okL, Bool.and_true, Bool.and_eq_true] at hl hm
  simp only [List.cons.sizeOf_spec] at hN
  show runF (efHk N) 60 102 [.isl b none 0 [encD x, encD y], .isl c none 0 [encD u, encD v], f67] AH.nil _
  rw [ef_22]
  refine ⟨nn 0, x, rfl, nn 0, u, rfl, x.l, rfl, u.l, rfl, ?_⟩
  rw [Ty.eta, Ty.eta]
  refine ⟨⟨by omega, hl.1, hm.1⟩, bothR_nbool (fun h => ?_) fun h => ⟨nn 1, y, rfl, nn 1, v, rfl, y.l, rfl, v.l, rfl, ?_⟩⟩
  ·simp [eqL, sameL, h]
  rw [Ty.eta, Ty.eta]
  refine ⟨⟨by omega, hl.2, hm.2⟩, bothR_nbool (fun h' => ?_) fun h' => ?_⟩
  ·simp [eqL, sameL, h, h']
  ·simp [eqL, sameL, h, h']
theorem equal_ok : ∀ (t u : Ty), okT t = true → okT u = true → QJ 67 [enc t, enc u] (.bool (sameB t u)) := by
 have key : ∀ (N : Nat) (t u : Ty), SizeOf.sizeOf t < N → okT t = true → okT u = true → QJ 67 [enc t, enc u] (.bool (sameB t u)) := by
  intro N
  induction N with
  | zero => intro t u h; omega
  | succ N ih =>
   intro t u ht hot hou
   have hh : Hooks.Ok Tryz.prog g0 (eqHk N) := mkHooks_ok (all_cons (ef_hook fun b c l m h1 h2 h3 h4 h5 => eqf_ok ih b c l m (by omega) h2 h3 h4 h5) all_nil) all_nil all_nil
   refine QuietJ.ret (P := Tryz.prog) (G := g0) (f := 67) 5 (by simp [AV.stillL, enc_still]) rfl (FuncJ.run (el := els) (mu := mu0) (hk := eqHk N) hmix hh (n := 60) ?_)
   rw [enc_D, enc_D]
   show runF (eqHk N) 60 67 [encD t, encD u] AH.nil _
   rw [eq_top]
   obtain ⟨k, n, b, l⟩ := t
   obtain ⟨k', n', b', l'⟩ := u
   obtain ⟨l1, l2⟩ := okL_of hot
   obtain ⟨m1, m2⟩ := okL_of hou
   simp only [Ty.mk.sizeOf_spec] at ht
   simp only [tk_mk, tn_mk, tb_mk, tl_mk, ex_enc, sameB]
   have hc : (SizeOf.sizeOf l < N ∧ okL l = true ∧ okL l' = true ∧ l.length ≤ 2 ∧ l'.length ≤ 2) := ⟨by omega, l2, m2, l1, m1⟩
   refine bothR_dec (fun hk => bothR_ndec (fun h6 => ⟨hc, ?_⟩) fun h6 => bothR_dec (fun hn => ⟨hc, ?_⟩) fun hn => ?_) fun hk => ?_
   ·simp [hk, h6, eqL, show ¬ k' = 6 from hk ▸ h6]
   ·simp [hk, hn, eqL]
   ·subst h6; subst hk; simp [hn]
   ·simp [hk]
 exact fun t => fun u => key (SizeOf.sizeOf t + 1) t u (by omega)
theorem eq_hook0 : QSpec.Ok Tryz.prog g0 67 eqQ0 := by
 intro args K h'
 unfold eqQ0 at h'
 split at h'
 ·obtain ⟨t, rfl, h2⟩ := argTy_elim h'
  obtain ⟨u, rfl, h3, h4⟩ := argTy_elim h2
  exact ⟨_, equal_ok t u h3.1 h3.2, h4⟩
 ·exact h'.elim
end Go.Proofs.YtnmolpkkemljoaaGreatDoor
end
end
section
namespace Go.Proofs.YtnmolpkkemljoaaGreatDoor
open Go Go.RowKit Go.Sort
structure Ent where
 n : Int
 k : Int
 m : Int
 sp : Option Addr
 sl : Nat
 sc : Nat
 born : Nat
 h0 : 0 ≤ n
 h1 : n < 1000
instance : Inhabited Ent := ⟨⟨0, 0, 0, none, 0, 0, 0, by decide, by decide⟩⟩
def Ent.cells (x : Ent) : List Value := [.int .i64 x.n, .int .i64 x.k, .int .i64 x.m, (.slice x.sp x.sl x.sc)]
def Ent.entry (x : Ent) : MapEntry := ⟨.int .i64 x.n, .agg #[.int .i64 x.k, .int .i64 x.m, (.slice x.sp x.sl x.sc)], x.born⟩
def Ent.cmp (x y : Ent) : Int := x.n - y.n
theorem Ent.lt (x y : Ent) : ltOf Ent.cmp x y = decide (x.n < y.n) := by
 unfold ltOf Ent.cmp
 by_cases h : x.n < y.n
 ·simp [h]; omega
 ·simp [h]; omega
theorem Ent.swo : SWO (ltOf Ent.cmp) where
 irrefl x := by rw [Ent.lt]; simp
 trans x y z h1 h2 := by rw [Ent.lt] at *; simp at *; omega
 ntrans x y z h1 h2 := by rw [Ent.lt] at *; simp at *; omega
set_option maxRecDepth 100000 in
set_option maxHeartbeats 1000000 in
theorem cmp97 (x y : Ent) (W : World) : Calls Tryz.prog 97 #[.agg x.cells.toArray, .agg y.cells.toArray] W fun e w' => e = .returned (.int .i64 (Ent.cmp x y)) ∧ ∃ q os', w' = grow (W.drewN q) os' := by
 have hw : IntKind.i64.wrap (x.n - y.n) = x.n - y.n := by
  have a1 := x.h0; have a2 := x.h1; have a3 := y.h0; have a4 := y.h1
  exact wrap_id (by omega) (by omega)
 obtain ⟨xn, xk, xm, xp, xl, xc, xb, x0, x1⟩ := x
 obtain ⟨yn, yk, ym, yp, yl, yc, yb, y0, y1⟩ := y
 simp only [Ent.cells, Ent.cmp] at *
 go_enter Tryz.func97, Tryz.ntmps97
 go_wp2
 go_ret
 exact ⟨rfl, 0, _, by rw [alloc_eq_grow, alloc_eq_grow, grow_grow]; rfl⟩
section
variable {P : Program} (w : World) {ops : Array Oper} {rest : List Oper} {o : Oper} {a : Act} {Q : Exit → Act → World → Prop}
theorem wpList_range_raw (hg : o.guard = none) (m : Operand) (t : TypeId) (hop : o.op = Op.range t m) (k e : TypeId) (ht : P.underlying t = some (.map k e)) (b : Nat) (es : Array MapEntry) (clock : Nat)
  (hm : a.eval m = .map (some b)) (hb : w.heap[b]? = some (.map es clock))
  (hK : wpList P ops Q rest (a.put o.dst (.pointer (some ⟨w.heap.size, 0, none⟩))) (w.alloc (.mapIter (some b) clock #[] clock))) :
  wpList P ops Q (o :: rest) a w := by
 refine wpList_plain hg fun K' hK' => ?_
 have hrun := run_range_map (P := P) w t k e b es clock ht hb
 unfold Oper.wp
 simp [execOp, hop, hm, hrun, Result.andThen]
 exact hK' _ _ hK
theorem wpList_next_raw (hg : o.guard = none) (it : Operand) (hop : o.op = Op.next it false) (b r since c0 : Nat) (seen : Array Nat) (l : List Ent) (clock : Nat)
  (hit : a.eval it = .pointer (some ⟨r, 0, none⟩)) (hr : w.heap[r]? = some (.mapIter (some b) since seen c0)) (hb : w.heap[b]? = some (.map (l.map Ent.entry).toArray clock))
  (hold : ∀ x ∈ l, x.born < since) (hsc : since ≤ c0) (hnd : (l.map (·.born)).Nodup)
  (hDone : (∀ x ∈ l, seen.contains x.born = true) → wpList P ops Q rest (a.put o.dst (.tuple #[.bool false])) w)
  (hMore : ∀ (x : Ent) (w' : World), x ∈ l → seen.contains x.born = false → w.grownBy w' (some r) → w'.heap.size = w.heap.size → w'.heap[r]? = some (.mapIter (some b) since (seen.push x.born) clock) → w'.heap[b]? = some (.map (l.map Ent.entry).toArray clock) →
   w'.rangeLeft b r < w.rangeLeft b r →
   (Instr.entry (.pointer (some ⟨r, 0, none⟩))).run P w' = .ok (.tuple #[.int .i64 x.n, .agg #[.int .i64 x.k, .int .i64 x.m, (.slice x.sp x.sl x.sc)]]) w' → wpList P ops Q rest (a.put o.dst (.tuple #[.bool true, .int .i64 x.n, .agg #[.int .i64 x.k, .int .i64 x.m, (.slice x.sp x.sl x.sc)]])) w') :
  wpList P ops Q (o :: rest) a w := by
 refine wpList_plain hg fun K' hK' => ?_
 have hne : r ≠ b := by
  intro e
  rw [e, hb] at hr
  cases hr
 unfold Oper.wp
 rcases run_next_at (P := P) w o.type r b since c0 seen _ clock hr hb (by simpa [Ent.entry] using hold) hsc with ⟨h0, hrun⟩ | ⟨e, he, w1, hal, hrun⟩
 ·simp [execOp, hop, hit, hrun, Result.andThen]
  refine hK' _ _ (hDone fun x hx => ?_)
  exact all_seen _ seen h0 (Ent.entry x) (by simpa using ⟨x, hx, rfl⟩)
 ·obtain ⟨hem, hes⟩ := mem_left he
  obtain ⟨x, hx, rfl⟩ : ∃ x ∈ l, Ent.entry x = e := by simpa using hem
  simp [execOp, hop, hit, hrun, Result.andThen]
  have hr1 : w1.heap[r]? = some (.mapIter (some b) since seen c0) := by rcases hal with rfl | rfl <;> exact hr
  have hb1 : w1.heap[b]? = some (.map (l.map Ent.entry).toArray clock) := by rcases hal with rfl | rfl <;> exact hb
  have hset := Go.MapKept.heap_set (o' := .mapIter (some b) since (seen.push (Ent.entry x).born) clock) hr1
  have hb' := (hset.2 b (fun e1 => hne e1.symm)).trans hb1
  refine hK' _ _ (hMore x _ hx hes ?_ ?_ hset.1 hb' ?_ ?_)
  ·rcases hal with rfl | rfl <;> exact ⟨rfl, rfl, rfl, by simp [ChangeMaps.setBlock], fun i _ hi => hset.2 i (fun e1 => hi (by rw [e1]))⟩
  ·rcases hal with rfl | rfl <;> simp [ChangeMaps.setBlock]
  ·have q1 : (ChangeMaps.setBlock w1 r (.mapIter (some b) since (seen.push (Ent.entry x).born) clock)).heap[r]? = _ := hset.1
   have q2 : (ChangeMaps.setBlock w1 r (.mapIter (some b) since (seen.push (Ent.entry x).born) clock)).heap[b]? = _ := hb'
   simp only [World.rangeLeft, q1, q2, hb, hr]
   exact left_shrinks _ seen _ he
  ·exact run_entry_at _ r b since seen _ clock _ hset.1 hb' hem (by simpa [Function.comp_def, Ent.entry] using hnd)
end
end Go.Proofs.YtnmolpkkemljoaaGreatDoor
end
section
set_option linter.unusedSimpArgs false
set_option linter.unusedVariables false
namespace Go.Proofs.YtnmolpkkemljoaaGreatDoor
open Go Go.RowKit Go.Sort
def Listed (B : Nat) (l : List Ent) (v : Value) (w' : World) : Prop :=
 (l = [] ∧ v = .slice none 0 0) ∨ ∃ (g cap : Nat) (cur : Array Value) (d : List Ent), l ≠ [] ∧ v = .slice (some ⟨g, 0, none⟩) l.length cap ∧ B ≤ g ∧ w'.heap[g]? = some (.cells cur 58 (0, 0)) ∧ l.length ≤ cap ∧ d.Perm l ∧ d.Pairwise (fun x y => x.n ≤ y.n) ∧ (∀ (j : Nat) (u : Value), (d.flatMap Ent.cells)[j]? = some u → cur[j]? = some u)
theorem info58 : (Tryz.prog.info? 58).map (fun i => (i.zero, i.size, i.bytes)) = some (some (.agg #[.int .i64 0, .int .i64 0, .int .i64 0, .slice none 0 0]), 4, 48) := by kernel_rfl
theorem cells_len (x : Ent) : x.cells.length = 4 := rfl
theorem cells_one (x : Ent) : ∀ v ∈ x.cells, v.oneCell' = true := by
 intro v hv
 simp only [Ent.cells, List.mem_cons, List.not_mem_nil, or_false] at hv
 rcases hv with rfl | rfl | rfl | rfl
 ·rfl
 ·rfl
 ·rfl
 ·rfl
theorem flat_len (l : List Ent) : (l.flatMap Ent.cells).length = l.length * 4 := by
 induction l with
 | nil => rfl
 | cons x l ih => simp only [List.flatMap_cons, List.length_append, cells_len, ih, List.length_cons]; omega
def SortSays : Prop := ∀ (g cap : Nat) (ds : List Ent) (cur : Array Value) (w : World), w.heap[g]? = some (.cells cur 58 (0, 0)) → cur.size = cap * 4 → ds.length ≤ cap → cur.toList.take (ds.length * 4) = ds.flatMap Ent.cells → ds.length ≤ 1000 →
 Calls Tryz.prog 96 #[.slice (some ⟨g, 0, none⟩) ds.length cap, .func (.func 97) #[] #[]] w fun e w' => e = .returned (.tuple #[]) ∧ w.grownBy w' (some g) ∧ ∃ (d : List Ent) (cur' : Array Value), w'.heap[g]? = some (.cells cur' 58 (0, 0)) ∧ d.Perm ds ∧ d.Pairwise (fun x y => x.n ≤ y.n) ∧ (∀ (j : Nat) (u : Value), (d.flatMap Ent.cells)[j]? = some u → cur'[j]? = some u)
def SortNone : Prop := ∀ w : World, Calls Tryz.prog 96 #[.slice none 0 0, .func (.func 97) #[] #[]] w fun e w' => e = .returned (.tuple #[]) ∧ w' = w
theorem cell_four_new (w : World) (x1 x2 x3 x4 : Value) (t : TypeId) : ∀ j u, [x1, x2, x3, x4][j]? = some u → (w.alloc (.cells #[x1, x2, x3, x4] t)).cell? ((⟨w.heap.size, 0, none⟩ : Addr).add j) = some u := by
 intro j u hj
 match j, hj with
 | 0, hj => simp at hj; simp [Addr.add, hj]
 | 1, hj => simp at hj; simp [Addr.add, hj]
 | 2, hj => simp at hj; simp [Addr.add, hj]
 | 3, hj => simp at hj; simp [Addr.add, hj]
theorem rest_nil {ds rest l : List Ent} (hp : (ds ++ rest).Perm l) (hnd : (l.map (·.born)).Nodup) (hall : ∀ x ∈ l, ∃ a, a ∈ ds ∧ a.born = x.born) : rest = [] := by
 cases rest with
 | nil => rfl
 | cons y r =>
  obtain ⟨a, ha, he⟩ := hall y (hp.mem_iff.1 (by simp))
  have h1 := (hp.map (·.born)).nodup_iff.2 hnd
  rw [List.map_append, List.nodup_append] at h1
  exact absurd he (h1.2.2 _ (List.mem_map.2 ⟨a, ha, rfl⟩) _ (by simp))
theorem stopHere {p : Prop} (h : p ∧ True) : p := h.1
set_option maxHeartbeats 4000000 in
set_option maxRecDepth 100000 in
theorem list_run (hsort : SortSays) (hnone : SortNone) (w : World) (b : Nat) (l : List Ent) (clock : Nat) (hb : w.heap[b]? = some (.map (l.map Ent.entry).toArray clock)) (hold : ∀ x ∈ l, x.born < clock) (hnd : (l.map (·.born)).Nodup) (hl : l.length ≤ 1000) :
  Calls Tryz.prog 59 #[.map (some b)] w fun e w' => Below w.heap.size w w' ∧ ∃ v, e = .returned v ∧ Listed w.heap.size l v w' := by
 obtain ⟨i0, hi, hz0, hz1, hz2⟩ := info_parts info58
 have hbl : b < w.heap.size := (Array.getElem?_eq_some_iff.1 hb).1
 go_enter Tryz.func59, Tryz.ntmps59
 go_wp2_with (first
  | (at_range; refine wpList_range_raw _ rfl _ 74 rfl 3 24 (by kernel_rfl) b _ clock rfl hb ?_)
  | go_in)
 go_frame
 go_loopw [2] (fun v wr => ∃ (ds rest : List Ent) (c0 : Nat), (ds ++ rest).Perm l ∧ wr.heap[w.heap.size]? = some (.mapIter (some b) clock (ds.map (·.born)).toArray c0) ∧ clock ≤ c0 ∧ wr.heap[b]? = some (.map (l.map Ent.entry).toArray clock) ∧
   wr.ownsRow (w.heap.size + 1) 58 4 v ds.length (ds.flatMap Ent.cells) ∧ Below w.heap.size w wr ∧ (ds = [] → v = .slice none 0 0))
  (fun _ wr => wr.rangeLeft b w.heap.size)
 case atStart =>
  exact ⟨[], l, clock, .refl _, heap_alloc_new _ _, Nat.le_refl _, by rw [Below.heap_alloc _ _ _ hbl]; exact hb, World.ownsRow_nil _ _ _ _, (Below.refl _ _).alloc (Nat.le_refl _) _, fun _ => rfl⟩
 case round =>
  obtain ⟨ds, rest, c0, hp, hr, hsc, hbr, hrow, hnx, hnl⟩ := hrel
  go_wp2_with (first
   | (at_next; refine wpList_next_raw _ rfl _ rfl b w.heap.size clock c0 _ l clock rfl hr hbr hold hsc hnd ?_ ?_)
   | go_in)
  ·intro hall
   obtain rfl := rest_nil hp hnd hall
   rw [List.append_nil] at hp
   have hlen := hp.length_eq
   rcases hrow.2 with ⟨rfl, hn0⟩ | ⟨g, cap, cur, rfl, hbase, hcur, h1, h2, h3, h4⟩
   ·have hc := hnone wr
    have hl0 : l = [] := List.length_eq_zero_iff.1 (by omega)
    go_wp2_with (go_at_call 96; refine hc.mono ?_; rintro e w' ⟨rfl, rfl⟩)
    go_ret
    exact ⟨hnx, _, rfl, .inl ⟨hl0, rfl⟩⟩
   ·have hds : ds.length ≤ 1000 := by omega
    have hbg : w.heap.size ≤ g := by omega
    have hln : l ≠ [] := fun h => by
     have h9 : ds = [] := List.length_eq_zero_iff.1 (by rw [hlen, h]; rfl)
     have := hnl h9
     cases this
    have hcl : l.length ≤ cap := by omega
    have hc := hsort g cap ds cur wr hcur h3 h1 h4 hds
    rw [hlen] at hc
    clear hall hnl hcur h3 h1 h4 hrow
    rw [hlen]
    go_wp2_with (go_at_call 96; refine hc.mono ?_; rintro e w' ⟨rfl, hg9, d, cur', hc1, hc2, hc3, hc4⟩)
    go_ret
    exact ⟨hnx.grown hg9 hnx.size (fun j hj => by cases hj; exact hbg), _, rfl, .inr ⟨g, cap, cur', d, hln, rfl, hbg, hc1, hcl, hc2.trans hp, hc3, hc4⟩⟩
  ·intro x w1 hx hxs hg1 hs1 hr1 hb1 hlt hen
   clear hs1
   have hne : some w.heap.size ≠ u2.ownBlock := fun e1 => by
    have := (hrow.lt _ e1.symm).1
    omega
   have hdl : ds.length ≤ 1000 := by
    have := hp.length_eq
    simp only [List.length_append] at this
    omega
   have hsz := hg1.size
   have hsz2 := hnx.size
   have hrl : w.heap.size < wr.heap.size := (Array.getElem?_eq_some_iff.1 hr).1
   have hrow2 := (((hrow.kept hg1 (Or.inr hne.symm)).alloc (.cells #[.int .i64 x.k, .int .i64 x.m, .slice x.sp x.sl x.sc] 24)).alloc (.cells #[.int .i64 x.n, .int .i64 x.k, .int .i64 x.m, .slice x.sp x.sl x.sc] 58))
   go_wp2_with (first
    | (at_builtin; refine stopHere ?_)
    | go_in)
   refine ⟨?_, trivial⟩
   refine wpList_append_own _ rfl _ _ 27 rfl (w.heap.size + 1) 58 i0 (.agg #[.int .i64 0, .int .i64 0, .int .i64 0, .slice none 0 0]) 4 48 (by kernel_rfl) hi hz0 hz1 hz2 rfl (by decide) _ _ _ rfl hrow2 ⟨w1.heap.size + 1, 0, none⟩ 1 1 x.cells rfl rfl (by have := cell_four_new (w1.alloc (.cells #[.int .i64 x.k, .int .i64 x.m, .slice x.sp x.sl x.sc] 24)) (.int .i64 x.n) (.int .i64 x.k) (.int .i64 x.m) (.slice x.sp x.sl x.sc) 58; simpa [Ent.cells] using this) (cells_one x) (by unfold maxLen; omega) (by omega) (by simp; omega) ?_; 
   intro v' w3 hown' hg3 hnil3
   go_frame
   go_wp2
   have q1 : w3.heap[w.heap.size]? = w1.heap[w.heap.size]? := by
    rw [hg3.block _ (by simp; omega) hne, Below.heap_alloc _ _ _ (by simp; omega), Below.heap_alloc _ _ _ (by omega)]
   have q2 : w3.heap[b]? = w1.heap[b]? := by
    rw [hg3.block _ (by simp; omega) (fun e1 => by have := (hrow.lt _ e1.symm).1; omega), Below.heap_alloc _ _ _ (by simp; omega), Below.heap_alloc _ _ _ (by omega)]
   go_roundw
   case rel =>
    have hxd : x ∉ ds := fun h => hxs x h rfl
    have hxr : x ∈ rest := by
     rcases List.mem_append.1 (hp.mem_iff.2 hx) with h | h
     ·exact absurd h hxd
     ·exact h
    obtain ⟨s, t, rfl⟩ := List.append_of_mem hxr
    refine ⟨ds ++ [x], s ++ t, clock, ?_, ?_, Nat.le_refl _, q2.trans hb1, ?_, ?_, fun h => by simp at h⟩
    ·refine .trans ?_ hp
     rw [List.append_assoc]
     exact List.Perm.append_left ds (List.Perm.symm List.perm_middle : (x :: (s ++ t)).Perm (s ++ x :: t))
    ·rw [q1, hr1]; simp
    ·simpa using hown'
    ·exact (((hnx.grown hg1 hsz2 (fun j hj => by cases hj; exact Nat.le_refl _)).alloc (by omega) _).alloc (by simp; omega) _).grown hg3 (by simp; omega) (fun j hj => by have := (hrow.lt j hj).1; omega)
   case measure =>
    have : w3.rangeLeft b w.heap.size = w1.rangeLeft b w.heap.size := by simp only [World.rangeLeft, q1, q2]
    rw [this]; exact hlt
end Go.Proofs.YtnmolpkkemljoaaGreatDoor
end
section
namespace Go.Proofs
open Go.Shelf
def Tryz.sortBind_ren : Go.Shelf.Ren := ⟨fun | 6 => 96 | 15 => 124 | 14 => 123 | 28 => 137 | 29 => 138 | 20 => 129 | 21 => 130 | 22 => 131 | 23 => 132 | 24 => 133 | 25 => 134 | 26 => 135 | 27 => 136 | 46 => 143 | 47 => 144 | 48 => 145 | 49 => 146 | 50 => 147 | 57 => 158 | n => n, fun | 22 => 27 | 24 => 58 | 25 => 132 | 3 => 3 | 39 => 150 | 0 => 0 | 53 => 164 | 55 => 166 | 4 => 4 | 46 => 158 | 45 => 157 | 50 => 93 | 5 => 5 | 9 => 9 | 66 => 169 | 70 => 173 | 76 => 187 | 77 => 109 | n => n, fun | n => n⟩
theorem Tryz.sortBind : Go.Proofs.SlLaysF0.n6 Tryz.prog Tryz.sortBind_ren := {
 mixed := by kernel_rfl
 f6 := ⟨Tryz.f96.name, by decide, Tryz.func96.trans (congrArg some (by kernel_rfl))⟩
 f14 := ⟨Tryz.f123.name, by decide, Tryz.func123.trans (congrArg some (by kernel_rfl))⟩
 f15 := Tryz.func124.trans (congrArg some (by kernel_rfl))
 f20 := ⟨Tryz.f129.name, by decide, Tryz.func129.trans (congrArg some (by kernel_rfl))⟩
 f21 := ⟨Tryz.f130.name, by decide, Tryz.func130.trans (congrArg some (by kernel_rfl))⟩
 f22 := ⟨Tryz.f131.name, by decide, Tryz.func131.trans (congrArg some (by kernel_rfl))⟩
 f23 := ⟨Tryz.f132.name, by decide, Tryz.func132.trans (congrArg some (by kernel_rfl))⟩
 f24 := ⟨Tryz.f133.name, by decide, Tryz.func133.trans (congrArg some (by kernel_rfl))⟩
 f25 := ⟨Tryz.f134.name, by decide, Tryz.func134.trans (congrArg some (by kernel_rfl))⟩
 f26 := ⟨Tryz.f135.name, by decide, Tryz.func135.trans (congrArg some (by kernel_rfl))⟩
 f27 := ⟨Tryz.f136.name, by decide, Tryz.func136.trans (congrArg some (by kernel_rfl))⟩
 f28 := Tryz.func137.trans (congrArg some (by kernel_rfl))
 f29 := Tryz.func138.trans (congrArg some (by kernel_rfl))
 f46 := ⟨Tryz.f143.name, by decide, Tryz.func143.trans (congrArg some (by kernel_rfl))⟩
 f47 := Tryz.func144.trans (congrArg some (by kernel_rfl))
 f48 := Tryz.func145.trans (congrArg some (by kernel_rfl))
 f49 := ⟨Tryz.f146.name, by decide, Tryz.func146.trans (congrArg some (by kernel_rfl))⟩
 f50 := ⟨Tryz.f147.name, by decide, Tryz.func147.trans (congrArg some (by kernel_rfl))⟩
 f57 := ⟨Tryz.f158.name, by decide, Tryz.func158.trans (congrArg some (by kernel_rfl))⟩
 t0 := Tryz.underlying0
 a0 := Tryz.isAgg0
 z0 := Tryz.sizeOf0
 v0 := Tryz.zeroValue0
 t3 := Tryz.underlying3
 a3 := Tryz.isAgg3
 z3 := Tryz.sizeOf3
 v3 := Tryz.zeroValue3
 t4 := Tryz.underlying4
 a4 := Tryz.isAgg4
 z4 := Tryz.sizeOf4
 v4 := Tryz.zeroValue4
 t5 := Tryz.underlying5
 a5 := Tryz.isAgg5
 z5 := Tryz.sizeOf5
 v5 := Tryz.zeroValue5
 t9 := Tryz.underlying9
 a9 := Tryz.isAgg9
 z9 := Tryz.sizeOf9
 v9 := Tryz.zeroValue9
 t22 := Tryz.underlying27
 a22 := Tryz.isAgg27
 z22 := Tryz.sizeOf27
 v22 := Tryz.zeroValue27
 t25 := Tryz.underlying132
 a25 := Tryz.isAgg132
 z25 := Tryz.sizeOf132
 v25 := Tryz.zeroValue132
 t39 := Tryz.underlying150
 a39 := Tryz.isAgg150
 z39 := Tryz.sizeOf150
 v39 := Tryz.zeroValue150
 t45 := Tryz.underlying157
 a45 := Tryz.isAgg157
 z45 := Tryz.sizeOf157
 v45 := Tryz.zeroValue157
 t46 := Tryz.underlying158
 a46 := Tryz.isAgg158
 z46 := Tryz.sizeOf158
 v46 := Tryz.zeroValue158
 t50 := Tryz.underlying93
 a50 := Tryz.isAgg93
 z50 := Tryz.sizeOf93
 v50 := Tryz.zeroValue93
 t53 := Tryz.underlying164
 a53 := Tryz.isAgg164
 z53 := Tryz.sizeOf164
 v53 := Tryz.zeroValue164
 t55 := Tryz.underlying166
 a55 := Tryz.isAgg166
 z55 := Tryz.sizeOf166
 v55 := Tryz.zeroValue166
 t66 := Tryz.underlying169
 a66 := Tryz.isAgg169
 z66 := Tryz.sizeOf169
 v66 := Tryz.zeroValue169
 t70 := Tryz.underlying173
 a70 := Tryz.isAgg173
 z70 := Tryz.sizeOf173
 v70 := Tryz.zeroValue173
 t76 := Tryz.underlying187
 a76 := Tryz.isAgg187
 z76 := Tryz.sizeOf187
 v76 := Tryz.zeroValue187
 t77 := Tryz.underlying109
 a77 := Tryz.isAgg109
 z77 := Tryz.sizeOf109
 v77 := Tryz.zeroValue109 }
end Go.Proofs
end
section
set_option linter.unusedSimpArgs false
set_option linter.unusedVariables false
namespace Go.Proofs.YtnmolpkkemljoaaGreatDoor
open Go Go.RowKit Go.Sort Go.Shelf Go.Lib
theorem flat_get : ∀ (l : List Ent) (j : Nat), j < l.length * 4 → (l.flatMap Ent.cells)[j]? = some ((Ent.cells l.toArray[j / 4]!)[j % 4]!)
 | [], j, h => by simp at h
 | x :: l, j, h => by
  simp only [List.flatMap_cons]
  by_cases hj : j < 4
  ·rw [List.getElem?_append_left (by rw [cells_len]; exact hj), show j / 4 = 0 by omega, show j % 4 = j by omega]
   match j, hj with
   | 0, _ => rfl
   | 1, _ => rfl
   | 2, _ => rfl
   | 3, _ => rfl
  ·rw [List.getElem?_append_right (by rw [cells_len]; omega), cells_len, flat_get l (j - 4) (by simp at h; omega)]
   obtain ⟨i, rfl⟩ : ∃ i, j = i + 4 := ⟨j - 4, by omega⟩
   rw [show (i + 4) / 4 = i / 4 + 1 by omega, show (i + 4) % 4 = i % 4 by omega, Nat.add_sub_cancel]
   simp
theorem heap_put {w : World} {g n : Nat} {os : Array Obj} {cur F : Array Value} {e : TypeId} {fr : Nat × Nat} (hb : w.heap[g]? = some (.cells cur e fr)) :
  (grow (putRow id (Sort.ahead w n) g 0 F) os).heap[g]? = some (.cells (putCells id 0 F cur) e fr) := by
 have hg : g < w.heap.size := (Array.getElem?_eq_some_iff.1 hb).1
 rw [heap_grow_old _ _ (by simpa using hg)]
 simp [putRow, mapBlock, Sort.ahead, Array.getElem?_modify, hb, onCells]
theorem grownBy_put {w : World} {g n : Nat} {os : Array Obj} (F : Array Value) : w.grownBy (grow (putRow id (Sort.ahead w n) g 0 F) os) (some g) := by
 refine ⟨rfl, rfl, rfl, by simp, fun k hk hne => ?_⟩
 rw [heap_grow_old _ _ (by simpa using hk)]
 have : g ≠ k := fun e => hne (by rw [e])
 simp [putRow, mapBlock, Sort.ahead, Array.getElem?_modify, this]
theorem sort_says : SortSays := by
 intro g cap ds cur w hcur hsz hle htake hl
 have eg : ∀ args w, (callFunc 97 args).run Tryz.prog w = .ok (.enter 97 args) w := enters_of Tryz.func97 (by kernel_rfl) rfl
 have hg : g < w.heap.size := (Array.getElem?_eq_some_iff.1 hcur).1
 have hH : HoldsK Ent.cells 4 w g 0 ds.toArray := by
  intro j hj
  simp only [size_flatK, List.size_toArray] at hj
  refine ⟨?_, by simp [World.frozen?, hcur]⟩
  rw [get_flatK _ _ _ _ (by simpa using hj)]
  have h1 := congrArg (·[j]?) htake
  simp only [List.getElem?_take_of_lt hj] at h1
  rw [flat_get ds j hj] at h1
  simp only [World.cell?, hcur, Nat.zero_add, Option.isSome_none, Bool.false_eq_true, if_false, id_eq]
  rw [← Array.getElem?_toList, h1]
 have hcon := AnyQ.slices_SortFunc Tryz.sortBind 4 Tryz.isAgg58 Tryz.sizeOf58 Ent.cells cells_len cells_one Ent.cmp Ent.swo 97 #[] g 0 cap ds.toArray w eg (fun _ _ _ _ x y => cmp97 x y _) hH hg (by simp; omega)
 change Calls Tryz.prog 96 _ _ _ at hcon
 refine hcon.mono ?_
 rintro e w' ⟨rfl, d', n, os, ⟨hp1, _, hp3⟩, hs, rfl⟩
 have hsz' : d'.size = ds.length := by simpa using hp1
 refine ⟨rfl, grownBy_put _, d'.toList, _, heap_put hcur, ?_, ?_, ?_⟩
 ·have e1 : d'.extract 0 ds.toArray.size = d' := by rw [List.size_toArray, ← hsz']; simp
  rw [e1] at hp3
  simpa using hp3
 ·rw [List.pairwise_iff_getElem]
  intro i j hi hj hij
  simp only [Array.length_toList] at hi hj
  have := hs i j (Nat.zero_le _) hij (by simpa [hsz'] using hj)
  rw [Ent.lt, decide_eq_false_iff_not, getElem!_pos d' i hi, getElem!_pos d' j hj] at this
  simpa using this
 ·intro j u hu
  have hj : j < d'.size * 4 := by
   have := (List.getElem?_eq_some_iff.1 hu).1
   rw [flat_len] at this
   simpa using this
  rw [flat_get _ _ (by simpa using hj)] at hu
  have hjc : j < cur.size := by omega
  have hf := get_flatK Ent.cells 4 d' j hj
  rw [getElem!_pos _ _ (by simpa using hj)] at hf
  simp only [putCells, Array.getElem?_mapIdx, Array.getElem?_eq_getElem hjc, Option.map_some, size_flatK, Nat.zero_le, Nat.zero_add, true_and, hj, if_true, Nat.sub_zero, id_eq]
  rw [getElem!_pos _ _ (by simpa using hj), hf]
  simpa using hu
theorem sort_none : SortNone := by
 intro w
 have hcon := AnyF.slices_SortFunc_none Tryz.sortBind none 0 (.func (.func 97) #[] #[]) w
 change Calls Tryz.prog 96 _ _ _ at hcon
 exact hcon
end Go.Proofs.YtnmolpkkemljoaaGreatDoor
end