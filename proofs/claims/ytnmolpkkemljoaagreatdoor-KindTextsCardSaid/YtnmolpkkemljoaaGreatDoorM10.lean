/-
  What the proof is built of: What is known of the table of powers of ten. Numbers as texts: up to three figures. The library's contracts over this program (strings.CutPrefix, strconv.Atoi, bits.Len64), laid by the kit's shelf tool. Numbers as texts: up to three figures. The conditions of K29, evaluated. Itoa comes to the figures, for numbers below a thousand. Types as texts: what they come to. The conditions of K30, evaluated. Written, Write, Text: what they come to. The document's examples, run. KindChecks: the hooks. put, where it may be too much: what it comes to. Texts that are read: what they come to. The conditions of K40, evaluated. Numbers in texts that are read. Types that are read: the hooks. The conditions of K41, evaluated. put comes to what it says, where it may be too much. Conditions: none.
-/
import Derived.Test.YtnmolpkkemljoaaGreatDoorM8
import Derived.Test.YtnmolpkkemljoaaGreatDoorM9
import Derived.Shelf.Small.Wraps
import Derived.Shelf.Strconv.Atoi
import Derived.Shelf.Strconv.Itoa0
import Derived.Test.YtnmolpkkemljoaaGreatDoorProg
import Derived.Test.YtnmolpkkemljoaaGreatDoorM6
import Derived.Lib.ConvBytes
section
noncomputable section
namespace Go.Proofs.YtnmolpkkemljoaaGreatDoor
open Go Go.Am Kd

def pow10 : List Nat := [1, 10, 100, 1000, 10000, 100000, 1000000, 10000000, 100000000, 1000000000, 10000000000, 100000000000, 1000000000000, 10000000000000, 100000000000000, 1000000000000000, 10000000000000000, 100000000000000000, 1000000000000000000, 10000000000000000000]
/-- The table. -/
def gT : Gl := fun g o => match g == 0 with
  | true => match nthR pow10 o with | some n => some (.int .u64 n) | none => none
  | false => none
def runT (hk : Hooks) (n : Nat) (f : FuncId) (args : List AV) (A : AH) (K : AFin → Prop) : Prop := sFuncR Tryz.prog (Rm.W Tryz.prog gT els mu0 hk n) f args A K

end Go.Proofs.YtnmolpkkemljoaaGreatDoor
end
end

section
set_option maxRecDepth 100000
namespace Kd
def smallsL : List UInt8 := [48, 48, 48, 49, 48, 50, 48, 51, 48, 52, 48, 53, 48, 54, 48, 55, 48, 56, 48, 57, 49, 48, 49, 49, 49, 50, 49, 51, 49, 52, 49, 53, 49, 54, 49, 55, 49, 56, 49, 57, 50, 48, 50, 49, 50, 50, 50, 51, 50, 52, 50, 53, 50, 54, 50, 55, 50, 56, 50, 57, 51, 48, 51, 49, 51, 50, 51, 51, 51, 52, 51, 53, 51, 54, 51, 55, 51, 56, 51, 57, 52, 48, 52, 49, 52, 50, 52, 51, 52, 52, 52, 53, 52, 54, 52, 55, 52, 56, 52, 57, 53, 48, 53, 49, 53, 50, 53, 51, 53, 52, 53, 53, 53, 54, 53, 55, 53, 56, 53, 57, 54, 48, 54, 49, 54, 50, 54, 51, 54, 52, 54, 53, 54, 54, 54, 55, 54, 56, 54, 57, 55, 48, 55, 49, 55, 50, 55, 51, 55, 52, 55, 53, 55, 54, 55, 55, 55, 56, 55, 57, 56, 48, 56, 49, 56, 50, 56, 51, 56, 52, 56, 53, 56, 54, 56, 55, 56, 56, 56, 57, 57, 48, 57, 49, 57, 50, 57, 51, 57, 52, 57, 53, 57, 54, 57, 55, 57, 56, 57, 57]
def digitsL : List UInt8 := [48, 49, 50, 51, 52, 53, 54, 55, 56, 57, 97, 98, 99, 100, 101, 102, 103, 104, 105, 106, 107, 108, 109, 110, 111, 112, 113, 114, 115, 116, 117, 118, 119, 120, 121, 122]
end Kd
noncomputable section
namespace Go.Proofs.YtnmolpkkemljoaaGreatDoor
open Go Go.Am Kd

abbrev QT := QuietJ Tryz.prog gT

theorem QT.by {hk : Hooks} {f : FuncId} {args : List AV} {v : AV} (ha : AV.stillL args = true) (hv : v.still = true) (hh : Hooks.Ok Tryz.prog gT hk) (h : runT hk 60 f args AH.nil (retIs Tryz.prog 5 v)) : QT f args v :=
  QuietJ.ret (P := Tryz.prog) (G := gT) (f := f) 5 ha hv (FuncJ.run (el := els) (mu := mu0) (hk := hk) hmix hh (n := 60) h)

end Go.Proofs.YtnmolpkkemljoaaGreatDoor
end
end

section
namespace Go.Proofs
open Go.Shelf
def Tryz.lays103_ren : Go.Shelf.Ren := ⟨fun | 103 => 127 | 210 => 140 | 206 => 152 | n => n, fun | 9 => 9 | 4 => 4 | 24 => 141 | 3 => 3 | n => n, fun | n => n⟩
theorem Tryz.lays103 : Go.Proofs.Lays.n103 Tryz.prog Tryz.lays103_ren := {
  mixed := by kernel_rfl
  f103 := Tryz.func127.trans (congrArg some (by kernel_rfl))
  f206 := Tryz.func152.trans (congrArg some (by kernel_rfl))
  f210 := Tryz.func140.trans (congrArg some (by kernel_rfl))
  t3 := Tryz.underlying3
  a3 := Tryz.isAgg3
  z3 := Tryz.sizeOf3
  v3 := Tryz.zeroValue3
  t4 := Tryz.underlying4
  a4 := Tryz.isAgg4
  z4 := Tryz.sizeOf4
  v4 := Tryz.zeroValue4
  t9 := Tryz.underlying9
  a9 := Tryz.isAgg9
  z9 := Tryz.sizeOf9
  v9 := Tryz.zeroValue9
  t24 := Tryz.underlying141
  a24 := Tryz.isAgg141
  z24 := Tryz.sizeOf141
  v24 := Tryz.zeroValue141 }
open Go.RowKit in
theorem Tryz.strings_CutPrefix (s p : ByteArray) (w : World) :
    Calls Tryz.prog 127 #[.string s, .string p] w fun e w' => e = .returned (.tuple #[.string ⟨(Lib.trimPrefix s.data.toList p.data.toList).toArray⟩, .bool (Lib.hasPrefix s.data.toList p.data.toList)]) ∧ w' = w := Any.strings_CutPrefix Tryz.lays103 s p w
def Tryz.lays172_ren : Go.Shelf.Ren := ⟨fun | 172 => 128 | 244 => 141 | 245 => 142 | 247 => 153 | 279 => 154 | 280 => 155 | 281 => 156 | 282 => 157 | 287 => 163 | 316 => 164 | 171 => 105 | 205 => 165 | 321 => 168 | 322 => 169 | 243 => 126 | 246 => 139 | 283 => 148 | 284 => 149 | 285 => 150 | 286 => 151 | 129 => 138 | 317 => 159 | 318 => 160 | 319 => 161 | 320 => 162 | 337 => 166 | 338 => 167 | n => n, fun | 9 => 9 | 3 => 3 | 75 => 153 | 76 => 154 | 4 => 4 | 5 => 5 | 167 => 181 | 37 => 177 | 0 => 0 | 85 => 182 | 2 => 2 | 168 => 184 | 53 => 166 | 175 => 193 | 46 => 150 | 210 => 197 | 127 => 200 | 145 => 203 | 143 => 201 | 21 => 21 | 171 => 175 | 173 => 178 | 212 => 190 | 51 => 164 | 20 => 20 | 213 => 191 | 232 => 204 | 233 => 205 | 80 => 206 | n => n, fun | 15 => 1 | 16 => 2 | 17 => 0 | 18 => 3 | 19 => 4 | n => n⟩
theorem Tryz.lays172 : Go.Proofs.Lays.n172 Tryz.prog Tryz.lays172_ren := {
  mixed := by kernel_rfl
  f129 := Tryz.func138.trans (congrArg some (by kernel_rfl))
  f171 := Tryz.func105.trans (congrArg some (by kernel_rfl))
  f172 := Tryz.func128.trans (congrArg some (by kernel_rfl))
  f205 := Tryz.func165.trans (congrArg some (by kernel_rfl))
  f243 := Tryz.func126.trans (congrArg some (by kernel_rfl))
  f244 := Tryz.func141.trans (congrArg some (by kernel_rfl))
  f245 := Tryz.func142.trans (congrArg some (by kernel_rfl))
  f246 := Tryz.func139.trans (congrArg some (by kernel_rfl))
  f247 := Tryz.func153.trans (congrArg some (by kernel_rfl))
  f279 := Tryz.func154.trans (congrArg some (by kernel_rfl))
  f280 := Tryz.func155.trans (congrArg some (by kernel_rfl))
  f281 := Tryz.func156.trans (congrArg some (by kernel_rfl))
  f282 := Tryz.func157.trans (congrArg some (by kernel_rfl))
  f283 := Tryz.func148.trans (congrArg some (by kernel_rfl))
  f284 := Tryz.func149.trans (congrArg some (by kernel_rfl))
  f285 := Tryz.func150.trans (congrArg some (by kernel_rfl))
  f286 := Tryz.func151.trans (congrArg some (by kernel_rfl))
  f287 := Tryz.func163.trans (congrArg some (by kernel_rfl))
  f316 := Tryz.func164.trans (congrArg some (by kernel_rfl))
  f317 := Tryz.func159.trans (congrArg some (by kernel_rfl))
  f318 := Tryz.func160.trans (congrArg some (by kernel_rfl))
  f319 := Tryz.func161.trans (congrArg some (by kernel_rfl))
  f320 := Tryz.func162.trans (congrArg some (by kernel_rfl))
  f321 := Tryz.func168.trans (congrArg some (by kernel_rfl))
  f322 := Tryz.func169.trans (congrArg some (by kernel_rfl))
  f337 := Tryz.func166.trans (congrArg some (by kernel_rfl))
  f338 := Tryz.func167.trans (congrArg some (by kernel_rfl))
  t0 := Tryz.underlying0
  a0 := Tryz.isAgg0
  z0 := Tryz.sizeOf0
  v0 := Tryz.zeroValue0
  t2 := Tryz.underlying2
  a2 := Tryz.isAgg2
  z2 := Tryz.sizeOf2
  v2 := Tryz.zeroValue2
  t3 := Tryz.underlying3
  a3 := Tryz.isAgg3
  z3 := Tryz.sizeOf3
  v3 := Tryz.zeroValue3
  t4 := Tryz.underlying4
  a4 := Tryz.isAgg4
  z4 := Tryz.sizeOf4
  v4 := Tryz.zeroValue4
  t5 := Tryz.underlying5
  a5 := Tryz.isAgg5
  z5 := Tryz.sizeOf5
  v5 := Tryz.zeroValue5
  t9 := Tryz.underlying9
  a9 := Tryz.isAgg9
  z9 := Tryz.sizeOf9
  v9 := Tryz.zeroValue9
  t20 := Tryz.underlying20
  a20 := Tryz.isAgg20
  z20 := Tryz.sizeOf20
  v20 := Tryz.zeroValue20
  t21 := Tryz.underlying21
  a21 := Tryz.isAgg21
  z21 := Tryz.sizeOf21
  v21 := Tryz.zeroValue21
  t37 := Tryz.underlying177
  a37 := Tryz.isAgg177
  z37 := Tryz.sizeOf177
  v37 := Tryz.zeroValue177
  t46 := Tryz.underlying150
  a46 := Tryz.isAgg150
  z46 := Tryz.sizeOf150
  v46 := Tryz.zeroValue150
  t51 := Tryz.underlying164
  a51 := Tryz.isAgg164
  z51 := Tryz.sizeOf164
  v51 := Tryz.zeroValue164
  t53 := Tryz.underlying166
  a53 := Tryz.isAgg166
  z53 := Tryz.sizeOf166
  v53 := Tryz.zeroValue166
  t75 := Tryz.underlying153
  a75 := Tryz.isAgg153
  z75 := Tryz.sizeOf153
  v75 := Tryz.zeroValue153
  t76 := Tryz.underlying154
  a76 := Tryz.isAgg154
  z76 := Tryz.sizeOf154
  v76 := Tryz.zeroValue154
  t85 := Tryz.underlying182
  a85 := Tryz.isAgg182
  z85 := Tryz.sizeOf182
  v85 := Tryz.zeroValue182
  t127 := Tryz.underlying200
  a127 := Tryz.isAgg200
  z127 := Tryz.sizeOf200
  v127 := Tryz.zeroValue200
  t143 := Tryz.underlying201
  a143 := Tryz.isAgg201
  z143 := Tryz.sizeOf201
  v143 := Tryz.zeroValue201
  t145 := Tryz.underlying203
  a145 := Tryz.isAgg203
  z145 := Tryz.sizeOf203
  v145 := Tryz.zeroValue203
  t167 := Tryz.underlying181
  a167 := Tryz.isAgg181
  z167 := Tryz.sizeOf181
  v167 := Tryz.zeroValue181
  t168 := Tryz.underlying184
  a168 := Tryz.isAgg184
  z168 := Tryz.sizeOf184
  v168 := Tryz.zeroValue184
  t171 := Tryz.underlying175
  a171 := Tryz.isAgg175
  z171 := Tryz.sizeOf175
  v171 := Tryz.zeroValue175
  t173 := Tryz.underlying178
  a173 := Tryz.isAgg178
  z173 := Tryz.sizeOf178
  v173 := Tryz.zeroValue178
  t175 := Tryz.underlying193
  a175 := Tryz.isAgg193
  z175 := Tryz.sizeOf193
  v175 := Tryz.zeroValue193
  t210 := Tryz.underlying197
  a210 := Tryz.isAgg197
  z210 := Tryz.sizeOf197
  v210 := Tryz.zeroValue197
  t212 := Tryz.underlying190
  a212 := Tryz.isAgg190
  z212 := Tryz.sizeOf190
  v212 := Tryz.zeroValue190
  t213 := Tryz.underlying191
  a213 := Tryz.isAgg191
  z213 := Tryz.sizeOf191
  t232 := Tryz.underlying204
  a232 := Tryz.isAgg204
  z232 := Tryz.sizeOf204
  v232 := Tryz.zeroValue204
  t233 := Tryz.underlying205
  a233 := Tryz.isAgg205
  z233 := Tryz.sizeOf205
  v233 := Tryz.zeroValue205
  g15 := by kernel_rfl
  g16 := by kernel_rfl
  g17 := by kernel_rfl
  g18 := by kernel_rfl
  g19 := by kernel_rfl }
open Go.RowKit in
theorem Tryz.strconv_Atoi (s : ByteArray) (n : Int) (hl : s.size ≤ 18) (h : Lib.atoi s.data.toList = some n) (w : World) :
    Calls Tryz.prog 128 #[.string s] w fun e w' => e = .returned (.tuple #[.int .i64 n, .nilIface]) ∧ ∃ t, w' = Lib.bytesWorld w 5 t := Any.strconv_Atoi Tryz.lays172 s n hl h w
def Tryz.lays129_ren : Go.Shelf.Ren := ⟨fun | 129 => 138 | n => n, fun | 53 => 166 | 3 => 3 | 4 => 4 | 46 => 150 | 5 => 5 | 9 => 9 | n => n, fun | n => n⟩
theorem Tryz.lays129 : Go.Proofs.Lays.n129 Tryz.prog Tryz.lays129_ren := {
  mixed := by kernel_rfl
  f129 := Tryz.func138.trans (congrArg some (by kernel_rfl))
  t3 := Tryz.underlying3
  a3 := Tryz.isAgg3
  z3 := Tryz.sizeOf3
  v3 := Tryz.zeroValue3
  t4 := Tryz.underlying4
  a4 := Tryz.isAgg4
  z4 := Tryz.sizeOf4
  v4 := Tryz.zeroValue4
  t5 := Tryz.underlying5
  a5 := Tryz.isAgg5
  z5 := Tryz.sizeOf5
  v5 := Tryz.zeroValue5
  t9 := Tryz.underlying9
  a9 := Tryz.isAgg9
  z9 := Tryz.sizeOf9
  v9 := Tryz.zeroValue9
  t46 := Tryz.underlying150
  a46 := Tryz.isAgg150
  z46 := Tryz.sizeOf150
  v46 := Tryz.zeroValue150
  t53 := Tryz.underlying166
  a53 := Tryz.isAgg166
  z53 := Tryz.sizeOf166
  v53 := Tryz.zeroValue166 }
theorem Tryz.bits_Len64 (x : Int) (w : World) (h0 : 0 ≤ x) (h1 : x ≤ 18446744073709551615) :
    Calls Tryz.prog 138 #[.int .u64 x] w fun e w' => e = .returned (.int .i64 (Lib.bitLen x.toNat)) ∧ w' = w := Any.bits_Len64 Tryz.lays129 x w h0 h1
end Go.Proofs
end

section
set_option maxRecDepth 100000
namespace Kd
open Go Go.Am
def dig (n : Nat) : UInt8 := UInt8.ofNat (48 + n)
def itoaN (n : Nat) : List UInt8 := if n < 10 then [dig n] else if n < 100 then [dig (n / 10), dig (n % 10)] else [dig (n / 100), dig (n / 10 % 10), dig (n % 10)]
def itoaL (n : Int) : List UInt8 := itoaN n.toNat
def bl (n : Int) : Nat := Lib.bitLen n.toNat
end Kd
noncomputable section
namespace Go.Proofs.YtnmolpkkemljoaaGreatDoor
open Go Go.Am Kd

def lenQ (m : Nat) : QSpec
  | [.int .u64 u], K => (0 ≤ u ∧ u ≤ 999 ∧ bl u = m) ∧ K (.int .i64 m)
  | _, _ => False
def lenHk (m : Nat) : Hooks := mkHooks Tryz.prog [(138, lenQ m)] [] []
def smQ : QSpec
  | [n], K => argInt n fun n => (0 ≤ n ∧ n < 100) ∧ K (.str (itoaL n))
  | _, _ => False
def ndQ : QSpec
  | [.int .u64 u], K => (100 ≤ u ∧ u ≤ 999) ∧ K (.int .i64 3)
  | _, _ => False
def fiHk : Hooks := mkHooks Tryz.prog [(148, smQ), (149, ndQ)] [] []
def fi10Q : QSpec
  | [n, b], K => argInt n fun n => argInt b fun b => tfR (decide (b = 10)) ((0 ≤ n ∧ n < 1000) ∧ K (.str (itoaL n))) False
  | _, _ => False
def itHk : Hooks := mkHooks Tryz.prog [(139, fi10Q)] [] []
def itoaQ : QSpec
  | [n], K => argInt n fun n => (0 ≤ n ∧ n < 1000) ∧ K (.str (itoaL n))
  | _, _ => False

end Go.Proofs.YtnmolpkkemljoaaGreatDoor
end
end

section
noncomputable section
namespace Go.Proofs.YtnmolpkkemljoaaGreatDoor
open Go Go.Am Kd
set_option maxRecDepth 100000

theorem sm_top (n : Int) (s : List UInt8) : (runT hk0 60 148 [.int .i64 n] AH.nil (retIs Tryz.prog 5 (.str s))) = ( bothR (decide (n < (10 : Int))) (0 ≤ n ∧ 0 ≤ IntKind.wrap IntKind.i64 (n + (1 : Int)) ∧ (Int.toNat n ≤ Int.toNat (IntKind.wrap IntKind.i64 (n + (1 : Int))) ∧ Int.toNat (IntKind.wrap IntKind.i64 (n + (1 : Int))) ≤ 36) ∧ AV.str (List.take (Int.toNat (IntKind.wrap IntKind.i64 (n + (1 : Int))) - Int.toNat n) (List.drop (Int.toNat n) digitsL)) = AV.str s) (0 ≤ IntKind.wrap IntKind.i64 (n * (2 : Int)) ∧
 0 ≤ IntKind.wrap IntKind.i64 (IntKind.wrap IntKind.i64 (n * (2 : Int)) + (2 : Int)) ∧ (Int.toNat (IntKind.wrap IntKind.i64 (n * (2 : Int))) ≤ Int.toNat (IntKind.wrap IntKind.i64 (IntKind.wrap IntKind.i64 (n * (2 : Int)) + (2 : Int))) ∧ Int.toNat (IntKind.wrap IntKind.i64 (IntKind.wrap IntKind.i64 (n * (2 : Int)) + (2 : Int))) ≤ 200) ∧ AV.str (List.take (Int.toNat (IntKind.wrap IntKind.i64 (IntKind.wrap IntKind.i64 (n * (2 : Int)) + (2 : Int))) - Int.toNat (IntKind.wrap IntKind.i64 (n * (2 : Int)))) (List.drop (Int.toNat (IntKind.wrap IntKind.i64 (n * (2 : Int)))) smallsL)) =
 AV.str s)) := by kernel_rfl

theorem nd7_top (u r : Int) : (runT (lenHk 7) 60 149 [.int .u64 u] AH.nil (retIs Tryz.prog 5 (.int .i64 r))) = ( (0 ≤ u ∧ u ≤ 999 ∧ bl u = 7) ∧ bothR (decide (Int.ofNat (100) ≤ u)) (AV.int IntKind.i64 (3) = AV.int IntKind.i64 r) (AV.int IntKind.i64 (2) = AV.int IntKind.i64 r)) := by kernel_rfl

theorem nd8_top (u r : Int) : (runT (lenHk 8) 60 149 [.int .u64 u] AH.nil (retIs Tryz.prog 5 (.int .i64 r))) = ( (0 ≤ u ∧ u ≤ 999 ∧ bl u = 8) ∧ bothR (decide (Int.ofNat (100) ≤ u)) (AV.int IntKind.i64 (3) = AV.int IntKind.i64 r) (AV.int IntKind.i64 (2) = AV.int IntKind.i64 r)) := by kernel_rfl

theorem nd9_top (u r : Int) : (runT (lenHk 9) 60 149 [.int .u64 u] AH.nil (retIs Tryz.prog 5 (.int .i64 r))) = ( (0 ≤ u ∧ u ≤ 999 ∧ bl u = 9) ∧ bothR (decide (Int.ofNat (100) ≤ u)) (AV.int IntKind.i64 (3) = AV.int IntKind.i64 r) (AV.int IntKind.i64 (2) = AV.int IntKind.i64 r)) := by kernel_rfl

theorem nd10_top (u r : Int) : (runT (lenHk 10) 60 149 [.int .u64 u] AH.nil (retIs Tryz.prog 5 (.int .i64 r))) = ( (0 ≤ u ∧ u ≤ 999 ∧ bl u = 10) ∧ bothR (decide (Int.ofNat (1000) ≤ u)) (AV.int IntKind.i64 (4) = AV.int IntKind.i64 r) (AV.int IntKind.i64 (3) = AV.int IntKind.i64 r)) := by kernel_rfl

theorem fint_top (n : Int) (s : List UInt8) : (runT fiHk 60 139 [.int .i64 n, .int .i64 10] AH.nil (retIs Tryz.prog 5 (.str s))) = ( bothR (decide ((0 : Int) ≤ n)) (bothR (decide (n < (100 : Int))) ((0 ≤ n ∧ n < 100) ∧ AV.str (itoaL n) = AV.str s) (bothR (decide (n < (0 : Int))) ((100 ≤ IntKind.wrap IntKind.u64 ((0 : Int) - IntKind.wrap IntKind.u64 n) ∧ IntKind.wrap IntKind.u64 ((0 : Int) - IntKind.wrap IntKind.u64 n) ≤ 999) ∧ IntKind.u32 = IntKind.u32 ∧ (100 : Int) ≠ 0 ∧ IntKind.u32 = IntKind.u32 ∧ (100 : Int) ≠ 0 ∧ 0 ≤ IntKind.wrap IntKind.u32 (IntKind.wrap IntKind.u32
 (Int.tmod (IntKind.wrap IntKind.u32 (IntKind.wrap IntKind.u64 ((0 : Int) - IntKind.wrap IntKind.u64 n))) ((100 : Int)) * (2 : Int)) + (1 : Int)) ∧ ∃ c, smallsL[Int.toNat (IntKind.wrap IntKind.u32 (IntKind.wrap IntKind.u32 (Int.tmod (IntKind.wrap IntKind.u32 (IntKind.wrap IntKind.u64 ((0 : Int) - IntKind.wrap IntKind.u64 n))) ((100 : Int)) * (2 : Int)) + (1 : Int)))]? = some c ∧ 0 ≤ IntKind.wrap IntKind.u32 (Int.tmod (IntKind.wrap IntKind.u32 (IntKind.wrap IntKind.u64 ((0 : Int) - IntKind.wrap IntKind.u64 n))) ((100 : Int)) * (2 : Int)) ∧ ∃ c_1, smallsL[Int.toNat (IntKind.wrap IntKind.u32
 (Int.tmod (IntKind.wrap IntKind.u32 (IntKind.wrap IntKind.u64 ((0 : Int) - IntKind.wrap IntKind.u64 n))) ((100 : Int)) * (2 : Int)))]? = some c_1 ∧ AV.msl (0) (1) (3) = AV.msl (0) (1) (3) ∧ AV.int IntKind.i64 (3) = AV.int IntKind.i64 (3) ∧ AV.int IntKind.i64 (1) = AV.int IntKind.i64 (1) ∧ AV.int IntKind.u32 (IntKind.wrap IntKind.u32 (Int.tmod (IntKind.wrap IntKind.u32 (IntKind.wrap IntKind.u64 ((0 : Int) - IntKind.wrap IntKind.u64 n))) ((100 : Int)) * (2 : Int))) = AV.int IntKind.u32 (IntKind.wrap IntKind.u32
 (Int.tmod (IntKind.wrap IntKind.u32 (IntKind.wrap IntKind.u64 ((0 : Int) - IntKind.wrap IntKind.u64 n))) ((100 : Int)) * (2 : Int))) ∧ (0 ≤ IntKind.wrap IntKind.u32 (Int.tmod (IntKind.wrap IntKind.u32 (IntKind.wrap IntKind.u64 ((0 : Int) - IntKind.wrap IntKind.u64 n))) ((100 : Int)) * (2 : Int)) ∧ ∃ c, smallsL[Int.toNat (IntKind.wrap IntKind.u32 (Int.tmod (IntKind.wrap IntKind.u32 (IntKind.wrap IntKind.u64 ((0 : Int) - IntKind.wrap IntKind.u64 n))) ((100 : Int)) * (2 : Int)))]? = some c ∧ AV.int IntKind.u8 (iC (UInt8.toNat c)) = AV.int IntKind.u8 (iC (UInt8.toNat c_1))) ∧
 bothR (decide (n < (0 : Int))) (AV.str [45, UInt8.ofNat (Int.toNat (IntKind.wrap IntKind.u8 (IntKind.wrap IntKind.u32 ((48 : Int) + IntKind.wrap IntKind.u32 (Int.tdiv (IntKind.wrap IntKind.u32 (IntKind.wrap IntKind.u64 ((0 : Int) - IntKind.wrap IntKind.u64 n))) ((100 : Int))))))), UInt8.ofNat (Int.toNat (iC (UInt8.toNat c_1))), UInt8.ofNat (Int.toNat (iC (UInt8.toNat c)))] = AV.str s) (AV.str [UInt8.ofNat (Int.toNat (IntKind.wrap IntKind.u8 (IntKind.wrap IntKind.u32 ((48 : Int) + IntKind.wrap IntKind.u32
 (Int.tdiv (IntKind.wrap IntKind.u32 (IntKind.wrap IntKind.u64 ((0 : Int) - IntKind.wrap IntKind.u64 n))) ((100 : Int))))))), UInt8.ofNat (Int.toNat (iC (UInt8.toNat c_1))), UInt8.ofNat (Int.toNat (iC (UInt8.toNat c)))] = AV.str s)) ((100 ≤ IntKind.wrap IntKind.u64 n ∧ IntKind.wrap IntKind.u64 n ≤ 999) ∧ IntKind.u32 = IntKind.u32 ∧ (100 : Int) ≠ 0 ∧ IntKind.u32 = IntKind.u32 ∧ (100 : Int) ≠ 0 ∧ 0 ≤ IntKind.wrap IntKind.u32 (IntKind.wrap IntKind.u32 (Int.tmod (IntKind.wrap IntKind.u32 (IntKind.wrap IntKind.u64 n)) ((100 : Int)) * (2 : Int)) + (1 : Int)) ∧ ∃ c, smallsL[Int.toNat
 (IntKind.wrap IntKind.u32 (IntKind.wrap IntKind.u32 (Int.tmod (IntKind.wrap IntKind.u32 (IntKind.wrap IntKind.u64 n)) ((100 : Int)) * (2 : Int)) + (1 : Int)))]? = some c ∧ 0 ≤ IntKind.wrap IntKind.u32 (Int.tmod (IntKind.wrap IntKind.u32 (IntKind.wrap IntKind.u64 n)) ((100 : Int)) * (2 : Int)) ∧ ∃ c_1, smallsL[Int.toNat (IntKind.wrap IntKind.u32 (Int.tmod (IntKind.wrap IntKind.u32 (IntKind.wrap IntKind.u64 n)) ((100 : Int)) * (2 : Int)))]? = some c_1 ∧ AV.msl (0) (1) (3) = AV.msl (0) (1) (3) ∧ AV.int IntKind.i64 (3) = AV.int IntKind.i64 (3) ∧ AV.int IntKind.i64 (1) = AV.int IntKind.i64 (1) ∧
 AV.int IntKind.u32 (IntKind.wrap IntKind.u32 (Int.tmod (IntKind.wrap IntKind.u32 (IntKind.wrap IntKind.u64 n)) ((100 : Int)) * (2 : Int))) = AV.int IntKind.u32 (IntKind.wrap IntKind.u32 (Int.tmod (IntKind.wrap IntKind.u32 (IntKind.wrap IntKind.u64 n)) ((100 : Int)) * (2 : Int))) ∧ (0 ≤ IntKind.wrap IntKind.u32 (Int.tmod (IntKind.wrap IntKind.u32 (IntKind.wrap IntKind.u64 n)) ((100 : Int)) * (2 : Int)) ∧ ∃ c, smallsL[Int.toNat (IntKind.wrap IntKind.u32 (Int.tmod (IntKind.wrap IntKind.u32 (IntKind.wrap IntKind.u64 n)) ((100 : Int)) * (2 : Int)))]? = some c ∧
 AV.int IntKind.u8 (iC (UInt8.toNat c)) = AV.int IntKind.u8 (iC (UInt8.toNat c_1))) ∧ bothR (decide (n < (0 : Int))) (AV.str [45, UInt8.ofNat (Int.toNat (IntKind.wrap IntKind.u8 (IntKind.wrap IntKind.u32 ((48 : Int) + IntKind.wrap IntKind.u32 (Int.tdiv (IntKind.wrap IntKind.u32 (IntKind.wrap IntKind.u64 n)) ((100 : Int))))))), UInt8.ofNat (Int.toNat (iC (UInt8.toNat c_1))), UInt8.ofNat (Int.toNat (iC (UInt8.toNat c)))] = AV.str s) (AV.str [UInt8.ofNat (Int.toNat (IntKind.wrap IntKind.u8 (IntKind.wrap IntKind.u32 ((48 : Int) +
 IntKind.wrap IntKind.u32 (Int.tdiv (IntKind.wrap IntKind.u32 (IntKind.wrap IntKind.u64 n)) ((100 : Int))))))), UInt8.ofNat (Int.toNat (iC (UInt8.toNat c_1))), UInt8.ofNat (Int.toNat (iC (UInt8.toNat c)))] = AV.str s)))) (bothR (decide (n < (0 : Int))) ((100 ≤ IntKind.wrap IntKind.u64 ((0 : Int) - IntKind.wrap IntKind.u64 n) ∧ IntKind.wrap IntKind.u64 ((0 : Int) - IntKind.wrap IntKind.u64 n) ≤ 999) ∧ IntKind.u32 = IntKind.u32 ∧ (100 : Int) ≠ 0 ∧ IntKind.u32 = IntKind.u32 ∧ (100 : Int) ≠ 0 ∧ 0 ≤ IntKind.wrap IntKind.u32 (IntKind.wrap IntKind.u32
 (Int.tmod (IntKind.wrap IntKind.u32 (IntKind.wrap IntKind.u64 ((0 : Int) - IntKind.wrap IntKind.u64 n))) ((100 : Int)) * (2 : Int)) + (1 : Int)) ∧ ∃ c, smallsL[Int.toNat (IntKind.wrap IntKind.u32 (IntKind.wrap IntKind.u32 (Int.tmod (IntKind.wrap IntKind.u32 (IntKind.wrap IntKind.u64 ((0 : Int) - IntKind.wrap IntKind.u64 n))) ((100 : Int)) * (2 : Int)) + (1 : Int)))]? = some c ∧ 0 ≤ IntKind.wrap IntKind.u32 (Int.tmod (IntKind.wrap IntKind.u32 (IntKind.wrap IntKind.u64 ((0 : Int) - IntKind.wrap IntKind.u64 n))) ((100 : Int)) * (2 : Int)) ∧ ∃ c_1, smallsL[Int.toNat (IntKind.wrap IntKind.u32
 (Int.tmod (IntKind.wrap IntKind.u32 (IntKind.wrap IntKind.u64 ((0 : Int) - IntKind.wrap IntKind.u64 n))) ((100 : Int)) * (2 : Int)))]? = some c_1 ∧ AV.msl (0) (1) (3) = AV.msl (0) (1) (3) ∧ AV.int IntKind.i64 (3) = AV.int IntKind.i64 (3) ∧ AV.int IntKind.i64 (1) = AV.int IntKind.i64 (1) ∧ AV.int IntKind.u32 (IntKind.wrap IntKind.u32 (Int.tmod (IntKind.wrap IntKind.u32 (IntKind.wrap IntKind.u64 ((0 : Int) - IntKind.wrap IntKind.u64 n))) ((100 : Int)) * (2 : Int))) = AV.int IntKind.u32 (IntKind.wrap IntKind.u32
 (Int.tmod (IntKind.wrap IntKind.u32 (IntKind.wrap IntKind.u64 ((0 : Int) - IntKind.wrap IntKind.u64 n))) ((100 : Int)) * (2 : Int))) ∧ (0 ≤ IntKind.wrap IntKind.u32 (Int.tmod (IntKind.wrap IntKind.u32 (IntKind.wrap IntKind.u64 ((0 : Int) - IntKind.wrap IntKind.u64 n))) ((100 : Int)) * (2 : Int)) ∧ ∃ c, smallsL[Int.toNat (IntKind.wrap IntKind.u32 (Int.tmod (IntKind.wrap IntKind.u32 (IntKind.wrap IntKind.u64 ((0 : Int) - IntKind.wrap IntKind.u64 n))) ((100 : Int)) * (2 : Int)))]? = some c ∧ AV.int IntKind.u8 (iC (UInt8.toNat c)) = AV.int IntKind.u8 (iC (UInt8.toNat c_1))) ∧
 bothR (decide (n < (0 : Int))) (AV.str [45, UInt8.ofNat (Int.toNat (IntKind.wrap IntKind.u8 (IntKind.wrap IntKind.u32 ((48 : Int) + IntKind.wrap IntKind.u32 (Int.tdiv (IntKind.wrap IntKind.u32 (IntKind.wrap IntKind.u64 ((0 : Int) - IntKind.wrap IntKind.u64 n))) ((100 : Int))))))), UInt8.ofNat (Int.toNat (iC (UInt8.toNat c_1))), UInt8.ofNat (Int.toNat (iC (UInt8.toNat c)))] = AV.str s) (AV.str [UInt8.ofNat (Int.toNat (IntKind.wrap IntKind.u8 (IntKind.wrap IntKind.u32 ((48 : Int) + IntKind.wrap IntKind.u32
 (Int.tdiv (IntKind.wrap IntKind.u32 (IntKind.wrap IntKind.u64 ((0 : Int) - IntKind.wrap IntKind.u64 n))) ((100 : Int))))))), UInt8.ofNat (Int.toNat (iC (UInt8.toNat c_1))), UInt8.ofNat (Int.toNat (iC (UInt8.toNat c)))] = AV.str s)) ((100 ≤ IntKind.wrap IntKind.u64 n ∧ IntKind.wrap IntKind.u64 n ≤ 999) ∧ IntKind.u32 = IntKind.u32 ∧ (100 : Int) ≠ 0 ∧ IntKind.u32 = IntKind.u32 ∧ (100 : Int) ≠ 0 ∧ 0 ≤ IntKind.wrap IntKind.u32 (IntKind.wrap IntKind.u32 (Int.tmod (IntKind.wrap IntKind.u32 (IntKind.wrap IntKind.u64 n)) ((100 : Int)) * (2 : Int)) + (1 : Int)) ∧ ∃ c, smallsL[Int.toNat
 (IntKind.wrap IntKind.u32 (IntKind.wrap IntKind.u32 (Int.tmod (IntKind.wrap IntKind.u32 (IntKind.wrap IntKind.u64 n)) ((100 : Int)) * (2 : Int)) + (1 : Int)))]? = some c ∧ 0 ≤ IntKind.wrap IntKind.u32 (Int.tmod (IntKind.wrap IntKind.u32 (IntKind.wrap IntKind.u64 n)) ((100 : Int)) * (2 : Int)) ∧ ∃ c_1, smallsL[Int.toNat (IntKind.wrap IntKind.u32 (Int.tmod (IntKind.wrap IntKind.u32 (IntKind.wrap IntKind.u64 n)) ((100 : Int)) * (2 : Int)))]? = some c_1 ∧ AV.msl (0) (1) (3) = AV.msl (0) (1) (3) ∧ AV.int IntKind.i64 (3) = AV.int IntKind.i64 (3) ∧ AV.int IntKind.i64 (1) = AV.int IntKind.i64 (1) ∧
 AV.int IntKind.u32 (IntKind.wrap IntKind.u32 (Int.tmod (IntKind.wrap IntKind.u32 (IntKind.wrap IntKind.u64 n)) ((100 : Int)) * (2 : Int))) = AV.int IntKind.u32 (IntKind.wrap IntKind.u32 (Int.tmod (IntKind.wrap IntKind.u32 (IntKind.wrap IntKind.u64 n)) ((100 : Int)) * (2 : Int))) ∧ (0 ≤ IntKind.wrap IntKind.u32 (Int.tmod (IntKind.wrap IntKind.u32 (IntKind.wrap IntKind.u64 n)) ((100 : Int)) * (2 : Int)) ∧ ∃ c, smallsL[Int.toNat (IntKind.wrap IntKind.u32 (Int.tmod (IntKind.wrap IntKind.u32 (IntKind.wrap IntKind.u64 n)) ((100 : Int)) * (2 : Int)))]? = some c ∧
 AV.int IntKind.u8 (iC (UInt8.toNat c)) = AV.int IntKind.u8 (iC (UInt8.toNat c_1))) ∧ bothR (decide (n < (0 : Int))) (AV.str [45, UInt8.ofNat (Int.toNat (IntKind.wrap IntKind.u8 (IntKind.wrap IntKind.u32 ((48 : Int) + IntKind.wrap IntKind.u32 (Int.tdiv (IntKind.wrap IntKind.u32 (IntKind.wrap IntKind.u64 n)) ((100 : Int))))))), UInt8.ofNat (Int.toNat (iC (UInt8.toNat c_1))), UInt8.ofNat (Int.toNat (iC (UInt8.toNat c)))] = AV.str s) (AV.str [UInt8.ofNat (Int.toNat (IntKind.wrap IntKind.u8 (IntKind.wrap IntKind.u32
 ((48 : Int) + IntKind.wrap IntKind.u32 (Int.tdiv (IntKind.wrap IntKind.u32 (IntKind.wrap IntKind.u64 n)) ((100 : Int))))))), UInt8.ofNat (Int.toNat (iC (UInt8.toNat c_1))), UInt8.ofNat (Int.toNat (iC (UInt8.toNat c)))] = AV.str s)))) := by kernel_rfl

theorem it_top (n : Int) (s : List UInt8) : (runT itHk 60 105 [.int .i64 n] AH.nil (retIs Tryz.prog 5 (.str s))) = ( (0 ≤ n ∧ n < 1000) ∧ AV.str (itoaL n) = AV.str s) := by kernel_rfl

end Go.Proofs.YtnmolpkkemljoaaGreatDoor
end
end

section
set_option maxRecDepth 100000
set_option linter.unusedSimpArgs false
namespace Kd
open Go Go.Am
theorem dig_one : ∀ k : Nat, k < 10 → (digitsL.drop k).take 1 = [dig k] := by decide
theorem dig_two : ∀ k : Nat, k < 100 → smallsL[k * 2]? = some (dig (k / 10)) ∧ smallsL[k * 2 + 1]? = some (dig (k % 10)) := by decide +kernel
theorem dig_two' : ∀ k : Nat, k < 100 → (smallsL.drop (k * 2)).take 2 = [dig (k / 10), dig (k % 10)] := by decide +kernel
theorem u64_id {n : Int} (h1 : 0 ≤ n) (h2 : n < 18446744073709551616) : IntKind.u64.wrap n = n := by
  simp only [IntKind.wrap, IntKind.signed, IntKind.bits, Bool.false_and, Bool.false_eq_true, if_false]
  show n % 18446744073709551616 = n
  omega
theorem u32_id {n : Int} (h1 : 0 ≤ n) (h2 : n < 4294967296) : IntKind.u32.wrap n = n := by
  simp only [IntKind.wrap, IntKind.signed, IntKind.bits, Bool.false_and, Bool.false_eq_true, if_false]
  show n % 4294967296 = n
  omega
theorem u8_id {n : Int} (h1 : 0 ≤ n) (h2 : n < 256) : IntKind.u8.wrap n = n := by
  simp only [IntKind.wrap, IntKind.signed, IntKind.bits, Bool.false_and, Bool.false_eq_true, if_false]
  show n % 256 = n
  omega
theorem bl_range : ∀ k : Nat, k < 1000 → 100 ≤ k → (bl k = 7 ∨ bl k = 8 ∨ bl k = 9 ∨ (bl k = 10 ∧ 512 ≤ k)) := by decide +kernel
end Kd
noncomputable section
namespace Go.Proofs.YtnmolpkkemljoaaGreatDoor
open Go Go.Am Kd

theorem len64_ok {G : Gl} (u : Int) (h0 : 0 ≤ u) (h1 : u ≤ 18446744073709551615) : QuietJ Tryz.prog G 138 [.int .u64 u] (.int .i64 (bl u)) := by
  refine QuietJ.of_below fun S A w vs hi hl => ?_
  cases hl with
  | cons _ _ v _ hv hl =>
  cases hl
  cases hv
  refine (Go.Proofs.Tryz.bits_Len64 u w h0 h1).mono ?_
  rintro e w' ⟨rfl, rfl⟩
  exact ⟨.returned _ _ (.int _ _), Go.RowKit.Below.refl _ _⟩
theorem len_hook (m : Nat) : QSpec.Ok Tryz.prog gT 138 (lenQ m) := by
  intro args K h
  unfold lenQ at h
  split at h
  · obtain ⟨⟨h1, h2, h3⟩, h4⟩ := h
    subst h3
    exact ⟨_, len64_ok _ h1 (by omega), h4⟩
  · exact h.elim

theorem nd_ok (u : Int) (h0 : 100 ≤ u) (h1 : u ≤ 999) : QT 149 [.int .u64 u] (.int .i64 3) := by
  obtain ⟨k, rfl⟩ : ∃ k : Nat, u = (k : Int) := ⟨u.toNat, by omega⟩
  have hb := bl_range k (by omega) (by omega)
  have go : ∀ m, bl (k : Int) = m → Hooks.Ok Tryz.prog gT (lenHk m) := fun m _ => mkHooks_ok (all_cons (len_hook m) all_nil) all_nil all_nil
  rcases hb with hb | hb | hb | ⟨hb, h5⟩
  · refine QT.by (hk := lenHk 7) rfl rfl (go _ hb) ?_
    rw [nd7_top]
    exact ⟨⟨by omega, by omega, hb⟩, bothR_dec (fun _ => rfl) fun h => absurd h0 h⟩
  · refine QT.by (hk := lenHk 8) rfl rfl (go _ hb) ?_
    rw [nd8_top]
    exact ⟨⟨by omega, by omega, hb⟩, bothR_dec (fun _ => rfl) fun h => absurd h0 h⟩
  · refine QT.by (hk := lenHk 9) rfl rfl (go _ hb) ?_
    rw [nd9_top]
    exact ⟨⟨by omega, by omega, hb⟩, bothR_dec (fun _ => rfl) fun h => absurd h0 h⟩
  · refine QT.by (hk := lenHk 10) rfl rfl (go _ hb) ?_
    rw [nd10_top]
    exact ⟨⟨by omega, by omega, hb⟩, bothR_dec (fun h => absurd h1 (by have : (1000 : Int) ≤ k := h; omega)) fun h => rfl⟩
theorem nd_hook : QSpec.Ok Tryz.prog gT 149 ndQ := by
  intro args K h
  unfold ndQ at h
  split at h
  · exact ⟨_, nd_ok _ h.1.1 h.1.2, h.2⟩
  · exact h.elim

theorem sm_ok (n : Int) (h0 : 0 ≤ n) (h1 : n < 100) : QT 148 [.int .i64 n] (.str (itoaL n)) := by
  obtain ⟨k, rfl⟩ : ∃ k : Nat, n = (k : Int) := ⟨n.toNat, by omega⟩
  refine QT.by (hk := hk0) rfl rfl (mkHooks_ok all_nil all_nil all_nil) ?_
  rw [sm_top, wrap_id (n := (k : Int) + 1) (by omega) (by omega), wrap_id (n := (k : Int) * 2) (by omega) (by omega), wrap_id (n := (k : Int) * 2 + 2) (by omega) (by omega)]
  refine bothR_dec (fun h => ⟨by omega, by omega, by omega, ?_⟩) fun h => ⟨by omega, by omega, by omega, ?_⟩
  · have e1 : ((k : Int) + 1).toNat - (k : Int).toNat = 1 := by omega
    rw [e1, Int.toNat_natCast, dig_one k (by omega)]
    simp only [itoaL, itoaN, Int.toNat_natCast, if_pos (show k < 10 by omega)]
  · have e1 : ((k : Int) * 2 + 2).toNat - ((k : Int) * 2).toNat = 2 := by omega
    have e2 : ((k : Int) * 2).toNat = k * 2 := by omega
    rw [e1, e2, dig_two' k (by omega)]
    simp only [itoaL, itoaN, Int.toNat_natCast, if_neg (show ¬ k < 10 by omega), if_pos (show k < 100 by omega)]
theorem sm_hook : QSpec.Ok Tryz.prog gT 148 smQ := by
  intro args K h
  unfold smQ at h
  split at h
  · obtain ⟨n, rfl, h1, h2⟩ := argInt_elim h
    exact ⟨_, sm_ok n h1.1 h1.2, h2⟩
  · exact h.elim

theorem fi_ok (n : Int) (h0 : 0 ≤ n) (h1 : n < 1000) : QT 139 [.int .i64 n, .int .i64 10] (.str (itoaL n)) := by
  obtain ⟨k, rfl⟩ : ∃ k : Nat, n = (k : Int) := ⟨n.toNat, by omega⟩
  refine QT.by (hk := fiHk) rfl rfl (mkHooks_ok (all_cons sm_hook (all_cons nd_hook all_nil)) all_nil all_nil) ?_
  rw [fint_top]
  refine bothR_dec (fun _ => bothR_dec (fun h => ⟨⟨h0, h⟩, rfl⟩) fun h => bothR_dec (fun h => absurd h (by omega)) fun _ => ?_) fun h => absurd h0 h
  rw [u64_id (n := (k : Int)) (by omega) (by omega), u32_id (n := (k : Int)) (by omega) (by omega)]
  have e1 : Int.tmod (k : Int) 100 = ((k % 100 : Nat) : Int) := rfl
  have e2 : Int.tdiv (k : Int) 100 = ((k / 100 : Nat) : Int) := rfl
  rw [e1, e2]
  have l1 : k % 100 < 100 := Nat.mod_lt _ (by omega)
  rw [u32_id (n := ((k % 100 : Nat) : Int) * 2) (by omega) (by omega), u32_id (n := ((k % 100 : Nat) : Int) * 2 + 1) (by omega) (by omega), u32_id (n := ((k / 100 : Nat) : Int)) (by omega) (by omega),
    u32_id (n := 48 + ((k / 100 : Nat) : Int)) (by omega) (by omega), u8_id (n := 48 + ((k / 100 : Nat) : Int)) (by omega) (by omega)]
  have e3 : (((k % 100 : Nat) : Int) * 2).toNat = k % 100 * 2 := by omega
  have e4 : (((k % 100 : Nat) : Int) * 2 + 1).toNat = k % 100 * 2 + 1 := by omega
  have e5 : (48 + ((k / 100 : Nat) : Int)).toNat = 48 + k / 100 := by omega
  rw [e3, e4, e5]
  obtain ⟨d1, d2⟩ := dig_two (k % 100) l1
  refine ⟨⟨by omega, by omega⟩, rfl, by omega, rfl, by omega, by omega, _, d2, by omega, _, d1, rfl, rfl, rfl, rfl, ⟨by omega, _, d1, rfl⟩, bothR_dec (fun h => absurd h (by omega)) fun _ => ?_⟩
  simp only [iC, Int.toNat_natCast, UInt8.ofNat_toNat, itoaL, itoaN, if_neg (show ¬ k < 10 by omega), if_neg (show ¬ k < 100 by omega)]
  rw [show k % 100 / 10 = k / 10 % 10 by omega, show k % 100 % 10 = k % 10 by omega]
  rfl
theorem fi10_hook : QSpec.Ok Tryz.prog gT 139 fi10Q := by
  intro args K h
  unfold fi10Q at h
  split at h
  · obtain ⟨n, rfl, h3⟩ := argInt_elim h
    obtain ⟨b, rfl, h4⟩ := argInt_elim h3
    rcases tfR_elim h4 with ⟨hb, h1, h2⟩ | ⟨_, h⟩
    · simp only [decide_eq_true_eq] at hb
      subst hb
      exact ⟨_, fi_ok n h1.1 h1.2, h2⟩
    · exact h.elim
  · exact h.elim

theorem itoa_ok (n : Int) (h0 : 0 ≤ n) (h1 : n < 1000) : QT 105 [.int .i64 n] (.str (itoaL n)) := by
  refine QT.by (hk := itHk) rfl rfl (mkHooks_ok (all_cons fi10_hook all_nil) all_nil all_nil) ?_
  rw [it_top]
  exact ⟨⟨h0, h1⟩, rfl⟩
theorem itoa_hook : QSpec.Ok Tryz.prog gT 105 itoaQ := by
  intro args K h
  unfold itoaQ at h
  split at h
  · obtain ⟨n, rfl, h1, h2⟩ := argInt_elim h
    exact ⟨_, itoa_ok n h1.1 h1.2, h2⟩
  · exact h.elim

end Go.Proofs.YtnmolpkkemljoaaGreatDoor
end
end

section
set_option maxRecDepth 100000
namespace Kd
open Go.Am Go.Proofs.YtnmolpkkemljoaaGreatDoor

def befS (k : Int) : List UInt8 := if k = 0 then [117, 110, 105, 116] else if k = 1 then [105, 110, 116] else if k = 4 then [91] else if k = 6 then [39] else [40]
def btwS (k : Int) : List UInt8 := if k = 2 then [32, 42, 32] else if k = 3 then [32, 43, 32] else if k = 5 then [32, 45, 62, 32] else []
def aftS (k : Int) : List UInt8 := if k = 4 then [93] else if k = 0 ∨ k = 1 ∨ k = 6 then [] else [41]
mutual
/-- A type as a text. -/
def writeS : Ty → List UInt8
  | .mk k n _ l => (befS k ++ if k = 6 then itoaL n else []) ++ writeL (btwS k) l true ++ aftS k
def writeL (s : List UInt8) : List Ty → Bool → List UInt8
  | [], _ => []
  | x :: xs, first => (if first then [] else s) ++ writeS x ++ writeL s xs false
end
structure WSt where
  i : Nat
  acc : List UInt8
def zeroB (i : Nat) : Bool := decide (i = 0)

theorem itoaN_len (n : Nat) : (itoaN n).length ≤ 3 := by
  unfold itoaN
  split
  · simp
  · split <;> simp
theorem sep_len (k : Int) : (befS k).length ≤ 4 ∧ (btwS k).length ≤ 4 ∧ (aftS k).length ≤ 1 := by
  refine ⟨?_, ?_, ?_⟩
  · unfold befS; repeat' split
    all_goals simp
  · unfold btwS; repeat' split
    all_goals simp
  · unfold aftS; repeat' split
    all_goals simp
theorem write_lens : (∀ t, (writeS t).length + 4 ≤ 12 * cnt t) ∧ ∀ (s : List UInt8) l b, s.length ≤ 4 → (writeL s l b).length ≤ 12 * cntL l := by
  have key : ∀ (N : Nat), (∀ t, SizeOf.sizeOf t < N → (writeS t).length + 4 ≤ 12 * cnt t) ∧ ∀ l, SizeOf.sizeOf l < N → ∀ (s : List UInt8) b, s.length ≤ 4 → (writeL s l b).length ≤ 12 * cntL l := by
    intro N
    induction N with
    | zero => exact ⟨fun _ h => by omega, fun _ h => by omega⟩
    | succ N ih =>
      obtain ⟨ih1, ih2⟩ := ih
      constructor
      · intro t ht
        cases t with
        | mk k n b l =>
          simp only [Ty.mk.sizeOf_spec] at ht
          obtain ⟨h1, h2, h3⟩ := sep_len k
          have h4 := ih2 l (by omega) (btwS k) true h2
          have h5 : (if k = 6 then itoaL n else []).length ≤ 3 := by
            split
            · exact itoaN_len _
            · simp
          simp only [writeS, cnt, List.length_append]
          omega
      · intro l hl s b hs
        cases l with
        | nil => simp [writeL, cntL]
        | cons x xs =>
          simp only [List.cons.sizeOf_spec] at hl
          have h1 := ih1 x (by omega)
          have h2 := ih2 xs (by omega) s false hs
          have h3 : (if b = true then [] else s).length ≤ 4 := by
            split
            · simp
            · exact hs
          simp only [writeL, cntL, List.length_append]
          omega
  exact ⟨fun t => (key (SizeOf.sizeOf t + 1)).1 t (by omega), fun s l b => (key (SizeOf.sizeOf l + 1)).2 l (by omega) s b⟩
theorem write_len (t : Ty) : (writeS t).length + 4 ≤ 12 * cnt t := write_lens.1 t
end Kd
noncomputable section
namespace Go.Proofs.YtnmolpkkemljoaaGreatDoor
open Go Go.Am Kd

def runTC (hk : Hooks) (n : Nat) (rd : Option Nat) (c : Code) (a : AAct) (A : AH) (K : AOut → Prop) : Prop := fCodeR Tryz.prog gT els mu0 hk (Rm.W Tryz.prog gT els mu0 hk n) rd c a A K
def runTL {ι ρ : Type} (hk : Hooks) (n : Nat) (f k : Nat) (s : LSt ι ρ) (meas : ι → Nat) (x : ι) : Prop := runTC hk n s.rd (loopC f k) (s.fr x) (s.hp x) (s.post meas x)
/-- A loop, by its text. -/
theorem LSt.byT {ι ρ : Type} (s : LSt ι ρ) (meas : ι → Nat) {f k : Nat} {hk : Hooks} (hh : Hooks.Ok Tryz.prog gT hk) (hrd : s.rd = none) (hw : ∀ x, s.inv x → Whole s.n s.nf (s.fr x) (s.hp x))
    (hwo : ∀ x b, s.inv x → Whole s.n s.nf (s.out b (s.res x)).a (s.out b (s.res x)).A) (round : ∀ x, s.inv x → runTL hk 60 f k s meas x) : LHook.Ok Tryz.prog gT ⟨f, k, s.spec⟩ :=
  LSt.ok s meas (fun l h => by rw [hrd] at h; cases h) hw hwo fun x hx => CodeJ.run (el := els) (mu := mu0) hmix hh (n := 60) (round x hx)

def wrQ (N : Nat) : QSpec
  | [t], K => argTy t fun t => (SizeOf.sizeOf t < N ∧ okT t = true ∧ cnt t ≤ 1000) ∧ K (.str (writeS t))
  | _, _ => False
def wrQ0 : QSpec
  | [t], K => argTy t fun t => (okT t = true ∧ cnt t ≤ 1000) ∧ K (.str (writeS t))
  | _, _ => False
def wrB (t : Ty) : ABlk := .cells [.top, .top, .str (btwS t.kind), .str (aftS t.kind), .top, .top] 106
def wrSt (t : Ty) : LSt WSt (List UInt8) where
  n := 2
  nf := 0
  rd := none
  fr x := frm 44 [(1, .ptr 0 0), (3, .ptr 1 0), (4, .str x.acc), (22, .isl t.nl none 0 (encL t.l)), (23, .int .i64 (encL t.l).length), (24, .int .i64 x.i)]
  hp _ := ⟨[tyC t, wrB t], []⟩
  inv x := x.i ≤ t.l.length ∧ okL t.l = true ∧ cnt t ≤ 1000 ∧ x.acc.length + 12 * cntL (t.l.drop x.i) ≤ 20000
  res x := x.acc ++ writeL (btwS t.kind) (t.l.drop x.i) (zeroB x.i)
  sel _ := true
  out _ r := ⟨.exit 0, frm 44 [(3, .ptr 1 0), (4, .str r)], ⟨[tyC t, wrB t], []⟩⟩
def wrHk1 (N : Nat) : Hooks := hooks [(72, wrQ N)] [] []
def wrHk2 (t : Ty) : Hooks := hooks [(81, kindsQ), (105, itoaQ)] [] [(6, ⟨72, 0, (wrSt t).spec⟩)]

def txHk : Hooks := hooks [(76, validQ), (72, wrQ0)] [] []
end Go.Proofs.YtnmolpkkemljoaaGreatDoor
end
end

section
noncomputable section
namespace Go.Proofs.YtnmolpkkemljoaaGreatDoor
open Go Go.Am Kd
set_option maxRecDepth 100000

theorem wr_loop (t : Ty) (N : Nat) (meas : WSt → Nat) (x : WSt) : (runTL (wrHk1 N) 60 72 0 (wrSt t) meas x) = ( bothR (decide (iC (WSt.i x) < iC (List.length (encL (Ty.l t))))) (0 ≤ iC (WSt.i x) ∧ ∃ x_1, (encL (Ty.l t))[Int.toNat (iC (WSt.i x))]? = some (AV.agg [AV.int IntKind.i64 (Ty.kind x_1), AV.int IntKind.i64 (Ty.n x_1), AV.isl (Ty.nl x_1) none (0) (encL (Ty.l x_1))]) ∧ bothR (decide ((0 : Int) < iC (WSt.i x))) (iC (List.length (WSt.acc x) + List.length (btwS (Ty.kind t))) ≤ 9223372036854775807 ∧ ∃ l, encL (Ty.l x_1) = encL l ∧
 (SizeOf.sizeOf (Ty.mk (Ty.kind x_1) (Ty.n x_1) (Ty.nl x_1) l) < N ∧ okT (Ty.mk (Ty.kind x_1) (Ty.n x_1) (Ty.nl x_1) l) = true ∧ cnt (Ty.mk (Ty.kind x_1) (Ty.n x_1) (Ty.nl x_1) l) ≤ 1000) ∧ iC (List.length (WSt.acc x ++ btwS (Ty.kind t)) + List.length (writeS (Ty.mk (Ty.kind x_1) (Ty.n x_1) (Ty.nl x_1) l))) ≤ 9223372036854775807 ∧ ∃ y, (WSt.i y ≤ List.length (Ty.l t) ∧ okL (Ty.l t) = true ∧ cnt t ≤ 1000 ∧ List.length (WSt.acc y) + 12 * cntL (List.drop (WSt.i y) (Ty.l t)) ≤ 20000) ∧ meas y < meas x ∧ WSt.acc y ++ writeL (btwS (Ty.kind t)) (List.drop (WSt.i y) (Ty.l t)) (zeroB (WSt.i y)) =
 WSt.acc x ++ writeL (btwS (Ty.kind t)) (List.drop (WSt.i x) (Ty.l t)) (zeroB (WSt.i x)) ∧ AV.ptr (0) (0) = AV.ptr (0) (0) ∧ AV.ptr (1) (0) = AV.ptr (1) (0) ∧ AV.str (WSt.acc x ++ btwS (Ty.kind t) ++ writeS (Ty.mk (Ty.kind x_1) (Ty.n x_1) (Ty.nl x_1) l)) = AV.str (WSt.acc y) ∧ AV.isl (Ty.nl t) none (0) (encL (Ty.l t)) = AV.isl (Ty.nl t) none (0) (encL (Ty.l t)) ∧ AV.int IntKind.i64 (iC (List.length (encL (Ty.l t)))) = AV.int IntKind.i64 (iC (List.length (encL (Ty.l t)))) ∧ AV.int IntKind.i64 (IntKind.wrap IntKind.i64 (iC (WSt.i x) + (1 : Int))) = AV.int IntKind.i64 (iC (WSt.i y)) ∧ 24 = 24 ∧
 AV.int IntKind.i64 (Ty.kind t) = AV.int IntKind.i64 (Ty.kind t) ∧ AV.int IntKind.i64 (Ty.n t) = AV.int IntKind.i64 (Ty.n t) ∧ AV.isl (Ty.nl t) none (0) (encL (Ty.l t)) = AV.isl (Ty.nl t) none (0) (encL (Ty.l t)) ∧ 106 = 106 ∧ AV.str (btwS (Ty.kind t)) = AV.str (btwS (Ty.kind t)) ∧ AV.str (aftS (Ty.kind t)) = AV.str (aftS (Ty.kind t)) ∧ 0 = 0 ∧ True) (∃ l, encL (Ty.l x_1) = encL l ∧ (SizeOf.sizeOf (Ty.mk (Ty.kind x_1) (Ty.n x_1) (Ty.nl x_1) l) < N ∧ okT (Ty.mk (Ty.kind x_1) (Ty.n x_1) (Ty.nl x_1) l) = true ∧ cnt (Ty.mk (Ty.kind x_1) (Ty.n x_1) (Ty.nl x_1) l) ≤ 1000) ∧
 iC (List.length (WSt.acc x) + List.length (writeS (Ty.mk (Ty.kind x_1) (Ty.n x_1) (Ty.nl x_1) l))) ≤ 9223372036854775807 ∧ ∃ y, (WSt.i y ≤ List.length (Ty.l t) ∧ okL (Ty.l t) = true ∧ cnt t ≤ 1000 ∧ List.length (WSt.acc y) + 12 * cntL (List.drop (WSt.i y) (Ty.l t)) ≤ 20000) ∧ meas y < meas x ∧ WSt.acc y ++ writeL (btwS (Ty.kind t)) (List.drop (WSt.i y) (Ty.l t)) (zeroB (WSt.i y)) = WSt.acc x ++ writeL (btwS (Ty.kind t)) (List.drop (WSt.i x) (Ty.l t)) (zeroB (WSt.i x)) ∧ AV.ptr (0) (0) = AV.ptr (0) (0) ∧ AV.ptr (1) (0) = AV.ptr (1) (0) ∧
 AV.str (WSt.acc x ++ writeS (Ty.mk (Ty.kind x_1) (Ty.n x_1) (Ty.nl x_1) l)) = AV.str (WSt.acc y) ∧ AV.isl (Ty.nl t) none (0) (encL (Ty.l t)) = AV.isl (Ty.nl t) none (0) (encL (Ty.l t)) ∧ AV.int IntKind.i64 (iC (List.length (encL (Ty.l t)))) = AV.int IntKind.i64 (iC (List.length (encL (Ty.l t)))) ∧ AV.int IntKind.i64 (IntKind.wrap IntKind.i64 (iC (WSt.i x) + (1 : Int))) = AV.int IntKind.i64 (iC (WSt.i y)) ∧ 24 = 24 ∧ AV.int IntKind.i64 (Ty.kind t) = AV.int IntKind.i64 (Ty.kind t) ∧ AV.int IntKind.i64 (Ty.n t) = AV.int IntKind.i64 (Ty.n t) ∧
 AV.isl (Ty.nl t) none (0) (encL (Ty.l t)) = AV.isl (Ty.nl t) none (0) (encL (Ty.l t)) ∧ 106 = 106 ∧ AV.str (btwS (Ty.kind t)) = AV.str (btwS (Ty.kind t)) ∧ AV.str (aftS (Ty.kind t)) = AV.str (aftS (Ty.kind t)) ∧ 0 = 0 ∧ True)) (true = true ∧ AV.ptr (1) (0) = AV.ptr (1) (0) ∧ AV.str (WSt.acc x) = AV.str (WSt.acc x ++ writeL (btwS (Ty.kind t)) (List.drop (WSt.i x) (Ty.l t)) (zeroB (WSt.i x))) ∧ 24 = 24 ∧ AV.int IntKind.i64 (Ty.kind t) = AV.int IntKind.i64 (Ty.kind t) ∧ AV.int IntKind.i64 (Ty.n t) = AV.int IntKind.i64 (Ty.n t) ∧
 AV.isl (Ty.nl t) none (0) (encL (Ty.l t)) = AV.isl (Ty.nl t) none (0) (encL (Ty.l t)) ∧ 106 = 106 ∧ AV.str (btwS (Ty.kind t)) = AV.str (btwS (Ty.kind t)) ∧ AV.str (aftS (Ty.kind t)) = AV.str (aftS (Ty.kind t)) ∧ 0 = 0 ∧ True)) := by kernel_rfl

theorem wr_top (t : Ty) (r : List UInt8) : (runT (wrHk2 t) 60 72 [encD t] AH.nil (retIs Tryz.prog 5 (.str r))) = ( bothR (decide (Ty.kind t = (0 : Int))) (bothR (decide (Ty.kind t = (6 : Int))) ((0 ≤ Ty.n t ∧ Ty.n t < 1000) ∧ iC (4 + List.length (itoaL (Ty.n t))) ≤ 9223372036854775807 ∧ codeIs (loopOf Tryz.prog 72 0) Tryz.prog 72 0 (∃ x, (WSt.i x ≤ List.length (Ty.l t) ∧ okL (Ty.l t) = true ∧ cnt t ≤ 1000 ∧ List.length (WSt.acc x) + 12 * cntL (List.drop (WSt.i x) (Ty.l t)) ≤ 20000) ∧ AV.ptr (0) (0) = AV.ptr (0) (0) ∧ AV.ptr (1) (0) = AV.ptr (1) (0) ∧
 AV.str (117 :: 110 :: 105 :: 116 :: itoaL (Ty.n t)) = AV.str (WSt.acc x) ∧ AV.isl (Ty.nl t) none (0) (encL (Ty.l t)) = AV.isl (Ty.nl t) none (0) (encL (Ty.l t)) ∧ AV.int IntKind.i64 (iC (List.length (encL (Ty.l t)))) = AV.int IntKind.i64 (iC (List.length (encL (Ty.l t)))) ∧ AV.int IntKind.i64 (0) = AV.int IntKind.i64 (iC (WSt.i x)) ∧ 24 = 24 ∧ AV.int IntKind.i64 (Ty.kind t) = AV.int IntKind.i64 (Ty.kind t) ∧ AV.int IntKind.i64 (Ty.n t) = AV.int IntKind.i64 (Ty.n t) ∧ AV.isl (Ty.nl t) none (0) (encL (Ty.l t)) = AV.isl (Ty.nl t) none (0) (encL (Ty.l t)) ∧ 106 = 106 ∧
 AV.str [] = AV.str (btwS (Ty.kind t)) ∧ AV.str [] = AV.str (aftS (Ty.kind t)) ∧ 0 = 0 ∧ iC (List.length (WSt.acc x ++ writeL (btwS (Ty.kind t)) (List.drop (WSt.i x) (Ty.l t)) (zeroB (WSt.i x))) + List.length (aftS (Ty.kind t))) ≤ 9223372036854775807 ∧ AV.str (WSt.acc x ++ writeL (btwS (Ty.kind t)) (List.drop (WSt.i x) (Ty.l t)) (zeroB (WSt.i x)) ++ aftS (Ty.kind t)) = AV.str r)) (codeIs (loopOf Tryz.prog 72 0) Tryz.prog 72 0 (∃ x, (WSt.i x ≤ List.length (Ty.l t) ∧ okL (Ty.l t) = true ∧ cnt t ≤ 1000 ∧ List.length (WSt.acc x) + 12 * cntL (List.drop (WSt.i x) (Ty.l t)) ≤ 20000) ∧
 AV.ptr (0) (0) = AV.ptr (0) (0) ∧ AV.ptr (1) (0) = AV.ptr (1) (0) ∧ AV.str [117, 110, 105, 116] = AV.str (WSt.acc x) ∧ AV.isl (Ty.nl t) none (0) (encL (Ty.l t)) = AV.isl (Ty.nl t) none (0) (encL (Ty.l t)) ∧ AV.int IntKind.i64 (iC (List.length (encL (Ty.l t)))) = AV.int IntKind.i64 (iC (List.length (encL (Ty.l t)))) ∧ AV.int IntKind.i64 (0) = AV.int IntKind.i64 (iC (WSt.i x)) ∧ 24 = 24 ∧ AV.int IntKind.i64 (Ty.kind t) = AV.int IntKind.i64 (Ty.kind t) ∧ AV.int IntKind.i64 (Ty.n t) = AV.int IntKind.i64 (Ty.n t) ∧
 AV.isl (Ty.nl t) none (0) (encL (Ty.l t)) = AV.isl (Ty.nl t) none (0) (encL (Ty.l t)) ∧ 106 = 106 ∧ AV.str [] = AV.str (btwS (Ty.kind t)) ∧ AV.str [] = AV.str (aftS (Ty.kind t)) ∧ 0 = 0 ∧ iC (List.length (WSt.acc x ++ writeL (btwS (Ty.kind t)) (List.drop (WSt.i x) (Ty.l t)) (zeroB (WSt.i x))) + List.length (aftS (Ty.kind t))) ≤ 9223372036854775807 ∧ AV.str (WSt.acc x ++ writeL (btwS (Ty.kind t)) (List.drop (WSt.i x) (Ty.l t)) (zeroB (WSt.i x)) ++ aftS (Ty.kind t)) = AV.str r))) (bothR (decide (Ty.kind t = (1 : Int))) (bothR (decide (Ty.kind t = (6 : Int))) ((0 ≤ Ty.n t ∧ Ty.n t < 1000) ∧
 iC (3 + List.length (itoaL (Ty.n t))) ≤ 9223372036854775807 ∧ codeIs (loopOf Tryz.prog 72 0) Tryz.prog 72 0 (∃ x, (WSt.i x ≤ List.length (Ty.l t) ∧ okL (Ty.l t) = true ∧ cnt t ≤ 1000 ∧ List.length (WSt.acc x) + 12 * cntL (List.drop (WSt.i x) (Ty.l t)) ≤ 20000) ∧ AV.ptr (0) (0) = AV.ptr (0) (0) ∧ AV.ptr (1) (0) = AV.ptr (1) (0) ∧ AV.str (105 :: 110 :: 116 :: itoaL (Ty.n t)) = AV.str (WSt.acc x) ∧ AV.isl (Ty.nl t) none (0) (encL (Ty.l t)) = AV.isl (Ty.nl t) none (0) (encL (Ty.l t)) ∧ AV.int IntKind.i64 (iC (List.length (encL (Ty.l t)))) = AV.int IntKind.i64 (iC (List.length (encL (Ty.l t)))) ∧
 AV.int IntKind.i64 (0) = AV.int IntKind.i64 (iC (WSt.i x)) ∧ 24 = 24 ∧ AV.int IntKind.i64 (Ty.kind t) = AV.int IntKind.i64 (Ty.kind t) ∧ AV.int IntKind.i64 (Ty.n t) = AV.int IntKind.i64 (Ty.n t) ∧ AV.isl (Ty.nl t) none (0) (encL (Ty.l t)) = AV.isl (Ty.nl t) none (0) (encL (Ty.l t)) ∧ 106 = 106 ∧ AV.str [] = AV.str (btwS (Ty.kind t)) ∧ AV.str [] = AV.str (aftS (Ty.kind t)) ∧ 0 = 0 ∧ iC (List.length (WSt.acc x ++ writeL (btwS (Ty.kind t)) (List.drop (WSt.i x) (Ty.l t)) (zeroB (WSt.i x))) + List.length (aftS (Ty.kind t))) ≤ 9223372036854775807 ∧
 AV.str (WSt.acc x ++ writeL (btwS (Ty.kind t)) (List.drop (WSt.i x) (Ty.l t)) (zeroB (WSt.i x)) ++ aftS (Ty.kind t)) = AV.str r)) (codeIs (loopOf Tryz.prog 72 0) Tryz.prog 72 0 (∃ x, (WSt.i x ≤ List.length (Ty.l t) ∧ okL (Ty.l t) = true ∧ cnt t ≤ 1000 ∧ List.length (WSt.acc x) + 12 * cntL (List.drop (WSt.i x) (Ty.l t)) ≤ 20000) ∧ AV.ptr (0) (0) = AV.ptr (0) (0) ∧ AV.ptr (1) (0) = AV.ptr (1) (0) ∧ AV.str [105, 110, 116] = AV.str (WSt.acc x) ∧ AV.isl (Ty.nl t) none (0) (encL (Ty.l t)) = AV.isl (Ty.nl t) none (0) (encL (Ty.l t)) ∧
 AV.int IntKind.i64 (iC (List.length (encL (Ty.l t)))) = AV.int IntKind.i64 (iC (List.length (encL (Ty.l t)))) ∧ AV.int IntKind.i64 (0) = AV.int IntKind.i64 (iC (WSt.i x)) ∧ 24 = 24 ∧ AV.int IntKind.i64 (Ty.kind t) = AV.int IntKind.i64 (Ty.kind t) ∧ AV.int IntKind.i64 (Ty.n t) = AV.int IntKind.i64 (Ty.n t) ∧ AV.isl (Ty.nl t) none (0) (encL (Ty.l t)) = AV.isl (Ty.nl t) none (0) (encL (Ty.l t)) ∧ 106 = 106 ∧ AV.str [] = AV.str (btwS (Ty.kind t)) ∧ AV.str [] = AV.str (aftS (Ty.kind t)) ∧ 0 = 0 ∧ iC
 (List.length (WSt.acc x ++ writeL (btwS (Ty.kind t)) (List.drop (WSt.i x) (Ty.l t)) (zeroB (WSt.i x))) + List.length (aftS (Ty.kind t))) ≤ 9223372036854775807 ∧ AV.str (WSt.acc x ++ writeL (btwS (Ty.kind t)) (List.drop (WSt.i x) (Ty.l t)) (zeroB (WSt.i x)) ++ aftS (Ty.kind t)) = AV.str r))) (bothR (decide (Ty.kind t = (2 : Int))) (bothR (decide (Ty.kind t = (6 : Int))) ((0 ≤ Ty.n t ∧ Ty.n t < 1000) ∧ iC (1 + List.length (itoaL (Ty.n t))) ≤ 9223372036854775807 ∧ codeIs (loopOf Tryz.prog 72 0) Tryz.prog 72 0 (∃ x, (WSt.i x ≤ List.length (Ty.l t) ∧
 okL (Ty.l t) = true ∧ cnt t ≤ 1000 ∧ List.length (WSt.acc x) + 12 * cntL (List.drop (WSt.i x) (Ty.l t)) ≤ 20000) ∧ AV.ptr (0) (0) = AV.ptr (0) (0) ∧ AV.ptr (1) (0) = AV.ptr (1) (0) ∧ AV.str (40 :: itoaL (Ty.n t)) = AV.str (WSt.acc x) ∧ AV.isl (Ty.nl t) none (0) (encL (Ty.l t)) = AV.isl (Ty.nl t) none (0) (encL (Ty.l t)) ∧ AV.int IntKind.i64 (iC (List.length (encL (Ty.l t)))) = AV.int IntKind.i64 (iC (List.length (encL (Ty.l t)))) ∧ AV.int IntKind.i64 (0) = AV.int IntKind.i64 (iC (WSt.i x)) ∧ 24 = 24 ∧ AV.int IntKind.i64 (Ty.kind t) = AV.int IntKind.i64 (Ty.kind t) ∧
 AV.int IntKind.i64 (Ty.n t) = AV.int IntKind.i64 (Ty.n t) ∧ AV.isl (Ty.nl t) none (0) (encL (Ty.l t)) = AV.isl (Ty.nl t) none (0) (encL (Ty.l t)) ∧ 106 = 106 ∧ AV.str [32, 42, 32] = AV.str (btwS (Ty.kind t)) ∧ AV.str [41] = AV.str (aftS (Ty.kind t)) ∧ 0 = 0 ∧ iC (List.length (WSt.acc x ++ writeL (btwS (Ty.kind t)) (List.drop (WSt.i x) (Ty.l t)) (zeroB (WSt.i x))) + List.length (aftS (Ty.kind t))) ≤ 9223372036854775807 ∧ AV.str (WSt.acc x ++ writeL (btwS (Ty.kind t)) (List.drop (WSt.i x) (Ty.l t)) (zeroB (WSt.i x)) ++ aftS (Ty.kind t)) = AV.str r))
 (codeIs (loopOf Tryz.prog 72 0) Tryz.prog 72 0 (∃ x, (WSt.i x ≤ List.length (Ty.l t) ∧ okL (Ty.l t) = true ∧ cnt t ≤ 1000 ∧ List.length (WSt.acc x) + 12 * cntL (List.drop (WSt.i x) (Ty.l t)) ≤ 20000) ∧ AV.ptr (0) (0) = AV.ptr (0) (0) ∧ AV.ptr (1) (0) = AV.ptr (1) (0) ∧ AV.str [40] = AV.str (WSt.acc x) ∧ AV.isl (Ty.nl t) none (0) (encL (Ty.l t)) = AV.isl (Ty.nl t) none (0) (encL (Ty.l t)) ∧ AV.int IntKind.i64 (iC (List.length (encL (Ty.l t)))) = AV.int IntKind.i64 (iC (List.length (encL (Ty.l t)))) ∧ AV.int IntKind.i64 (0) = AV.int IntKind.i64 (iC (WSt.i x)) ∧ 24 = 24 ∧
 AV.int IntKind.i64 (Ty.kind t) = AV.int IntKind.i64 (Ty.kind t) ∧ AV.int IntKind.i64 (Ty.n t) = AV.int IntKind.i64 (Ty.n t) ∧ AV.isl (Ty.nl t) none (0) (encL (Ty.l t)) = AV.isl (Ty.nl t) none (0) (encL (Ty.l t)) ∧ 106 = 106 ∧ AV.str [32, 42, 32] = AV.str (btwS (Ty.kind t)) ∧ AV.str [41] = AV.str (aftS (Ty.kind t)) ∧ 0 = 0 ∧ iC (List.length (WSt.acc x ++ writeL (btwS (Ty.kind t)) (List.drop (WSt.i x) (Ty.l t)) (zeroB (WSt.i x))) + List.length (aftS (Ty.kind t))) ≤ 9223372036854775807 ∧
 AV.str (WSt.acc x ++ writeL (btwS (Ty.kind t)) (List.drop (WSt.i x) (Ty.l t)) (zeroB (WSt.i x)) ++ aftS (Ty.kind t)) = AV.str r))) (bothR (decide (Ty.kind t = (3 : Int))) (bothR (decide (Ty.kind t = (6 : Int))) ((0 ≤ Ty.n t ∧ Ty.n t < 1000) ∧ iC (1 + List.length (itoaL (Ty.n t))) ≤ 9223372036854775807 ∧ codeIs (loopOf Tryz.prog 72 0) Tryz.prog 72 0 (∃ x, (WSt.i x ≤ List.length (Ty.l t) ∧ okL (Ty.l t) = true ∧ cnt t ≤ 1000 ∧ List.length (WSt.acc x) + 12 * cntL (List.drop (WSt.i x) (Ty.l t)) ≤ 20000) ∧ AV.ptr (0) (0) = AV.ptr (0) (0) ∧ AV.ptr (1) (0) = AV.ptr (1) (0) ∧
 AV.str (40 :: itoaL (Ty.n t)) = AV.str (WSt.acc x) ∧ AV.isl (Ty.nl t) none (0) (encL (Ty.l t)) = AV.isl (Ty.nl t) none (0) (encL (Ty.l t)) ∧ AV.int IntKind.i64 (iC (List.length (encL (Ty.l t)))) = AV.int IntKind.i64 (iC (List.length (encL (Ty.l t)))) ∧ AV.int IntKind.i64 (0) = AV.int IntKind.i64 (iC (WSt.i x)) ∧ 24 = 24 ∧ AV.int IntKind.i64 (Ty.kind t) = AV.int IntKind.i64 (Ty.kind t) ∧ AV.int IntKind.i64 (Ty.n t) = AV.int IntKind.i64 (Ty.n t) ∧ AV.isl (Ty.nl t) none (0) (encL (Ty.l t)) = AV.isl (Ty.nl t) none (0) (encL (Ty.l t)) ∧ 106 = 106 ∧ AV.str [32, 43, 32] = AV.str (btwS (Ty.kind t)) ∧
 AV.str [41] = AV.str (aftS (Ty.kind t)) ∧ 0 = 0 ∧ iC (List.length (WSt.acc x ++ writeL (btwS (Ty.kind t)) (List.drop (WSt.i x) (Ty.l t)) (zeroB (WSt.i x))) + List.length (aftS (Ty.kind t))) ≤ 9223372036854775807 ∧ AV.str (WSt.acc x ++ writeL (btwS (Ty.kind t)) (List.drop (WSt.i x) (Ty.l t)) (zeroB (WSt.i x)) ++ aftS (Ty.kind t)) = AV.str r)) (codeIs (loopOf Tryz.prog 72 0) Tryz.prog 72 0 (∃ x, (WSt.i x ≤ List.length (Ty.l t) ∧ okL (Ty.l t) = true ∧ cnt t ≤ 1000 ∧ List.length (WSt.acc x) + 12 * cntL (List.drop (WSt.i x) (Ty.l t)) ≤ 20000) ∧ AV.ptr (0) (0) = AV.ptr (0) (0) ∧
 AV.ptr (1) (0) = AV.ptr (1) (0) ∧ AV.str [40] = AV.str (WSt.acc x) ∧ AV.isl (Ty.nl t) none (0) (encL (Ty.l t)) = AV.isl (Ty.nl t) none (0) (encL (Ty.l t)) ∧ AV.int IntKind.i64 (iC (List.length (encL (Ty.l t)))) = AV.int IntKind.i64 (iC (List.length (encL (Ty.l t)))) ∧ AV.int IntKind.i64 (0) = AV.int IntKind.i64 (iC (WSt.i x)) ∧ 24 = 24 ∧ AV.int IntKind.i64 (Ty.kind t) = AV.int IntKind.i64 (Ty.kind t) ∧ AV.int IntKind.i64 (Ty.n t) = AV.int IntKind.i64 (Ty.n t) ∧ AV.isl (Ty.nl t) none (0) (encL (Ty.l t)) = AV.isl (Ty.nl t) none (0) (encL (Ty.l t)) ∧ 106 = 106 ∧
 AV.str [32, 43, 32] = AV.str (btwS (Ty.kind t)) ∧ AV.str [41] = AV.str (aftS (Ty.kind t)) ∧ 0 = 0 ∧ iC (List.length (WSt.acc x ++ writeL (btwS (Ty.kind t)) (List.drop (WSt.i x) (Ty.l t)) (zeroB (WSt.i x))) + List.length (aftS (Ty.kind t))) ≤ 9223372036854775807 ∧ AV.str (WSt.acc x ++ writeL (btwS (Ty.kind t)) (List.drop (WSt.i x) (Ty.l t)) (zeroB (WSt.i x)) ++ aftS (Ty.kind t)) = AV.str r))) (bothR (decide (Ty.kind t = (4 : Int))) (bothR (decide (Ty.kind t = (6 : Int))) ((0 ≤ Ty.n t ∧ Ty.n t < 1000) ∧ iC (1 + List.length (itoaL (Ty.n t))) ≤ 9223372036854775807 ∧
 codeIs (loopOf Tryz.prog 72 0) Tryz.prog 72 0 (∃ x, (WSt.i x ≤ List.length (Ty.l t) ∧ okL (Ty.l t) = true ∧ cnt t ≤ 1000 ∧ List.length (WSt.acc x) + 12 * cntL (List.drop (WSt.i x) (Ty.l t)) ≤ 20000) ∧ AV.ptr (0) (0) = AV.ptr (0) (0) ∧ AV.ptr (1) (0) = AV.ptr (1) (0) ∧ AV.str (91 :: itoaL (Ty.n t)) = AV.str (WSt.acc x) ∧ AV.isl (Ty.nl t) none (0) (encL (Ty.l t)) = AV.isl (Ty.nl t) none (0) (encL (Ty.l t)) ∧ AV.int IntKind.i64 (iC (List.length (encL (Ty.l t)))) = AV.int IntKind.i64 (iC (List.length (encL (Ty.l t)))) ∧ AV.int IntKind.i64 (0) = AV.int IntKind.i64 (iC (WSt.i x)) ∧ 24 = 24 ∧
 AV.int IntKind.i64 (Ty.kind t) = AV.int IntKind.i64 (Ty.kind t) ∧ AV.int IntKind.i64 (Ty.n t) = AV.int IntKind.i64 (Ty.n t) ∧ AV.isl (Ty.nl t) none (0) (encL (Ty.l t)) = AV.isl (Ty.nl t) none (0) (encL (Ty.l t)) ∧ 106 = 106 ∧ AV.str [] = AV.str (btwS (Ty.kind t)) ∧ AV.str [93] = AV.str (aftS (Ty.kind t)) ∧ 0 = 0 ∧ iC (List.length (WSt.acc x ++ writeL (btwS (Ty.kind t)) (List.drop (WSt.i x) (Ty.l t)) (zeroB (WSt.i x))) + List.length (aftS (Ty.kind t))) ≤ 9223372036854775807 ∧ AV.str (WSt.acc x ++ writeL (btwS (Ty.kind t)) (List.drop (WSt.i x) (Ty.l t)) (zeroB (WSt.i x)) ++ aftS (Ty.kind t)) =
 AV.str r)) (codeIs (loopOf Tryz.prog 72 0) Tryz.prog 72 0 (∃ x, (WSt.i x ≤ List.length (Ty.l t) ∧ okL (Ty.l t) = true ∧ cnt t ≤ 1000 ∧ List.length (WSt.acc x) + 12 * cntL (List.drop (WSt.i x) (Ty.l t)) ≤ 20000) ∧ AV.ptr (0) (0) = AV.ptr (0) (0) ∧ AV.ptr (1) (0) = AV.ptr (1) (0) ∧ AV.str [91] = AV.str (WSt.acc x) ∧ AV.isl (Ty.nl t) none (0) (encL (Ty.l t)) = AV.isl (Ty.nl t) none (0) (encL (Ty.l t)) ∧ AV.int IntKind.i64 (iC (List.length (encL (Ty.l t)))) = AV.int IntKind.i64 (iC (List.length (encL (Ty.l t)))) ∧ AV.int IntKind.i64 (0) = AV.int IntKind.i64 (iC (WSt.i x)) ∧ 24 = 24 ∧
 AV.int IntKind.i64 (Ty.kind t) = AV.int IntKind.i64 (Ty.kind t) ∧ AV.int IntKind.i64 (Ty.n t) = AV.int IntKind.i64 (Ty.n t) ∧ AV.isl (Ty.nl t) none (0) (encL (Ty.l t)) = AV.isl (Ty.nl t) none (0) (encL (Ty.l t)) ∧ 106 = 106 ∧ AV.str [] = AV.str (btwS (Ty.kind t)) ∧ AV.str [93] = AV.str (aftS (Ty.kind t)) ∧ 0 = 0 ∧ iC (List.length (WSt.acc x ++ writeL (btwS (Ty.kind t)) (List.drop (WSt.i x) (Ty.l t)) (zeroB (WSt.i x))) + List.length (aftS (Ty.kind t))) ≤ 9223372036854775807 ∧
 AV.str (WSt.acc x ++ writeL (btwS (Ty.kind t)) (List.drop (WSt.i x) (Ty.l t)) (zeroB (WSt.i x)) ++ aftS (Ty.kind t)) = AV.str r))) (bothR (decide (Ty.kind t = (5 : Int))) (bothR (decide (Ty.kind t = (6 : Int))) ((0 ≤ Ty.n t ∧ Ty.n t < 1000) ∧ iC (1 + List.length (itoaL (Ty.n t))) ≤ 9223372036854775807 ∧ codeIs (loopOf Tryz.prog 72 0) Tryz.prog 72 0 (∃ x, (WSt.i x ≤ List.length (Ty.l t) ∧ okL (Ty.l t) = true ∧ cnt t ≤ 1000 ∧ List.length (WSt.acc x) + 12 * cntL (List.drop (WSt.i x) (Ty.l t)) ≤ 20000) ∧ AV.ptr (0) (0) = AV.ptr (0) (0) ∧ AV.ptr (1) (0) = AV.ptr (1) (0) ∧
 AV.str (40 :: itoaL (Ty.n t)) = AV.str (WSt.acc x) ∧ AV.isl (Ty.nl t) none (0) (encL (Ty.l t)) = AV.isl (Ty.nl t) none (0) (encL (Ty.l t)) ∧ AV.int IntKind.i64 (iC (List.length (encL (Ty.l t)))) = AV.int IntKind.i64 (iC (List.length (encL (Ty.l t)))) ∧ AV.int IntKind.i64 (0) = AV.int IntKind.i64 (iC (WSt.i x)) ∧ 24 = 24 ∧ AV.int IntKind.i64 (Ty.kind t) = AV.int IntKind.i64 (Ty.kind t) ∧ AV.int IntKind.i64 (Ty.n t) = AV.int IntKind.i64 (Ty.n t) ∧ AV.isl (Ty.nl t) none (0) (encL (Ty.l t)) = AV.isl (Ty.nl t) none (0) (encL (Ty.l t)) ∧ 106 = 106 ∧
 AV.str [32, 45, 62, 32] = AV.str (btwS (Ty.kind t)) ∧ AV.str [41] = AV.str (aftS (Ty.kind t)) ∧ 0 = 0 ∧ iC (List.length (WSt.acc x ++ writeL (btwS (Ty.kind t)) (List.drop (WSt.i x) (Ty.l t)) (zeroB (WSt.i x))) + List.length (aftS (Ty.kind t))) ≤ 9223372036854775807 ∧ AV.str (WSt.acc x ++ writeL (btwS (Ty.kind t)) (List.drop (WSt.i x) (Ty.l t)) (zeroB (WSt.i x)) ++ aftS (Ty.kind t)) = AV.str r)) (codeIs (loopOf Tryz.prog 72 0) Tryz.prog 72 0 (∃ x, (WSt.i x ≤ List.length (Ty.l t) ∧ okL (Ty.l t) = true ∧ cnt t ≤ 1000 ∧ List.length (WSt.acc x) + 12 * cntL (List.drop (WSt.i x) (Ty.l t)) ≤ 20000) ∧
 AV.ptr (0) (0) = AV.ptr (0) (0) ∧ AV.ptr (1) (0) = AV.ptr (1) (0) ∧ AV.str [40] = AV.str (WSt.acc x) ∧ AV.isl (Ty.nl t) none (0) (encL (Ty.l t)) = AV.isl (Ty.nl t) none (0) (encL (Ty.l t)) ∧ AV.int IntKind.i64 (iC (List.length (encL (Ty.l t)))) = AV.int IntKind.i64 (iC (List.length (encL (Ty.l t)))) ∧ AV.int IntKind.i64 (0) = AV.int IntKind.i64 (iC (WSt.i x)) ∧ 24 = 24 ∧ AV.int IntKind.i64 (Ty.kind t) = AV.int IntKind.i64 (Ty.kind t) ∧ AV.int IntKind.i64 (Ty.n t) = AV.int IntKind.i64 (Ty.n t) ∧ AV.isl (Ty.nl t) none (0) (encL (Ty.l t)) = AV.isl (Ty.nl t) none (0) (encL (Ty.l t)) ∧ 106 = 106 ∧
 AV.str [32, 45, 62, 32] = AV.str (btwS (Ty.kind t)) ∧ AV.str [41] = AV.str (aftS (Ty.kind t)) ∧ 0 = 0 ∧ iC (List.length (WSt.acc x ++ writeL (btwS (Ty.kind t)) (List.drop (WSt.i x) (Ty.l t)) (zeroB (WSt.i x))) + List.length (aftS (Ty.kind t))) ≤ 9223372036854775807 ∧ AV.str (WSt.acc x ++ writeL (btwS (Ty.kind t)) (List.drop (WSt.i x) (Ty.l t)) (zeroB (WSt.i x)) ++ aftS (Ty.kind t)) = AV.str r))) (bothR (decide (Ty.kind t = (6 : Int))) (bothR (decide (Ty.kind t = (6 : Int))) ((0 ≤ Ty.n t ∧ Ty.n t < 1000) ∧ iC (1 + List.length (itoaL (Ty.n t))) ≤ 9223372036854775807 ∧
 codeIs (loopOf Tryz.prog 72 0) Tryz.prog 72 0 (∃ x, (WSt.i x ≤ List.length (Ty.l t) ∧ okL (Ty.l t) = true ∧ cnt t ≤ 1000 ∧ List.length (WSt.acc x) + 12 * cntL (List.drop (WSt.i x) (Ty.l t)) ≤ 20000) ∧ AV.ptr (0) (0) = AV.ptr (0) (0) ∧ AV.ptr (1) (0) = AV.ptr (1) (0) ∧ AV.str (39 :: itoaL (Ty.n t)) = AV.str (WSt.acc x) ∧ AV.isl (Ty.nl t) none (0) (encL (Ty.l t)) = AV.isl (Ty.nl t) none (0) (encL (Ty.l t)) ∧ AV.int IntKind.i64 (iC (List.length (encL (Ty.l t)))) = AV.int IntKind.i64 (iC (List.length (encL (Ty.l t)))) ∧ AV.int IntKind.i64 (0) = AV.int IntKind.i64 (iC (WSt.i x)) ∧ 24 = 24 ∧
 AV.int IntKind.i64 (Ty.kind t) = AV.int IntKind.i64 (Ty.kind t) ∧ AV.int IntKind.i64 (Ty.n t) = AV.int IntKind.i64 (Ty.n t) ∧ AV.isl (Ty.nl t) none (0) (encL (Ty.l t)) = AV.isl (Ty.nl t) none (0) (encL (Ty.l t)) ∧ 106 = 106 ∧ AV.str [] = AV.str (btwS (Ty.kind t)) ∧ AV.str [] = AV.str (aftS (Ty.kind t)) ∧ 0 = 0 ∧ iC (List.length (WSt.acc x ++ writeL (btwS (Ty.kind t)) (List.drop (WSt.i x) (Ty.l t)) (zeroB (WSt.i x))) + List.length (aftS (Ty.kind t))) ≤ 9223372036854775807 ∧ AV.str (WSt.acc x ++ writeL (btwS (Ty.kind t)) (List.drop (WSt.i x) (Ty.l t)) (zeroB (WSt.i x)) ++ aftS (Ty.kind t)) =
 AV.str r)) (codeIs (loopOf Tryz.prog 72 0) Tryz.prog 72 0 (∃ x, (WSt.i x ≤ List.length (Ty.l t) ∧ okL (Ty.l t) = true ∧ cnt t ≤ 1000 ∧ List.length (WSt.acc x) + 12 * cntL (List.drop (WSt.i x) (Ty.l t)) ≤ 20000) ∧ AV.ptr (0) (0) = AV.ptr (0) (0) ∧ AV.ptr (1) (0) = AV.ptr (1) (0) ∧ AV.str [39] = AV.str (WSt.acc x) ∧ AV.isl (Ty.nl t) none (0) (encL (Ty.l t)) = AV.isl (Ty.nl t) none (0) (encL (Ty.l t)) ∧ AV.int IntKind.i64 (iC (List.length (encL (Ty.l t)))) = AV.int IntKind.i64 (iC (List.length (encL (Ty.l t)))) ∧ AV.int IntKind.i64 (0) = AV.int IntKind.i64 (iC (WSt.i x)) ∧ 24 = 24 ∧
 AV.int IntKind.i64 (Ty.kind t) = AV.int IntKind.i64 (Ty.kind t) ∧ AV.int IntKind.i64 (Ty.n t) = AV.int IntKind.i64 (Ty.n t) ∧ AV.isl (Ty.nl t) none (0) (encL (Ty.l t)) = AV.isl (Ty.nl t) none (0) (encL (Ty.l t)) ∧ 106 = 106 ∧ AV.str [] = AV.str (btwS (Ty.kind t)) ∧ AV.str [] = AV.str (aftS (Ty.kind t)) ∧ 0 = 0 ∧ iC (List.length (WSt.acc x ++ writeL (btwS (Ty.kind t)) (List.drop (WSt.i x) (Ty.l t)) (zeroB (WSt.i x))) + List.length (aftS (Ty.kind t))) ≤ 9223372036854775807 ∧ AV.str (WSt.acc x ++ writeL (btwS (Ty.kind t)) (List.drop (WSt.i x) (Ty.l t)) (zeroB (WSt.i x)) ++ aftS (Ty.kind t)) =
 AV.str r))) False))))))) := by kernel_rfl

theorem tx_top (t : Ty) (r : List UInt8) (e : Int) : (runT txHk 60 26 [encD t] AH.nil (retIs Tryz.prog 5 (.tup [.str r, .int .i64 e]))) = ( Int.NonNeg (0) ∧ ∃ x, some (AV.agg [AV.int IntKind.i64 (Ty.kind t), AV.int IntKind.i64 (Ty.n t), AV.isl (Ty.nl t) none (0) (encL (Ty.l t))]) = some (AV.agg [AV.int IntKind.i64 (Ty.kind x), AV.int IntKind.i64 (Ty.n x), AV.isl (Ty.nl x) none (0) (encL (Ty.l x))]) ∧ ∃ l, encL (Ty.l x) = encL l ∧ cnt (Ty.mk (Ty.kind x) (Ty.n x) (Ty.nl x) l) ≤ 1000 ∧
 bothR (!validB (Ty.mk (Ty.kind x) (Ty.n x) (Ty.nl x) l)) (AV.tup [AV.str [], AV.int IntKind.i64 (1)] = AV.tup [AV.str r, AV.int IntKind.i64 e]) (∃ l, encL (Ty.l t) = encL l ∧ (okT (Ty.mk (Ty.kind t) (Ty.n t) (Ty.nl t) l) = true ∧ cnt (Ty.mk (Ty.kind t) (Ty.n t) (Ty.nl t) l) ≤ 1000) ∧ AV.tup [AV.str (writeS (Ty.mk (Ty.kind t) (Ty.n t) (Ty.nl t) l)), AV.int IntKind.i64 (0)] = AV.tup [AV.str r, AV.int IntKind.i64 e])) := by kernel_rfl

end Go.Proofs.YtnmolpkkemljoaaGreatDoor
end
end

section
set_option maxRecDepth 100000
set_option linter.unusedSimpArgs false
noncomputable section
namespace Go.Proofs.YtnmolpkkemljoaaGreatDoor
open Go Go.Am Kd

theorem kindsT_hook : QSpec.Ok Tryz.prog gT 81 kindsQ := kinds_hook.lift

theorem writeL_acc (s : List UInt8) (l : List Ty) (i : Nat) (h : i < l.length) (acc : List UInt8) :
    acc ++ writeL s (l.drop i) (zeroB i) = (acc ++ ((if i = 0 then [] else s) ++ writeS l[i])) ++ writeL s (l.drop (i + 1)) (zeroB (i + 1)) := by
  rw [List.drop_eq_getElem_cons h]
  simp only [writeL, zeroB, decide_eq_true_eq, List.append_assoc]
  simp

theorem wr_hook {N : Nat} (ih : ∀ t, SizeOf.sizeOf t < N → okT t = true → cnt t ≤ 1000 → QT 72 [enc t] (.str (writeS t))) : QSpec.Ok Tryz.prog gT 72 (wrQ N) := by
  intro args K h'
  unfold wrQ at h'
  split at h'
  · obtain ⟨t, rfl, h1, h2⟩ := argTy_elim h'
    exact ⟨_, ih t h1.1 h1.2.1 h1.2.2, h2⟩
  · exact h'.elim

theorem okT_kind {k n : Int} {b : Bool} {l : List Ty} (h : okT (.mk k n b l) = true) : k = 0 ∨ k = 1 ∨ k = 2 ∨ k = 3 ∨ k = 4 ∨ k = 5 ∨ k = 6 := by
  obtain ⟨h1, _⟩ := ok_node h
  simp only [NodeOk] at h1
  omega

theorem wr_ok (t : Ty) (h : okT t = true) (hc : cnt t ≤ 1000) : QT 72 [enc t] (.str (writeS t)) := by
  have key : ∀ (N : Nat) (t : Ty), SizeOf.sizeOf t < N → okT t = true → cnt t ≤ 1000 → QT 72 [enc t] (.str (writeS t)) := by
    intro N
    induction N with
    | zero => intro t h; omega
    | succ N ih =>
      intro t ht hok hc
      have hl : LHook.Ok Tryz.prog gT ⟨72, 0, (wrSt t).spec⟩ := by
        refine LSt.byT (hk := wrHk1 N) (wrSt t) (fun x => t.l.length - x.i) (mkHooks_ok (all_cons (wr_hook ih) all_nil) all_nil all_nil) rfl ?_ ?_ ?_
        · intro x _
          exact Whole.frm rfl rfl (by simp [wrSt, AV.bnd, encL_bnd]) (by simp [wrSt, tyC, wrB, ABlk.bnd, AV.bndL, AV.bnd, encL_bnd])
        · intro x b' _
          exact Whole.frm rfl rfl (by simp [wrSt, AV.bnd]) (by simp [wrSt, tyC, wrB, ABlk.bnd, AV.bndL, AV.bnd, encL_bnd])
        · rintro ⟨i, acc⟩ ⟨hi, hl, hcn, hacc⟩
          simp only at hi hacc
          rw [wr_loop]
          simp only [iC, encL_length, eq_self, true_and, and_true]
          refine bothR_dec (fun hlt => ?_) fun hge => ?_
          · have hi' : i < t.l.length := by omega
            have hx := cntL_mem t.l[i] (List.getElem_mem hi')
            have hw := write_len t.l[i]
            have hd := cntL_drop t.l i hi'
            have hs := sep_len t.kind
            have hsz : SizeOf.sizeOf t.l[i] < N := by
              have h1 := Ty.lt_of_get (k := t.kind) (n := t.n) (b := t.nl) hi'
              rw [Ty.eta] at h1
              omega
            have hct : cnt t = cntL t.l + 1 := by cases t; simp only [cnt, Ty.l, Nat.add_comm]
            have hci : cnt t.l[i] ≤ 1000 := by omega
            have hln := len_cnt t.l
            have hoi := okL_mem hl t.l[i] (List.getElem_mem hi')
            refine ⟨by omega, t.l[i], encL_get t.l i hi', bothR_dec (fun h0 => ⟨?_, t.l[i].l, rfl, ?_⟩) fun h0 => ⟨t.l[i].l, rfl, ?_⟩⟩
            · omega
            · rw [Ty.eta, wrap_id (by omega) (by omega)]
              refine ⟨⟨hsz, hoi, hci⟩, by simp only [List.length_append]; omega, ⟨i + 1, acc ++ btwS t.kind ++ writeS t.l[i]⟩, ⟨by simp only; omega, hl, hcn, by simp only [List.length_append]; omega⟩, by simp only; omega, ?_, rfl, rfl⟩
              rw [writeL_acc _ t.l i hi']
              simp [show ¬ i = 0 by omega]
            · rw [Ty.eta, wrap_id (by omega) (by omega)]
              refine ⟨⟨hsz, hoi, hci⟩, by omega, ⟨i + 1, acc ++ writeS t.l[i]⟩, ⟨by simp only; omega, hl, hcn, by simp only [List.length_append]; omega⟩, by simp only; omega, ?_, rfl, rfl⟩
              rw [writeL_acc _ t.l i hi']
              simp [show i = 0 by omega]
          · rw [List.drop_of_length_le (by omega)]
            simp only [writeL, List.append_nil]
      have hst : (enc t).still = true := enc_still t
      rw [enc_D]
      refine QT.by (hk := wrHk2 t) (by rw [← enc_D]; simp [AV.stillL, hst]) rfl (mkHooks_ok (all_cons kindsT_hook (all_cons itoa_hook all_nil)) all_nil (all_cons hl all_nil)) ?_
      rw [wr_top]
      obtain ⟨k, n, b, l⟩ := t
      have hk := okT_kind hok
      obtain ⟨hn, hol⟩ := ok_node hok
      have hcn : 12 * cntL l ≤ 12000 := by simp only [cnt] at hc; omega
      have hil := itoaN_len n.toNat
      simp only [NodeOk] at hn
      rcases hk with rfl | rfl | rfl | rfl | rfl | rfl | rfl
      case inr.inr.inr.inr.inr.inr =>
        have hw := write_lens.2 [] l true (by simp)
        simp [Ty.kind, Ty.n, Ty.l, Ty.nl, bothR, codeIs_self, btwS, aftS, iC]
        have hil' : (itoaL n).length ≤ 3 := hil
        refine ⟨hn.2.2.2.2.2 rfl, by omega, ⟨0, 39 :: itoaL n⟩, ⟨by simp, hol, hc, ?_⟩, rfl, rfl, ?_, ?_⟩
        · simp only [List.drop_zero, List.length_cons]; omega
        · simp only [List.drop_zero, List.length_cons, zeroB, decide_true]; omega
        · simp [writeS, befS, btwS, aftS, zeroB]
      all_goals simp [Ty.kind, Ty.n, Ty.l, Ty.nl, bothR, codeIs_self, btwS, aftS, iC]
      all_goals refine ⟨⟨0, _⟩, ⟨by simp, hol, hc, ?_⟩, rfl, rfl, ?_, ?_⟩
      all_goals first
        | (simp only [List.drop_zero, List.length_cons, List.length_nil]; omega)
        | (simp [writeS, befS, btwS, aftS, zeroB]; done)
        | skip
      all_goals simp only [List.drop_zero, List.length_cons, List.length_nil, zeroB, decide_true]
      all_goals first
        | (have hw := write_lens.2 [] l true (by simp); omega)
        | (have hw := write_lens.2 [32, 42, 32] l true (by simp); omega)
        | (have hw := write_lens.2 [32, 43, 32] l true (by simp); omega)
        | (have hw := write_lens.2 [32, 45, 62, 32] l true (by simp); omega)
  exact key _ t (Nat.lt_succ_self _) h hc

theorem wr_hook0 : QSpec.Ok Tryz.prog gT 72 wrQ0 := by
  intro args K h'
  unfold wrQ0 at h'
  split at h'
  · obtain ⟨t, rfl, h1, h2⟩ := argTy_elim h'
    exact ⟨_, wr_ok t h1.1 h1.2, h2⟩
  · exact h'.elim

def textV (t : Ty) : AV := if validB t = true then .tup [.str (writeS t), .int .i64 0] else .tup [.str [], .int .i64 1]

theorem text_ok (t : Ty) (hc : cnt t ≤ 1000) : QT 26 [enc t] (textV t) := by
  have hst : (enc t).still = true := enc_still t
  have run : ∀ r e, textV t = .tup [.str r, .int .i64 e] → QT 26 [enc t] (textV t) := by
    intro r e he
    rw [he, enc_D]
    refine QT.by (hk := txHk) (by rw [← enc_D]; simp [AV.stillL, hst]) rfl (mkHooks_ok (all_cons valid_hook.lift (all_cons wr_hook0 all_nil)) all_nil all_nil) ?_
    rw [tx_top, ← he]
    refine ⟨.mk 0, t, rfl, t.l, rfl, ?_⟩
    rw [Ty.eta]
    refine ⟨hc, ?_⟩
    cases hv : validB t with
    | false => simp [bothR, textV, hv]
    | true =>
      have := (valid_eq t).1 hv
      refine ⟨t.l, rfl, ?_⟩
      rw [Ty.eta]
      exact ⟨⟨this.2.2, hc⟩, by simp [textV, hv]⟩
  by_cases hv : validB t = true
  · exact run _ _ (if_pos hv)
  · exact run _ _ (if_neg hv)
end Go.Proofs.YtnmolpkkemljoaaGreatDoor
end
end

section
noncomputable section
namespace Go.Proofs.YtnmolpkkemljoaaGreatDoor.closed
open Go Go.Am

/-- The row that grows: what a map's list is appended to. -/
def muC : Oper → Bool := fun o => o.dst == some 17 && o.type == 27 && (match o.op with | .call c => c.args.size == 2 | _ => false)
/-- Functions that are handed values alone. -/
def puC (f : Nat) : Bool := (14 ≤ f && f ≤ 50 && f != 49) || [53,60,61,62,63,67,68,69,72,73,76,77,80,81,84,86,87,89,90,91,92,93,98,99,100,101,104,105,106,109,110,111,112,113,120,121,122,124,125,126,127,128,137,138,139,140,141,142].contains f

theorem c0 : PCall Tryz.prog g0 109 [.agg [.int .i64 1, .int .i64 0, .isl true none 0 []], .int .i64 12] [.returned (.int .i64 1)] := pRun_ok hmix (Orc.table_ok Orc.tabNil) (pu := puC) (mu := muC) (n := 1000) (by kernel_rfl)
def a0 : AV := .agg [.int .i64 0, .str [117, 110, 105, 116], .str [], .str [], .int .i64 0, .fn (.func 116) [] [], .int .i64 0, .str [105, 110, 116], .str [], .str [], .int .i64 1, .fn (.func 116) [] [], .int .i64 2, .str [40], .str [32, 42, 32], .str [41], .int .i64 0, .fn (.func 116) [] [], .int .i64 2, .str [40], .str [32, 43, 32], .str [41], .int .i64 1, .fn (.func 116) [] [], .int .i64 1, .str [91], .str [], .str [93], .int .i64 2, .fn (.func 117) [] [], .int .i64 2, .str [40], .str [32, 45, 62, 32], .str [41], .int .i64 0, .fn (.func 116) [] [], .int .i64 0, .str [39], .str [], .str [], .int .i64 0, .fn (.func 116) [] []]
theorem c1 : PCall Tryz.prog g0 81 [] [.returned a0] := pRun_ok hmix (Orc.table_ok Orc.tabNil) (pu := puC) (mu := muC) (n := 1000) (by kernel_rfl)
theorem c2 : PCall Tryz.prog g0 76 [.agg [.int .i64 1, .int .i64 0, .isl true none 0 []]] [.returned (.bool true)] := pRun_ok hmix (Orc.table_ok (Orc.tabCons c0 (Orc.tabCons c1 Orc.tabNil))) (pu := puC) (mu := muC) (n := 1000) (by kernel_rfl)
theorem c3 : PCall Tryz.prog g0 76 [.agg [.int .i64 0, .int .i64 0, .isl true none 0 []]] [.returned (.bool true)] := pRun_ok hmix (Orc.table_ok (Orc.tabCons c1 Orc.tabNil)) (pu := puC) (mu := muC) (n := 1000) (by kernel_rfl)
def a1 : AV := .agg [.int .i64 4, .int .i64 0, .isl false none 0 [.agg [.int .i64 6, .int .i64 1, .isl true none 0 []]]]
def a2 : AV := .isl false none 0 [.agg [.int .i64 6, .int .i64 0, .isl true none 0 []], a1]
theorem c4 : PCall Tryz.prog g0 109 [.agg [.int .i64 2, .int .i64 0, a2], .int .i64 12] [.returned (.int .i64 3)] := pRun_ok hmix (Orc.table_ok Orc.tabNil) (pu := puC) (mu := muC) (n := 1000) (by kernel_rfl)
theorem c5 : PCall Tryz.prog g0 76 [.agg [.int .i64 2, .int .i64 0, a2]] [.returned (.bool true)] := pRun_ok hmix (Orc.table_ok (Orc.tabCons c4 (Orc.tabCons c1 Orc.tabNil))) (pu := puC) (mu := muC) (n := 1000) (by kernel_rfl)
def a3 : AV := .isl false none 0 [.agg [.int .i64 1, .int .i64 0, .isl true none 0 []], .agg [.int .i64 0, .int .i64 0, .isl true none 0 []]]
theorem c6 : PCall Tryz.prog g0 109 [.agg [.int .i64 3, .int .i64 0, a3], .int .i64 11] [.returned (.int .i64 2)] := pRun_ok hmix (Orc.table_ok Orc.tabNil) (pu := puC) (mu := muC) (n := 1000) (by kernel_rfl)
def a4 : AV := .agg [.int .i64 4, .int .i64 0, .isl false none 0 [.agg [.int .i64 1, .int .i64 0, .isl true none 0 []]]]
theorem c7 : PCall Tryz.prog g0 109 [.agg [.int .i64 4, .int .i64 0, .isl false none 0 [a4]], .int .i64 11] [.returned (.int .i64 3)] := pRun_ok hmix (Orc.table_ok Orc.tabNil) (pu := puC) (mu := muC) (n := 1000) (by kernel_rfl)
def a5 : AV := .isl false none 0 [.agg [.int .i64 3, .int .i64 0, a3], .agg [.int .i64 4, .int .i64 0, .isl false none 0 [a4]]]
theorem c8 : PCall Tryz.prog g0 76 [.agg [.int .i64 2, .int .i64 0, a5]] [.returned (.bool true)] := pRun_ok hmix (Orc.table_ok (Orc.tabCons c6 (Orc.tabCons c7 (Orc.tabCons c1 Orc.tabNil)))) (pu := puC) (mu := muC) (n := 1000) (by kernel_rfl)
def a6 : AV := .isl false none 0 [.agg [.int .i64 6, .int .i64 2, .isl true none 0 []], .agg [.int .i64 6, .int .i64 5, .isl true none 0 []]]
def a7 : AV := .isl false none 0 [.agg [.int .i64 6, .int .i64 5, .isl true none 0 []], .agg [.int .i64 5, .int .i64 0, a6]]
theorem c10 : PCall Tryz.prog g0 68 [.agg [.int .i64 6, .int .i64 2, .isl true none 0 []]] [.returned (.agg [.int .i64 6, .int .i64 2, .isl true none 0 []])] := pRun_ok hmix (Orc.table_ok Orc.tabNil) (pu := puC) (mu := muC) (n := 1000) (by kernel_rfl)
theorem c11 : PCall Tryz.prog g0 68 [.agg [.int .i64 6, .int .i64 0, .isl true none 0 []]] [.returned (.agg [.int .i64 6, .int .i64 0, .isl true none 0 []])] := pRun_ok hmix (Orc.table_ok Orc.tabNil) (pu := puC) (mu := muC) (n := 1000) (by kernel_rfl)
theorem c12 : PCall Tryz.prog g0 68 [.agg [.int .i64 6, .int .i64 1, .isl true none 0 []]] [.returned (.agg [.int .i64 6, .int .i64 1, .isl true none 0 []])] := pRun_ok hmix (Orc.table_ok Orc.tabNil) (pu := puC) (mu := muC) (n := 1000) (by kernel_rfl)
def a8 : AV := .isl false none 0 [.agg [.int .i64 6, .int .i64 1, .isl true none 0 []], .agg [.int .i64 6, .int .i64 0, .isl true none 0 []]]
def a9 : AV := .isl false none 0 [.agg [.int .i64 6, .int .i64 0, .isl true none 0 []], .agg [.int .i64 5, .int .i64 0, a8]]
def a11 : AV := .isl false none 0 [.agg [.int .i64 6, .int .i64 0, .isl true none 0 []], .agg [.int .i64 6, .int .i64 1, .isl true none 0 []]]
theorem c14 : PCall Tryz.prog g0 76 [.agg [.int .i64 2, .int .i64 0, a11]] [.returned (.bool true)] := pRun_ok hmix (Orc.table_ok (Orc.tabCons c1 Orc.tabNil)) (pu := puC) (mu := muC) (n := 1000) (by kernel_rfl)
def a12 : AV := .agg [.int .i64 4, .int .i64 0, .isl false none 0 [.agg [.int .i64 6, .int .i64 0, .isl true none 0 []]]]
theorem c15 : PCall Tryz.prog g0 76 [a12] [.returned (.bool true)] := pRun_ok hmix (Orc.table_ok (Orc.tabCons c1 Orc.tabNil)) (pu := puC) (mu := muC) (n := 1000) (by kernel_rfl)
theorem c16 : PCall Tryz.prog g0 68 [.agg [.int .i64 4, .int .i64 0, .isl true none 0 []]] [.returned (.agg [.int .i64 4, .int .i64 0, .isl true none 0 []])] := pRun_ok hmix (Orc.table_ok Orc.tabNil) (pu := puC) (mu := muC) (n := 1000) (by kernel_rfl)
theorem c17 : PCall Tryz.prog g0 138 [.int .u64 2] [.returned (.int .i64 2)] := pRun_ok hmix (Orc.table_ok Orc.tabNil) (pu := puC) (mu := muC) (n := 1000) (by kernel_rfl)
theorem c18 : PCall Tryz.prog g0 124 [.int .u64 2] [.returned (.int .i64 2)] := pRun_ok hmix (Orc.table_ok (Orc.tabCons c17 Orc.tabNil)) (pu := puC) (mu := muC) (n := 1000) (by kernel_rfl)
def a13 : AV := .agg [.int .i64 4, .int .i64 0, .isl false none 0 [.agg [.int .i64 6, .int .i64 2, .isl true none 0 []]]]
def a14 : AV := .isl false none 0 [a13, .agg [.int .i64 6, .int .i64 3, .isl true none 0 []]]
def a15 : AV := .agg [.int .i64 0, .int .i64 4, .int .i64 0, .isl false none 0 [.agg [.int .i64 6, .int .i64 2, .isl true none 0 []]]]
def a16 : AV := .agg [.int .i64 3, .int .i64 4, .int .i64 0, .isl false none 0 [.agg [.int .i64 6, .int .i64 1, .isl true none 0 []]]]
theorem c19 : PCall Tryz.prog g0 16 [.agg [.int .i64 2, .int .i64 0, a2], .agg [.int .i64 2, .int .i64 0, a14]] [.returned (.tup [.isl false none 0 [a15, a16], .int .i64 0])] := pRun_ok hmix (Orc.table_ok (Orc.tabCons c5 (Orc.tabCons c1 (Orc.tabCons c16 (Orc.tabCons c10 (Orc.tabCons c12 (Orc.tabCons c18 Orc.tabNil))))))) (pu := puC) (mu := muC) (n := 1000) (by kernel_rfl)
def a17 : AV := .isl false none 0 [.agg [.int .i64 6, .int .i64 1, .isl true none 0 []], .agg [.int .i64 6, .int .i64 2, .isl true none 0 []]]
def a18 : AV := .isl false none 0 [.agg [.int .i64 1, .int .i64 6, .int .i64 0, .isl true none 0 []], .agg [.int .i64 2, .int .i64 6, .int .i64 0, .isl true none 0 []]]
theorem c20 : PCall Tryz.prog g0 16 [.agg [.int .i64 2, .int .i64 0, a11], .agg [.int .i64 2, .int .i64 0, a17]] [.returned (.tup [a18, .int .i64 0])] := pRun_ok hmix (Orc.table_ok (Orc.tabCons c14 (Orc.tabCons c1 (Orc.tabCons c11 (Orc.tabCons c18 Orc.tabNil))))) (pu := puC) (mu := muC) (n := 1000) (by kernel_rfl)
def a19 : AV := .isl false none 0 [.agg [.int .i64 1, .int .i64 0, .isl true none 0 []], a4]
def a20 : AV := .agg [.int .i64 4, .int .i64 0, .isl false none 0 [.agg [.int .i64 0, .int .i64 0, .isl true none 0 []]]]
def a21 : AV := .isl false none 0 [.agg [.int .i64 0, .int .i64 0, .isl true none 0 []], a20]
def a22 : AV := .isl false none 0 [.agg [.int .i64 2, .int .i64 0, a19], .agg [.int .i64 2, .int .i64 0, a21]]
theorem c21 : PCall Tryz.prog g0 53 [a22] [.returned (.tup [])] := pRun_ok hmix (Orc.table_ok (Orc.tabCons c1 Orc.tabNil)) (pu := puC) (mu := muC) (n := 1000) (by kernel_rfl)
def a23 : AV := .str [40, 39, 48, 32, 42, 32, 91, 39, 49, 93, 41]
def a24 : AV := .tup [.agg [.int .i64 2, .int .i64 0, a2], .int .i64 0]
theorem c22 : PCall Tryz.prog g0 24 [a23] [.returned a24] := pRun_ok hmix (Orc.table_ok (Orc.tabCons c1 (Orc.tabCons c5 Orc.tabNil))) (pu := puC) (mu := muC) (n := 1000) (by kernel_rfl)
theorem c23 : PCall Tryz.prog g0 76 [.agg [.int .i64 3, .int .i64 0, a3]] [.returned (.bool true)] := pRun_ok hmix (Orc.table_ok (Orc.tabCons c1 Orc.tabNil)) (pu := puC) (mu := muC) (n := 1000) (by kernel_rfl)
theorem c24 : PCall Tryz.prog g0 28 [.agg [.int .i64 3, .int .i64 0, a3]] [.returned (.bool true)] := pRun_ok hmix (Orc.table_ok (Orc.tabCons c23 Orc.tabNil)) (pu := puC) (mu := muC) (n := 1000) (by kernel_rfl)
theorem c25 : PCall Tryz.prog g0 28 [.agg [.int .i64 1, .int .i64 0, .isl true none 0 []]] [.returned (.bool true)] := pRun_ok hmix (Orc.table_ok (Orc.tabCons c2 Orc.tabNil)) (pu := puC) (mu := muC) (n := 1000) (by kernel_rfl)
theorem c26 : PCall Tryz.prog g0 30 [.agg [.int .i64 1, .int .i64 0, .isl true none 0 []]] [.returned (.int .i64 1)] := pRun_ok hmix (Orc.table_ok (Orc.tabCons c25 (Orc.tabCons c1 Orc.tabNil))) (pu := puC) (mu := muC) (n := 1000) (by kernel_rfl)
theorem c27 : PCall Tryz.prog g0 31 [.agg [.int .i64 1, .int .i64 0, .isl true none 0 []]] [.returned (.int .i64 0)] := pRun_ok hmix (Orc.table_ok (Orc.tabCons c25 (Orc.tabCons c1 Orc.tabNil))) (pu := puC) (mu := muC) (n := 1000) (by kernel_rfl)
theorem c28 : PCall Tryz.prog g0 31 [.agg [.int .i64 0, .int .i64 0, .isl true none 0 []]] [.returned (.int .i64 0)] := pRun_ok hmix (Orc.table_ok (Orc.tabCons c3 (Orc.tabCons c1 Orc.tabNil))) (pu := puC) (mu := muC) (n := 1000) (by kernel_rfl)
theorem c29 : PCall Tryz.prog g0 76 [.agg [.int .i64 4, .int .i64 0, .isl false none 0 [a4]]] [.returned (.bool true)] := pRun_ok hmix (Orc.table_ok (Orc.tabCons c1 Orc.tabNil)) (pu := puC) (mu := muC) (n := 1000) (by kernel_rfl)
theorem c30 : PCall Tryz.prog g0 28 [.agg [.int .i64 4, .int .i64 0, .isl false none 0 [a4]]] [.returned (.bool true)] := pRun_ok hmix (Orc.table_ok (Orc.tabCons c29 Orc.tabNil)) (pu := puC) (mu := muC) (n := 1000) (by kernel_rfl)
theorem c31 : PCall Tryz.prog g0 109 [a4, .int .i64 12] [.returned (.int .i64 2)] := pRun_ok hmix (Orc.table_ok Orc.tabNil) (pu := puC) (mu := muC) (n := 1000) (by kernel_rfl)
theorem c32 : PCall Tryz.prog g0 76 [a4] [.returned (.bool true)] := pRun_ok hmix (Orc.table_ok (Orc.tabCons c31 (Orc.tabCons c1 Orc.tabNil))) (pu := puC) (mu := muC) (n := 1000) (by kernel_rfl)
theorem c33 : PCall Tryz.prog g0 28 [a4] [.returned (.bool true)] := pRun_ok hmix (Orc.table_ok (Orc.tabCons c32 Orc.tabNil)) (pu := puC) (mu := muC) (n := 1000) (by kernel_rfl)
theorem c34 : PCall Tryz.prog g0 15 [] [.returned (.bool true)] := pRun_ok hmix (Orc.table_ok (Orc.tabCons c19 (Orc.tabCons c20 (Orc.tabCons c1 (Orc.tabCons c15 (Orc.tabCons c5 (Orc.tabCons c8 (Orc.tabCons c18 (Orc.tabCons c21 (Orc.tabCons c22 (Orc.tabCons c24 (Orc.tabCons c26 (Orc.tabCons c27 (Orc.tabCons c3 (Orc.tabCons c28 (Orc.tabCons c30 (Orc.tabCons c33 Orc.tabNil))))))))))))))))) (pu := puC) (mu := muC) (n := 1000) (by kernel_rfl)

theorem alive_ok : QJ 15 [] (.bool true) := QuietJ.ofCall rfl c34

def aliveQ : QSpec
  | [], K => K (.bool true)
  | _, _ => False

theorem alive_hook : QSpec.Ok Tryz.prog g0 15 aliveQ := by
  intro args K h'
  unfold aliveQ at h'
  split at h'
  · exact ⟨_, alive_ok, h'⟩
  · exact h'.elim

end Go.Proofs.YtnmolpkkemljoaaGreatDoor.closed
end
end

section
namespace Kd
open Go.Am Go.Proofs.YtnmolpkkemljoaaGreatDoor
def errF (t : Ty) : Int := if validB t = true then 0 else 1
def txtF (t : Ty) : List UInt8 := if validB t = true then writeS t else []
end Kd
noncomputable section
namespace Go.Proofs.YtnmolpkkemljoaaGreatDoor
open Go Go.Am Kd

end Go.Proofs.YtnmolpkkemljoaaGreatDoor
end
end

section
namespace Kd
open Go.Am Go.Proofs.YtnmolpkkemljoaaGreatDoor
end Kd
noncomputable section
namespace Go.Proofs.YtnmolpkkemljoaaGreatDoor
open Go Go.Am Kd

/-- The panic of what is refused. -/
def stopC (e : Int) : AChain := [(.iface 117 (.agg [.int .i64 e]), false)]

end Go.Proofs.YtnmolpkkemljoaaGreatDoor
end
end

section
set_option maxRecDepth 100000
namespace Kd
open Go.Am Go.Proofs.YtnmolpkkemljoaaGreatDoor

def hasP (s p : List UInt8) : Bool := Go.Lib.hasPrefix s p
def cutP (s p : List UInt8) : List UInt8 := Go.Lib.trimPrefix s p
def isDg (c : UInt8) : Bool := decide ((48 : Int) ≤ c.toNat) && decide ((c.toNat : Int) ≤ 57)
/-- With how many figures a text begins. -/
def dgN : List UInt8 → Nat
  | [] => 0
  | c :: l => if isDg c = true then dgN l + 1 else 0
def numA : List UInt8 → Int → Int
  | [], a => a
  | c :: l, a => numA l (a * 10 + (c.toNat - 48))
def numV (s : List UInt8) : Int := numA s 0
def digs (s : List UInt8) : Bool := decide (1 ≤ s.length) && (decide (s.length ≤ 3) && s.all isDg)
/-- Is there a number, by the program? -/
def okNum (s : List UInt8) : Bool := (decide (1 ≤ dgN s) && decide (dgN s ≤ 3)) && (decide (dgN s = 1) || !decide (s[0]? = some 48))
def min4 (n : Nat) : Nat := min n 4
/-- The reference's number. -/
def rnF (s : List UInt8) : Int × List UInt8 × Bool :=
  if (decide (1 ≤ dgN s) && decide (dgN s ≤ 3)) = true then (numV (s.take (dgN s)), s.drop (dgN s), decide (itoaL (numV (s.take (dgN s))) = s.take (dgN s))) else (0, s, false)
def rnV (s : List UInt8) : Int := (rnF s).1
def rnR (s : List UInt8) : List UInt8 := (rnF s).2.1
def rnB (s : List UInt8) : Bool := (rnF s).2.2
def opF (s : List UInt8) : Option (Int × List UInt8) :=
  if hasP s [32, 42, 32] = true then some (2, cutP s [32, 42, 32]) else if hasP s [32, 43, 32] = true then some (3, cutP s [32, 43, 32]) else if hasP s [32, 45, 62, 32] = true then some (5, cutP s [32, 45, 62, 32]) else none
def zeroT : Ty := .mk 0 0 true []

/-- The type with which a text begins, what is behind it, and whether there is one; by so many steps. -/
def rdF : Nat → List UInt8 → Ty × List UInt8 × Bool
  | 0, s => (zeroT, s, false)
  | n + 1, s =>
    if hasP s [117, 110, 105, 116] = true then (zeroT, cutP s [117, 110, 105, 116], true)
    else if hasP s [105, 110, 116] = true then (.mk 1 0 true [], cutP s [105, 110, 116], true)
    else if hasP s [39] = true then (varT (rnV (cutP s [39])), rnR (cutP s [39]), rnB (cutP s [39]))
    else if hasP s [91] = true then
      (if (rdF n (cutP s [91])).2.2 = true then (.mk 4 0 false [(rdF n (cutP s [91])).1], cutP (rdF n (cutP s [91])).2.1 [93], hasP (rdF n (cutP s [91])).2.1 [93]) else ((rdF n (cutP s [91])).1, s, false))
    else if hasP s [40] = true then
      (if (rdF n (cutP s [40])).2.2 = true then
        match opF (rdF n (cutP s [40])).2.1 with
        | none => ((rdF n (cutP s [40])).1, s, false)
        | some (k, m) => if (rdF n m).2.2 = true then (.mk k 0 false [(rdF n (cutP s [40])).1, (rdF n m).1], cutP (rdF n m).2.1 [41], hasP (rdF n m).2.1 [41]) else ((rdF n (cutP s [40])).1, s, false)
      else ((rdF n (cutP s [40])).1, s, false))
    else (zeroT, s, false)
def rdT (n : Nat) (s : List UInt8) : Ty := (rdF n s).1
def rdR (n : Nat) (s : List UInt8) : List UInt8 := (rdF n s).2.1
def rdB (n : Nat) (s : List UInt8) : Bool := (rdF n s).2.2
/-- What is left where the program stops. -/
def pdF : Nat → List UInt8 → List UInt8
  | 0, s => s
  | n + 1, s =>
    if hasP s [39] = true then cutP s [39]
    else if hasP s [91] = true then (if rdB n (cutP s [91]) = true then rdR n (cutP s [91]) else pdF n (cutP s [91]))
    else if hasP s [40] = true then
      (if rdB n (cutP s [40]) = true then
        match opF (rdR n (cutP s [40])) with
        | none => rdR n (cutP s [40])
        | some (_, m) => if rdB n m = true then rdR n m else pdF n m
      else pdF n (cutP s [40]))
    else s
end Kd
noncomputable section
namespace Go.Proofs.YtnmolpkkemljoaaGreatDoor
open Go Go.Am Kd

def cpQ : QSpec
  | [.str s, .str p], K => K (.tup [.str (cutP s p), .bool (hasP s p)])
  | _, _ => False
def atoiQ : QSpec
  | [.str s], K => (digs s = true) ∧ K (.tup [.int .i64 (numV s), .nili])
  | _, _ => False
def rdA (s : List UInt8) : AH := ⟨[.cells [.str s] 98], []⟩
def numSt (s : List UInt8) : LSt Nat Nat where
  n := 1
  nf := 0
  rd := none
  fr x := frm 75 [(0, .ptr 0 0), (3, .int .i64 x)]
  hp _ := rdA s
  inv x := x ≤ 4 ∧ x ≤ dgN s ∧ s.length ≤ 2000
  res _ := min4 (dgN s)
  sel _ := true
  out _ r := ⟨.exit 0, frm 75 [(0, .ptr 0 0), (3, .int .i64 r)], rdA s⟩
def numHk (s : List UInt8) : Hooks := hooks [(128, atoiQ)] [] [(2, ⟨108, 0, (numSt s).spec⟩)]
end Go.Proofs.YtnmolpkkemljoaaGreatDoor
end
end

section
noncomputable section
namespace Go.Proofs.YtnmolpkkemljoaaGreatDoor
open Go Go.Am Kd
set_option maxRecDepth 100000

theorem num_loop (s : List UInt8) (meas : Nat → Nat) (x : Nat) : (runTL hk0 60 108 0 (numSt s) meas x) = ( bothR (decide (iC x < iC (List.length s))) (bothR (decide (iC x < (4 : Int))) (0 ≤ iC x ∧ ∃ c, s[Int.toNat (iC x)]? = some c ∧ bothR (decide ((48 : Int) ≤ iC (UInt8.toNat c))) (0 ≤ iC x ∧ ∃ c, s[Int.toNat (iC x)]? = some c ∧ bothR (decide (iC (UInt8.toNat c) ≤ (57 : Int))) (∃ y, (y ≤ 4 ∧ y ≤ dgN s ∧ List.length s ≤ 2000) ∧ meas y < meas x ∧ min4 (dgN s) = min4 (dgN s) ∧ AV.ptr (0) (0) = AV.ptr (0) (0) ∧
 AV.int IntKind.i64 (IntKind.wrap IntKind.i64 (iC x + (1 : Int))) = AV.int IntKind.i64 (iC y) ∧ 98 = 98 ∧ AV.str s = AV.str s ∧ 0 = 0 ∧ True) (true = true ∧ AV.ptr (0) (0) = AV.ptr (0) (0) ∧ AV.int IntKind.i64 (iC x) = AV.int IntKind.i64 (iC (min4 (dgN s))) ∧ 98 = 98 ∧ AV.str s = AV.str s ∧ 0 = 0 ∧ True)) (true = true ∧ AV.ptr (0) (0) = AV.ptr (0) (0) ∧ AV.int IntKind.i64 (iC x) = AV.int IntKind.i64 (iC (min4 (dgN s))) ∧ 98 = 98 ∧ AV.str s = AV.str s ∧ 0 = 0 ∧ True)) (true = true ∧ AV.ptr (0) (0) = AV.ptr (0) (0) ∧ AV.int IntKind.i64 (iC x) = AV.int IntKind.i64 (iC (min4 (dgN s))) ∧
 98 = 98 ∧ AV.str s = AV.str s ∧ 0 = 0 ∧ True)) (true = true ∧ AV.ptr (0) (0) = AV.ptr (0) (0) ∧ AV.int IntKind.i64 (iC x) = AV.int IntKind.i64 (iC (min4 (dgN s))) ∧ 98 = 98 ∧ AV.str s = AV.str s ∧ 0 = 0 ∧ True)) := by kernel_rfl

theorem num_top (s s' : List UInt8) (e : AEnd) : (runT (numHk s) 60 108 [.ptr 0 0] (rdA s) (hpIs 0 e (rdA s'))) = ( codeIs (loopOf Tryz.prog 108 0) Tryz.prog 108 0 (∃ x, (x ≤ 4 ∧ x ≤ dgN s ∧ List.length s ≤ 2000) ∧ AV.ptr (0) (0) = AV.ptr (0) (0) ∧ AV.int IntKind.i64 (0) = AV.int IntKind.i64 (iC x) ∧ 98 = 98 ∧ AV.str s = AV.str s ∧ 0 = 0 ∧ 0 ≤ iC (min4 (dgN s)) ∧ (0 ≤ Int.toNat (iC (min4 (dgN s))) ∧ Int.toNat (iC (min4 (dgN s))) ≤ List.length s) ∧ bothR (decide ((1 : Int) ≤ iC (min4 (dgN s)))) (bothR (decide (iC (min4 (dgN s)) ≤ (3 : Int))) (bothR (decide (iC (min4 (dgN s)) = (1 : Int)))
 (0 ≤ iC (min4 (dgN s)) ∧ (Int.toNat (iC (min4 (dgN s))) ≤ List.length s ∧ List.length s ≤ List.length s) ∧ digs (List.take (Int.toNat (iC (min4 (dgN s))) - 0) s) = true ∧ AEnd.returned (AV.int IntKind.i64 (numV (List.take (Int.toNat (iC (min4 (dgN s))) - 0) s))) = e ∧ 98 = 98 ∧ AV.str (List.take (List.length s - Int.toNat (iC (min4 (dgN s)))) (List.drop (Int.toNat (iC (min4 (dgN s)))) s)) = AV.str s' ∧ 0 = 0 ∧ True) (Int.NonNeg (0) ∧ ∃ c, (List.take (Int.toNat (iC (min4 (dgN s))) - 0) s)[0]? = some c ∧ bothR (!!decide (iC (UInt8.toNat c) = (48 : Int)))
 (AEnd.panicked [(AV.iface (117) (AV.agg [AV.int IntKind.i64 (8)]), false)] = e ∧ 98 = 98 ∧ AV.str s = AV.str s' ∧ 0 = 0 ∧ True) (0 ≤ iC (min4 (dgN s)) ∧ (Int.toNat (iC (min4 (dgN s))) ≤ List.length s ∧ List.length s ≤ List.length s) ∧ digs (List.take (Int.toNat (iC (min4 (dgN s))) - 0) s) = true ∧ AEnd.returned (AV.int IntKind.i64 (numV (List.take (Int.toNat (iC (min4 (dgN s))) - 0) s))) = e ∧ 98 = 98 ∧ AV.str (List.take (List.length s - Int.toNat (iC (min4 (dgN s)))) (List.drop (Int.toNat (iC (min4 (dgN s)))) s)) = AV.str s' ∧ 0 = 0 ∧ True)))
 (AEnd.panicked [(AV.iface (117) (AV.agg [AV.int IntKind.i64 (8)]), false)] = e ∧ 98 = 98 ∧ AV.str s = AV.str s' ∧ 0 = 0 ∧ True)) (AEnd.panicked [(AV.iface (117) (AV.agg [AV.int IntKind.i64 (8)]), false)] = e ∧ 98 = 98 ∧ AV.str s = AV.str s' ∧ 0 = 0 ∧ True))) := by kernel_rfl

end Go.Proofs.YtnmolpkkemljoaaGreatDoor
end
end

section
set_option maxRecDepth 100000
set_option linter.unusedSimpArgs false
set_option linter.unusedVariables false
namespace Kd
open Go Go.Am Go.Proofs.YtnmolpkkemljoaaGreatDoor

theorem isDg_iff {c : UInt8} : isDg c = true ↔ 48 ≤ c.toNat ∧ c.toNat ≤ 57 := by
  simp only [isDg, Bool.and_eq_true, decide_eq_true_eq]; omega
theorem dec_num : ∀ (l : List UInt8) (a : Nat), l.all isDg = true → ∃ n, Lib.decFrom a l = some n ∧ (n : Int) = numA l a
  | [], a, _ => ⟨a, rfl, rfl⟩
  | c :: l, a, h => by
    simp only [List.all_cons, Bool.and_eq_true] at h
    have hc := isDg_iff.1 h.1
    obtain ⟨n, h1, h2⟩ := dec_num l (a * 10 + (c.toNat - 48)) h.2
    refine ⟨n, ?_, ?_⟩
    · simp only [Lib.decFrom, Lib.digitVal, if_pos hc]; exact h1
    · rw [h2]
      simp only [numA]
      congr 1
      omega
theorem atoi_num {s : List UInt8} (h : digs s = true) : Lib.atoi s = some (numV s) := by
  simp only [digs, Bool.and_eq_true, decide_eq_true_eq] at h
  obtain ⟨h1, h2, h3⟩ := h
  match s, h1 with
  | c :: l, _ =>
    obtain ⟨n, e1, e2⟩ := dec_num (c :: l) 0 h3
    simp only [List.all_cons, Bool.and_eq_true] at h3
    have hc := isDg_iff.1 h3.1
    have n1 : (c == 45) = false := by
      rw [beq_eq_false_iff_ne]; intro e; subst e; simp at hc
    have n2 : (c == 43) = false := by
      rw [beq_eq_false_iff_ne]; intro e; subst e; simp at hc
    simp only [Lib.atoi, n1, n2, Bool.false_eq_true, if_false, Lib.decNat, List.isEmpty_cons, e1, Option.map_some, e2]
    rfl

theorem dgN_le : ∀ s, dgN s ≤ s.length
  | [] => Nat.le_refl _
  | c :: l => by
    simp only [dgN]
    split
    · have := dgN_le l; simp; omega
    · simp
theorem dgN_lt : ∀ (s : List UInt8) (x : Nat), x < dgN s → ∃ c, s[x]? = some c ∧ isDg c = true
  | c :: l, x, h => by
    simp only [dgN] at h
    split at h
    · rename_i hc
      cases x with
      | zero => exact ⟨c, rfl, hc⟩
      | succ x => simpa using dgN_lt l x (by omega)
    · omega
theorem dgN_eq : ∀ (s : List UInt8), dgN s < s.length → ∃ c, s[dgN s]? = some c ∧ isDg c = false
  | c :: l, h => by
    simp only [dgN] at h ⊢
    split
    · rename_i hc
      rw [if_pos hc] at h
      simpa using dgN_eq l (by simpa using h)
    · rename_i hc
      exact ⟨c, rfl, by simpa using hc⟩
theorem dgN_all : ∀ (s : List UInt8) (x : Nat), x ≤ dgN s → (s.take x).all isDg = true
  | [], x, _ => by simp
  | c :: l, 0, _ => rfl
  | c :: l, x + 1, h => by
    simp only [dgN] at h
    split at h
    · rename_i hc
      simp only [List.take_succ_cons, List.all_cons, hc, Bool.true_and]
      exact dgN_all l x (by omega)
    · omega
theorem digs_take {s : List UInt8} (h1 : 1 ≤ dgN s) (h2 : dgN s ≤ 3) : digs (s.take (dgN s)) = true := by
  have := dgN_le s
  simp only [digs, Bool.and_eq_true, decide_eq_true_eq, List.length_take]
  exact ⟨by omega, by omega, dgN_all s _ (Nat.le_refl _)⟩
theorem dg_of {k : Nat} (h : k < 10) : isDg (dig k) = true ∧ (dig k).toNat = 48 + k := by
  have key : ∀ k : Nat, k < 10 → isDg (dig k) = true ∧ (dig k).toNat = 48 + k := by decide
  exact key k h
theorem of_dg {c : UInt8} (h : isDg c = true) : ∃ k : Nat, k < 10 ∧ c = dig k ∧ (c.toNat : Int) - 48 = k := by
  have h1 := isDg_iff.1 h
  refine ⟨c.toNat - 48, by omega, ?_, by omega⟩
  apply UInt8.toNat_inj.1
  rw [(dg_of (k := c.toNat - 48) (by omega)).2]; omega
theorem dig_inj {a b : Nat} (ha : a < 10) (hb : b < 10) (h : dig a = dig b) : a = b := by
  have h1 := (dg_of ha).2
  have h2 := (dg_of hb).2
  rw [h] at h1; omega

/-- A text of figures, up to three. -/
theorem digs_cases {s : List UInt8} (h : digs s = true) : (∃ a, a < 10 ∧ s = [dig a] ∧ numV s = (a : Int)) ∨ (∃ a b, a < 10 ∧ b < 10 ∧ s = [dig a, dig b] ∧ numV s = ((a * 10 + b : Nat) : Int)) ∨
    ∃ a b c, a < 10 ∧ b < 10 ∧ c < 10 ∧ s = [dig a, dig b, dig c] ∧ numV s = ((a * 100 + b * 10 + c : Nat) : Int) := by
  simp only [digs, Bool.and_eq_true, decide_eq_true_eq] at h
  obtain ⟨h1, h2, h3⟩ := h
  match s, h1, h2 with
  | [x], _, _ =>
    simp only [List.all_cons, List.all_nil, Bool.and_true] at h3
    obtain ⟨a, ha, rfl, e⟩ := of_dg h3
    exact .inl ⟨a, ha, rfl, by simp only [numV, numA]; omega⟩
  | [x, y], _, _ =>
    simp only [List.all_cons, List.all_nil, Bool.and_true, Bool.and_eq_true] at h3
    obtain ⟨a, ha, rfl, e⟩ := of_dg h3.1
    obtain ⟨b, hb, rfl, e'⟩ := of_dg h3.2
    exact .inr (.inl ⟨a, b, ha, hb, rfl, by simp only [numV, numA]; omega⟩)
  | [x, y, z], _, _ =>
    simp only [List.all_cons, List.all_nil, Bool.and_true, Bool.and_eq_true] at h3
    obtain ⟨a, ha, rfl, e⟩ := of_dg h3.1
    obtain ⟨b, hb, rfl, e'⟩ := of_dg h3.2.1
    obtain ⟨c, hc, rfl, e''⟩ := of_dg h3.2.2
    exact .inr (.inr ⟨a, b, c, ha, hb, hc, rfl, by simp only [numV, numA]; omega⟩)
/-- It is written so just where there is no nought ahead. -/
theorem digs_itoa {s : List UInt8} (h : digs s = true) : (itoaL (numV s) = s) ↔ (s.length = 1 ∨ s[0]? ≠ some 48) := by
  have z : ∀ {a : Nat}, a < 10 → (dig a = 48 ↔ a = 0) := by
    intro a ha
    have : (48 : UInt8) = dig 0 := rfl
    rw [this]
    exact ⟨fun h => dig_inj ha (by omega) h, fun h => by rw [h]⟩
  rcases digs_cases h with ⟨a, ha, rfl, e⟩ | ⟨a, b, ha, hb, rfl, e⟩ | ⟨a, b, c, ha, hb, hc, rfl, e⟩
  · rw [e]
    simp only [itoaL, itoaN, Int.toNat_natCast, if_pos ha, List.length_singleton, true_or]
  · rw [e]
    simp only [itoaL, itoaN, Int.toNat_natCast, List.length_cons, List.length_nil, List.getElem?_cons_zero, ne_eq, Option.some.injEq, z ha]
    by_cases h0 : a = 0
    · subst h0
      simp only [Nat.zero_mul, Nat.zero_add, if_pos hb]
      simp
    · rw [if_neg (by omega), if_pos (by omega), show (a * 10 + b) / 10 = a by omega, show (a * 10 + b) % 10 = b by omega]
      simp [h0]
  · rw [e]
    simp only [itoaL, itoaN, Int.toNat_natCast, List.length_cons, List.length_nil, List.getElem?_cons_zero, ne_eq, Option.some.injEq, z ha]
    by_cases h0 : a = 0
    · subst h0
      simp only [Nat.zero_mul, Nat.zero_add]
      by_cases h1 : b * 10 + c < 10
      · rw [if_pos h1]; simp
      · rw [if_neg h1, if_pos (by omega)]; simp
    · rw [if_neg (by omega), if_neg (by omega), show (a * 100 + b * 10 + c) / 100 = a by omega, show (a * 100 + b * 10 + c) / 10 % 10 = b by omega, show (a * 100 + b * 10 + c) % 10 = c by omega]
      simp [h0]

theorem okNum_eq (s : List UInt8) : okNum s = rnB s := by
  unfold okNum rnB rnF
  cases h : decide (1 ≤ dgN s) && decide (dgN s ≤ 3) with
  | false => simp
  | true =>
    simp only [Bool.and_eq_true, decide_eq_true_eq] at h
    have hd := digs_take h.1 h.2
    have hi := digs_itoa hd
    have hl := dgN_le s
    have h0 : (s.take (dgN s))[0]? = s[0]? := by rw [List.getElem?_take, if_pos (by omega)]
    rw [h0, List.length_take, Nat.min_eq_left hl] at hi
    simp only [if_true, Bool.true_and]
    rw [Bool.eq_iff_iff]
    simp only [Bool.or_eq_true, decide_eq_true_eq, Bool.not_eq_true', decide_eq_false_iff_not]
    exact hi.symm
end Kd
noncomputable section
namespace Go.Proofs.YtnmolpkkemljoaaGreatDoor
open Go Go.Am Kd

theorem cp_ok {G : Gl} (s p : List UInt8) : QuietJ Tryz.prog G 127 [.str s, .str p] (.tup [.str (cutP s p), .bool (hasP s p)]) := by
  refine QuietJ.of_below fun S A w vs hi hl => ?_
  cases hl with
  | cons _ _ v _ hv hl =>
  cases hl with
  | cons _ _ u _ hu hl =>
  cases hl
  cases hv
  cases hu
  refine (Go.Proofs.Tryz.strings_CutPrefix _ _ w).mono ?_
  rintro e w' ⟨rfl, rfl⟩
  exact ⟨.returned _ _ (.tup _ _ (.cons _ _ _ _ (by simpa [cutP] using VRel.str (S := S) (cutP s p)) (.cons _ _ _ _ (by simpa [hasP] using VRel.bool (S := S) (hasP s p)) .nil))), Go.RowKit.Below.refl _ _⟩
theorem cp_hook {G : Gl} : QSpec.Ok Tryz.prog G 127 cpQ := by
  intro args K h
  unfold cpQ at h
  split at h
  · exact ⟨_, cp_ok _ _, h⟩
  · exact h.elim
theorem atoi_ok {G : Gl} (s : List UInt8) (h : digs s = true) : QuietJ Tryz.prog G 128 [.str s] (.tup [.int .i64 (numV s), .nili]) := by
  refine QuietJ.of_below fun S A w vs hi hl => ?_
  cases hl with
  | cons _ _ v _ hv hl =>
  cases hl
  cases hv
  have hlen : s.length ≤ 3 := by
    simp only [digs, Bool.and_eq_true, decide_eq_true_eq] at h
    exact h.2.1
  refine (Go.Proofs.Tryz.strconv_Atoi _ (numV s) (by show s.toArray.size ≤ 18; simp; omega) (by simpa using atoi_num h) w).mono ?_
  rintro e w' ⟨rfl, t, rfl⟩
  exact ⟨.returned _ _ (.tup _ _ (.cons _ _ _ _ (.int _ _) (.cons _ _ _ _ .nili .nil))), ⟨rfl, rfl, rfl, by rw [Lib.bytesWorld_size]; omega, fun j hj => Lib.bytesWorld_at_old _ _ _ j hj⟩⟩
theorem atoi_hook {G : Gl} : QSpec.Ok Tryz.prog G 128 atoiQ := by
  intro args K h
  unfold atoiQ at h
  split at h
  · exact ⟨_, atoi_ok _ h.1, h.2⟩
  · exact h.elim

theorem min4_le (n : Nat) : min4 n ≤ n ∧ min4 n ≤ 4 := by unfold min4; omega

theorem numSt_ok (s : List UInt8) : LHook.Ok Tryz.prog gT ⟨108, 0, (numSt s).spec⟩ := by
  refine LSt.byT (hk := hk0) (numSt s) (fun x => 4 - x) (mkHooks_ok all_nil all_nil all_nil) rfl ?_ ?_ ?_
  · intro x _
    exact Whole.frm rfl rfl (by simp [numSt, AV.bnd]) rfl
  · intro x b _
    exact Whole.frm rfl rfl (by simp [numSt, AV.bnd]) rfl
  · rintro x ⟨h4, hx, hl⟩
    have hle := dgN_le s
    rw [num_loop]
    simp only [iC, eq_self, true_and, and_true, Int.toNat_natCast, AV.int.injEq]
    have fin : x = min4 (dgN s) → (x : Int) = (min4 (dgN s) : Nat) := fun h => by rw [← h]
    refine bothR_dec (fun h1 => bothR_dec (fun h2 => ?_) fun h2 => fin ?_) fun h1 => fin ?_
    · refine ⟨by omega, ?_⟩
      rcases Nat.lt_or_ge x (dgN s) with hlt | hge
      · obtain ⟨c, hc, hd⟩ := dgN_lt s x hlt
        have hd := isDg_iff.1 hd
        refine ⟨c, hc, bothR_dec (fun _ => ⟨by omega, c, hc, bothR_dec (fun _ => ⟨x + 1, ⟨by omega, by omega, hl⟩, by omega, ?_⟩) fun h => by omega⟩) fun h => by omega⟩
        rw [wrap_id (by omega) (by omega)]; rfl
      · have hxe : x = dgN s := by omega
        subst hxe
        obtain ⟨c, hc, hd⟩ := dgN_eq s (by omega)
        have hm : dgN s = min4 (dgN s) := by unfold min4; omega
        have hd : ¬ (48 ≤ c.toNat ∧ c.toNat ≤ 57) := fun h => by rw [isDg_iff.2 h] at hd; cases hd
        refine ⟨c, hc, bothR_dec (fun _ => ⟨by omega, c, hc, bothR_dec (fun _ => by omega) fun h => fin hm⟩) fun h => fin hm⟩
    · unfold min4; omega
    · unfold min4; omega

def numEnd (s : List UInt8) : AEnd := match rnB s with | true => .returned (.int .i64 (rnV s)) | false => .panicked (stopC 8)
def numAft (s : List UInt8) : List UInt8 := match rnB s with | true => rnR s | false => s

theorem num_ok (s : List UInt8) (hl : s.length ≤ 2000) : FuncJ Tryz.prog gT 108 [.ptr 0 0] (rdA s) (hpIs 0 (numEnd s) (rdA (numAft s))) := by
  have hh : Hooks.Ok Tryz.prog gT (numHk s) := mkHooks_ok (all_cons atoi_hook all_nil) all_nil (all_cons (numSt_ok s) all_nil)
  refine FuncJ.run (el := els) (mu := mu0) (hk := numHk s) hmix hh (n := 60) ?_
  show runT (numHk s) 60 108 [.ptr 0 0] (rdA s) _
  have hle := dgN_le s
  have hm := min4_le (dgN s)
  rw [num_top]
  simp only [iC, eq_self, true_and, and_true, Int.toNat_natCast, AV.int.injEq, codeIs_self, AV.str.injEq, Nat.sub_zero]
  refine ⟨0, ⟨by omega, by omega, hl⟩, rfl, by omega, ⟨by omega, by omega⟩, ?_⟩
  have bad : rnB s = false → AEnd.panicked [(AV.iface 117 (AV.agg [AV.int .i64 8]), false)] = numEnd s ∧ s = numAft s := by
    intro h; unfold numEnd numAft; rw [h]; exact ⟨rfl, rfl⟩
  have eok := okNum_eq s
  refine bothR_dec (fun h1 => bothR_dec (fun h3 => ?_) fun h3 => bad ?_) fun h1 => bad ?_
  · have e4 : min4 (dgN s) = dgN s := by unfold min4 at *; omega
    rw [e4] at h1 h3 ⊢
    have hd := digs_take (s := s) (by omega) (by omega)
    have hrng : (decide (1 ≤ dgN s) && decide (dgN s ≤ 3)) = true := by simp; omega
    have good : rnB s = true → AEnd.returned (AV.int .i64 (numV (s.take (dgN s)))) = numEnd s ∧ (s.drop (dgN s)).take (s.length - dgN s) = numAft s := by
      intro h
      unfold numEnd numAft
      rw [h]
      refine ⟨?_, ?_⟩
      · simp only [rnV, rnF, hrng, if_true]
      · simp only [rnR, rnF, hrng, if_true]
        exact List.take_of_length_le (by simp)
    have h0 : (s.take (dgN s))[0]? = s[0]? := by rw [List.getElem?_take, if_pos (by omega)]
    refine bothR_dec (fun h => ⟨by omega, ⟨by omega, by omega⟩, hd, good ?_⟩) fun h => ⟨nn 0, ?_⟩
    · rw [← eok]
      have : decide (dgN s = 1) = true := by simp; omega
      simp only [okNum, hrng, this, Bool.true_or, Bool.and_self]
    · obtain ⟨c, hc, hcd⟩ := dgN_lt s 0 (by omega)
      rw [h0]
      have h1' : decide (dgN s = 1) = false := by simp; omega
      refine ⟨c, hc, ?_⟩
      rw [Bool.not_not]
      refine bothR_dec (fun h48 => bad ?_) fun h48 => ⟨by omega, ⟨by omega, by omega⟩, hd, good ?_⟩
      · rw [← eok]
        have : c = 48 := by
          apply UInt8.toNat_inj.1
          have : c.toNat = 48 := by omega
          rw [this]; rfl
        simp only [okNum, h1', hc, this, decide_true, Bool.not_true, Bool.or_self, Bool.and_false]
      · rw [← eok]
        have : ¬ c = 48 := by
          intro e; subst e; exact h48 rfl
        simp only [okNum, hrng, h1', hc, Option.some.injEq, decide_eq_false this, Bool.not_false, Bool.or_true, Bool.and_self]
  · rw [← eok]
    have : decide (dgN s ≤ 3) = false := by simp; unfold min4 at h3; omega
    simp only [okNum, this, Bool.and_false, Bool.false_and]
  · rw [← eok]
    have : decide (1 ≤ dgN s) = false := by simp; unfold min4 at h1; omega
    simp only [okNum, this, Bool.false_and]

theorem hasP_iff {s p : List UInt8} : hasP s p = true ↔ p.length ≤ s.length ∧ s.take p.length = p := by
  simp only [hasP, Lib.hasPrefix, List.isPrefixOf_iff_prefix]
  constructor
  · rintro ⟨t, rfl⟩; simp
  · rintro ⟨h1, h2⟩; exact ⟨s.drop p.length, by conv => lhs; arg 1; rw [← h2]
                                                exact List.take_append_drop _ _⟩
theorem cutP_yes {s p : List UInt8} (h : hasP s p = true) : cutP s p = s.drop p.length := by
  have h : Lib.hasPrefix s p = true := h
  simp only [cutP, Lib.trimPrefix, h, if_true]
theorem cutP_no {s p : List UInt8} (h : hasP s p = false) : cutP s p = s := by
  have h : Lib.hasPrefix s p = false := h
  simp only [cutP, Lib.trimPrefix, h, Bool.false_eq_true, if_false]

end Go.Proofs.YtnmolpkkemljoaaGreatDoor
end
end

section
noncomputable section
namespace Go.Proofs.YtnmolpkkemljoaaGreatDoor
open Go Go.Am Kd

def numH : HSpec := fun args A K =>
  match args with
  | [.ptr b 0] =>
    match nthR A.blks b with
    | some (.cells [.str s] 98) => (s.length ≤ 2000) ∧ bothR (rnB s) (K ⟨.returned (.int .i64 (rnV s)), A.put b (.cells [.str (rnR s)] 98)⟩) (K ⟨.panicked (stopC 8), A.put b (.cells [.str s] 98)⟩)
    | _ => False
  | _ => False
def tyH (N : Nat) : HSpec := fun args A K =>
  match args with
  | [.ptr b 0] =>
    match nthR A.blks b with
    | some (.cells [.str s] 98) => (s.length < N ∧ s.length ≤ 2000) ∧ bothR (rdB N s) (K ⟨.returned (encD (rdT N s)), A.put b (.cells [.str (rdR N s)] 98)⟩) (K ⟨.panicked (stopC 8), A.put b (.cells [.str (pdF N s)] 98)⟩)
    | _ => False
  | _ => False
def tyHk (N : Nat) : Hooks := mkHooks Tryz.prog [(81, kindsQ), (127, cpQ)] [(75, tyH N), (108, numH)] []
def paHk : Hooks := mkHooks Tryz.prog [(76, validQ)] [(75, tyH 1300)] []
end Go.Proofs.YtnmolpkkemljoaaGreatDoor
end
end

section
noncomputable section
namespace Go.Proofs.YtnmolpkkemljoaaGreatDoor
open Go Go.Am Kd
set_option maxRecDepth 100000

theorem ty_top (N : Nat) (s s' : List UInt8) (e : AEnd) : (runT (tyHk N) 60 75 [.ptr 0 0] (rdA s) (hpFz Tryz.prog 1 0 5 e (rdA s'))) = ( bothR (hasP s [117, 110, 105, 116]) (AEnd.returned (AV.agg [AV.int IntKind.i64 (0), AV.int IntKind.i64 (0), AV.isl true none (0) []]) = e ∧ 98 = 98 ∧ AV.str (cutP s [117, 110, 105, 116]) = AV.str s' ∧ 0 = 0 ∧ True) (bothR (hasP (cutP s [117, 110, 105, 116]) [105, 110, 116]) (AEnd.returned (AV.agg [AV.int IntKind.i64 (1), AV.int IntKind.i64 (0), AV.isl true none (0) []]) = e ∧ 98 = 98 ∧ AV.str (cutP (cutP s [117, 110, 105, 116]) [105, 110, 116]) = AV.str s' ∧
 0 = 0 ∧ True) (bothR (hasP (cutP (cutP s [117, 110, 105, 116]) [105, 110, 116]) [39]) (List.length (cutP (cutP (cutP s [117, 110, 105, 116]) [105, 110, 116]) [39]) ≤ 2000 ∧ bothR (rnB (cutP (cutP (cutP s [117, 110, 105, 116]) [105, 110, 116]) [39])) (AEnd.returned (AV.agg [AV.int IntKind.i64 (6), AV.int IntKind.i64 (rnV (cutP (cutP (cutP s [117, 110, 105, 116]) [105, 110, 116]) [39])), AV.isl true none (0) []]) = e ∧ 98 = 98 ∧ AV.str (rnR (cutP (cutP (cutP s [117, 110, 105, 116]) [105, 110, 116]) [39])) = AV.str s' ∧ 0 = 0 ∧ True)
 (AEnd.panicked [(AV.iface (117) (AV.agg [AV.int IntKind.i64 (8)]), false)] = e ∧ 98 = 98 ∧ AV.str (cutP (cutP (cutP s [117, 110, 105, 116]) [105, 110, 116]) [39]) = AV.str s' ∧ 0 = 0 ∧ True)) (bothR (hasP (cutP (cutP (cutP s [117, 110, 105, 116]) [105, 110, 116]) [39]) [91]) ((List.length (cutP (cutP (cutP (cutP s [117, 110, 105, 116]) [105, 110, 116]) [39]) [91]) < N ∧ List.length (cutP (cutP (cutP (cutP s [117, 110, 105, 116]) [105, 110, 116]) [39]) [91]) ≤ 2000) ∧ bothR (rdB N (cutP (cutP (cutP (cutP s [117, 110, 105, 116]) [105, 110, 116]) [39]) [91])) (bothR (!hasP (rdR N (cutP
 (cutP (cutP (cutP s [117, 110, 105, 116]) [105, 110, 116]) [39]) [91])) [93]) (AEnd.panicked [(AV.iface (117) (AV.agg [AV.int IntKind.i64 (8)]), false)] = e ∧ 98 = 98 ∧ AV.str (cutP (rdR N (cutP (cutP (cutP (cutP s [117, 110, 105, 116]) [105, 110, 116]) [39]) [91])) [93]) = AV.str s' ∧ 0 = 0 ∧ True) (AEnd.returned (AV.agg [AV.int IntKind.i64 (4), AV.int IntKind.i64 (0), AV.isl false none (0) [AV.agg [AV.int IntKind.i64 (Ty.kind (rdT N (cutP (cutP (cutP (cutP s [117, 110, 105, 116]) [105, 110, 116]) [39]) [91]))), AV.int IntKind.i64 (Ty.n (rdT N (cutP (cutP
 (cutP (cutP s [117, 110, 105, 116]) [105, 110, 116]) [39]) [91]))), AV.isl (Ty.nl (rdT N (cutP (cutP (cutP (cutP s [117, 110, 105, 116]) [105, 110, 116]) [39]) [91]))) none (0) (encL (Ty.l (rdT N (cutP (cutP (cutP (cutP s [117, 110, 105, 116]) [105, 110, 116]) [39]) [91]))))]]]) = e ∧ 98 = 98 ∧ AV.str (cutP (rdR N (cutP (cutP (cutP (cutP s [117, 110, 105, 116]) [105, 110, 116]) [39]) [91])) [93]) = AV.str s' ∧ 0 = 0 ∧ True)) (AEnd.panicked [(AV.iface (117) (AV.agg [AV.int IntKind.i64 (8)]), false)] = e ∧ 98 = 98 ∧ AV.str (pdF N (cutP (cutP (cutP (cutP s [117, 110, 105, 116]) [105, 110, 116])
 [39]) [91])) = AV.str s' ∧ 0 = 0 ∧ True)) (bothR (!hasP (cutP (cutP (cutP (cutP s [117, 110, 105, 116]) [105, 110, 116]) [39]) [91]) [40]) (AEnd.panicked [(AV.iface (117) (AV.agg [AV.int IntKind.i64 (8)]), false)] = e ∧ 98 = 98 ∧ AV.str (cutP (cutP (cutP (cutP (cutP s [117, 110, 105, 116]) [105, 110, 116]) [39]) [91]) [40]) = AV.str s' ∧ 0 = 0 ∧ True) ((List.length (cutP (cutP (cutP (cutP (cutP s [117, 110, 105, 116]) [105, 110, 116]) [39]) [91]) [40]) < N ∧ List.length (cutP (cutP (cutP (cutP (cutP s [117, 110, 105, 116]) [105, 110, 116]) [39]) [91]) [40]) ≤ 2000) ∧ bothR (rdB N (cutP (cutP
 (cutP (cutP (cutP s [117, 110, 105, 116]) [105, 110, 116]) [39]) [91]) [40])) (bothR (hasP (rdR N (cutP (cutP (cutP (cutP (cutP s [117, 110, 105, 116]) [105, 110, 116]) [39]) [91]) [40])) [32, 42, 32]) ((List.length (cutP (rdR N (cutP (cutP (cutP (cutP (cutP s [117, 110, 105, 116]) [105, 110, 116]) [39]) [91]) [40])) [32, 42, 32]) < N ∧ List.length (cutP (rdR N (cutP (cutP (cutP (cutP (cutP s [117, 110, 105, 116]) [105, 110, 116]) [39]) [91]) [40])) [32, 42, 32]) ≤ 2000) ∧ bothR (rdB N (cutP (rdR N (cutP (cutP (cutP (cutP (cutP s [117, 110, 105, 116]) [105, 110, 116]) [39]) [91]) [40]))
 [32, 42, 32])) (AV.int IntKind.i64 (2) = AV.int IntKind.i64 (2) ∧ AV.agg [AV.int IntKind.i64 (Ty.kind (rdT N (cutP (cutP (cutP (cutP (cutP s [117, 110, 105, 116]) [105, 110, 116]) [39]) [91]) [40]))), AV.int IntKind.i64 (Ty.n (rdT N (cutP (cutP (cutP (cutP (cutP s [117, 110, 105, 116]) [105, 110, 116]) [39]) [91]) [40]))), AV.isl (Ty.nl (rdT N (cutP (cutP (cutP (cutP (cutP s [117, 110, 105, 116]) [105, 110, 116]) [39]) [91]) [40]))) none (0) (encL (Ty.l (rdT N (cutP (cutP (cutP (cutP (cutP s [117, 110, 105, 116]) [105, 110, 116]) [39]) [91]) [40]))))] = AV.agg [AV.int IntKind.i64 (Ty.kind
 (rdT N (cutP (cutP (cutP (cutP (cutP s [117, 110, 105, 116]) [105, 110, 116]) [39]) [91]) [40]))), AV.int IntKind.i64 (Ty.n (rdT N (cutP (cutP (cutP (cutP (cutP s [117, 110, 105, 116]) [105, 110, 116]) [39]) [91]) [40]))), AV.isl (Ty.nl (rdT N (cutP (cutP (cutP (cutP (cutP s [117, 110, 105, 116]) [105, 110, 116]) [39]) [91]) [40]))) none (0) (encL (Ty.l (rdT N (cutP (cutP (cutP (cutP (cutP s [117, 110, 105, 116]) [105, 110, 116]) [39]) [91]) [40]))))] ∧ bothR (!hasP (rdR N (cutP (rdR N (cutP (cutP (cutP (cutP (cutP s [117, 110, 105, 116]) [105, 110, 116]) [39]) [91]) [40])) [32, 42, 32]))
 [41]) (AEnd.panicked [(AV.iface (117) (AV.agg [AV.int IntKind.i64 (8)]), false)] = e ∧ 98 = 98 ∧ AV.str (cutP (rdR N (cutP (rdR N (cutP (cutP (cutP (cutP (cutP s [117, 110, 105, 116]) [105, 110, 116]) [39]) [91]) [40])) [32, 42, 32])) [41]) = AV.str s' ∧ 0 = 0 ∧ True) (AEnd.returned (AV.agg [AV.int IntKind.i64 (2), AV.int IntKind.i64 (0), AV.isl false none (0) [AV.agg [AV.int IntKind.i64 (Ty.kind (rdT N (cutP (cutP (cutP (cutP (cutP s [117, 110, 105, 116]) [105, 110, 116]) [39]) [91]) [40]))), AV.int IntKind.i64 (Ty.n (rdT N (cutP (cutP (cutP (cutP (cutP s [117, 110, 105, 116])
 [105, 110, 116]) [39]) [91]) [40]))), AV.isl (Ty.nl (rdT N (cutP (cutP (cutP (cutP (cutP s [117, 110, 105, 116]) [105, 110, 116]) [39]) [91]) [40]))) none (0) (encL (Ty.l (rdT N (cutP (cutP (cutP (cutP (cutP s [117, 110, 105, 116]) [105, 110, 116]) [39]) [91]) [40]))))], AV.agg [AV.int IntKind.i64 (Ty.kind (rdT N (cutP (rdR N (cutP (cutP (cutP (cutP (cutP s [117, 110, 105, 116]) [105, 110, 116]) [39]) [91]) [40])) [32, 42, 32]))), AV.int IntKind.i64 (Ty.n (rdT N (cutP (rdR N (cutP (cutP (cutP (cutP (cutP s [117, 110, 105, 116]) [105, 110, 116]) [39]) [91]) [40])) [32, 42, 32]))), AV.isl
 (Ty.nl (rdT N (cutP (rdR N (cutP (cutP (cutP (cutP (cutP s [117, 110, 105, 116]) [105, 110, 116]) [39]) [91]) [40])) [32, 42, 32]))) none (0) (encL (Ty.l (rdT N (cutP (rdR N (cutP (cutP (cutP (cutP (cutP s [117, 110, 105, 116]) [105, 110, 116]) [39]) [91]) [40])) [32, 42, 32]))))]]]) = e ∧ 98 = 98 ∧ AV.str (cutP (rdR N (cutP (rdR N (cutP (cutP (cutP (cutP (cutP s [117, 110, 105, 116]) [105, 110, 116]) [39]) [91]) [40])) [32, 42, 32])) [41]) = AV.str s' ∧ 0 = 0 ∧ True)) (AEnd.panicked [(AV.iface (117) (AV.agg [AV.int IntKind.i64 (8)]), false)] = e ∧ 98 = 98 ∧ AV.str (pdF N (cutP (rdR N (cutP
 (cutP (cutP (cutP (cutP s [117, 110, 105, 116]) [105, 110, 116]) [39]) [91]) [40])) [32, 42, 32])) = AV.str s' ∧ 0 = 0 ∧ True)) (bothR (hasP (cutP (rdR N (cutP (cutP (cutP (cutP (cutP s [117, 110, 105, 116]) [105, 110, 116]) [39]) [91]) [40])) [32, 42, 32]) [32, 43, 32]) ((List.length (cutP (cutP (rdR N (cutP (cutP (cutP (cutP (cutP s [117, 110, 105, 116]) [105, 110, 116]) [39]) [91]) [40])) [32, 42, 32]) [32, 43, 32]) < N ∧ List.length (cutP (cutP (rdR N (cutP (cutP (cutP (cutP (cutP s [117, 110, 105, 116]) [105, 110, 116]) [39]) [91]) [40])) [32, 42, 32]) [32, 43, 32]) ≤ 2000) ∧ bothR
 (rdB N (cutP (cutP (rdR N (cutP (cutP (cutP (cutP (cutP s [117, 110, 105, 116]) [105, 110, 116]) [39]) [91]) [40])) [32, 42, 32]) [32, 43, 32])) (AV.int IntKind.i64 (3) = AV.int IntKind.i64 (3) ∧ AV.agg [AV.int IntKind.i64 (Ty.kind (rdT N (cutP (cutP (cutP (cutP (cutP s [117, 110, 105, 116]) [105, 110, 116]) [39]) [91]) [40]))), AV.int IntKind.i64 (Ty.n (rdT N (cutP (cutP (cutP (cutP (cutP s [117, 110, 105, 116]) [105, 110, 116]) [39]) [91]) [40]))), AV.isl (Ty.nl (rdT N (cutP (cutP (cutP (cutP (cutP s [117, 110, 105, 116]) [105, 110, 116]) [39]) [91]) [40]))) none (0) (encL (Ty.l (rdT N
 (cutP (cutP (cutP (cutP (cutP s [117, 110, 105, 116]) [105, 110, 116]) [39]) [91]) [40]))))] = AV.agg [AV.int IntKind.i64 (Ty.kind (rdT N (cutP (cutP (cutP (cutP (cutP s [117, 110, 105, 116]) [105, 110, 116]) [39]) [91]) [40]))), AV.int IntKind.i64 (Ty.n (rdT N (cutP (cutP (cutP (cutP (cutP s [117, 110, 105, 116]) [105, 110, 116]) [39]) [91]) [40]))), AV.isl (Ty.nl (rdT N (cutP (cutP (cutP (cutP (cutP s [117, 110, 105, 116]) [105, 110, 116]) [39]) [91]) [40]))) none (0) (encL (Ty.l (rdT N (cutP (cutP (cutP (cutP (cutP s [117, 110, 105, 116]) [105, 110, 116]) [39]) [91]) [40]))))] ∧ bothR
 (!hasP (rdR N (cutP (cutP (rdR N (cutP (cutP (cutP (cutP (cutP s [117, 110, 105, 116]) [105, 110, 116]) [39]) [91]) [40])) [32, 42, 32]) [32, 43, 32])) [41]) (AEnd.panicked [(AV.iface (117) (AV.agg [AV.int IntKind.i64 (8)]), false)] = e ∧ 98 = 98 ∧ AV.str (cutP (rdR N (cutP (cutP (rdR N (cutP (cutP (cutP (cutP (cutP s [117, 110, 105, 116]) [105, 110, 116]) [39]) [91]) [40])) [32, 42, 32]) [32, 43, 32])) [41]) = AV.str s' ∧ 0 = 0 ∧ True) (AEnd.returned (AV.agg [AV.int IntKind.i64 (3), AV.int IntKind.i64 (0), AV.isl false none (0) [AV.agg [AV.int IntKind.i64 (Ty.kind (rdT N (cutP (cutP (cutP
 (cutP (cutP s [117, 110, 105, 116]) [105, 110, 116]) [39]) [91]) [40]))), AV.int IntKind.i64 (Ty.n (rdT N (cutP (cutP (cutP (cutP (cutP s [117, 110, 105, 116]) [105, 110, 116]) [39]) [91]) [40]))), AV.isl (Ty.nl (rdT N (cutP (cutP (cutP (cutP (cutP s [117, 110, 105, 116]) [105, 110, 116]) [39]) [91]) [40]))) none (0) (encL (Ty.l (rdT N (cutP (cutP (cutP (cutP (cutP s [117, 110, 105, 116]) [105, 110, 116]) [39]) [91]) [40]))))], AV.agg [AV.int IntKind.i64 (Ty.kind (rdT N (cutP (cutP (rdR N (cutP (cutP (cutP (cutP (cutP s [117, 110, 105, 116]) [105, 110, 116]) [39]) [91]) [40])) [32, 42, 32])
 [32, 43, 32]))), AV.int IntKind.i64 (Ty.n (rdT N (cutP (cutP (rdR N (cutP (cutP (cutP (cutP (cutP s [117, 110, 105, 116]) [105, 110, 116]) [39]) [91]) [40])) [32, 42, 32]) [32, 43, 32]))), AV.isl (Ty.nl (rdT N (cutP (cutP (rdR N (cutP (cutP (cutP (cutP (cutP s [117, 110, 105, 116]) [105, 110, 116]) [39]) [91]) [40])) [32, 42, 32]) [32, 43, 32]))) none (0) (encL (Ty.l (rdT N (cutP (cutP (rdR N (cutP (cutP (cutP (cutP (cutP s [117, 110, 105, 116]) [105, 110, 116]) [39]) [91]) [40])) [32, 42, 32]) [32, 43, 32]))))]]]) = e ∧ 98 = 98 ∧ AV.str (cutP (rdR N (cutP (cutP (rdR N (cutP (cutP (cutP
 (cutP (cutP s [117, 110, 105, 116]) [105, 110, 116]) [39]) [91]) [40])) [32, 42, 32]) [32, 43, 32])) [41]) = AV.str s' ∧ 0 = 0 ∧ True)) (AEnd.panicked [(AV.iface (117) (AV.agg [AV.int IntKind.i64 (8)]), false)] = e ∧ 98 = 98 ∧ AV.str (pdF N (cutP (cutP (rdR N (cutP (cutP (cutP (cutP (cutP s [117, 110, 105, 116]) [105, 110, 116]) [39]) [91]) [40])) [32, 42, 32]) [32, 43, 32])) = AV.str s' ∧ 0 = 0 ∧ True)) (bothR (hasP (cutP (cutP (rdR N (cutP (cutP (cutP (cutP (cutP s [117, 110, 105, 116]) [105, 110, 116]) [39]) [91]) [40])) [32, 42, 32]) [32, 43, 32]) [32, 45, 62, 32]) ((List.length (cutP
 (cutP (cutP (rdR N (cutP (cutP (cutP (cutP (cutP s [117, 110, 105, 116]) [105, 110, 116]) [39]) [91]) [40])) [32, 42, 32]) [32, 43, 32]) [32, 45, 62, 32]) < N ∧ List.length (cutP (cutP (cutP (rdR N (cutP (cutP (cutP (cutP (cutP s [117, 110, 105, 116]) [105, 110, 116]) [39]) [91]) [40])) [32, 42, 32]) [32, 43, 32]) [32, 45, 62, 32]) ≤ 2000) ∧ bothR (rdB N (cutP (cutP (cutP (rdR N (cutP (cutP (cutP (cutP (cutP s [117, 110, 105, 116]) [105, 110, 116]) [39]) [91]) [40])) [32, 42, 32]) [32, 43, 32]) [32, 45, 62, 32])) (AV.int IntKind.i64 (5) = AV.int IntKind.i64 (5) ∧ AV.agg [AV.int IntKind.i64
 (Ty.kind (rdT N (cutP (cutP (cutP (cutP (cutP s [117, 110, 105, 116]) [105, 110, 116]) [39]) [91]) [40]))), AV.int IntKind.i64 (Ty.n (rdT N (cutP (cutP (cutP (cutP (cutP s [117, 110, 105, 116]) [105, 110, 116]) [39]) [91]) [40]))), AV.isl (Ty.nl (rdT N (cutP (cutP (cutP (cutP (cutP s [117, 110, 105, 116]) [105, 110, 116]) [39]) [91]) [40]))) none (0) (encL (Ty.l (rdT N (cutP (cutP (cutP (cutP (cutP s [117, 110, 105, 116]) [105, 110, 116]) [39]) [91]) [40]))))] = AV.agg [AV.int IntKind.i64 (Ty.kind (rdT N (cutP (cutP (cutP (cutP (cutP s [117, 110, 105, 116]) [105, 110, 116]) [39]) [91])
 [40]))), AV.int IntKind.i64 (Ty.n (rdT N (cutP (cutP (cutP (cutP (cutP s [117, 110, 105, 116]) [105, 110, 116]) [39]) [91]) [40]))), AV.isl (Ty.nl (rdT N (cutP (cutP (cutP (cutP (cutP s [117, 110, 105, 116]) [105, 110, 116]) [39]) [91]) [40]))) none (0) (encL (Ty.l (rdT N (cutP (cutP (cutP (cutP (cutP s [117, 110, 105, 116]) [105, 110, 116]) [39]) [91]) [40]))))] ∧ bothR (!hasP (rdR N (cutP (cutP (cutP (rdR N (cutP (cutP (cutP (cutP (cutP s [117, 110, 105, 116]) [105, 110, 116]) [39]) [91]) [40])) [32, 42, 32]) [32, 43, 32]) [32, 45, 62, 32])) [41])
 (AEnd.panicked [(AV.iface (117) (AV.agg [AV.int IntKind.i64 (8)]), false)] = e ∧ 98 = 98 ∧ AV.str (cutP (rdR N (cutP (cutP (cutP (rdR N (cutP (cutP (cutP (cutP (cutP s [117, 110, 105, 116]) [105, 110, 116]) [39]) [91]) [40])) [32, 42, 32]) [32, 43, 32]) [32, 45, 62, 32])) [41]) = AV.str s' ∧ 0 = 0 ∧ True) (AEnd.returned (AV.agg [AV.int IntKind.i64 (5), AV.int IntKind.i64 (0), AV.isl false none (0) [AV.agg [AV.int IntKind.i64 (Ty.kind (rdT N (cutP (cutP (cutP (cutP (cutP s [117, 110, 105, 116]) [105, 110, 116]) [39]) [91]) [40]))), AV.int IntKind.i64 (Ty.n (rdT N (cutP (cutP (cutP
 (cutP (cutP s [117, 110, 105, 116]) [105, 110, 116]) [39]) [91]) [40]))), AV.isl (Ty.nl (rdT N (cutP (cutP (cutP (cutP (cutP s [117, 110, 105, 116]) [105, 110, 116]) [39]) [91]) [40]))) none (0) (encL (Ty.l (rdT N (cutP (cutP (cutP (cutP (cutP s [117, 110, 105, 116]) [105, 110, 116]) [39]) [91]) [40]))))], AV.agg [AV.int IntKind.i64 (Ty.kind (rdT N (cutP (cutP (cutP (rdR N (cutP (cutP (cutP (cutP (cutP s [117, 110, 105, 116]) [105, 110, 116]) [39]) [91]) [40])) [32, 42, 32]) [32, 43, 32]) [32, 45, 62, 32]))), AV.int IntKind.i64 (Ty.n (rdT N (cutP (cutP (cutP (rdR N (cutP (cutP (cutP
 (cutP (cutP s [117, 110, 105, 116]) [105, 110, 116]) [39]) [91]) [40])) [32, 42, 32]) [32, 43, 32]) [32, 45, 62, 32]))), AV.isl (Ty.nl (rdT N (cutP (cutP (cutP (rdR N (cutP (cutP (cutP (cutP (cutP s [117, 110, 105, 116]) [105, 110, 116]) [39]) [91]) [40])) [32, 42, 32]) [32, 43, 32]) [32, 45, 62, 32]))) none (0) (encL (Ty.l (rdT N (cutP (cutP (cutP (rdR N (cutP (cutP (cutP (cutP (cutP s [117, 110, 105, 116]) [105, 110, 116]) [39]) [91]) [40])) [32, 42, 32]) [32, 43, 32]) [32, 45, 62, 32]))))]]]) = e ∧ 98 = 98 ∧ AV.str (cutP (rdR N (cutP (cutP (cutP (rdR N (cutP (cutP (cutP
 (cutP (cutP s [117, 110, 105, 116]) [105, 110, 116]) [39]) [91]) [40])) [32, 42, 32]) [32, 43, 32]) [32, 45, 62, 32])) [41]) = AV.str s' ∧ 0 = 0 ∧ True)) (AEnd.panicked [(AV.iface (117) (AV.agg [AV.int IntKind.i64 (8)]), false)] = e ∧ 98 = 98 ∧ AV.str (pdF N (cutP (cutP (cutP (rdR N (cutP (cutP (cutP (cutP (cutP s [117, 110, 105, 116]) [105, 110, 116]) [39]) [91]) [40])) [32, 42, 32]) [32, 43, 32]) [32, 45, 62, 32])) = AV.str s' ∧ 0 = 0 ∧ True)) (AEnd.panicked [(AV.iface (117) (AV.agg [AV.int IntKind.i64 (8)]), false)] = e ∧ 98 = 98 ∧ AV.str (cutP (cutP (cutP (rdR N (cutP (cutP (cutP
 (cutP (cutP s [117, 110, 105, 116]) [105, 110, 116]) [39]) [91]) [40])) [32, 42, 32]) [32, 43, 32]) [32, 45, 62, 32]) = AV.str s' ∧ 0 = 0 ∧ True)))) (AEnd.panicked [(AV.iface (117) (AV.agg [AV.int IntKind.i64 (8)]), false)] = e ∧ 98 = 98 ∧ AV.str (pdF N (cutP (cutP (cutP (cutP (cutP s [117, 110, 105, 116]) [105, 110, 116]) [39]) [91]) [40])) = AV.str s' ∧ 0 = 0 ∧ True))))))) := by kernel_rfl

theorem pa_top (s : List UInt8) (r : Ty) (e : Int) : (runT paHk 60 24 [.str s] AH.nil (retIs Tryz.prog 5 (.tup [encD r, .int .i64 e]))) = ( bothR (!decide (iC (List.length s) ≤ (1000 : Int))) (AV.tup [AV.agg [AV.int IntKind.i64 (0), AV.int IntKind.i64 (0), AV.isl true none (0) []], AV.int IntKind.i64 (3)] = AV.tup [AV.agg [AV.int IntKind.i64 (Ty.kind r), AV.int IntKind.i64 (Ty.n r), AV.isl (Ty.nl r) none (0) (encL (Ty.l r))], AV.int IntKind.i64 e]) ((List.length s < 1300 ∧ List.length s ≤ 2000) ∧ bothR (rdB 1300 s) (bothR (!decide (rdR 1300 s = []))
 (AV.tup [AV.agg [AV.int IntKind.i64 (0), AV.int IntKind.i64 (0), AV.isl true none (0) []], AV.int IntKind.i64 (8)] = AV.tup [AV.agg [AV.int IntKind.i64 (Ty.kind r), AV.int IntKind.i64 (Ty.n r), AV.isl (Ty.nl r) none (0) (encL (Ty.l r))], AV.int IntKind.i64 e]) (∃ l, encL (Ty.l (rdT 1300 s)) = encL l ∧ cnt (Ty.mk (Ty.kind (rdT 1300 s)) (Ty.n (rdT 1300 s)) (Ty.nl (rdT 1300 s)) l) ≤ 1000 ∧ bothR (!validB (Ty.mk (Ty.kind (rdT 1300 s)) (Ty.n (rdT 1300 s)) (Ty.nl (rdT 1300 s)) l)) (AV.tup [AV.agg [AV.int IntKind.i64 (0), AV.int IntKind.i64 (0), AV.isl true none (0) []], AV.int IntKind.i64 (9)] =
 AV.tup [AV.agg [AV.int IntKind.i64 (Ty.kind r), AV.int IntKind.i64 (Ty.n r), AV.isl (Ty.nl r) none (0) (encL (Ty.l r))], AV.int IntKind.i64 e]) (AV.tup [AV.agg [AV.int IntKind.i64 (Ty.kind (rdT 1300 s)), AV.int IntKind.i64 (Ty.n (rdT 1300 s)), AV.isl (Ty.nl (rdT 1300 s)) none (0) (encL (Ty.l (rdT 1300 s)))], AV.int IntKind.i64 (0)] = AV.tup [AV.agg [AV.int IntKind.i64 (Ty.kind r), AV.int IntKind.i64 (Ty.n r), AV.isl (Ty.nl r) none (0) (encL (Ty.l r))], AV.int IntKind.i64 e]))) (AV.tup [AV.agg [AV.int IntKind.i64 (0), AV.int IntKind.i64 (0), AV.isl true none (0) []], AV.int IntKind.i64 (8)] =
 AV.tup [AV.agg [AV.int IntKind.i64 (Ty.kind r), AV.int IntKind.i64 (Ty.n r), AV.isl (Ty.nl r) none (0) (encL (Ty.l r))], AV.int IntKind.i64 e]))) := by kernel_rfl

end Go.Proofs.YtnmolpkkemljoaaGreatDoor
end
end

section
set_option maxRecDepth 100000
set_option linter.unusedSimpArgs false
set_option linter.unusedVariables false
noncomputable section
namespace Go.Proofs.YtnmolpkkemljoaaGreatDoor
open Go Go.Am Kd

theorem stop_bnd (n nf : Nat) (e : Int) : AEnd.bnd n nf (.panicked (stopC e)) = true := rfl

end Go.Proofs.YtnmolpkkemljoaaGreatDoor
end
end
