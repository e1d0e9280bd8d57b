/- Contracts of the library, laid at this program. -/
import Derived.Shelf.Strings.Builder1
import Derived.Shelf.Strings.Trim
import Derived.Shelf.Small.Utf8
import Derived.Shelf.Small.Strs
import Derived.Shelf.Small.Wraps
import Derived.Shelf.Strings.BuilderF
import Derived.Shelf.Strings.Search1
import Derived.Shelf.Unicode.Decode
import Derived.Shelf.Strings.Runes
import Derived.Shelf.Strings.AsciiSet
import Derived.Shelf.Bits.Mul64
import Derived.Shelf.Unicode.DecodeSlow
import Derived.Shelf.Unicode.DecodeAny
import Derived.Shelf.Unicode.DecodeLast
import Derived.Shelf.Slices.Turned
import Derived.Shelf.Slices.Reverse
import Derived.Ground.Names2Prog
import Derived.Shelf.Slices.Clone
import Derived.Shelf.Slices.CompactI
import Derived.Shelf.Slices.SearchI
import Derived.Shelf.Slices.Cells
import Derived.Ground.SlgnProg
import Derived.Shelf.SlicesE.Reverse
import Derived.Shelf.SlicesE.Clone
import Derived.Test.YtkfdjkkbnfohjaaDoorProg
namespace Go.Proofs
open Go.Shelf
def Tryd.lays212_ren : Go.Shelf.Ren := ⟨fun | 212 => 161 | 263 => 193 | 264 => 194 | n => n, fun | 46 => 75 | 51 => 286 | 146 => 298 | 53 => 265 | 148 => 300 | n => n, fun | n => n⟩
theorem Tryd.lays212 : Go.Proofs.Lays.n212 Tryd.prog Tryd.lays212_ren := {
 mixed := by kernel_rfl
 f212 := Tryd.func161.trans (congrArg some (by kernel_rfl))
 f263 := Tryd.func193.trans (congrArg some (by kernel_rfl))
 f264 := Tryd.func194.trans (congrArg some (by kernel_rfl))
 t46 := Tryd.underlying75
 a46 := Tryd.isAgg75
 z46 := Tryd.sizeOf75
 v46 := Tryd.zeroValue75
 t51 := Tryd.underlying286
 a51 := Tryd.isAgg286
 z51 := Tryd.sizeOf286
 v51 := Tryd.zeroValue286
 t53 := Tryd.underlying265
 a53 := Tryd.isAgg265
 z53 := Tryd.sizeOf265
 v53 := Tryd.zeroValue265
 t146 := Tryd.underlying298
 a146 := Tryd.isAgg298
 z146 := Tryd.sizeOf298
 v146 := Tryd.zeroValue298
 t148 := Tryd.underlying300
 a148 := Tryd.isAgg300
 z148 := Tryd.sizeOf300
 v148 := Tryd.zeroValue300 }
open Go.RowKit Go.Lib in
theorem Tryd.bits_Mul (x y : Nat) (hx : x < 18446744073709551616) (hy : y < 18446744073709551616) (w : World) :
  Calls Tryd.prog 161 #[.int .u64 x, .int .u64 y] w fun e w' => e = .returned (.tuple #[.int .u64 ((x * y / 18446744073709551616 : Nat) : Int), .int .u64 ((x * y % 18446744073709551616 : Nat) : Int)]) ∧ w' = w := Any.bits_Mul Tryd.lays212 x y hx hy w
end Go.Proofs
