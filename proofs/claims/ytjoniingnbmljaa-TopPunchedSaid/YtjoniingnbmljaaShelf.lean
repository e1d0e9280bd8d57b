/- Contracts of the library, laid at this program. -/
import Derived.Shelf.Bits.Mul64
import Derived.Test.YtjoniingnbmljaaProg
namespace Go.Proofs
open Go.Shelf
def Try.lays212_ren : Go.Shelf.Ren := ⟨fun | 212 => 168 | 263 => 236 | 264 => 237 | n => n, fun | 46 => 95 | 51 => 378 | 146 => 379 | 53 => 381 | 148 => 382 | n => n, fun | n => n⟩
theorem Try.lays212 : Go.Proofs.Lays.n212 Try.prog Try.lays212_ren := {
 mixed := by kernel_rfl
 f212 := Try.func168.trans (congrArg some (by kernel_rfl))
 f263 := Try.func236.trans (congrArg some (by kernel_rfl))
 f264 := Try.func237.trans (congrArg some (by kernel_rfl))
 t46 := Try.underlying95
 a46 := Try.isAgg95
 z46 := Try.sizeOf95
 v46 := Try.zeroValue95
 t51 := Try.underlying378
 a51 := Try.isAgg378
 z51 := Try.sizeOf378
 v51 := Try.zeroValue378
 t53 := Try.underlying381
 a53 := Try.isAgg381
 z53 := Try.sizeOf381
 v53 := Try.zeroValue381
 t146 := Try.underlying379
 a146 := Try.isAgg379
 z146 := Try.sizeOf379
 v146 := Try.zeroValue379
 t148 := Try.underlying382
 a148 := Try.isAgg382
 z148 := Try.sizeOf382
 v148 := Try.zeroValue382 }
open Go.RowKit Go.Lib in
theorem Try.bits_Mul (x y : Nat) (hx : x < 18446744073709551616) (hy : y < 18446744073709551616) (w : World) :
  Calls Try.prog 168 #[.int .u64 x, .int .u64 y] w fun e w' => e = .returned (.tuple #[.int .u64 ((x * y / 18446744073709551616 : Nat) : Int), .int .u64 ((x * y % 18446744073709551616 : Nat) : Int)]) ∧ w' = w := Any.bits_Mul Try.lays212 x y hx hy w
end Go.Proofs
