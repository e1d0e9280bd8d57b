/- Contracts of the library, laid at this program. -/
import Derived.Shelf.Spec.TrailingZeros
import Derived.Ground.Names7Prog
import Derived.Test.YticdblhibbaojaaDoorProg
namespace Go.Proofs
open Go.Shelf
def Tryd.tzl_ren : Go.Shelf.Ren := ⟨fun | 27 => 49 | 28 => 67 | 29 => 68 | n => n, fun | 25 => 83 | 3 => 3 | 27 => 130 | 22 => 132 | 4 => 4 | 53 => 140 | 0 => 0 | 5 => 5 | 54 => 141 | n => n, fun | 0 => 0 | 1 => 1 | n => n⟩
theorem Tryd.tzl : Go.Proofs.Lays7.n27 Tryd.prog Tryd.tzl_ren := {
 mixed := by kernel_rfl
 f27 := Tryd.func49.trans (congrArg some (by kernel_rfl))
 f28 := Tryd.func67.trans (congrArg some (by kernel_rfl))
 f29 := Tryd.func68.trans (congrArg some (by kernel_rfl))
 t0 := Tryd.underlying0
 a0 := Tryd.isAgg0
 z0 := Tryd.sizeOf0
 v0 := Tryd.zeroValue0
 i0 := by kernel_rfl
 t3 := Tryd.underlying3
 a3 := Tryd.isAgg3
 z3 := Tryd.sizeOf3
 v3 := Tryd.zeroValue3
 i3 := by kernel_rfl
 t4 := Tryd.underlying4
 a4 := Tryd.isAgg4
 z4 := Tryd.sizeOf4
 v4 := Tryd.zeroValue4
 i4 := by kernel_rfl
 t5 := Tryd.underlying5
 a5 := Tryd.isAgg5
 z5 := Tryd.sizeOf5
 v5 := Tryd.zeroValue5
 i5 := by kernel_rfl
 t22 := Tryd.underlying132
 a22 := Tryd.isAgg132
 z22 := Tryd.sizeOf132
 v22 := Tryd.zeroValue132
 i22 := by kernel_rfl
 t25 := Tryd.underlying83
 a25 := Tryd.isAgg83
 z25 := Tryd.sizeOf83
 v25 := Tryd.zeroValue83
 i25 := by kernel_rfl
 t27 := Tryd.underlying130
 a27 := Tryd.isAgg130
 z27 := Tryd.sizeOf130
 v27 := Tryd.zeroValue130
 i27 := by kernel_rfl
 t53 := Tryd.underlying140
 a53 := Tryd.isAgg140
 z53 := Tryd.sizeOf140
 v53 := Tryd.zeroValue140
 i53 := by kernel_rfl
 t54 := Tryd.underlying141
 a54 := Tryd.isAgg141
 z54 := Tryd.sizeOf141
 g0 := by kernel_rfl
 g1 := by kernel_rfl }
open Go.RowKit in
theorem Tryd.bits_TrailingZeros (x : Nat) (hx : x < 18446744073709551616) (w : World) (hT : x ≠ 0 → ∀ j, j < 64 → w.cell? ⟨1, j, none⟩ = some (.int .u8 (Lib.deBruijn64tab.getD j 0))) : Calls Tryd.prog 49 #[.int .u64 x] w fun e w' => e = .returned (.int .i64 (Lib.ctz 64 x)) ∧ w' = w :=
 Any7.bits_TrailingZeros (ρ := Tryd.tzl_ren) Tryd.tzl x hx w fun h j hj => hT h j hj
end Go.Proofs
