/- Contracts of the library, laid at this program. -/
import Derived.Shelf.Small.Bits
import Derived.Shelf.Strconv.Itoa0
import Derived.Shelf.Sort.Plain
import Derived.Ground.Names2Prog
import Derived.Shelf.Slices.Clone
import Derived.Shelf.Slices.CompactI
import Derived.Shelf.Slices.SearchI
import Derived.Shelf.Slices.Cells
import Derived.Shelf.Slices.In.SortNone
import Derived.Ground.SlgnProg
import Derived.Shelf.SlicesE.Clone
import Derived.Test.YtkmbkaoolacofaaGreatShi
import Derived.Ground.GgzProg
import Derived.Test.YtkmbkaoolacofaaGreatProg
namespace Go.Proofs
open Go.Shelf
def Tryz.lays189_ren : Go.Shelf.Ren := ⟨fun | 189 => 82 | 125 => 107 | 257 => 106 | 128 => 127 | 129 => 128 | 294 => 118 | 295 => 119 | 296 => 120 | 297 => 121 | 298 => 122 | 299 => 123 | 216 => 124 | 300 => 125 | 301 => 126 | 328 => 132 | 329 => 133 | 330 => 134 | 331 => 135 | 332 => 136 | 215 => 101 | 343 => 138 | n => n, fun | 28 => 23 | 3 => 3 | 46 => 85 | 0 => 0 | 51 => 77 | 53 => 201 | 4 => 4 | 183 => 193 | 182 => 192 | 131 => 176 | 5 => 5 | 9 => 9 | 218 => 204 | 222 => 208 | 228 => 210 | 229 => 148 | n => n, fun | n => n⟩
theorem Tryz.lays189 : Go.Proofs.Lays.n189 Tryz.prog Tryz.lays189_ren := {
 mixed := by kernel_rfl
 f125 := Tryz.func107.trans (congrArg some (by kernel_rfl))
 f128 := Tryz.func127.trans (congrArg some (by kernel_rfl))
 f129 := Tryz.func128.trans (congrArg some (by kernel_rfl))
 f189 := Tryz.func82.trans (congrArg some (by kernel_rfl))
 f215 := Tryz.func101.trans (congrArg some (by kernel_rfl))
 f216 := Tryz.func124.trans (congrArg some (by kernel_rfl))
 f257 := Tryz.func106.trans (congrArg some (by kernel_rfl))
 f294 := Tryz.func118.trans (congrArg some (by kernel_rfl))
 f295 := Tryz.func119.trans (congrArg some (by kernel_rfl))
 f296 := Tryz.func120.trans (congrArg some (by kernel_rfl))
 f297 := Tryz.func121.trans (congrArg some (by kernel_rfl))
 f298 := Tryz.func122.trans (congrArg some (by kernel_rfl))
 f299 := Tryz.func123.trans (congrArg some (by kernel_rfl))
 f300 := Tryz.func125.trans (congrArg some (by kernel_rfl))
 f301 := Tryz.func126.trans (congrArg some (by kernel_rfl))
 f328 := Tryz.func132.trans (congrArg some (by kernel_rfl))
 f329 := Tryz.func133.trans (congrArg some (by kernel_rfl))
 f330 := Tryz.func134.trans (congrArg some (by kernel_rfl))
 f331 := Tryz.func135.trans (congrArg some (by kernel_rfl))
 f332 := Tryz.func136.trans (congrArg some (by kernel_rfl))
 f343 := Tryz.func138.trans (congrArg some (by kernel_rfl))
 t0 := Tryz.underlying0
 a0 := Tryz.isAgg0
 z0 := Tryz.sizeOf0
 v0 := Tryz.zeroValue0
 t3 := Tryz.underlying3
 a3 := Tryz.isAgg3
 z3 := Tryz.sizeOf3
 v3 := Tryz.zeroValue3
 t4 := Tryz.underlying4
 a4 := Tryz.isAgg4
 z4 := Tryz.sizeOf4
 v4 := Tryz.zeroValue4
 t5 := Tryz.underlying5
 a5 := Tryz.isAgg5
 z5 := Tryz.sizeOf5
 v5 := Tryz.zeroValue5
 t9 := Tryz.underlying9
 a9 := Tryz.isAgg9
 z9 := Tryz.sizeOf9
 v9 := Tryz.zeroValue9
 t28 := Tryz.underlying23
 a28 := Tryz.isAgg23
 z28 := Tryz.sizeOf23
 v28 := Tryz.zeroValue23
 t46 := Tryz.underlying85
 a46 := Tryz.isAgg85
 z46 := Tryz.sizeOf85
 v46 := Tryz.zeroValue85
 t51 := Tryz.underlying77
 a51 := Tryz.isAgg77
 z51 := Tryz.sizeOf77
 v51 := Tryz.zeroValue77
 t53 := Tryz.underlying201
 a53 := Tryz.isAgg201
 z53 := Tryz.sizeOf201
 v53 := Tryz.zeroValue201
 t131 := Tryz.underlying176
 a131 := Tryz.isAgg176
 z131 := Tryz.sizeOf176
 v131 := Tryz.zeroValue176
 t182 := Tryz.underlying192
 a182 := Tryz.isAgg192
 z182 := Tryz.sizeOf192
 v182 := Tryz.zeroValue192
 t183 := Tryz.underlying193
 a183 := Tryz.isAgg193
 z183 := Tryz.sizeOf193
 v183 := Tryz.zeroValue193
 t218 := Tryz.underlying204
 a218 := Tryz.isAgg204
 z218 := Tryz.sizeOf204
 v218 := Tryz.zeroValue204
 t222 := Tryz.underlying208
 a222 := Tryz.isAgg208
 z222 := Tryz.sizeOf208
 v222 := Tryz.zeroValue208
 t228 := Tryz.underlying210
 a228 := Tryz.isAgg210
 z228 := Tryz.sizeOf210
 v228 := Tryz.zeroValue210
 t229 := Tryz.underlying148
 a229 := Tryz.isAgg148
 z229 := Tryz.sizeOf148
 v229 := Tryz.zeroValue148 }
open Go.Sort Go.RowKit in
theorem Tryz.slices_Sort_int (blk off cap : Nat) (zs : List Int) (w : World) (hH : Holds (Value.int .i64) w blk off zs.toArray) (hblk : blk < w.heap.size) (hsz : zs.length < 4611686018427387904) :
  Calls Tryz.prog 82 #[.slice (some ⟨blk, off, none⟩) zs.length cap] w fun e w' =>
   e = .returned (.tuple #[]) ∧ ∃ n os, w' = grow (putRow (Value.int .i64) (Sort.ahead w n) blk off (zs.mergeSort fun x y => decide (x ≤ y)).toArray) os := Any.slices_Sort_int Tryz.lays189 blk off cap zs w hH hblk hsz
def Tryz.laysNm220_ren : Go.Shelf.Ren := ⟨fun | 20 => 117 | n => n, fun | 22 => 23 | 3 => 3 | 4 => 4 | 0 => 0 | n => n, fun | n => n⟩
theorem Tryz.laysNm220 : Go.Proofs.Lays2.n20 Tryz.prog Tryz.laysNm220_ren := {
 mixed := by kernel_rfl
 f20 := Tryz.func117.trans (congrArg some (by kernel_rfl))
 t0 := Tryz.underlying0
 a0 := Tryz.isAgg0
 z0 := Tryz.sizeOf0
 v0 := Tryz.zeroValue0
 t3 := Tryz.underlying3
 a3 := Tryz.isAgg3
 z3 := Tryz.sizeOf3
 v3 := Tryz.zeroValue3
 t4 := Tryz.underlying4
 a4 := Tryz.isAgg4
 z4 := Tryz.sizeOf4
 v4 := Tryz.zeroValue4
 t22 := Tryz.underlying23
 a22 := Tryz.isAgg23
 z22 := Tryz.sizeOf23
 v22 := Tryz.zeroValue23
 i3 := by kernel_rfl }
open Go.RowKit Go.Lib Go.Sort in
theorem Tryz.slices_Compact_int (blk off cap : Nat) (zs : List Int) (w : World) (hH : Holds (Value.int .i64) w blk off zs.toArray) (hsz : zs.length ≤ 9223372036854775807) (hcap : zs.length ≤ cap) :
  Calls Tryz.prog 117 #[.slice (some ⟨blk, off, none⟩) zs.length cap] w fun e w' => e = .returned (.slice (some ⟨blk, off, none⟩) (Lib.compact zs).length cap) ∧ ∃ q, w' = putRow (Value.int .i64) (Sort.ahead w q) blk off (Lib.compact zs ++ List.replicate (zs.length - (Lib.compact zs).length) 0).toArray := Any.slices_Compact_int Tryz.laysNm220 blk off cap zs w hH hsz hcap
open Go.RowKit Go.Lib Go.Sort in
theorem Tryz.slices_Compact_int_empty (a : Option Addr) (cap : Nat) (w : World) :
  Calls Tryz.prog 117 #[.slice a 0 cap] w fun e w' => e = .returned (.slice a 0 cap) ∧ w' = w := Any.slices_Compact_int_empty Tryz.laysNm220 a cap w
open Go.RowKit Go.Sort in
theorem Tryz.slices_Sort_int_none (p : Option Addr) (cap : Nat) (w : World) :
  Calls Tryz.prog 82 #[.slice p 0 cap] w fun e w' => e = .returned (.tuple #[]) ∧ w' = w := Any.slices_Sort_int_none Tryz.lays189 p cap w
def Tryz.keysI_ren : Go.Shelf.Ren := ⟨fun | 7 => 60 | 10 => 83 | n => n, fun | 23 => 125 | 26 => 3 | 3 => 3 | 28 => 128 | 0 => 0 | 27 => 127 | 33 => 147 | 4 => 4 | n => n, fun | n => n⟩
theorem Tryz.keysI : Go.Proofs.SlLaysZI.n7 Tryz.prog Tryz.keysI_ren := {
 mixed := by kernel_rfl
 f7 := ⟨Tryz.f60.name, by decide, Tryz.func60.trans (congrArg some (by kernel_rfl))⟩
 f10 := ⟨Tryz.f83.name, by decide, Tryz.func83.trans (congrArg some (by kernel_rfl))⟩
 t0 := Tryz.underlying0
 a0 := Tryz.isAgg0
 z0 := Tryz.sizeOf0
 v0 := Tryz.zeroValue0
 t4 := Tryz.underlying4
 a4 := Tryz.isAgg4
 z4 := Tryz.sizeOf4
 v4 := Tryz.zeroValue4
 t23 := Tryz.underlying125
 a23 := Tryz.isAgg125
 z23 := Tryz.sizeOf125
 v23 := Tryz.zeroValue125
 t26 := Tryz.underlying3
 a26 := Tryz.isAgg3
 z26 := Tryz.sizeOf3
 v26 := Tryz.zeroValue3
 t27 := Tryz.underlying127
 a27 := Tryz.isAgg127
 z27 := Tryz.sizeOf127
 v27 := Tryz.zeroValue127
 t28 := Tryz.underlying128
 a28 := Tryz.isAgg128
 z28 := Tryz.sizeOf128
 v28 := Tryz.zeroValue128
 t33 := Tryz.underlying147
 a33 := Tryz.isAgg147
 z33 := Tryz.sizeOf147
 v33 := Tryz.zeroValue147 }
def Tryz.sortedI_ren : Go.Shelf.Ren := ⟨fun | 6 => 59 | 8 => 81 | 9 => 82 | 11 => 105 | 13 => 107 | 12 => 106 | 23 => 127 | 24 => 128 | 14 => 118 | 15 => 119 | 16 => 120 | 17 => 121 | 18 => 122 | 19 => 123 | 20 => 124 | 21 => 125 | 22 => 126 | 25 => 132 | 26 => 133 | 27 => 134 | 28 => 135 | 29 => 136 | 30 => 101 | 31 => 138 | n => n, fun | 26 => 3 | 28 => 128 | 24 => 23 | 0 => 0 | 3 => 3 | 37 => 85 | 48 => 77 | 50 => 201 | 4 => 4 | 40 => 193 | 39 => 192 | 45 => 176 | 5 => 5 | 9 => 9 | 51 => 204 | 55 => 208 | 57 => 210 | 58 => 148 | 33 => 147 | n => n, fun | n => n⟩
theorem Tryz.sortedI : Go.Proofs.SlLaysZI.n6 Tryz.prog Tryz.sortedI_ren := {
 mixed := by kernel_rfl
 f6 := ⟨Tryz.f59.name, by decide, Tryz.func59.trans (congrArg some (by kernel_rfl))⟩
 f8 := ⟨Tryz.f81.name, by decide, Tryz.func81.trans (congrArg some (by kernel_rfl))⟩
 f11 := ⟨Tryz.f105.name, by decide, Tryz.func105.trans (congrArg some (by kernel_rfl))⟩
 t0 := Tryz.underlying0
 a0 := Tryz.isAgg0
 z0 := Tryz.sizeOf0
 v0 := Tryz.zeroValue0
 t24 := Tryz.underlying23
 a24 := Tryz.isAgg23
 z24 := Tryz.sizeOf23
 v24 := Tryz.zeroValue23
 t26 := Tryz.underlying3
 a26 := Tryz.isAgg3
 z26 := Tryz.sizeOf3
 v26 := Tryz.zeroValue3
 t28 := Tryz.underlying128
 a28 := Tryz.isAgg128
 z28 := Tryz.sizeOf128
 v28 := Tryz.zeroValue128
 i26 := by kernel_rfl }
open Go.RowKit Go.Sort in
theorem Tryz.sortsI (m : Nat) : AnyZI.SortsIn Tryz.prog Tryz.sortedI_ren Fence.wide m :=
 ⟨fun blk off cap ss W hH hblk hsz => callsIn_wide.2 (Any.slices_Sort_int Tryz.lays189 blk off cap ss W hH hblk hsz), fun p cap W => callsIn_wide.2 (Any.slices_Sort_int_none Tryz.lays189 p cap W)⟩
open Go.RowKit in
theorem Tryz.keys_ok : YtkmbkaoolacofaaGreat.KeysI Tryz.prog 60 83 (Tryz.keysI_ren.t 23) := YtkmbkaoolacofaaGreat.shi_keys Tryz.keysI
open Go.RowKit in
theorem Tryz.enS : ∀ args w, (callFunc 82 args).run Tryz.prog w = .ok (.enter 82 args) w := enters_of Tryz.func82 (by kernel_rfl) rfl
open Go.RowKit in
theorem Tryz.enK : ∀ args w, (callFunc 83 args).run Tryz.prog w = .ok (.enter 83 args) w := enters_of Tryz.func83 (by kernel_rfl) rfl
open Go.RowKit in
theorem Tryz.sorted_ok : YtkmbkaoolacofaaGreat.SortedI Tryz.prog 59 83 (Tryz.sortedI_ren.t 26) := YtkmbkaoolacofaaGreat.shi_sorted (ρ := Tryz.sortedI_ren) (ρ' := Tryz.keysI_ren) Tryz.sortedI Tryz.keysI rfl (Tryz.sortsI 4) Tryz.enS Tryz.enK
end Go.Proofs
