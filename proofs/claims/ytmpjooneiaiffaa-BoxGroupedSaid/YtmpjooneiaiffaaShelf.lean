/- Contracts of the library, laid at this program. -/
import Derived.Shelf.Sort.Plain
import Derived.Shelf.Slices.In.SortNone
import Derived.Test.YtmpjooneiaiffaaShi
import Derived.Ground.GgzProg
import Derived.Test.YtmpjooneiaiffaaProg
namespace Go.Proofs
open Go.Shelf
def Try.lays189_ren:Go.Shelf.Ren:=⟨fun | 189=>100 | 125=>109 | 257=>108 | 128=>119 | 129=>120 | 294=>110 | 295=>111 | 296=>112 | 297=>113 | 298=>114 | 299=>115 | 216=>116 | 300=>117 | 301=>118 | 328=>121 | 329=>122 | 330=>123 | 331=>124 | 332=>125 | 215=>126 | 343=>127 | n=>n,fun | 28=>22 | 3=>3 | 46=>176 | 0=>0 | 51=>186 | 53=>188 | 4=>4 | 183=>179 | 182=>178 | 131=>67 | 5=>5 | 9=>9 | 218=>189 | 222=>193 | 228=>195 | 229=>196 | n=>n,fun | n=>n⟩
theorem Try.lays189 : Go.Proofs.Lays.n189 Try.prog Try.lays189_ren := {
 mixed:=by kernel_rfl
 f125:=Try.func109.trans (congrArg some (by kernel_rfl))
 f128:=Try.func119.trans (congrArg some (by kernel_rfl))
 f129:=Try.func120.trans (congrArg some (by kernel_rfl))
 f189:=Try.func100.trans (congrArg some (by kernel_rfl))
 f215:=Try.func126.trans (congrArg some (by kernel_rfl))
 f216:=Try.func116.trans (congrArg some (by kernel_rfl))
 f257:=Try.func108.trans (congrArg some (by kernel_rfl))
 f294:=Try.func110.trans (congrArg some (by kernel_rfl))
 f295:=Try.func111.trans (congrArg some (by kernel_rfl))
 f296:=Try.func112.trans (congrArg some (by kernel_rfl))
 f297:=Try.func113.trans (congrArg some (by kernel_rfl))
 f298:=Try.func114.trans (congrArg some (by kernel_rfl))
 f299:=Try.func115.trans (congrArg some (by kernel_rfl))
 f300:=Try.func117.trans (congrArg some (by kernel_rfl))
 f301:=Try.func118.trans (congrArg some (by kernel_rfl))
 f328:=Try.func121.trans (congrArg some (by kernel_rfl))
 f329:=Try.func122.trans (congrArg some (by kernel_rfl))
 f330:=Try.func123.trans (congrArg some (by kernel_rfl))
 f331:=Try.func124.trans (congrArg some (by kernel_rfl))
 f332:=Try.func125.trans (congrArg some (by kernel_rfl))
 f343:=Try.func127.trans (congrArg some (by kernel_rfl))
 t0:=Try.underlying0
 a0:=Try.isAgg0
 z0:=Try.sizeOf0
 v0:=Try.zeroValue0
 t3:=Try.underlying3
 a3:=Try.isAgg3
 z3:=Try.sizeOf3
 v3:=Try.zeroValue3
 t4:=Try.underlying4
 a4:=Try.isAgg4
 z4:=Try.sizeOf4
 v4:=Try.zeroValue4
 t5:=Try.underlying5
 a5:=Try.isAgg5
 z5:=Try.sizeOf5
 v5:=Try.zeroValue5
 t9:=Try.underlying9
 a9:=Try.isAgg9
 z9:=Try.sizeOf9
 v9:=Try.zeroValue9
 t28:=Try.underlying22
 a28:=Try.isAgg22
 z28:=Try.sizeOf22
 v28:=Try.zeroValue22
 t46:=Try.underlying176
 a46:=Try.isAgg176
 z46:=Try.sizeOf176
 v46:=Try.zeroValue176
 t51:=Try.underlying186
 a51:=Try.isAgg186
 z51:=Try.sizeOf186
 v51:=Try.zeroValue186
 t53:=Try.underlying188
 a53:=Try.isAgg188
 z53:=Try.sizeOf188
 v53:=Try.zeroValue188
 t131:=Try.underlying67
 a131:=Try.isAgg67
 z131:=Try.sizeOf67
 v131:=Try.zeroValue67
 t182:=Try.underlying178
 a182:=Try.isAgg178
 z182:=Try.sizeOf178
 v182:=Try.zeroValue178
 t183:=Try.underlying179
 a183:=Try.isAgg179
 z183:=Try.sizeOf179
 v183:=Try.zeroValue179
 t218:=Try.underlying189
 a218:=Try.isAgg189
 z218:=Try.sizeOf189
 v218:=Try.zeroValue189
 t222:=Try.underlying193
 a222:=Try.isAgg193
 z222:=Try.sizeOf193
 v222:=Try.zeroValue193
 t228:=Try.underlying195
 a228:=Try.isAgg195
 z228:=Try.sizeOf195
 v228:=Try.zeroValue195
 t229:=Try.underlying196
 a229:=Try.isAgg196
 z229:=Try.sizeOf196
 v229:=Try.zeroValue196 }
open Go.Sort Go.RowKit in
theorem Try.slices_Sort_int (blk off cap : Nat) (zs : List Int) (w : World) (hH : Holds (Value.int .i64) w blk off zs.toArray) (hblk : blk < w.heap.size) (hsz : zs.length < 4611686018427387904) :
  Calls Try.prog 100 #[.slice (some ⟨blk,off,none⟩) zs.length cap] w fun e w'=>
   e=.returned (.tuple #[])∧∃ n os,w'=grow (putRow (Value.int .i64) (Sort.ahead w n) blk off (zs.mergeSort fun x y=>decide (x ≤ y)).toArray) os:=Any.slices_Sort_int Try.lays189 blk off cap zs w hH hblk hsz
open Go.RowKit Go.Sort in
theorem Try.slices_Sort_int_none (p : Option Addr) (cap : Nat) (w : World) :
  Calls Try.prog 100 #[.slice p 0 cap] w fun e w'=>e=.returned (.tuple #[])∧w'=w:=Any.slices_Sort_int_none Try.lays189 p cap w
def Try.keysI_ren:Go.Shelf.Ren:=⟨fun | 7=>82 | 10=>101 | n=>n,fun | 23=>140 | 26=>3 | 3=>4 | 28=>147 | 0=>0 | 27=>146 | 33=>162 | 4=>4 | n=>n,fun | n=>n⟩
theorem Try.keysI : Go.Proofs.SlLaysZI.n7 Try.prog Try.keysI_ren := {
 mixed:=by kernel_rfl
 f7:=⟨Try.f82.name,by decide,Try.func82.trans (congrArg some (by kernel_rfl))⟩
 f10:=⟨Try.f101.name,by decide,Try.func101.trans (congrArg some (by kernel_rfl))⟩
 t0:=Try.underlying0
 a0:=Try.isAgg0
 z0:=Try.sizeOf0
 v0:=Try.zeroValue0
 t4:=Try.underlying4
 a4:=Try.isAgg4
 z4:=Try.sizeOf4
 v4:=Try.zeroValue4
 t23:=Try.underlying140
 a23:=Try.isAgg140
 z23:=Try.sizeOf140
 v23:=Try.zeroValue140
 t26:=Try.underlying3
 a26:=Try.isAgg3
 z26:=Try.sizeOf3
 v26:=Try.zeroValue3
 t27:=Try.underlying146
 a27:=Try.isAgg146
 z27:=Try.sizeOf146
 v27:=Try.zeroValue146
 t28:=Try.underlying147
 a28:=Try.isAgg147
 z28:=Try.sizeOf147
 v28:=Try.zeroValue147
 t33:=Try.underlying162
 a33:=Try.isAgg162
 z33:=Try.sizeOf162
 v33:=Try.zeroValue162 }
def Try.sortedI_ren:Go.Shelf.Ren:=⟨fun | 6=>81 | 8=>99 | 9=>100 | 11=>107 | 13=>109 | 12=>108 | 23=>119 | 24=>120 | 14=>110 | 15=>111 | 16=>112 | 17=>113 | 18=>114 | 19=>115 | 20=>116 | 21=>117 | 22=>118 | 25=>121 | 26=>122 | 27=>123 | 28=>124 | 29=>125 | 30=>126 | 31=>127 | n=>n,fun | 26=>3 | 28=>147 | 24=>22 | 0=>0 | 3=>3 | 37=>176 | 48=>186 | 50=>188 | 4=>4 | 40=>179 | 39=>178 | 45=>67 | 5=>5 | 9=>9 | 51=>189 | 55=>193 | 57=>195 | 58=>196 | 33=>162 | n=>n,fun | n=>n⟩
theorem Try.sortedI : Go.Proofs.SlLaysZI.n6 Try.prog Try.sortedI_ren := {
 mixed:=by kernel_rfl
 f6:=⟨Try.f81.name,by decide,Try.func81.trans (congrArg some (by kernel_rfl))⟩
 f8:=⟨Try.f99.name,by decide,Try.func99.trans (congrArg some (by kernel_rfl))⟩
 f11:=⟨Try.f107.name,by decide,Try.func107.trans (congrArg some (by kernel_rfl))⟩
 t0:=Try.underlying0
 a0:=Try.isAgg0
 z0:=Try.sizeOf0
 v0:=Try.zeroValue0
 t24:=Try.underlying22
 a24:=Try.isAgg22
 z24:=Try.sizeOf22
 v24:=Try.zeroValue22
 t26:=Try.underlying3
 a26:=Try.isAgg3
 z26:=Try.sizeOf3
 v26:=Try.zeroValue3
 t28:=Try.underlying147
 a28:=Try.isAgg147
 z28:=Try.sizeOf147
 v28:=Try.zeroValue147
 i26:=by kernel_rfl }
open Go.RowKit Go.Sort in
theorem Try.sortsI (m:Nat):AnyZI.SortsIn Try.prog Try.sortedI_ren Fence.wide m:=
 ⟨fun blk off cap ss W hH hblk hsz=>callsIn_wide.2 (Any.slices_Sort_int Try.lays189 blk off cap ss W hH hblk hsz),fun p cap W=>callsIn_wide.2 (Any.slices_Sort_int_none Try.lays189 p cap W)⟩
open Go.RowKit in
theorem Try.keys_ok:Ytmpjooneiaiffaa.KeysI Try.prog 82 101 (Try.keysI_ren.t 23):=Ytmpjooneiaiffaa.shi_keys Try.keysI
open Go.RowKit in
theorem Try.enS:∀ args w,(callFunc 100 args).run Try.prog w=.ok (.enter 100 args) w:=enters_of Try.func100 (by kernel_rfl) rfl
open Go.RowKit in
theorem Try.enK:∀ args w,(callFunc 101 args).run Try.prog w=.ok (.enter 101 args) w:=enters_of Try.func101 (by kernel_rfl) rfl
open Go.RowKit in
theorem Try.sorted_ok:Ytmpjooneiaiffaa.SortedI Try.prog 81 101 (Try.sortedI_ren.t 26):=Ytmpjooneiaiffaa.shi_sorted (ρ:=Try.sortedI_ren) (ρ':=Try.keysI_ren) Try.sortedI Try.keysI rfl (Try.sortsI 4) Try.enS Try.enK
end Go.Proofs
