/- Contracts of the library, laid at this program. -/
import Derived.Shelf.Strings.Builder1
import Derived.Shelf.Small.Bits
import Derived.Shelf.Strconv.Itoa0
import Derived.Shelf.Sort.Plain
import Derived.Shelf.Bits.Mul64
import Derived.Ground.Names2Prog
import Derived.Shelf.Slices.Clone
import Derived.Shelf.Slices.SearchI
import Derived.Shelf.Slices.In.SortNone
import Derived.Ground.SlgnProg
import Derived.Shelf.SlicesE.Clone
import Derived.Test.YtkfdjkkbnfohjaaGreatShi
import Derived.Ground.GgzProg
import Derived.Test.YtkfdjkkbnfohjaaGreatProg
namespace Go.Proofs
open Go.Shelf
def Tryz.lays189_ren:Go.Shelf.Ren:=⟨fun | 189=>79 | 125=>85 | 257=>84 | 128=>95 | 129=>96 | 294=>86 | 295=>87 | 296=>88 | 297=>89 | 298=>90 | 299=>91 | 216=>92 | 300=>93 | 301=>94 | 328=>97 | 329=>98 | 330=>99 | 331=>100 | 332=>101 | 215=>102 | 343=>103 | n=>n,fun | 28=>27 | 3=>3 | 46=>69 | 0=>0 | 51=>152 | 53=>155 | 4=>4 | 183=>176 | 182=>175 | 131=>137 | 5=>5 | 9=>9 | 218=>183 | 222=>187 | 228=>189 | 229=>190 | n=>n,fun | n=>n⟩
theorem Tryz.lays189 : Go.Proofs.Lays.n189 Tryz.prog Tryz.lays189_ren := {
 mixed:=by kernel_rfl
 f125:=Tryz.func85.trans (congrArg some (by kernel_rfl))
 f128:=Tryz.func95.trans (congrArg some (by kernel_rfl))
 f129:=Tryz.func96.trans (congrArg some (by kernel_rfl))
 f189:=Tryz.func79.trans (congrArg some (by kernel_rfl))
 f215:=Tryz.func102.trans (congrArg some (by kernel_rfl))
 f216:=Tryz.func92.trans (congrArg some (by kernel_rfl))
 f257:=Tryz.func84.trans (congrArg some (by kernel_rfl))
 f294:=Tryz.func86.trans (congrArg some (by kernel_rfl))
 f295:=Tryz.func87.trans (congrArg some (by kernel_rfl))
 f296:=Tryz.func88.trans (congrArg some (by kernel_rfl))
 f297:=Tryz.func89.trans (congrArg some (by kernel_rfl))
 f298:=Tryz.func90.trans (congrArg some (by kernel_rfl))
 f299:=Tryz.func91.trans (congrArg some (by kernel_rfl))
 f300:=Tryz.func93.trans (congrArg some (by kernel_rfl))
 f301:=Tryz.func94.trans (congrArg some (by kernel_rfl))
 f328:=Tryz.func97.trans (congrArg some (by kernel_rfl))
 f329:=Tryz.func98.trans (congrArg some (by kernel_rfl))
 f330:=Tryz.func99.trans (congrArg some (by kernel_rfl))
 f331:=Tryz.func100.trans (congrArg some (by kernel_rfl))
 f332:=Tryz.func101.trans (congrArg some (by kernel_rfl))
 f343:=Tryz.func103.trans (congrArg some (by kernel_rfl))
 t0:=Tryz.underlying0
 a0:=Tryz.isAgg0
 z0:=Tryz.sizeOf0
 v0:=Tryz.zeroValue0
 t3:=Tryz.underlying3
 a3:=Tryz.isAgg3
 z3:=Tryz.sizeOf3
 v3:=Tryz.zeroValue3
 t4:=Tryz.underlying4
 a4:=Tryz.isAgg4
 z4:=Tryz.sizeOf4
 v4:=Tryz.zeroValue4
 t5:=Tryz.underlying5
 a5:=Tryz.isAgg5
 z5:=Tryz.sizeOf5
 v5:=Tryz.zeroValue5
 t9:=Tryz.underlying9
 a9:=Tryz.isAgg9
 z9:=Tryz.sizeOf9
 v9:=Tryz.zeroValue9
 t28:=Tryz.underlying27
 a28:=Tryz.isAgg27
 z28:=Tryz.sizeOf27
 v28:=Tryz.zeroValue27
 t46:=Tryz.underlying69
 a46:=Tryz.isAgg69
 z46:=Tryz.sizeOf69
 v46:=Tryz.zeroValue69
 t51:=Tryz.underlying152
 a51:=Tryz.isAgg152
 z51:=Tryz.sizeOf152
 v51:=Tryz.zeroValue152
 t53:=Tryz.underlying155
 a53:=Tryz.isAgg155
 z53:=Tryz.sizeOf155
 v53:=Tryz.zeroValue155
 t131:=Tryz.underlying137
 a131:=Tryz.isAgg137
 z131:=Tryz.sizeOf137
 v131:=Tryz.zeroValue137
 t182:=Tryz.underlying175
 a182:=Tryz.isAgg175
 z182:=Tryz.sizeOf175
 v182:=Tryz.zeroValue175
 t183:=Tryz.underlying176
 a183:=Tryz.isAgg176
 z183:=Tryz.sizeOf176
 v183:=Tryz.zeroValue176
 t218:=Tryz.underlying183
 a218:=Tryz.isAgg183
 z218:=Tryz.sizeOf183
 v218:=Tryz.zeroValue183
 t222:=Tryz.underlying187
 a222:=Tryz.isAgg187
 z222:=Tryz.sizeOf187
 v222:=Tryz.zeroValue187
 t228:=Tryz.underlying189
 a228:=Tryz.isAgg189
 z228:=Tryz.sizeOf189
 v228:=Tryz.zeroValue189
 t229:=Tryz.underlying190
 a229:=Tryz.isAgg190
 z229:=Tryz.sizeOf190
 v229:=Tryz.zeroValue190 }
open Go.Sort Go.RowKit in
theorem Tryz.slices_Sort_int (blk off cap : Nat) (zs : List Int) (w : World) (hH : Holds (Value.int .i64) w blk off zs.toArray) (hblk : blk < w.heap.size) (hsz : zs.length < 4611686018427387904) :
  Calls Tryz.prog 79 #[.slice (some ⟨blk,off,none⟩) zs.length cap] w fun e w'=>
   e=.returned (.tuple #[])∧∃ n os,w'=grow (putRow (Value.int .i64) (Sort.ahead w n) blk off (zs.mergeSort fun x y=>decide (x ≤ y)).toArray) os:=Any.slices_Sort_int Tryz.lays189 blk off cap zs w hH hblk hsz
def Tryz.lays212_ren:Go.Shelf.Ren:=⟨fun | 212=>44 | 263=>66 | 264=>67 | n=>n,fun | 46=>69 | 51=>152 | 146=>153 | 53=>155 | 148=>156 | n=>n,fun | n=>n⟩
theorem Tryz.lays212 : Go.Proofs.Lays.n212 Tryz.prog Tryz.lays212_ren := {
 mixed:=by kernel_rfl
 f212:=Tryz.func44.trans (congrArg some (by kernel_rfl))
 f263:=Tryz.func66.trans (congrArg some (by kernel_rfl))
 f264:=Tryz.func67.trans (congrArg some (by kernel_rfl))
 t46:=Tryz.underlying69
 a46:=Tryz.isAgg69
 z46:=Tryz.sizeOf69
 v46:=Tryz.zeroValue69
 t51:=Tryz.underlying152
 a51:=Tryz.isAgg152
 z51:=Tryz.sizeOf152
 v51:=Tryz.zeroValue152
 t53:=Tryz.underlying155
 a53:=Tryz.isAgg155
 z53:=Tryz.sizeOf155
 v53:=Tryz.zeroValue155
 t146:=Tryz.underlying153
 a146:=Tryz.isAgg153
 z146:=Tryz.sizeOf153
 v146:=Tryz.zeroValue153
 t148:=Tryz.underlying156
 a148:=Tryz.isAgg156
 z148:=Tryz.sizeOf156
 v148:=Tryz.zeroValue156 }
open Go.RowKit Go.Lib in
theorem Tryz.bits_Mul (x y : Nat) (hx : x < 18446744073709551616) (hy : y < 18446744073709551616) (w : World) :
  Calls Tryz.prog 44 #[.int .u64 x,.int .u64 y] w fun e w'=>e=.returned (.tuple #[.int .u64 ((x * y / 18446744073709551616:Nat):Int),.int .u64 ((x * y % 18446744073709551616:Nat):Int)])∧w'=w:=Any.bits_Mul Tryz.lays212 x y hx hy w
open Go.RowKit Go.Sort in
theorem Tryz.slices_Sort_int_none (p : Option Addr) (cap : Nat) (w : World) :
  Calls Tryz.prog 79 #[.slice p 0 cap] w fun e w'=>e=.returned (.tuple #[])∧w'=w:=Any.slices_Sort_int_none Tryz.lays189 p cap w
def Tryz.keysI_ren:Go.Shelf.Ren:=⟨fun | 7=>65 | 10=>80 | n=>n,fun | 23=>149 | 26=>3 | 3=>4 | 28=>150 | 0=>0 | 27=>118 | 33=>114 | 4=>4 | n=>n,fun | n=>n⟩
theorem Tryz.keysI : Go.Proofs.SlLaysZI.n7 Tryz.prog Tryz.keysI_ren := {
 mixed:=by kernel_rfl
 f7:=⟨Tryz.f65.name,by decide,Tryz.func65.trans (congrArg some (by kernel_rfl))⟩
 f10:=⟨Tryz.f80.name,by decide,Tryz.func80.trans (congrArg some (by kernel_rfl))⟩
 t0:=Tryz.underlying0
 a0:=Tryz.isAgg0
 z0:=Tryz.sizeOf0
 v0:=Tryz.zeroValue0
 t4:=Tryz.underlying4
 a4:=Tryz.isAgg4
 z4:=Tryz.sizeOf4
 v4:=Tryz.zeroValue4
 t23:=Tryz.underlying149
 a23:=Tryz.isAgg149
 z23:=Tryz.sizeOf149
 v23:=Tryz.zeroValue149
 t26:=Tryz.underlying3
 a26:=Tryz.isAgg3
 z26:=Tryz.sizeOf3
 v26:=Tryz.zeroValue3
 t27:=Tryz.underlying118
 a27:=Tryz.isAgg118
 z27:=Tryz.sizeOf118
 v27:=Tryz.zeroValue118
 t28:=Tryz.underlying150
 a28:=Tryz.isAgg150
 z28:=Tryz.sizeOf150
 v28:=Tryz.zeroValue150
 t33:=Tryz.underlying114
 a33:=Tryz.isAgg114
 z33:=Tryz.sizeOf114
 v33:=Tryz.zeroValue114 }
def Tryz.sortedI_ren:Go.Shelf.Ren:=⟨fun | 6=>64 | 8=>45 | 9=>79 | 11=>68 | 13=>85 | 12=>84 | 23=>95 | 24=>96 | 14=>86 | 15=>87 | 16=>88 | 17=>89 | 18=>90 | 19=>91 | 20=>92 | 21=>93 | 22=>94 | 25=>97 | 26=>98 | 27=>99 | 28=>100 | 29=>101 | 30=>102 | 31=>103 | n=>n,fun | 26=>3 | 28=>150 | 24=>27 | 0=>0 | 3=>3 | 37=>69 | 48=>152 | 50=>155 | 4=>4 | 40=>176 | 39=>175 | 45=>137 | 5=>5 | 9=>9 | 51=>183 | 55=>187 | 57=>189 | 58=>190 | 33=>114 | n=>n,fun | n=>n⟩
theorem Tryz.sortedI : Go.Proofs.SlLaysZI.n6 Tryz.prog Tryz.sortedI_ren := {
 mixed:=by kernel_rfl
 f6:=⟨Tryz.f64.name,by decide,Tryz.func64.trans (congrArg some (by kernel_rfl))⟩
 f8:=⟨Tryz.f45.name,by decide,Tryz.func45.trans (congrArg some (by kernel_rfl))⟩
 f11:=⟨Tryz.f68.name,by decide,Tryz.func68.trans (congrArg some (by kernel_rfl))⟩
 t0:=Tryz.underlying0
 a0:=Tryz.isAgg0
 z0:=Tryz.sizeOf0
 v0:=Tryz.zeroValue0
 t24:=Tryz.underlying27
 a24:=Tryz.isAgg27
 z24:=Tryz.sizeOf27
 v24:=Tryz.zeroValue27
 t26:=Tryz.underlying3
 a26:=Tryz.isAgg3
 z26:=Tryz.sizeOf3
 v26:=Tryz.zeroValue3
 t28:=Tryz.underlying150
 a28:=Tryz.isAgg150
 z28:=Tryz.sizeOf150
 v28:=Tryz.zeroValue150
 i26:=by kernel_rfl }
open Go.RowKit Go.Sort in
theorem Tryz.sortsI (m:Nat):AnyZI.SortsIn Tryz.prog Tryz.sortedI_ren Fence.wide m:=
 ⟨fun blk off cap ss W hH hblk hsz=>callsIn_wide.2 (Any.slices_Sort_int Tryz.lays189 blk off cap ss W hH hblk hsz),fun p cap W=>callsIn_wide.2 (Any.slices_Sort_int_none Tryz.lays189 p cap W)⟩
open Go.RowKit in
theorem Tryz.keys_ok:YtkfdjkkbnfohjaaGreat.KeysI Tryz.prog 65 80 (Tryz.keysI_ren.t 23):=YtkfdjkkbnfohjaaGreat.shi_keys Tryz.keysI
open Go.RowKit in
theorem Tryz.enS:∀ args w,(callFunc 79 args).run Tryz.prog w=.ok (.enter 79 args) w:=enters_of Tryz.func79 (by kernel_rfl) rfl
open Go.RowKit in
theorem Tryz.enK:∀ args w,(callFunc 80 args).run Tryz.prog w=.ok (.enter 80 args) w:=enters_of Tryz.func80 (by kernel_rfl) rfl
open Go.RowKit in
theorem Tryz.sorted_ok:YtkfdjkkbnfohjaaGreat.SortedI Tryz.prog 64 80 (Tryz.sortedI_ren.t 26):=YtkfdjkkbnfohjaaGreat.shi_sorted (ρ:=Tryz.sortedI_ren) (ρ':=Tryz.keysI_ren) Tryz.sortedI Tryz.keysI rfl (Tryz.sortsI 4) Tryz.enS Tryz.enK
end Go.Proofs
