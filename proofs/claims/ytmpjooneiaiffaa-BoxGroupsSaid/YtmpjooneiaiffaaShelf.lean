/- Contracts of the library, laid at this program. -/
import Derived.Shelf.Lay
import Derived.Shelf.LaySoft
import Derived.Shelf.Sort.Plain
import Derived.Shelf.Slices.In.SortNone
import Derived.Test.YtmpjooneiaiffaaShi
import Derived.Ground.GgzProg
import Derived.Test.YtmpjooneiaiffaaProg
namespace Go.Proofs
open Go.Shelf
shelf_try shelf_lay Lays.n189 Nm 189 at Try as Try.lays189
shelf_try open Go.Sort Go.RowKit in
theorem Try.slices_Sort_int (blk off cap : Nat) (zs : List Int) (w : World) (hH : Holds (Value.int .i64) w blk off zs.toArray) (hblk : blk < w.heap.size) (hsz : zs.length < 4611686018427387904) :
  Calls Try.prog 100 #[.slice (some ⟨blk,off,none⟩) zs.length cap] w fun e w'=>
   e=.returned (.tuple #[])∧∃ n os,w'=grow (putRow (Value.int .i64) (Sort.ahead w n) blk off (zs.mergeSort fun x y=>decide (x ≤ y)).toArray) os:=Any.slices_Sort_int Try.lays189 blk off cap zs w hH hblk hsz
shelf_try open Go.RowKit Go.Sort in
theorem Try.slices_Sort_int_none (p : Option Addr) (cap : Nat) (w : World) :
  Calls Try.prog 100 #[.slice p 0 cap] w fun e w'=>e=.returned (.tuple #[])∧w'=w:=Any.slices_Sort_int_none Try.lays189 p cap w
shelf_try shelf_lay_g SlLaysZI.n7 Ggz 7 at Try 82 as Try.keysI
shelf_try shelf_lay_g SlLaysZI.n6 Ggz 6 at Try 81 as Try.sortedI
shelf_try open Go.RowKit Go.Sort in
theorem Try.sortsI (m:Nat):AnyZI.SortsIn Try.prog Try.sortedI_ren Fence.wide m:=
 ⟨fun blk off cap ss W hH hblk hsz=>callsIn_wide.2 (Any.slices_Sort_int Try.lays189 blk off cap ss W hH hblk hsz),fun p cap W=>callsIn_wide.2 (Any.slices_Sort_int_none Try.lays189 p cap W)⟩
shelf_try open Go.RowKit in
theorem Try.keys_ok:Ytmpjooneiaiffaa.KeysI Try.prog 82 101 (Try.keysI_ren.t 23):=Ytmpjooneiaiffaa.shi_keys Try.keysI
shelf_try open Go.RowKit in
theorem Try.enS:∀ args w,(callFunc 100 args).run Try.prog w=.ok (.enter 100 args) w:=enters_of Try.func100 (by kernel_rfl) rfl
shelf_try open Go.RowKit in
theorem Try.enK:∀ args w,(callFunc 101 args).run Try.prog w=.ok (.enter 101 args) w:=enters_of Try.func101 (by kernel_rfl) rfl
shelf_try open Go.RowKit in
theorem Try.sorted_ok:Ytmpjooneiaiffaa.SortedI Try.prog 81 101 (Try.sortedI_ren.t 26):=Ytmpjooneiaiffaa.shi_sorted (ρ:=Try.sortedI_ren) (ρ':=Try.keysI_ren) Try.sortedI Try.keysI rfl (Try.sortsI 4) Try.enS Try.enK
shelf_tried
end Go.Proofs
