/- The keys of a map, sorted, by the contracts of the kit's shelf. No program is named here. -/
import Derived.Test.YtjjbobaoifflpaaGreatDoorMap
import Derived.Shelf.SlIterI.Sorted
import Derived.Shelf.SlIterI.Keys
namespace Go.Proofs.YtjjbobaoifflpaaGreatDoor
open Go.RowKit Go.Maps Go.Sort

def KeysI (P:Program) (f gf:FuncId) (T:TypeId):Prop:=∀ (b:Nat) (w:World),Calls P f #[.map (some b)] w fun e w'=>e=.returned (.func (.func gf) #[] #[.pointer (some ⟨w.heap.size,0,none⟩)])∧w'=w.alloc (.cells #[.map (some b)] T)
def SortedI (P : Program) (f gf : FuncId) (kt : TypeId) : Prop := ∀ (Bm b nn : Nat) (D0 : DataW Unit) (R : Value → Option (DataW Unit × List MemPlace)) (w : World), Bm < w.heap.size → w.cell? ⟨Bm, 0, none⟩ = some (.map (some b)) → w.ownsMap P kt R b nn D0 → Maps.size D0 ≤ maxLen → Maps.size D0 * 8 ≤ 140737488355328 →
 Calls P f #[.func (.func gf) #[] #[.pointer (some ⟨Bm,0,none⟩)]] w fun e w'=>∃ (v:Value) (ss:List Int),e=.returned v∧ss.Perm (intKeys D0)∧w'.ownsRow w.heap.size kt 1 v ss.length ((ss.mergeSort fun x y=>decide (x ≤ y)).map encZ)∧Below w.heap.size w w'
theorem shi_keys {P:Program} {ρ:Go.Shelf.Ren} (L:SlLaysZI.n7 P ρ):KeysI P (ρ.f 7) (ρ.f 10) (ρ.t 23):=fun b w=>callsIn_wide.1 (AnyZI.keys_in L Fence.wide 5 trivial rfl (some b) w)
theorem shi_sorted {P:Program} {ρ ρ':Go.Shelf.Ren} (L:SlLaysZI.n6 P ρ) (L':SlLaysZI.n7 P ρ') (he:ρ'.t 26=ρ.t 26) (hs:AnyZI.SortsIn P ρ Fence.wide 4) (e9:∀ args w,(callFunc (ρ.f 9) args).run P w=.ok (.enter (ρ.f 9) args) w) (eg:∀ args w,(callFunc (ρ'.f 10) args).run P w=.ok (.enter (ρ'.f 10) args) w):SortedI P (ρ.f 6) (ρ'.f 10) (ρ.t 26):=fun Bm b nn D0 R w hB hm hown hs1 hs2=>by
 have hseq:=AnyZI.keys_gives (ρ:=ρ') { L' with } Fence.wide 2 trivial rfl (by omega) Bm b nn D0 w hB hm (he ▸ hown)
 refine Calls.mono (callsIn_wide.1 (AnyZI.sorted_in L Fence.wide 5 trivial trivial trivial trivial rfl (by omega) hs e9 (ρ'.f 10) _ trivial eg _ _ hs1 hs2 w hseq)) ?_
 rintro e w' ⟨v,ss,h1,h2,h3,_,h4⟩
 exact ⟨v,ss,h1,h2,h3,h4⟩
def KIt (gf:FuncId) (w:World) (mv v:Value):Prop:=∃ b bx,mv=.map (some b)∧v=.func (.func gf) #[] #[.pointer (some ⟨bx,0,none⟩)]∧bx < w.heap.size∧w.cell? ⟨bx,0,none⟩=some (.map (some b))
def F5 {ν:Type} (m:List (Int × ν)):Option (List Int):=if m.length ≤ 1000000∧(m.map (·.1)).Nodup∧∀ k ∈ m.map (·.1),-9223372036854775808 ≤ k∧k ≤ 9223372036854775807 then some ((m.map (·.1)).mergeSort fun x y=>decide (x ≤ y)) else none
section
variable {P:Program} {ν:Type} [GoT ν] {i:Nat} {g:Gh} {w:World} {m:List (Int × ν)} {mv v:Value}
theorem N2 {f gf:FuncId} {T:TypeId} (hc:KeysI P f gf T) (hm:MP (Value.int .i64) i g w m mv):FnG P f #[mv] g w fun _ w' v=>KIt gf w' mv v:=by
 obtain ⟨b,es,cl,rfl,_⟩:=hm
 refine Calls.mono (hc b w) ?_
 rintro e w' ⟨rfl,rfl⟩
 refine ⟨_,rfl,{ m:=fun x=>if x < w.heap.size then g.m x else 0,o:=fun x=>if x < w.heap.size then g.o x else 0 },⟨(Below.refl _ _).alloc (Nat.le_refl _) _,fun x hx=>by simp [hx],fun x hx=>by simp [hx]⟩,b,w.heap.size,rfl,rfl,by simp,?_⟩
 have:(w.alloc (.cells #[.map (some b)] T)).heap[w.heap.size]?=some (.cells #[.map (some b)] T (0,0)):=World.alloc_heap_new w _
 simp only [World.cell?,this]; rfl
theorem Bt {H : Type} (x : Lit × DataW H) : ∀ l : List (Lit × DataW H), (DataW.insert x l).Perm (x :: l)
 | []=>.refl _
 | y :: r=>by
  unfold DataW.insert
  split
  ·exact .refl _
  ·exact ((Bt x r).cons y).trans (.swap x y r)
theorem Yh {H : Type} : ∀ l : List (Lit × DataW H), (l.foldr DataW.insert []).Perm l
 | []=>.refl _
 | x :: l=>(Bt x _).trans ((Yh l).cons x)
theorem Dq {m : Nat → Nat} {w : World} : ∀ xs : List Int, Tt m w xs (xs.map (Value.int .i64))
 | []=>rfl
 | x :: xs=>⟨[.int .i64 x],_,rfl,rfl,Dq xs⟩
theorem Al {f gf:FuncId} {kt:TypeId} (hkt:P.underlying kt=some (.int .i64)) (hc:SortedI P f gf kt) (hm:MP (Value.int .i64) i g w m mv) (hk:KIt gf w mv v) {r:List Int} (h:F5 m=some r):FnG P f #[v] g w fun g' w' u=>RV g'.m w' r u:=by
 unfold F5 at h
 split at h
 case isFalse=>cases h
 rename_i hg
 injection h with h; subst h
 obtain ⟨hlen,hnd,hwf⟩:=hg
 obtain ⟨b,es,cl,rfl,ho,hh,hb1,hb2,her⟩:=hm
 obtain ⟨b',bx,hb',rfl,hbx,hcell⟩:=hk
 injection hb' with hb'; injection hb' with hb'; subst hb'
 obtain ⟨R,hR⟩:∃ R:Value→Option (DataW Unit × List MemPlace),R=fun _=>some (.nil,[]):=⟨_,rfl⟩
 have hkeys:=her.keys
 have hl:=her.len
 have hrd:∀ x ∈ es.toList,∃ k,k ∈ m.map (·.1)∧x.key=Value.int .i64 k∧Go.WideElems.rd P kt R x=some (.int .i64 k,.nil):=fun x hx=>by
  have h1:x.key ∈ es.toList.map (·.key):=List.mem_map_of_mem hx
  rw [hkeys,List.mem_map] at h1
  obtain ⟨k,hk,hke⟩:=h1
  have hw:=hwf k hk
  refine ⟨k,hk,hke.symm,?_⟩
  have e1:IntKind.i64.min=-9223372036854775808:=rfl
  have e2:IntKind.i64.max=9223372036854775807:=rfl
  have hwfk:(Lit.int .i64 k).wf=true:=by simp [Lit.wf,e1,e2]; omega
  have hkey:=Go.Maps.keyOf_int_mk (P:=P) hkt (a:=k) hwfk
  unfold Go.WideElems.rd
  rw [← hke,hkey,hR]; rfl
 have hFit:Go.WideElems.Fit P kt R es cl:=by
  refine ⟨?_,⟨hb1,hb2,?_⟩,fun x hx=>let ⟨k,_,_,h⟩:=hrd x hx; ⟨_,h⟩⟩
  ·have : es.size = m.length := by rw [← hl, Array.length_toList]
   rw [this]; exact Nat.le_trans hlen (by decide)
  ·rw [hkeys, List.nodup_iff_pairwise_ne, List.pairwise_map]
   exact hnd.imp fun h1 h2=>h1 (by injection h2)
 have hown:w.ownsMap P kt R b es.size (.map ((es.toList.map (Go.WideElems.rg P kt R)).foldr DataW.insert [])):=⟨es,cl,hh,hFit,Nat.le_refl _,rfl⟩
 have hperm:=Yh (es.toList.map (Go.WideElems.rg P kt R))
 have hik:(intKeys (DataW.map ((es.toList.map (Go.WideElems.rg P kt R)).foldr DataW.insert []))).Perm (m.map (·.1)):=by
  refine (hperm.map fun p=>intOf p.1).trans (.of_eq ?_)
  have h2:(es.toList.map fun x=>intOf (Go.WideElems.rg P kt R x).1).map (Value.int .i64)=es.toList.map (·.key):=by
   rw [List.map_map]
   refine List.map_congr_left fun x hx=>?_
   obtain ⟨k,_,h3,h4⟩:=hrd x hx
   simp only [Function.comp,Go.WideElems.rg_of h4,intOf,h3]
  rw [hkeys] at h2
  rw [List.map_map]
  have inj:∀ {a c:List Int},a.map (Value.int .i64)=c.map (Value.int .i64)→a=c:=by
   intro a
   induction a with
   | nil=>intro c h; cases c with | nil=>rfl | cons _ _=>simp at h
   | cons x a ih=>intro c h; cases c with | nil=>simp at h | cons y c=>simp at h; rw [h.1,ih (by simpa using h.2)]
  exact inj h2
 have hsz:Maps.size (DataW.map ((es.toList.map (Go.WideElems.rg P kt R)).foldr DataW.insert []):DataW Unit)=m.length:=by
  rw [Maps.size_eq,hperm.length_eq,List.length_map,hl]
 refine Calls.mono (hc bx b es.size _ R w hbx hcell hown (by rw [hsz]; exact Nat.le_trans hlen (by decide)) (by rw [hsz]; omega)) ?_
 rintro e w' ⟨v,ss,rfl,hss,hrow,hbel⟩
 have heq:ss.mergeSort (fun x y=>decide (x ≤ y))=(m.map (·.1)).mergeSort (fun x y=>decide (x ≤ y)):=mergeSort_of_perm_i (hss.trans hik)
 rw [heq] at hrow
 have hlen':ss.length=((m.map (·.1)).mergeSort fun x y=>decide (x ≤ y)).length:=by rw [← heq,List.length_mergeSort]
 generalize ((m.map (·.1)).mergeSort fun x y=>decide (x ≤ y))=rs at hrow hlen'
 refine ⟨v,rfl,{ m:=fun x=>if x < w.heap.size then g.m x else rs.length,o:=fun x=>if x < w.heap.size then g.o x else 0 },⟨hbel,fun x hx=>by simp [hx],fun x hx=>by simp [hx]⟩,?_⟩
 rcases hrow.2 with ⟨rfl,h0⟩ | ⟨gb,cap,cur,rfl,h1,h2,h3,h4,h5,h6⟩
 ·have : rs = [] := List.eq_nil_of_length_eq_zero (by omega)
  subst this; exact T0
 ·refine Wi hlen' (by omega) fun _ => ⟨gb, 0, rfl, Gn h2, ?_, (Dq rs).row fun j u hj => ?_⟩
  ·show 0 + rs.length * 1 ≤ if gb < w.heap.size then g.m gb else rs.length
   rw [if_neg (by omega)]; omega
  ·have hjl : j < rs.length := by have := (List.getElem?_eq_some_iff.1 hj).1; simpa using this
   rw [Nat.zero_add]
   simp only [World.cell?,h2]
   have h7:(cur.toList.take (ss.length * 1))[j]?=some u:=by rw [h6]; exact hj
   rw [List.getElem?_take,if_pos (by omega),Array.getElem?_toList] at h7
   simpa using h7
end
end Go.Proofs.YtjjbobaoifflpaaGreatDoor
