/- Own slices whose elements are own slices. No program is named here. -/
import Derived.Test.YtkfdjkkbnfohjaaGreatDoorMap
import Derived.Laws.MakeOwn
namespace Go.Proofs.YtkfdjkkbnfohjaaGreatDoor
open Go.RowKit

def RO (i:Nat) (g:Gh) (w:World) (t:TypeId) (rows:List Fv) (v:Value):Prop:=
 (v=.slice none 0 0∧rows=[]) ∨
 ∃ b c cs,v=.slice (some ⟨b,0,none⟩) rows.length c∧g.o b=i∧g.m b=0∧w.heap[b]?=some (.cells cs t (0,0))∧rows.length ≤ c∧c ≤ maxLen∧cs.size=c∧∀ (n:Nat) (r:Fv),rows[n]?=some r→cs[n]?=some r.v
theorem RO.nil {i:Nat} {g:Gh} {w:World} {t:TypeId}:RO i g w t [] (.slice none 0 0):=.inl ⟨rfl,rfl⟩
theorem RO.ext {i:Nat} {g g':Gh} {w w':World} {t:TypeId} {rows:List Fv} {v:Value} (h:RO i g w t rows v) (k:Ext g w g' w'):RO i g' w' t rows v:=by
 rcases h with h | ⟨b,c,cs,hp,ho,hm,hh,h⟩
 ·exact .inl h
 have hb:=lt_of_heap hh
 exact .inr ⟨b,c,cs,hp,(k.o b hb).trans ho,(k.m b hb).trans hm,(k.below.block b hb).trans hh,h⟩
theorem RO.stp {i j:Nat} {g g':Gh} {w w':World} {t:TypeId} {rows:List Fv} {v:Value} (h:RO i g w t rows v) (k:Stp j g w g' w') (hne:Nat.beq i j=false):RO i g' w' t rows v:=by
 rcases h with h | ⟨b,c,cs,hp,ho,hm,hh,h⟩
 ·exact .inl h
 have hb:=lt_of_heap hh
 have hij:g.o b ≠ j:=by rw [ho]; intro he; rw [he] at hne; simp at hne
 exact .inr ⟨b,c,cs,hp,(k.o b hb hij).trans ho,(k.m b hb hij).trans hm,(k.block b hb hij).trans hh,h⟩
section
variable {P:Program} {e:Env} {w:World} {g:Gh} {K:Value→World→Prop} {x y z:Operand}
theorem append_back {i : Nat} {B : Nat → Bool} {n b' : Nat} {g' : Gh} {w' : World} (hB : ∀ x, x < w.heap.size → B x = true → g.o x = i ∧ g.m x = 0)
  (hst:Stp 1 { m:=fun x=>if B x then n else g.m x,o:=fun x=>if B x then 1 else 0 } w g' w') (ho:g'.o b'=1) :
  Stp i g w { m:=fun x=>if x=b' ∨ B x=true then 0 else g'.m x,o:=fun x=>if x=b' then i else if x < w.heap.size then g.o x else 0 } w':=by
 have hb':b' < w.heap.size→B b'=true:=fun hb=>by
  by_cases hBb:B b'=true
  ·exact hBb
  ·have := hst.o b' hb (by simp [hBb])
   simp [hBb,ho] at this
 have hne:∀ x,x < w.heap.size→B x ≠ true→x ≠ b':=fun x hx hn he=>hn (he ▸ hb' (he ▸ hx))
 refine ⟨hst.os,hst.tape,hst.output,⟨hst.ch.size,fun x hx=>?_,fun x hx j hj=>?_⟩,fun x hx hn=>?_,fun x hx hn=>?_,fun x hx hn=>?_⟩
 ·by_cases hBx : B x = true
  ·rw [(hB x hx hBx).2]; exact Nat.zero_le _
  ·have h1 := hst.m x hx (by simp [hBx])
   simp only [hBx,if_false,Bool.false_eq_true] at h1
   simp [hne x hx hBx,hBx,h1]
 ·have hBx : B x ≠ true := fun hBx => by rw [(hB x hx hBx).2] at hj; omega
  have h1:=hst.block x hx (by simp [hBx])
  simp only [World.cell?,h1]
 ·have hBx : B x ≠ true := fun hBx => hn (hB x hx hBx).1
  exact hst.block x hx (by simp [hBx])
 ·have hBx : B x ≠ true := fun hBx => hn (hB x hx hBx).1
  have h1:=hst.m x hx (by simp [hBx])
  simp only [hBx,if_false,Bool.false_eq_true] at h1
  simp [hne x hx hBx,hBx,h1]
 ·have hBx : B x ≠ true := fun hBx => hn (hB x hx hBx).1
  simp [hne x hx hBx,hx]
end

/-! ### The rows -/
def ApartV (v u:Value):Prop:=∀ b n c b' n' c',v=.slice (some ⟨b,0,none⟩) n c→u=.slice (some ⟨b',0,none⟩) n' c'→b ≠ b'
theorem ApartV.symm {v u:Value} (h:ApartV v u):ApartV u v:=fun _ _ _ _ _ _ h1 h2 he=>h _ _ _ _ _ _ h2 h1 he.symm
structure RowK {α : Type} (R : Nat → Gh → World → List α → Value → Prop) : Prop where
 ext:∀ {i g w g' w' x v},R i g w x v→Ext g w g' w'→R i g' w' x v
 stp:∀ {i k g w g' w' x v},R i g w x v→Stp k g w g' w'→Nat.beq i k=false→R i g' w' x v
 own:∀ {i g w x v},R i g w x v→v=.slice none 0 0 ∨ ∃ b n c,v=.slice (some ⟨b,0,none⟩) n c∧g.o b=i∧b < w.heap.size
 loc:∀ {i i' g w x v},R i g w x v→∀ o':Nat→Nat,(∀ b n c,v=.slice (some ⟨b,0,none⟩) n c→o' b=i')→R i' { m:=g.m,o:=o' } w x v
def Pool {α:Type} (R:Nat→Gh→World→List α→Value→Prop) (j:Nat) (g:Gh) (w:World) (rows:List Fv) (xss:List (List α)) (hole:Option Nat):Prop:=
 rows.length=xss.length∧(∀ (n:Nat) (r:Fv) (x:List α),hole ≠ some n→rows[n]?=some r→xss[n]?=some x→R j g w x r.v) ∧
 ∀ (n n':Nat) (r r':Fv),hole ≠ some n→hole ≠ some n'→n ≠ n'→rows[n]?=some r→rows[n']?=some r'→ApartV r.v r'.v
section
variable {α:Type} {R:Nat→Gh→World→List α→Value→Prop} {i j k j':Nat} {g g':Gh} {w w':World} {rows:List Fv} {xss:List (List α)} {hole:Option Nat}
theorem Pool.nil:Pool R j g w [] [] none:=⟨rfl,fun _ _ _ _ h=>by simp at h,fun _ _ _ _ _ _ _ h=>by simp at h⟩
theorem Pool.ext (K:RowK R) (h:Pool R j g w rows xss hole) (k:Ext g w g' w'):Pool R j g' w' rows xss hole:=⟨h.1,fun n r x hn h1 h2=>K.ext (h.2.1 n r x hn h1 h2) k,h.2.2⟩
theorem Pool.stp (K:RowK R) (h:Pool R j g w rows xss hole) (k':Stp k g w g' w') (hne:Nat.beq j k=false):Pool R j g' w' rows xss hole:=⟨h.1,fun n r x hn h1 h2=>K.stp (h.2.1 n r x hn h1 h2) k' hne,h.2.2⟩
theorem retag {w:World} {b:Nat} (ho:g.o b=i) (i':Nat):Stp i g w { m:=g.m,o:=updN g.o b i' } w:=
 ⟨rfl,rfl,rfl,Ch.refl _ _,fun _ _ _=>rfl,fun _ _ _=>rfl,fun _ _ hn=>updN_ne _ _ (fun h=>hn (h ▸ ho))⟩
theorem Pool.take (K : RowK R) (h : Pool R j g w rows xss none) {n : Nat} {r : Fv} {x : List α} (h1 : rows[n]? = some r) (h2 : xss[n]? = some x) (j' : Nat) :
  ∃ g',g'.m=g.m∧Stp j g w g' w∧R j' g' w x r.v∧Pool R j g' w rows xss (some n):=by
 have hr:=h.2.1 n r x (by simp) h1 h2
 rcases K.own hr with hv | ⟨b,l,c,hv,ho,hb⟩
 ·refine ⟨g,rfl,(Ext.refl _ _).stp,K.loc hr g.o (fun b n c he=>by rw [hv] at he; cases he),h.1,fun n' r' x' hn=>h.2.1 n' r' x' (by simp),fun n1 n2 r1 r2 h1 h2=>h.2.2 n1 n2 r1 r2 (by simp) (by simp)⟩
 ·refine ⟨{ m := g.m, o := updN g.o b j' }, rfl, retag ho j', K.loc hr _ (fun b' n' c' he => ?_), h.1, fun n' r' x' hn h1' h2' => ?_, fun n1 n2 r1 r2 h1 h2 => h.2.2 n1 n2 r1 r2 (by simp) (by simp)⟩
  ·rw [hv] at he
   injection he with he _ _
   injection he with he
   injection he with he _
   subst he
   exact updN_same _ _ _
  ·have hr' := h.2.1 n' r' x' (by simp) h1' h2'
   refine K.loc hr' _ (fun b' l' c' he=>?_)
   have hap:=h.2.2 n n' r r' (by simp) (by simp) (fun he=>hn (by rw [he])) h1 h1' _ _ _ _ _ _ hv he
   rw [updN_ne _ _ (fun h=>hap h.symm)]
   rcases K.own hr' with hv' | ⟨b2,l2,c2,hv',ho2,_⟩
   ·rw [hv'] at he; cases he
   ·rw [hv'] at he
    injection he with he _ _
    injection he with he
    injection he with he _
    subst he
    exact ho2
end
def NS {α:Type} (R:Nat→Gh→World→List α→Value→Prop) (i j:Nat) (g:Gh) (w:World) (et:TypeId) (xss:List (List α)) (v:Value):Prop:=∃ rows,RO i g w et rows v∧Pool R j g w rows xss none
section
variable {α:Type} {R:Nat→Gh→World→List α→Value→Prop} {i j k:Nat} {g g':Gh} {w w':World} {et:TypeId} {xss:List (List α)} {v:Value}
theorem NS.nil:NS R i j g w et [] (.slice none 0 0):=⟨[],.nil,.nil⟩
theorem NS.ext (K:RowK R) (h:NS R i j g w et xss v) (k:Ext g w g' w'):NS R i j g' w' et xss v:=let ⟨rows,h1,h2⟩:=h; ⟨rows,h1.ext k,h2.ext K k⟩
theorem NS.stp (K:RowK R) (h:NS R i j g w et xss v) (k':Stp k g w g' w') (h1:Nat.beq i k=false) (h2:Nat.beq j k=false):NS R i j g' w' et xss v:=let ⟨rows,a,b⟩:=h; ⟨rows,a.stp k' h1,b.stp K k' h2⟩
variable [GoT α]
theorem NS.key (hR : ∀ {j g w x v}, R j g w x v → RV g.m w x v) (h : NS R i j g w et xss v) :
  ∃ B:Nat→Bool,(∀ x,x < w.heap.size→B x=true→g.o x=i∧g.m x=0)∧Ch g.m w (fun x=>if B x then xss.length else g.m x) w∧RV (fun x=>if B x then xss.length else g.m x) w xss v:=by
 obtain ⟨rows,hro,hp⟩:=h
 rcases hro with ⟨rfl,rfl⟩ | ⟨b,c,cs,rfl,ho,hm,hh,hc,hcm,hcs,hro⟩
 ·have : xss = [] := List.eq_nil_of_length_eq_zero hp.1.symm
  subst this
  exact ⟨fun _=>false,fun _ _ h=>by simp at h,⟨Nat.le_refl _,fun _ _=>by simp,fun _ _ _ _=>rfl⟩,RV_nil⟩
 ·have hch:Ch g.m w (fun x=>if (x == b)=true then xss.length else g.m x) w:=⟨Nat.le_refl _,fun x hx=>by
   by_cases hb:x=b
   ·subst hb; rw [hm]; exact Nat.zero_le _
   ·simp [hb],fun _ _ _ _=>rfl⟩
  refine ⟨fun x=>x == b,fun x _ h=>by simp at h; subst h; exact ⟨ho,hm⟩,hch,RV_list_mk hp.1 (by rw [← hp.1]; exact hc) fun _=>⟨b,0,rfl,lt_of_heap hh,?_,fun n x hn=>?_⟩⟩
  ·show 0 + xss.length * 1 ≤ _; simp
  ·have hl : n < rows.length := by rw [hp.1]; exact (List.getElem?_eq_some_iff.1 hn).1
   have hrn:=List.getElem?_eq_getElem hl
   have hrv:=(hR (hp.2.1 n _ x (by simp) hrn hn)).ch hch
   refine ⟨_,hrv.cells,fun k c hk=>?_⟩
   rw [rv_cells1 hrv] at hk
   have hk0:k=0:=by
    have:=(List.getElem?_eq_some_iff.1 hk).1
    simp at this; exact this
   subst hk0
   simp at hk
   subst hk
   show w.cell? ⟨b,0 + n * 1 + 0,none⟩=_
   simp only [World.cell?,hh]
   simpa using hro n _ hrn
end
section
variable {P:Program} {e:Env} {w:World} {g:Gh} {K:Value→World→Prop} {x y z:Operand} {α:Type} [GoT α] {R:Nat→Gh→World→List α→Value→Prop} {i j j':Nat} {et:TypeId} {xss:List (List α)}
end
end Go.Proofs.YtkfdjkkbnfohjaaGreatDoor
/- makeSlice. No program is named here. -/
namespace Go.Proofs.YtkfdjkkbnfohjaaGreatDoor
open Go.RowKit

def mks {α:Type} (bytes:Nat) (x0:α) (n:Int):Option (List α):=
 if 0 ≤ n∧n ≤ 16777216∧(bytes:Int) * n ≤ 281474976710656 then some (List.replicate n.toNat x0) else none
theorem flat_rep {α : Type} [GoT α] {m : Nat → Nat} {w : World} {x : α} {z : Value} (h : GoT.rep m w x [z]) : ∀ n : Nat, FlatR m w (List.replicate n x) (List.replicate n z)
 | 0=>rfl
 | n + 1=>⟨[z],List.replicate n z,rfl,h,flat_rep h n⟩
section
variable {P:Program} {e:Env} {w:World} {g:Gh} {K:Value→World→Prop} {x y z:Operand}
theorem D_makeSliceM {α : Type} [GoT α] (i : Nat) {t et : TypeId} {zv : Value} {bytes : Nat} (x0 : α) {n : Int} {r : List α} (hk : GoT.k α = 1)
  (ht:P.underlying t=some (.slice et)) (hinfo:(P.info? et).map (fun i=>(i.zero,i.size,i.bytes))=some (some zv,1,bytes)) (hz1:zv.cells=#[zv]) (hz:∀ m w,GoT.rep m w x0 [zv])
  (hx:ev e x=.int .i64 n) (hy:ev e y=.int .i64 n) (hr:mks bytes x0 n=some r)
  (h:∀ g' w' v',Stp i g w g' w'→OM i g' w' et r v'→K v' w'):Doe P (.makeSlice t x y) e w K:=fun d ty pos af gd=>by
 obtain ⟨ti,hi,hzz,hsz,hby⟩:=info_parts hinfo
 subst hby
 unfold mks at hr
 split at hr
 case isFalse=>cases hr
 rename_i hc
 obtain rfl:=Option.some.inj hr
 obtain ⟨h0,h1,h2⟩:=hc
 have hrun:=run_makeSlice (P:=P) w t et ti zv ht hi hzz .i64 .i64 n n h0 (Int.le_refl _) (by rw [hsz]; omega) h2 (by omega)
 have hrun2:(execOp (ev e) ⟨d,.makeSlice t x y,ty,pos,af,gd⟩).run P w=.ok (.value (.slice (some ⟨w.heap.size,0,none⟩) n.toNat n.toNat)) (w.alloc (.cells (madeCells zv.cells (n.toNat * ti.size)) et)):=by
  simp only [execOp,hx,hy,Sem.run_bind,hrun,Result.andThen_ok,Sem.run_pure]
 unfold doE; rw [hrun2]
 have hcs:(madeCells zv.cells (n.toNat * ti.size)).toList=List.replicate n.toNat zv:=by
  rw [hz1,hsz,Nat.mul_one]
  apply List.ext_getElem
  ·simp [madeCells]
  ·intro j h1 h2; simp [madeCells,Nat.mod_one]
 refine h { m:=updN g.m w.heap.size 0,o:=updN g.o w.heap.size i } _ _ (stp_new i g w _ et 0) (.inr ⟨w.heap.size,n.toNat,_,by simp,by simp,updN_same _ _ _,updN_same _ _ _,CF.of (heap_new_at _ _),?_,?_⟩)
 ·have := congrArg List.length hcs
  simp at this
  rw [List.length_replicate,hk,Nat.mul_one]; omega
 ·rw [hcs, List.length_replicate, hk, Nat.mul_one, List.take_of_length_le (by simp)]
  exact flat_rep (hz _ _) _
end
theorem up_ex {SR:StepRel} {β:Type} {A:β→Fact} (h:∀ b,Up SR (A b)):Up SR (fun g w=>∃ b,A b g w):=fun g w g' w' hx ⟨b,hb⟩=>⟨b,h b g w g' w' hx hb⟩
theorem extract_str (s:List UInt8) (l h:Nat):(⟨⟨s⟩⟩:ByteArray).extract l h=⟨⟨(s.take h).drop l⟩⟩:=by
 apply ByteArray.ext
 rw [ByteArray.data_extract]
 apply Array.toList_inj.1
 simp [List.extract_eq_take_drop,List.drop_take]
theorem P_sliceS {P : Program} {e : Env} {x : Operand} {t : TypeId} {s : Str} {r : List UInt8} {lo hi : Option Operand} {l h : Int} (ht : P.underlying t = some .string)
  (hx:ev e x=s.v) (hlo:match lo with | some o=>ev e o=.int .i64 l | none=>l=0) (hhi:match hi with | some o=>ev e o=.int .i64 h | none=>h=s.b.length) (hc:cut s.b l h=some r) :
  Pur P (.slice t x lo hi none) e ((⟨r⟩:Str).v):=fun _ _ _ _ _ _=>by
 unfold cut at hc
 split at hc
 case isFalse=>cases hc
 rename_i hb
 injection hc with hc
 subst hc
 obtain ⟨h0,hlh,hhl⟩:=hb
 obtain ⟨ln,rfl⟩:=Int.eq_ofNat_of_zero_le h0
 obtain ⟨hn,rfl⟩:=Int.eq_ofNat_of_zero_le (Int.le_trans h0 hlh)
 have hlh':ln ≤ hn:=by omega
 have hhl':hn ≤ s.b.length:=by omega
 simp only [Int.toNat_natCast]
 have hsz:ByteArray.size ⟨⟨s.b⟩⟩=s.b.length:=rfl
 cases lo with
 | none=>
  simp only at hlo
  have:ln=0:=by omega
  subst this
  cases hi with
  | none=>
   simp only at hhi
   have:hn=s.b.length:=by omega
   subst this
   simp [execOp,hx,Str.v,Instr.sliceAt,Instr.slice,run_underlying ht,Instr.sliceBounds]
  | some oh=>
   simp only at hhi
   simp [execOp,hx,Str.v,hhi,Instr.sliceAt,Instr.slice,run_underlying ht,Instr.sliceBounds,Instr.sliceBound,asIntOf,hsz,hhl',extract_str]
 | some ol=>
  simp only at hlo
  cases hi with
  | none=>
   simp only at hhi
   have:hn=s.b.length:=by omega
   subst this
   simp [execOp,hx,Str.v,hlo,Instr.sliceAt,Instr.slice,run_underlying ht,Instr.sliceBounds,Instr.sliceBound,asIntOf,hsz,hlh',extract_str]
  | some oh=>
   simp only at hhi
   simp [execOp,hx,Str.v,hlo,hhi,Instr.sliceAt,Instr.slice,run_underlying ht,Instr.sliceBounds,Instr.sliceBound,asIntOf,hsz,hlh',hhl',extract_str]
theorem seg_get {cs cy:List Value} {off k p:Nat} (hl:cy.length=k) (ho:off + k ≤ cs.length):(cs.take off ++ cy ++ cs.drop (off + cy.length))[p]?=if p < off then cs[p]? else if p < off + k then cy[p - off]? else cs[p]?:=by
 have ht:(cs.take off).length=off:=by rw [List.length_take]; omega
 by_cases h1:p < off
 ·rw [if_pos h1,List.append_assoc,List.getElem?_append_left (by omega),List.getElem?_take,if_pos h1]
 ·rw [if_neg h1]
  by_cases h2:p < off + k
  ·rw [if_pos h2,List.append_assoc,List.getElem?_append_right (by omega),ht,List.getElem?_append_left (by omega)]
  ·rw [if_neg h2, List.getElem?_append_right (by rw [List.length_append, ht, hl]; omega), List.length_append, ht, hl, List.getElem?_drop]
   congr 1; omega
theorem SubS.vec {β:Type} [GoT β] {n i:Nat} (hi:i < n):SubS (α:=Vector β n) (i * GoT.k β) (fun v=>v[i]) (fun v y=>v.set i y):=by
 have hk:i * GoT.k β + GoT.k β ≤ n * GoT.k β:=by
  have:(i + 1) * GoT.k β ≤ n * GoT.k β:=Nat.mul_le_mul_right _ hi
  rw [Nat.add_mul,Nat.one_mul] at this; exact this
 refine ⟨⟨hk,fun m w x cs h=>h.2 i hi⟩,fun m w x y cs cy h hy=>?_⟩
 have hcy:=GoT.len hy
 have hcs:cs.length=n * GoT.k β:=h.1
 refine ⟨?_,fun j hj=>?_⟩
 ·simp only [List.length_append,List.length_take,List.length_drop]; omega
 ·have hkj:j * GoT.k β + GoT.k β ≤ n * GoT.k β:=by
   have:(j + 1) * GoT.k β ≤ n * GoT.k β:=Nat.mul_le_mul_right _ hj
   rw [Nat.add_mul,Nat.one_mul] at this; exact this
  by_cases hij:i=j
  ·subst hij
   have:((cs.take (i * GoT.k β) ++ cy ++ cs.drop (i * GoT.k β + cy.length)).drop (i * GoT.k β)).take (GoT.k β)=cy:=by
    apply List.ext_getElem?
    intro t
    rw [List.getElem?_take,List.getElem?_drop,seg_get hcy (by omega)]
    split
    ·rw [if_neg (by omega),if_pos (by omega)]; congr 1; omega
    ·rw [List.getElem?_eq_none (by omega)]
   rw [this]
   simpa using hy
  ·have:((cs.take (i * GoT.k β) ++ cy ++ cs.drop (i * GoT.k β + cy.length)).drop (j * GoT.k β)).take (GoT.k β)=(cs.drop (j * GoT.k β)).take (GoT.k β):=by
    apply List.ext_getElem?
    intro t
    rw [List.getElem?_take,List.getElem?_drop,List.getElem?_take,List.getElem?_drop,seg_get hcy (by omega)]
    split
    ·rename_i ht
     rcases Nat.lt_or_gt_of_ne hij with h1 | h1
     ·have : (i + 1) * GoT.k β ≤ j * GoT.k β := Nat.mul_le_mul_right _ h1
      rw [Nat.add_mul,Nat.one_mul] at this
      rw [if_neg (by omega),if_neg (by omega)]
     ·have : (j + 1) * GoT.k β ≤ i * GoT.k β := Nat.mul_le_mul_right _ h1
      rw [Nat.add_mul,Nat.one_mul] at this
      rw [if_pos (by omega)]
    ·rfl
   rw [this]
   have h2:=h.2 j hj
   simpa [Vector.getElem_set,hij] using h2
end Go.Proofs.YtkfdjkkbnfohjaaGreatDoor
/- The dead rest of a chain of && or ||, told in one step. No program is named here. -/
namespace Go.Proofs.YtkfdjkkbnfohjaaGreatDoor
open Go.RowKit

def isUndef : Value → Bool
 | .tuple ⟨[]⟩=>true
 | _=>false
theorem isUndef_eq {v:Value} (h:isUndef v=true):v=undef:=by
 unfold isUndef at h
 split at h
 ·rfl
 ·cases h
def deadVal (e : Env) : Op → Option Value
 | .move x=>some (ev e x)
 | .pick x y z => match ev e x with
  | .bool true=>some (ev e y)
  | .bool false=>some (ev e z)
  | _=>none
 | _=>none
def deadOp (ops:Array Oper) (e:Env) (o:Oper):Option (Bool × Value):=
 match o.guard with
 | none=>(deadVal e o.op).map fun v=>(true,v)
 | some (j, b) => match (ops[j]?).bind (·.dst) with
  | none=>none
  | some d => match e d with
   | .bool true=>bif b then (deadVal e o.op).map fun v=>(true,v) else some (false,undef)
   | .bool false=>bif b then some (false,undef) else (deadVal e o.op).map fun v=>(true,v)
   | v=>bif isUndef v then some (false,undef) else none
theorem deadVal_pur {P:Program} {e:Env} {op:Op} {v:Value} (h:deadVal e op=some v):Pur P op e v∧nodef op=true:=by
 unfold deadVal at h
 split at h
 ·injection h with h; subst h; exact ⟨Zk rfl,rfl⟩
 ·split at h
  ·rename_i hx; injection h with h; subst h; exact ⟨Zl hx rfl,rfl⟩
  ·rename_i hx; injection h with h; subst h; exact ⟨Zl hx rfl,rfl⟩
  ·cases h
 ·cases h
theorem deadOp_ok {P : Program} {ops : Array Oper} {e : Env} {o : Oper} {t : Bool} {v : Value} (h : deadOp ops e o = some (t, v)) :
  Wants ops e o.guard t∧(t=true→Pur P o.op e v∧nodef o.op=true)∧(t=false→v=undef):=by
 unfold deadOp at h
 have go:∀ {t v},(deadVal e o.op).map (fun v=>(true,v))=some (t,v)→t=true∧deadVal e o.op=some v:=fun {t v} h=>by
  cases hv:deadVal e o.op with
  | none=>rw [hv] at h; cases h
  | some u=>rw [hv] at h; simp at h; exact ⟨h.1.symm ▸ rfl,by rw [h.2]⟩
 split at h
 ·rename_i hg
  obtain ⟨rfl,hv⟩:=go h
  rw [hg]
  exact ⟨.plain,fun _=>deadVal_pur hv,by simp⟩
 ·rename_i j b hg
  rw [hg]
  split at h
  ·cases h
  ·rename_i d hd
   split at h
   ·rename_i he
    cases b with
    | true=>obtain ⟨rfl,hv⟩:=go h; exact ⟨.yes hd he,fun _=>deadVal_pur hv,by simp⟩
    | false=>simp at h; obtain ⟨rfl,rfl⟩:=h; exact ⟨.no hd he rfl,by simp,by simp⟩
   ·rename_i he
    cases b with
    | true=>simp at h; obtain ⟨rfl,rfl⟩:=h; exact ⟨.no hd he rfl,by simp,by simp⟩
    | false=>obtain ⟨rfl,hv⟩:=go h; exact ⟨.yes hd he,fun _=>deadVal_pur hv,by simp⟩
   ·rename_i hb1 hb2
    cases hu:isUndef (e d) with
    | true=>rw [hu] at h; simp at h; obtain ⟨rfl,rfl⟩:=h; exact ⟨.off hd (isUndef_eq hu),by simp,by simp⟩
    | false=>rw [hu] at h; cases h
def deadRun (ops : Array Oper) (N : Nat) : Nat → List Oper → Env → Option (List Oper × Env)
 | 0,l,e=>some (l,e)
 | n + 1, o :: l, e => match deadOp ops e o with
  | some (_,v)=>bif okO N o.dst then deadRun ops N n l (updO e o.dst v) else none
  | none=>none
 | _ + 1,[],_=>none
theorem EL_dead {P:Program} {N:Nat} {ro:Option Nat} {ops:Array Oper} {Q:Post} {ds:List Deferred} {w:World} (n:Nat):∀ {l l':List Oper} {e e':Env},deadRun ops N n l e=some (l',e')→EL P N ro ops l' Q e' ds w→EL P N ro ops l Q e ds w:=by
 induction n with
 | zero=>intro l l' e e' h k; simp only [deadRun,Option.some.injEq,Prod.mk.injEq] at h; obtain ⟨rfl,rfl⟩:=h; exact k
 | succ n ih=>
  intro l l' e e' h k
  cases l with
  | nil=>simp [deadRun] at h
  | cons o l=>
   unfold deadRun at h
   split at h
   ·rename_i t v ho
    cases hN:okO N o.dst with
    | false=>rw [hN] at h; cases h
    | true=>
     rw [hN] at h
     obtain ⟨h1,h2,h3⟩:=deadOp_ok (P:=P) ho
     have:=ih h k
     obtain ⟨d,op,ty,pos,af,gd⟩:=o
     cases t with
     | true=>obtain ⟨hp,hn⟩:=h2 rfl; exact EL_pur hp h1 (by rw [Bool.and_eq_true]; exact ⟨hn,hN⟩) this
     | false=>rw [h3 rfl] at this; exact EL_skip h1 hN this
   ·cases h
end Go.Proofs.YtkfdjkkbnfohjaaGreatDoor
