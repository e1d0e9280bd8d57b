/- Own maps, conversions of strings and bytes, slices handed out. No program is named here. -/
import Derived.Test.YtpglkdijpcgcaaaGreatDoorSb
import Derived.Maps.RangeRun
import Derived.Laws.IdiomStrings
namespace Go.Proofs.YtpglkdijpcgcaaaGreatDoor
open Go.RowKit
open Go.ChangeMaps (setBlock)

def Qo {κ ν:Type} [DecidableEq κ] (m:List (κ × ν)) (k:κ):Option ν:=(m.find? fun p=>decide (p.1=k)).map (·.2)
def H4 {κ ν:Type} [DecidableEq κ]:List (κ × ν)→κ→ν→List (κ × ν)
 | [],k,v=>[(k,v)]
 | p::m,k,v=>if p.1=k then (k,v)::m else p::H4 m k v
def Vw (P:Program) (kt:TypeId) {κ:Type} [DecidableEq κ] (enc:κ→Value):Prop:=
 (∀ a w empty,(Instr.checkKey empty 10000 kt (enc a)).run P w=.ok () w)∧(∀ a w,(Instr.keyThatStays (enc a) (enc a)).run P w=.ok (enc a) w) ∧
 ∀ (a:κ) (w:World) (es:List MapEntry) (ks:List κ),es.map (·.key)=ks.map enc→(Instr.findKey kt (enc a) es).run P w=.ok ((ks.findIdx? fun x=>decide (x=a)).bind fun i=>(es[i]?).map fun e=>(i,e.val)) w
theorem Sm {P:Program} {kt:TypeId} (a:Int) (w:World):∀ (es:List MapEntry) (ks:List Int) (j:Nat),es.map (·.key)=ks.map (Value.int .i64) →
  Instr.findNow (.int .i64) (.int .i64 a) es j=some ((ks.findIdx? fun x=>decide (x=a)).bind fun i=>(es[i]?).map fun e=>(j+i,e.val))
 | [],[],_,_=>rfl
 | [],_::_,_,h=>by simp at h
 | _::_,[],_,h=>by simp at h
 | e::es,k::ks,j,h=>by
  simp only [List.map_cons,List.cons.injEq] at h
  obtain ⟨h1,h2⟩:=h
  have ih:=Sm (P:=P) (kt:=kt) a w es ks (j+1) h2
  simp only [Instr.findNow,h1,Instr.sameNow,if_true]
  by_cases hak:a=k
  ·subst hak
   simp [List.findIdx?_cons]
  ·have hka:¬ k=a:=fun h=>hak h.symm
   have hb:(a==k)=false:=by simpa using hak
   simp only [hb,ih,List.findIdx?_cons,hka,decide_false,Bool.false_eq_true,if_false]
   cases ks.findIdx? (fun x=>decide (x=a)) with
   | none=>rfl
   | some i=>simp [Nat.add_assoc,Nat.add_comm 1 i]
theorem Nk {P:Program} {kt:TypeId} (ht:P.underlying kt=some (.int .i64)):Vw P kt (Value.int .i64):=by
 refine ⟨fun a w em=>?_,fun a w=>?_,fun a w es ks h=>?_⟩
 ·have hn:∀ n,(Instr.checkKey em (n+1) kt (.int .i64 a)).run P w=.ok () w:=fun n=>by
   simp [Instr.checkKey,Sem.run_bind,run_underlying ht]
  exact hn 9999
 ·have hs:∀ n,Instr.sameBits n (.int .i64 a) (.int .i64 a)=true:=fun n=>by cases n<;>simp [Instr.sameBits]
  unfold Instr.keyThatStays
  rw [hs 10000,if_pos rfl]
  rfl
 ·simp only [Instr.findKey,Sem.run_bind,run_underlying ht,Result.andThen_ok,Sm (P:=P) (kt:=kt) a w es ks 0 h,Sem.run_pure,Nat.zero_add]

def Yn {κ ν:Type} [GoT ν] (enc:κ→Value) (m:Nat→Nat) (w:World):List MapEntry→List (κ × ν)→Prop
 | [],l=>l=[]
 | e::es,l=>∃ p l',l=p::l'∧e.key=enc p.1∧RV m w p.2 e.val∧Yn enc m w es l'
def MP {κ ν:Type} [GoT ν] (enc:κ→Value) (i:Nat) (g:Gh) (w:World) (m:List (κ × ν)) (v:Value):Prop:=
 ∃ b es clock,v=.map (some b)∧g.o b=i∧w.heap[b]?=some (.map es clock)∧(∀ e∈es.toList,e.born<clock)∧(es.toList.map (·.born)).Nodup∧Yn enc g.m w es.toList m
section
variable {κ ν:Type} [GoT ν] {enc:κ→Value}
theorem Yn.ch {m m':Nat→Nat} {w w':World} (k:Ch m w m' w'):∀ {es:List MapEntry} {l:List (κ × ν)},Yn enc m w es l→Yn enc m' w' es l
 | [],_,h=>h
 | _::_,_,⟨p,l',h1,h2,h3,h4⟩=>⟨p,l',h1,h2,h3.ch k,Yn.ch k h4⟩
theorem Yn.keys {m:Nat→Nat} {w:World}:∀ {es:List MapEntry} {l:List (κ × ν)},Yn enc m w es l→es.map (·.key)=(l.map (·.1)).map enc
 | [],_,h=>by rw [show _=[] from h];rfl
 | _::_,_,⟨p,l',h1,h2,_,h4⟩=>by subst h1;simp [h2,h4.keys]
theorem Yn.len {m:Nat→Nat} {w:World}:∀ {es:List MapEntry} {l:List (κ × ν)},Yn enc m w es l→es.length=l.length
 | [],_,h=>by rw [show _=[] from h];rfl
 | _::_,_,⟨p,l',h1,_,_,h4⟩=>by subst h1;simp [h4.len]
theorem Yn.get {m:Nat→Nat} {w:World}:∀ {es:List MapEntry} {l:List (κ × ν)},Yn enc m w es l→∀ {i:Nat} {e:MapEntry},es[i]?=some e→∃ p,l[i]?=some p∧e.key=enc p.1∧RV m w p.2 e.val
 | [],_,_,_,_,hi=>by simp at hi
 | _::_,_,⟨p,l',h1,h2,h3,_⟩,0,e,hi=>by subst h1;simp at hi;subst hi;exact ⟨p,rfl,h2,h3⟩
 | _::_,_,⟨p,l',h1,_,_,h4⟩,i+1,e,hi=>by subst h1;simp at hi;obtain ⟨q,hq⟩:=h4.get hi;exact ⟨q,by simpa using hq.1,hq.2⟩
theorem Yn.snoc {m:Nat→Nat} {w:World} {e:MapEntry} {p:κ × ν} (h1:e.key=enc p.1) (h2:RV m w p.2 e.val):∀ {es:List MapEntry} {l:List (κ × ν)},Yn enc m w es l→Yn enc m w (es++[e]) (l++[p])
 | [],_,h=>by rw [show _=[] from h];exact ⟨p,[],rfl,h1,h2,rfl⟩
 | _::_,_,⟨q,l',h,h3,h4,h5⟩=>by subst h;exact ⟨q,l'++[p],rfl,h3,h4,Yn.snoc h1 h2 h5⟩
theorem Yn.put {m:Nat→Nat} {w:World} {k:κ} {v:ν} {u:Value} (h2:RV m w v u):∀ {es:List MapEntry} {l:List (κ × ν)} {i:Nat},Yn enc m w es l→Yn enc m w (es.modify i fun e=>{e with key:=enc k,val:=u}) (l.modify i fun _=>(k,v))
 | [],_,_,h=>by rw [show _=[] from h];simp [Yn]
 | e::es,_,0,⟨q,l',h,_,_,h5⟩=>by subst h;exact ⟨(k,v),l',by simp,rfl,h2,h5⟩
 | e::es,_,i+1,⟨q,l',h,h3,h4,h5⟩=>by subst h;exact ⟨q,l'.modify i fun _=>(k,v),by simp,h3,h4,Yn.put h2 h5⟩
variable {i j B:Nat} {g g':Gh} {w w':World} {m:List (κ × ν)} {v:Value}
theorem MP.ext (h:MP enc i g w m v) (k:Ext g w g' w'):MP enc i g' w' m v:=by
 obtain ⟨b,es,cl,hv,ho,hh,h1,h2,h3⟩:=h
 exact ⟨b,es,cl,hv,(k.o b (Gq hh)).trans ho,(k.below.block b (Gq hh)).trans hh,h1,h2,h3.ch k.ch⟩
theorem MP.stp (h:MP enc i g w m v) (k:Stp j g w g' w') (hne:Nat.beq i j=false):MP enc i g' w' m v:=by
 obtain ⟨b,es,cl,hv,ho,hh,h1,h2,h3⟩:=h
 have hij:g.o b≠j:=by rw [ho];intro he;rw [he] at hne;simp at hne
 exact ⟨b,es,cl,hv,(k.o b (Gq hh) hij).trans ho,(k.block b (Gq hh) hij).trans hh,h1,h2,h3.ch k.ch⟩
end
theorem Fi {κ ν:Type} [DecidableEq κ] {k:κ} {v:ν}:∀ {m:List (κ × ν)},(m.map (·.1)).findIdx? (fun x=>decide (x=k))=none→H4 m k v=m++[(k,v)]
 | [],_=>rfl
 | p::m,h=>by
  simp only [List.map_cons,List.findIdx?_cons] at h
  by_cases hp:p.1=k
  ·simp [hp] at h
  ·simp only [hp,decide_false,Bool.false_eq_true,if_false,Option.map_eq_none_iff] at h
   simp only [H4,if_neg hp,Fi h,List.cons_append]
theorem C4 {κ ν:Type} [DecidableEq κ] {k:κ} {v:ν}:∀ {m:List (κ × ν)} {i:Nat},(m.map (·.1)).findIdx? (fun x=>decide (x=k))=some i→H4 m k v=m.modify i fun _=>(k,v)
 | [],_,h=>by simp at h
 | p::m,i,h=>by
  simp only [List.map_cons,List.findIdx?_cons] at h
  by_cases hp:p.1=k
  ·simp [hp] at h;subst h;simp [H4,hp]
  ·simp only [hp,decide_false,Bool.false_eq_true,if_false,Option.map_eq_some_iff] at h
   obtain ⟨j,hj,rfl⟩:=h
   simp only [H4,if_neg hp,C4 hj,List.modify_succ_cons]
theorem L9 {κ ν:Type} [DecidableEq κ] {k:κ}:∀ {m:List (κ × ν)},Qo m k=((m.map (·.1)).findIdx? fun x=>decide (x=k)).bind fun i=>(m[i]?).map (·.2)
 | []=>rfl
 | p::m=>by
  have ih:=L9 (k:=k) (m:=m)
  unfold Qo at ih ⊢
  simp only [List.map_cons,List.findIdx?_cons,List.find?_cons]
  by_cases hp:p.1=k
  ·simp [hp]
  ·simp only [hp,decide_false,Bool.false_eq_true,if_false,ih]
   cases (m.map (·.1)).findIdx? (fun x=>decide (x=k)) with
   | none=>rfl
   | some i=>simp
section
variable {P:Program} {e:Env} {w:World} {g:Gh} {K:Value→World→Prop} {x y z:Operand} {κ ν:Type} [GoT ν] {enc:κ→Value}
theorem Fz (enc:κ→Value) (ν:Type) [GoT ν] (i:Nat) {t:TypeId} (h:∀ g' w' v,Stp i g w g' w'→MP (ν:=ν) enc i g' w' [] v→K v w'):Doe P (.makeMap t none) e w K:=fun d ty pos af gd=>by
 have hrun:(execOp (X e) ⟨d,.makeMap t none,ty,pos,af,gd⟩).run P w=.ok (.value (.map (some w.heap.size))) (w.alloc (.map #[] 0)):=by
  simp [execOp,Instr.makeMap,Result.andThen]
 unfold doE;rw [hrun]
 exact h _ _ _ (Yg i g w (.map #[] 0)).stp ⟨_,#[],0,rfl,Tv _ _ _,Wf _ _,by simp,by simp,rfl⟩
theorem Nu {i b:Nat} {es es':Array MapEntry} {c c':Nat} (ho:g.o b=i) (hh:w.heap[b]?=some (.map es c)):Stp i g w g (setBlock w b (.map es' c'))∧(setBlock w b (.map es' c')).heap[b]?=some (.map es' c'):=by
 have h1:(setBlock w b (.map es' c')).heap[b]?=some (.map es' c'):=ChangeMaps.heap_setBlock_same hh _
 refine ⟨⟨rfl,rfl,rfl,⟨by simp [setBlock],fun _ _=>Nat.le_refl _,fun k hk j _=>?_⟩,fun k hk hn=>ChangeMaps.heap_setBlock_other hh _ (fun he=>hn (by rw [he];exact ho)),fun _ _ _=>rfl,fun _ _ _=>rfl⟩,h1⟩
 by_cases hkb:k=b
 ·subst hkb;simp only [World.cell?,h1,hh]
 ·simp only [World.cell?,ChangeMaps.heap_setBlock_other hh _ hkb]
variable [DecidableEq κ]
theorem Sh {i:Nat} {t kt et:TypeId} {m:List (κ × ν)} {mv u:Value} {k:κ} {v:ν} (ht:P.underlying t=some (.map kt et)) (hk:Vw P kt enc) (hx:X e x=mv) (hm:MP enc i g w m mv) (hy:X e y=enc k) (hz:X e z=u) (hv:RV g.m w v u)
  (h:∀ g' w',Stp i g w g' w'→MP enc i g' w' (H4 m k v) mv→K undef w'):Doe P (.mapUpdate t x y z) e w K:=fun d ty pos af gd=>by
 obtain ⟨b,es,cl,rfl,ho,hh,hb1,hb2,her⟩:=hm
 have hf:=hk.2.2 k w es.toList (m.map (·.1)) her.keys
 have hget:(getObj b).run P w=.ok (.map es cl) w:=by simp [getObj,Sem.run,hh]
 cases hi:(m.map (·.1)).findIdx? (fun x=>decide (x=k)) with
 | none=>
  have hst:=Nu (es':=es.push {key:=enc k,val:=u,born:=cl}) (c':=cl+1) ho hh
  have hrun:(execOp (X e) ⟨d,.mapUpdate t x y z,ty,pos,af,gd⟩).run P w=.ok .skip (setBlock w b (.map (es.push {key:=enc k,val:=u,born:=cl}) (cl+1))):=by
   rw [hi] at hf
   simp only [execOp,hx,hy,hz,Instr.mapUpdate,Sem.run_bind,run_underlying ht,Result.andThen_ok,hget,hk.1,hf,Option.bind_none]
   simp [setObj,Sem.run,hh,setBlock]
  unfold doE;rw [hrun]
  refine h g _ hst.1 ⟨b,_,_,rfl,ho,hst.2,fun en hen=>?_,?_,?_⟩
  ·simp only [Array.toList_push,List.mem_append,List.mem_singleton] at hen
   rcases hen with hen | rfl
   ·have:=hb1 en hen;omega
   ·show cl<cl+1;omega
  ·simp only [Array.toList_push,List.map_append,List.map_cons,List.map_nil]
   refine List.nodup_append.2 ⟨hb2,by simp,fun a ha b hb=>?_⟩
   obtain ⟨en,hen,rfl⟩:=List.mem_map.1 ha
   have:=hb1 en hen
   simp at hb;subst hb
   omega
  ·rw [Array.toList_push,Fi hi]
   exact Yn.snoc (p:=(k,v)) rfl (hv.ch hst.1.ch) (her.ch hst.1.ch)
 | some i'=>
  have hlt:i'<m.length:=by have:=List.findIdx?_eq_some_iff_findIdx_eq.1 hi;simpa using this.1
  have hl:=her.len
  have hie:∃ en,es.toList[i']?=some en:=⟨_,List.getElem?_eq_getElem (by omega)⟩
  obtain ⟨en,hen⟩:=hie
  obtain ⟨p,hp,hkey,_⟩:=her.get hen
  have hpk:p.1=k:=by
   have h1:=List.findIdx?_eq_some_iff_getElem.1 hi
   obtain ⟨hlt',h2,_⟩:=h1
   have h3:=(List.getElem?_eq_some_iff.1 hp).2
   simp only [List.getElem_map,decide_eq_true_eq] at h2
   rw [← h3];exact h2
  have hen2:es[i']?=some en:=by simpa using hen
  have hst:=Nu (es':=es.modify i' fun q=>{q with key:=enc k,val:=u}) (c':=cl) ho hh
  have hrun:(execOp (X e) ⟨d,.mapUpdate t x y z,ty,pos,af,gd⟩).run P w=.ok .skip (setBlock w b (.map (es.modify i' fun q=>{q with key:=enc k,val:=u}) cl)):=by
   rw [hi] at hf
   simp only [Option.bind_some,hen,Option.map_some] at hf
   have hks:=hk.2.1 k w
   have hke:en.key=enc k:=by rw [hkey,hpk]
   simp only [execOp,hx,hy,hz,Instr.mapUpdate,Sem.run_bind,run_underlying ht,Result.andThen_ok,hget,hk.1,hf,hen2,Option.map_some,Option.getD_some,hke,hks]
   simp [setObj,Sem.run,hh,setBlock]
  unfold doE;rw [hrun]
  refine h g _ hst.1 ⟨b,_,_,rfl,ho,hst.2,fun q hq=>?_,?_,?_⟩
  ·simp only [Array.toList_modify] at hq
   obtain ⟨n,hn⟩:=List.getElem?_of_mem hq
   rw [List.getElem?_modify] at hn
   obtain ⟨q0,hq0,hq1⟩:=Option.map_eq_some_iff.1 hn
   have:=hb1 q0 (List.mem_of_getElem? hq0)
   split at hq1<;>(subst hq1;exact this)
  ·have:(es.modify i' fun q=>{q with key:=enc k,val:=u}).toList.map (·.born)=es.toList.map (·.born):=by
    apply List.ext_getElem?
    intro n
    simp only [Array.toList_modify,List.getElem?_map,List.getElem?_modify]
    cases es.toList[n]? with
    | none=>rfl
    | some q=>simp only [Option.map_some];split<;>rfl
   rw [this];exact hb2
  ·rw [Array.toList_modify,C4 hi]
   exact Yn.put (hv.ch hst.1.ch) (her.ch hst.1.ch)
theorem Ey {i:Nat} {t kt et:TypeId} {m:List (κ × ν)} {mv zv:Value} {k:κ} {z0:ν} (ht:P.underlying t=some (.map kt et)) (hk:Vw P kt enc) (hz:∀ w,(zeroValue et).run P w=.ok zv w) (hzr:∀ m w,RV m w z0 zv) (hx:X e x=mv) (hm:MP enc i g w m mv) (hy:X e y=enc k)
  (h:∀ v,RV g.m w ((Qo m k).getD z0) v→K v w):Doe P (.lookup t x y false) e w K:=fun d ty pos af gd=>by
 obtain ⟨b,es,cl,rfl,ho,hh,hb1,hb2,her⟩:=hm
 have hf:=hk.2.2 k w es.toList (m.map (·.1)) her.keys
 have hget:(getObj b).run P w=.ok (.map es cl) w:=by simp [getObj,Sem.run,hh]
 have hmg:=L9 (m:=m) (k:=k)
 cases hi:(m.map (·.1)).findIdx? (fun x=>decide (x=k)) with
 | none=>
  rw [hi] at hf hmg
  have hrun:(execOp (X e) ⟨d,.lookup t x y false,ty,pos,af,gd⟩).run P w=.ok (.value zv) w:=by
   simp [execOp,hx,hy,Instr.lookup,Sem.run_bind,run_underlying ht,hget,hk.1,hf,hz]
  unfold doE;rw [hrun]
  exact h _ (by rw [hmg];exact hzr _ _)
 | some i'=>
  have hlt:i'<m.length:=by have:=List.findIdx?_eq_some_iff_findIdx_eq.1 hi;simpa using this.1
  have hl:=her.len
  have hen:es.toList[i']?=some es.toList[i']:=List.getElem?_eq_getElem (by omega)
  obtain ⟨p,hp,_,hpr⟩:=her.get hen
  rw [hi] at hf hmg
  simp only [Option.bind_some,hen,Option.map_some,hp] at hf hmg
  have hrun:(execOp (X e) ⟨d,.lookup t x y false,ty,pos,af,gd⟩).run P w=.ok (.value es.toList[i'].val) w:=by
   simp [execOp,hx,hy,Instr.lookup,Sem.run_bind,run_underlying ht,hget,hk.1,hf]
  unfold doE;rw [hrun]
  exact h _ (by rw [hmg];exact hpr)
theorem Co {i:Nat} {t kt et:TypeId} {m:List (κ × ν)} {mv zv:Value} {k:κ} {z0:ν} (ht:P.underlying t=some (.map kt et)) (hk:Vw P kt enc) (hz:∀ w,(zeroValue et).run P w=.ok zv w) (hzr:∀ m w,RV m w z0 zv) (hx:X e x=mv) (hm:MP enc i g w m mv) (hy:X e y=enc k)
  (h:∀ v,RV g.m w ((Qo m k).getD z0) v→K (.tuple #[v,.bool (Qo m k).isSome]) w):Doe P (.lookup t x y true) e w K:=fun d ty pos af gd=>by
 obtain ⟨b,es,cl,rfl,ho,hh,hb1,hb2,her⟩:=hm
 have hf:=hk.2.2 k w es.toList (m.map (·.1)) her.keys
 have hget:(getObj b).run P w=.ok (.map es cl) w:=by simp [getObj,Sem.run,hh]
 have hmg:=L9 (m:=m) (k:=k)
 cases hi:(m.map (·.1)).findIdx? (fun x=>decide (x=k)) with
 | none=>
  rw [hi] at hf hmg
  have hrun:(execOp (X e) ⟨d,.lookup t x y true,ty,pos,af,gd⟩).run P w=.ok (.value (.tuple #[zv,.bool false])) w:=by
   simp [execOp,hx,hy,Instr.lookup,Sem.run_bind,run_underlying ht,hget,hk.1,hf,hz]
  unfold doE;rw [hrun]
  have h1:=h zv (by rw [hmg];exact hzr _ _)
  rw [hmg] at h1;exact h1
 | some i'=>
  have hlt:i'<m.length:=by have:=List.findIdx?_eq_some_iff_findIdx_eq.1 hi;simpa using this.1
  have hl:=her.len
  have hen:es.toList[i']?=some es.toList[i']:=List.getElem?_eq_getElem (by omega)
  obtain ⟨p,hp,_,hpr⟩:=her.get hen
  rw [hi] at hf hmg
  simp only [Option.bind_some,hen,Option.map_some,hp] at hf hmg
  have hrun:(execOp (X e) ⟨d,.lookup t x y true,ty,pos,af,gd⟩).run P w=.ok (.value (.tuple #[es.toList[i'].val,.bool true])) w:=by
   simp [execOp,hx,hy,Instr.lookup,Sem.run_bind,run_underlying ht,hget,hk.1,hf]
  unfold doE;rw [hrun]
  have h1:=h es.toList[i'].val (by rw [hmg];exact hpr)
  rw [hmg] at h1;exact h1
end
section
variable {P:Program} {e:Env} {w:World} {g:Gh} {K:Value→World→Prop} {x y z:Operand}
theorem C2 {m:Nat→Nat} {t1 t2 et:TypeId} {xs:List UInt8} {v:Value} (h1:P.underlying t1=some (.slice et)) (h2:P.underlying t2=some .string) (h3:P.underlying et=some (.int .u8)) (hx:X e x=v) (hv:RV m w xs v)
  (h:K (Str.v ⟨xs⟩) w):Doe P (.convert t1 t2 x) e w K:=fun d ty pos af gd=>by
 obtain ⟨a,c,rfl,hc,hr⟩:=Qs hv
 have hrun:(convert t1 t2 (.slice a xs.length c)).run P w=.ok (Str.v ⟨xs⟩) w:=by
  rcases Nat.eq_zero_or_pos xs.length with h0 | h0
  ·have hx0:xs=[]:=List.eq_nil_of_length_eq_zero h0
   subst hx0
   cases a with
   | none=>exact run_convert_bytes_nil w t1 et h1 h3 0 c t2 h2
   | some ad=>exact run_convert_bytes_back (P:=P) w t1 t2 et ad c [] h1 h3 h2 (fun j hj=>absurd hj (by simp))
  ·obtain ⟨b,off,rfl,_,_,hrow⟩:=hr h0
   obtain ⟨fl,hf,hcell⟩:=hrow.flat
   refine run_convert_bytes_back (P:=P) w t1 t2 et ⟨b,off,none⟩ c xs h1 h3 h2 fun j hj=>?_
   rw [Wg]
   exact hcell j _ (Lg hf j xs[j] (List.getElem?_eq_getElem hj))
 have hrun2:(execOp (X e) ⟨d,.convert t1 t2 x,ty,pos,af,gd⟩).run P w=.ok (.value (Str.v ⟨xs⟩)) w:=by
  simp only [execOp,hx,Sem.run_bind,hrun,Result.andThen_ok,Sem.run_pure]
 unfold doE;rw [hrun2];exact h

def OutG (g:Gh) (w:World) (R:Gh→World→Value→Prop) (v:Value) (w':World):Prop:=∃ g',Ext g w g' w'∧R g' w' v
theorem P7 {f:FuncId} {fn:Func} {c:Code} {args:Array Value} {R:Gh→World→Value→Prop} (hf:P.funcs[f]?=some fn) (hb:fn.body=some c) (hN:args.size≤fn.ntmps)
  (h:∀ g0,g0.m=g.m→Fr g w g0 w→E P fn.ntmps none c (Jd P fn (OutG g w R)) (J0 args) [] w):FnG P f args g w R:=by
 refine Calls.mono (Q6 hf hb hN (h {m:=g.m,o:=fun _=>0} rfl (Fr.start g w))) ?_
 rintro r w' ⟨v,rfl,g',hx,hr⟩
 exact ⟨v,rfl,g',hx,hr⟩
theorem O1 {f:FuncId} {xs:List Operand} {vs:List Value} {ats:Array TypeId} {R:Gh→World→Value→Prop} (hent:Enters P f) (ha:Args e xs vs) (hc:FnG P f vs.toArray g w R)
  (h:∀ g' w' v,Ext g w g' w'→R g' w' v→K v w'):Doe P (.call {callee:=.value (.func f),args:=xs.toArray,argTypes:=ats}) e w K:=
 Q8 hent ha (R:=fun v w'=>∃ g',Ext g w g' w'∧R g' w' v) (Calls.mono hc fun _ _ h=>h) fun v w' ⟨g',hx,hr⟩=>h g' w' v hx hr
theorem OM.handn {α:Type} [GoT α] {i:Nat} {g0 g:Gh} {w0 w:World} {t:TypeId} (hfr:Fr g0 w0 g w):∃ g',Ext g0 w0 g' w∧OM (α:=α) i g' w t [] (.slice none 0 0):=⟨_,hfr.fin,.inl ⟨rfl,rfl⟩⟩
theorem Wl:U3 Int:=fun _ _ _ _ _ _ h=>h
theorem K3 {α β:Type} [GoT α] [GoT β] (h1:U3 α) (h2:U3 β):U3 (α × β):=fun _ m' _ w' _ _ ⟨c1,c2,he,k1,k2⟩=>⟨c1,c2,he,h1 _ m' _ w' _ _ k1,h2 _ m' _ w' _ _ k2⟩
end
section
variable {κ ν:Type} [GoT ν] {enc:κ→Value}
theorem MP.enter {i:Nat} {g:Gh} {w:World} {m:List (κ × ν)} {v:Value} (h:MP enc i g w m v):MP enc 1 {m:=g.m,o:=fun b=>if g.o b=i then 1 else 0} w m v:=by
 obtain ⟨b,es,cl,hv,ho,hh,h1,h2,h3⟩:=h
 exact ⟨b,es,cl,hv,by simp [ho],hh,h1,h2,h3⟩
theorem MP.back {i:Nat} {g0 g:Gh} {w0 w:World} {m0 m:List (κ × ν)} {v:Value} (h0:MP enc i g0 w0 m0 v) (h:MP enc 1 g w m v):MP enc i {m:=g.m,o:=fun b=>if b<w0.heap.size then g0.o b else 0} w m v:=by
 obtain ⟨b,es,cl,hv,ho,hh,h1,h2,h3⟩:=h
 obtain ⟨b0,es0,cl0,hv0,ho0,hh0,_⟩:=h0
 rw [hv] at hv0
 injection hv0 with he;injection he with he
 subst he
 have hb:=Gq hh0
 exact ⟨b,es,cl,hv,by simp [hb,ho0],hh,h1,h2,h3⟩
end
end Go.Proofs.YtpglkdijpcgcaaaGreatDoor
