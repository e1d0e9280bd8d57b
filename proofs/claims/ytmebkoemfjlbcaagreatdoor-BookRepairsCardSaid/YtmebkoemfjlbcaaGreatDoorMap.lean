/- Own maps, conversions of strings and bytes, slices handed out. No program is named here. -/
import Derived.Test.YtmebkoemfjlbcaaGreatDoorSb
import Derived.Maps.RangeRun
import Derived.Laws.IdiomStrings
namespace Go.Proofs.YtmebkoemfjlbcaaGreatDoor
open Go.RowKit
open Go.ChangeMaps (setBlock)

/-! ### Maps as lists of entries, in the order in which they were laid -/
def mget {κ ν:Type} [DecidableEq κ] (m:List (κ × ν)) (k:κ):Option ν:=(m.find? fun p=>decide (p.1=k)).map (·.2)
def mset {κ ν : Type} [DecidableEq κ] : List (κ × ν) → κ → ν → List (κ × ν)
 | [],k,v=>[(k,v)]
 | p :: m,k,v=>if p.1=k then (k,v) :: m else p :: mset m k v
class GoKey (κ : Type) extends GoT κ where
 enc:κ→Value
 dec:DecidableEq κ
def KeyLaw (P:Program) (kt:TypeId) {κ:Type} [DecidableEq κ] (enc:κ→Value):Prop:=
 (∀ a w empty,(Instr.checkKey empty 10000 kt (enc a)).run P w=.ok () w)∧(∀ a w,(Instr.keyThatStays (enc a) (enc a)).run P w=.ok (enc a) w) ∧
 ∀ (a:κ) (w:World) (es:List MapEntry) (ks:List κ),es.map (·.key)=ks.map enc→(Instr.findKey kt (enc a) es).run P w=.ok ((ks.findIdx? fun x=>decide (x=a)).bind fun i=>(es[i]?).map fun e=>(i,e.val)) w
def EntR {κ ν : Type} [GoT ν] (enc : κ → Value) (m : Nat → Nat) (w : World) : List MapEntry → List (κ × ν) → Prop
 | [],l=>l=[]
 | e :: es,l=>∃ p l',l=p :: l'∧e.key=enc p.1∧RV m w p.2 e.val∧EntR enc m w es l'
def MP {κ ν:Type} [GoT ν] (enc:κ→Value) (i:Nat) (g:Gh) (w:World) (m:List (κ × ν)) (v:Value):Prop:=
 ∃ b es clock,v=.map (some b)∧g.o b=i∧w.heap[b]?=some (.map es clock)∧(∀ e ∈ es.toList,e.born < clock)∧(es.toList.map (·.born)).Nodup∧EntR enc g.m w es.toList m
section
variable {κ ν:Type} [GoT ν] {enc:κ→Value}
theorem EntR.ch {m m' : Nat → Nat} {w w' : World} (k : Ch m w m' w') : ∀ {es : List MapEntry} {l : List (κ × ν)}, EntR enc m w es l → EntR enc m' w' es l
 | [],_,h=>h
 | _ :: _,_,⟨p,l',h1,h2,h3,h4⟩=>⟨p,l',h1,h2,h3.ch k,EntR.ch k h4⟩
theorem EntR.keys {m : Nat → Nat} {w : World} : ∀ {es : List MapEntry} {l : List (κ × ν)}, EntR enc m w es l → es.map (·.key) = (l.map (·.1)).map enc
 | [],_,h=>by rw [show _=[] from h]; rfl
 | _ :: _,_,⟨p,l',h1,h2,_,h4⟩=>by subst h1; simp [h2,h4.keys]
theorem EntR.len {m : Nat → Nat} {w : World} : ∀ {es : List MapEntry} {l : List (κ × ν)}, EntR enc m w es l → es.length = l.length
 | [],_,h=>by rw [show _=[] from h]; rfl
 | _ :: _,_,⟨p,l',h1,_,_,h4⟩=>by subst h1; simp [h4.len]
theorem EntR.get {m : Nat → Nat} {w : World} : ∀ {es : List MapEntry} {l : List (κ × ν)}, EntR enc m w es l → ∀ {i : Nat} {e : MapEntry}, es[i]? = some e → ∃ p, l[i]? = some p ∧ e.key = enc p.1 ∧ RV m w p.2 e.val
 | [],_,_,_,_,hi=>by simp at hi
 | _ :: _,_,⟨p,l',h1,h2,h3,_⟩,0,e,hi=>by subst h1; simp at hi; subst hi; exact ⟨p,rfl,h2,h3⟩
 | _ :: _,_,⟨p,l',h1,_,_,h4⟩,i + 1,e,hi=>by subst h1; simp at hi; obtain ⟨q,hq⟩:=h4.get hi; exact ⟨q,by simpa using hq.1,hq.2⟩
theorem EntR.snoc {m : Nat → Nat} {w : World} {e : MapEntry} {p : κ × ν} (h1 : e.key = enc p.1) (h2 : RV m w p.2 e.val) : ∀ {es : List MapEntry} {l : List (κ × ν)}, EntR enc m w es l → EntR enc m w (es ++ [e]) (l ++ [p])
 | [],_,h=>by rw [show _=[] from h]; exact ⟨p,[],rfl,h1,h2,rfl⟩
 | _ :: _,_,⟨q,l',h,h3,h4,h5⟩=>by subst h; exact ⟨q,l' ++ [p],rfl,h3,h4,EntR.snoc h1 h2 h5⟩
theorem EntR.put {m : Nat → Nat} {w : World} {k : κ} {v : ν} {u : Value} (h2 : RV m w v u) : ∀ {es : List MapEntry} {l : List (κ × ν)} {i : Nat}, EntR enc m w es l → EntR enc m w (es.modify i fun e => { e with key := enc k, val := u }) (l.modify i fun _ => (k, v))
 | [],_,_,h=>by rw [show _=[] from h]; simp [EntR]
 | e :: es,_,0,⟨q,l',h,_,_,h5⟩=>by subst h; exact ⟨(k,v),l',by simp,rfl,h2,h5⟩
 | e :: es,_,i + 1,⟨q,l',h,h3,h4,h5⟩=>by subst h; exact ⟨q,l'.modify i fun _=>(k,v),by simp,h3,h4,EntR.put h2 h5⟩
variable {i j B:Nat} {g g':Gh} {w w':World} {m:List (κ × ν)} {v:Value}
theorem MP.ext (h:MP enc i g w m v) (k:Ext g w g' w'):MP enc i g' w' m v:=by
 obtain ⟨b,es,cl,hv,ho,hh,h1,h2,h3⟩:=h
 exact ⟨b,es,cl,hv,(k.o b (lt_of_heap hh)).trans ho,(k.below.block b (lt_of_heap hh)).trans hh,h1,h2,h3.ch k.ch⟩
theorem MP.stp (h:MP enc i g w m v) (k:Stp j g w g' w') (hne:Nat.beq i j=false):MP enc i g' w' m v:=by
 obtain ⟨b,es,cl,hv,ho,hh,h1,h2,h3⟩:=h
 have hij:g.o b ≠ j:=by rw [ho]; intro he; rw [he] at hne; simp at hne
 exact ⟨b,es,cl,hv,(k.o b (lt_of_heap hh) hij).trans ho,(k.block b (lt_of_heap hh) hij).trans hh,h1,h2,h3.ch k.ch⟩
theorem MP.ist (h:MP enc i g w m v) (k:IStp B g w g' w') (hi:Nat.beq i 0=false:=by rfl):MP enc i g' w' m v:=h.stp k.st hi
end
theorem mset_none {κ ν : Type} [DecidableEq κ] {k : κ} {v : ν} : ∀ {m : List (κ × ν)}, (m.map (·.1)).findIdx? (fun x => decide (x = k)) = none → mset m k v = m ++ [(k, v)]
 | [],_=>rfl
 | p :: m,h=>by
  simp only [List.map_cons,List.findIdx?_cons] at h
  by_cases hp:p.1=k
  ·simp [hp] at h
  ·simp only [hp, decide_false, Bool.false_eq_true, if_false, Option.map_eq_none_iff] at h
   simp only [mset,if_neg hp,mset_none h,List.cons_append]
theorem mset_some {κ ν : Type} [DecidableEq κ] {k : κ} {v : ν} : ∀ {m : List (κ × ν)} {i : Nat}, (m.map (·.1)).findIdx? (fun x => decide (x = k)) = some i → mset m k v = m.modify i fun _ => (k, v)
 | [],_,h=>by simp at h
 | p :: m,i,h=>by
  simp only [List.map_cons,List.findIdx?_cons] at h
  by_cases hp:p.1=k
  ·simp [hp] at h; subst h; simp [mset,hp]
  ·simp only [hp, decide_false, Bool.false_eq_true, if_false, Option.map_eq_some_iff] at h
   obtain ⟨j,hj,rfl⟩:=h
   simp only [mset,if_neg hp,mset_some hj,List.modify_succ_cons]
theorem mget_eq {κ ν : Type} [DecidableEq κ] {k : κ} : ∀ {m : List (κ × ν)}, mget m k = ((m.map (·.1)).findIdx? fun x => decide (x = k)).bind fun i => (m[i]?).map (·.2)
 | []=>rfl
 | p :: m=>by
  have ih:=mget_eq (k:=k) (m:=m)
  unfold mget at ih ⊢
  simp only [List.map_cons,List.findIdx?_cons,List.find?_cons]
  by_cases hp:p.1=k
  ·simp [hp]
  ·simp only [hp, decide_false, Bool.false_eq_true, if_false, ih]
   cases (m.map (·.1)).findIdx? (fun x=>decide (x=k)) with
   | none=>rfl
   | some i=>simp
section
variable {P:Program} {e:Env} {w:World} {g:Gh} {K:Value→World→Prop} {x y z:Operand} {κ ν:Type} [GoT ν] {enc:κ→Value}
theorem D_makeMap (enc:κ→Value) (ν:Type) [GoT ν] (i:Nat) {t:TypeId} (h:∀ g' w' v,Stp i g w g' w'→MP (ν:=ν) enc i g' w' [] v→K v w'):Doe P (.makeMap t none) e w K:=fun d ty pos af gd=>by
 have hrun:(execOp (ev e) ⟨d,.makeMap t none,ty,pos,af,gd⟩).run P w=.ok (.value (.map (some w.heap.size))) (w.alloc (.map #[] 0)):=by
  simp [execOp,Instr.makeMap,Result.andThen]
 unfold doE; rw [hrun]
 exact h _ _ _ (ext_alloc i g w (.map #[] 0)).stp ⟨_,#[],0,rfl,updN_same _ _ _,heap_new_at _ _,by simp,by simp,rfl⟩
theorem stp_map {i b:Nat} {es es':Array MapEntry} {c c':Nat} (ho:g.o b=i) (hh:w.heap[b]?=some (.map es c)):Stp i g w g (setBlock w b (.map es' c'))∧(setBlock w b (.map es' c')).heap[b]?=some (.map es' c'):=by
 have h1:(setBlock w b (.map es' c')).heap[b]?=some (.map es' c'):=ChangeMaps.heap_setBlock_same hh _
 refine ⟨⟨rfl,rfl,rfl,⟨by simp [setBlock],fun _ _=>Nat.le_refl _,fun k hk j _=>?_⟩,fun k hk hn=>ChangeMaps.heap_setBlock_other hh _ (fun he=>hn (by rw [he]; exact ho)),fun _ _ _=>rfl,fun _ _ _=>rfl⟩,h1⟩
 by_cases hkb:k=b
 ·subst hkb; simp only [World.cell?,h1,hh]
 ·simp only [World.cell?,ChangeMaps.heap_setBlock_other hh _ hkb]
variable [DecidableEq κ]
theorem D_mapUpdate {i : Nat} {t kt et : TypeId} {m : List (κ × ν)} {mv u : Value} {k : κ} {v : ν} (ht : P.underlying t = some (.map kt et)) (hk : KeyLaw P kt enc) (hx : ev e x = mv) (hm : MP enc i g w m mv) (hy : ev e y = enc k) (hz : ev e z = u) (hv : RV g.m w v u)
  (h:∀ g' w',Stp i g w g' w'→MP enc i g' w' (mset m k v) mv→K undef w'):Doe P (.mapUpdate t x y z) e w K:=fun d ty pos af gd=>by
 obtain ⟨b,es,cl,rfl,ho,hh,hb1,hb2,her⟩:=hm
 have hf:=hk.2.2 k w es.toList (m.map (·.1)) her.keys
 have hget:(getObj b).run P w=.ok (.map es cl) w:=by simp [getObj,Sem.run,hh]
 cases hi:(m.map (·.1)).findIdx? (fun x=>decide (x=k)) with
 | none=>
  have hst:=stp_map (es':=es.push { key:=enc k,val:=u,born:=cl }) (c':=cl + 1) ho hh
  have hrun:(execOp (ev e) ⟨d,.mapUpdate t x y z,ty,pos,af,gd⟩).run P w=.ok .skip (setBlock w b (.map (es.push { key:=enc k,val:=u,born:=cl }) (cl + 1))):=by
   rw [hi] at hf
   simp only [execOp,hx,hy,hz,Instr.mapUpdate,Sem.run_bind,run_underlying ht,Result.andThen_ok,hget,hk.1,hf,Option.bind_none]
   simp [setObj,Sem.run,hh,setBlock]
  unfold doE; rw [hrun]
  refine h g _ hst.1 ⟨b,_,_,rfl,ho,hst.2,fun en hen=>?_,?_,?_⟩
  ·simp only [Array.toList_push, List.mem_append, List.mem_singleton] at hen
   rcases hen with hen | rfl
   ·have:=hb1 en hen; omega
   ·show cl < cl + 1; omega
  ·simp only [Array.toList_push, List.map_append, List.map_cons, List.map_nil]
   refine List.nodup_append.2 ⟨hb2,by simp,fun a ha b hb=>?_⟩
   obtain ⟨en,hen,rfl⟩:=List.mem_map.1 ha
   have:=hb1 en hen
   simp at hb; subst hb
   omega
  ·rw [Array.toList_push, mset_none hi]
   exact EntR.snoc (p:=(k,v)) rfl (hv.ch hst.1.ch) (her.ch hst.1.ch)
 | some i'=>
  have hlt:i' < m.length:=by have:=List.findIdx?_eq_some_iff_findIdx_eq.1 hi; simpa using this.1
  have hl:=her.len
  have hie:∃ en,es.toList[i']?=some en:=⟨_,List.getElem?_eq_getElem (by omega)⟩
  obtain ⟨en,hen⟩:=hie
  obtain ⟨p,hp,hkey,_⟩:=her.get hen
  have hpk:p.1=k:=by
   have h1:=List.findIdx?_eq_some_iff_getElem.1 hi
   obtain ⟨hlt',h2,_⟩:=h1
   have h3:=(List.getElem?_eq_some_iff.1 hp).2
   simp only [List.getElem_map,decide_eq_true_eq] at h2
   rw [← h3]; exact h2
  have hen2:es[i']?=some en:=by simpa using hen
  have hst:=stp_map (es':=es.modify i' fun q=>{ q with key:=enc k,val:=u }) (c':=cl) ho hh
  have hrun:(execOp (ev e) ⟨d,.mapUpdate t x y z,ty,pos,af,gd⟩).run P w=.ok .skip (setBlock w b (.map (es.modify i' fun q=>{ q with key:=enc k,val:=u }) cl)):=by
   rw [hi] at hf
   simp only [Option.bind_some,hen,Option.map_some] at hf
   have hks:=hk.2.1 k w
   have hke:en.key=enc k:=by rw [hkey,hpk]
   simp only [execOp,hx,hy,hz,Instr.mapUpdate,Sem.run_bind,run_underlying ht,Result.andThen_ok,hget,hk.1,hf,hen2,Option.map_some,Option.getD_some,hke,hks]
   simp [setObj,Sem.run,hh,setBlock]
  unfold doE; rw [hrun]
  refine h g _ hst.1 ⟨b,_,_,rfl,ho,hst.2,fun q hq=>?_,?_,?_⟩
  ·simp only [Array.toList_modify] at hq
   obtain ⟨n,hn⟩:=List.getElem?_of_mem hq
   rw [List.getElem?_modify] at hn
   obtain ⟨q0,hq0,hq1⟩:=Option.map_eq_some_iff.1 hn
   have:=hb1 q0 (List.mem_of_getElem? hq0)
   split at hq1 <;> (subst hq1; exact this)
  ·have:(es.modify i' fun q=>{ q with key:=enc k,val:=u }).toList.map (·.born)=es.toList.map (·.born):=by
    apply List.ext_getElem?
    intro n
    simp only [Array.toList_modify,List.getElem?_map,List.getElem?_modify]
    cases es.toList[n]? with
    | none=>rfl
    | some q=>simp only [Option.map_some]; split <;> rfl
   rw [this]; exact hb2
  ·rw [Array.toList_modify, mset_some hi]
   exact EntR.put (hv.ch hst.1.ch) (her.ch hst.1.ch)
theorem D_lookupOk {i : Nat} {t kt et : TypeId} {m : List (κ × ν)} {mv zv : Value} {k : κ} {z0 : ν} (ht : P.underlying t = some (.map kt et)) (hk : KeyLaw P kt enc) (hz : ∀ w, (zeroValue et).run P w = .ok zv w) (hzr : ∀ m w, RV m w z0 zv) (hx : ev e x = mv) (hm : MP enc i g w m mv) (hy : ev e y = enc k)
  (h:∀ v,RV g.m w ((mget m k).getD z0) v→K (.tuple #[v,.bool (mget m k).isSome]) w):Doe P (.lookup t x y true) e w K:=fun d ty pos af gd=>by
 obtain ⟨b,es,cl,rfl,ho,hh,hb1,hb2,her⟩:=hm
 have hf:=hk.2.2 k w es.toList (m.map (·.1)) her.keys
 have hget:(getObj b).run P w=.ok (.map es cl) w:=by simp [getObj,Sem.run,hh]
 have hmg:=mget_eq (m:=m) (k:=k)
 cases hi:(m.map (·.1)).findIdx? (fun x=>decide (x=k)) with
 | none=>
  rw [hi] at hf hmg
  have hrun:(execOp (ev e) ⟨d,.lookup t x y true,ty,pos,af,gd⟩).run P w=.ok (.value (.tuple #[zv,.bool false])) w:=by
   simp [execOp,hx,hy,Instr.lookup,Sem.run_bind,run_underlying ht,hget,hk.1,hf,hz]
  unfold doE; rw [hrun]
  have h1:=h zv (by rw [hmg]; exact hzr _ _)
  rw [hmg] at h1; exact h1
 | some i'=>
  have hlt:i' < m.length:=by have:=List.findIdx?_eq_some_iff_findIdx_eq.1 hi; simpa using this.1
  have hl:=her.len
  have hen:es.toList[i']?=some es.toList[i']:=List.getElem?_eq_getElem (by omega)
  obtain ⟨p,hp,_,hpr⟩:=her.get hen
  rw [hi] at hf hmg
  simp only [Option.bind_some,hen,Option.map_some,hp] at hf hmg
  have hrun:(execOp (ev e) ⟨d,.lookup t x y true,ty,pos,af,gd⟩).run P w=.ok (.value (.tuple #[es.toList[i'].val,.bool true])) w:=by
   simp [execOp,hx,hy,Instr.lookup,Sem.run_bind,run_underlying ht,hget,hk.1,hf]
  unfold doE; rw [hrun]
  have h1:=h es.toList[i'].val (by rw [hmg]; exact hpr)
  rw [hmg] at h1; exact h1
end
/-! ### Ranges over own maps -/
def MI {κ ν:Type} [GoT ν] (enc:κ→Value) (j i:Nat) (g:Gh) (w:World) (rem:List (κ × ν)) (cur:Option (κ × ν)) (p:Value):Prop:=
 ∃ r b es cl since seen c0, p = .pointer (some ⟨r, 0, none⟩) ∧ g.o r = j ∧ g.o b = i ∧ w.heap[b]? = some (.map es cl) ∧ w.heap[r]? = some (.mapIter (some b) since seen c0) ∧ (∀ e ∈ es.toList, e.born < since) ∧ since ≤ c0 ∧ since ≤ cl ∧ (es.toList.map (·.born)).Nodup ∧
  EntR enc g.m w (leftOf es seen).toList rem∧∀ q,cur=some q→c0=cl∧∃ en ∈ es.toList,(∃ s0:Array Nat,seen=s0.push en.born)∧en.key=enc q.1∧RV g.m w q.2 en.val
section
variable {P:Program} {e:Env} {w:World} {g:Gh} {K:Value→World→Prop} {x y z:Operand} {κ ν:Type} [GoT ν] {enc:κ→Value}
theorem MI.ext {i j:Nat} {g g':Gh} {w w':World} {rem:List (κ × ν)} {cur:Option (κ × ν)} {p:Value} (h:MI enc j i g w rem cur p) (k:Ext g w g' w'):MI enc j i g' w' rem cur p:=by
 obtain ⟨r,b,es,cl,since,seen,c0,hp,h1,h2,h3,h4,h5,h6,h6b,h7,h8,h9⟩:=h
 exact ⟨r,b,es,cl,since,seen,c0,hp,(k.o r (lt_of_heap h4)).trans h1,(k.o b (lt_of_heap h3)).trans h2,(k.below.block b (lt_of_heap h3)).trans h3,(k.below.block r (lt_of_heap h4)).trans h4,h5,h6,h6b,h7,h8.ch k.ch,
  fun q hq=>let ⟨a1,en,a2,a3,a4,a5⟩:=h9 q hq; ⟨a1,en,a2,a3,a4,a5.ch k.ch⟩⟩
theorem MI.stp {i j n:Nat} {g g':Gh} {w w':World} {rem:List (κ × ν)} {cur:Option (κ × ν)} {p:Value} (h:MI enc j i g w rem cur p) (k:Stp n g w g' w') (hj:Nat.beq j n=false) (hi:Nat.beq i n=false:=by rfl):MI enc j i g' w' rem cur p:=by
 obtain ⟨r,b,es,cl,since,seen,c0,hp,h1,h2,h3,h4,h5,h6,h6b,h7,h8,h9⟩:=h
 have nr:g.o r ≠ n:=by rw [h1]; intro he; rw [he] at hj; simp at hj
 have nb:g.o b ≠ n:=by rw [h2]; intro he; rw [he] at hi; simp at hi
 exact ⟨r,b,es,cl,since,seen,c0,hp,(k.o r (lt_of_heap h4) nr).trans h1,(k.o b (lt_of_heap h3) nb).trans h2,(k.block b (lt_of_heap h3) nb).trans h3,(k.block r (lt_of_heap h4) nr).trans h4,h5,h6,h6b,h7,h8.ch k.ch,
  fun q hq=>let ⟨a1,en,a2,a3,a4,a5⟩:=h9 q hq; ⟨a1,en,a2,a3,a4,a5.ch k.ch⟩⟩
theorem MI.ist {i j B:Nat} {g g':Gh} {w w':World} {rem:List (κ × ν)} {cur:Option (κ × ν)} {p:Value} (h:MI enc j i g w rem cur p) (k:IStp B g w g' w') (hj:Nat.beq j 0=false:=by rfl) (hi:Nat.beq i 0=false:=by rfl):MI enc j i g' w' rem cur p:=h.stp k.st hj hi
theorem EntR.split {m : Nat → Nat} {w : World} : ∀ {l1 : List MapEntry} {en : MapEntry} {l2 : List MapEntry} {l : List (κ × ν)}, EntR enc m w (l1 ++ en :: l2) l → ∃ r1 q r2, l = r1 ++ q :: r2 ∧ en.key = enc q.1 ∧ RV m w q.2 en.val ∧ EntR enc m w (l1 ++ l2) (r1 ++ r2)
 | [],en,l2,_,⟨p,l',h1,h2,h3,h4⟩=>⟨[],p,l',h1,h2,h3,h4⟩
 | e0 :: l1,en,l2,_,⟨p,l',h1,h2,h3,h4⟩=>by
  obtain ⟨r1,q,r2,a1,a2,a3,a4⟩:=EntR.split h4
  subst h1; subst a1
  exact ⟨p :: r1,q,r2,rfl,a2,a3,p,r1 ++ r2,rfl,h2,h3,a4⟩
end

/-! ### Strings and bytes -/
section
variable {P:Program} {e:Env} {w:World} {g:Gh} {K:Value→World→Prop} {x y z:Operand}
theorem D_convBSr {m : Nat → Nat} {t1 t2 et : TypeId} {xs : List UInt8} {v : Value} (h1 : P.underlying t1 = some (.slice et)) (h2 : P.underlying t2 = some .string) (h3 : P.underlying et = some (.int .u8)) (hx : ev e x = v) (hv : RV m w xs v)
  (h:K (Str.v ⟨xs⟩) w):Doe P (.convert t1 t2 x) e w K:=fun d ty pos af gd=>by
 obtain ⟨a,c,rfl,hc,hr⟩:=RV_list hv
 have hrun:(convert t1 t2 (.slice a xs.length c)).run P w=.ok (Str.v ⟨xs⟩) w:=by
  rcases Nat.eq_zero_or_pos xs.length with h0 | h0
  ·have hx0 : xs = [] := List.eq_nil_of_length_eq_zero h0
   subst hx0
   cases a with
   | none=>exact run_convert_bytes_nil w t1 et h1 h3 0 c t2 h2
   | some ad=>exact run_convert_bytes_back (P:=P) w t1 t2 et ad c [] h1 h3 h2 (fun j hj=>absurd hj (by simp))
  ·obtain ⟨b, off, rfl, _, _, hrow⟩ := hr h0
   obtain ⟨fl,hf,hcell⟩:=hrow.flat
   refine run_convert_bytes_back (P:=P) w t1 t2 et ⟨b,off,none⟩ c xs h1 h3 h2 fun j hj=>?_
   rw [addr_add]
   exact hcell j _ (u8cells hf j xs[j] (List.getElem?_eq_getElem hj))
 have hrun2:(execOp (ev e) ⟨d,.convert t1 t2 x,ty,pos,af,gd⟩).run P w=.ok (.value (Str.v ⟨xs⟩)) w:=by
  simp only [execOp,hx,Sem.run_bind,hrun,Result.andThen_ok,Sem.run_pure]
 unfold doE; rw [hrun2]; exact h

/-! ### Slices that are handed out to be written -/
theorem plain_int:Plain Int:=fun _ _ _ _ _ _ h=>h
theorem plain_u8:Plain UInt8:=fun _ _ _ _ _ _ h=>h
theorem plain_two {α β:Type} [GoT α] [GoT β] (h1:Plain α) (h2:Plain β):Plain (α × β):=fun _ m' _ w' _ _ ⟨c1,c2,he,k1,k2⟩=>⟨c1,c2,he,h1 _ m' _ w' _ _ k1,h2 _ m' _ w' _ _ k2⟩
end
section
variable {κ ν:Type} [GoT ν] {enc:κ→Value}
theorem MP.enter {i:Nat} {g:Gh} {w:World} {m:List (κ × ν)} {v:Value} (h:MP enc i g w m v):MP enc 1 { m:=g.m,o:=fun b=>if g.o b=i then 1 else 0 } w m v:=by
 obtain ⟨b,es,cl,hv,ho,hh,h1,h2,h3⟩:=h
 exact ⟨b,es,cl,hv,by simp [ho],hh,h1,h2,h3⟩
theorem MP.back {i:Nat} {g0 g:Gh} {w0 w:World} {m0 m:List (κ × ν)} {v:Value} (h0:MP enc i g0 w0 m0 v) (h:MP enc 1 g w m v):MP enc i { m:=g.m,o:=fun b=>if b < w0.heap.size then g0.o b else 0 } w m v:=by
 obtain ⟨b,es,cl,hv,ho,hh,h1,h2,h3⟩:=h
 obtain ⟨b0,es0,cl0,hv0,ho0,hh0,_⟩:=h0
 rw [hv] at hv0
 injection hv0 with he; injection he with he
 subst he
 have hb:=lt_of_heap hh0
 exact ⟨b,es,cl,hv,by simp [hb,ho0],hh,h1,h2,h3⟩
end
section
variable {g:Gh} {w:World}
end
end Go.Proofs.YtmebkoemfjlbcaaGreatDoor
