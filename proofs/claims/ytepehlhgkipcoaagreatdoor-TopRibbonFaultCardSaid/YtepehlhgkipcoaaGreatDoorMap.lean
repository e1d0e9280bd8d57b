/- Own maps, conversions of strings and bytes, slices handed out. No program is named here. -/
import Derived.Test.YtepehlhgkipcoaaGreatDoorSb
import Derived.Maps.RangeRun
import Derived.Laws.IdiomStrings
namespace Go.Proofs.YtepehlhgkipcoaaGreatDoor
open Go.RowKit
open Go.ChangeMaps (setBlock)

/-! ### Maps as lists of entries, in the order in which they were laid -/
def Hf {κ ν:Type} [DecidableEq κ] (m:List (κ × ν)) (k:κ):Option ν:=(m.find? fun p=>decide (p.1=k)).map (·.2)
def H5 {κ ν : Type} [DecidableEq κ] : List (κ × ν) → κ → ν → List (κ × ν)
 | [],k,v=>[(k,v)]
 | p :: m,k,v=>if p.1=k then (k,v) :: m else p :: H5 m k v
def Hs {α : Type} : List α → List (α × List α)
 | []=>[]
 | x :: xs=>(x,xs) :: (Hs xs).map fun p=>(p.1,x :: p.2)
def pickAll {α ρ:Type} [DecidableEq ρ] (rem:List α) (k:α→List α→Option ρ):Option ρ:=
 match (Hs rem).map fun p=>k p.1 p.2 with
 | []=>none
 | x :: xs=>if xs.all (fun y=>decide (y=x)) then x else none
theorem M7 {α ρ:Type} [DecidableEq ρ] {rem:List α} {k:α→List α→Option ρ} {r:ρ} (h:pickAll rem k=some r):∀ p ∈ Hs rem,k p.1 p.2=some r:=by
 unfold pickAll at h
 intro p hp
 have hm:k p.1 p.2 ∈ (Hs rem).map fun p=>k p.1 p.2:=List.mem_map.2 ⟨p,hp,rfl⟩
 generalize (Hs rem).map (fun p=>k p.1 p.2)=l at *
 cases l with
 | nil=>cases h
 | cons x xs=>
  simp only at h
  split at h
  ·rename_i hall
   rcases List.mem_cons.1 hm with hm | hm
   ·rw [hm,h]
   ·rw [List.all_eq_true] at hall
    have:=hall _ hm
    rw [of_decide_eq_true this,h]
  ·cases h
theorem Cl {α : Type} : ∀ (l1 : List α) (x : α) (l2 : List α), (x, l1 ++ l2) ∈ Hs (l1 ++ x :: l2)
 | [],_,_=>by simp [Hs]
 | y :: l1,x,l2=>by
  simp only [List.cons_append,Hs,List.mem_cons,List.mem_map]
  exact .inr ⟨(x,l1 ++ l2),Cl l1 x l2,rfl⟩

class GoKey (κ : Type) extends GoT κ where
 enc:κ→Value
 dec:DecidableEq κ
def Ul (P:Program) (kt:TypeId) {κ:Type} [DecidableEq κ] (enc:κ→Value):Prop:=
 (∀ a w empty,(Instr.checkKey empty 10000 kt (enc a)).run P w=.ok () w)∧(∀ a w,(Instr.keyThatStays (enc a) (enc a)).run P w=.ok (enc a) w) ∧
 ∀ (a:κ) (w:World) (es:List MapEntry) (ks:List κ),es.map (·.key)=ks.map enc→(Instr.findKey kt (enc a) es).run P w=.ok ((ks.findIdx? fun x=>decide (x=a)).bind fun i=>(es[i]?).map fun e=>(i,e.val)) w
theorem Bo {P : Program} {kt : TypeId} (a : Int) (w : World) : ∀ (es : List MapEntry) (ks : List Int) (j : Nat), es.map (·.key) = ks.map (Value.int .i64) →
  Instr.findNow (.int .i64) (.int .i64 a) es j=some ((ks.findIdx? fun x=>decide (x=a)).bind fun i=>(es[i]?).map fun e=>(j + i,e.val))
 | [],[],_,_=>rfl
 | [],_ :: _,_,h=>by simp at h
 | _ :: _,[],_,h=>by simp at h
 | e :: es,k :: ks,j,h=>by
  simp only [List.map_cons,List.cons.injEq] at h
  obtain ⟨h1,h2⟩:=h
  have ih:=Bo (P:=P) (kt:=kt) a w es ks (j + 1) h2
  simp only [Instr.findNow,h1,Instr.sameNow,if_true]
  by_cases hak:a=k
  ·subst hak
   simp [List.findIdx?_cons]
  ·have hka : ¬ k = a := fun h => hak h.symm
   have hb:(a == k)=false:=by simpa using hak
   simp only [hb,ih,List.findIdx?_cons,hka,decide_false,Bool.false_eq_true,if_false]
   cases ks.findIdx? (fun x=>decide (x=a)) with
   | none=>rfl
   | some i=>simp [Nat.add_assoc,Nat.add_comm 1 i]
theorem S5 {P:Program} {kt:TypeId} (ht:P.underlying kt=some (.int .i64)):Ul P kt (Value.int .i64):=by
 refine ⟨fun a w em=>?_,fun a w=>?_,fun a w es ks h=>?_⟩
 ·have hn:∀ n,(Instr.checkKey em (n + 1) kt (.int .i64 a)).run P w=.ok () w:=fun n=>by
   simp [Instr.checkKey,Sem.run_bind,run_underlying ht]
  exact hn 9999
 ·have hs : ∀ n, Instr.sameBits n (.int .i64 a) (.int .i64 a) = true := fun n => by cases n <;> simp [Instr.sameBits]
  unfold Instr.keyThatStays
  rw [hs 10000,if_pos rfl]
  rfl
 ·simp only [Instr.findKey,Sem.run_bind,run_underlying ht,Result.andThen_ok,Bo (P:=P) (kt:=kt) a w es ks 0 h,Sem.run_pure,Nat.zero_add]

def Hq {κ ν : Type} [GoT ν] (enc : κ → Value) (m : Nat → Nat) (w : World) : List MapEntry → List (κ × ν) → Prop
 | [],l=>l=[]
 | e :: es,l=>∃ p l',l=p :: l'∧e.key=enc p.1∧RV m w p.2 e.val∧Hq enc m w es l'
def MP {κ ν:Type} [GoT ν] (enc:κ→Value) (i:Nat) (g:Gh) (w:World) (m:List (κ × ν)) (v:Value):Prop:=
 ∃ b es clock,v=.map (some b)∧g.o b=i∧w.heap[b]?=some (.map es clock)∧(∀ e ∈ es.toList,e.born < clock)∧(es.toList.map (·.born)).Nodup∧Hq enc g.m w es.toList m
section
variable {κ ν:Type} [GoT ν] {enc:κ→Value}
theorem Hq.ch {m m' : Nat → Nat} {w w' : World} (k : Ch m w m' w') : ∀ {es : List MapEntry} {l : List (κ × ν)}, Hq enc m w es l → Hq enc m' w' es l
 | [],_,h=>h
 | _ :: _,_,⟨p,l',h1,h2,h3,h4⟩=>⟨p,l',h1,h2,h3.ch k,Hq.ch k h4⟩
theorem Hq.keys {m : Nat → Nat} {w : World} : ∀ {es : List MapEntry} {l : List (κ × ν)}, Hq enc m w es l → es.map (·.key) = (l.map (·.1)).map enc
 | [],_,h=>by rw [show _=[] from h]; rfl
 | _ :: _,_,⟨p,l',h1,h2,_,h4⟩=>by subst h1; simp [h2,h4.keys]
theorem Hq.len {m : Nat → Nat} {w : World} : ∀ {es : List MapEntry} {l : List (κ × ν)}, Hq enc m w es l → es.length = l.length
 | [],_,h=>by rw [show _=[] from h]; rfl
 | _ :: _,_,⟨p,l',h1,_,_,h4⟩=>by subst h1; simp [h4.len]
theorem Hq.get {m : Nat → Nat} {w : World} : ∀ {es : List MapEntry} {l : List (κ × ν)}, Hq enc m w es l → ∀ {i : Nat} {e : MapEntry}, es[i]? = some e → ∃ p, l[i]? = some p ∧ e.key = enc p.1 ∧ RV m w p.2 e.val
 | [],_,_,_,_,hi=>by simp at hi
 | _ :: _,_,⟨p,l',h1,h2,h3,_⟩,0,e,hi=>by subst h1; simp at hi; subst hi; exact ⟨p,rfl,h2,h3⟩
 | _ :: _,_,⟨p,l',h1,_,_,h4⟩,i + 1,e,hi=>by subst h1; simp at hi; obtain ⟨q,hq⟩:=h4.get hi; exact ⟨q,by simpa using hq.1,hq.2⟩
theorem Hq.snoc {m : Nat → Nat} {w : World} {e : MapEntry} {p : κ × ν} (h1 : e.key = enc p.1) (h2 : RV m w p.2 e.val) : ∀ {es : List MapEntry} {l : List (κ × ν)}, Hq enc m w es l → Hq enc m w (es ++ [e]) (l ++ [p])
 | [],_,h=>by rw [show _=[] from h]; exact ⟨p,[],rfl,h1,h2,rfl⟩
 | _ :: _,_,⟨q,l',h,h3,h4,h5⟩=>by subst h; exact ⟨q,l' ++ [p],rfl,h3,h4,Hq.snoc h1 h2 h5⟩
theorem Hq.put {m : Nat → Nat} {w : World} {k : κ} {v : ν} {u : Value} (h2 : RV m w v u) : ∀ {es : List MapEntry} {l : List (κ × ν)} {i : Nat}, Hq enc m w es l → Hq enc m w (es.modify i fun e => { e with key := enc k, val := u }) (l.modify i fun _ => (k, v))
 | [],_,_,h=>by rw [show _=[] from h]; simp [Hq]
 | e :: es,_,0,⟨q,l',h,_,_,h5⟩=>by subst h; exact ⟨(k,v),l',by simp,rfl,h2,h5⟩
 | e :: es,_,i + 1,⟨q,l',h,h3,h4,h5⟩=>by subst h; exact ⟨q,l'.modify i fun _=>(k,v),by simp,h3,h4,Hq.put h2 h5⟩
variable {i j B:Nat} {g g':Gh} {w w':World} {m:List (κ × ν)} {v:Value}
theorem MP.ext (h:MP enc i g w m v) (k:Ext g w g' w'):MP enc i g' w' m v:=by
 obtain ⟨b,es,cl,hv,ho,hh,h1,h2,h3⟩:=h
 exact ⟨b,es,cl,hv,(k.o b (Gg hh)).trans ho,(k.below.block b (Gg hh)).trans hh,h1,h2,h3.ch k.ch⟩
theorem MP.stp (h:MP enc i g w m v) (k:Stp j g w g' w') (hne:Nat.beq i j=false):MP enc i g' w' m v:=by
 obtain ⟨b,es,cl,hv,ho,hh,h1,h2,h3⟩:=h
 have hij:g.o b ≠ j:=by rw [ho]; intro he; rw [he] at hne; simp at hne
 exact ⟨b,es,cl,hv,(k.o b (Gg hh) hij).trans ho,(k.block b (Gg hh) hij).trans hh,h1,h2,h3.ch k.ch⟩
end
theorem R2 {κ ν : Type} [DecidableEq κ] {k : κ} {v : ν} : ∀ {m : List (κ × ν)}, (m.map (·.1)).findIdx? (fun x => decide (x = k)) = none → H5 m k v = m ++ [(k, v)]
 | [],_=>rfl
 | p :: m,h=>by
  simp only [List.map_cons,List.findIdx?_cons] at h
  by_cases hp:p.1=k
  ·simp [hp] at h
  ·simp only [hp, decide_false, Bool.false_eq_true, if_false, Option.map_eq_none_iff] at h
   simp only [H5,if_neg hp,R2 h,List.cons_append]
theorem Rz {κ ν : Type} [DecidableEq κ] {k : κ} {v : ν} : ∀ {m : List (κ × ν)} {i : Nat}, (m.map (·.1)).findIdx? (fun x => decide (x = k)) = some i → H5 m k v = m.modify i fun _ => (k, v)
 | [],_,h=>by simp at h
 | p :: m,i,h=>by
  simp only [List.map_cons,List.findIdx?_cons] at h
  by_cases hp:p.1=k
  ·simp [hp] at h; subst h; simp [H5,hp]
  ·simp only [hp, decide_false, Bool.false_eq_true, if_false, Option.map_eq_some_iff] at h
   obtain ⟨j,hj,rfl⟩:=h
   simp only [H5,if_neg hp,Rz hj,List.modify_succ_cons]
theorem Ft {κ ν : Type} [DecidableEq κ] {k : κ} : ∀ {m : List (κ × ν)}, Hf m k = ((m.map (·.1)).findIdx? fun x => decide (x = k)).bind fun i => (m[i]?).map (·.2)
 | []=>rfl
 | p :: m=>by
  have ih:=Ft (k:=k) (m:=m)
  unfold Hf at ih ⊢
  simp only [List.map_cons,List.findIdx?_cons,List.find?_cons]
  by_cases hp:p.1=k
  ·simp [hp]
  ·simp only [hp, decide_false, Bool.false_eq_true, if_false, ih]
   cases (m.map (·.1)).findIdx? (fun x=>decide (x=k)) with
   | none=>rfl
   | some i=>simp
section
variable {P:Program} {e:Env} {w:World} {g:Gh} {K:Value→World→Prop} {x y z:Operand} {κ ν:Type} [GoT ν] {enc:κ→Value}
theorem Be (enc:κ→Value) (ν:Type) [GoT ν] (i:Nat) {t:TypeId} (h:∀ g' w' v,Stp i g w g' w'→MP (ν:=ν) enc i g' w' [] v→K v w'):Doe P (.makeMap t none) e w K:=fun d ty pos af gd=>by
 have hrun:(execOp (ev e) ⟨d,.makeMap t none,ty,pos,af,gd⟩).run P w=.ok (.value (.map (some w.heap.size))) (w.alloc (.map #[] 0)):=by
  simp [execOp,Instr.makeMap,Result.andThen]
 unfold doE; rw [hrun]
 exact h _ _ _ (H4 i g w (.map #[] 0)).stp ⟨_,#[],0,rfl,To _ _ _,Q1 _ _,by simp,by simp,rfl⟩
theorem As {i b:Nat} {es es':Array MapEntry} {c c':Nat} (ho:g.o b=i) (hh:w.heap[b]?=some (.map es c)):Stp i g w g (setBlock w b (.map es' c'))∧(setBlock w b (.map es' c')).heap[b]?=some (.map es' c'):=by
 have h1:(setBlock w b (.map es' c')).heap[b]?=some (.map es' c'):=ChangeMaps.heap_setBlock_same hh _
 refine ⟨⟨rfl,rfl,rfl,⟨by simp [setBlock],fun _ _=>Nat.le_refl _,fun k hk j _=>?_⟩,fun k hk hn=>ChangeMaps.heap_setBlock_other hh _ (fun he=>hn (by rw [he]; exact ho)),fun _ _ _=>rfl,fun _ _ _=>rfl⟩,h1⟩
 by_cases hkb:k=b
 ·subst hkb; simp only [World.cell?,h1,hh]
 ·simp only [World.cell?,ChangeMaps.heap_setBlock_other hh _ hkb]
variable [DecidableEq κ]
theorem Vn {i : Nat} {t kt et : TypeId} {m : List (κ × ν)} {mv u : Value} {k : κ} {v : ν} (ht : P.underlying t = some (.map kt et)) (hk : Ul P kt enc) (hx : ev e x = mv) (hm : MP enc i g w m mv) (hy : ev e y = enc k) (hz : ev e z = u) (hv : RV g.m w v u)
  (h:∀ g' w',Stp i g w g' w'→MP enc i g' w' (H5 m k v) mv→K undef w'):Doe P (.mapUpdate t x y z) e w K:=fun d ty pos af gd=>by
 obtain ⟨b,es,cl,rfl,ho,hh,hb1,hb2,her⟩:=hm
 have hf:=hk.2.2 k w es.toList (m.map (·.1)) her.keys
 have hget:(getObj b).run P w=.ok (.map es cl) w:=by simp [getObj,Sem.run,hh]
 cases hi:(m.map (·.1)).findIdx? (fun x=>decide (x=k)) with
 | none=>
  have hst:=As (es':=es.push { key:=enc k,val:=u,born:=cl }) (c':=cl + 1) ho hh
  have hrun:(execOp (ev e) ⟨d,.mapUpdate t x y z,ty,pos,af,gd⟩).run P w=.ok .skip (setBlock w b (.map (es.push { key:=enc k,val:=u,born:=cl }) (cl + 1))):=by
   rw [hi] at hf
   simp only [execOp,hx,hy,hz,Instr.mapUpdate,Sem.run_bind,run_underlying ht,Result.andThen_ok,hget,hk.1,hf,Option.bind_none]
   simp [setObj,Sem.run,hh,setBlock]
  unfold doE; rw [hrun]
  refine h g _ hst.1 ⟨b,_,_,rfl,ho,hst.2,fun en hen=>?_,?_,?_⟩
  ·simp only [Array.toList_push, List.mem_append, List.mem_singleton] at hen
   rcases hen with hen | rfl
   ·have:=hb1 en hen; omega
   ·show cl < cl + 1; omega
  ·simp only [Array.toList_push, List.map_append, List.map_cons, List.map_nil]
   refine List.nodup_append.2 ⟨hb2,by simp,fun a ha b hb=>?_⟩
   obtain ⟨en,hen,rfl⟩:=List.mem_map.1 ha
   have:=hb1 en hen
   simp at hb; subst hb
   omega
  ·rw [Array.toList_push, R2 hi]
   exact Hq.snoc (p:=(k,v)) rfl (hv.ch hst.1.ch) (her.ch hst.1.ch)
 | some i'=>
  have hlt:i' < m.length:=by have:=List.findIdx?_eq_some_iff_findIdx_eq.1 hi; simpa using this.1
  have hl:=her.len
  have hie:∃ en,es.toList[i']?=some en:=⟨_,List.getElem?_eq_getElem (by omega)⟩
  obtain ⟨en,hen⟩:=hie
  obtain ⟨p,hp,hkey,_⟩:=her.get hen
  have hpk:p.1=k:=by
   have h1:=List.findIdx?_eq_some_iff_getElem.1 hi
   obtain ⟨hlt',h2,_⟩:=h1
   have h3:=(List.getElem?_eq_some_iff.1 hp).2
   simp only [List.getElem_map,decide_eq_true_eq] at h2
   rw [← h3]; exact h2
  have hen2:es[i']?=some en:=by simpa using hen
  have hst:=As (es':=es.modify i' fun q=>{ q with key:=enc k,val:=u }) (c':=cl) ho hh
  have hrun:(execOp (ev e) ⟨d,.mapUpdate t x y z,ty,pos,af,gd⟩).run P w=.ok .skip (setBlock w b (.map (es.modify i' fun q=>{ q with key:=enc k,val:=u }) cl)):=by
   rw [hi] at hf
   simp only [Option.bind_some,hen,Option.map_some] at hf
   have hks:=hk.2.1 k w
   have hke:en.key=enc k:=by rw [hkey,hpk]
   simp only [execOp,hx,hy,hz,Instr.mapUpdate,Sem.run_bind,run_underlying ht,Result.andThen_ok,hget,hk.1,hf,hen2,Option.map_some,Option.getD_some,hke,hks]
   simp [setObj,Sem.run,hh,setBlock]
  unfold doE; rw [hrun]
  refine h g _ hst.1 ⟨b,_,_,rfl,ho,hst.2,fun q hq=>?_,?_,?_⟩
  ·simp only [Array.toList_modify] at hq
   obtain ⟨n,hn⟩:=List.getElem?_of_mem hq
   rw [List.getElem?_modify] at hn
   obtain ⟨q0,hq0,hq1⟩:=Option.map_eq_some_iff.1 hn
   have:=hb1 q0 (List.mem_of_getElem? hq0)
   split at hq1 <;> (subst hq1; exact this)
  ·have:(es.modify i' fun q=>{ q with key:=enc k,val:=u }).toList.map (·.born)=es.toList.map (·.born):=by
    apply List.ext_getElem?
    intro n
    simp only [Array.toList_modify,List.getElem?_map,List.getElem?_modify]
    cases es.toList[n]? with
    | none=>rfl
    | some q=>simp only [Option.map_some]; split <;> rfl
   rw [this]; exact hb2
  ·rw [Array.toList_modify, Rz hi]
   exact Hq.put (hv.ch hst.1.ch) (her.ch hst.1.ch)
theorem Vr {i : Nat} {t kt et : TypeId} {m : List (κ × ν)} {mv u : Value} {k : κ} {v : ν} (ht : P.underlying t = some (.map kt et)) (hk : Ul P kt enc) (hx : ev e x = mv) (hm : MP enc i g w m mv) (hy : ev e y = enc k) (hz : ev e z = u) (hv : RV g.m w v u)
  (h:∀ g' w',Stp i g w g' w'→MP enc i g' w' (H5 m k v) mv→K undef w'):Doe P (.insert t x y z) e w K:=fun d ty pos af gd=>by
 have:=Vn ht hk hx hm hy hz hv h d ty pos af gd
 exact this
theorem Ia {i : Nat} {t kt et : TypeId} {m : List (κ × ν)} {mv zv : Value} {k : κ} {z0 : ν} (ht : P.underlying t = some (.map kt et)) (hk : Ul P kt enc) (hz : ∀ w, (zeroValue et).run P w = .ok zv w) (hzr : ∀ m w, RV m w z0 zv) (hx : ev e x = mv) (hm : MP enc i g w m mv) (hy : ev e y = enc k)
  (h:∀ v,RV g.m w ((Hf m k).getD z0) v→K v w):Doe P (.lookup t x y false) e w K:=fun d ty pos af gd=>by
 obtain ⟨b,es,cl,rfl,ho,hh,hb1,hb2,her⟩:=hm
 have hf:=hk.2.2 k w es.toList (m.map (·.1)) her.keys
 have hget:(getObj b).run P w=.ok (.map es cl) w:=by simp [getObj,Sem.run,hh]
 have hmg:=Ft (m:=m) (k:=k)
 cases hi:(m.map (·.1)).findIdx? (fun x=>decide (x=k)) with
 | none=>
  rw [hi] at hf hmg
  have hrun:(execOp (ev e) ⟨d,.lookup t x y false,ty,pos,af,gd⟩).run P w=.ok (.value zv) w:=by
   simp [execOp,hx,hy,Instr.lookup,Sem.run_bind,run_underlying ht,hget,hk.1,hf,hz]
  unfold doE; rw [hrun]
  exact h _ (by rw [hmg]; exact hzr _ _)
 | some i'=>
  have hlt:i' < m.length:=by have:=List.findIdx?_eq_some_iff_findIdx_eq.1 hi; simpa using this.1
  have hl:=her.len
  have hen:es.toList[i']?=some es.toList[i']:=List.getElem?_eq_getElem (by omega)
  obtain ⟨p,hp,_,hpr⟩:=her.get hen
  rw [hi] at hf hmg
  simp only [Option.bind_some,hen,Option.map_some,hp] at hf hmg
  have hrun:(execOp (ev e) ⟨d,.lookup t x y false,ty,pos,af,gd⟩).run P w=.ok (.value es.toList[i'].val) w:=by
   simp [execOp,hx,hy,Instr.lookup,Sem.run_bind,run_underlying ht,hget,hk.1,hf]
  unfold doE; rw [hrun]
  exact h _ (by rw [hmg]; exact hpr)
theorem Ps {i : Nat} {t kt et : TypeId} {m : List (κ × ν)} {mv zv : Value} {k : κ} {z0 : ν} (ht : P.underlying t = some (.map kt et)) (hk : Ul P kt enc) (hz : ∀ w, (zeroValue et).run P w = .ok zv w) (hzr : ∀ m w, RV m w z0 zv) (hx : ev e x = mv) (hm : MP enc i g w m mv) (hy : ev e y = enc k)
  (h:∀ v,RV g.m w ((Hf m k).getD z0) v→K (.tuple #[v,.bool (Hf m k).isSome]) w):Doe P (.lookup t x y true) e w K:=fun d ty pos af gd=>by
 obtain ⟨b,es,cl,rfl,ho,hh,hb1,hb2,her⟩:=hm
 have hf:=hk.2.2 k w es.toList (m.map (·.1)) her.keys
 have hget:(getObj b).run P w=.ok (.map es cl) w:=by simp [getObj,Sem.run,hh]
 have hmg:=Ft (m:=m) (k:=k)
 cases hi:(m.map (·.1)).findIdx? (fun x=>decide (x=k)) with
 | none=>
  rw [hi] at hf hmg
  have hrun:(execOp (ev e) ⟨d,.lookup t x y true,ty,pos,af,gd⟩).run P w=.ok (.value (.tuple #[zv,.bool false])) w:=by
   simp [execOp,hx,hy,Instr.lookup,Sem.run_bind,run_underlying ht,hget,hk.1,hf,hz]
  unfold doE; rw [hrun]
  have h1:=h zv (by rw [hmg]; exact hzr _ _)
  rw [hmg] at h1; exact h1
 | some i'=>
  have hlt:i' < m.length:=by have:=List.findIdx?_eq_some_iff_findIdx_eq.1 hi; simpa using this.1
  have hl:=her.len
  have hen:es.toList[i']?=some es.toList[i']:=List.getElem?_eq_getElem (by omega)
  obtain ⟨p,hp,_,hpr⟩:=her.get hen
  rw [hi] at hf hmg
  simp only [Option.bind_some,hen,Option.map_some,hp] at hf hmg
  have hrun:(execOp (ev e) ⟨d,.lookup t x y true,ty,pos,af,gd⟩).run P w=.ok (.value (.tuple #[es.toList[i'].val,.bool true])) w:=by
   simp [execOp,hx,hy,Instr.lookup,Sem.run_bind,run_underlying ht,hget,hk.1,hf]
  unfold doE; rw [hrun]
  have h1:=h es.toList[i'].val (by rw [hmg]; exact hpr)
  rw [hmg] at h1; exact h1
end
/-! ### Ranges over own maps -/
def MI {κ ν:Type} [GoT ν] (enc:κ→Value) (j i:Nat) (g:Gh) (w:World) (rem:List (κ × ν)) (cur:Option (κ × ν)) (p:Value):Prop:=
 ∃ r b es cl since seen c0, p = .pointer (some ⟨r, 0, none⟩) ∧ g.o r = j ∧ g.o b = i ∧ w.heap[b]? = some (.map es cl) ∧ w.heap[r]? = some (.mapIter (some b) since seen c0) ∧ (∀ e ∈ es.toList, e.born < since) ∧ since ≤ c0 ∧ since ≤ cl ∧ (es.toList.map (·.born)).Nodup ∧
  Hq enc g.m w (leftOf es seen).toList rem∧∀ q,cur=some q→c0=cl∧∃ en ∈ es.toList,(∃ s0:Array Nat,seen=s0.push en.born)∧en.key=enc q.1∧RV g.m w q.2 en.val
section
variable {P:Program} {e:Env} {w:World} {g:Gh} {K:Value→World→Prop} {x y z:Operand} {κ ν:Type} [GoT ν] {enc:κ→Value}
theorem MI.ext {i j:Nat} {g g':Gh} {w w':World} {rem:List (κ × ν)} {cur:Option (κ × ν)} {p:Value} (h:MI enc j i g w rem cur p) (k:Ext g w g' w'):MI enc j i g' w' rem cur p:=by
 obtain ⟨r,b,es,cl,since,seen,c0,hp,h1,h2,h3,h4,h5,h6,h6b,h7,h8,h9⟩:=h
 exact ⟨r,b,es,cl,since,seen,c0,hp,(k.o r (Gg h4)).trans h1,(k.o b (Gg h3)).trans h2,(k.below.block b (Gg h3)).trans h3,(k.below.block r (Gg h4)).trans h4,h5,h6,h6b,h7,h8.ch k.ch,
  fun q hq=>let ⟨a1,en,a2,a3,a4,a5⟩:=h9 q hq; ⟨a1,en,a2,a3,a4,a5.ch k.ch⟩⟩
theorem MI.stp {i j n:Nat} {g g':Gh} {w w':World} {rem:List (κ × ν)} {cur:Option (κ × ν)} {p:Value} (h:MI enc j i g w rem cur p) (k:Stp n g w g' w') (hj:Nat.beq j n=false) (hi:Nat.beq i n=false:=by rfl):MI enc j i g' w' rem cur p:=by
 obtain ⟨r,b,es,cl,since,seen,c0,hp,h1,h2,h3,h4,h5,h6,h6b,h7,h8,h9⟩:=h
 have nr:g.o r ≠ n:=by rw [h1]; intro he; rw [he] at hj; simp at hj
 have nb:g.o b ≠ n:=by rw [h2]; intro he; rw [he] at hi; simp at hi
 exact ⟨r,b,es,cl,since,seen,c0,hp,(k.o r (Gg h4) nr).trans h1,(k.o b (Gg h3) nb).trans h2,(k.block b (Gg h3) nb).trans h3,(k.block r (Gg h4) nr).trans h4,h5,h6,h6b,h7,h8.ch k.ch,
  fun q hq=>let ⟨a1,en,a2,a3,a4,a5⟩:=h9 q hq; ⟨a1,en,a2,a3,a4,a5.ch k.ch⟩⟩
theorem I0 {i:Nat} (j:Nat) {t kt et:TypeId} {m:List (κ × ν)} {mv:Value} (ht:P.underlying t=some (.map kt et)) (hx:ev e x=mv) (hm:MP enc i g w m mv) (h:∀ g' w' p,Stp j g w g' w'→MI enc j i g' w' m none p→K p w'):Doe P (.range t x) e w K:=fun d ty pos af gd=>by
 obtain ⟨b,es,cl,rfl,ho,hh,hb1,hb2,her⟩:=hm
 have hget:(getObj b).run P w=.ok (.map es cl) w:=by simp [getObj,Sem.run,hh]
 have hrun:(execOp (ev e) ⟨d,.range t x,ty,pos,af,gd⟩).run P w=.ok (.value (.pointer (some ⟨w.heap.size,0,none⟩))) (w.alloc (.mapIter (some b) cl #[] cl)):=by
  simp [execOp,hx,Instr.range,Sem.run_bind,run_underlying ht,hget,Result.andThen]
 unfold doE; rw [hrun]
 have hxt:=H4 j g w (.mapIter (some b) cl #[] cl)
 have hbl:=Gg hh
 refine h _ _ _ hxt.stp ⟨w.heap.size,b,es,cl,cl,#[],cl,rfl,To _ _ _,(hxt.o b hbl).trans ho,(hxt.below.block b hbl).trans hh,Q1 _ _,hb1,Nat.le_refl _,Nat.le_refl _,hb2,?_,fun q hq=>(by cases hq)⟩
 have:leftOf es #[]=es:=by simp [leftOf]
 rw [this]; exact her.ch hxt.ch
theorem Nh {i j:Nat} {rem:List (κ × ν)} {cur:Option (κ × ν)} {p:Value} (hx:ev e x=p) (hm:MI enc j i g w rem cur p) (hr:rem.isEmpty=true) (h:K (.tuple #[.bool false]) w):Doe P (.next x false) e w K:=fun d ty pos af gd=>by
 obtain ⟨r,b,es,cl,since,seen,c0,rfl,h1,h2,h3,h4,h5,h6,h6b,h7,h8,h9⟩:=hm
 have hrem:rem=[]:=by simpa using hr
 subst hrem
 have hl:=h8.len
 rcases run_next_at (P:=P) w ty r b since c0 seen es cl h4 h3 h5 h6 with ⟨_,hrun⟩ | ⟨en,hen,_⟩
 ·have hrun2:(execOp (ev e) ⟨d,.next x false,ty,pos,af,gd⟩).run P w=.ok (.value (.tuple #[.bool false])) w:=by
   simp only [execOp,hx,Sem.run_bind,hrun,Result.andThen_ok,Sem.run_pure]
  unfold doE; rw [hrun2]; exact h
 ·have h0 : (leftOf es seen).toList = [] := List.eq_nil_of_length_eq_zero hl
  rw [h0] at hen; cases hen
theorem Hq.split {m : Nat → Nat} {w : World} : ∀ {l1 : List MapEntry} {en : MapEntry} {l2 : List MapEntry} {l : List (κ × ν)}, Hq enc m w (l1 ++ en :: l2) l → ∃ r1 q r2, l = r1 ++ q :: r2 ∧ en.key = enc q.1 ∧ RV m w q.2 en.val ∧ Hq enc m w (l1 ++ l2) (r1 ++ r2)
 | [],en,l2,_,⟨p,l',h1,h2,h3,h4⟩=>⟨[],p,l',h1,h2,h3,h4⟩
 | e0 :: l1,en,l2,_,⟨p,l',h1,h2,h3,h4⟩=>by
  obtain ⟨r1,q,r2,a1,a2,a3,a4⟩:=Hq.split h4
  subst h1; subst a1
  exact ⟨p :: r1,q,r2,rfl,a2,a3,p,r1 ++ r2,rfl,h2,h3,a4⟩
theorem Pu {es:List MapEntry} {seen:Array Nat} {l1 l2:List MapEntry} {en:MapEntry} (hn:(es.map (·.born)).Nodup) (h:es.filter (fun e=>!seen.contains e.born)=l1 ++ en :: l2):es.filter (fun e=>!(seen.push en.born).contains e.born)=l1 ++ l2:=by
 have h1:es.filter (fun e=>!(seen.push en.born).contains e.born)=(es.filter (fun e=>!seen.contains e.born)).filter (fun e=>!(e.born == en.born)):=by
  rw [List.filter_filter]
  congr 1
  funext q
  simp only [Array.contains_push,Bool.not_or,Bool.and_comm]
 rw [h1,h]
 have hsub:((l1 ++ en :: l2).map (·.born)).Nodup:=by
  rw [← h]; exact hn.sublist (List.Sublist.map _ List.filter_sublist)
 rw [List.map_append,List.map_cons,List.nodup_append] at hsub
 obtain ⟨_,n2,n3⟩:=hsub
 rw [List.nodup_cons] at n2
 rw [List.filter_append,List.filter_cons]
 simp only [beq_self_eq_true,Bool.not_true,Bool.false_eq_true,if_false]
 congr 1
 ·rw [List.filter_eq_self]
  intro q hq
  have:=n3 q.born (List.mem_map.2 ⟨q,hq,rfl⟩) en.born (by simp)
  simpa using this
 ·rw [List.filter_eq_self]
  intro q hq
  have:q.born ≠ en.born:=fun he=>n2.1 (by rw [List.mem_map]; exact ⟨q,hq,he⟩)
  simpa using this
theorem Mz {i j : Nat} {rem : List (κ × ν)} {cur : Option (κ × ν)} {p : Value} (hx : ev e x = p) (hm : MI enc j i g w rem cur p) (hij : Nat.beq i j = false) (hr : rem.isEmpty = false)
  (h:∀ q rem' u g' w',(q,rem') ∈ Hs rem→Stp j g w g' w'→MI enc j i g' w' rem' (some q) p→RV g'.m w' q.2 u→K (.tuple #[.bool true,enc q.1,u]) w'):Doe P (.next x false) e w K:=fun d ty pos af gd=>by
 obtain ⟨r,b,es,cl,since,seen,c0,rfl,h1,h2,h3,h4,h5,h6,h6b,h7,h8,h9⟩:=hm
 have hl:=h8.len
 rcases run_next_at (P:=P) w ty r b since c0 seen es cl h4 h3 h5 h6 with ⟨h0,_⟩ | ⟨en,hen,w1,hw1,hrun⟩
 ·have : rem.length = 0 := by rw [← hl]; simpa using h0
  have:rem=[]:=List.eq_nil_of_length_eq_zero this
  subst this; cases hr
 ·have hrun2:(execOp (ev e) ⟨d,.next x false,ty,pos,af,gd⟩).run P w=.ok (.value (.tuple #[.bool true,en.key,en.val])) (setBlock w1 r (.mapIter (some b) since (seen.push en.born) cl)):=by
   simp only [execOp,hx,Sem.run_bind,hrun,Result.andThen_ok,Sem.run_pure]
  unfold doE; rw [hrun2]
  obtain ⟨l1,l2,hsp⟩:=List.append_of_mem hen
  rw [hsp] at h8
  obtain ⟨r1,q,r2,rfl,a2,a3,a4⟩:=Hq.split h8
  have hheap:w1.heap=w.heap:=by rcases hw1 with rfl | rfl <;> rfl
  have hrb:r ≠ b:=fun he=>by rw [he,h2] at h1; subst h1; simp at hij
  have hset:∀ k,k ≠ r→(setBlock w1 r (.mapIter (some b) since (seen.push en.born) cl)).heap[k]?=w.heap[k]?:=fun k hk=>by
   simp only [setBlock,hheap]; rw [Array.getElem?_setIfInBounds_ne (fun h=>hk h.symm)]
  have hself:(setBlock w1 r (.mapIter (some b) since (seen.push en.born) cl)).heap[r]?=some (.mapIter (some b) since (seen.push en.born) cl):=by
   have:=Gg h4
   simp [setBlock,hheap,this]
  have hst:Stp j g w g (setBlock w1 r (.mapIter (some b) since (seen.push en.born) cl)):=by
   refine ⟨by rcases hw1 with rfl | rfl <;> rfl,by rcases hw1 with rfl | rfl <;> rfl,by rcases hw1 with rfl | rfl <;> rfl,⟨by simp [setBlock,hheap],fun _ _=>Nat.le_refl _,fun k hk n _=>?_⟩,fun k hk hn=>hset k (fun he=>hn (by rw [he]; exact h1)),fun _ _ _=>rfl,fun _ _ _=>rfl⟩
   by_cases hkr:k=r
   ·subst hkr; simp only [World.cell?,hself,h4]
   ·simp only [World.cell?,hset k hkr]
  have hmem:en ∈ es.toList:=by
   have:en ∈ (leftOf es seen).toList:=by rw [hsp]; simp
   simp only [leftOf,Array.toList_filter,List.mem_filter] at this
   exact this.1
  have hleft:(leftOf es (seen.push en.born)).toList=l1 ++ l2:=by
   have:=Pu (es:=es.toList) (seen:=seen) h7 (by simpa [leftOf] using hsp)
   simpa [leftOf] using this
  rw [a2]
  refine h q (r1 ++ r2) en.val g _ (Cl r1 q r2) hst ⟨r,b,es,cl,since,seen.push en.born,cl,rfl,h1,h2,(hset b hrb.symm).trans h3,hself,h5,h6b,h6b,h7,?_,fun q' hq'=>?_⟩ (a3.ch hst.ch)
  ·rw [hleft]; exact a4.ch hst.ch
  ·injection hq' with hq'
   subst hq'
   exact ⟨rfl,en,hmem,⟨seen,rfl⟩,a2,a3.ch hst.ch⟩
theorem E9 {i j:Nat} {rem:List (κ × ν)} {q:κ × ν} {p:Value} (hx:ev e x=p) (hm:MI enc j i g w rem (some q) p) (h:∀ u,RV g.m w q.2 u→K (.tuple #[enc q.1,u]) w):Doe P (.entry x) e w K:=fun d ty pos af gd=>by
 obtain ⟨r,b,es,cl,since,seen,c0,rfl,h1,h2,h3,h4,h5,h6,h6b,h7,h8,h9⟩:=hm
 obtain ⟨hc,en,hen,⟨s0,hs0⟩,hk,hv⟩:=h9 q rfl
 subst hc; subst hs0
 have hrun:=run_entry_at (P:=P) w r b since s0 es c0 en h4 h3 hen h7
 have hrun2:(execOp (ev e) ⟨d,.entry x,ty,pos,af,gd⟩).run P w=.ok (.value (.tuple #[en.key,en.val])) w:=by
  simp only [execOp,hx,Sem.run_bind,hrun,Result.andThen_ok,Sem.run_pure]
 unfold doE; rw [hrun2,hk]; exact h _ hv
end

/-! ### Strings and bytes -/
section
variable {P:Program} {e:Env} {w:World} {g:Gh} {K:Value→World→Prop} {x y z:Operand}
theorem Mj (m : Nat → Nat) (w : World) : ∀ (xs : List UInt8), Ts m w xs (xs.map fun b => Value.int .u8 b.toNat)
 | []=>rfl
 | x :: xs=>⟨[.int .u8 x.toNat],xs.map fun b=>Value.int .u8 b.toNat,rfl,rfl,Mj m w xs⟩
theorem Nv (i : Nat) {t1 t2 et : TypeId} {s : Str} (h1 : P.underlying t1 = some .string) (h2 : P.underlying t2 = some (.slice et)) (h3 : P.underlying et = some (.int .u8)) (hx : ev e x = s.v)
  (h:∀ g' w' v,Stp i g w g' w'→OM i g' w' et s.b v→K v w'):Doe P (.convert t1 t2 x) e w K:=fun d ty pos af gd=>by
 have hrun:=run_bytes_of_string (P:=P) w t1 t2 et ⟨⟨s.b⟩⟩ h1 h2 h3
 have hge:=grownCap_ge w s.b.length 0 et
 have hsz:(ByteArray.mk (Array.mk s.b)).size=s.b.length:=rfl
 rw [hsz] at hrun
 generalize grownCap w s.b.length 0 et=cap at hrun hge
 generalize hrow:bytesRow ⟨⟨s.b⟩⟩ cap=row at hrun
 have hrun2:(execOp (ev e) ⟨d,.convert t1 t2 x,ty,pos,af,gd⟩).run P w=.ok (.value (.slice (some ⟨w.heap.size,0,none⟩) s.b.length cap)) (w.drew.alloc (.cells row et (row.size,row.size + 1))):=by
  simp only [execOp,hx,Str.v,Sem.run_bind,hrun,Result.andThen_ok,Sem.run_pure]
 unfold doE; rw [hrun2]
 have hxt:=H4 i g w.drew (.cells row et (row.size,row.size + 1))
 have hxt2:Ext g w { m:=Wk g.m w.heap.size 0,o:=Wk g.o w.heap.size i } (w.drew.alloc (.cells row et (row.size,row.size + 1))):=(Ve g w).trans hxt
 have hrl:row.toList=(s.b.map fun b=>Value.int .u8 b.toNat) ++ List.replicate (cap - s.b.length) (.int .u8 0):=by
  rw [← hrow]; simp [bytesRow,hsz]
 refine h _ _ _ hxt2.stp (.inr ⟨w.heap.size,cap,row,rfl,hge,To _ _ _,To _ _ _,⟨_,Q1 w.drew _,.inr (Nat.le_refl _)⟩,?_,?_⟩)
 ·have : row.toList.length = s.b.length + (cap - s.b.length) := by rw [hrl]; simp
  have:row.size=row.toList.length:=by simp
  simp [GoT.k]; omega
 ·show Ts _ _ s.b (row.toList.take (s.b.length * 1))
  rw [hrl,Nat.mul_one,List.take_left' (by simp)]
  exact Mj _ _ _
theorem Ob {i : Nat} {t1 t2 et : TypeId} {xs : List UInt8} {v : Value} (h1 : P.underlying t1 = some (.slice et)) (h2 : P.underlying t2 = some .string) (h3 : P.underlying et = some (.int .u8)) (hx : ev e x = v) (hv : OM i g w et xs v)
  (h:K (Str.v ⟨xs⟩) w):Doe P (.convert t1 t2 x) e w K:=fun d ty pos af gd=>by
 have hrun:(convert t1 t2 v).run P w=.ok (Str.v ⟨xs⟩) w:=by
  rcases hv with ⟨rfl,rfl⟩ | ⟨b,c,cs,rfl,hc,ho,hm,hh,hsz,hf⟩
  ·exact run_convert_bytes_nil w t1 et h1 h3 0 0 t2 h2
  ·refine run_convert_bytes_back (P := P) w t1 t2 et ⟨b, 0, none⟩ c xs h1 h3 h2 fun j hj => ?_
   have:=B8 hf j xs[j] (List.getElem?_eq_getElem hj)
   rw [List.getElem?_take] at this
   split at this
   ·rw [Wa,Nat.zero_add,hh.cell]; simpa using this
   ·cases this
 have hrun2:(execOp (ev e) ⟨d,.convert t1 t2 x,ty,pos,af,gd⟩).run P w=.ok (.value (Str.v ⟨xs⟩)) w:=by
  simp only [execOp,hx,Sem.run_bind,hrun,Result.andThen_ok,Sem.run_pure]
 unfold doE; rw [hrun2]; exact h
theorem Cf {m : Nat → Nat} {t1 t2 et : TypeId} {xs : List UInt8} {v : Value} (h1 : P.underlying t1 = some (.slice et)) (h2 : P.underlying t2 = some .string) (h3 : P.underlying et = some (.int .u8)) (hx : ev e x = v) (hv : RV m w xs v)
  (h:K (Str.v ⟨xs⟩) w):Doe P (.convert t1 t2 x) e w K:=fun d ty pos af gd=>by
 obtain ⟨a,c,rfl,hc,hr⟩:=Qn hv
 have hrun:(convert t1 t2 (.slice a xs.length c)).run P w=.ok (Str.v ⟨xs⟩) w:=by
  rcases Nat.eq_zero_or_pos xs.length with h0 | h0
  ·have hx0 : xs = [] := List.eq_nil_of_length_eq_zero h0
   subst hx0
   cases a with
   | none=>exact run_convert_bytes_nil w t1 et h1 h3 0 c t2 h2
   | some ad=>exact run_convert_bytes_back (P:=P) w t1 t2 et ad c [] h1 h3 h2 (fun j hj=>absurd hj (by simp))
  ·obtain ⟨b, off, rfl, _, _, hrow⟩ := hr h0
   obtain ⟨fl,hf,hcell⟩:=hrow.flat
   refine run_convert_bytes_back (P:=P) w t1 t2 et ⟨b,off,none⟩ c xs h1 h3 h2 fun j hj=>?_
   rw [Wa]
   exact hcell j _ (B8 hf j xs[j] (List.getElem?_eq_getElem hj))
 have hrun2:(execOp (ev e) ⟨d,.convert t1 t2 x,ty,pos,af,gd⟩).run P w=.ok (.value (Str.v ⟨xs⟩)) w:=by
  simp only [execOp,hx,Sem.run_bind,hrun,Result.andThen_ok,Sem.run_pure]
 unfold doE; rw [hrun2]; exact h

/-! ### Slices that are handed out to be written -/
def OutG (g:Gh) (w:World) (R:Gh→World→Value→Prop) (v:Value) (w':World):Prop:=∃ g',Ext g w g' w'∧R g' w' v
theorem Uf {f : FuncId} {fn : Func} {c : Code} {args : Array Value} {R : Gh → World → Value → Prop} (hf : P.funcs[f]? = some fn) (hb : fn.body = some c) (hN : args.size ≤ fn.ntmps)
  (h:∀ g0,g0.m=g.m→Fr g w g0 w→E P fn.ntmps none c (Jw P fn (OutG g w R)) (J4 args) [] w):FnG P f args g w R:=by
 refine Calls.mono (Wd hf hb hN (h { m:=g.m,o:=fun _=>0 } rfl (Fr.start g w))) ?_
 rintro r w' ⟨v,rfl,g',hx,hr⟩
 exact ⟨v,rfl,g',hx,hr⟩
theorem Vx {f : FuncId} {xs : List Operand} {vs : List Value} {ats : Array TypeId} {R : Gh → World → Value → Prop} (hent : Enters P f) (ha : Args e xs vs) (hc : FnG P f vs.toArray g w R)
  (h:∀ g' w' v,Ext g w g' w'→R g' w' v→K v w'):Doe P (.call { callee:=.value (.func f),args:=xs.toArray,argTypes:=ats }) e w K:=
 Wg hent ha (R:=fun v w'=>∃ g',Ext g w g' w'∧R g' w' v) (Calls.mono hc fun _ _ h=>h) fun v w' ⟨g',hx,hr⟩=>h g' w' v hx hr
theorem OM.handn {α:Type} [GoT α] {i:Nat} {g0 g:Gh} {w0 w:World} {t:TypeId} (hfr:Fr g0 w0 g w):∃ g',Ext g0 w0 g' w∧OM (α:=α) i g' w t [] (.slice none 0 0):=⟨_,hfr.fin,.inl ⟨rfl,rfl⟩⟩
theorem We:Yg Int:=fun _ _ _ _ _ _ h=>h
theorem Sj:Yg Bool:=fun _ _ _ _ _ _ h=>h
theorem Bj:Yg Str:=fun _ _ _ _ _ _ h=>h
theorem K6 {α β:Type} [GoT α] [GoT β] (h1:Yg α) (h2:Yg β):Yg (α × β):=fun _ m' _ w' _ _ ⟨c1,c2,he,k1,k2⟩=>⟨c1,c2,he,h1 _ m' _ w' _ _ k1,h2 _ m' _ w' _ _ k2⟩
end
section
variable {κ ν:Type} [GoT ν] {enc:κ→Value}
theorem MP.enter {i:Nat} {g:Gh} {w:World} {m:List (κ × ν)} {v:Value} (h:MP enc i g w m v):MP enc 1 { m:=g.m,o:=fun b=>if g.o b=i then 1 else 0 } w m v:=by
 obtain ⟨b,es,cl,hv,ho,hh,h1,h2,h3⟩:=h
 exact ⟨b,es,cl,hv,by simp [ho],hh,h1,h2,h3⟩
theorem MP.back {i:Nat} {g0 g:Gh} {w0 w:World} {m0 m:List (κ × ν)} {v:Value} (h0:MP enc i g0 w0 m0 v) (h:MP enc 1 g w m v):MP enc i { m:=g.m,o:=fun b=>if b < w0.heap.size then g0.o b else 0 } w m v:=by
 obtain ⟨b,es,cl,hv,ho,hh,h1,h2,h3⟩:=h
 obtain ⟨b0,es0,cl0,hv0,ho0,hh0,_⟩:=h0
 rw [hv] at hv0
 injection hv0 with he; injection he with he
 subst he
 have hb:=Gg hh0
 exact ⟨b,es,cl,hv,by simp [hb,ho0],hh,h1,h2,h3⟩
theorem MI.dropc {i j:Nat} {g:Gh} {w:World} {rem:List (κ × ν)} {cur:Option (κ × ν)} {p:Value} (h:MI enc j i g w rem cur p):MI enc j i g w rem none p:=by
 obtain ⟨r,b,es,cl,since,seen,c0,hp,h1,h2,h3,h4,h5,h6,h6b,h7,h8,h9⟩:=h
 exact ⟨r,b,es,cl,since,seen,c0,hp,h1,h2,h3,h4,h5,h6,h6b,h7,h8,fun q hq=>(by cases hq)⟩
theorem MP.hand {j i:Nat} {g0 g:Gh} {w0 w:World} {m:List (κ × ν)} {v:Value} (hfr:Fr g0 w0 g w) (h:MP enc (j + 1) g w m v):∃ g',Ext g0 w0 g' w∧MP enc i g' w m v:=by
 obtain ⟨b,es,cl,hv,ho,hh,h1,h2,h3⟩:=h
 have hb:¬ b < w0.heap.size:=fun hb=>by have:=hfr.o b hb; omega
 refine ⟨{ m:=g.m,o:=Wk (fun b=>if b < w0.heap.size then g0.o b else 0) b i },⟨hfr.below,hfr.m,fun b' hb'=>?_⟩,b,es,cl,hv,(by show Wk (fun b=>if b < w0.heap.size then g0.o b else 0) b i b=i; exact To _ _ _),hh,h1,h2,h3⟩
 show Wk (fun b=>if b < w0.heap.size then g0.o b else 0) b i b'=_
 rw [Qx _ _ (show b' ≠ b from fun h=>hb (h ▸ hb'))]
 simp [hb']
end
theorem Lu {P : Program} {e : Env} {w : World} {g : Gh} {K : Value → World → Prop} {f : FuncId} {i : Nat} {c : Operand} {xs : List Operand} {vs : List Value} {ats : Array TypeId} {R : Gh → World → Value → Prop} (hc0 : ev e c = .func (.func f) #[] #[]) (hent : Enters P f) (ha : Args e xs vs) (hc : FnM P f vs.toArray i g w R)
  (h:∀ g' w' v,Stp i g w g' w'→R g' w' v→K v w'):Doe P (.call { callee:=.value c,args:=xs.toArray,argTypes:=ats }) e w K:=fun d ty pos af gd=>by
 have he:=hent vs.toArray w
 have hrun:(execOp (ev e) ⟨d,.call { callee:=.value c,args:=xs.toArray,argTypes:=ats },ty,pos,af,gd⟩).run P w=.ok (.enter f vs.toArray) w:=by
  simp only [execOp,resolve,hc0,Deferred.ofValue,Sem.run_bind,Sem.run_pure,Result.andThen_ok,invoke,List.map_toArray,ha.map,Array.empty_append,Array.append_empty,he]
 unfold doE; rw [hrun]
 refine Calls.mono hc ?_
 rintro r w'' ⟨v,rfl,g',hx,hr⟩
 exact ⟨v,rfl,h g' w'' v hx hr⟩
section
variable {g:Gh} {w:World}
end
end Go.Proofs.YtepehlhgkipcoaaGreatDoor
