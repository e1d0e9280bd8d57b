/- Own slices whose elements are own slices. No program is named here. -/
import Derived.Test.YtmpjooneiaiffaaMap
import Derived.Laws.MakeOwn
namespace Go.Proofs.Ytmpjooneiaiffaa
open Go.RowKit

def RO (i:Nat) (g:Gh) (w:World) (t:TypeId) (rows:List Fv) (v:Value):Prop:=
 (v=.slice none 0 0∧rows=[]) ∨
 ∃ b c cs,v=.slice (some ⟨b,0,none⟩) rows.length c∧g.o b=i∧g.m b=0∧w.heap[b]?=some (.cells cs t (0,0))∧rows.length ≤ c∧c ≤ maxLen∧cs.size=c∧∀ (n:Nat) (r:Fv),rows[n]?=some r→cs[n]?=some r.v
theorem RO.nil {i:Nat} {g:Gh} {w:World} {t:TypeId}:RO i g w t [] (.slice none 0 0):=.inl ⟨rfl,rfl⟩
theorem RO.stp {i j:Nat} {g g':Gh} {w w':World} {t:TypeId} {rows:List Fv} {v:Value} (h:RO i g w t rows v) (k:Stp j g w g' w') (hne:Nat.beq i j=false):RO i g' w' t rows v:=by
 rcases h with h | ⟨b,c,cs,hp,ho,hm,hh,h⟩
 ·exact .inl h
 have hb:=Gr hh
 have hij:g.o b ≠ j:=by rw [ho]; intro he; rw [he] at hne; simp at hne
 exact .inr ⟨b,c,cs,hp,(k.o b hb hij).trans ho,(k.m b hb hij).trans hm,(k.block b hb hij).trans hh,h⟩
section
variable {P:Program} {e:Env} {w:World} {g:Gh} {K:Value→World→Prop} {x y z:Operand}
theorem Ii {i : Nat} {B : Nat → Bool} {n b' : Nat} {g' : Gh} {w' : World} (hB : ∀ x, x < w.heap.size → B x = true → g.o x = i ∧ g.m x = 0)
  (hst:Stp 1 { m:=fun x=>if B x then n else g.m x,o:=fun x=>if B x then 1 else 0 } w g' w') (ho:g'.o b'=1) :
  Stp i g w { m:=fun x=>if x=b' ∨ B x=true then 0 else g'.m x,o:=fun x=>if x=b' then i else if x < w.heap.size then g.o x else 0 } w':=by
 have hb':b' < w.heap.size→B b'=true:=fun hb=>by
  by_cases hBb:B b'=true
  ·exact hBb
  ·have := hst.o b' hb (by simp [hBb])
   simp [hBb,ho] at this
 have hne:∀ x,x < w.heap.size→B x ≠ true→x ≠ b':=fun x hx hn he=>hn (he ▸ hb' (he ▸ hx))
 refine ⟨hst.os,hst.tape,hst.output,⟨hst.ch.size,fun x hx=>?_,fun x hx j hj=>?_⟩,fun x hx hn=>?_,fun x hx hn=>?_,fun x hx hn=>?_⟩
 ·by_cases hBx : B x = true
  ·rw [(hB x hx hBx).2]; exact Nat.zero_le _
  ·have h1 := hst.m x hx (by simp [hBx])
   simp only [hBx,if_false,Bool.false_eq_true] at h1
   simp [hne x hx hBx,hBx,h1]
 ·have hBx : B x ≠ true := fun hBx => by rw [(hB x hx hBx).2] at hj; omega
  have h1:=hst.block x hx (by simp [hBx])
  simp only [World.cell?,h1]
 ·have hBx : B x ≠ true := fun hBx => hn (hB x hx hBx).1
  exact hst.block x hx (by simp [hBx])
 ·have hBx : B x ≠ true := fun hBx => hn (hB x hx hBx).1
  have h1:=hst.m x hx (by simp [hBx])
  simp only [hBx,if_false,Bool.false_eq_true] at h1
  simp [hne x hx hBx,hBx,h1]
 ·have hBx : B x ≠ true := fun hBx => hn (hB x hx hBx).1
  simp [hne x hx hBx,hx]
end

/-! ### The rows -/
def Rl (v u:Value):Prop:=∀ b n c b' n' c',v=.slice (some ⟨b,0,none⟩) n c→u=.slice (some ⟨b',0,none⟩) n' c'→b ≠ b'
theorem Rl.symm {v u:Value} (h:Rl v u):Rl u v:=fun _ _ _ _ _ _ h1 h2 he=>h _ _ _ _ _ _ h2 h1 he.symm
structure RowK {α : Type} (R : Nat → Gh → World → List α → Value → Prop) : Prop where
 ext:∀ {i g w g' w' x v},R i g w x v→Ext g w g' w'→R i g' w' x v
 stp:∀ {i k g w g' w' x v},R i g w x v→Stp k g w g' w'→Nat.beq i k=false→R i g' w' x v
 own:∀ {i g w x v},R i g w x v→v=.slice none 0 0 ∨ ∃ b n c,v=.slice (some ⟨b,0,none⟩) n c∧g.o b=i∧b < w.heap.size
 loc:∀ {i i' g w x v},R i g w x v→∀ o':Nat→Nat,(∀ b n c,v=.slice (some ⟨b,0,none⟩) n c→o' b=i')→R i' { m:=g.m,o:=o' } w x v
def Bo {α:Type} (R:Nat→Gh→World→List α→Value→Prop) (j:Nat) (g:Gh) (w:World) (rows:List Fv) (xss:List (List α)) (hole:Option Nat):Prop:=
 rows.length=xss.length∧(∀ (n:Nat) (r:Fv) (x:List α),hole ≠ some n→rows[n]?=some r→xss[n]?=some x→R j g w x r.v) ∧
 ∀ (n n':Nat) (r r':Fv),hole ≠ some n→hole ≠ some n'→n ≠ n'→rows[n]?=some r→rows[n']?=some r'→Rl r.v r'.v
section
variable {α:Type} {R:Nat→Gh→World→List α→Value→Prop} {i j k j':Nat} {g g':Gh} {w w':World} {rows:List Fv} {xss:List (List α)} {hole:Option Nat}
theorem Bo.nil:Bo R j g w [] [] none:=⟨rfl,fun _ _ _ _ h=>by simp at h,fun _ _ _ _ _ _ _ h=>by simp at h⟩
theorem Bo.stp (K:RowK R) (h:Bo R j g w rows xss hole) (k':Stp k g w g' w') (hne:Nat.beq j k=false):Bo R j g' w' rows xss hole:=⟨h.1,fun n r x hn h1 h2=>K.stp (h.2.1 n r x hn h1 h2) k' hne,h.2.2⟩
theorem beq_ne {i j:Nat} (h:Nat.beq i j=false):i ≠ j:=fun he=>by rw [he] at h; simp at h
theorem retag {w:World} {b:Nat} (ho:g.o b=i) (i':Nat):Stp i g w { m:=g.m,o:=Hy g.o b i' } w:=
 ⟨rfl,rfl,rfl,Ch.refl _ _,fun _ _ _=>rfl,fun _ _ _=>rfl,fun _ _ hn=>Wp _ _ (fun h=>hn (h ▸ ho))⟩
theorem Bo.take (K : RowK R) (h : Bo R j g w rows xss none) {n : Nat} {r : Fv} {x : List α} (h1 : rows[n]? = some r) (h2 : xss[n]? = some x) (j' : Nat) :
  ∃ g',g'.m=g.m∧Stp j g w g' w∧R j' g' w x r.v∧Bo R j g' w rows xss (some n):=by
 have hr:=h.2.1 n r x (by simp) h1 h2
 rcases K.own hr with hv | ⟨b,l,c,hv,ho,hb⟩
 ·refine ⟨g,rfl,(Ext.refl _ _).stp,K.loc hr g.o (fun b n c he=>by rw [hv] at he; cases he),h.1,fun n' r' x' hn=>h.2.1 n' r' x' (by simp),fun n1 n2 r1 r2 h1 h2=>h.2.2 n1 n2 r1 r2 (by simp) (by simp)⟩
 ·refine ⟨{ m := g.m, o := Hy g.o b j' }, rfl, retag ho j', K.loc hr _ (fun b' n' c' he => ?_), h.1, fun n' r' x' hn h1' h2' => ?_, fun n1 n2 r1 r2 h1 h2 => h.2.2 n1 n2 r1 r2 (by simp) (by simp)⟩
  ·rw [hv] at he
   injection he with he _ _
   injection he with he
   injection he with he _
   subst he
   exact Qd _ _ _
  ·have hr' := h.2.1 n' r' x' (by simp) h1' h2'
   refine K.loc hr' _ (fun b' l' c' he=>?_)
   have hap:=h.2.2 n n' r r' (by simp) (by simp) (fun he=>hn (by rw [he])) h1 h1' _ _ _ _ _ _ hv he
   rw [Wp _ _ (fun h=>hap h.symm)]
   rcases K.own hr' with hv' | ⟨b2,l2,c2,hv',ho2,_⟩
   ·rw [hv'] at he; cases he
   ·rw [hv'] at he
    injection he with he _ _
    injection he with he
    injection he with he _
    subst he
    exact ho2
theorem K_apart (K:RowK R) {x x':List α} {v v':Value} (h:R j g w x v) (h':R j' g w x' v') (hne:Nat.beq j j'=false):Rl v v':=fun b n c b' n' c' h1 h2 he=>by
 subst he
 have e1:g.o b=j:=by
  rcases K.own h with hv | ⟨b2,l2,c2,hv',ho2,_⟩
  ·rw [hv] at h1; cases h1
  ·rw [hv'] at h1
   injection h1 with he _ _
   injection he with he
   injection he with he _
   subst he; exact ho2
 have e2:g.o b=j':=by
  rcases K.own h' with hv | ⟨b2,l2,c2,hv',ho2,_⟩
  ·rw [hv] at h2; cases h2
  ·rw [hv'] at h2
   injection h2 with he _ _
   injection he with he
   injection he with he _
   subst he; exact ho2
 exact beq_ne hne (e1.symm.trans e2)
theorem K_tag (K:RowK R) {x:List α} {v:Value} (h:R j' g w x v) (j:Nat):∃ g',g'.m=g.m∧Stp j' g w g' w∧R j g' w x v:=by
 rcases K.own h with hv | ⟨b,l,c,hv,ho,hb⟩
 ·exact ⟨g,rfl,(Ext.refl _ _).stp,K.loc h g.o (fun b n c he=>by rw [hv] at he; cases he)⟩
 ·refine ⟨{ m := g.m, o := Hy g.o b j }, rfl, retag ho j, K.loc h _ (fun b' n' c' he => ?_)⟩
  rw [hv] at he
  injection he with he _ _
  injection he with he
  injection he with he _
  subst he
  exact Qd _ _ _
theorem Bo.put (K : RowK R) {n : Nat} (h : Bo R j g w rows xss (some n)) (r : Fv) {x : List α} (hr : R j' g w x r.v) (hne : Nat.beq j j' = false) :
  ∃ g',g'.m=g.m∧Stp j' g w g' w∧Bo R j g' w (rows.set n r) (xss.set n x) none:=by
 obtain ⟨g',hm,hst,hr'⟩:=K_tag K hr j
 refine ⟨g',hm,hst,by simp [h.1],fun n' r' x' _ h1 h2=>?_,fun n1 n2 r1 r2 _ _ hn h1 h2=>?_⟩
 ·rw [List.getElem?_set] at h1 h2
  by_cases he:n=n'
  ·rw [if_pos he] at h1 h2
   split at h1
   ·split at h2
    ·injection h1 with h1; injection h2 with h2; subst h1; subst h2; exact hr'
    ·cases h2
   ·cases h1
  ·rw [if_neg he] at h1 h2
   exact K.stp (h.2.1 n' r' x' (by simpa using he) h1 h2) hst hne
 ·rw [List.getElem?_set] at h1 h2
  have hx:∀ (n':Nat) (r':Fv),n ≠ n'→rows[n']?=some r'→Rl r'.v r.v:=fun n' r' he h1=>by
   have hlt:n' < xss.length:=by rw [← h.1]; exact (List.getElem?_eq_some_iff.1 h1).1
   exact K_apart K (h.2.1 n' r' _ (by simpa using he) h1 (List.getElem?_eq_getElem hlt)) hr hne
  by_cases he1:n=n1
  ·rw [if_pos he1] at h1
   have he2:n ≠ n2:=fun h=>hn (he1.symm.trans h)
   rw [if_neg he2] at h2
   split at h1
   ·injection h1 with h1; subst h1; exact (hx _ _ he2 h2).symm
   ·cases h1
  ·rw [if_neg he1] at h1
   by_cases he2:n=n2
   ·rw [if_pos he2] at h2
    split at h2
    ·injection h2 with h2; subst h2; exact hx _ _ he1 h1
    ·cases h2
   ·rw [if_neg he2] at h2
    exact h.2.2 n1 n2 r1 r2 (by simpa using he1) (by simpa using he2) hn h1 h2
theorem Bo.swap (h : Bo R j g w rows xss none) {p q : Nat} {rp rq : Fv} {xp xq : List α} (h1 : rows[p]? = some rp) (h2 : rows[q]? = some rq) (h3 : xss[p]? = some xp) (h4 : xss[q]? = some xq) :
  Bo R j g w ((rows.set p rq).set q rp) ((xss.set p xq).set q xp) none:=by
 have hp:p < rows.length:=(List.getElem?_eq_some_iff.1 h1).1
 have hq:q < rows.length:=(List.getElem?_eq_some_iff.1 h2).1
 have hp':p < xss.length:=(List.getElem?_eq_some_iff.1 h3).1
 have hq':q < xss.length:=(List.getElem?_eq_some_iff.1 h4).1
 -- where a row comes from
 let s:Nat→Nat:=fun n=>if n=q then p else if n=p then q else n
 have gs:∀ {β:Type} (l:List β) (yp yq:β) (n:Nat),l[p]?=some yp→l[q]?=some yq→((l.set p yq).set q yp)[n]?=l[s n]?:=fun l yp yq n e1 e2=>by
  have l1:p < l.length:=(List.getElem?_eq_some_iff.1 e1).1
  have l2:q < l.length:=(List.getElem?_eq_some_iff.1 e2).1
  simp only [List.getElem?_set,List.length_set,s]
  by_cases a:n=q
  ·subst a; simp [l2,e1]
  ·by_cases b : n = p
   ·subst b; simp [Ne.symm a,a,l1,e2]
   ·simp [a,b,Ne.symm a,Ne.symm b]
 have si:∀ n n',n ≠ n'→s n ≠ s n':=fun n n' hn=>by
  simp only [s]
  split <;> split <;> (try split) <;> (try split) <;> omega
 refine ⟨by simp [h.1],fun n r x _ e1 e2=>?_,fun n n' r r' _ _ hn e1 e2=>?_⟩
 ·rw [gs rows rp rq n h1 h2] at e1
  rw [gs xss xp xq n h3 h4] at e2
  exact h.2.1 _ _ _ (by simp) e1 e2
 ·rw [gs rows rp rq n h1 h2] at e1
  rw [gs rows rp rq n' h1 h2] at e2
  exact h.2.2 _ _ _ _ (by simp) (by simp) (si n n' hn) e1 e2
end
def NS {α:Type} (R:Nat→Gh→World→List α→Value→Prop) (i j:Nat) (g:Gh) (w:World) (et:TypeId) (xss:List (List α)) (v:Value):Prop:=∃ rows,RO i g w et rows v∧Bo R j g w rows xss none
section
variable {α:Type} {R:Nat→Gh→World→List α→Value→Prop} {i j k:Nat} {g g':Gh} {w w':World} {et:TypeId} {xss:List (List α)} {v:Value}
theorem NS.nil:NS R i j g w et [] (.slice none 0 0):=⟨[],.nil,.nil⟩
theorem NS.stp (K:RowK R) (h:NS R i j g w et xss v) (k':Stp k g w g' w') (h1:Nat.beq i k=false) (h2:Nat.beq j k=false):NS R i j g' w' et xss v:=let ⟨rows,a,b⟩:=h; ⟨rows,a.stp k' h1,b.stp K k' h2⟩
variable [GoT α]
theorem NS.key (hR : ∀ {j g w x v}, R j g w x v → RV g.m w x v) (h : NS R i j g w et xss v) :
  ∃ B:Nat→Bool,(∀ x,x < w.heap.size→B x=true→g.o x=i∧g.m x=0)∧Ch g.m w (fun x=>if B x then xss.length else g.m x) w∧RV (fun x=>if B x then xss.length else g.m x) w xss v:=by
 obtain ⟨rows,hro,hp⟩:=h
 rcases hro with ⟨rfl,rfl⟩ | ⟨b,c,cs,rfl,ho,hm,hh,hc,hcm,hcs,hro⟩
 ·have : xss = [] := List.eq_nil_of_length_eq_zero hp.1.symm
  subst this
  exact ⟨fun _=>false,fun _ _ h=>by simp at h,⟨Nat.le_refl _,fun _ _=>by simp,fun _ _ _ _=>rfl⟩,Hc⟩
 ·have hch:Ch g.m w (fun x=>if (x == b)=true then xss.length else g.m x) w:=⟨Nat.le_refl _,fun x hx=>by
   by_cases hb:x=b
   ·subst hb; rw [hm]; exact Nat.zero_le _
   ·simp [hb],fun _ _ _ _=>rfl⟩
  refine ⟨fun x=>x == b,fun x _ h=>by simp at h; subst h; exact ⟨ho,hm⟩,hch,Ko hp.1 (by rw [← hp.1]; exact hc) fun _=>⟨b,0,rfl,Gr hh,?_,fun n x hn=>?_⟩⟩
  ·show 0 + xss.length * 1 ≤ _; simp
  ·have hl : n < rows.length := by rw [hp.1]; exact (List.getElem?_eq_some_iff.1 hn).1
   have hrn:=List.getElem?_eq_getElem hl
   have hrv:=(hR (hp.2.1 n _ x (by simp) hrn hn)).ch hch
   refine ⟨_,hrv.cells,fun k c hk=>?_⟩
   rw [Rj hrv] at hk
   have hk0:k=0:=by
    have:=(List.getElem?_eq_some_iff.1 hk).1
    simp at this; exact this
   subst hk0
   simp at hk
   subst hk
   show w.cell? ⟨b,0 + n * 1 + 0,none⟩=_
   simp only [World.cell?,hh]
   simpa using hro n _ hrn
end
section
variable {P:Program} {e:Env} {w:World} {g:Gh} {K:Value→World→Prop} {x y z:Operand} {α:Type} [GoT α] {R:Nat→Gh→World→List α→Value→Prop} {i j j':Nat} {et:TypeId} {xss:List (List α)}
end
end Go.Proofs.Ytmpjooneiaiffaa
/- makeSlice. No program is named here. -/
namespace Go.Proofs.Ytmpjooneiaiffaa
open Go.RowKit

def mks {α:Type} (bytes:Nat) (x0:α) (n:Int):Option (List α):=
 if 0 ≤ n∧n ≤ 16777216∧(bytes:Int) * n ≤ 281474976710656 then some (List.replicate n.toNat x0) else none
section
variable {P:Program} {e:Env} {w:World} {g:Gh} {K:Value→World→Prop} {x y z:Operand}
end
theorem up_ex {SR:Je} {β:Type} {A:β→Qg} (h:∀ b,Up SR (A b)):Up SR (fun g w=>∃ b,A b g w):=fun g w g' w' hx ⟨b,hb⟩=>⟨b,h b g w g' w' hx hb⟩
theorem seg_get {cs cy:List Value} {off k p:Nat} (hl:cy.length=k) (ho:off + k ≤ cs.length):(cs.take off ++ cy ++ cs.drop (off + cy.length))[p]?=if p < off then cs[p]? else if p < off + k then cy[p - off]? else cs[p]?:=by
 have ht:(cs.take off).length=off:=by rw [List.length_take]; omega
 by_cases h1:p < off
 ·rw [if_pos h1,List.append_assoc,List.getElem?_append_left (by omega),List.getElem?_take,if_pos h1]
 ·rw [if_neg h1]
  by_cases h2:p < off + k
  ·rw [if_pos h2,List.append_assoc,List.getElem?_append_right (by omega),ht,List.getElem?_append_left (by omega)]
  ·rw [if_neg h2, List.getElem?_append_right (by rw [List.length_append, ht, hl]; omega), List.length_append, ht, hl, List.getElem?_drop]
   congr 1; omega
theorem Gv.vec {β:Type} [GoT β] {n i:Nat} (hi:i < n):Gv (α:=Vector β n) (i * GoT.k β) (fun v=>v[i]) (fun v y=>v.set i y):=by
 have hk:i * GoT.k β + GoT.k β ≤ n * GoT.k β:=by
  have:(i + 1) * GoT.k β ≤ n * GoT.k β:=Nat.mul_le_mul_right _ hi
  rw [Nat.add_mul,Nat.one_mul] at this; exact this
 refine ⟨⟨hk,fun m w x cs h=>h.2 i hi⟩,fun m w x y cs cy h hy=>?_⟩
 have hcy:=GoT.len hy
 have hcs:cs.length=n * GoT.k β:=h.1
 refine ⟨?_,fun j hj=>?_⟩
 ·simp only [List.length_append,List.length_take,List.length_drop]; omega
 ·have hkj:j * GoT.k β + GoT.k β ≤ n * GoT.k β:=by
   have:(j + 1) * GoT.k β ≤ n * GoT.k β:=Nat.mul_le_mul_right _ hj
   rw [Nat.add_mul,Nat.one_mul] at this; exact this
  by_cases hij:i=j
  ·subst hij
   have:((cs.take (i * GoT.k β) ++ cy ++ cs.drop (i * GoT.k β + cy.length)).drop (i * GoT.k β)).take (GoT.k β)=cy:=by
    apply List.ext_getElem?
    intro t
    rw [List.getElem?_take,List.getElem?_drop,seg_get hcy (by omega)]
    split
    ·rw [if_neg (by omega),if_pos (by omega)]; congr 1; omega
    ·rw [List.getElem?_eq_none (by omega)]
   rw [this]
   simpa using hy
  ·have:((cs.take (i * GoT.k β) ++ cy ++ cs.drop (i * GoT.k β + cy.length)).drop (j * GoT.k β)).take (GoT.k β)=(cs.drop (j * GoT.k β)).take (GoT.k β):=by
    apply List.ext_getElem?
    intro t
    rw [List.getElem?_take,List.getElem?_drop,List.getElem?_take,List.getElem?_drop,seg_get hcy (by omega)]
    split
    ·rename_i ht
     rcases Nat.lt_or_gt_of_ne hij with h1 | h1
     ·have : (i + 1) * GoT.k β ≤ j * GoT.k β := Nat.mul_le_mul_right _ h1
      rw [Nat.add_mul,Nat.one_mul] at this
      rw [if_neg (by omega),if_neg (by omega)]
     ·have : (j + 1) * GoT.k β ≤ i * GoT.k β := Nat.mul_le_mul_right _ h1
      rw [Nat.add_mul,Nat.one_mul] at this
      rw [if_pos (by omega)]
    ·rfl
   rw [this]
   have h2:=h.2 j hj
   simpa [Vector.getElem_set,hij] using h2
theorem Us {β:Type} {n i:Nat} {v:Vector β n} (hi:i < n):idx v.toList (i:Int)=some v[i]:=by
 unfold idx
 rw [if_pos (Int.natCast_nonneg i)]
 simp [hi]
end Go.Proofs.Ytmpjooneiaiffaa
/- The dead rest of a chain of && or ||, told in one step. No program is named here. -/
namespace Go.Proofs.Ytmpjooneiaiffaa
open Go.RowKit

def Cq : Value → Bool
 | .tuple ⟨[]⟩=>true
 | _=>false
theorem Ix {v:Value} (h:Cq v=true):v=undef:=by
 unfold Cq at h
 split at h
 ·rfl
 ·cases h
def Vk (e : Env) : Op → Option Value
 | .move x=>some (ev e x)
 | .pick x y z => match ev e x with
  | .bool true=>some (ev e y)
  | .bool false=>some (ev e z)
  | _=>none
 | _=>none
def Nh (ops:Array Oper) (e:Env) (o:Oper):Option (Bool × Value):=
 match o.guard with
 | none=>(Vk e o.op).map fun v=>(true,v)
 | some (j, b) => match (ops[j]?).bind (·.dst) with
  | none=>none
  | some d => match e d with
   | .bool true=>bif b then (Vk e o.op).map fun v=>(true,v) else some (false,undef)
   | .bool false=>bif b then some (false,undef) else (Vk e o.op).map fun v=>(true,v)
   | v=>bif Cq v then some (false,undef) else none
theorem Dh {P:Program} {e:Env} {op:Op} {v:Value} (h:Vk e op=some v):Pur P op e v∧Dd op=true:=by
 unfold Vk at h
 split at h
 ·injection h with h; subst h; exact ⟨Zk rfl,rfl⟩
 ·split at h
  ·rename_i hx; injection h with h; subst h; exact ⟨Zl hx rfl,rfl⟩
  ·rename_i hx; injection h with h; subst h; exact ⟨Zl hx rfl,rfl⟩
  ·cases h
 ·cases h
theorem Rr {P : Program} {ops : Array Oper} {e : Env} {o : Oper} {t : Bool} {v : Value} (h : Nh ops e o = some (t, v)) :
  Wants ops e o.guard t∧(t=true→Pur P o.op e v∧Dd o.op=true)∧(t=false→v=undef):=by
 unfold Nh at h
 have go:∀ {t v},(Vk e o.op).map (fun v=>(true,v))=some (t,v)→t=true∧Vk e o.op=some v:=fun {t v} h=>by
  cases hv:Vk e o.op with
  | none=>rw [hv] at h; cases h
  | some u=>rw [hv] at h; simp at h; exact ⟨h.1.symm ▸ rfl,by rw [h.2]⟩
 split at h
 ·rename_i hg
  obtain ⟨rfl,hv⟩:=go h
  rw [hg]
  exact ⟨.plain,fun _=>Dh hv,by simp⟩
 ·rename_i j b hg
  rw [hg]
  split at h
  ·cases h
  ·rename_i d hd
   split at h
   ·rename_i he
    cases b with
    | true=>obtain ⟨rfl,hv⟩:=go h; exact ⟨.yes hd he,fun _=>Dh hv,by simp⟩
    | false=>simp at h; obtain ⟨rfl,rfl⟩:=h; exact ⟨.no hd he rfl,by simp,by simp⟩
   ·rename_i he
    cases b with
    | true=>simp at h; obtain ⟨rfl,rfl⟩:=h; exact ⟨.no hd he rfl,by simp,by simp⟩
    | false=>obtain ⟨rfl,hv⟩:=go h; exact ⟨.yes hd he,fun _=>Dh hv,by simp⟩
   ·rename_i hb1 hb2
    cases hu:Cq (e d) with
    | true=>rw [hu] at h; simp at h; obtain ⟨rfl,rfl⟩:=h; exact ⟨.off hd (Ix hu),by simp,by simp⟩
    | false=>rw [hu] at h; cases h
def Sv (ops : Array Oper) (N : Nat) : Nat → List Oper → Env → Option (List Oper × Env)
 | 0,l,e=>some (l,e)
 | n + 1, o :: l, e => match Nh ops e o with
  | some (_,v)=>bif okO N o.dst then Sv ops N n l (Qa e o.dst v) else none
  | none=>none
 | _ + 1,[],_=>none
theorem By {P:Program} {N:Nat} {ro:Option Nat} {ops:Array Oper} {Q:Yk} {ds:List Deferred} {w:World} (n:Nat):∀ {l l':List Oper} {e e':Env},Sv ops N n l e=some (l',e')→EL P N ro ops l' Q e' ds w→EL P N ro ops l Q e ds w:=by
 induction n with
 | zero=>intro l l' e e' h k; simp only [Sv,Option.some.injEq,Prod.mk.injEq] at h; obtain ⟨rfl,rfl⟩:=h; exact k
 | succ n ih=>
  intro l l' e e' h k
  cases l with
  | nil=>simp [Sv] at h
  | cons o l=>
   unfold Sv at h
   split at h
   ·rename_i t v ho
    cases hN:okO N o.dst with
    | false=>rw [hN] at h; cases h
    | true=>
     rw [hN] at h
     obtain ⟨h1,h2,h3⟩:=Rr (P:=P) ho
     have:=ih h k
     obtain ⟨d,op,ty,pos,af,gd⟩:=o
     cases t with
     | true=>obtain ⟨hp,hn⟩:=h2 rfl; exact Rk hp h1 (by rw [Bool.and_eq_true]; exact ⟨hn,hN⟩) this
     | false=>rw [h3 rfl] at this; exact Cx h1 hN this
   ·cases h
def Xf (ops : Array Oper) (Φ : Xr) : Nat → List Nat → (Nat → Qg) → Env → Option (List Nat × (Nat → Qg) × Env)
 | 0,l,F,e=>some (l,F,e)
 | n + 1, i :: l, F, e => match ops[i]? with
  | none=>none
  | some o => match Nh ops e o with
   | some (true, v) => match Φ i with
    | none=>Xf ops Φ n l (Kz F i (fun g w=>∀ j ∈ Ta o,F j g w)) (Qa e o.dst v)
    | some _=>none
   | some (false,_)=>Xf ops Φ n l (Kz F i (fun _ _=>True)) (Qa e o.dst undef)
   | none=>none
 | _ + 1,[],_,_=>none
theorem Il {SR:Je} {P:Program} {ops:Array Oper} {C:Qg} {Φ:Xr} {Q:Env→Qg} (hnl:∀ i,SR.late i=false) (n:Nat):∀ {l l':List Nat} {F F':Nat→Qg} {e e':Env},Xf ops Φ n l F e=some (l',F',e')→Lex SR P ops C Φ Q l' F' e'→Lex SR P ops C Φ Q l F e:=by
 induction n with
 | zero=>intro l l' F F' e e' h k; simp only [Xf,Option.some.injEq,Prod.mk.injEq] at h; obtain ⟨rfl,rfl,rfl⟩:=h; exact k
 | succ n ih=>
  intro l l' F F' e e' h k
  cases l with
  | nil=>simp [Xf] at h
  | cons i l=>
   unfold Xf at h
   split at h
   ·cases h
   ·rename_i o ho
    split at h
    ·rename_i v hv
     split at h
     ·rename_i hφ
      obtain ⟨h1,h2,_⟩:=Rr (P:=P) hv
      obtain ⟨d,op,ty,pos,af,gd⟩:=o
      exact Aj ho hφ h1 (fun _ _ _=>(h2 rfl).1) (ih h k) (hnl i)
     ·cases h
    ·rename_i hv
     obtain ⟨h1,_,_⟩:=Rr (P:=P) hv
     obtain ⟨d,op,ty,pos,af,gd⟩:=o
     exact L_skip ho h1 (ih h k)
    ·cases h
end Go.Proofs.Ytmpjooneiaiffaa
