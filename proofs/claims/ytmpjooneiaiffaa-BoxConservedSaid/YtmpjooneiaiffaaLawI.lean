/- Plain laws: what one pick does to the loom and to the race. -/
import Derived.Test.YtmpjooneiaiffaaLawE
set_option maxRecDepth 8000
namespace Go.Proofs.Ytmpjooneiaiffaa
open Go.RowKit
open Classical

structure Goes (a a' : List BoxShuttle) (i : Nat) (s c s' c' : Int) : Prop where
 at0:isAt a s c i
 free:¬ ∃ k,isAt a s' c' k
 to:∀ t d k,isAt a' t d k ↔ (i=k∧s'=t∧c'=d) ∨ (i ≠ k∧isAt a t d k)
theorem Goes.mv {a:List BoxShuttle} {i:Nat} {s c s' c':Int} (h:isAt a s c i) (hf:¬ ∃ k,isAt a s' c' k):Goes a (mv a i s' c') i s c s' c':=⟨h,hf,fun _ _ _=>mv_isAt h.1⟩
theorem isAt_same {a:List BoxShuttle} {s c t d:Int} {i:Nat} (h:isAt a s c i) (h':isAt a t d i):s=t∧c=d:=by
 obtain ⟨_,h1,h2⟩:=h; obtain ⟨_,k1,k2⟩:=h'; exact ⟨h1.symm.trans k1,h2.symm.trans k2⟩
theorem Goes.left {a a':List BoxShuttle} {i:Nat} {s c s' c':Int} (hd:Dst a) (h:Goes a a' i s c s' c') (hn:¬ (s=s'∧c=c')):¬ ∃ k,isAt a' s c k:=by
 rintro ⟨k,hk⟩
 rcases (h.to _ _ _).1 hk with ⟨_,h1,h2⟩ | ⟨h1,h2⟩
 ·exact hn ⟨h1.symm,h2.symm⟩
 ·exact h1 (hd.one h.at0 h2)
theorem Goes.there {a a':List BoxShuttle} {i:Nat} {s c s' c':Int} (h:Goes a a' i s c s' c'):isAt a' s' c' i:=(h.to _ _ _).2 (.inl ⟨rfl,rfl,rfl⟩)
def Wh (a b:List BoxShuttle):Prop:=∀ s c i,isAt a s c i ↔ isAt b s c i
theorem Wh.rfl' (a:List BoxShuttle):Wh a a:=fun _ _ _=>Iff.rfl
theorem Wh.symm {a b:List BoxShuttle} (h:Wh a b):Wh b a:=fun s c i=>(h s c i).symm
theorem oneL_some {l : BoxLoom} (hd : Dst l.Shuttles) {p : BoxPick} {n : BoxLoom} {i : Nat} {m : Int} (h : oneL l p = some (n, i, m)) :
  m=mvs l p∧n.Boxes=l.Boxes∧n.At=[p.Left,p.Right]∧((n.Shuttles=mv l.Shuttles i 1 p.Right∧Goes l.Shuttles n.Shuttles i 0 p.Left 1 p.Right) ∨ (n.Shuttles=mv l.Shuttles i 0 p.Left∧Goes l.Shuttles n.Shuttles i 1 p.Right 0 p.Left)):=by
 unfold oneL at h
 rcases inX_cases hd 0 p.Left with ⟨a,ha,ea⟩ | ⟨ha,ea⟩ <;> rcases inX_cases hd 1 p.Right with ⟨b,hb,eb⟩ | ⟨hb,eb⟩ <;> rw [ea,eb] at h
 ·rw [dif_pos (by omega)] at h; cases h
 ·rw [dif_neg (by omega), if_pos (by omega), Int.toNat_natCast] at h
  cases h
  exact ⟨rfl,rfl,rfl,.inl ⟨rfl,Goes.mv ha hb⟩⟩
 ·rw [dif_neg (by omega), if_neg (by omega), Int.toNat_natCast] at h
  cases h
  exact ⟨rfl,rfl,rfl,.inr ⟨rfl,Goes.mv hb ha⟩⟩
 ·rw [dif_pos (by omega)] at h; cases h
theorem oneL_none {l:BoxLoom} (hd:Dst l.Shuttles) {p:BoxPick}:oneL l p=none ↔ ((inX l.Shuttles 0 p.Left + 1=0) ↔ (inX l.Shuttles 1 p.Right + 1=0)):=by
 unfold oneL
 rcases inX_cases hd 0 p.Left with ⟨a,ha,ea⟩ | ⟨ha,ea⟩ <;> rcases inX_cases hd 1 p.Right with ⟨b,hb,eb⟩ | ⟨hb,eb⟩ <;> rw [ea,eb]
 ·rw [dif_pos (by omega)]; simp; omega
 ·rw [dif_neg (by omega),if_pos (by omega)]; simp; omega
 ·rw [dif_neg (by omega),if_neg (by omega)]; simp; omega
 ·rw [dif_pos (by omega)]; simp
theorem okS_mv {B:List Int} {x:BoxShuttle} (h:okS B x=true) {s:Nat} (hs:s < 2) {c:Int} (hc:0 ≤ c∧c ≤ B.getD s 0 - 1):okS B { x with Side:=s,Box:=c }=true:=by
 unfold okS at h ⊢
 simp only [Bool.and_eq_true] at h ⊢
 exact ⟨⟨⟨h.1.1.1,btw_iff.2 (by omega)⟩,btw_iff.2 (by rw [Int.toNat_natCast]; exact hc)⟩,h.2⟩
theorem mv_ok {B:List Int} {xs:List BoxShuttle} (h:∀ x ∈ xs,okS B x=true) {i s:Nat} (hs:s < 2) {c:Int} (hc:0 ≤ c∧c ≤ B.getD s 0 - 1):∀ x ∈ mv xs i s c,okS B x=true:=by
 intro x hx
 obtain ⟨j,hj,rfl⟩:=List.mem_iff_getElem.1 hx
 have hj':j < xs.length:=by rw [mv_len] at hj; exact hj
 rw [mv_at hj hj']
 split
 ·exact okS_mv (h _ (List.getElem_mem hj')) hs hc
 ·exact h _ (List.getElem_mem hj')
theorem oneL_ok {l : BoxLoom} (hl : LOk l) {p : BoxPick} (hp : okP l.Boxes p = true) {n : BoxLoom} {i : Nat} {m : Int} (h : oneL l p = some (n, i, m)) :
  LOk n∧n.Boxes=l.Boxes∧n.Shuttles.length=l.Shuttles.length∧i < l.Shuttles.length∧0 ≤ m∧m ≤ 6:=by
 obtain ⟨h1,h2,h3,h4⟩:=oneL_some hl.dst h
 have hp':=okP_iff.1 hp
 have b0:=hl.box (i:=0) (by omega)
 have b1:=hl.box (i:=1) (by omega)
 have a0:=hl.at (i:=0) (by omega)
 have a1:=hl.at (i:=1) (by omega)
 have hsd:sides n:=fun j hj=>by
  have hb:=hl.box hj
  unfold sideOk
  rw [h2,h3,Bool.and_eq_true]
  refine ⟨btw_iff.2 hb,btw_iff.2 ?_⟩
  rcases (by omega:j=0 ∨ j=1) with rfl | rfl
  ·exact hp'.1
  ·exact hp'.2
 have hlen:len2 n:=⟨by rw [h2]; exact hl.len.1,by rw [h3]; rfl⟩
 have hm:0 ≤ m∧m ≤ 6:=by rw [h1]; unfold mvs; omega
 rcases h4 with ⟨e,g⟩ | ⟨e,g⟩
 ·have hi : i < l.Shuttles.length := g.at0.1
  have hl':n.Shuttles.length=l.Shuttles.length:=by rw [e,mv_len]
  refine ⟨⟨hlen,hsd,by rw [hl']; exact hl.few,by rw [hl']; exact hl.some,?_,?_⟩,h2,hl',hi,hm⟩
  ·rw [e,h2]; exact mv_ok (s:=1) hl.sh (by omega) hp'.2
  ·rw [e]; exact mv_dst hl.dst hi g.free
 ·have hi : i < l.Shuttles.length := g.at0.1
  have hl':n.Shuttles.length=l.Shuttles.length:=by rw [e,mv_len]
  refine ⟨⟨hlen,hsd,by rw [hl']; exact hl.few,by rw [hl']; exact hl.some,?_,?_⟩,h2,hl',hi,hm⟩
  ·rw [e,h2]; exact mv_ok (s:=0) hl.sh (by omega) hp'.1
  ·rw [e]; exact mv_dst hl.dst hi g.free
/-! ### The race -/
theorem vidx {α:Type} {n:Nat} (v:Vector α n) {i:Nat} (h:i < n):idx v.toList (i:Int)=some v[i]:=by
 rw [qidx (by simpa using h)]; simp
theorem vmod_at {β:Type} {n:Nat} {v:Vector β n} {i:Nat} {h:β→β} {j:Nat} (hj:j < n):(vmod v (i:Int) h)[j]=if i=j then h v[j] else v[j]:=by
 unfold vmod
 rw [Int.toNat_natCast]
 split
 ·rw [Vector.getElem_set]; split
  ·rename_i he; subst he; rfl
  ·rfl
 ·rw [if_neg (by omega)]
theorem vset_at {β:Type} {n:Nat} {v:Vector β n} {i:Nat} {y:β} {j:Nat} (hj:j < n):(vset v (i:Int) y)[j]=if i=j then y else v[j]:=by
 unfold vset
 rw [Int.toNat_natCast,Vector.getElem_setIfInBounds]
structure Rel (r : BoxRace) (l : BoxLoom) : Prop where
 bx:∀ (s b:Nat) (hs:s < 2) (hb:b < 4),r.boxes[s][b]=inX l.Shuttles s b + 1
 at_:r.at_=⟨l.At.getD 0 0,l.At.getD 1 0⟩
theorem inX_eq {xs ys:List BoxShuttle} (hx:Dst xs) (hy:Dst ys) {s c:Int} (h:∀ i,isAt xs s c i ↔ isAt ys s c i):inX xs s c=inX ys s c:=by
 rcases inX_cases hx s c with ⟨i,hi,e⟩ | ⟨hi,e⟩
 ·rw [e,inX_some hy ((h i).1 hi)]
 ·rw [e,inX_none fun ⟨j,hj⟩=>hi ⟨j,(h j).2 hj⟩]
theorem Goes.else {a a':List BoxShuttle} {i:Nat} {s c s' c':Int} (ha:Dst a) (ha':Dst a') (h:Goes a a' i s c s' c') {t d:Int} (h1:¬ (t=s∧d=c)) (h2:¬ (t=s'∧d=c')):inX a' t d=inX a t d:=by
 refine inX_eq ha' ha fun k=>?_
 rw [h.to]
 constructor
 ·rintro (⟨_, e1, e2⟩ | ⟨_, h⟩)
  ·exact absurd ⟨e1.symm,e2.symm⟩ h2
  ·exact h
 ·intro hk
  refine .inr ⟨fun he=>?_,hk⟩
  subst he
  have:=isAt_same h.at0 hk
  exact h1 ⟨this.1.symm,this.2.symm⟩
theorem s106 {a b:Int} (ha:0 ≤ a∧a ≤ 1000) (hb:0 ≤ b∧b ≤ 1000):f106 a b=some (max a b - min a b):=by
 unfold f106; rw [max64_eq,min64_eq,w64_id (by omega) (by omega)]
theorem s97 {r : BoxRace} {l : BoxLoom} (hr : Rel r l) (hl : LOk l) {p : BoxPick} (hp : okP l.Boxes p = true) :
  Yes (f97 r p) (fun x=>match oneL l p with | some (n,i,m)=>Rel x.1 n∧x.2.1=(i:Int) + 1∧x.2.2=m | none=>x=(r,0,0)):=by
 have hd:=hl.dst
 have hf:=hl.few
 have hp':=okP_iff.1 hp
 have b0:=hl.box (i:=0) (by omega)
 have b1:=hl.box (i:=1) (by omega)
 have a0:=hl.at (i:=0) (by omega)
 have a1:=hl.at (i:=1) (by omega)
 obtain ⟨L,hL⟩:∃ L:Nat,p.Left=L:=⟨p.Left.toNat,by omega⟩
 obtain ⟨R,hR⟩:∃ R:Nat,p.Right=R:=⟨p.Right.toNat,by omega⟩
 have hL4:L < 4:=by omega
 have hR4:R < 4:=by omega
 have e0:=hr.bx 0 L (by omega) hL4
 have e1:=hr.bx 1 R (by omega) hR4
 unfold f97
 rw [hL,hR]
 refine qbind _ (vidx r.boxes (i:=0) (by omega)) (qbind _ (vidx _ hL4) (qbind _ (vidx r.boxes (i:=1) (by omega)) (qbind _ (vidx _ hR4) (Yes.jn (Yes.cond (fun hc=>Yes.some ?_) (fun hc=>?_))))))
 ·have hn:oneL l p=none:=by
   rw [oneL_none hd,hL,hR]
   have h0:inX l.Shuttles (0:Int) (L:Int) + (1:Int)=r.boxes[0][L]:=e0.symm
   have h1:inX l.Shuttles (1:Int) (R:Int) + (1:Int)=r.boxes[1][R]:=e1.symm
   rw [h0,h1]
   have:=beq_iff_eq.1 hc
   constructor
   ·intro h
    rw [h] at this
    exact beq_iff_eq.1 (this.symm.trans rfl)
   ·intro h
    rw [h] at this
    exact beq_iff_eq.1 (this.trans rfl)
  rw [hn]
 ·have hnn:oneL l p ≠ none:=fun hn=>by
   rw [oneL_none hd,hL,hR] at hn
   have h0:inX l.Shuttles (0:Int) (L:Int) + (1:Int)=r.boxes[0][L]:=e0.symm
   have h1:inX l.Shuttles (1:Int) (R:Int) + (1:Int)=r.boxes[1][R]:=e1.symm
   rw [h0,h1] at hn
   have:(r.boxes[0][L] == (0:Int))=(r.boxes[1][R] == (0:Int)):=by
    rw [Bool.eq_iff_iff,beq_iff_eq,beq_iff_eq]; exact hn
   rw [this] at hc
   simp at hc
  obtain ⟨⟨n,i,m⟩,hon⟩:=Option.ne_none_iff_exists'.1 hnn
  obtain ⟨hm,hnb,hna,hgo⟩:=oneL_some hd hon
  obtain ⟨hln,_,hlen,hil,_⟩:=oneL_ok hl hp hon
  rw [hon]
  have hat:r.at_.Left=l.At.getD 0 0∧r.at_.Right=l.At.getD 1 0:=by rw [hr.at_]; exact ⟨rfl,rfl⟩
  refine qbind _ (s106 (by rw [hat.1]; omega) (by omega)) (qbind _ (s106 (by rw [hat.2]; omega) (by omega)) (qbind _ (vidx r.boxes (i:=0) (by omega)) (qbind _ (vidx _ hL4) (qbind _ (vidx _ (i:=1) (by omega)) (qbind _ (vidx _ hR4) (Yes.some ⟨⟨fun s b hs hb=>?_,?_⟩,?_,?_⟩))))))
  ·show (vmod (vmod r.boxes ((0 : Nat) : Int) (fun b => vset b (L : Int) r.boxes[1][R])) ((1 : Nat) : Int) (fun b => vset b (R : Int) r.boxes[0][L]))[s][b] = _
   have hold:=hr.bx s b hs hb
   rcases (by omega:s=0 ∨ s=1) with rfl | rfl
   ·rw [vmod_at (i := 1) (by omega), if_neg (by omega), vmod_at (i := 0) (by omega), if_pos rfl, vset_at hb]
    split
    ·rename_i hb'; subst hb'
     rcases hgo with ⟨_,g⟩ | ⟨_,g⟩
     ·rw [e1,show inX l.Shuttles ((1:Nat):Int) (R:Int)=-1 from inX_none (hR ▸ g.free),show inX n.Shuttles ((0:Nat):Int) (L:Int)=-1 from inX_none (hL ▸ g.left hd (by simp))]
     ·rw [e1,show inX l.Shuttles ((1:Nat):Int) (R:Int)=i from inX_some hd (hR ▸ g.at0),show inX n.Shuttles ((0:Nat):Int) (L:Int)=i from inX_some hln.dst (hL ▸ g.there)]
    ·rename_i hb'
     rw [hold]; congr 1
     rcases hgo with ⟨_,g⟩ | ⟨_,g⟩
     ·exact (g.else hd hln.dst (by omega) (by omega)).symm
     ·exact (g.else hd hln.dst (by omega) (by omega)).symm
   ·rw [vmod_at (i := 1) (by omega), if_pos rfl, vset_at hb]
    split
    ·rename_i hb'; subst hb'
     rcases hgo with ⟨_,g⟩ | ⟨_,g⟩
     ·rw [e0,show inX l.Shuttles ((0:Nat):Int) (L:Int)=i from inX_some hd (hL ▸ g.at0),show inX n.Shuttles ((1:Nat):Int) (R:Int)=i from inX_some hln.dst (hR ▸ g.there)]
     ·rw [e0,show inX l.Shuttles ((0:Nat):Int) (L:Int)=-1 from inX_none (hL ▸ g.free),show inX n.Shuttles ((1:Nat):Int) (R:Int)=-1 from inX_none (hR ▸ g.left hd (by simp))]
    ·rename_i hb'
     rw [vmod_at (i:=0) (by omega),if_neg (by omega),hold]; congr 1
     rcases hgo with ⟨_,g⟩ | ⟨_,g⟩
     ·exact (g.else hd hln.dst (by omega) (by omega)).symm
     ·exact (g.else hd hln.dst (by omega) (by omega)).symm
  ·show p = _
   rw [hna]; rfl
  ·show w64 (r.boxes[0][L] + r.boxes[1][R]) = _
   rw [e0,e1]
   rcases hgo with ⟨_,g⟩ | ⟨_,g⟩
   ·rw [show inX l.Shuttles ((1:Nat):Int) (R:Int)=-1 from inX_none (hR ▸ g.free),show inX l.Shuttles ((0:Nat):Int) (L:Int)=i from inX_some hd (hL ▸ g.at0),w64_id (by omega) (by omega)]; omega
   ·rw [show inX l.Shuttles ((0:Nat):Int) (L:Int)=-1 from inX_none (hL ▸ g.free),show inX l.Shuttles ((1:Nat):Int) (R:Int)=i from inX_some hd (hR ▸ g.at0),w64_id (by omega) (by omega)]; omega
  ·show w64 (_ + _) = m
   rw [hm,hat.1,hat.2,w64_id (by omega) (by omega)]; unfold mvs; rw [hL,hR]; omega
end Go.Proofs.Ytmpjooneiaiffaa
/- Plain laws: picks thrown one by one, by the reference and by the race. -/
set_option maxRecDepth 8000
namespace Go.Proofs.Ytmpjooneiaiffaa
open Go.RowKit
open Classical

noncomputable def thr : BoxLoom → List BoxPick → Option BoxLoom
 | l,[]=>some l
 | l, p :: ps => match oneL l p with
  | some (n,_,_)=>thr n ps
  | none=>none
theorem thr_cons (l:BoxLoom) (p:BoxPick) (ps:List BoxPick):thr l (p :: ps)=(oneL l p).bind fun x=>thr x.1 ps:=by
 rw [thr]
 cases oneL l p with
 | none=>rfl
 | some x=>rfl
theorem thr_append : ∀ (a b : List BoxPick) (l : BoxLoom), thr l (a ++ b) = (thr l a).bind fun n => thr n b
 | [],_,_=>rfl
 | p :: a,b,l=>by
  rw [List.cons_append,thr_cons,thr_cons]
  cases oneL l p with
  | none=>rfl
  | some x=>exact thr_append a b x.1
theorem take_succ {α:Type} {xs:List α} {i:Nat} (h:i < xs.length):xs.take (i + 1)=xs.take i ++ [xs[i]]:=by
 rw [List.take_add_one,List.getElem?_eq_getElem h]; rfl
theorem thr_one (l:BoxLoom) (p:BoxPick):thr l [p]=(oneL l p).map (·.1):=by
 unfold thr
 cases oneL l p with
 | none=>rfl
 | some x=>rfl
theorem thr_step {l:BoxLoom} {ps:List BoxPick} {i:Nat} (h:i < ps.length) {n:BoxLoom} (hn:thr l (ps.take i)=some n):thr l (ps.take (i + 1))=(oneL n ps[i]).map (·.1):=by
 rw [take_succ h,thr_append,hn,Option.bind_some,thr_one]
theorem thr_fail {l:BoxLoom} {ps:List BoxPick} {i:Nat} (h:i < ps.length) {n:BoxLoom} (hn:thr l (ps.take i)=some n) (hf:oneL n ps[i]=none):thr l ps=none:=by
 have h1:=thr_step h hn
 rw [hf] at h1
 rw [← List.take_append_drop (i + 1) ps,thr_append,h1]; rfl
theorem thr_ok {ps:List BoxPick}:∀ {l n:BoxLoom},LOk l→(∀ p ∈ ps,okP l.Boxes p=true)→thr l ps=some n→LOk n∧n.Boxes=l.Boxes∧n.Shuttles.length=l.Shuttles.length:=by
 induction ps with
 | nil=>intro l n hl _ h; cases h; exact ⟨hl,rfl,rfl⟩
 | cons p ps ih=>
  intro l n hl hp h
  unfold thr at h
  cases ho:oneL l p with
  | none=>rw [ho] at h; cases h
  | some x=>
   obtain ⟨a,i,m⟩:=x
   rw [ho] at h
   obtain ⟨h1,h2,h3,_⟩:=oneL_ok hl (hp p (by simp)) ho
   obtain ⟨k1,k2,k3⟩:=ih h1 (fun q hq=>by rw [h2]; exact hp q (by simp [hq])) h
   exact ⟨k1,k2.trans h2,k3.trans h3⟩
theorem s54 {l:BoxLoom} (hl:LOk l):Yes (f54 ⟨l⟩ (fun a0 a1=>f75 a0 a1)) (fun r=>Rel r l):=by
 have hf:=hl.few
 unfold f54
 refine Yes.bind (Yes.upto l.Shuttles.length (by omega) (fun n t=>∀ (s b:Nat) (hs:s < 2) (hb:b < 4),(∀ j,j < n→isAt l.Shuttles s b j→t.boxes[s][b]=(j:Int) + 1)∧((∀ j,j < n→¬ isAt l.Shuttles s b j)→t.boxes[s][b]=0)) ?_ (fun i t k hi hI hk=>?_) (fun t k hI=>?_))
 ·intro s b hs hb
  refine ⟨fun j h=>absurd h (Nat.not_lt_zero _),fun _=>?_⟩
  rcases (by omega:s=0 ∨ s=1) with rfl | rfl <;> rcases (by omega:b=0 ∨ b=1 ∨ b=2 ∨ b=3) with rfl | rfl | rfl | rfl <;> rfl
 ·have hok := hl.sh _ (List.getElem_mem hi)
  unfold okS at hok
  simp only [Bool.and_eq_true,btw_iff] at hok
  obtain ⟨⟨⟨_,hs⟩,hb⟩,_⟩:=hok
  obtain ⟨S,hS⟩:∃ S:Nat,l.Shuttles[i].Side=S:=⟨l.Shuttles[i].Side.toNat,by omega⟩
  obtain ⟨B,hB⟩:∃ B:Nat,l.Shuttles[i].Box=B:=⟨l.Shuttles[i].Box.toNat,by omega⟩
  have hS2:S < 2:=by omega
  have hbx:=hl.box hS2
  rw [hS,Int.toNat_natCast] at hb
  have hB4:B < 4:=by omega
  refine qtake (by simp; omega) (Yes.bind (qbind _ (qidx hi) (qbind ((i:Int) + 1) (by show some (w64 ((i:Int) + 1))=_; rw [w64_id (by omega) (by omega)]) ?_)))
  rw [hS,hB]
  refine qbind _ (vidx t.boxes hS2) (qbind _ (vidx _ hB4) (Yes.some (hk _ fun s b hs hb=>?_)))
  show (∀ j,j < i + 1→isAt l.Shuttles s b j→(vmod t.boxes (S:Int) (fun b=>vset b (B:Int) ((i:Int) + 1)))[s][b]=(j:Int) + 1)∧((∀ j,j < i + 1→¬ isAt l.Shuttles s b j)→(vmod t.boxes (S:Int) (fun b=>vset b (B:Int) ((i:Int) + 1)))[s][b]=0)
  have hat:isAt l.Shuttles S B i:=⟨hi,hS,hB⟩
  obtain ⟨o1,o2⟩:=hI s b hs hb
  by_cases hsb:S=s∧B=b
  ·obtain ⟨rfl, rfl⟩ := hsb
   have hv:(vmod t.boxes (S:Int) (fun b=>vset b (B:Int) ((i:Int) + 1)))[S][B]=(i:Int) + 1:=by
    rw [vmod_at hs,if_pos rfl,vset_at hb,if_pos rfl]
   rw [hv]
   exact ⟨fun j _ hj=>by rw [hl.dst.one hj hat],fun h=>absurd hat (h i (by omega))⟩
  ·have hv:(vmod t.boxes (S:Int) (fun b=>vset b (B:Int) ((i:Int) + 1)))[s][b]=t.boxes[s][b]:=by
    by_cases hss:S=s
    ·subst hss
     rw [vmod_at hs,if_pos rfl,vset_at hb,if_neg (fun h=>hsb ⟨rfl,h⟩)]
    ·rw [vmod_at hs,if_neg hss]
   rw [hv]
   refine ⟨fun j hj hja=>?_,fun h=>o2 fun j hj=>h j (by omega)⟩
   rcases Nat.lt_succ_iff_lt_or_eq.1 hj with h | rfl
   ·exact o1 j h hja
   ·have := isAt_same hat hja
    exact absurd ⟨by omega,by omega⟩ hsb
 ·refine qskip (by simp) (Yes.some (qbind _ (at_at hl.len (i := 0) (by omega)) (qbind _ (at_at hl.len (i := 1) (by omega)) (Yes.some ⟨fun s b hs hb => ?_, rfl⟩))))
  obtain ⟨o1,o2⟩:=hI s b hs hb
  show t.boxes[s][b]=_
  rcases inX_cases hl.dst s b with ⟨i,hi,e⟩ | ⟨hi,e⟩
  ·rw [e,o1 i hi.1 hi]
  ·rw [e,o2 fun j _ h=>hi ⟨j,h⟩]; rfl
end Go.Proofs.Ytmpjooneiaiffaa
/- Plain laws: rounds, and BoxRounds. -/
set_option maxRecDepth 8000
namespace Go.Proofs.Ytmpjooneiaiffaa
open Go.RowKit
open Classical

section
variable {l:BoxLoom} {ps:List BoxPick} (hl:LOk l) (hp:∀ p ∈ ps,okP l.Boxes p=true)
include hl hp
end
end Go.Proofs.Ytmpjooneiaiffaa
/- Plain laws: a permutation of eight places comes back after at most 15 rounds. -/
set_option maxRecDepth 8000
namespace Go.Proofs.Ytmpjooneiaiffaa
open Go.RowKit
open Classical

section
variable {π:Nat→Nat}
variable (hlt:∀ x,x < 8→π x < 8) (hinj:∀ x y,x < 8→y < 8→π x=π y→x=y)
include hlt
end
end Go.Proofs.Ytmpjooneiaiffaa
/- Plain laws: each round moves the shuttles by one and the same permutation of the boxes; so it ends after at most 15. -/
set_option maxRecDepth 8000
namespace Go.Proofs.Ytmpjooneiaiffaa
open Go.RowKit
open Classical

def plc (x:BoxShuttle):Nat:=x.Side.toNat * 4 + x.Box.toNat
theorem okS_plc {l:BoxLoom} (hl:LOk l) {x:BoxShuttle} (h:x ∈ l.Shuttles):(0 ≤ x.Side∧x.Side ≤ 1)∧(0 ≤ x.Box∧x.Box ≤ 3):=by
 have hok:=hl.sh _ h
 unfold okS at hok
 simp only [Bool.and_eq_true,btw_iff] at hok
 obtain ⟨⟨⟨_,hs⟩,hb⟩,_⟩:=hok
 have:=hl.box (i:=x.Side.toNat) (by omega)
 exact ⟨hs,by omega⟩
theorem plc_lt {l:BoxLoom} (hl:LOk l) {x:BoxShuttle} (h:x ∈ l.Shuttles):plc x < 8:=by
 have:=okS_plc hl h
 unfold plc; omega
def swp (p:BoxPick) (x:Nat):Nat:=if x=p.Left.toNat then 4 + p.Right.toNat else if x=4 + p.Right.toNat then p.Left.toNat else x
def okQ (p:BoxPick):Prop:=(0 ≤ p.Left∧p.Left ≤ 3)∧(0 ≤ p.Right∧p.Right ≤ 3)
theorem okP.q {l:BoxLoom} (hl:LOk l) {p:BoxPick} (h:okP l.Boxes p=true):okQ p:=by
 have h1:=okP_iff.1 h
 have b0:=hl.box (i:=0) (by omega)
 have b1:=hl.box (i:=1) (by omega)
 unfold okQ; omega
def rnd (ps:List BoxPick) (x:Nat):Nat:=ps.foldl (fun x p=>swp p x) x
theorem isAt_plc {l:BoxLoom} (hl:LOk l) {s c:Int} {i:Nat} (h:isAt l.Shuttles s c i):∃ hi:i < l.Shuttles.length,plc l.Shuttles[i]=s.toNat * 4 + c.toNat:=by
 obtain ⟨hi,h1,h2⟩:=h
 exact ⟨hi,by unfold plc; rw [h1,h2]⟩
theorem plc_isAt {l:BoxLoom} (hl:LOk l) {s c:Nat} (hs:s < 2) (hc:c < 4) {i:Nat} (hi:i < l.Shuttles.length) (h:plc l.Shuttles[i]=s * 4 + c):isAt l.Shuttles s c i:=by
 have:=okS_plc hl (List.getElem_mem hi)
 unfold plc at h
 exact ⟨hi,by omega,by omega⟩
section
variable {l:BoxLoom} {ps:List BoxPick} (hl:LOk l) (hp:∀ p ∈ ps,okP l.Boxes p=true)
include hl hp
end
end Go.Proofs.Ytmpjooneiaiffaa
/- Plain laws: the shuttles that picks throw, and the box moves, exactly. -/
set_option maxRecDepth 8000
namespace Go.Proofs.Ytmpjooneiaiffaa
open Go.RowKit
open Classical

noncomputable def thl : BoxLoom → List BoxPick → List Nat
 | _,[]=>[]
 | l, p :: ps => match oneL l p with
  | some (n,i,_)=>i :: thl n ps
  | none=>[]
noncomputable def mvt : BoxLoom → List BoxPick → Int
 | _,[]=>0
 | l, p :: ps => match oneL l p with
  | some (n,_,m)=>m + mvt n ps
  | none=>0
theorem thl_append : ∀ (a b : List BoxPick) {l n : BoxLoom}, thr l a = some n → thl l (a ++ b) = thl l a ++ thl n b
 | [],b,l,n,h=>by cases h; rfl
 | p :: a,b,l,n,h=>by
  rw [thr_cons] at h
  rw [List.cons_append,thl,thl]
  cases ho:oneL l p with
  | none=>rw [ho] at h; cases h
  | some x=>rw [ho] at h; exact congrArg (List.cons x.2.1) (thl_append a b h)
theorem mvt_append : ∀ (a b : List BoxPick) {l n : BoxLoom}, thr l a = some n → mvt l (a ++ b) = mvt l a + mvt n b
 | [],b,l,n,h=>by cases h; exact (Int.zero_add _).symm
 | p :: a,b,l,n,h=>by
  rw [thr_cons] at h
  rw [List.cons_append,mvt,mvt]
  cases ho:oneL l p with
  | none=>rw [ho] at h; cases h
  | some x=>
   rw [ho] at h
   have:=mvt_append a b h
   show x.2.2 + mvt x.1 (a ++ b)=x.2.2 + mvt x.1 a + mvt n b
   omega
theorem thl_step {l : BoxLoom} {ps : List BoxPick} {i : Nat} (h : i < ps.length) {n a : BoxLoom} {j : Nat} {m : Int} (hn : thr l (ps.take i) = some n) (ho : oneL n ps[i] = some (a, j, m)) :
  thl l (ps.take (i + 1))=thl l (ps.take i) ++ [j]∧mvt l (ps.take (i + 1))=mvt l (ps.take i) + m:=by
 rw [take_succ h,thl_append _ _ hn,mvt_append _ _ hn]
 constructor
 ·rw [thl,ho]; rfl
 ·rw [mvt,ho]; show _ + (m + 0)=_; omega
theorem thl_fail {l:BoxLoom} {ps:List BoxPick} {i:Nat} (h:i < ps.length) {n:BoxLoom} (hn:thr l (ps.take i)=some n) (hf:oneL n ps[i]=none):thl l ps=thl l (ps.take i):=by
 conv=>lhs; rw [← List.take_append_drop i ps,List.drop_eq_getElem_cons h]
 rw [thl_append _ _ hn,thl,hf,List.append_nil]
theorem mvt_bound {l:BoxLoom} (hl:LOk l) {ps:List BoxPick}:(∀ p ∈ ps,okP l.Boxes p=true)→0 ≤ mvt l ps∧mvt l ps ≤ 6 * ps.length:=by
 induction ps generalizing l with
 | nil=>intro _; exact ⟨by rw [mvt]; omega,by rw [mvt]; simp⟩
 | cons p ps ih=>
  intro hp
  rw [mvt]
  cases ho:oneL l p with
  | none=>exact ⟨Int.le_refl _,by simp; omega⟩
  | some x=>
   obtain ⟨n,i,m⟩:=x
   obtain ⟨h1,h2,_,_,h5⟩:=oneL_ok hl (hp p (by simp)) ho
   have:=ih h1 fun q hq=>by rw [h2]; exact hp q (by simp [hq])
   show 0 ≤ m + mvt n ps∧m + mvt n ps ≤ 6 * ((ps.length + 1:Nat):Int)
   omega
theorem s76x {l : BoxLoom} (hl : LOk l) {r : BoxRace} (hr : Rel r l) {ps : List BoxPick} (hp : ∀ p ∈ ps, okP l.Boxes p = true) (hlen : ps.length ≤ 24) :
  Yes (f76 r ps) (fun x=>match thr l ps with | some n=>Rel x.1.last n∧x.1.thrown=(thl l ps).map (fun i:Nat=>(i:Int) + 1)∧x.1.moves=mvt l ps∧x.2=(0,0) | none=>x.2=(((thl l ps).length:Int),9)):=by
 unfold f76
 refine Yes.jn (Yes.upto ps.length (by omega) (fun i t=>(∃ n,thr l (ps.take i)=some n∧Rel t.last n)∧t.thrown=(thl l (ps.take i)).map (fun i:Nat=>(i:Int) + 1)∧t.thrown.length=i∧t.moves=mvt l (ps.take i)) ⟨⟨l,by simp [thr],hr⟩,by simp [thl],rfl,by simp [mvt]⟩ (fun i t k hi hI hk=>?_) (fun t k hI=>?_))
 ·obtain ⟨⟨n, h1, hrn⟩, h3, h2, h4⟩ := hI
  obtain ⟨k1,k2,_⟩:=thr_ok hl (fun p h=>hp p (List.mem_of_mem_take h)) h1
  have hpi:okP n.Boxes ps[i]=true:=by rw [k2]; exact hp _ (List.getElem_mem hi)
  refine qtake (by simp; omega) (Yes.jn (qbind _ (qidx hi) (Yes.bind ((s97 hrn k1 hpi).mono fun x hx=>Yes.jn ?_))))
  cases ho:oneL n ps[i] with
  | none=>
   rw [ho] at hx
   have hx:x=(t.last,0,0):=hx
   subst hx
   refine qtake rfl (Yes.some ?_)
   rw [thr_fail hi h1 ho]
   show ((i:Int),(9:Int))=_
   rw [thl_fail hi h1 ho]
   have:(thl l (ps.take i)).length=i:=by have:=congrArg List.length h3; simpa [h2] using this.symm
   rw [this]
  | some y=>
   obtain ⟨n',j,m⟩:=y
   rw [ho] at hx
   obtain ⟨e1,e2,e3⟩:=hx
   obtain ⟨u1,u2⟩:=thl_step hi h1 ho
   have hb1:=mvt_bound hl (ps:=ps.take (i + 1)) fun p h=>hp p (List.mem_of_mem_take h)
   have hb2:(ps.take (i + 1)).length ≤ 24:=by rw [List.length_take]; omega
   refine qskip (by rw [e2]; simp; omega) (Yes.jn (Yes.bind (Yes.apnd (by simp [h2]; omega) (by simp [h2]; omega) (hk _ ⟨⟨n',?_,e1⟩,?_,by simp [h2],?_⟩))))
   ·rw [thr_step hi h1,ho]; rfl
   ·show t.thrown ++ [x.2.1] = _
    rw [u1,List.map_append,← h3,e2]; rfl
   ·show w64 (t.moves + x.2.2) = _
    rw [h4,e3,← u2,w64_id (by omega) (by omega)]
 ·obtain ⟨⟨n, h1, hrn⟩, h3, h2, h4⟩ := hI
  refine qskip (by simp) (Yes.some ?_)
  rw [List.take_length] at h1 h3 h4
  rw [h1]; exact ⟨hrn,h3,h4,rfl⟩
end Go.Proofs.Ytmpjooneiaiffaa
/- BoxRounds. -/
set_option maxRecDepth 8000
namespace Go.Proofs.Ytmpjooneiaiffaa
open Go.RowKit
open Classical

end Go.Proofs.Ytmpjooneiaiffaa
