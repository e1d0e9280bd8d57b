/- Plain laws: what one pick does to the loom and to the race. -/
import Derived.Test.YtmpjooneiaiffaaLawE
set_option maxRecDepth 8000
namespace Go.Proofs.Ytmpjooneiaiffaa
open Go.RowKit
open Classical

structure Rb (a a' : List Zv) (i : Nat) (s c s' c' : Int) : Prop where
 at0:Hs a s c i
 free:¬ ∃ k,Hs a s' c' k
 to:∀ t d k,Hs a' t d k ↔ (i=k∧s'=t∧c'=d) ∨ (i ≠ k∧Hs a t d k)
theorem Rb.mv {a:List Zv} {i:Nat} {s c s' c':Int} (h:Hs a s c i) (hf:¬ ∃ k,Hs a s' c' k):Rb a (mv a i s' c') i s c s' c':=⟨h,hf,fun _ _ _=>mv_isAt h.1⟩
theorem Ca {a:List Zv} {s c t d:Int} {i:Nat} (h:Hs a s c i) (h':Hs a t d i):s=t∧c=d:=by
 obtain ⟨_,h1,h2⟩:=h; obtain ⟨_,k1,k2⟩:=h'; exact ⟨h1.symm.trans k1,h2.symm.trans k2⟩
theorem Rb.left {a a':List Zv} {i:Nat} {s c s' c':Int} (hd:Dst a) (h:Rb a a' i s c s' c') (hn:¬ (s=s'∧c=c')):¬ ∃ k,Hs a' s c k:=by
 rintro ⟨k,hk⟩
 rcases (h.to _ _ _).1 hk with ⟨_,h1,h2⟩ | ⟨h1,h2⟩
 ·exact hn ⟨h1.symm,h2.symm⟩
 ·exact h1 (hd.one h.at0 h2)
theorem Rb.there {a a':List Zv} {i:Nat} {s c s' c':Int} (h:Rb a a' i s c s' c'):Hs a' s' c' i:=(h.to _ _ _).2 (.inl ⟨rfl,rfl,rfl⟩)
def Wh (a b:List Zv):Prop:=∀ s c i,Hs a s c i ↔ Hs b s c i
theorem Wh.symm {a b:List Zv} (h:Wh a b):Wh b a:=fun s c i=>(h s c i).symm
theorem Uz {l : BoxLoom} (hd : Dst l.Shuttles) {p : Gf} {n : BoxLoom} {i : Nat} {m : Int} (h : Ka l p = some (n, i, m)) :
  m=mvs l p∧n.Boxes=l.Boxes∧n.At=[p.Left,p.Right]∧((n.Shuttles=mv l.Shuttles i 1 p.Right∧Rb l.Shuttles n.Shuttles i 0 p.Left 1 p.Right) ∨ (n.Shuttles=mv l.Shuttles i 0 p.Left∧Rb l.Shuttles n.Shuttles i 1 p.Right 0 p.Left)):=by
 unfold Ka at h
 rcases Jl hd 0 p.Left with ⟨a,ha,ea⟩ | ⟨ha,ea⟩ <;> rcases Jl hd 1 p.Right with ⟨b,hb,eb⟩ | ⟨hb,eb⟩ <;> rw [ea,eb] at h
 ·rw [dif_pos (by omega)] at h; cases h
 ·rw [dif_neg (by omega), if_pos (by omega), Int.toNat_natCast] at h
  cases h
  exact ⟨rfl,rfl,rfl,.inl ⟨rfl,Rb.mv ha hb⟩⟩
 ·rw [dif_neg (by omega), if_neg (by omega), Int.toNat_natCast] at h
  cases h
  exact ⟨rfl,rfl,rfl,.inr ⟨rfl,Rb.mv hb ha⟩⟩
 ·rw [dif_pos (by omega)] at h; cases h
theorem Xd {l:BoxLoom} (hd:Dst l.Shuttles) {p:Gf}:Ka l p=none ↔ ((inX l.Shuttles 0 p.Left + 1=0) ↔ (inX l.Shuttles 1 p.Right + 1=0)):=by
 unfold Ka
 rcases Jl hd 0 p.Left with ⟨a,ha,ea⟩ | ⟨ha,ea⟩ <;> rcases Jl hd 1 p.Right with ⟨b,hb,eb⟩ | ⟨hb,eb⟩ <;> rw [ea,eb]
 ·rw [dif_pos (by omega)]; simp; omega
 ·rw [dif_neg (by omega),if_pos (by omega)]; simp; omega
 ·rw [dif_neg (by omega),if_neg (by omega)]; simp; omega
 ·rw [dif_pos (by omega)]; simp
theorem okS_mv {B:List Int} {x:Zv} (h:okS B x=true) {s:Nat} (hs:s < 2) {c:Int} (hc:0 ≤ c∧c ≤ B.getD s 0 - 1):okS B { x with Side:=s,Box:=c }=true:=by
 unfold okS at h ⊢
 simp only [Bool.and_eq_true] at h ⊢
 exact ⟨⟨⟨h.1.1.1,Wl.2 (by omega)⟩,Wl.2 (by rw [Int.toNat_natCast]; exact hc)⟩,h.2⟩
theorem mv_ok {B:List Int} {xs:List Zv} (h:∀ x ∈ xs,okS B x=true) {i s:Nat} (hs:s < 2) {c:Int} (hc:0 ≤ c∧c ≤ B.getD s 0 - 1):∀ x ∈ mv xs i s c,okS B x=true:=by
 intro x hx
 obtain ⟨j,hj,rfl⟩:=List.mem_iff_getElem.1 hx
 have hj':j < xs.length:=by rw [Dl] at hj; exact hj
 rw [mv_at hj hj']
 split
 ·exact okS_mv (h _ (List.getElem_mem hj')) hs hc
 ·exact h _ (List.getElem_mem hj')
theorem Ja {l : BoxLoom} (hl : LOk l) {p : Gf} (hp : okP l.Boxes p = true) {n : BoxLoom} {i : Nat} {m : Int} (h : Ka l p = some (n, i, m)) :
  LOk n∧n.Boxes=l.Boxes∧n.Shuttles.length=l.Shuttles.length∧i < l.Shuttles.length∧0 ≤ m∧m ≤ 6:=by
 obtain ⟨h1,h2,h3,h4⟩:=Uz hl.dst h
 have hp':=Uu.1 hp
 have b0:=hl.box (i:=0) (by omega)
 have b1:=hl.box (i:=1) (by omega)
 have a0:=hl.at (i:=0) (by omega)
 have a1:=hl.at (i:=1) (by omega)
 have hsd:Fx n:=fun j hj=>by
  have hb:=hl.box hj
  unfold Jp
  rw [h2,h3,Bool.and_eq_true]
  refine ⟨Wl.2 hb,Wl.2 ?_⟩
  rcases (by omega:j=0 ∨ j=1) with rfl | rfl
  ·exact hp'.1
  ·exact hp'.2
 have hlen:Rn n:=⟨by rw [h2]; exact hl.len.1,by rw [h3]; rfl⟩
 have hm:0 ≤ m∧m ≤ 6:=by rw [h1]; unfold mvs; omega
 rcases h4 with ⟨e,g⟩ | ⟨e,g⟩
 ·have hi : i < l.Shuttles.length := g.at0.1
  have hl':n.Shuttles.length=l.Shuttles.length:=by rw [e,Dl]
  refine ⟨⟨hlen,hsd,by rw [hl']; exact hl.few,by rw [hl']; exact hl.some,?_,?_⟩,h2,hl',hi,hm⟩
  ·rw [e,h2]; exact mv_ok (s:=1) hl.sh (by omega) hp'.2
  ·rw [e]; exact mv_dst hl.dst hi g.free
 ·have hi : i < l.Shuttles.length := g.at0.1
  have hl':n.Shuttles.length=l.Shuttles.length:=by rw [e,Dl]
  refine ⟨⟨hlen,hsd,by rw [hl']; exact hl.few,by rw [hl']; exact hl.some,?_,?_⟩,h2,hl',hi,hm⟩
  ·rw [e,h2]; exact mv_ok (s:=0) hl.sh (by omega) hp'.1
  ·rw [e]; exact mv_dst hl.dst hi g.free
/-! ### The race -/
theorem Hu {α:Type} {n:Nat} (v:Vector α n) {i:Nat} (h:i < n):idx v.toList (i:Int)=some v[i]:=by
 rw [Wu (by simpa using h)]; simp
theorem Js {β:Type} {n:Nat} {v:Vector β n} {i:Nat} {h:β→β} {j:Nat} (hj:j < n):(Jq v (i:Int) h)[j]=if i=j then h v[j] else v[j]:=by
 unfold Jq
 rw [Int.toNat_natCast]
 split
 ·rw [Vector.getElem_set]; split
  ·rename_i he; subst he; rfl
  ·rfl
 ·rw [if_neg (by omega)]
theorem Ua {β:Type} {n:Nat} {v:Vector β n} {i:Nat} {y:β} {j:Nat} (hj:j < n):(Ku v (i:Int) y)[j]=if i=j then y else v[j]:=by
 unfold Ku
 rw [Int.toNat_natCast,Vector.getElem_setIfInBounds]
structure Rel (r : Gu) (l : BoxLoom) : Prop where
 bx:∀ (s b:Nat) (hs:s < 2) (hb:b < 4),r.boxes[s][b]=inX l.Shuttles s b + 1
 at_:r.at_=⟨l.At.getD 0 0,l.At.getD 1 0⟩
theorem inX_eq {xs ys:List Zv} (hx:Dst xs) (hy:Dst ys) {s c:Int} (h:∀ i,Hs xs s c i ↔ Hs ys s c i):inX xs s c=inX ys s c:=by
 rcases Jl hx s c with ⟨i,hi,e⟩ | ⟨hi,e⟩
 ·rw [e,Jg hy ((h i).1 hi)]
 ·rw [e,Jk fun ⟨j,hj⟩=>hi ⟨j,(h j).2 hj⟩]
theorem Rb.else {a a':List Zv} {i:Nat} {s c s' c':Int} (ha:Dst a) (ha':Dst a') (h:Rb a a' i s c s' c') {t d:Int} (h1:¬ (t=s∧d=c)) (h2:¬ (t=s'∧d=c')):inX a' t d=inX a t d:=by
 refine inX_eq ha' ha fun k=>?_
 rw [h.to]
 constructor
 ·rintro (⟨_, e1, e2⟩ | ⟨_, h⟩)
  ·exact absurd ⟨e1.symm,e2.symm⟩ h2
  ·exact h
 ·intro hk
  refine .inr ⟨fun he=>?_,hk⟩
  subst he
  have:=Ca h.at0 hk
  exact h1 ⟨this.1.symm,this.2.symm⟩
theorem s106 {a b:Int} (ha:0 ≤ a∧a ≤ 1000) (hb:0 ≤ b∧b ≤ 1000):f106 a b=some (max a b - min a b):=by
 unfold f106; rw [Fy,Sq,Tl (by omega) (by omega)]
theorem s97 {r : Gu} {l : BoxLoom} (hr : Rel r l) (hl : LOk l) {p : Gf} (hp : okP l.Boxes p = true) :
  Yes (f97 r p) (fun x=>match Ka l p with | some (n,i,m)=>Rel x.1 n∧x.2.1=(i:Int) + 1∧x.2.2=m | none=>x=(r,0,0)):=by
 have hd:=hl.dst
 have hf:=hl.few
 have hp':=Uu.1 hp
 have b0:=hl.box (i:=0) (by omega)
 have b1:=hl.box (i:=1) (by omega)
 have a0:=hl.at (i:=0) (by omega)
 have a1:=hl.at (i:=1) (by omega)
 obtain ⟨L,hL⟩:∃ L:Nat,p.Left=L:=⟨p.Left.toNat,by omega⟩
 obtain ⟨R,hR⟩:∃ R:Nat,p.Right=R:=⟨p.Right.toNat,by omega⟩
 have hL4:L < 4:=by omega
 have hR4:R < 4:=by omega
 have e0:=hr.bx 0 L (by omega) hL4
 have e1:=hr.bx 1 R (by omega) hR4
 unfold f97
 rw [hL,hR]
 refine Gj _ (Hu r.boxes (i:=0) (by omega)) (Gj _ (Hu _ hL4) (Gj _ (Hu r.boxes (i:=1) (by omega)) (Gj _ (Hu _ hR4) (Yes.jn (Yes.cond (fun hc=>Yes.some ?_) (fun hc=>?_))))))
 ·have hn:Ka l p=none:=by
   rw [Xd hd,hL,hR]
   have h0:inX l.Shuttles (0:Int) (L:Int) + (1:Int)=r.boxes[0][L]:=e0.symm
   have h1:inX l.Shuttles (1:Int) (R:Int) + (1:Int)=r.boxes[1][R]:=e1.symm
   rw [h0,h1]
   have:=beq_iff_eq.1 hc
   constructor
   ·intro h
    rw [h] at this
    exact beq_iff_eq.1 (this.symm.trans rfl)
   ·intro h
    rw [h] at this
    exact beq_iff_eq.1 (this.trans rfl)
  rw [hn]
 ·have hnn:Ka l p ≠ none:=fun hn=>by
   rw [Xd hd,hL,hR] at hn
   have h0:inX l.Shuttles (0:Int) (L:Int) + (1:Int)=r.boxes[0][L]:=e0.symm
   have h1:inX l.Shuttles (1:Int) (R:Int) + (1:Int)=r.boxes[1][R]:=e1.symm
   rw [h0,h1] at hn
   have:(r.boxes[0][L] == (0:Int))=(r.boxes[1][R] == (0:Int)):=by
    rw [Bool.eq_iff_iff,beq_iff_eq,beq_iff_eq]; exact hn
   rw [this] at hc
   simp at hc
  obtain ⟨⟨n,i,m⟩,hon⟩:=Option.ne_none_iff_exists'.1 hnn
  obtain ⟨hm,hnb,hna,hgo⟩:=Uz hd hon
  obtain ⟨hln,_,hlen,hil,_⟩:=Ja hl hp hon
  rw [hon]
  have hat:r.at_.Left=l.At.getD 0 0∧r.at_.Right=l.At.getD 1 0:=by rw [hr.at_]; exact ⟨rfl,rfl⟩
  refine Gj _ (s106 (by rw [hat.1]; omega) (by omega)) (Gj _ (s106 (by rw [hat.2]; omega) (by omega)) (Gj _ (Hu r.boxes (i:=0) (by omega)) (Gj _ (Hu _ hL4) (Gj _ (Hu _ (i:=1) (by omega)) (Gj _ (Hu _ hR4) (Yes.some ⟨⟨fun s b hs hb=>?_,?_⟩,?_,?_⟩))))))
  ·show (Jq (Jq r.boxes ((0 : Nat) : Int) (fun b => Ku b (L : Int) r.boxes[1][R])) ((1 : Nat) : Int) (fun b => Ku b (R : Int) r.boxes[0][L]))[s][b] = _
   have hold:=hr.bx s b hs hb
   rcases (by omega:s=0 ∨ s=1) with rfl | rfl
   ·rw [Js (i := 1) (by omega), if_neg (by omega), Js (i := 0) (by omega), if_pos rfl, Ua hb]
    split
    ·rename_i hb'; subst hb'
     rcases hgo with ⟨_,g⟩ | ⟨_,g⟩
     ·rw [e1,show inX l.Shuttles ((1:Nat):Int) (R:Int)=-1 from Jk (hR ▸ g.free),show inX n.Shuttles ((0:Nat):Int) (L:Int)=-1 from Jk (hL ▸ g.left hd (by simp))]
     ·rw [e1,show inX l.Shuttles ((1:Nat):Int) (R:Int)=i from Jg hd (hR ▸ g.at0),show inX n.Shuttles ((0:Nat):Int) (L:Int)=i from Jg hln.dst (hL ▸ g.there)]
    ·rename_i hb'
     rw [hold]; congr 1
     rcases hgo with ⟨_,g⟩ | ⟨_,g⟩
     ·exact (g.else hd hln.dst (by omega) (by omega)).symm
     ·exact (g.else hd hln.dst (by omega) (by omega)).symm
   ·rw [Js (i := 1) (by omega), if_pos rfl, Ua hb]
    split
    ·rename_i hb'; subst hb'
     rcases hgo with ⟨_,g⟩ | ⟨_,g⟩
     ·rw [e0,show inX l.Shuttles ((0:Nat):Int) (L:Int)=i from Jg hd (hL ▸ g.at0),show inX n.Shuttles ((1:Nat):Int) (R:Int)=i from Jg hln.dst (hR ▸ g.there)]
     ·rw [e0,show inX l.Shuttles ((0:Nat):Int) (L:Int)=-1 from Jk (hL ▸ g.free),show inX n.Shuttles ((1:Nat):Int) (R:Int)=-1 from Jk (hR ▸ g.left hd (by simp))]
    ·rename_i hb'
     rw [Js (i:=0) (by omega),if_neg (by omega),hold]; congr 1
     rcases hgo with ⟨_,g⟩ | ⟨_,g⟩
     ·exact (g.else hd hln.dst (by omega) (by omega)).symm
     ·exact (g.else hd hln.dst (by omega) (by omega)).symm
  ·show p = _
   rw [hna]; rfl
  ·show w64 (r.boxes[0][L] + r.boxes[1][R]) = _
   rw [e0,e1]
   rcases hgo with ⟨_,g⟩ | ⟨_,g⟩
   ·rw [show inX l.Shuttles ((1:Nat):Int) (R:Int)=-1 from Jk (hR ▸ g.free),show inX l.Shuttles ((0:Nat):Int) (L:Int)=i from Jg hd (hL ▸ g.at0),Tl (by omega) (by omega)]; omega
   ·rw [show inX l.Shuttles ((0:Nat):Int) (L:Int)=-1 from Jk (hL ▸ g.free),show inX l.Shuttles ((1:Nat):Int) (R:Int)=i from Jg hd (hR ▸ g.at0),Tl (by omega) (by omega)]; omega
  ·show w64 (_ + _) = m
   rw [hm,hat.1,hat.2,Tl (by omega) (by omega)]; unfold mvs; rw [hL,hR]; omega
end Go.Proofs.Ytmpjooneiaiffaa
