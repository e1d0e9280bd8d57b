/- Laws of plain functions, part 1. -/
import Derived.Test.YtpglkdijpcgcaaaGreatDoorYes
set_option maxRecDepth 8000
namespace Go.Proofs.YtpglkdijpcgcaaaGreatDoor
open Go.RowKit
open Classical
def btw (a b x:Int):Bool:=decide (a≤x∧x≤b)
theorem s96 (x a b:Int):f82 x a b=some (!btw a b x):=by unfold f82 btw;by_cases h1:x<a<;>by_cases h2:x>b<;>simp [h1,h2]<;>omega
theorem s95 (xs:List Int) (φ:Int→Option Bool) (p:Int→Bool) (hl:xs.length<9223372036854775807) (h:∀ a∈xs,φ a=some (p a)):f81 xs φ=some (xs.any p):=
 Yes.eq (Yes.bind (Yes.mono (Jz xs φ p hl h) fun _ hr=>Yes.some (Hu hr)))
theorem s82 (xs:List Z5) (φ:Z5→Option Bool) (p:Z5→Bool) (hl:xs.length<9223372036854775807) (h:∀ a∈xs,φ a=some (p a)):f46 xs φ=some (xs.any p):=
 Yes.eq (Yes.bind (Yes.mono (Jz xs φ p hl h) fun _ hr=>Yes.some (Hu hr)))
theorem s72 (xs:List Z3) (φ:Z3→Option Bool) (p:Z3→Bool) (hl:xs.length<9223372036854775807) (h:∀ a∈xs,φ a=some (p a)):f30 xs φ=some (xs.any p):=
 Yes.eq (Yes.bind (Yes.mono (Jz xs φ p hl h) fun _ hr=>Yes.some (Hu hr)))
theorem Lk {α:Type} (xs:List α) (p:α→Bool):(!(xs.any fun x=>!p x))=xs.all p:=by induction xs<;>simp_all
theorem s81 (a b:Int) (xs:List Int) (hl:xs.length<9223372036854775807):f45 a b xs=some (xs.all (btw a b)):=by
 unfold f45;rw [s95 xs _ (fun x=>!btw a b x) hl (fun x _=>s96 x a b)]
 show some (!(xs.any fun x=>!btw a b x))=_
 rw [Lk]
theorem s71 (xs:List Int) (hl:xs.length<9223372036854775807):f29 xs=some (xs.all (btw 0 300)):=by unfold f29;rw [s81 _ _ _ hl];rfl
def U1 (x:Z5):Bool:=btw 1 100 x.Width&&btw 0 100 x.Chain&&btw 1 100 x.Woven&&btw 0 300 x.Early&&btw 0 300 x.Late
theorem s80 (x:Z5):f44 x=some (U1 x):=by
 unfold f44 U1
 rw [s81 _ _ _ (by simp),s81 _ _ _ (by simp),s81 _ _ _ (by simp),s71 _ (by simp)]
 simp only [List.all_cons,List.all_nil,Bool.and_true]
 cases btw 1 100 x.Width<;>cases btw 0 100 x.Chain<;>cases btw 1 100 x.Woven<;>cases btw 0 300 x.Early<;>cases btw 0 300 x.Late<;>rfl
theorem s79 (x:Z5):f43 x=some (!U1 x):=by unfold f43;rw [s80];rfl
def Jk (m:LoomMill) (l:List Z5):Int:=
 if m.Widths.length>3∨l.length>7 then 5 else if m.Widths.length≠0∧m.Widths.all (btw 1 100)=true∧btw 0 20 m.Change=true∧l.all U1=true then 0 else 2
structure He (m:LoomMill) (l:List Z5):Prop where
 w1:0<m.Widths.length
 w3:m.Widths.length≤3
 l7:l.length≤7
 w:∀ x∈m.Widths,1≤x∧x≤100
 c:0≤m.Change∧m.Change≤20
 o:∀ x∈l,(1≤x.Width∧x.Width≤100)∧(0≤x.Chain∧x.Chain≤100)∧(1≤x.Woven∧x.Woven≤100)∧(0≤x.Early∧x.Early≤300)∧(0≤x.Late∧x.Late≤300)
theorem D5 {a b x:Int}:btw a b x=true↔a≤x∧x≤b:=by simp [btw]
theorem Xb {m:LoomMill} {l:List Z5} (h:Jk m l=0):He m l:=by
 unfold Jk at h
 split at h
 ·cases h
 ·rename_i h1
  split at h
  ·rename_i h2
   obtain ⟨a,b,c,d⟩:=h2
   refine ⟨by omega,by omega,by omega,fun x hx=>D5.1 (List.all_eq_true.1 b x hx),D5.1 c,fun x hx=>?_⟩
   have:=List.all_eq_true.1 d x hx
   simp only [U1,Bool.and_eq_true,D5] at this
   obtain ⟨⟨⟨⟨a1,a2⟩,a3⟩,a4⟩,a5⟩:=this
   exact ⟨a1,a2,a3,a4,a5⟩
  ·cases h
def Yc (m:LoomMill) (l:List Z5):Z8 × Int:=if Jk m l=0 then (⟨m,l⟩,0) else (⟨⟨[],0⟩,[]⟩,Jk m l)
theorem s50 (m:LoomMill) (l:List Z5):f18 m l=some (Yc m l):=by
 refine Yes.eq ?_
 unfold f18
 refine Yes.jn (Yes.bind ?_)
 have e1:decide ((m.Widths.length:Int)>3)=decide (m.Widths.length>3):=by rw [decide_eq_decide];omega
 have e2:decide ((l.length:Int)>7)=decide (l.length>7):=by rw [decide_eq_decide];omega
 rw [e1,e2]
 by_cases h1:m.Widths.length>3∨l.length>7
 ·have hc:Jk m l=5:=by simp [Jk,h1]
  have:Yes (bif decide (m.Widths.length>3) then some (decide (m.Widths.length>3)) else some (decide (l.length>7))) (fun r=>r=true):=by
   refine Yes.cond (fun h=>Yes.some h) (fun h=>Yes.some ?_)
   simp at h ⊢;omega
  refine this.mono fun r hr=>?_
  subst hr
  exact Yes.some (by simp [Yc,hc])
 ·have:Yes (bif decide (m.Widths.length>3) then some (decide (m.Widths.length>3)) else some (decide (l.length>7))) (fun r=>r=false):=by
   refine Yes.cond (fun h=>Yes.some ?_) (fun h=>Yes.some ?_)
   ·simp at h;omega
   ·simp;omega
  refine this.mono fun r hr=>?_
  subst hr
  refine Yes.bind ?_
  rw [s81 _ _ _ (by omega),s81 _ _ _ (by simp),s82 l _ (fun x=>!U1 x) (by omega) (fun x _=>s79 x)]
  by_cases h2:m.Widths.length≠0∧m.Widths.all (btw 1 100)=true∧btw 0 20 m.Change=true∧l.all U1=true
  ·have hc:Jk m l=0:=by rw [Jk,if_neg h1,if_pos h2]
   obtain ⟨a,b,c,d⟩:=h2
   have e3:(((m.Widths).length:Int)==0)=false:=by rw [beq_eq_false_iff_ne];omega
   have e4:(l.any fun x=>!U1 x)=false:=by rw [← Lk] at d;simpa using d
   rw [b,e3,e4]
   simp only [List.all_cons,List.all_nil,c,Bool.and_true]
   exact Yes.some (Yes.some (by simp [Yc,hc]))
  ·have hc:Jk m l=2:=by rw [Jk,if_neg h1,if_neg h2]
   have hgo:∀ b:Bool,b=true→Yes (bif b then some ((⟨⟨[],0⟩,[]⟩:Z8),(2:Int)) else some ((⟨m,l⟩:Z8),(0:Int))) (fun r=>r=Yc m l):=fun b hb=>by subst hb;exact Yes.some (by simp [Yc,hc])
   by_cases h3:m.Widths.length=0
   ·have e3:(((m.Widths).length:Int)==0)=true:=by simp [h3]
    rw [e3]
    exact Yes.some (Yes.some (by simp [Yc,hc]))
   have e3:(((m.Widths).length:Int)==0)=false:=by rw [beq_eq_false_iff_ne];omega
   rw [e3]
   cases hb:m.Widths.all (btw 1 100) with
   | false=>exact Yes.some (Yes.some (by simp [Yc,hc]))
   | true=>
    cases hcc:btw 0 20 m.Change with
    | false=>simp only [List.all_cons,List.all_nil,hcc,Bool.and_true];exact Yes.some (Yes.some (by simp [Yc,hc]))
    | true=>
     simp only [List.all_cons,List.all_nil,hcc,Bool.and_true]
     have hd:l.all U1=false:=by
      cases hd:l.all U1 with
      | false=>rfl
      | true=>exact absurd ⟨h3,hb,hcc,hd⟩ h2
     have e4:(l.any fun x=>!U1 x)=true:=by rw [← Lk] at hd;simpa using hd
     rw [e4]
     exact Yes.some (Yes.some (by simp [Yc,hc]))
theorem Ue {α:Type} {xs:List α} {i:Nat} (h:i<xs.length):idx xs (i:Int)=some xs[i]:=by unfold idx;rw [if_pos (Int.natCast_nonneg i)];exact List.getElem?_eq_getElem h
theorem Kd {i:Nat} (h:i<4611686018427387904):w64 ((i:Int)+1)=((i+1:Nat):Int):=by rw [Qg (by omega) (by omega)];omega
def od (l:List Z5) (x:Int):Z5:=(l[x.toNat]?).getD default
def wd (m:LoomMill) (x:Int):Int:=(m.Widths[x.toNat]?).getD 0
def rn (r:List Z3) (i:Nat):Z3:=(r[i]?).getD default
theorem Hs {l:List Z5} {x:Int} (h0:0≤x) (h1:x<l.length):idx l x=some (od l x):=by
 unfold idx od;rw [if_pos h0,List.getElem?_eq_getElem (by omega)];rfl
theorem idx_wd {m:LoomMill} {x:Int} (h0:0≤x) (h1:x<m.Widths.length):idx m.Widths x=some (wd m x):=by
 unfold idx wd;rw [if_pos h0,List.getElem?_eq_getElem (by omega)];rfl
theorem H7 {r:List Z3} {i:Nat} (h1:i<r.length):idx r (i:Int)=some (rn r i):=by
 unfold idx rn;rw [if_pos (by omega)];simp [h1]
theorem rn_mem {r:List Z3} {i:Nat} (h1:i<r.length):rn r i∈r:=by unfold rn;simp [h1]
theorem Rj {l:List Z5} {x:Int} (h0:0≤x) (h1:x<l.length):od l x∈l:=by
 unfold od;rw [List.getElem?_eq_getElem (by omega)];exact List.getElem_mem _
def inR (m:LoomMill) (l:List Z5) (x:Z3):Prop:=(0≤x.Order∧x.Order<l.length)∧(0≤x.Loom∧x.Loom<m.Widths.length)∧(0≤x.From∧x.From≤300)
instance (m:LoomMill) (l:List Z5) (x:Z3):Decidable (inR m l x):=inferInstanceAs (Decidable (_∧_))
def J3 (l:List Z5) (x:Z3):Int:=x.From+(od l x.Order).Woven
def Xm (m:LoomMill) (l:List Z5) (r:List Z3) (i:Nat):Int:=
 if ¬ inR m l (rn r i) then 7 else if 0<i∧(rn r i).Order≤(rn r (i-1)).Order then 4
 else if (od l (rn r i).Order).Width>wd m (rn r i).Loom then 2
 else if (rn r i).From<(od l (rn r i).Order).Early∨J3 l (rn r i)>(od l (rn r i).Order).Late then 3 else 0
theorem Lp (x:Int) (n:Nat) (h:n<4611686018427387904):btw 0 (w64 ((n:Int)-1)) x=decide (0≤x∧x<n):=by
 unfold btw;rw [Qg (by omega) (by omega),decide_eq_decide];omega
theorem s73 {m:LoomMill} {l:List Z5} (g:He m l) {x:Z3} (hx:inR m l x):f31 ⟨m,l⟩ x=some (J3 l x):=by
 obtain ⟨⟨a1,a2⟩,_,c1,c2⟩:=hx
 have ho:=g.o _ (Rj a1 a2)
 unfold f31
 rw [Hs a1 a2,Option.bind_some]
 have:w64 (x.From+(od l x.Order).Woven)=J3 l x:=Qg (by omega) (by omega)
 rw [this]
theorem s93 {m:LoomMill} {l:List Z5} (g:He m l) {r:List Z3} {i:Nat} (hi:i<r.length) (hr:r.length<4611686018427387904):f86 ⟨m,l⟩ r (i:Int)=some (Xm m l r i):=by
 have hl7:=g.l7
 have hw3:=g.w3
 unfold f86
 rw [H7 hi,Option.bind_some]
 simp only [jn]
 rw [s81 _ _ _ (by simp),s81 _ _ _ (by simp),s71 _ (by simp)]
 simp only [List.all_cons,List.all_nil,Bool.and_true,Option.bind_some,Lp _ _ (show l.length<4611686018427387904 by omega),Lp _ _ (show m.Widths.length<4611686018427387904 by omega)]
 unfold Xm
 by_cases hin:inR m l (rn r i)
 ·have hh:=hin
  obtain ⟨⟨a1,a2⟩,⟨b1,b2⟩,c1,c2⟩:=hin
  have e1:decide (0≤(rn r i).Order∧(rn r i).Order<(l.length:Int))=true:=by simp [a1,a2]
  have e2:decide (0≤(rn r i).Loom∧(rn r i).Loom<(m.Widths.length:Int))=true:=by simp [b1,b2]
  have e3:btw 0 300 (rn r i).From=true:=by simp [btw,c1,c2]
  simp only [e1,e2,e3,Bool.not_true,cond_false,Option.bind_some,Hs a1 a2,idx_wd b1 b2,s73 g hh]
  rw [if_neg (fun h=>h hh)]
  have hp:(bif decide ((i:Int)>0) then (idx r (w64 ((i:Int)-1))).bind fun y=>some (decide ((rn r i).Order≤y.Order)) else some false)=some (decide (0<i∧(rn r i).Order≤(rn r (i-1)).Order)):=by
   by_cases h0:0<i
   ·have:decide ((i:Int)>0)=true:=by simp;omega
    rw [this,Qg (by omega) (by omega),show (i:Int)-1=((i-1:Nat):Int) by omega,H7 (by omega)]
    simp [h0]
   ·have:decide ((i:Int)>0)=false:=by simp;omega
    rw [this];simp [h0]
  rw [hp,Option.bind_some]
  by_cases hq:0<i∧(rn r i).Order≤(rn r (i-1)).Order
  ·simp [hq]
  ·rw [if_neg hq,decide_eq_false hq,cond_false]
   by_cases hw:(od l (rn r i).Order).Width>wd m (rn r i).Loom
   ·simp [hw]
   ·rw [if_neg hw,decide_eq_false hw,cond_false]
    by_cases he:(rn r i).From<(od l (rn r i).Order).Early<;>by_cases hz:J3 l (rn r i)>(od l (rn r i).Order).Late<;>simp [he,hz]
 ·rw [if_pos hin]
  by_cases e1:0≤(rn r i).Order∧(rn r i).Order<(l.length:Int)
  ·by_cases e2:0≤(rn r i).Loom∧(rn r i).Loom<(m.Widths.length:Int)
   ·have e3:btw 0 300 (rn r i).From=false:=by
     unfold btw;rw [decide_eq_false];exact fun h=>hin ⟨e1,e2,h⟩
    simp [e1,e2,e3]
   ·simp [e1,e2]
  ·simp [e1]
abbrev El:=Int

section
variable {α:Type} (key:α→Int)
def Hi (xs ys:List α):Prop:=∀ v:Int,xs.filter (fun x=>key x==v)=ys.filter (fun x=>key x==v)
end
section
variable {α:Type} (key:α→Int)
def Srt (xs:List α):Prop:=xs.Pairwise fun a b=>key a≤key b
end
section
variable {α:Type} (key:α→Int)
variable {key}
theorem Hi.refl (xs:List α):Hi key xs xs:=fun _=>rfl
end
section
variable {α:Type} (key:α→Int)
variable {key}
theorem Hi.trans {xs ys zs:List α} (h:Hi key xs ys) (k:Hi key ys zs):Hi key xs zs:=fun v=>(h v).trans (k v)
end
section
variable {α:Type} (key:α→Int)
variable {key}
theorem Hi.app {a a' b b':List α} (h:Hi key a a') (k:Hi key b b'):Hi key (a++b) (a'++b'):=fun v=>by rw [List.filter_append,List.filter_append,h v,k v]
end
section
variable {α:Type} (key:α→Int)
variable {key}
theorem Hi.mem {xs ys:List α} (h:Hi key xs ys) {x:α} (hx:x∈ys):x∈xs:=by
 have h1:x∈ys.filter (fun y=>key y==key x):=List.mem_filter.2 ⟨hx,by simp⟩
 rw [← h (key x)] at h1
 exact (List.mem_filter.1 h1).1
end
section
variable {α:Type} (key:α→Int)
variable {key}
theorem Hi.swap {a b:List α} (h:∀ x∈a,∀ y∈b,key y<key x):Hi key (a++b) (b++a):=fun v=>by
 rw [List.filter_append,List.filter_append]
 by_cases hb:b.filter (fun x=>key x==v)=[]
 ·rw [hb];simp
 ·have ha:a.filter (fun x=>key x==v)=[]:=List.filter_eq_nil_iff.2 fun x hx hk=>by
   obtain ⟨y,hy⟩:=List.exists_mem_of_ne_nil _ hb
   obtain ⟨hy1,hy2⟩:=List.mem_filter.1 hy
   have:=h x hx y hy1
   simp at hk hy2
   omega
  rw [ha];simp
end
section
variable {α:Type} (key:α→Int)
variable {key}
theorem Pa {a b:List α}:Srt key (a++b)↔Srt key a∧Srt key b∧∀ x∈a,∀ y∈b,key x≤key y:=List.pairwise_append
end
section
variable {α:Type} (key:α→Int)
variable {key}
variable {α:Type}
theorem get_at {p s:List α} {x:α} {i:Nat} (hi:i=p.length) (h:i<(p++x::s).length):(p++x::s)[i]=x:=by subst hi;simp
end
section
variable {α:Type} (key:α→Int)
variable {key}
variable {α:Type}
theorem set_at {p s:List α} {x y:α} {i:Nat} (hi:i=p.length):(p++x::s).set i y=p++y::s:=by subst hi;simp
end
section
variable {α:Type} (key:α→Int)
variable {key}
variable {α:Type}
variable {β:Type} {Q:β→Prop} {K:List El→Option β} {m A B C:List El} {u v:El} {a b:Int}
theorem get_lo {i:Nat} (hi:i=A.length) (h:i<(A++u::(B++v::C)).length):(A++u::(B++v::C))[i]=u:=get_at hi h
end
section
variable {α:Type} (key:α→Int)
variable {key}
variable {α:Type}
variable {β:Type} {Q:β→Prop} {K:List El→Option β} {m A B C:List El} {u v:El} {a b:Int}
theorem Ew {i:Nat} (hi:i=A.length+1+B.length) (h:i<(A++u::(B++v::C)).length):(A++u::(B++v::C))[i]=v:=by
 have e:A++u::(B++v::C)=(A++u::B)++v::C:=by simp
 simp only [e]
 exact get_at (by simp;omega) _
end
section
variable {α:Type} (key:α→Int)
variable {key}
variable {α:Type}
variable {β:Type} {Q:β→Prop} {K:List El→Option β} {m A B C:List El} {u v:El} {a b:Int}
theorem set_lo {i:Nat} (hi:i=A.length) (y:El):(A++u::(B++v::C)).set i y=A++y::(B++v::C):=set_at hi
end
section
variable {α:Type} (key:α→Int)
variable {key}
variable {α:Type}
variable {β:Type} {Q:β→Prop} {K:List El→Option β} {m A B C:List El} {u v:El} {a b:Int}
theorem set_hi {i:Nat} (hi:i=A.length+1+B.length) (y:El):(A++u::(B++v::C)).set i y=A++u::(B++y::C):=by
 have e:∀ z,A++u::(B++z::C)=(A++u::B)++z::C:=fun z=>by simp
 rw [e,e]
 exact set_at (by simp;omega)
end
section
variable {α:Type} (key:α→Int)
variable {key}
variable {α:Type}
variable {β:Type} {Q:β→Prop} {K:List El→Option β} {m A B C:List El} {u v:El} {a b:Int}
theorem swapHi (hm:m=A++u::(B++v::C)) (ha:a=((A.length+1+B.length:Nat):Int)) (hb:b=(A.length:Int)) (hk:Yes (K (A++v::(B++u::C))) Q) :
  Yes ((idx m b).bind fun y1=>(idx m a).bind fun y2=>(idx m a).bind fun _=>(idx (List.set m (Int.toNat a) y1) b).bind fun _=>K (List.set (List.set m (Int.toNat a) y1) (Int.toNat b) y2)) Q:=by
 subst hm
 refine Yes.bind (Yes.idx hb (by simp) (Yes.bind (Yes.idx ha (by simp;omega) (Yes.bind (Yes.idx ha (by simp;omega) (Yes.bind (Yes.idx hb (by simp) ?_)))))))
 subst ha;subst hb
 rw [Ew rfl,get_lo rfl,Int.toNat_natCast,Int.toNat_natCast,set_hi rfl,set_lo rfl]
 exact hk
end
section
variable {α:Type} (key:α→Int)
variable {key}
variable {α:Type}
variable {β:Type} {Q:β→Prop} {K:List El→Option β} {m A B C:List El} {u v:El} {a b:Int}
theorem s106 {φ:El→El→Option Int} {key:El→Int} {xs P X S:List El} (hφ:∀ x y,x∈xs→y∈xs→∃ c,φ x y=some c∧(c<0↔key x<key y)) {a b:Int} (hm:xs=P++X++S) (ha:a=P.length) (hb:b=((P.length+X.length:Nat):Int)) (hs:xs.length<1000000):Yes (f118 xs a b φ) fun r=>∃ Y,r=P++Y++S∧Hi key X Y∧Srt key Y:=by
 have hlen:P.length+X.length+S.length<1000000:=by rw [hm] at hs;simp at hs;omega
 unfold f118
 subst ha;subst hb
 rw [Qg (by omega) (by omega)]
 by_cases h0:X=[]
 ·subst h0
  refine Yes.lp (fun s=>s.1=xs∧s.2=(P.length:Int)+1) (fun _=>0) ⟨rfl,rfl⟩ (by decide) ?_
  rintro ⟨r,j⟩ k ⟨h1,h2⟩ hk
  simp only at h1 h2
  subst h1;subst h2
  exact Yes.jn (Yes.cond (fun h=>absurd h (by simp;omega)) (fun _=>Yes.some ⟨[],by rw [hm],Hi.refl _,List.Pairwise.nil⟩))
 obtain ⟨x0,X0,rfl⟩:=List.exists_cons_of_ne_nil h0
 have hXl:(x0::X0).length=X0.length+1:=rfl
 refine Yes.lp (fun s => ∃ X1 Z Y : List El, X0 = X1 ++ Z ∧ s.1 = P ++ Y ++ Z ++ S ∧ Y.length = X1.length + 1 ∧ s.2 = ((P.length + Y.length : Nat) : Int) ∧ Hi key (x0 :: X1) Y ∧ Srt key Y) (fun s => (P.length + X0.length + 2) - s.2.toNat)
  ⟨[],X0,[x0],rfl,by rw [hm];simp,rfl,by simp,Hi.refl _,List.pairwise_singleton _ _⟩ (by simp only;omega) ?_
 rintro ⟨r,j⟩ k ⟨X1,Z,Y,hX,h1,hY,h2,hst,hsr⟩ hk
 simp only at h1 h2 hk
 subst h2
 have hXl2:X0.length=X1.length+Z.length:=by rw [hX];simp
 refine Yes.jn (Yes.cond (fun hlt=>Yes.bind ?_) (fun hge=>Yes.some ?_))
 rotate_left
 ·have hz:Z=[]:=List.length_eq_zero_iff.1 (by simp at hge;omega)
  subst hz
  exact ⟨Y,by rw [h1];simp,by rw [hX];simpa using hst,hsr⟩
 have hzl:0<Z.length:=by simp at hlt;omega
 obtain ⟨z,Z',rfl⟩:=List.exists_cons_of_ne_nil (List.length_pos_iff.1 hzl)
 simp only [List.length_cons] at hXl2
 refine Yes.lp (fun s => ∃ Y1 Y2 : List El, Y = Y1 ++ Y2 ∧ s.1 = P ++ Y1 ++ z :: Y2 ++ Z' ++ S ∧ s.2 = ((P.length + Y1.length : Nat) : Int) ∧ ∀ y ∈ Y2, key z < key y) (fun s => s.2.toNat)
  ⟨Y,[],by simp,by rw [h1];simp,rfl,fun y hy=>by cases hy⟩ (by simp only;omega) ?_
 rintro ⟨r2,j⟩ k2 ⟨Y1,Y2,hYe,h3,h4,hY2⟩ hk2
 simp only at h3 h4 hk2
 subst h4
 have hYl:Y.length=Y1.length+Y2.length:=by rw [hYe];simp
 have hr2:r2.length<1000000:=by rw [h3];simp;omega
 have fin:(Y1=[]∨∃ y Y1',Y1=Y1'++[y]∧key y≤key z)→Yes (some r2) (fun r=>Yes (k (r,w64 (((P.length+Y.length:Nat):Int)+1))) fun r=>∃ Y,r=P++Y++S∧Hi key (x0::X0) Y∧Srt key Y):=fun hfin=>by
  rw [Qg (by omega) (by omega)]
  refine Yes.some (hk _ ⟨X1++[z],Z',Y1++z::Y2,by rw [hX];simp,by rw [h3];simp,by simp;omega,by simp;omega,?_,?_⟩ (by simp only;omega))
  ·have e1:Hi key (x0::(X1++[z])) (Y++[z]):=hst.app (Hi.refl [z])
   have e2:Hi key (Y2++[z]) ([z]++Y2):=Hi.swap fun x hx y hy=>by rw [List.mem_singleton.1 hy];exact hY2 x hx
   have e3:Hi key (Y1++(Y2++[z])) (Y1++([z]++Y2)):=(Hi.refl Y1).app e2
   refine e1.trans ?_
   rw [hYe,List.append_assoc]
   exact e3
  ·rw [hYe] at hsr
   obtain ⟨s1,s2,s3⟩:=Pa.1 hsr
   refine Pa.2 ⟨s1,List.pairwise_cons.2 ⟨fun y hy=>by have:=hY2 y hy;omega,s2⟩,fun x hx y hy=>?_⟩
   rcases List.mem_cons.1 hy with rfl | hy
   ·rcases hfin with rfl | ⟨q,Q,rfl,hq⟩
    ·cases hx
    ·obtain ⟨_,_,s5⟩:=Pa.1 s1
     rcases List.mem_append.1 hx with h | h
     ·have:=s5 x h q (by simp);omega
     ·rw [List.mem_singleton.1 h];exact hq
   ·exact s3 x hx y hy
 refine Yes.jn (Yes.bind (Yes.cond (fun hgt=>?_) (fun hng=>Yes.some (Yes.cond (fun h=>nomatch h) (fun _=>fin (.inl ?_))))))
 rotate_left
 ·exact List.length_eq_zero_iff.1 (by simp at hng;omega)
 have hY1:0<Y1.length:=by simp at hgt;omega
 obtain ⟨y,Y1',hY1e⟩:∃ y Y1',Y1=Y1'++[y]:=by
  have hne:Y1≠[]:=List.length_pos_iff.1 hY1
  exact ⟨Y1.getLast hne,Y1.dropLast,(List.dropLast_concat_getLast hne).symm⟩
 have hY1l:Y1.length=Y1'.length+1:=by rw [hY1e];simp
 have e:r2=(P++Y1')++y::([]++z::(Y2++Z'++S)):=by rw [h3,hY1e];simp
 have hA:(P++Y1').length=P.length+Y1'.length:=by simp
 rw [Qg (n:=((P.length+Y1.length:Nat):Int)-1) (by omega) (by omega)]
 have hi1:P.length+Y1.length<r2.length:=by rw [h3];simp
 have hi0:P.length+Y1'.length<r2.length:=by omega
 refine Yes.bind (Yes.idx (n:=P.length+Y1.length) rfl hi1 (Yes.bind (Yes.idx (n:=P.length+Y1'.length) (by omega) hi0 ?_)))
 have g1:r2[P.length+Y1.length]=z:=by simp only [e];exact Ew (by rw [hA];simp;omega) _
 have g0:r2[P.length+Y1'.length]=y:=by simp only [e];exact get_lo (by rw [hA]) _
 rw [g1,g0]
 obtain ⟨c,hφc,hcl⟩:=hφ z y (by rw [hm,hX];simp) (by rw [hm];have:=hst.mem (x:=y) (by rw [hYe,hY1e];simp);rw [hX];simp at this ⊢;grind)
 refine Yes.bind (Yes.of hφc (Yes.some (Yes.cond (fun hc=>?_) (fun hc=>fin (.inr ⟨y,Y1',hY1e,?_⟩)))))
 rotate_left
 ·simp at hc;omega
 have hc:key z<key y:=by simp at hc;omega
 refine Yes.jn (Yes.bind (swapHi e (by rw [hA];simp;omega) (by rw [hA];omega) (Yes.some ?_)))
 refine hk2 _ ⟨Y1',y::Y2,by rw [hYe,hY1e];simp,by simp,by omega,fun q hq=>?_⟩ (by simp only;omega)
 rcases List.mem_cons.1 hq with rfl | hq
 ·exact hc
 ·exact hY2 q hq
end
theorem wu64_id {n:Int} (h1:0≤n) (h2:n≤18446744073709551615):T9 n=n:=by
 unfold T9;rw [IntKind.wrap_u64];omega
theorem s101 {n:Nat} (h:n<256):∃ v,f89 (T9 n)=some v:=by
 rw [wu64_id (by omega) (by omega)]
 unfold f89 f127
 rw [if_pos ⟨by omega,by omega⟩]
 have hl:n<Rm.b.length:=by rw [show Rm.b.length=256 from by kernel_rfl];exact h
 rw [Ue hl]
 exact ⟨_,rfl⟩
theorem s87 {φ:El→El→Option Int} {key:El→Int} {xs:List El} (hφ:∀ x y,x∈xs→y∈xs→∃ c,φ x y=some c∧(c<0↔key x<key y)) (hl:xs.length≤12) :
  ∃ ys,f51 xs φ=some ys∧Hi key xs ys∧Srt key ys:=by
 obtain ⟨v,hv⟩:=s101 (n:=xs.length) (by omega)
 have h106:=s106 (xs:=xs) (P:=[]) (X:=xs) (S:=[]) (a:=0) (b:=(xs.length:Int)) hφ (by simp) rfl (by simp) (by omega)
 have:Yes (f51 xs φ) fun r=>Hi key xs r∧Srt key r:=by
  unfold f51
  refine Yes.bind (Yes.of hv (Yes.bind ?_))
  obtain ⟨B,hB⟩:∃ B,big=B+1:=⟨18446744073709551615,by kernel_rfl⟩
  generalize hbb:f88 big xs 0 (xs.length:Int) v φ=z
  rw [hB] at hbb
  subst hbb
  unfold f88
  refine Yes.lp (fun s=>s.1=xs∧s.2.1=0∧s.2.2.1=(xs.length:Int)) (fun _=>0) ⟨rfl,rfl,rfl⟩ (by decide) ?_
  rintro ⟨m,a,b,c,d,e⟩ k ⟨e1,e2,e3⟩ hk
  simp only at e1 e2 e3
  subst e1;subst e2;subst e3
  have h1:decide (w64 ((m.length:Int)-0)≤12)=true:=by rw [Qg (by omega) (by omega)];simp;omega
  refine Yes.jn (Yes.cond (fun _=>Yes.bind (h106.mono fun r hr=>?_)) (fun h=>by rw [h1] at h;cases h))
  obtain ⟨Y,h2,h3,h4⟩:=hr
  have:r=Y:=by simpa using h2
  subst this
  exact Yes.some (Yes.some ⟨h3,h4⟩)
 obtain ⟨ys,h,h2⟩:=this
 exact ⟨ys,h,h2⟩
theorem Hi.mem_iff {α:Type} {key:α→Int} {xs ys:List α} (h:Hi key xs ys) {x:α}:x∈xs↔x∈ys:=⟨fun hx=>Hi.mem (fun v=>(h v).symm) hx,fun hx=>Hi.mem h hx⟩
theorem Hi.one {α:Type} {key:α→Int} {xs ys:List α} (h:Hi key xs ys) (hd:xs.Pairwise fun a b=>key a≠key b) (hs:Srt key ys):ys.Pairwise fun a b=>key a<key b:=by
 have h1:∀ v:Int,(ys.filter fun x=>key x==v).length≤1:=fun v=>by
  rw [← h v]
  clear h hs
  induction xs with
  | nil=>simp
  | cons a xs ih=>
   obtain ⟨h2,h3⟩:=List.pairwise_cons.1 hd
   rw [List.filter_cons]
   split
   ·rename_i hav
    have:xs.filter (fun x=>key x==v)=[]:=List.filter_eq_nil_iff.2 fun x hx hk=>h2 x hx (by simp at hav hk;omega)
    rw [this];simp
   ·exact ih h3
 clear h hd
 induction ys with
 | nil=>exact .nil
 | cons a ys ih=>
  obtain ⟨h2,h3⟩:=List.pairwise_cons.1 hs
  refine List.pairwise_cons.2 ⟨fun b hb=>?_,ih h3 fun v=>by
   have:=h1 v
   rw [List.filter_cons] at this
   split at this
   ·rw [List.length_cons] at this;omega
   ·exact this⟩
  have h4:=h2 b hb
  have h5:=h1 (key a)
  rw [List.filter_cons] at h5
  simp at h5
  have:=h5 b hb
  omega
theorem Db {β:Type} {Q:β→Prop} {body:(Int→Option β)→Int→Option β} (n:Nat) (hn:n<9223372036854775807) (p:Nat→Bool) (out:Nat→Option β)
  (hb:∀ k i,i<n→body k (i:Int)=bif p i then out i else k (w64 ((i:Int)+1)))
  (h1:(List.range n).find? p=none→∀ k,Yes (body k (n:Int)) Q) (h2:∀ i,i<n→(List.range n).find? p=some i→p i=true→Yes (out i) Q):Yes (lp body big (0:Int)) Q:=by
 refine Yes.upto0 n hn (fun i=>∀ j,j<i→p j=false) (fun j h=>absurd h (Nat.not_lt_zero _)) (fun i k hi hI hk=>?_) (fun k hI=>?_)
 ·rw [hb k i hi]
  cases hp:p i with
  | true=>exact h2 i hi (List.find?_range_eq_some.2 ⟨hp,List.mem_range.2 hi,fun j hj=>by simp [hI j hj]⟩) hp
  | false=>
   refine hk fun j hj=>?_
   rcases Nat.lt_succ_iff_lt_or_eq.1 hj with h | rfl
   ·exact hI j h
   ·exact hp
 ·exact h1 (List.find?_eq_none.2 fun x hx=>by simp [hI x (List.mem_range.1 hx)]) k
def bef (x y:Z3):Prop:=x.From<y.From∨x.From=y.From∧x.Order<y.Order
instance (x y:Z3):Decidable (bef x y):=inferInstanceAs (Decidable (_∨_))
structure Vs (m:LoomMill) (l:List Z5) (r:List Z3):Prop where
 r7:r.length≤7
 inR:∀ i,i<r.length→inR m l (rn r i)
 up:∀ i j,i<j→j<r.length→(rn r i).Order<(rn r j).Order
theorem s90 (x y:Int):f54 x y=some (if x<y then -1 else if x>y then 1 else 0):=by
 unfold f54 f90
 by_cases h1:x<y<;>by_cases h2:x>y<;>simp [jn,h1,h2]
theorem s89 (a b:Int):f53 [a,b]=some (if a≠0 then a else b):=by
 refine Yes.eq ?_
 unfold f53
 refine Yes.jn (Db 2 (by omega) (fun i=>if i=0 then decide (a≠0) else decide (b≠0)) (fun i=>some (if i=0 then a else b)) (fun k i hi=>?_) (fun hf k=>?_) (fun i hi hf hp=>?_))
 ·have h1:decide ((i:Int)<(([a,b]:List Int).length:Int))=true:=by simp;omega
  simp only [jn,h1,cond_true]
  rw [Ue (by simpa using hi)]
  obtain rfl | rfl:i=0∨i=1:=by omega
  ·by_cases h:a=0
   ·simp [h]
   ·have:(a != 0)=true:=by simp [h]
    simp [h,this]
  ·by_cases h:b=0
   ·simp [h]
   ·have:(b != 0)=true:=by simp [h]
    simp [h,this]
 ·have h0:=List.find?_eq_none.1 hf 0 (by simp)
  have h1:=List.find?_eq_none.1 hf 1 (by simp)
  simp at h0 h1
  have h2:decide (((2:Nat):Int)<(([a,b]:List Int).length:Int))=false:=by simp
  simp only [h2,cond_false]
  exact Yes.some (by simp [h0,h1])
 ·obtain rfl | rfl:i=0∨i=1:=by omega
  ·simp at hp;exact Yes.some (by simp [hp])
  ·simp at hp
   refine Yes.some ?_
   have h0:=(List.find?_range_eq_some.1 hf).2.2 0 (by omega)
   simp at h0
   simp [h0]
def My (r:List Z3) (x:Int):Int:=(rn r x.toNat).From*1024+(rn r x.toNat).Order
theorem O0 {m:LoomMill} {l:List Z5} {r:List Z3} (g:He m l) (R:Vs m l r) {i j:Nat} (hi:i<r.length) (hj:j<r.length):bef (rn r i) (rn r j)↔My r i<My r j:=by
 obtain ⟨⟨a1,a2⟩,_,_,_⟩:=R.inR i hi
 obtain ⟨⟨b1,b2⟩,_,_,_⟩:=R.inR j hj
 have:=g.l7
 unfold bef My
 simp only [Int.toNat_natCast]
 omega
theorem s88 {m:LoomMill} {l:List Z5} {r:List Z3} (g:He m l) (R:Vs m l r) {i j:Nat} (hi:i<r.length) (hj:j<r.length):∃ c,f52 (i:Int) (j:Int) r=some c∧(c<0↔My r i<My r j):=by
 rw [← O0 g R hi hj]
 unfold f52 bef
 rw [H7 hi,H7 hj]
 simp only [Option.bind_some,s90,s89]
 refine ⟨_,rfl,?_⟩
 by_cases h1:(rn r i).From<(rn r j).From<;>by_cases h2:(rn r i).From>(rn r j).From<;>by_cases h3:(rn r i).Order<(rn r j).Order<;>by_cases h4:(rn r i).Order>(rn r j).Order<;>simp [h1,h2,h3,h4]<;>omega
theorem s68 {m:LoomMill} {l:List Z5} {r:List Z3} (g:He m l) (R:Vs m l r) (t:Int) :
  ∃ A:List Nat,f25 r t=some (A.map fun (n:Nat)=>(n:Int))∧(∀ n,n∈A↔n<r.length∧(rn r n).Loom=t)∧A.Pairwise fun a b=>bef (rn r a) (rn r b):=by
 have hr:=R.r7
 have hmem:∀ x:Int,x∈(((List.range r.length).filter fun i=>(rn r i).Loom==t).map fun (n:Nat)=>(n:Int))→∃ n:Nat,x=n∧n<r.length∧(rn r n).Loom=t:=fun x hx=>by
  obtain ⟨n,hn,rfl⟩:=List.mem_map.1 hx
  obtain ⟨h1,h2⟩:=List.mem_filter.1 hn
  exact ⟨n,rfl,List.mem_range.1 h1,by simpa using h2⟩
 have hlen:(((List.range r.length).filter fun i=>(rn r i).Loom==t).map fun (n:Nat)=>(n:Int)).length≤12:=by
  rw [List.length_map];have:=List.length_filter_le (fun i=>(rn r i).Loom==t) (List.range r.length);simp at this ⊢;omega
 obtain ⟨ys,hy1,hy2,hy3⟩:=s87 (φ:=fun a0 a1=>f52 a0 a1 r) (key:=My r) (xs:=((List.range r.length).filter fun i=>(rn r i).Loom==t).map fun (n:Nat)=>(n:Int)) (fun x y hx hy=>by
  obtain ⟨i,rfl,hi,_⟩:=hmem x hx
  obtain ⟨j,rfl,hj,_⟩:=hmem y hy
  exact s88 g R hi hj) hlen
 have hd:=Hi.one hy2 (by
  rw [List.pairwise_map]
  refine List.Pairwise.imp_of_mem ?_ ((List.pairwise_lt_range (n:=r.length)).filter _)
  intro a b ha hb hab
  have ha:=List.mem_range.1 (List.mem_filter.1 ha).1
  have hb:=List.mem_range.1 (List.mem_filter.1 hb).1
  obtain ⟨⟨a1,a2⟩,_⟩:=R.inR a ha
  obtain ⟨⟨b1,b2⟩,_⟩:=R.inR b hb
  have h3:=R.up a b hab hb
  have:=g.l7
  unfold My
  simp only [Int.toNat_natCast]
  omega) hy3
 have hyn:∀ x∈ys,∃ n:Nat,x=n∧n<r.length∧(rn r n).Loom=t:=fun x hx=>hmem x (hy2.mem_iff.2 hx)
 have hcast:(ys.map Int.toNat).map (fun (n:Nat)=>(n:Int))=ys:=by
  rw [List.map_map]
  conv=>rhs;rw [← List.map_id ys]
  refine List.map_congr_left fun x hx=>?_
  obtain ⟨n,rfl,_⟩:=hyn x hx
  simp
 refine ⟨ys.map Int.toNat,?_,fun n=>?_,?_⟩
 ·rw [hcast]
  refine Yes.eq ?_
  unfold f25
  refine Yes.bind ?_
  refine Yes.upto r.length (by omega) (fun i s=>s=((List.range i).filter fun i=>(rn r i).Loom==t).map fun (n:Nat)=>(n:Int)) rfl (fun i s k hi hI hk=>?_) (fun s k hI=>?_)
  ·have h1:decide ((i:Int)<(r.length:Int))=true:=by simp;omega
   refine Yes.cond (fun _=>Yes.bind ?_) (fun h=>by rw [h1] at h;cases h)
   rw [H7 hi,Option.bind_some]
   have hs:s.length≤i:=by rw [hI,List.length_map];have:=List.length_filter_le (fun i=>(rn r i).Loom==t) (List.range i);simpa using this
   refine Yes.cond (fun h=>Yes.bind (Yes.apnd (by simp;omega) (by simp;omega) (Yes.some (hk _ ?_)))) (fun h=>Yes.some (hk _ ?_))
   ·rw [hI,List.range_succ,List.filter_append];simp at h;simp [h]
   ·rw [hI,List.range_succ,List.filter_append];simp at h;simp [h]
  ·have h1:decide (((r.length:Nat):Int)<(r.length:Int))=false:=by simp
   refine Yes.cond (fun h=>by rw [h1] at h;cases h) (fun _=>Yes.some ?_)
   rw [hI,hy1]
   exact Yes.some rfl
 ·constructor
  ·intro h
   obtain ⟨x,hx,rfl⟩:=List.mem_map.1 h
   obtain ⟨n,rfl,h1,h2⟩:=hyn x hx
   simpa using ⟨h1,h2⟩
  ·rintro ⟨h1,h2⟩
   refine List.mem_map.2 ⟨(n:Int),hy2.mem_iff.1 ?_,by simp⟩
   exact List.mem_map.2 ⟨n,List.mem_filter.2 ⟨List.mem_range.2 h1,by simpa using h2⟩,rfl⟩
 ·rw [List.pairwise_map]
  refine List.Pairwise.imp_of_mem ?_ hd
  intro a b ha hb hab
  obtain ⟨i,rfl,hi,_⟩:=hyn a ha
  obtain ⟨j,rfl,hj,_⟩:=hyn b hb
  simp only [Int.toNat_natCast]
  exact (O0 g R hi hj).2 hab
def Ya (m:LoomMill) (l:List Z5) (x:Z3) (o:Int):Int:=if (od l x.Order).Chain=(od l o).Chain then J3 l x else J3 l x+m.Change
theorem Io {m:LoomMill} {l:List Z5} (g:He m l) {x:Z3} (hx:inR m l x):1≤J3 l x∧J3 l x≤400:=by
 obtain ⟨⟨a1,a2⟩,_,c1,c2⟩:=hx
 have ho:=g.o _ (Rj a1 a2)
 unfold J3;omega
theorem s69 {m:LoomMill} {l:List Z5} (g:He m l) {x:Z3} (hx:inR m l x) {o:Int} (h0:0≤o) (h1:o<l.length):f26 ⟨m,l⟩ x o=some (Ya m l x o):=by
 have hb:=Io g hx
 have hc:=g.c
 unfold f26
 simp only [jn]
 rw [Hs hx.1.1 hx.1.2,Hs h0 h1,s73 g hx]
 simp only [Option.bind_some]
 unfold Ya
 rw [Qg (by omega) (by omega)]
 by_cases h:(od l x.Order).Chain=(od l o).Chain
 ·simp [h]
 ·have:((od l x.Order).Chain==(od l o).Chain)=false:=by simp [h]
  simp [this,h]
def pre (r:List Z3) (j i:Nat):Prop:=(rn r j).Loom=(rn r i).Loom∧bef (rn r j) (rn r i)
def prev (r:List Z3) (j i:Nat):Prop:=pre r j i∧∀ j',j'<r.length→pre r j' i→¬ bef (rn r j) (rn r j')
def U2 (m:LoomMill) (l:List Z5) (r:List Z3) (i:Nat):Prop:=∃ j,j<r.length∧prev r j i∧(rn r i).From<Ya m l (rn r j) (rn r i).Order
theorem Hq {x:Z3}:¬ bef x x:=by unfold bef;omega
theorem Br {x y z:Z3} (h:bef x y) (k:bef y z):bef x z:=by unfold bef at *;omega
theorem bef_or {x y:Z3} (h:x.Order≠y.Order):bef x y∨bef y x:=by unfold bef;omega
theorem Vs.ne {m:LoomMill} {l:List Z5} {r:List Z3} (R:Vs m l r) {i j:Nat} (hi:i<r.length) (hj:j<r.length) (h:i≠j):(rn r i).Order≠(rn r j).Order:=by
 rcases Nat.lt_or_gt_of_ne h with h | h
 ·have:=R.up i j h hj;omega
 ·have:=R.up j i h hi;omega
theorem prev_one {m:LoomMill} {l:List Z5} {r:List Z3} (R:Vs m l r) {i j n:Nat} (hj:j<r.length) (hn:n<r.length) (h:prev r j i) (k:prev r n i):j=n:=by
 by_cases he:j=n
 ·exact he
 ·rcases bef_or (R.ne hj hn he) with a | a
  ·exact absurd a (h.2 n hn k.1)
  ·exact absurd a (k.2 j hj h.1)
theorem Yes.bindv {α β:Type} {x:Option α} {f:α→Option β} {Q:β→Prop} (a:α) (h:x=Option.some a) (k:Yes (f a) Q):Yes (Option.bind x f) Q:=by rw [h];exact k
theorem s103 (xs:List Bool) (hl:xs.length<9223372036854775807):Yes (f117 xs true) fun s=>(s=-1∧(List.range xs.length).find? (fun i=>xs.getD i false)=none)∨∃ n:Nat,s=n∧n<xs.length∧(List.range xs.length).find? (fun i=>xs.getD i false)=some n:=by
 unfold f117
 refine Yes.jn (Db xs.length hl (fun i=>xs.getD i false) (fun i=>some (i:Int)) (fun k i hi=>?_) (fun hf k=>?_) (fun i hi hf hp=>?_))
 ·have h1:decide ((i:Int)<(xs.length:Int))=true:=by simp;omega
  simp only [jn,h1,cond_true,Ue hi,Option.bind_some]
  have:xs.getD i false=xs[i]:=by simp [hi]
  rw [this]
  cases xs[i]<;>rfl
 ·have h1:decide ((xs.length:Int)<(xs.length:Int))=false:=by simp
  simp only [h1,cond_false]
  exact Yes.some (.inl ⟨rfl,hf⟩)
 ·exact Yes.some (.inr ⟨i,rfl,hi,hf⟩)
theorem getDset {xs:List Bool} {a i:Nat} {v:Bool} (ha:a<xs.length):(xs.set a v).getD i false=if i=a then v else xs.getD i false:=by
 by_cases h:i=a
 ·subst h;simp [ha]
 ·have:¬ a=i:=fun e=>h e.symm
  simp [List.getD,List.getElem?_set,h,this]
theorem V3:∀ (n:Nat) (A:List Nat),A.Nodup→(∀ x∈A,x<n)→A.length≤n
 | 0,A,_,h=>by
  cases A with
  | nil=>simp
  | cons a A=>exact absurd (h a (by simp)) (Nat.not_lt_zero _)
 | n+1,A,hd,h=>by
  by_cases hm:n∈A
  ·have h1:=V3 n (A.erase n) (hd.erase n) fun x hx=>by
    have:=(hd.mem_erase_iff).1 hx
    have:=h x this.2
    omega
   rw [List.length_erase_of_mem hm] at h1
   omega
  ·have h1:=V3 n A hd fun x hx=>by
    have h2:=h x hx
    have:x≠n:=fun e=>hm (e▸hx)
    omega
   omega
theorem prev_row {r:List Z3} {t:Int} {A:List Nat} (hA:∀ n,n∈A↔n<r.length∧(rn r n).Loom=t) (hp:A.Pairwise fun a b=>bef (rn r a) (rn r b)) {k:Nat} (h0:0<k) (hk:k<A.length):prev r (A[k-1]'(by omega)) A[k]:=by
 have hpw:=List.pairwise_iff_getElem.1 hp
 have m0:=(hA _).1 (List.getElem_mem hk)
 have m1:=(hA _).1 (List.getElem_mem (show k-1<A.length by omega))
 refine ⟨⟨m1.2.trans m0.2.symm,hpw (k-1) k (by omega) hk (by omega)⟩,fun j hj hpj hb=>?_⟩
 obtain ⟨q,hq,rfl⟩:=List.mem_iff_getElem.1 ((hA j).2 ⟨hj,hpj.1.trans m0.2⟩)
 rcases Nat.lt_or_ge q k with h | h
 ·rcases Nat.lt_or_ge q (k-1) with h2 | h2
  ·exact Hq (Br hb (hpw q (k-1) hq (by omega) h2))
  ·have:q=k-1:=by omega
   subst this
   exact Hq hb
 ·rcases Nat.lt_or_ge k q with h2 | h2
  ·exact Hq (Br hpj.2 (hpw k q hk hq h2))
  ·have:q=k:=by omega
   subst this
   exact Hq hpj.2
theorem soon_row {m:LoomMill} {l:List Z5} {r:List Z3} (R:Vs m l r) {t:Int} {A:List Nat} (hA:∀ n,n∈A↔n<r.length∧(rn r n).Loom=t) (hp:A.Pairwise fun a b=>bef (rn r a) (rn r b)) {k:Nat} (h0:0<k) (hk:k<A.length) :
  U2 m l r A[k]↔(rn r A[k]).From<Ya m l (rn r (A[k-1]'(by omega))) (rn r A[k]).Order:=by
 have h:=prev_row hA hp h0 hk
 have m1:=(hA _).1 (List.getElem_mem (show k-1<A.length by omega))
 exact ⟨fun ⟨j,hj,hpj,h2⟩=>by rw [prev_one R hj m1.1 hpj h] at h2;exact h2,fun h2=>⟨_,m1.1,h,h2⟩⟩
theorem Ml {m:LoomMill} {l:List Z5} {r:List Z3} {t:Int} {A:List Nat} (hA:∀ n,n∈A↔n<r.length∧(rn r n).Loom=t) (hp:A.Pairwise fun a b=>bef (rn r a) (rn r b)) (hk:0<A.length):¬ U2 m l r A[0]:=by
 rintro ⟨j,hj,⟨hpj,_⟩,_⟩
 have hpw:=List.pairwise_iff_getElem.1 hp
 have m0:=(hA _).1 (List.getElem_mem hk)
 obtain ⟨q,hq,rfl⟩:=List.mem_iff_getElem.1 ((hA j).2 ⟨hj,hpj.1.trans m0.2⟩)
 rcases Nat.eq_zero_or_pos q with rfl | h
 ·exact Hq hpj.2
 ·exact Hq (Br hpj.2 (hpw 0 q hk hq h))
theorem s94 {m:LoomMill} {l:List Z5} {r:List Z3} (g:He m l) (R:Vs m l r):Yes (f87 ⟨m,l⟩ r) fun s=>(s=-1∧(List.range r.length).find? (fun i=>decide (U2 m l r i))=none)∨∃ n:Nat,s=n∧n<r.length∧(List.range r.length).find? (fun i=>decide (U2 m l r i))=some n:=by
 have hr:=R.r7
 have hw3:=g.w3
 unfold f87
 have hmk:mks 1 (false:Bool) (r.length:Int)=some (List.replicate r.length false):=by
  unfold mks
  rw [if_pos (by omega)];simp
 refine Yes.bind (Yes.of hmk (Yes.bind ?_))
 refine Yes.upto m.Widths.length (by omega) (fun t fl=>fl.length=r.length∧∀ i,i<r.length→fl.getD i false=decide ((rn r i).Loom<t∧U2 m l r i)) ⟨by simp,fun i hi=>?_⟩ (fun t fl k ht hI hk=>?_) (fun fl k hI=>?_)
 ·have:=(R.inR i hi).2.1.1
  have:¬ ((rn r i).Loom<((0:Nat):Int)∧U2 m l r i):=fun h=>by have:=h.1;omega
  rw [decide_eq_false this]
  simp [hi]
 ·have h1:decide ((t:Int)<(m.Widths.length:Int))=true:=by simp;omega
  refine Yes.cond (fun _=>Yes.bind ?_) (fun h=>by rw [h1] at h;cases h)
  obtain ⟨A,hf,hA,hpw⟩:=s68 g R (t:Int)
  refine Yes.bind (Yes.of hf ?_)
  have hA7:A.length≤r.length:=by
   have hnd:A.Nodup:=hpw.imp fun {a b} h e=>by subst e;exact Hq h
   exact V3 _ _ hnd fun x hx=>((hA x).1 hx).1
  refine Yes.lp (fun s=>∃ q:Nat,s.2=q∧0<q∧q≤r.length+1∧s.1.length=r.length∧∀ i,i<r.length→s.1.getD i false=decide (((rn r i).Loom<t∨∃ j,1≤j∧j<q∧A[j]?=some i)∧U2 m l r i)) (fun s=>r.length+1-s.2.toNat) ⟨1,rfl,by omega,by omega,hI.1,fun i hi=>?_⟩ (by simp;omega) ?_
  ·rw [hI.2 i hi,decide_eq_decide]
   constructor
   ·exact fun h=>⟨.inl h.1,h.2⟩
   ·rintro ⟨h | ⟨j,h3,h4,_⟩,h2⟩
    ·exact ⟨h,h2⟩
    ·omega
  ·rintro ⟨fl2,j⟩ K ⟨q,hq,hq0,hq7,hl2,hI2⟩ hK
   simp only at hq hl2 hI2 hK
   subst hq
   refine Yes.jn (Yes.cond (fun h=>Yes.bind ?_) (fun h=>Yes.some (hk _ ⟨hl2,fun i hi=>?_⟩)))
   ·have hqA:q<A.length:=by simp at h;omega
    have hlen:(A.map fun (n:Nat)=>(n:Int)).length=A.length:=by simp
    have e1:idx (A.map fun (n:Nat)=>(n:Int)) (q:Int)=some (A[q]:Int):=by rw [Ue (by omega)];simp
    have e2:idx (A.map fun (n:Nat)=>(n:Int)) (w64 ((q:Int)-1))=some ((A[q-1]'(by omega):Nat):Int):=by
     rw [Qg (by omega) (by omega),show (q:Int)-1=((q-1:Nat):Int) by omega,Ue (by omega)];simp
    have m0:=(hA _).1 (List.getElem_mem hqA)
    have m1:=(hA _).1 (List.getElem_mem (show q-1<A.length by omega))
    have hin:=R.inR _ m0.1
    simp only [e1,e2,Option.bind_some,H7 m0.1,H7 m1.1,s69 g (R.inR _ m1.1) hin.1.1 hin.1.2,Ue (show A[q]<fl2.length by omega)]
    refine Yes.some (hK _ ⟨q+1,by rw [Kd (by omega)],by omega,by omega,by simp [hl2],fun i hi=>?_⟩ ?_)
    ·simp only [Int.toNat_natCast]
     rw [getDset (by omega)]
     by_cases hia:i=A[q]
     ·subst hia
      rw [if_pos rfl,decide_eq_decide,← soon_row R hA hpw hq0 hqA]
      exact ⟨fun h=>⟨.inr ⟨q,by omega,by omega,by simp [hqA]⟩,h⟩,fun h=>h.2⟩
     ·rw [if_neg hia,hI2 i hi,decide_eq_decide]
      constructor
      ·rintro ⟨h | ⟨j,h1,h2,h3⟩,h4⟩
       ·exact ⟨.inl h,h4⟩
       ·exact ⟨.inr ⟨j,h1,by omega,h3⟩,h4⟩
      ·rintro ⟨h | ⟨j,h1,h2,h3⟩,h4⟩
       ·exact ⟨.inl h,h4⟩
       ·refine ⟨.inr ⟨j,h1,?_,h3⟩,h4⟩
        rcases Nat.lt_succ_iff_lt_or_eq.1 h2 with h5 | rfl
        ·exact h5
        ·rw [List.getElem?_eq_getElem hqA] at h3
         exact absurd (Option.some.inj h3).symm hia
    ·simp only [Kd (show q<4611686018427387904 by omega)];simp;omega
   ·have hqA:A.length≤q:=by simp at h;omega
    rw [hI2 i hi,decide_eq_decide]
    constructor
    ·rintro ⟨h | ⟨j,h1,h2,h3⟩,h4⟩
     ·exact ⟨by omega,h4⟩
     ·have hm:=(hA i).1 (List.mem_of_getElem? h3)
      exact ⟨by omega,h4⟩
    ·rintro ⟨h1,h4⟩
     refine ⟨?_,h4⟩
     by_cases hlt:(rn r i).Loom<t
     ·exact .inl hlt
     ·have hm:=(hA i).2 ⟨hi,by omega⟩
      obtain ⟨j,hj,rfl⟩:=List.mem_iff_getElem.1 hm
      refine .inr ⟨j,?_,by omega,by simp [hj]⟩
      rcases Nat.eq_zero_or_pos j with rfl | h
      ·exact absurd h4 (Ml hA hpw hj)
      ·exact h
 ·have h1:decide ((m.Widths.length:Int)<(m.Widths.length:Int))=false:=by simp
  refine Yes.cond (fun h=>by rw [h1] at h;cases h) (fun _=>Yes.some (Yes.bind ((s103 fl (by have:=hI.1;omega)).mono fun s hs=>Yes.some ?_)))
  have hfl:=hI.1
  have hc:(List.range fl.length).find? (fun i=>fl.getD i false)=(List.range r.length).find? (fun i=>decide (U2 m l r i)):=by
   rw [hfl]
   have:∀ x∈List.range r.length,fl.getD x false=decide (U2 m l r x):=fun x hx=>by
    have hx:=List.mem_range.1 hx
    rw [hI.2 x hx,decide_eq_decide]
    exact ⟨fun h=>h.2,fun h=>⟨(R.inR x hx).2.1.2,h⟩⟩
   generalize List.range r.length=xs at this ⊢
   induction xs with
   | nil=>rfl
   | cons a xs ih=>
    rw [List.find?_cons,List.find?_cons,this a (by simp),ih fun x hx=>this x (by simp [hx])]
  rw [hc,hfl] at hs
  exact hs
theorem cond_tt {α:Type} {c:Bool} {a b:α} (h:c=true):(bif c then a else b)=a:=by rw [h];rfl
noncomputable def Vp (m:LoomMill) (l:List Z5) (r:List Z3):Int × Int:=
 if r.length > l.length then (0, 5) else
  match (List.range r.length).find? (fun i=>decide (Xm m l r i≠0)) with
  | some i=>(i,Xm m l r i)
  | none => match (List.range r.length).find? (fun i => decide (U2 m l r i)) with
   | some i=>(i,6)
   | none=>(0,0)
theorem Nj {m:LoomMill} {l:List Z5} {r:List Z3} {i:Nat} (h:Xm m l r i=0):inR m l (rn r i)∧(0<i→(rn r (i-1)).Order<(rn r i).Order)∧(od l (rn r i).Order).Width≤wd m (rn r i).Loom∧(od l (rn r i).Order).Early≤(rn r i).From∧J3 l (rn r i)≤(od l (rn r i).Order).Late:=by
 unfold Xm at h
 by_cases h1:inR m l (rn r i)
 ·rw [if_neg (fun k=>k h1)] at h
  by_cases h2:0<i∧(rn r i).Order≤(rn r (i-1)).Order
  ·rw [if_pos h2] at h;cases h
  ·rw [if_neg h2] at h
   by_cases h3:(od l (rn r i).Order).Width>wd m (rn r i).Loom
   ·rw [if_pos h3] at h;cases h
   ·rw [if_neg h3] at h
    by_cases h4:(rn r i).From<(od l (rn r i).Order).Early∨J3 l (rn r i)>(od l (rn r i).Order).Late
    ·rw [if_pos h4] at h;cases h
    ·exact ⟨h1,by omega,by omega,by omega,by omega⟩
 ·rw [if_pos h1] at h;cases h
theorem F5 {m:LoomMill} {l:List Z5} {r:List Z3} (h7:r.length≤7) (h:∀ i,i<r.length→Xm m l r i=0):Vs m l r where
 r7:=h7
 inR i hi:=(Nj (h i hi)).1
 up i j hij hj:=by
  induction j with
  | zero=>omega
  | succ j ih=>
   have h1:=(Nj (h (j+1) hj)).2.1 (by omega)
   simp only [Nat.add_sub_cancel] at h1
   rcases Nat.lt_succ_iff_lt_or_eq.1 hij with h2 | rfl
   ·have:=ih h2 (by omega);omega
   ·exact h1
theorem s78 {m:LoomMill} {l:List Z5} (g:He m l) (r:List Z3) (hr:r.length≤1000):f50 ⟨m,l⟩ r=some (Vp m l r):=by
 have hl7:=g.l7
 refine Yes.eq ?_
 unfold f50 Vp
 by_cases hlen:r.length>l.length
 ·have h1:decide ((r.length:Int)>(l.length:Int))=true:=by simp;omega
  rw [if_pos hlen]
  exact Yes.jn (Yes.cond (fun _=>Yes.some rfl) (fun h=>by rw [h1] at h;cases h))
 ·have h1:decide ((r.length:Int)>(l.length:Int))=false:=by simp;omega
  rw [if_neg hlen]
  refine Yes.jn (Yes.cond (fun h=>by rw [h1] at h;cases h) (fun _=>Yes.jn (Db r.length (by omega) (fun i=>decide (Xm m l r i≠0)) (fun i=>some ((i:Int),Xm m l r i)) (fun k i hi=>?_) (fun hf k=>?_) (fun i hi hf hp=>?_))))
  ·have h2:decide ((i:Int)<(r.length:Int))=true:=by simp;omega
   simp only [jn,h2,cond_true,s93 g hi (by omega),Option.bind_some]
   by_cases h:Xm m l r i=0
   ·simp [h]
   ·have:(Xm m l r i != 0)=true:=by simp [h]
    simp [h,this]
  ·have h2:decide ((r.length:Int)<(r.length:Int))=false:=by simp
   simp only [h2,cond_false]
   rw [hf]
   have R:Vs m l r:=F5 (by omega) fun i hi=>by
    have:=List.find?_eq_none.1 hf i (List.mem_range.2 hi)
    simpa using this
   refine Yes.jn (Yes.bind ((s94 g R).mono fun s hs=>?_))
   rcases hs with ⟨rfl,h⟩ | ⟨n,rfl,hn,h⟩
   ·rw [h]
    exact Yes.cond (fun h=>by simp at h) (fun _=>Yes.some rfl)
   ·rw [h]
    exact Yes.cond (fun _=>Yes.some rfl) (fun h=>by simp at h)
  ·rw [hf]
   exact Yes.some rfl
def inB (m:LoomMill) (l:List Z5) (x:Z3):Prop:=(0≤x.Order∧x.Order<l.length)∧(0≤x.Loom∧x.Loom<m.Widths.length)∧(0≤x.From∧x.From≤1000000)
theorem endB {m:LoomMill} {l:List Z5} (g:He m l) {x:Z3} (hx:inB m l x):x.From+1≤J3 l x∧J3 l x≤x.From+100:=by
 obtain ⟨⟨a1,a2⟩,_,c1,c2⟩:=hx
 have ho:=g.o _ (Rj a1 a2)
 unfold J3;omega
theorem s73b {m:LoomMill} {l:List Z5} (g:He m l) {x:Z3} (hx:inB m l x):f31 ⟨m,l⟩ x=some (J3 l x):=by
 have hb:=endB g hx
 obtain ⟨⟨a1,a2⟩,_,c1,c2⟩:=hx
 unfold f31
 rw [Hs a1 a2,Option.bind_some]
 have:w64 (x.From+(od l x.Order).Woven)=J3 l x:=Qg (by have:J3 l x=x.From+(od l x.Order).Woven:=rfl;omega) (by have:J3 l x=x.From+(od l x.Order).Woven:=rfl;omega)
 rw [this]
theorem s69b {m:LoomMill} {l:List Z5} (g:He m l) {x:Z3} (hx:inB m l x) {o:Int} (h0:0≤o) (h1:o<l.length):f26 ⟨m,l⟩ x o=some (Ya m l x o):=by
 have hb:=endB g hx
 have hc:=g.c
 have hf:=hx.2.2
 unfold f26
 simp only [jn]
 rw [Hs hx.1.1 hx.1.2,Hs h0 h1,s73b g hx]
 simp only [Option.bind_some]
 unfold Ya
 rw [Qg (by omega) (by omega)]
 by_cases h:(od l x.Order).Chain=(od l o).Chain
 ·simp [h]
 ·have:((od l x.Order).Chain==(od l o).Chain)=false:=by simp [h]
  simp [this,h]
noncomputable def Cp (m:LoomMill) (st:LoomStop):Int:=
 if ¬ (0≤st.Loom∧st.Loom<m.Widths.length) then 7 else if ¬ (0≤st.Days.Low∧st.Days.Low≤st.Days.High∧st.Days.High≤300) then 2 else 0
noncomputable def Yq (m:LoomMill) (l:List Z5) (r:List Z3):Int:=if Jk m l≠0 then Jk m l else (Vp m l r).2
noncomputable def Hk (m:LoomMill) (l:List Z5) (r:List Z3) (st:LoomStop):Int:=if Yq m l r≠0 then Yq m l r else Cp m st
theorem s65 {m:LoomMill} {l:List Z5} {r:List Z3} {st:LoomStop} (hr:r.length≤1000):f23 m l r st=some (if Hk m l r st=0 then ⟨⟨m,l⟩,st⟩ else ⟨⟨⟨[],0⟩,[]⟩,⟨0,⟨0,0⟩⟩⟩,Hk m l r st):=by
 refine Yes.eq ?_
 unfold f23
 rw [s50]
 refine Yes.bind (Yes.some (Yes.bind (Yes.of (a:=Yq m l r) ?_ (Yes.jn ?_))))
 ·unfold Yc Yq
  by_cases hc:Jk m l=0
  ·simp [hc,s78 (Xb hc) r hr]
  ·have:(Jk m l==0)=false:=by simp [hc]
   simp [hc,this]
 by_cases hp:Yq m l r=0
 ·have hc:Jk m l=0:=by
   unfold Yq at hp
   by_cases hc:Jk m l=0
   ·exact hc
   ·rw [if_pos hc] at hp;exact hp
  have g:=Xb hc
  have hw:=g.w3
  have ho:Yc m l=(⟨m,l⟩,0):=by simp [Yc,hc]
  have h0:(Yq m l r != 0)=false:=by simp [hp]
  rw [ho]
  refine Yes.cond (fun h=>by rw [h0] at h;cases h) (fun _=>?_)
  have hb1:([st.Loom].all (btw 0 (w64 ((m.Widths.length:Int)-1))))=decide (0≤st.Loom∧st.Loom<(m.Widths.length:Int)):=by
   rw [List.all_cons,List.all_nil,Bool.and_true,Lp _ _ (by omega)]
  rw [s81 _ _ _ (by simp),hb1,s71 _ (by simp)]
  by_cases h1:0≤st.Loom∧st.Loom<(m.Widths.length:Int)
  ·by_cases h2:0≤st.Days.Low∧st.Days.Low≤st.Days.High∧st.Days.High≤300
   ·have e2:([st.Days.Low,st.Days.High].all (btw 0 300))=true:=by simp [btw];omega
    have e3:decide (st.Days.Low>st.Days.High)=false:=by simp;omega
    have hs:Hk m l r st=0:=by simp [Hk,Cp,hp,h1,h2]
    rw [hs]
    simp only [h1,e2,e3,and_self,decide_true,Bool.not_true,Option.bind_some,cond_false,if_true]
    exact Yes.some rfl
   ·have hs:Hk m l r st=2:=by unfold Hk Cp;rw [if_neg (fun h=>h hp),if_neg (fun h=>h h1),if_pos h2]
    rw [hs]
    by_cases h3:[st.Days.Low,st.Days.High].all (btw 0 300)=true
    ·have e3:decide (st.Days.Low>st.Days.High)=true:=by simp [btw] at h3;simp;omega
     simp only [h1,h3,e3,and_self,decide_true,Bool.not_true,Option.bind_some,cond_false,cond_true]
     exact Yes.some rfl
    ·simp only [Bool.not_eq_true] at h3
     simp only [h1,h3,and_self,decide_true,Bool.not_true,Bool.not_false,Option.bind_some,cond_false,cond_true]
     exact Yes.some rfl
  ·have hs:Hk m l r st=7:=by unfold Hk Cp;rw [if_neg (fun h=>h hp),if_pos h1]
   rw [hs]
   simp only [h1,decide_false,Bool.not_false,Option.bind_some,cond_true]
   exact Yes.some rfl
 ·have h0:(Yq m l r != 0)=true:=by simp [hp]
  have hs:Hk m l r st=Yq m l r:=by unfold Hk;rw [if_pos hp]
  rw [hs,if_neg hp]
  exact Yes.cond (fun _=>Yes.some rfl) (fun h=>by rw [h0] at h;cases h)
theorem Aw {m:LoomMill} {l:List Z5} {r:List Z3} {st:LoomStop} (h:Hk m l r st=0):He m l∧Vs m l r∧(0≤st.Loom∧st.Loom<m.Widths.length)∧(0≤st.Days.Low∧st.Days.Low≤st.Days.High∧st.Days.High≤300):=by
 have hp:Yq m l r=0:=by
  unfold Hk at h
  by_cases hp:Yq m l r=0
  ·exact hp
  ·rw [if_pos hp] at h;exact h
 have hs:Cp m st=0:=by unfold Hk at h;rw [if_neg (fun k=>k hp)] at h;exact h
 have hc:Jk m l=0:=by
  unfold Yq at hp
  by_cases hc:Jk m l=0
  ·exact hc
  ·rw [if_pos hc] at hp;exact hp
 have g:=Xb hc
 have hv:(Vp m l r).2=0:=by unfold Yq at hp;rw [if_neg (fun k=>k hc)] at hp;exact hp
 refine ⟨g,?_,?_⟩
 ·unfold Vp at hv
  by_cases hl:r.length>l.length
  ·rw [if_pos hl] at hv;cases hv
  ·rw [if_neg hl] at hv
   cases hf:(List.range r.length).find? (fun i=>decide (Xm m l r i≠0)) with
   | some i=>
    rw [hf] at hv
    have:=List.find?_some hf
    simp at this
    exact absurd hv this
   | none=>
    have:=g.l7
    exact F5 (by omega) fun i hi=>by
     have:=List.find?_eq_none.1 hf i (List.mem_range.2 hi)
     simpa using this
 ·unfold Cp at hs
  by_cases h1:0≤st.Loom∧st.Loom<(m.Widths.length:Int)
  ·rw [if_neg (fun k=>k h1)] at hs
   by_cases h2:0≤st.Days.Low∧st.Days.Low≤st.Days.High∧st.Days.High≤300
   ·exact ⟨h1,h2⟩
   ·rw [if_pos h2] at hs;cases hs
  ·rw [if_pos h1] at hs;cases hs
def Yx (l:List Z5) (st:LoomStop) (x:Z3):Prop:=x.From≤st.Days.High∧J3 l x>st.Days.Low
theorem s66 {m:LoomMill} {l:List Z5} (g:He m l) (st:LoomStop) {x:Z3} (hx:inB m l x):f27 ⟨⟨m,l⟩,st⟩ x=some (decide (Yx l st x)):=by
 unfold f27 Yx
 rw [s73b g hx]
 by_cases h1:x.From≤st.Days.High<;>by_cases h2:J3 l x>st.Days.Low<;>simp [h1,h2]
def L4 (p:Nat→Bool) (v:Nat→Int) (n:Nat):List Int:=((List.range n).filter p).map v
theorem I1 (p:Nat→Bool) (v:Nat→Int) (n:Nat):L4 p v (n+1)=bif p n then L4 p v n++[v n] else L4 p v n:=by
 unfold L4
 rw [List.range_succ,List.filter_append]
 cases h:p n<;>simp [h]
theorem coll_len (p:Nat→Bool) (v:Nat→Int) (n:Nat):(L4 p v n).length≤n:=by
 unfold L4
 rw [List.length_map]
 have:=List.length_filter_le p (List.range n)
 simpa using this
theorem Ip {β:Type} {Q:β→Prop} {body:(List Int × Int→Option β)→List Int × Int→Option β} (n:Nat) (hn:n<4611686018427387904) (p:Nat→Bool) (v:Nat→Int)
  (hb:∀ k (i:Nat) (s:List Int),i<n→s.length≤i→body k (s,(i:Int))=k (bif p i then s++[v i] else s,w64 ((i:Int)+1)))
  (he:∀ k,Yes (body k (L4 p v n,(n:Int))) Q):Yes (lp body big (([]:List Int),(0:Int))) Q:=by
 refine Yes.upto n (by omega) (fun i s=>s=L4 p v i) rfl (fun i s k hi hI hk=>?_) (fun s k hI=>?_)
 ·subst hI
  rw [hb k i _ hi (coll_len p v i)]
  exact hk _ (I1 p v i).symm
 ·subst hI
  exact he k
theorem apnd1 {b:Nat} {xs:List Int} {y:Int} (hb:b=8) (h:xs.length≤1000):apnd b xs [y]=some (xs++[y]):=by
 subst hb
 exact Yes.eq (Yes.apnd (by simp;omega) (by simp;omega) rfl)
theorem B8 {r:List Z3} {i j:Nat} {x:Z3} (hi:i<r.length):rn (r.set i x) j=if j=i then x else rn r j:=by
 unfold rn
 by_cases h:j=i
 ·subst h;simp [hi]
 ·have:¬ i=j:=fun e=>h e.symm
  simp [List.getElem?_set,h,this]
theorem set_rn {r:List Z3} {i:Nat} (hi:i<r.length):r.set i (rn r i)=r:=by
 have:rn r i=r[i]:=by unfold rn;simp [hi]
 rw [this];exact List.set_getElem_self _
noncomputable def Dt (m:LoomMill) (l:List Z5) (last:Option Nat) (r:List Z3) (i:Nat):Int:=
 match last with
 | none=>(rn r i).From
 | some j=>Jy (rn r i).From (Ya m l (rn r j) (rn r i).Order)
noncomputable def Dl (m:LoomMill) (l:List Z5) (st:LoomStop) (last:Option Nat) (r:List Z3) (i:Nat):Int:=
 if Yx l st {rn r i with From:=Dt m l last r i} then st.Days.High+1 else Dt m l last r i
end Go.Proofs.YtpglkdijpcgcaaaGreatDoor
