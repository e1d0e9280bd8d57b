/- Laws of plain functions, part 1. -/
import Derived.Test.YtpglkdijpcgcaaaGreatDoorYes
set_option maxRecDepth 8000
namespace Go.Proofs.YtpglkdijpcgcaaaGreatDoor
open Go.RowKit
open Classical
theorem Qj {α:Type} {Q:α→Prop} {c:Bool} {X Y:Option α} (hc:c=false) (h:Yes Y Q):Yes (bif c then X else Y) Q:=by rw [hc];exact h
theorem K4 {α:Type} {Q:α→Prop} {c:Bool} {X Y:Option α} (hc:c=true) (h:Yes X Q):Yes (bif c then X else Y) Q:=by rw [hc];exact h
theorem Tc {α β:Type} {Q:β→Prop} {x:Option α} {f:α→Option β} (a:α) (h:x=some a) (k:Yes (f a) Q):Yes (x.bind f) Q:=by rw [h];exact k
theorem Xv {α:Type} {xs:List α} {i:Nat} (h:i<xs.length):idx xs (i:Int)=some xs[i]:=by unfold idx;rw [if_pos (Int.natCast_nonneg i)];exact List.getElem?_eq_getElem h
def Ni (a b x:Int):Bool:=decide (a≤x∧x≤b)
theorem btw_iffB {a b x:Int}:Ni a b x=true↔a≤x∧x≤b:=by simp [Ni]
theorem s103B (xs:List Int) (φ:Int→Option Bool) (p:Int→Bool) (hl:xs.length<9223372036854775807) (h:∀ a∈xs,φ a=some (p a)):f81 xs φ=some (xs.any p):=
 Yes.eq (Yes.bind (Yes.mono (Jz xs φ p hl h) fun _ hr=>Yes.some (Hu hr)))
theorem Lw {a b:Int} (ha:0≤a) (hb:0<b):Kr a b=some (a % b):=by
 unfold Kr;rw [if_neg (by omega),Int.tmod_eq_emod_of_nonneg ha]
theorem pb15B:f16=some true:=by kernel_rfl
def Cv (c:Z4):Prop:=(0≤c.Day∧c.Day≤600)∧(0≤c.Loom∧c.Loom≤2)∧c.Chain=0∧c.Tie=0∧1≤c.Picks∧c.Picks≤15
theorem b98B (x a b:Int):f91 x a b=some (!Ni a b x):=by unfold f91 Ni;by_cases h1:x<a<;>by_cases h2:x>b<;>simp [h1,h2]<;>omega
theorem b69B (a b:Int) (xs:List Int) (hl:xs.length<9223372036854775807):f56 a b xs=some (xs.all (Ni a b)):=by
 unfold f56
 rw [s103B xs _ (fun x=>!Ni a b x) hl fun x _=>b98B x a b]
 simp [List.all_eq_not_any_not]
theorem s33vB {c:Z4} (h:Cv c):f32 c=some true:=by
 obtain ⟨h1,h2,h3,h4,h5⟩:=h
 have t1:∀ x y z:Int,x≤z→z≤y→(([z]:List Int).all (Ni x y))=true:=fun x y z h1 h2=>by simp [btw_iffB,h1,h2]
 refine Yes.eq ?_
 unfold f32
 refine Yes.bind (Tc _ (b69B _ _ _ (by simp)) ?_)
 rw [t1 0 65535 c.Day (by omega) (by omega)]
 refine K4 rfl (Tc _ (b69B _ _ _ (by simp)) ?_)
 rw [t1 0 15 c.Loom (by omega) (by omega)]
 refine K4 rfl (Tc _ (b69B _ _ _ (by simp)) ?_)
 rw [h3,h4]
 refine K4 rfl (Tc _ (b69B _ _ _ (by simp)) ?_)
 rw [t1 1 60 c.Picks (by omega) (by omega)]
 exact Yes.some (Yes.some rfl)
def sm6B (a b c d e f:UInt8):UInt8:=0+a+b+c+d+e+f
def pl6B (a b c d e f:UInt8):UInt8:=0+u8w 1*a+u8w 2*b+u8w 3*c+u8w 4*d+u8w 5*e+u8w 6*f
theorem s72vB (a b c d e f g h:UInt8):f57 ⟨#[a,b,c,d,e,f,g,h],rfl⟩=some (sm6B a b c d e f,pl6B a b c d e f):=by kernel_rfl
def Yr (c:Z4):List UInt8:=[u8w (c.Day / 256),u8w c.Day,u8w c.Loom,u8w c.Chain,u8w c.Tie,u8w c.Picks,sm6B (u8w (c.Day / 256)) (u8w c.Day) (u8w c.Loom) (u8w c.Chain) (u8w c.Tie) (u8w c.Picks),pl6B (u8w (c.Day / 256)) (u8w c.Day) (u8w c.Loom) (u8w c.Chain) (u8w c.Tie) (u8w c.Picks)]
def Yj (c:Z4):Vector UInt8 8:=⟨(Yr c).toArray,rfl⟩
theorem s35vB (c:Z4) (h:Cv c):f34 c=some (Yj c):=by
 refine Yes.eq ?_
 unfold f34
 have h1:Wv c.Day 8=some (c.Day / 256):=by
  unfold Wv
  rw [if_neg (by omega)]
  show some (c.Day.fdiv 256)=_
  rw [Int.fdiv_eq_ediv_of_nonneg _ (by omega)]
 exact Tc _ h1 (Tc _ (s72vB _ _ _ _ _ _ _ _) (Yes.some rfl))
theorem u8w_nB {n:Int} (h:0≤n∧n≤255):(((u8w n).toNat:Nat):Int)=n:=by
 unfold u8w
 have h1:n % 256=n:=Int.emod_eq_of_lt h.1 (by omega)
 rw [h1]
 have:(UInt8.ofNat n.toNat).toNat=n.toNat:=by simp;omega
 rw [this];omega
theorem or_allB:((List.range 601).all fun d=>Tx .or (w64 ((((u8w ((d:Int) / 256)).toNat:Nat):Int)*256)) (((u8w (d:Int)).toNat:Nat):Int)==(d:Int))=true:=by kernel_rfl
theorem or_dayB {d:Int} (h:0≤d∧d≤600):Tx .or (w64 ((((u8w (d / 256)).toNat:Nat):Int)*256)) (((u8w d).toNat:Nat):Int)=d:=by
 obtain ⟨n,rfl⟩:∃ n:Nat,d=n:=⟨d.toNat,by omega⟩
 have:=List.all_eq_true.1 or_allB n (List.mem_range.2 (by omega))
 simpa using this
theorem s68vB {c:Z4} (h:Cv c):f80 (Yj c)=some (c,0):=by
 obtain ⟨d,l,ch,t,p⟩:=c
 have hv:=s33vB h
 obtain ⟨h1,h2,h3,h4,h5⟩:=h
 simp only at h1 h2 h3 h4 h5
 subst h3 h4
 refine Yes.eq ?_
 unfold f80
 have i0:idx (Yj ⟨d,l,0,0,p⟩).toList 0=some (u8w (d / 256)):=rfl
 have i1:idx (Yj ⟨d,l,0,0,p⟩).toList 1=some (u8w d):=rfl
 have i2:idx (Yj ⟨d,l,0,0,p⟩).toList 2=some (u8w l):=rfl
 have i3:idx (Yj ⟨d,l,0,0,p⟩).toList 3=some (u8w 0):=rfl
 have i4:idx (Yj ⟨d,l,0,0,p⟩).toList 4=some (u8w 0):=rfl
 have i5:idx (Yj ⟨d,l,0,0,p⟩).toList 5=some (u8w p):=rfl
 have i6:idx (Yj ⟨d,l,0,0,p⟩).toList 6=some (sm6B (u8w (d / 256)) (u8w d) (u8w l) (u8w 0) (u8w 0) (u8w p)):=rfl
 have i7:idx (Yj ⟨d,l,0,0,p⟩).toList 7=some (pl6B (u8w (d / 256)) (u8w d) (u8w l) (u8w 0) (u8w 0) (u8w p)):=rfl
 have hs:∀ x:Int,H2 x 8=some (w64 (x*256)):=fun x=>rfl
 have h72:f57 (Yj ⟨d,l,0,0,p⟩)=some (sm6B (u8w (d / 256)) (u8w d) (u8w l) (u8w 0) (u8w 0) (u8w p),pl6B (u8w (d / 256)) (u8w d) (u8w l) (u8w 0) (u8w 0) (u8w p)):=s72vB _ _ _ _ _ _ _ _
 have e:(⟨Tx .or (w64 ((((u8w (d / 256)).toNat:Nat):Int)*256)) (((u8w d).toNat:Nat):Int),(((u8w l).toNat:Nat):Int),(((u8w 0).toNat:Nat):Int),(((u8w 0).toNat:Nat):Int),(((u8w p).toNat:Nat):Int)⟩:Z4)=⟨d,l,0,0,p⟩:=by
  rw [u8w_nB (n:=l) (by omega),u8w_nB (n:=p) (by omega),or_dayB h1];rfl
 generalize Yj ⟨d,l,0,0,p⟩=v at *
 refine Tc _ i0 (Tc _ (hs _) (Tc _ i1 (Tc _ i2 (Tc _ i3 (Tc _ i4 (Tc _ i5 (Tc _ h72 (Yes.jn ?_))))))))
 refine Yes.bind (Yes.mono (Q':=fun b=>b=false) ?_ fun b hb=>?_)
 ·exact Tc _ i6 (Qj (by simp) (Tc _ i7 (Yes.some (by simp))))
 ·subst hb
  refine Qj rfl ?_
  rw [e]
  exact Tc _ hv (Qj rfl (Yes.some rfl))
theorem Rd {x y:Int} (h:x<y):f54 x y=some (-1):=by
 unfold f54 f90 jn
 simp [h,Int.not_lt.2 (Int.le_of_lt h)]
theorem S6 {x y:Int} (h:y<x):f54 x y=some 1:=by
 unfold f54 f90 jn
 simp [h,Int.not_lt.2 (Int.le_of_lt h)]
theorem Bm (x:Int):f54 x x=some 0:=by
 unfold f54 f90 jn
 simp
theorem C8 (x y:Int):∃ z,f54 x y=some z:=by
 rcases Int.lt_trichotomy x y with h | h | h
 ·exact ⟨_,Rd h⟩
 ·exact ⟨0,by subst h;exact Bm x⟩
 ·exact ⟨_,S6 h⟩
theorem s70_mB (z:Int):f53 [-1,z]=some (-1):=by kernel_rfl
theorem s70_pB (z:Int):f53 [1,z]=some 1:=by kernel_rfl
theorem On {a b:Z4} (h:a.Day<b.Day):f33 a b=some (-1):=by
 obtain ⟨z,hz⟩:=C8 a.Loom b.Loom
 refine Yes.eq ?_
 unfold f33
 exact Tc _ (Rd h) (Tc _ hz (Tc _ (s70_mB z) (Yes.some rfl)))
theorem Oe {a b:Z4} (h:b.Day<a.Day):f33 a b=some 1:=by
 obtain ⟨z,hz⟩:=C8 a.Loom b.Loom
 refine Yes.eq ?_
 unfold f33
 exact Tc _ (S6 h) (Tc _ hz (Tc _ (s70_pB z) (Yes.some rfl)))
theorem Xj (c:Z4):(Yr c).length=8:=rfl
theorem B6 (l:List Z4):((l.map Yr).flatten).length=8*l.length:=by
 induction l with
 | nil=>rfl
 | cons c l ih=>simp only [List.map_cons,List.flatten_cons,List.length_append,ih,Xj,List.length_cons];omega
theorem flat8B:∀ (L:List (List UInt8)) (i:Nat),(∀ r∈L,r.length=8)→(hi:i<L.length)→(L.flatten.take (8*i+8)).drop (8*i)=L[i]
 | [],_,_,hi=>absurd hi (by simp)
 | r::L,0,h,_=>by
  have h8:=h r (by simp)
  rw [List.flatten_cons,List.take_append_of_le_length (by omega),List.take_of_length_le (by omega)]
  rfl
 | r::L,i+1,h,hi=>by
  have h8:=h r (by simp)
  have ih:=flat8B L i (fun x hxB=>h x (by simp [hxB])) (by simpa using hi)
  rw [List.flatten_cons,show 8*(i+1)+8=r.length+(8*i+8) by omega,List.take_append,List.take_of_length_le (by omega),show r.length+(8*i+8)-r.length=8*i+8 by omega,show 8*(i+1)=r.length+8*i by omega,List.drop_append,List.drop_of_length_le (by omega),show r.length+8*i-r.length=8*i by omega,List.nil_append,ih]
  rfl
theorem Cc:∀ (L:List (List UInt8)),(∀ r∈L,r.length=8)→L.flatten.length=8*L.length
 | [],_=>rfl
 | r::L,h=>by
  have h8:=h r (by simp)
  have ih:=Cc L (fun x hxB=>h x (by simp [hxB]))
  rw [List.flatten_cons,List.length_append,ih,List.length_cons];omega
theorem s133vB {σ:Type} {L:List (List UInt8)} (h8:∀ r∈L,r.length=8) (hL:L.length≤1000) {cons:U9 σ (List UInt8)} {s:σ} (I:Nat→σ→Prop) (h0:I 0 s)
  (step:∀ i s (hi:i<L.length),I i s→Yes (cons s L[i]) fun r=>r.1=true∧I (i+1) r.2):Yes (f164 L.flatten 8 σ cons s) fun s=>I L.length s:=by
 have hl:=Cc L h8
 unfold f164
 refine Yes.lp (fun st=>∃ i:Nat,st.2=((8*i:Nat):Int)∧i≤L.length∧I i st.1) (fun st=>8*L.length-st.2.toNat) ⟨0,rfl,Nat.zero_le _,h0⟩ (by simp;omega) ?_
 rintro ⟨st,j⟩ k ⟨i,hj,hi,hI⟩ hk
 simp only at hj hI
 subst hj
 refine Yes.jn ?_
 by_cases hlt:i<L.length
 ·refine K4 (decide_eq_true (by omega)) (Yes.jn ?_)
  have c1:cut L.flatten ((8*i:Nat):Int) (L.flatten.length:Int)=some (L.flatten.drop (8*i)):=by
   unfold cut
   rw [if_pos ⟨by omega,by omega,by omega⟩,Int.toNat_natCast,Int.toNat_natCast,List.take_length]
  have hm:J2 8 ((L.flatten.drop (8*i)).length:Int)=8:=by
   unfold J2
   rw [List.length_drop,if_neg (by omega)]
  have c2:cut L.flatten ((8*i:Nat):Int) (w64 (((8*i:Nat):Int)+8))=some L[i]:=by
   rw [Qg (by omega) (by omega)]
   unfold cut
   rw [if_pos ⟨by omega,by omega,by omega⟩]
   have:=flat8B L i h8 hlt
   rw [← this]
   congr 1
  refine Tc _ c1 ?_
  rw [hm]
  refine Tc _ c2 (Yes.bind ((step i st hlt hI).mono fun r hr=>?_))
  obtain ⟨b,st'⟩:=r
  obtain ⟨hb,hI'⟩:=hr
  simp only at hb hI'
  subst hb
  refine Qj rfl (hk _ ⟨i+1,?_,hlt,hI'⟩ ?_)
  ·show w64 (((8*i:Nat):Int)+8)=_
   rw [Qg (by omega) (by omega)];omega
  ·show 8*L.length-(w64 (((8*i:Nat):Int)+8)).toNat<8*L.length-(((8*i:Nat):Int)).toNat
   rw [Qg (by omega) (by omega)];omega
 ·obtain rfl:i=L.length:=by omega
  exact Qj (decide_eq_false (by omega)) (Yes.some hI)
theorem s107vB {σ:Type} {L:List (List UInt8)} (h8:∀ r∈L,r.length=8) (hL:L.length≤1000) {cons:U9 σ (Vector UInt8 8)} {s:σ} (I:Nat→σ→Prop) (h0:I 0 s)
  (step:∀ i s (hi:i<L.length) (v:Vector UInt8 8),v.toList=L[i]→I i s→Yes (cons s v) fun r=>r.1=true∧I (i+1) r.2):Yes (f135 L.flatten σ cons s) fun s=>I L.length s:=by
 unfold f135
 have h108:f136 L.flatten 8=some (fun σ cons s=>f164 L.flatten 8 σ cons s):=rfl
 rw [h108]
 simp only [Option.bind_some]
 refine (Yes.bind (Yes.mono (s133vB h8 hL (fun i st=>st.1=0∧I i st.2) ⟨rfl,h0⟩ fun i st hi hI=>?_) fun r hr=>?_))
 ·obtain ⟨n,st⟩:=st
  obtain ⟨hn,hI⟩:=hI
  simp only at hn hI
  subst hn
  have h8i:=h8 L[i] (List.getElem_mem hi)
  have hv:F9 8 L[i]=some ⟨(L[i].take 8).toArray,by simp [h8i]⟩:=by unfold F9;rw [dif_pos ⟨by omega,by omega⟩]
  show Yes ((F9 8 L[i]).bind _) _
  refine Tc _ hv (Yes.bind ((step i st hi _ ?_ hI).mono fun r hr=>?_))
  ·show (L[i].take 8)=L[i]
   rw [List.take_of_length_le (by omega)]
  ·obtain ⟨b,st'⟩:=r
   obtain ⟨hb,hI'⟩:=hr
   simp only at hb hI'
   subst hb
   exact Qj rfl (Yes.some ⟨rfl,rfl,hI'⟩)
 ·obtain ⟨n,st⟩:=r
  obtain ⟨hn,hI⟩:=hr
  simp only at hn hI
  subst hn
  exact K4 rfl (Yes.some hI)
section
variable {α:Type} (key:α→Int)
variable {key}
theorem wu64_idB {n:Int} (h1:0≤n) (h2:n≤18446744073709551615):T9 n=n:=by
 unfold T9;rw [IntKind.wrap_u64];omega
theorem Ly {κ ν:Type} [DecidableEq κ] {m:List (κ × ν)} {k k':κ} {v:ν} (h:k≠k'):Qo (H4 m k v) k'=Qo m k':=by
 induction m with
 | nil=>simp [H4,Qo,h]
 | cons p m ih=>
  unfold H4
  by_cases hp:p.1=k
  ·rw [if_pos hp]
   have:p.1≠k':=fun h2=>h (hp▸h2)
   simp [Qo,h,this]
  ·rw [if_neg hp]
   by_cases hq:p.1=k'
   ·simp [Qo,hq]
   ·simp only [Qo,List.find?_cons,hq,decide_false] at ih ⊢
    exact ih
def Hj (c:Z4):Int:=16*c.Day+c.Loom
theorem Ex {z:Int} (h:z=-1∨z=0∨z=1):f53 [0,z]=some z:=by
 rcases h with rfl | rfl | rfl<;>kernel_rfl
theorem s34kB {a b:Z4} (ha:Cv a) (hb:Cv b):∃ c,f33 a b=some c∧(c<0↔Hj a<Hj b):=by
 have h1:=ha.2.1
 have h2:=hb.2.1
 unfold Hj
 rcases Int.lt_trichotomy a.Day b.Day with h | h | h
 ·exact ⟨_,On h,by omega⟩
 ·have hz:∃ z,f54 a.Loom b.Loom=some z∧(z=-1∨z=0∨z=1)∧(z<0↔a.Loom<b.Loom):=by
   rcases Int.lt_trichotomy a.Loom b.Loom with g | g | g
   ·exact ⟨_,Rd g,by omega,by omega⟩
   ·exact ⟨0,by rw [g];exact Bm _,by omega,by omega⟩
   ·exact ⟨_,S6 g,by omega,by omega⟩
  obtain ⟨z,z1,z2,z3⟩:=hz
  refine ⟨z,?_,by omega⟩
  refine Yes.eq ?_
  unfold f33
  refine Tc 0 (by rw [h];exact Bm _) (Tc _ z1 (Tc _ (Ex z2) (Yes.some rfl)))
 ·exact ⟨_,Oe h,by omega⟩
def Bz (l:List Z4):Prop:=l.length≤72∧l.Pairwise (fun a b=>Hj a<Hj b)∧∀ c∈l,Cv c
theorem Bz.lt {l:List Z4} (h:Bz l) {i j:Nat} (hij:i<j) (hj:j<l.length):Hj (l[i]'(by omega))<Hj (l[j]'hj):=List.pairwise_iff_getElem.1 h.2.1 i j (by omega) hj hij
theorem Bz.ord {l:List Z4} (h:Bz l) {i j:Nat} (hij:i<j) (hj:j<l.length):∃ c,f33 (l[i]'(by omega)) (l[j]'hj)=some c∧c<0:=by
 obtain ⟨c,h1,h2⟩:=s34kB (h.2.2 (l[i]'(by omega)) (List.getElem_mem _)) (h.2.2 l[j] (List.getElem_mem _))
 exact ⟨c,h1,h2.2 (h.lt hij hj)⟩
theorem s17kB {l:List Z4} (h:Bz l):f12 l=some ((l.map Yr).flatten,0,0):=by
 have h12:=h.1
 refine Yes.eq ?_
 unfold f12
 refine Yes.jn (Qj (decide_eq_false (by omega)) (Yes.jn ?_))
 refine Yes.upto l.length (by omega) (fun i zs=>zs=((l.take i).map Yr).flatten) (by simp) (fun i zs k hi hI hk=>?_) (fun zs k hI=>?_)
 ·have hc:=h.2.2 l[i] (List.getElem_mem hi)
  refine K4 (decide_eq_true (by omega)) (Yes.jn (Tc _ (Xv hi) (Yes.jn (Tc _ (s33vB hc) (Qj rfl ?_)))))
  refine Yes.bind (Yes.mono (Q':=fun b=>b=false) ?_ fun b hb=>?_)
  ·refine Yes.cond (fun h0=>?_) (fun _=>Yes.some rfl)
   have h0:=of_decide_eq_true h0
   rw [Qg (by omega) (by omega),show ((i:Int)-1)=((i-1:Nat):Int) by omega]
   obtain ⟨q,q1,q2⟩:=h.ord (i:=i-1) (j:=i) (by omega) hi
   exact Tc _ (Xv (by omega)) (Tc _ q1 (Yes.some (decide_eq_false (by omega))))
  ·subst hb
   refine Qj rfl (Tc _ (s35vB _ hc) (Tc _ (show cut (Yj l[i]).toList 0 ((8:Nat):Int)=some (Yr l[i]) from rfl) (Yes.bind (Yes.apnd ?_ ?_ (hk _ ?_)))))
   ·subst hI
    rw [B6,Xj,List.length_take]
    omega
   ·subst hI
    rw [B6,Xj,List.length_take]
    omega
   ·subst hI
    rw [List.take_succ_eq_append_getElem hi,List.map_append,List.flatten_append]
    simp only [List.map_cons,List.map_nil,List.flatten_cons,List.flatten_nil,List.append_nil]
 ·subst hI
  refine Qj (decide_eq_false (by omega)) ?_
  rw [List.take_length]
  exact Yes.some rfl
theorem s47kB {l:List Z4} (h:Bz l):f69 (l.map Yr).flatten=some (l,0,0):=by
 have h12:=h.1
 have hfl:=B6 l
 refine Yes.eq ?_
 unfold f69
 refine Yes.jn (Qj (decide_eq_false (by omega)) (Tc _ (Lw (by omega) (by omega)) (Qj ?_ (Yes.jn ?_))))
 ·have:((l.map Yr).flatten.length:Int) % 8=0:=by omega
  rw [this];rfl
 have h83:f102 (l.map Yr).flatten=some (fun σ cons s=>f135 (l.map Yr).flatten σ cons s):=rfl
 rw [h83]
 simp only [Option.bind_some]
 refine Yes.bind (Yes.mono (s107vB (L:=l.map Yr) (fun r hr=>?_) (by simp;omega) (fun i st=>st.1=0∧st.2=(l.take i,0,0)) ⟨rfl,by simp⟩ fun i st hi v hv hI=>?_) fun r hr=>?_)
 ·obtain ⟨c,_,rfl⟩:=List.mem_map.1 hr
  exact Xj c
 ·obtain ⟨n,st⟩:=st
  obtain ⟨hn,hI⟩:=hI
  simp only at hn hI
  subst hn hI
  have hi':i<l.length:=by simpa using hi
  have hc:=h.2.2 l[i] (List.getElem_mem hi')
  have hv':v=Yj l[i]:=by
   apply Vector.toList_inj.1
   rw [hv,List.getElem_map];rfl
  subst hv'
  show Yes ((f80 (Yj l[i])).bind _) _
  refine Tc _ (s68vB hc) (Yes.bind (Yes.mono (Q':=fun e=>e=0) ?_ fun e he=>?_))
  ·refine Yes.bind (Yes.mono (Q':=fun b=>b=false) ?_ fun b hb=>?_)
   ·refine K4 rfl (Yes.cond (fun h0=>?_) (fun _=>Yes.some rfl))
    have h0:=of_decide_eq_true h0
    have hti:(l.take i).length=i:=by rw [List.length_take];omega
    rw [hti] at h0 ⊢
    rw [Qg (by omega) (by omega),show ((i:Int)-1)=((i-1:Nat):Int) by omega]
    refine Tc _ (Xv (show i-1<(l.take i).length by omega)) ?_
    rw [List.getElem_take]
    obtain ⟨q,q1,q2⟩:=h.ord (i:=i-1) (j:=i) (by omega) hi'
    exact Tc _ q1 (Yes.some (decide_eq_false (by omega)))
   ·subst hb
    exact Qj rfl (Yes.some rfl)
  ·subst he
   refine Yes.jn (Qj rfl (Yes.bind (Yes.apnd (by rw [List.length_take];simp;omega) (by rw [List.length_take];simp;omega) (Yes.some ⟨rfl,rfl,?_⟩))))
   rw [List.take_succ_eq_append_getElem hi']
 ·obtain ⟨n,st⟩:=r
  obtain ⟨hn,hst⟩:=hr
  simp only at hn hst
  subst hn hst
  rw [List.length_map,List.take_length]
  exact K4 rfl (Yes.some rfl)
theorem Bl:∀ {xs ys:List Z4},xs.Pairwise (fun c d=>Hj c<Hj d)→ys.Pairwise (fun c d=>Hj c<Hj d)→(∀ c,c∈xs↔c∈ys)→xs=ys
 | [],[],_,_,_=>rfl
 | [],y::ys,_,_,h=>absurd ((h y).2 (by simp)) (by simp)
 | x::xs,[],_,_,h=>absurd ((h x).1 (by simp)) (by simp)
 | x::xs,y::ys,h1,h2,h=>by
  obtain ⟨p1,p2⟩:=List.pairwise_cons.1 h1
  obtain ⟨q1,q2⟩:=List.pairwise_cons.1 h2
  have hxy:x=y:=by
   rcases List.mem_cons.1 ((h x).1 (by simp)) with e | e
   ·exact e
   ·rcases List.mem_cons.1 ((h y).2 (by simp)) with e2 | e2
    ·exact e2.symm
    ·have:=q1 x e;have:=p1 y e2;omega
  subst hxy
  rw [Bl p2 q2 fun c=>⟨fun hc=>?_,fun hc=>?_⟩]
  ·rcases List.mem_cons.1 ((h c).1 (by simp [hc])) with e | e
   ·subst e;have:=p1 c hc;omega
   ·exact e
  ·rcases List.mem_cons.1 ((h c).2 (by simp [hc])) with e | e
   ·subst e;have:=q1 c hc;omega
   ·exact e
theorem L1 {κ ν:Type} [DecidableEq κ] {m:List (κ × ν)} {k:κ} {v:ν}:Qo (H4 m k v) k=some v:=by
 induction m with
 | nil=>simp [H4,Qo]
 | cons p m ih=>
  unfold H4
  by_cases hp:p.1=k
  ·rw [if_pos hp];simp [Qo]
  ·rw [if_neg hp]
   simp only [Qo,List.find?_cons,hp,decide_false] at ih ⊢
   exact ih
theorem Dh:∀ {zs y:List Z4},zs.Nodup→(∀ c∈zs,c∈y)→zs.length≤y.length
 | [],_,_,_=>Nat.zero_le _
 | c::zs,y,h,hs=>by
  obtain ⟨h1,h2⟩:=List.nodup_cons.1 h
  have hc:=hs c (by simp)
  have ih:=Dh (y:=y.erase c) h2 fun d hd=>(List.mem_erase_of_ne (fun (e:d=c)=>h1 (by rw [← e];exact hd))).2 (hs d (List.mem_cons_of_mem _ hd))
  rw [List.length_erase_of_mem hc] at ih
  have:0<y.length:=List.length_pos_of_mem hc
  rw [List.length_cons];omega
theorem Bz.inj {y:List Z4} (h:Bz y) {a b:Z4} (ha:a∈y) (hb:b∈y) (he:Hj a=Hj b):a=b:=by
 obtain ⟨i,hi,rfl⟩:=List.getElem_of_mem ha
 obtain ⟨j,hj,rfl⟩:=List.getElem_of_mem hb
 rcases Nat.lt_trichotomy i j with e | e | e
 ·have:=h.lt e hj;omega
 ·subst e;rfl
 ·have:=h.lt e hi;omega
def JnB (y zs:List Z4) (mp:List (Tf × Z4)):Prop:=zs.Nodup∧(∀ c∈zs,c∈y)∧∀ sp c,Qo mp sp=some c↔c∈zs∧sp=(⟨c.Day,c.Loom⟩:Tf)
theorem Q1 {α:Type} {Q:α→Prop} {c:Bool} {X Y:Option α} (hc:c=false) (h:Yes Y Q):Yes (bif c then X else Y) Q:=by rw [hc];exact h
theorem Bc {α:Type} {Q:α→Prop} {c:Bool} {X Y:Option α} (hc:c=true) (h:Yes X Q):Yes (bif c then X else Y) Q:=by rw [hc];exact h
theorem Qp {α β:Type} {Q:β→Prop} {x:Option α} {f:α→Option β} (a:α) (h:x=some a) (k:Yes (f a) Q):Yes (x.bind f) Q:=by rw [h];exact k
theorem Ca {α:Type} {xs:List α} {i:Nat} (h:i<xs.length):idx xs (i:Int)=some xs[i]:=by unfold idx;rw [if_pos (Int.natCast_nonneg i)];exact List.getElem?_eq_getElem h
theorem Jw {α:Type} {xs:List α} {i:Nat} (h:i<xs.length):xs.take (i+1)=xs.take i++[xs[i]]:=by
 rw [List.take_add_one,List.getElem?_eq_getElem h];rfl
def Vg (a b x:Int):Bool:=decide (a≤x∧x≤b)
theorem B7 {a b x:Int}:Vg a b x=true↔a≤x∧x≤b:=by simp [Vg]
theorem Mr (xs:List Int) (φ:Int→Option Bool) (p:Int→Bool) (hl:xs.length<9223372036854775807) (h:∀ a∈xs,φ a=some (p a)):f81 xs φ=some (xs.any p):=
 Yes.eq (Yes.bind (Yes.mono (Jz xs φ p hl h) fun _ hr=>Yes.some (Hu hr)))
theorem c250zB (xs:List Gi) (φ:Gi→Option Bool) (p:Gi→Bool) (hl:xs.length<9223372036854775807) (h:∀ a∈xs,φ a=some (p a)):f161 xs φ=some (xs.any p):=
 Yes.eq (Yes.bind (Yes.mono (Jz xs φ p hl h) fun _ hr=>Yes.some (Hu hr)))
theorem b192zB (x a b:Int):f145 x a b=some (!Vg a b x):=by unfold f145 Vg;by_cases h1:x<a<;>by_cases h2:x>b<;>simp [h1,h2]<;>omega
theorem Cm (a b:Int) (xs:List Int) (hl:xs.length<9223372036854775807) (h:∀ x∈xs,a≤x∧x≤b):f104 a b xs=some true:=by
 unfold f104
 rw [Mr xs _ (fun x=>!Vg a b x) hl fun x _=>b192zB x a b]
 simp only [Option.bind_some,Option.some.injEq,Bool.not_eq_true',List.any_eq_false]
 exact fun x hxB=>by rw [B7.2 (h x hxB)];simp
theorem b179zB (x a b:Int):f169 x a b=some (!Vg a b x):=by unfold f169 Vg;by_cases h1:x<a<;>by_cases h2:x>b<;>simp [h1,h2]<;>omega
theorem c103zB (a b:Int) (xs:List Int) (hl:xs.length<9223372036854775807) (h:∀ x∈xs,a≤x∧x≤b):f149 a b xs=some true:=by
 unfold f149
 rw [Mr xs _ (fun x=>!Vg a b x) hl fun x _=>b179zB x a b]
 simp only [Option.bind_some,Option.some.injEq,Bool.not_eq_true',List.any_eq_false]
 exact fun x hxB=>by rw [B7.2 (h x hxB)];simp
theorem b241zB (x a b:Int):f128 x a b=some (!Vg a b x):=by unfold f128 Vg;by_cases h1:x<a<;>by_cases h2:x>b<;>simp [h1,h2]<;>omega
theorem Ek (a b:Int) (xs:List Int) (hl:xs.length<9223372036854775807) (h:∀ x∈xs,a≤x∧x≤b):f92 a b xs=some true:=by
 unfold f92
 rw [Mr xs _ (fun x=>!Vg a b x) hl fun x _=>b241zB x a b]
 simp only [Option.bind_some,Option.some.injEq,Bool.not_eq_true',List.any_eq_false]
 exact fun x hxB=>by rw [B7.2 (h x hxB)];simp
theorem Vl {n:Nat} (h:n≤24):H2 (1:Int) (n:Int)=some ((2 ^ n:Nat):Int):=by
 unfold H2
 rw [if_neg (by omega),Int.toNat_natCast,show min n 64=n by omega]
 have h1:2 ^ n≤16777216:=Nat.pow_le_pow_right (n:=2) (by omega) h
 have h2:(1:Int)*2 ^ n=((2 ^ n:Nat):Int):=by rw [Int.one_mul];norm_cast
 rw [h2]
 generalize 2 ^ n=b at h1 ⊢
 rw [Qg (by omega) (by omega)]
theorem Xd {H:Nat} (h:H≤12):1≤2 ^ H∧2 ^ H≤4096:=⟨Nat.one_le_two_pow,Nat.pow_le_pow_right (n:=2) (by omega) h⟩
def Nv (H:Nat) (h:TieHarness):Prop:=h.Hooks=H∧(1≤h.Warps.length∧h.Warps.length≤96)∧∀ a∈h.Warps,0≤a∧a≤(H:Int)-1
def DOkzB (H:Nat) (d:Design):Prop:=d.Hooks=H∧(1≤d.Rows.length∧d.Rows.length≤30)∧∀ r∈d.Rows,0≤r∧r<((2 ^ H:Nat):Int)
theorem c105zB {H:Nat} {h:TieHarness} (hH:1≤H∧H≤12) (hkz:Nv H h):f59 h=some 0:=by
 obtain ⟨k1,k2,k3⟩:=hkz
 refine Yes.eq ?_
 unfold f59
 refine Yes.jn (Qp true (Ek _ _ _ (by simp) fun a ha=>by rw [List.mem_singleton.1 ha,k1];omega) (Q1 rfl (Q1 (decide_eq_false (by omega)) (Q1 (beq_eq_false_iff_ne.2 (by omega)) (Qp true (Ek _ _ _ (by omega) fun a ha=>?_) (Q1 rfl (Yes.some rfl)))))))
 rw [k1,Qg (by omega) (by omega)];exact k3 a ha
theorem c102zB {H:Nat} {d:Design} (hH:1≤H∧H≤12) (hd:DOkzB H d):f108 d=some 0:=by
 obtain ⟨k1,k2,k3⟩:=hd
 have hp:=Xd hH.2
 refine Yes.eq ?_
 unfold f108
 refine Yes.jn (Qp true (c103zB _ _ _ (by simp) fun a ha=>by rw [List.mem_singleton.1 ha,k1];omega) (Q1 rfl (Q1 (decide_eq_false (by omega)) (Q1 (beq_eq_false_iff_ne.2 (by omega)) ?_))))
 rw [k1]
 refine Qp _ (Vl (by omega)) (Qp true (c103zB _ _ _ (by omega) fun a ha=>?_) (Q1 rfl (Yes.some rfl)))
 rw [Qg (by omega) (by omega)]
 have:=k3 a ha
 omega
def Kh (rs:List Int):List Gi:=rs.mapIdx fun i r=>⟨i,r,false⟩
theorem Jp (rs:List Int):(Kh rs).length=rs.length:=by simp [Kh]
theorem R8 {rs:List Int} {i:Nat} (h:i<(Kh rs).length) (h':i<rs.length):(Kh rs)[i]=⟨i,rs[i],false⟩:=by simp [Kh]
theorem c109zB {H:Nat} (h:1≤H∧H≤12):f129 (H:Int)=some true:=by
 unfold f129
 rw [Cm _ _ _ (by simp) fun a ha=>by rw [List.mem_singleton.1 ha];omega]
 rfl
theorem c110zB {H:Nat} (h:1≤H∧H≤12) {xs:List Int} (hl:xs.length≤1000) (hxB:∀ r∈xs,0≤r∧r<((2 ^ H:Nat):Int)):f160 (H:Int) xs=some true:=by
 have hp:=Xd h.2
 refine Yes.eq ?_
 unfold f160
 refine Qp _ (Vl (by omega)) (Qp true (Cm _ _ _ (by omega) fun a ha=>?_) (Yes.some rfl))
 rw [Qg (by omega) (by omega)]
 have:=hxB a ha
 omega
def Oz (H:Nat) (b:ChainBelt):Prop:=b.Hooks=H∧(1≤b.Cards.length∧b.Cards.length≤12)∧∀ c∈b.Cards,(0≤c.Number∧c.Number≤59)∧0≤c.Row∧c.Row<((2 ^ H:Nat):Int)
theorem E9 {H:Nat} (hH:1≤H∧H≤12) {b:ChainBelt} (h:Oz H b):f93 b=some (⟨b,b.Hooks⟩,0):=by
 obtain ⟨h1,h2,h3⟩:=h
 refine Yes.eq ?_
 unfold f93
 have t1:∀ x y z:Int,x≤z→z≤y→∀ a∈([z]:List Int),x≤a∧a≤y:=fun x y z h1 h2 a ha=>by rw [List.mem_singleton.1 ha];exact ⟨h1,h2⟩
 have h249:∀ c∈b.Cards,f159 c (H:Int)=some false:=fun c hc=>by
  have hc:=h3 c hc
  refine Yes.eq ?_
  unfold f159
  refine Yes.bind (Qp true (Cm _ _ _ (by simp) (t1 _ _ _ (by omega) (by omega))) (Q1 rfl (Qp true (c110zB hH (by simp) fun r hr=>?_) (Yes.some (Yes.some rfl)))))
  rw [List.mem_singleton.1 hr];exact hc.2
 have h191:f130 (H:Int) b.Cards=some true:=by
  refine Yes.eq ?_
  unfold f130
  refine Yes.bind (Bc (decide_eq_true (by omega)) (Qp _ (c250zB b.Cards _ (fun _=>false) (by omega) h249) (Yes.some (Yes.some ?_))))
  simp
 refine Yes.jn (Qp true (by rw [h1];exact c109zB hH) (Q1 rfl (Q1 (decide_eq_false (by omega)) (Qp true (by rw [h1];exact h191) (Q1 rfl (Yes.some rfl))))))
theorem Lr:(2:Nat) ^ 62=4611686018427387904:=by decide
theorem Xy {a:Nat} (ha:a<2 ^ 62):(BitVec.ofInt 64 (a:Int)).toNat=a:=by
 rw [BitVec.ofInt_natCast,BitVec.toNat_ofNat]
 exact Nat.mod_eq_of_lt (by rw [Lr] at ha;omega)
theorem and64zB {a b:Nat} (ha:a<2 ^ 62) (hb:b<2 ^ 62):Tx .and a b=((a &&& b:Nat):Int):=by
 have hxB:a &&& b<2 ^ 62:=Nat.and_lt_two_pow a hb
 unfold Tx
 simp only [BitVec.toNat_and,Xy ha,Xy hb]
 rw [Lr] at hxB
 exact Qg (by omega) (by omega)
theorem Iy {a h:Nat} (hh:h<62):Wv (a:Int) (h:Int)=some ((a >>> h:Nat):Int):=by
 unfold Wv
 rw [if_neg (by omega),show min (h:Int).toNat 64=h by simp;omega]
 congr 1
 rw [show ((2:Int) ^ h)=((2 ^ h:Nat):Int) by simp,Nat.shiftRight_eq_div_pow]
 generalize 2 ^ h=q
 rw [Int.fdiv_eq_ediv_of_nonneg _ (by omega)]
 exact (Int.natCast_ediv a q).symm
theorem Ib (a:Nat):(((a &&& 1:Nat):Int)==(1:Int))=a.testBit 0:=by
 rw [Bool.eq_iff_iff,Nat.and_one_is_mod]
 simp [Nat.testBit_zero]
 omega
def Fm (r k:Int):Bool:=r.toNat.testBit k.toNat
theorem Ng {r k:Int} (hr:0≤r∧r<4096) (hkz:0≤k∧k<62):∃ y,Wv r k=some y∧(Tx .and y 1==(1:Int))=Fm r k:=by
 obtain ⟨a,rfl⟩:=Int.eq_ofNat_of_zero_le hr.1
 obtain ⟨h,rfl⟩:=Int.eq_ofNat_of_zero_le hkz.1
 refine ⟨_,Iy (by omega),?_⟩
 have hs:a >>> h<2 ^ 62:=Nat.lt_of_le_of_lt (Nat.shiftRight_le a _) (by rw [Lr];omega)
 rw [show (1:Int)=((1:Nat):Int) from rfl,and64zB hs (by decide)]
 show (((a >>> h &&& 1:Nat):Int)==(1:Int))=_
 rw [Ib,Nat.testBit_shiftRight,Nat.add_zero]
 rfl
def Eu (b:Bool):UInt8:=if b then 120 else 46
def lnzB (W:List Int) (r:Int):Str:=⟨W.map fun k=>Eu (Fm r k)⟩
def Mv (W:List Int) (rows:List Int):List Str:=rows.map (lnzB W)
theorem g53zB {H:Nat} {h:TieHarness} {r:Int} (hH:H≤12) (hkz:Nv H h) (hr:0≤r∧r<4096):f109 ⟨h⟩ r=some (lnzB h.Warps r):=by
 obtain ⟨k1,k2,k3⟩:=hkz
 refine Yes.eq ?_
 unfold f109
 refine Yes.bind (Yes.mono (Q':=fun s=>s=h.Warps.map fun k=>Eu (Fm r k)) ?_ fun s hs=>?_)
 ·refine Yes.upto h.Warps.length (by omega) (fun i s=>s=(h.Warps.take i).map fun k=>Eu (Fm r k)) rfl (fun i s k hi hI hkz=>?_) (fun s k hI=>?_)
  ·have hl:s.length=i:=by rw [hI];simp;omega
   obtain ⟨y,hy,hyb⟩:=Ng hr (k:=h.Warps[i]) (by have:=k3 _ (List.getElem_mem hi);omega)
   refine Bc (decide_eq_true (by show (i:Int)<(h.Warps.length:Int);omega)) (Yes.bind (Yes.bind (Yes.mono (Q':=fun b=>b=Fm r h.Warps[i]) ?_ fun b hb=>Yes.bind (Yes.mono (Q':=fun c=>c=Eu b) ?_ fun c hc=>Yes.bind (Yes.apnd (by rw [hl];simp;omega) (by rw [hl];simp;omega) (Yes.some (hkz _ ?_)))))))
   ·unfold f151
    exact Qp _ (Ca hi) (Qp _ hy (Yes.some hyb))
   ·unfold f150
    cases b
    ·exact Yes.jn (Q1 rfl (Yes.some rfl))
    ·exact Yes.jn (Bc rfl (Yes.some rfl))
   ·rw [hI,Jw hi,List.map_append,hc,hb];rfl
  ·exact Q1 (decide_eq_false (by show ¬ (h.Warps.length:Int)<(h.Warps.length:Int);omega)) (Yes.some (by rw [hI,List.take_length]))
 ·subst hs
  have:Fb (h.Warps.map fun k=>Eu (Fm r k))=some (lnzB h.Warps r):=by
   unfold Fb
   rw [if_neg fun e=>by have:=congrArg List.length e;rw [List.length_map,List.length_nil] at this;omega]
   rfl
  exact Qp _ this (Yes.some rfl)
theorem g15zB {H:Nat} {h:TieHarness} {d:Design} (hH:1≤H∧H≤12) (hkz:Nv H h) (hd:DOkzB H d):f73 h d=some (Mv h.Warps d.Rows,0):=by
 have h12:=hd.2.1
 have hp:=Xd hH.2
 refine Yes.eq ?_
 unfold f73
 refine Yes.jn (Qp _ (c105zB hH hkz) (Q1 rfl (Yes.jn (Qp _ (c102zB hH hd) (Q1 rfl (Q1 ?_ ?_))))))
 ·rw [hd.1,hkz.1];simp
 ·refine Yes.bind (Yes.mono (Q':=fun s=>s=Mv h.Warps d.Rows) ?_ fun s hs=>Yes.some (by rw [hs]))
  refine Yes.upto d.Rows.length (by omega) (fun i s=>s=Mv h.Warps (d.Rows.take i)) rfl (fun i s k hi hI hk2=>?_) (fun s k hI=>Q1 (decide_eq_false (by omega)) (Yes.some (by rw [hI,List.take_length])))
  have hl:s.length=i:=by rw [hI];simp [Mv];omega
  have hr:=hd.2.2 _ (List.getElem_mem hi)
  refine Bc (decide_eq_true (by omega)) (Yes.bind (Qp _ (Ca hi) (Qp _ (g53zB hH.2 hkz (by omega)) (Yes.bind (Yes.apnd (by rw [hl];simp;omega) (by rw [hl];simp;omega) (Yes.some (hk2 _ ?_)))))))
  rw [hI,Jw hi]
  unfold Mv
  rw [List.map_append]
  rfl
def V0 (R:List Int):Nat→List Nat→List Int
 | _,[]=>[]
 | a,s::ss=>R.getD a 0::V0 R ((a+s) % R.length) ss
def Bx (n:Nat):Nat→List Nat→Nat
 | a,[]=>a
 | a,s::ss=>Bx n ((a+s) % n) ss
theorem Fl {R:List Int}:∀ {ss:List Nat} {a s:Nat},V0 R a (ss++[s])=V0 R a ss++[R.getD (Bx R.length a ss) 0]
 | [],_,_=>rfl
 | t::ss,a,s=>by rw [List.cons_append,V0,V0,Bx,Fl];rfl
theorem C7 {n:Nat}:∀ {ss:List Nat} {a s:Nat},Bx n a (ss++[s])=(Bx n a ss+s) % n
 | [],_,_=>rfl
 | t::ss,a,s=>by rw [List.cons_append,Bx,Bx,C7]
theorem Bp {R:List Int}:∀ {ss:List Nat} {a:Nat},(V0 R a ss).length=ss.length
 | [],_=>rfl
 | t::ss,a=>by rw [V0,List.length_cons,Bp];rfl
theorem Pu {n:Nat} (hn:0<n):∀ {ss:List Nat} {a:Nat},a<n→Bx n a ss<n
 | [],_,h=>h
 | t::ss,a,_=>by rw [Bx];exact Pu hn (Nat.mod_lt _ hn)
theorem firstB (i n m:Nat) (hi:i<max 1 (min n m)):(bif ((i:Int)==(0:Int)) then some (true) else bif (decide ((i:Int)<(n:Int))) then some ((decide ((i:Int)<(m:Int)))) else some (false))=some true:=by
 refine Yes.eq (Yes.cond (fun _=>Yes.some rfl) (fun hc=>?_))
 have h0:¬ (i:Int)=0:=by simpa using hc
 exact K4 (decide_eq_true (by omega)) (Yes.some (decide_eq_true (by omega)))
theorem lastB (n m:Nat) (hm:1≤m):(bif (((max 1 (min n m):Nat):Int)==(0:Int)) then some (true) else bif (decide (((max 1 (min n m):Nat):Int)<(n:Int))) then some ((decide (((max 1 (min n m):Nat):Int)<(m:Int)))) else some (false))=some false:=by
 refine Yes.eq (Qj (beq_eq_false_iff_ne.2 (by omega)) (Yes.cond (fun hc=>?_) (fun _=>Yes.some rfl)))
 have:=of_decide_eq_true hc
 exact Yes.some (decide_eq_false (by omega))
def hxB (x:UInt8):Nat:=2+x.toNat % 7
theorem L7 (x:UInt8):2≤hxB x∧hxB x≤8:=by unfold hxB;omega
end
theorem Ef (x:UInt8):Kr ((x.toNat:Nat):Int) 7=some (((x.toNat % 7:Nat):Int))∧w64 (2+((x.toNat % 7:Nat):Int))=((hxB x:Nat):Int):=by
 refine ⟨by rw [Lw (by omega) (by omega)];rfl,?_⟩
 unfold hxB
 rw [Qg (by omega) (by omega)];omega
def D6B (H:Nat) (d:Design):Prop:=d.Hooks=H∧(1≤d.Rows.length∧d.Rows.length≤12)∧∀ r∈d.Rows,0≤r∧r<((2 ^ H:Nat):Int)
theorem s16dB (x:UInt8) (rows:List UInt16) (hl:rows.length≤9223372036854775807):Yes (f17 x rows) (D6B (hxB x)):=by
 have hH:=L7 x
 unfold f17
 refine Tc _ (Ef x).1 ?_
 rw [(Ef x).2]
 generalize hxB x=H at hH ⊢
 have hp:=Xd (H:=H) (by omega)
 refine Yes.bind (Yes.mono (Q':=D6B H) ?_ fun d hd=>Yes.some hd)
 refine Yes.upto (max 1 (min rows.length 12)) (by omega) (fun i d=>d.Hooks=H∧d.Rows.length=i∧∀ r∈d.Rows,0≤r∧r<((2 ^ H:Nat):Int)) ⟨rfl,rfl,by simp⟩ (fun i d k hi hI hk=>?_) (fun d k hI=>?_)
 ·obtain ⟨i1,i2,i3⟩:=hI
  have h2:(2:Int)≤((2 ^ H:Nat):Int):=by
   have:2 ^ 1≤2 ^ H:=Nat.pow_le_pow_right (by omega) (by omega)
   omega
  refine Yes.jn (Tc true (firstB i _ 12 hi) (K4 rfl (Yes.bind (Yes.bind (Yes.mono (Q':=fun r=>0≤r∧r<((2 ^ H:Nat):Int)) ?_ fun r hr=>?_)))))
  ·refine Yes.cond (fun hc=>?_) (fun _=>Yes.some (by omega))
   have hlt:i<rows.length:=by have:=of_decide_eq_true hc;omega
   rw [i1,wu64_idB (by omega) (by omega)]
   refine Tc _ (Xv hlt) (Tc _ (Vl (by omega)) (Tc _ (Lw (by omega) (by omega)) (Yes.some ⟨Int.emod_nonneg _ (by omega),Int.emod_lt_of_pos _ (by omega)⟩)))
  ·refine Yes.bind (Yes.apnd (by rw [i2];simp;omega) (by rw [i2];simp;omega) (Yes.some (hk _ ⟨i1,by simp [i2],fun a ha=>?_⟩)))
   rcases List.mem_append.1 ha with ha | ha
   ·exact i3 a ha
   ·rw [List.mem_singleton.1 ha];exact hr
 ·obtain ⟨i1,i2,i3⟩:=hI
  exact Yes.jn (Tc false (lastB _ 12 (by omega)) (Qj rfl (Yes.some ⟨i1,by omega,i3⟩)))
def L6B (H:Nat) (l:Gc):Prop:=D6B H l.Design∧Nv H l.Harness
theorem s4mB (x:UInt8) (rows:List UInt16) (hl:rows.length≤9223372036854775807):Yes (f5 x rows) (L6B (hxB x)):=by
 have hH:=L7 x
 unfold f5
 refine Yes.bind ((s16dB x rows hl).mono fun d hd=>?_)
 generalize hxB x=H at hH hd ⊢
 rw [hd.1]
 refine Yes.bind (Yes.mono (Q':=fun l=>l.Design=d∧l.Harness.Hooks=H∧l.Harness.Warps.length=H∧∀ a∈l.Harness.Warps,0≤a∧a≤(H:Int)-1) ?_ fun l hl=>?_)
 ·refine Yes.upto H (by omega) (fun i l=>l.Design=d∧l.Harness.Hooks=H∧l.Harness.Warps.length=i∧∀ a∈l.Harness.Warps,0≤a∧a≤(H:Int)-1) ⟨rfl,rfl,rfl,by simp⟩ (fun i l k hi hI hk=>?_) (fun l k hI=>?_)
  ·obtain ⟨h1,h2,h3,h4⟩:=hI
   refine Yes.jn (K4 (decide_eq_true (by rw [h1,hd.1];omega)) (Yes.bind (Yes.bind (Yes.apnd (by rw [h3];simp;omega) (by rw [h3];simp;omega) (Yes.some (hk _ ⟨h1,h2,by simp [h3],fun a ha=>?_⟩))))))
   rcases List.mem_append.1 ha with ha | ha
   ·exact h4 a ha
   ·rw [List.mem_singleton.1 ha];omega
  ·obtain ⟨h1,h2,h3,h4⟩:=hI
   exact Yes.jn (Qj (decide_eq_false (by rw [h1,hd.1];omega)) (Yes.some ⟨h1,h2,h3,h4⟩))
 ·obtain ⟨h1,h2,h3,h4⟩:=hl
  rw [h1,hd.1,Qg (n:=(H:Int)-2) (by omega) (by omega)]
  refine Yes.bind (Yes.mono (Q':=L6B H) ?_ fun l hl=>Yes.some hl)
  refine Yes.lp (fun st=>∃ i:Nat,i≤H-2∧st.2=((H-2-i:Nat):Int)∧st.1.Design=d∧st.1.Harness.Hooks=H∧st.1.Harness.Warps.length=H+i∧∀ a∈st.1.Harness.Warps,0≤a∧a≤(H:Int)-1) (fun st=>st.2.toNat) ⟨0,by omega,by show (H:Int)-2=_;omega,h1,h2,h3,h4⟩ (by show ((H:Int)-2).toNat<_;omega) ?_
  rintro ⟨l2,j⟩ k ⟨i,hi,hj,g1,g2,g3,g4⟩ hk
  simp only at hj g1 g2 g3 g4
  subst hj
  refine Yes.jn (Yes.cond (fun hc=>?_) (fun hc=>?_))
  ·have hc:=of_decide_eq_true hc
   refine Yes.bind (Yes.bind (Yes.apnd (by rw [g3];simp;omega) (by rw [g3];simp;omega) (Yes.some (hk _ ⟨i+1,by omega,?_,g1,g2,by simp [g3];omega,fun a ha=>?_⟩ ?_))))
   ·show w64 (((H-2-i:Nat):Int)-1)=_
    rw [Qg (by omega) (by omega)];omega
   ·rcases List.mem_append.1 ha with ha | ha
    ·exact g4 a ha
    ·rw [List.mem_singleton.1 ha];omega
   ·show (w64 (((H-2-i:Nat):Int)-1)).toNat<_
    rw [Qg (by omega) (by omega)]
    show _<(((H-2-i:Nat):Int)).toNat
    omega
  ·exact Yes.some ⟨g1▸hd,g2,by omega,g4⟩
def Js (l:Gc):Tn:=⟨[⟨⟨[108,105,108,121]⟩,l.Harness⟩],[⟨⟨[114,111,115,101]⟩,⟨l.Design.Hooks,Kh l.Design.Rows⟩⟩]⟩
theorem M8 (rs:List Int) (r:Int):Kh (rs++[r])=Kh rs++[⟨rs.length,r,false⟩]:=by unfold Kh;rw [List.mapIdx_concat]
end Go.Proofs.YtpglkdijpcgcaaaGreatDoor
