/- TopRibbonLoom: the cloths that are noted day by day. -/
import Derived.Test.YtpglkdijpcgcaaaGreatDoorRlE1
set_option maxRecDepth 8000
namespace Go.Proofs.YtpglkdijpcgcaaaGreatDoor
open Go.RowKit
open Classical
structure PlR (l:List Z5) (R:List Z3):Prop where
 n:R.length=l.length
 n6:l.length≤6
 ord:∀ i:Nat,i<l.length→(rn R i).Order=(i:Int)
 lm:∀ i:Nat,i<l.length→0≤(rn R i).Loom∧(rn R i).Loom≤2
 fr:∀ i:Nat,i<l.length→0≤(rn R i).From∧(rn R i).From≤300
 wv:∀ i:Nat,i<l.length→1≤(od l (i:Int)).Woven∧(od l (i:Int)).Woven≤12
 sep:∀ i j:Nat,i<l.length→j<l.length→i≠j→(rn R i).Loom=(rn R j).Loom→(rn R i).From≤(rn R j).From→(rn R i).From+(od l (i:Int)).Woven≤(rn R j).From
noncomputable def onR (l:List Z5) (R:List Z3) (k d i:Nat):Bool:=decide ((rn R i).Loom=(k:Int)∧(rn R i).From≤(d:Int)∧(d:Int)<(rn R i).From+(od l (i:Int)).Woven)
noncomputable def busy (l:List Z5) (R:List Z3) (k n d:Nat):Bool:=(List.range n).any (onR l R k d)
def clR (k d:Nat):Z4:=⟨(d:Int),(k:Int),0,0,5⟩
noncomputable def dys (l:List Z5) (R:List Z3) (k D:Nat):List Z4:=((List.range D).filter (busy l R k l.length)).map (clR k)
noncomputable def cnt (l:List Z5) (R:List Z3) (k n D:Nat):Nat:=(List.range D).countP (busy l R k n)
noncomputable def nd (l:List Z5) (R:List Z3) (k:Nat):Nat→Int
 | 0=>0
 | i+1=>nd l R k i+if (rn R i).Loom=(k:Int) then 5*(od l (i:Int)).Woven else 0
noncomputable def Af (l:List Z5) (R:List Z3) (d:Nat):List Z4:=((List.range 3).filter fun k=>busy l R k l.length d).map fun k=>clR k d
noncomputable def yL (l:List Z5) (R:List Z3):Nat→List Z4
 | 0=>[]
 | D+1=>yL l R D++Af l R D
theorem cP_or {α:Type} {p q:α→Bool}:∀ {xs:List α},(∀ x∈xs,p x=true→q x=false)→xs.countP (fun x=>p x||q x)=xs.countP p+xs.countP q
 | [],_=>rfl
 | x::xs,h=>by
  have ih:=cP_or (p:=p) (q:=q) (xs:=xs) fun y hy=>h y (List.mem_cons_of_mem _ hy)
  have h0:=h x (by simp)
  rw [List.countP_cons,List.countP_cons,List.countP_cons,ih]
  cases hp:p x<;>cases hq:q x<;>simp [hp,hq] at h0 ⊢<;>omega
theorem ivl (a w:Nat):∀ D,(List.range D).countP (fun d=>decide (a≤d∧d<a+w))=min D (a+w)-min D a
 | 0=>by simp
 | D+1=>by
  rw [List.range_succ,List.countP_append,ivl a w D,List.countP_singleton]
  by_cases h:a≤D∧D<a+w
  ·rw [decide_eq_true h,if_pos rfl];omega
  ·rw [decide_eq_false h,if_neg (by simp)];omega
section
variable {l:List Z5} {R:List Z3} {k n d D:Nat}
theorem S3 {i:Nat}:onR l R k d i=true↔(rn R i).Loom=(k:Int)∧(rn R i).From≤(d:Int)∧(d:Int)<(rn R i).From+(od l (i:Int)).Woven:=by unfold onR;rw [decide_eq_true_iff]
theorem Sd:busy l R k (n+1) d=(busy l R k n d||onR l R k d n):=by unfold busy;rw [List.range_succ,List.any_append];simp
theorem busy_ex:busy l R k n d=true↔∃ i,i<n∧onR l R k d i=true:=by simp [busy,List.any_eq_true]
theorem on_one (P:PlR l R) {i j:Nat} (hi:i<l.length) (hj:j<l.length) (h1:onR l R k d i=true) (h2:onR l R k d j=true):i=j:=by
 obtain ⟨a1,a2,a3⟩:=S3.1 h1
 obtain ⟨b1,b2,b3⟩:=S3.1 h2
 by_cases h:i=j
 ·exact h
 ·by_cases hle:(rn R i).From≤(rn R j).From
  ·have:=P.sep i j hi hj h (by omega) hle;omega
  ·have:=P.sep j i hj hi (Ne.symm h) (by omega) (by omega);omega
theorem Az (P:PlR l R) (hn:n<l.length) (h:busy l R k n d=true):onR l R k d n=false:=by
 cases hc:onR l R k d n with
 | false=>rfl
 | true=>
  obtain ⟨i,hi,h1⟩:=busy_ex.1 h
  have:=on_one P (by omega) hn h1 hc
  omega
theorem dys_succ:dys l R k (D+1)=dys l R k D++if busy l R k l.length D then [clR k D] else []:=by
 unfold dys
 rw [List.range_succ,List.filter_append,List.map_append]
 cases h:busy l R k l.length D<;>simp [h]
theorem dys_le:(dys l R k D).length≤D:=by
 unfold dys
 rw [List.length_map]
 have:=List.length_filter_le (busy l R k l.length) (List.range D)
 rwa [List.length_range] at this
theorem dys_cnt:(dys l R k D).length=cnt l R k l.length D:=by
 unfold dys cnt
 rw [List.length_map,List.countP_eq_length_filter]
theorem Rh:cnt l R k n (D+1)=cnt l R k n D+if busy l R k n D then 1 else 0:=by
 unfold cnt
 rw [List.range_succ,List.countP_append,List.countP_singleton]
theorem Ag:cnt l R k 0 D=0:=by
 unfold cnt
 rw [List.countP_eq_zero]
 intro a _
 simp [busy]
theorem Dv (P:PlR l R) (hn:n<l.length):(cnt l R k (n+1) 401:Int)=cnt l R k n 401+if (rn R n).Loom=(k:Int) then (od l (n:Int)).Woven else 0:=by
 have h1:cnt l R k (n+1) 401=cnt l R k n 401+(List.range 401).countP fun d=>onR l R k d n:=by
  unfold cnt
  rw [← cP_or fun d _ h=>Az P hn h]
  congr 1
  funext d
  exact Sd
 have hf:=P.fr n hn
 have hw:=P.wv n hn
 have h2:((List.range 401).countP (fun d=>onR l R k d n):Int)=if (rn R n).Loom=(k:Int) then (od l (n:Int)).Woven else 0:=by
  by_cases hk:(rn R n).Loom=(k:Int)
  ·rw [if_pos hk,List.countP_congr (q:=fun d=>decide ((rn R n).From.toNat≤d∧d<(rn R n).From.toNat+(od l (n:Int)).Woven.toNat)) fun d _=>by
    rw [S3,decide_eq_true_iff]
    constructor
    ·rintro ⟨_,h3,h4⟩;omega
    ·rintro ⟨h3,h4⟩;exact ⟨hk,by omega,by omega⟩,ivl]
   omega
  ·rw [if_neg hk]
   have:(List.range 401).countP (fun d=>onR l R k d n)=0:=by
    rw [List.countP_eq_zero]
    intro d _ h
    exact hk (S3.1 h).1
   rw [this];rfl
 rw [h1,← h2];omega
theorem nd_cnt (P:PlR l R):∀ n,n≤l.length→nd l R k n=5*(cnt l R k n 401:Int)
 | 0,_=>by rw [Ag];rfl
 | n+1,h=>by
  rw [nd,nd_cnt P n (by omega),Dv P (by omega)]
  split<;>omega
theorem nd_rng (P:PlR l R):∀ n,n≤l.length→0≤nd l R k n∧nd l R k n≤60*n
 | 0,_=>by simp [nd]
 | n+1,h=>by
  have ih:=nd_rng P n (by omega)
  have hw:=P.wv n (by omega)
  rw [nd]
  split<;>omega
theorem Lm (P:PlR l R):∀ n,n≤l.length→cnt l R 0 n 401+cnt l R 1 n 401+cnt l R 2 n 401≤12*n
 | 0,_=>by simp [Ag]
 | n+1,h=>by
  have ih:=Lm P n (by omega)
  have h0:=Dv (k:=0) P (n:=n) (by omega)
  have h1:=Dv (k:=1) P (n:=n) (by omega)
  have h2:=Dv (k:=2) P (n:=n) (by omega)
  have hw:=P.wv n (by omega)
  have hl:=P.lm n (by omega)
  rcases (by omega:(rn R n).Loom=((0:Nat):Int)∨(rn R n).Loom=((1:Nat):Int)∨(rn R n).Loom=((2:Nat):Int)) with e | e | e<;>rw [e] at h0 h1 h2<;>simp at h0 h1 h2<;>omega
theorem cnt_le (P:PlR l R) (hk:k<3):cnt l R k l.length 401≤72:=by
 have:=Lm P l.length (Nat.le_refl _)
 have:=P.n6
 rcases (by omega:k=0∨k=1∨k=2) with e | e | e<;>subst e<;>omega
theorem clR_ok (hk:k<3) (hd:d<401):Cv (clR k d):=by
 unfold Cv clR
 refine ⟨⟨?_,?_⟩,⟨?_,?_⟩,rfl,rfl,?_,?_⟩<;>simp only<;>omega
theorem Xg:Hj (clR k d)=16*(d:Int)+(k:Int):=rfl
theorem Lh (P:PlR l R) (hk:k<3):Bz (dys l R k 401):=by
 refine ⟨by rw [dys_cnt];exact cnt_le P hk,?_,fun c hc=>?_⟩
 ·unfold dys
  rw [List.pairwise_map]
  refine ((List.pairwise_lt_range (n:=401)).filter _).imp fun {a b} h=>?_
  rw [Xg,Xg];omega
 ·obtain ⟨d,hd,rfl⟩:=List.mem_map.1 hc
  exact clR_ok hk (List.mem_range.1 (List.mem_filter.1 hd).1)
theorem S9 {c:Z4}:c∈dys l R k D↔∃ d,d<D∧busy l R k l.length d=true∧c=clR k d:=by
 unfold dys
 simp only [List.mem_map,List.mem_filter,List.mem_range]
 constructor
 ·rintro ⟨d,⟨h1,h2⟩,rfl⟩;exact ⟨d,h1,h2,rfl⟩
 ·rintro ⟨d,h1,h2,rfl⟩;exact ⟨d,⟨h1,h2⟩,rfl⟩
theorem Mb {c:Z4}:c∈Af l R d↔∃ k,k<3∧busy l R k l.length d=true∧c=clR k d:=by
 unfold Af
 simp only [List.mem_map,List.mem_filter,List.mem_range]
 constructor
 ·rintro ⟨d,⟨h1,h2⟩,rfl⟩;exact ⟨d,h1,h2,rfl⟩
 ·rintro ⟨d,h1,h2,rfl⟩;exact ⟨d,⟨h1,h2⟩,rfl⟩
theorem Di {c:Z4}:∀ {D:Nat},c∈yL l R D↔∃ d k,d<D∧k<3∧busy l R k l.length d=true∧c=clR k d
 | 0=>by simp [yL]
 | D+1=>by
  rw [yL,List.mem_append,Di,Mb]
  constructor
  ·rintro (⟨d,k,h1,h2⟩ | ⟨k,h1,h2,h3⟩)
   ·exact ⟨d,k,by omega,h2⟩
   ·exact ⟨D,k,by omega,h1,h2,h3⟩
  ·rintro ⟨d,k,h1,h2,h3,h4⟩
   by_cases h:d=D
   ·subst h;exact .inr ⟨k,h2,h3,h4⟩
   ·exact .inl ⟨d,k,by omega,h2,h3,h4⟩
theorem r3:List.range 3=[0,1,2]:=rfl
theorem day_len:(Af l R d).length=(if busy l R 0 l.length d then 1 else 0)+(if busy l R 1 l.length d then 1 else 0)+if busy l R 2 l.length d then 1 else 0:=by
 unfold Af
 rw [List.length_map,r3]
 cases h0:busy l R 0 l.length d<;>cases h1:busy l R 1 l.length d<;>cases h2:busy l R 2 l.length d<;>simp [h0,h1,h2]
theorem E5:∀ {D:Nat},(yL l R D).length=cnt l R 0 l.length D+cnt l R 1 l.length D+cnt l R 2 l.length D
 | 0=>by simp [yL,cnt]
 | D+1=>by rw [yL,List.length_append,E5,day_len,Rh,Rh,Rh];omega
theorem I5 {k:Nat} {a:List Z4}:∀ {b:List Z4},Q0 k (a++b)=Q0 k a+Q0 k b:=by
 intro b
 induction a with
 | nil=>simp [Q0]
 | cons c a ih=>simp only [List.cons_append,Q0,ih];omega
theorem I0 (hk:k<3):Q0 k (Af l R d)=if busy l R k l.length d then 5 else 0:=by
 unfold Af
 rw [r3]
 rcases (by omega:k=0∨k=1∨k=2) with e | e | e<;>subst e <;>
 cases h0:busy l R 0 l.length d<;>cases h1:busy l R 1 l.length d<;>cases h2:busy l R 2 l.length d<;>simp [h0,h1,h2,Q0,clR]
theorem P8 (hk:k<3):∀ {D:Nat},Q0 k (yL l R D)=5*(cnt l R k l.length D:Int)
 | 0=>by simp [yL,cnt,Q0]
 | D+1=>by
  rw [yL,I5,P8 hk,I0 hk,Rh]
  split<;>omega
theorem yL_pw:∀ {D:Nat},(yL l R D).Pairwise fun a b=>Hj a<Hj b
 | 0=>List.Pairwise.nil
 | D+1=>by
  rw [yL]
  refine List.pairwise_append.2 ⟨yL_pw,?_,fun a ha b hb=>?_⟩
  ·unfold Af
   rw [List.pairwise_map]
   refine ((List.pairwise_lt_range (n:=3)).filter _).imp fun {a b} h=>?_
   rw [Xg,Xg];omega
  ·obtain ⟨d,k,h1,h2,_,rfl⟩:=Di.1 ha
   obtain ⟨k',h3,_,rfl⟩:=Mb.1 hb
   rw [Xg,Xg];omega
theorem yL_ok (P:PlR l R):Bz (yL l R 401):=by
 refine ⟨?_,yL_pw,fun c hc=>?_⟩
 ·rw [E5]
  have:=Lm P l.length (Nat.le_refl _)
  have:=P.n6
  omega
 ·obtain ⟨d,k,h1,h2,_,rfl⟩:=Di.1 hc
  exact clR_ok h2 h1
theorem join_is (P:PlR l R):f36 ([dys l R 0 401,dys l R 1 401,dys l R 2 401].map fun l=>(l.map Yr).flatten)=some (yL l R 401,0,0):=by
 refine s19k (by simp) (fun x hx=>?_) (yL_ok P) (fun x hx c hc=>?_) fun c hc=>?_
 ·simp only [List.mem_cons,List.not_mem_nil,or_false] at hx
  rcases hx with rfl | rfl | rfl
  ·exact Lh P (by omega)
  ·exact Lh P (by omega)
  ·exact Lh P (by omega)
 ·simp only [List.mem_cons,List.not_mem_nil,or_false] at hx
  rcases hx with rfl | rfl | rfl
  ·obtain ⟨d,h1,h2,h3⟩:=S9.1 hc;exact Di.2 ⟨d,0,h1,by omega,h2,h3⟩
  ·obtain ⟨d,h1,h2,h3⟩:=S9.1 hc;exact Di.2 ⟨d,1,h1,by omega,h2,h3⟩
  ·obtain ⟨d,h1,h2,h3⟩:=S9.1 hc;exact Di.2 ⟨d,2,h1,by omega,h2,h3⟩
 ·obtain ⟨d,k,h1,h2,h3,h4⟩:=Di.1 hc
  refine ⟨dys l R k 401,?_,S9.2 ⟨d,h1,h3,h4⟩⟩
  rcases (by omega:k=0∨k=1∨k=2) with e | e | e<;>subst e<;>simp
end
def tri {α:Type} (f:Nat→α):List α:=[f 0,f 1,f 2]
theorem Rb {α:Type} {f:Nat→α} {k:Nat} (h:k<3):idx (tri f) (k:Int)=some (f k):=by
 rcases (by omega:k=0∨k=1∨k=2) with e | e | e<;>subst e<;>rfl
theorem O4 {α:Type} {f:Nat→α} {k:Nat} {y:α} (h:k<3):(tri f).set k y=tri fun j=>if j=k then y else f j:=by
 rcases (by omega:k=0∨k=1∨k=2) with e | e | e<;>subst e<;>simp [tri]
theorem Ff {α:Type} {n:Nat} {v:Vector α n} {k:Nat} {y:α}:(Ja v (k:Int) y).toList=v.toList.set k y:=by
 unfold Ja;simp
end Go.Proofs.YtpglkdijpcgcaaaGreatDoor
