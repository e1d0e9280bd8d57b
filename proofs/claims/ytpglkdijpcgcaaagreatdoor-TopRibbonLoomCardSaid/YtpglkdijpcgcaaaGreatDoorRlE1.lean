/- TopRibbonLoom: the mill and its orders. -/
import Derived.Test.YtpglkdijpcgcaaaGreatDoorRlC1
import Derived.Test.YtpglkdijpcgcaaaGreatDoorRlL4
set_option maxRecDepth 8000
namespace Go.Proofs.YtpglkdijpcgcaaaGreatDoor
open Go.RowKit
open Classical
theorem J9 {α:Type} {Q:α→Prop} {c:Bool} {X Y:Option α} (hc:c=false) (h:Yes Y Q):Yes (bif c then X else Y) Q:=by rw [hc];exact h
theorem Vy {α:Type} {Q:α→Prop} {c:Bool} {X Y:Option α} (hc:c=true) (h:Yes X Q):Yes (bif c then X else Y) Q:=by rw [hc];exact h
theorem Qc {α β:Type} {Q:β→Prop} {x:Option α} {f:α→Option β} (a:α) (h:x=some a) (k:Yes (f a) Q):Yes (x.bind f) Q:=by rw [h];exact k
theorem Ik {α:Type} {xs:List α} {i:Nat} (h:i<xs.length):idx xs (i:Int)=some xs[i]:=by unfold idx;rw [if_pos (Int.natCast_nonneg i)];exact List.getElem?_eq_getElem h
theorem Mu {a b:Int} (ha:0≤a) (hb:0<b):∃ r,Kr a b=some r∧0≤r∧r<b:=by
 unfold Kr
 rw [if_neg (by omega),Int.tmod_eq_emod_of_nonneg ha]
 exact ⟨_,rfl,Int.emod_nonneg _ (by omega),Int.emod_lt_of_pos _ hb⟩
theorem zquo {a:Int} (ha:0≤a) (h:a≤1000):∃ q,F0 a 3=some q∧0≤q:=by
 unfold F0
 rw [if_neg (by decide),Int.tdiv_eq_ediv_of_nonneg ha]
 have h1:0≤a / 3:=Int.ediv_nonneg ha (by decide)
 exact ⟨_,rfl,by rw [Qg (by omega) (by omega)];exact h1⟩
theorem Cw {n:Int} (h1:-1000000000000≤n) (h2:n≤1000000000000):w64 n=n:=Qg (by omega) (by omega)
theorem zu8 (c:UInt8):0≤((c.toNat:Nat):Int)∧((c.toNat:Nat):Int)≤255:=by have:=c.toNat_lt;omega
theorem zapnd8 {xs:List Int} {y:Int} (h:xs.length≤1000):apnd 8 xs [y]=some (xs++[y]):=Yes.eq (Yes.apnd (by simp;omega) (by simp;omega) rfl)
theorem c7l (m:LoomMill) (h:m.Widths.length≤1000):f7 m=some m:=by unfold f7;exact Yes.eq (Yes.bind (Yes.apnd (by simp;omega) (by simp;omega) (Yes.some (by simp))))
theorem c8l (l:List Z5) (h:l.length≤1000):f8 l=some l:=by unfold f8;exact Yes.eq (Yes.bind (Yes.apnd (by simp;omega) (by simp;omega) (Yes.some (by simp))))
theorem c10l (l:List Z3) (h:l.length≤1000):f10 l=some l:=by unfold f10;exact Yes.eq (Yes.bind (Yes.apnd (by simp;omega) (by simp;omega) (Yes.some (by simp))))
def sd (c:Int) (l:List Z5):Nat→Int
 | 0=>0
 | j+1=>sd c l j+(od l (j:Int)).Woven+c
structure Ao (c:Int) (w:Nat) (m:LoomMill) (l:List Z5):Prop where
 hm:m=⟨List.replicate w 10,c⟩
 hw:1≤w∧w≤3
 hc:0≤c∧c≤3
 hn:l.length≤6
 ho:∀ j:Nat,j<l.length→(1≤(od l (j:Int)).Width∧(od l (j:Int)).Width≤10)∧(0≤(od l (j:Int)).Chain∧(od l (j:Int)).Chain≤2)∧(1≤(od l (j:Int)).Woven∧(od l (j:Int)).Woven≤12)∧(od l (j:Int)).Early=0∧sd c l j+(od l (j:Int)).Woven≤(od l (j:Int)).Late∧(od l (j:Int)).Late≤15*j+23
theorem Pb {c:Int} {l:List Z5} {x:Z5}:∀ j,j≤l.length→sd c (l++[x]) j=sd c l j
 | 0,_=>rfl
 | j+1,h=>by rw [sd,sd,Pb j (by omega),M9 (by omega),if_neg (by omega)]
theorem Dz {c:Int} (hc:0≤c∧c≤3) {l:List Z5} (h:∀ j:Nat,j<l.length→1≤(od l (j:Int)).Woven∧(od l (j:Int)).Woven≤12):∀ j,j≤l.length→0≤sd c l j∧sd c l j≤15*j
 | 0,_=>⟨Int.le_refl _,Int.le_refl _⟩
 | j+1,hj=>by
  have h1:=Dz hc h j (by omega)
  have h2:=h j (by omega)
  rw [sd];omega
theorem shed_is (x2:List (Vector UInt8 3)):Yes (f4 2 1 x2) fun r=>Ao 1 3 r.1 r.2:=by
 unfold f4
 obtain ⟨c0,hc0,hcc0⟩:∃ c0:Int,Kr (((1:UInt8).toNat:Nat):Int) 4=some c0∧c0=1:=⟨1,rfl,rfl⟩
 have hcc1:0≤c0∧c0≤3:=by omega
 obtain ⟨K,hk0,hKK⟩:∃ K:Nat,Kr (((2:UInt8).toNat:Nat):Int) 3=some (K:Int)∧K=2:=⟨2,rfl,rfl⟩
 refine Qc c0 hc0 (Yes.bind (Yes.mono (Q':=fun m=>m=(⟨List.replicate (K+1) 10,c0⟩:LoomMill)) ?_ fun m hm=>?_))
 ·refine Yes.upto (σ:=LoomMill) (K+1) (by omega) (fun i m=>m=⟨List.replicate i 10,c0⟩) rfl (fun i m k hi hI hk=>?_) (fun m k hI=>?_)
  ·subst hI
   refine Yes.jn (Qc _ hk0 (Vy (decide_eq_true (by omega)) ?_))
   refine Yes.bind (Qc _ (zapnd8 (by simp;omega)) (Yes.some (hk _ ?_)))
   rw [List.replicate_succ']
  ·subst hI
   exact Yes.jn (Qc _ hk0 (J9 (decide_eq_false (by omega)) (Yes.some rfl)))
 subst hm
 have hcc:0≤c0∧c0≤3:=by omega
 refine Yes.bind (Yes.mono (Q':=Ao c0 (K+1) ⟨List.replicate (K+1) 10,c0⟩) ?_ fun l hl=>Yes.some (by subst hKK hcc0;exact hl))
 refine Yes.rng (fun (s:List Z5 × Int) i=>(s.1,s.2,(i:Int))) 0 6 (fun i s=>s.1.length=i∧s.2=sd c0 s.1 i∧Ao c0 (K+1) ⟨List.replicate (K+1) 10,c0⟩ s.1) ([],0) rfl (by omega) (by omega) ⟨rfl,rfl,rfl,by omega,hcc,by simp,fun j hj=>by simp at hj⟩ (fun i s k _ hi hI hk=>?_) (fun s k hI=>?_)
 ·obtain ⟨l,day⟩:=s
  obtain ⟨h1,h2,h3⟩:=hI
  simp only at h1 h2 h3
  refine Yes.jn ?_
  by_cases hx:i<x2.length
  ·refine Qc true (by rw [decide_eq_true (Int.ofNat_lt.2 hx),decide_eq_true (show (i:Int)<6 by omega)];rfl) (Vy rfl ?_)
   have hv:∀ (q:Nat) (h:q<3),idx (x2[i]).toList (q:Int)=some ((x2[i]).toList[q]'(by simp;omega)):=fun q h=>Ik (by simp;omega)
   obtain ⟨a,ha,ha0,ha1⟩:=Mu (a:=(((x2[i]).toList[0]'(by simp)).toNat:Int)) (b:=10) (by omega) (by omega)
   obtain ⟨b,hb,hb0,hb1⟩:=Mu (a:=(((x2[i]).toList[1]'(by simp)).toNat:Int)) (b:=3) (by omega) (by omega)
   obtain ⟨c,hc,hd0,hd1⟩:=Mu (a:=(((x2[i]).toList[2]'(by simp)).toNat:Int)) (b:=12) (by omega) (by omega)
   obtain ⟨q,hq,hq0⟩:=zquo (a:=(((x2[i]).toList[1]'(by simp)).toNat:Int)) (by omega) (by have:=zu8 ((x2[i]).toList[1]'(by simp));omega)
   obtain ⟨e,he,he0,he1⟩:=Mu (a:=q) (b:=9) hq0 (by omega)
   have hsd:=Dz hcc (l:=l) (fun j hj=>(h3.ho j hj).2.2.1) i (by omega)
   refine Yes.bind (Qc _ (Ik hx) (Qc _ (hv 0 (by omega)) (Qc _ ha (Qc _ (Ik hx) (Qc _ (hv 1 (by omega)) (Qc _ hb (Qc _ (Ik hx) (Qc _ (hv 2 (by omega)) (Qc _ hc (Qc _ (Ik hx) (Qc _ (hv 1 (by omega)) (Qc _ hq (Qc _ he (Qc _ (apnd40 (xs:=l) (by omega)) (Yes.some ?_)))))))))))))))
   have e1:w64 (1+a)=1+a:=Cw (by omega) (by omega)
   have e2:w64 (1+c)=1+c:=Cw (by omega) (by omega)
   have e3:w64 (1+c+c0)=1+c+c0:=Cw (by omega) (by omega)
   have e4:w64 (day+(1+c+c0))=day+(1+c+c0):=Cw (by omega) (by omega)
   have e5:w64 (day+(1+c+c0)+e)=day+(1+c+c0)+e:=Cw (by omega) (by omega)
   have e6:w64 ((i:Int)+1)=((i+1:Nat):Int):=by rw [Cw (by omega) (by omega)];omega
   dsimp only
   rw [e1,e2,e3,e4,e5,e6]
   have hat:od (l++[⟨1+a,b,1+c,0,day+(1+c+c0)+e⟩]) ((l.length:Nat):Int)=⟨1+a,b,1+c,0,day+(1+c+c0)+e⟩:=by rw [M9 (Nat.le_refl _),if_pos rfl]
   refine hk (_,_) ⟨by simp [h1],?_,rfl,by omega,hcc,by simp;omega,fun j hj=>?_⟩
   ·simp only
    rw [sd,Pb i (by omega),← h2,← h1,hat]
    simp only;omega
   ·have hj':j<l.length+1:=by simpa using hj
    by_cases hjl:j=l.length
    ·subst hjl
     simp only
     rw [hat,Pb _ (Nat.le_refl _)]
     have hsd':=hsd
     rw [← h1] at hsd' h2
     simp only
     refine ⟨⟨?_,?_⟩,⟨hb0,?_⟩,⟨?_,?_⟩,trivial,?_,?_⟩
     ·omega
     ·omega
     ·omega
     ·omega
     ·omega
     ·omega
     ·omega
    ·simp only
     rw [M9 (by omega),if_neg hjl,Pb j (by omega)]
     exact h3.ho j (by omega)
  ·refine Qc false (by rw [decide_eq_false (show ¬ (i:Int)<(x2.length:Int) by omega)];rfl) (J9 rfl (Yes.some h3))
 ·refine Yes.jn (Qc false ?_ (J9 rfl (Yes.some hI.2.2)))
  cases decide (((6:Nat):Int)<(x2.length:Int))<;>rfl
section
variable {c:Int} {w:Nat} {m:LoomMill} {l:List Z5}
theorem shed_ok (h:Ao c w m l):Jk m l=0:=by
 have hn:=h.hn
 have hm:=h.hm
 have hw:=h.hw
 have hc:=h.hc
 subst hm
 unfold Jk
 rw [if_neg (by simp;omega),if_pos]
 refine ⟨by simp;omega,List.all_eq_true.2 fun x hx=>by rw [(List.mem_replicate.1 hx).2];decide,D5.2 (by simp only;omega),List.all_eq_true.2 fun x hx=>?_⟩
 obtain ⟨i,hi,he⟩:=List.getElem_of_mem hx
 have hx2:od l (i:Int)=x:=by unfold od;simp [he,hi]
 have:=h.ho i hi
 rw [← hx2]
 simp only [U1,Bool.and_eq_true,D5]
 have hs:=Dz hc (l:=l) (fun j hj=>(h.ho j hj).2.2.1) i (by omega)
 omega
theorem shed_cpl (h:Ao c w m l):Cpl m l []:=by
 have hm:=h.hm
 have hw:=h.hw
 have hc:=h.hc
 have hup:∀ d i:Nat,i+d<l.length→sd c l i+(od l (i:Int)).Woven+c≤sd c l (i+d+1):=fun d=>by
  induction d with
  | zero=>intro i _;rw [Nat.add_zero,sd];omega
  | succ d ih=>
   intro i hi
   have h1:=ih i (by omega)
   have h2:=(h.ho (i+d+1) (by omega)).2.2.1
   rw [show i+(d+1)+1=(i+d+1)+1 by omega,sd];omega
 refine ⟨fun _=>0,sd c l,fun i hi=>⟨hi,by rw [hm];simp;omega,fun r hr=>(by cases hr),?_,?_,?_⟩,fun i j hi hj hne _ hle=>?_⟩
 ·have:=(h.ho i hi).1
  have h0:wd m ((0:Nat):Int)=10:=by
   rw [hm];unfold wd;obtain ⟨w',rfl⟩:∃ w',w=w'+1:=⟨w-1,by omega⟩;simp [List.replicate_succ]
  rw [h0];omega
 ·have:=(h.ho i hi).2.2.2.1
  have:=Dz hc (l:=l) (fun j hj=>(h.ho j hj).2.2.1) i (by omega)
  omega
 ·exact (h.ho i hi).2.2.2.2.1
 ·have hg:gap m l i j≤c:=by unfold gap;rw [hm];simp only;split<;>omega
  rcases Nat.lt_or_gt_of_ne hne with hlt | hlt
  ·have:=hup (j-i-1) i (by omega)
   rw [show i+(j-i-1)+1=j by omega] at this
   omega
  ·have:=hup (i-j-1) j (by omega)
   rw [show j+(i-j-1)+1=i by omega] at this
   have:=(h.ho j hj).2.2.1
   omega
end
end Go.Proofs.YtpglkdijpcgcaaaGreatDoor
