/- TopRibbonLoom: what f3 answers. -/
import Derived.Test.YtpglkdijpcgcaaaGreatDoorRlF1
set_option maxRecDepth 8000
namespace Go.Proofs.YtpglkdijpcgcaaaGreatDoor
open Go.RowKit
open Classical
theorem shop_ok:f15=some true:=by kernel_rfl
theorem pl_plan {m:LoomMill} {l:List Z5} (S:Ao 1 3 m l) (g:He m l) {p:List Z3} (hn:p.length=l.length) (hs:Sr p) (hf:C5 m l p):PlR l p:=by
 obtain ⟨K,F,hF⟩:=hf
 have hrun:=fun i (hi:i<p.length)=>Fu g hs (by omega) hF hi
 have hw:m.Widths.length=3:=by rw [S.hm];simp
 have hc:=S.hc
 have hm:=S.hm
 refine ⟨hn,S.hn,fun i hi=>hs i (by omega),fun i hi=>?_,fun i hi=>?_,fun i hi=>(S.ho i hi).2.2.1,fun i j hi hj hne hlo hle=>?_⟩
 ·have:=hrun i (by omega);omega
 ·have:=hrun i (by omega)
  have:=(S.ho i hi).2.2.1
  omega
 ·have h1:=hrun i (by omega)
  have h2:=hrun j (by omega)
  have h3:=hF.sep i j (by show i<p.length;omega) (by show j<p.length;omega) hne (by omega) (by omega)
  have h4:=Sc (m:=m) (l:=l) (by rw [hm];decide) i j
  omega
theorem pl_push {m:LoomMill} {l:List Z5} {st:LoomStop} {p q:List Z3} (S:Ao 1 3 m l) (P:PlR l p) (H:Psh m l st p q):PlR l q:=by
 have hm:=S.hm
 have hn:=P.n
 have hq:=H.n
 refine ⟨by omega,P.n6,fun i hi=>H.seq i (by omega),fun i hi=>?_,fun i hi=>?_,P.wv,fun i j hi hj hne hlo hle=>?_⟩
 ·rw [H.loom i (by omega)];exact P.lm i hi
 ·have h1:=H.le i (by omega)
  have h2:=H.top i (by omega)
  have h3:=P.fr i hi
  omega
 ·rw [H.loom i (by omega),H.loom j (by omega)] at hlo
  have h3:=H.sep i j (by omega) (by omega) hne hlo hle
  have h4:=Sc (m:=m) (l:=l) (by rw [hm];decide) i j
  omega
theorem Iu {m:LoomMill} {l:List Z5} (S:Ao 1 3 m l) {st:LoomStop} (hk:0≤st.Loom∧st.Loom<3) (hd:0≤st.Days.Low∧st.Days.Low≤st.Days.High∧st.Days.High≤98) :
  ∃ p q,f6 m l=some (p,0)∧f9 m l p st=some (q,Ft l q,0)∧PlR l p∧PlR l q:=by
 have hm:=S.hm
 have hn6:=S.hn
 have hck:=shed_ok S
 have g:=Xb hck
 have hc0:=shed_cpl S
 have hw3:m.Widths.length=3:=by rw [hm];simp
 obtain ⟨r,hpl,_,hr2⟩:=s17 m l
 obtain ⟨hr0,hgr⟩:=(hr2 hck).1 hc0
 have hql:=grd_len hgr
 have hqs:=grd_seq hgr seq_nil
 have hqc:=grd_cpl hgr hc0
 have hqf:C5 m l r.1:=(cpl_full hql).1 hqc
 obtain ⟨p,e⟩:=r
 simp only at hr0 hql hqs hqf
 subst hr0
 have hE:Hk m l p st=0:=by
  have h1:Yq m l p=0:=by unfold Yq;rw [if_neg (fun h=>h hck)];exact (Ix g (by omega) hqs).2 hqf
  unfold Hk
  rw [if_neg (fun h=>h h1)]
  unfold Cp
  rw [if_neg (by omega),if_neg (by omega)]
 obtain ⟨_,R,_,hs3⟩:=Aw hE
 have M:Made m l p:=by
  refine ⟨hck,hql,hqs,hqf,by rw [hm];decide,fun j hj=>by have:=(S.ho j hj).2.2.1;omega,fun j hj=>?_,fun x hx=>?_⟩
  ·obtain ⟨K,F,hf⟩:=hqf
   have h1:=Cn hf hj hj
   have h2:=(hf.one j hj).t
   have h3:=(S.ho j (by omega)).2.2.2.2.2
   rw [h1.2];omega
  ·rw [hm] at hx
   have:=List.eq_of_mem_replicate hx
   omega
 obtain ⟨A,hf,hA,hpw⟩:=s68 g R st.Loom
 have hA7:A.length≤7:=by
  have hnd:A.Nodup:=hpw.imp fun {a b} h e=>by subst e;exact Hq h
  have:=V3 _ _ hnd fun x hx=>((hA x).1 hx).1
  omega
 obtain ⟨h34,_⟩:=s34 hE hf hA hA7
 have H:=psh M hd hA hpw hA7
 generalize Jb m l st none A p=q at h34 H
 have hqn:=H.n
 have P:=pl_plan S g hql hqs hqf
 refine ⟨p,q,hpl,?_,P,pl_push S P H⟩
 rw [h34];unfold Ok;rw [if_neg]
 rintro ⟨i,hi,h⟩
 have:=H.top i (by omega)
 omega
end Go.Proofs.YtpglkdijpcgcaaaGreatDoor
