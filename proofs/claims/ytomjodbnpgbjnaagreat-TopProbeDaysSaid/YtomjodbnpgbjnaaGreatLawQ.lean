/- TopProbeDays: the plain law. -/
import Derived.Test.YtomjodbnpgbjnaaGreatLawP
import Derived.Test.YtomjodbnpgbjnaaGreatPub
set_option maxRecDepth 8000
namespace Go.Proofs.YtomjodbnpgbjnaaGreat
open Go.RowKit
open Classical

theorem s3 (x0:List UInt16) (x1:Vector (Vector UInt8 3) 2) (x2:List (Vector UInt8 3)):f3 x0 x1 x2=some true:=by
 obtain ⟨⟨m,l⟩,hsh,S⟩:=shed_is x2
 simp only at S
 have hm:=S.m
 have hn6:=S.n
 have hck:=shed_ok S
 have g:=good_of hck
 have hc0:=shed_cpl S
 have hw2:m.Widths.length=2:=by rw [hm]; rfl
 have iv:∀ (k:Nat) (h:k < 2),idx x1.toList (k:Int)=some (x1.toList[k]'(by simp; omega)):=fun k h=>qidx (by simp; omega)
 have iw:∀ (k q:Nat) (h:k < 2) (h':q < 3),idx ((x1.toList[k]'(by simp; omega)).toList) (q:Int)=some (((x1.toList[k]'(by simp; omega)).toList)[q]'(by simp; omega)):=fun k q h h'=>qidx (by simp; omega)
 obtain ⟨c,hcl,C⟩:=clo_is (((x1.toList[0]'(by simp)).toList)[0]'(by simp)) x0
 have hr:=C.r
 have hcw:=C.w
 obtain ⟨d,hd,hd2⟩:=damage_is C (x1.toList[0]'(by simp))
 obtain ⟨d',hd',hd2'⟩:=damage_is C (x1.toList[1]'(by simp))
 have hchk:chkEF c [d,d']=0:=by
  unfold chkEF
  rw [if_neg (fun h=>h C.ok),if_neg (by simp),if_pos (by simp [hd2,hd2'])]
 obtain ⟨a,ha,hA⟩:=s38F c [d,d']
 rw [if_pos hchk] at hA
 obtain ⟨T,ha2⟩:=hA
 have ha0:=T.pos
 have ha12:a.1 ≤ 12:=by
  rcases T.at_ with h | ⟨i,k,_,h⟩
  ·omega
  ·have := (ap_rangeF c [d, d'] i k).2
   omega
 obtain ⟨r,hpl,_,hr2⟩:=s17 m l
 obtain ⟨hr0,hgr⟩:=(hr2 hck).1 hc0
 have hql:=grd_len hgr
 have hqs:=grd_seq hgr seq_nil
 have hqc:=grd_cpl hgr hc0
 have hqf:HoldF m l r.1:=(cpl_full hql).1 hqc
 refine Yes.eq ?_
 unfold f3
 refine qbind _ hsh (qbind _ (iv 0 (by omega)) (qbind _ (iw 0 0 (by omega) (by omega)) (qbind _ hcl (qbind _ (c7 c (by omega) (by omega)) (qbind _ (iv 0 (by omega)) (qbind _ hd (qbind _ (iv 1 (by omega)) (qbind _ hd' (qbind _ ha ?_)))))))))
 have h10:=c10 m (by omega)
 have h11:=c11 l (by omega)
 have h16:=c16 r.1 (by omega)
 refine qbind _ h10 (qbind _ h11 (qbind _ hpl (Yes.jn (qbind false ?_ (qskip rfl (Yes.jn ?_))))))
 ·rw [ha2, hr0, decide_eq_false (show ¬ a.1 < 0 by omega), decide_eq_false (show ¬ a.1 > 60 by omega)]
  have:((r.1.length:Int) != (l.length:Int))=false:=by rw [hql]; simp
  exact congrArg some this
 by_cases hz:a.1=0
 ·refine qtake (by simp [hz]) (Yes.bind (qbind true pub_fault_ok (qtake rfl (qbind true pub_shop_ok (Yes.some (Yes.some rfl))))))
 refine qskip (by simp [hz]) ?_
 obtain ⟨p,hp,hp0,hp1⟩:=qrem (a:=((((x1.toList[1]'(by simp)).toList)[0]'(by simp)).toNat:Int)) (b:=20) (by omega) (by omega)
 obtain ⟨k,hk,hk0,hk1⟩:=qrem (a:=((((x1.toList[1]'(by simp)).toList)[1]'(by simp)).toNat:Int)) (b:=(m.Widths.length:Int)) (by omega) (by omega)
 refine qbind _ (iv 1 (by omega)) (qbind _ (iw 1 0 (by omega) (by omega)) (qbind _ hp (qbind _ (iv 1 (by omega)) (qbind _ (iw 1 1 (by omega) (by omega)) (qbind _ hk ?_)))))
 have h14:f14 p (w64 (w64 (p + a.1) - 1))=some ⟨p,p + a.1 - 1⟩:=by
  unfold f14
  rw [qw64 (n:=p + a.1) (by omega) (by omega),qw64 (by omega) (by omega)]
 refine qbind _ h14 ?_
 generalize hst:(⟨k,⟨p,p + a.1 - 1⟩⟩:LoomStop)=st
 have hsl:st.Loom=k:=by rw [← hst]
 have hlo:st.Days.Low=p:=by rw [← hst]
 have hhi:st.Days.High=p + a.1 - 1:=by rw [← hst]
 have hs:0 ≤ st.Days.Low∧st.Days.Low ≤ st.Days.High∧st.Days.High ≤ 98:=by omega
 have hE:stillE m l r.1 st=0:=by
  have h1:planE m l r.1=0:=by unfold planE; rw [if_neg (fun h=>h hck)]; exact (holds_iff g (by omega) hqs).2 hqf
  unfold stillE
  rw [if_neg (fun h=>h h1)]
  unfold stopE
  rw [if_neg (by omega),if_neg (by omega)]
 obtain ⟨_,R,_,hs3⟩:=still_ok hE
 have M:Made m l r.1:=by
  refine ⟨hck,hql,hqs,hqf,by rw [hm]; decide,fun j hj=>by have:=(S.o j hj).2.2.1; omega,fun j hj=>?_⟩
  obtain ⟨K,F,hf⟩:=hqf
  have h1:=holdF_at hf hj hj
  have h2:=(hf.one j hj).t
  have h3:=(S.o j (by omega)).2.2.2.2.2
  rw [h1.2]; omega
 obtain ⟨A,hf,hA,hpw⟩:=s68 g R st.Loom
 have hA7:A.length ≤ 7:=by
  have hnd:A.Nodup:=hpw.imp fun {a b} h e=>by subst e; exact bef_irr h
  have:=nodup_lt _ _ hnd fun x hx=>((hA x).1 hx).1
  omega
 obtain ⟨h34,_⟩:=s34 hE hf hA hA7
 have H:=psh M hs hA hpw hA7
 generalize pushL m l st none A r.1=q at h34 H
 have hqn:=H.n
 have h34:f15 m l r.1 st=some (q,lates l q,0):=by
  rw [h34]; unfold pushV; rw [if_neg]
  rintro ⟨i,hi,h⟩
  have:=H.top i (by omega)
  omega
 have h33:f17 m l r.1 st=some (stopsV l r.1 st,0):=by rw [s33 (by omega),if_pos hE]
 refine qbind _ h10 (qbind _ h11 (qbind _ h16 (qbind _ h34 (qbind _ h10 (qbind _ h11 (qbind _ h16 (qbind _ h33 ?_)))))))
 have hlen:((q.length:Int) != (r.1.length:Int))=false:=by rw [hqn]; simp
 refine Yes.jn (qbind false (congrArg some hlen) (qskip rfl (Yes.jn ?_)))
 refine Yes.upto0 q.length (by omega) (fun _=>True) trivial (fun i kk hi _ hk'=>?_) (fun kk _=>?_)
 ·have hi' : i < r.1.length := by omega
  have hil:i < l.length:=by omega
  have hqo:=H.seq i hi
  have hqt:=H.top i hi'
  have hqle:=H.le i hi'
  have hwo:=(S.o i hil).2.2.1
  have hpi:=R.inR i hi'
  have hp0:=hpi.2.2.1
  refine Yes.jn (qtake (decide_eq_true (Int.ofNat_lt.2 hi)) (Yes.jn (qbind _ (idx_rn hi) (Yes.jn ?_))))
  have hv1:(bif ((rn q i).Order != (i:Int)) then some true else (idx r.1 (i:Int)).bind fun m7=>bif ((rn q i).Loom != m7.Loom) then some true else (idx r.1 (i:Int)).bind fun o8=>bif decide ((rn q i).From < o8.From) then some true else some (decide ((rn q i).From > 300)))=some false:=by
   have e1:((rn q i).Order != (i:Int))=false:=by rw [hqo]; simp
   have e2:((rn q i).Loom != (rn r.1 i).Loom)=false:=by rw [H.loom i hi']; simp
   rw [e1,idx_rn hi']
   simp only [cond_false,Option.bind_some]
   rw [e2,decide_eq_false (show ¬ (rn q i).From < (rn r.1 i).From by omega),decide_eq_false (show ¬ (rn q i).From > 300 by omega)]; rfl
  refine qbind false hv1 (qskip rfl (Yes.jn ?_))
  have hv2:(bif ((rn q i).Loom == k) then bif decide ((rn q i).From ≤ p + a.1 - 1) then (idx l (i:Int)).bind fun mA=>some (decide (w64 ((rn q i).From + mA.Woven) > p)) else some false else some false)=some false:=by
   by_cases h1:(rn q i).Loom=k
   ·have hst' := H.still i hi' (by rw [← H.loom i hi', h1, hsl])
    unfold meets endR at hst'
    rw [hqo,hlo,hhi] at hst'
    have e1:((rn q i).Loom == k)=true:=by simp [h1]
    rw [e1,cond_true]
    by_cases h2:(rn q i).From ≤ p + a.1 - 1
    ·rw [decide_eq_true h2, cond_true, idx_od (l := l) (by omega) (by omega), Option.bind_some, qw64 (by omega) (by omega)]
     congr 1
     rw [decide_eq_false_iff_not]
     exact fun h=>hst' ⟨h2,h⟩
    ·rw [decide_eq_false h2]; rfl
   ·have e1 : ((rn q i).Loom == k) = false := by simp [h1]
    rw [e1]; rfl
  refine qbind false hv2 (qskip rfl ?_)
  have hv3:(bif (((stopsV l r.1 st).length:Int) == (0:Int)) then (idx r.1 (i:Int)).bind fun dC=>some (!(decide (rn q i=dC))) else some false)=some false:=by
   by_cases h0:(stopsV l r.1 st).length=0
   ·have h1:∀ j,j < r.1.length→decide ((rn r.1 j).Loom=st.Loom∧meets l st (rn r.1 j))=false:=fun j hj=>by
     cases hb:decide ((rn r.1 j).Loom=st.Loom∧meets l st (rn r.1 j)) with
     | false=>rfl
     | true=>
      unfold stopsV coll at h0
      rw [List.length_map,List.length_eq_zero_iff,List.filter_eq_nil_iff] at h0
      exact absurd hb (h0 j (List.mem_range.2 hj))
    have h2:=H.same (fun j hj hls hme=>of_decide_eq_false (h1 j hj) ⟨hls,hme⟩) i hi'
    rw [idx_rn hi',Option.bind_some,h2]
    simp
   ·have : (((stopsV l r.1 st).length : Int) == (0 : Int)) = false := by rw [beq_eq_false_iff_ne]; omega
    rw [this]; rfl
  refine qbind false hv3 (qskip rfl (hk' trivial))
 ·refine Yes.jn (qskip (by simp) ?_)
  exact Yes.bind (qbind true pub_fault_ok (qtake rfl (qbind true pub_shop_ok (Yes.some (Yes.some rfl)))))
end Go.Proofs.YtomjodbnpgbjnaaGreat
