/- TopRibbonLoom: what f3 answers. -/
import Derived.Test.YtpglkdijpcgcaaaGreatDoorRlG1
set_option maxRecDepth 8000
namespace Go.Proofs.YtpglkdijpcgcaaaGreatDoor
open Go.RowKit
open Classical
theorem app40 {xs:List Z4} {y:Z4} (h:xs.length≤1000):apnd 40 xs [y]=some (xs++[y]):=by
 unfold apnd;rw [if_pos ⟨by simp;omega,by simp;omega⟩]
theorem app24 {xs:List (List UInt8)} {y:List UInt8} (h:xs.length≤1000):apnd 24 xs [y]=some (xs++[y]):=by
 unfold apnd;rw [if_pos ⟨by simp;omega,by simp;omega⟩]
theorem Jn {α:Type} {f g:Nat→α} (h:∀ j,j<3→f j=g j):tri f=tri g:=by
 unfold tri;rw [h 0 (by omega),h 1 (by omega),h 2 (by omega)]
def lgs (f:Nat→List Z4) (i:Nat):List (List UInt8):=(List.range i).map fun k=>((f k).map Yr).flatten
theorem on_yes {l:List Z5} {R:List Z3} (P:PlR l R) {k d i:Nat} (hi:i<l.length) :
  Yes (bif ((rn R i).Loom==(k:Int)) then bif (decide ((d:Int)≥(rn R i).From)) then (idx l (i:Int)).bind fun t=>some (decide ((d:Int)<w64 ((rn R i).From+t.Woven))) else some false else some false) fun b=>b=onR l R k d i:=by
 have hf:=P.fr i hi
 have hw:=P.wv i hi
 unfold onR
 refine Yes.cond (fun h1=>?_) (fun h1=>Yes.some ?_)
 ·have h1:=eq_of_beq h1
  refine Yes.cond (fun h2=>?_) (fun h2=>Yes.some ?_)
  ·have h2:=of_decide_eq_true h2
   refine Qc _ (Hs (by omega) (by omega)) (Yes.some ?_)
   rw [Cw (by omega) (by omega),decide_eq_decide]
   exact ⟨fun h=>⟨h1,h2,h⟩,fun h=>h.2.2⟩
  ·have h2:=of_decide_eq_false h2
   exact (decide_eq_false fun h=>h2 h.2.1).symm
 ·have h1:=ne_of_beq_false h1
  exact (decide_eq_false fun h=>h1 h.1).symm

set_option maxHeartbeats 2000000 in
theorem s3 (x0:List UInt16) (x1:List (Vector UInt8 3)) (x2:Vector UInt8 2) (h0:x0.length≤9223372036854775807):f3 x0 x1 x2=some true:=by
 have iv:∀ (q:Nat) (h:q<2),idx x2.toList (q:Int)=some (x2.toList[q]'(by simp;omega)):=fun q h=>Ik (by simp;omega)
 refine Yes.eq ?_
 unfold f3
 refine Yes.bind (Yes.mono (Q':=fun _=>True) ?_ fun by5 _=>?_)
 ·refine Yes.cond (fun h=>?_) (fun _=>Yes.some trivial)
  have h:=of_decide_eq_true h
  have hcut:cut x1 0 5=some ((x1.take (5:Int).toNat).drop (0:Int).toNat):=by unfold cut;rw [if_pos ⟨by omega,by omega,by omega⟩]
  exact Qc _ hcut (Yes.some trivial)
 refine Yes.bind ((shed_is by5).mono fun ml S=>Yes.bind ((s4mB 2 x0 h0).mono fun L hL=>?_))
 obtain ⟨m,l⟩:=ml
 simp only at S
 have hn6:=S.hn
 have hw3:m.Widths.length=3:=by rw [S.hm];simp
 have hH:=L7 2
 have b0:=zu8 (x2.toList[0]'(by simp))
 have b1:=zu8 (x2.toList[1]'(by simp))
 obtain ⟨a,ha,ha0,ha1⟩:=Mu (a:=(((x2.toList[0]'(by simp)).toNat:Nat):Int)) (b:=30) (by omega) (by omega)
 obtain ⟨b,hb,hb0,hb1⟩:=Mu (a:=(((x2.toList[1]'(by simp)).toNat:Nat):Int)) (b:=3) (by omega) (by omega)
 obtain ⟨c,hc,hc0⟩:=zquo (a:=(((x2.toList[1]'(by simp)).toNat:Nat):Int)) (by omega) (by omega)
 obtain ⟨e,he,he0,he1⟩:=Mu (a:=c) (b:=10) hc0 (by omega)
 obtain ⟨p,q,hp,hq,Pp,Pq⟩:=Iu S (st:=⟨b,⟨a,a+e⟩⟩) ⟨hb0,hb1⟩ ⟨ha0,by show a≤a+e;omega,by show a+e≤98;omega⟩
 have hpn:=Pp.n
 have hqn:=Pq.n
 have h11:f11 a (w64 (a+e))=some ⟨a,a+e⟩:=by unfold f11;rw [Cw (by omega) (by omega)]
 refine Qc _ (c7l m (by omega)) (Qc _ (c8l l (by omega)) (Qc _ hp (Qc _ (iv 0 (by omega)) (Qc _ ha (Qc _ (c7l m (by omega)) (Qc _ (c8l l (by omega)) (Qc _ (c10l p (by omega)) (Qc _ (iv 1 (by omega)) (Qc _ hb (Qc _ (iv 1 (by omega)) (Qc _ hc (Qc _ he (Qc _ h11 (Qc _ hq ?_))))))))))))))
 refine Yes.jn (Qc false (by simp [hpn,hqn]) (J9 rfl (Yes.jn ?_)))
 refine Yes.upto0 2 (by omega) (fun _=>True) trivial (fun w kk hw _ hk1=>?_) (fun kk _=>Yes.jn (J9 (decide_eq_false (by omega)) (Yes.bind (Qc true shop_ok (Vy rfl (Qc true pb15B (Yes.some (Yes.some rfl))))))))
 obtain ⟨R,hR,P⟩:∃ R,idx ((⟨List.toArray [p,q],rfl⟩:Vector (List Z3) 2)).toList (w:Int)=some R∧PlR l R:=by
  rcases (by omega:w=0∨w=1) with e | e<;>subst e
  ·exact ⟨p,rfl,Pp⟩
  ·exact ⟨q,rfl,Pq⟩
 have hRn:=P.n
 refine Yes.jn (Vy (decide_eq_true (by omega)) (Yes.jn (Qc R hR (Yes.jn ?_))))
 -- how many picks each loom's orders need
 refine Yes.upto R.length (by omega) (fun i v=>v.toList=tri fun k=>nd l R k i) rfl (fun i v k hi hI hk=>?_) (fun v k hnv=>Yes.jn (J9 (decide_eq_false (by omega)) ?_))
 ·have hil:i<l.length:=by omega
  have hlm:=P.lm i hil
  have hfr:=P.fr i hil
  have hwv:=P.wv i hil
  obtain ⟨n,hn⟩:∃ n:Nat,(rn R i).Loom=n:=⟨(rn R i).Loom.toNat,by omega⟩
  have hn3:n<3:=by omega
  have hrg:=nd_rng (k:=n) P i (by omega)
  have e1:idx v.toList (rn R i).Loom=some (nd l R n i):=by rw [hI,hn];exact Rb hn3
  have e2:idx l (i:Int)=some (od l (i:Int)):=Hs (by omega) (by omega)
  refine Yes.jn (Vy (decide_eq_true (by omega)) (Yes.jn (Qc _ (H7 hi) (Yes.jn (Qc false ?_ (J9 rfl (Qc _ e1 (Qc _ e2 (Qc _ e1 (hk _ ?_)))))))))) 
  ·have a1:((rn R i).Order != (i:Int))=false:=by rw [P.ord i hil];simp
   rw [a1,decide_eq_false (show ¬ (rn R i).Loom<0 by omega),decide_eq_false (show ¬ (rn R i).Loom>2 by omega),decide_eq_false (show ¬ (rn R i).From<0 by omega),decide_eq_false (show ¬ (rn R i).From>300 by omega)];rfl
  ·rw [hn,Ff,hI,O4 hn3,Cw (n:=5*(od l (i:Int)).Woven) (by omega) (by omega),Cw (by omega) (by omega)]
   congr 1
   funext j
   rw [nd,hn]
   by_cases hj:j=n
   ·subst hj;rw [if_pos rfl,if_pos rfl]
   ·rw [if_neg hj,if_neg (by omega)];omega
 rw [hRn] at hnv
 -- the cloths of each loom,day by day
 refine Yes.bind (Yes.mono (Q':=fun u=>u.toList=tri fun k=>dys l R k 401) ?_ fun u hu=>?_)
 ·refine Yes.upto 3 (by omega) (fun i u=>u.toList=tri fun j=>if j<i then dys l R j 401 else []) rfl (fun n u k hn hI hk=>?_) (fun u k hI=>Yes.jn (J9 (decide_eq_false (by omega)) (Yes.some (by rw [hI];exact Jn fun j hj=>if_pos hj))))
  refine Yes.jn (Vy (decide_eq_true (by omega)) (Yes.bind (Yes.mono (Q':=fun u=>u.toList=tri fun j=>if j=n then dys l R n 401 else if j<n then dys l R j 401 else []) ?_ fun u hu=>hk _ ?_)))
  ·refine Yes.upto 401 (by omega) (fun D u=>u.toList=tri fun j=>if j=n then dys l R n D else if j<n then dys l R j 401 else []) ?_ (fun D u k hD hI hk=>?_) (fun u k hI=>Yes.jn (J9 (decide_eq_false (by omega)) (Yes.some hI)))
   ·rw [hI]
    refine Jn fun j _=>?_
    by_cases hj:j=n
    ·subst hj;rw [if_neg (by omega),if_pos rfl];rfl
    ·rw [if_neg hj]
   refine Yes.jn (Vy (decide_eq_true (by omega)) (Yes.bind (Yes.mono (Q':=fun u=>u.toList=tri fun j=>if j=n then dys l R n (D+1) else if j<n then dys l R j 401 else []) ?_ fun u hu=>hk _ hu)))
   refine Yes.upto R.length (by omega) (fun i u=>u.toList=tri fun j=>if j=n then dys l R n D++(if busy l R n i D then [clR n D] else []) else if j<n then dys l R j 401 else []) ?_ (fun i u k hi hI hk=>?_) (fun u k hI=>Yes.jn (J9 (decide_eq_false (by omega)) (Yes.some (by rw [hI];exact Jn fun j _=>by rw [dys_succ (D:=D),hRn]))))
   ·rw [hI]
    refine Jn fun j _=>?_
    by_cases hj:j=n
    ·rw [if_pos hj,if_pos hj];simp [busy]
    ·rw [if_neg hj,if_neg hj]
   have hil:i<l.length:=by omega
   have hle:=dys_le (l:=l) (R:=R) (k:=n) (D:=D)
   refine Yes.jn (Vy (decide_eq_true (by omega)) (Yes.bind (Qc _ (H7 hi) (Yes.bind ((on_yes P hil).mono fun b hb=>?_)))))
   subst hb
   cases hon:onR l R n D i with
   | false=>
    refine J9 rfl (Yes.some (hk _ ?_))
    rw [hI]
    refine Jn fun j _=>?_
    rw [Sd,hon,Bool.or_false]
   | true=>
    have hbz:busy l R n i D=false:=by
     cases hbz:busy l R n i D with
     | false=>rfl
     | true=>rw [Az P hil hbz] at hon;cases hon
    have e1:idx u.toList (n:Int)=some (dys l R n D):=by
     rw [hI,Rb hn,if_pos rfl,hbz];simp
    refine Vy rfl (Qc _ e1 (Qc _ (app40 (by omega)) (Qc _ e1 (Yes.some (hk _ ?_)))))
    rw [Ff,hI,O4 hn]
    refine Jn fun j _=>?_
    by_cases hj:j=n
    ·rw [if_pos hj,if_pos hj,Sd,hon,Bool.or_true,if_pos rfl];rfl
    ·rw [if_neg hj,if_neg hj,if_neg hj]
  ·rw [hu]
   refine Jn fun j _=>?_
   by_cases hj:j=n
   ·subst hj;rw [if_pos rfl,if_pos (by omega)]
   ·rw [if_neg hj]
    by_cases h2:j<n
    ·rw [if_pos h2,if_pos (by omega)]
    ·rw [if_neg h2,if_neg (by omega)]
 -- the logs
 refine Yes.jn (Yes.upto 3 (by omega) (fun i s=>s=lgs (fun k=>dys l R k 401) i) rfl (fun i s k hi hI hk=>?_) (fun s k hI=>Yes.jn (J9 (decide_eq_false (by omega)) ?_)))
 ·have hsl:s.length=i:=by rw [hI];simp [lgs]
  refine Yes.jn (Vy (decide_eq_true (by omega)) (Yes.jn (Qc _ (by rw [hu];exact Rb hi) (Qc _ (s17kB (Lh P hi)) (Yes.jn (J9 rfl (Qc _ (app24 (by omega)) (hk _ ?_))))))))
  rw [hI];unfold lgs
  rw [List.range_succ,List.map_append];rfl
 have hs:s=[dys l R 0 401,dys l R 1 401,dys l R 2 401].map fun l=>(l.map Yr).flatten:=by rw [hI];rfl
 subst hs
 refine Qc _ (s9mB hL) (Yes.bind ((s8rB (by omega) hL (yL_ok P) (join_is P)).mono fun r hr=>?_))
 obtain ⟨r0,r16,rk⟩:=hr
 refine Yes.jn (Qc false (by rw [r0,r16];rfl) (J9 rfl (Yes.upto0 3 (by omega) (fun _=>True) trivial (fun i k hi _ hk=>?_) (fun k _=>Yes.jn (J9 (decide_eq_false (by omega)) (hk1 trivial))))))
 obtain ⟨w',hw1,hw2⟩:=rk i (by omega)
 have e1:idx r.1 (i:Int)=some w':=by unfold idx;rw [if_pos (by omega),Int.toNat_natCast];exact hw1
 have e2:idx v.toList (i:Int)=some (nd l R i l.length):=by rw [hnv];exact Rb hi
 have e3:(w'.length:Int)=nd l R i l.length:=by rw [hw2,P8 hi,nd_cnt P _ (Nat.le_refl _)]
 exact Yes.jn (Vy (decide_eq_true (by omega)) (Yes.jn (Qc _ e1 (Qc _ e2 (J9 (by rw [e3];simp) (hk trivial))))))
theorem s3l {A B C:Prop} (x0:List UInt16) (x1:List (Vector UInt8 3)) (x2:Vector UInt8 2) (k0:x0.length≤9223372036854775807∧A) (_:B) (_:C):f3 x0 x1 x2=some true:=s3 x0 x1 x2 k0.1
end Go.Proofs.YtpglkdijpcgcaaaGreatDoor
