/- Laws of plain functions, part 3. -/
import Derived.Test.YtpglkdijpcgcaaaGreatDoorRlL2
set_option maxRecDepth 8000
namespace Go.Proofs.YtpglkdijpcgcaaaGreatDoor
open Go.RowKit
open Classical
theorem nums_pw (a:Nat):(Uh a).Pairwise fun x y=>x<y:=by
 unfold Uh
 rw [List.pairwise_map]
 exact (List.pairwise_lt_range.filter _).imp fun h=>by omega
theorem Rt (a:Nat):(Uh a).Nodup:=(nums_pw a).imp fun h=>by omega
theorem R7 {a n:Nat} (ha:a >>> n=0) (hn:n≤62):(List.range n).filter (fun i=>a.testBit i)=(List.range 62).filter fun i=>a.testBit i:=by
 have hb:∀ i,n≤i→a.testBit i=false:=fun i hi=>by
  have:a<2 ^ n:=by
   rw [Nat.shiftRight_eq_div_pow] at ha
   exact Nat.lt_of_div_eq_zero (Nat.two_pow_pos n) ha
  exact Nat.testBit_lt_two_pow (Nat.lt_of_lt_of_le this (Nat.pow_le_pow_right (by decide) hi))
 have key:∀ d,(List.range (n+d)).filter (fun i=>a.testBit i)=(List.range n).filter fun i=>a.testBit i:=by
  intro d
  induction d with
  | zero=>rfl
  | succ d ih=>
   rw [← Nat.add_assoc,List.range_succ,List.filter_append,ih]
   simp [hb (n+d) (by omega)]
 have:=key (62-n)
 rw [show n+(62-n)=62 by omega] at this
 exact this.symm
theorem Ii {a:Nat} (ha:a<2 ^ 62) {Q:List Int→Prop} (hQ:Q (Uh a)) {body:(List Int × Int→Option (List Int))→List Int × Int→Option (List Int)}
  (hb:∀ (k:List Int × Int→Option (List Int)) (s:List Int) (i:Nat),i≤62→s.length≤62→body k (s,(i:Int))=bif decide (0<a >>> i) then k (bif a.testBit i then s++[(i:Int)] else s,((i+1:Nat):Int)) else some s) :
  Yes (lp body big ([],(0:Int))) Q:=by
 refine Yes.lp (fun s=>∃ i:Nat,s.2=(i:Int)∧i≤62∧s.1=((List.range i).filter fun j=>a.testBit j).map fun (j:Nat)=>(j:Int)) (fun s=>62-s.2.toNat) ⟨0,rfl,by omega,rfl⟩ (by simp) ?_
 rintro ⟨s,j⟩ k ⟨i,hi,hle,hs⟩ hk
 simp only at hi hs
 subst hi
 have hlen:s.length≤62:=by
  rw [hs,List.length_map]
  have:=List.length_filter_le (fun j=>a.testBit j) (List.range i)
  rw [List.length_range] at this;omega
 rw [hb k s i hle hlen]
 by_cases h:0<a >>> i
 ·rw [decide_eq_true h,cond_true]
  have hi2:i<62:=by
   by_cases h62:i<62
   ·exact h62
   ·have:i=62:=by omega
    subst this
    rw [Nat.shiftRight_eq_div_pow,Nat.div_eq_of_lt ha] at h;omega
  refine hk _ ⟨i+1,rfl,by omega,?_⟩ (by simp only [Int.toNat_natCast];omega)
  rw [List.range_succ,List.filter_append,List.map_append]
  cases hb:a.testBit i<;>simp [hb,hs]
 ·rw [decide_eq_false h,cond_false]
  refine Yes.some ?_
  rw [hs,R7 ((Nat.eq_zero_or_pos _).resolve_right h) hle];exact hQ
theorem dec_pos (n:Nat):decide ((n:Int)>0)=decide (0<n):=by rw [decide_eq_decide];omega
theorem s59 {a:Nat} (ha:a<2 ^ 62):f49 (a:Int)=some (Uh a):=by
 refine Yes.eq ?_
 unfold f49
 refine Yes.bind (Ii ha (Yes.some (Q:=fun r=>r=Uh a) rfl) fun k s i hi hs=>?_)
 simp only [jn,L6 ha,Option.bind_some,dec_pos,bitv1 ha,Kd (show i<4611686018427387904 by omega)]
 cases a.testBit i with
 | false=>simp
 | true=>simp [apnd1 rfl (show s.length≤1000 by omega)]
theorem Px {n:Nat} (h:n≤61):2 ^ n<2 ^ 62∧0<2 ^ n:=⟨Nat.pow_lt_pow_right (by decide) (by omega),Nat.two_pow_pos n⟩
theorem B5 {a:Nat} (h0:0<a) (ha:a<2 ^ 62):w64 ((a:Int)-1)=((a-1:Nat):Int):=by rw [Rk] at ha;rw [Qg (by omega) (by omega)];omega
theorem s52 {m:LoomMill} {l:List Z5} (g:He m l):f20 ⟨m,l⟩=some (Uh (2 ^ m.Widths.length-1)):=by
 have hw:=g.w3
 have hp:=Px (show m.Widths.length≤61 by omega)
 unfold f20
 rw [Bj (show m.Widths.length<62 by omega),Option.bind_some,B5 hp.2 hp.1,s59 (by omega)]
 rfl
theorem s53 {m:LoomMill} {l:List Z5} (g:He m l):f21 ⟨m,l⟩=some ((2 ^ l.length-1:Nat):Int):=by
 have hw:=g.l7
 have hp:=Px (show l.length≤61 by omega)
 unfold f21
 rw [Bj (show l.length<62 by omega),Option.bind_some,B5 hp.2 hp.1]
theorem Dp {p z:Nat} (h:p &&& z=p):p≤z:=by rw [← h];exact Nat.and_le_right
theorem s99 {σ:Type} {z:Nat} (hz:z<128) {cons:U9 σ Int} {s0:σ} (J:Nat→σ→Prop) {R:σ→Prop} (h0:J z s0)
  (hs:∀ p s,p &&& z=p→J p s→∃ s',cons s (p:Int)=some (true,s')∧(p=0→R s')∧(p≠0→J ((p-1) &&& z) s')):Yes (f85 (z:Int) σ cons s0) R:=by
 unfold f85
 refine Yes.lp (fun s=>∃ p:Nat,s.2=(p:Int)∧p &&& z=p∧J p s.1) (fun s=>s.2.toNat) ⟨z,rfl,Nat.and_self z,h0⟩ (by simp;omega) ?_
 rintro ⟨s,j⟩ k ⟨p,hp,hpz,hJ⟩ hk
 simp only at hp hJ
 subst hp
 obtain ⟨s',h1,h2,h3⟩:=hs p s hpz hJ
 refine Yes.jn ?_
 simp only [h1,Option.bind_some,Bool.not_true,cond_false]
 have hle:=Dp hpz
 by_cases hp0:p=0
 ·have:((p:Int)==0)=true:=by simp [hp0]
  rw [this]
  exact Yes.some (h2 hp0)
 ·have:((p:Int)==0)=false:=by simp [hp0]
  rw [this,cond_false]
  rw [B5 (by omega) (Wh (by omega)),and64 (Wh (by omega)) (Wh hz)]
  refine hk _ ⟨_,rfl,E3 _ _,h3 hp0⟩ ?_
  simp only [Int.toNat_natCast]
  have:(p-1) &&& z≤p-1:=Nat.and_le_left
  omega
def Jj (m:LoomMill) (l:List Z5) (g:Nat→Option Z3) (Ls:List Int) (s:Nat):Prop:=
 ∃ K F,Ud m l (fun i=>s.testBit i=true) (fun i k d=>(k:Int)∈Ls∧Kq g i k d) K F
theorem Nw {m:LoomMill} {l:List Z5} {g:Nat→Option Z3} {s:Nat}:Jj m l g [] s↔s=0:=by
 constructor
 ·rintro ⟨K,F,h⟩
  by_cases hs:s=0
  ·exact hs
  ·obtain ⟨i,hi⟩:=Ms hs
   exact absurd (h.one i hi).a.1 (by simp)
 ·rintro rfl
  exact ⟨fun _=>0,fun _=>0,fun i hi=>absurd hi (by simp),fun i _ hi=>absurd hi (by simp)⟩
theorem tog_step {m:LoomMill} {l:List Z5} {g:Nat→Option Z3} {Ls:List Int} {k:Nat} (hk:(k:Int)∉Ls) {s:Nat} (hs:s<128) :
  Jj m l g (Ls++[(k:Int)]) s↔∃ q,q &&& s=q∧Va m l (Kq g) k q∧Jj m l g Ls (dif s q):=by
 have h:=M4 (m:=m) (l:=l) (A:=Kq g) (Q:=fun k'=>(k':Int)∈Ls) (k:=k) (S:=fun i=>s.testBit i=true) hk
 have e:(fun (i k':Nat) (f:Int)=>((k':Int)∈Ls∨k'=k)∧Kq g i k' f)=fun (i k':Nat) (f:Int)=>(k':Int)∈Ls++[(k:Int)]∧Kq g i k' f:=by
  funext i k' f
  apply propext
  simp only [List.mem_append,List.mem_singleton,Int.ofNat_inj]
 rw [e] at h
 unfold Jj
 rw [h]
 have hdb:∀ q,q≤s→∀ i,(dif s q).testBit i=true↔s.testBit i=true∧¬ q.testBit i=true:=fun q hq i=>by
  rw [Ov (Wh hs) (Wh (by omega))];simp
 constructor
 ·rintro ⟨P,hP,h1,h2⟩
  obtain ⟨q,hq,hqb⟩:=set_of 7 P fun i hi=>J7 (show s<2 ^ 7 from hs) (hP i hi)
  have hqs:q &&& s=q:=A8.2 fun i hi=>hP i ((hqb i).1 hi)
  have e2:P=fun i=>q.testBit i=true:=funext fun i=>propext (hqb i).symm
  subst e2
  refine ⟨q,hqs,h1,?_⟩
  have e3:(fun i=>(dif s q).testBit i=true)=fun i=>s.testBit i=true∧¬ q.testBit i=true:=funext fun i=>propext (hdb q (Dp hqs) i)
  rw [e3];exact h2
 ·rintro ⟨q,hqs,h1,h2⟩
  refine ⟨fun i=>q.testBit i=true,A8.1 hqs,h1,?_⟩
  have e3:(fun i=>(dif s q).testBit i=true)=fun i=>s.testBit i=true∧¬ q.testBit i=true:=funext fun i=>propext (hdb q (Dp hqs) i)
  rw [e3] at h2;exact h2
theorem s51 {m:LoomMill} {l:List Z5} (g:He m l) {f:List (Int × Z3)} (hf:Days (gm f)) {Ls:List Int} (hL:Ls.Nodup) (hL2:∀ x∈Ls,0≤x∧x<m.Widths.length) :
  f19 ⟨m,l⟩ Ls f=some (bl l.length (Jj m l (gm f) Ls)):=by
 have hn:=g.l7
 have hp:=Nm hn
 have hw3:=g.w3
 have hlen:Ls.length<1000:=by
  have h1:(Ls.map Int.toNat).Nodup:=by
   rw [List.nodup_iff_pairwise_ne,List.pairwise_map]
   exact (List.nodup_iff_pairwise_ne.1 hL).imp_of_mem fun ha hb hne=>by
    have:=hL2 _ ha
    have:=hL2 _ hb
    omega
  have h2:=V3 m.Widths.length (Ls.map Int.toNat) h1 (fun x hx=>by
   obtain ⟨y,hy,rfl⟩:=List.mem_map.1 hx
   have:=hL2 y hy
   omega)
  rw [List.length_map] at h2;omega
 refine Yes.eq ?_
 unfold f19
 rw [Bj (show l.length<62 by omega),Option.bind_some,Nn hn,Option.bind_some,O6,Option.bind_some]
 refine Yes.bind ?_
 refine Yes.rng (fun (s:List Bool) i=>(s,(i:Int))) 0 Ls.length (fun c s=>s=bl l.length (Jj m l (gm f) (Ls.take c))) _ rfl (Nat.zero_le _) (by omega) ?_ (fun c s kk _ hc hI hk'=>?_) (fun s kk hI=>?_)
 ·refine Rw _ ⟨fun _=>Nw.2 rfl,fun _=>rfl⟩ fun x _ hx=>⟨fun h=>h.elim,fun h=>hx (Nw.1 h)⟩
 ·subst hI
  have h1:decide ((c:Int)<(Ls.length:Int))=true:=decide_eq_true (Int.ofNat_lt.2 hc)
  obtain ⟨k,hk⟩:∃ k:Nat,Ls[c]=(k:Int):=⟨(Ls[c]).toNat,by have:=hL2 _ (List.getElem_mem hc);omega⟩
  have hkw:k<m.Widths.length:=by have:=hL2 _ (List.getElem_mem hc);omega
  have htake:Ls.take (c+1)=Ls.take c++[(k:Int)]:=by rw [List.take_add_one,List.getElem?_eq_getElem hc,hk];rfl
  have hkn:(k:Int)∉Ls.take c:=fun hm=>by
   obtain ⟨j,hj,hje⟩:=List.getElem_of_mem hm
   rw [List.length_take] at hj
   rw [List.getElem_take,← hk] at hje
   exact List.pairwise_iff_getElem.1 hL j c (by omega) hc (by omega) hje
  simp only [h1,cond_true]
  refine Yes.bind ?_
  rw [Ue hc,Option.bind_some,hk,s83 g hkw hf,Option.bind_some,Vk,Nn hn,Option.bind_some,Vk]
  refine Yes.bind ?_
  refine Yes.rng (fun (s:List Bool) i=>(s,(i:Int))) 0 (2 ^ l.length) (fun z s=>s=bl l.length (fun x=>x<z∧Jj m l (gm f) (Ls.take (c+1)) x)) _ rfl (Nat.zero_le _) (by omega) (Ve fun x _=>⟨fun h=>h.elim,fun h=>absurd h.1 (Nat.not_lt_zero _)⟩) (fun z s kk' _ hz hI hk''=>?_) (fun s kk' hI=>?_)
  ·subst hI
   have h2:decide ((z:Int)<((2 ^ l.length:Nat):Int))=true:=decide_eq_true (Int.ofNat_lt.2 hz)
   have hz128:z<128:=by omega
   simp only [h2,cond_true]
   refine Yes.bind ?_
   unfold f48
   rw [Option.bind_some]
   refine Yes.bind ?_
   refine s99 hz128 (fun p s => s = bl l.length (fun x => (x < z ∧ Jj m l (gm f) (Ls.take (c + 1)) x) ∨ x = z ∧ ∃ q, q &&& z = q ∧ p < q ∧ Va m l (Kq (gm f)) k q ∧ Jj m l (gm f) (Ls.take c) (dif z q)))
    (Ve fun x hx=>⟨fun h=>.inl h,fun h=>h.elim id fun h=>?_⟩) (fun p s hp' hJ=>?_)
   ·obtain ⟨_,q,hq,hlt,_⟩:=h
    have:=Dp hq
    omega
   ·subst hJ
    have hpz:=Dp hp'
    have hdz:=L2 z p
    -- the new answer of the set
    have hnew : ∀ v : Bool, (v = true ↔ ∃ q, q &&& z = q ∧ p ≤ q ∧ Va m l (Kq (gm f)) k q ∧ Jj m l (gm f) (Ls.take c) (dif z q)) →
      (p = 0 → Yes (some ((bl l.length (fun x => (x < z ∧ Jj m l (gm f) (Ls.take (c + 1)) x) ∨ x = z ∧ ∃ q, q &&& z = q ∧ p < q ∧ Va m l (Kq (gm f)) k q ∧ Jj m l (gm f) (Ls.take c) (dif z q))).set z v))
       fun b=>Yes (kk' (b,w64 ((z:Int)+1))) fun b=>Yes (some b) fun b=>Yes (kk (b,w64 ((c:Int)+1))) fun b=>Yes (some b) fun r=>r=bl l.length (Jj m l (gm f) Ls)) ∧
      (p ≠ 0 → (bl l.length (fun x => (x < z ∧ Jj m l (gm f) (Ls.take (c + 1)) x) ∨ x = z ∧ ∃ q, q &&& z = q ∧ p < q ∧ Va m l (Kq (gm f)) k q ∧ Jj m l (gm f) (Ls.take c) (dif z q))).set z v =
       bl l.length (fun x=>(x<z∧Jj m l (gm f) (Ls.take (c+1)) x)∨x=z∧∃ q,q &&& z=q∧(p-1) &&& z<q∧Va m l (Kq (gm f)) k q∧Jj m l (gm f) (Ls.take c) (dif z q))):=by
     intro v hv
     constructor
     ·rintro rfl
      rw [Kd (by omega)]
      refine Yes.some (hk'' _ (Rw _ ?_ fun x hx hxz=>⟨fun h=>?_,fun h=>.inl ⟨by omega,h.2⟩⟩))
      ·rw [hv,htake,tog_step hkn hz128]
       exact ⟨fun ⟨q,a,_,b⟩=>⟨by omega,q,a,b⟩,fun ⟨_,q,a,b⟩=>⟨q,a,Nat.zero_le _,b⟩⟩
      ·rcases h with h | h
       ·exact ⟨by omega,h.2⟩
       ·exact absurd h.1 hxz
     ·intro hp0
      refine Rw _ ?_ fun x hx hxz=>⟨fun h=>?_,fun h=>?_⟩
      ·rw [hv]
       have hstep:∀ q,q &&& z=q→(p≤q↔(p-1) &&& z<q):=fun q hq=>by
        have h1:(p-1) &&& z≤p-1:=Nat.and_le_left
        constructor
        ·intro h;omega
        ·intro h
         by_cases hlt:q<p
         ·have:=Il p z q hp' hq hlt;omega
         ·omega
       exact ⟨fun ⟨q,a,b,c'⟩=>.inr ⟨rfl,q,a,(hstep q a).1 b,c'⟩,fun h=>h.elim (fun h=>absurd h.1 (by omega)) fun ⟨_,q,a,b,c'⟩=>⟨q,a,(hstep q a).2 b,c'⟩⟩
      ·exact h.elim .inl fun h=>absurd h.1 hxz
      ·exact h.elim .inl fun h=>absurd h.1 hxz
    obtain ⟨v,hv,hvi⟩:=Ab (P:=fun x=>(x<z∧Jj m l (gm f) (Ls.take (c+1)) x)∨x=z∧∃ q,q &&& z=q∧p<q∧Va m l (Kq (gm f)) k q∧Jj m l (gm f) (Ls.take c) (dif z q)) hz
    rw [hv,Option.bind_some]
    by_cases hold:∃ q,q &&& z=q∧p<q∧Va m l (Kq (gm f)) k q∧Jj m l (gm f) (Ls.take c) (dif z q)
    ·obtain rfl:v=true:=hvi.2 (.inr ⟨rfl,hold⟩)
     rw [cond_true,Option.bind_some]
     obtain ⟨h3,h4⟩:=hnew true ⟨fun _=>let ⟨q,a,b,c'⟩:=hold;⟨q,a,by omega,c'⟩,fun _=>rfl⟩
     exact ⟨_,rfl,h3,h4⟩
    ·obtain rfl:v=false:=by
      cases v with
      | false=>rfl
      | true=>exact absurd (hvi.1 rfl) fun h=>h.elim (fun h=>by omega) fun h=>hold h.2
     obtain ⟨u,hu,hui⟩:=Ab (P:=Va m l (Kq (gm f)) k) (show p<2 ^ l.length by omega)
     rw [cond_false,hu,Option.bind_some]
     by_cases hcan:Va m l (Kq (gm f)) k p
     ·obtain rfl:u=true:=hui.2 hcan
      obtain ⟨x,hx,hxi⟩:=Ab (P:=Jj m l (gm f) (Ls.take c)) (show dif z p<2 ^ l.length by omega)
      rw [cond_true,andn64 (Wh hz128) (Wh (by omega)),hx,Option.bind_some,Option.bind_some]
      have hxq:x=true↔∃ q,q &&& z=q∧p≤q∧Va m l (Kq (gm f)) k q∧Jj m l (gm f) (Ls.take c) (dif z q):=by
       rw [hxi]
       constructor
       ·exact fun h=>⟨p,hp',Nat.le_refl _,hcan,h⟩
       ·rintro ⟨q,a,b,c'⟩
        by_cases hpq:p=q
        ·subst hpq;exact c'.2
        ·exact absurd ⟨q,a,by omega,c'⟩ hold
      obtain ⟨h3,h4⟩:=hnew x hxq
      exact ⟨_,rfl,h3,h4⟩
     ·obtain rfl:u=false:=by
       cases u with
       | false=>rfl
       | true=>exact absurd (hui.1 rfl) hcan
      have hxq:false=true↔∃ q,q &&& z=q∧p≤q∧Va m l (Kq (gm f)) k q∧Jj m l (gm f) (Ls.take c) (dif z q):=by
       refine ⟨fun h=>(by cases h),?_⟩
       rintro ⟨q,a,b,c'⟩
       by_cases hpq:p=q
       ·subst hpq;exact absurd c'.1 hcan
       ·exact absurd ⟨q,a,by omega,c'⟩ hold
      rw [cond_false,Option.bind_some]
      obtain ⟨h3,h4⟩:=hnew false hxq
      exact ⟨_,rfl,h3,h4⟩
  ·have h2:decide (((2 ^ l.length:Nat):Int)<((2 ^ l.length:Nat):Int))=false:=by simp
   simp only [h2,cond_false]
   refine Yes.some (Yes.some ?_)
   rw [Kd (by omega)]
   refine hk' _ ?_
   rw [hI]
   exact Ve fun x hx=>⟨fun h=>h.2,fun h=>⟨hx,h⟩⟩
 ·have h1:decide ((Ls.length:Int)<(Ls.length:Int))=false:=by simp
  simp only [h1,cond_false]
  refine Yes.some (Yes.some ?_)
  rw [hI,List.take_length]
def ng:Nat→Option Z3:=fun _=>none
theorem days_ng:Days ng:=fun _ _ h=>by cases h
def Cr (m:LoomMill):List Int:=Uh (2 ^ m.Widths.length-1)
theorem E8 (m:LoomMill) (hw:m.Widths.length≤7):∀ x∈Cr m,0≤x∧x<m.Widths.length:=fun x hx=>by
 obtain ⟨k,rfl,_,h⟩:=nums_nn hx
 rw [Bb] at h
 have:=of_decide_eq_true h
 omega
theorem s51a {m:LoomMill} {l:List Z5} (g:He m l):f19 ⟨m,l⟩ (Cr m) []=some (bl l.length (Jj m l ng (Cr m))):=s51 g (f:=[]) days_ng (Rt _) (E8 m (by have:=g.w3;omega))
def pg (p:List Z3) (i:Nat):Option Z3:=p[i]?
def Sr (p:List Z3):Prop:=∀ i,i<p.length→(rn p i).Order=(i:Int)
theorem pg_rn {p:List Z3} {i:Nat} (h:i<p.length):pg p i=some (rn p i):=by unfold pg rn;rw [List.getElem?_eq_getElem h];rfl
theorem Jh {m:LoomMill} {l:List Z5} {x:Z3} {i j:Nat} (hi:x.Order=(i:Int)):Ya m l x (j:Int)=x.From+(od l i).Woven+gap m l i j:=by
 unfold Ya J3 gap
 rw [hi]
 split<;>omega
theorem Fk {n:Nat} {p:Nat→Bool}:(List.range n).find? p=none↔∀ i,i<n→p i=false:=by
 rw [List.find?_eq_none]
 exact ⟨fun h i hi=>by simpa using h i (List.mem_range.2 hi),fun h x hx=>by simp [h x (List.mem_range.1 hx)]⟩
theorem Nd {m:LoomMill} {l:List Z5} {p:List Z3} (hl:p.length≤l.length):(Vp m l p).2=0↔(∀ i,i<p.length→Xm m l p i=0)∧∀ i,i<p.length→¬ U2 m l p i:=by
 unfold Vp
 rw [if_neg (by omega)]
 cases h1:(List.range p.length).find? (fun i=>decide (Xm m l p i≠0)) with
 | some i=>
  have h2:=List.find?_some h1
  have h3:=List.mem_range.1 (List.mem_of_find?_eq_some h1)
  simp only [ne_eq,decide_not,Bool.not_eq_true',decide_eq_false_iff_not] at h2
  exact ⟨fun h=>absurd h h2,fun h=>absurd (h.1 i h3) h2⟩
 | none=>
  have h2:=Fk.1 h1
  have h2':∀ i,i<p.length→Xm m l p i=0:=fun i hi=>by have:=h2 i hi;simpa using this
  simp only
  cases h3:(List.range p.length).find? (fun i=>decide (U2 m l p i)) with
  | some i=>
   have h4:=List.find?_some h3
   have h5:=List.mem_range.1 (List.mem_of_find?_eq_some h3)
   exact ⟨fun h=>absurd h (by simp),fun h=>absurd (of_decide_eq_true h4) (h.2 i h5)⟩
  | none=>
   have h4:=Fk.1 h3
   exact ⟨fun _=>⟨h2',fun i hi=>of_decide_eq_false (h4 i hi)⟩,fun _=>rfl⟩
def C5 (m:LoomMill) (l:List Z5) (p:List Z3):Prop:=∃ K F,Ud m l (fun i=>i<p.length) (Kq (pg p)) K F
theorem Cn {m:LoomMill} {l:List Z5} {p:List Z3} {S:Nat→Prop} {K:Nat→Nat} {F:Nat→Int} (h:Ud m l S (Kq (pg p)) K F) {i:Nat} (hs:S i) (hi:i<p.length):(rn p i).Loom=(K i:Int)∧(rn p i).From=F i:=
 (h.one i hs).a _ (pg_rn hi)
theorem Ix {m:LoomMill} {l:List Z5} (g:He m l) {p:List Z3} (hl:p.length≤l.length) (hp:Sr p):(Vp m l p).2=0↔C5 m l p:=by
 have hl7:=g.l7
 rw [Nd hl]
 constructor
 ·rintro ⟨h1,h2⟩
  have R:Vs m l p:=F5 (by omega) h1
  have hone:∀ i,i<p.length→_:=fun i hi=>Nj (h1 i hi)
  -- all runs before one on its loom leave it room
  have key:∀ (n:Nat) (j:Nat),j<p.length→(rn p j).From.toNat=n→∀ i,i<p.length→pre p i j→Ya m l (rn p i) (j:Int)≤(rn p j).From:=by
   intro n
   induction n using Nat.strongRecOn with
   | ind n ih=>
    intro j hj hn i hi hij
    obtain ⟨k,⟨hk,hkj⟩,hkm⟩:=Lz p.length (fun k=>k<p.length∧pre p k j) (fun k hk=>hk.1) (fun k=>(rn p k).From*8+k) ⟨i,hi,hij⟩
    have hpk:prev p k j:=⟨hkj,fun j' hj' hpj' hb=>by
     have h3:=hkm j' ⟨hj',hpj'⟩
     unfold bef at hb
     rw [hp k hk,hp j' hj'] at hb
     omega⟩
    have h3:¬ (rn p j).From<Ya m l (rn p k) (rn p j).Order:=fun h=>h2 j hj ⟨k,hk,hpk,h⟩
    rw [hp j hj] at h3
    by_cases hik:i=k
    ·subst hik;omega
    ·have hg1:=Jh (m:=m) (l:=l) (j:=j) (hp i hi)
     have hg2:=Jh (m:=m) (l:=l) (j:=j) (hp k hk)
     have hg3:=Jh (m:=m) (l:=l) (j:=k) (hp i hi)
     have hgn:=Sc (l:=l) g.c.1
     have ht:=Lj (l:=l) g.c.1 i k j
     have w1:=(g.od (show k<l.length by omega)).2.2.1
     have hbi:bef (rn p i) (rn p k):=by
      have h4:=hkm i ⟨hi,hij⟩
      unfold bef
      rw [hp i hi,hp k hk]
      omega
     have hki:=(hone k hk).1.2.2
     have hji:=(hone j hj).1.2.2
     have h5:=hgn k j
     have h6:=hgn i j
     have h7:=ih (rn p k).From.toNat (by omega) k hk rfl i hi ⟨hij.1.trans hkj.1.symm,hbi⟩
     omega
  refine ⟨fun i=>(rn p i).Loom.toNat,fun i=>(rn p i).From,fun i hi=>?_,fun i j hi hj hne hk hle=>?_⟩
  ·obtain ⟨h3,_,h5,h6,h7⟩:=hone i hi
   have ho:=hp i hi
   unfold J3 at h7
   rw [ho] at h5 h6 h7
   have hln:(((rn p i).Loom.toNat:Nat):Int)=(rn p i).Loom:=by have:=h3.2.1;omega
   refine ⟨by omega,by have:=h3.2.1;omega,fun r hr=>?_,by rw [hln];exact h5,h6,h7⟩
   rw [pg_rn hi] at hr
   cases hr
   exact ⟨hln.symm,rfl⟩
  ·have hli:=(hone i hi).1.2.1
   have hlj:=(hone j hj).1.2.1
   have hlo:(rn p i).Loom=(rn p j).Loom:=by omega
   have hgn:=Sc (l:=l) g.c.1
   by_cases hb:bef (rn p i) (rn p j)
   ·have:=key _ j hj rfl i hi ⟨hlo,hb⟩
    rw [Jh (hp i hi)] at this
    exact this
   ·have hb2:bef (rn p j) (rn p i):=(bef_or (by rw [hp i hi,hp j hj];omega)).resolve_left hb
    have:=key _ i hi rfl j hj ⟨hlo.symm,hb2⟩
    rw [Jh (hp j hj)] at this
    have w1:=(g.od (show j<l.length by omega)).2.2.1
    have:=hgn j i
    omega
 ·rintro ⟨K,F,h⟩
  have hat:∀ i,i<p.length→_:=fun i hi=>Cn h hi hi
  constructor
  ·intro i hi
   have h1:=h.one i hi
   obtain ⟨h2,h3⟩:=hat i hi
   have ho:=hp i hi
   have hw:=h1.w
   have he:=h1.e
   have ht:=h1.t
   have hk:=h1.kw
   have go:=g.od h1.il
   unfold Xm
   have hin:inR m l (rn p i):=⟨by rw [ho];omega,by rw [h2];omega,by omega⟩
   rw [if_neg (fun k=>k hin),if_neg,if_neg,if_neg]
   ·unfold J3;rw [ho];omega
   ·rw [ho,h2];omega
   ·rintro ⟨h4,h5⟩
    rw [ho,hp (i-1) (by omega)] at h5
    omega
  ·rintro i hi ⟨j,hj,⟨⟨h1,h2⟩,_⟩,h3⟩
   rw [hp i hi,Jh (hp j hj),(hat i hi).2,(hat j hj).2] at h3
   rw [(hat i hi).1,(hat j hj).1] at h1
   have hne:j≠i:=by
    rintro rfl
    exact Hq h2
   have hle:F j≤F i:=by
    unfold bef at h2
    rw [(hat i hi).2,(hat j hj).2] at h2
    omega
   have:=h.sep j i hj hi hne (by omega) hle
   omega

def Cpl (m:LoomMill) (l:List Z5) (p:List Z3):Prop:=∃ K F,Ud m l (fun i=>i<l.length) (Kq (pg p)) K F
theorem cpl_full {m:LoomMill} {l:List Z5} {p:List Z3} (hl:p.length=l.length):Cpl m l p↔C5 m l p:=by unfold Cpl C5;rw [hl]
theorem B4 {p:List Z3} {r:Z3} {i:Nat}:pg (p++[r]) i=if i=p.length then some r else pg p i:=by
 unfold pg
 rcases Nat.lt_trichotomy i p.length with h | h | h
 ·rw [if_neg (by omega),List.getElem?_append_left h]
 ·rw [if_pos h,h];simp
 ·rw [if_neg (by omega),List.getElem?_eq_none (by simp;omega),List.getElem?_eq_none (by omega)]
theorem Bw {m:LoomMill} {l:List Z5} {p:List Z3} (hl:p.length<l.length) {r:Z3} (h:Cpl m l (p++[r])) :
  (∃ k:Nat,r.Loom=(k:Int)∧k<m.Widths.length)∧(od l p.length).Early≤r.From∧r.From+(od l p.length).Woven≤(od l p.length).Late:=by
 obtain ⟨K,F,h⟩:=h
 have h1:=h.one _ hl
 have h2:=h1.a r (by rw [B4,if_pos rfl])
 exact ⟨⟨K p.length,h2.1,h1.kw⟩,by rw [h2.2];exact h1.e,by rw [h2.2];exact h1.t⟩
theorem cpl_next {m:LoomMill} {l:List Z5} {p:List Z3} (hl:p.length<l.length) (h:Cpl m l p):∃ (k:Nat) (d:Int),Cpl m l (p++[⟨(p.length:Int),(k:Int),d⟩]):=by
 obtain ⟨K,F,h⟩:=h
 refine ⟨K p.length,F p.length,K,F,h.mono (fun _ h=>h) fun i _ ha r hr=>?_⟩
 rw [B4] at hr
 by_cases hi:i=p.length
 ·subst hi
  rw [if_pos rfl] at hr
  cases hr;exact ⟨rfl,rfl⟩
 ·rw [if_neg hi] at hr;exact ha r hr
structure Least1 (m:LoomMill) (l:List Z5) (p:List Z3) (r:Z3):Prop where
 c:Cpl m l (p++[r])
 o:r.Order=(p.length:Int)
 m:∀ r':Z3,r'.Order=(p.length:Int)→Cpl m l (p++[r'])→r.From<r'.From∨r.From=r'.From∧r.Loom≤r'.Loom
inductive Grd (m:LoomMill) (l:List Z5):List Z3→List Z3→Prop
 | done {p:List Z3}:p.length=l.length→Grd m l p p
 | step {p q:List Z3} {r:Z3}:p.length<l.length→Least1 m l p r→Grd m l (p++[r]) q→Grd m l p q
theorem Sr.app {p:List Z3} (h:Sr p) {r:Z3} (hr:r.Order=(p.length:Int)):Sr (p++[r]):=by
 intro i hi
 rw [List.length_append,List.length_singleton] at hi
 have:rn (p++[r]) i=if i=p.length then r else rn p i:=by
  have h1:=B4 (p:=p) (r:=r) (i:=i)
  unfold pg at h1
  unfold rn
  rw [h1]
  split<;>rfl
 rw [this]
 split
 ·rename_i he;rw [hr,he]
 ·exact h i (by omega)

theorem apnd24' {p ys:List Z3} (h:p.length≤1000) (h':ys.length≤1000):apnd 24 p ys=some (p++ys):=by
 unfold apnd;rw [if_pos ⟨by omega,by omega⟩]
theorem gm_set {f:List (Int × Z3)} {i j:Nat} {v:Z3}:gm (H4 f (i:Int) v) j=if j=i then some v else gm f j:=by
 unfold gm
 rw [Ih]
 by_cases h:j=i
 ·subst h;simp
 ·have:¬ (j:Int)=i:=by omega
  simp [h,this]
theorem N9 {m:LoomMill} {l:List Z5} {g:Nat→Option Z3} (hw:m.Widths.length≤7):Jj m l g (Cr m) (2 ^ l.length-1)↔∃ K F,Ud m l (fun i=>i<l.length) (Kq g) K F:=by
 have hp:=Nm hw
 have hb:∀ i,(2 ^ l.length-1).testBit i=true↔i<l.length:=fun i=>by rw [Bb];exact decide_eq_true_iff
 constructor
 ·rintro ⟨K,F,h⟩
  exact ⟨K,F,h.mono (fun i hi=>(hb i).2 hi) fun _ _ h=>h.2⟩
 ·rintro ⟨K,F,h⟩
  refine ⟨K,F,h.mono (fun i hi=>(hb i).1 hi) fun i hi ha=>⟨?_,ha⟩⟩
  refine (Aa (Wh (by omega))).2 ?_
  rw [Bb]
  exact decide_eq_true (h.one i ((hb i).1 hi)).kw
theorem N1 {m:LoomMill} {l:List Z5} {g:Nat→Option Z3} {p:List Z3} (h:∀ i,g i=pg p i):(∃ K F,Ud m l (fun i=>i<l.length) (Kq g) K F)↔Cpl m l p:=by
 have:g=pg p:=funext h
 rw [this];rfl
theorem cpl_days {m:LoomMill} {l:List Z5} {p:List Z3} (g:He m l) (hl:p.length≤l.length) (h:Cpl m l p):Days (pg p):=by
 intro i r hr
 obtain ⟨K,F,h⟩:=h
 have hi:i<p.length:=by
  unfold pg at hr
  exact (List.getElem?_eq_some_iff.1 hr).1
 have h1:=h.one i (by omega)
 have h2:=(h1.a r hr).2
 have h3:=g.od h1.il
 have h4:=h1.e
 have h5:=h1.t
 omega
theorem s54 {m:LoomMill} {l:List Z5} (g:He m l) {p:List Z3} (hl:p.length<l.length) (hc:Cpl m l p) {f:List (Int × Z3)} (hf:∀ j,gm f j=pg p j) :
    Yes (f22 ⟨m,l⟩ (p.length:Int) f) fun r=>r.1=true∧∃ x,Least1 m l p x∧∀ j,gm r.2 j=pg (p++[x]) j:=by
  have hl7:=g.l7
  have hw3:=g.w3
  have hpl:=Nm hl7
  unfold f22
  rw [Hs (l:=l) (by omega) (by omega),Option.bind_some]
  have go:=g.od hl
  generalize hx:od l (p.length:Int)=x at go
  refine Yes.jn ?_
  obtain ⟨lo,hlo⟩:∃ lo:Nat,x.Early=(lo:Int):=⟨x.Early.toNat,by omega⟩
  rw [hlo]
  obtain ⟨hi,hhi2⟩:∃ hi:Nat,lo≤hi∧hi≤1000∧∀ t:Nat,lo≤t→(t<hi↔(t:Int)+x.Woven≤x.Late):=by
    by_cases hc:x.Late-x.Woven+1≤lo
    · exact ⟨lo,Nat.le_refl _,by omega,fun t ht=>by omega⟩
    · exact ⟨(x.Late-x.Woven+1).toNat,by omega,by omega,fun t ht=>by omega⟩
  have hmem:∀ k:Nat,(k:Int)∈Cr m↔k<m.Widths.length:=fun k=>by
    have hpw:=Nm (show m.Widths.length≤7 by omega)
    unfold Cr
    rw [Aa (Wh (by omega)),Bb];exact decide_eq_true_iff
  -- the looms,by their places
  have hlist:Cr m=(List.range m.Widths.length).map fun (k:Nat)=>(k:Int):=by
    have hpw:=Nm (show m.Widths.length≤7 by omega)
    unfold Cr Uh
    rw [← R7 (n:=m.Widths.length) (by rw [Nat.shiftRight_eq_div_pow];exact Nat.div_eq_of_lt (by omega)) (by omega)]
    congr 1
    rw [List.filter_eq_self]
    intro k hk
    rw [Bb];exact decide_eq_true (List.mem_range.1 hk)
  have hdp:=cpl_days g (by omega) hc
  refine Yes.rng (σ:=List (Int × Z3)) (fun z t=>(z,(t:Int))) lo hi (fun t z=>(∀ j,j≠p.length→gm z j=pg p j)∧∀ (t' k:Nat),lo≤t'→t'<t→¬ Cpl m l (p++[⟨(p.length:Int),(k:Int),(t':Int)⟩])) f rfl hhi2.1 (by omega) ⟨fun j _=>hf j,fun t' k h1 h2=>absurd h2 (by omega)⟩ (fun t z kk ht1 ht2 hI hk=>?_) (fun z kk hI=>?_)
  · have hta := (hhi2.2.2 t ht1).1 ht2
    have h2:decide (w64 ((t:Int)+x.Woven)≤x.Late)=true:=by
      rw [Qg (by omega) (by omega)];exact decide_eq_true hta
    dsimp only
    refine Yes.jn ?_
    rw [h2,cond_true]
    refine Yes.jn ?_
    rw [s52 g,Option.bind_some]
    show Yes (lp _ big (z,(0:Int))) _
    have hlen:(Uh (2 ^ m.Widths.length-1)).length=m.Widths.length:=by
      have:Uh (2 ^ m.Widths.length-1)=_:=hlist
      rw [this];simp
    have hget:∀ k,k<m.Widths.length→idx (Uh (2 ^ m.Widths.length-1)) (k:Int)=some (k:Int):=fun k hk=>by
      have:Uh (2 ^ m.Widths.length-1)=_:=hlist
      rw [this,Ue (by simpa using hk)];simp
    refine Yes.rng (σ:=List (Int × Z3)) (fun z k=>(z,(k:Int))) 0 m.Widths.length (fun k z=>(∀ j,j≠p.length→gm z j=pg p j)∧∀ k':Nat,k'<k→¬ Cpl m l (p++[⟨(p.length:Int),(k':Int),(t:Int)⟩])) z rfl (Nat.zero_le _) (by omega) ⟨hI.1,fun _ h=>absurd h (Nat.not_lt_zero _)⟩ (fun k z' kk' _ hkw hI' hk'=>?_) (fun z' kk' hI'=>?_)
    · have h3 : decide ((k : Int) < ((Uh (2 ^ m.Widths.length - 1)).length : Int)) = true := by rw [hlen]; exact decide_eq_true (Int.ofNat_lt.2 hkw)
      dsimp only
      rw [h3,cond_true]
      refine Yes.jn ?_
      rw [hget k hkw,Option.bind_some,Option.bind_some]
      have hgz:∀ j,gm (H4 z' (p.length:Int) ⟨(p.length:Int),(k:Int),(t:Int)⟩) j=pg (p++[⟨(p.length:Int),(k:Int),(t:Int)⟩]) j:=fun j=>by
        rw [gm_set,B4]
        split
        · rfl
        · rename_i hj;exact hI'.1 j hj
      have hdz:Days (gm (H4 z' (p.length:Int) ⟨(p.length:Int),(k:Int),(t:Int)⟩)):=fun j r hr=>by
        rw [hgz,B4] at hr
        split at hr
        · cases hr;simp only;omega
        · exact hdp j r hr
      have h51:=s51 g hdz (Rt _) (E8 m (by omega))
      unfold Cr at h51
      rw [h51,Option.bind_some,s53 g,Option.bind_some]
      obtain ⟨v,hv,hvi⟩:=Ab (n:=l.length) (s:=2 ^ l.length-1) (P:=Jj m l (gm (H4 z' (p.length:Int) ⟨(p.length:Int),(k:Int),(t:Int)⟩)) (Uh (2 ^ m.Widths.length-1))) (by omega)
      rw [hv,Option.bind_some]
      have hvc:v=true↔Cpl m l (p++[⟨(p.length:Int),(k:Int),(t:Int)⟩]):=hvi.trans ((N9 (by omega)).trans (N1 hgz))
      cases v with
      | true=>
        have hcc:=hvc.1 rfl
        refine Yes.some ⟨rfl,_,⟨hcc,rfl,fun r' ho' hc'=>?_⟩,hgz⟩
        obtain ⟨⟨k',hk1,hk2⟩,he,hla⟩:=Bw hl hc'
        obtain ⟨a,b,c⟩:=r'
        simp only at ho' hk1 he ⊢
        subst ho' hk1
        rw [hx,hlo] at he
        obtain ⟨t',rfl⟩:∃ t':Nat,c=(t':Int):=⟨c.toNat,by omega⟩
        by_cases hlt:t'<t
        · exact absurd hc' (hI.2 t' k' (by omega) hlt)
        · by_cases heq : t = t'
          · subst heq
            by_cases hkk:k'<k
            · exact absurd hc' (hI'.2 k' hkk)
            · exact .inr ⟨rfl,by omega⟩
          · exact .inl (by omega)
      | false=>
        rw [cond_false]
        dsimp only
        rw [Kd (by omega)]
        refine hk' _ ⟨fun j hj=>?_,fun k' hk2=>?_⟩
        · rw [gm_set,if_neg hj];exact hI'.1 j hj
        · by_cases hkk : k' = k
          · subst hkk;exact fun h=>by have:=hvc.2 h;cases this
          · exact hI'.2 k' (by omega)
    · have h3 : decide ((m.Widths.length : Int) < ((Uh (2 ^ m.Widths.length - 1)).length : Int)) = false := by rw [hlen]; simp
      dsimp only
      rw [h3,cond_false]
      rw [Kd (by omega)]
      refine hk _ ⟨hI'.1,fun t' k h1 h2 hc'=>?_⟩
      by_cases htt:t'=t
      · subst htt
        obtain ⟨⟨k',hk1,hk2⟩,_⟩:=Bw hl hc'
        have hkk : k = k' := by have : (k : Int) = k' := hk1
                                omega
        subst hkk
        exact hI'.2 k hk2 hc'
      · exact hI.2 t' k h1 (by omega) hc'
  · exfalso
    obtain ⟨k,d',hc'⟩:=cpl_next hl hc
    obtain ⟨⟨k',hk1,hk2⟩,he,hla⟩:=Bw hl hc'
    rw [hx] at he hla
    simp only at he hla
    obtain ⟨t',rfl⟩:∃ t':Nat,d'=(t':Int):=⟨d'.toNat,by omega⟩
    exact hI.2 t' k (by omega) ((hhi2.2.2 t' (by omega)).2 hla) hc'
theorem pg_nil (j:Nat):gm [] j=pg [] j:=rfl
theorem s17 (m:LoomMill) (l:List Z5):Yes (f6 m l) fun r=>(Jk m l≠0→r=([],Jk m l))∧(Jk m l=0→(Cpl m l []→r.2=0∧Grd m l [] r.1)∧(¬ Cpl m l []→r=([],9))):=by
 unfold f6
 rw [s50,Option.bind_some]
 by_cases hc:Jk m l=0
 ·have g:=Xb hc
  have hl7:=g.l7
  have hw3:=g.w3
  have hpl:=Nm hl7
  have hor:Yc m l=(⟨m,l⟩,0):=by simp [Yc,hc]
  rw [hor]
  have h0:((0:Int) != 0)=false:=rfl
  refine Yes.jn ?_
  rw [h0,cond_false]
  refine Yes.jn ?_
  dsimp only
  rw [s52 g,Option.bind_some]
  have h51:=s51a g
  unfold Cr at h51
  rw [h51,Option.bind_some,s53 g,Option.bind_some]
  obtain ⟨v,hv,hvi⟩:=Ab (n:=l.length) (s:=2 ^ l.length-1) (P:=Jj m l ng (Uh (2 ^ m.Widths.length-1))) (by omega)
  rw [hv,Option.bind_some]
  have hvc:v=true↔Cpl m l []:=hvi.trans ((N9 (by omega)).trans (N1 fun _=>rfl))
  cases v with
  | false=>
   have hno:¬ Cpl m l []:=fun h=>by have:=hvc.2 h;cases this
   exact Yes.some ⟨fun h=>absurd hc h,fun _=>⟨fun h=>absurd h hno,fun _=>rfl⟩⟩
  | true=>
   have hcc:=hvc.1 rfl
   rw [Bool.not_true,cond_false]
   refine Yes.jn ?_
   refine Yes.rng (σ := List Z3 × List (Int × Z3)) (fun s i => (s.1, s.2, (i : Int))) 0 l.length (fun i s => s.1.length = i ∧ Sr s.1 ∧ Cpl m l s.1 ∧ (∀ j, gm s.2 j = pg s.1 j) ∧ ∀ q, Grd m l s.1 q → Grd m l [] q) ([], []) rfl (Nat.zero_le _) (by omega)
    ⟨rfl,fun i hi=>absurd hi (Nat.not_lt_zero _),hcc,pg_nil,fun _ h=>h⟩ (fun i s kk _ hi hI hk=>?_) (fun s kk hI=>?_)
   ·obtain ⟨p,f⟩:=s
    obtain ⟨rfl,hp,hcp,hf,hg⟩:=hI
    simp only at hi hp hcp hf hg hk
    dsimp only
    have h1:decide ((p.length:Int)<(l.length:Int))=true:=decide_eq_true (Int.ofNat_lt.2 hi)
    rw [h1,cond_true]
    refine Yes.jn ?_
    refine Yes.jn ?_
    obtain ⟨r,hr,hr1,x,hx,hrx⟩:=s54 g hi hcp hf
    rw [hr,Option.bind_some,hr1,Bool.not_true,cond_false]
    dsimp only
    have hgx:Qo r.2 (p.length:Int)=some x:=by
     have:=hrx p.length
     rw [B4,if_pos rfl] at this
     exact this
    rw [hgx,apnd24' (by omega) (by simp),Option.bind_some,Kd (by omega)]
    refine hk (p++[x],r.2) ⟨by simp,hp.app hx.o,hx.c,hrx,fun q hq=>hg q (.step hi hx hq)⟩
   ·obtain ⟨p,f⟩:=s
    obtain ⟨h1,hp,hcp,hf,hg⟩:=hI
    simp only at h1 hg
    dsimp only
    have h2:decide ((l.length:Int)<(l.length:Int))=false:=by simp
    rw [h2,cond_false]
    exact Yes.some ⟨fun h=>absurd hc h,fun _=>⟨fun _=>⟨rfl,hg p (.done h1)⟩,fun h=>absurd hcc h⟩⟩
 ·have hor:Yc m l=(⟨⟨[],0⟩,[]⟩,Jk m l):=by simp [Yc,hc]
  have h0:(Jk m l != 0)=true:=by simp [hc]
  rw [hor]
  refine Yes.jn ?_
  rw [h0,cond_true]
  exact Yes.some ⟨fun _=>rfl,fun h=>absurd h hc⟩
theorem grd_len {m:LoomMill} {l:List Z5} {p q:List Z3} (h:Grd m l p q):q.length=l.length:=by
 induction h with
 | done h=>exact h
 | step _ _ _ ih=>exact ih
theorem M9 {l:List Z5} {x:Z5} {j:Nat} (h:j≤l.length):od (l++[x]) (j:Int)=if j=l.length then x else od l (j:Int):=by
 unfold od
 rw [Int.toNat_natCast]
 split
 ·rename_i he;subst he;simp
 ·rw [List.getElem?_append_left (by omega)]
structure Made (m:LoomMill) (l:List Z5) (p:List Z3):Prop where
 ok:Jk m l=0
 n:p.length=l.length
 seq:Sr p
 fits:C5 m l p
 c5:m.Change≤5
 w15:∀ j:Nat,j<l.length→(od l j).Woven≤15
 b:∀ j,j<p.length→(rn p j).From+(od l j).Woven≤154
 w29:∀ x∈m.Widths,x≤29
theorem apnd40 {xs:List Z5} {y:Z5} (h:xs.length≤1000):apnd 40 xs [y]=some (xs++[y]):=by
 unfold apnd;rw [if_pos ⟨by simp;omega,by simp;omega⟩]
theorem grd_seq {m:LoomMill} {l:List Z5} {p q:List Z3} (h:Grd m l p q):Sr p→Sr q:=by
 induction h with
 | done _=>exact fun h=>h
 | step _ hr _ ih=>exact fun h=>ih (h.app hr.o)
theorem grd_cpl {m:LoomMill} {l:List Z5} {p q:List Z3} (h:Grd m l p q):Cpl m l p→Cpl m l q:=by
 induction h with
 | done _=>exact fun h=>h
 | step _ hr _ ih=>exact fun _=>ih hr.c
theorem seq_nil:Sr []:=fun i hi=>absurd hi (Nat.not_lt_zero _)
theorem Fu {m:LoomMill} {l:List Z5} {p:List Z3} (g:He m l) (hs:Sr p) (hn:p.length≤l.length) {K:Nat→Nat} {F:Nat→Int} (h:Ud m l (fun i=>i<p.length) (Kq (pg p)) K F) {i:Nat} (hi:i<p.length) :
  (rn p i).Order=(i:Int)∧(rn p i).Loom=(K i:Int)∧(rn p i).From=F i∧K i<m.Widths.length∧0≤F i∧F i+(od l i).Woven≤300:=by
 obtain ⟨h1,h2⟩:=Cn h hi hi
 have h3:=h.one i hi
 have h4:=g.od h3.il
 have h5:=h3.e
 have h6:=h3.t
 exact ⟨hs i hi,h1,h2,h3.kw,by omega,by omega⟩
def wf (x:Z3) (f:Int):Z3:=⟨x.Order,x.Loom,f⟩
noncomputable def pdy (m:LoomMill) (l:List Z5) (st:LoomStop) (last:Option Z3) (x:Z3):Int:=
 if Yx l st (wf x (match last with | none=>x.From | some y=>max x.From (Ya m l y x.Order))) then st.Days.High+1 else (match last with | none=>x.From | some y=>max x.From (Ya m l y x.Order))
theorem Iv {m:LoomMill} {l:List Z5} {st:LoomStop} {last:Option Nat} {r:List Z3} {i:Nat}:Dl m l st last r i=pdy m l st (last.map (rn r)) (rn r i):=by
 unfold Dl pdy Dt
 cases last<;>simp only [Option.map_none,Option.map_some,max_is]<;>rfl
theorem Dg {m:LoomMill} {l:List Z5} {st:LoomStop} {a:Nat} {A:List Nat} {last:Option Nat} {r:List Z3}:Jb m l st last (a::A) r=Jb m l st (some a) A (r.set a (wf (rn r a) (pdy m l st (last.map (rn r)) (rn r a)))):=by
 rw [← Iv];rfl
theorem Fp {m:LoomMill} {l:List Z5} {st:LoomStop}:∀ (A:List Nat) (last:Option Nat) (r:List Z3),(Jb m l st last A r).length=r.length
 | [],_,_=>rfl
 | a::A,last,r=>by rw [Dg,Fp A];simp
theorem V8 {m:LoomMill} {l:List Z5} {st:LoomStop} {i:Nat}:∀ (A:List Nat) (last:Option Nat) (r:List Z3),i∉A→(∀ a∈A,a<r.length)→rn (Jb m l st last A r) i=rn r i
 | [],_,_,_,_=>rfl
 | a::A,last,r,h,hl=>by
  rw [Dg,V8 A _ _ (fun k=>h (by simp [k])) (fun b hb=>by rw [List.length_set];exact hl b (by simp [hb])),B8 (hl a (by simp)),if_neg (fun e=>h (by simp [e]))]
def prvA (last:Option Nat) (A:List Nat) (k:Nat):Option Nat:=match k with
 | 0=>last
 | k+1=>A[k]?
theorem Me {m:LoomMill} {l:List Z5} {st:LoomStop}:∀ (A:List Nat) (last:Option Nat) (r:List Z3),A.Nodup→(∀ a∈A,a<r.length)→(∀ j,last=some j→j∉A)→∀ (k a:Nat),A[k]?=some a →
  rn (Jb m l st last A r) a=wf (rn r a) (pdy m l st ((prvA last A k).map (rn (Jb m l st last A r))) (rn r a))
 | [],_,_,_,_,_,k,a,h=>by simp at h
 | b::B,last,r,hn,hl,hlast,k,a,h=>by
  obtain ⟨hb,hB⟩:=List.nodup_cons.1 hn
  have hbl:=hl b (by simp)
  have hlB:∀ x∈B,x<(r.set b (wf (rn r b) (pdy m l st (last.map (rn r)) (rn r b)))).length:=fun x hx=>by rw [List.length_set];exact hl x (by simp [hx])
  rw [Dg]
  cases k with
  | zero=>
   obtain rfl:b=a:=by simpa using h
   have h1:=V8 (m:=m) (l:=l) (st:=st) B (some b) _ hb hlB
   rw [B8 hbl,if_pos rfl] at h1
   rw [h1]
   congr 2
   unfold prvA
   cases last with
   | none=>rfl
   | some j=>
    have hj:=hlast j rfl
    have h2:=V8 (m:=m) (l:=l) (st:=st) (i:=j) B (some b) _ (fun k=>hj (by simp [k])) hlB
    rw [B8 hbl,if_neg (fun e=>hj (by simp [e]))] at h2
    simp only [Option.map_some] at h2 ⊢
    rw [h2]
  | succ k=>
   have h':B[k]?=some a:=by simpa using h
   have haB:a∈B:=List.mem_of_getElem? h'
   have hab:a≠b:=fun e=>hb (e▸haB)
   have h1:=Me (m:=m) (l:=l) (st:=st) B (some b) _ hB hlB (fun j e=>by cases e;exact hb) k a h'
   rw [B8 hbl,if_neg hab] at h1
   rw [h1]
   congr 3
   cases k<;>simp [prvA]
structure Psh (m:LoomMill) (l:List Z5) (st:LoomStop) (p q:List Z3):Prop where
 n:q.length=p.length
 seq:Sr q
 out:∀ i,i<p.length→(rn p i).Loom≠st.Loom→rn q i=rn p i
 loom:∀ i,i<p.length→(rn q i).Loom=(rn p i).Loom
 le:∀ i,i<p.length→(rn p i).From≤(rn q i).From
 top:∀ i,i<p.length→(rn q i).From≤300
 still:∀ i,i<p.length→(rn p i).Loom=st.Loom→¬ Yx l st (rn q i)
 sep:∀ i j,i<p.length→j<p.length→i≠j→(rn p i).Loom=(rn p j).Loom→(rn q i).From≤(rn q j).From→(rn q i).From+(od l (i:Int)).Woven+gap m l i j≤(rn q j).From
 why:∀ i,i<p.length→rn q i≠rn p i→(rn p i).Loom=st.Loom∧(rn p i).From<(rn q i).From∧((rn q i).From=st.Days.High+1∨∃ j,j<p.length∧j≠i∧(rn p j).Loom=(rn p i).Loom∧(rn q i).From=(rn q j).From+(od l (j:Int)).Woven+gap m l j i)
 same:(∀ i,i<p.length→(rn p i).Loom=st.Loom→¬ Yx l st (rn p i))→∀ i,i<p.length→rn q i=rn p i
end Go.Proofs.YtpglkdijpcgcaaaGreatDoor
