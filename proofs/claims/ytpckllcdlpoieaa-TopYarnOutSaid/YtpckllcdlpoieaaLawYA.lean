/- Laws of plain functions, part 4. -/
import Derived.Test.YtpckllcdlpoieaaBoxT3
set_option maxRecDepth 8000
namespace Go.Proofs.Ytpckllcdlpoieaa
open Go.RowKit
open Classical
theorem s17 {l:BoxLoom} {cs:List Int} (hl:LOk l) (h24:cs.length ≤ 24) (hc:cs.all (btw 0 9)=true):f10 l cs=some (if (rf cs l).2.2=cs.length then ((rf cs l).1,(rf cs l).2.1,0,0) else ([],0,(rf cs l).2.2,9)):=by
 have hR:=rf_ok cs (by omega) hl
 have hfar:=hR.far
 refine Yes.eq ?_
 unfold f10
 refine qbind _ (s51 l hl.sml) (Yes.jn (qskip (by rw [chk0.2 hl]; rfl) (qskip (decide_eq_false (by omega)) (qbind _ (s52 cs (by omega)) (qskip (by rw [hc]; rfl) (qbind _ (s53 cs (by omega)) (qbind _ (s54r hl) (Yes.jn ?_))))))))
 refine Yes.upto cs.length (by omega) (fun t s=>(t:Int) ≤ (rf cs l).2.2∧s=[]) ⟨hfar.1,rfl⟩ (fun t s k ht hI hk=>?_) (fun s k hI=>?_)
 ·obtain ⟨hI, rfl⟩ := hI
  have hcut:cut (sgl cs) 0 (w64 ((t:Int) + 1))=some (sgl (cs.take (t + 1))):=by
   rw [w64_id (by omega) (by omega)]
   unfold cut
   rw [if_pos ⟨by omega,by omega,by rw [sgl_len]; omega⟩,show ((t:Int) + 1).toNat=t + 1 by omega]
   simp [sgl,List.map_take]
  have hlen':(cs.take (t + 1)).length ≤ 1000:=by simp; omega
  have hv:Vs (cs.take (t + 1)) ⟨0,0,rc l⟩ (t + 1):=⟨0,rfl,rfl,by simp; omega⟩
  refine qtake (by simp; omega) (Yes.jn (qbind _ (s56 hl) (qbind _ hcut (Yes.bind ((s57 hl (pts_sgl hlen') (t + 1) big (by unfold big; omega) hl rfl rfl hv kok_nil).mono fun r hr=>?_)))))
  obtain ⟨hr,_⟩:=hr
  rw [cst_cL hlen' (t + 1) hl rfl rfl hv,show (cs.take (t + 1)).length - (t + 1)=0 by simp; omega,List.drop_zero] at hr
  have hp:=hR.pre (t + 1) (by omega)
  refine Yes.cond (fun hc=>Yes.some ?_) (fun hc=>hk _ ⟨?_,rfl⟩)
  ·have hge : r.1 ≥ never := of_decide_eq_true hc
   have:¬ ((t + 1:Nat):Int) ≤ (rf cs l).2.2:=fun h=>by have:=hp.2 h; omega
   rw [if_neg (by omega),show (rf cs l).2.2=(t:Int) by omega]
  ·have hlt : ¬ r.1 ≥ never := of_decide_eq_false hc
   exact hp.1 (by omega)
 ·obtain ⟨hI, rfl⟩ := hI
  have hall:(rf cs l).2.2=cs.length:=by omega
  have hlt:=hR.all.2 hall
  have hv:Vs cs ⟨0,0,rc l⟩ cs.length:=⟨0,rfl,rfl,by omega⟩
  rw [if_pos hall]
  refine qskip (by simp) (qbind _ (s56 hl) (Yes.bind ((s57 hl (pts_sgl (by omega)) cs.length big (by unfold big; omega) hl rfl rfl hv kok_nil).mono fun r hr=>?_)))
  obtain ⟨hr,hk⟩:=hr
  rw [cst_cL (by omega) cs.length hl rfl rfl hv,Nat.sub_self,List.drop_zero,← hR.mv hlt] at hr
  rw [hr]
  refine Yes.bind (Yes.mono (Q':=fun s=>s.1=(rf cs l).1) ?_ fun s hs=>Yes.some (by rw [hs]))
  refine Yes.lp (fun s=>∃ k n,LOk n∧n.Boxes=l.Boxes∧s.2.1.race=rc n∧Vs cs s.2.1 k∧KOk (nbx l 0) (nbx l 1) (sgl cs) (Vs cs) s.2.2∧s.1 ++ (rf (cs.drop (cs.length - k)) n).1=(rf cs l).1∧cL (cs.drop (cs.length - k)) n < never∧s.1.length + k=cs.length) (fun s=>cs.length - s.1.length) ⟨cs.length,l,hl,rfl,rfl,hv,hk,by rw [Nat.sub_self,List.drop_zero]; rfl,by rw [Nat.sub_self,List.drop_zero]; exact hlt,by simp⟩ (by simp; omega) ?_
  rintro ⟨ps,pt,m⟩ kk ⟨k,n,a1,a2,a3,a4,a5,a6,a7,a8⟩ hkk
  simp only at a3 a4 a5 a6 a8
  have hz:=(pts_sgl (cs:=cs) (by omega)).zero a4
  rw [sgl_len] at hz
  obtain ⟨g,g1,g2,g3⟩:=id a4
  refine Yes.jn (Yes.cond (fun hc2=>?_) (fun hc2=>Yes.some ?_))
  ·have hlt2 : pt.group < ((sgl cs).length : Int) := of_decide_eq_true hc2
   rw [sgl_len] at hlt2
   obtain ⟨k,rfl⟩:∃ k',k=k' + 1:=⟨k - 1,by omega⟩
   refine Yes.bind (Yes.bind ((s58 hl (by omega) (by omega) a1 a2 a3 a4 a5 a7).mono fun b hb=>Yes.bind (Yes.apnd (by simp; omega) (by simp; omega) (Yes.some ?_))))
   obtain ⟨n',b1,b2,b3,b4,b5,b6,b7⟩:=hb
   refine hkk _ ⟨k,n',b1,b2,b3,b4,b5,?_,b7,by simp; omega⟩ ?_
   ·show (ps ++ [b.1]) ++ _ = _
    rw [← a6,b6]; simp
   ·show cs.length - (ps ++ [b.1]).length < cs.length - ps.length
    simp; omega
  ·have hge : ¬ pt.group < ((sgl cs).length : Int) := of_decide_eq_false hc2
   rw [sgl_len] at hge
   have hk0:k=0:=by omega
   subst hk0
   rw [Nat.sub_zero,List.drop_length,rf,List.append_nil] at a6
   exact a6
theorem oneL_cols {l:BoxLoom} (hd:Dst l.Shuttles) {p:BoxPick} {n:BoxLoom} {i:Nat} {m:Int} (h:oneL l p=some (n,i,m)) (t:List Nat):t.map (colr n)=t.map (colr l):=List.map_congr_left fun j _=>oneL_colr hd h j
theorem rf_plan : ∀ (cs : List Int) {l : BoxLoom}, cs.length ≤ 1000 → LOk l → cL cs l < never → (∃ n, thr l (rf cs l).1 = some n) ∧ (∀ p ∈ (rf cs l).1, okP l.Boxes p = true) ∧ (thl l (rf cs l).1).map (colr l) = cs ∧ mvt l (rf cs l).1 = cL cs l
 | [],l,_,_,_=>by rw [rf,cL]; exact ⟨⟨l,by rw [thr]⟩,by simp,by rw [thl]; rfl,by rw [mvt]⟩
 | c :: cs,l,hlen,hl,hlt=>by
  simp only [List.length_cons] at hlen
  obtain ⟨x1,p,x2,x,z1,z2,z3,z4,_⟩:=rf_first (by omega) hl hlt
  have hpa:p ∈ allP l:=by rw [z1]; simp
  obtain ⟨w1,w2,w3,w4⟩:=wv_ok hl hpa z2
  obtain ⟨⟨n,i1⟩,i2,i3,i4⟩:=rf_plan cs (by omega) w1 (by omega)
  have ho:oneL l p=some (x.1,x.2.1,x.2.2):=z2.1
  rw [z4]
  refine ⟨⟨n,by rw [thr_cons,ho]; exact i1⟩,fun q hq=>?_,?_,?_⟩
  ·rcases List.mem_cons.1 hq with rfl | hq
   ·exact (mem_allP hl).1 hpa
   ·rw [← w2]; exact i2 q hq
  ·rw [thl, ho]
   show (x.2.1 :: thl x.1 (rf cs x.1).1).map (colr l)=_
   rw [List.map_cons,← oneL_cols hl.dst ho,i3,z2.2]
  ·rw [mvt, ho]
   show x.2.2 + mvt x.1 (rf cs x.1).1=_
   rw [i4,z3]
theorem s17p {l:BoxLoom} {cs:List Int} (hl:LOk l) (h24:cs.length ≤ 24) (hc:cs.all (btw 0 9)=true) (hlt:cL cs l < never):f10 l cs=some ((rf cs l).1,cL cs l,0,0):=by
 have hR:=rf_ok cs (by omega) hl
 rw [s17 hl h24 hc,if_pos (hR.all.1 hlt),hR.mv hlt]
end Go.Proofs.Ytpckllcdlpoieaa
/- Plain laws: as many picks as a length has. -/
set_option maxRecDepth 8000
namespace Go.Proofs.Ytpckllcdlpoieaa
open Go.RowKit
open Classical

theorem rem_nn {a b:Int} (ha:0 ≤ a) (hb:0 < b):rem64 a b=some (a % b):=by
 unfold rem64; rw [if_neg (by omega),Int.tmod_eq_emod_of_nonneg ha]
theorem b230 (x a b:Int):f230 x a b=some (!btw a b x):=by unfold f230 btw; by_cases h1:x < a <;> by_cases h2:x > b <;> simp [h1,h2] <;> omega
theorem b155 (a b:Int) (xs:List Int) (hl:xs.length < 9223372036854775807):f155 a b xs=some (xs.all (btw a b)):=by
 unfold f155
 rw [s103 xs _ (fun x=>!btw a b x) hl fun x _=>b230 x a b]
 simp [List.all_eq_not_any_not]
theorem b154 (xs:List Int) (hl:xs.length < 9223372036854775807):f154 xs=some (xs.all (btw 1 100)):=by unfold f154; rw [b155 _ _ _ hl]; rfl
theorem b156 (xs:List BeamPair) (φ:BeamPair→Option Bool) (p:BeamPair→Bool) (hl:xs.length < 9223372036854775807) (h:∀ a ∈ xs,φ a=some (p a)):f156 xs φ=some (xs.any p):=by
 obtain ⟨r,hr,hq⟩:=index_is xs φ p hl h
 have hr:f231 xs φ=some r:=hr
 unfold f156; rw [hr]; simp only [Option.bind_some]; rw [index_any hq]
def TkOk (t:BeamTake):Prop:=∃ r s a b u:Int,t=⟨r,s,[⟨a,b⟩],u⟩∧(20 ≤ r∧r ≤ 100)∧(1 ≤ s∧s ≤ 5)∧(10 ≤ a∧a ≤ 100)∧(10 ≤ b∧b ≤ 100)∧100000 ≤ u∧u ≤ 355000
theorem s19t (v:Vector UInt8 4):Yes (f19 v) TkOk:=by
 have byte:∀ u:UInt8,(0:Int) ≤ (u.toNat:Int)∧(u.toNat:Int) ≤ 255:=fun u=>by have:=u.toNat_lt; omega
 unfold f19
 refine qbind _ (vidx v (i:=0) (by omega)) (qbind _ (rem_nn (byte _).1 (by omega)) (qbind _ (vidx v (i:=1) (by omega)) (qbind _ (rem_nn (byte _).1 (by omega)) (qbind _ (vidx v (i:=2) (by omega)) (qbind _ (rem_nn (byte _).1 (by omega)) (qbind _ (vidx v (i:=3) (by omega)) (qbind _ (rem_nn (byte _).1 (by omega)) (qbind _ (vidx v (i:=0) (by omega)) (Yes.some ⟨_,_,_,_,_,rfl,?_⟩)))))))))
 have h0:=byte v[0]; have h1:=byte v[1]; have h2:=byte v[2]; have h3:=byte v[3]
 rw [w64_id (n:=(20:Int) + _) (by omega) (by omega),w64_id (n:=(1:Int) + _) (by omega) (by omega),w64_id (n:=(10:Int) + (v[2].toNat:Int) % 91) (by omega) (by omega),w64_id (n:=(10:Int) + (v[3].toNat:Int) % 91) (by omega) (by omega),w64_id (n:=(1000:Int) * _) (by omega) (by omega),w64_id (n:=(100000:Int) + _) (by omega) (by omega)]
 omega
theorem s25t {t:BeamTake} (h:TkOk t):f25 t=some t:=by
 obtain ⟨r,s,a,b,u,rfl,_⟩:=h
 refine Yes.eq ?_
 unfold f25
 exact Yes.bind (Yes.apnd (by simp) (by simp) (Yes.some rfl))
theorem mul_rng {a b A B:Int} (ha:0 ≤ a∧a ≤ A) (hb:0 ≤ b∧b ≤ B):0 ≤ a * b∧a * b ≤ A * B:=⟨Int.mul_nonneg ha.1 hb.1,Int.mul_le_mul ha.2 hb.2 hb.1 (by omega)⟩
theorem mul_lo {a b A B:Int} (ha:A ≤ a) (hb:B ≤ b) (hA:0 ≤ A) (hB:0 ≤ B):A * B ≤ a * b:=Int.mul_le_mul ha hb hB (by omega)
theorem s20t {t : BeamTake} (h : TkOk t) : Yes (f20 t) (fun r => (1000000 ≤ r.1 ∧ r.1 ≤ 177500000) ∧ (200 ≤ r.2 ∧ r.2 ≤ 10000) ∧
  ∃ a b,t.Pairs=[⟨a,b⟩]∧r.1=t.Round * t.Step * a∧r.2=t.Ratchet * b):=by
 obtain ⟨r,s,a,b,u,rfl,hr,hs,ha,hb,hu⟩:=h
 unfold f20
 refine qbind _ (qidx (i:=0) (by simp)) (qbind _ (qidx (i:=0) (by simp)) (Yes.some ?_))
 simp only [List.getElem_cons_zero]
 have e1:=mul_rng (a:=u) (b:=s) (A:=355000) (B:=5) ⟨by omega,by omega⟩ ⟨by omega,by omega⟩
 have e2:=mul_rng (a:=u * s) (b:=a) (A:=1775000) (B:=100) ⟨e1.1,by omega⟩ ⟨by omega,by omega⟩
 have e3:=mul_rng (a:=r) (b:=b) (A:=100) (B:=100) ⟨by omega,by omega⟩ ⟨by omega,by omega⟩
 have l1:=mul_lo (a:=u) (b:=s) (A:=100000) (B:=1) (by omega) (by omega) (by omega) (by omega)
 have l2:=mul_lo (a:=u * s) (b:=a) (A:=100000) (B:=10) (by omega) (by omega) (by omega) (by omega)
 have l3:=mul_lo (a:=r) (b:=b) (A:=20) (B:=10) (by omega) (by omega) (by omega) (by omega)
 rw [w64_id (n:=u * s) (by omega) (by omega),w64_id (n:=u * s * a) (by omega) (by omega),w64_id (n:=r * b) (by omega) (by omega)]
 exact ⟨by omega,by omega,a,b,rfl,rfl,rfl⟩
theorem s79t {t:BeamTake} (h:TkOk t):f79 t=some 0:=by
 obtain ⟨r,s,a,b,u,rfl,hr,hs,ha,hb,hu⟩:=h
 refine Yes.eq ?_
 unfold f79
 have t1:∀ x y z:Int,x ≤ z→z ≤ y→(([z]:List Int).all (btw x y))=true:=fun x y z h1 h2=>by simp [btw_iff,h1,h2]
 refine Yes.jn (qskip (by simp) (Yes.bind ?_))
 refine qbind _ (b154 _ (by simp)) ?_
 rw [t1 1 100 r (by omega) (by omega)]
 refine qskip rfl (qbind _ (b155 _ _ _ (by simp)) ?_)
 rw [t1 1 5 s (by omega) (by omega)]
 refine qskip rfl (qbind _ (b155 _ _ _ (by simp)) ?_)
 rw [t1 1 500000 u (by omega) (by omega)]
 refine qskip rfl (qbind _ (b156 _ _ (fun p=>!(([p.Driver,p.Driven]:List Int).all (btw 1 100))) (by simp) fun p _=>?_) (Yes.some (qskip ?_ (Yes.some rfl))))
 ·unfold f153; rw [b154 _ (by simp)]; rfl
 ·have : btw 1 100 a = true := btw_iff.2 (by omega)
  have h2:btw 1 100 b=true:=btw_iff.2 (by omega)
  simp [this,h2]
theorem gcd_mod {a b:Int} (ha:0 ≤ a) (hb:0 < b):Int.gcd b (a % b)=Int.gcd a b:=by
 obtain ⟨x,rfl⟩:=Int.eq_ofNat_of_zero_le ha
 obtain ⟨y,rfl⟩:=Int.eq_ofNat_of_zero_le (show 0 ≤ b by omega)
 show Nat.gcd y (x % y)=Nat.gcd x y
 rw [Nat.gcd_comm y,← Nat.gcd_rec,Nat.gcd_comm]
theorem s157 {n d:Int} (hn:0 < n∧n ≤ 9223372036854775807) (hd:0 < d∧d ≤ 9223372036854775807):Yes (f157 ⟨⟨n,d⟩⟩) (fun r=>∃ g:Int,0 < g∧n=g * r.Ratio.Num∧d=g * r.Ratio.Den∧0 < r.Ratio.Num∧0 < r.Ratio.Den):=by
 unfold f157
 refine Yes.bind (Yes.lp (fun s=>0 < s.1∧0 ≤ s.2∧s.2 ≤ 9223372036854775807∧Int.gcd s.1 s.2=Int.gcd n d) (fun s=>s.2.toNat) ⟨hn.1,by show (0:Int) ≤ d; omega,hd.2,rfl⟩ (by show d.toNat < _; omega) ?_)
 rintro ⟨a,b⟩ k ⟨h1,h2,h3,h4⟩ hk
 simp only at h1 h2 h3 h4
 refine Yes.jn (Yes.cond (fun hc=>?_) (fun hc=>Yes.some ?_))
 ·have hb : 0 < b := of_decide_eq_true hc
  refine qbind _ (rem_nn (by omega) hb) (hk _ ⟨hb,Int.emod_nonneg _ (by omega),by have:=Int.emod_lt_of_pos a hb; show a % b ≤ _; omega,?_⟩ ?_)
  ·rw [← h4]
   exact gcd_mod (by omega) hb
  ·show (a % b).toNat < b.toNat
   have:=Int.emod_lt_of_pos a hb
   have:=Int.emod_nonneg a (show b ≠ 0 by omega)
   omega
 ·have hb : b = 0 := by have : ¬ b > 0 := of_decide_eq_false hc; omega
  subst hb
  have ha:a=(Int.gcd n d:Int):=by rw [← h4,Int.gcd_zero_right]; omega
  have d1:a ∣ n:=by rw [ha]; exact Int.gcd_dvd_left ..
  have d2:a ∣ d:=by rw [ha]; exact Int.gcd_dvd_right ..
  have q1:0 < n / a:=Int.ediv_pos_of_pos_of_dvd hn.1 (by omega) d1
  have q2:0 < d / a:=Int.ediv_pos_of_pos_of_dvd hd.1 (by omega) d2
  exact qbind _ (quo_nn (by show (0:Int) ≤ n; omega) hn.2 h1) (qbind _ (quo_nn (by show (0:Int) ≤ d; omega) hd.2 h1) (Yes.some ⟨a,h1,(Int.mul_ediv_cancel' d1).symm,(Int.mul_ediv_cancel' d2).symm,q1,q2⟩))
theorem s81t {t : BeamTake} (h : TkOk t) {n d : Int} (hn : 1000000 ≤ n ∧ n ≤ 177500000) (hd : 200 ≤ d ∧ d ≤ 10000) (hp : ∃ a b, t.Pairs = [⟨a, b⟩] ∧ n = t.Round * t.Step * a ∧ d = t.Ratchet * b) :
  Yes (f81 t) (fun r=>∃ g:Int,0 < g∧n=g * r.Ratio.Num∧d=g * r.Ratio.Den∧0 < r.Ratio.Num∧0 < r.Ratio.Den):=by
 obtain ⟨a',b',hp,hn',hd'⟩:=hp
 obtain ⟨r,s,a,b,u,rfl,hr,hs,ha,hb,hu⟩:=h
 obtain ⟨⟨rfl,rfl⟩,_⟩:(a=a'∧b=b')∧True:=by simpa using hp
 have e1:=mul_rng (a:=u) (b:=s) (A:=355000) (B:=5) ⟨by omega,by omega⟩ ⟨by omega,by omega⟩
 simp only at hn' hd'
 unfold f81
 refine Yes.bind (Yes.upto 1 (by omega) (fun i (x:BeamRatio)=>x=if i=0 then ⟨⟨u * s,r⟩⟩ else ⟨⟨n,d⟩⟩) ?_ (fun i x k hi hx hk=>?_) (fun x k hx=>?_))
 ·rw [if_pos rfl,w64_id (n:=u * s) (by omega) (by omega)]
 ·obtain rfl : i = 0 := by omega
  rw [if_pos rfl] at hx
  subst hx
  refine qtake rfl (Yes.bind (qbind _ (qidx (i:=0) (by simp)) (Yes.some (hk _ ?_))))
  rw [if_neg (by omega)]
  simp only [List.getElem_cons_zero]
  rw [← hn',← hd',w64_id (n:=n) (by omega) (by omega),w64_id (n:=d) (by omega) (by omega)]
 ·rw [if_neg (by omega)] at hx
  subst hx
  exact qskip rfl (Yes.some (Yes.bind ((s157 (n:=n) (d:=d) ⟨by omega,by omega⟩ ⟨by omega,by omega⟩).mono fun y hy=>Yes.some hy)))
theorem s24t {t : BeamTake} (h : TkOk t) {n d : Int} (hn : 1000000 ≤ n ∧ n ≤ 177500000) (hd : 200 ≤ d ∧ d ≤ 10000) (hp : ∃ a b, t.Pairs = [⟨a, b⟩] ∧ n = t.Round * t.Step * a ∧ d = t.Ratchet * b) {m : Int} (hm : 0 ≤ m ∧ m ≤ 12) :
  f24 t ((m * n + d - 1) / d)=some (m,0):=by
 refine Yes.eq ?_
 have e1:=mul_rng (a:=m) (b:=n) (A:=12) (B:=177500000) hm ⟨by omega,hn.2⟩
 have q0:0 ≤ (m * n + d - 1) / d:=Int.ediv_nonneg (by omega) (by omega)
 have q1:(m * n + d - 1) / d ≤ m * n + d - 1:=Int.ediv_le_self d (by omega)
 have q2:=Int.mul_ediv_add_emod (m * n + d - 1) d
 have q3:=Int.emod_nonneg (m * n + d - 1) (show d ≠ 0 by omega)
 have q4:=Int.emod_lt_of_pos (m * n + d - 1) (show 0 < d by omega)
 generalize hL:(m * n + d - 1) / d=L at *
 unfold f24
 refine Yes.jn (qbind _ (s79t h) (qskip rfl (Yes.jn ?_)))
 have hb:f80 [L]=some true:=by
  unfold f80; rw [b155 _ _ _ (by simp)]
  have:btw 0 10000000000 L=true:=btw_iff.2 (by omega)
  simp [this]
 refine qbind _ hb (qskip rfl (Yes.bind ((s81t h hn hd hp).mono fun y hy=>?_)))
 obtain ⟨g,hg,y1,y2,y3,y4⟩:=hy
 have gd:y.Ratio.Den ≤ d:=by
  have:=Int.mul_le_mul_of_nonneg_right (show 1 ≤ g by omega) (show 0 ≤ y.Ratio.Den by omega)
  omega
 have e2:=mul_rng (a:=L) (b:=y.Ratio.Den) (A:=2130009999) (B:=10000) ⟨q0,by omega⟩ ⟨by omega,by omega⟩
 rw [w64_id (n:=L * y.Ratio.Den) (by omega) (by omega)]
 refine qbind _ (quo_nn e2.1 (by omega) y3) (Yes.some ?_)
 have:L * y.Ratio.Den / y.Ratio.Num=m:=by
  rw [← Int.mul_ediv_mul_of_pos (L * y.Ratio.Den) y.Ratio.Num hg,← y1,Int.mul_left_comm,← y2,Int.mul_comm L d]
  have A:m ≤ d * L / n:=Int.le_ediv_of_mul_le (by omega) (by omega)
  have B:d * L / n < m + 1:=Int.ediv_lt_of_lt_mul (by omega) (by rw [Int.add_mul]; omega)
  omega
 rw [this]
end Go.Proofs.Ytpckllcdlpoieaa
