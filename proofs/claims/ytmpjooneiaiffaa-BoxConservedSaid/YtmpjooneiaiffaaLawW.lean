/- Plain laws: the yarn that is left; the picks of bytes, exactly. -/
import Derived.Test.YtmpjooneiaiffaaLawT
set_option maxRecDepth 8000
namespace Go.Proofs.Ytmpjooneiaiffaa
open Go.RowKit
open Classical

def dcr (s:Span) (n:Nat):Span:=⟨max 0 (s.Low - n),max 0 (s.High - n)⟩
def yl (l:BoxLoom) (t:List Nat):List Span:=l.Shuttles.mapIdx fun i s=>dcr s.Yarn (t.count i)
theorem yl_len {l:BoxLoom} {t:List Nat}:(yl l t).length=l.Shuttles.length:=by simp [yl]
theorem yl_at {l:BoxLoom} {t:List Nat} {i:Nat} (h:i < (yl l t).length) (h':i < l.Shuttles.length):(yl l t)[i]=dcr l.Shuttles[i].Yarn (t.count i):=by simp [yl]
theorem yarn_rng {l:BoxLoom} (hl:LOk l) {i:Nat} (hi:i < l.Shuttles.length):0 ≤ l.Shuttles[i].Yarn.Low∧l.Shuttles[i].Yarn.Low ≤ l.Shuttles[i].Yarn.High∧l.Shuttles[i].Yarn.High ≤ 1000:=by
 have:=hl.sh _ (List.getElem_mem hi)
 unfold okS at this
 simp only [Bool.and_eq_true,decide_eq_true_eq] at this
 omega
theorem dcr0 {l:BoxLoom} (hl:LOk l) {i:Nat} (hi:i < l.Shuttles.length):dcr l.Shuttles[i].Yarn 0=l.Shuttles[i].Yarn:=by
 have:=yarn_rng hl hi
 unfold dcr
 rw [show max 0 (l.Shuttles[i].Yarn.Low - ((0:Nat):Int))=l.Shuttles[i].Yarn.Low by omega,show max 0 (l.Shuttles[i].Yarn.High - ((0:Nat):Int))=l.Shuttles[i].Yarn.High by omega]
theorem dcr_succ {s:Span} {n:Nat}:dcr s (n + 1)=⟨max 0 ((dcr s n).Low - 1),max 0 ((dcr s n).High - 1)⟩:=by
 unfold dcr
 congr 1 <;> (simp only; omega)
theorem yl_snoc {l:BoxLoom} {t:List Nat} {j:Nat} (hj:j < (yl l t).length):yl l (t ++ [j])=(yl l t).set j ⟨max 0 ((yl l t)[j].Low - 1),max 0 ((yl l t)[j].High - 1)⟩:=by
 have hj':j < l.Shuttles.length:=by rw [yl_len] at hj; exact hj
 apply List.ext_getElem (by simp [yl])
 intro i h1 h2
 have h3:i < l.Shuttles.length:=by rw [yl_len] at h1; exact h1
 rw [yl_at h1 h3,List.getElem_set]
 split
 ·rename_i he; subst he
  rw [List.count_append,List.count_singleton_self,dcr_succ,yl_at hj hj']
 ·rename_i he
  rw [List.count_append,yl_at _ h3,List.count_singleton]
  simp [he]
theorem s29 {l : BoxLoom} {ps : List BoxPick} (hl : LOk l) (hp : ∀ p ∈ ps, okP l.Boxes p = true) (hlen : ps.length ≤ 24) :
  f29 l ps=some (match thr l ps with | some _=>(yl l (thl l ps),0,0) | none=>([],((thl l ps).length:Int),9)):=by
 refine Yes.eq ?_
 unfold f29
 refine Yes.bind ((s70 hl hp hlen).mono fun y hy=>Yes.jn ?_)
 obtain ⟨y1,hy⟩:=hy
 cases ht:thr l ps with
 | none=>
  rw [ht] at hy
  have hy:y.2.2=(((thl l ps).length:Int),9):=hy
  refine qtake (by rw [hy]; rfl) (Yes.some ?_)
  rw [hy]
 | some n=>
  rw [ht] at hy
  obtain ⟨e1,e2,e3,e4⟩:=hy
  have hfew:=hl.few
  have htl:=thl_lt hl hp
  have hll:=thl_len (l:=l) (ps:=ps)
  refine qskip (by rw [e4]; rfl) ?_
  show Yes (Option.bind _ _) _
  rw [y1,e2]
  refine Yes.bind (Yes.upto l.Shuttles.length (by omega) (fun i t=>t=(l.Shuttles.take i).map (·.Yarn)) (by simp) (fun i t k hi hI hk=>?_) (fun t k hI=>?_))
  ·have hl2 : t.length ≤ 6 := by rw [hI]; simp; omega
   refine qtake (by simp; omega) (Yes.bind (qbind _ (qidx hi) (Yes.bind (Yes.apnd (by simp; omega) (by simp; omega) (Yes.some (hk _ ?_))))))
   rw [take_succ hi,List.map_append,hI]; rfl
  ·refine qskip (by simp) (Yes.some ?_)
   rw [List.take_length] at hI
   have h0:t=yl l []:=by
    rw [hI]
    apply List.ext_getElem (by simp [yl])
    intro i h1 h2
    have h3:i < l.Shuttles.length:=by simpa using h1
    rw [yl_at h2 h3,List.count_nil,dcr0 hl h3]; simp
   refine Yes.bind (Yes.upto (thl l ps).length (by omega) (fun i t=>t=yl l ((thl l ps).take i)) (by rw [h0]; simp) (fun i t k2 hi hI hk=>?_) (fun t k2 hI=>?_))
   ·have hti := htl _ (List.getElem_mem hi)
    have hw:w64 ((((thl l ps)[i]:Nat):Int) + 1 - 1)=(((thl l ps)[i]:Nat):Int):=by rw [w64_id (by omega) (by omega)]; omega
    have hjt:(thl l ps)[i] < t.length:=by rw [hI,yl_len]; exact hti
    have hy:=yarn_rng hl hti
    refine qtake (by simp; omega) (Yes.bind (qbind ((((thl l ps)[i]:Nat):Int) + 1) (by rw [qidx (by simpa using hi)]; simp) ?_))
    rw [hw]
    refine qbind _ (qidx hjt) (qbind _ (qidx hjt) (Yes.some (hk _ ?_)))
    subst hI
    rw [take_succ hi,yl_snoc hjt,Int.toNat_natCast]
    have hb:(yl l ((thl l ps).take i))[(thl l ps)[i]]=dcr l.Shuttles[(thl l ps)[i]].Yarn (((thl l ps).take i).count (thl l ps)[i]):=yl_at hjt hti
    have hc:((thl l ps).take i).count (thl l ps)[i] ≤ i:=Nat.le_trans List.count_le_length (by simp; omega)
    rw [max64_eq,max64_eq]
    rw [hb]
    unfold dcr
    simp only
    rw [w64_id (by omega) (by omega),w64_id (by omega) (by omega)]
   ·refine qskip (by simp) (Yes.some (Yes.some ?_))
    rw [List.take_length] at hI
    rw [hI]
/-! ### The picks of bytes -/
theorem thr_last {l:BoxLoom} (hl:LOk l):∀ {ps:List BoxPick} {n:BoxLoom},(∀ p ∈ ps,okP l.Boxes p=true)→thr l ps=some n→∀ (h:ps.length - 1 < ps.length),n.At=[ps[ps.length - 1].Left,ps[ps.length - 1].Right]:=by
 intro ps n hp h hlt
 have h1:ps.take (ps.length - 1 + 1)=ps:=by rw [show ps.length - 1 + 1=ps.length by omega,List.take_length]
 cases hm:thr l (ps.take (ps.length - 1)) with
 | none=>
  rw [← h1,take_succ hlt,thr_append,hm] at h; cases h
 | some m=>
  have h2:=thr_step hlt hm
  rw [h1,h] at h2
  cases ho:oneL m ps[ps.length - 1] with
  | none=>rw [ho] at h2; cases h2
  | some x=>
   obtain ⟨a,i,q⟩:=x
   rw [ho] at h2
   obtain ⟨k1,_,_⟩:=thr_ok hl (fun p hq=>hp p (List.mem_of_mem_take hq)) hm
   have:=(oneL_some k1.dst ho).2.2.1
   cases h2
   exact this
theorem bx_sum {v:Vector (Vector Int 4) 2} {m:BoxLoom} (hv:BxV v m) (hm:LOk m) {p:BoxPick} {L R:Nat} (hL:p.Left=L) (hR:p.Right=R) (hL4:L < 4) (hR4:R < 4) {n:BoxLoom} {i:Nat} {q:Int} (ho:oneL m p=some (n,i,q)):v[0][L] + v[1][R]=(i:Int) + 1:=by
 have e0:=hv 0 L (by omega) hL4
 have e1:=hv 1 R (by omega) hR4
 rw [e0,e1]
 obtain ⟨_,_,_,⟨_,g⟩ | ⟨_,g⟩⟩:=oneL_some hm.dst ho
 ·rw [show inX m.Shuttles ((1:Nat):Int) (R:Int)=-1 from inX_none (hR ▸ g.free),show inX m.Shuttles ((0:Nat):Int) (L:Int)=i from inX_some hm.dst (hL ▸ g.at0)]; omega
 ·rw [show inX m.Shuttles ((0:Nat):Int) (L:Int)=-1 from inX_none (hL ▸ g.free),show inX m.Shuttles ((1:Nat):Int) (R:Int)=i from inX_some hm.dst (hR ▸ g.at0)]; omega
theorem s39x {l:BoxLoom} (hl:LOk l) (x:Race) (hP:x.Picks.length ≤ 9223372036854775807) {mst:Nat} (hmst:mst ≤ 24):Yes (f39 x l (mst:Int)) (fun r=>∃ n,thr l r.1=some n∧(∀ p ∈ r.1,okP l.Boxes p=true)∧BxV r.2.2.1 n∧r.1.length ≤ mst∧r.2.1=(thl l r.1).map (fun i:Nat=>(i:Int))∧r.2.2.2=mvt l r.1):=by
 have byte:∀ u:UInt8,(0:Int) ≤ (u.toNat:Int)∧(u.toNat:Int) ≤ 255:=fun u=>by have:=u.toNat_lt; omega
 have b0:=hl.box (i:=0) (by omega)
 have b1:=hl.box (i:=1) (by omega)
 have hb0:idx l.Boxes (0:Int)=some (l.Boxes.getD 0 0):=box_at hl.len (i:=0) (by omega)
 have hb1:idx l.Boxes (1:Int)=some (l.Boxes.getD 1 0):=box_at hl.len (i:=1) (by omega)
 unfold f39
 refine Yes.bind ((s45 hl).mono fun v0 hv0=>qbind _ (at_at hl.len (i:=0) (by omega)) (qbind _ (at_at hl.len (i:=1) (by omega)) (Yes.bind ?_)))
 refine Yes.lp (fun s => ∃ k : Nat, s.2.2.2.2.2 = (k : Int) ∧ k ≤ x.Picks.length ∧ s.1.length ≤ mst ∧ (∀ p ∈ s.1, okP l.Boxes p = true) ∧ s.2.1 = (thl l s.1).map (fun i : Nat => (i : Int)) ∧ s.2.2.2.1 = mvt l s.1 ∧ ∃ m, thr l s.1 = some m ∧ BxV s.2.2.1 m ∧ s.2.2.2.2.1 = (⟨List.toArray [m.At.getD 0 0, m.At.getD 1 0], rfl⟩ : Vector Int 2))
  (fun s=>x.Picks.length + 1 - s.2.2.2.2.2.toNat) ⟨0,rfl,by omega,by simp,by simp,by simp [thl],by simp [mvt],l,rfl,hv0,rfl⟩ (by simp; omega) ?_
 rintro ⟨ps,sh,v,o7,at',u⟩ kk ⟨k,rfl,hk,c2,c3,c6,c7,m,c4,c5,c8⟩ hk'
 simp only at c2 c3 c4 c5 c6 c7 c8
 obtain ⟨m1,m2,_⟩:=thr_ok hl c3 c4
 have hend:∀ b:Bool,b=false→Yes (some (ps,sh,v,o7)) fun r=>Yes (some (r.1,r.2.1,r.2.2.1,r.2.2.2)) fun r=>∃ n,thr l r.1=some n∧(∀ p ∈ r.1,okP l.Boxes p=true)∧BxV r.2.2.1 n∧r.1.length ≤ mst∧r.2.1=(thl l r.1).map (fun i:Nat=>(i:Int))∧r.2.2.2=mvt l r.1:=fun _ _=>Yes.some (Yes.some ⟨m,c4,c3,c5,c2,c6,c7⟩)
 refine Yes.jn (Yes.bind (Yes.cond (fun hc=>Yes.some (Yes.cond (fun hc2=>?_) (fun hc2=>hend _ hc2))) (fun hc=>Yes.some (hend false rfl))))
 have hkl:k < x.Picks.length:=by have:(k:Int) < (x.Picks.length:Int):=of_decide_eq_true hc; omega
 have hlt:ps.length < mst:=by have:(ps.length:Int) < (mst:Int):=of_decide_eq_true hc2; omega
 have hby:=byte x.Picks[k]
 have next:∀ ps' sh' v' o' a',ps'.length ≤ mst→(∀ p ∈ ps',okP l.Boxes p=true)→sh'=(thl l ps').map (fun i:Nat=>(i:Int))→o'=mvt l ps'→(∃ m,thr l ps'=some m∧BxV v' m∧a'=(⟨List.toArray [m.At.getD 0 0,m.At.getD 1 0],rfl⟩:Vector Int 2))→Yes (kk (ps',sh',v',o',a',w64 ((k:Int) + 1))) fun r=>Yes (some (r.1,r.2.1,r.2.2.1,r.2.2.2)) fun r=>∃ n,thr l r.1=some n∧(∀ p ∈ r.1,okP l.Boxes p=true)∧BxV r.2.2.1 n∧r.1.length ≤ mst∧r.2.1=(thl l r.1).map (fun i:Nat=>(i:Int))∧r.2.2.2=mvt l r.1:=fun ps' sh' v' o' a' d2 d3 d4 d5 d6=>by
  rw [w64_id (by omega) (by omega)]
  refine hk' _ ⟨k + 1,by simp,by omega,d2,d3,d4,d5,d6⟩ ?_
  show x.Picks.length + 1 - ((k:Int) + 1).toNat < x.Picks.length + 1 - ((k:Int)).toNat
  omega
 obtain ⟨L,hL,hL2⟩:∃ L:Nat,(x.Picks[k].toNat:Int) % l.Boxes.getD 0 0=L∧(L:Int) < l.Boxes.getD 0 0:=by
  have e1:=Int.emod_nonneg (x.Picks[k].toNat:Int) (show l.Boxes.getD 0 0 ≠ 0 by omega)
  have e2:=Int.emod_lt_of_pos (x.Picks[k].toNat:Int) (show 0 < l.Boxes.getD 0 0 by omega)
  exact ⟨((x.Picks[k].toNat:Int) % l.Boxes.getD 0 0).toNat,by omega,by omega⟩
 obtain ⟨R,hR,hR2⟩:∃ R:Nat,(x.Picks[k].toNat:Int) / 8 % l.Boxes.getD 1 0=R∧(R:Int) < l.Boxes.getD 1 0:=by
  have e1:=Int.emod_nonneg ((x.Picks[k].toNat:Int) / 8) (show l.Boxes.getD 1 0 ≠ 0 by omega)
  have e2:=Int.emod_lt_of_pos ((x.Picks[k].toNat:Int) / 8) (show 0 < l.Boxes.getD 1 0 by omega)
  exact ⟨((x.Picks[k].toNat:Int) / 8 % l.Boxes.getD 1 0).toNat,by omega,by omega⟩
 have hL4:L < 4:=by omega
 have hR4:R < 4:=by omega
 refine Yes.jn (Yes.bind (qbind _ (qidx hkl) (qbind _ hb0 (qbind _ (rem_nn hby.1 (by omega)) (qbind _ (qidx hkl) (qbind _ (quo_nn8 hby.1 hby.2) (qbind _ hb1 (qbind _ (rem_nn (by omega) (by omega)) ?_))))))))
 rw [hL,hR]
 have hpk:okP l.Boxes ⟨(L:Int),(R:Int)⟩=true:=okP_iff.2 ⟨⟨by show (0:Int) ≤ (L:Int); omega,by show (L:Int) ≤ _; omega⟩,by show (0:Int) ≤ (R:Int); omega,by show (R:Int) ≤ _; omega⟩
 refine qbind (⟨(L:Int),(R:Int)⟩:BoxPick) rfl (qbind _ (vidx v (i:=0) (by omega)) (qbind _ (vidx _ hL4) (qbind _ (vidx v (i:=1) (by omega)) (qbind _ (vidx _ hR4) (Yes.jn (Yes.cond (fun hc3=>Yes.some ?_) (fun hc3=>?_)))))))
 ·exact next _ _ _ _ _ (by omega) c3 c6 c7 ⟨m,c4,c5,c8⟩
 ·obtain ⟨n, i, q, ho, hbx⟩ := bx_step (p := ⟨(L : Int), (R : Int)⟩) c5 m1 (by rw [m2]; exact hpk) rfl rfl hL4 hR4 hc3
  have hsum:=bx_sum c5 m1 (p:=⟨(L:Int),(R:Int)⟩) rfl rfl hL4 hR4 ho
  obtain ⟨_,_,_,hil,_⟩:=oneL_ok m1 (by rw [m2]; exact hpk) ho
  have hfew:=m1.few
  obtain ⟨hq,_,hna,_⟩:=oneL_some m1.dst ho
  have hmb:=mvt_bound hl c3
  have hth:thr l (ps ++ [(⟨(L:Int),(R:Int)⟩:BoxPick)])=some n:=by rw [thr_append,c4,Option.bind_some,thr_one,ho]; rfl
  have ma0:=m1.at (i:=0) (by omega)
  have ma1:=m1.at (i:=1) (by omega)
  have mb0:=m1.box (i:=0) (by omega)
  have mb1:=m1.box (i:=1) (by omega)
  have hsl:sh.length ≤ ps.length:=by rw [c6,List.length_map]; exact thl_len
  refine qbind _ (vidx v (i:=0) (by omega)) (qbind _ (vidx _ hL4) (qbind _ (vidx _ (i:=1) (by omega)) (qbind _ (vidx _ hR4) (Yes.bind (Yes.apnd (by simp; omega) (by simp; omega) (Yes.bind (Yes.apnd (by simp; omega) (by simp; omega) (Yes.some ?_))))))))
  refine next _ _ _ _ _ (by simp; omega) (fun p hp=>?_) ?_ ?_ ⟨n,hth,hbx,by rw [hna]; rfl⟩
  ·rcases List.mem_append.1 hp with hp | hp
   ·exact c3 p hp
   ·rw [List.mem_singleton.1 hp]; exact hpk
  ·rw [thl_append _ _ c4, thl, ho, List.map_append, ← c6]
   have:w64 (w64 (v[0][L] + v[1][R]) - 1)=(i:Int):=by rw [hsum,w64_id (n:=(i:Int) + 1) (by omega) (by omega),w64_id (by omega) (by omega)]; omega
   rw [this]; rfl
  ·rw [mvt_append _ _ c4, mvt, ho]
   show w64 (o7 + w64 (w64 (w64 (max64 at'[0] (L:Int) - min64 at'[0] (L:Int)) + max64 at'[1] (R:Int)) - min64 at'[1] (R:Int)))=mvt l ps + (q + mvt n [])
   have h0:at'[0]=m.At.getD 0 0:=by rw [c8]; rfl
   have h1:at'[1]=m.At.getD 1 0:=by rw [c8]; rfl
   rw [h0,h1,moves_is (by omega) (by omega) (by omega) (by omega),mvt,c7]
   have hq2:max (m.At.getD 0 0) (L:Int) - min (m.At.getD 0 0) (L:Int) + (max (m.At.getD 1 0) (R:Int) - min (m.At.getD 1 0) (R:Int))=q:=by
    rw [hq]; unfold mvs; simp only; omega
   have hqb:0 ≤ q∧q ≤ 6:=(oneL_ok m1 (by rw [m2]; exact hpk) ho).2.2.2.2
   rw [hq2,w64_id (by omega) (by omega)]; omega
end Go.Proofs.Ytmpjooneiaiffaa
/- BoxConserved. -/
set_option maxRecDepth 8000
namespace Go.Proofs.Ytmpjooneiaiffaa
open Go.RowKit
open Classical

def cnts (k:Nat) (t:List Nat):List Int:=(List.range k).map fun j=>((t.count j:Nat):Int)
theorem cnts_len {k:Nat} {t:List Nat}:(cnts k t).length=k:=by simp [cnts]
theorem cnts_at {k:Nat} {t:List Nat} {j:Nat} (h:j < (cnts k t).length):(cnts k t)[j]=((t.count j:Nat):Int):=by simp [cnts]
theorem cnts_snoc {k:Nat} {t:List Nat} {j:Nat} (h:j < (cnts k t).length):cnts k (t ++ [j])=(cnts k t).set j ((cnts k t)[j] + 1):=by
 apply List.ext_getElem (by simp [cnts])
 intro i h1 h2
 rw [cnts_at,List.getElem_set]
 split
 ·rename_i he; subst he; rw [List.count_append,List.count_singleton_self,cnts_at]; omega
 ·rename_i he; rw [List.count_append,cnts_at,List.count_singleton]; simp [he]
theorem first_col {l:BoxLoom} (hl:LOk l) {ps:List BoxPick} (hp:∀ p ∈ ps,okP l.Boxes p=true) (h0:0 < (thl l ps).length):colr l (thl l ps)[0] ∈ cols l:=by
 cases ps with
 | nil=>simp [thl] at h0
 | cons p ps=>
  cases ho:oneL l p with
  | none=>rw [thl,ho] at h0; simp at h0
  | some x=>
   obtain ⟨n,i,m⟩:=x
   have hcons:thl l (p :: ps)=i :: thl n ps:=by rw [thl,ho]
   have he:(thl l (p :: ps))[0]=i:=by simp only [hcons]; rfl
   rw [he]
   have hh:(allP l).any (hit l (colr l i))=true:=List.any_eq_true.2 ⟨p,(mem_allP hl).2 (hp p (by simp)),by
    have hu:hit l (colr l i) p=match oneL l p with | some x=>decide (colr l x.2.1=colr l i) | none=>false:=rfl
    rw [hu,ho]; simp⟩
   exact List.mem_filter.2 ⟨hit_ten hl hh,hh⟩
theorem s7 {A B C:Prop} (x:Race) (hx:A∧B∧x.Picks.length ≤ 9223372036854775807∧C):f7 x=some true:=by
 obtain ⟨_,_,hP,_⟩:=hx
 refine Yes.eq ?_
 unfold f7
 refine Yes.bind ((s38 x).mono fun l hl=>Yes.bind (Yes.mono (show Yes (f39 x l (24:Int)) _ from s39x hl x hP (mst:=24) (by omega)) fun r hr=>?_))
 obtain ⟨n,ht,hp,hv,h24,hsh,hmv⟩:=hr
 obtain ⟨ps,sh,v,mv⟩:=r
 simp only at ht hp hv h24 hsh hmv
 obtain ⟨k1,k2,k3⟩:=thr_ok hl hp ht
 have hfew:=hl.few
 have htl:=thl_lt hl hp
 have hll:=thl_length ht
 have h40:f40 l ps=some ((thl l ps).map (colr l),n,mvt l ps,0,0):=by rw [s40 hl hp h24,ht]
 have h29:f29 l ps=some (yl l (thl l ps),0,0):=by rw [s29 hl hp h24,ht]
 have known:Yes (f14.bind fun y=>some y) (fun r=>r=true):=⟨true,rfl,rfl⟩
 refine qbind _ (s15 l hl.sml) (qbind _ (s28 ps (by omega)) (qbind _ h40 (qbind _ (s15 l hl.sml) (qbind _ (s28 ps (by omega)) (qbind _ h29 (Yes.jn (Yes.bind ?_)))))))
 have h41:f41 n l v=some true:=by rw [s41 k1 k1 (thr_smb hl hp ht) rfl hv]; simp [Wh.rfl']
 refine qskip rfl (qskip rfl (qskip rfl (qskip (by simp [hmv]) (qskip (by simp [hll]) (qskip (by simp [yl_len]) (qbind _ h41 (qskip rfl (Yes.some (qskip (by have:=k1.len.2; simp; omega) (Yes.jn (Yes.bind ?_)))))))))))
 have hat:∀ {Q:Bool→Prop},Q false→Yes (bif (decide ((ps.length:Int) > (0:Int))) then (idx n.At (0:Int)).bind fun uA=>(idx ps (w64 ((ps.length:Int) - (1:Int)))).bind fun xA=>bif (uA != (xA).Left) then some true else (idx n.At (1:Int)).bind fun xC=>(idx ps (w64 ((ps.length:Int) - (1:Int)))).bind fun yC=>some ((xC != (yC).Right)) else some false) Q:=fun hQ=>by
  refine Yes.cond (fun hc=>?_) (fun _=>Yes.some hQ)
  have hpos:0 < ps.length:=by have:=of_decide_eq_true hc; omega
  have hlast:=thr_last hl hp ht (by omega)
  have hw:w64 ((ps.length:Int) - 1)=((ps.length - 1:Nat):Int):=by rw [w64_id (by omega) (by omega)]; omega
  rw [hw]
  refine qbind _ (at_at k1.len (i:=0) (by omega)) (qbind _ (qidx (by omega)) (qskip (by rw [hlast]; simp) (qbind _ (at_at k1.len (i:=1) (by omega)) (qbind _ (qidx (by omega)) (Yes.some ?_)))))
  rw [hlast]; simpa using hQ
 refine hat (qskip rfl ?_)
 have hmk:mks 8 (0:Int) (l.Shuttles.length:Int)=some (cnts l.Shuttles.length []):=by
  unfold mks
  rw [if_pos (by omega),Int.toNat_natCast]
  congr 1
  apply List.ext_getElem (by simp [cnts])
  intro i h1 h2
  rw [cnts_at]; simp
 refine qbind _ hmk (Yes.jn ?_)
 refine Yes.upto (thl l ps).length (by omega) (fun i q=>q=cnts l.Shuttles.length ((thl l ps).take i)) (by simp) (fun i q k hi hI hk=>?_) (fun q k hI=>?_)
 ·have hti := htl _ (List.getElem_mem hi)
  have hqi:(thl l ps)[i] < q.length:=by rw [hI,cnts_len]; exact hti
  have ish:idx sh (i:Int)=some (((thl l ps)[i]:Nat):Int):=by rw [hsh,qidx (by simpa using hi)]; simp
  refine Yes.jn (qtake (by simp; omega) (Yes.jn (qbind (colr l (thl l ps)[i]) (by rw [qidx (by simpa using hi)]; simp) (qbind _ ish (qbind _ (qidx hti) (qskip (by rw [colr_at hti]; simp) (Yes.jn (qbind _ ish (qbind _ (qidx hqi) (qbind _ (qidx hqi) (hk _ ?_)))))))))))
  subst hI
  have hb:(cnts l.Shuttles.length ((thl l ps).take i))[(thl l ps)[i]] ≤ 24∧0 ≤ (cnts l.Shuttles.length ((thl l ps).take i))[(thl l ps)[i]]:=by
   rw [cnts_at]
   have:((thl l ps).take i).count (thl l ps)[i] ≤ i:=Nat.le_trans List.count_le_length (by simp; omega)
   omega
  rw [take_succ hi,cnts_snoc hqi,Int.toNat_natCast,w64_id (by omega) (by omega)]
 rw [List.take_length] at hI
 subst hI
 refine Yes.jn (qskip (by simp) (Yes.jn ?_))
 refine Yes.upto0 l.Shuttles.length (by omega) (fun _=>True) trivial (fun i k hi _ hk=>?_) (fun k _=>?_)
 ·have hy := yarn_rng hl hi
  have hc:(thl l ps).count i ≤ 24:=Nat.le_trans List.count_le_length (by omega)
  have hyl:i < (yl l (thl l ps)).length:=by rw [yl_len]; exact hi
  have hcl:i < (cnts l.Shuttles.length (thl l ps)).length:=by rw [cnts_len]; exact hi
  refine Yes.jn (qtake (by simp [yl_len]; omega) (Yes.jn (qbind _ (qidx hi) (qbind _ (qidx hyl) (qbind _ (qidx hcl) (qbind _ (qidx hcl) (qbind _ (show f42 _ _=some _ from rfl) (qskip ?_ (hk trivial)))))))))
  rw [yl_at hyl hi,cnts_at,max64_eq,max64_eq,w64_id (by omega) (by omega),w64_id (by omega) (by omega)]
  simp [dcr]
 refine Yes.jn (qskip (by simp [yl_len]) (Yes.jn (Yes.jn ?_)))
 refine Yes.cond (fun hc=>?_) (fun _=>known)
 have hpos:0 < (thl l ps).length:=by have h9:(ps.length:Int) > 0:=of_decide_eq_true hc; omega
 have hfc:=first_col hl hp hpos
 have hcs:(cols l).Pairwise (· < ·):=ten_sorted.filter _
 have hclen:(cols l).length ≤ 10:=Nat.le_trans (List.length_filter_le _ _) (by simp [ten])
 refine qbind _ (s15 l hl.sml) (qbind _ (s43 hl) (Yes.jn ?_))
 refine Yes.upto (cols l).length (by omega) (fun i b=>b=((cols l).take i).any fun c=>c == colr l (thl l ps)[0]) (by simp) (fun i b k hi hI hk=>?_) (fun b k hI=>?_)
 ·have hnext : ((cols l).take (i + 1)).any (fun c => c == colr l (thl l ps)[0]) = (b || ((cols l)[i] == colr l (thl l ps)[0])) := by rw [take_succ hi, List.any_append, hI]; simp
  refine Yes.jn (qtake (by simp; omega) (Yes.jn (Yes.bind (Yes.mono (Q':=fun r=>r=(b || ((cols l)[i] == colr l (thl l ps)[0]))) ?_ fun r hr=>Yes.bind ?_))))
  ·refine Yes.cond (fun hb=>Yes.some (by simp [hb])) (fun hb=>qbind _ (qidx hi) (qbind (colr l (thl l ps)[0]) (by rw [show (0:Int)=((0:Nat):Int) from rfl,qidx (by simpa using hpos)]; simp) (Yes.some (by simp [hb]))))
  ·refine Yes.cond (fun hc2 => ?_) (fun _ => Yes.some (qskip rfl (hk _ (by rw [hnext, hr]))))
   have hi0:0 < i:=by have:=of_decide_eq_true hc2; omega
   have hw:w64 ((i:Int) - 1)=((i - 1:Nat):Int):=by rw [w64_id (by omega) (by omega)]; omega
   rw [hw]
   have hi1:i - 1 < (cols l).length:=by omega
   refine qbind _ (qidx hi) (qbind _ (qidx hi1) (Yes.some (qskip (decide_eq_false ?_) (hk _ (by rw [hnext,hr])))))
   have:=List.pairwise_iff_getElem.1 hcs (i - 1) i (by omega) hi (by omega)
   omega
 ·rw [List.take_length] at hI
  have hb:b=true:=by
   rw [hI,List.any_eq_true]
   exact ⟨_,hfc,by simp⟩
  subst hb
  refine Yes.jn (qskip (by simp) ?_)
  refine Yes.bind (qskip rfl (Yes.some ?_))
  exact qskip rfl known
end Go.Proofs.Ytmpjooneiaiffaa
