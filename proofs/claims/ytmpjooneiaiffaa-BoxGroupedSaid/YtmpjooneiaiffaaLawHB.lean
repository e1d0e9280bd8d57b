/- BoxGrouped: the plain law. -/
import Derived.Test.YtmpjooneiaiffaaLawV
import Derived.Test.YtmpjooneiaiffaaLawGI
set_option maxRecDepth 8000
namespace Go.Proofs.Ytmpjooneiaiffaa
open Go.RowKit
open Classical

def Ph (f:Int→Int):List Int:=(List.range 10).map fun i:Nat=>f (i:Int)
theorem Fg {f:Int→Int} {k:Int} (h:0 ≤ k∧k ≤ 9):idx (Ph f) k=some (f k):=by
 obtain ⟨j,rfl⟩:=Int.eq_ofNat_of_zero_le h.1
 have hl:j < (Ph f).length:=by simp [Ph]; omega
 rw [Wu hl]; simp [Ph]
theorem Ey {f:Int→Int} {k y:Int} (h:0 ≤ k∧k ≤ 9):(Ph f).set k.toNat (f k + y)=Ph fun j=>f j + if k=j then y else 0:=by
 obtain ⟨j,rfl⟩:=Int.eq_ofNat_of_zero_le h.1
 unfold Ph
 refine List.ext_getElem (by simp) fun i h1 h2=>?_
 simp only [List.getElem_set,Int.toNat_natCast,List.getElem_map,List.getElem_range]
 by_cases e:j=i
 ·subst e; simp
 ·rw [if_neg e,if_neg (by omega)]; omega
theorem vset_l {n:Nat} {v:Vector Int n} {k y:Int}:(Ku v k y).toList=v.toList.set k.toNat y:=by unfold Ku; simp
def Yw (xs:List Int) (c:Int):Int:=((xs.filter fun x=>decide (x=c)).length:Int)
theorem Pv (xs:List Int) (x c:Int):Yw (xs ++ [x]) c=Yw xs c + if x=c then 1 else 0:=by
 unfold Yw
 rw [List.filter_append,List.length_append]
 by_cases h:x=c
 ·simp [h]
 ·simp [h]
theorem cntI_perm {xs ys:List Int} (h:xs.Perm ys) (c:Int):Yw xs c=Yw ys c:=by
 unfold Yw; rw [(h.filter _).length_eq]
theorem Re (xs:List Int) (c:Int):0 ≤ Yw xs c∧Yw xs c ≤ xs.length:=by
 unfold Yw
 have:=List.length_filter_le (fun x=>decide (x=c)) xs
 omega

structure Cutd (cs : List Int) (gs : List (List Int)) (left : List Int) : Prop where
 e:gs.flatten ++ left=cs
 g:∀ g ∈ gs,1 ≤ g.length∧g.length ≤ 3
 n:gs.length ≤ 8
theorem s9 {A B C D:Prop} (x:Yb) (sizes:Vector UInt8 3) (hx:A∧B∧x.Picks.length ≤ 9223372036854775807∧C) (_:D):f9 x sizes=some true:=by
 have byte:∀ u:UInt8,(0:Int) ≤ (u.toNat:Int)∧(u.toNat:Int) ≤ 255:=fun u=>by have:=u.toNat_lt; omega
 refine Yes.eq ?_
 unfold f9
 have known:Yes (f14.bind fun y=>some y) (fun r=>r=true):=⟨true,by rw [known14]; rfl,rfl⟩
 refine Yes.bind ((s38 x).mono fun l hl=>Yes.bind ((s39x hl x hx.2.2.1 (mst:=9) (by omega)).mono fun z hz=>?_))
 obtain ⟨n,hn,hp,hbx,h9,hth,hmv⟩:=hz
 obtain ⟨ps,z2,z3,z4⟩:=z
 simp only at hn hp hbx h9 hth hmv
 subst hth hmv
 have htl:=thl_lt hl hp
 have hll:=Ir hn
 have hmb:=Py hl hp
 have hle:=cL_le ps hl hp hn
 have hlt:cL ((thl l ps).map (Qy l)) l < Ti:=by unfold Ti; omega
 have hall:=cols_all hl (thl l ps)
 have hcl:((thl l ps).map (Qy l)).length ≤ 9:=by rw [List.length_map]; omega
 refine Gj _ (s44 htl (by omega)) ?_
 generalize (thl l ps).map (Qy l)=cs at *
 refine Gj _ (s16 cs (by omega)) ?_
 refine Yes.bind (Yes.mono (Q':=fun r:List (List Int) × List Int=>Cutd cs r.1 r.2) ?_ fun r hr=>?_)
 ·refine Yes.lp (fun s => ∃ i : Nat, s.2.2 = i ∧ s.1.length = i ∧ Cutd cs s.1 s.2.1) (fun s => 8 - s.2.2.toNat) ⟨0, rfl, rfl, rfl, fun g hg => (by cases hg), by simp⟩ (by simp only; omega) ?_
  rintro ⟨gs,left,u⟩ k ⟨i,hu,hi,hC⟩ hk
  simp only at hu hi hC
  subst hu
  refine Yes.jn ?_
  by_cases hc:left.length > 0∧gs.length < 8
  ·have hlf : left.length ≤ 9 := by have := congrArg List.length hC.e; rw [List.length_append] at this; omega
   refine Gj true (by rw [decide_eq_true (by omega),cond_true,decide_eq_true (by omega)]) (Qr rfl ?_)
   obtain ⟨j,hj,hj3⟩:∃ j:Nat,(i:Int) % 3=(j:Int)∧j < 3:=⟨i % 3,by omega,by omega⟩
   have hsz:idx sizes.toList (j:Int)=some (sizes.toList[j]'(by simp; omega)):=Wu (by simp; omega)
   have hb:=byte (sizes.toList[j]'(by simp; omega))
   obtain ⟨e,he,he3⟩:∃ e:Nat,((sizes.toList[j]'(by simp; omega)).toNat:Int) % 3=(e:Int)∧e < 3:=⟨(sizes.toList[j]'(by simp; omega)).toNat % 3,by omega,by omega⟩
   have hmin:Wm (left.length:Int) (w64 ((1:Int) + (e:Int)))=((min left.length (1 + e):Nat):Int):=by
    rw [Tl (by omega) (by omega),Sq]; omega
   have hcut1:=Sm (xs:=left) (i:=min left.length (1 + e)) (Nat.min_le_left _ _)
   have hcut2:=Fu (xs:=left) (i:=min left.length (1 + e)) (Nat.min_le_left _ _)
   have hg1:(left.take (min left.length (1 + e))).length=min left.length (1 + e):=by rw [List.length_take]; omega
   refine Yes.bind (Gj (j:Int) (by rw [Yy (by omega) (by omega),hj]) (Gj _ hsz (Gj (e:Int) (by rw [Yy hb.1 (by omega),he]) ?_)))
   rw [hmin]
   refine Gj _ hcut1 (Gj _ (s16 _ (by omega)) (Yes.bind (Yes.apnd (by simp; omega) (by simp; omega) (Gj _ hcut2 (Yes.some ?_)))))
   show Yes (k (_,_,w64 ((i:Int) + 1))) _
   rw [show w64 ((i:Int) + 1)=((i + 1:Nat):Int) by rw [Tl (by omega) (by omega)]; omega]
   refine hk _ ⟨i + 1,rfl,by simp [hi],?_,fun g hg=>?_,by simp; omega⟩ (by simp only; omega)
   ·rw [List.flatten_append]; simp only [List.flatten_cons, List.flatten_nil, List.append_nil]
    rw [List.append_assoc,List.take_append_drop]; exact hC.e
   ·rcases List.mem_append.1 hg with hg | hg
    ·exact hC.g g hg
    ·rw [List.mem_singleton.1 hg,hg1]; omega
  ·refine Gj false ?_ (Tw rfl (Yes.some hC))
   by_cases h1:left.length > 0
   ·rw [decide_eq_true (by omega),cond_true,decide_eq_false (by omega)]
   ·rw [decide_eq_false (by omega),cond_false]
 obtain ⟨gs,left⟩:=r
 obtain ⟨hC,hg13,hg8⟩:=hr
 simp only at hC hg13 hg8
 have hlens:gs.flatten.length + left.length=cs.length:=by rw [← List.length_append,hC]
 have htk:cs.take gs.flatten.length=gs.flatten:=by rw [← hC,List.take_left]
 have hcut:cut cs 0 (w64 ((cs.length:Int) - (left.length:Int)))=some gs.flatten:=by
  rw [Tl (by omega) (by omega),show (cs.length:Int) - (left.length:Int)=((gs.flatten.length:Nat):Int) by omega,Sm (by omega),htk]
 have ho0:cL gs.flatten l ≤ cL cs l:=by rw [← htk]; exact cL_take hl (by omega) _
 have hcol:∀ c ∈ gs.flatten,btw 0 9 c=true:=fun c hc=>List.all_eq_true.1 hall c (by rw [← hC]; exact List.mem_append_left _ hc)
 have hgc:∀ g ∈ gs,g.all (btw 0 9)=true:=fun g hg=>List.all_eq_true.2 fun c hc=>hcol c (List.mem_flatten.2 ⟨g,hg,hc⟩)
 have hall0:gs.flatten.all (btw 0 9)=true:=List.all_eq_true.2 hcol
 obtain ⟨t,ht,ht'⟩:=grp hl hg8 (fun g hg=>(hg13 g hg).2) hgc (by omega)
 refine Gj _ hcut (Gj _ (s15 l hl.sml) (Gj _ (s24 gs (by omega) fun g hg=>by have:=(hg13 g hg).2; omega) (Gj t ht (Gj _ (s15 l hl.sml) (Gj _ (s16 gs.flatten (by omega)) (Gj _ (s17p hl (by omega) hall0 (by omega)) (Yes.jn ?_)))))))
 rcases ht' with ⟨a1,_⟩ | ⟨o,M,rfl,hB⟩
 ·have:=a1 _ (OsG.flat gs); omega
 have hol:=hB.os.len
 have hM:=hB.mv
 have hMlt:=hB.lt
 have hMle:=hB.le _ (OsG.flat gs)
 -- the colours of the best order
 have hocol:∀ c ∈ o,btw 0 9 c=true:=by
  have:∀ {gs:List (List Int)} {o:List Int},OsG gs o→∀ c ∈ o,c ∈ gs.flatten:=by
   intro gs
   induction gs with
   | nil=>intro o h c hc; rw [show o=[] from h] at hc; cases hc
   | cons g gs ih=>
    rintro _ ⟨p,q,rfl,hp,hq⟩ c hc
    rw [List.flatten_cons]
    rcases List.mem_append.1 hc with hc | hc
    ·exact List.mem_append_left _ (hp.mem_iff.1 hc)
    ·exact List.mem_append_right _ (ih hq c hc)
  exact fun c hc=>hcol c (this hB.os c hc)
 have hoall:o.all (btw 0 9)=true:=List.all_eq_true.2 hocol
 refine Gj false ?_ (Tw rfl ?_)
 ·dsimp only
  rw [decide_eq_false (show ¬ M > cL gs.flatten l by omega),decide_eq_false (show ¬ cL gs.flatten l > mvt l ps by omega),hol]; simp
 refine Gj _ (s15 l hl.sml) (Gj _ (s16 o (by omega)) (Gj _ (s17p hl (by omega) hoall (by omega)) (Yes.jn (Gj false ?_ (Tw rfl (Yes.jn ?_))))))
 ·dsimp only; rw [hM]; simp
 have hflt:∀ i,(gs.take i).flatten.length ≤ 9:=fun i=>by
  have:gs.flatten.length=(gs.take i).flatten.length + (gs.drop i).flatten.length:=by
   rw [← List.length_append,← List.flatten_append,List.take_append_drop]
  omega
 refine Yes.lp (fun s=>∃ i:Nat,s.2=i∧i ≤ gs.length∧s.1=((gs.take i).flatten.length:Int)) (fun s=>gs.length - s.2.toNat) ⟨0,rfl,Nat.zero_le _,by simp⟩ (by simp only; omega) ?_
 rintro ⟨at',u⟩ k ⟨i,hu,hi,hat⟩ hk
 simp only at hu hat
 subst hu; subst hat
 by_cases hlti:i < gs.length
 ·have hgi := hg13 _ (List.getElem_mem hlti)
  have hgic:∀ c ∈ gs[i],btw 0 9 c=true:=fun c hc=>List.all_eq_true.1 (hgc _ (List.getElem_mem hlti)) c hc
  have e1:=Be hlti
  have e2:(gs.take (i + 1)).flatten.length=(gs.take i).flatten.length + gs[i].length:=by rw [e1,List.length_append]
  have hb1:=hflt (i + 1)
  have hle2:(gs.take (i + 1)).flatten.length ≤ o.length:=by
   rw [hol]
   have:gs.flatten.length=(gs.take (i + 1)).flatten.length + (gs.drop (i + 1)).flatten.length:=by
    rw [← List.length_append,← List.flatten_append,List.take_append_drop]
   omega
  have hseg:=hB.os.seg hlti
  generalize hsg:(o.drop (gs.take i).flatten.length).take gs[i].length=seg at hseg
  have hsl:seg.length=gs[i].length:=hseg.length_eq
  have hsat:∀ b (hb:b < gs[i].length),o[(gs.take i).flatten.length + b]'(by omega)=seg[b]'(by omega):=fun b hb=>by
   subst hsg; simp
  refine Yes.jn (Qr (decide_eq_true (by omega)) (Yes.jn (Yes.jn ?_)))
  refine Yes.lp (fun s=>∃ b:Nat,s.2.2=b∧b ≤ gs[i].length∧s.1=(((gs.take i).flatten.length + b:Nat):Int)∧s.2.1.toList=Ph fun c=>Yw (gs[i].take b) c - Yw (seg.take b) c) (fun s=>gs[i].length - s.2.2.toNat) ⟨0,rfl,Nat.zero_le _,rfl,rfl⟩ (by simp only; omega) ?_
  rintro ⟨a2,v,u2⟩ k2 ⟨b,hu2,hb,ha2,hv⟩ hk2
  simp only at hu2 ha2 hv
  subst hu2; subst ha2
  by_cases hlb:b < gs[i].length
  ·have hob : (gs.take i).flatten.length + b < o.length := by omega
   have hc1:=Wl.1 (hgic _ (List.getElem_mem hlb))
   have hc2:=Wl.1 (hocol _ (List.getElem_mem hob))
   have f1:=Re (gs[i].take b) gs[i][b]
   have f2:=Re (seg.take b) gs[i][b]
   have l1:(gs[i].take b).length ≤ 3:=by rw [List.length_take]; omega
   have l2:(seg.take b).length ≤ 3:=by rw [List.length_take]; omega
   have hq:=Wu hob
   refine Yes.jn (Gj _ (Wu hlti) (Qr (decide_eq_true (by omega)) (Yes.jn (Yes.jn (Gj false ?_ (Tw rfl ?_))))))
   ·rw [hq]
    simp only [Option.bind_some]
    rw [decide_eq_false (show ¬ o[(gs.take i).flatten.length + b] < 0 by omega),decide_eq_false (show ¬ o[(gs.take i).flatten.length + b] > 9 by omega)]; rfl
   ·refine Gj _ (Wu hlti) (Gj _ (Wu hlb) (Gj _ (by rw [hv]; exact Fg hc1) (Gj _ (by rw [hv]; exact Fg hc1) (Gj _ hq ?_))))
    dsimp only
    rw [Tl (n:=Yw (gs[i].take b) gs[i][b] - Yw (seg.take b) gs[i][b] + 1) (by omega) (by omega)]
    have hv1:(Ku v gs[i][b] (Yw (gs[i].take b) gs[i][b] - Yw (seg.take b) gs[i][b] + 1)).toList=Ph fun j=>(Yw (gs[i].take b) j - Yw (seg.take b) j) + if gs[i][b]=j then 1 else 0:=by
     rw [vset_l,hv,Ey (f:=fun c=>Yw (gs[i].take b) c - Yw (seg.take b) c) hc1]
    have f3:=Re (gs[i].take b) (o[(gs.take i).flatten.length + b])
    have f4:=Re (seg.take b) (o[(gs.take i).flatten.length + b])
    refine Gj _ (by rw [hv1]; exact Fg hc2) (Gj _ (by rw [hv1]; exact Fg hc2) ?_)
    refine hk2 (_,_,_) ⟨b + 1,?_,hlb,?_,?_⟩ ?_
    ·show w64 ((b : Int) + 1) = _
     rw [Tl (by omega) (by omega)]; omega
    ·show w64 ((((gs.take i).flatten.length + b : Nat) : Int) + 1) = _
     rw [Tl (by omega) (by omega)]; omega
    ·show (Ku _ _ _).toList = _
     have hd:w64 ((Yw (gs[i].take b) o[(gs.take i).flatten.length + b] - Yw (seg.take b) o[(gs.take i).flatten.length + b] + if gs[i][b]=o[(gs.take i).flatten.length + b] then 1 else 0) - 1)=(Yw (gs[i].take b) o[(gs.take i).flatten.length + b] - Yw (seg.take b) o[(gs.take i).flatten.length + b] + if gs[i][b]=o[(gs.take i).flatten.length + b] then 1 else 0) + (-1):=by
      rw [Tl]
      ·rfl
      ·split <;> omega
      ·split <;> omega
     rw [hd,vset_l,hv1,Ey (f:=fun j=>(Yw (gs[i].take b) j - Yw (seg.take b) j) + if gs[i][b]=j then 1 else 0) hc2]
     unfold Ph
     refine List.map_congr_left fun c _=>?_
     dsimp only
     rw [Kl hlb,Kl (show b < seg.length by omega),Pv,Pv,← hsat b hlb]
     split <;> split <;> omega
    ·show gs[i].length - (w64 ((b : Int) + 1)).toNat < gs[i].length - ((b : Int)).toNat
     rw [Tl (by omega) (by omega)]; omega
  ·have hbl : b = gs[i].length := by omega
   subst hbl
   have hz:v=(⟨List.toArray [0,0,0,0,0,0,0,0,0,0],rfl⟩:Vector Int 10):=by
    refine Vector.toList_inj.1 ?_
    rw [hv,List.take_length,← hsl,List.take_length]
    have:(fun c=>Yw gs[i] c - Yw seg c)=fun _=>0:=by
     funext c; rw [cntI_perm hseg c]; omega
    rw [this]; rfl
   refine Yes.jn (Gj _ (Wu hlti) (Tw (decide_eq_false (by omega)) ?_))
   refine Tw (by rw [decide_eq_true hz]; rfl) (hk (_,_) ⟨i + 1,?_,hlti,?_⟩ ?_)
   ·show w64 ((i : Int) + 1) = _
    rw [Tl (by omega) (by omega)]; omega
   ·show (((gs.take i).flatten.length + gs[i].length : Nat) : Int) = _
    rw [e2]
   ·show gs.length - (w64 ((i : Int) + 1)).toNat < gs.length - ((i : Int)).toNat
    rw [Tl (by omega) (by omega)]; omega
 clear hk
 refine Yes.jn (Tw (decide_eq_false (by omega)) ?_)
 have h0l:gs.flatten.length ≤ 9:=by omega
 refine Yes.bind (Yes.mono (Q':=fun m=>m=sgl (gs.flatten.take 8)) ?_ fun m hm=>?_)
 ·refine Yes.lp (fun s => ∃ j : Nat, s.2 = j ∧ j ≤ 8 ∧ j ≤ gs.flatten.length ∧ s.1 = sgl (gs.flatten.take j)) (fun s => 8 - s.2.toNat) ⟨0, rfl, by omega, by omega, by simp [sgl]⟩ (by simp) ?_
  rintro ⟨m,u3⟩ k3 ⟨j,hu3,hj,hj2,hmm⟩ hk3
  simp only at hu3 hmm
  subst hu3; subst hmm
  refine Yes.jn ?_
  by_cases hc:j < gs.flatten.length∧j < 8
  ·refine Gj true (by rw [decide_eq_true (by omega), cond_true, decide_eq_true (by omega)]) (Qr rfl (Yes.bind (Gj _ (Wu hc.1) (Yes.bind (Yes.apnd (by simp [sgl]; omega) (by simp [sgl]; omega) (Yes.some ?_))))))
   show Yes (k3 (_,w64 ((j:Int) + 1))) _
   rw [show w64 ((j:Int) + 1)=((j + 1:Nat):Int) by rw [Tl (by omega) (by omega)]; omega]
   refine hk3 _ ⟨j + 1,rfl,by omega,hc.1,?_⟩ (by simp only; omega)
   unfold sgl; rw [Kl hc.1,List.map_append]; rfl
  ·refine Gj false ?_ (Tw rfl (Yes.some ?_))
   ·by_cases h1 : j < gs.flatten.length
    ·rw [decide_eq_true (by omega),cond_true,decide_eq_false (by omega)]
    ·rw [decide_eq_false (by omega),cond_false]
   ·congr 1
    by_cases h8:j=8
    ·rw [h8]
    ·rw [List.take_of_length_le (by omega),List.take_of_length_le (by omega)]
 subst hm
 have hsf:∀ c:List Int,(sgl c).flatten=c:=fun c=>by
  induction c with
  | nil=>rfl
  | cons a c ih=>show [a] ++ (sgl c).flatten=_; rw [ih]; rfl
 have ho8:cL (gs.flatten.take 8) l ≤ cL gs.flatten l:=cL_take hl (by omega) 8
 have h8l:(gs.flatten.take 8).length ≤ 8:=by rw [List.length_take]; omega
 have hall8:(gs.flatten.take 8).all (btw 0 9)=true:=List.all_eq_true.2 fun c hc=>hcol c (List.mem_of_mem_take hc)
 have hcut8:cut gs.flatten 0 ((sgl (gs.flatten.take 8)).length:Int)=some (gs.flatten.take 8):=by
  rw [Jd,Sm (by rw [List.length_take]; omega)]
  congr 1
  rw [List.length_take]
  by_cases h:8 ≤ gs.flatten.length
  ·rw [Nat.min_eq_left h]
  ·rw [Nat.min_eq_right (by omega),List.take_length,List.take_of_length_le (by omega)]
 obtain ⟨t2,ht2,ht2'⟩:=grp hl (gs:=sgl (gs.flatten.take 8)) (by rw [Jd]; exact h8l) (fun g hg=>by
  obtain ⟨c,_,rfl⟩:=List.mem_map.1 hg; simp) (fun g hg=>by
  obtain ⟨c,hc,rfl⟩:=List.mem_map.1 hg
  have:=List.all_eq_true.1 hall8 c hc; simpa using this) (by rw [hsf]; omega)
 refine Gj _ (s15 l hl.sml) (Gj t2 ht2 (Gj _ (s15 l hl.sml) (Gj _ hcut8 (Gj _ (s16 _ (by omega)) (Gj _ (s17p hl (by omega) hall8 (by omega)) (Yes.jn ?_))))))
 rcases ht2' with ⟨a1,_⟩ | ⟨o2,M2,rfl,hB2⟩
 ·have:=a1 _ (OsG.sgl.2 rfl); omega
 obtain rfl:=OsG.sgl.1 hB2.os
 have hM2:=hB2.mv
 refine Gj false ?_ (Tw rfl (Yes.jn ?_))
 ·dsimp only; rw [hM2,Jd]; simp
 refine Yes.upto0 (gs.flatten.take 8).length (by omega) (fun _=>True) trivial (fun j k4 hj _ hk4=>?_) (fun k4 _=>?_)
 ·have hj0 : j < gs.flatten.length := by rw [List.length_take] at hj; omega
  have he:(gs.flatten.take 8)[j]=gs.flatten[j]:=by simp
  exact Yes.jn (Qr (decide_eq_true (by rw [Jd]; omega)) (Yes.jn (Gj _ (Wu hj) (Gj _ (Wu hj0) (Tw (by rw [he]; simp) (hk4 trivial))))))
 refine Yes.jn (Tw (decide_eq_false (by rw [Jd]; omega)) (Yes.jn ?_))
 match gs,hg13,hg8,hgc,hB,h0l with
 | [],_,_,_,_,_=>exact Gj false rfl (Tw rfl known)
 | [g],_,_,_,_,_=>exact Gj false rfl (Tw rfl known)
 | a :: b :: gs,hg13,hg8,hgc,hB,h0l=>
  have ha:=hg13 a (by simp)
  have hb:=hg13 b (by simp)
  have i0:idx (a :: b :: gs) (0:Int)=some a:=rfl
  have i1:idx (a :: b :: gs) (1:Int)=some b:=rfl
  have hw:w64 ((a.length:Int) + (b.length:Int))=(a.length:Int) + (b.length:Int):=Tl (by omega) (by omega)
  refine Gj (decide ((a.length:Int) + (b.length:Int) ≤ 3)) (by rw [decide_eq_true (by simp; omega),cond_true,i0,Option.bind_some,i1,Option.bind_some,hw]) (Yes.cond (fun hc=>?_) (fun _=>known))
  have hab:a.length + b.length ≤ 3:=by have:=of_decide_eq_true hc; omega
  have hcd:cut (a :: b :: gs) (2:Int) ((a :: b :: gs).length:Int)=some gs:=Fu (xs:=a :: b :: gs) (i:=2) (by simp)
  obtain ⟨t3,ht3,ht3'⟩:=grp hl (gs:=(a ++ b) :: gs) (by simp at hg8 ⊢; omega) (fun g hg=>by
   rcases List.mem_cons.1 hg with rfl | hg
   ·rw [List.length_append]; exact hab
   ·exact (hg13 g (by simp [hg])).2) (fun g hg=>by
   rcases List.mem_cons.1 hg with rfl | hg
   ·rw [List.all_append,hgc a (by simp),hgc b (by simp)]; rfl
   ·exact hgc g (by simp [hg])) (by simp at h0l ⊢; omega)
  refine Gj _ i0 (Gj _ (s16 a (by omega)) (Gj _ i1 (Yes.bind (Yes.apnd (by omega) (by omega) (Gj _ hcd (Gj _ (s24 gs (by simp at hg8; omega) fun g hg=>by have:=(hg13 g (by simp [hg])).2; omega) (Yes.bind (Yes.apnd (by simp at hg8 ⊢; omega) (by simp at hg8 ⊢; omega) (Gj _ (s15 l hl.sml) (Gj t3 ht3 ?_))))))))))
  rcases ht3' with ⟨a1,_⟩ | ⟨o3,M3,rfl,hB3⟩
  ·have:=a1 _ hB.os.join; have:=hB.mv; have:=hB.lt; omega
  ·have := hB3.le _ hB.os.join
   have:=hB.mv
   refine Gj false ?_ (Tw rfl known)
   dsimp only
   rw [decide_eq_false (show ¬ M3 > M by omega)]; rfl
end Go.Proofs.Ytmpjooneiaiffaa
