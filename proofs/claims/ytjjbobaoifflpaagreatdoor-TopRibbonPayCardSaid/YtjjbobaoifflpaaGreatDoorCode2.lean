import Derived.Test.YtjjbobaoifflpaaGreatDoorCode1
set_option maxRecDepth 8000
set_option maxHeartbeats 4000000
namespace Go.Proofs.YtjjbobaoifflpaaGreatDoor
open Go.RowKit Tryz
def f11 (x0:Gi):Option (Tq):=
 Option.bind (α:=ChainBelt) (
  lp (σ:=ChainBelt × Int) (fun aI (lB,o0)=>
   jn (σ:=Unit) (fun _=>
    Option.bind (α:=ChainBelt) (
     (idx (((x0).Design).Rows) o0).bind fun y130=>
     (apnd 24 ((lB).Cards) (([(⟨o0,y130,false⟩:Gc)]:List Gc))).bind fun aE=>
     some ({ lB with Cards:=aE })
     ) fun n9=>
    aI (n9,(w64 (o0 + (1:Int))))
    ) fun bI=>
   bif (decide (o0 < ((((x0).Design).Rows).length : Int))) then
    bI ()
   else
    some (lB)
   ) big ((⟨((x0).Design).Hooks,[]⟩:ChainBelt),(0:Int))
  ) fun t5=>
 (f25 (((x0).Harness).Warps)).bind fun l5=>
 some ((⟨([(⟨(⟨[108,105,108,121]⟩:Str),(⟨((x0).Harness).Hooks,l5⟩:TieHarness)⟩:Gw)]:List Gw),([(⟨(⟨[114,111,115,101]⟩:Str),t5⟩:Gj)]:List Gj)⟩:Tq))
theorem en11:Enters prog 11:=enters_of func11 (by kernel_rfl) rfl
theorem wk11 {gI:Gh} {wI:World} {x0:Gi} {up0:Value} (rp0:RV gI.m wI x0 up0) {r:Tq} (h:f11 x0=some r):Fn prog 11 #[up0] gI wI (fun m w v=>RV m w (r) v):=by
 unfold f11 at h;refine fnE func11 rfl rfl fun g0 hm hfr=>?_;have rp0:=RVc hm rp0;show E _ 44 none _ _ _ _ _;refine Z5 (Z4 rfl (Tv (g:=g0) rfl rp0 fun g1 w1 p1 hs q1=>?_));have hfr:=hfr.ext hs;refine Z4 rfl (G2 (g:=g1) 2002 (⟨[],[]⟩:Tq) zeroValue55 (fun m w=>⟨_,(Gb G9 G9),rfl⟩) fun g2 w2 p2 hs b2 cb=>?_);have hfr:=hfr.stp hs;have q1:=q1.stp hs;have zB:OSF 2002 60200 0 g2 w2 99 55 ([]:List Gw) p2:=cb.osf (by rfl);have cC:OSF 2002 60201 1 g2 w2 101 55 ([]:List Gj) p2:=cb.osf (by rfl);clear cb;refine Z3 (Z5 (Zx (Z8 p1 2) (Zc Vw rfl (PT.ptr q1)) rfl ?_));have q3:=Zm (Wu).1 q1;refine Zx (Z8 (Z8 p1 2) 0) (Zc Yi rfl (PT.ptr q3)) rfl ?_;have q4:=Zm (Wr).1 q3;refine Z4 rfl (Z6 (g:=g2) isAgg3 sizeOf3 rfl q4 fun v5 r5=>?_);obtain rfl:=Zj.1 r5;have r6:RV g2.m w2 (⟨((x0).Design).Hooks,[]⟩:ChainBelt) (.agg (Td [[Iz 0],[.slice none 0 0]] [(0,Iz (((x0).Design).Hooks))]).flatten.toArray):=Tc rfl (Gm (rfl) (Tf (G9)));generalize dI:(Value.agg (Td [[Iz 0],[.slice none 0 0]] [(0,Iz (((x0).Design).Hooks))]).flatten.toArray)=v6 at r6;refine Zx v6 (dI ▸ Tu (vs:=[(0,Iz (((x0).Design).Hooks))]) [[Iz 0],[.slice none 0 0]] Od rfl rfl (.cons rfl .nil) ⟨⟨_,rfl,rfl⟩,trivial⟩) rfl (Z4 rfl (G2 (g:=g2) 2003 (⟨0,[]⟩:ChainBelt) zeroValue94 (fun m w=>⟨_,(Gb Zw G9),rfl⟩) fun g7 w7 p7 hs b7 cb=>?_));have hfr:=hfr.stp hs;have q1:=q1.stp hs;have zB:=zB.stp hs rfl;have cC:=cC.stp hs rfl;have b2:=b2.stp hs rfl;have r6:=r6.stp hs;have nK:OSF 2003 60301 1 g7 w7 96 94 ([]:List Gc) p7:=cb.osf (by rfl);clear cb;refine Z4 rfl (Gg (g:=g7) (v:=v6) sizeOf94 rfl b7 rfl r6 fun g8 w8 hs b8 cb=>?_);have kI:OSF 2003 60301 1 g8 w8 96 94 ([]:List Gc) p7:=cb.osf (by rw [← dI]; rfl);clear cb;have hfr:=hfr.stp hs;have q1:=q1.stp hs;have zB:=zB.stp hs rfl;have cC:=cC.stp hs rfl;have b2:=b2.stp hs rfl;refine Z3 ?_;obtain ⟨t5,hx,h⟩:=Z1 h;refine Gl (fun e w=>∃ (g:Gh) ,Fr gI wI g w∧e 1=p1∧PT g.m w (x0:Gi) p1∧e 2=p2∧OB 2002 g w 55 ((⟨[],[]⟩:Tq):Tq) p2∧OSF 2002 60200 0 g w 99 55 (((⟨[],[]⟩:Tq)).Ties) p2∧OSF 2002 60201 1 g w 101 55 (((⟨[],[]⟩:Tq)).Chains) p2∧e 3=p7∧OB 2003 g w 94 (t5:ChainBelt) p7∧OSF 2003 60301 1 g w 96 94 ((t5).Cards) p7) (fun Q' hQ=>?_) (fun lK oK hR=>?_)
 ·replace h := hx
  clear hx;refine Z5 (Zg (Iz (0)) rfl rfl (Z3 (Zr (Q0 h (fun (s:ChainBelt × Int) e w=>∃ (g:Gh) ,Fr gI wI g w∧e 1=p1∧PT g.m w (x0:Gi) p1∧e 2=p2∧OB 2002 g w 55 ((⟨[],[]⟩:Tq):Tq) p2∧OSF 2002 60200 0 g w 99 55 (((⟨[],[]⟩:Tq)).Ties) p2∧OSF 2002 60201 1 g w 101 55 (((⟨[],[]⟩:Tq)).Chains) p2∧e 3=p7∧OB 2003 g w 94 (s.1:ChainBelt) p7∧OSF 2003 60301 1 g w 96 94 ((s.1).Cards) p7∧e 4=Iz (s.2)) ⟨g8,hfr,rfl,q1,rfl,b2,zB,cC,rfl,b8,kI,rfl⟩ (fun X83 aI lI=>?_)))));rintro ⟨lB,o0⟩ pK gL ⟨dF,hfr,vC,yB,oE,rE,u2_0_84,u2_1_84,uE,vE,u3_1_84,xE⟩ h;refine Zq h (fun (s:Unit) e w=>∃ (g:Gh) ,Fr gI wI g w∧e 1=p1∧PT g.m w (x0:Gi) p1∧e 2=p2∧OB 2002 g w 55 ((⟨[],[]⟩:Tq):Tq) p2∧OSF 2002 60200 0 g w 99 55 (((⟨[],[]⟩:Tq)).Ties) p2∧OSF 2002 60201 1 g w 101 55 (((⟨[],[]⟩:Tq)).Chains) p2∧e 3=p7∧OB 2003 g w 94 (lB:ChainBelt) p7∧OSF 2003 60301 1 g w 96 94 ((lB).Cards) p7∧e 4=Iz (o0)) (fun X89 bI mI h=>?_) ?_
  ·refine Z5 (Zo xE rfl (Zx (Z8 p1 2) (Zc Vw vC (PT.ptr yB)) rfl ?_))
   have iI:=Zm (Wu).1 yB;refine Zx (Z8 (Z8 p1 2) 1) (Zc Ye rfl (PT.ptr iI)) rfl ?_;have aK:=Zm (Wq).1 iI;refine Z4 rfl (Z6 (g:=dF) isAgg25 sizeOf25 rfl aK fun iL bK=>(Zx (Iz ((((x0).Design).Rows).length:Int)) (Gz underlying25 rfl bK) rfl (Zx (.bool ((decide (o0 < ((((x0).Design).Rows).length:Int))))) (Gk rfl rfl rfl) rfl (Z3 ?_))));rcases Zt h with ⟨bE,h⟩ | ⟨bE,h⟩
   ·refine G6 bE rfl ?_
    exact Zu (Zd (mI () _ _ ⟨dF,hfr,vC,yB,oE,rE,u2_0_84,u2_1_84,uE,vE,u3_1_84,xE⟩ h))
   ·refine G7 bE rfl (Tn (Gu (Gu (G8 ?_))))
    obtain rfl:=sinj h;exact hQ _ _ ⟨dF,hfr,vC,yB,oE,rE,u2_0_84,u2_1_84,uE,vE,u3_1_84⟩
  ·rintro _ qK cK ⟨jI, hfr, yE, i6, lH, n8, u2_0_94, u2_1_94, bD, l8, u3_1_94, cD⟩ h
   obtain ⟨n9,hx,h⟩:=Z1 h;refine Gl (fun e w=>∃ (g:Gh) ,Fr gI wI g w∧e 1=p1∧PT g.m w (x0:Gi) p1∧e 2=p2∧OB 2002 g w 55 ((⟨[],[]⟩:Tq):Tq) p2∧OSF 2002 60200 0 g w 99 55 (((⟨[],[]⟩:Tq)).Ties) p2∧OSF 2002 60201 1 g w 101 55 (((⟨[],[]⟩:Tq)).Chains) p2∧e 3=p7∧OB 2003 g w 94 (n9:ChainBelt) p7∧OSF 2003 60301 1 g w 96 94 ((n9).Cards) p7∧e 4=Iz (o0)) (fun Q' hQ=>?_) (fun mK sK hR=>?_)
   ·replace h := hx
    clear hx;refine Zr (Lf (x:=.tmp 17) Qq.1 isAgg92 sizeOf92 l8 u3_1_94 fun nI iE o126 mH=>?_);have eF:=Zm (Wu).1 i6;have pI:=Zm (Wq).1 eF;refine Zs (x:=.tmp 21) isAgg25 sizeOf25 pI fun rF sF nH=>?_;obtain ⟨y130,zE,h⟩:=Z1 h;have qI:=Gx sF zE;refine Zs (x:=.tmp 24) isAgg3 sizeOf3 qI fun tK sI oH=>?_;obtain rfl:=Zj.1 sI;have tF:RV jI.m cK (⟨o0,y130,false⟩:Gc) (.agg (Td [[Iz 0],[Iz 0],[.bool false]] [(0,Iz (o0)),(1,Iz (y130))]).flatten.toArray):=Tc rfl (Gm (rfl) (Gm (rfl) (Tf (Da))));generalize pH:(Value.agg (Td [[Iz 0],[Iz 0],[.bool false]] [(0,Iz (o0)),(1,Iz (y130))]).flatten.toArray)=uF at tF;refine To (g:=jI) (n:=11) [(10,(fun v g w=>RV g.m w ([(⟨o0,y130,false⟩:Gc)]:List Gc) v∧OS 3027 g w 96 ([(⟨o0,y130,false⟩:Gc)]:List Gc) v∧Qx v))] [0,1,2,3,4,5,6,7,8,9,10] rfl mixed (by kernel_rfl) (⟨fun _=>W0 Jf (W0 V1 (Wk _)),trivial⟩) (Z0 (Z8 p7 1) rfl rfl (Zc Js bD (OB.ptr l8)) (Tm (c:=nI) rfl rfl .plain (fun _ _ h=>⟨h.ch,fun b hb _=>h.below.block b hb⟩) mH rfl (Z0 (Iz (o0)) rfl rfl (Zk cD) (Z0 (Z8 p1 2) rfl rfl (Zc Vw yE (PT.ptr i6)) (Z0 (Z8 (Z8 p1 2) 1) rfl rfl (Zc Ye rfl (PT.ptr eF)) (Tm (c:=rF) rfl rfl .plain (fun _ _ h=>h.ch) nH rfl (Z0 (Iz (o0)) rfl rfl (Zk cD) (Z0 (Tb rF o0 1) rfl rfl (Zh (α:=Int) underlying25 sizeOf3 rfl sF rfl zE) (Tm (c:=Iz (y130)) rfl rfl .plain (fun _ _ h=>h.ch) oH rfl (Z0 uF rfl rfl (pH ▸ Tu (vs:=[(0,Iz (o0)),(1,Iz (y130))]) [[Iz 0],[Iz 0],[.bool false]] P9 rfl rfl (.cons rfl (.cons rfl .nil)) ⟨⟨_,rfl,rfl⟩,⟨⟨_,rfl,rfl⟩,trivial⟩⟩) (W7 (φ:=fun v g w=>RV g.m w ([(⟨o0,y130,false⟩:Gc)]:List Gc) v∧OS 3027 g w 96 ([(⟨o0,y130,false⟩:Gc)]:List Gc) v∧Qx v) rfl rfl .plain (fun g w hd=>Z7 (g:=g) 3027 (xs:=([(⟨o0,y130,false⟩:Gc)]:List Gc)) (vs:=[uF]) underlying92 sizeOf96 zeroValue96 rfl rfl (.cons rfl .nil) (RVs.cons (tF.ext hd.1) RVs.nil) rfl rfl fun g' w' v hs o r hxt hfl=>⟨g',hxt,r,o,hfl⟩) (fun vB hv=>?_))))))))))));clear hv;refine J6 fun jJ uK hall=>?_;have hs:=hall.1;have hfr:=hfr.ext hs;have i6:=i6.ext hs;have u2_0_94:=u2_0_94.ext hs;have u2_1_94:=u2_1_94.ext hs;have n8:=n8.ext hs;have l8:=l8.ext hs;have iE:=iE.ext hs;have o126:=o126.ext hs;have kJ:=(T1 (A:=fun g w=>RV g.m w ([(⟨o0,y130,false⟩:Gc)]:List Gc) vB∧OS 3027 g w 96 ([(⟨o0,y130,false⟩:Gc)]:List Gc) vB∧Qx vB) 10 rfl hall).1;have o150:=(T1 (A:=fun g w=>RV g.m w ([(⟨o0,y130,false⟩:Gc)]:List Gc) vB∧OS 3027 g w 96 ([(⟨o0,y130,false⟩:Gc)]:List Gc) vB∧Qx vB) 10 rfl hall).2.1;clear hs hall;obtain ⟨aE,qH,h⟩:=Z1 h;refine Z4 rfl (T5 (g:=jJ) (i:=60301) underlying92 info_96 rfl rfl o126 iE rfl kJ qH fun lJ vK xK hs o151 vF _=>?_);have hfr:=hfr.stp hs;have i6:=i6.stp hs;have u2_0_94:=u2_0_94.stp hs rfl;have u2_1_94:=u2_1_94.stp hs rfl;have n8:=n8.stp hs rfl;have l8:=l8.stp hs rfl;refine Zx (Z8 p7 1) (Zc Js bD (OB.ptr l8)) rfl (Z4 rfl (W2 (g:=lJ) Qq sizeOf92 rfl l8 rfl vF fun mJ yK hs b154 rst hos=>?_));have xF:=hos _ _ 60301 96 (aE:List Gc) (Kq vF) rfl o151;clear rst hos;have hfr:=hfr.stp hs;have i6:=i6.stp hs;have u2_0_94:=u2_0_94.stp hs rfl;have u2_1_94:=u2_1_94.stp hs rfl;have n8:=n8.stp hs rfl;refine Zb (Tj ?_);obtain rfl:=sinj h;exact hQ _ _ ⟨mJ,hfr,yE,i6,lH,n8,u2_0_94,u2_1_94,bD,b154,xF,cD⟩
   ·clear hx
    obtain ⟨nJ,hfr,yF,aG,bG,cG,u2_0_155,u2_1_155,eG,gG,u3_1_155,iG⟩:=hR;refine Za (Zo iG rfl (Z9 (Iz ((w64 (o0 + (1:Int))))) rfl rfl rfl rfl (Zg (Iz ((w64 (o0 + (1:Int))))) rfl rfl ?_)));exact Z3 (lI (n9,(w64 (o0 + (1:Int)))) _ _ ⟨nJ,hfr,yF,aG,bG,cG,u2_0_155,u2_1_155,eG,gG,u3_1_155,rfl⟩ h)
 ·clear hx
  obtain ⟨jG,hfr,yD,nB,zD,uC,u2_0_156,u2_1_156,kG,lG,u3_1_156⟩:=hR;refine Zf ?_;have mG:=Zm (Q8).1 nB;have oJ:=Zm (Wf).1 mG;refine Zs (x:=.tmp 31) isAgg3 sizeOf3 oJ fun zK pJ sH=>?_;obtain rfl:=Zj.1 pJ;have sG:=Zm (Q8).1 nB;have qJ:=Zm (Qc).1 sG;refine Zs (x:=.tmp 34) isAgg25 sizeOf25 qJ fun xG rJ tH=>?_;obtain ⟨l5,uH,h⟩:=Z1 h;refine Ht (x:=.tmp 3) isAgg94 sizeOf94 lG fun lD yG xH=>?_;have zG:RV jG.m _ (⟨(⟨[114,111,115,101]⟩:Str),t5⟩:Gj) (.agg (Td [[Str.v ⟨[]⟩],[Iz 0,.slice none 0 0]] [(0,Str.v (⟨[114,111,115,101]⟩:Str)),(1,lD)]).flatten.toArray):=Tc rfl (Gm (rfl) (Tf (RV.cells yG)));generalize yH:(Value.agg (Td [[Str.v ⟨[]⟩],[Iz 0,.slice none 0 0]] [(0,Str.v (⟨[114,111,115,101]⟩:Str)),(1,lD)]).flatten.toArray)=aH at zG;refine To (g:=jG) (n:=13) [(6,(fun v g w=>RV g.m w l5 v)),(9,(fun v g w=>RV g.m w ([(⟨(⟨[108,105,108,121]⟩:Str),(⟨((x0).Harness).Hooks,l5⟩:TieHarness)⟩:Gw)]:List Gw) v∧OS 3039 g w 99 ([(⟨(⟨[108,105,108,121]⟩:Str),(⟨((x0).Harness).Hooks,l5⟩:TieHarness)⟩:Gw)]:List Gw) v∧Qx v)),(12,(fun v g w=>RV g.m w ([(⟨(⟨[114,111,115,101]⟩:Str),t5⟩:Gj)]:List Gj) v∧OS 3042 g w 101 ([(⟨(⟨[114,111,115,101]⟩:Str),t5⟩:Gj)]:List Gj) v∧Qx v))] [0,1,2,3,4,5,6,7,8,9,10,11,12] rfl mixed (by kernel_rfl) (⟨fun _=>Jf,fun _=>W0 Jf (W0 V1 (Wk _)),fun _=>W0 Jf (W0 V1 (Wk _)),trivial⟩) (Z0 (Z8 p1 0) rfl rfl (Zc Y8 yD (PT.ptr nB)) (Z0 (Z8 (Z8 p1 0) 0) rfl rfl (Zc Vk rfl (PT.ptr mG)) (Tm (c:=Iz (((x0).Harness).Hooks)) rfl rfl .plain (fun _ _ h=>h.ch) sH rfl (Z0 (Z8 p1 0) rfl rfl (Zc Y8 yD (PT.ptr nB)) (Z0 (Z8 (Z8 p1 0) 1) rfl rfl (Zc Hr rfl (PT.ptr sG)) (Tm (c:=xG) rfl rfl .plain (fun _ _ h=>h.ch) tH rfl (W7 (φ:=fun v g w=>RV g.m w l5 v) rfl rfl .plain (fun g w hd=>Zp (g:=g) (vs:=[xG]) en25 (.cons rfl .nil) (wk25 (rJ.ext hd.1) uH) fun g' w' v hs hr=>⟨g',hs,hr⟩) (fun aB hv=>?_))))))));obtain ⟨_,_,_,rq163⟩:=hv;apply Exists.elim (show ∃ v,v=(Value.agg (Td [[Iz 0],[.slice none 0 0]] [(0,Iz (((x0).Harness).Hooks)),(1,aB)]).flatten.toArray) from ⟨_,rfl⟩);intro mB oB;refine Y4 (c:=mB) rfl rfl .plain (fun _ _ hd=>oB ▸ Tu (vs:=[(0,Iz (((x0).Harness).Hooks)),(1,aB)]) [[Iz 0],[.slice none 0 0]] Aj rfl rfl (.cons rfl (.cons rfl .nil)) ⟨⟨_,rfl,rfl⟩,⟨⟨_,rfl,Ti (D4 (A:=fun g w=>RV g.m w l5 aB) 6 rfl rfl (K7 hd))⟩,trivial⟩⟩) ?_;apply Exists.elim (show ∃ v,v=(Value.agg (Td [[Str.v ⟨[]⟩],[Iz 0,.slice none 0 0]] [(0,Str.v (⟨[108,105,108,121]⟩:Str)),(1,mB)]).flatten.toArray) from ⟨_,rfl⟩);intro nD oD;refine Y4 (c:=nD) rfl rfl .plain (fun _ _ hd=>oD ▸ Tu (vs:=[(0,Str.v (⟨[108,105,108,121]⟩:Str)),(1,mB)]) [[Str.v ⟨[]⟩],[Iz 0,.slice none 0 0]] Oi rfl rfl (.cons rfl (.cons rfl .nil)) ⟨⟨_,rfl,rfl⟩,⟨⟨_,rfl,Ti (show RV _ _ (⟨((x0).Harness).Hooks,l5⟩:TieHarness) mB from oB ▸ Tc rfl (Gm (rfl) (Tf (RV.cells (D4 (A:=fun g w=>RV g.m w l5 aB) 6 rfl rfl (hop 7 rfl rfl (K7 hd)))))))⟩,trivial⟩⟩) (W7 (φ:=fun v g w=>RV g.m w ([(⟨(⟨[108,105,108,121]⟩:Str),(⟨((x0).Harness).Hooks,l5⟩:TieHarness)⟩:Gw)]:List Gw) v∧OS 3039 g w 99 ([(⟨(⟨[108,105,108,121]⟩:Str),(⟨((x0).Harness).Hooks,l5⟩:TieHarness)⟩:Gw)]:List Gw) v∧Qx v) rfl rfl .plain (fun g w hd=>Z7 (g:=g) 3039 (xs:=([(⟨(⟨[108,105,108,121]⟩:Str),(⟨((x0).Harness).Hooks,l5⟩:TieHarness)⟩:Gw)]:List Gw)) (vs:=[nD]) underlying52 sizeOf99 zeroValue99 rfl rfl (.cons rfl .nil) (RVs.cons (show RV _ _ (⟨(⟨[108,105,108,121]⟩:Str),(⟨((x0).Harness).Hooks,l5⟩:TieHarness)⟩:Gw) nD from oD ▸ Tc rfl (Gm (rfl) (Tf (RV.cells (show RV _ _ (⟨((x0).Harness).Hooks,l5⟩:TieHarness) mB from oB ▸ Tc rfl (Gm (rfl) (Tf (RV.cells (D4 (A:=fun g w=>RV g.m w l5 aB) 6 rfl rfl (hop 7 rfl rfl (hop 8 rfl rfl (K7 hd)))))))))))) RVs.nil) rfl rfl fun g' w' v hs o r hxt hfl=>⟨g',hxt,r,o,hfl⟩) (fun v8 hv=>?_));clear hv;refine Tm (c:=lD) rfl rfl .plain (fun _ _ h=>⟨h.ch,fun b hb _=>h.below.block b hb⟩) xH kG (Z0 aH rfl rfl (yH ▸ Tu (vs:=[(0,Str.v (⟨[114,111,115,101]⟩:Str)),(1,lD)]) [[Str.v ⟨[]⟩],[Iz 0,.slice none 0 0]] Ay rfl rfl (.cons rfl (.cons rfl .nil)) ⟨⟨_,rfl,rfl⟩,⟨⟨_,rfl,Ti yG⟩,trivial⟩⟩) (W7 (φ:=fun v g w=>RV g.m w ([(⟨(⟨[114,111,115,101]⟩:Str),t5⟩:Gj)]:List Gj) v∧OS 3042 g w 101 ([(⟨(⟨[114,111,115,101]⟩:Str),t5⟩:Gj)]:List Gj) v∧Qx v) rfl rfl .plain (fun g w hd=>Z7 (g:=g) 3042 (xs:=([(⟨(⟨[114,111,115,101]⟩:Str),t5⟩:Gj)]:List Gj)) (vs:=[aH]) underlying53 sizeOf101 zeroValue101 rfl rfl (.cons rfl .nil) (RVs.cons (zG.ext hd.1) RVs.nil) rfl rfl fun g' w' v hs o r hxt hfl=>⟨g',hxt,r,o,hfl⟩) (fun l9 hv=>?_)))
  clear hv;refine J6 fun cH aL hall=>?_;have hs:=hall.1;have hfr:=hfr.ext hs;have uC:=uC.ext hs;have bL:=(T1 (A:=fun g w=>RV g.m w l5 aB) 6 rfl hall);have dL:=(show RV _ _ (⟨((x0).Harness).Hooks,l5⟩:TieHarness) mB from oB ▸ Tc rfl (Gm (rfl) (Tf (RV.cells (T1 (A:=fun g w=>RV g.m w l5 aB) 6 rfl hall)))));have eL:=(show RV _ _ (⟨(⟨[108,105,108,121]⟩:Str),(⟨((x0).Harness).Hooks,l5⟩:TieHarness)⟩:Gw) nD from oD ▸ Tc rfl (Gm (rfl) (Tf (RV.cells (show RV _ _ (⟨((x0).Harness).Hooks,l5⟩:TieHarness) mB from oB ▸ Tc rfl (Gm (rfl) (Tf (RV.cells (T1 (A:=fun g w=>RV g.m w l5 aB) 6 rfl hall)))))))));have lE:=(T1 (A:=fun g w=>RV g.m w ([(⟨(⟨[108,105,108,121]⟩:Str),(⟨((x0).Harness).Hooks,l5⟩:TieHarness)⟩:Gw)]:List Gw) v8∧OS 3039 g w 99 ([(⟨(⟨[108,105,108,121]⟩:Str),(⟨((x0).Harness).Hooks,l5⟩:TieHarness)⟩:Gw)]:List Gw) v8∧Qx v8) 9 rfl hall).1;have o184:=(T1 (A:=fun g w=>RV g.m w ([(⟨(⟨[108,105,108,121]⟩:Str),(⟨((x0).Harness).Hooks,l5⟩:TieHarness)⟩:Gw)]:List Gw) v8∧OS 3039 g w 99 ([(⟨(⟨[108,105,108,121]⟩:Str),(⟨((x0).Harness).Hooks,l5⟩:TieHarness)⟩:Gw)]:List Gw) v8∧Qx v8) 9 rfl hall).2.1;have gH:=(T1 (A:=fun g w=>RV g.m w ([(⟨(⟨[114,111,115,101]⟩:Str),t5⟩:Gj)]:List Gj) l9∧OS 3042 g w 101 ([(⟨(⟨[114,111,115,101]⟩:Str),t5⟩:Gj)]:List Gj) l9∧Qx l9) 12 rfl hall).1;have o187:=(T1 (A:=fun g w=>RV g.m w ([(⟨(⟨[114,111,115,101]⟩:Str),t5⟩:Gj)]:List Gj) l9∧OS 3042 g w 101 ([(⟨(⟨[114,111,115,101]⟩:Str),t5⟩:Gj)]:List Gj) l9∧Qx l9) 12 rfl hall).2.1;clear hs hall;have jH:RV cH.m _ (⟨([(⟨(⟨[108,105,108,121]⟩:Str),(⟨((x0).Harness).Hooks,l5⟩:TieHarness)⟩:Gw)]:List Gw),([(⟨(⟨[114,111,115,101]⟩:Str),t5⟩:Gj)]:List Gj)⟩:Tq) (.agg (Td [[.slice none 0 0],[.slice none 0 0]] [(0,v8),(1,l9)]).flatten.toArray):=Tc rfl (Gm (RV.cells lE) (Tf (RV.cells gH)));generalize cF:(Value.agg (Td [[.slice none 0 0],[.slice none 0 0]] [(0,v8),(1,l9)]).flatten.toArray)=kH at jH;refine Zx kH (cF ▸ Tu (vs:=[(0,v8),(1,l9)]) [[.slice none 0 0],[.slice none 0 0]] Nr rfl rfl (.cons rfl (.cons rfl .nil)) ⟨⟨_,rfl,Ti lE⟩,⟨⟨_,rfl,Ti gH⟩,trivial⟩⟩) rfl (Z4 rfl (Gg (g:=cH) (v:=kH) sizeOf55 zD uC rfl jH fun sJ vJ hs b189 cb=>?_));obtain ⟨xJ,zJ,mE,_,_⟩:=Ql lE;have dK:OSF 2002 3039 0 sJ vJ 99 55 (([(⟨(⟨[108,105,108,121]⟩:Str),(⟨((x0).Harness).Hooks,l5⟩:TieHarness)⟩:Gw)]:List Gw):List Gw) p2:=cb.osfv (by rw [← cF,mE]; rfl) (o184.stp hs rfl);clear cb;have hfr:=hfr.stp hs;refine Z3 (Ga ?_);obtain rfl:=sinj h;obtain ⟨ad190,cv190,hp190,zH,cr190⟩:=T9 isAgg55 sizeOf55 b189;exact D9 rfl rfl ((show _=p2 from zD).trans hp190) zH ⟨_,hfr,cr190⟩
def f39 (x0:Z2):Option ((Vector UInt8 8)):=
 (Ws (x0).Day ((8:Int))).bind fun y5=>
 (f43 ((⟨List.toArray [(u8w y5),(u8w ((x0).Day)),(u8w ((x0).Loom)),(u8w ((x0).Chain)),(u8w ((x0).Tie)),(u8w ((x0).Picks)),0,0],rfl⟩:Vector UInt8 8))).bind fun o0=>
 some ((Vector.set ((Vector.set ((⟨List.toArray [(u8w y5),(u8w ((x0).Day)),(u8w ((x0).Loom)),(u8w ((x0).Chain)),(u8w ((x0).Tie)),(u8w ((x0).Picks)),0,0],rfl⟩:Vector UInt8 8)) 6 (o0.1) (by decide))) 7 (o0.2) (by decide)))
theorem en39:Enters prog 39:=enters_of func39 (by kernel_rfl) rfl
theorem wk39 {gI:Gh} {wI:World} {x0:Z2} {up0:Value} (rp0:RV gI.m wI x0 up0) {r:(Vector UInt8 8)} (h:f39 x0=some r):Fn prog 39 #[up0] gI wI (fun m w v=>RV m w (r) v):=by
 unfold f39 at h;refine fnE func39 rfl rfl fun g0 hm hfr=>?_;have rp0:=RVc hm rp0;show E _ 31 none _ _ _ _ _;refine Z5 (Z4 rfl (Tv (g:=g0) rfl rp0 fun g1 w1 p1 hs q1=>?_));have hfr:=hfr.ext hs;refine Z4 rfl (G2 (g:=g1) 2002 ((⟨List.toArray [0,0,0,0,0,0,0,0],rfl⟩:Vector UInt8 8):Vector UInt8 8) zeroValue82 (fun m w=>⟨_,(Jt (Zv Qd (Zv Qd (Zv Qd (Zv Qd (Zv Qd (Zv Qd (Zv Qd (Zv Qd Jd)))))))) rfl),rfl⟩) fun g2 w2 p2 hs b2 cb=>?_);have hfr:=hfr.stp hs;have q1:=q1.stp hs;clear cb;refine Z3 (Z5 (Zx (Z8 p1 0) (Zc Yd rfl (PT.ptr q1)) rfl ?_));have q3:=Zm (Qz).1 q1;refine Z4 rfl (Z6 (g:=g2) isAgg3 sizeOf3 rfl q3 fun v4 r4=>?_);obtain rfl:=Zj.1 r4;obtain ⟨y5,hy5,h⟩:=Z1 h;refine Zx (Iz (y5)) (Ox rfl rfl hy5) rfl (Zx (.int .u8 (UInt8.toNat ((u8w y5)))) (Yg underlying3 underlying5 rfl) rfl (Zx (Z8 p1 0) (Zc Yd rfl (PT.ptr q1)) rfl ?_));have q6:=Zm (Qz).1 q1;refine Z4 rfl (Z6 (g:=g2) isAgg3 sizeOf3 rfl q6 fun v7 r7=>?_);obtain rfl:=Zj.1 r7;refine Zx (.int .u8 (UInt8.toNat ((u8w ((x0).Day))))) (Yg underlying3 underlying5 rfl) rfl (Zx (Z8 p1 1) (Zc Hw rfl (PT.ptr q1)) rfl ?_);have q8:=Zm (Qg).1 q1;refine Z4 rfl (Z6 (g:=g2) isAgg3 sizeOf3 rfl q8 fun v9 r9=>?_);obtain rfl:=Zj.1 r9;refine Zx (.int .u8 (UInt8.toNat ((u8w ((x0).Loom))))) (Yg underlying3 underlying5 rfl) rfl (Zx (Z8 p1 2) (Zc Vx rfl (PT.ptr q1)) rfl ?_);have v8:=Zm (Wt).1 q1;refine Z4 rfl (Z6 (g:=g2) isAgg3 sizeOf3 rfl v8 fun cD l9=>?_);obtain rfl:=Zj.1 l9;refine Zx (.int .u8 (UInt8.toNat ((u8w ((x0).Chain))))) (Yg underlying3 underlying5 rfl) rfl (Zx (Z8 p1 3) (Zc B0 rfl (PT.ptr q1)) rfl ?_);have n9:=Zm (K4).1 q1;refine Z4 rfl (Z6 (g:=g2) isAgg3 sizeOf3 rfl n9 fun lD aB=>?_);obtain rfl:=Zj.1 aB;refine Zx (.int .u8 (UInt8.toNat ((u8w ((x0).Tie))))) (Yg underlying3 underlying5 rfl) rfl (Zx (Z8 p1 4) (Zc Vu rfl (PT.ptr q1)) rfl ?_);have lB:=Zm (Wv).1 q1;refine Z4 rfl (Z6 (g:=g2) isAgg3 sizeOf3 rfl lB fun nD mB=>?_);obtain rfl:=Zj.1 mB;refine Zx (.int .u8 (UInt8.toNat ((u8w ((x0).Picks))))) (Yg underlying3 underlying5 rfl) rfl ?_;have l5:RV g2.m w2 (⟨List.toArray [(u8w y5),(u8w ((x0).Day)),(u8w ((x0).Loom)),(u8w ((x0).Chain)),(u8w ((x0).Tie)),(u8w ((x0).Picks)),0,0],rfl⟩:Vector UInt8 8) (.agg (Td [[.int .u8 0],[.int .u8 0],[.int .u8 0],[.int .u8 0],[.int .u8 0],[.int .u8 0],[.int .u8 0],[.int .u8 0]] [(0,.int .u8 (UInt8.toNat ((u8w y5)))),(1,.int .u8 (UInt8.toNat ((u8w ((x0).Day))))),(2,.int .u8 (UInt8.toNat ((u8w ((x0).Loom))))),(3,.int .u8 (UInt8.toNat ((u8w ((x0).Chain))))),(4,.int .u8 (UInt8.toNat ((u8w ((x0).Tie))))),(5,.int .u8 (UInt8.toNat ((u8w ((x0).Picks)))))]).flatten.toArray):=Tc rfl (Jt (Zv rfl (Zv rfl (Zv rfl (Zv rfl (Zv rfl (Zv rfl (Zv Qd (Zv Qd Jd)))))))) rfl);generalize l8:(Value.agg (Td [[.int .u8 0],[.int .u8 0],[.int .u8 0],[.int .u8 0],[.int .u8 0],[.int .u8 0],[.int .u8 0],[.int .u8 0]] [(0,.int .u8 (UInt8.toNat ((u8w y5)))),(1,.int .u8 (UInt8.toNat ((u8w ((x0).Day))))),(2,.int .u8 (UInt8.toNat ((u8w ((x0).Loom))))),(3,.int .u8 (UInt8.toNat ((u8w ((x0).Chain))))),(4,.int .u8 (UInt8.toNat ((u8w ((x0).Tie))))),(5,.int .u8 (UInt8.toNat ((u8w ((x0).Picks)))))]).flatten.toArray)=t5 at l5;refine Zx t5 (l8 ▸ Rj (vs:=[(0,.int .u8 (UInt8.toNat ((u8w y5)))),(1,.int .u8 (UInt8.toNat ((u8w ((x0).Day))))),(2,.int .u8 (UInt8.toNat ((u8w ((x0).Loom))))),(3,.int .u8 (UInt8.toNat ((u8w ((x0).Chain))))),(4,.int .u8 (UInt8.toNat ((u8w ((x0).Tie))))),(5,.int .u8 (UInt8.toNat ((u8w ((x0).Picks)))))]) [[.int .u8 0],[.int .u8 0],[.int .u8 0],[.int .u8 0],[.int .u8 0],[.int .u8 0],[.int .u8 0],[.int .u8 0]] underlying82 E3 szA_5 rfl (by simp) (.cons rfl (.cons rfl (.cons rfl (.cons rfl (.cons rfl (.cons rfl .nil)))))) ⟨⟨_,rfl,rfl⟩,⟨⟨_,rfl,rfl⟩,⟨⟨_,rfl,rfl⟩,⟨⟨_,rfl,rfl⟩,⟨⟨_,rfl,rfl⟩,⟨⟨_,rfl,rfl⟩,trivial⟩⟩⟩⟩⟩⟩) rfl (Z4 rfl (Gg (g:=g2) (v:=t5) sizeOf82 rfl b2 rfl l5 fun i6 oD hs b17 cb=>?_));clear cb;have hfr:=hfr.stp hs;refine Z3 (Z5 (Z4 rfl (Tp (g:=i6) isAgg82 sizeOf82 rfl b17 fun nB oB=>?_)))
 obtain ⟨o0,hy20,h⟩:=Z1 h;refine Z4 rfl (Zp (g:=i6) (vs:=[nB]) en43 (.cons rfl .nil) (wk43 oB hy20) fun vB bD yD hs hr=>?_);have hfr:=hfr.ext hs;have b17:=b17.ext hs;obtain ⟨uC,vC,rfl,rfl,rfl⟩:=hr;refine Zn (.tuple #[.int .u8 (UInt8.toNat (o0.1)),.int .u8 (UInt8.toNat (o0.2))]) rfl rfl (Zx (.int .u8 (UInt8.toNat (o0.1))) (Zi rfl rfl) rfl (Zx (.int .u8 (UInt8.toNat (o0.2))) (Zi rfl rfl) rfl (Zx (Z8 p2 6) (Tk (α:=UInt8) (i:=(6:Int)) underlying82 sizeOf5 rfl (OB.ptr b17) rfl (Ma (v:=(⟨List.toArray [(u8w y5),(u8w ((x0).Day)),(u8w ((x0).Loom)),(u8w ((x0).Chain)),(u8w ((x0).Tie)),(u8w ((x0).Picks)),0,0],rfl⟩:Vector UInt8 8)) (i:=6) (by decide))) rfl (Z4 rfl (W2 (g:=vB) (Gd.vec (β:=UInt8) (n:=8) (i:=6) (by decide)) sizeOf5 rfl b17 rfl (Qy.2 rfl) fun yB zD hs b21 rst hos=>?_)))));clear rst hos;have hfr:=hfr.stp hs;refine Zx (Z8 p2 7) (Tk (α:=UInt8) (i:=(7:Int)) underlying82 sizeOf5 rfl (OB.ptr b21) rfl (Ma (v:=(Vector.set ((⟨List.toArray [(u8w y5),(u8w ((x0).Day)),(u8w ((x0).Loom)),(u8w ((x0).Chain)),(u8w ((x0).Tie)),(u8w ((x0).Picks)),0,0],rfl⟩:Vector UInt8 8)) 6 (o0.1) (by decide))) (i:=7) (by decide))) rfl (Z4 rfl (W2 (g:=yB) (Gd.vec (β:=UInt8) (n:=8) (i:=7) (by decide)) sizeOf5 rfl b21 rfl (Qy.2 rfl) fun g8 aE hs b22 rst hos=>?_));clear rst hos;have hfr:=hfr.stp hs;refine Z3 (Z5 (Z4 rfl (Tp (g:=g8) isAgg82 sizeOf82 rfl b22 fun zB cC=>(Z4 rfl (Gg (g:=g8) (v:=zB) sizeOf82 rfl b22 rfl cC fun bE iE hs b24 cb=>?_)))));clear cb;have hfr:=hfr.stp hs;refine Z3 (Ga ?_);obtain rfl:=sinj h;obtain ⟨ad25,cv25,hp25,n8,cr25⟩:=T9 isAgg82 sizeOf82 b24;exact D9 rfl rfl ((rq p2).trans hp25) n8 ⟨_,hfr,cr25⟩
def f42 (x0:List UInt8) (x1:Int):Option (It (List UInt8)):=
 Option.bind (α:=Unit) (
  bif (decide (x1 < (1 : Int))) then
   none
  else
   some ()
  ) fun (_:Unit)=>
 some ((fun σ cons s=>f81 x0 x1 σ cons s))
theorem en42:Enters prog 42:=enters_of func42 (by kernel_rfl) rfl
theorem wk42 {gI:Gh} {wI:World} {x0:List UInt8} {x1:Int} {up0:Value} (rp0:RV gI.m wI x0 up0) {r:It (List UInt8)} (h:f42 x0 x1=some r):Fn prog 42 #[up0,Iz (x1)] gI wI (fun m w v=>ItV prog (RA1 (α:=(List UInt8))) (r) v m w):=by
 unfold f42 at h;refine fnE func42 rfl rfl fun g0 hm hfr=>?_;have rp0:=RVc hm rp0;show E _ 9 none _ _ _ _ _;refine Z5 (Z4 rfl (Tv (g:=g0) rfl rp0 fun g1 w1 p1 hs q1=>?_));have hfr:=hfr.ext hs;refine Z4 rfl (Tv (g:=g1) rfl (Zj.2 rfl) fun g2 w2 p2 hs q2=>?_);have hfr:=hfr.ext hs;have q1:=q1.ext hs;refine Zg (.nilFunc) rfl rfl (Z3 ?_);obtain ⟨_,hx,h⟩:=Z1 h;refine Gl (fun e w=>∃ (g:Gh) ,Fr gI wI g w∧e 2=p1∧PT g.m w (x0:List UInt8) p1∧e 3=p2∧PT g.m w (x1:Int) p2) (fun Q' hQ=>?_) (fun g8 w7 hR=>?_)
 ·replace h := hx
  clear hx;refine Z5 (Z4 rfl (Z6 (g:=g2) isAgg3 sizeOf3 rfl q2 fun v5 r5=>?_));obtain rfl:=Zj.1 r5;refine Z9 (.bool ((decide (x1 < (1:Int))))) rfl rfl rfl rfl (Z3 ?_);rcases Zt h with ⟨hc6,h⟩ | ⟨hc6,h⟩
  ·refine G6 hc6 rfl (Za ?_)
   cases h
  ·refine G7 hc6 rfl (Zu ?_)
   obtain rfl:=sinj h;exact hQ _ _ ⟨g2,hfr,rfl,q1,rfl,q2⟩
 ·clear hx
  obtain ⟨g7,hfr,o0,l5,t5,i6⟩:=hR;refine Z5 (Zx ((.func (.func 81) #[] #[p1,p2])) (W9 (Yr (show ev _ _=p1 from o0) (show ev _ _=p2 from t5))) rfl (Zg ((.func (.func 81) #[] #[p1,p2])) rfl rfl (Z3 (Ga ?_))));obtain rfl:=sinj h;exact Tg rfl rfl (rq (.func (.func 81) #[] #[p1,p2])) ⟨_,hfr,(show ItV prog (RA1 (α:=(List UInt8))) (fun σ cons s=>f81 x0 x1 σ cons s) ((.func (.func 81) #[] #[p1,p2])) g7.m w7 from ⟨81,#[],#[p1,p2],rfl,en81,fun g' w' hch σ cons s s' h=>wk81  (l5.ch hch) (i6.ch hch) h⟩)⟩
def f45 (x0:Int) (x1:Int):Option (Int):=
 (f82 x0).bind fun y2=>
 (f82 x1).bind fun y4=>
 jn (σ:=Unit) (fun _=>
  jn (σ:=Unit) (fun _=>
   jn (σ:=Unit) (fun _=>
    jn (σ:=Unit) (fun _=>
     some ((0:Int))
     ) fun mB=>
    bif (decide (x0 > x1)) then
     some ((1:Int))
    else
     mB ()
    ) fun nB=>
   bif (decide (x0 < x1)) then
    some ((-1:Int))
   else
    nB ()
   ) fun k18=>
  bif y4 then
   some ((1:Int))
  else
   k18 ()
  ) fun oB=>
 bif y2 then
  jn (σ:=Unit) (fun _=>
   some ((-1:Int))
   ) fun vB=>
  bif y4 then
   some ((0:Int))
  else
   vB ()
 else
  oB ()
theorem en45:Enters prog 45:=enters_of func45 (by kernel_rfl) rfl
theorem wk45 {gI:Gh} {wI:World} {x0:Int} {x1:Int}  {r:Int} (h:f45 x0 x1=some r):Fn prog 45 #[Iz (x0),Iz (x1)] gI wI (fun _ _ v=>v=Iz (r)):=by
 unfold f45 at h;refine fnE func45 rfl rfl fun g0 hm hfr=>?_;show E _ 20 none _ _ _ _ _;refine Z5 (Zg (Iz (0)) rfl rfl (Z3 (Z5 (Zn (Iz (x0)) rfl rfl ?_))));obtain ⟨y2,hy2,h⟩:=Z1 h;refine Z4 rfl (Zp (g:=g0) (vs:=[Iz (x0)]) en82 (.cons rfl .nil) (wk82  hy2) fun g1 w1_ v1 hs hr=>?_);have hfr:=hfr.ext hs;subst hr;refine Zg (.bool (y2)) rfl rfl (Z3 (Z5 (Zn (Iz (x1)) rfl rfl ?_)));obtain ⟨y4,bD,h⟩:=Z1 h;refine Z4 rfl (Zp (g:=g1) (vs:=[Iz (x1)]) en82 (.cons rfl .nil) (wk82  bD) fun g3 w3_ v3 hs hr=>?_);have hfr:=hfr.ext hs;subst hr;refine Zg (.bool (y4)) rfl rfl (Z3 (Zq h (fun (s:Unit) e w=>∃ (g:Gh) ,Fr gI wI g w∧e 0=Iz (x0)∧e 1=Iz (x1)∧e 6=.bool (y4)) (fun X10 oB yB h=>?_) ?_))
 ·refine Z5 (Zn (.bool (y2)) rfl rfl (Z3 ?_))
  rcases Zt h with ⟨o0,h⟩ | ⟨o0,h⟩
  ·refine G6 o0 rfl (Zq h (fun (s : Unit) e w => ∃ (g : Gh) , Fr gI wI g w) (fun X13 vB zB h => ?_) ?_)
   ·refine Z5 (Zn (.bool (y4)) rfl rfl (Z3 ?_))
    rcases Zt h with ⟨l5,h⟩ | ⟨l5,h⟩
    ·refine G6 l5 rfl (Z5 (Zg (Iz (0)) rfl rfl (Z3 (Ga (Gp (Gp ?_))))))
     obtain rfl:=sinj h;exact Tg rfl rfl (rq (Iz (0))) ⟨_,hfr,rfl⟩
    ·refine G7 l5 rfl ?_
     exact Zu (Zd (zB () _ _ ⟨g3,hfr⟩ h))
   ·rintro _ oD w15 ⟨iE, hfr⟩ h
    refine Z5 (Zg (Iz (-1)) rfl rfl (Z3 (Ga (Gp ?_))));obtain rfl:=sinj h;exact Tg rfl rfl (rq (Iz (-1))) ⟨_,hfr,rfl⟩
  ·refine G7 o0 rfl ?_
   exact Zu (Zd (yB () _ _ ⟨g3,hfr,rfl,rfl,rfl⟩ h))
 ·rintro _ yD lE ⟨cD, hfr, v8, l9, n9⟩ h
  refine Zq h (fun (s:Unit) e w=>∃ (g:Gh) ,Fr gI wI g w∧e 0=Iz (x0)∧e 1=Iz (x1)) (fun X18 k18 cC h=>?_) ?_
  ·refine Z5 (Zo n9 rfl (Z3 ?_))
   rcases Zt h with ⟨t5,h⟩ | ⟨t5,h⟩
   ·refine G6 t5 rfl (Z5 (Zg (Iz (1)) rfl rfl (Z3 (Ga (Gp ?_)))))
    obtain rfl:=sinj h;exact Tg rfl rfl (rq (Iz (1))) ⟨_,hfr,rfl⟩
   ·refine G7 t5 rfl ?_
    exact Zu (Zd (cC () _ _ ⟨cD,hfr,v8,l9⟩ h))
  ·rintro _ zD mE ⟨lD, hfr, l8, n8⟩ h
   refine Zq h (fun (s:Unit) e w=>∃ (g:Gh) ,Fr gI wI g w∧e 0=Iz (x0)∧e 1=Iz (x1)) (fun X22 nB uC h=>?_) ?_
   ·refine Z5 (Zo l8 rfl (Zo n8 rfl (Z9 (.bool ((decide (x0 < x1)))) rfl rfl rfl rfl (Z3 ?_))))
    rcases Zt h with ⟨i6,h⟩ | ⟨i6,h⟩
    ·refine G6 i6 rfl (Z5 (Zg (Iz (-1)) rfl rfl (Z3 (Ga (Gp ?_)))))
     obtain rfl:=sinj h;exact Tg rfl rfl (rq (Iz (-1))) ⟨_,hfr,rfl⟩
    ·refine G7 i6 rfl ?_
     exact Zu (Zd (uC () _ _ ⟨lD,hfr,l8,n8⟩ h))
   ·rintro _ aE oE ⟨nD, hfr, aB, lB⟩ h
    refine Zq h (fun (s:Unit) e w=>∃ (g:Gh) ,Fr gI wI g w) (fun X26 mB vC h=>?_) ?_
    ·refine Z5 (Zo aB rfl (Zo lB rfl (Z9 (.bool ((decide (x0 > x1)))) rfl rfl rfl rfl (Z3 ?_))))
     rcases Zt h with ⟨g8,h⟩ | ⟨g8,h⟩
     ·refine G6 g8 rfl (Z5 (Zg (Iz (1)) rfl rfl (Z3 (Ga (Gp ?_)))))
      obtain rfl:=sinj h;exact Tg rfl rfl (rq (Iz (1))) ⟨_,hfr,rfl⟩
     ·refine G7 g8 rfl ?_
      exact Zu (Zd (vC () _ _ ⟨nD,hfr⟩ h))
    ·rintro _ bE rE ⟨uE, hfr⟩ h
     refine Z5 (Zg (Iz (0)) rfl rfl (Z3 (Ga ?_)));obtain rfl:=sinj h;exact Tg rfl rfl (rq (Iz (0))) ⟨_,hfr,rfl⟩
def f55 (x0:List Gw) (x1:Gw→Option Bool):Option (Bool):=
 (f91 x0 x1).bind fun y2=>
 some ((decide (y2 ≥ (0:Int))))
theorem en55:Enters prog 55:=enters_of func55 (by kernel_rfl) rfl
theorem wk55 {gI:Gh} {wI:World} {x0:List Gw} {x1:Gw→Option Bool} {up0:Value} (rp0:RV gI.m wI x0 up0) {up1:Value} (rp1:Hz prog x1 up1 gI wI) {r:Bool} (h:f55 x0 x1=some r):Fn prog 55 #[up0,up1] gI wI (fun _ _ v=>v=.bool (r)):=by
 unfold f55 at h;refine fnE func55 rfl rfl fun g0 hm hfr=>?_;have rp0:=RVc hm rp0;obtain ⟨ff1,fa1,fc1,rfl,fen1,fcl1⟩:=rp1;show E _ 9 none _ _ _ _ _;refine Z5 (Zg (.bool false) rfl rfl (Z3 (Z5 (Zn up0 rfl rfl (Zn ((.func (.func ff1) fa1 fc1)) rfl rfl ?_)))));obtain ⟨y2,hy2,h⟩:=Z1 h;refine Z4 rfl (Zp (g:=g0) (vs:=[up0,(.func (.func ff1) fa1 fc1)]) en91 (.cons rfl (.cons rfl .nil)) (wk91 rp0 (Hz.ch ⟨_,_,_,rfl,fen1,fcl1⟩ hfr.ch) hy2) fun g1 w1_ v1 hs hr=>?_);have hfr:=hfr.ext hs;subst hr;refine Z9 (.bool ((decide (y2 ≥ (0:Int))))) rfl rfl rfl rfl (Zg (.bool ((decide (y2 ≥ (0:Int))))) rfl rfl (Z3 (Ga ?_)));obtain rfl:=sinj h;exact Tg rfl rfl (rq (.bool ((decide (y2 ≥ (0:Int)))))) ⟨_,hfr,rfl⟩
def f56 (x0:List Gj) (x1:Gj→Option Bool):Option (Bool):=
 (f92 x0 x1).bind fun y2=>
 some ((decide (y2 ≥ (0:Int))))
theorem en56:Enters prog 56:=enters_of func56 (by kernel_rfl) rfl
theorem wk56 {gI:Gh} {wI:World} {x0:List Gj} {x1:Gj→Option Bool} {up0:Value} (rp0:RV gI.m wI x0 up0) {up1:Value} (rp1:Hz prog x1 up1 gI wI) {r:Bool} (h:f56 x0 x1=some r):Fn prog 56 #[up0,up1] gI wI (fun _ _ v=>v=.bool (r)):=by
 unfold f56 at h;refine fnE func56 rfl rfl fun g0 hm hfr=>?_;have rp0:=RVc hm rp0;obtain ⟨ff1,fa1,fc1,rfl,fen1,fcl1⟩:=rp1;show E _ 9 none _ _ _ _ _;refine Z5 (Zg (.bool false) rfl rfl (Z3 (Z5 (Zn up0 rfl rfl (Zn ((.func (.func ff1) fa1 fc1)) rfl rfl ?_)))));obtain ⟨y2,hy2,h⟩:=Z1 h;refine Z4 rfl (Zp (g:=g0) (vs:=[up0,(.func (.func ff1) fa1 fc1)]) en92 (.cons rfl (.cons rfl .nil)) (wk92 rp0 (Hz.ch ⟨_,_,_,rfl,fen1,fcl1⟩ hfr.ch) hy2) fun g1 w1_ v1 hs hr=>?_);have hfr:=hfr.ext hs;subst hr;refine Z9 (.bool ((decide (y2 ≥ (0:Int))))) rfl rfl rfl rfl (Zg (.bool ((decide (y2 ≥ (0:Int))))) rfl rfl (Z3 (Ga ?_)));obtain rfl:=sinj h;exact Tg rfl rfl (rq (.bool ((decide (y2 ≥ (0:Int)))))) ⟨_,hfr,rfl⟩
def f69 (x0:Int) (x1:Int) (z0:Int) (z1:List Int) (z2:Int):Option (Int):=
 (idx z1 x1).bind fun y3=>
 (Ha (w64 (z0 * y3)) z2).bind fun y7=>
 (idx z1 x0).bind fun l5=>
 (Ha (w64 (z0 * l5)) z2).bind fun t5=>
 (f45 y7 t5).bind fun o0=>
 some (o0)
theorem en69:Enters prog 69:=enters_of func69 (by kernel_rfl) rfl
theorem wk69 {gI:Gh} {wI:World} {x0:Int} {x1:Int} {z0:Int} {z1:List Int} {z2:Int} {pf0:Value} (qf0:PT gI.m wI z0 pf0) {pf1:Value} (qf1:PT gI.m wI z1 pf1) {pf2:Value} (qf2:PT gI.m wI z2 pf2) {r:Int} (h:f69 x0 x1 z0 z1 z2=some r):Fn prog 69 #[Iz (x0),Iz (x1),pf0,pf1,pf2] gI wI (fun _ _ v=>v=Iz (r)):=by
 unfold f69 at h;refine fnE func69 rfl rfl fun g0 hm hfr=>?_;have qf0:PT g0.m wI z0 pf0:=hm ▸ qf0;have qf1:PT g0.m wI z1 pf1:=hm ▸ qf1;have qf2:PT g0.m wI z2 pf2:=hm ▸ qf2;show E _ 25 none _ _ _ _ _;refine Z5 (Zg (Iz (0)) rfl rfl (Z3 (Zf (Zs (x:=.tmp 2) isAgg3 sizeOf3 qf0 fun v1 r1 hl1=>?_))));obtain rfl:=Zj.1 r1;refine Zs (x:=.tmp 3) isAgg25 sizeOf25 qf1 fun v2 r2 hl2=>?_;obtain ⟨y3,hy3,h⟩:=Z1 h;have q4:=Gx r2 hy3;refine Zs (x:=.tmp 11) isAgg3 sizeOf3 q4 fun v5 r5 l9=>?_;obtain rfl:=Zj.1 r5;refine Zs (x:=.tmp 4) isAgg3 sizeOf3 qf2 fun v6 r6 n9=>?_;obtain rfl:=Zj.1 r6;obtain ⟨y7,aB,h⟩:=Z1 h;refine Zs (x:=.tmp 2) isAgg3 sizeOf3 qf0 fun v8 r8 lB=>?_;obtain rfl:=Zj.1 r8;refine Zs (x:=.tmp 3) isAgg25 sizeOf25 qf1 fun v9 r9 mB=>?_;obtain ⟨l5,i6,h⟩:=Z1 h;have nB:=Gx r9 i6;refine Zs (x:=.tmp 19) isAgg3 sizeOf3 nB fun yB oB hl12=>?_;obtain rfl:=Zj.1 oB;refine Zs (x:=.tmp 4) isAgg3 sizeOf3 qf2 fun zB vB g8=>?_;obtain rfl:=Zj.1 vB;obtain ⟨t5,l8,h⟩:=Z1 h;obtain ⟨o0,n8,h⟩:=Z1 h;refine To (g:=g0) (n:=18) [(16,(fun v g w=>v=Iz (o0)))] [0,1,2,3,4,5,6,7,8,9,10,11,12,13,14,15,16,17] rfl mixed (by kernel_rfl) (⟨fun _=>Wk _,trivial⟩) (Tm (c:=Iz (z0)) rfl rfl .plain (fun _ _ h=>h.ch) hl1 rfl (Tm (c:=v2) rfl rfl .plain (fun _ _ h=>h.ch) hl2 rfl (Z0 (Iz (x1)) rfl rfl (Zk rfl) (Z0 (Tb v2 x1 1) rfl rfl (Zh (α:=Int) underlying25 sizeOf3 rfl r2 rfl hy3) (Tm (c:=Iz (y3)) rfl rfl .plain (fun _ _ h=>h.ch) l9 rfl (Z0 (Iz ((w64 (z0 * y3)))) rfl rfl (Gk rfl rfl rfl) (Tm (c:=Iz (z2)) rfl rfl .plain (fun _ _ h=>h.ch) n9 rfl (Z0 (Iz (y7)) rfl rfl (Gk rfl rfl (congrArg (Option.map (Value.int .i64)) aB)) (Tm (c:=Iz (z0)) rfl rfl .plain (fun _ _ h=>h.ch) lB rfl (Tm (c:=v9) rfl rfl .plain (fun _ _ h=>h.ch) mB rfl (Z0 (Iz (x0)) rfl rfl (Zk rfl) (Z0 (Tb v9 x0 1) rfl rfl (Zh (α:=Int) underlying25 sizeOf3 rfl r9 rfl i6) (Tm (c:=Iz (l5)) rfl rfl .plain (fun _ _ h=>h.ch) hl12 rfl (Z0 (Iz ((w64 (z0 * l5)))) rfl rfl (Gk rfl rfl rfl) (Tm (c:=Iz (z2)) rfl rfl .plain (fun _ _ h=>h.ch) g8 rfl (Z0 (Iz (t5)) rfl rfl (Gk rfl rfl (congrArg (Option.map (Value.int .i64)) l8)) ?_))))))))))))))));refine W7 (φ:=fun v g w=>v=Iz (o0)) rfl rfl .plain (fun g w hd=>Zp (g:=g) (vs:=[Iz (y7),Iz (t5)]) en45 (.cons rfl (.cons rfl .nil)) (wk45  n8) fun g' w' v hs hr=>⟨g',hs,hr⟩) (fun cC hv=>?_);obtain ⟨_,_,_,rfl⟩:=hv;refine Z0 (Iz (o0)) rfl rfl (Te rfl) (Ka fun uC vC hs=>?_);have hfr:=hfr.ext hs;clear hs;refine Z3 (Ga ?_);obtain rfl:=sinj h;exact Tg rfl rfl (rq (Iz (o0))) ⟨_,hfr,rfl⟩
def f71 (x0:Gr):Option ((List Int) × (List Int) × Int × Int):=
 Option.bind (α:=(List Int)) (
  lp (σ:=(List Int) × Int) (fun zK (yE,l5)=>
   bif (decide (l5 < ((((x0).PayTable).Rows).length : Int))) then
    Option.bind (α:=(List Int)) (
     (idx (((x0).PayTable).Rows) l5).bind fun y130=>
     (f109 y130).bind fun l9=>
     (idx (((x0).PayTable).Across) l5).bind fun n9=>
     (apnd 8 yE (([(w64 (l9 - n9))]:List Int))).bind fun aH=>
     some (aH)
     ) fun vB=>
    zK (vB,(w64 (l5 + (1:Int))))
   else
    some (yE)
   ) big ([],(0:Int))
  ) fun l8=>
 Option.bind (α:=(List Int)) (
  lp (σ:=(List Int) × Int) (fun cH (aE,o0)=>
   bif (decide (o0 < ((((x0).PayTable).Down).length : Int))) then
    Option.bind (α:=(List Int)) (
     (idx (((x0).PayTable).Down) o0).bind fun uC=>
     (f110 x0 o0).bind fun gH=>
     (f109 gH).bind fun bE=>
     (apnd 8 aE (([(w64 (bE - uC))]:List Int))).bind fun jH=>
     some (jH)
     ) fun yB=>
    cH (yB,(w64 (o0 + (1:Int))))
   else
    some (aE)
   ) big ([],(0:Int))
  ) fun cD=>
 (f109 (((x0).PayTable).Across)).bind fun vC=>
 (f109 (((x0).PayTable).Down)).bind fun bD=>
 some (l8,cD,(w64 (vC - ((x0).PayTable).Total)),(w64 (bD - ((x0).PayTable).Total)))
theorem en71:Enters prog 71:=enters_of func71 (by kernel_rfl) rfl
theorem wk71 {gI:Gh} {wI:World} {x0:Gr} {up0:Value} (rp0:RV gI.m wI x0 up0) {r:(List Int) × (List Int) × Int × Int} (h:f71 x0=some r):Fn prog 71 #[up0] gI wI (fun m w v=>∃ y0 y1 y2 y3,v=.tuple #[y0,y1,y2,y3]∧RV m w (r.1) y0∧RV m w (r.2.1) y1∧y2=Iz (r.2.2.1)∧y3=Iz (r.2.2.2)):=by
 unfold f71 at h;refine fnE func71 rfl rfl fun g0 hm hfr=>?_;have rp0:=RVc hm rp0;show E _ 69 none _ _ _ _ _;refine Z5 (Z4 rfl (Tv (g:=g0) rfl rp0 fun g1 w1 p1 hs q1=>?_));have hfr:=hfr.ext hs;refine Zg (.slice none 0 0) rfl rfl (Zg (.slice none 0 0) rfl rfl (Zg (Iz (0)) rfl rfl (Zg (Iz (0)) rfl rfl (Z3 ?_))));obtain ⟨l8,hx,h⟩:=Z1 h;refine Gl (fun e w=>∃ (g:Gh) (v2:Value),Fr gI wI g w∧e 1=p1∧PT g.m w (x0:Gr) p1∧e 2=v2∧RV g.m w (l8:List Int) v2∧OS 1002 g w 3 (l8:List Int) v2∧e 3=.slice none 0 0∧RV g.m w ([]:List Int) (Value.slice none 0 0)) (fun Q' hQ=>?_) (fun mN tN hR=>?_)
 ·replace h := hx
  clear hx;refine Z5 (Zx (Z8 p1 0) (Zc Tz rfl (PT.ptr q1)) rfl ?_);have aL:=Zm (G0).1 q1;refine Zx (Z8 (Z8 p1 0) 0) (Zc Q7 rfl (PT.ptr aL)) rfl ?_;have jN:=Zm (Qf).1 aL;refine Z4 rfl (Z6 (g:=g1) isAgg122 sizeOf122 rfl jN fun eF bL=>(Zx (Iz ((((x0).PayTable).Rows).length:Int)) (Gz underlying122 rfl bL) rfl (Zn (Iz (0)) rfl rfl (Z3 (Zr (Q0 h (fun (s:(List Int) × Int) e w=>∃ (g:Gh) (v2:Value),Fr gI wI g w∧e 1=p1∧PT g.m w (x0:Gr) p1∧e 2=v2∧RV g.m w (s.1:List Int) v2∧OS 1002 g w 3 (s.1:List Int) v2∧e 3=.slice none 0 0∧RV g.m w ([]:List Int) (Value.slice none 0 0)∧e 12=eF∧RV g.m w (((x0).PayTable).Rows:List (List Int)) eF∧e 13=Iz (((((x0).PayTable).Rows).length:Int))∧e 14=Iz (s.2)) ⟨g1,(.slice none 0 0),hfr,rfl,q1,rfl,T0,OS.nil,rfl,T0,rfl,bL,rfl,rfl⟩ (fun X89 zK dL=>?_)))))));rintro ⟨yE,l5⟩ uN sO ⟨kH,aG,hfr,zE,oB,bG,yD,zD,cG,zB,rF,nB,sF,lD⟩ h;refine Z5 (Zx (.bool ((decide (l5 < ((((x0).PayTable).Rows).length:Int))))) (Gk lD sF rfl) rfl (Z3 (Zf ?_)));rcases Zt h with ⟨xF,h⟩ | ⟨xF,h⟩
  ·refine G6 xF rfl (Zu (Zd ?_))
   obtain ⟨vB,hx,h⟩:=Z1 h;refine Gl (fun e w=>∃ (g:Gh) (v2:Value),Fr gI wI g w∧e 1=p1∧PT g.m w (x0:Gr) p1∧e 2=v2∧RV g.m w (vB:List Int) v2∧OS 1002 g w 3 (vB:List Int) v2∧e 3=.slice none 0 0∧RV g.m w ([]:List Int) (Value.slice none 0 0)∧e 12=eF∧RV g.m w (((x0).PayTable).Rows:List (List Int)) eF∧e 13=Iz (((((x0).PayTable).Rows).length:Int))∧e 14=Iz (l5)) (fun Q' hQ=>?_) (fun nN vN hR=>?_)
   ·replace h := hx
    clear hx;refine Zr (Z5 (Zo lD rfl ?_));obtain ⟨y130,eG,h⟩:=Z1 h;refine Zx (Tb eF l5 1) (Zh (α:=List Int) underlying122 sizeOf25 rF nB lD eG) rfl ?_;have eL:=Gx nB eG;refine Z4 rfl (Z6 (g:=kH) isAgg25 sizeOf25 rfl eL fun yF gL=>(Zg (Iz (l5)) rfl rfl (Zg yF rfl rfl (Z3 ?_))));obtain ⟨l9,cK,h⟩:=Z1 h;have lH:=Zm (G0).1 oB;have iL:=Zm (Kp).1 lH;refine Zs (x:=.tmp 23) isAgg25 sizeOf25 iL fun mH nH dK=>?_;obtain ⟨n9,gG,h⟩:=Z1 h;have jL:=Gx nH gG;refine Zs (x:=.tmp 26) isAgg3 sizeOf3 jL fun xN lL lK=>?_;obtain rfl:=Zj.1 lL;refine To (g:=kH) (n:=11) [(2,(fun v g w=>v=Iz (l9))),(10,(fun v g w=>RV g.m w ([(w64 (l9 - n9))]:List Int) v∧OS 3029 g w 3 ([(w64 (l9 - n9))]:List Int) v∧Qx v))] [0,1,2,3,4,5,6,7,8,9,10] rfl mixed (by kernel_rfl) (⟨fun _=>Wk _,fun _=>W0 Jf (W0 V1 (Wk _)),trivial⟩) (Z0 aG rfl rfl (Zk bG) (Z0 yF rfl rfl (Zk rfl) (W7 (φ:=fun v g w=>v=Iz (l9)) rfl rfl .plain (fun g w hd=>Zp (g:=g) (vs:=[yF]) en109 (.cons rfl .nil) (wk109 (gL.ext hd.1) cK) fun g' w' v hs hr=>⟨g',hs,hr⟩) (fun yN hv=>?_))));obtain ⟨_,_,_,rfl⟩:=hv;refine Z0 (Z8 p1 0) rfl rfl (Zc Tz zE (PT.ptr oB)) (Z0 (Z8 (Z8 p1 0) 1) rfl rfl (Zc Y5 rfl (PT.ptr lH)) (Tm (c:=mH) rfl rfl .plain (fun _ _ h=>h.ch) dK rfl (Z0 (Iz (l5)) rfl rfl (Zk rfl) (Z0 (Tb mH l5 1) rfl rfl (Zh (α:=Int) underlying25 sizeOf3 rfl nH rfl gG) (Tm (c:=Iz (n9)) rfl rfl .plain (fun _ _ h=>h.ch) lK rfl (Z0 (Iz ((w64 (l9 - n9)))) rfl rfl (Gk rfl rfl rfl) (W7 (φ:=fun v g w=>RV g.m w ([(w64 (l9 - n9))]:List Int) v∧OS 3029 g w 3 ([(w64 (l9 - n9))]:List Int) v∧Qx v) rfl rfl .plain (fun g w hd=>Z7 (g:=g) 3029 (xs:=([(w64 (l9 - n9))]:List Int)) (vs:=[Iz ((w64 (l9 - n9)))]) underlying25 sizeOf3 zeroValue3 rfl rfl (.cons rfl .nil) (RVs.cons (Zj.2 rfl) RVs.nil) rfl rfl fun g' w' v hs o r hxt hfl=>⟨g',hxt,r,o,hfl⟩) (fun oD hv=>?_))))))));clear hv;refine J6 fun mL zN hall=>?_;have hs:=hall.1;have hfr:=hfr.ext hs;have oB:=oB.ext hs;have yD:=yD.ext hs;have zD:=zD.ext hs;have zB:=zB.ext hs;have nB:=nB.ext hs;have nL:=(T1 (A:=fun g w=>RV g.m w ([(w64 (l9 - n9))]:List Int) oD∧OS 3029 g w 3 ([(w64 (l9 - n9))]:List Int) oD∧Qx oD) 10 rfl hall).1;have o165:=(T1 (A:=fun g w=>RV g.m w ([(w64 (l9 - n9))]:List Int) oD∧OS 3029 g w 3 ([(w64 (l9 - n9))]:List Int) oD∧Qx oD) 10 rfl hall).2.1;clear hs hall;obtain ⟨aH,mK,h⟩:=Z1 h;refine Z4 rfl (T5 (g:=mL) (i:=1002) underlying25 Kr rfl rfl zD yD rfl nL mK fun oL aO oH hs o166 xL _=>?_);have hfr:=hfr.stp hs;have oB:=oB.stp hs;have zB:=zB.stp hs;have nB:=nB.stp hs;refine Zg oH rfl rfl (Zb (Tj ?_));obtain rfl:=sinj h;exact hQ _ _ ⟨oL,(oH),hfr,zE,oB,rfl,xL,o166,cG,zB,rF,nB,sF,lD⟩
   ·clear hx
    obtain ⟨yL,pH,hfr,qH,sH,tH,uH,xH,yH,zH,jG,kG,lG,mG⟩:=hR;refine Za (Z9 (Iz ((w64 (l5 + (1:Int))))) mG rfl rfl rfl (Zn (Iz ((w64 (l5 + (1:Int))))) rfl rfl ?_));exact Z3 (dL (vB,(w64 (l5 + (1:Int)))) _ _ ⟨yL,(pH),hfr,qH,sH,tH,uH,xH,yH,zH,jG,kG,lG,rfl⟩ h)
  ·refine G7 xF rfl (Tn (Gu (Gu (G8 ?_))))
   obtain rfl:=sinj h;exact hQ _ _ ⟨kH,(aG),hfr,zE,oB,bG,yD,zD,cG,zB⟩
 ·clear hx
  obtain ⟨aI,i6,hfr,tF,iE,bI,dI,iI,jI,kI⟩:=hR;obtain ⟨cD,hx,h⟩:=Z1 h;refine Gl (fun e w=>∃ (g:Gh) (v3:Value),Fr gI wI g w∧e 1=p1∧PT g.m w (x0:Gr) p1∧e 2=i6∧RV g.m w (l8:List Int) i6∧OS 1002 g w 3 (l8:List Int) i6∧e 3=v3∧RV g.m w (cD:List Int) v3∧OS 1003 g w 3 (cD:List Int) v3) (fun Q' hQ=>?_) (fun oN bO hR=>?_)
  ·replace h := hx
   clear hx;refine Z5 (Zx (Z8 p1 0) (Zc Tz tF (PT.ptr iE)) rfl ?_);have lI:=Zm (G0).1 iE;refine Zx (Z8 (Z8 p1 0) 2) (Zc Yo rfl (PT.ptr lI)) rfl ?_;have zL:=Zm (W1).1 lI;refine Z4 rfl (Z6 (g:=aI) isAgg25 sizeOf25 rfl zL fun lE mI=>(Zx (Iz ((((x0).PayTable).Down).length:Int)) (Gz underlying25 rfl mI) rfl (Zn (Iz (0)) rfl rfl (Z3 (Zr (Q0 h (fun (s:(List Int) × Int) e w=>∃ (g:Gh) (v3:Value),Fr gI wI g w∧e 1=p1∧PT g.m w (x0:Gr) p1∧e 2=i6∧RV g.m w (l8:List Int) i6∧OS 1002 g w 3 (l8:List Int) i6∧e 3=v3∧RV g.m w (s.1:List Int) v3∧OS 1003 g w 3 (s.1:List Int) v3∧e 34=lE∧RV g.m w (((x0).PayTable).Down:List Int) lE∧e 35=Iz (((((x0).PayTable).Down).length:Int))∧e 36=Iz (s.2)) ⟨aI,(.slice none 0 0),hfr,tF,iE,bI,dI,iI,jI,kI,OS.nil,rfl,mI,rfl,rfl⟩ (fun X202 cH nK=>?_)))))));rintro ⟨aE,o0⟩ pN cO ⟨cF,nI,hfr,mE,g8,uF,n8,v8,vF,aB,lB,vE,t5,xE,cC⟩ h;refine Z5 (Zx (.bool ((decide (o0 < ((((x0).PayTable).Down).length:Int))))) (Gk cC xE rfl) rfl (Z3 (Zf ?_)));rcases Zt h with ⟨dF,h⟩ | ⟨dF,h⟩
   ·refine G6 dF rfl (Zu (Zd ?_))
    obtain ⟨yB,hx,h⟩:=Z1 h;refine Gl (fun e w=>∃ (g:Gh) (v3:Value),Fr gI wI g w∧e 1=p1∧PT g.m w (x0:Gr) p1∧e 2=i6∧RV g.m w (l8:List Int) i6∧OS 1002 g w 3 (l8:List Int) i6∧e 3=v3∧RV g.m w (yB:List Int) v3∧OS 1003 g w 3 (yB:List Int) v3∧e 34=lE∧RV g.m w (((x0).PayTable).Down:List Int) lE∧e 35=Iz (((((x0).PayTable).Down).length:Int))∧e 36=Iz (o0)) (fun Q' hQ=>?_) (fun qN dO hR=>?_)
    ·replace h := hx
     clear hx;refine Zr (Z5 (Zo cC rfl ?_));obtain ⟨uC,iG,h⟩:=Z1 h;refine Zx (Tb lE o0 1) (Zh (α:=Int) underlying25 sizeOf3 vE t5 cC iG) rfl ?_;have aM:=Gx t5 iG;refine Z4 rfl (Z6 (g:=cF) isAgg3 sizeOf3 rfl aM fun eO bM=>?_);obtain rfl:=Zj.1 bM;refine Zg (Iz (o0)) rfl rfl (Zg (Iz (uC)) rfl rfl (Z3 (Za (Zo vF rfl (Z4 rfl (Z6 (g:=cF) isAgg169 sizeOf169 mE g8 fun cM dM=>(Zn (Iz (o0)) rfl rfl ?_)))))));obtain ⟨gH,oK,h⟩:=Z1 h;refine Z4 rfl (Zp (g:=cF) (vs:=[cM,Iz (o0)]) en110 (.cons rfl (.cons rfl .nil)) (wk110 dM oK) fun eM rN iM hs hr=>?_);have hfr:=hfr.ext hs;have g8:=g8.ext hs;have n8:=n8.ext hs;have v8:=v8.ext hs;have aB:=aB.ext hs;have lB:=lB.ext hs;have t5:=t5.ext hs;have jM:=hr;obtain ⟨bE,pK,h⟩:=Z1 h;refine Z4 rfl (Zp (g:=eM) (vs:=[iM]) en109 (.cons rfl .nil) (wk109 jM pK) fun kM sN gO hs hr=>?_);have hfr:=hfr.ext hs;have g8:=g8.ext hs;have n8:=n8.ext hs;have v8:=v8.ext hs;have aB:=aB.ext hs;have lB:=lB.ext hs;have t5:=t5.ext hs;subst hr;refine Zn (Iz (uC)) rfl rfl (Z9 (Iz ((w64 (bE - uC)))) rfl rfl rfl rfl (Z4 rfl (Z7 (g:=kM) 3048 (xs:=([(w64 (bE - uC))]:List Int)) (vs:=[Iz ((w64 (bE - uC)))]) underlying25 sizeOf3 zeroValue3 rfl rfl (.cons rfl .nil) (RVs.cons (Zj.2 rfl) RVs.nil) rfl rfl fun pM jO kO hs o224 qM hxt hfl=>?_)));have hfr:=hfr.stp hs;have g8:=g8.stp hs;have n8:=n8.stp hs;have v8:=v8.stp hs rfl;have aB:=aB.stp hs;have lB:=lB.stp hs rfl;have t5:=t5.stp hs;obtain ⟨jH,qK,h⟩:=Z1 h;refine Z4 rfl (T5 (g:=pM) (i:=1003) underlying25 Kr rfl rfl lB aB rfl qM qK fun rM lO pI hs o225 sM _=>?_);have hfr:=hfr.stp hs;have g8:=g8.stp hs;have n8:=n8.stp hs;have v8:=v8.stp hs rfl;have t5:=t5.stp hs;refine Zg pI rfl rfl (Zb (Tj ?_));obtain rfl:=sinj h;exact hQ _ _ ⟨rM,(pI),hfr,mE,g8,uF,n8,v8,rfl,sM,o225,vE,t5,xE,cC⟩
    ·clear hx
     obtain ⟨tM,qI,hfr,sI,jJ,kJ,lJ,mJ,nJ,oJ,pJ,sG,xG,yG,zG⟩:=hR;refine Za (Z9 (Iz ((w64 (o0 + (1:Int))))) zG rfl rfl rfl (Zn (Iz ((w64 (o0 + (1:Int))))) rfl rfl ?_));exact Z3 (nK (yB,(w64 (o0 + (1:Int)))) _ _ ⟨tM,(qI),hfr,sI,jJ,kJ,lJ,mJ,nJ,oJ,pJ,sG,xG,yG,rfl⟩ h)
   ·refine G7 dF rfl (Tn (Gu (Gu (G8 ?_))))
    obtain rfl:=sinj h;exact hQ _ _ ⟨cF,(nI),hfr,mE,g8,uF,n8,v8,vF,aB,lB⟩
  ·clear hx
   obtain ⟨uM,oE,hfr,nD,mB,qJ,rE,kN,rJ,uE,lN⟩:=hR;refine Zf ?_;have sJ:=Zm (G0).1 mB;have vM:=Zm (Kp).1 sJ;refine Zs (x:=.tmp 54) isAgg25 sizeOf25 vM fun vJ xM sK=>?_;obtain ⟨vC,tK,h⟩:=Z1 h;have xJ:=Zm (G0).1 mB;have bN:=Zm (Hi).1 xJ;refine Zs (x:=.tmp 58) isAgg3 sizeOf3 bN fun mO cN uK=>?_;obtain rfl:=Zj.1 cN;have zJ:=Zm (G0).1 mB;have dN:=Zm (W1).1 zJ;refine Zs (x:=.tmp 62) isAgg25 sizeOf25 dN fun aK eN vK=>?_;obtain ⟨bD,xK,h⟩:=Z1 h;have bK:=Zm (G0).1 mB;have gN:=Zm (Hi).1 bK;refine Zs (x:=.tmp 66) isAgg3 sizeOf3 gN fun nO iN yK=>?_;obtain rfl:=Zj.1 iN;refine To (g:=uM) (n:=22) [(5,(fun v g w=>v=Iz (vC))),(13,(fun v g w=>v=Iz (bD)))] [0,1,2,3,4,5,6,7,8,9,10,11,12,13,14,15,16,17,18,19,20,21] rfl mixed (by kernel_rfl) (⟨fun _=>Wk _,fun _=>Wk _,trivial⟩) (Z0 i6 rfl rfl (Zk qJ) (Z0 oE rfl rfl (Zk rJ) (Z0 (Z8 p1 0) rfl rfl (Zc Tz nD (PT.ptr mB)) (Z0 (Z8 (Z8 p1 0) 1) rfl rfl (Zc Y5 rfl (PT.ptr sJ)) (Tm (c:=vJ) rfl rfl .plain (fun _ _ h=>h.ch) sK rfl (W7 (φ:=fun v g w=>v=Iz (vC)) rfl rfl .plain (fun g w hd=>Zp (g:=g) (vs:=[vJ]) en109 (.cons rfl .nil) (wk109 (xM.ext hd.1) tK) fun g' w' v hs hr=>⟨g',hs,hr⟩) (fun oO hv=>?_)))))));obtain ⟨_,_,_,rfl⟩:=hv;refine Z0 (Z8 p1 0) rfl rfl (Zc Tz nD (PT.ptr mB)) (Z0 (Z8 (Z8 p1 0) 3) rfl rfl (Zc Dj rfl (PT.ptr xJ)) (Tm (c:=Iz (((x0).PayTable).Total)) rfl rfl .plain (fun _ _ h=>h.ch) uK rfl (Z0 (Iz ((w64 (vC - ((x0).PayTable).Total)))) rfl rfl (Gk rfl rfl rfl) (Z0 (Z8 p1 0) rfl rfl (Zc Tz nD (PT.ptr mB)) (Z0 (Z8 (Z8 p1 0) 2) rfl rfl (Zc Yo rfl (PT.ptr zJ)) (Tm (c:=aK) rfl rfl .plain (fun _ _ h=>h.ch) vK rfl (W7 (φ:=fun v g w=>v=Iz (bD)) rfl rfl .plain (fun g w hd=>Zp (g:=g) (vs:=[aK]) en109 (.cons rfl .nil) (wk109 (eN.ext hd.1) xK) fun g' w' v hs hr=>⟨g',hs,hr⟩) (fun pO hv=>?_))))))));obtain ⟨_,_,_,rfl⟩:=hv;refine Z0 (Z8 p1 0) rfl rfl (Zc Tz nD (PT.ptr mB)) (Z0 (Z8 (Z8 p1 0) 3) rfl rfl (Zc Dj rfl (PT.ptr bK)) (Tm (c:=Iz (((x0).PayTable).Total)) rfl rfl .plain (fun _ _ h=>h.ch) yK rfl (Z0 (Iz ((w64 (bD - ((x0).PayTable).Total)))) rfl rfl (Gk rfl rfl rfl) (Z0 i6 rfl rfl (Te rfl) (Z0 oE rfl rfl (Te rfl) (Z0 (Iz ((w64 (vC - ((x0).PayTable).Total)))) rfl rfl (Te rfl) (Z0 (Iz ((w64 (bD - ((x0).PayTable).Total)))) rfl rfl (Te rfl) (Ka fun qO rO hs=>?_))))))));have hfr:=hfr.ext hs;have rE:=rE.ext hs;have uE:=uE.ext hs;clear hs;refine Z3 (Ga ?_);obtain rfl:=sinj h;exact Am rfl rfl (rq i6) (rq oE) (rq (Iz ((w64 (vC - ((x0).PayTable).Total))))) (rq (Iz ((w64 (bD - ((x0).PayTable).Total))))) ⟨_,hfr,_,_,_,_,rfl,rE,uE,rfl,rfl⟩
def f79 : Nat → (List Z2) → (Int) → (Int) → (Int) → (Z2 → Z2 → Option Int) → Option ((List Z2))
 | 0,_,_,_,_,_=>none
 | n + 1,x0,x1,x2,x3,x4=>
  lp (σ:=(List Z2) × Int × Int × Int × Bool × Bool) (fun k1 (n8,o0,l5,i6,t5,l8)=>
   jn (σ:=(List Z2)) (fun l9=>
    jn (σ:=Unit) (fun _=>
     Option.bind (α:=Int) (
      bif (!t5) then
       none
      else
       some (i6)
      ) fun oB=>
     none
     ) fun rF=>
    bif (i6 == (0 : Int)) then
     none
    else
     rF ()
    ) fun k6=>
   bif (decide ((w64 (l5 - o0)) ≤ (12 : Int))) then
    (f116 n8 o0 l5 x4).bind fun y9=>
    some (y9)
   else
    k6 (n8)
   ) big (x0,x1,x2,x3,true,true)
theorem en79:Enters prog 79:=enters_of func79 (by kernel_rfl) rfl
theorem wk79 (n:Nat):∀ {iI:Nat} {gI:Gh} {wI:World} {x0:List Z2} {x1:Int} {x2:Int} {x3:Int} {x4:Z2→Z2→Option Int} {up0:Value} (mp0:OM iI gI wI 60 x0 up0) {up4:Value} (rp4:Xa prog x4 up4 gI wI) {r:(List Z2)} (h:f79 n x0 x1 x2 x3 x4=some r),FnM prog 79 #[up0,Iz (x1),Iz (x2),Iz (x3),up4] iI gI wI (fun g w v=>v=.tuple #[]∧OM iI g w 60 r up0):=by
 induction n with
 | zero=>intros; rename_i h; cases h
 | succ n ih=>
 intro iI gI wI x0 x1 x2 x3 x4 up0 mp0 up4 rp4 r h;simp only [f79] at h;refine J0 func79 rfl (Nat.le_of_ble_eq_true rfl) fun g0 hm hfr=>?_;have oE:=mp0;replace mp0:=mp0.enter;rw [← hm] at mp0
 replace hm:g0.m=gI.m:=by rw [hm]
 obtain ⟨ff4,fa4,fc4,rfl,fen4,fcl4⟩:=rp4;show E _ 148 none _ _ _ _ _;refine Z5 (Zg (.bool true) rfl rfl (Z3 (Z5 (Zg (.bool true) rfl rfl (Z3 (Zr (Q0 h (fun (s:(List Z2) × Int × Int × Int × Bool × Bool) e w=>∃ (g:Gh) ,FrM iI gI wI g w∧e 0=up0∧OM 1 g w 60 (s.1:List Z2) up0∧e 1=Iz (s.2.1)∧e 2=Iz (s.2.2.1)∧e 3=Iz (s.2.2.2.1)∧e 4=(.func (.func ff4) fa4 fc4)∧e 10=.bool (s.2.2.2.2.1)∧e 11=.bool (s.2.2.2.2.2)) ⟨g0,hfr,rfl,mp0,rfl,rfl,rfl,rfl,rfl,rfl⟩ (fun X1 k1 hk1=>?_))))))));rintro ⟨n8,o0,l5,i6,t5,l8⟩ kG w2 ⟨g2,hfr,nD,oD,aB,lB,sF,yD,rE,uE⟩ h;refine Zr (Z5 (Zo lB rfl (Zo aB rfl (Z9 (Iz ((w64 (l5 - o0)))) rfl rfl rfl rfl (Zg (Iz ((w64 (l5 - o0)))) rfl rfl (Z3 (Zq h (fun (s:(List Z2)) e w=>∃ (g:Gh) ,FrM iI gI wI g w∧e 0=up0∧OM 1 g w 60 (s:List Z2) up0∧e 1=Iz (o0)∧e 2=Iz (l5)∧e 3=Iz (i6)∧e 4=(.func (.func ff4) fa4 fc4)∧e 10=.bool (t5)∧e 11=.bool (l8)∧e 12=Iz ((w64 (l5 - o0)))) (fun X6 k6 hk6 h=>?_) ?_)))))))
 ·refine Z5 (Zn (Iz ((w64 (l5 - o0)))) rfl rfl (Z9 (.bool ((decide ((w64 (l5 - o0)) ≤ (12 : Int))))) rfl rfl rfl rfl (Z3 ?_)))
  rcases Zt h with ⟨zD,h⟩ | ⟨zD,h⟩
  ·refine G6 zD rfl (Z5 (Zo nD rfl (Zo aB rfl (Zo lB rfl (Zo yD rfl ?_)))))
   obtain ⟨y9,uF,h⟩:=Z1 h;refine Z4 rfl (Jv (g:=g2) (i:=1) (vs:=[up0,Iz (o0),Iz (l5),(.func (.func ff4) fa4 fc4)]) en116 (.cons rfl (.cons rfl (.cons rfl (.cons rfl .nil)))) (wk116 oD (Xa.ch ⟨_,_,_,rfl,fen4,fcl4⟩ hfr.ch) uF) fun g8 w8_ v8 hs hr=>?_);obtain ⟨hrv,b8⟩:=hr;have hfr:=hfr.stp hs;subst hrv;refine Z3 (Ga (Gp (Tl (Gp (Tl ?_)))));obtain rfl:=sinj h;exact end0 rfl rfl ⟨_,hfr,rfl,oE.back b8⟩
  ·refine G7 zD rfl ?_
   exact Zu (Zd (hk6 (n8) _ _ ⟨g2,hfr,nD,oD,aB,lB,sF,yD,rE,uE,rfl⟩ h))
 ·rintro l9 gG lG ⟨vF, hfr, vB, vE, yB, zB, cC, uC, aE, bE, iE⟩ h
  refine Zq h (fun (s:Unit) e w=>∃ (g:Gh) ,FrM iI gI wI g w∧e 0=up0∧OM 1 g w 60 (l9:List Z2) up0∧e 1=Iz (o0)∧e 2=Iz (l5)∧e 3=Iz (i6)∧e 4=(.func (.func ff4) fa4 fc4)∧e 10=.bool (t5)∧e 11=.bool (l8)∧e 12=Iz ((w64 (l5 - o0)))) (fun X12 rF tF h=>?_) ?_
  ·refine Z5 (Zo cC rfl (Z9 (.bool ((i6 == (0 : Int)))) rfl rfl rfl rfl (Z3 ?_)))
   rcases Zt h with ⟨mB,h⟩ | ⟨mB,h⟩
   ·refine G6 mB rfl (Z5 (Zo vB rfl (Zo yB rfl (Zo zB rfl (Zo uC rfl ?_)))))
    cases h
   ·refine G7 mB rfl ?_
    exact Zu (Zd (tF () _ _ ⟨vF,hfr,vB,vE,yB,zB,cC,uC,aE,bE,iE⟩ h))
  ·rintro _ iG mG ⟨xF, hfr, vC, xE, bD, cD, yE, lD, n9, lE, mE⟩ h
   obtain ⟨oB,hx,h⟩:=Z1 h;refine Gl (fun e w=>∃ (g:Gh) ,FrM iI gI wI g w∧e 0=up0∧OM 1 g w 60 (l9:List Z2) up0∧e 1=Iz (o0)∧e 2=Iz (l5)∧e 3=Iz (oB)∧e 4=(.func (.func ff4) fa4 fc4)∧e 10=.bool (t5)∧e 11=.bool (l8)∧e 12=Iz ((w64 (l5 - o0)))) (fun Q' hQ=>?_) (fun jG sG hR=>?_)
   ·replace h := hx
    clear hx;refine Z5 (Zo n9 rfl (Zx (.bool (!t5)) (Qm rfl) rfl (Z3 ?_)));rcases Zt h with ⟨nB,h⟩ | ⟨nB,h⟩
    ·refine G6 nB rfl (Z5 (Zo vC rfl (Zo bD rfl (Zo cD rfl (Zo lD rfl ?_)))))
     cases h
    ·refine G7 nB rfl (Zu ?_)
     obtain rfl:=sinj h;exact hQ _ _ ⟨xF,hfr,vC,xE,bD,cD,yE,lD,n9,lE,mE⟩
   ·clear hx
    obtain ⟨xG,hfr,zE,cG,cF,dF,eG,eF,yF,aG,bG⟩:=hR;refine Z5 (Zo zE rfl (Zo cF rfl (Zo dF rfl (Zo eF rfl ?_))))
    cases h
def f87 (x0:List Str) (x1:Str→Option Bool):Option (Bool):=
 (f131 x0 x1).bind fun y2=>
 some ((decide (y2 ≥ (0:Int))))
theorem en87:Enters prog 87:=enters_of func87 (by kernel_rfl) rfl
theorem wk87 {gI:Gh} {wI:World} {x0:List Str} {x1:Str→Option Bool} {up0:Value} (rp0:RV gI.m wI x0 up0) {up1:Value} (rp1:Hz prog x1 up1 gI wI) {r:Bool} (h:f87 x0 x1=some r):Fn prog 87 #[up0,up1] gI wI (fun _ _ v=>v=.bool (r)):=by
 unfold f87 at h;refine fnE func87 rfl rfl fun g0 hm hfr=>?_;have rp0:=RVc hm rp0;obtain ⟨ff1,fa1,fc1,rfl,fen1,fcl1⟩:=rp1;show E _ 9 none _ _ _ _ _;refine Z5 (Zg (.bool false) rfl rfl (Z3 (Z5 (Zn up0 rfl rfl (Zn ((.func (.func ff1) fa1 fc1)) rfl rfl ?_)))));obtain ⟨y2,hy2,h⟩:=Z1 h;refine Z4 rfl (Zp (g:=g0) (vs:=[up0,(.func (.func ff1) fa1 fc1)]) en131 (.cons rfl (.cons rfl .nil)) (wk131 rp0 (Hz.ch ⟨_,_,_,rfl,fen1,fcl1⟩ hfr.ch) hy2) fun g1 w1_ v1 hs hr=>?_);have hfr:=hfr.ext hs;subst hr;refine Z9 (.bool ((decide (y2 ≥ (0:Int))))) rfl rfl rfl rfl (Zg (.bool ((decide (y2 ≥ (0:Int))))) rfl rfl (Z3 (Ga ?_)));obtain rfl:=sinj h;exact Tg rfl rfl (rq (.bool ((decide (y2 ≥ (0:Int)))))) ⟨_,hfr,rfl⟩
def f96 (x0:U64) (x1:U64):Option (U64 × U64):=
 (f136 x0 x1).bind fun y2=>
 some (y2.1,y2.2)
theorem en96:Enters prog 96:=enters_of func96 (by kernel_rfl) rfl
theorem wk96 {gI:Gh} {wI:World} {x0:U64} {x1:U64}  {r:U64 × U64} (h:f96 x0 x1=some r):Fn prog 96 #[.int .u64 ((x0).n),.int .u64 ((x1).n)] gI wI (fun m w v=>∃ y0 y1,v=.tuple #[y0,y1]∧y0=.int .u64 ((r.1).n)∧y1=.int .u64 ((r.2).n)):=by
 unfold f96 at h;refine fnE func96 rfl rfl fun g0 hm hfr=>?_;show E _ 30 none _ _ _ _ _;refine Z5 (Zg (.int .u64 (0)) rfl rfl (Zg (.int .u64 (0)) rfl rfl (Z3 (Zf (Gs (by rw [show ev _ _=_ from rfl]; exact congrArg Value.bool rfl) (Zu (Zd (Z5 (Zn (.int .u64 ((x0).n)) rfl rfl (Zn (.int .u64 ((x1).n)) rfl rfl ?_))))))))));obtain ⟨y2,hy2,h⟩:=Z1 h;refine Z4 rfl (Zp (g:=g0) (vs:=[.int .u64 ((x0).n),.int .u64 ((x1).n)]) en136 (.cons rfl (.cons rfl .nil)) (wk136  hy2) fun g1 w1_ v1 hs hr=>?_);have hfr:=hfr.ext hs;obtain ⟨o0,l5,rfl,rfl,rfl⟩:=hr;refine Zn (.tuple #[.int .u64 ((y2.1).n),.int .u64 ((y2.2).n)]) rfl rfl (Zx (.int .u64 ((y2.1).n)) (Zi rfl rfl) rfl (Zx (.int .u64 ((y2.2).n)) (Zi rfl rfl) rfl (Zg (.int .u64 ((y2.1).n)) rfl rfl (Zg (.int .u64 ((y2.2).n)) rfl rfl (Z3 (Z5 (Zn (.int .u64 ((y2.1).n)) rfl rfl (Zn (.int .u64 ((y2.2).n)) rfl rfl (Zg (.int .u64 ((y2.1).n)) rfl rfl (Zg (.int .u64 ((y2.2).n)) rfl rfl (Z3 (Ga ?_))))))))))));obtain rfl:=sinj h;exact Jq rfl rfl (rq (.int .u64 ((y2.1).n))) (rq (.int .u64 ((y2.2).n))) ⟨_,hfr,_,_,rfl,rfl,rfl⟩
def f98 (x0:Qp) (x1:Int):Option (Str):=
 Option.bind (α:=List UInt8) (
  lp (σ:=List UInt8 × Int) (fun oD (l8,o0)=>
   bif (decide (o0 < ((((x0).TieHarness).Warps).length : Int))) then
    Option.bind (α:=List UInt8) (
     (f139 x0 x1 o0).bind fun nB=>
     (f138 nB).bind fun oB=>
     (apnd 1 l8 [oB]).bind fun y43=>
     some (y43)
     ) fun i6=>
    oD (i6,(w64 (o0 + (1:Int))))
   else
    some (l8)
   ) big (([]:List UInt8),(0:Int))
  ) fun n8=>
 (Ck n8).bind fun aB=>
 some (aB)
theorem en98:Enters prog 98:=enters_of func98 (by kernel_rfl) rfl
theorem wk98 {gI:Gh} {wI:World} {x0:Qp} {x1:Int} {up0:Value} (rp0:RV gI.m wI x0 up0) {r:Str} (h:f98 x0 x1=some r):Fn prog 98 #[up0,Iz (x1)] gI wI (fun _ _ v=>v=Str.v (r)):=by
 unfold f98 at h;refine fnE func98 rfl rfl fun g0 hm hfr=>?_;have rp0:=RVc hm rp0;show E _ 22 none _ _ _ _ _;refine Z5 (Z4 rfl (Tv (g:=g0) rfl rp0 fun g1 w1 p1 hs q1=>?_));have hfr:=hfr.ext hs;refine Zg (Str.v (⟨[]⟩:Str)) rfl rfl (Z3 (Z5 (Z4 rfl (G2 (g:=g1) 2005 ((⟨.pointer none,rfl⟩,[]):Fv × List UInt8) zeroValue179 (fun m w=>⟨_,Gb (show GoT.rep m w (⟨.pointer none,rfl⟩:Fv) [.pointer none] from rfl) G9,rfl⟩) fun g2 w2 p2 hs b2 cb=>?_))));have hfr:=hfr.stp hs;have q1:=q1.stp hs;replace b2:SB 2005 60501 g2 w2 5 179 [] p2:=⟨_,b2,cb.osf rfl,.inl rfl⟩;clear cb;refine Z3 ?_;obtain ⟨n8,hx,h⟩:=Z1 h;refine Gl (fun e w=>∃ (g:Gh) ,Fr gI wI g w∧e 5=p2∧SB 2005 60501 g w 5 179 (n8) p2) (fun Q' hQ=>?_) (fun zE sF hR=>?_)
 ·replace h := hx
  clear hx;refine Z5 (Zx (Z8 p1 0) (Zc Ly rfl (PT.ptr q1)) rfl ?_);have yD:=Zm (Je).1 q1;refine Zx (Z8 (Z8 p1 0) 1) (Zc Hr rfl (PT.ptr yD)) rfl ?_;have mE:=Zm (Qc).1 yD;refine Z4 rfl (Z6 (g:=g2) isAgg25 sizeOf25 rfl mE fun tF oE=>(Zx (Iz ((((x0).TieHarness).Warps).length:Int)) (Gz underlying25 rfl oE) rfl (Zn (Iz (0)) rfl rfl (Z3 (Zr (Q0 h (fun (s:List UInt8 × Int) e w=>∃ (g:Gh) ,Fr gI wI g w∧e 1=Iz (x1)∧e 2=p1∧PT g.m w (x0:Qp) p1∧e 5=p2∧SB 2005 60501 g w 5 179 (s.1) p2∧e 10=Iz (((((x0).TieHarness).Warps).length:Int))∧e 11=Iz (s.2)) ⟨g2,hfr,rfl,rfl,q1,rfl,b2,rfl,rfl⟩ (fun X27 oD zD=>?_)))))));rintro ⟨l8,o0⟩ cF uF ⟨vB,hfr,lB,mB,l5,v8,t5,l9,g8⟩ h;refine Z5 (Zx (.bool ((decide (o0 < ((((x0).TieHarness).Warps).length:Int))))) (Gk g8 l9 rfl) rfl (Z3 (Zf ?_)));rcases Zt h with ⟨n9,h⟩ | ⟨n9,h⟩
  ·refine G6 n9 rfl (Zu (Zd ?_))
   obtain ⟨i6,hx,h⟩:=Z1 h;refine Gl (fun e w=>∃ (g:Gh) ,Fr gI wI g w∧e 1=Iz (x1)∧e 2=p1∧PT g.m w (x0:Qp) p1∧e 5=p2∧SB 2005 60501 g w 5 179 (i6) p2∧e 10=Iz (((((x0).TieHarness).Warps).length:Int))∧e 11=Iz (o0)) (fun Q' hQ=>?_) (fun dF vF hR=>?_)
   ·replace h := hx
    clear hx;refine Zr (Z5 (Zo g8 rfl (Zg (Iz (o0)) rfl rfl (Z3 (Za (Z4 rfl (Z6 (g:=vB) isAgg204 sizeOf204 mB l5 fun rE uE=>(Zo lB rfl (Zn (Iz (o0)) rfl rfl ?_)))))))));obtain ⟨nB,aE,h⟩:=Z1 h;refine Z4 rfl (Zp (g:=vB) (vs:=[rE,Iz (x1),Iz (o0)]) en139 (.cons rfl (.cons rfl (.cons rfl .nil))) (wk139 uE aE) fun vE eF xF hs hr=>?_);have hfr:=hfr.ext hs;have l5:=l5.ext hs;have t5:=t5.ext hs;subst hr;obtain ⟨oB,bE,h⟩:=Z1 h;refine Z4 rfl (Zp (g:=vE) (vs:=[.bool (nB)]) en138 (.cons rfl .nil) (wk138  bE) fun yF rF aG hs hr=>?_);have hfr:=hfr.ext hs;have l5:=l5.ext hs;have t5:=t5.ext hs;subst hr;obtain ⟨y43,iE,h⟩:=Z1 h;refine Z4 rfl (Wc (vs:=[p2,.int .u8 (UInt8.toNat (oB))]) en111 (.cons v8 (.cons rfl .nil)) (wk111 (i:=2005) (j:=60501) rfl rfl t5 iE) fun bG cG hq=>?_);obtain ⟨hv,xE,⟨_,_,_,_,hs1,hs2,hs3⟩,b42⟩:=hq;subst hv;have hfr:=hfr.stp hs1;have l5:=l5.stp hs1;have hfr:=hfr.stp hs2;have l5:=l5.stp hs2;have hfr:=hfr.stp hs3;have l5:=l5.stp hs3;clear hs1 hs2 hs3;refine Zb (Tj ?_);obtain rfl:=sinj h;exact hQ _ _ ⟨xE,hfr,lB,mB,l5,v8,b42,l9,g8⟩
   ·clear hx
    obtain ⟨yE,hfr,cC,uC,vC,bD,cD,yB,zB⟩:=hR;refine Za (Z9 (Iz ((w64 (o0 + (1:Int))))) zB rfl rfl rfl (Zn (Iz ((w64 (o0 + (1:Int))))) rfl rfl ?_));exact Z3 (zD (i6,(w64 (o0 + (1:Int)))) _ _ ⟨yE,hfr,cC,uC,vC,bD,cD,yB,rfl⟩ h)
  ·refine G7 n9 rfl (Tn (Gu (Gu (G8 ?_))))
   obtain rfl:=sinj h;exact hQ _ _ ⟨vB,hfr,v8,t5⟩
 ·clear hx
  obtain ⟨eG,hfr,lD,nD⟩:=hR;refine Z5 ?_;obtain ⟨aB,lE,h⟩:=Z1 h;obtain ⟨hne46,hye46⟩:=A5 lE;refine Z4 rfl (Wc (vs:=[p2]) en77 (.cons lD .nil) (wk77 (i:=2005) (j:=60501) rfl nD hne46) fun gG iG hq=>?_);obtain ⟨hv,jG,hs⟩:=hq;rw [← hye46] at hv;subst hv;have hfr:=hfr.stp hs;refine Zg (Str.v aB) rfl rfl (Z3 (Ga ?_));obtain rfl:=sinj h;exact Tg rfl rfl (rq (Str.v aB)) ⟨_,hfr,rfl⟩
def f99 (x0:List Int) (x1:Int→Option Bool):Option (Bool):=
 (f140 x0 x1).bind fun y2=>
 some ((decide (y2 ≥ (0:Int))))
theorem en99:Enters prog 99:=enters_of func99 (by kernel_rfl) rfl
theorem wk99 {gI:Gh} {wI:World} {x0:List Int} {x1:Int→Option Bool} {up0:Value} (rp0:RV gI.m wI x0 up0) {up1:Value} (rp1:Hz prog x1 up1 gI wI) {r:Bool} (h:f99 x0 x1=some r):Fn prog 99 #[up0,up1] gI wI (fun _ _ v=>v=.bool (r)):=by
 unfold f99 at h;refine fnE func99 rfl rfl fun g0 hm hfr=>?_;have rp0:=RVc hm rp0;obtain ⟨ff1,fa1,fc1,rfl,fen1,fcl1⟩:=rp1;show E _ 9 none _ _ _ _ _;refine Z5 (Zg (.bool false) rfl rfl (Z3 (Z5 (Zn up0 rfl rfl (Zn ((.func (.func ff1) fa1 fc1)) rfl rfl ?_)))));obtain ⟨y2,hy2,h⟩:=Z1 h;refine Z4 rfl (Zp (g:=g0) (vs:=[up0,(.func (.func ff1) fa1 fc1)]) en140 (.cons rfl (.cons rfl .nil)) (wk140 rp0 (Hz.ch ⟨_,_,_,rfl,fen1,fcl1⟩ hfr.ch) hy2) fun g1 w1_ v1 hs hr=>?_);have hfr:=hfr.ext hs;subst hr;refine Z9 (.bool ((decide (y2 ≥ (0:Int))))) rfl rfl rfl rfl (Zg (.bool ((decide (y2 ≥ (0:Int))))) rfl rfl (Z3 (Ga ?_)));obtain rfl:=sinj h;exact Tg rfl rfl (rq (.bool ((decide (y2 ≥ (0:Int)))))) ⟨_,hfr,rfl⟩
def f105 (x0:Gq) (x1:Int):Option (Int):=
 (f45 ((x0).From) x1).bind fun y5=>
 some (y5)
theorem en105:Enters prog 105:=enters_of func105 (by kernel_rfl) rfl
theorem wk105 {gI:Gh} {wI:World} {x0:Gq} {x1:Int} {up0:Value} (rp0:RV gI.m wI x0 up0) {r:Int} (h:f105 x0 x1=some r):Fn prog 105 #[up0,Iz (x1)] gI wI (fun _ _ v=>v=Iz (r)):=by
 unfold f105 at h;refine fnE func105 rfl rfl fun g0 hm hfr=>?_;have rp0:=RVc hm rp0;show E _ 9 none _ _ _ _ _;refine Z5 (Z4 rfl (Tv (g:=g0) rfl rp0 fun g1 w1 p1 hs q1=>?_));have hfr:=hfr.ext hs;refine Zg (Iz (0)) rfl rfl (Z3 (Z5 (Zx (Z8 p1 0) (Zc C1 rfl (PT.ptr q1)) rfl ?_)));have q2:=Zm (J8).1 q1;refine Z4 rfl (Z6 (g:=g1) isAgg3 sizeOf3 rfl q2 fun v3 r3=>?_);obtain rfl:=Zj.1 r3;refine Zn (Iz (x1)) rfl rfl ?_;obtain ⟨y5,hy5,h⟩:=Z1 h;refine Z4 rfl (Zp (g:=g1) (vs:=[Iz ((x0).From),Iz (x1)]) en45 (.cons rfl (.cons rfl .nil)) (wk45  hy5) fun g4 w4_ v4 hs hr=>?_);have hfr:=hfr.ext hs;subst hr;refine Zg (Iz (y5)) rfl rfl (Z3 (Ga ?_));obtain rfl:=sinj h;exact Tg rfl rfl (rq (Iz (y5))) ⟨_,hfr,rfl⟩
def f106 (x0:List Int) (x1:Int) (x2:Int→Int→Option Int):Option ((List Int)):=
 Option.bind (α:=(List Int) × Int) (
  lp (σ:=(List Int) × Int × Int) (fun k9 (l8,i6,l5)=>
   jn (σ:=Unit) (fun _=>
    (f153 l8 i6 l5 x2).bind fun tF=>
    k9 (tF,l5,(w64 (l5 + (20:Int))))
    ) fun lH=>
   bif (decide (l5 ≤ x1)) then
    lH ()
   else
    some (l8,i6)
   ) big (x0,(0:Int),(20:Int))
  ) fun (n9,n8)=>
 (f153 n9 n8 x1 x2).bind fun g8=>
 lp (σ:=Int) (fun mH o0=>
  jn (σ:=Unit) (fun _=>
   Option.bind (α:=Int) (
    lp (σ:=Int × Int) (fun aI (v8,l9)=>
     jn (σ:=Unit) (fun _=>
      none
      ) fun nH=>
     bif (decide (l9 ≤ x1)) then
      nH ()
     else
      some (v8)
     ) big ((0:Int),(w64 ((2:Int) * o0)))
    ) fun t5=>
   Option.bind (α:=Unit) (
    bif (decide ((w64 (t5 + o0)) < x1)) then
     none
    else
     some ()
    ) fun (_:Unit)=>
   mH ((w64 (o0 * (2:Int))))
   ) fun oH=>
  bif (decide (o0 < x1)) then
   oH ()
  else
   some (g8)
  ) big ((20:Int))
theorem en106:Enters prog 106:=enters_of func106 (by kernel_rfl) rfl
theorem wk106 {iI:Nat} {gI:Gh} {wI:World} {x0:List Int} {x1:Int} {x2:Int→Int→Option Int} {up0:Value} (mp0:OM iI gI wI 3 x0 up0) {up2:Value} (rp2:Xa prog x2 up2 gI wI) {r:(List Int)} (h:f106 x0 x1 x2=some r):FnM prog 106 #[up0,Iz (x1),up2] iI gI wI (fun g w v=>v=.tuple #[]∧OM iI g w 3 r up0):=by
 unfold f106 at h;refine J0 func106 rfl (Nat.le_of_ble_eq_true rfl) fun g0 hm hfr=>?_;have uF:=mp0;replace mp0:=mp0.enter;rw [← hm] at mp0
 replace hm:g0.m=gI.m:=by rw [hm]
 obtain ⟨ff2,fa2,fc2,rfl,fen2,fcl2⟩:=rp2;show E _ 63 none _ _ _ _ _;refine Z5 (Zg (Iz (20)) rfl rfl (Z3 (Z5 (Zn (Iz (20)) rfl rfl (Zg (Iz (0)) rfl rfl (Zg (Iz (20)) rfl rfl (Z3 ?_)))))));obtain ⟨⟨n9,n8⟩,hx,h⟩:=Z1 h;refine Gl (fun e w=>∃ (g:Gh) ,FrM iI gI wI g w∧e 0=up0∧OM 1 g w 3 (n9:List Int) up0∧e 1=Iz (x1)∧e 2=(.func (.func ff2) fa2 fc2)∧e 6=Iz ((20:Int))∧e 7=Iz (n8)) (fun Q' hQ=>?_) (fun kJ aK hR=>?_)
 ·replace h := hx
  clear hx;refine Zr (Q0 h (fun (s:(List Int) × Int × Int) e w=>∃ (g:Gh) ,FrM iI gI wI g w∧e 0=up0∧OM 1 g w 3 (s.1:List Int) up0∧e 1=Iz (x1)∧e 2=(.func (.func ff2) fa2 fc2)∧e 6=Iz ((20:Int))∧e 7=Iz (s.2.1)∧e 8=Iz (s.2.2)) ⟨g0,hfr,rfl,mp0,rfl,rfl,rfl,rfl,rfl⟩ (fun X9 k9 bI=>?_));rintro ⟨l8,i6,l5⟩ lJ bK ⟨pH,hfr,cC,uC,aB,vC,bD,cD,lD⟩ h;refine Zq h (fun (s:Unit) e w=>∃ (g:Gh) ,FrM iI gI wI g w∧e 0=up0∧OM 1 g w 3 (l8:List Int) up0∧e 1=Iz (x1)∧e 2=(.func (.func ff2) fa2 fc2)∧e 6=Iz ((20:Int))∧e 7=Iz (i6)∧e 8=Iz (l5)) (fun X12 lH sH h=>?_) ?_
  ·refine Z5 (Zo lD rfl (Zo aB rfl (Z9 (.bool ((decide (l5 ≤ x1)))) rfl rfl rfl rfl (Z3 ?_))))
   rcases Zt h with ⟨oB,h⟩ | ⟨oB,h⟩
   ·refine G6 oB rfl ?_
    exact Zu (Zd (sH () _ _ ⟨pH,hfr,cC,uC,aB,vC,bD,cD,lD⟩ h))
   ·refine G7 oB rfl (Tn (Gu (Gu (G8 ?_))))
    obtain ⟨rfl,rfl⟩:=Hd h;exact hQ _ _ ⟨pH,hfr,cC,uC,aB,vC,bD,cD⟩
  ·rintro _ mJ cK ⟨dI, hfr, nD, vF, xF, oD, yD, yF, lB⟩ h
   refine Zr (Z5 (Zo nD rfl (Zo yF rfl (Zo lB rfl (Zo oD rfl ?_)))));obtain ⟨tF,tH,h⟩:=Z1 h;refine Z4 rfl (Jv (g:=dI) (i:=1) (vs:=[up0,Iz (i6),Iz (l5),(.func (.func ff2) fa2 fc2)]) en153 (.cons rfl (.cons rfl (.cons rfl (.cons rfl .nil)))) (wk153 vF (Xa.ch ⟨_,_,_,rfl,fen2,fcl2⟩ hfr.ch) tH) fun jI nJ dK hs hr=>?_);obtain ⟨hrv,b15⟩:=hr;have hfr:=hfr.stp hs;subst hrv;refine Z3 (Z5 (Zo lB rfl (Zg (Iz (l5)) rfl rfl (Z3 (Za (Zo lB rfl (Zo yD rfl (Z9 (Iz ((w64 (l5 + (20:Int))))) rfl rfl rfl rfl (Zg (Iz ((w64 (l5 + (20:Int))))) rfl rfl ?_)))))))));exact Zb (Tj (Zd (bI (tF,l5,(w64 (l5 + (20:Int)))) _ _ ⟨jI,hfr,nD,b15,xF,oD,yD,rfl,rfl⟩ h)))
 ·clear hx
  obtain ⟨kI,hfr,zD,aG,aE,bE,bG,cG⟩:=hR;refine Z5 (Zo zD rfl (Zo cG rfl (Zo aE rfl (Zo bE rfl ?_))));obtain ⟨g8,uH,h⟩:=Z1 h;refine Z4 rfl (Jv (g:=kI) (i:=1) (vs:=[up0,Iz (n8),Iz (x1),(.func (.func ff2) fa2 fc2)]) en153 (.cons rfl (.cons rfl (.cons rfl (.cons rfl .nil)))) (wk153 aG (Xa.ch ⟨_,_,_,rfl,fen2,fcl2⟩ hfr.ch) uH) fun lI oJ lK hs hr=>?_);obtain ⟨hrv,b18⟩:=hr;have hfr:=hfr.stp hs;subst hrv;refine Z3 (Zr (Q0 h (fun (s:Int) e w=>∃ (g:Gh) ,FrM iI gI wI g w∧e 0=up0∧OM 1 g w 3 (g8:List Int) up0∧e 1=Iz (x1)∧e 2=(.func (.func ff2) fa2 fc2)∧e 6=Iz (s)) ⟨lI,hfr,zD,b18,aE,bE,bG⟩ (fun X20 mH xH=>?_)));rintro o0 pJ mK ⟨mI,hfr,eG,iE,lE,gG,mE⟩ h;refine Zq h (fun (s:Unit) e w=>∃ (g:Gh) ,FrM iI gI wI g w∧e 0=up0∧OM 1 g w 3 (g8:List Int) up0∧e 1=Iz (x1)∧e 2=(.func (.func ff2) fa2 fc2)∧e 6=Iz (o0)) (fun X23 oH yH h=>?_) ?_
  ·refine Z5 (Zo mE rfl (Zo lE rfl (Z9 (.bool ((decide (o0 < x1)))) rfl rfl rfl rfl (Z3 ?_))))
   rcases Zt h with ⟨vB,h⟩ | ⟨vB,h⟩
   ·refine G6 vB rfl ?_
    exact Zu (Zd (yH () _ _ ⟨mI,hfr,eG,iE,lE,gG,mE⟩ h))
   ·refine G7 vB rfl (Tn (Gu (Gu (G8 ?_))))
    obtain rfl:=sinj h;exact Y3 rfl rfl ⟨_,hfr,rfl,uF.back iE⟩
  ·rintro _ qJ nK ⟨nI, hfr, iG, jG, kG, lG, oE⟩ h
   refine Zr (Z5 (Zo oE rfl (Z9 (Iz ((w64 ((2:Int) * o0)))) rfl rfl rfl rfl (Zg (Iz (0)) rfl rfl (Zg (Iz ((w64 ((2:Int) * o0)))) rfl rfl (Z3 ?_))))));obtain ⟨t5,hx,h⟩:=Z1 h;refine Gl (fun e w=>∃ (g:Gh) ,FrM iI gI wI g w∧e 0=up0∧OM 1 g w 3 (g8:List Int) up0∧e 1=Iz (x1)∧e 2=(.func (.func ff2) fa2 fc2)∧e 6=Iz (o0)∧e 7=Iz (t5)) (fun Q' hQ=>?_) (fun rJ oK hR=>?_)
   ·replace h := hx
    clear hx;refine Zr (Q0 h (fun (s:Int × Int) e w=>∃ (g:Gh) ,FrM iI gI wI g w∧e 0=up0∧OM 1 g w 3 (g8:List Int) up0∧e 1=Iz (x1)∧e 2=(.func (.func ff2) fa2 fc2)∧e 6=Iz (o0)∧e 7=Iz (s.1)∧e 8=Iz (s.2)) ⟨nI,hfr,iG,jG,kG,lG,oE,rfl,rfl⟩ (fun X32 aI sJ=>?_));rintro ⟨v8,l9⟩ vJ pK ⟨qH,hfr,rE,uE,mB,vE,xE,yE,zE⟩ h;refine Zq h (fun (s:Unit) e w=>∃ (g:Gh) ,FrM iI gI wI g w∧e 0=up0∧OM 1 g w 3 (g8:List Int) up0∧e 1=Iz (x1)∧e 2=(.func (.func ff2) fa2 fc2)∧e 6=Iz (o0)∧e 7=Iz (v8)∧e 8=Iz (l9)) (fun X35 nH zH h=>?_) ?_
    ·refine Z5 (Zo zE rfl (Zo mB rfl (Z9 (.bool ((decide (l9 ≤ x1)))) rfl rfl rfl rfl (Z3 ?_))))
     rcases Zt h with ⟨yB,h⟩ | ⟨yB,h⟩
     ·refine G6 yB rfl ?_
      exact Zu (Zd (zH () _ _ ⟨qH,hfr,rE,uE,mB,vE,xE,yE,zE⟩ h))
     ·refine G7 yB rfl (Tn (Gu (Gu (G8 ?_))))
      obtain rfl:=sinj h;exact hQ _ _ ⟨qH,hfr,rE,uE,mB,vE,xE,yE⟩
    ·rintro _ xJ qK ⟨sK, hfr, mG, sI, jJ, sG, xG, cF, yG⟩ h
     refine Zr (Z5 (Zo mG rfl (Zo cF rfl (Zo cF rfl (Zo xG rfl (Z9 (Iz ((w64 (v8 + o0)))) rfl rfl rfl rfl (Zo yG rfl (Zo sG rfl ?_))))))))
     cases h
   ·clear hx
    obtain ⟨pI,hfr,dF,zG,nB,eF,rF,sF⟩:=hR;obtain ⟨_,hx,h⟩:=Z1 h;refine Gl (fun e w=>∃ (g:Gh) ,FrM iI gI wI g w∧e 0=up0∧OM 1 g w 3 (g8:List Int) up0∧e 1=Iz (x1)∧e 2=(.func (.func ff2) fa2 fc2)∧e 6=Iz (o0)) (fun Q' hQ=>?_) (fun zJ tK hR=>?_)
    ·replace h := hx
     clear hx;refine Z5 (Zo sF rfl (Zo rF rfl (Z9 (Iz ((w64 (t5 + o0)))) rfl rfl rfl rfl (Zg (Iz ((w64 (t5 + o0)))) rfl rfl (Z3 (Z5 (Zn (Iz ((w64 (t5 + o0)))) rfl rfl (Zo nB rfl (Z9 (.bool ((decide ((w64 (t5 + o0)) < x1)))) rfl rfl rfl rfl (Z3 ?_))))))))));rcases Zt h with ⟨zB,h⟩ | ⟨zB,h⟩
     ·refine G6 zB rfl (Za (Zo dF rfl (Zo sF rfl (Zn (Iz ((w64 (t5 + o0)))) rfl rfl (Zo nB rfl (Zo eF rfl ?_))))))
      cases h
     ·refine G7 zB rfl (Zu ?_)
      obtain rfl:=sinj h;exact hQ _ _ ⟨pI,hfr,dF,zG,nB,eF,rF⟩
    ·clear hx
     obtain ⟨qI,hfr,aH,cH,gH,jH,kH⟩:=hR;refine Za (Zo kH rfl (Z9 (Iz ((w64 (o0 * (2:Int))))) rfl rfl rfl rfl (Zg (Iz ((w64 (o0 * (2:Int))))) rfl rfl ?_)));exact Zb (Tj (Zd (xH ((w64 (o0 * (2:Int)))) _ _ ⟨qI,hfr,aH,cH,gH,jH,rfl⟩ h)))
def f132 (x0:Str) (x1:Str):Option (Bool):=
 Option.bind (α:=Bool) (
  (f170 x0).bind fun y8=>
  bif y8 then
   (f170 x1).bind fun y11=>
   bif (!y11) then
    some (true)
   else
    some ((Op.bytesLess (x0).b (x1).b))
  else
   some ((Op.bytesLess (x0).b (x1).b))
  ) fun l5=>
 some (l5)
theorem en132:Enters prog 132:=enters_of func132 (by kernel_rfl) rfl
theorem wk132 {gI:Gh} {wI:World} {x0:Str} {x1:Str}  {r:Bool} (h:f132 x0 x1=some r):Fn prog 132 #[Str.v (x0),Str.v (x1)] gI wI (fun _ _ v=>v=.bool (r)):=by
 unfold f132 at h;refine fnE func132 rfl rfl fun g0 hm hfr=>?_;show E _ 17 none _ _ _ _ _;refine Z5 (Zg (.bool false) rfl rfl (Z3 ?_));obtain ⟨l5,hx,h⟩:=Z1 h;refine Gl (fun e w=>∃ (g:Gh) ,Fr gI wI g w∧e 4=.bool (l5)) (fun Q' hQ=>?_) (fun n8 l9 hR=>?_)
 ·replace h := hx
  clear hx;refine Za (Zn (Str.v (x0)) rfl rfl ?_);obtain ⟨y8,l8,h⟩:=Z1 h;refine Z4 rfl (Zp (g:=g0) (vs:=[Str.v (x0)]) en170 (.cons rfl .nil) (wk170  l8) fun g7 w7_ v7 hs hr=>?_);have hfr:=hfr.ext hs;subst hr;refine Zn (.bool (y8)) rfl rfl ?_;rcases Zt h with ⟨hc9,h⟩ | ⟨hc9,h⟩
  ·refine Zy (Str.v (x1)) (Zk rfl) rfl rfl hc9 rfl ?_
   obtain ⟨y11,g8,h⟩:=Z1 h;refine Ze (.yes2 rfl rfl hc9) rfl (Zp (g:=g7) (vs:=[Str.v (x1)]) en170 (.cons rfl .nil) (wk170  g8) fun i6 v8 n9 hs hr=>?_);have hfr:=hfr.ext hs;subst hr;refine Zy (.bool (!y11)) (Qm rfl) rfl rfl hc9 rfl (Zx (.bool (!y11)) (Zl (b:=y8) rfl (G4 hc9 rfl)) rfl (Zn (.bool (!y11)) rfl rfl ?_));rcases Zt h with ⟨o0,h⟩ | ⟨o0,h⟩
   ·refine Zz rfl rfl o0 rfl rfl (Zz rfl rfl o0 rfl rfl (Zz rfl rfl o0 rfl rfl (Zx (.bool true) (Zl (b := (!y11)) rfl (G4 o0 rfl)) rfl (Zg (.bool true) rfl rfl (Zb ?_)))))
    obtain rfl:=sinj h;exact hQ _ _ ⟨i6,hfr,rfl⟩
   ·refine Zy (Str.v (x0)) (Zk rfl) rfl rfl o0 rfl (Zy (Str.v (x1)) (Zk rfl) rfl rfl o0 rfl (Zy (.bool ((Op.bytesLess (x0).b (x1).b))) (R8 rfl rfl rfl) rfl rfl o0 rfl (Zx (.bool ((Op.bytesLess (x0).b (x1).b))) (Zl (b := (!y11)) rfl (G5 o0 rfl)) rfl (Zg (.bool ((Op.bytesLess (x0).b (x1).b))) rfl rfl (Zb ?_)))))
    obtain rfl:=sinj h;exact hQ _ _ ⟨i6,hfr,rfl⟩
  ·refine Zz rfl rfl hc9 rfl rfl (Zz rfl rfl hc9 rfl rfl (Zz rfl rfl hc9 rfl rfl (Zx (.bool false) (Zl (b := y8) rfl (G5 hc9 rfl)) rfl (Zn (.bool false) rfl rfl (Zy (Str.v (x0)) (Zk rfl) rfl rfl rfl rfl (Zy (Str.v (x1)) (Zk rfl) rfl rfl rfl rfl (Zy (.bool ((Op.bytesLess (x0).b (x1).b))) (R8 rfl rfl rfl) rfl rfl rfl rfl (Zx (.bool ((Op.bytesLess (x0).b (x1).b))) (Zl (b := false) rfl (G5 rfl rfl)) rfl (Zg (.bool ((Op.bytesLess (x0).b (x1).b))) rfl rfl (Zb ?_))))))))))
   obtain rfl:=sinj h;exact hQ _ _ ⟨g7,hfr,rfl⟩
 ·clear hx
  obtain ⟨aB,hfr,t5⟩:=hR;refine Ga ?_;obtain rfl:=sinj h;exact Tg rfl rfl (show _=.bool (l5) from t5) ⟨_,hfr,rfl⟩
def f137 (x0:Int) (x1:Int) (x2:List Int):Option (Bool):=
 (f99 x2 ((fun a0=>f172 a0 x0 x1))).bind fun y4=>
 some ((!y4))
theorem en137:Enters prog 137:=enters_of func137 (by kernel_rfl) rfl
theorem wk137 {gI:Gh} {wI:World} {x0:Int} {x1:Int} {x2:List Int} {up2:Value} (rp2:RV gI.m wI x2 up2) {r:Bool} (h:f137 x0 x1 x2=some r):Fn prog 137 #[Iz (x0),Iz (x1),up2] gI wI (fun _ _ v=>v=.bool (r)):=by
 unfold f137 at h;refine fnE func137 rfl rfl fun g0 hm hfr=>?_;have rp2:=RVc hm rp2;show E _ 11 none _ _ _ _ _;refine Z5 (Z4 rfl (Tv (g:=g0) rfl (Zj.2 rfl) fun g1 w1 p1 hs q1=>?_));have hfr:=hfr.ext hs;have rp2:=rp2.ext hs;refine Z4 rfl (Tv (g:=g1) rfl (Zj.2 rfl) fun g2 w2 p2 hs q2=>?_);have hfr:=hfr.ext hs;have rp2:=rp2.ext hs;have q1:=q1.ext hs;refine Zg (.bool false) rfl rfl (Z3 (Z5 (Zn up2 rfl rfl (Zx ((.func (.func 172) #[] #[p1,p2])) (W9 (Yr (show ev _ _=p1 from rfl) (show ev _ _=p2 from rfl))) rfl ?_))));obtain ⟨y4,o0,h⟩:=Z1 h;refine Z4 rfl (Zp (g:=g2) (vs:=[up2,(.func (.func 172) #[] #[p1,p2])]) en99 (.cons rfl (.cons rfl .nil)) (wk99 rp2 ⟨172,#[],#[p1,p2],rfl,en172,fun g' w' hch a0 b0 r hu0 hr=>by obtain rfl:=Zj.1 hu0; exact Fn.mono (wk172  (q1.ch hch) (q2.ch hch) hr) fun _ _ _ h=>Q1.2 h⟩ o0) fun g3 w3_ v3 hs hr=>?_);have hfr:=hfr.ext hs;subst hr;refine Zx (.bool (!y4)) (Qm rfl) rfl (Zg (.bool (!y4)) rfl rfl (Z3 (Ga ?_)));obtain rfl:=sinj h;exact Tg rfl rfl (rq (.bool (!y4))) ⟨_,hfr,rfl⟩
def f141 (x0:List Int):Option (Bool):=
 jn (σ:=Unit) (fun _=>
  some (true)
  ) fun k53=>
 lp (σ:=Int) (fun k54 o0=>
  jn (σ:=Unit) (fun _=>
   jn (σ:=Unit) (fun _=>
    k54 ((w64 (o0 - (1:Int))))
    ) fun yB=>
   (idx x0 o0).bind fun y84=>
   (idx x0 (w64 (o0 - (1:Int)))).bind fun n8=>
   (f150 y84 n8).bind fun v8=>
   bif v8 then
    some (false)
   else
    yB ()
   ) fun k57=>
  bif (decide (o0 > (0 : Int))) then
   k57 ()
  else
   k53 ()
  ) big ((w64 (((x0).length:Int) - (1:Int))))
theorem en141:Enters prog 141:=enters_of func141 (by kernel_rfl) rfl
theorem wk141 {gI:Gh} {wI:World} {x0:List Int} {up0:Value} (rp0:RV gI.m wI x0 up0) {r:Bool} (h:f141 x0=some r):Fn prog 141 #[up0] gI wI (fun _ _ v=>v=.bool (r)):=by
 unfold f141 at h;refine fnE func141 rfl rfl fun g0 hm hfr=>?_;have rp0:=RVc hm rp0;show E _ 21 none _ _ _ _ _;refine Z5 (Zg (.bool false) rfl rfl (Z3 (Zq h (fun (s:Unit) e w=>∃ (g:Gh) ,Fr gI wI g w) (fun X53 k53 cC h=>?_) ?_)))
 ·refine Z5 (Zn up0 rfl rfl (Zx (Iz ((x0).length : Int)) (Gz underlying25 rfl rp0) rfl (Z9 (Iz ((w64 (((x0).length : Int) - (1 : Int))))) rfl rfl rfl rfl (Zg (Iz ((w64 (((x0).length : Int) - (1 : Int))))) rfl rfl (Z3 (Zr (Q0 h (fun (s : Int) e w => ∃ (g : Gh) , Fr gI wI g w ∧ e 0 = up0 ∧ RV g.m w (x0 : List Int) up0 ∧ e 3 = Iz (s)) ⟨g0, hfr, rfl, rp0, rfl⟩ (fun X54 k54 uC => ?_))))))))
  rintro o0 rE zE ⟨zB,hfr,oB,vB,l9⟩ h;refine Zq h (fun (s:Unit) e w=>∃ (g:Gh) ,Fr gI wI g w∧e 0=up0∧RV g.m w (x0:List Int) up0∧e 3=Iz (o0)) (fun X57 k57 vC h=>?_) ?_
  ·refine Z5 (Zo l9 rfl (Z9 (.bool ((decide (o0 > (0 : Int))))) rfl rfl rfl rfl (Z3 ?_)))
   rcases Zt h with ⟨l8,h⟩ | ⟨l8,h⟩
   ·refine G6 l8 rfl ?_
    exact Zu (Zd (vC () _ _ ⟨zB,hfr,oB,vB,l9⟩ h))
   ·refine G7 l8 rfl (Tn (Gu (Gu (G8 ?_))))
    exact Zd (cC () _ _ ⟨zB,hfr⟩ h)
  ·rintro _ uE cF ⟨yD, hfr, t5, l5, i6⟩ h
   refine Zq h (fun (s:Unit) e w=>∃ (g:Gh) ,Fr gI wI g w∧e 0=up0∧RV g.m w (x0:List Int) up0∧e 3=Iz (o0)) (fun X83 yB bD h=>?_) ?_
   ·refine Zr (Zf ?_)
    obtain ⟨y84,n9,h⟩:=Z1 h;have zD:=Gx l5 n9;refine Zs (x:=.tmp 13) isAgg3 sizeOf3 zD fun dF aE cD=>?_;obtain rfl:=Zj.1 aE;obtain ⟨n8,aB,h⟩:=Z1 h;have bE:=Gx l5 aB;refine Zs (x:=.tmp 18) isAgg3 sizeOf3 bE fun eF iE lD=>?_;obtain rfl:=Zj.1 iE;obtain ⟨v8,nD,h⟩:=Z1 h;refine To (g:=yD) (n:=10) [(9,(fun v g w=>v=.bool (v8)))] [0,1,2,3,4,5,6,7,8,9] rfl mixed (by kernel_rfl) (⟨fun _=>Wk _,trivial⟩) (Z0 up0 rfl rfl (Zk t5) (Z0 (Iz (o0)) rfl rfl (Zk i6) (Z0 (Tb up0 o0 1) rfl rfl (Zh (α:=Int) underlying25 sizeOf3 rfl l5 rfl n9) (Tm (c:=Iz (y84)) rfl rfl .plain (fun _ _ h=>h.ch) cD rfl (Z0 up0 rfl rfl (Zk t5) (Z0 (Iz (o0)) rfl rfl (Zk i6) (Z0 (Iz ((w64 (o0 - (1:Int))))) rfl rfl (Gk rfl rfl rfl) (Z0 (Tb up0 (w64 (o0 - (1:Int))) 1) rfl rfl (Zh (α:=Int) underlying25 sizeOf3 rfl l5 rfl aB) (Tm (c:=Iz (n8)) rfl rfl .plain (fun _ _ h=>h.ch) lD rfl (W7 (φ:=fun v g w=>v=.bool (v8)) rfl rfl .plain (fun g w hd=>Zp (g:=g) (vs:=[Iz (y84),Iz (n8)]) en150 (.cons rfl (.cons rfl .nil)) (wk150  nD) fun g' w' v hs hr=>⟨g',hs,hr⟩) (fun rF hv=>?_)))))))))));obtain ⟨_,_,_,rfl⟩:=hv;refine Ka fun lE sF hs=>?_;have hfr:=hfr.ext hs;have l5:=l5.ext hs;clear hs;refine Z3 ?_;rcases Zt h with ⟨g8,h⟩ | ⟨g8,h⟩
    ·refine G6 g8 rfl (Z5 (Zg (.bool false) rfl rfl (Z3 (Ga (Tl (Gp (Gp (Tl (Gp ?_)))))))))
     obtain rfl:=sinj h;exact Tg rfl rfl (rq (.bool false)) ⟨_,hfr,rfl⟩
    ·refine G7 g8 rfl ?_
     exact Zu (Tj (Zd (bD () _ _ ⟨lE,hfr,t5,l5,i6⟩ h)))
   ·rintro _ mE vE ⟨oD, hfr, lB, mB, nB⟩ h
    refine Za (Zo nB rfl (Z9 (Iz ((w64 (o0 - (1:Int))))) rfl rfl rfl rfl (Zg (Iz ((w64 (o0 - (1:Int))))) rfl rfl ?_)));exact Z3 (uC ((w64 (o0 - (1:Int)))) _ _ ⟨oD,hfr,lB,mB,rfl⟩ h)
 ·rintro _ oE xE ⟨yE, hfr⟩ h
  refine Z5 (Zg (.bool true) rfl rfl (Z3 (Ga ?_)));obtain rfl:=sinj h;exact Tg rfl rfl (rq (.bool true)) ⟨_,hfr,rfl⟩
def f158 (x0:List (List Int)):Option ((List Int)):=
 Option.bind (α:=Int) (
  lp (σ:=Int × Int) (fun bG (t5,o0)=>
   bif (decide (o0 < ((x0).length : Int))) then
    Option.bind (α:=Int) (
     (idx x0 o0).bind fun l8=>
     bif (decide ((w64 (t5 + ((l8).length : Int))) < (0 : Int))) then
      none
     else
      some ((w64 (t5 + ((l8).length:Int))))
     ) fun n8=>
    bG (n8,(w64 (o0 + (1:Int))))
   else
    some (t5)
   ) big ((0:Int),(0:Int))
  ) fun v8=>
 (f180 v8).bind fun cG=>
 Option.bind (α:=(List Int)) (
  lp (σ:=(List Int) × Int) (fun eG (mB,l5)=>
   bif (decide (l5 < ((x0).length : Int))) then
    Option.bind (α:=(List Int)) (
     (idx x0 l5).bind fun gG=>
     (apnd 8 mB gG).bind fun iG=>
     some (iG)
     ) fun g8=>
    eG (g8,(w64 (l5 + (1:Int))))
   else
    some (mB)
   ) big (cG,(0:Int))
  ) fun l9=>
 some (l9)
theorem en158:Enters prog 158:=enters_of func158 (by kernel_rfl) rfl
theorem wk158 {gI:Gh} {wI:World} {x0:List (List Int)} {up0:Value} (rp0:RV gI.m wI x0 up0) {r:(List Int)} (h:f158 x0=some r):Fn prog 158 #[up0] gI wI (fun m w v=>RV m w (r) v):=by
 unfold f158 at h;refine fnE func158 rfl rfl fun g0 hm hfr=>?_;have rp0:=RVc hm rp0;show E _ 36 none _ _ _ _ _;refine Z5 (Zg (.slice none 0 0) rfl rfl (Z3 (Z5 (Zg (Iz (0)) rfl rfl (Z3 ?_)))));obtain ⟨v8,hx,h⟩:=Z1 h;refine Gl (fun e w=>∃ (g:Gh) ,Fr gI wI g w∧e 0=up0∧RV g.m w (x0:List (List Int)) up0∧e 3=Iz (v8)) (fun Q' hQ=>?_) (fun tH bI hR=>?_)
 ·replace h := hx
  clear hx;refine Z5 (Zn up0 rfl rfl (Zx (Iz ((x0).length:Int)) (Gz underlying122 rfl rp0) rfl (Zn (Iz (0)) rfl rfl (Z3 (Zr (Q0 h (fun (s:Int × Int) e w=>∃ (g:Gh) ,Fr gI wI g w∧e 0=up0∧RV g.m w (x0:List (List Int)) up0∧e 3=Iz (s.1)∧e 9=up0∧RV g.m w (x0:List (List Int)) up0∧e 10=Iz (((x0).length:Int))∧e 11=Iz (s.2)) ⟨g0,hfr,rfl,rp0,rfl,rfl,rp0,rfl,rfl⟩ (fun X13 bG sG=>?_)))))));rintro ⟨t5,o0⟩ uH dI ⟨aE,hfr,vC,bD,cD,lD,nB,oB,aB⟩ h;refine Z5 (Z9 (.bool ((decide (o0 < ((x0).length:Int))))) aB oB rfl rfl (Z3 (Zf ?_)));rcases Zt h with ⟨zB,h⟩ | ⟨zB,h⟩
  ·refine G6 zB rfl (Zu (Zd ?_))
   obtain ⟨n8,hx,h⟩:=Z1 h;refine Gl (fun e w=>∃ (g:Gh) ,Fr gI wI g w∧e 0=up0∧RV g.m w (x0:List (List Int)) up0∧e 3=Iz (n8)∧e 9=up0∧RV g.m w (x0:List (List Int)) up0∧e 10=Iz (((x0).length:Int))∧e 11=Iz (o0)) (fun Q' hQ=>?_) (fun xH iI hR=>?_)
   ·replace h := hx
    clear hx;refine Zr (Z5 ?_);obtain ⟨l8,hy20,h⟩:=Z1 h;refine Zx (Tb up0 o0 1) (Zh (α:=List Int) underlying122 sizeOf25 lD nB aB hy20) rfl ?_;have aH:=Gx nB hy20;refine Z4 rfl (Z6 (g:=aE) isAgg25 sizeOf25 rfl aH fun jG cH=>(Zg jG rfl rfl (Z3 (Z5 (Zo cD rfl (Zn jG rfl rfl (Zx (Iz ((l8).length:Int)) (Gz underlying25 rfl cH) rfl (Z9 (Iz ((w64 (t5 + ((l8).length:Int))))) rfl rfl rfl rfl (Zg (Iz ((w64 (t5 + ((l8).length:Int))))) rfl rfl (Z3 (Z5 (Zn (Iz ((w64 (t5 + ((l8).length:Int))))) rfl rfl (Zx (.bool ((decide ((w64 (t5 + ((l8).length:Int))) < (0:Int))))) (Gk rfl rfl rfl) rfl (Z3 ?_))))))))))))));rcases Zt h with ⟨cC,h⟩ | ⟨cC,h⟩
    ·refine G6 cC rfl (Za ?_)
     cases h
    ·refine G7 cC rfl (Zu (Tj ?_))
     obtain rfl:=sinj h;exact hQ _ _ ⟨aE,hfr,vC,bD,rfl,lD,nB,oB,aB⟩
   ·clear hx
    obtain ⟨gH,hfr,xE,yE,zE,cF,dF,bE,iE⟩:=hR;refine Za (Z9 (Iz ((w64 (o0 + (1:Int))))) iE rfl rfl rfl (Zn (Iz ((w64 (o0 + (1:Int))))) rfl rfl ?_));exact Z3 (sG (n8,(w64 (o0 + (1:Int)))) _ _ ⟨gH,hfr,xE,yE,zE,cF,dF,bE,rfl⟩ h)
  ·refine G7 zB rfl (Tn (Gu (Gu (G8 ?_))))
   obtain rfl:=sinj h;exact hQ _ _ ⟨aE,hfr,vC,bD,cD⟩
 ·clear hx
  obtain ⟨jH,hfr,eF,n9,rF⟩:=hR;refine Z5 (Zo rF rfl ?_);obtain ⟨cG,xG,h⟩:=Z1 h;refine Z4 rfl (Xn (g:=jH) (vs:=[.slice none 0 0,Iz (v8)]) en180 (.cons rfl (.cons rfl .nil)) (wk180 (iO:=4024) xG) fun kH jI kG hs m26=>?_);obtain ⟨o26,lH⟩:=m26;have hfr:=hfr.ext hs;have n9:=n9.ext hs;refine Zg kG rfl rfl (Z3 ?_);obtain ⟨l9,hx,h⟩:=Z1 h;refine Gl (fun e w=>∃ (g:Gh) (v6:Value),Fr gI wI g w∧e 6=v6∧RV g.m w (l9:List Int) v6∧OS 4024 g w 3 (l9:List Int) v6) (fun Q' hQ=>?_) (fun yH kI hR=>?_)
  ·replace h := hx
   clear hx;refine Z5 (Zo eF rfl (Zx (Iz ((x0).length:Int)) (Gz underlying122 rfl n9) rfl (Zn (Iz (0)) rfl rfl (Z3 (Zr (Q0 h (fun (s:(List Int) × Int) e w=>∃ (g:Gh) (v6:Value),Fr gI wI g w∧e 6=v6∧RV g.m w (s.1:List Int) v6∧OS 4024 g w 3 (s.1:List Int) v6∧e 25=up0∧RV g.m w (x0:List (List Int)) up0∧e 26=Iz (((x0).length:Int))∧e 27=Iz (s.2)) ⟨kH,(kG),hfr,rfl,lH,o26,rfl,n9,rfl,rfl⟩ (fun X42 eG yG=>?_)))))));rintro ⟨mB,l5⟩ zH lI ⟨lE,sF,hfr,nD,oD,yD,vB,i6,yB,lB⟩ h;refine Z5 (Z9 (.bool ((decide (l5 < ((x0).length:Int))))) lB yB rfl rfl (Z3 (Zf ?_)));rcases Zt h with ⟨uC,h⟩ | ⟨uC,h⟩
   ·refine G6 uC rfl (Zu (Zd ?_))
    obtain ⟨g8,hx,h⟩:=Z1 h;refine Gl (fun e w=>∃ (g:Gh) (v6:Value),Fr gI wI g w∧e 6=v6∧RV g.m w (g8:List Int) v6∧OS 4024 g w 3 (g8:List Int) v6∧e 25=up0∧RV g.m w (x0:List (List Int)) up0∧e 26=Iz (((x0).length:Int))∧e 27=Iz (l5)) (fun Q' hQ=>?_) (fun aI mI hR=>?_)
    ·replace h := hx
     clear hx;refine Zr (Z5 ?_);obtain ⟨gG,mE,h⟩:=Z1 h;refine Zx (Tb up0 l5 1) (Zh (α:=List Int) underlying122 sizeOf25 vB i6 lB mE) rfl ?_;have mH:=Gx i6 mE;refine Z4 rfl (Z6 (g:=lE) isAgg25 sizeOf25 rfl mH fun lG nH=>(Zg lG rfl rfl (Z3 (Za (Zo nD rfl (Zn lG rfl rfl ?_))))));obtain ⟨iG,zG,h⟩:=Z1 h;refine Z4 rfl (T5 (g:=lE) (i:=4024) underlying25 Kr rfl rfl yD oD rfl nH zG fun oH nI mG hs o53 pH _=>?_);have hfr:=hfr.stp hs;have i6:=i6.stp hs;refine Zg mG rfl rfl (Zb (Tj ?_));obtain rfl:=sinj h;exact hQ _ _ ⟨oH,(mG),hfr,rfl,pH,o53,vB,i6,yB,lB⟩
    ·clear hx
     obtain ⟨qH,tF,hfr,uF,vF,xF,oE,rE,uE,vE⟩:=hR;refine Za (Z9 (Iz ((w64 (l5 + (1:Int))))) vE rfl rfl rfl (Zn (Iz ((w64 (l5 + (1:Int))))) rfl rfl ?_));exact Z3 (yG (g8,(w64 (l5 + (1:Int)))) _ _ ⟨qH,(tF),hfr,uF,vF,xF,oE,rE,uE,rfl⟩ h)
   ·refine G7 uC rfl (Tn (Gu (Gu (G8 ?_))))
    obtain rfl:=sinj h;exact hQ _ _ ⟨lE,(sF),hfr,nD,oD,yD⟩
  ·clear hx
   obtain ⟨pI,zD,hfr,yF,aG,sH⟩:=hR;refine Z5 (Zo yF rfl (Zg zD rfl rfl (Z3 (Ga ?_))));obtain rfl:=sinj h;exact Tg rfl rfl (rq zD) ⟨_,hfr,aG⟩
def f168 (x0:List Gc) (x1:Gc→Option Bool):Option (Bool):=
 (f184 x0 x1).bind fun y2=>
 some ((decide (y2 ≥ (0:Int))))
theorem en168:Enters prog 168:=enters_of func168 (by kernel_rfl) rfl
theorem wk168 {gI:Gh} {wI:World} {x0:List Gc} {x1:Gc→Option Bool} {up0:Value} (rp0:RV gI.m wI x0 up0) {up1:Value} (rp1:Hz prog x1 up1 gI wI) {r:Bool} (h:f168 x0 x1=some r):Fn prog 168 #[up0,up1] gI wI (fun _ _ v=>v=.bool (r)):=by
 unfold f168 at h;refine fnE func168 rfl rfl fun g0 hm hfr=>?_;have rp0:=RVc hm rp0;obtain ⟨ff1,fa1,fc1,rfl,fen1,fcl1⟩:=rp1;show E _ 9 none _ _ _ _ _;refine Z5 (Zg (.bool false) rfl rfl (Z3 (Z5 (Zn up0 rfl rfl (Zn ((.func (.func ff1) fa1 fc1)) rfl rfl ?_)))));obtain ⟨y2,hy2,h⟩:=Z1 h;refine Z4 rfl (Zp (g:=g0) (vs:=[up0,(.func (.func ff1) fa1 fc1)]) en184 (.cons rfl (.cons rfl .nil)) (wk184 rp0 (Hz.ch ⟨_,_,_,rfl,fen1,fcl1⟩ hfr.ch) hy2) fun g1 w1_ v1 hs hr=>?_);have hfr:=hfr.ext hs;subst hr;refine Z9 (.bool ((decide (y2 ≥ (0:Int))))) rfl rfl rfl rfl (Zg (.bool ((decide (y2 ≥ (0:Int))))) rfl rfl (Z3 (Ga ?_)));obtain rfl:=sinj h;exact Tg rfl rfl (rq (.bool ((decide (y2 ≥ (0:Int)))))) ⟨_,hfr,rfl⟩
def f169 (x0:Str) (x1:I32→Option Bool):Option (Int):=
 (f185 x0 x1 true).bind fun y2=>
 some (y2)
theorem en169:Enters prog 169:=enters_of func169 (by kernel_rfl) rfl
theorem wk169 {gI:Gh} {wI:World} {x0:Str} {x1:I32→Option Bool} {up1:Value} (rp1:Hz prog x1 up1 gI wI) {r:Int} (h:f169 x0 x1=some r):Fn prog 169 #[Str.v (x0),up1] gI wI (fun _ _ v=>v=Iz (r)):=by
 unfold f169 at h;refine fnE func169 rfl rfl fun g0 hm hfr=>?_;obtain ⟨ff1,fa1,fc1,rfl,fen1,fcl1⟩:=rp1;show E _ 8 none _ _ _ _ _;refine Z5 (Zg (Iz (0)) rfl rfl (Z3 (Z5 (Zn (Str.v (x0)) rfl rfl (Zn ((.func (.func ff1) fa1 fc1)) rfl rfl ?_)))));obtain ⟨y2,hy2,h⟩:=Z1 h;refine Z4 rfl (Zp (g:=g0) (vs:=[Str.v (x0),(.func (.func ff1) fa1 fc1),.bool true]) en185 (.cons rfl (.cons rfl (.cons rfl .nil))) (wk185 (Hz.ch ⟨_,_,_,rfl,fen1,fcl1⟩ hfr.ch) hy2) fun g1 w1_ v1 hs hr=>?_);have hfr:=hfr.ext hs;subst hr;refine Zg (Iz (y2)) rfl rfl (Z3 (Ga ?_));obtain rfl:=sinj h;exact Tg rfl rfl (rq (Iz (y2))) ⟨_,hfr,rfl⟩
def f171 (x0:U64):Option (U64):=
 (Ws ((x0).n) ((1:Int))).bind fun y1=>
 (L2 (Tr .and ((x0).n) ((6148914691236517205:Int))) ((1:Int))).bind fun y2=>
 (Ws (Tr .or (Tr .and y1 ((6148914691236517205:Int))) y2) ((2:Int))).bind fun y3=>
 (L2 (Tr .and (Tr .or (Tr .and y1 ((6148914691236517205:Int))) y2) ((3689348814741910323:Int))) ((2:Int))).bind fun y4=>
 (Ws (Tr .or (Tr .and y3 ((3689348814741910323:Int))) y4) ((4:Int))).bind fun y5=>
 (L2 (Tr .and (Tr .or (Tr .and y3 ((3689348814741910323:Int))) y4) ((1085102592571150095:Int))) ((4:Int))).bind fun y6=>
 (f186 ((⟨Tr .or (Tr .and y5 ((1085102592571150095:Int))) y6⟩:U64))).bind fun y8=>
 some (y8)
theorem en171:Enters prog 171:=enters_of func171 (by kernel_rfl) rfl
theorem wk171 {gI:Gh} {wI:World} {x0:U64}  {r:U64} (h:f171 x0=some r):Fn prog 171 #[.int .u64 ((x0).n)] gI wI (fun _ _ v=>v=.int .u64 ((r).n)):=by
 unfold f171 at h;refine fnE func171 rfl rfl fun g0 hm hfr=>?_;show E _ 26 none _ _ _ _ _;refine Z5 (Zg (.int .u64 (0)) rfl rfl (Z3 (Z5 (Zn (.int .u64 ((x0).n)) rfl rfl ?_))));obtain ⟨y1,hy1,h⟩:=Z1 h;refine Zx (.int .u64 (y1)) (H4 rfl rfl hy1) rfl (Zx (.int .u64 (Tr .and y1 ((6148914691236517205:Int)))) (Km (by simp) rfl rfl) rfl (Zn (.int .u64 ((x0).n)) rfl rfl (Zx (.int .u64 (Tr .and ((x0).n) ((6148914691236517205:Int)))) (Km (by simp) rfl rfl) rfl ?_)));obtain ⟨y2,hy2,h⟩:=Z1 h;refine Zx (.int .u64 (y2)) (Dz rfl rfl hy2) rfl (Zx (.int .u64 (Tr .or (Tr .and y1 ((6148914691236517205:Int))) y2)) (Km (by simp) rfl rfl) rfl (Zg (.int .u64 (Tr .or (Tr .and y1 ((6148914691236517205:Int))) y2)) rfl rfl (Z3 (Z5 (Zn (.int .u64 (Tr .or (Tr .and y1 ((6148914691236517205:Int))) y2)) rfl rfl ?_)))));obtain ⟨y3,hy3,h⟩:=Z1 h;refine Zx (.int .u64 (y3)) (H4 rfl rfl hy3) rfl (Zx (.int .u64 (Tr .and y3 ((3689348814741910323:Int)))) (Km (by simp) rfl rfl) rfl (Zn (.int .u64 (Tr .or (Tr .and y1 ((6148914691236517205:Int))) y2)) rfl rfl (Zx (.int .u64 (Tr .and (Tr .or (Tr .and y1 ((6148914691236517205:Int))) y2) ((3689348814741910323:Int)))) (Km (by simp) rfl rfl) rfl ?_)));obtain ⟨y4,o0,h⟩:=Z1 h;refine Zx (.int .u64 (y4)) (Dz rfl rfl o0) rfl (Zx (.int .u64 (Tr .or (Tr .and y3 ((3689348814741910323:Int))) y4)) (Km (by simp) rfl rfl) rfl (Zg (.int .u64 (Tr .or (Tr .and y3 ((3689348814741910323:Int))) y4)) rfl rfl (Z3 (Z5 (Zn (.int .u64 (Tr .or (Tr .and y3 ((3689348814741910323:Int))) y4)) rfl rfl ?_)))));obtain ⟨y5,hy5,h⟩:=Z1 h;refine Zx (.int .u64 (y5)) (H4 rfl rfl hy5) rfl (Zx (.int .u64 (Tr .and y5 ((1085102592571150095:Int)))) (Km (by simp) rfl rfl) rfl (Zn (.int .u64 (Tr .or (Tr .and y3 ((3689348814741910323:Int))) y4)) rfl rfl (Zx (.int .u64 (Tr .and (Tr .or (Tr .and y3 ((3689348814741910323:Int))) y4) ((1085102592571150095:Int)))) (Km (by simp) rfl rfl) rfl ?_)));obtain ⟨y6,l5,h⟩:=Z1 h;refine Zx (.int .u64 (y6)) (Dz rfl rfl l5) rfl (Zx (.int .u64 (Tr .or (Tr .and y5 ((1085102592571150095:Int))) y6)) (Km (by simp) rfl rfl) rfl (Zg (.int .u64 (Tr .or (Tr .and y5 ((1085102592571150095:Int))) y6)) rfl rfl (Z3 (Z5 (Zn (.int .u64 (Tr .or (Tr .and y5 ((1085102592571150095:Int))) y6)) rfl rfl ?_)))));obtain ⟨y8,t5,h⟩:=Z1 h;refine Z4 rfl (Zp (g:=g0) (vs:=[.int .u64 (Tr .or (Tr .and y5 ((1085102592571150095:Int))) y6)]) en186 (.cons rfl .nil) (wk186  t5) fun g7 w7_ v7 hs hr=>?_);have hfr:=hfr.ext hs;subst hr;refine Zg (.int .u64 ((y8).n)) rfl rfl (Z3 (Ga ?_));obtain rfl:=sinj h;exact Tg rfl rfl (rq (.int .u64 ((y8).n))) ⟨_,hfr,rfl⟩
def f177 (x0:List (List Int)) (x1:(List Int)→Option Bool):Option (Bool):=
 (f189 x0 x1).bind fun y2=>
 some ((decide (y2 ≥ (0:Int))))
theorem en177:Enters prog 177:=enters_of func177 (by kernel_rfl) rfl
theorem wk177 {gI:Gh} {wI:World} {x0:List (List Int)} {x1:(List Int)→Option Bool} {up0:Value} (rp0:RV gI.m wI x0 up0) {up1:Value} (rp1:Hz prog x1 up1 gI wI) {r:Bool} (h:f177 x0 x1=some r):Fn prog 177 #[up0,up1] gI wI (fun _ _ v=>v=.bool (r)):=by
 unfold f177 at h;refine fnE func177 rfl rfl fun g0 hm hfr=>?_;have rp0:=RVc hm rp0;obtain ⟨ff1,fa1,fc1,rfl,fen1,fcl1⟩:=rp1;show E _ 9 none _ _ _ _ _;refine Z5 (Zg (.bool false) rfl rfl (Z3 (Z5 (Zn up0 rfl rfl (Zn ((.func (.func ff1) fa1 fc1)) rfl rfl ?_)))));obtain ⟨y2,hy2,h⟩:=Z1 h;refine Z4 rfl (Zp (g:=g0) (vs:=[up0,(.func (.func ff1) fa1 fc1)]) en189 (.cons rfl (.cons rfl .nil)) (wk189 rp0 (Hz.ch ⟨_,_,_,rfl,fen1,fcl1⟩ hfr.ch) hy2) fun g1 w1_ v1 hs hr=>?_);have hfr:=hfr.ext hs;subst hr;refine Z9 (.bool ((decide (y2 ≥ (0:Int))))) rfl rfl rfl rfl (Zg (.bool ((decide (y2 ≥ (0:Int))))) rfl rfl (Z3 (Ga ?_)));obtain rfl:=sinj h;exact Tg rfl rfl (rq (.bool ((decide (y2 ≥ (0:Int)))))) ⟨_,hfr,rfl⟩
def f22 (x0:Z2) (x1:Z2):Option (Int):=
 (f45 ((x0).Day) ((x1).Day)).bind fun y8=>
 (f45 ((x0).Loom) ((x1).Loom)).bind fun o0=>
 (f44 (([y8,o0]:List Int))).bind fun t5=>
 some (t5)
theorem en22:Enters prog 22:=enters_of func22 (by kernel_rfl) rfl
theorem wk22 {gI:Gh} {wI:World} {x0:Z2} {x1:Z2} {up0:Value} (rp0:RV gI.m wI x0 up0) {up1:Value} (rp1:RV gI.m wI x1 up1) {r:Int} (h:f22 x0 x1=some r):Fn prog 22 #[up0,up1] gI wI (fun _ _ v=>v=Iz (r)):=by
 unfold f22 at h;refine fnE func22 rfl rfl fun g0 hm hfr=>?_;have rp0:=RVc hm rp0;have rp1:=RVc hm rp1;show E _ 17 none _ _ _ _ _;refine Z5 (Z4 rfl (Tv (g:=g0) rfl rp0 fun g1 w1 p1 hs q1=>?_));have hfr:=hfr.ext hs;have rp1:=rp1.ext hs;refine Z4 rfl (Tv (g:=g1) rfl rp1 fun g2 w2 p2 hs q2=>?_);have hfr:=hfr.ext hs;have q1:=q1.ext hs;refine Zg (Iz (0)) rfl rfl (Z3 (Zf ?_));have q3:=Zm (Qz).1 q1;refine Zs (x:=.tmp 5) isAgg3 sizeOf3 q3 fun v4 r4 n8=>?_;obtain rfl:=Zj.1 r4;have q5:=Zm (Qz).1 q2;refine Zs (x:=.tmp 7) isAgg3 sizeOf3 q5 fun v6 r6 v8=>?_;obtain rfl:=Zj.1 r6;obtain ⟨y8,l9,h⟩:=Z1 h;have q9:=Zm (Qg).1 q1;refine Zs (x:=.tmp 10) isAgg3 sizeOf3 q9 fun mB n9 i6=>?_;obtain rfl:=Zj.1 n9;have aB:=Zm (Qg).1 q2;refine Zs (x:=.tmp 12) isAgg3 sizeOf3 aB fun nB lB hl12=>?_;obtain rfl:=Zj.1 lB;obtain ⟨o0,g8,h⟩:=Z1 h;obtain ⟨t5,l8,h⟩:=Z1 h;refine To (g:=g2) (n:=13) [(4,(fun v g w=>v=Iz (y8))),(9,(fun v g w=>v=Iz (o0))),(10,(fun v g w=>RV g.m w ([y8,o0]:List Int) v∧OS 3015 g w 3 ([y8,o0]:List Int) v∧Qx v)),(11,(fun v g w=>v=Iz (t5)))] [0,1,2,3,4,5,6,7,8,9,10,11,12] rfl mixed (by kernel_rfl) (⟨fun _=>Wk _,fun _=>Wk _,fun _=>W0 Jf (W0 V1 (Wk _)),fun _=>Wk _,trivial⟩) (Z0 (Z8 p1 0) rfl rfl (Zc Yd rfl (PT.ptr q1)) (Tm (c:=Iz ((x0).Day)) rfl rfl .plain (fun _ _ h=>h.ch) n8 rfl (Z0 (Z8 p2 0) rfl rfl (Zc Yd rfl (PT.ptr q2)) (Tm (c:=Iz ((x1).Day)) rfl rfl .plain (fun _ _ h=>h.ch) v8 rfl (W7 (φ:=fun v g w=>v=Iz (y8)) rfl rfl .plain (fun g w hd=>Zp (g:=g) (vs:=[Iz ((x0).Day),Iz ((x1).Day)]) en45 (.cons rfl (.cons rfl .nil)) (wk45  l9) fun g' w' v hs hr=>⟨g',hs,hr⟩) (fun v7 hv=>?_))))));obtain ⟨_,_,_,rfl⟩:=hv;refine Z0 (Z8 p1 1) rfl rfl (Zc Hw rfl (PT.ptr q1)) (Tm (c:=Iz ((x0).Loom)) rfl rfl .plain (fun _ _ h=>h.ch) i6 rfl (Z0 (Z8 p2 1) rfl rfl (Zc Hw rfl (PT.ptr q2)) (Tm (c:=Iz ((x1).Loom)) rfl rfl .plain (fun _ _ h=>h.ch) hl12 rfl (W7 (φ:=fun v g w=>v=Iz (o0)) rfl rfl .plain (fun g w hd=>Zp (g:=g) (vs:=[Iz ((x0).Loom),Iz ((x1).Loom)]) en45 (.cons rfl (.cons rfl .nil)) (wk45  g8) fun g' w' v hs hr=>⟨g',hs,hr⟩) (fun oB hv=>?_)))));obtain ⟨_,_,_,rfl⟩:=hv;refine W7 (φ:=fun v g w=>RV g.m w ([y8,o0]:List Int) v∧OS 3015 g w 3 ([y8,o0]:List Int) v∧Qx v) rfl rfl .plain (fun g w hd=>Z7 (g:=g) 3015 (xs:=([y8,o0]:List Int)) (vs:=[Iz (y8),Iz (o0)]) underlying25 sizeOf3 zeroValue3 rfl rfl (.cons rfl (.cons rfl .nil)) (RVs.cons (Zj.2 rfl) (RVs.cons (Zj.2 rfl) RVs.nil)) rfl rfl fun g' w' v hs o r hxt hfl=>⟨g',hxt,r,o,hfl⟩) (fun l5 hv=>?_);clear hv;refine W7 (φ:=fun v g w=>v=Iz (t5)) rfl rfl .plain (fun g w hd=>Zp (g:=g) (vs:=[l5]) en44 (.cons rfl .nil) (wk44 (D4 (A:=fun g w=>RV g.m w ([y8,o0]:List Int) l5∧OS 3015 g w 3 ([y8,o0]:List Int) l5∧Qx l5) 10 rfl rfl (K7 hd)).1 l8) fun g' w' v hs hr=>⟨g',hs,hr⟩) (fun vB hv=>?_);obtain ⟨_,_,_,rfl⟩:=hv;refine Z0 (Iz (t5)) rfl rfl (Te rfl) (J6 fun yB zB hall=>?_);have hs:=hall.1;have hfr:=hfr.ext hs;have cC:=(T1 (A:=fun g w=>RV g.m w ([y8,o0]:List Int) l5∧OS 3015 g w 3 ([y8,o0]:List Int) l5∧Qx l5) 10 rfl hall).1;have o34:=(T1 (A:=fun g w=>RV g.m w ([y8,o0]:List Int) l5∧OS 3015 g w 3 ([y8,o0]:List Int) l5∧Qx l5) 10 rfl hall).2.1;clear hs hall;refine Z3 (Ga ?_);obtain rfl:=sinj h;exact Tg rfl rfl (rq (Iz (t5))) ⟨_,hfr,rfl⟩
def f40 (x0:List Z2) (x1:Z2→Z2→Option Int):Option ((List Z2)):=
 (f80 ((T3 ((x0).length:Int)))).bind fun y2=>
 (f79 big x0 ((0:Int)) (((x0).length:Int)) y2 x1).bind fun y4=>
 some (y4)
theorem en40:Enters prog 40:=enters_of func40 (by kernel_rfl) rfl
theorem wk40 {iI:Nat} {gI:Gh} {wI:World} {x0:List Z2} {x1:Z2→Z2→Option Int} {up0:Value} (mp0:OM iI gI wI 60 x0 up0) {up1:Value} (rp1:Xa prog x1 up1 gI wI) {r:(List Z2)} (h:f40 x0 x1=some r):FnM prog 40 #[up0,up1] iI gI wI (fun g w v=>v=.tuple #[]∧OM iI g w 60 r up0):=by
 unfold f40 at h;refine J0 func40 rfl (Nat.le_of_ble_eq_true rfl) fun g0 hm hfr=>?_;have o0:=mp0;replace mp0:=mp0.enter;rw [← hm] at mp0
 replace hm:g0.m=gI.m:=by rw [hm]
 obtain ⟨ff1,fa1,fc1,rfl,fen1,fcl1⟩:=rp1;show E _ 14 none _ _ _ _ _;refine Z5 (Zn up0 rfl rfl (Zx (Iz ((x0).length:Int)) (F3 underlying33 rfl mp0) rfl (Zg (Iz ((x0).length:Int)) rfl rfl (Z3 (Za (Zn up0 rfl rfl (Zn (Iz ((x0).length:Int)) rfl rfl (Zn (Iz ((x0).length:Int)) rfl rfl (Zx (.int .u64 (T3 ((x0).length:Int))) (Jj underlying3 underlying76 rfl) rfl ?_)))))))));obtain ⟨y2,hy2,h⟩:=Z1 h;refine Z4 rfl (Zp (g:=g0) (vs:=[.int .u64 (T3 ((x0).length:Int))]) en80 (.cons rfl .nil) (wk80  hy2) fun g1 w1_ v1 hs hr=>?_);have hfr:=hfr.ext hs;have mp0:=mp0.ext hs;subst hr;refine Zn ((.func (.func ff1) fa1 fc1)) rfl rfl ?_;obtain ⟨y4,l5,h⟩:=Z1 h;refine Z4 rfl (Jv (g:=g1) (i:=1) (vs:=[up0,Iz (0),Iz ((x0).length:Int),Iz (y2),(.func (.func ff1) fa1 fc1)]) en79 (.cons rfl (.cons rfl (.cons rfl (.cons rfl (.cons rfl .nil))))) (wk79 big mp0 (Xa.ch ⟨_,_,_,rfl,fen1,fcl1⟩ hfr.ch) l5) fun g3 w3_ v3 hs hr=>?_);obtain ⟨hrv,b3⟩:=hr;have hfr:=hfr.stp hs;subst hrv;refine Zb ?_;obtain rfl:=sinj h;exact Y3 rfl rfl ⟨_,hfr,rfl,o0.back b3⟩
def f41 (z0:List UInt8) (σ:Type) (cons:V9 σ (Vector UInt8 8)) (s0:σ):Option σ:=
 (f42 z0 ((8:Int))).bind fun y4=>
 (y4 (Nat × σ) (Fu fun aB lB=>
  (C6 8 lB).bind fun mB=>
  (cons aB mB).bind fun (v8,l9)=>
  bif (!v8) then
   some (false,((1:Nat),(l9)))
  else
   some (true,((0:Nat),(l9)))
  ) (0,(s0))).bind fun (g8,l8)=>
 bif Nat.beq g8 0 then
  some l8
 else
  some l8
theorem en41:Enters prog 41:=enters_of func41 (by kernel_rfl) rfl
theorem wk41 {σ:Type} {cons:V9 σ (Vector UInt8 8)} {s0 r:σ} {gI:Gh} {wI:World} {z0:List UInt8} {pf0:Value} (qf0:PT gI.m wI z0 pf0) (h:f41 z0 σ cons s0=some r):L7 prog (RA1 (α:=(Vector UInt8 8))) 41 #[] #[pf0] gI wI cons s0 r:=by
 unfold f41 at h;refine Ag func41 rfl (Nat.le_of_ble_eq_true rfl) fun l B J g0 hm hAb hRo hfr=>?_;have hmk:MkF g0 wI []:=MkF.start;have qf0:PT g0.m wI z0 pf0:=hm ▸ qf0;show E _ 13 none _ _ (Jz #[.func (.yield l) #[] #[],pf0]) _ _;refine Z5 (Z4 rfl (Tv (g:=g0) (a:=(⟨(.func (.yield l) #[] #[]),rfl⟩:Fv)) rfl (Rn.2 rfl) fun g1 w1 p1 hs q1=>?_));have hfr:=hfr.ext_ hAb hs;have hmk:=hmk.ext hs;have qf0:=qf0.ext hs;refine Z3 (Z5 (Z4 rfl (Z6 (g:=g1) isAgg43 sizeOf43 rfl qf0 fun v2 r2=>?_)));obtain ⟨y4,cD,h⟩:=Z1 h;refine Z4 rfl (Zp (g:=g1) (vs:=[v2,Iz (8)]) en42 (.cons rfl (.cons rfl .nil)) (wk42 r2 cD) fun g3 w3_ v3 hs hr=>?_);have hfr:=hfr.ext_ hAb hs;have hmk:=hmk.ext hs;have q1:=q1.ext hs;have r3:=hr;refine Z3 (Zr ?_);have hB0:=hfr.hB;have hmk0:=hmk;obtain ⟨⟨g8,l8⟩,hφ,h⟩:=Z1 h;refine Bj (σ:=(Nat × σ)) (s0:=(0,(s0))) 10 rfl (fun s=>s.1) [.ret] (fun (s:Nat × σ) (g:Gh) (w:World)=>FrY gI wI B J (s.2) g w∧MkF g w []∧PT g.m w (⟨(.func (.yield l) #[] #[]),rfl⟩:Fv) p1∧ItV prog (RA1 (α:=(List UInt8))) y4 v3 g.m w) rfl r3 hφ (fun _ _ _ h=>(Dc h).1) rfl Pc rfl (fun _ _ _ _ _ hx hR=>by obtain ⟨hfr,hmk,z2,z3⟩:=hR; exact ⟨hfr.ist_ hAb hx hB0,hmk.ist hx,z2.ist hx,z3.ist hx⟩) (fun _ _ _ _ _ hx hR=>by obtain ⟨hfr,hmk,z2,z3⟩:=hR; exact ⟨hfr.stp_ hAb hx rfl,hmk.stp hx,z2.stp hx,z3.stp hx⟩) ⟨hfr,hmk,q1,r3⟩ (fun _ h=>by cases h) ?_ ?_
 ·intro oE bE s x b s2 yB lD vs hsz h hR hrec_0 nB hrd
  obtain ⟨hs0,h⟩:=Dc h;obtain ⟨st,aB⟩:=s;obtain ⟨hfr,hmk,o0,l5⟩:=hR;obtain ⟨lB,hxe⟩:∃ y,y=x:=⟨x,rfl⟩;subst hxe;obtain ⟨n8,rfl,i6⟩:=Mz hrd;have t5:=RFr.refl yB lD;refine Za (Zg n8 rfl rfl (Z3 ?_));obtain ⟨nD,hbr,hs,hrN⟩:=Bl hrec_0 nB;refine ⟨nD,hbr,?_⟩;have hfr:=hfr.stp_ hAb hs rfl;have hmk:=hmk.stp hs;have t5:=t5.stp hs;have o0:=o0.stp hs;have l5:=l5.stp hs;have i6:=i6.stp hs;have hrec_0:=hrN;clear hbr hs hrN;refine Zr (Zf (Zs (α:=Fv) (x:=.tmp 2) isAgg138 sizeOf138 o0 fun zB cC uC=>?_));have e26:zB=(.func (.yield l) #[] #[]):=Rn.1 cC;clear cC;subst zB;obtain ⟨mB,oB,h⟩:=Z1 h;have oD:=L1 i6 oB;refine Zs (x:=.tmp 9) isAgg82 sizeOf82 oD fun yD vB vC=>(To (g:=yB) (n:=4) [] [0,1,2,3] rfl mixed (by kernel_rfl) trivial (Tm (c:=(.func (.yield l) #[] #[])) rfl rfl .plain (fun _ _ h=>h.ch) uC rfl (Z0 n8 rfl rfl (Zk rfl) (Z0 ((I9 n8)) rfl rfl (Ms underlying82 rfl i6 oB) (Tm (c:=yD) rfl rfl .plain (fun _ _ h=>h.ch) vC rfl (Ka fun zD rE hs=>?_))))));have hfr:=hfr.ext_ hAb hs;have hmk:=hmk.ext hs;have t5:=t5.ext hs;have hrec_0:=hrec_0.ext hs;have o0:=o0.ext hs;have l5:=l5.ext hs;have vB:=vB.ext hs;clear hs;obtain ⟨aE,bD,h⟩:=Z1 h;obtain ⟨v8,l9⟩:=aE;refine Z4 rfl (A4 (g:=zD) (x:=mB) rfl (.cons rfl .nil) hRo hfr bD ⟨_,rfl,vB⟩ fun uE vE hs hfrY=>?_);have hmk:=hmk.stp hs;have t5:=t5.stp hs;have hrec_0:=hrec_0.stp hs rfl;have o0:=o0.stp hs;have l5:=l5.stp hs;have hfr:=hfrY;clear hfrY;refine Zx (.bool (!v8)) (Qm rfl) rfl (Z3 ?_);rcases Zt h with ⟨n9,h⟩ | ⟨n9,h⟩
  ·refine G6 n9 rfl (Ga (Tl ?_))
   obtain ⟨rfl,rfl⟩:=Hd h;exact ⟨_,t5,⟨hfr,hmk,o0,l5⟩,hrec_0,rfl,0,rfl,rfl⟩
  ·refine G7 n9 rfl (Zu (Tj ?_))
   obtain ⟨rfl,rfl⟩:=Hd h;exact ⟨_,t5,⟨hfr,hmk,o0,l5⟩,hrec_0,rfl,rfl⟩
 ·intro xE yE ds44 hsz hR hds
  obtain ⟨hfr,hmk,iE,lE⟩:=hR;obtain ⟨D,hdse,hD,hDb⟩:=hds.1 rfl;subst hdse;replace hmk:=MkF.push hmk0 hmk hD hDb;clear hD hDb hds;revert hmk;generalize ({ target:=.collected D,args:=#[] } :: []:List Deferred)=mE;intro hmk;refine ⟨fun hs=>?_,fun k c hs hc=>?_⟩
  ·have hs : g8 = 0 := hs
   subst hs;replace h:=N6 h rfl;refine Tj (Ni (.inl rfl) hmk fun zE cF hs=>?_);have hfr:=hfr.stp_ hAb hs rfl;obtain rfl:=sinj h;exact Y3 rfl rfl (FrY.done hfr)
  ·have hs : g8 = k + 1 := hs
   match k,hs,hc with
   | 0,hs,hc=>
    subst hs;obtain rfl:=sinj hc;replace h:=Oc h rfl;refine Ga (Tl (Ni (.inr rfl) hmk fun dF eF hs=>?_));have hfr:=hfr.stp_ hAb hs rfl;obtain rfl:=sinj h;exact end0 rfl rfl (FrY.done hfr)
   | n + 1,_,hc=>exact absurd hc (by simp)
def f58 (x0:List Int) (x1:Int):Option ((List Int)):=
 Option.bind (α:=Unit) (
  bif (decide (x1 < (0 : Int))) then
   none
  else
   some ()
  ) fun (_:Unit)=>
 (f96 ((⟨(T3 ((x0).length:Int))⟩:U64)) ((⟨(T3 x1)⟩:U64))).bind fun y5=>
 Option.bind (α:=Unit) (
  Option.bind (α:=Bool) (
   bif (decide ((y5.1).n > (0 : Int))) then
    some (true)
   else
    some ((decide ((y5.2).n > (9223372036854775807:Int))))
   ) fun i6=>
  bif i6 then
   none
  else
   some ()
  ) fun (_:Unit)=>
 (mks 8 (0:Int) ((w64 ((y5.2).n)))).bind fun oB=>
 Option.bind (α:=(List Int)) (
  lp (σ:=(List Int) × Int) (fun bE (l5,o0)=>
   jn (σ:=Unit) (fun _=>
    (cut l5 o0 ((l5).length:Int)).bind fun n8=>
    (cut l5 0 o0).bind fun y40=>
    bE ((cpy l5 o0 n8 y40),(w64 (o0 + ((min (y40).length (n8).length:Nat):Int))))
    ) fun k33=>
   bif (decide (o0 < ((l5).length : Int))) then
    k33 ()
   else
    some (l5)
   ) big ((cpy oB 0 oB x0),((min (x0).length (oB).length:Nat):Int))
  ) fun l9=>
 some (l9)
theorem en58:Enters prog 58:=enters_of func58 (by kernel_rfl) rfl
theorem wk58 {gI:Gh} {wI:World} {x0:List Int} {x1:Int} {up0:Value} (rp0:RV gI.m wI x0 up0) {r:(List Int)} (h:f58 x0 x1=some r):Fn prog 58 #[up0,Iz (x1)] gI wI (fun m w v=>RV m w (r) v):=by
 unfold f58 at h;refine fnE func58 rfl rfl fun g0 hm hfr=>?_;have rp0:=RVc hm rp0;show E _ 48 none _ _ _ _ _;refine Z5 (Zg (.slice none 0 0) rfl rfl (Z3 ?_));obtain ⟨_,hx,h⟩:=Z1 h;refine Gl (fun e w=>∃ (g:Gh) ,Fr gI wI g w∧e 0=up0∧RV g.m w (x0:List Int) up0∧e 1=Iz (x1)) (fun Q' hQ=>?_) (fun yF w3 hR=>?_)
 ·replace h := hx
  clear hx;refine Z5 (Zn (Iz (x1)) rfl rfl (Z9 (.bool ((decide (x1 < (0:Int))))) rfl rfl rfl rfl (Z3 ?_)));rcases Zt h with ⟨hc2,h⟩ | ⟨hc2,h⟩
  ·refine G6 hc2 rfl (Za ?_)
   cases h
  ·refine G7 hc2 rfl (Zu ?_)
   obtain rfl:=sinj h;exact hQ _ _ ⟨g0,hfr,rfl,rp0,rfl⟩
 ·clear hx
  obtain ⟨g3,hfr,yB,v8,mE⟩:=hR;refine Z5 (Zo yB rfl (Zx (Iz ((x0).length:Int)) (Gz underlying25 rfl v8) rfl (Zx (.int .u64 (T3 ((x0).length:Int))) (Jj underlying3 underlying76 rfl) rfl (Zo mE rfl (Zx (.int .u64 (T3 x1)) (Jj underlying3 underlying76 rfl) rfl ?_)))));obtain ⟨y5,hy5,h⟩:=Z1 h;refine Z4 rfl (Zp (g:=g3) (vs:=[.int .u64 (T3 ((x0).length:Int)),.int .u64 (T3 x1)]) en96 (.cons rfl (.cons rfl .nil)) (wk96  hy5) fun g4 w4_ v4 hs hr=>?_);have hfr:=hfr.ext hs;have v8:=v8.ext hs;obtain ⟨eF,rF,rfl,rfl,rfl⟩:=hr;refine Zn (.tuple #[.int .u64 ((y5.1).n),.int .u64 ((y5.2).n)]) rfl rfl (Zx (.int .u64 ((y5.1).n)) (Zi rfl rfl) rfl (Zx (.int .u64 ((y5.2).n)) (Zi rfl rfl) rfl (Zg (.int .u64 ((y5.1).n)) rfl rfl (Zg (.int .u64 ((y5.2).n)) rfl rfl (Z3 ?_)))));obtain ⟨_,hx,h⟩:=Z1 h;refine Gl (fun e w=>∃ (g:Gh) ,Fr gI wI g w∧e 0=up0∧RV g.m w (x0:List Int) up0∧e 6=.int .u64 ((y5.2).n)) (fun Q' hQ=>?_) (fun sF aG hR=>?_)
  ·replace h := hx
   clear hx;obtain ⟨i6,hx,h⟩:=Z1 h;refine Gl (fun e w=>∃ (g:Gh) ,Fr gI wI g w∧e 0=up0∧RV g.m w (x0:List Int) up0∧e 6=.int .u64 ((y5.2).n)∧e 26=.bool (i6)) (fun Q' hQ=>?_) (fun tF bG hR=>?_)
   ·replace h := hx
    clear hx;refine Za (Zn (.int .u64 ((y5.1).n)) rfl rfl (Zx (.bool (decide ((y5.1).n > (0:Int)))) (Lx rfl rfl rfl) rfl (Zn (.bool (decide ((y5.1).n > (0:Int)))) rfl rfl ?_)));rcases Zt h with ⟨g8,h⟩ | ⟨g8,h⟩
    ·refine Zz rfl rfl g8 rfl rfl (Zz rfl rfl g8 rfl rfl (Zx (.bool true) (Zl (b := (decide ((y5.1).n > (0 : Int)))) rfl (G4 g8 rfl)) rfl (Zb ?_)))
     obtain rfl:=sinj h;exact hQ _ _ ⟨g4,hfr,yB,v8,rfl,rfl⟩
    ·refine Zy (.int .u64 ((y5.2).n)) (Zk rfl) rfl rfl g8 rfl (Zy (.bool (decide ((y5.2).n > (9223372036854775807 : Int)))) (Lx rfl rfl rfl) rfl rfl g8 rfl (Zx (.bool (decide ((y5.2).n > (9223372036854775807 : Int)))) (Zl (b := (decide ((y5.1).n > (0 : Int)))) rfl (G5 g8 rfl)) rfl (Zb ?_)))
     obtain rfl:=sinj h;exact hQ _ _ ⟨g4,hfr,yB,v8,rfl,rfl⟩
   ·clear hx
    obtain ⟨vE,hfr,cD,lD,nD,vB⟩:=hR;rcases Zt h with ⟨zB,h⟩ | ⟨zB,h⟩
    ·refine Ta (Eq.trans (show ev _ _ = .bool (i6) from vB) (congrArg Value.bool zB)) (Za ?_)
     cases h
    ·refine Gs (Eq.trans (show ev _ _ = .bool (i6) from vB) (congrArg Value.bool zB)) (Zu ?_)
     obtain rfl:=sinj h;exact hQ _ _ ⟨vE,hfr,cD,lD,nD⟩
  ·clear hx
   obtain ⟨xE,hfr,oD,n9,yD⟩:=hR;refine Z5 (Zo yD rfl (Zx (Iz ((w64 ((y5.2).n)))) (Sq underlying76 underlying3 rfl) rfl ?_));obtain ⟨oB,oE,h⟩:=Z1 h;refine Z4 rfl (C9 (g:=xE) 9030 (0:Int) rfl underlying25 Kr rfl (fun _ _=>rfl) rfl rfl oE fun yE cG t5 hs b16=>?_);have hfr:=hfr.stp hs;have n9:=n9.stp hs;refine Zg t5 rfl rfl (Z3 (Z5 (Zn t5 rfl rfl (Zo oD rfl (Z4 rfl (D_copyM (g:=yE) (α:=Int) underlying25 Kr rfl b16 rfl n9 fun zE eG hs b17=>?_))))));have hfr:=hfr.stp hs;refine Zg (Iz ((min (x0).length (oB).length:Nat):Int)) rfl rfl (Z3 ?_);obtain ⟨l9,hx,h⟩:=Z1 h;refine Gl (fun e w=>∃ (g:Gh) ,Fr gI wI g w∧e 7=t5∧OM 9030 g w 3 (l9:List Int) t5) (fun Q' hQ=>?_) (fun uF gG hR=>?_)
   ·replace h := hx
    clear hx;refine Zr (Q0 h (fun (s:(List Int) × Int) e w=>∃ (g:Gh) ,Fr gI wI g w∧e 7=t5∧OM 9030 g w 3 (s.1:List Int) t5∧e 8=Iz (s.2)) ⟨zE,hfr,rfl,b17,rfl⟩ (fun X30 bE rE=>?_));rintro ⟨l5,o0⟩ vF iG ⟨iE,hfr,aB,lB,uC⟩ h;refine Zq h (fun (s:Unit) e w=>∃ (g:Gh) ,Fr gI wI g w∧e 7=t5∧OM 9030 g w 3 (l5:List Int) t5∧e 8=Iz (o0)) (fun X33 k33 uE h=>?_) ?_
    ·refine Z5 (Zo uC rfl (Zo aB rfl (Zx (Iz ((l5).length : Int)) (F3 underlying25 rfl lB) rfl (Z9 (.bool ((decide (o0 < ((l5).length : Int))))) rfl rfl rfl rfl (Z3 ?_)))))
     rcases Zt h with ⟨cC,h⟩ | ⟨cC,h⟩
     ·refine G6 cC rfl ?_
      exact Zu (Zd (uE () _ _ ⟨iE,hfr,aB,lB,uC⟩ h))
     ·refine G7 cC rfl (Tn (Gu (Gu (G8 ?_))))
      obtain rfl:=sinj h;exact hQ _ _ ⟨iE,hfr,aB,lB⟩
    ·rintro _ xF cF ⟨lE, hfr, mB, l8, nB⟩ h
     refine Zr ?_;obtain ⟨n8,vC,h⟩:=Z1 h;obtain ⟨y40,bD,h⟩:=Z1 h;refine Y6 (g:=lE) (w:=cF) (n:=8) [0,1,2,3,4,5,6] [] [0,1,2,3,4,5,6,7] rfl mixed (by kernel_rfl) fun w_c38 hs hlt=>?_;have hfr:=hfr.ext hs;have l8:=l8.ext hs;clear hs;refine T7 (c:=Iz (o0)) rfl rfl .plain (Zk nB) (T7 (c:=t5) rfl rfl .plain (Zk mB) (T7 (c:=Iz (o0)) rfl rfl .plain (Zk nB) (T7 (c:=(Kk t5 (Int.toNat o0) (Int.toNat ((l5).length:Int)) 1)) rfl rfl .plain (O0 (α:=Int) underlying25 sizeOf3 rfl (OM.hdr l8) rfl rfl vC) (T7 (c:=t5) rfl rfl .plain (Zk mB) (T7 (c:=Iz (o0)) rfl rfl .plain (Zk nB) (T7 (c:=(Kk t5 0 (Int.toNat o0) 1)) rfl rfl .plain (O0 (α:=Int) underlying25 sizeOf3 rfl (OM.hdr l8) rfl rfl bD) (Uk rfl rfl .plain (Nz (g:=lE) (α:=Int) underlying25 Kr rfl l8 rfl vC bD fun dF jG hs b41=>?_))))))));have hfr:=hfr.stp hs;have hlt:=hlt.stp hs;refine ⟨hlt.toW,?_⟩;refine V6 ?_;clear hlt;refine Zx (Iz ((w64 (o0 + ((min (y40).length (n8).length:Nat):Int))))) (Gk rfl rfl rfl) rfl (Zx (Iz ((w64 (o0 + ((min (y40).length (n8).length:Nat):Int))))) (Te rfl) rfl ?_);exact Zb (Tj (Zd (rE ((cpy l5 o0 n8 y40),(w64 (o0 + ((min (y40).length (n8).length:Nat):Int)))) _ _ ⟨dF,hfr,mB,b41,rfl⟩ h)))
   ·clear hx
    obtain ⟨kG,hfr,zD,aE⟩:=hR;refine Z5 (Zo zD rfl ?_);obtain ⟨gp43,hs,rp43⟩:=OM.pub aE;have hfr:=hfr.stp hs;refine Zg t5 rfl rfl (Z3 (Ga ?_));obtain rfl:=sinj h;exact Tg rfl rfl (rq t5) ⟨_,hfr,rp43⟩
def f62 (x0:Int) (x1:Int) (x2:List Int):Option (Bool):=
 (f99 x2 ((fun a0=>f100 a0 x0 x1))).bind fun y4=>
 some ((!y4))
theorem en62:Enters prog 62:=enters_of func62 (by kernel_rfl) rfl
theorem wk62 {gI:Gh} {wI:World} {x0:Int} {x1:Int} {x2:List Int} {up2:Value} (rp2:RV gI.m wI x2 up2) {r:Bool} (h:f62 x0 x1 x2=some r):Fn prog 62 #[Iz (x0),Iz (x1),up2] gI wI (fun _ _ v=>v=.bool (r)):=by
 unfold f62 at h;refine fnE func62 rfl rfl fun g0 hm hfr=>?_;have rp2:=RVc hm rp2;show E _ 11 none _ _ _ _ _;refine Z5 (Z4 rfl (Tv (g:=g0) rfl (Zj.2 rfl) fun g1 w1 p1 hs q1=>?_));have hfr:=hfr.ext hs;have rp2:=rp2.ext hs;refine Z4 rfl (Tv (g:=g1) rfl (Zj.2 rfl) fun g2 w2 p2 hs q2=>?_);have hfr:=hfr.ext hs;have rp2:=rp2.ext hs;have q1:=q1.ext hs;refine Zg (.bool false) rfl rfl (Z3 (Z5 (Zn up2 rfl rfl (Zx ((.func (.func 100) #[] #[p1,p2])) (W9 (Yr (show ev _ _=p1 from rfl) (show ev _ _=p2 from rfl))) rfl ?_))));obtain ⟨y4,o0,h⟩:=Z1 h;refine Z4 rfl (Zp (g:=g2) (vs:=[up2,(.func (.func 100) #[] #[p1,p2])]) en99 (.cons rfl (.cons rfl .nil)) (wk99 rp2 ⟨100,#[],#[p1,p2],rfl,en100,fun g' w' hch a0 b0 r hu0 hr=>by obtain rfl:=Zj.1 hu0; exact Fn.mono (wk100  (q1.ch hch) (q2.ch hch) hr) fun _ _ _ h=>Q1.2 h⟩ o0) fun g3 w3_ v3 hs hr=>?_);have hfr:=hfr.ext hs;subst hr;refine Zx (.bool (!y4)) (Qm rfl) rfl (Zg (.bool (!y4)) rfl rfl (Z3 (Ga ?_)));obtain rfl:=sinj h;exact Tg rfl rfl (rq (.bool (!y4))) ⟨_,hfr,rfl⟩
def f67 (x0:Gy) (x1:Int):Option (Int):=
 (f104 (((x0).PayList).Rates) x1 ((fun a0 a1=>f105 a0 a1))).bind fun y6=>
 Option.bind (α:=Int) (
  bif (!y6.2) then
   some ((w64 (y6.1 - (1:Int))))
  else
   some (y6.1)
  ) fun o0=>
 (idx (((x0).PayList).Rates) o0).bind fun l5=>
 some ((l5).Rate)
theorem en67:Enters prog 67:=enters_of func67 (by kernel_rfl) rfl
theorem wk67 {gI:Gh} {wI:World} {x0:Gy} {x1:Int} {up0:Value} (rp0:RV gI.m wI x0 up0) {r:Int} (h:f67 x0 x1=some r):Fn prog 67 #[up0,Iz (x1)] gI wI (fun _ _ v=>v=Iz (r)):=by
 unfold f67 at h;refine fnE func67 rfl rfl fun g0 hm hfr=>?_;have rp0:=RVc hm rp0;show E _ 26 none _ _ _ _ _;refine Z5 (Z4 rfl (Tv (g:=g0) rfl rp0 fun g1 w1 p1 hs q1=>?_));have hfr:=hfr.ext hs;refine Zg (Iz (0)) rfl rfl (Z3 (Z5 (Zx (Z8 p1 0) (Zc Jh rfl (PT.ptr q1)) rfl ?_)));have q2:=Zm (Qs).1 q1;refine Zx (Z8 (Z8 p1 0) 0) (Zc Y7 rfl (PT.ptr q2)) rfl ?_;have q3:=Zm (Wx).1 q2;refine Z4 rfl (Z6 (g:=g1) isAgg35 sizeOf35 rfl q3 fun v4 r4=>(Zn (Iz (x1)) rfl rfl ?_));obtain ⟨y6,aB,h⟩:=Z1 h;refine Z4 rfl (Zp (g:=g1) (vs:=[v4,Iz (x1),.func (.func 105) #[] #[]]) en104 (.cons rfl (.cons rfl (.cons rfl .nil))) (wk104 r4 ⟨105,#[],#[],rfl,en105,fun g' w' hch a0 a1 b0 b1 r hu0 hu1 hr=>by obtain rfl:=Zj.1 hu1; exact Fn.mono (wk105 hu0  hr) fun _ _ _ h=>Zj.2 h⟩ aB) fun g5 w5_ v5 hs hr=>?_);have hfr:=hfr.ext hs;have q1:=q1.ext hs;obtain ⟨oB,vB,rfl,rfl,rfl⟩:=hr;refine Zn (.tuple #[Iz (y6.1),.bool (y6.2)]) rfl rfl (Zx (Iz (y6.1)) (Zi rfl rfl) rfl (Zx (.bool (y6.2)) (Zi rfl rfl) rfl (Zg (Iz (y6.1)) rfl rfl (Zg (.bool (y6.2)) rfl rfl (Z3 ?_)))));obtain ⟨o0,hx,h⟩:=Z1 h;refine Gl (fun e w=>∃ (g:Gh) ,Fr gI wI g w∧e 2=p1∧PT g.m w (x0:Gy) p1∧e 5=Iz (o0)) (fun Q' hQ=>?_) (fun yB w9 hR=>?_)
 ·replace h := hx
  clear hx;refine Z5 (Zn (.bool (y6.2)) rfl rfl (Zx (.bool (!y6.2)) (Qm rfl) rfl (Z3 ?_)));rcases Zt h with ⟨hc8,h⟩ | ⟨hc8,h⟩
  ·refine G6 hc8 rfl (Za (Zn (Iz (y6.1)) rfl rfl (Z9 (Iz ((w64 (y6.1 - (1 : Int))))) rfl rfl rfl rfl (Zg (Iz ((w64 (y6.1 - (1 : Int))))) rfl rfl (Zb ?_)))))
   obtain rfl:=sinj h;exact hQ _ _ ⟨g5,hfr,rfl,q1,rfl⟩
  ·refine G7 hc8 rfl (Zu ?_)
   obtain rfl:=sinj h;exact hQ _ _ ⟨g5,hfr,rfl,q1,rfl⟩
 ·clear hx
  obtain ⟨g9,hfr,l9,t5,n9⟩:=hR;refine Z5 (Zx (Z8 p1 0) (Zc Jh l9 (PT.ptr t5)) rfl ?_);have g8:=Zm (Qs).1 t5;refine Zx (Z8 (Z8 p1 0) 0) (Zc Y7 rfl (PT.ptr g8)) rfl ?_;have lB:=Zm (Wx).1 g8;refine Z4 rfl (Z6 (g:=g9) isAgg35 sizeOf35 rfl lB fun l8 n8=>(Zo n9 rfl ?_));obtain ⟨l5,i6,h⟩:=Z1 h;refine Zx (Tb l8 o0 2) (Zh (α:=Gq) underlying35 sizeOf74 rfl n8 rfl i6) rfl ?_;have v8:=Gx n8 i6;refine Zx (Z8 (Tb l8 o0 2) 1) (Zc Mo rfl (PT.ptr v8)) rfl ?_;have mB:=Zm (Uu).1 v8;refine Z4 rfl (Z6 (g:=g9) isAgg3 sizeOf3 rfl mB fun zB nB=>?_);obtain rfl:=Zj.1 nB;refine Zg (Iz ((l5).Rate)) rfl rfl (Z3 (Ga ?_));obtain rfl:=sinj h;exact Tg rfl rfl (rq (Iz ((l5).Rate))) ⟨_,hfr,rfl⟩
def f68 (x0:List Int) (x1:Int→Int→Option Int):Option ((List Int)):=
 (f106 x0 (((x0).length:Int)) x1).bind fun y2=>
 some (y2)
theorem en68:Enters prog 68:=enters_of func68 (by kernel_rfl) rfl
theorem wk68 {iI:Nat} {gI:Gh} {wI:World} {x0:List Int} {x1:Int→Int→Option Int} {up0:Value} (mp0:OM iI gI wI 3 x0 up0) {up1:Value} (rp1:Xa prog x1 up1 gI wI) {r:(List Int)} (h:f68 x0 x1=some r):FnM prog 68 #[up0,up1] iI gI wI (fun g w v=>v=.tuple #[]∧OM iI g w 3 r up0):=by
 unfold f68 at h;refine J0 func68 rfl (Nat.le_of_ble_eq_true rfl) fun g0 hm hfr=>?_;have o0:=mp0;replace mp0:=mp0.enter;rw [← hm] at mp0
 replace hm:g0.m=gI.m:=by rw [hm]
 obtain ⟨ff1,fa1,fc1,rfl,fen1,fcl1⟩:=rp1;show E _ 9 none _ _ _ _ _;refine Za (Zn up0 rfl rfl (Zn up0 rfl rfl (Zx (Iz ((x0).length:Int)) (F3 underlying25 rfl mp0) rfl (Zn ((.func (.func ff1) fa1 fc1)) rfl rfl ?_))));obtain ⟨y2,hy2,h⟩:=Z1 h;refine Z4 rfl (Jv (g:=g0) (i:=1) (vs:=[up0,Iz ((x0).length:Int),(.func (.func ff1) fa1 fc1)]) en106 (.cons rfl (.cons rfl (.cons rfl .nil))) (wk106 mp0 (Xa.ch ⟨_,_,_,rfl,fen1,fcl1⟩ hfr.ch) hy2) fun g1 w1_ v1 hs hr=>?_);obtain ⟨hrv,b1⟩:=hr;have hfr:=hfr.stp hs;subst hrv;refine Zb ?_;obtain rfl:=sinj h;exact Y3 rfl rfl ⟨_,hfr,rfl,o0.back b1⟩
def f73 (x0:List Int):Option (Bool):=
 (f62 ((0:Int)) ((1000000000:Int)) x0).bind fun y2=>
 some (y2)
theorem en73:Enters prog 73:=enters_of func73 (by kernel_rfl) rfl
theorem wk73 {gI:Gh} {wI:World} {x0:List Int} {up0:Value} (rp0:RV gI.m wI x0 up0) {r:Bool} (h:f73 x0=some r):Fn prog 73 #[up0] gI wI (fun _ _ v=>v=.bool (r)):=by
 unfold f73 at h;refine fnE func73 rfl rfl fun g0 hm hfr=>?_;have rp0:=RVc hm rp0;show E _ 5 none _ _ _ _ _;refine Z5 (Zg (.bool false) rfl rfl (Z3 (Z5 (Zn up0 rfl rfl ?_))));obtain ⟨y2,hy2,h⟩:=Z1 h;refine Z4 rfl (Zp (g:=g0) (vs:=[Iz (0),Iz (1000000000),up0]) en62 (.cons rfl (.cons rfl (.cons rfl .nil))) (wk62 rp0 hy2) fun g1 w1_ v1 hs hr=>?_);have hfr:=hfr.ext hs;subst hr;refine Zg (.bool (y2)) rfl rfl (Z3 (Ga ?_));obtain rfl:=sinj h;exact Tg rfl rfl (rq (.bool (y2))) ⟨_,hfr,rfl⟩
def f78 (x0:Int) (x1:Int) (x2:List Int):Option (Bool):=
 (f99 x2 ((fun a0=>f115 a0 x0 x1))).bind fun y4=>
 some ((!y4))
theorem en78:Enters prog 78:=enters_of func78 (by kernel_rfl) rfl
theorem wk78 {gI:Gh} {wI:World} {x0:Int} {x1:Int} {x2:List Int} {up2:Value} (rp2:RV gI.m wI x2 up2) {r:Bool} (h:f78 x0 x1 x2=some r):Fn prog 78 #[Iz (x0),Iz (x1),up2] gI wI (fun _ _ v=>v=.bool (r)):=by
 unfold f78 at h;refine fnE func78 rfl rfl fun g0 hm hfr=>?_;have rp2:=RVc hm rp2;show E _ 11 none _ _ _ _ _;refine Z5 (Z4 rfl (Tv (g:=g0) rfl (Zj.2 rfl) fun g1 w1 p1 hs q1=>?_));have hfr:=hfr.ext hs;have rp2:=rp2.ext hs;refine Z4 rfl (Tv (g:=g1) rfl (Zj.2 rfl) fun g2 w2 p2 hs q2=>?_);have hfr:=hfr.ext hs;have rp2:=rp2.ext hs;have q1:=q1.ext hs;refine Zg (.bool false) rfl rfl (Z3 (Z5 (Zn up2 rfl rfl (Zx ((.func (.func 115) #[] #[p1,p2])) (W9 (Yr (show ev _ _=p1 from rfl) (show ev _ _=p2 from rfl))) rfl ?_))));obtain ⟨y4,o0,h⟩:=Z1 h;refine Z4 rfl (Zp (g:=g2) (vs:=[up2,(.func (.func 115) #[] #[p1,p2])]) en99 (.cons rfl (.cons rfl .nil)) (wk99 rp2 ⟨115,#[],#[p1,p2],rfl,en115,fun g' w' hch a0 b0 r hu0 hr=>by obtain rfl:=Zj.1 hu0; exact Fn.mono (wk115  (q1.ch hch) (q2.ch hch) hr) fun _ _ _ h=>Q1.2 h⟩ o0) fun g3 w3_ v3 hs hr=>?_);have hfr:=hfr.ext hs;subst hr;refine Zx (.bool (!y4)) (Qm rfl) rfl (Zg (.bool (!y4)) rfl rfl (Z3 (Ga ?_)));obtain rfl:=sinj h;exact Tg rfl rfl (rq (.bool (!y4))) ⟨_,hfr,rfl⟩
def f83 (x0:Int) (x1:Int) (x2:List Int):Option (Bool):=
 (f99 x2 ((fun a0=>f126 a0 x0 x1))).bind fun y4=>
 some ((!y4))
theorem en83:Enters prog 83:=enters_of func83 (by kernel_rfl) rfl
theorem wk83 {gI:Gh} {wI:World} {x0:Int} {x1:Int} {x2:List Int} {up2:Value} (rp2:RV gI.m wI x2 up2) {r:Bool} (h:f83 x0 x1 x2=some r):Fn prog 83 #[Iz (x0),Iz (x1),up2] gI wI (fun _ _ v=>v=.bool (r)):=by
 unfold f83 at h;refine fnE func83 rfl rfl fun g0 hm hfr=>?_;have rp2:=RVc hm rp2;show E _ 11 none _ _ _ _ _;refine Z5 (Z4 rfl (Tv (g:=g0) rfl (Zj.2 rfl) fun g1 w1 p1 hs q1=>?_));have hfr:=hfr.ext hs;have rp2:=rp2.ext hs;refine Z4 rfl (Tv (g:=g1) rfl (Zj.2 rfl) fun g2 w2 p2 hs q2=>?_);have hfr:=hfr.ext hs;have rp2:=rp2.ext hs;have q1:=q1.ext hs;refine Zg (.bool false) rfl rfl (Z3 (Z5 (Zn up2 rfl rfl (Zx ((.func (.func 126) #[] #[p1,p2])) (W9 (Yr (show ev _ _=p1 from rfl) (show ev _ _=p2 from rfl))) rfl ?_))));obtain ⟨y4,o0,h⟩:=Z1 h;refine Z4 rfl (Zp (g:=g2) (vs:=[up2,(.func (.func 126) #[] #[p1,p2])]) en99 (.cons rfl (.cons rfl .nil)) (wk99 rp2 ⟨126,#[],#[p1,p2],rfl,en126,fun g' w' hch a0 b0 r hu0 hr=>by obtain rfl:=Zj.1 hu0; exact Fn.mono (wk126  (q1.ch hch) (q2.ch hch) hr) fun _ _ _ h=>Q1.2 h⟩ o0) fun g3 w3_ v3 hs hr=>?_);have hfr:=hfr.ext hs;subst hr;refine Zx (.bool (!y4)) (Qm rfl) rfl (Zg (.bool (!y4)) rfl rfl (Z3 (Ga ?_)));obtain rfl:=sinj h;exact Tg rfl rfl (rq (.bool (!y4))) ⟨_,hfr,rfl⟩
def f88 (x0:List Str):Option (Bool):=
 jn (σ:=Unit) (fun _=>
  some (true)
  ) fun k53=>
 lp (σ:=Int) (fun k54 o0=>
  jn (σ:=Unit) (fun _=>
   jn (σ:=Unit) (fun _=>
    k54 ((w64 (o0 - (1:Int))))
    ) fun yB=>
   (idx x0 o0).bind fun y84=>
   (idx x0 (w64 (o0 - (1:Int)))).bind fun n8=>
   (f132 y84 n8).bind fun v8=>
   bif v8 then
    some (false)
   else
    yB ()
   ) fun k57=>
  bif (decide (o0 > (0 : Int))) then
   k57 ()
  else
   k53 ()
  ) big ((w64 (((x0).length:Int) - (1:Int))))
theorem en88:Enters prog 88:=enters_of func88 (by kernel_rfl) rfl
theorem wk88 {gI:Gh} {wI:World} {x0:List Str} {up0:Value} (rp0:RV gI.m wI x0 up0) {r:Bool} (h:f88 x0=some r):Fn prog 88 #[up0] gI wI (fun _ _ v=>v=.bool (r)):=by
 unfold f88 at h;refine fnE func88 rfl rfl fun g0 hm hfr=>?_;have rp0:=RVc hm rp0;show E _ 21 none _ _ _ _ _;refine Z5 (Zg (.bool false) rfl rfl (Z3 (Zq h (fun (s:Unit) e w=>∃ (g:Gh) ,Fr gI wI g w) (fun X53 k53 cC h=>?_) ?_)))
 ·refine Z5 (Zn up0 rfl rfl (Zx (Iz ((x0).length : Int)) (Gz underlying66 rfl rp0) rfl (Z9 (Iz ((w64 (((x0).length : Int) - (1 : Int))))) rfl rfl rfl rfl (Zg (Iz ((w64 (((x0).length : Int) - (1 : Int))))) rfl rfl (Z3 (Zr (Q0 h (fun (s : Int) e w => ∃ (g : Gh) , Fr gI wI g w ∧ e 0 = up0 ∧ RV g.m w (x0 : List Str) up0 ∧ e 3 = Iz (s)) ⟨g0, hfr, rfl, rp0, rfl⟩ (fun X54 k54 uC => ?_))))))))
  rintro o0 rE zE ⟨zB,hfr,oB,vB,l9⟩ h;refine Zq h (fun (s:Unit) e w=>∃ (g:Gh) ,Fr gI wI g w∧e 0=up0∧RV g.m w (x0:List Str) up0∧e 3=Iz (o0)) (fun X57 k57 vC h=>?_) ?_
  ·refine Z5 (Zo l9 rfl (Z9 (.bool ((decide (o0 > (0 : Int))))) rfl rfl rfl rfl (Z3 ?_)))
   rcases Zt h with ⟨l8,h⟩ | ⟨l8,h⟩
   ·refine G6 l8 rfl ?_
    exact Zu (Zd (vC () _ _ ⟨zB,hfr,oB,vB,l9⟩ h))
   ·refine G7 l8 rfl (Tn (Gu (Gu (G8 ?_))))
    exact Zd (cC () _ _ ⟨zB,hfr⟩ h)
  ·rintro _ uE cF ⟨yD, hfr, t5, l5, i6⟩ h
   refine Zq h (fun (s:Unit) e w=>∃ (g:Gh) ,Fr gI wI g w∧e 0=up0∧RV g.m w (x0:List Str) up0∧e 3=Iz (o0)) (fun X83 yB bD h=>?_) ?_
   ·refine Zr (Zf ?_)
    obtain ⟨y84,n9,h⟩:=Z1 h;have zD:=Gx l5 n9;refine Zs (x:=.tmp 13) isAgg9 sizeOf9 zD fun dF aE cD=>?_;obtain rfl:=Kv.1 aE;obtain ⟨n8,aB,h⟩:=Z1 h;have bE:=Gx l5 aB;refine Zs (x:=.tmp 18) isAgg9 sizeOf9 bE fun eF iE lD=>?_;obtain rfl:=Kv.1 iE;obtain ⟨v8,nD,h⟩:=Z1 h;refine To (g:=yD) (n:=10) [(9,(fun v g w=>v=.bool (v8)))] [0,1,2,3,4,5,6,7,8,9] rfl mixed (by kernel_rfl) (⟨fun _=>Wk _,trivial⟩) (Z0 up0 rfl rfl (Zk t5) (Z0 (Iz (o0)) rfl rfl (Zk i6) (Z0 (Tb up0 o0 1) rfl rfl (Zh (α:=Str) underlying66 sizeOf9 rfl l5 rfl n9) (Tm (c:=Str.v (y84)) rfl rfl .plain (fun _ _ h=>h.ch) cD rfl (Z0 up0 rfl rfl (Zk t5) (Z0 (Iz (o0)) rfl rfl (Zk i6) (Z0 (Iz ((w64 (o0 - (1:Int))))) rfl rfl (Gk rfl rfl rfl) (Z0 (Tb up0 (w64 (o0 - (1:Int))) 1) rfl rfl (Zh (α:=Str) underlying66 sizeOf9 rfl l5 rfl aB) (Tm (c:=Str.v (n8)) rfl rfl .plain (fun _ _ h=>h.ch) lD rfl (W7 (φ:=fun v g w=>v=.bool (v8)) rfl rfl .plain (fun g w hd=>Zp (g:=g) (vs:=[Str.v (y84),Str.v (n8)]) en132 (.cons rfl (.cons rfl .nil)) (wk132  nD) fun g' w' v hs hr=>⟨g',hs,hr⟩) (fun rF hv=>?_)))))))))));obtain ⟨_,_,_,rfl⟩:=hv;refine Ka fun lE sF hs=>?_;have hfr:=hfr.ext hs;have l5:=l5.ext hs;clear hs;refine Z3 ?_;rcases Zt h with ⟨g8,h⟩ | ⟨g8,h⟩
    ·refine G6 g8 rfl (Z5 (Zg (.bool false) rfl rfl (Z3 (Ga (Tl (Gp (Gp (Tl (Gp ?_)))))))))
     obtain rfl:=sinj h;exact Tg rfl rfl (rq (.bool false)) ⟨_,hfr,rfl⟩
    ·refine G7 g8 rfl ?_
     exact Zu (Tj (Zd (bD () _ _ ⟨lE,hfr,t5,l5,i6⟩ h)))
   ·rintro _ mE vE ⟨oD, hfr, lB, mB, nB⟩ h
    refine Za (Zo nB rfl (Z9 (Iz ((w64 (o0 - (1:Int))))) rfl rfl rfl rfl (Zg (Iz ((w64 (o0 - (1:Int))))) rfl rfl ?_)));exact Z3 (uC ((w64 (o0 - (1:Int)))) _ _ ⟨oD,hfr,lB,mB,rfl⟩ h)
 ·rintro _ oE xE ⟨yE, hfr⟩ h
  refine Z5 (Zg (.bool true) rfl rfl (Z3 (Ga ?_)));obtain rfl:=sinj h;exact Tg rfl rfl (rq (.bool true)) ⟨_,hfr,rfl⟩
def f93 (x0:Int) (x1:Int) (x2:List Int):Option (Bool):=
 (f99 x2 ((fun a0=>f133 a0 x0 x1))).bind fun y4=>
 some ((!y4))
theorem en93:Enters prog 93:=enters_of func93 (by kernel_rfl) rfl
theorem wk93 {gI:Gh} {wI:World} {x0:Int} {x1:Int} {x2:List Int} {up2:Value} (rp2:RV gI.m wI x2 up2) {r:Bool} (h:f93 x0 x1 x2=some r):Fn prog 93 #[Iz (x0),Iz (x1),up2] gI wI (fun _ _ v=>v=.bool (r)):=by
 unfold f93 at h;refine fnE func93 rfl rfl fun g0 hm hfr=>?_;have rp2:=RVc hm rp2;show E _ 11 none _ _ _ _ _;refine Z5 (Z4 rfl (Tv (g:=g0) rfl (Zj.2 rfl) fun g1 w1 p1 hs q1=>?_));have hfr:=hfr.ext hs;have rp2:=rp2.ext hs;refine Z4 rfl (Tv (g:=g1) rfl (Zj.2 rfl) fun g2 w2 p2 hs q2=>?_);have hfr:=hfr.ext hs;have rp2:=rp2.ext hs;have q1:=q1.ext hs;refine Zg (.bool false) rfl rfl (Z3 (Z5 (Zn up2 rfl rfl (Zx ((.func (.func 133) #[] #[p1,p2])) (W9 (Yr (show ev _ _=p1 from rfl) (show ev _ _=p2 from rfl))) rfl ?_))));obtain ⟨y4,o0,h⟩:=Z1 h;refine Z4 rfl (Zp (g:=g2) (vs:=[up2,(.func (.func 133) #[] #[p1,p2])]) en99 (.cons rfl (.cons rfl .nil)) (wk99 rp2 ⟨133,#[],#[p1,p2],rfl,en133,fun g' w' hch a0 b0 r hu0 hr=>by obtain rfl:=Zj.1 hu0; exact Fn.mono (wk133  (q1.ch hch) (q2.ch hch) hr) fun _ _ _ h=>Q1.2 h⟩ o0) fun g3 w3_ v3 hs hr=>?_);have hfr:=hfr.ext hs;subst hr;refine Zx (.bool (!y4)) (Qm rfl) rfl (Zg (.bool (!y4)) rfl rfl (Z3 (Ga ?_)));obtain rfl:=sinj h;exact Tg rfl rfl (rq (.bool (!y4))) ⟨_,hfr,rfl⟩
def f97 (x0:Design):Option (Int):=
 jn (σ:=Unit) (fun _=>
  some ((0:Int))
  ) fun n8=>
 (f137 ((1:Int)) ((24:Int)) (([(x0).Hooks]:List Int))).bind fun y56=>
 bif (!y56) then
  some ((2:Int))
 else
  bif (decide ((((x0).Rows).length : Int) > (60 : Int))) then
   some ((5:Int))
  else
   bif ((((x0).Rows).length : Int) == (0 : Int)) then
    some ((7:Int))
   else
    (Va (1:Int) (x0).Hooks).bind fun l5=>
    (f137 ((0:Int)) ((w64 (l5 - (1:Int)))) ((x0).Rows)).bind fun y71=>
    bif (!y71) then
     some ((2:Int))
    else
     n8 ()
theorem en97:Enters prog 97:=enters_of func97 (by kernel_rfl) rfl
theorem wk97 {gI:Gh} {wI:World} {x0:Design} {up0:Value} (rp0:RV gI.m wI x0 up0) {r:Int} (h:f97 x0=some r):Fn prog 97 #[up0] gI wI (fun _ _ v=>v=Iz (r)):=by
 unfold f97 at h;refine fnE func97 rfl rfl fun g0 hm hfr=>?_;have rp0:=RVc hm rp0;show E _ 28 none _ _ _ _ _;refine Z5 (Z4 rfl (Tv (g:=g0) rfl rp0 fun g1 w1 p1 hs q1=>?_));have hfr:=hfr.ext hs;refine Zg (Iz (0)) rfl rfl (Z3 (Zq h (fun (s:Unit) e w=>∃ (g:Gh) ,Fr gI wI g w) (fun X51 n8 l9 h=>?_) ?_))
 ·refine Zr (Z5 (Zx (Z8 p1 0) (Zc Yi rfl (PT.ptr q1)) rfl ?_))
  have oB:=Zm (Wr).1 q1;refine Z4 rfl (Z6 (g:=g1) isAgg3 sizeOf3 rfl oB fun mE vB=>?_);obtain rfl:=Zj.1 vB;refine Z4 rfl (Z7 (g:=g1) 3006 (xs:=([(x0).Hooks]:List Int)) (vs:=[Iz ((x0).Hooks)]) underlying25 sizeOf3 zeroValue3 rfl rfl (.cons rfl .nil) (RVs.cons (Zj.2 rfl) RVs.nil) rfl rfl fun yB oE zB hs o54 cC hxt hfl=>?_);have hfr:=hfr.stp hs;have q1:=q1.stp hs;obtain ⟨y56,n9,h⟩:=Z1 h;refine Z4 rfl (Zp (g:=yB) (vs:=[Iz (1),Iz (24),zB]) en137 (.cons rfl (.cons rfl (.cons rfl .nil))) (wk137 cC n9) fun l8 bE rE hs hr=>?_);have hfr:=hfr.ext hs;have q1:=q1.ext hs;subst hr;refine Zx (.bool (!y56)) (Qm rfl) rfl (Zg (.bool (!y56)) rfl rfl (Z3 ?_));rcases Zt h with ⟨t5,h⟩ | ⟨t5,h⟩
  ·refine G6 t5 rfl (Z5 (Zg (Iz (2)) rfl rfl (Z3 (Ga (Tl (Gp ?_))))))
   obtain rfl:=sinj h;exact Tg rfl rfl (rq (Iz (2))) ⟨_,hfr,rfl⟩
  ·refine G7 t5 rfl (Z5 (Zx (Z8 p1 1) (Zc Ye rfl (PT.ptr q1)) rfl ?_))
   have uC:=Zm (Wq).1 q1;refine Z4 rfl (Z6 (g:=l8) isAgg25 sizeOf25 rfl uC fun uE vC=>(Zx (Iz (((x0).Rows).length:Int)) (Gz underlying25 rfl vC) rfl (Zx (.bool ((decide ((((x0).Rows).length:Int) > (60:Int))))) (Gk rfl rfl rfl) rfl (Zx (.bool ((decide ((((x0).Rows).length:Int) > (60:Int))))) (Te rfl) rfl (Z3 ?_)))));rcases Zt h with ⟨i6,h⟩ | ⟨i6,h⟩
   ·refine G6 i6 rfl (Z5 (Zg (Iz (5)) rfl rfl (Z3 (Ga (Tl (Gp ?_))))))
    obtain rfl:=sinj h;exact Tg rfl rfl (rq (Iz (5))) ⟨_,hfr,rfl⟩
   ·refine G7 i6 rfl (Z5 (Zx (Z8 p1 1) (Zc Ye rfl (PT.ptr q1)) rfl ?_))
    have bD:=Zm (Wq).1 q1;refine Z4 rfl (Z6 (g:=l8) isAgg25 sizeOf25 rfl bD fun v62 cD=>(Zx (Iz (((x0).Rows).length:Int)) (Gz underlying25 rfl cD) rfl (Z9 (.bool (((((x0).Rows).length:Int) == (0:Int)))) rfl rfl rfl rfl (Zg (.bool (((((x0).Rows).length:Int) == (0:Int)))) rfl rfl (Z3 ?_)))));rcases Zt h with ⟨g8,h⟩ | ⟨g8,h⟩
    ·refine G6 g8 rfl (Z5 (Zg (Iz (7)) rfl rfl (Z3 (Ga (Tl (Gp ?_))))))
     obtain rfl:=sinj h;exact Tg rfl rfl (rq (Iz (7))) ⟨_,hfr,rfl⟩
    ·refine G7 g8 rfl (Zf ?_)
     have lD:=Zm (Wr).1 q1;refine Zs (x:=.tmp 20) isAgg3 sizeOf3 lD fun vE nD aB=>?_;obtain rfl:=Zj.1 nD;obtain ⟨l5,lB,h⟩:=Z1 h;have oD:=Zm (Wq).1 q1;refine Zs (x:=.tmp 24) isAgg25 sizeOf25 oD fun v8 yD mB=>?_;obtain ⟨y71,nB,h⟩:=Z1 h;refine To (g:=l8) (n:=9) [(6,(fun v g w=>v=.bool (y71)))] [0,1,2,3,4,5,6,7,8] rfl mixed (by kernel_rfl) (⟨fun _=>Wk _,trivial⟩) (Z0 (Z8 p1 0) rfl rfl (Zc Yi rfl (PT.ptr q1)) (Tm (c:=Iz ((x0).Hooks)) rfl rfl .plain (fun _ _ h=>h.ch) aB rfl (Z0 (Iz (l5)) rfl rfl (Gk rfl rfl (congrArg (Option.map (Value.int .i64)) lB)) (Z0 (Iz ((w64 (l5 - (1:Int))))) rfl rfl (Gk rfl rfl rfl) (Z0 (Z8 p1 1) rfl rfl (Zc Ye rfl (PT.ptr q1)) (Tm (c:=v8) rfl rfl .plain (fun _ _ h=>h.ch) mB rfl (W7 (φ:=fun v g w=>v=.bool (y71)) rfl rfl .plain (fun g w hd=>Zp (g:=g) (vs:=[Iz (0),Iz ((w64 (l5 - (1:Int)))),v8]) en137 (.cons rfl (.cons rfl (.cons rfl .nil))) (wk137 (yD.ext hd.1) nB) fun g' w' v hs hr=>⟨g',hs,hr⟩) (fun xE hv=>?_))))))));obtain ⟨_,_,_,rfl⟩:=hv;refine Z0 (.bool (!y71)) rfl rfl (Qm rfl) (Z0 (.bool (!y71)) rfl rfl (Te rfl) (Ka fun zD yE hs=>?_));have hfr:=hfr.ext hs;clear hs;refine Z3 ?_;rcases Zt h with ⟨o0,h⟩ | ⟨o0,h⟩
     ·refine G6 o0 rfl (Z5 (Zg (Iz (2)) rfl rfl (Z3 (Ga (Tl (Gp ?_))))))
      obtain rfl:=sinj h;exact Tg rfl rfl (rq (Iz (2))) ⟨_,hfr,rfl⟩
     ·refine G7 o0 rfl ?_
      exact Zu (Tj (Zd (l9 () _ _ ⟨zD,hfr⟩ h)))
 ·rintro _ aE iE ⟨lE, hfr⟩ h
  refine Z5 (Zg (Iz (0)) rfl rfl (Z3 (Ga ?_)));obtain rfl:=sinj h;exact Tg rfl rfl (rq (Iz (0))) ⟨_,hfr,rfl⟩
theorem v143_0 {iO:Nat} {gI:Gh} {wI:World} {x0:List Int} {up0:Value} (rp0:RV gI.m wI x0 up0) {r:List Int} (h:f143 x0=some r):FnG prog 143 #[up0] gI wI (fun g w v=>OM iO g w 3 r v):=by
 unfold f143 at h;refine Rb func143 rfl (Nat.le_of_ble_eq_true rfl) fun g0 hm hfr=>?_;have rp0:=RVc hm rp0;show E _ 8 none _ _ _ _ _;refine Z5 (Zg (.slice none 0 0) rfl rfl (Z3 (Zf (Z5 (Zn up0 rfl rfl ?_)))));obtain ⟨a,c,hv,hc,hrow⟩:=Ql rp0;refine Zx (.bool a.isNone) (Mn underlying25 (show ev _ _=_ from hv)) rfl (Z3 ?_)
 cases a with
 | none=>
  have hx:x0=[]:=by
   cases x0 with
   | nil=>rfl
   | cons y ys=>obtain ⟨b,off,hb,_⟩:=hrow (by simp); cases hb
  subst hx
  have hr:r=[]:=by unfold apnd at h; split at h <;> simp at h; exact h
  subst hr;refine Ta rfl (Z5 (Zg (.slice none 0 0) rfl rfl (Z3 ?_)));obtain ⟨gh,hxh,homh⟩:=OM.handn (i:=iO) (t:=3) (α:=Int) hfr; exact Ga (Gp (Tg rfl rfl (rq (.slice none 0 0)) ⟨gh,hxh,homh⟩))
 | some a=>
  refine Gs rfl (Zu (Zd (Z5 (Z4 rfl (Z7 (g:=g0) 1 (xs:=([]:List Int)) (vs:=[]) underlying25 sizeOf3 zeroValue3 rfl rfl .nil RVs.nil rfl rfl fun g1 w1 v1 hs o1 r1 hxt hfl=>?_)))));have hfr:=hfr.stp hs;have rp0:=rp0.stp hs;refine Zn up0 rfl rfl (Z4 rfl (T5 (g:=g1) (i:=1) underlying25 Kr rfl rfl o1 r1 rfl rp0 h fun g2 w2 v2 hs o2 r2 _=>?_));have hfr:=hfr.stp hs;refine Zg v2 rfl rfl (Z3 ?_);obtain ⟨gh,hxh,homh⟩:=OM.hand (i:=iO) H5 hfr o2 r2; exact Ga (Tg rfl rfl (rq v2) ⟨gh,hxh,homh⟩)
def f127 (x0:Int):Option (Bool):=
 (f93 ((1:Int)) ((24:Int)) (([x0]:List Int))).bind fun y3=>
 some (y3)
theorem en127:Enters prog 127:=enters_of func127 (by kernel_rfl) rfl
theorem wk127 {gI:Gh} {wI:World} {x0:Int}  {r:Bool} (h:f127 x0=some r):Fn prog 127 #[Iz (x0)] gI wI (fun _ _ v=>v=.bool (r)):=by
 unfold f127 at h;refine fnE func127 rfl rfl fun g0 hm hfr=>?_;show E _ 6 none _ _ _ _ _;refine Z5 (Zg (.bool false) rfl rfl (Z3 (Z5 (Zn (Iz (x0)) rfl rfl (Z4 rfl (Z7 (g:=g0) 3004 (xs:=([x0]:List Int)) (vs:=[Iz (x0)]) underlying25 sizeOf3 zeroValue3 rfl rfl (.cons rfl .nil) (RVs.cons (Zj.2 rfl) RVs.nil) rfl rfl fun g1 w1 v1 hs o1 r1 hxt hfl=>?_))))));have hfr:=hfr.stp hs;obtain ⟨y3,hy3,h⟩:=Z1 h;refine Z4 rfl (Zp (g:=g1) (vs:=[Iz (1),Iz (24),v1]) en93 (.cons rfl (.cons rfl (.cons rfl .nil))) (wk93 r1 hy3) fun g2 w2_ v2 hs hr=>?_);have hfr:=hfr.ext hs;subst hr;refine Zg (.bool (y3)) rfl rfl (Z3 (Ga ?_));obtain rfl:=sinj h;exact Tg rfl rfl (rq (.bool (y3))) ⟨_,hfr,rfl⟩
def f130 (x0:Str) (x1:I32→Option Bool):Option (Bool):=
 (f169 x0 x1).bind fun y2=>
 some ((decide (y2 ≥ (0:Int))))
theorem en130:Enters prog 130:=enters_of func130 (by kernel_rfl) rfl
theorem wk130 {gI:Gh} {wI:World} {x0:Str} {x1:I32→Option Bool} {up1:Value} (rp1:Hz prog x1 up1 gI wI) {r:Bool} (h:f130 x0 x1=some r):Fn prog 130 #[Str.v (x0),up1] gI wI (fun _ _ v=>v=.bool (r)):=by
 unfold f130 at h;refine fnE func130 rfl rfl fun g0 hm hfr=>?_;obtain ⟨ff1,fa1,fc1,rfl,fen1,fcl1⟩:=rp1;show E _ 9 none _ _ _ _ _;refine Z5 (Zg (.bool false) rfl rfl (Z3 (Z5 (Zn (Str.v (x0)) rfl rfl (Zn ((.func (.func ff1) fa1 fc1)) rfl rfl ?_)))));obtain ⟨y2,hy2,h⟩:=Z1 h;refine Z4 rfl (Zp (g:=g0) (vs:=[Str.v (x0),(.func (.func ff1) fa1 fc1)]) en169 (.cons rfl (.cons rfl .nil)) (wk169 (Hz.ch ⟨_,_,_,rfl,fen1,fcl1⟩ hfr.ch) hy2) fun g1 w1_ v1 hs hr=>?_);have hfr:=hfr.ext hs;subst hr;refine Z9 (.bool ((decide (y2 ≥ (0:Int))))) rfl rfl rfl rfl (Zg (.bool ((decide (y2 ≥ (0:Int))))) rfl rfl (Z3 (Ga ?_)));obtain rfl:=sinj h;exact Tg rfl rfl (rq (.bool ((decide (y2 ≥ (0:Int)))))) ⟨_,hfr,rfl⟩
def f134 (x0:Int) (x1:Int):Option (Int):=
 (f171 ((⟨(T3 x1)⟩:U64))).bind fun y2=>
 (Ws ((y2).n) (T3 (((64:Int)) - ((T3 x0))))).bind fun y3=>
 some ((w64 y3))
theorem en134:Enters prog 134:=enters_of func134 (by kernel_rfl) rfl
theorem wk134 {gI:Gh} {wI:World} {x0:Int} {x1:Int}  {r:Int} (h:f134 x0 x1=some r):Fn prog 134 #[Iz (x0),Iz (x1)] gI wI (fun _ _ v=>v=Iz (r)):=by
 unfold f134 at h;refine fnE func134 rfl rfl fun g0 hm hfr=>?_;show E _ 13 none _ _ _ _ _;refine Z5 (Zg (Iz (0)) rfl rfl (Z3 (Z5 (Zn (Iz (x1)) rfl rfl (Zx (.int .u64 (T3 x1)) (Jj underlying3 underlying234 rfl) rfl ?_)))));obtain ⟨y2,hy2,h⟩:=Z1 h;refine Z4 rfl (Zp (g:=g0) (vs:=[.int .u64 (T3 x1)]) en171 (.cons rfl .nil) (wk171  hy2) fun g1 w1_ v1 hs hr=>?_);have hfr:=hfr.ext hs;subst hr;refine Zn (Iz (x0)) rfl rfl (Zx (.int .u64 (T3 x0)) (Jj underlying190 underlying76 rfl) rfl (Zx (.int .u64 (T3 (((64:Int)) - ((T3 x0))))) (P_usub rfl rfl) rfl ?_));obtain ⟨y3,hy3,h⟩:=Z1 h;refine Zx (.int .u64 (y3)) (H4 rfl rfl hy3) rfl (Zx (Iz ((w64 y3))) (Sq underlying234 underlying3 rfl) rfl (Zg (Iz ((w64 y3))) rfl rfl (Z3 (Ga ?_))));obtain rfl:=sinj h;exact Tg rfl rfl (rq (Iz ((w64 y3)))) ⟨_,hfr,rfl⟩
def f155 (x0:Gr):Option (Bool):=
 Option.bind (α:=Bool) (
  bif (decide (((((x0).PayTable).Rows).length : Int) > (6 : Int))) then
   some (true)
  else
   (f177 (((x0).PayTable).Rows) ((fun a0=>f178 a0))).bind fun t5=>
   some (t5)
  ) fun l5=>
 some (l5)
theorem en155:Enters prog 155:=enters_of func155 (by kernel_rfl) rfl
theorem wk155 {gI:Gh} {wI:World} {x0:Gr} {up0:Value} (rp0:RV gI.m wI x0 up0) {r:Bool} (h:f155 x0=some r):Fn prog 155 #[up0] gI wI (fun _ _ v=>v=.bool (r)):=by
 unfold f155 at h;refine fnE func155 rfl rfl fun g0 hm hfr=>?_;have rp0:=RVc hm rp0;show E _ 14 none _ _ _ _ _;refine Z5 (Z4 rfl (Tv (g:=g0) rfl rp0 fun g1 w1 p1 hs q1=>?_));have hfr:=hfr.ext hs;refine Zg (.bool false) rfl rfl (Z3 ?_);obtain ⟨l5,hx,h⟩:=Z1 h;refine Gl (fun e w=>∃ (g:Gh) ,Fr gI wI g w∧e 2=.bool (l5)) (fun Q' hQ=>?_) (fun nB vB hR=>?_)
 ·replace h := hx
  clear hx;refine Za (Zx (Z8 p1 0) (Zc Tz rfl (PT.ptr q1)) rfl ?_);have g8:=Zm (G0).1 q1;refine Zx (Z8 (Z8 p1 0) 0) (Zc Q7 rfl (PT.ptr g8)) rfl ?_;have v8:=Zm (Qf).1 g8;refine Z4 rfl (Z6 (g:=g1) isAgg122 sizeOf122 rfl v8 fun yB l9=>(Zx (Iz ((((x0).PayTable).Rows).length:Int)) (Gz underlying122 rfl l9) rfl (Zx (.bool ((decide (((((x0).PayTable).Rows).length:Int) > (6:Int))))) (Gk rfl rfl rfl) rfl (Zx (.bool ((decide (((((x0).PayTable).Rows).length:Int) > (6:Int))))) (Zk rfl) rfl ?_))));rcases Zt h with ⟨o0,h⟩ | ⟨o0,h⟩
  ·refine Zz rfl rfl o0 rfl rfl ?_
   iterate 3 refine Zz rfl rfl o0 rfl rfl ?_
   refine Zx (.bool true) (Zl (b:=(decide (((((x0).PayTable).Rows).length:Int) > (6:Int)))) rfl (G4 o0 rfl)) rfl (Zg (.bool true) rfl rfl (Zb ?_));obtain rfl:=sinj h;exact hQ _ _ ⟨g1,hfr,rfl⟩
  ·refine Zy (Z8 p1 0) (Zc Tz rfl (PT.ptr q1)) rfl rfl o0 rfl ?_
   have l8:=Zm (G0).1 q1;refine Zy (Z8 (Z8 p1 0) 0) (Zc Q7 rfl (PT.ptr l8)) rfl rfl o0 rfl ?_;have n9:=Zm (Qf).1 l8;refine Ze (.yes2 rfl rfl o0) rfl (Z6 (g:=g1) isAgg122 sizeOf122 rfl n9 fun aB lB=>?_);obtain ⟨t5,n8,h⟩:=Z1 h;refine Ze (.yes2 rfl rfl o0) rfl (Zp (g:=g1) (vs:=[aB,.func (.func 178) #[] #[]]) en177 (.cons rfl (.cons rfl .nil)) (wk177 lB ⟨178,#[],#[],rfl,en178,fun g' w' hch a0 b0 r hu0 hr=>by exact Fn.mono (wk178 hu0  hr) fun _ _ _ h=>Q1.2 h⟩ n8) fun mB oB zB hs hr=>?_);have hfr:=hfr.ext hs;subst hr;refine Zx (.bool (t5)) (Zl (b:=(decide (((((x0).PayTable).Rows).length:Int) > (6:Int)))) rfl (G5 o0 rfl)) rfl (Zg (.bool (t5)) rfl rfl (Zb ?_));obtain rfl:=sinj h;exact hQ _ _ ⟨mB,hfr,rfl⟩
 ·clear hx
  obtain ⟨cC,hfr,i6⟩:=hR;refine Ga ?_;obtain rfl:=sinj h;exact Tg rfl rfl (show _=.bool (l5) from i6) ⟨_,hfr,rfl⟩
def f156 (x0:Gr):Option (Bool):=
 jn (σ:=Unit) (fun _=>
  (f177 (((x0).PayTable).Rows) ((fun a0=>f179 a0 x0))).bind fun l9=>
  some ((!l9))
  ) fun aE=>
 Option.bind (α:=Bool) (
  bif (((((x0).PayTable).Rows).length : Int) == (0 : Int)) then
   some (true)
  else
   (idx (((x0).PayTable).Rows) (0:Int)).bind fun i6=>
   bif (((i6).length : Int) == (0 : Int)) then
    some (true)
   else
    bif (((((x0).PayTable).Across).length : Int) != ((((x0).PayTable).Rows).length : Int)) then
     some (true)
    else
     (idx (((x0).PayTable).Rows) (0:Int)).bind fun n9=>
     some ((((((x0).PayTable).Down).length:Int) != ((n9).length:Int)))
  ) fun g8=>
 bif g8 then
  some (false)
 else
  aE ()
theorem en156:Enters prog 156:=enters_of func156 (by kernel_rfl) rfl
theorem wk156 {gI:Gh} {wI:World} {x0:Gr} {up0:Value} (rp0:RV gI.m wI x0 up0) {r:Bool} (h:f156 x0=some r):Fn prog 156 #[up0] gI wI (fun _ _ v=>v=.bool (r)):=by
 unfold f156 at h;refine fnE func156 rfl rfl fun g0 hm hfr=>?_;have rp0:=RVc hm rp0;show E _ 47 none _ _ _ _ _;refine Z5 (Z4 rfl (Tv (g:=g0) rfl rp0 fun g1 w1 p1 hs q1=>?_));have hfr:=hfr.ext hs;refine Zg (.bool false) rfl rfl (Z3 (Zq h (fun (s:Unit) e w=>∃ (g:Gh) ,Fr gI wI g w∧e 1=p1∧PT g.m w (x0:Gr) p1) (fun X395 aE dF h=>?_) ?_))
 ·obtain ⟨g8, hx, h⟩ := Z1 h
  refine Gl (fun e w=>∃ (g:Gh) ,Fr gI wI g w∧e 1=p1∧PT g.m w (x0:Gr) p1∧e 40=.bool (g8)) (fun Q' hQ=>?_) (fun gH lH hR=>?_)
  ·replace h := hx
   clear hx;have aB:=Zm (G0).1 q1;have uF:=Zm (Qf).1 aB;refine Zs (x:=.tmp 4) isAgg122 sizeOf122 uF fun nB oB n8=>?_;rcases Zt h with ⟨o0,h⟩ | ⟨o0,h⟩
   ·refine To (g := g1) (n := 38) [] [0, 1, 2, 3, 4, 5, 6, 7, 8, 9, 10, 11, 12, 13, 14, 15, 16, 17, 18, 19, 20, 21, 22, 23, 24, 25, 26, 27, 28, 29, 30, 31, 32, 33, 34, 35, 36, 37] rfl mixed (by kernel_rfl) trivial (Z0 (Z8 p1 0) rfl rfl (Zc Tz rfl (PT.ptr q1)) (Z0 (Z8 (Z8 p1 0) 0) rfl rfl (Zc Q7 rfl (PT.ptr aB)) (Tm (c := nB) rfl rfl .plain (fun _ _ h => h.ch) n8 rfl (Z0 (Iz ((((x0).PayTable).Rows).length : Int)) rfl rfl (Gz underlying122 rfl oB) (Z0 (.bool ((((((x0).PayTable).Rows).length : Int) == (0 : Int)))) rfl rfl (Gk rfl rfl rfl) (Z0 (.bool ((((((x0).PayTable).Rows).length : Int) == (0 : Int)))) rfl rfl (Zk rfl) ?_))))))
    iterate 7 refine L_s rfl rfl rfl o0 rfl ?_
    refine Z0 (.bool true) rfl rfl (Zl (b:=(((((x0).PayTable).Rows).length:Int) == (0:Int))) rfl (G4 o0 rfl)) (Xb (fun _=>rfl) 24 rfl (Ka fun vF mH hs=>?_));have hfr:=hfr.ext hs;have q1:=q1.ext hs;clear hs;refine Zb ?_;obtain rfl:=sinj h;exact hQ _ _ ⟨vF,hfr,rfl,q1,rfl⟩
   ·have vB := Zm (G0).1 q1
    have xF:=Zm (Qf).1 vB;refine Zs (x:=.tmp 10) isAgg122 sizeOf122 xF fun l8 yB zB=>?_;obtain ⟨i6,v8,h⟩:=Z1 h;have yF:=Gx yB v8;refine Zs (x:=.tmp 12) isAgg25 sizeOf25 yF fun bD cD cC=>?_;rcases Zt h with ⟨l5,h⟩ | ⟨l5,h⟩
    ·refine To (g := g1) (n := 38) [] [0, 1, 2, 3, 4, 5, 6, 7, 8, 9, 10, 11, 12, 13, 14, 15, 16, 17, 18, 19, 20, 21, 22, 23, 24, 25, 26, 27, 28, 29, 30, 31, 32, 33, 34, 35, 36, 37] rfl mixed (by kernel_rfl) trivial (Z0 (Z8 p1 0) rfl rfl (Zc Tz rfl (PT.ptr q1)) (Z0 (Z8 (Z8 p1 0) 0) rfl rfl (Zc Q7 rfl (PT.ptr aB)) (Tm (c := nB) rfl rfl .plain (fun _ _ h => h.ch) n8 rfl (Z0 (Iz ((((x0).PayTable).Rows).length : Int)) rfl rfl (Gz underlying122 rfl oB) (Z0 (.bool ((((((x0).PayTable).Rows).length : Int) == (0 : Int)))) rfl rfl (Gk rfl rfl rfl) (Z0 (.bool ((((((x0).PayTable).Rows).length : Int) == (0 : Int)))) rfl rfl (Zk rfl) (L_y (Z8 p1 0) rfl rfl rfl rfl o0 (Zc Tz rfl (PT.ptr q1)) (L_y (Z8 (Z8 p1 0) 0) rfl rfl rfl rfl o0 (Zc Q7 rfl (PT.ptr vB)) (Tm (c := l8) rfl rfl (.yes2 rfl rfl o0) (fun _ _ h => h.ch) zB rfl (L_y (Tb l8 (0 : Int) 1) rfl rfl rfl rfl o0 (Zh (α := List Int) underlying122 sizeOf25 rfl yB rfl v8) (Tm (c := bD) rfl rfl (.yes2 rfl rfl o0) (fun _ _ h => h.ch) cC rfl (L_y (Iz ((i6).length : Int)) rfl rfl rfl rfl o0 (Gz underlying25 rfl cD) (L_y (.bool ((((i6).length : Int) == (0 : Int)))) rfl rfl rfl rfl o0 (Gk rfl rfl rfl) (Z0 (.bool ((((i6).length : Int) == (0 : Int)))) rfl rfl (Zl (b := (((((x0).PayTable).Rows).length : Int) == (0 : Int))) rfl (G5 o0 rfl)) (Z0 (.bool ((((i6).length : Int) == (0 : Int)))) rfl rfl (Zk rfl) ?_)))))))))))))))
     iterate 9 refine L_s rfl rfl rfl l5 rfl ?_
     refine Z0 (.bool true) rfl rfl (Zl (b:=(((i6).length:Int) == (0:Int))) rfl (G4 l5 rfl)) (Xb (fun _=>rfl) 13 rfl (Ka fun aG nH hs=>?_));have hfr:=hfr.ext hs;have q1:=q1.ext hs;clear hs;refine Zb ?_;obtain rfl:=sinj h;exact hQ _ _ ⟨aG,hfr,rfl,q1,rfl⟩
    ·have lD := Zm (G0).1 q1
     have bG:=Zm (Kp).1 lD;refine Zs (x:=.tmp 19) isAgg25 sizeOf25 bG fun bE iE oD=>?_;have nD:=Zm (G0).1 q1;have cG:=Zm (Qf).1 nD;refine Zs (x:=.tmp 23) isAgg122 sizeOf122 cG fun lE mE yD=>?_;rcases Zt h with ⟨t5,h⟩ | ⟨t5,h⟩
     ·refine To (g := g1) (n := 38) [] [0, 1, 2, 3, 4, 5, 6, 7, 8, 9, 10, 11, 12, 13, 14, 15, 16, 17, 18, 19, 20, 21, 22, 23, 24, 25, 26, 27, 28, 29, 30, 31, 32, 33, 34, 35, 36, 37] rfl mixed (by kernel_rfl) trivial (Z0 (Z8 p1 0) rfl rfl (Zc Tz rfl (PT.ptr q1)) (Z0 (Z8 (Z8 p1 0) 0) rfl rfl (Zc Q7 rfl (PT.ptr aB)) (Tm (c := nB) rfl rfl .plain (fun _ _ h => h.ch) n8 rfl (Z0 (Iz ((((x0).PayTable).Rows).length : Int)) rfl rfl (Gz underlying122 rfl oB) (Z0 (.bool ((((((x0).PayTable).Rows).length : Int) == (0 : Int)))) rfl rfl (Gk rfl rfl rfl) (Z0 (.bool ((((((x0).PayTable).Rows).length : Int) == (0 : Int)))) rfl rfl (Zk rfl) (L_y (Z8 p1 0) rfl rfl rfl rfl o0 (Zc Tz rfl (PT.ptr q1)) (L_y (Z8 (Z8 p1 0) 0) rfl rfl rfl rfl o0 (Zc Q7 rfl (PT.ptr vB)) (Tm (c := l8) rfl rfl (.yes2 rfl rfl o0) (fun _ _ h => h.ch) zB rfl (L_y (Tb l8 (0 : Int) 1) rfl rfl rfl rfl o0 (Zh (α := List Int) underlying122 sizeOf25 rfl yB rfl v8) (Tm (c := bD) rfl rfl (.yes2 rfl rfl o0) (fun _ _ h => h.ch) cC rfl (L_y (Iz ((i6).length : Int)) rfl rfl rfl rfl o0 (Gz underlying25 rfl cD) (L_y (.bool ((((i6).length : Int) == (0 : Int)))) rfl rfl rfl rfl o0 (Gk rfl rfl rfl) (Z0 (.bool ((((i6).length : Int) == (0 : Int)))) rfl rfl (Zl (b := (((((x0).PayTable).Rows).length : Int) == (0 : Int))) rfl (G5 o0 rfl)) (Z0 (.bool ((((i6).length : Int) == (0 : Int)))) rfl rfl (Zk rfl) (L_y (Z8 p1 0) rfl rfl rfl rfl l5 (Zc Tz rfl (PT.ptr q1)) ?_))))))))))))))))
      refine L_y (Z8 (Z8 p1 0) 1) rfl rfl rfl rfl l5 (Zc Y5 rfl (PT.ptr lD)) (Tm (c:=bE) rfl rfl (.yes2 rfl rfl l5) (fun _ _ h=>h.ch) oD rfl (L_y (Iz ((((x0).PayTable).Across).length:Int)) rfl rfl rfl rfl l5 (Gz underlying25 rfl iE) (L_y (Z8 p1 0) rfl rfl rfl rfl l5 (Zc Tz rfl (PT.ptr q1)) (L_y (Z8 (Z8 p1 0) 0) rfl rfl rfl rfl l5 (Zc Q7 rfl (PT.ptr nD)) (Tm (c:=lE) rfl rfl (.yes2 rfl rfl l5) (fun _ _ h=>h.ch) yD rfl (L_y (Iz ((((x0).PayTable).Rows).length:Int)) rfl rfl rfl rfl l5 (Gz underlying122 rfl mE) (L_y (.bool ((((((x0).PayTable).Across).length:Int) != ((((x0).PayTable).Rows).length:Int)))) rfl rfl rfl rfl l5 (Gk rfl rfl rfl) (Z0 (.bool ((((((x0).PayTable).Across).length:Int) != ((((x0).PayTable).Rows).length:Int)))) rfl rfl (Zl (b:=(((i6).length:Int) == (0:Int))) rfl (G5 l5 rfl)) (Z0 (.bool ((((((x0).PayTable).Across).length:Int) != ((((x0).PayTable).Rows).length:Int)))) rfl rfl (Zk rfl) ?_)))))))));iterate 11 refine L_s rfl rfl rfl t5 rfl ?_
      refine Z0 (.bool true) rfl rfl (Zl (b:=(((((x0).PayTable).Across).length:Int) != ((((x0).PayTable).Rows).length:Int))) rfl (G4 t5 rfl)) (Ka fun eG oH hs=>?_);have hfr:=hfr.ext hs;have q1:=q1.ext hs;clear hs;refine Zb ?_;obtain rfl:=sinj h;exact hQ _ _ ⟨eG,hfr,rfl,q1,rfl⟩
     ·have oE := Zm (G0).1 q1
      have gG:=Zm (W1).1 oE;refine Zs (x:=.tmp 30) isAgg25 sizeOf25 gG fun iG jG eF=>?_;have rE:=Zm (G0).1 q1;have kG:=Zm (Qf).1 rE;refine Zs (x:=.tmp 34) isAgg122 sizeOf122 kG fun uE vE rF=>?_;obtain ⟨n9,zD,h⟩:=Z1 h;have lG:=Gx vE zD;refine Zs (x:=.tmp 36) isAgg25 sizeOf25 lG fun mG sG sF=>(To (g:=g1) (n:=38) [] [0,1,2,3,4,5,6,7,8,9,10,11,12,13,14,15,16,17,18,19,20,21,22,23,24,25,26,27,28,29,30,31,32,33,34,35,36,37] rfl mixed (by kernel_rfl) trivial (Z0 (Z8 p1 0) rfl rfl (Zc Tz rfl (PT.ptr q1)) (Z0 (Z8 (Z8 p1 0) 0) rfl rfl (Zc Q7 rfl (PT.ptr aB)) (Tm (c:=nB) rfl rfl .plain (fun _ _ h=>h.ch) n8 rfl (Z0 (Iz ((((x0).PayTable).Rows).length:Int)) rfl rfl (Gz underlying122 rfl oB) (Z0 (.bool ((((((x0).PayTable).Rows).length:Int) == (0:Int)))) rfl rfl (Gk rfl rfl rfl) (Z0 (.bool ((((((x0).PayTable).Rows).length:Int) == (0:Int)))) rfl rfl (Zk rfl) (L_y (Z8 p1 0) rfl rfl rfl rfl o0 (Zc Tz rfl (PT.ptr q1)) (L_y (Z8 (Z8 p1 0) 0) rfl rfl rfl rfl o0 (Zc Q7 rfl (PT.ptr vB)) (Tm (c:=l8) rfl rfl (.yes2 rfl rfl o0) (fun _ _ h=>h.ch) zB rfl (L_y (Tb l8 (0:Int) 1) rfl rfl rfl rfl o0 (Zh (α:=List Int) underlying122 sizeOf25 rfl yB rfl v8) (Tm (c:=bD) rfl rfl (.yes2 rfl rfl o0) (fun _ _ h=>h.ch) cC rfl (L_y (Iz ((i6).length:Int)) rfl rfl rfl rfl o0 (Gz underlying25 rfl cD) (L_y (.bool ((((i6).length:Int) == (0:Int)))) rfl rfl rfl rfl o0 (Gk rfl rfl rfl) (Z0 (.bool ((((i6).length:Int) == (0:Int)))) rfl rfl (Zl (b:=(((((x0).PayTable).Rows).length:Int) == (0:Int))) rfl (G5 o0 rfl)) (Z0 (.bool ((((i6).length:Int) == (0:Int)))) rfl rfl (Zk rfl) ?_))))))))))))))));refine L_y (Z8 p1 0) rfl rfl rfl rfl l5 (Zc Tz rfl (PT.ptr q1)) (L_y (Z8 (Z8 p1 0) 1) rfl rfl rfl rfl l5 (Zc Y5 rfl (PT.ptr lD)) (Tm (c:=bE) rfl rfl (.yes2 rfl rfl l5) (fun _ _ h=>h.ch) oD rfl (L_y (Iz ((((x0).PayTable).Across).length:Int)) rfl rfl rfl rfl l5 (Gz underlying25 rfl iE) (L_y (Z8 p1 0) rfl rfl rfl rfl l5 (Zc Tz rfl (PT.ptr q1)) (L_y (Z8 (Z8 p1 0) 0) rfl rfl rfl rfl l5 (Zc Q7 rfl (PT.ptr nD)) (Tm (c:=lE) rfl rfl (.yes2 rfl rfl l5) (fun _ _ h=>h.ch) yD rfl (L_y (Iz ((((x0).PayTable).Rows).length:Int)) rfl rfl rfl rfl l5 (Gz underlying122 rfl mE) (L_y (.bool ((((((x0).PayTable).Across).length:Int) != ((((x0).PayTable).Rows).length:Int)))) rfl rfl rfl rfl l5 (Gk rfl rfl rfl) (Z0 (.bool ((((((x0).PayTable).Across).length:Int) != ((((x0).PayTable).Rows).length:Int)))) rfl rfl (Zl (b:=(((i6).length:Int) == (0:Int))) rfl (G5 l5 rfl)) (Z0 (.bool ((((((x0).PayTable).Across).length:Int) != ((((x0).PayTable).Rows).length:Int)))) rfl rfl (Zk rfl) (L_y (Z8 p1 0) rfl rfl rfl rfl t5 (Zc Tz rfl (PT.ptr q1)) (L_y (Z8 (Z8 p1 0) 2) rfl rfl rfl rfl t5 (Zc Yo rfl (PT.ptr oE)) (Tm (c:=iG) rfl rfl (.yes2 rfl rfl t5) (fun _ _ h=>h.ch) eF rfl (L_y (Iz ((((x0).PayTable).Down).length:Int)) rfl rfl rfl rfl t5 (Gz underlying25 rfl jG) (L_y (Z8 p1 0) rfl rfl rfl rfl t5 (Zc Tz rfl (PT.ptr q1)) (L_y (Z8 (Z8 p1 0) 0) rfl rfl rfl rfl t5 (Zc Q7 rfl (PT.ptr rE)) ?_))))))))))))))));refine Tm (c:=uE) rfl rfl (.yes2 rfl rfl t5) (fun _ _ h=>h.ch) rF rfl (L_y (Tb uE (0:Int) 1) rfl rfl rfl rfl t5 (Zh (α:=List Int) underlying122 sizeOf25 rfl vE rfl zD) (Tm (c:=mG) rfl rfl (.yes2 rfl rfl t5) (fun _ _ h=>h.ch) sF rfl (L_y (Iz ((n9).length:Int)) rfl rfl rfl rfl t5 (Gz underlying25 rfl sG) (L_y (.bool ((((((x0).PayTable).Down).length:Int) != ((n9).length:Int)))) rfl rfl rfl rfl t5 (Gk rfl rfl rfl) (Z0 (.bool ((((((x0).PayTable).Down).length:Int) != ((n9).length:Int)))) rfl rfl (Zl (b:=(((((x0).PayTable).Across).length:Int) != ((((x0).PayTable).Rows).length:Int))) rfl (G5 t5 rfl)) (Ka fun xG pH hs=>?_))))));have hfr:=hfr.ext hs;have q1:=q1.ext hs;clear hs;refine Zb ?_;obtain rfl:=sinj h;exact hQ _ _ ⟨xG,hfr,rfl,q1,rfl⟩
  ·clear hx
   obtain ⟨yG,hfr,xE,yE,mB⟩:=hR;rcases Zt h with ⟨uC,h⟩ | ⟨uC,h⟩
   ·refine Ta (Eq.trans (show ev _ _ = .bool (g8) from mB) (congrArg Value.bool uC)) (Z5 (Zg (.bool false) rfl rfl (Z3 (Ga (Gp ?_)))))
    obtain rfl:=sinj h;exact Tg rfl rfl (rq (.bool false)) ⟨_,hfr,rfl⟩
   ·refine Gs (Eq.trans (show ev _ _ = .bool (g8) from mB) (congrArg Value.bool uC)) ?_
    exact Zu (Zd (dF () _ _ ⟨yG,hfr,xE,yE⟩ h))
 ·rintro _ jH qH ⟨zE, hfr, vC, lB⟩ h
  refine Z5 (Zx (Z8 p1 0) (Zc Tz vC (PT.ptr lB)) rfl ?_);have cF:=Zm (G0).1 lB;refine Zx (Z8 (Z8 p1 0) 0) (Zc Q7 rfl (PT.ptr cF)) rfl ?_;have zG:=Zm (Qf).1 cF;refine Z4 rfl (Z6 (g:=zE) isAgg122 sizeOf122 rfl zG fun aH cH=>(Zx ((.func (.func 179) #[] #[p1])) (W9 (Se (show ev _ _=p1 from vC))) rfl ?_));obtain ⟨l9,tF,h⟩:=Z1 h;refine Z4 rfl (Zp (g:=zE) (vs:=[aH,(.func (.func 179) #[] #[p1])]) en177 (.cons rfl (.cons rfl .nil)) (wk177 cH ⟨179,#[],#[p1],rfl,en179,fun g' w' hch a0 b0 r hu0 hr=>by exact Fn.mono (wk179 hu0 (lB.ch hch) hr) fun _ _ _ h=>Q1.2 h⟩ tF) fun sH kH tH hs hr=>?_);have hfr:=hfr.ext hs;subst hr;refine Zx (.bool (!l9)) (Qm rfl) rfl (Zg (.bool (!l9)) rfl rfl (Z3 (Ga ?_)));obtain rfl:=sinj h;exact Tg rfl rfl (rq (.bool (!l9))) ⟨_,hfr,rfl⟩
def f157 (x0:List Int):Option (Bool):=
 (f62 ((-1:Int)) ((1000000:Int)) x0).bind fun y2=>
 some (y2)
theorem en157:Enters prog 157:=enters_of func157 (by kernel_rfl) rfl
theorem wk157 {gI:Gh} {wI:World} {x0:List Int} {up0:Value} (rp0:RV gI.m wI x0 up0) {r:Bool} (h:f157 x0=some r):Fn prog 157 #[up0] gI wI (fun _ _ v=>v=.bool (r)):=by
 unfold f157 at h;refine fnE func157 rfl rfl fun g0 hm hfr=>?_;have rp0:=RVc hm rp0;show E _ 5 none _ _ _ _ _;refine Z5 (Zg (.bool false) rfl rfl (Z3 (Z5 (Zn up0 rfl rfl ?_))));obtain ⟨y2,hy2,h⟩:=Z1 h;refine Z4 rfl (Zp (g:=g0) (vs:=[Iz (-1),Iz (1000000),up0]) en62 (.cons rfl (.cons rfl (.cons rfl .nil))) (wk62 rp0 hy2) fun g1 w1_ v1 hs hr=>?_);have hfr:=hfr.ext hs;subst hr;refine Zg (.bool (y2)) rfl rfl (Z3 (Ga ?_));obtain rfl:=sinj h;exact Tg rfl rfl (rq (.bool (y2))) ⟨_,hfr,rfl⟩
def f167 (x0:Int) (x1:List Int):Option (Bool):=
 (Va (1:Int) x0).bind fun y1=>
 (f93 ((0:Int)) ((w64 (y1 - (1:Int)))) x1).bind fun y3=>
 some (y3)
theorem en167:Enters prog 167:=enters_of func167 (by kernel_rfl) rfl
theorem wk167 {gI:Gh} {wI:World} {x0:Int} {x1:List Int} {up1:Value} (rp1:RV gI.m wI x1 up1) {r:Bool} (h:f167 x0 x1=some r):Fn prog 167 #[Iz (x0),up1] gI wI (fun _ _ v=>v=.bool (r)):=by
 unfold f167 at h;refine fnE func167 rfl rfl fun g0 hm hfr=>?_;have rp1:=RVc hm rp1;show E _ 10 none _ _ _ _ _;refine Z5 (Zg (.bool false) rfl rfl (Z3 (Z5 (Zn (Iz (x0)) rfl rfl ?_))));obtain ⟨y1,hy1,h⟩:=Z1 h;refine Zx (Iz (y1)) (Gk rfl rfl (congrArg (Option.map (Value.int .i64)) hy1)) rfl (Z9 (Iz ((w64 (y1 - (1:Int))))) rfl rfl rfl rfl (Zn up1 rfl rfl ?_));obtain ⟨y3,hy3,h⟩:=Z1 h;refine Z4 rfl (Zp (g:=g0) (vs:=[Iz (0),Iz ((w64 (y1 - (1:Int)))),up1]) en93 (.cons rfl (.cons rfl (.cons rfl .nil))) (wk93 rp1 hy3) fun g2 w2_ v2 hs hr=>?_);have hfr:=hfr.ext hs;subst hr;refine Zg (.bool (y3)) rfl rfl (Z3 (Ga ?_));obtain rfl:=sinj h;exact Tg rfl rfl (rq (.bool (y3))) ⟨_,hfr,rfl⟩
def f20 (x0:List UInt8):Option (It (Vector UInt8 8)):=
 some ((fun σ cons s=>f41 x0 σ cons s))
theorem en20:Enters prog 20:=enters_of func20 (by kernel_rfl) rfl
theorem wk20 {gI:Gh} {wI:World} {x0:List UInt8} {up0:Value} (rp0:RV gI.m wI x0 up0) {r:It (Vector UInt8 8)} (h:f20 x0=some r):Fn prog 20 #[up0] gI wI (fun m w v=>ItV prog (RA1 (α:=(Vector UInt8 8))) (r) v m w):=by
 unfold f20 at h;refine fnE func20 rfl rfl fun g0 hm hfr=>?_;have rp0:=RVc hm rp0;show E _ 4 none _ _ _ _ _;refine Z5 (Z4 rfl (Tv (g:=g0) rfl rp0 fun g1 w1 p1 hs q1=>?_));have hfr:=hfr.ext hs;refine Zg (.nilFunc) rfl rfl (Z3 (Z5 (Zx ((.func (.func 41) #[] #[p1])) (W9 (Se (show ev _ _=p1 from rfl))) rfl (Zg ((.func (.func 41) #[] #[p1])) rfl rfl (Z3 (Ga ?_))))));obtain rfl:=sinj h;exact Tg rfl rfl (rq (.func (.func 41) #[] #[p1])) ⟨_,hfr,(show ItV prog (RA1 (α:=(Vector UInt8 8))) (fun σ cons s=>f41 x0 σ cons s) ((.func (.func 41) #[] #[p1])) g1.m w1 from ⟨41,#[],#[p1],rfl,en41,fun g' w' hch σ cons s s' h=>wk41  (q1.ch hch) h⟩)⟩
def f31 (x0:Gy) (x1:Gf):Option (Int):=
 Option.bind (α:=Int) (
  lp (σ:=Int × Int) (fun vE (l5,o0)=>
   bif (decide (o0 < (((x1).Extras).length : Int))) then
    Option.bind (α:=Int) (
     (idx ((x1).Extras) o0).bind fun aB=>
     (idx (((x0).PayList).Extras) aB).bind fun yB=>
     some ((w64 (l5 + yB)))
     ) fun i6=>
    vE (i6,(w64 (o0 + (1:Int))))
   else
    some (l5)
   ) big ((1000:Int),(0:Int))
  ) fun t5=>
 (f67 x0 ((x1).Dense)).bind fun v8=>
 (Sk (w64 ((w64 ((x1).Picks * v8)) * t5)) (1000000:Int)).bind fun lB=>
 some (lB)
theorem en31:Enters prog 31:=enters_of func31 (by kernel_rfl) rfl
theorem wk31 {gI:Gh} {wI:World} {x0:Gy} {x1:Gf} {up0:Value} (rp0:RV gI.m wI x0 up0) {up1:Value} (rp1:RV gI.m wI x1 up1) {r:Int} (h:f31 x0 x1=some r):Fn prog 31 #[up0,up1] gI wI (fun _ _ v=>v=Iz (r)):=by
 unfold f31 at h;refine fnE func31 rfl rfl fun g0 hm hfr=>?_;have rp0:=RVc hm rp0;have rp1:=RVc hm rp1;show E _ 34 none _ _ _ _ _;refine Z5 (Z4 rfl (Tv (g:=g0) rfl rp0 fun g1 w1 p1 hs q1=>?_));have hfr:=hfr.ext hs;have rp1:=rp1.ext hs;refine Z4 rfl (Tv (g:=g1) rfl rp1 fun g2 w2 p2 hs q2=>?_);have hfr:=hfr.ext hs;have q1:=q1.ext hs;refine Zg (Iz (0)) rfl rfl (Z3 (Z5 (Zg (Iz (1000)) rfl rfl (Z3 ?_))));obtain ⟨t5,hx,h⟩:=Z1 h;refine Gl (fun e w=>∃ (g:Gh) ,Fr gI wI g w∧e 2=p1∧PT g.m w (x0:Gy) p1∧e 3=p2∧PT g.m w (x1:Gf) p2∧e 5=Iz (t5)) (fun Q' hQ=>?_) (fun xG aH hR=>?_)
 ·replace h := hx
  clear hx;refine Z5 (Zx (Z8 p2 3) (Zc Ff rfl (PT.ptr q2)) rfl ?_);have vF:=Zm (Jl).1 q2;refine Z4 rfl (Z6 (g:=g2) isAgg25 sizeOf25 rfl vF fun mB xE=>(Zx (Iz (((x1).Extras).length:Int)) (Gz underlying25 rfl xE) rfl (Zn (Iz (0)) rfl rfl (Z3 (Zr (Q0 h (fun (s:Int × Int) e w=>∃ (g:Gh) ,Fr gI wI g w∧e 2=p1∧PT g.m w (x0:Gy) p1∧e 3=p2∧PT g.m w (x1:Gf) p2∧e 5=Iz (s.1)∧e 9=mB∧RV g.m w ((x1).Extras:List Int) mB∧e 10=Iz ((((x1).Extras).length:Int))∧e 11=Iz (s.2)) ⟨g2,hfr,rfl,q1,rfl,q2,rfl,rfl,xE,rfl,rfl⟩ (fun X29 vE dF=>?_)))))));rintro ⟨l5,o0⟩ yG cH ⟨nB,hfr,l9,g8,zB,cC,uC,vC,n9,oB,n8⟩ h;refine Z5 (Zx (.bool ((decide (o0 < (((x1).Extras).length:Int))))) (Gk n8 oB rfl) rfl (Z3 (Zf ?_)));rcases Zt h with ⟨vB,h⟩ | ⟨vB,h⟩
  ·refine G6 vB rfl (Zu (Zd ?_))
   obtain ⟨i6,hx,h⟩:=Z1 h;refine Gl (fun e w=>∃ (g:Gh) ,Fr gI wI g w∧e 2=p1∧PT g.m w (x0:Gy) p1∧e 3=p2∧PT g.m w (x1:Gf) p2∧e 5=Iz (i6)∧e 9=mB∧RV g.m w ((x1).Extras:List Int) mB∧e 10=Iz ((((x1).Extras).length:Int))∧e 11=Iz (o0)) (fun Q' hQ=>?_) (fun zG gH hR=>?_)
   ·replace h := hx
    clear hx;refine Zr (Z5 ?_);obtain ⟨aB,cD,h⟩:=Z1 h;refine Zx (Tb mB o0 1) (Zh (α:=Int) underlying25 sizeOf3 vC n9 n8 cD) rfl ?_;have xF:=Gx n9 cD;refine Z4 rfl (Z6 (g:=nB) isAgg3 sizeOf3 rfl xF fun jH yF=>?_);obtain rfl:=Zj.1 yF;refine Zg (Iz (aB)) rfl rfl (Z3 (Za (Zo uC rfl (Zx (Z8 p1 0) (Zc Jh l9 (PT.ptr g8)) rfl ?_))));have yE:=Zm (Qs).1 g8;refine Zx (Z8 (Z8 p1 0) 1) (Zc Vv rfl (PT.ptr yE)) rfl ?_;have aG:=Zm (Kg).1 yE;refine Z4 rfl (Z6 (g:=nB) isAgg25 sizeOf25 rfl aG fun bG zE=>(Zn (Iz (aB)) rfl rfl ?_));obtain ⟨yB,lD,h⟩:=Z1 h;refine Zx (Tb bG aB 1) (Zh (α:=Int) underlying25 sizeOf3 rfl zE rfl lD) rfl ?_;have cG:=Gx zE lD;refine Z4 rfl (Z6 (g:=nB) isAgg3 sizeOf3 rfl cG fun kH eG=>?_);obtain rfl:=Zj.1 eG;refine Z9 (Iz ((w64 (l5 + yB)))) rfl rfl rfl rfl (Zg (Iz ((w64 (l5 + yB)))) rfl rfl (Zb (Tj ?_)));obtain rfl:=sinj h;exact hQ _ _ ⟨nB,hfr,l9,g8,zB,cC,rfl,vC,n9,oB,n8⟩
   ·clear hx
    obtain ⟨gG,hfr,yD,zD,aE,bE,iE,lE,mE,nD,oD⟩:=hR;refine Za (Z9 (Iz ((w64 (o0 + (1:Int))))) oD rfl rfl rfl (Zn (Iz ((w64 (o0 + (1:Int))))) rfl rfl ?_));exact Z3 (dF (i6,(w64 (o0 + (1:Int)))) _ _ ⟨gG,hfr,yD,zD,aE,bE,iE,lE,mE,nD,rfl⟩ h)
  ·refine G7 vB rfl (Tn (Gu (Gu (G8 ?_))))
   obtain rfl:=sinj h;exact hQ _ _ ⟨nB,hfr,l9,g8,zB,cC,uC⟩
 ·clear hx
  obtain ⟨iG,hfr,oE,rE,bD,l8,uE⟩:=hR;refine Zf ?_;have jG:=Zm (Ul).1 l8;refine Zs (x:=.tmp 24) isAgg3 sizeOf3 jG fun lH kG eF=>?_;obtain rfl:=Zj.1 kG;refine Zs (x:=.tmp 2) isAgg105 sizeOf105 rE fun cF lG rF=>?_;have mG:=Zm (Un).1 l8;refine Zs (x:=.tmp 27) isAgg3 sizeOf3 mG fun mH sG sF=>?_;obtain rfl:=Zj.1 sG;obtain ⟨v8,tF,h⟩:=Z1 h;obtain ⟨lB,uF,h⟩:=Z1 h;refine To (g:=iG) (n:=11) [(5,(fun v g w=>v=Iz (v8)))] [0,1,2,3,4,5,6,7,8,9,10] rfl mixed (by kernel_rfl) (⟨fun _=>Wk _,trivial⟩) (Z0 (Z8 p2 2) rfl rfl (Zc At bD (PT.ptr l8)) (Tm (c:=Iz ((x1).Picks)) rfl rfl .plain (fun _ _ h=>h.ch) eF rfl (Tm (c:=cF) rfl rfl .plain (fun _ _ h=>h.ch) rF oE (Z0 (Z8 p2 1) rfl rfl (Zc Mv bD (PT.ptr l8)) (Tm (c:=Iz ((x1).Dense)) rfl rfl .plain (fun _ _ h=>h.ch) sF rfl (W7 (φ:=fun v g w=>v=Iz (v8)) rfl rfl .plain (fun g w hd=>Zp (g:=g) (vs:=[cF,Iz ((x1).Dense)]) en67 (.cons rfl (.cons rfl .nil)) (wk67 (lG.ext hd.1) tF) fun g' w' v hs hr=>⟨g',hs,hr⟩) (fun nH hv=>?_)))))));obtain ⟨_,_,_,rfl⟩:=hv;refine Z0 (Iz ((w64 ((x1).Picks * v8)))) rfl rfl (Gk rfl rfl rfl) (Z0 (Iz (t5)) rfl rfl (Zk uE) (Z0 (Iz ((w64 ((w64 ((x1).Picks * v8)) * t5)))) rfl rfl (Gk rfl rfl rfl) (Z0 (Iz (lB)) rfl rfl (Gk rfl rfl (congrArg (Option.map (Value.int .i64)) uF)) (Z0 (Iz (lB)) rfl rfl (Te rfl) (Ka fun oH pH hs=>?_)))));have hfr:=hfr.ext hs;clear hs;refine Z3 (Ga ?_);obtain rfl:=sinj h;exact Tg rfl rfl (rq (Iz (lB))) ⟨_,hfr,rfl⟩
def f33 (x0:Int) (x1:List Int):Option ((List Int) × Int):=
 Option.bind (α:=Int) (
  lp (σ:=Int × Int) (fun vN (aE,i6)=>
   bif (decide (i6 < ((x1).length : Int))) then
    Option.bind (α:=Int) (
     (idx x1 i6).bind fun yE=>
     some ((w64 (aE + (Hb (Rp yE (0:Int)) (1000:Int)))))
     ) fun zE=>
    vN (zE,(w64 (i6 + (1:Int))))
   else
    some (aE)
   ) big ((0:Int),(0:Int))
  ) fun l8=>
 jn (σ:=Unit) (fun _=>
  (mks 8 (0:Int) (((x1).length:Int))).bind fun sH=>
  Option.bind (α:=(List Int) × Int × (List Int)) (
   lp (σ:=(List Int) × Int × (List Int) × Int) (fun pK (uF,uC,oD,o0)=>
    bif (decide (o0 < ((x1).length : Int))) then
     Option.bind (α:=(List Int) × Int × (List Int)) (
      (idx x1 o0).bind fun vF=>
      (Sk (w64 (x0 * vF)) l8).bind fun y158=>
      (apnd 8 uF (([y158]:List Int))).bind fun y161=>
      (idx oD o0).bind fun cO=>
      (idx y161 o0).bind fun zG=>
      some (y161,(w64 (uC - zG)),(List.set oD (Int.toNat o0) o0))
      ) fun (bE,iE,yD)=>
     pK (bE,iE,yD,(w64 (o0 + (1:Int))))
    else
     some (uF,uC,oD)
    ) big (([]:List Int),x0,sH,(0:Int))
   ) fun (xF,n8,rE)=>
  (f68 rE ((fun a0 a1=>f69 a0 a1 x0 x1 l8))).bind fun qK=>
  Option.bind (α:=(List Int)) (
   (cut qK 0 n8).bind fun cC=>
   lp (σ:=(List Int) × Int) (fun sK (vC,l5)=>
    bif (decide (l5 < ((cC).length : Int))) then
     Option.bind (α:=(List Int)) (
      (idx cC l5).bind fun bD=>
      (idx vC bD).bind fun aH=>
      (idx vC bD).bind fun dO=>
      some ((List.set vC (Int.toNat bD) ((w64 (aH + (1:Int))))))
      ) fun lE=>
     sK (lE,(w64 (l5 + (1:Int))))
    else
     some (vC)
    ) big (xF,(0:Int))
   ) fun yF=>
  some (yF,(0:Int))
  ) fun xN=>
 (f62 ((0:Int)) ((1000000000:Int)) (([x0]:List Int))).bind fun pI=>
 bif (!pI) then
  some (([]:List Int),(3:Int))
 else
  bif (decide (((x1).length : Int) > (10 : Int))) then
   some (([]:List Int),(5:Int))
  else
   Option.bind (α:=Bool) (
    (f62 ((0:Int)) ((1000:Int)) x1).bind fun tH=>
    bif (!tH) then
     some ((!tH))
    else
     some ((l8 == (0:Int)))
    ) fun cD=>
   bif cD then
    some (([]:List Int),(2:Int))
   else
    xN ()
theorem en33:Enters prog 33:=enters_of func33 (by kernel_rfl) rfl
theorem wk33 {gI:Gh} {wI:World} {x0:Int} {x1:List Int} {up1:Value} (rp1:RV gI.m wI x1 up1) {r:(List Int) × Int} (h:f33 x0 x1=some r):Fn prog 33 #[Iz (x0),up1] gI wI (fun m w v=>∃ y0 y1,v=.tuple #[y0,y1]∧RV m w (r.1) y0∧y1=Iz (r.2)):=by
 unfold f33 at h;refine fnE func33 rfl rfl fun g0 hm hfr=>?_;have rp1:=RVc hm rp1;show E _ 91 none _ _ _ _ _;refine Z5 (Z4 rfl (Tv (g:=g0) rfl (Zj.2 rfl) fun g1 w1 p1 hs q1=>?_));have hfr:=hfr.ext hs;have rp1:=rp1.ext hs;refine Z4 rfl (Tv (g:=g1) rfl rp1 fun g2 w2 p2 hs q2=>?_);have hfr:=hfr.ext hs;have q1:=q1.ext hs;refine Zg (.slice none 0 0) rfl rfl ?_;have b3:OA 4004 g2 w2 3 ([]:List Int) (.slice none 0 0):=OA.nil;refine Zg (Iz (0)) rfl rfl (Z3 (Z5 (Z4 rfl (G2 (g:=g2) 2006 (0:Int) zeroValue3 (fun m w=>⟨_,Zw,rfl⟩) fun g4 w4 p4 hs b4 cb=>?_))));have hfr:=hfr.stp hs;have q1:=q1.stp hs;have q2:=q2.stp hs;have b3:=b3.stp hs rfl;clear cb;refine Z4 rfl (Gg (g:=g4) (v:=Iz (0)) sizeOf3 rfl b4 rfl (Zj.2 rfl) fun g5 w5 hs b5 cb=>?_);clear cb;have hfr:=hfr.stp hs;have q1:=q1.stp hs;have q2:=q2.stp hs;have b3:=b3.stp hs rfl;refine Z3 ?_;obtain ⟨l8,hx,h⟩:=Z1 h;refine Gl (fun e w=>∃ (g:Gh) ,Fr gI wI g w∧e 2=p1∧PT g.m w (x0:Int) p1∧e 3=p2∧PT g.m w (x1:List Int) p2∧e 4=.slice none 0 0∧OA 4004 g w 3 (([]:List Int):List Int) (Value.slice none 0 0)∧e 6=p4∧OB 2006 g w 3 (l8:Int) p4) (fun Q' hQ=>?_) (fun kQ qR hR=>?_)
 ·replace h := hx
  clear hx;refine Z5 (Z4 rfl (Z6 (g:=g5) isAgg25 sizeOf25 rfl q2 fun uH yN=>(Zx (Iz ((x1).length:Int)) (Gz underlying25 rfl yN) rfl (Zn (Iz (0)) rfl rfl (Z3 (Zr (Q0 h (fun (s:Int × Int) e w=>∃ (g:Gh) ,Fr gI wI g w∧e 2=p1∧PT g.m w (x0:Int) p1∧e 3=p2∧PT g.m w (x1:List Int) p2∧e 4=.slice none 0 0∧OA 4004 g w 3 (([]:List Int):List Int) (Value.slice none 0 0)∧e 6=p4∧OB 2006 g w 3 (s.1:Int) p4∧e 15=uH∧RV g.m w (x1:List Int) uH∧e 16=Iz (((x1).length:Int))∧e 17=Iz (s.2)) ⟨g5,hfr,rfl,q1,rfl,q2,rfl,b3,rfl,b5,rfl,yN,rfl,rfl⟩ (fun X22 vN eO=>?_))))))));rintro ⟨aE,i6⟩ lQ rR ⟨qI,hfr,sI,cF,jJ,dF,kJ,eF,rF,cH,xH,lD,yH,aG⟩ h;refine Z5 (Z9 (.bool ((decide (i6 < ((x1).length:Int))))) aG yH rfl rfl (Z3 (Zf ?_)));rcases Zt h with ⟨jI,h⟩ | ⟨jI,h⟩
  ·refine G6 jI rfl (Zu (Zd ?_))
   obtain ⟨zE,hx,h⟩:=Z1 h;refine Gl (fun e w=>∃ (g:Gh) ,Fr gI wI g w∧e 2=p1∧PT g.m w (x0:Int) p1∧e 3=p2∧PT g.m w (x1:List Int) p2∧e 4=.slice none 0 0∧OA 4004 g w 3 (([]:List Int):List Int) (Value.slice none 0 0)∧e 6=p4∧OB 2006 g w 3 (zE:Int) p4∧e 15=uH∧RV g.m w (x1:List Int) uH∧e 16=Iz (((x1).length:Int))∧e 17=Iz (i6)) (fun Q' hQ=>?_) (fun mQ tR hR=>?_)
   ·replace h := hx
    clear hx;refine Zr (Z5 ?_);obtain ⟨yE,tK,h⟩:=Z1 h;refine Zx (Tb uH i6 1) (Zh (α:=Int) underlying25 sizeOf3 xH lD aG tK) rfl ?_;have dP:=Gx lD tK;refine Z4 rfl (Z6 (g:=qI) isAgg3 sizeOf3 rfl dP fun uR eP=>?_);obtain rfl:=Zj.1 eP;refine Zg (Iz (yE)) rfl rfl (Z3 (Za (Z4 rfl (Tp (g:=qI) isAgg3 sizeOf3 rF cH fun vR gP=>?_))));obtain rfl:=Zj.1 gP;refine Zn (Iz (yE)) rfl rfl (Zx (Iz (Rp yE (0:Int))) (P_max rfl rfl) rfl (Zx (Iz (Hb (Rp yE (0:Int)) (1000:Int))) (Oh rfl rfl) rfl (Zx (Iz ((w64 (aE + (Hb (Rp yE (0:Int)) (1000:Int)))))) (Gk rfl rfl rfl) rfl (Z4 rfl (Gg (g:=qI) (v:=Iz ((w64 (aE + (Hb (Rp yE (0:Int)) (1000:Int)))))) sizeOf3 rF cH rfl (Zj.2 rfl) fun iP xR hs b34 cb=>?_)))));clear cb;have hfr:=hfr.stp hs;have cF:=cF.stp hs;have dF:=dF.stp hs;have eF:=eF.stp hs rfl;have lD:=lD.stp hs;refine Zb (Tj ?_);obtain rfl:=sinj h;exact hQ _ _ ⟨iP,hfr,sI,cF,jJ,dF,kJ,eF,rF,b34,xH,lD,yH,aG⟩
   ·clear hx
    obtain ⟨jP,hfr,sM,tM,uM,vM,xM,bN,cN,dN,uK,vK,xK,yK⟩:=hR;refine Za (Z9 (Iz ((w64 (i6 + (1:Int))))) yK rfl rfl rfl (Zn (Iz ((w64 (i6 + (1:Int))))) rfl rfl ?_));exact Z3 (eO (zE,(w64 (i6 + (1:Int)))) _ _ ⟨jP,hfr,sM,tM,uM,vM,xM,bN,cN,dN,uK,vK,xK,rfl⟩ h)
  ·refine G7 jI rfl (Tn (Gu (Gu (G8 ?_))))
   obtain rfl:=sinj h;exact hQ _ _ ⟨qI,hfr,sI,cF,jJ,dF,kJ,eF,rF,cH⟩
 ·clear hx
  obtain ⟨zN,hfr,gH,nB,sF,aB,lJ,yB,jH,oB⟩:=hR;refine Zq h (fun (s:Unit) e w=>∃ (g:Gh) ,Fr gI wI g w∧e 2=p1∧PT g.m w (x0:Int) p1∧e 3=p2∧PT g.m w (x1:List Int) p2∧e 4=.slice none 0 0∧OA 4004 g w 3 (([]:List Int):List Int) (Value.slice none 0 0)∧e 6=p4∧OB 2006 g w 3 (l8:Int) p4) (fun X62 xN gO h=>?_) ?_
  ·refine Zr (Z5 (Z4 rfl (Z6 (g := zN) isAgg3 sizeOf3 gH nB fun yR kP => ?_)))
   obtain rfl:=Zj.1 kP;refine Z4 rfl (Z7 (g:=zN) 3029 (xs:=([x0]:List Int)) (vs:=[Iz (x0)]) underlying25 sizeOf3 zeroValue3 rfl rfl (.cons rfl .nil) (RVs.cons (Zj.2 rfl) RVs.nil) rfl rfl fun lP zR mP hs o65 nP hxt hfl=>?_);have hfr:=hfr.stp hs;have nB:=nB.stp hs;have aB:=aB.stp hs;have yB:=yB.stp hs rfl;have oB:=oB.stp hs rfl;obtain ⟨pI,jO,h⟩:=Z1 h;refine Z4 rfl (Zp (g:=lP) (vs:=[Iz (0),Iz (1000000000),mP]) en62 (.cons rfl (.cons rfl (.cons rfl .nil))) (wk62 nP jO) fun zH zK aS hs hr=>?_);have hfr:=hfr.ext hs;have nB:=nB.ext hs;have aB:=aB.ext hs;have yB:=yB.ext hs;have oB:=oB.ext hs;subst hr;refine Zx (.bool (!pI)) (Qm rfl) rfl (Zg (.bool (!pI)) rfl rfl (Z3 ?_));rcases Zt h with ⟨kI,h⟩ | ⟨kI,h⟩
   ·refine G6 kI rfl (Z5 (Zg (.slice none 0 0) rfl rfl ?_))
    have b69:OA 4004 zH zK 3 ([]:List Int) (.slice none 0 0):=OA.nil;refine Zg (Iz (3)) rfl rfl (Z3 (Ga (Tl (Gp ?_))));obtain ⟨gp70,hs,rp70⟩:=OM.pub (b69.toM);have hfr:=hfr.stp hs;obtain rfl:=sinj h;exact Jq rfl rfl (rq (.slice none 0 0)) (rq (Iz (3))) ⟨_,hfr,_,_,rfl,rp70,rfl⟩
   ·refine G7 kI rfl (Z5 (Z4 rfl (Z6 (g := zH) isAgg25 sizeOf25 sF aB fun bS oP => (Zx (Iz ((x1).length : Int)) (Gz underlying25 rfl oP) rfl (Z9 (.bool ((decide (((x1).length : Int) > (10 : Int))))) rfl rfl rfl rfl (Zg (.bool ((decide (((x1).length : Int) > (10 : Int))))) rfl rfl (Z3 ?_)))))))
    rcases Zt h with ⟨lI,h⟩ | ⟨lI,h⟩
    ·refine G6 lI rfl (Z5 (Zg (.slice none 0 0) rfl rfl ?_))
     have b73:OA 4004 zH zK 3 ([]:List Int) (.slice none 0 0):=OA.nil;refine Zg (Iz (5)) rfl rfl (Z3 (Ga (Tl (Gp ?_))));obtain ⟨gp74,hs,rp74⟩:=OM.pub (b73.toM);have hfr:=hfr.stp hs;obtain rfl:=sinj h;exact Jq rfl rfl (rq (.slice none 0 0)) (rq (Iz (5))) ⟨_,hfr,_,_,rfl,rp74,rfl⟩
    ·refine G7 lI rfl ?_
     obtain ⟨cD,hx,h⟩:=Z1 h;refine Gl (fun e w=>∃ (g:Gh) ,Fr gI wI g w∧e 2=p1∧PT g.m w (x0:Int) p1∧e 3=p2∧PT g.m w (x1:List Int) p2∧e 4=.slice none 0 0∧OA 4004 g w 3 (([]:List Int):List Int) (Value.slice none 0 0)∧e 6=p4∧OB 2006 g w 3 (l8:Int) p4∧e 36=.bool (cD)) (fun Q' hQ=>?_) (fun nQ pP hR=>?_)
     ·replace h := hx
      clear hx;refine Z5 (Z4 rfl (Z6 (g:=zH) isAgg25 sizeOf25 sF aB fun sP tP=>?_));obtain ⟨tH,kO,h⟩:=Z1 h;refine Z4 rfl (Zp (g:=zH) (vs:=[Iz (0),Iz (1000),sP]) en62 (.cons rfl (.cons rfl (.cons rfl .nil))) (wk62 tP kO) fun aL oQ cS hs hr=>?_);have hfr:=hfr.ext hs;have nB:=nB.ext hs;have aB:=aB.ext hs;have yB:=yB.ext hs;have oB:=oB.ext hs;subst hr;refine Zx (.bool (!tH)) (Qm rfl) rfl (Zg (.bool (!tH)) rfl rfl (Z3 ?_));rcases Zt h with ⟨mI,h⟩ | ⟨mI,h⟩
      ·refine G6 mI rfl (Zu ?_)
       obtain rfl:=sinj h;exact hQ _ _ ⟨aL,hfr,gH,nB,sF,aB,lJ,yB,jH,oB,rfl⟩
      ·refine G7 mI rfl (Za (Z4 rfl (Tp (g := aL) isAgg3 sizeOf3 jH oB fun dS uP => ?_)))
       obtain rfl:=Zj.1 uP;refine Z9 (.bool ((l8 == (0:Int)))) rfl rfl rfl rfl (Zg (.bool ((l8 == (0:Int)))) rfl rfl (Zb ?_));obtain rfl:=sinj h;exact hQ _ _ ⟨aL,hfr,gH,nB,sF,aB,lJ,yB,jH,oB,rfl⟩
     ·clear hx
      obtain ⟨aO,hfr,eN,gN,iN,jN,kN,lN,mN,nN,aI⟩:=hR;rcases Zt h with ⟨nI,h⟩ | ⟨nI,h⟩
      ·refine Ta (Eq.trans (show ev _ _ = .bool (cD) from aI) (congrArg Value.bool nI)) (Z5 (Zg (.slice none 0 0) rfl rfl ?_))
       have b87:OA 4004 aO pP 3 ([]:List Int) (.slice none 0 0):=OA.nil;refine Zg (Iz (2)) rfl rfl (Z3 (Ga (Tl (Gp ?_))));obtain ⟨gp88,hs,rp88⟩:=OM.pub (b87.toM);have hfr:=hfr.stp hs;obtain rfl:=sinj h;exact Jq rfl rfl (rq (.slice none 0 0)) (rq (Iz (2))) ⟨_,hfr,_,_,rfl,rp88,rfl⟩
      ·refine Gs (Eq.trans (show ev _ _ = .bool (cD) from aI) (congrArg Value.bool nI)) ?_
       exact Zu (Tj (Zd (gO () _ _ ⟨aO,hfr,eN,gN,iN,jN,kN,lN,mN,nN⟩ h)))
  ·rintro _ pQ eS ⟨vP, hfr, mJ, tF, kH, mE, oN, lH, pN, mH⟩ h
   refine Zf (Zs (x:=.tmp 2) isAgg3 sizeOf3 tF fun gS xP lO=>?_);obtain rfl:=Zj.1 xP;refine Zs (x:=.tmp 3) isAgg25 sizeOf25 mE fun yP zP mO=>?_;obtain ⟨sH,nO,h⟩:=Z1 h;refine To (g:=vP) (n:=6) [(3,(fun v g w=>OM 9045 g w 3 sH v))] [0,1,2,3,4,5] rfl mixed (by kernel_rfl) (⟨fun _=>up_om,trivial⟩) (Tm (c:=Iz (x0)) rfl rfl .plain (fun _ _ h=>h.ch) lO mJ (Tm (c:=yP) rfl rfl .plain (fun _ _ h=>h.ch) mO kH (Z0 (Iz ((x1).length:Int)) rfl rfl (Gz underlying25 rfl zP) (W7 (φ:=fun v g w=>OM 9045 g w 3 sH v) rfl rfl .plain (fun g w hd=>Cx (g:=g) 9045 (0:Int) rfl underlying25 Kr rfl (fun _ _=>rfl) rfl rfl nO fun g' w' v hs b=>⟨g',hs,b⟩) (fun mB hv=>?_)))));clear hv;refine Z0 (Iz (x0)) rfl rfl (Te rfl) (Z0 mB rfl rfl (Te rfl) (J6 fun bO iS hall=>?_));have hs:=hall.1;have hfr:=hfr.ext hs;have tF:=tF.ext hs;have mE:=mE.ext hs;have lH:=lH.ext hs;have mH:=mH.ext hs;have b104:=(T1 (A:=fun g w=>OM 9045 g w 3 sH mB) 3 rfl hall);clear hs hall;refine Z3 ?_;obtain ⟨⟨xF,n8,rE⟩,hx,h⟩:=Z1 h;refine Gl (fun e w=>∃ (g:Gh) (v4:Value),Fr gI wI g w∧e 2=p1∧PT g.m w (x0:Int) p1∧e 3=p2∧PT g.m w (x1:List Int) p2∧e 4=v4∧OA 4004 g w 3 (xF:List Int) v4∧e 6=p4∧OB 2006 g w 3 (l8:Int) p4∧e 9=Iz (n8)∧e 10=mB∧OM 9045 g w 3 (rE:List Int) mB) (fun Q' hQ=>?_) (fun bQ qQ hR=>?_)
   ·replace h := hx
    clear hx;refine Z5 (Z4 rfl (Z6 (g:=bO) isAgg25 sizeOf25 kH mE fun bG bL=>(Zx (Iz ((x1).length:Int)) (Gz underlying25 rfl bL) rfl (Zn (Iz (0)) rfl rfl (Z3 (Zr (Q0 h (fun (s:(List Int) × Int × (List Int) × Int) e w=>∃ (g:Gh) (v4:Value),Fr gI wI g w∧e 2=p1∧PT g.m w (x0:Int) p1∧e 3=p2∧PT g.m w (x1:List Int) p2∧e 4=v4∧OA 4004 g w 3 (s.1:List Int) v4∧e 6=p4∧OB 2006 g w 3 (l8:Int) p4∧e 9=Iz (s.2.1)∧e 10=mB∧OM 9045 g w 3 (s.2.2.1:List Int) mB∧e 46=bG∧RV g.m w (x1:List Int) bG∧e 47=Iz (((x1).length:Int))∧e 48=Iz (s.2.2.2)) ⟨bO,(.slice none 0 0),hfr,mJ,tF,kH,mE,oN,lH,pN,mH,rfl,rfl,b104,rfl,bL,rfl,rfl⟩ (fun X137 pK qN=>?_))))))));rintro ⟨uF,uC,oD,o0⟩ cQ rQ ⟨cG,dL,hfr,eG,v8,bI,lB,dI,oE,gG,l9,iI,uE,n9,lG,t5,mG,zD⟩ h;refine Z5 (Z9 (.bool ((decide (o0 < ((x1).length:Int))))) zD mG rfl rfl (Z3 (Zf ?_)));rcases Zt h with ⟨nH,h⟩ | ⟨nH,h⟩
    ·refine G6 nH rfl (Zu (Zd ?_))
     obtain ⟨⟨bE,iE,yD⟩,hx,h⟩:=Z1 h;refine Gl (fun e w=>∃ (g:Gh) (v4:Value),Fr gI wI g w∧e 2=p1∧PT g.m w (x0:Int) p1∧e 3=p2∧PT g.m w (x1:List Int) p2∧e 4=v4∧OA 4004 g w 3 (bE:List Int) v4∧e 6=p4∧OB 2006 g w 3 (l8:Int) p4∧e 9=Iz (iE)∧e 10=mB∧OM 9045 g w 3 (yD:List Int) mB∧e 46=bG∧RV g.m w (x1:List Int) bG∧e 47=Iz (((x1).length:Int))∧e 48=Iz (o0)) (fun Q' hQ=>?_) (fun dQ sQ hR=>?_)
     ·replace h := hx
      clear hx;refine Zr (Z5 (Zo zD rfl ?_));obtain ⟨vF,nJ,h⟩:=Z1 h;refine Zx (Tb bG o0 1) (Zh (α:=Int) underlying25 sizeOf3 lG t5 zD nJ) rfl ?_;have oO:=Gx t5 nJ;refine Z4 rfl (Z6 (g:=cG) isAgg3 sizeOf3 rfl oO fun tQ pO=>?_);obtain rfl:=Zj.1 pO;refine Zg (Iz (o0)) rfl rfl (Zg (Iz (vF)) rfl rfl (Z3 (Z5 (Zo uE rfl (Zn (Iz (o0)) rfl rfl (Zo dI rfl (Z4 rfl (Z6 (g:=cG) isAgg3 sizeOf3 eG v8 fun uQ qO=>?_))))))));obtain rfl:=Zj.1 qO;refine Zn (Iz (vF)) rfl rfl (Z9 (Iz ((w64 (x0 * vF)))) rfl rfl rfl rfl (Z4 rfl (Tp (g:=cG) isAgg3 sizeOf3 gG l9 fun vQ rO=>?_)));obtain rfl:=Zj.1 rO;obtain ⟨y158,rN,h⟩:=Z1 h;refine Zx (Iz (y158)) (Gk rfl rfl (congrArg (Option.map (Value.int .i64)) rN)) rfl (Z4 rfl (Z7 (g:=cG) 3061 (xs:=([y158]:List Int)) (vs:=[Iz (y158)]) underlying25 sizeOf3 zeroValue3 rfl rfl (.cons rfl .nil) (RVs.cons (Zj.2 rfl) RVs.nil) rfl rfl fun sO xQ yQ hs o159 tO hxt hfl=>?_));have hfr:=hfr.stp hs;have v8:=v8.stp hs;have lB:=lB.stp hs;have oE:=oE.stp hs rfl;have l9:=l9.stp hs rfl;have n9:=n9.stp hs rfl;have t5:=t5.stp hs;obtain ⟨y161,sN,h⟩:=Z1 h;refine Z4 rfl (Ce (g:=sO) H5 (i:=4004) underlying25 Kr rfl rfl oE rfl tO sN fun uO zQ oH hs b160=>?_);have hfr:=hfr.stp hs;have v8:=v8.stp hs;have lB:=lB.stp hs;have l9:=l9.stp hs rfl;have n9:=n9.stp hs rfl;have t5:=t5.stp hs;refine Zn (Iz (o0)) rfl rfl (Zg oH rfl rfl ?_);obtain ⟨cO,oJ,h⟩:=Z1 h;refine Zx (Tb mB o0 1) (T2 (α:=Int) underlying25 sizeOf3 rfl n9 rfl oJ) rfl (Z4 rfl (Ys (g:=uO) (α:=Int) (a':=o0) sizeOf3 rfl n9 oJ rfl (Zj.2 rfl) fun eL aR hs b163=>?_));have hfr:=hfr.stp hs;have v8:=v8.stp hs;have lB:=lB.stp hs;have b160:=b160.stp hs rfl;have l9:=l9.stp hs rfl;have t5:=t5.stp hs;refine Z3 (Za (Zo iI rfl (Zn oH rfl rfl (Zn (Iz (o0)) rfl rfl ?_))));obtain ⟨zG,pJ,h⟩:=Z1 h;refine Zx (Tb oH o0 1) (T2 (α:=Int) underlying25 sizeOf3 rfl (b160.toM) rfl pJ) rfl (Z4 rfl (Ar (g:=eL) isAgg3 sizeOf3 rfl (b160.toM) pJ fun bR vO=>?_));obtain rfl:=Zj.1 vO;refine Z9 (Iz ((w64 (uC - zG)))) rfl rfl rfl rfl (Zg (Iz ((w64 (uC - zG)))) rfl rfl (Zb (Tj ?_)));obtain ⟨rfl,rfl,rfl⟩:=N0 h;exact hQ _ _ ⟨eL,(oH),hfr,eG,v8,bI,lB,rfl,b160,gG,l9,rfl,uE,b163,lG,t5,mG,zD⟩
     ·clear hx
      obtain ⟨xO,gL,hfr,iL,jL,lL,mL,nL,oL,xL,yL,zL,xJ,zJ,aK,bK,cK,dK⟩:=hR;refine Za (Z9 (Iz ((w64 (o0 + (1:Int))))) dK rfl rfl rfl (Zn (Iz ((w64 (o0 + (1:Int))))) rfl rfl ?_));exact Z3 (qN (bE,iE,yD,(w64 (o0 + (1:Int)))) _ _ ⟨xO,(gL),hfr,iL,jL,lL,mL,nL,oL,xL,yL,zL,xJ,zJ,aK,bK,cK,rfl⟩ h)
    ·refine G7 nH rfl (Tn (Gu (Gu (G8 ?_))))
     obtain ⟨rfl,rfl,rfl⟩:=N0 h;exact hQ _ _ ⟨cG,(dL),hfr,eG,v8,bI,lB,dI,oE,gG,l9,iI,uE,n9⟩
   ·clear hx
    obtain ⟨dR,g8,hfr,aM,iG,bM,jG,cM,vB,dM,eM,iM,sG,vE⟩:=hR;refine Z5 (Zo sG rfl ?_);obtain ⟨gp168,hs,rp168⟩:=OB.pub eM;have hfr:=hfr.stp hs;have iG:=iG.stp hs;have jG:=jG.stp hs;have vB:=vB.stp hs rfl;have vE:=vE.stp hs rfl;refine Zx ((.func (.func 69) #[] #[p1,p2,p4])) (W9 (Im (show ev _ _=p1 from aM) (show ev _ _=p2 from bM) (show ev _ _=p4 from dM))) rfl ?_;obtain ⟨qK,tN,h⟩:=Z1 h;refine Z4 rfl (Jv (g:=gp168) (i:=9045) (vs:=[mB,(.func (.func 69) #[] #[p1,p2,p4])]) en68 (.cons rfl (.cons rfl .nil)) (wk68 vE ⟨69,#[],#[p1,p2,p4],rfl,en69,fun g' w' hch a0 a1 b0 b1 r hu0 hu1 hr=>by obtain rfl:=Zj.1 hu0; obtain rfl:=Zj.1 hu1; exact Fn.mono (wk69  (iG.ch hch) (jG.ch hch) (rp168.ch hch) hr) fun _ _ _ h=>Zj.2 h⟩ tN) fun eR eQ gR hs hr=>?_);obtain ⟨hrv,b169⟩:=hr;have hfr:=hfr.stp hs;have vB:=vB.stp hs rfl;subst hrv;refine Z3 ?_;obtain ⟨yF,hx,h⟩:=Z1 h;refine Gl (fun e w=>∃ (g:Gh) ,Fr gI wI g w∧e 4=g8∧OA 4004 g w 3 (yF:List Int) g8) (fun Q' hQ=>?_) (fun gQ iR hR=>?_)
    ·replace h := hx
     clear hx;refine Z5 (Zo sG rfl (Zo iM rfl ?_));obtain ⟨gp192,hs,rp192⟩:=OM.pub b169;have hfr:=hfr.stp hs;have vB:=vB.stp hs rfl;obtain ⟨cC,qJ,h⟩:=Z1 h;have jM:=Rl rp192 qJ;refine Zx ((Kk mB (Int.toNat 0) (Int.toNat n8) 1)) (Ax underlying25 sizeOf3 rfl rp192 rfl rfl qJ) rfl (Zx (Iz ((cC).length:Int)) (Gz underlying25 rfl jM) rfl (Zn (Iz (0)) rfl rfl (Z3 (Zr (Q0 h (fun (s:(List Int) × Int) e w=>∃ (g:Gh) ,Fr gI wI g w∧e 4=g8∧OA 4004 g w 3 (s.1:List Int) g8∧e 77=(Kk mB (Int.toNat 0) (Int.toNat n8) 1)∧RV g.m w (cC:List Int) (Kk mB (Int.toNat 0) (Int.toNat n8) 1)∧e 78=Iz (((cC).length:Int))∧e 79=Iz (s.2)) ⟨gp192,hfr,cM,vB,rfl,jM,rfl,rfl⟩ (fun X195 sK uN=>?_))))));rintro ⟨vC,l5⟩ iQ jR ⟨pH,hfr,kG,nD,xG,zB,yG,xE⟩ h;refine Z5 (Z9 (.bool ((decide (l5 < ((cC).length:Int))))) xE yG rfl rfl (Z3 (Zf ?_)));rcases Zt h with ⟨qH,h⟩ | ⟨qH,h⟩
     ·refine G6 qH rfl (Zu (Zd ?_))
      obtain ⟨lE,hx,h⟩:=Z1 h;refine Gl (fun e w=>∃ (g:Gh) ,Fr gI wI g w∧e 4=g8∧OA 4004 g w 3 (lE:List Int) g8∧e 77=(Kk mB (Int.toNat 0) (Int.toNat n8) 1)∧RV g.m w (cC:List Int) (Kk mB (Int.toNat 0) (Int.toNat n8) 1)∧e 78=Iz (((cC).length:Int))∧e 79=Iz (l5)) (fun Q' hQ=>?_) (fun jQ lR hR=>?_)
      ·replace h := hx
       clear hx;refine Zr (Z5 ?_);obtain ⟨bD,rJ,h⟩:=Z1 h;refine Zx (Tb ((Kk mB (Int.toNat 0) (Int.toNat n8) 1)) l5 1) (Zh (α:=Int) underlying25 sizeOf3 xG zB xE rJ) rfl ?_;have yO:=Gx zB rJ;refine Z4 rfl (Z6 (g:=pH) isAgg3 sizeOf3 rfl yO fun mR zO=>?_);obtain rfl:=Zj.1 zO;refine Zg (Iz (bD)) rfl rfl (Z3 (Za (Zo kG rfl (Zn (Iz (bD)) rfl rfl ?_))));obtain ⟨aH,sJ,h⟩:=Z1 h;refine Zx (Tb g8 bD 1) (T2 (α:=Int) underlying25 sizeOf3 rfl (nD.toM) rfl sJ) rfl (Z4 rfl (Ar (g:=pH) isAgg3 sizeOf3 rfl (nD.toM) sJ fun nR aP=>?_));obtain rfl:=Zj.1 aP;refine Z9 (Iz ((w64 (aH + (1:Int))))) rfl rfl rfl rfl ?_;obtain ⟨dO,vJ,h⟩:=Z1 h;refine Zx (Tb g8 bD 1) (T2 (α:=Int) underlying25 sizeOf3 rfl (nD.toM) rfl vJ) rfl (Z4 rfl (Oo (g:=pH) (α:=Int) (a':=((w64 (aH + (1:Int))))) sizeOf3 rfl nD vJ rfl (Zj.2 rfl) fun bP oR hs b211=>?_));have hfr:=hfr.stp hs;have zB:=zB.stp hs;refine Zb (Tj ?_);obtain rfl:=sinj h;exact hQ _ _ ⟨bP,hfr,kG,b211,xG,zB,yG,xE⟩
      ·clear hx
       obtain ⟨cP,hfr,kM,pM,lK,mK,nK,oK⟩:=hR;refine Za (Z9 (Iz ((w64 (l5 + (1:Int))))) oK rfl rfl rfl (Zn (Iz ((w64 (l5 + (1:Int))))) rfl rfl ?_));exact Z3 (uN (lE,(w64 (l5 + (1:Int)))) _ _ ⟨cP,hfr,kM,pM,lK,mK,nK,rfl⟩ h)
     ·refine G7 qH rfl (Tn (Gu (Gu (G8 ?_))))
      obtain rfl:=sinj h;exact hQ _ _ ⟨pH,hfr,kG,nD⟩
    ·clear hx
     obtain ⟨pR,hfr,qM,rM⟩:=hR;refine Z5 (Zo qM rfl (Zg g8 rfl rfl (Zg (Iz (0)) rfl rfl (Z3 (Ga ?_)))));obtain ⟨gp214,hs,rp214⟩:=OM.pub (rM.toM);have hfr:=hfr.stp hs;obtain rfl:=sinj h;exact Jq rfl rfl (rq g8) (rq (Iz (0))) ⟨_,hfr,_,_,rfl,rp214,rfl⟩
def f38 (x0:Z2):Option (Bool):=
 Option.bind (α:=Bool) (
  (f78 ((0:Int)) ((65535:Int)) (([(x0).Day]:List Int))).bind fun n8=>
  bif n8 then
   (f78 ((0:Int)) ((15:Int)) (([(x0).Loom]:List Int))).bind fun g8=>
   bif g8 then
    (f78 ((0:Int)) ((7:Int)) (([(x0).Chain,(x0).Tie]:List Int))).bind fun l8=>
    bif l8 then
     (f78 ((1:Int)) ((60:Int)) (([(x0).Picks]:List Int))).bind fun v8=>
     some (v8)
    else
     some (false)
   else
    some (false)
  else
   some (false)
  ) fun i6=>
 some (i6)
theorem en38:Enters prog 38:=enters_of func38 (by kernel_rfl) rfl
theorem wk38 {gI:Gh} {wI:World} {x0:Z2} {up0:Value} (rp0:RV gI.m wI x0 up0) {r:Bool} (h:f38 x0=some r):Fn prog 38 #[up0] gI wI (fun _ _ v=>v=.bool (r)):=by
 unfold f38 at h;refine fnE func38 rfl rfl fun g0 hm hfr=>?_;have rp0:=RVc hm rp0;show E _ 27 none _ _ _ _ _;refine Z5 (Z4 rfl (Tv (g:=g0) rfl rp0 fun g1 w1 p1 hs q1=>?_));have hfr:=hfr.ext hs;refine Zg (.bool false) rfl rfl (Z3 ?_);obtain ⟨i6,hx,h⟩:=Z1 h;refine Gl (fun e w=>∃ (g:Gh) ,Fr gI wI g w∧e 2=.bool (i6)) (fun Q' hQ=>?_) (fun zE sF hR=>?_)
 ·replace h := hx
  clear hx;refine Za (Zx (Z8 p1 0) (Zc Yd rfl (PT.ptr q1)) rfl ?_);have yB:=Zm (Qz).1 q1;refine Z4 rfl (Z6 (g:=g1) isAgg3 sizeOf3 rfl yB fun tF zB=>?_);obtain rfl:=Zj.1 zB;refine Z4 rfl (Z7 (g:=g1) 3005 (xs:=([(x0).Day]:List Int)) (vs:=[Iz ((x0).Day)]) underlying25 sizeOf3 zeroValue3 rfl rfl (.cons rfl .nil) (RVs.cons (Zj.2 rfl) RVs.nil) rfl rfl fun cC w29 uC hs o29 vC hxt hfl=>?_);have hfr:=hfr.stp hs;have q1:=q1.stp hs;obtain ⟨n8,mB,h⟩:=Z1 h;refine Z4 rfl (Zp (g:=cC) (vs:=[Iz (0),Iz (65535),uC]) en78 (.cons rfl (.cons rfl (.cons rfl .nil))) (wk78 vC mB) fun n9 cF uF hs hr=>?_);have hfr:=hfr.ext hs;have q1:=q1.ext hs;subst hr;refine Zn (.bool (n8)) rfl rfl ?_;rcases Zt h with ⟨l5,h⟩ | ⟨l5,h⟩
  ·refine Zy (Z8 p1 1) (Zc Hw rfl (PT.ptr q1)) rfl rfl l5 rfl ?_
   have bD:=Zm (Qg).1 q1;refine Ze (.yes2 rfl rfl l5) rfl (Z6 (g:=n9) isAgg3 sizeOf3 rfl bD fun vF cD=>?_);obtain rfl:=Zj.1 cD;refine Ze (.yes2 rfl rfl l5) rfl (Z7 (g:=n9) 3010 (xs:=([(x0).Loom]:List Int)) (vs:=[Iz ((x0).Loom)]) underlying25 sizeOf3 zeroValue3 rfl rfl (.cons rfl .nil) (RVs.cons (Zj.2 rfl) RVs.nil) rfl rfl fun lD xF nD hs o35 oD hxt hfl=>?_);have hfr:=hfr.stp hs;have q1:=q1.stp hs;obtain ⟨g8,nB,h⟩:=Z1 h;refine Ze (.yes2 rfl rfl l5) rfl (Zp (g:=lD) (vs:=[Iz (0),Iz (15),nD]) en78 (.cons rfl (.cons rfl (.cons rfl .nil))) (wk78 oD nB) fun l9 dF yF hs hr=>?_);have hfr:=hfr.ext hs;have q1:=q1.ext hs;subst hr;refine Zx (.bool (g8)) (Zl (b:=n8) rfl (G4 l5 rfl)) rfl (Zn (.bool (g8)) rfl rfl ?_);rcases Zt h with ⟨o0,h⟩ | ⟨o0,h⟩
   ·refine Zy (Z8 p1 2) (Zc Vx rfl (PT.ptr q1)) rfl rfl o0 rfl ?_
    have yD:=Zm (Wt).1 q1;refine Ze (.yes2 rfl rfl o0) rfl (Z6 (g:=l9) isAgg3 sizeOf3 rfl yD fun aG zD=>?_);obtain rfl:=Zj.1 zD;refine Zy (Z8 p1 3) (Zc B0 rfl (PT.ptr q1)) rfl rfl o0 rfl ?_;have aE:=Zm (K4).1 q1;refine Ze (.yes2 rfl rfl o0) rfl (Z6 (g:=l9) isAgg3 sizeOf3 rfl aE fun bG bE=>?_);obtain rfl:=Zj.1 bE;refine Ze (.yes2 rfl rfl o0) rfl (Z7 (g:=l9) 3018 (xs:=([(x0).Chain,(x0).Tie]:List Int)) (vs:=[Iz ((x0).Chain),Iz ((x0).Tie)]) underlying25 sizeOf3 zeroValue3 rfl rfl (.cons rfl (.cons rfl .nil)) (RVs.cons (Zj.2 rfl) (RVs.cons (Zj.2 rfl) RVs.nil)) rfl rfl fun iE cG lE hs o43 mE hxt hfl=>?_);have hfr:=hfr.stp hs;have q1:=q1.stp hs;obtain ⟨l8,oB,h⟩:=Z1 h;refine Ze (.yes2 rfl rfl o0) rfl (Zp (g:=iE) (vs:=[Iz (0),Iz (7),lE]) en78 (.cons rfl (.cons rfl (.cons rfl .nil))) (wk78 mE oB) fun aB eF eG hs hr=>?_);have hfr:=hfr.ext hs;have q1:=q1.ext hs;subst hr;refine Zx (.bool (l8)) (Zl (b:=g8) rfl (G4 o0 rfl)) rfl (Zn (.bool (l8)) rfl rfl ?_);rcases Zt h with ⟨t5,h⟩ | ⟨t5,h⟩
    ·refine Zy (Z8 p1 4) (Zc Vu rfl (PT.ptr q1)) rfl rfl t5 rfl ?_
     have oE:=Zm (Wv).1 q1;refine Ze (.yes2 rfl rfl t5) rfl (Z6 (g:=aB) isAgg3 sizeOf3 rfl oE fun gG rE=>?_);obtain rfl:=Zj.1 rE;refine Ze (.yes2 rfl rfl t5) rfl (Z7 (g:=aB) 3024 (xs:=([(x0).Picks]:List Int)) (vs:=[Iz ((x0).Picks)]) underlying25 sizeOf3 zeroValue3 rfl rfl (.cons rfl .nil) (RVs.cons (Zj.2 rfl) RVs.nil) rfl rfl fun uE iG vE hs o49 xE hxt hfl=>?_);have hfr:=hfr.stp hs;obtain ⟨v8,vB,h⟩:=Z1 h;refine Ze (.yes2 rfl rfl t5) rfl (Zp (g:=uE) (vs:=[Iz (1),Iz (60),vE]) en78 (.cons rfl (.cons rfl (.cons rfl .nil))) (wk78 xE vB) fun yE rF jG hs hr=>?_);have hfr:=hfr.ext hs;subst hr;refine Zx (.bool (v8)) (Zl (b:=l8) rfl (G4 t5 rfl)) rfl (Zg (.bool (v8)) rfl rfl (Zb ?_));obtain rfl:=sinj h;exact hQ _ _ ⟨yE,hfr,rfl⟩
    ·refine Zz rfl rfl t5 rfl rfl ?_
     iterate 3 refine Zz rfl rfl t5 rfl rfl ?_
     refine Zx (.bool false) (Zl (b:=l8) rfl (G5 t5 rfl)) rfl (Zg (.bool false) rfl rfl (Zb ?_));obtain rfl:=sinj h;exact hQ _ _ ⟨aB,hfr,rfl⟩
   ·refine Zz rfl rfl o0 rfl rfl ?_
    iterate 5 refine Zz rfl rfl o0 rfl rfl ?_
    refine Zx (.bool false) (Zl (b:=g8) rfl (G5 o0 rfl)) rfl (Qv 6 rfl (Zg (.bool false) rfl rfl (Zb ?_)));obtain rfl:=sinj h;exact hQ _ _ ⟨l9,hfr,rfl⟩
  ·refine Zz rfl rfl l5 rfl rfl ?_
   iterate 3 refine Zz rfl rfl l5 rfl rfl ?_
   refine Zx (.bool false) (Zl (b:=n8) rfl (G5 l5 rfl)) rfl (Qv 14 rfl (Zg (.bool false) rfl rfl (Zb ?_)));obtain rfl:=sinj h;exact hQ _ _ ⟨n9,hfr,rfl⟩
 ·clear hx
  obtain ⟨kG,hfr,lB⟩:=hR;refine Ga ?_;obtain rfl:=sinj h;exact Tg rfl rfl (show _=.bool (i6) from lB) ⟨_,hfr,rfl⟩
def f47 (x0:TieHarness):Option (Int):=
 jn (σ:=Unit) (fun _=>
  some ((0:Int))
  ) fun v8=>
 (f83 ((1:Int)) ((24:Int)) (([(x0).Hooks]:List Int))).bind fun l8=>
 bif (!l8) then
  some ((2:Int))
 else
  bif (decide ((((x0).Warps).length : Int) > (96 : Int))) then
   some ((5:Int))
  else
   bif ((((x0).Warps).length : Int) == (0 : Int)) then
    some ((7:Int))
   else
    (f83 ((0:Int)) ((w64 ((x0).Hooks - (1:Int)))) ((x0).Warps)).bind fun n8=>
    bif (!n8) then
     some ((2:Int))
    else
     v8 ()
theorem en47:Enters prog 47:=enters_of func47 (by kernel_rfl) rfl
theorem wk47 {gI:Gh} {wI:World} {x0:TieHarness} {up0:Value} (rp0:RV gI.m wI x0 up0) {r:Int} (h:f47 x0=some r):Fn prog 47 #[up0] gI wI (fun _ _ v=>v=Iz (r)):=by
 unfold f47 at h;refine fnE func47 rfl rfl fun g0 hm hfr=>?_;have rp0:=RVc hm rp0;show E _ 27 none _ _ _ _ _;refine Z5 (Z4 rfl (Tv (g:=g0) rfl rp0 fun g1 w1 p1 hs q1=>?_));have hfr:=hfr.ext hs;refine Zg (Iz (0)) rfl rfl (Z3 (Zq h (fun (s:Unit) e w=>∃ (g:Gh) ,Fr gI wI g w) (fun X21 v8 l9 h=>?_) ?_))
 ·refine Zr (Z5 (Zx (Z8 p1 0) (Zc Vk rfl (PT.ptr q1)) rfl ?_))
  have lB:=Zm (Wf).1 q1;refine Z4 rfl (Z6 (g:=g1) isAgg3 sizeOf3 rfl lB fun bE mB=>?_);obtain rfl:=Zj.1 mB;refine Z4 rfl (Z7 (g:=g1) 3006 (xs:=([(x0).Hooks]:List Int)) (vs:=[Iz ((x0).Hooks)]) underlying25 sizeOf3 zeroValue3 rfl rfl (.cons rfl .nil) (RVs.cons (Zj.2 rfl) RVs.nil) rfl rfl fun nB iE oB hs o24 vB hxt hfl=>?_);have hfr:=hfr.stp hs;have q1:=q1.stp hs;obtain ⟨l8,n9,h⟩:=Z1 h;refine Z4 rfl (Zp (g:=nB) (vs:=[Iz (1),Iz (24),oB]) en83 (.cons rfl (.cons rfl (.cons rfl .nil))) (wk83 vB n9) fun o0 yD lE hs hr=>?_);have hfr:=hfr.ext hs;have q1:=q1.ext hs;subst hr;refine Zx (.bool (!l8)) (Qm rfl) rfl (Zg (.bool (!l8)) rfl rfl (Z3 ?_));rcases Zt h with ⟨l5,h⟩ | ⟨l5,h⟩
  ·refine G6 l5 rfl (Z5 (Zg (Iz (2)) rfl rfl (Z3 (Ga (Tl (Gp ?_))))))
   obtain rfl:=sinj h;exact Tg rfl rfl (rq (Iz (2))) ⟨_,hfr,rfl⟩
  ·refine G7 l5 rfl (Z5 (Zx (Z8 p1 1) (Zc Hr rfl (PT.ptr q1)) rfl ?_))
   have yB:=Zm (Qc).1 q1;refine Z4 rfl (Z6 (g:=o0) isAgg25 sizeOf25 rfl yB fun mE zB=>(Zx (Iz (((x0).Warps).length:Int)) (Gz underlying25 rfl zB) rfl (Zx (.bool ((decide ((((x0).Warps).length:Int) > (96:Int))))) (Gk rfl rfl rfl) rfl (Zx (.bool ((decide ((((x0).Warps).length:Int) > (96:Int))))) (Te rfl) rfl (Z3 ?_)))));rcases Zt h with ⟨t5,h⟩ | ⟨t5,h⟩
   ·refine G6 t5 rfl (Z5 (Zg (Iz (5)) rfl rfl (Z3 (Ga (Tl (Gp ?_))))))
    obtain rfl:=sinj h;exact Tg rfl rfl (rq (Iz (5))) ⟨_,hfr,rfl⟩
   ·refine G7 t5 rfl (Z5 (Zx (Z8 p1 1) (Zc Hr rfl (PT.ptr q1)) rfl ?_))
    have cC:=Zm (Qc).1 q1;refine Z4 rfl (Z6 (g:=o0) isAgg25 sizeOf25 rfl cC fun oE uC=>(Zx (Iz (((x0).Warps).length:Int)) (Gz underlying25 rfl uC) rfl (Z9 (.bool (((((x0).Warps).length:Int) == (0:Int)))) rfl rfl rfl rfl (Zg (.bool (((((x0).Warps).length:Int) == (0:Int)))) rfl rfl (Z3 ?_)))));rcases Zt h with ⟨i6,h⟩ | ⟨i6,h⟩
    ·refine G6 i6 rfl (Z5 (Zg (Iz (7)) rfl rfl (Z3 (Ga (Tl (Gp ?_))))))
     obtain rfl:=sinj h;exact Tg rfl rfl (rq (Iz (7))) ⟨_,hfr,rfl⟩
    ·refine G7 i6 rfl (Z5 (Zx (Z8 p1 0) (Zc Vk rfl (PT.ptr q1)) rfl ?_))
     have vC:=Zm (Wf).1 q1;refine Z4 rfl (Z6 (g:=o0) isAgg3 sizeOf3 rfl vC fun rE bD=>?_);obtain rfl:=Zj.1 bD;refine Z9 (Iz ((w64 ((x0).Hooks - (1:Int))))) rfl rfl rfl rfl (Zx (Z8 p1 1) (Zc Hr rfl (PT.ptr q1)) rfl ?_);have cD:=Zm (Qc).1 q1;refine Z4 rfl (Z6 (g:=o0) isAgg25 sizeOf25 rfl cD fun lD nD=>?_);obtain ⟨n8,aB,h⟩:=Z1 h;refine Z4 rfl (Zp (g:=o0) (vs:=[Iz (0),Iz ((w64 ((x0).Hooks - (1:Int)))),lD]) en83 (.cons rfl (.cons rfl (.cons rfl .nil))) (wk83 nD aB) fun oD zD uE hs hr=>?_);have hfr:=hfr.ext hs;subst hr;refine Zx (.bool (!n8)) (Qm rfl) rfl (Zg (.bool (!n8)) rfl rfl (Z3 ?_));rcases Zt h with ⟨g8,h⟩ | ⟨g8,h⟩
     ·refine G6 g8 rfl (Z5 (Zg (Iz (2)) rfl rfl (Z3 (Ga (Tl (Gp ?_))))))
      obtain rfl:=sinj h;exact Tg rfl rfl (rq (Iz (2))) ⟨_,hfr,rfl⟩
     ·refine G7 g8 rfl ?_
      exact Zu (Tj (Zd (l9 () _ _ ⟨oD,hfr⟩ h)))
 ·rintro _ aE vE ⟨xE, hfr⟩ h
  refine Z5 (Zg (Iz (0)) rfl rfl (Z3 (Ga ?_)));obtain rfl:=sinj h;exact Tg rfl rfl (rq (Iz (0))) ⟨_,hfr,rfl⟩
def f59 (x0:TieHarness) (x1:Design):Option ((List Str) × Int):=
 jn (σ:=Unit) (fun _=>
  jn (σ:=Unit) (fun _=>
   Option.bind (α:=(List Str)) (
    lp (σ:=(List Str) × Int) (fun cG (nB,o0)=>
     bif (decide (o0 < (((x1).Rows).length : Int))) then
      Option.bind (α:=(List Str)) (
       (idx ((x1).Rows) o0).bind fun yB=>
       (f98 ((⟨x0⟩:Qp)) yB).bind fun y81=>
       (apnd 16 nB (([y81]:List Str))).bind fun y84=>
       some (y84)
       ) fun l9=>
      cG (l9,(w64 (o0 + (1:Int))))
     else
      some (nB)
     ) big ([],(0:Int))
    ) fun lB=>
   some (lB,(0:Int))
   ) fun eG=>
  (f97 x1).bind fun n8=>
  bif (n8 != (0 : Int)) then
   some ([],n8)
  else
   bif ((x1).Hooks != (x0).Hooks) then
    some ([],(4:Int))
   else
    eG ()
  ) fun k7=>
 (f47 x0).bind fun n9=>
 bif (n9 != (0 : Int)) then
  some ([],n9)
 else
  k7 ()
theorem en59:Enters prog 59:=enters_of func59 (by kernel_rfl) rfl
theorem wk59 {gI:Gh} {wI:World} {x0:TieHarness} {x1:Design} {up0:Value} (rp0:RV gI.m wI x0 up0) {up1:Value} (rp1:RV gI.m wI x1 up1) {r:(List Str) × Int} (h:f59 x0 x1=some r):Fn prog 59 #[up0,up1] gI wI (fun m w v=>∃ y0 y1,v=.tuple #[y0,y1]∧RV m w (r.1) y0∧y1=Iz (r.2)):=by
 unfold f59 at h;refine fnE func59 rfl rfl fun g0 hm hfr=>?_;have rp0:=RVc hm rp0;have rp1:=RVc hm rp1;show E _ 43 none _ _ _ _ _;refine Z5 (Z4 rfl (Tv (g:=g0) rfl rp0 fun g1 w1 p1 hs q1=>?_));have hfr:=hfr.ext hs;have rp1:=rp1.ext hs;refine Z4 rfl (Tv (g:=g1) rfl rp1 fun g2 w2 p2 hs q2=>?_);have hfr:=hfr.ext hs;have q1:=q1.ext hs;refine Zg (.slice none 0 0) rfl rfl (Zg (Iz (0)) rfl rfl (Z3 (Zq h (fun (s:Unit) e w=>∃ (g:Gh) ,Fr gI wI g w∧e 2=p1∧PT g.m w (x0:TieHarness) p1∧e 3=p2∧PT g.m w (x1:Design) p2∧e 4=.slice none 0 0∧RV g.m w ([]:List Str) (Value.slice none 0 0)) (fun X7 k7 hk7 h=>?_) ?_)))
 ·refine Z5 (Z4 rfl (Z6 (g := g2) isAgg27 sizeOf27 rfl q1 fun v8 r8 => ?_))
  obtain ⟨n9,xG,h⟩:=Z1 h;refine Z4 rfl (Zp (g:=g2) (vs:=[v8]) en47 (.cons rfl .nil) (wk47 r8 xG) fun g9 w9_ v9 hs hr=>?_);have hfr:=hfr.ext hs;have q1:=q1.ext hs;have q2:=q2.ext hs;subst hr;refine Zg (Iz (n9)) rfl rfl (Z3 (Z5 (Zn (Iz (n9)) rfl rfl (Z9 (.bool ((n9 != (0:Int)))) rfl rfl rfl rfl (Z3 ?_)))));rcases Zt h with ⟨bD,h⟩ | ⟨bD,h⟩
  ·refine G6 bD rfl (Z5 (Zn (Iz (n9)) rfl rfl (Zg (.slice none 0 0) rfl rfl (Zg (Iz (n9)) rfl rfl (Z3 (Ga (Gp ?_)))))))
   obtain rfl:=sinj h;exact Jq rfl rfl (rq (.slice none 0 0)) (rq (Iz (n9))) ⟨_,hfr,_,_,rfl,T0,rfl⟩
  ·refine G7 bD rfl ?_
   exact Zu (Zd (hk7 () _ _ ⟨g9,hfr,rfl,q1,rfl,q2,rfl,T0⟩ h))
 ·rintro _ iI qI ⟨gG, hfr, oD, aB, oB, i6, xE, vB⟩ h
  refine Zq h (fun (s:Unit) e w=>∃ (g:Gh) ,Fr gI wI g w∧e 2=p1∧PT g.m w (x0:TieHarness) p1∧e 3=p2∧PT g.m w (x1:Design) p2∧e 4=.slice none 0 0∧RV g.m w ([]:List Str) (Value.slice none 0 0)) (fun X22 eG yG h=>?_) ?_
  ·refine Z5 (Z4 rfl (Z6 (g := gG) isAgg29 sizeOf29 oB i6 fun kH lH => ?_))
   obtain ⟨n8,zG,h⟩:=Z1 h;refine Z4 rfl (Zp (g:=gG) (vs:=[kH]) en97 (.cons rfl .nil) (wk97 lH zG) fun iE jI sI hs hr=>?_);have hfr:=hfr.ext hs;have aB:=aB.ext hs;have i6:=i6.ext hs;have vB:=vB.ext hs;subst hr;refine Zg (Iz (n8)) rfl rfl (Z3 (Zr (Z5 (Zn (Iz (n8)) rfl rfl (Z9 (.bool ((n8 != (0:Int)))) rfl rfl rfl rfl (Zg (.bool ((n8 != (0:Int)))) rfl rfl (Z3 ?_)))))));rcases Zt h with ⟨cD,h⟩ | ⟨cD,h⟩
   ·refine G6 cD rfl (Z5 (Zn (Iz (n8)) rfl rfl (Zg (.slice none 0 0) rfl rfl (Zg (Iz (n8)) rfl rfl (Z3 (Ga (Tl (Gp ?_))))))))
    obtain rfl:=sinj h;exact Jq rfl rfl (rq (.slice none 0 0)) (rq (Iz (n8))) ⟨_,hfr,_,_,rfl,T0,rfl⟩
   ·refine G7 cD rfl (Z5 (Zx (Z8 p2 0) (Zc Yi oB (PT.ptr i6)) rfl ?_))
    have mH:=Zm (Wr).1 i6;refine Z4 rfl (Z6 (g:=iE) isAgg3 sizeOf3 rfl mH fun jJ nH=>?_);obtain rfl:=Zj.1 nH;refine Zx (Z8 p1 0) (Zc Vk oD (PT.ptr aB)) rfl ?_;have oH:=Zm (Wf).1 aB;refine Z4 rfl (Z6 (g:=iE) isAgg3 sizeOf3 rfl oH fun kJ pH=>?_);obtain rfl:=Zj.1 pH;refine Z9 (.bool (((x1).Hooks != (x0).Hooks))) rfl rfl rfl rfl (Zg (.bool (((x1).Hooks != (x0).Hooks))) rfl rfl (Z3 ?_));rcases Zt h with ⟨lD,h⟩ | ⟨lD,h⟩
    ·refine G6 lD rfl (Z5 (Zg (.slice none 0 0) rfl rfl (Zg (Iz (4)) rfl rfl (Z3 (Ga (Tl (Gp ?_)))))))
     obtain rfl:=sinj h;exact Jq rfl rfl (rq (.slice none 0 0)) (rq (Iz (4))) ⟨_,hfr,_,_,rfl,T0,rfl⟩
    ·refine G7 lD rfl ?_
     exact Zu (Tj (Zd (yG () _ _ ⟨iE,hfr,oD,aB,oB,i6,xE,vB⟩ h)))
  ·rintro _ kI lJ ⟨iG, hfr, yE, zE, cF, yD, dF, eF⟩ h
   obtain ⟨lB,hx,h⟩:=Z1 h;refine Gl (fun e w=>∃ (g:Gh) (v4:Value),Fr gI wI g w∧e 4=v4∧RV g.m w (lB:List Str) v4∧OS 1004 g w 9 (lB:List Str) v4) (fun Q' hQ=>?_) (fun lI mJ hR=>?_)
   ·replace h := hx
    clear hx;refine Z5 (Zx (Z8 p2 1) (Zc Ye cF (PT.ptr yD)) rfl ?_);have qH:=Zm (Wq).1 yD;refine Z4 rfl (Z6 (g:=iG) isAgg25 sizeOf25 rfl qH fun zB jG=>(Zx (Iz (((x1).Rows).length:Int)) (Gz underlying25 rfl jG) rfl (Zn (Iz (0)) rfl rfl (Z3 (Zr (Q0 h (fun (s:(List Str) × Int) e w=>∃ (g:Gh) (v4:Value),Fr gI wI g w∧e 2=p1∧PT g.m w (x0:TieHarness) p1∧e 4=v4∧RV g.m w (s.1:List Str) v4∧OS 1004 g w 9 (s.1:List Str) v4∧e 28=zB∧RV g.m w ((x1).Rows:List Int) zB∧e 29=Iz ((((x1).Rows).length:Int))∧e 30=Iz (s.2)) ⟨iG,(.slice none 0 0),hfr,yE,zE,dF,eF,OS.nil,rfl,jG,rfl,rfl⟩ (fun X61 cG aH=>?_)))))));rintro ⟨nB,o0⟩ mI nJ ⟨cC,rF,hfr,zD,t5,aE,g8,l8,uC,l5,vC,mB⟩ h;refine Z5 (Zx (.bool ((decide (o0 < (((x1).Rows).length:Int))))) (Gk mB vC rfl) rfl (Z3 (Zf ?_)));rcases Zt h with ⟨nD,h⟩ | ⟨nD,h⟩
    ·refine G6 nD rfl (Zu (Zd ?_))
     obtain ⟨l9,hx,h⟩:=Z1 h;refine Gl (fun e w=>∃ (g:Gh) (v4:Value),Fr gI wI g w∧e 2=p1∧PT g.m w (x0:TieHarness) p1∧e 4=v4∧RV g.m w (l9:List Str) v4∧OS 1004 g w 9 (l9:List Str) v4∧e 28=zB∧RV g.m w ((x1).Rows:List Int) zB∧e 29=Iz ((((x1).Rows).length:Int))∧e 30=Iz (o0)) (fun Q' hQ=>?_) (fun nI oJ hR=>?_)
     ·replace h := hx
      clear hx;refine Zr (Z5 ?_);obtain ⟨yB,lE,h⟩:=Z1 h;refine Zx (Tb zB o0 1) (Zh (α:=Int) underlying25 sizeOf3 uC l5 mB lE) rfl ?_;have sH:=Gx l5 lE;refine Z4 rfl (Z6 (g:=cC) isAgg3 sizeOf3 rfl sH fun pJ tH=>?_);obtain rfl:=Zj.1 tH;refine Zg (Iz (yB)) rfl rfl (Z3 (Za (Zo aE rfl (Z4 rfl (Z6 (g:=cC) isAgg27 sizeOf27 zD t5 fun mE kG=>?_)))));have lG:RV cC.m _ (⟨x0⟩:Qp) (.agg (Td [[Iz 0,.slice none 0 0]] [(0,mE)]).flatten.toArray):=Tc rfl (Tf (RV.cells kG));generalize cH:(Value.agg (Td [[Iz 0,.slice none 0 0]] [(0,mE)]).flatten.toArray)=mG at lG;refine Zx mG (cH ▸ Tu (vs:=[(0,mE)]) [[Iz 0,.slice none 0 0]] Er rfl rfl (.cons rfl .nil) ⟨⟨_,rfl,Ti kG⟩,trivial⟩) rfl (Zn (Iz (yB)) rfl rfl ?_);obtain ⟨y81,gH,h⟩:=Z1 h;refine Z4 rfl (Zp (g:=cC) (vs:=[mG,Iz (yB)]) en98 (.cons rfl (.cons rfl .nil)) (wk98 lG gH) fun uH pI qJ hs hr=>?_);have hfr:=hfr.ext hs;have t5:=t5.ext hs;have g8:=g8.ext hs;have l8:=l8.ext hs;have l5:=l5.ext hs;subst hr;refine Z4 rfl (Z7 (g:=uH) 3039 (xs:=([y81]:List Str)) (vs:=[Str.v (y81)]) underlying66 sizeOf9 zeroValue9 rfl rfl (.cons rfl .nil) (RVs.cons (Kv.2 rfl) RVs.nil) rfl rfl fun xH rJ sJ hs o82 yH hxt hfl=>?_);have hfr:=hfr.stp hs;have t5:=t5.stp hs;have g8:=g8.stp hs;have l8:=l8.stp hs rfl;have l5:=l5.stp hs;obtain ⟨y84,jH,h⟩:=Z1 h;refine Z4 rfl (T5 (g:=xH) (i:=1004) underlying66 Rm rfl rfl l8 g8 rfl yH jH fun zH vJ sG hs o83 aI _=>?_);have hfr:=hfr.stp hs;have t5:=t5.stp hs;have l5:=l5.stp hs;refine Zg sG rfl rfl (Zb (Tj ?_));obtain rfl:=sinj h;exact hQ _ _ ⟨zH,(sG),hfr,zD,t5,rfl,aI,o83,uC,l5,vC,mB⟩
     ·clear hx
      obtain ⟨bI,sF,hfr,tF,uF,vF,xF,yF,oE,rE,uE,vE⟩:=hR;refine Za (Z9 (Iz ((w64 (o0 + (1:Int))))) vE rfl rfl rfl (Zn (Iz ((w64 (o0 + (1:Int))))) rfl rfl ?_));exact Z3 (aH (l9,(w64 (o0 + (1:Int)))) _ _ ⟨bI,(sF),hfr,tF,uF,vF,xF,yF,oE,rE,uE,rfl⟩ h)
    ·refine G7 nD rfl (Tn (Gu (Gu (G8 ?_))))
     obtain rfl:=sinj h;exact hQ _ _ ⟨cC,(rF),hfr,aE,g8,l8⟩
   ·clear hx
    obtain ⟨xJ,bE,hfr,aG,bG,dI⟩:=hR;refine Z5 (Zo aG rfl (Zg bE rfl rfl (Zg (Iz (0)) rfl rfl (Z3 (Ga ?_)))));obtain rfl:=sinj h;exact Jq rfl rfl (rq bE) (rq (Iz (0))) ⟨_,hfr,_,_,rfl,bG,rfl⟩
def f60 (x0:Gy):Option (Bool):=
 jn (σ:=Unit) (fun _=>
  some ((decide (((((x0).PayList).Rates).length:Int) > (0:Int))))
  ) fun oE=>
 lp (σ:=Int × Int × Int) (fun rE (lB,mB,t5)=>
  bif (decide (t5 < ((((x0).PayList).Rates).length : Int))) then
   jn (σ:=Int × Int) (fun (nB,oB)=>
    rE (nB,oB,(w64 (t5 + (1:Int))))
    ) fun uE=>
   (idx (((x0).PayList).Rates) t5).bind fun i6=>
   jn (σ:=Unit) (fun _=>
    uE ((w64 ((i6).From + (1:Int))),(1000:Int))
    ) fun vE=>
   Option.bind (α:=Bool) (
    (f62 lB mB (([(i6).From]:List Int))).bind fun n9=>
    bif (!n9) then
     some (true)
    else
     (f62 ((0:Int)) ((10000:Int)) (([(i6).Rate]:List Int))).bind fun cC=>
     some ((!cC))
    ) fun l8=>
   bif l8 then
    some (false)
   else
    vE ()
  else
   oE ()
  ) big ((0:Int),(0:Int),(0:Int))
theorem en60:Enters prog 60:=enters_of func60 (by kernel_rfl) rfl
theorem wk60 {gI:Gh} {wI:World} {x0:Gy} {up0:Value} (rp0:RV gI.m wI x0 up0) {r:Bool} (h:f60 x0=some r):Fn prog 60 #[up0] gI wI (fun _ _ v=>v=.bool (r)):=by
 unfold f60 at h;refine fnE func60 rfl rfl fun g0 hm hfr=>?_;have rp0:=RVc hm rp0;show E _ 38 none _ _ _ _ _;refine Z5 (Z4 rfl (Tv (g:=g0) rfl rp0 fun g1 w1 p1 hs q1=>?_));have hfr:=hfr.ext hs;refine Zg (.bool false) rfl rfl (Z3 (Z5 (Zg (Iz (0)) rfl rfl (Zg (Iz (0)) rfl rfl (Z3 (Zq h (fun (s:Unit) e w=>∃ (g:Gh) ,Fr gI wI g w∧e 1=p1∧PT g.m w (x0:Gy) p1) (fun X125 oE yG h=>?_) ?_))))))
 ·refine Z5 (Zx (Z8 p1 0) (Zc Jh rfl (PT.ptr q1)) rfl ?_)
  have xE:=Zm (Qs).1 q1;refine Zx (Z8 (Z8 p1 0) 0) (Zc Y7 rfl (PT.ptr xE)) rfl ?_;have kH:=Zm (Wx).1 xE;refine Z4 rfl (Z6 (g:=g1) isAgg35 sizeOf35 rfl kH fun n8 yE=>(Zx (Iz ((((x0).PayList).Rates).length:Int)) (Gz underlying35 rfl yE) rfl (Zn (Iz (0)) rfl rfl (Z3 (Zr (Q0 h (fun (s:Int × Int × Int) e w=>∃ (g:Gh) ,Fr gI wI g w∧e 1=p1∧PT g.m w (x0:Gy) p1∧e 3=Iz (s.1)∧e 4=Iz (s.2.1)∧e 9=n8∧RV g.m w (((x0).PayList).Rates:List Gq) n8∧e 10=Iz (((((x0).PayList).Rates).length:Int))∧e 11=Iz (s.2.2)) ⟨g1,hfr,rfl,q1,rfl,rfl,rfl,yE,rfl,rfl⟩ (fun X129 rE zG=>?_)))))));rintro ⟨lB,mB,t5⟩ lI kJ ⟨lD,hfr,vB,l5,zE,cF,yB,o0,aB,v8⟩ h;refine Z5 (Zx (.bool ((decide (t5 < ((((x0).PayList).Rates).length:Int))))) (Gk v8 aB rfl) rfl (Z3 (Zf ?_)));rcases Zt h with ⟨uC,h⟩ | ⟨uC,h⟩
  ·refine G6 uC rfl (Zu (Zd (Zq h (fun (s : Int × Int) e w => ∃ (g : Gh) , Fr gI wI g w ∧ e 1 = p1 ∧ PT g.m w (x0 : Gy) p1 ∧ e 3 = Iz (s.1) ∧ e 4 = Iz (s.2) ∧ e 9 = n8 ∧ RV g.m w (((x0).PayList).Rates : List Gq) n8 ∧ e 10 = Iz (((((x0).PayList).Rates).length : Int)) ∧ e 11 = Iz (t5)) (fun X189 uE aH h => ?_) ?_)))
   ·refine Zr (Z5 ?_)
    obtain ⟨i6,yD,h⟩:=Z1 h;refine Zx (Tb n8 t5 2) (Zh (α:=Gq) underlying35 sizeOf74 yB o0 v8 yD) rfl ?_;have lH:=Gx o0 yD;refine Z4 rfl (Z6 (g:=lD) isAgg74 sizeOf74 rfl lH fun mH nD=>(Z4 rfl (G2 (g:=lD) 2006 (⟨0,0⟩:Gq) zeroValue74 (fun m w=>⟨_,(Gb Zw Zw),rfl⟩) fun nH lJ l9 hs b193 cb=>?_)));have hfr:=hfr.stp hs;have l5:=l5.stp hs;have o0:=o0.stp hs;have nD:=nD.stp hs;clear cb;refine Z4 rfl (Gg (g:=nH) (v:=mH) sizeOf74 rfl b193 rfl nD fun dF mJ hs b194 cb=>?_);clear cb;have hfr:=hfr.stp hs;have l5:=l5.stp hs;have o0:=o0.stp hs;refine Z3 (Zq h (fun (s:Unit) e w=>∃ (g:Gh) ,Fr gI wI g w∧e 1=p1∧PT g.m w (x0:Gy) p1∧e 6=l9∧OB 2006 g w 74 (i6:Gq) l9∧e 9=n8∧RV g.m w (((x0).PayList).Rates:List Gq) n8∧e 10=Iz (((((x0).PayList).Rates).length:Int))∧e 11=Iz (t5)) (fun X219 vE cH h=>?_) ?_)
    ·obtain ⟨l8, hx, h⟩ := Z1 h
     refine Gl (fun e w=>∃ (g:Gh) ,Fr gI wI g w∧e 1=p1∧PT g.m w (x0:Gy) p1∧e 6=l9∧OB 2006 g w 74 (i6:Gq) l9∧e 9=n8∧RV g.m w (((x0).PayList).Rates:List Gq) n8∧e 10=Iz (((((x0).PayList).Rates).length:Int))∧e 11=Iz (t5)∧e 28=.bool (l8)) (fun Q' hQ=>?_) (fun mI nJ hR=>?_)
     ·replace h := hx
      clear hx;refine Za (Zo zE rfl (Zo cF rfl (Zx (Z8 l9 0) (Zc C1 rfl (OB.ptr b194)) rfl (Z4 rfl (Qt (g:=dF) J8.1 isAgg3 sizeOf3 rfl b194 fun oJ oH=>?_)))));obtain rfl:=Zj.1 oH;refine Z4 rfl (Z7 (g:=dF) 3019 (xs:=([(i6).From]:List Int)) (vs:=[Iz ((i6).From)]) underlying25 sizeOf3 zeroValue3 rfl rfl (.cons rfl .nil) (RVs.cons (Zj.2 rfl) RVs.nil) rfl rfl fun pH pJ qH hs o233 sH hxt hfl=>?_);have hfr:=hfr.stp hs;have l5:=l5.stp hs;have o0:=o0.stp hs;have b194:=b194.stp hs rfl;obtain ⟨n9,gH,h⟩:=Z1 h;refine Z4 rfl (Zp (g:=pH) (vs:=[Iz (lB),Iz (mB),qH]) en62 (.cons rfl (.cons rfl (.cons rfl .nil))) (wk62 sH gH) fun oD nI qJ hs hr=>?_);have hfr:=hfr.ext hs;have l5:=l5.ext hs;have o0:=o0.ext hs;have b194:=b194.ext hs;subst hr;refine Zx (.bool (!n9)) (Qm rfl) rfl (Zn (.bool (!n9)) rfl rfl ?_);rcases Zt h with ⟨g8,h⟩ | ⟨g8,h⟩
      ·refine Zz rfl rfl g8 rfl rfl ?_
       iterate 4 refine Zz rfl rfl g8 rfl rfl ?_
       refine Zx (.bool true) (Zl (b:=(!n9)) rfl (G4 g8 rfl)) rfl (Zb ?_);obtain rfl:=sinj h;exact hQ _ _ ⟨oD,hfr,vB,l5,rfl,b194,yB,o0,aB,v8,rfl⟩
      ·refine Zy (Z8 l9 1) (Zc Mo rfl (OB.ptr b194)) rfl rfl g8 rfl (Ze (.yes2 rfl rfl g8) rfl (Qt (g := oD) Uu.1 isAgg3 sizeOf3 rfl b194 fun rJ tH => ?_))
       obtain rfl:=Zj.1 tH;refine Ze (.yes2 rfl rfl g8) rfl (Z7 (g:=oD) 3025 (xs:=([(i6).Rate]:List Int)) (vs:=[Iz ((i6).Rate)]) underlying25 sizeOf3 zeroValue3 rfl rfl (.cons rfl .nil) (RVs.cons (Zj.2 rfl) RVs.nil) rfl rfl fun uH sJ xH hs o239 yH hxt hfl=>?_);have hfr:=hfr.stp hs;have l5:=l5.stp hs;have o0:=o0.stp hs;have b194:=b194.stp hs rfl;obtain ⟨cC,jH,h⟩:=Z1 h;refine Ze (.yes2 rfl rfl g8) rfl (Zp (g:=uH) (vs:=[Iz (0),Iz (10000),xH]) en62 (.cons rfl (.cons rfl (.cons rfl .nil))) (wk62 yH jH) fun zH pI vJ hs hr=>?_);have hfr:=hfr.ext hs;have l5:=l5.ext hs;have o0:=o0.ext hs;have b194:=b194.ext hs;subst hr;refine Zy (.bool (!cC)) (Qm rfl) rfl rfl g8 rfl (Zx (.bool (!cC)) (Zl (b:=(!n9)) rfl (G5 g8 rfl)) rfl (Zb ?_));obtain rfl:=sinj h;exact hQ _ _ ⟨zH,hfr,vB,l5,rfl,b194,yB,o0,aB,v8,rfl⟩
     ·clear hx
      obtain ⟨aI,hfr,eF,rF,sF,tF,uF,vF,zD,aE,zB⟩:=hR;rcases Zt h with ⟨vC,h⟩ | ⟨vC,h⟩
      ·refine Ta (Eq.trans (show ev _ _ = .bool (l8) from zB) (congrArg Value.bool vC)) (Z5 (Zg (.bool false) rfl rfl (Z3 (Ga (Gp (Tl (Gp (Gp (Tl (Gp ?_))))))))))
       obtain rfl:=sinj h;exact Tg rfl rfl (rq (.bool false)) ⟨_,hfr,rfl⟩
      ·refine Gs (Eq.trans (show ev _ _ = .bool (l8) from zB) (congrArg Value.bool vC)) ?_
       exact Zu (Zd (cH () _ _ ⟨aI,hfr,eF,rF,sF,tF,uF,vF,zD,aE⟩ h))
    ·rintro _ qI xJ ⟨xF, hfr, yF, aG, bG, bD, cG, eG, bE, iE⟩ h
     refine Za (Zx (Z8 l9 0) (Zc C1 bG (OB.ptr bD)) rfl (Z4 rfl (Qt (g:=xF) J8.1 isAgg3 sizeOf3 rfl bD fun zJ bI=>?_)));obtain rfl:=Zj.1 bI;refine Z9 (Iz ((w64 ((i6).From + (1:Int))))) rfl rfl rfl rfl (Zg (Iz ((w64 ((i6).From + (1:Int))))) rfl rfl (Zg (Iz (1000)) rfl rfl ?_));exact Zb (Tj (Zd (aH ((w64 ((i6).From + (1:Int))),(1000:Int)) _ _ ⟨xF,hfr,yF,aG,rfl,rfl,cG,eG,bE,iE⟩ h)))
   ·rintro ⟨nB, oB⟩ sI aK ⟨dI, hfr, gG, iG, jG, kG, lG, mG, lE, mE⟩ h
    refine Za (Z9 (Iz ((w64 (t5 + (1:Int))))) mE rfl rfl rfl (Zn (Iz ((w64 (t5 + (1:Int))))) rfl rfl ?_));exact Z3 (zG (nB,oB,(w64 (t5 + (1:Int)))) _ _ ⟨dI,hfr,gG,iG,jG,kG,lG,mG,lE,rfl⟩ h)
  ·refine G7 uC rfl (Tn (Gu (Gu (G8 ?_))))
   exact Zd (yG () _ _ ⟨lD,hfr,vB,l5⟩ h)
 ·rintro _ jJ bK ⟨iI, hfr, sG, cD⟩ h
  refine Z5 (Zx (Z8 p1 0) (Zc Jh sG (PT.ptr cD)) rfl ?_);have xG:=Zm (Qs).1 cD;refine Zx (Z8 (Z8 p1 0) 0) (Zc Y7 rfl (PT.ptr xG)) rfl ?_;have jI:=Zm (Wx).1 xG;refine Z4 rfl (Z6 (g:=iI) isAgg35 sizeOf35 rfl jI fun cK kI=>(Zx (Iz ((((x0).PayList).Rates).length:Int)) (Gz underlying35 rfl kI) rfl (Zx (.bool ((decide (((((x0).PayList).Rates).length:Int) > (0:Int))))) (Gk rfl rfl rfl) rfl (Zx (.bool ((decide (((((x0).PayList).Rates).length:Int) > (0:Int))))) (Te rfl) rfl (Z3 (Ga ?_))))));obtain rfl:=sinj h;exact Tg rfl rfl (rq (.bool ((decide (((((x0).PayList).Rates).length:Int) > (0:Int)))))) ⟨_,hfr,rfl⟩
def f61 (x0:List Int):Option (Bool):=
 (f62 ((0:Int)) ((1000:Int)) x0).bind fun y2=>
 some (y2)
theorem en61:Enters prog 61:=enters_of func61 (by kernel_rfl) rfl
theorem wk61 {gI:Gh} {wI:World} {x0:List Int} {up0:Value} (rp0:RV gI.m wI x0 up0) {r:Bool} (h:f61 x0=some r):Fn prog 61 #[up0] gI wI (fun _ _ v=>v=.bool (r)):=by
 unfold f61 at h;refine fnE func61 rfl rfl fun g0 hm hfr=>?_;have rp0:=RVc hm rp0;show E _ 5 none _ _ _ _ _;refine Z5 (Zg (.bool false) rfl rfl (Z3 (Z5 (Zn up0 rfl rfl ?_))));obtain ⟨y2,hy2,h⟩:=Z1 h;refine Z4 rfl (Zp (g:=g0) (vs:=[Iz (0),Iz (1000),up0]) en62 (.cons rfl (.cons rfl (.cons rfl .nil))) (wk62 rp0 hy2) fun g1 w1_ v1 hs hr=>?_);have hfr:=hfr.ext hs;subst hr;refine Zg (.bool (y2)) rfl rfl (Z3 (Ga ?_));obtain rfl:=sinj h;exact Tg rfl rfl (rq (.bool (y2))) ⟨_,hfr,rfl⟩
def f86 (x0:Str):Option (Bool):=
 Option.bind (α:=Bool) (
  (f78 ((1:Int)) ((8:Int)) (([((x0).b.length:Int)]:List Int))).bind fun y9=>
  bif y9 then
   (f130 x0 ((fun a0=>f129 a0))).bind fun t5=>
   some ((!t5))
  else
   some (false)
  ) fun l5=>
 some (l5)
theorem en86:Enters prog 86:=enters_of func86 (by kernel_rfl) rfl
theorem wk86 {gI:Gh} {wI:World} {x0:Str}  {r:Bool} (h:f86 x0=some r):Fn prog 86 #[Str.v (x0)] gI wI (fun _ _ v=>v=.bool (r)):=by
 unfold f86 at h;refine fnE func86 rfl rfl fun g0 hm hfr=>?_;show E _ 14 none _ _ _ _ _;refine Z5 (Zg (.bool false) rfl rfl (Z3 (Z5 (Zg (.func (.func 129) #[] #[]) rfl rfl (Z3 ?_)))));obtain ⟨l5,hx,h⟩:=Z1 h;refine Gl (fun e w=>∃ (g:Gh) ,Fr gI wI g w∧e 2=.bool (l5)) (fun Q' hQ=>?_) (fun n9 lB hR=>?_)
 ·replace h := hx
  clear hx;refine Za (Zn (Str.v (x0)) rfl rfl (Zx (Iz ((x0).b.length:Int)) (P1 underlying9 rfl) rfl (Z4 rfl (Z7 (g:=g0) 3006 (xs:=([((x0).b.length:Int)]:List Int)) (vs:=[Iz ((x0).b.length:Int)]) underlying25 sizeOf3 zeroValue3 rfl rfl (.cons rfl .nil) (RVs.cons (Zj.2 rfl) RVs.nil) rfl rfl fun g7 w7 v7 hs o7 r7 hxt hfl=>?_))));have hfr:=hfr.stp hs;obtain ⟨y9,n8,h⟩:=Z1 h;refine Z4 rfl (Zp (g:=g7) (vs:=[Iz (1),Iz (8),v7]) en78 (.cons rfl (.cons rfl (.cons rfl .nil))) (wk78 r7 n8) fun g8 w8_ v8 hs hr=>?_);have hfr:=hfr.ext hs;subst hr;refine Zn (.bool (y9)) rfl rfl ?_;rcases Zt h with ⟨o0,h⟩ | ⟨o0,h⟩
  ·refine Zy (Str.v (x0)) (Zk rfl) rfl rfl o0 rfl (Zy (.func (.func 129) #[] #[]) (Zk rfl) rfl rfl o0 rfl ?_)
   obtain ⟨t5,l8,h⟩:=Z1 h;refine Ze (.yes2 rfl rfl o0) rfl (Zp (g:=g8) (vs:=[Str.v (x0),.func (.func 129) #[] #[]]) en130 (.cons rfl (.cons rfl .nil)) (wk130 ⟨129,#[],#[],rfl,en129,fun g' w' hch a0 b0 r hu0 hr=>by obtain rfl:=Oj.1 hu0; exact Fn.mono (wk129   hr) fun _ _ _ h=>Q1.2 h⟩ l8) fun l9 aB mB hs hr=>?_);have hfr:=hfr.ext hs;subst hr;refine Zy (.bool (!t5)) (Qm rfl) rfl rfl o0 rfl (Zx (.bool (!t5)) (Zl (b:=y9) rfl (G4 o0 rfl)) rfl (Zg (.bool (!t5)) rfl rfl (Zb ?_)));obtain rfl:=sinj h;exact hQ _ _ ⟨l9,hfr,rfl⟩
  ·refine Zz rfl rfl o0 rfl rfl ?_
   iterate 3 refine Zz rfl rfl o0 rfl rfl ?_
   refine Zx (.bool false) (Zl (b:=y9) rfl (G5 o0 rfl)) rfl (Zg (.bool false) rfl rfl (Zb ?_));obtain rfl:=sinj h;exact hQ _ _ ⟨g8,hfr,rfl⟩
 ·clear hx
  obtain ⟨nB,hfr,i6⟩:=hR;refine Ga ?_;obtain rfl:=sinj h;exact Tg rfl rfl (show _=.bool (l5) from i6) ⟨_,hfr,rfl⟩
def f94 (x0:Gv) (x1:Int):Option (Int):=
 jn (σ:=Unit) (fun _=>
  (idx (((x0).ChainBelt).Cards) x1).bind fun t5=>
  some ((t5).Row)
  ) fun k19=>
 (idx (((x0).ChainBelt).Cards) x1).bind fun y23=>
 bif (y23).Turned then
  (f134 ((x0).frame) ((y23).Row)).bind fun i6=>
  some (i6)
 else
  k19 ()
theorem en94:Enters prog 94:=enters_of func94 (by kernel_rfl) rfl
theorem wk94 {gI:Gh} {wI:World} {x0:Gv} {x1:Int} {up0:Value} (rp0:RV gI.m wI x0 up0) {r:Int} (h:f94 x0 x1=some r):Fn prog 94 #[up0,Iz (x1)] gI wI (fun _ _ v=>v=Iz (r)):=by
 unfold f94 at h;refine fnE func94 rfl rfl fun g0 hm hfr=>?_;have rp0:=RVc hm rp0;show E _ 26 none _ _ _ _ _;refine Z5 (Z4 rfl (Tv (g:=g0) rfl rp0 fun g1 w1 p1 hs q1=>?_));have hfr:=hfr.ext hs;refine Zg (Iz (0)) rfl rfl (Z3 (Zq h (fun (s:Unit) e w=>∃ (g:Gh) ,Fr gI wI g w∧e 1=Iz (x1)∧e 2=p1∧PT g.m w (x0:Gv) p1) (fun X19 k19 cC h=>?_) ?_))
 ·refine Z5 (Zx (Z8 p1 0) (Zc Sh rfl (PT.ptr q1)) rfl ?_)
  have aB:=Zm (Ks).1 q1;refine Zx (Z8 (Z8 p1 0) 1) (Zc Js rfl (PT.ptr aB)) rfl ?_;have vC:=Zm (Qq).1 aB;refine Z4 rfl (Z6 (g:=g1) isAgg92 sizeOf92 rfl vC fun bD lB=>(Zn (Iz (x1)) rfl rfl ?_));obtain ⟨y23,l8,h⟩:=Z1 h;refine Zx (Tb bD x1 3) (Zh (α:=Gc) underlying92 sizeOf96 rfl lB rfl l8) rfl ?_;have cD:=Gx lB l8;refine Z4 rfl (Z6 (g:=g1) isAgg96 sizeOf96 rfl cD fun lD n8=>(Z4 rfl (G2 (g:=g1) 2005 (⟨0,0,false⟩:Gc) zeroValue96 (fun m w=>⟨_,(Gb Zw (Gb Zw Da)),rfl⟩) fun nD rE mB hs b26 cb=>?_)));have hfr:=hfr.stp hs;have q1:=q1.stp hs;have n8:=n8.stp hs;clear cb;refine Z4 rfl (Gg (g:=nD) (v:=lD) sizeOf96 rfl b26 rfl n8 fun o0 uE hs b27 cb=>?_);clear cb;have hfr:=hfr.stp hs;have q1:=q1.stp hs;refine Z3 (Z5 (Zx (Z8 mB 2) (Zc Mc rfl (OB.ptr b27)) rfl (Z4 rfl (Qt (g:=o0) Yw.1 isAgg4 sizeOf4 rfl b27 fun vE oD=>?_))));obtain rfl:=Q1.1 oD;refine Z3 ?_;rcases Zt h with ⟨l5,h⟩ | ⟨l5,h⟩
  ·refine G6 l5 rfl (Z5 (Zx (Z8 p1 2) (Zc Ra rfl (PT.ptr q1)) rfl ?_))
   have yD:=Zm (Ku).1 q1;refine Z4 rfl (Z6 (g:=o0) isAgg190 sizeOf190 rfl yD fun xE zD=>?_);obtain rfl:=Zj.1 zD;refine Zx (Z8 mB 1) (Zc B5 rfl (OB.ptr b27)) rfl (Z4 rfl (Qt (g:=o0) K5.1 isAgg3 sizeOf3 rfl b27 fun yE aE=>?_));obtain rfl:=Zj.1 aE;obtain ⟨i6,uC,h⟩:=Z1 h;refine Z4 rfl (Zp (g:=o0) (vs:=[Iz ((x0).frame),Iz ((y23).Row)]) en134 (.cons rfl (.cons rfl .nil)) (wk134  uC) fun zE mE cF hs hr=>?_);have hfr:=hfr.ext hs;subst hr;refine Zg (Iz (i6)) rfl rfl (Z3 (Ga (Gp ?_)));obtain rfl:=sinj h;exact Tg rfl rfl (rq (Iz (i6))) ⟨_,hfr,rfl⟩
  ·refine G7 l5 rfl ?_
   exact Zu (Zd (cC () _ _ ⟨o0,hfr,rfl,rfl,q1⟩ h))
 ·rintro _ oE dF ⟨nB, hfr, l9, n9, g8⟩ h
  refine Z5 (Zx (Z8 p1 0) (Zc Sh n9 (PT.ptr g8)) rfl ?_);have oB:=Zm (Ks).1 g8;refine Zx (Z8 (Z8 p1 0) 1) (Zc Js rfl (PT.ptr oB)) rfl ?_;have bE:=Zm (Qq).1 oB;refine Z4 rfl (Z6 (g:=nB) isAgg92 sizeOf92 rfl bE fun vB yB=>(Zo l9 rfl ?_));obtain ⟨t5,v8,h⟩:=Z1 h;refine Zx (Tb vB x1 3) (Zh (α:=Gc) underlying92 sizeOf96 rfl yB rfl v8) rfl ?_;have zB:=Gx yB v8;refine Zx (Z8 (Tb vB x1 3) 1) (Zc B5 rfl (PT.ptr zB)) rfl ?_;have iE:=Zm (K5).1 zB;refine Z4 rfl (Z6 (g:=nB) isAgg3 sizeOf3 rfl iE fun eF lE=>?_);obtain rfl:=Zj.1 lE;refine Zg (Iz ((t5).Row)) rfl rfl (Z3 (Ga ?_));obtain rfl:=sinj h;exact Tg rfl rfl (rq (Iz ((t5).Row))) ⟨_,hfr,rfl⟩
def f101 (x0:List Int):Option (Bool):=
 Option.bind (α:=Bool) (
  (f141 x0).bind fun y9=>
  bif y9 then
   (f143 x0).bind fun l8=>
   (f142 l8).bind fun t5=>
   some ((((Int.toNat t5:Nat):Int) == ((x0).length:Int)))
  else
   some (false)
  ) fun l5=>
 some (l5)
theorem en101:Enters prog 101:=enters_of func101 (by kernel_rfl) rfl
theorem wk101 {gI:Gh} {wI:World} {x0:List Int} {up0:Value} (rp0:RV gI.m wI x0 up0) {r:Bool} (h:f101 x0=some r):Fn prog 101 #[up0] gI wI (fun _ _ v=>v=.bool (r)):=by
 unfold f101 at h;refine fnE func101 rfl rfl fun g0 hm hfr=>?_;have rp0:=RVc hm rp0;show E _ 14 none _ _ _ _ _;refine Z5 (Zg (.bool false) rfl rfl (Z3 ?_));obtain ⟨l5,hx,h⟩:=Z1 h;refine Gl (fun e w=>∃ (g:Gh) ,Fr gI wI g w∧e 2=.bool (l5)) (fun Q' hQ=>?_) (fun nB w15 hR=>?_)
 ·replace h := hx
  clear hx;refine Za (Zn up0 rfl rfl ?_);obtain ⟨y9,n9,h⟩:=Z1 h;refine Z4 rfl (Zp (g:=g0) (vs:=[up0]) en141 (.cons rfl .nil) (wk141 rp0 n9) fun g8 w8_ v8 hs hr=>?_);have hfr:=hfr.ext hs;have rp0:=rp0.ext hs;subst hr;refine Zn (.bool (y9)) rfl rfl ?_;rcases Zt h with ⟨o0,h⟩ | ⟨o0,h⟩
  ·refine Zy up0 (Zk rfl) rfl rfl o0 rfl ?_
   obtain ⟨l8,n8,h⟩:=Z1 h;refine Ze (.yes2 rfl rfl o0) rfl (Xn (g:=g8) (vs:=[up0]) en143 (.cons rfl .nil) (v143_0 (iO:=9007) rp0 n8) fun aB oB lB hs hr=>?_);have hfr:=hfr.ext hs;have rp0:=rp0.ext hs;have hm11:=hr;obtain ⟨t5,l9,h⟩:=Z1 h;refine Ze (.yes2 rfl rfl o0) rfl (Jv (g:=aB) (i:=9007) (vs:=[lB]) en142 (.cons rfl .nil) (wk142 hm11 l9) fun mB vB yB hs hr=>?_);obtain ⟨sa13,sc13,hsl13⟩:=hr;subst hsl13;have hfr:=hfr.stp hs;have rp0:=rp0.stp hs;refine Zy (Iz ((Int.toNat t5:Nat):Int)) (E4 underlying25 rfl) rfl rfl o0 rfl (Zy up0 (Zk rfl) rfl rfl o0 rfl (Zy (Iz ((x0).length:Int)) (Gz underlying25 rfl rp0) rfl rfl o0 rfl (Zy (.bool ((((Int.toNat t5:Nat):Int) == ((x0).length:Int)))) (Gk rfl rfl rfl) rfl rfl o0 rfl (Zx (.bool ((((Int.toNat t5:Nat):Int) == ((x0).length:Int)))) (Zl (b:=y9) rfl (G4 o0 rfl)) rfl (Zg (.bool ((((Int.toNat t5:Nat):Int) == ((x0).length:Int)))) rfl rfl (Zb ?_))))));obtain rfl:=sinj h;exact hQ _ _ ⟨mB,hfr,rfl⟩
  ·refine Zz rfl rfl o0 rfl rfl ?_
   iterate 6 refine Zz rfl rfl o0 rfl rfl ?_
   refine Zx (.bool false) (Zl (b:=y9) rfl (G5 o0 rfl)) rfl (Zg (.bool false) rfl rfl (Zb ?_));obtain rfl:=sinj h;exact hQ _ _ ⟨g8,hfr,rfl⟩
 ·clear hx
  obtain ⟨zB,hfr,i6⟩:=hR;refine Ga ?_;obtain rfl:=sinj h;exact Tg rfl rfl (show _=.bool (l5) from i6) ⟨_,hfr,rfl⟩
end Go.Proofs.YtjjbobaoifflpaaGreatDoor
