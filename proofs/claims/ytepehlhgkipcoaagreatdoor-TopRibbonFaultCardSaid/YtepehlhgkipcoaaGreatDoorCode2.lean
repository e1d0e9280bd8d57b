import Derived.Test.YtepehlhgkipcoaaGreatDoorCode1
set_option maxRecDepth 8000
set_option maxHeartbeats 4000000
namespace Go.Proofs.YtepehlhgkipcoaaGreatDoor
open Go.RowKit Tryz
def f6 (x0:FaultLoom):Option (Gj):=
 Option.bind (α:=ChainBelt) (
  lp (σ:=ChainBelt × Int) (fun aI (lB,o0)=>
   jn (σ:=Unit) (fun _=>
    Option.bind (α:=ChainBelt) (
     (idx (((x0).Design).Rows) o0).bind fun y130=>
     (apnd 24 ((lB).Cards) (([(⟨o0,y130,false⟩:Z8)]:List Z8))).bind fun aE=>
     some ({ lB with Cards:=aE })
     ) fun n9=>
    aI (n9,(w64 (o0 + (1:Int))))
    ) fun bI=>
   bif (decide (o0 < ((((x0).Design).Rows).length : Int))) then
    bI ()
   else
    some (lB)
   ) big ((⟨((x0).Design).Hooks,[]⟩:ChainBelt),(0:Int))
  ) fun t5=>
 (f15 (((x0).Harness).Warps)).bind fun l5=>
 some ((⟨([(⟨(⟨[108,105,108,121]⟩:Str),(⟨((x0).Harness).Hooks,l5⟩:TieHarness)⟩:Gn)]:List Gn),([(⟨(⟨[114,111,115,101]⟩:Str),t5⟩:Gc)]:List Gc)⟩:Gj))
theorem en6:Enters prog 6:=enters_of func6 (by kernel_rfl) rfl
theorem wk6 {gI:Gh} {wI:World} {x0:FaultLoom} {up0:Value} (rp0:RV gI.m wI x0 up0) {r:Gj} (h:f6 x0=some r):Fn prog 6 #[up0] gI wI (fun m w v=>RV m w (r) v):=by
 unfold f6 at h;refine fnE func6 rfl rfl fun g0 hm hfr=>?_;have rp0:=RVc hm rp0;show E _ 44 none _ _ _ _ _;refine Z7 (Z6 rfl (Tq (g:=g0) rfl rp0 fun g1 w1 p1 hs q1=>?_));have hfr:=hfr.ext hs;refine Z6 rfl (Gw (g:=g1) 2002 (⟨[],[]⟩:Gj) zeroValue39 (fun m w=>⟨_,(Gi Tt Tt),rfl⟩) fun g2 w2 p2 hs b2 cb=>?_);have hfr:=hfr.stp hs;have q1:=q1.stp hs;have zB:OSF 2002 60200 0 g2 w2 76 39 ([]:List Gn) p2:=cb.osf (by rfl);have cC:OSF 2002 60201 1 g2 w2 48 39 ([]:List Gc) p2:=cb.osf (by rfl);clear cb;refine Z4 (Z7 (Zz (Ga p1 2) (Zc Wf rfl (PT.ptr q1)) rfl ?_));have q3:=Zm (G1).1 q1;refine Zz (Ga (Ga p1 2) 0) (Zc Ki rfl (PT.ptr q3)) rfl ?_;have q4:=Zm (Qb).1 q3;refine Z6 rfl (Z9 (g:=g2) isAgg3 sizeOf3 rfl q4 fun v5 r5=>?_);obtain rfl:=Zj.1 r5;have r6:RV g2.m w2 (⟨((x0).Design).Hooks,[]⟩:ChainBelt) (.agg (G3 [[Iz 0],[.slice none 0 0]] [(0,Iz (((x0).Design).Hooks))]).flatten.toArray):=G2 rfl (Gm (rfl) (G6 (Tt)));generalize dI:(Value.agg (G3 [[Iz 0],[.slice none 0 0]] [(0,Iz (((x0).Design).Hooks))]).flatten.toArray)=v6 at r6;refine Zz v6 (dI ▸ Tf (vs:=[(0,Iz (((x0).Design).Hooks))]) [[Iz 0],[.slice none 0 0]] P0 rfl rfl (.cons rfl .nil) ⟨⟨_,rfl,rfl⟩,trivial⟩) rfl (Z6 rfl (Gw (g:=g2) 2003 (⟨0,[]⟩:ChainBelt) zeroValue46 (fun m w=>⟨_,(Gi Zx Tt),rfl⟩) fun g7 w7 p7 hs b7 cb=>?_));have hfr:=hfr.stp hs;have q1:=q1.stp hs;have zB:=zB.stp hs rfl;have cC:=cC.stp hs rfl;have b2:=b2.stp hs rfl;have r6:=r6.stp hs;have nK:OSF 2003 60301 1 g7 w7 43 46 ([]:List Z8) p7:=cb.osf (by rfl);clear cb;refine Z6 rfl (Gk (g:=g7) (v:=v6) sizeOf46 rfl b7 rfl r6 fun g8 w8 hs b8 cb=>?_);have kI:OSF 2003 60301 1 g8 w8 43 46 ([]:List Z8) p7:=cb.osf (by rw [← dI]; rfl);clear cb;have hfr:=hfr.stp hs;have q1:=q1.stp hs;have zB:=zB.stp hs rfl;have cC:=cC.stp hs rfl;have b2:=b2.stp hs rfl;refine Z4 ?_;obtain ⟨t5,hx,h⟩:=Z3 h;refine Gs (fun e w=>∃ (g:Gh) ,Fr gI wI g w∧e 1=p1∧PT g.m w (x0:FaultLoom) p1∧e 2=p2∧OB 2002 g w 39 ((⟨[],[]⟩:Gj):Gj) p2∧OSF 2002 60200 0 g w 76 39 (((⟨[],[]⟩:Gj)).Ties) p2∧OSF 2002 60201 1 g w 48 39 (((⟨[],[]⟩:Gj)).Chains) p2∧e 3=p7∧OB 2003 g w 46 (t5:ChainBelt) p7∧OSF 2003 60301 1 g w 43 46 ((t5).Cards) p7) (fun Q' hQ=>?_) (fun lK oK hR=>?_)
 ·replace h := hx
  clear hx;refine Z7 (Zg (Iz (0)) rfl rfl (Z4 (Zr (Wo h (fun (s:ChainBelt × Int) e w=>∃ (g:Gh) ,Fr gI wI g w∧e 1=p1∧PT g.m w (x0:FaultLoom) p1∧e 2=p2∧OB 2002 g w 39 ((⟨[],[]⟩:Gj):Gj) p2∧OSF 2002 60200 0 g w 76 39 (((⟨[],[]⟩:Gj)).Ties) p2∧OSF 2002 60201 1 g w 48 39 (((⟨[],[]⟩:Gj)).Chains) p2∧e 3=p7∧OB 2003 g w 46 (s.1:ChainBelt) p7∧OSF 2003 60301 1 g w 43 46 ((s.1).Cards) p7∧e 4=Iz (s.2)) ⟨g8,hfr,rfl,q1,rfl,b2,zB,cC,rfl,b8,kI,rfl⟩ (fun X83 aI lI=>?_)))));rintro ⟨lB,o0⟩ pK gL ⟨dF,hfr,vC,yB,oE,rE,u2_0_84,u2_1_84,uE,vE,u3_1_84,xE⟩ h;refine Zq h (fun (s:Unit) e w=>∃ (g:Gh) ,Fr gI wI g w∧e 1=p1∧PT g.m w (x0:FaultLoom) p1∧e 2=p2∧OB 2002 g w 39 ((⟨[],[]⟩:Gj):Gj) p2∧OSF 2002 60200 0 g w 76 39 (((⟨[],[]⟩:Gj)).Ties) p2∧OSF 2002 60201 1 g w 48 39 (((⟨[],[]⟩:Gj)).Chains) p2∧e 3=p7∧OB 2003 g w 46 (lB:ChainBelt) p7∧OSF 2003 60301 1 g w 43 46 ((lB).Cards) p7∧e 4=Iz (o0)) (fun X89 bI mI h=>?_) ?_
  ·refine Z7 (Zo xE rfl (Zz (Ga p1 2) (Zc Wf vC (PT.ptr yB)) rfl ?_))
   have iI:=Zm (G1).1 yB;refine Zz (Ga (Ga p1 2) 1) (Zc Kb rfl (PT.ptr iI)) rfl ?_;have aK:=Zm (T4).1 iI;refine Z6 rfl (Z9 (g:=dF) isAgg24 sizeOf24 rfl aK fun iL bK=>(Zz (Iz ((((x0).Design).Rows).length:Int)) (Tr underlying24 rfl bK) rfl (Zz (.bool ((decide (o0 < ((((x0).Design).Rows).length:Int))))) (Gx rfl rfl rfl) rfl (Z4 ?_))));rcases Zt h with ⟨bE,h⟩ | ⟨bE,h⟩
   ·refine G5 bE rfl ?_
    exact Zu (Zd (mI () _ _ ⟨dF,hfr,vC,yB,oE,rE,u2_0_84,u2_1_84,uE,vE,u3_1_84,xE⟩ h))
   ·refine G8 bE rfl (Tu (Gy (Gy (G9 ?_))))
    obtain rfl:=sinj h;exact hQ _ _ ⟨dF,hfr,vC,yB,oE,rE,u2_0_84,u2_1_84,uE,vE,u3_1_84⟩
  ·rintro _ qK cK ⟨jI, hfr, yE, i6, lH, n8, u2_0_94, u2_1_94, bD, l8, u3_1_94, cD⟩ h
   obtain ⟨n9,hx,h⟩:=Z3 h;refine Gs (fun e w=>∃ (g:Gh) ,Fr gI wI g w∧e 1=p1∧PT g.m w (x0:FaultLoom) p1∧e 2=p2∧OB 2002 g w 39 ((⟨[],[]⟩:Gj):Gj) p2∧OSF 2002 60200 0 g w 76 39 (((⟨[],[]⟩:Gj)).Ties) p2∧OSF 2002 60201 1 g w 48 39 (((⟨[],[]⟩:Gj)).Chains) p2∧e 3=p7∧OB 2003 g w 46 (n9:ChainBelt) p7∧OSF 2003 60301 1 g w 43 46 ((n9).Cards) p7∧e 4=Iz (o0)) (fun Q' hQ=>?_) (fun mK sK hR=>?_)
   ·replace h := hx
    clear hx;refine Zr (Sk (x:=.tmp 17) Qf.1 isAgg44 sizeOf44 l8 u3_1_94 fun nI iE o126 mH=>?_);have eF:=Zm (G1).1 i6;have pI:=Zm (T4).1 eF;refine Zs (x:=.tmp 21) isAgg24 sizeOf24 pI fun rF sF nH=>?_;obtain ⟨y130,zE,h⟩:=Z3 h;have qI:=Tp sF zE;refine Zs (x:=.tmp 24) isAgg3 sizeOf3 qI fun tK sI oH=>?_;obtain rfl:=Zj.1 sI;have tF:RV jI.m cK (⟨o0,y130,false⟩:Z8) (.agg (G3 [[Iz 0],[Iz 0],[.bool false]] [(0,Iz (o0)),(1,Iz (y130))]).flatten.toArray):=G2 rfl (Gm (rfl) (Gm (rfl) (G6 (Wv))));generalize pH:(Value.agg (G3 [[Iz 0],[Iz 0],[.bool false]] [(0,Iz (o0)),(1,Iz (y130))]).flatten.toArray)=uF at tF;refine Tz (g:=jI) (n:=11) [(10,(fun v g w=>RV g.m w ([(⟨o0,y130,false⟩:Z8)]:List Z8) v∧OS 3027 g w 43 ([(⟨o0,y130,false⟩:Z8)]:List Z8) v∧Qr v))] [0,1,2,3,4,5,6,7,8,9,10] rfl mixed (by kernel_rfl) (⟨fun _=>Q9 K0 (Q9 U2 (Kz _)),trivial⟩) (Z2 (Ga p7 1) rfl rfl (Zc Hx bD (OB.ptr l8)) (Tv (c:=nI) rfl rfl .plain (fun _ _ h=>⟨h.ch,fun b hb _=>h.below.block b hb⟩) mH rfl (Z2 (Iz (o0)) rfl rfl (Zk cD) (Z2 (Ga p1 2) rfl rfl (Zc Wf yE (PT.ptr i6)) (Z2 (Ga (Ga p1 2) 1) rfl rfl (Zc Kb rfl (PT.ptr eF)) (Tv (c:=rF) rfl rfl .plain (fun _ _ h=>h.ch) nH rfl (Z2 (Iz (o0)) rfl rfl (Zk cD) (Z2 (Tb rF o0 1) rfl rfl (Zh (α:=Int) underlying24 sizeOf3 rfl sF rfl zE) (Tv (c:=Iz (y130)) rfl rfl .plain (fun _ _ h=>h.ch) oH rfl (Z2 uF rfl rfl (pH ▸ Tf (vs:=[(0,Iz (o0)),(1,Iz (y130))]) [[Iz 0],[Iz 0],[.bool false]] Fb rfl rfl (.cons rfl (.cons rfl .nil)) ⟨⟨_,rfl,rfl⟩,⟨⟨_,rfl,rfl⟩,trivial⟩⟩) (Ks (φ:=fun v g w=>RV g.m w ([(⟨o0,y130,false⟩:Z8)]:List Z8) v∧OS 3027 g w 43 ([(⟨o0,y130,false⟩:Z8)]:List Z8) v∧Qr v) rfl rfl .plain (fun g w hd=>Gb (g:=g) 3027 (xs:=([(⟨o0,y130,false⟩:Z8)]:List Z8)) (vs:=[uF]) underlying44 sizeOf43 zeroValue43 rfl rfl (.cons rfl .nil) (RVs.cons (tF.ext hd.1) RVs.nil) rfl rfl fun g' w' v hs o r hxt hfl=>⟨g',hxt,r,o,hfl⟩) (fun vB hv=>?_))))))))))));clear hv;refine Jz fun jJ uK hall=>?_;have hs:=hall.1;have hfr:=hfr.ext hs;have i6:=i6.ext hs;have u2_0_94:=u2_0_94.ext hs;have u2_1_94:=u2_1_94.ext hs;have n8:=n8.ext hs;have l8:=l8.ext hs;have iE:=iE.ext hs;have o126:=o126.ext hs;have kJ:=(Ti (A:=fun g w=>RV g.m w ([(⟨o0,y130,false⟩:Z8)]:List Z8) vB∧OS 3027 g w 43 ([(⟨o0,y130,false⟩:Z8)]:List Z8) vB∧Qr vB) 10 rfl hall).1;have o150:=(Ti (A:=fun g w=>RV g.m w ([(⟨o0,y130,false⟩:Z8)]:List Z8) vB∧OS 3027 g w 43 ([(⟨o0,y130,false⟩:Z8)]:List Z8) vB∧Qr vB) 10 rfl hall).2.1;clear hs hall;obtain ⟨aE,qH,h⟩:=Z3 h;refine Z6 rfl (Ql (g:=jJ) (i:=60301) underlying44 A2 rfl rfl o126 iE rfl kJ qH fun lJ vK xK hs o151 vF _=>?_);have hfr:=hfr.stp hs;have i6:=i6.stp hs;have u2_0_94:=u2_0_94.stp hs rfl;have u2_1_94:=u2_1_94.stp hs rfl;have n8:=n8.stp hs rfl;have l8:=l8.stp hs rfl;refine Zz (Ga p7 1) (Zc Hx bD (OB.ptr l8)) rfl (Z6 rfl (Qg (g:=lJ) Qf sizeOf44 rfl l8 rfl vF fun mJ yK hs b154 rst hos=>?_));have xF:=hos _ _ 60301 43 (aE:List Z8) (W3 vF) rfl o151;clear rst hos;have hfr:=hfr.stp hs;have i6:=i6.stp hs;have u2_0_94:=u2_0_94.stp hs rfl;have u2_1_94:=u2_1_94.stp hs rfl;have n8:=n8.stp hs rfl;refine Zb (Tc ?_);obtain rfl:=sinj h;exact hQ _ _ ⟨mJ,hfr,yE,i6,lH,n8,u2_0_94,u2_1_94,bD,b154,xF,cD⟩
   ·clear hx
    obtain ⟨nJ,hfr,yF,aG,bG,cG,u2_0_155,u2_1_155,eG,gG,u3_1_155,iG⟩:=hR;refine Za (Zo iG rfl (Gf (Iz ((w64 (o0 + (1:Int))))) rfl rfl rfl rfl (Zg (Iz ((w64 (o0 + (1:Int))))) rfl rfl ?_)));exact Z4 (lI (n9,(w64 (o0 + (1:Int)))) _ _ ⟨nJ,hfr,yF,aG,bG,cG,u2_0_155,u2_1_155,eG,gG,u3_1_155,rfl⟩ h)
 ·clear hx
  obtain ⟨jG,hfr,yD,nB,zD,uC,u2_0_156,u2_1_156,kG,lG,u3_1_156⟩:=hR;refine Zf ?_;have mG:=Zm (Tn).1 nB;have oJ:=Zm (Qh).1 mG;refine Zs (x:=.tmp 31) isAgg3 sizeOf3 oJ fun zK pJ sH=>?_;obtain rfl:=Zj.1 pJ;have sG:=Zm (Tn).1 nB;have qJ:=Zm (Tm).1 sG;refine Zs (x:=.tmp 34) isAgg24 sizeOf24 qJ fun xG rJ tH=>?_;obtain ⟨l5,uH,h⟩:=Z3 h;refine Ju (x:=.tmp 3) isAgg46 sizeOf46 lG fun lD yG xH=>?_;have zG:RV jG.m _ (⟨(⟨[114,111,115,101]⟩:Str),t5⟩:Gc) (.agg (G3 [[Str.v ⟨[]⟩],[Iz 0,.slice none 0 0]] [(0,Str.v (⟨[114,111,115,101]⟩:Str)),(1,lD)]).flatten.toArray):=G2 rfl (Gm (rfl) (G6 (RV.cells yG)));generalize yH:(Value.agg (G3 [[Str.v ⟨[]⟩],[Iz 0,.slice none 0 0]] [(0,Str.v (⟨[114,111,115,101]⟩:Str)),(1,lD)]).flatten.toArray)=aH at zG;refine Tz (g:=jG) (n:=13) [(6,(fun v g w=>RV g.m w l5 v)),(9,(fun v g w=>RV g.m w ([(⟨(⟨[108,105,108,121]⟩:Str),(⟨((x0).Harness).Hooks,l5⟩:TieHarness)⟩:Gn)]:List Gn) v∧OS 3039 g w 76 ([(⟨(⟨[108,105,108,121]⟩:Str),(⟨((x0).Harness).Hooks,l5⟩:TieHarness)⟩:Gn)]:List Gn) v∧Qr v)),(12,(fun v g w=>RV g.m w ([(⟨(⟨[114,111,115,101]⟩:Str),t5⟩:Gc)]:List Gc) v∧OS 3042 g w 48 ([(⟨(⟨[114,111,115,101]⟩:Str),t5⟩:Gc)]:List Gc) v∧Qr v))] [0,1,2,3,4,5,6,7,8,9,10,11,12] rfl mixed (by kernel_rfl) (⟨fun _=>K0,fun _=>Q9 K0 (Q9 U2 (Kz _)),fun _=>Q9 K0 (Q9 U2 (Kz _)),trivial⟩) (Z2 (Ga p1 0) rfl rfl (Zc Kj yD (PT.ptr nB)) (Z2 (Ga (Ga p1 0) 0) rfl rfl (Zc Jt rfl (PT.ptr mG)) (Tv (c:=Iz (((x0).Harness).Hooks)) rfl rfl .plain (fun _ _ h=>h.ch) sH rfl (Z2 (Ga p1 0) rfl rfl (Zc Kj yD (PT.ptr nB)) (Z2 (Ga (Ga p1 0) 1) rfl rfl (Zc Kw rfl (PT.ptr sG)) (Tv (c:=xG) rfl rfl .plain (fun _ _ h=>h.ch) tH rfl (Ks (φ:=fun v g w=>RV g.m w l5 v) rfl rfl .plain (fun g w hd=>Zp (g:=g) (vs:=[xG]) en15 (.cons rfl .nil) (wk15 (rJ.ext hd.1) uH) fun g' w' v hs hr=>⟨g',hs,hr⟩) (fun aB hv=>?_))))))));obtain ⟨_,_,_,rq163⟩:=hv;apply Exists.elim (show ∃ v,v=(Value.agg (G3 [[Iz 0],[.slice none 0 0]] [(0,Iz (((x0).Harness).Hooks)),(1,aB)]).flatten.toArray) from ⟨_,rfl⟩);intro mB oB;refine J5 (c:=mB) rfl rfl .plain (fun _ _ hd=>oB ▸ Tf (vs:=[(0,Iz (((x0).Harness).Hooks)),(1,aB)]) [[Iz 0],[.slice none 0 0]] D3 rfl rfl (.cons rfl (.cons rfl .nil)) ⟨⟨_,rfl,rfl⟩,⟨⟨_,rfl,G4 (V6 (A:=fun g w=>RV g.m w l5 aB) 6 rfl rfl (Kh hd))⟩,trivial⟩⟩) ?_;apply Exists.elim (show ∃ v,v=(Value.agg (G3 [[Str.v ⟨[]⟩],[Iz 0,.slice none 0 0]] [(0,Str.v (⟨[108,105,108,121]⟩:Str)),(1,mB)]).flatten.toArray) from ⟨_,rfl⟩);intro nD oD;refine J5 (c:=nD) rfl rfl .plain (fun _ _ hd=>oD ▸ Tf (vs:=[(0,Str.v (⟨[108,105,108,121]⟩:Str)),(1,mB)]) [[Str.v ⟨[]⟩],[Iz 0,.slice none 0 0]] P1 rfl rfl (.cons rfl (.cons rfl .nil)) ⟨⟨_,rfl,rfl⟩,⟨⟨_,rfl,G4 (show RV _ _ (⟨((x0).Harness).Hooks,l5⟩:TieHarness) mB from oB ▸ G2 rfl (Gm (rfl) (G6 (RV.cells (V6 (A:=fun g w=>RV g.m w l5 aB) 6 rfl rfl (hop 7 rfl rfl (Kh hd)))))))⟩,trivial⟩⟩) (Ks (φ:=fun v g w=>RV g.m w ([(⟨(⟨[108,105,108,121]⟩:Str),(⟨((x0).Harness).Hooks,l5⟩:TieHarness)⟩:Gn)]:List Gn) v∧OS 3039 g w 76 ([(⟨(⟨[108,105,108,121]⟩:Str),(⟨((x0).Harness).Hooks,l5⟩:TieHarness)⟩:Gn)]:List Gn) v∧Qr v) rfl rfl .plain (fun g w hd=>Gb (g:=g) 3039 (xs:=([(⟨(⟨[108,105,108,121]⟩:Str),(⟨((x0).Harness).Hooks,l5⟩:TieHarness)⟩:Gn)]:List Gn)) (vs:=[nD]) underlying36 sizeOf76 zeroValue76 rfl rfl (.cons rfl .nil) (RVs.cons (show RV _ _ (⟨(⟨[108,105,108,121]⟩:Str),(⟨((x0).Harness).Hooks,l5⟩:TieHarness)⟩:Gn) nD from oD ▸ G2 rfl (Gm (rfl) (G6 (RV.cells (show RV _ _ (⟨((x0).Harness).Hooks,l5⟩:TieHarness) mB from oB ▸ G2 rfl (Gm (rfl) (G6 (RV.cells (V6 (A:=fun g w=>RV g.m w l5 aB) 6 rfl rfl (hop 7 rfl rfl (hop 8 rfl rfl (Kh hd)))))))))))) RVs.nil) rfl rfl fun g' w' v hs o r hxt hfl=>⟨g',hxt,r,o,hfl⟩) (fun v8 hv=>?_));clear hv;refine Tv (c:=lD) rfl rfl .plain (fun _ _ h=>⟨h.ch,fun b hb _=>h.below.block b hb⟩) xH kG (Z2 aH rfl rfl (yH ▸ Tf (vs:=[(0,Str.v (⟨[114,111,115,101]⟩:Str)),(1,lD)]) [[Str.v ⟨[]⟩],[Iz 0,.slice none 0 0]] Ae rfl rfl (.cons rfl (.cons rfl .nil)) ⟨⟨_,rfl,rfl⟩,⟨⟨_,rfl,G4 yG⟩,trivial⟩⟩) (Ks (φ:=fun v g w=>RV g.m w ([(⟨(⟨[114,111,115,101]⟩:Str),t5⟩:Gc)]:List Gc) v∧OS 3042 g w 48 ([(⟨(⟨[114,111,115,101]⟩:Str),t5⟩:Gc)]:List Gc) v∧Qr v) rfl rfl .plain (fun g w hd=>Gb (g:=g) 3042 (xs:=([(⟨(⟨[114,111,115,101]⟩:Str),t5⟩:Gc)]:List Gc)) (vs:=[aH]) underlying37 sizeOf48 zeroValue48 rfl rfl (.cons rfl .nil) (RVs.cons (zG.ext hd.1) RVs.nil) rfl rfl fun g' w' v hs o r hxt hfl=>⟨g',hxt,r,o,hfl⟩) (fun l9 hv=>?_)))
  clear hv;refine Jz fun cH aL hall=>?_;have hs:=hall.1;have hfr:=hfr.ext hs;have uC:=uC.ext hs;have bL:=(Ti (A:=fun g w=>RV g.m w l5 aB) 6 rfl hall);have dL:=(show RV _ _ (⟨((x0).Harness).Hooks,l5⟩:TieHarness) mB from oB ▸ G2 rfl (Gm (rfl) (G6 (RV.cells (Ti (A:=fun g w=>RV g.m w l5 aB) 6 rfl hall)))));have eL:=(show RV _ _ (⟨(⟨[108,105,108,121]⟩:Str),(⟨((x0).Harness).Hooks,l5⟩:TieHarness)⟩:Gn) nD from oD ▸ G2 rfl (Gm (rfl) (G6 (RV.cells (show RV _ _ (⟨((x0).Harness).Hooks,l5⟩:TieHarness) mB from oB ▸ G2 rfl (Gm (rfl) (G6 (RV.cells (Ti (A:=fun g w=>RV g.m w l5 aB) 6 rfl hall)))))))));have lE:=(Ti (A:=fun g w=>RV g.m w ([(⟨(⟨[108,105,108,121]⟩:Str),(⟨((x0).Harness).Hooks,l5⟩:TieHarness)⟩:Gn)]:List Gn) v8∧OS 3039 g w 76 ([(⟨(⟨[108,105,108,121]⟩:Str),(⟨((x0).Harness).Hooks,l5⟩:TieHarness)⟩:Gn)]:List Gn) v8∧Qr v8) 9 rfl hall).1;have o184:=(Ti (A:=fun g w=>RV g.m w ([(⟨(⟨[108,105,108,121]⟩:Str),(⟨((x0).Harness).Hooks,l5⟩:TieHarness)⟩:Gn)]:List Gn) v8∧OS 3039 g w 76 ([(⟨(⟨[108,105,108,121]⟩:Str),(⟨((x0).Harness).Hooks,l5⟩:TieHarness)⟩:Gn)]:List Gn) v8∧Qr v8) 9 rfl hall).2.1;have gH:=(Ti (A:=fun g w=>RV g.m w ([(⟨(⟨[114,111,115,101]⟩:Str),t5⟩:Gc)]:List Gc) l9∧OS 3042 g w 48 ([(⟨(⟨[114,111,115,101]⟩:Str),t5⟩:Gc)]:List Gc) l9∧Qr l9) 12 rfl hall).1;have o187:=(Ti (A:=fun g w=>RV g.m w ([(⟨(⟨[114,111,115,101]⟩:Str),t5⟩:Gc)]:List Gc) l9∧OS 3042 g w 48 ([(⟨(⟨[114,111,115,101]⟩:Str),t5⟩:Gc)]:List Gc) l9∧Qr l9) 12 rfl hall).2.1;clear hs hall;have jH:RV cH.m _ (⟨([(⟨(⟨[108,105,108,121]⟩:Str),(⟨((x0).Harness).Hooks,l5⟩:TieHarness)⟩:Gn)]:List Gn),([(⟨(⟨[114,111,115,101]⟩:Str),t5⟩:Gc)]:List Gc)⟩:Gj) (.agg (G3 [[.slice none 0 0],[.slice none 0 0]] [(0,v8),(1,l9)]).flatten.toArray):=G2 rfl (Gm (RV.cells lE) (G6 (RV.cells gH)));generalize cF:(Value.agg (G3 [[.slice none 0 0],[.slice none 0 0]] [(0,v8),(1,l9)]).flatten.toArray)=kH at jH;refine Zz kH (cF ▸ Tf (vs:=[(0,v8),(1,l9)]) [[.slice none 0 0],[.slice none 0 0]] Ad rfl rfl (.cons rfl (.cons rfl .nil)) ⟨⟨_,rfl,G4 lE⟩,⟨⟨_,rfl,G4 gH⟩,trivial⟩⟩) rfl (Z6 rfl (Gk (g:=cH) (v:=kH) sizeOf39 zD uC rfl jH fun sJ vJ hs b189 cb=>?_));obtain ⟨xJ,zJ,mE,_,_⟩:=Qn lE;have dK:OSF 2002 3039 0 sJ vJ 76 39 (([(⟨(⟨[108,105,108,121]⟩:Str),(⟨((x0).Harness).Hooks,l5⟩:TieHarness)⟩:Gn)]:List Gn):List Gn) p2:=cb.osfv (by rw [← cF,mE]; rfl) (o184.stp hs rfl);clear cb;have hfr:=hfr.stp hs;refine Z4 (Gd ?_);obtain rfl:=sinj h;obtain ⟨ad190,cv190,hp190,zH,cr190⟩:=T6 isAgg39 sizeOf39 b189;exact Uu rfl rfl ((show _=p2 from zD).trans hp190) zH ⟨_,hfr,cr190⟩
def f10 (x0:FaultLoom):Option (FaultLoom):=
 (f15 (((x0).Harness).Warps)).bind fun o0=>
 (f24 ((x0).Design)).bind fun l5=>
 some ((⟨(⟨((x0).Harness).Hooks,o0⟩:TieHarness),l5⟩:FaultLoom))
theorem en10:Enters prog 10:=enters_of func10 (by kernel_rfl) rfl
theorem wk10 {gI:Gh} {wI:World} {x0:FaultLoom} {up0:Value} (rp0:RV gI.m wI x0 up0) {r:FaultLoom} (h:f10 x0=some r):Fn prog 10 #[up0] gI wI (fun m w v=>RV m w (r) v):=by
 unfold f10 at h;refine fnE func10 rfl rfl fun g0 hm hfr=>?_;have rp0:=RVc hm rp0;show E _ 15 none _ _ _ _ _;refine Z7 (Z6 rfl (Tq (g:=g0) rfl rp0 fun g1 w1 p1 hs q1=>?_));have hfr:=hfr.ext hs;refine Z6 rfl (Gw (g:=g1) 2002 (⟨⟨0,[]⟩,⟨0,[]⟩⟩:FaultLoom) zeroValue30 (fun m w=>⟨_,(Gi (Gi Zx Tt) (Gi Zx Tt)),rfl⟩) fun g2 w2 p2 hs b2 cb=>?_);have hfr:=hfr.stp hs;have q1:=q1.stp hs;have bD:OSF 2002 60201 1 g2 w2 3 30 ([]:List Int) p2:=cb.osf (by rfl);have cD:OSF 2002 60203 3 g2 w2 3 30 ([]:List Int) p2:=cb.osf (by rfl);clear cb;refine Z4 (Zf ?_);have q3:=Zm (Tn).1 q1;have q4:=Zm (Qh).1 q3;refine Zs (x:=.tmp 4) isAgg3 sizeOf3 q4 fun v5 r5 zB=>?_;obtain rfl:=Zj.1 r5;have q6:=Zm (Tn).1 q1;have q7:=Zm (Tm).1 q6;refine Zs (x:=.tmp 7) isAgg24 sizeOf24 q7 fun v8 r8 cC=>?_;obtain ⟨o0,mB,h⟩:=Z3 h;have uC:=Zm (G1).1 q1;refine Zs (x:=.tmp 11) isAgg28 sizeOf28 uC fun l8 vC nB=>?_;obtain ⟨l5,oB,h⟩:=Z3 h;refine Tz (g:=g2) (n:=11) [(6,(fun v g w=>RV g.m w o0 v)),(10,(fun v g w=>RV g.m w l5 v))] [0,1,2,3,4,5,6,7,8,9,10] rfl mixed (by kernel_rfl) (⟨fun _=>K0,fun _=>K0,trivial⟩) (Z2 (Ga p1 0) rfl rfl (Zc Kj rfl (PT.ptr q1)) (Z2 (Ga (Ga p1 0) 0) rfl rfl (Zc Jt rfl (PT.ptr q3)) (Tv (c:=Iz (((x0).Harness).Hooks)) rfl rfl .plain (fun _ _ h=>h.ch) zB rfl (Z2 (Ga p1 0) rfl rfl (Zc Kj rfl (PT.ptr q1)) (Z2 (Ga (Ga p1 0) 1) rfl rfl (Zc Kw rfl (PT.ptr q6)) (Tv (c:=v8) rfl rfl .plain (fun _ _ h=>h.ch) cC rfl (Ks (φ:=fun v g w=>RV g.m w o0 v) rfl rfl .plain (fun g w hd=>Zp (g:=g) (vs:=[v8]) en15 (.cons rfl .nil) (wk15 (r8.ext hd.1) mB) fun g' w' v hs hr=>⟨g',hs,hr⟩) (fun v9 hv=>?_))))))));obtain ⟨_,_,_,rq9⟩:=hv;apply Exists.elim (show ∃ v,v=(Value.agg (G3 [[Iz 0],[.slice none 0 0]] [(0,Iz (((x0).Harness).Hooks)),(1,v9)]).flatten.toArray) from ⟨_,rfl⟩);intro t5 g8;refine J5 (c:=t5) rfl rfl .plain (fun _ _ hd=>g8 ▸ Tf (vs:=[(0,Iz (((x0).Harness).Hooks)),(1,v9)]) [[Iz 0],[.slice none 0 0]] D3 rfl rfl (.cons rfl (.cons rfl .nil)) ⟨⟨_,rfl,rfl⟩,⟨⟨_,rfl,G4 (V6 (A:=fun g w=>RV g.m w o0 v9) 6 rfl rfl (Kh hd))⟩,trivial⟩⟩) (Z2 (Ga p1 2) rfl rfl (Zc Wf rfl (PT.ptr q1)) (Tv (c:=l8) rfl rfl .plain (fun _ _ h=>h.ch) nB rfl (Ks (φ:=fun v g w=>RV g.m w l5 v) rfl rfl .plain (fun g w hd=>Zp (g:=g) (vs:=[l8]) en24 (.cons rfl .nil) (wk24 (vC.ext hd.1) oB) fun g' w' v hs hr=>⟨g',hs,hr⟩) (fun i6 hv=>?_))));obtain ⟨_,_,_,rq14⟩:=hv;refine Jz fun n8 lD hall=>?_;have hs:=hall.1;have hfr:=hfr.ext hs;have b2:=b2.ext hs;have nD:=(Ti (A:=fun g w=>RV g.m w o0 v9) 6 rfl hall);have l9:=(show RV _ _ (⟨((x0).Harness).Hooks,o0⟩:TieHarness) t5 from g8 ▸ G2 rfl (Gm (rfl) (G6 (RV.cells (Ti (A:=fun g w=>RV g.m w o0 v9) 6 rfl hall)))));have n9:=(Ti (A:=fun g w=>RV g.m w l5 i6) 10 rfl hall);clear hs hall;have aB:RV n8.m _ (⟨(⟨((x0).Harness).Hooks,o0⟩:TieHarness),l5⟩:FaultLoom) (.agg (G3 [[Iz 0,.slice none 0 0],[Iz 0,.slice none 0 0]] [(0,t5),(1,i6)]).flatten.toArray):=G2 rfl (Gm (RV.cells l9) (G6 (RV.cells n9)));generalize vB:(Value.agg (G3 [[Iz 0,.slice none 0 0],[Iz 0,.slice none 0 0]] [(0,t5),(1,i6)]).flatten.toArray)=lB at aB;refine Zz lB (vB ▸ Tf (vs:=[(0,t5),(1,i6)]) [[Iz 0,.slice none 0 0],[Iz 0,.slice none 0 0]] Py rfl rfl (.cons rfl (.cons rfl .nil)) ⟨⟨_,rfl,G4 l9⟩,⟨⟨_,rfl,G4 n9⟩,trivial⟩⟩) rfl (Z6 rfl (Gk (g:=n8) (v:=lB) sizeOf30 rfl b2 rfl aB fun oD yD hs b32 cb=>?_));clear cb;have hfr:=hfr.stp hs;refine Z4 (Gd ?_);obtain rfl:=sinj h;obtain ⟨ad33,cv33,hp33,yB,cr33⟩:=T6 isAgg30 sizeOf30 b32;exact Uu rfl rfl ((rq p2).trans hp33) yB ⟨_,hfr,cr33⟩
def f18 (x0:Z5):Option ((Vector UInt8 8)):=
 (W8 (x0).Day ((8:Int))).bind fun y5=>
 (f33 ((⟨List.toArray [(u8w y5),(u8w ((x0).Day)),(u8w ((x0).Loom)),(u8w ((x0).Chain)),(u8w ((x0).Tie)),(u8w ((x0).Picks)),0,0],rfl⟩:Vector UInt8 8))).bind fun o0=>
 some ((Vector.set ((Vector.set ((⟨List.toArray [(u8w y5),(u8w ((x0).Day)),(u8w ((x0).Loom)),(u8w ((x0).Chain)),(u8w ((x0).Tie)),(u8w ((x0).Picks)),0,0],rfl⟩:Vector UInt8 8)) 6 (o0.1) (by decide))) 7 (o0.2) (by decide)))
theorem en18:Enters prog 18:=enters_of func18 (by kernel_rfl) rfl
theorem wk18 {gI:Gh} {wI:World} {x0:Z5} {up0:Value} (rp0:RV gI.m wI x0 up0) {r:(Vector UInt8 8)} (h:f18 x0=some r):Fn prog 18 #[up0] gI wI (fun m w v=>RV m w (r) v):=by
 unfold f18 at h;refine fnE func18 rfl rfl fun g0 hm hfr=>?_;have rp0:=RVc hm rp0;show E _ 31 none _ _ _ _ _;refine Z7 (Z6 rfl (Tq (g:=g0) rfl rp0 fun g1 w1 p1 hs q1=>?_));have hfr:=hfr.ext hs;refine Z6 rfl (Gw (g:=g1) 2002 ((⟨List.toArray [0,0,0,0,0,0,0,0],rfl⟩:Vector UInt8 8):Vector UInt8 8) zeroValue80 (fun m w=>⟨_,(Y5 (Zw Qe (Zw Qe (Zw Qe (Zw Qe (Zw Qe (Zw Qe (Zw Qe (Zw Qe Yh)))))))) rfl),rfl⟩) fun g2 w2 p2 hs b2 cb=>?_);have hfr:=hfr.stp hs;have q1:=q1.stp hs;clear cb;refine Z4 (Z7 (Zz (Ga p1 0) (Zc Ys rfl (PT.ptr q1)) rfl ?_));have q3:=Zm (Q4).1 q1;refine Z6 rfl (Z9 (g:=g2) isAgg3 sizeOf3 rfl q3 fun v4 r4=>?_);obtain rfl:=Zj.1 r4;obtain ⟨y5,hy5,h⟩:=Z3 h;refine Zz (Iz (y5)) (P_shru rfl rfl hy5) rfl (Zz (.int .u8 (UInt8.toNat ((u8w y5)))) (Yt underlying3 underlying5 rfl) rfl (Zz (Ga p1 0) (Zc Ys rfl (PT.ptr q1)) rfl ?_));have q6:=Zm (Q4).1 q1;refine Z6 rfl (Z9 (g:=g2) isAgg3 sizeOf3 rfl q6 fun v7 r7=>?_);obtain rfl:=Zj.1 r7;refine Zz (.int .u8 (UInt8.toNat ((u8w ((x0).Day))))) (Yt underlying3 underlying5 rfl) rfl (Zz (Ga p1 1) (Zc J6 rfl (PT.ptr q1)) rfl ?_);have q8:=Zm (Qv).1 q1;refine Z6 rfl (Z9 (g:=g2) isAgg3 sizeOf3 rfl q8 fun v9 r9=>?_);obtain rfl:=Zj.1 r9;refine Zz (.int .u8 (UInt8.toNat ((u8w ((x0).Loom))))) (Yt underlying3 underlying5 rfl) rfl (Zz (Ga p1 2) (Zc Vz rfl (PT.ptr q1)) rfl ?_);have v8:=Zm (Wr).1 q1;refine Z6 rfl (Z9 (g:=g2) isAgg3 sizeOf3 rfl v8 fun cD l9=>?_);obtain rfl:=Zj.1 l9;refine Zz (.int .u8 (UInt8.toNat ((u8w ((x0).Chain))))) (Yt underlying3 underlying5 rfl) rfl (Zz (Ga p1 3) (Zc Se rfl (PT.ptr q1)) rfl ?_);have n9:=Zm (Hm).1 q1;refine Z6 rfl (Z9 (g:=g2) isAgg3 sizeOf3 rfl n9 fun lD aB=>?_);obtain rfl:=Zj.1 aB;refine Zz (.int .u8 (UInt8.toNat ((u8w ((x0).Tie))))) (Yt underlying3 underlying5 rfl) rfl (Zz (Ga p1 4) (Zc Fw rfl (PT.ptr q1)) rfl ?_);have lB:=Zm (Jk).1 q1;refine Z6 rfl (Z9 (g:=g2) isAgg3 sizeOf3 rfl lB fun nD mB=>?_);obtain rfl:=Zj.1 mB;refine Zz (.int .u8 (UInt8.toNat ((u8w ((x0).Picks))))) (Yt underlying3 underlying5 rfl) rfl ?_;have l5:RV g2.m w2 (⟨List.toArray [(u8w y5),(u8w ((x0).Day)),(u8w ((x0).Loom)),(u8w ((x0).Chain)),(u8w ((x0).Tie)),(u8w ((x0).Picks)),0,0],rfl⟩:Vector UInt8 8) (.agg (G3 [[.int .u8 0],[.int .u8 0],[.int .u8 0],[.int .u8 0],[.int .u8 0],[.int .u8 0],[.int .u8 0],[.int .u8 0]] [(0,.int .u8 (UInt8.toNat ((u8w y5)))),(1,.int .u8 (UInt8.toNat ((u8w ((x0).Day))))),(2,.int .u8 (UInt8.toNat ((u8w ((x0).Loom))))),(3,.int .u8 (UInt8.toNat ((u8w ((x0).Chain))))),(4,.int .u8 (UInt8.toNat ((u8w ((x0).Tie))))),(5,.int .u8 (UInt8.toNat ((u8w ((x0).Picks)))))]).flatten.toArray):=G2 rfl (Y5 (Zw rfl (Zw rfl (Zw rfl (Zw rfl (Zw rfl (Zw rfl (Zw Qe (Zw Qe Yh)))))))) rfl);generalize l8:(Value.agg (G3 [[.int .u8 0],[.int .u8 0],[.int .u8 0],[.int .u8 0],[.int .u8 0],[.int .u8 0],[.int .u8 0],[.int .u8 0]] [(0,.int .u8 (UInt8.toNat ((u8w y5)))),(1,.int .u8 (UInt8.toNat ((u8w ((x0).Day))))),(2,.int .u8 (UInt8.toNat ((u8w ((x0).Loom))))),(3,.int .u8 (UInt8.toNat ((u8w ((x0).Chain))))),(4,.int .u8 (UInt8.toNat ((u8w ((x0).Tie))))),(5,.int .u8 (UInt8.toNat ((u8w ((x0).Picks)))))]).flatten.toArray)=t5 at l5;refine Zz t5 (l8 ▸ La (vs:=[(0,.int .u8 (UInt8.toNat ((u8w y5)))),(1,.int .u8 (UInt8.toNat ((u8w ((x0).Day))))),(2,.int .u8 (UInt8.toNat ((u8w ((x0).Loom))))),(3,.int .u8 (UInt8.toNat ((u8w ((x0).Chain))))),(4,.int .u8 (UInt8.toNat ((u8w ((x0).Tie))))),(5,.int .u8 (UInt8.toNat ((u8w ((x0).Picks)))))]) [[.int .u8 0],[.int .u8 0],[.int .u8 0],[.int .u8 0],[.int .u8 0],[.int .u8 0],[.int .u8 0],[.int .u8 0]] underlying80 I7 szA_5 rfl (by simp) (.cons rfl (.cons rfl (.cons rfl (.cons rfl (.cons rfl (.cons rfl .nil)))))) ⟨⟨_,rfl,rfl⟩,⟨⟨_,rfl,rfl⟩,⟨⟨_,rfl,rfl⟩,⟨⟨_,rfl,rfl⟩,⟨⟨_,rfl,rfl⟩,⟨⟨_,rfl,rfl⟩,trivial⟩⟩⟩⟩⟩⟩) rfl (Z6 rfl (Gk (g:=g2) (v:=t5) sizeOf80 rfl b2 rfl l5 fun i6 oD hs b17 cb=>?_));clear cb;have hfr:=hfr.stp hs;refine Z4 (Z7 (Z6 rfl (T3 (g:=i6) isAgg80 sizeOf80 rfl b17 fun nB oB=>?_)))
 obtain ⟨o0,hy20,h⟩:=Z3 h;refine Z6 rfl (Zp (g:=i6) (vs:=[nB]) en33 (.cons rfl .nil) (wk33 oB hy20) fun vB bD yD hs hr=>?_);have hfr:=hfr.ext hs;have b17:=b17.ext hs;obtain ⟨uC,vC,rfl,rfl,rfl⟩:=hr;refine Zn (.tuple #[.int .u8 (UInt8.toNat (o0.1)),.int .u8 (UInt8.toNat (o0.2))]) rfl rfl (Zz (.int .u8 (UInt8.toNat (o0.1))) (Zi rfl rfl) rfl (Zz (.int .u8 (UInt8.toNat (o0.2))) (Zi rfl rfl) rfl (Zz (Ga p2 6) (Tw (α:=UInt8) (i:=(6:Int)) underlying80 sizeOf5 rfl (OB.ptr b17) rfl (Ar (v:=(⟨List.toArray [(u8w y5),(u8w ((x0).Day)),(u8w ((x0).Loom)),(u8w ((x0).Chain)),(u8w ((x0).Tie)),(u8w ((x0).Picks)),0,0],rfl⟩:Vector UInt8 8)) (i:=6) (by decide))) rfl (Z6 rfl (Qg (g:=vB) (Gp.vec (β:=UInt8) (n:=8) (i:=6) (by decide)) sizeOf5 rfl b17 rfl (Qz.2 rfl) fun yB zD hs b21 rst hos=>?_)))));clear rst hos;have hfr:=hfr.stp hs;refine Zz (Ga p2 7) (Tw (α:=UInt8) (i:=(7:Int)) underlying80 sizeOf5 rfl (OB.ptr b21) rfl (Ar (v:=(Vector.set ((⟨List.toArray [(u8w y5),(u8w ((x0).Day)),(u8w ((x0).Loom)),(u8w ((x0).Chain)),(u8w ((x0).Tie)),(u8w ((x0).Picks)),0,0],rfl⟩:Vector UInt8 8)) 6 (o0.1) (by decide))) (i:=7) (by decide))) rfl (Z6 rfl (Qg (g:=yB) (Gp.vec (β:=UInt8) (n:=8) (i:=7) (by decide)) sizeOf5 rfl b21 rfl (Qz.2 rfl) fun g8 aE hs b22 rst hos=>?_));clear rst hos;have hfr:=hfr.stp hs;refine Z4 (Z7 (Z6 rfl (T3 (g:=g8) isAgg80 sizeOf80 rfl b22 fun zB cC=>(Z6 rfl (Gk (g:=g8) (v:=zB) sizeOf80 rfl b22 rfl cC fun bE iE hs b24 cb=>?_)))));clear cb;have hfr:=hfr.stp hs;refine Z4 (Gd ?_);obtain rfl:=sinj h;obtain ⟨ad25,cv25,hp25,n8,cr25⟩:=T6 isAgg80 sizeOf80 b24;exact Uu rfl rfl ((rq p2).trans hp25) n8 ⟨_,hfr,cr25⟩
def f25 (x0:List Str) (x1:List Str):Option (It (Int × Int)):=
 some ((fun σ cons s=>f58 x0 x1 σ cons s))
theorem en25:Enters prog 25:=enters_of func25 (by kernel_rfl) rfl
theorem wk25 {gI:Gh} {wI:World} {x0:List Str} {x1:List Str} {up0:Value} (rp0:RV gI.m wI x0 up0) {up1:Value} (rp1:RV gI.m wI x1 up1) {r:It (Int × Int)} (h:f25 x0 x1=some r):Fn prog 25 #[up0,up1] gI wI (fun m w v=>ItV prog (RA2 (α:=Int) (β:=Int)) (r) v m w):=by
 unfold f25 at h;refine fnE func25 rfl rfl fun g0 hm hfr=>?_;have rp0:=RVc hm rp0;have rp1:=RVc hm rp1;show E _ 6 none _ _ _ _ _;refine Z7 (Z6 rfl (Tq (g:=g0) rfl rp0 fun g1 w1 p1 hs q1=>?_));have hfr:=hfr.ext hs;have rp1:=rp1.ext hs;refine Z6 rfl (Tq (g:=g1) rfl rp1 fun g2 w2 p2 hs q2=>?_);have hfr:=hfr.ext hs;have q1:=q1.ext hs;refine Zg (.nilFunc) rfl rfl (Z4 (Z7 (Zz ((.func (.func 58) #[] #[p1,p2])) (Kd (Yl (show ev _ _=p1 from rfl) (show ev _ _=p2 from rfl))) rfl (Zg ((.func (.func 58) #[] #[p1,p2])) rfl rfl (Z4 (Gd ?_))))));obtain rfl:=sinj h;exact Ta rfl rfl (rq (.func (.func 58) #[] #[p1,p2])) ⟨_,hfr,(show ItV prog (RA2 (α:=Int) (β:=Int)) (fun σ cons s=>f58 x0 x1 σ cons s) ((.func (.func 58) #[] #[p1,p2])) g2.m w2 from ⟨58,#[],#[p1,p2],rfl,en58,fun g' w' hch σ cons s s' h=>wk58  (q1.ch hch) (q2.ch hch) h⟩)⟩
def f32 (x0:Int) (x1:Int):Option (Int):=
 (f66 x0).bind fun y2=>
 (f66 x1).bind fun y4=>
 jn (σ:=Unit) (fun _=>
  jn (σ:=Unit) (fun _=>
   jn (σ:=Unit) (fun _=>
    jn (σ:=Unit) (fun _=>
     some ((0:Int))
     ) fun mB=>
    bif (decide (x0 > x1)) then
     some ((1:Int))
    else
     mB ()
    ) fun nB=>
   bif (decide (x0 < x1)) then
    some ((-1:Int))
   else
    nB ()
   ) fun k18=>
  bif y4 then
   some ((1:Int))
  else
   k18 ()
  ) fun oB=>
 bif y2 then
  jn (σ:=Unit) (fun _=>
   some ((-1:Int))
   ) fun vB=>
  bif y4 then
   some ((0:Int))
  else
   vB ()
 else
  oB ()
theorem en32:Enters prog 32:=enters_of func32 (by kernel_rfl) rfl
theorem wk32 {gI:Gh} {wI:World} {x0:Int} {x1:Int}  {r:Int} (h:f32 x0 x1=some r):Fn prog 32 #[Iz (x0),Iz (x1)] gI wI (fun _ _ v=>v=Iz (r)):=by
 unfold f32 at h;refine fnE func32 rfl rfl fun g0 hm hfr=>?_;show E _ 20 none _ _ _ _ _;refine Z7 (Zg (Iz (0)) rfl rfl (Z4 (Z7 (Zn (Iz (x0)) rfl rfl ?_))));obtain ⟨y2,hy2,h⟩:=Z3 h;refine Z6 rfl (Zp (g:=g0) (vs:=[Iz (x0)]) en66 (.cons rfl .nil) (wk66  hy2) fun g1 w1_ v1 hs hr=>?_);have hfr:=hfr.ext hs;subst hr;refine Zg (.bool (y2)) rfl rfl (Z4 (Z7 (Zn (Iz (x1)) rfl rfl ?_)));obtain ⟨y4,bD,h⟩:=Z3 h;refine Z6 rfl (Zp (g:=g1) (vs:=[Iz (x1)]) en66 (.cons rfl .nil) (wk66  bD) fun g3 w3_ v3 hs hr=>?_);have hfr:=hfr.ext hs;subst hr;refine Zg (.bool (y4)) rfl rfl (Z4 (Zq h (fun (s:Unit) e w=>∃ (g:Gh) ,Fr gI wI g w∧e 0=Iz (x0)∧e 1=Iz (x1)∧e 6=.bool (y4)) (fun X10 oB yB h=>?_) ?_))
 ·refine Z7 (Zn (.bool (y2)) rfl rfl (Z4 ?_))
  rcases Zt h with ⟨o0,h⟩ | ⟨o0,h⟩
  ·refine G5 o0 rfl (Zq h (fun (s : Unit) e w => ∃ (g : Gh) , Fr gI wI g w) (fun X13 vB zB h => ?_) ?_)
   ·refine Z7 (Zn (.bool (y4)) rfl rfl (Z4 ?_))
    rcases Zt h with ⟨l5,h⟩ | ⟨l5,h⟩
    ·refine G5 l5 rfl (Z7 (Zg (Iz (0)) rfl rfl (Z4 (Gd (Gq (Gq ?_))))))
     obtain rfl:=sinj h;exact Ta rfl rfl (rq (Iz (0))) ⟨_,hfr,rfl⟩
    ·refine G8 l5 rfl ?_
     exact Zu (Zd (zB () _ _ ⟨g3,hfr⟩ h))
   ·rintro _ oD w15 ⟨iE, hfr⟩ h
    refine Z7 (Zg (Iz (-1)) rfl rfl (Z4 (Gd (Gq ?_))));obtain rfl:=sinj h;exact Ta rfl rfl (rq (Iz (-1))) ⟨_,hfr,rfl⟩
  ·refine G8 o0 rfl ?_
   exact Zu (Zd (yB () _ _ ⟨g3,hfr,rfl,rfl,rfl⟩ h))
 ·rintro _ yD lE ⟨cD, hfr, v8, l9, n9⟩ h
  refine Zq h (fun (s:Unit) e w=>∃ (g:Gh) ,Fr gI wI g w∧e 0=Iz (x0)∧e 1=Iz (x1)) (fun X18 k18 cC h=>?_) ?_
  ·refine Z7 (Zo n9 rfl (Z4 ?_))
   rcases Zt h with ⟨t5,h⟩ | ⟨t5,h⟩
   ·refine G5 t5 rfl (Z7 (Zg (Iz (1)) rfl rfl (Z4 (Gd (Gq ?_)))))
    obtain rfl:=sinj h;exact Ta rfl rfl (rq (Iz (1))) ⟨_,hfr,rfl⟩
   ·refine G8 t5 rfl ?_
    exact Zu (Zd (cC () _ _ ⟨cD,hfr,v8,l9⟩ h))
  ·rintro _ zD mE ⟨lD, hfr, l8, n8⟩ h
   refine Zq h (fun (s:Unit) e w=>∃ (g:Gh) ,Fr gI wI g w∧e 0=Iz (x0)∧e 1=Iz (x1)) (fun X22 nB uC h=>?_) ?_
   ·refine Z7 (Zo l8 rfl (Zo n8 rfl (Gf (.bool ((decide (x0 < x1)))) rfl rfl rfl rfl (Z4 ?_))))
    rcases Zt h with ⟨i6,h⟩ | ⟨i6,h⟩
    ·refine G5 i6 rfl (Z7 (Zg (Iz (-1)) rfl rfl (Z4 (Gd (Gq ?_)))))
     obtain rfl:=sinj h;exact Ta rfl rfl (rq (Iz (-1))) ⟨_,hfr,rfl⟩
    ·refine G8 i6 rfl ?_
     exact Zu (Zd (uC () _ _ ⟨lD,hfr,l8,n8⟩ h))
   ·rintro _ aE oE ⟨nD, hfr, aB, lB⟩ h
    refine Zq h (fun (s:Unit) e w=>∃ (g:Gh) ,Fr gI wI g w) (fun X26 mB vC h=>?_) ?_
    ·refine Z7 (Zo aB rfl (Zo lB rfl (Gf (.bool ((decide (x0 > x1)))) rfl rfl rfl rfl (Z4 ?_))))
     rcases Zt h with ⟨g8,h⟩ | ⟨g8,h⟩
     ·refine G5 g8 rfl (Z7 (Zg (Iz (1)) rfl rfl (Z4 (Gd (Gq ?_)))))
      obtain rfl:=sinj h;exact Ta rfl rfl (rq (Iz (1))) ⟨_,hfr,rfl⟩
     ·refine G8 g8 rfl ?_
      exact Zu (Zd (vC () _ _ ⟨nD,hfr⟩ h))
    ·rintro _ bE rE ⟨uE, hfr⟩ h
     refine Z7 (Zg (Iz (0)) rfl rfl (Z4 (Gd ?_)));obtain rfl:=sinj h;exact Ta rfl rfl (rq (Iz (0))) ⟨_,hfr,rfl⟩
def f43 (x0:List Gn) (x1:Gn→Option Bool):Option (Bool):=
 (f75 x0 x1).bind fun y2=>
 some ((decide (y2 ≥ (0:Int))))
theorem en43:Enters prog 43:=enters_of func43 (by kernel_rfl) rfl
theorem wk43 {gI:Gh} {wI:World} {x0:List Gn} {x1:Gn→Option Bool} {up0:Value} (rp0:RV gI.m wI x0 up0) {up1:Value} (rp1:Jf prog x1 up1 gI wI) {r:Bool} (h:f43 x0 x1=some r):Fn prog 43 #[up0,up1] gI wI (fun _ _ v=>v=.bool (r)):=by
 unfold f43 at h;refine fnE func43 rfl rfl fun g0 hm hfr=>?_;have rp0:=RVc hm rp0;obtain ⟨ff1,fa1,fc1,rfl,fen1,fcl1⟩:=rp1;show E _ 9 none _ _ _ _ _;refine Z7 (Zg (.bool false) rfl rfl (Z4 (Z7 (Zn up0 rfl rfl (Zn ((.func (.func ff1) fa1 fc1)) rfl rfl ?_)))));obtain ⟨y2,hy2,h⟩:=Z3 h;refine Z6 rfl (Zp (g:=g0) (vs:=[up0,(.func (.func ff1) fa1 fc1)]) en75 (.cons rfl (.cons rfl .nil)) (wk75 rp0 (Jf.ch ⟨_,_,_,rfl,fen1,fcl1⟩ hfr.ch) hy2) fun g1 w1_ v1 hs hr=>?_);have hfr:=hfr.ext hs;subst hr;refine Gf (.bool ((decide (y2 ≥ (0:Int))))) rfl rfl rfl rfl (Zg (.bool ((decide (y2 ≥ (0:Int))))) rfl rfl (Z4 (Gd ?_)));obtain rfl:=sinj h;exact Ta rfl rfl (rq (.bool ((decide (y2 ≥ (0:Int)))))) ⟨_,hfr,rfl⟩
def f44 (x0:List Gc) (x1:Gc→Option Bool):Option (Bool):=
 (f76 x0 x1).bind fun y2=>
 some ((decide (y2 ≥ (0:Int))))
theorem en44:Enters prog 44:=enters_of func44 (by kernel_rfl) rfl
theorem wk44 {gI:Gh} {wI:World} {x0:List Gc} {x1:Gc→Option Bool} {up0:Value} (rp0:RV gI.m wI x0 up0) {up1:Value} (rp1:Jf prog x1 up1 gI wI) {r:Bool} (h:f44 x0 x1=some r):Fn prog 44 #[up0,up1] gI wI (fun _ _ v=>v=.bool (r)):=by
 unfold f44 at h;refine fnE func44 rfl rfl fun g0 hm hfr=>?_;have rp0:=RVc hm rp0;obtain ⟨ff1,fa1,fc1,rfl,fen1,fcl1⟩:=rp1;show E _ 9 none _ _ _ _ _;refine Z7 (Zg (.bool false) rfl rfl (Z4 (Z7 (Zn up0 rfl rfl (Zn ((.func (.func ff1) fa1 fc1)) rfl rfl ?_)))));obtain ⟨y2,hy2,h⟩:=Z3 h;refine Z6 rfl (Zp (g:=g0) (vs:=[up0,(.func (.func ff1) fa1 fc1)]) en76 (.cons rfl (.cons rfl .nil)) (wk76 rp0 (Jf.ch ⟨_,_,_,rfl,fen1,fcl1⟩ hfr.ch) hy2) fun g1 w1_ v1 hs hr=>?_);have hfr:=hfr.ext hs;subst hr;refine Gf (.bool ((decide (y2 ≥ (0:Int))))) rfl rfl rfl rfl (Zg (.bool ((decide (y2 ≥ (0:Int))))) rfl rfl (Z4 (Gd ?_)));obtain rfl:=sinj h;exact Ta rfl rfl (rq (.bool ((decide (y2 ≥ (0:Int)))))) ⟨_,hfr,rfl⟩
def f55 (x0:Zv) (x1:Zv):Option (Int):=
 (f56 ((x0).Kind)).bind fun y6=>
 (f56 ((x1).Kind)).bind fun o0=>
 some ((w64 (y6 - o0)))
theorem en55:Enters prog 55:=enters_of func55 (by kernel_rfl) rfl
theorem wk55 {gI:Gh} {wI:World} {x0:Zv} {x1:Zv} {up0:Value} (rp0:RV gI.m wI x0 up0) {up1:Value} (rp1:RV gI.m wI x1 up1) {r:Int} (h:f55 x0 x1=some r):Fn prog 55 #[up0,up1] gI wI (fun _ _ v=>v=Iz (r)):=by
 unfold f55 at h;refine fnE func55 rfl rfl fun g0 hm hfr=>?_;have rp0:=RVc hm rp0;have rp1:=RVc hm rp1;show E _ 12 none _ _ _ _ _;refine Z7 (Z6 rfl (Tq (g:=g0) rfl rp0 fun g1 w1 p1 hs q1=>?_));have hfr:=hfr.ext hs;have rp1:=rp1.ext hs;refine Z6 rfl (Tq (g:=g1) rfl rp1 fun g2 w2 p2 hs q2=>?_);have hfr:=hfr.ext hs;have q1:=q1.ext hs;refine Zg (Iz (0)) rfl rfl (Z4 (Zf ?_));have q3:=Zm (Q0).1 q1;refine Zs (x:=.tmp 5) isAgg32 sizeOf32 q3 fun v4 r4 t5=>?_;obtain rfl:=Zj.1 r4;obtain ⟨y6,i6,h⟩:=Z3 h;have q7:=Zm (Q0).1 q2;refine Zs (x:=.tmp 8) isAgg32 sizeOf32 q7 fun v8 r8 g8=>?_;obtain rfl:=Zj.1 r8;obtain ⟨o0,l5,h⟩:=Z3 h;refine Tz (g:=g2) (n:=8) [(2,(fun v g w=>v=Iz (y6))),(5,(fun v g w=>v=Iz (o0)))] [0,1,2,3,4,5,6,7] rfl mixed (by kernel_rfl) (⟨fun _=>Kz _,fun _=>Kz _,trivial⟩) (Z2 (Ga p1 0) rfl rfl (Zc Uw rfl (PT.ptr q1)) (Tv (c:=Iz ((x0).Kind)) rfl rfl .plain (fun _ _ h=>h.ch) t5 rfl (Ks (φ:=fun v g w=>v=Iz (y6)) rfl rfl .plain (fun g w hd=>Zp (g:=g) (vs:=[Iz ((x0).Kind)]) en56 (.cons rfl .nil) (wk56  i6) fun g' w' v hs hr=>⟨g',hs,hr⟩) (fun v5 hv=>?_))));obtain ⟨_,_,_,rfl⟩:=hv;refine Z2 (Ga p2 0) rfl rfl (Zc Uw rfl (PT.ptr q2)) (Tv (c:=Iz ((x1).Kind)) rfl rfl .plain (fun _ _ h=>h.ch) g8 rfl (Ks (φ:=fun v g w=>v=Iz (o0)) rfl rfl .plain (fun g w hd=>Zp (g:=g) (vs:=[Iz ((x1).Kind)]) en56 (.cons rfl .nil) (wk56  l5) fun g' w' v hs hr=>⟨g',hs,hr⟩) (fun v9 hv=>?_)));obtain ⟨_,_,_,rfl⟩:=hv;refine Z2 (Iz ((w64 (y6 - o0)))) rfl rfl (Gx rfl rfl rfl) (Z2 (Iz ((w64 (y6 - o0)))) rfl rfl (Tx rfl) (Ho fun l8 n8 hs=>?_));have hfr:=hfr.ext hs;clear hs;refine Z4 (Gd ?_);obtain rfl:=sinj h;exact Ta rfl rfl (rq (Iz ((w64 (y6 - o0))))) ⟨_,hfr,rfl⟩
def f64 (x0:List Int) (x1:Int→Option Bool):Option (Bool):=
 (f101 x0 x1).bind fun y2=>
 some ((decide (y2 ≥ (0:Int))))
theorem en64:Enters prog 64:=enters_of func64 (by kernel_rfl) rfl
theorem wk64 {gI:Gh} {wI:World} {x0:List Int} {x1:Int→Option Bool} {up0:Value} (rp0:RV gI.m wI x0 up0) {up1:Value} (rp1:Jf prog x1 up1 gI wI) {r:Bool} (h:f64 x0 x1=some r):Fn prog 64 #[up0,up1] gI wI (fun _ _ v=>v=.bool (r)):=by
 unfold f64 at h;refine fnE func64 rfl rfl fun g0 hm hfr=>?_;have rp0:=RVc hm rp0;obtain ⟨ff1,fa1,fc1,rfl,fen1,fcl1⟩:=rp1;show E _ 9 none _ _ _ _ _;refine Z7 (Zg (.bool false) rfl rfl (Z4 (Z7 (Zn up0 rfl rfl (Zn ((.func (.func ff1) fa1 fc1)) rfl rfl ?_)))));obtain ⟨y2,hy2,h⟩:=Z3 h;refine Z6 rfl (Zp (g:=g0) (vs:=[up0,(.func (.func ff1) fa1 fc1)]) en101 (.cons rfl (.cons rfl .nil)) (wk101 rp0 (Jf.ch ⟨_,_,_,rfl,fen1,fcl1⟩ hfr.ch) hy2) fun g1 w1_ v1 hs hr=>?_);have hfr:=hfr.ext hs;subst hr;refine Gf (.bool ((decide (y2 ≥ (0:Int))))) rfl rfl rfl rfl (Zg (.bool ((decide (y2 ≥ (0:Int))))) rfl rfl (Z4 (Gd ?_)));obtain rfl:=sinj h;exact Ta rfl rfl (rq (.bool ((decide (y2 ≥ (0:Int)))))) ⟨_,hfr,rfl⟩
def f67 (x0:Int) (x1:Int) (x2:List Int):Option (Bool):=
 (f64 x2 ((fun a0=>f102 a0 x0 x1))).bind fun y4=>
 some ((!y4))
theorem en67:Enters prog 67:=enters_of func67 (by kernel_rfl) rfl
theorem wk67 {gI:Gh} {wI:World} {x0:Int} {x1:Int} {x2:List Int} {up2:Value} (rp2:RV gI.m wI x2 up2) {r:Bool} (h:f67 x0 x1 x2=some r):Fn prog 67 #[Iz (x0),Iz (x1),up2] gI wI (fun _ _ v=>v=.bool (r)):=by
 unfold f67 at h;refine fnE func67 rfl rfl fun g0 hm hfr=>?_;have rp2:=RVc hm rp2;show E _ 11 none _ _ _ _ _;refine Z7 (Z6 rfl (Tq (g:=g0) rfl (Zj.2 rfl) fun g1 w1 p1 hs q1=>?_));have hfr:=hfr.ext hs;have rp2:=rp2.ext hs;refine Z6 rfl (Tq (g:=g1) rfl (Zj.2 rfl) fun g2 w2 p2 hs q2=>?_);have hfr:=hfr.ext hs;have rp2:=rp2.ext hs;have q1:=q1.ext hs;refine Zg (.bool false) rfl rfl (Z4 (Z7 (Zn up2 rfl rfl (Zz ((.func (.func 102) #[] #[p1,p2])) (Kd (Yl (show ev _ _=p1 from rfl) (show ev _ _=p2 from rfl))) rfl ?_))));obtain ⟨y4,o0,h⟩:=Z3 h;refine Z6 rfl (Zp (g:=g2) (vs:=[up2,(.func (.func 102) #[] #[p1,p2])]) en64 (.cons rfl (.cons rfl .nil)) (wk64 rp2 ⟨102,#[],#[p1,p2],rfl,en102,fun g' w' hch a0 b0 r hu0 hr=>by obtain rfl:=Zj.1 hu0; exact Fn.mono (wk102  (q1.ch hch) (q2.ch hch) hr) fun _ _ _ h=>Qm.2 h⟩ o0) fun g3 w3_ v3 hs hr=>?_);have hfr:=hfr.ext hs;subst hr;refine Zz (.bool (!y4)) (Wq rfl) rfl (Zg (.bool (!y4)) rfl rfl (Z4 (Gd ?_)));obtain rfl:=sinj h;exact Ta rfl rfl (rq (.bool (!y4))) ⟨_,hfr,rfl⟩
def f71 (x0:List Str) (x1:Str→Option Bool):Option (Bool):=
 (f107 x0 x1).bind fun y2=>
 some ((decide (y2 ≥ (0:Int))))
theorem en71:Enters prog 71:=enters_of func71 (by kernel_rfl) rfl
theorem wk71 {gI:Gh} {wI:World} {x0:List Str} {x1:Str→Option Bool} {up0:Value} (rp0:RV gI.m wI x0 up0) {up1:Value} (rp1:Jf prog x1 up1 gI wI) {r:Bool} (h:f71 x0 x1=some r):Fn prog 71 #[up0,up1] gI wI (fun _ _ v=>v=.bool (r)):=by
 unfold f71 at h;refine fnE func71 rfl rfl fun g0 hm hfr=>?_;have rp0:=RVc hm rp0;obtain ⟨ff1,fa1,fc1,rfl,fen1,fcl1⟩:=rp1;show E _ 9 none _ _ _ _ _;refine Z7 (Zg (.bool false) rfl rfl (Z4 (Z7 (Zn up0 rfl rfl (Zn ((.func (.func ff1) fa1 fc1)) rfl rfl ?_)))));obtain ⟨y2,hy2,h⟩:=Z3 h;refine Z6 rfl (Zp (g:=g0) (vs:=[up0,(.func (.func ff1) fa1 fc1)]) en107 (.cons rfl (.cons rfl .nil)) (wk107 rp0 (Jf.ch ⟨_,_,_,rfl,fen1,fcl1⟩ hfr.ch) hy2) fun g1 w1_ v1 hs hr=>?_);have hfr:=hfr.ext hs;subst hr;refine Gf (.bool ((decide (y2 ≥ (0:Int))))) rfl rfl rfl rfl (Zg (.bool ((decide (y2 ≥ (0:Int))))) rfl rfl (Z4 (Gd ?_)));obtain rfl:=sinj h;exact Ta rfl rfl (rq (.bool ((decide (y2 ≥ (0:Int)))))) ⟨_,hfr,rfl⟩
def f78 : Nat → (List Z5) → (Int) → (Int) → (Int) → (Z5 → Z5 → Option Int) → Option ((List Z5))
 | 0,_,_,_,_,_=>none
 | n + 1,x0,x1,x2,x3,x4=>
  lp (σ:=(List Z5) × Int × Int × Int × Bool × Bool) (fun k1 (n8,o0,l5,i6,t5,l8)=>
   jn (σ:=(List Z5)) (fun l9=>
    jn (σ:=Unit) (fun _=>
     Option.bind (α:=Int) (
      bif (!t5) then
       none
      else
       some (i6)
      ) fun oB=>
     none
     ) fun rF=>
    bif (i6 == (0 : Int)) then
     none
    else
     rF ()
    ) fun k6=>
   bif (decide ((w64 (l5 - o0)) ≤ (12 : Int))) then
    (f111 n8 o0 l5 x4).bind fun y9=>
    some (y9)
   else
    k6 (n8)
   ) big (x0,x1,x2,x3,true,true)
theorem en78:Enters prog 78:=enters_of func78 (by kernel_rfl) rfl
theorem wk78 (n:Nat):∀ {iI:Nat} {gI:Gh} {wI:World} {x0:List Z5} {x1:Int} {x2:Int} {x3:Int} {x4:Z5→Z5→Option Int} {up0:Value} (mp0:OM iI gI wI 55 x0 up0) {up4:Value} (rp4:Dm prog x4 up4 gI wI) {r:(List Z5)} (h:f78 n x0 x1 x2 x3 x4=some r),FnM prog 78 #[up0,Iz (x1),Iz (x2),Iz (x3),up4] iI gI wI (fun g w v=>v=.tuple #[]∧OM iI g w 55 r up0):=by
 induction n with
 | zero=>intros; rename_i h; cases h
 | succ n ih=>
 intro iI gI wI x0 x1 x2 x3 x4 up0 mp0 up4 rp4 r h;simp only [f78] at h;refine K5 func78 rfl (Nat.le_of_ble_eq_true rfl) fun g0 hm hfr=>?_;have oE:=mp0;replace mp0:=mp0.enter;rw [← hm] at mp0
 replace hm:g0.m=gI.m:=by rw [hm]
 obtain ⟨ff4,fa4,fc4,rfl,fen4,fcl4⟩:=rp4;show E _ 148 none _ _ _ _ _;refine Z7 (Zg (.bool true) rfl rfl (Z4 (Z7 (Zg (.bool true) rfl rfl (Z4 (Zr (Wo h (fun (s:(List Z5) × Int × Int × Int × Bool × Bool) e w=>∃ (g:Gh) ,FrM iI gI wI g w∧e 0=up0∧OM 1 g w 55 (s.1:List Z5) up0∧e 1=Iz (s.2.1)∧e 2=Iz (s.2.2.1)∧e 3=Iz (s.2.2.2.1)∧e 4=(.func (.func ff4) fa4 fc4)∧e 10=.bool (s.2.2.2.2.1)∧e 11=.bool (s.2.2.2.2.2)) ⟨g0,hfr,rfl,mp0,rfl,rfl,rfl,rfl,rfl,rfl⟩ (fun X1 k1 hk1=>?_))))))));rintro ⟨n8,o0,l5,i6,t5,l8⟩ kG w2 ⟨g2,hfr,nD,oD,aB,lB,sF,yD,rE,uE⟩ h;refine Zr (Z7 (Zo lB rfl (Zo aB rfl (Gf (Iz ((w64 (l5 - o0)))) rfl rfl rfl rfl (Zg (Iz ((w64 (l5 - o0)))) rfl rfl (Z4 (Zq h (fun (s:(List Z5)) e w=>∃ (g:Gh) ,FrM iI gI wI g w∧e 0=up0∧OM 1 g w 55 (s:List Z5) up0∧e 1=Iz (o0)∧e 2=Iz (l5)∧e 3=Iz (i6)∧e 4=(.func (.func ff4) fa4 fc4)∧e 10=.bool (t5)∧e 11=.bool (l8)∧e 12=Iz ((w64 (l5 - o0)))) (fun X6 k6 hk6 h=>?_) ?_)))))))
 ·refine Z7 (Zn (Iz ((w64 (l5 - o0)))) rfl rfl (Gf (.bool ((decide ((w64 (l5 - o0)) ≤ (12 : Int))))) rfl rfl rfl rfl (Z4 ?_)))
  rcases Zt h with ⟨zD,h⟩ | ⟨zD,h⟩
  ·refine G5 zD rfl (Z7 (Zo nD rfl (Zo aB rfl (Zo lB rfl (Zo yD rfl ?_)))))
   obtain ⟨y9,uF,h⟩:=Z3 h;refine Z6 rfl (Yy (g:=g2) (i:=1) (vs:=[up0,Iz (o0),Iz (l5),(.func (.func ff4) fa4 fc4)]) en111 (.cons rfl (.cons rfl (.cons rfl (.cons rfl .nil)))) (wk111 oD (Dm.ch ⟨_,_,_,rfl,fen4,fcl4⟩ hfr.ch) uF) fun g8 w8_ v8 hs hr=>?_);obtain ⟨hrv,b8⟩:=hr;have hfr:=hfr.stp hs;subst hrv;refine Z4 (Gd (Gq (Tg (Gq (Tg ?_)))));obtain rfl:=sinj h;exact end0 rfl rfl ⟨_,hfr,rfl,oE.back b8⟩
  ·refine G8 zD rfl ?_
   exact Zu (Zd (hk6 (n8) _ _ ⟨g2,hfr,nD,oD,aB,lB,sF,yD,rE,uE,rfl⟩ h))
 ·rintro l9 gG lG ⟨vF, hfr, vB, vE, yB, zB, cC, uC, aE, bE, iE⟩ h
  refine Zq h (fun (s:Unit) e w=>∃ (g:Gh) ,FrM iI gI wI g w∧e 0=up0∧OM 1 g w 55 (l9:List Z5) up0∧e 1=Iz (o0)∧e 2=Iz (l5)∧e 3=Iz (i6)∧e 4=(.func (.func ff4) fa4 fc4)∧e 10=.bool (t5)∧e 11=.bool (l8)∧e 12=Iz ((w64 (l5 - o0)))) (fun X12 rF tF h=>?_) ?_
  ·refine Z7 (Zo cC rfl (Gf (.bool ((i6 == (0 : Int)))) rfl rfl rfl rfl (Z4 ?_)))
   rcases Zt h with ⟨mB,h⟩ | ⟨mB,h⟩
   ·refine G5 mB rfl (Z7 (Zo vB rfl (Zo yB rfl (Zo zB rfl (Zo uC rfl ?_)))))
    cases h
   ·refine G8 mB rfl ?_
    exact Zu (Zd (tF () _ _ ⟨vF,hfr,vB,vE,yB,zB,cC,uC,aE,bE,iE⟩ h))
  ·rintro _ iG mG ⟨xF, hfr, vC, xE, bD, cD, yE, lD, n9, lE, mE⟩ h
   obtain ⟨oB,hx,h⟩:=Z3 h;refine Gs (fun e w=>∃ (g:Gh) ,FrM iI gI wI g w∧e 0=up0∧OM 1 g w 55 (l9:List Z5) up0∧e 1=Iz (o0)∧e 2=Iz (l5)∧e 3=Iz (oB)∧e 4=(.func (.func ff4) fa4 fc4)∧e 10=.bool (t5)∧e 11=.bool (l8)∧e 12=Iz ((w64 (l5 - o0)))) (fun Q' hQ=>?_) (fun jG sG hR=>?_)
   ·replace h := hx
    clear hx;refine Z7 (Zo n9 rfl (Zz (.bool (!t5)) (Wq rfl) rfl (Z4 ?_)));rcases Zt h with ⟨nB,h⟩ | ⟨nB,h⟩
    ·refine G5 nB rfl (Z7 (Zo vC rfl (Zo bD rfl (Zo cD rfl (Zo lD rfl ?_)))))
     cases h
    ·refine G8 nB rfl (Zu ?_)
     obtain rfl:=sinj h;exact hQ _ _ ⟨xF,hfr,vC,xE,bD,cD,yE,lD,n9,lE,mE⟩
   ·clear hx
    obtain ⟨xG,hfr,zE,cG,cF,dF,eG,eF,yF,aG,bG⟩:=hR;refine Z7 (Zo zE rfl (Zo cF rfl (Zo dF rfl (Zo eF rfl ?_))))
    cases h
def f80 (x0:Int) (x1:Int) (x2:List Int):Option (Bool):=
 (f64 x2 ((fun a0=>f121 a0 x0 x1))).bind fun y4=>
 some ((!y4))
theorem en80:Enters prog 80:=enters_of func80 (by kernel_rfl) rfl
theorem wk80 {gI:Gh} {wI:World} {x0:Int} {x1:Int} {x2:List Int} {up2:Value} (rp2:RV gI.m wI x2 up2) {r:Bool} (h:f80 x0 x1 x2=some r):Fn prog 80 #[Iz (x0),Iz (x1),up2] gI wI (fun _ _ v=>v=.bool (r)):=by
 unfold f80 at h;refine fnE func80 rfl rfl fun g0 hm hfr=>?_;have rp2:=RVc hm rp2;show E _ 11 none _ _ _ _ _;refine Z7 (Z6 rfl (Tq (g:=g0) rfl (Zj.2 rfl) fun g1 w1 p1 hs q1=>?_));have hfr:=hfr.ext hs;have rp2:=rp2.ext hs;refine Z6 rfl (Tq (g:=g1) rfl (Zj.2 rfl) fun g2 w2 p2 hs q2=>?_);have hfr:=hfr.ext hs;have rp2:=rp2.ext hs;have q1:=q1.ext hs;refine Zg (.bool false) rfl rfl (Z4 (Z7 (Zn up2 rfl rfl (Zz ((.func (.func 121) #[] #[p1,p2])) (Kd (Yl (show ev _ _=p1 from rfl) (show ev _ _=p2 from rfl))) rfl ?_))));obtain ⟨y4,o0,h⟩:=Z3 h;refine Z6 rfl (Zp (g:=g2) (vs:=[up2,(.func (.func 121) #[] #[p1,p2])]) en64 (.cons rfl (.cons rfl .nil)) (wk64 rp2 ⟨121,#[],#[p1,p2],rfl,en121,fun g' w' hch a0 b0 r hu0 hr=>by obtain rfl:=Zj.1 hu0; exact Fn.mono (wk121  (q1.ch hch) (q2.ch hch) hr) fun _ _ _ h=>Qm.2 h⟩ o0) fun g3 w3_ v3 hs hr=>?_);have hfr:=hfr.ext hs;subst hr;refine Zz (.bool (!y4)) (Wq rfl) rfl (Zg (.bool (!y4)) rfl rfl (Z4 (Gd ?_)));obtain rfl:=sinj h;exact Ta rfl rfl (rq (.bool (!y4))) ⟨_,hfr,rfl⟩
def f83 (x0:U64) (x1:U64):Option (U64 × U64):=
 (f124 x0 x1).bind fun y2=>
 some (y2.1,y2.2)
theorem en83:Enters prog 83:=enters_of func83 (by kernel_rfl) rfl
theorem wk83 {gI:Gh} {wI:World} {x0:U64} {x1:U64}  {r:U64 × U64} (h:f83 x0 x1=some r):Fn prog 83 #[.int .u64 ((x0).n),.int .u64 ((x1).n)] gI wI (fun m w v=>∃ y0 y1,v=.tuple #[y0,y1]∧y0=.int .u64 ((r.1).n)∧y1=.int .u64 ((r.2).n)):=by
 unfold f83 at h;refine fnE func83 rfl rfl fun g0 hm hfr=>?_;show E _ 30 none _ _ _ _ _;refine Z7 (Zg (.int .u64 (0)) rfl rfl (Zg (.int .u64 (0)) rfl rfl (Z4 (Zf (Gz (by rw [show ev _ _=_ from rfl]; exact congrArg Value.bool rfl) (Zu (Zd (Z7 (Zn (.int .u64 ((x0).n)) rfl rfl (Zn (.int .u64 ((x1).n)) rfl rfl ?_))))))))));obtain ⟨y2,hy2,h⟩:=Z3 h;refine Z6 rfl (Zp (g:=g0) (vs:=[.int .u64 ((x0).n),.int .u64 ((x1).n)]) en124 (.cons rfl (.cons rfl .nil)) (wk124  hy2) fun g1 w1_ v1 hs hr=>?_);have hfr:=hfr.ext hs;obtain ⟨o0,l5,rfl,rfl,rfl⟩:=hr;refine Zn (.tuple #[.int .u64 ((y2.1).n),.int .u64 ((y2.2).n)]) rfl rfl (Zz (.int .u64 ((y2.1).n)) (Zi rfl rfl) rfl (Zz (.int .u64 ((y2.2).n)) (Zi rfl rfl) rfl (Zg (.int .u64 ((y2.1).n)) rfl rfl (Zg (.int .u64 ((y2.2).n)) rfl rfl (Z4 (Z7 (Zn (.int .u64 ((y2.1).n)) rfl rfl (Zn (.int .u64 ((y2.2).n)) rfl rfl (Zg (.int .u64 ((y2.1).n)) rfl rfl (Zg (.int .u64 ((y2.2).n)) rfl rfl (Z4 (Gd ?_))))))))))));obtain rfl:=sinj h;exact Yq rfl rfl (rq (.int .u64 ((y2.1).n))) (rq (.int .u64 ((y2.2).n))) ⟨_,hfr,_,_,rfl,rfl,rfl⟩
def f85 (x0:Qo) (x1:Int):Option (Str):=
 Option.bind (α:=List UInt8) (
  lp (σ:=List UInt8 × Int) (fun oD (l8,o0)=>
   bif (decide (o0 < ((((x0).TieHarness).Warps).length : Int))) then
    Option.bind (α:=List UInt8) (
     (f127 x0 x1 o0).bind fun nB=>
     (f126 nB).bind fun oB=>
     (apnd 1 l8 [oB]).bind fun y43=>
     some (y43)
     ) fun i6=>
    oD (i6,(w64 (o0 + (1:Int))))
   else
    some (l8)
   ) big (([]:List UInt8),(0:Int))
  ) fun n8=>
 (Sm n8).bind fun aB=>
 some (aB)
theorem en85:Enters prog 85:=enters_of func85 (by kernel_rfl) rfl
theorem wk85 {gI:Gh} {wI:World} {x0:Qo} {x1:Int} {up0:Value} (rp0:RV gI.m wI x0 up0) {r:Str} (h:f85 x0 x1=some r):Fn prog 85 #[up0,Iz (x1)] gI wI (fun _ _ v=>v=Str.v (r)):=by
 unfold f85 at h;refine fnE func85 rfl rfl fun g0 hm hfr=>?_;have rp0:=RVc hm rp0;show E _ 22 none _ _ _ _ _;refine Z7 (Z6 rfl (Tq (g:=g0) rfl rp0 fun g1 w1 p1 hs q1=>?_));have hfr:=hfr.ext hs;refine Zg (Str.v (⟨[]⟩:Str)) rfl rfl (Z4 (Z7 (Z6 rfl (Gw (g:=g1) 2005 ((⟨.pointer none,rfl⟩,[]):Fv × List UInt8) zeroValue146 (fun m w=>⟨_,Gi (show GoT.rep m w (⟨.pointer none,rfl⟩:Fv) [.pointer none] from rfl) Tt,rfl⟩) fun g2 w2 p2 hs b2 cb=>?_))));have hfr:=hfr.stp hs;have q1:=q1.stp hs;replace b2:SB 2005 60501 g2 w2 5 146 [] p2:=⟨_,b2,cb.osf rfl,.inl rfl⟩;clear cb;refine Z4 ?_;obtain ⟨n8,hx,h⟩:=Z3 h;refine Gs (fun e w=>∃ (g:Gh) ,Fr gI wI g w∧e 5=p2∧SB 2005 60501 g w 5 146 (n8) p2) (fun Q' hQ=>?_) (fun zE sF hR=>?_)
 ·replace h := hx
  clear hx;refine Z7 (Zz (Ga p1 0) (Zc F1 rfl (PT.ptr q1)) rfl ?_);have yD:=Zm (Jx).1 q1;refine Zz (Ga (Ga p1 0) 1) (Zc Kw rfl (PT.ptr yD)) rfl ?_;have mE:=Zm (Tm).1 yD;refine Z6 rfl (Z9 (g:=g2) isAgg24 sizeOf24 rfl mE fun tF oE=>(Zz (Iz ((((x0).TieHarness).Warps).length:Int)) (Tr underlying24 rfl oE) rfl (Zn (Iz (0)) rfl rfl (Z4 (Zr (Wo h (fun (s:List UInt8 × Int) e w=>∃ (g:Gh) ,Fr gI wI g w∧e 1=Iz (x1)∧e 2=p1∧PT g.m w (x0:Qo) p1∧e 5=p2∧SB 2005 60501 g w 5 146 (s.1) p2∧e 10=Iz (((((x0).TieHarness).Warps).length:Int))∧e 11=Iz (s.2)) ⟨g2,hfr,rfl,rfl,q1,rfl,b2,rfl,rfl⟩ (fun X27 oD zD=>?_)))))));rintro ⟨l8,o0⟩ cF uF ⟨vB,hfr,lB,mB,l5,v8,t5,l9,g8⟩ h;refine Z7 (Zz (.bool ((decide (o0 < ((((x0).TieHarness).Warps).length:Int))))) (Gx g8 l9 rfl) rfl (Z4 (Zf ?_)));rcases Zt h with ⟨n9,h⟩ | ⟨n9,h⟩
  ·refine G5 n9 rfl (Zu (Zd ?_))
   obtain ⟨i6,hx,h⟩:=Z3 h;refine Gs (fun e w=>∃ (g:Gh) ,Fr gI wI g w∧e 1=Iz (x1)∧e 2=p1∧PT g.m w (x0:Qo) p1∧e 5=p2∧SB 2005 60501 g w 5 146 (i6) p2∧e 10=Iz (((((x0).TieHarness).Warps).length:Int))∧e 11=Iz (o0)) (fun Q' hQ=>?_) (fun dF vF hR=>?_)
   ·replace h := hx
    clear hx;refine Zr (Z7 (Zo g8 rfl (Zg (Iz (o0)) rfl rfl (Z4 (Za (Z6 rfl (Z9 (g:=vB) isAgg177 sizeOf177 mB l5 fun rE uE=>(Zo lB rfl (Zn (Iz (o0)) rfl rfl ?_)))))))));obtain ⟨nB,aE,h⟩:=Z3 h;refine Z6 rfl (Zp (g:=vB) (vs:=[rE,Iz (x1),Iz (o0)]) en127 (.cons rfl (.cons rfl (.cons rfl .nil))) (wk127 uE aE) fun vE eF xF hs hr=>?_);have hfr:=hfr.ext hs;have l5:=l5.ext hs;have t5:=t5.ext hs;subst hr;obtain ⟨oB,bE,h⟩:=Z3 h;refine Z6 rfl (Zp (g:=vE) (vs:=[.bool (nB)]) en126 (.cons rfl .nil) (wk126  bE) fun yF rF aG hs hr=>?_);have hfr:=hfr.ext hs;have l5:=l5.ext hs;have t5:=t5.ext hs;subst hr;obtain ⟨y43,iE,h⟩:=Z3 h;refine Z6 rfl (Wg (vs:=[p2,.int .u8 (UInt8.toNat (oB))]) en97 (.cons v8 (.cons rfl .nil)) (wk97 (i:=2005) (j:=60501) rfl rfl t5 iE) fun bG cG hq=>?_);obtain ⟨hv,xE,⟨_,_,_,_,hs1,hs2,hs3⟩,b42⟩:=hq;subst hv;have hfr:=hfr.stp hs1;have l5:=l5.stp hs1;have hfr:=hfr.stp hs2;have l5:=l5.stp hs2;have hfr:=hfr.stp hs3;have l5:=l5.stp hs3;clear hs1 hs2 hs3;refine Zb (Tc ?_);obtain rfl:=sinj h;exact hQ _ _ ⟨xE,hfr,lB,mB,l5,v8,b42,l9,g8⟩
   ·clear hx
    obtain ⟨yE,hfr,cC,uC,vC,bD,cD,yB,zB⟩:=hR;refine Za (Gf (Iz ((w64 (o0 + (1:Int))))) zB rfl rfl rfl (Zn (Iz ((w64 (o0 + (1:Int))))) rfl rfl ?_));exact Z4 (zD (i6,(w64 (o0 + (1:Int)))) _ _ ⟨yE,hfr,cC,uC,vC,bD,cD,yB,rfl⟩ h)
  ·refine G8 n9 rfl (Tu (Gy (Gy (G9 ?_))))
   obtain rfl:=sinj h;exact hQ _ _ ⟨vB,hfr,v8,t5⟩
 ·clear hx
  obtain ⟨eG,hfr,lD,nD⟩:=hR;refine Z7 ?_;obtain ⟨aB,lE,h⟩:=Z3 h;obtain ⟨hne46,hye46⟩:=A4 lE;refine Z6 rfl (Wg (vs:=[p2]) en62 (.cons lD .nil) (wk62 (i:=2005) (j:=60501) rfl nD hne46) fun gG iG hq=>?_);obtain ⟨hv,jG,hs⟩:=hq;rw [← hye46] at hv;subst hv;have hfr:=hfr.stp hs;refine Zg (Str.v aB) rfl rfl (Z4 (Gd ?_));obtain rfl:=sinj h;exact Ta rfl rfl (rq (Str.v aB)) ⟨_,hfr,rfl⟩
def f89 (x0:List Zv) (x1:Zv→Option Bool):Option (Bool):=
 (f128 x0 x1).bind fun y2=>
 some ((decide (y2 ≥ (0:Int))))
theorem en89:Enters prog 89:=enters_of func89 (by kernel_rfl) rfl
theorem wk89 {gI:Gh} {wI:World} {x0:List Zv} {x1:Zv→Option Bool} {up0:Value} (rp0:RV gI.m wI x0 up0) {up1:Value} (rp1:Jf prog x1 up1 gI wI) {r:Bool} (h:f89 x0 x1=some r):Fn prog 89 #[up0,up1] gI wI (fun _ _ v=>v=.bool (r)):=by
 unfold f89 at h;refine fnE func89 rfl rfl fun g0 hm hfr=>?_;have rp0:=RVc hm rp0;obtain ⟨ff1,fa1,fc1,rfl,fen1,fcl1⟩:=rp1;show E _ 9 none _ _ _ _ _;refine Z7 (Zg (.bool false) rfl rfl (Z4 (Z7 (Zn up0 rfl rfl (Zn ((.func (.func ff1) fa1 fc1)) rfl rfl ?_)))));obtain ⟨y2,hy2,h⟩:=Z3 h;refine Z6 rfl (Zp (g:=g0) (vs:=[up0,(.func (.func ff1) fa1 fc1)]) en128 (.cons rfl (.cons rfl .nil)) (wk128 rp0 (Jf.ch ⟨_,_,_,rfl,fen1,fcl1⟩ hfr.ch) hy2) fun g1 w1_ v1 hs hr=>?_);have hfr:=hfr.ext hs;subst hr;refine Gf (.bool ((decide (y2 ≥ (0:Int))))) rfl rfl rfl rfl (Zg (.bool ((decide (y2 ≥ (0:Int))))) rfl rfl (Z4 (Gd ?_)));obtain rfl:=sinj h;exact Ta rfl rfl (rq (.bool ((decide (y2 ≥ (0:Int)))))) ⟨_,hfr,rfl⟩
def f91 (x0:List Zv) (x1:Int) (x2:Zv→Zv→Option Int):Option ((List Zv)):=
 Option.bind (α:=(List Zv) × Int) (
  lp (σ:=(List Zv) × Int × Int) (fun k9 (l8,i6,l5)=>
   jn (σ:=Unit) (fun _=>
    (f129 l8 i6 l5 x2).bind fun tF=>
    k9 (tF,l5,(w64 (l5 + (20:Int))))
    ) fun lH=>
   bif (decide (l5 ≤ x1)) then
    lH ()
   else
    some (l8,i6)
   ) big (x0,(0:Int),(20:Int))
  ) fun (n9,n8)=>
 (f129 n9 n8 x1 x2).bind fun g8=>
 lp (σ:=Int) (fun mH o0=>
  jn (σ:=Unit) (fun _=>
   Option.bind (α:=Int) (
    lp (σ:=Int × Int) (fun aI (v8,l9)=>
     jn (σ:=Unit) (fun _=>
      none
      ) fun nH=>
     bif (decide (l9 ≤ x1)) then
      nH ()
     else
      some (v8)
     ) big ((0:Int),(w64 ((2:Int) * o0)))
    ) fun t5=>
   Option.bind (α:=Unit) (
    bif (decide ((w64 (t5 + o0)) < x1)) then
     none
    else
     some ()
    ) fun (_:Unit)=>
   mH ((w64 (o0 * (2:Int))))
   ) fun oH=>
  bif (decide (o0 < x1)) then
   oH ()
  else
   some (g8)
  ) big ((20:Int))
theorem en91:Enters prog 91:=enters_of func91 (by kernel_rfl) rfl
theorem wk91 {iI:Nat} {gI:Gh} {wI:World} {x0:List Zv} {x1:Int} {x2:Zv→Zv→Option Int} {up0:Value} (mp0:OM iI gI wI 34 x0 up0) {up2:Value} (rp2:Dm prog x2 up2 gI wI) {r:(List Zv)} (h:f91 x0 x1 x2=some r):FnM prog 91 #[up0,Iz (x1),up2] iI gI wI (fun g w v=>v=.tuple #[]∧OM iI g w 34 r up0):=by
 unfold f91 at h;refine K5 func91 rfl (Nat.le_of_ble_eq_true rfl) fun g0 hm hfr=>?_;have uF:=mp0;replace mp0:=mp0.enter;rw [← hm] at mp0
 replace hm:g0.m=gI.m:=by rw [hm]
 obtain ⟨ff2,fa2,fc2,rfl,fen2,fcl2⟩:=rp2;show E _ 63 none _ _ _ _ _;refine Z7 (Zg (Iz (20)) rfl rfl (Z4 (Z7 (Zn (Iz (20)) rfl rfl (Zg (Iz (0)) rfl rfl (Zg (Iz (20)) rfl rfl (Z4 ?_)))))));obtain ⟨⟨n9,n8⟩,hx,h⟩:=Z3 h;refine Gs (fun e w=>∃ (g:Gh) ,FrM iI gI wI g w∧e 0=up0∧OM 1 g w 34 (n9:List Zv) up0∧e 1=Iz (x1)∧e 2=(.func (.func ff2) fa2 fc2)∧e 6=Iz ((20:Int))∧e 7=Iz (n8)) (fun Q' hQ=>?_) (fun kJ aK hR=>?_)
 ·replace h := hx
  clear hx;refine Zr (Wo h (fun (s:(List Zv) × Int × Int) e w=>∃ (g:Gh) ,FrM iI gI wI g w∧e 0=up0∧OM 1 g w 34 (s.1:List Zv) up0∧e 1=Iz (x1)∧e 2=(.func (.func ff2) fa2 fc2)∧e 6=Iz ((20:Int))∧e 7=Iz (s.2.1)∧e 8=Iz (s.2.2)) ⟨g0,hfr,rfl,mp0,rfl,rfl,rfl,rfl,rfl⟩ (fun X9 k9 bI=>?_));rintro ⟨l8,i6,l5⟩ lJ bK ⟨pH,hfr,cC,uC,aB,vC,bD,cD,lD⟩ h;refine Zq h (fun (s:Unit) e w=>∃ (g:Gh) ,FrM iI gI wI g w∧e 0=up0∧OM 1 g w 34 (l8:List Zv) up0∧e 1=Iz (x1)∧e 2=(.func (.func ff2) fa2 fc2)∧e 6=Iz ((20:Int))∧e 7=Iz (i6)∧e 8=Iz (l5)) (fun X12 lH sH h=>?_) ?_
  ·refine Z7 (Zo lD rfl (Zo aB rfl (Gf (.bool ((decide (l5 ≤ x1)))) rfl rfl rfl rfl (Z4 ?_))))
   rcases Zt h with ⟨oB,h⟩ | ⟨oB,h⟩
   ·refine G5 oB rfl ?_
    exact Zu (Zd (sH () _ _ ⟨pH,hfr,cC,uC,aB,vC,bD,cD,lD⟩ h))
   ·refine G8 oB rfl (Tu (Gy (Gy (G9 ?_))))
    obtain ⟨rfl,rfl⟩:=Kr h;exact hQ _ _ ⟨pH,hfr,cC,uC,aB,vC,bD,cD⟩
  ·rintro _ mJ cK ⟨dI, hfr, nD, vF, xF, oD, yD, yF, lB⟩ h
   refine Zr (Z7 (Zo nD rfl (Zo yF rfl (Zo lB rfl (Zo oD rfl ?_)))));obtain ⟨tF,tH,h⟩:=Z3 h;refine Z6 rfl (Yy (g:=dI) (i:=1) (vs:=[up0,Iz (i6),Iz (l5),(.func (.func ff2) fa2 fc2)]) en129 (.cons rfl (.cons rfl (.cons rfl (.cons rfl .nil)))) (wk129 vF (Dm.ch ⟨_,_,_,rfl,fen2,fcl2⟩ hfr.ch) tH) fun jI nJ dK hs hr=>?_);obtain ⟨hrv,b15⟩:=hr;have hfr:=hfr.stp hs;subst hrv;refine Z4 (Z7 (Zo lB rfl (Zg (Iz (l5)) rfl rfl (Z4 (Za (Zo lB rfl (Zo yD rfl (Gf (Iz ((w64 (l5 + (20:Int))))) rfl rfl rfl rfl (Zg (Iz ((w64 (l5 + (20:Int))))) rfl rfl ?_)))))))));exact Zb (Tc (Zd (bI (tF,l5,(w64 (l5 + (20:Int)))) _ _ ⟨jI,hfr,nD,b15,xF,oD,yD,rfl,rfl⟩ h)))
 ·clear hx
  obtain ⟨kI,hfr,zD,aG,aE,bE,bG,cG⟩:=hR;refine Z7 (Zo zD rfl (Zo cG rfl (Zo aE rfl (Zo bE rfl ?_))));obtain ⟨g8,uH,h⟩:=Z3 h;refine Z6 rfl (Yy (g:=kI) (i:=1) (vs:=[up0,Iz (n8),Iz (x1),(.func (.func ff2) fa2 fc2)]) en129 (.cons rfl (.cons rfl (.cons rfl (.cons rfl .nil)))) (wk129 aG (Dm.ch ⟨_,_,_,rfl,fen2,fcl2⟩ hfr.ch) uH) fun lI oJ lK hs hr=>?_);obtain ⟨hrv,b18⟩:=hr;have hfr:=hfr.stp hs;subst hrv;refine Z4 (Zr (Wo h (fun (s:Int) e w=>∃ (g:Gh) ,FrM iI gI wI g w∧e 0=up0∧OM 1 g w 34 (g8:List Zv) up0∧e 1=Iz (x1)∧e 2=(.func (.func ff2) fa2 fc2)∧e 6=Iz (s)) ⟨lI,hfr,zD,b18,aE,bE,bG⟩ (fun X20 mH xH=>?_)));rintro o0 pJ mK ⟨mI,hfr,eG,iE,lE,gG,mE⟩ h;refine Zq h (fun (s:Unit) e w=>∃ (g:Gh) ,FrM iI gI wI g w∧e 0=up0∧OM 1 g w 34 (g8:List Zv) up0∧e 1=Iz (x1)∧e 2=(.func (.func ff2) fa2 fc2)∧e 6=Iz (o0)) (fun X23 oH yH h=>?_) ?_
  ·refine Z7 (Zo mE rfl (Zo lE rfl (Gf (.bool ((decide (o0 < x1)))) rfl rfl rfl rfl (Z4 ?_))))
   rcases Zt h with ⟨vB,h⟩ | ⟨vB,h⟩
   ·refine G5 vB rfl ?_
    exact Zu (Zd (yH () _ _ ⟨mI,hfr,eG,iE,lE,gG,mE⟩ h))
   ·refine G8 vB rfl (Tu (Gy (Gy (G9 ?_))))
    obtain rfl:=sinj h;exact H9 rfl rfl ⟨_,hfr,rfl,uF.back iE⟩
  ·rintro _ qJ nK ⟨nI, hfr, iG, jG, kG, lG, oE⟩ h
   refine Zr (Z7 (Zo oE rfl (Gf (Iz ((w64 ((2:Int) * o0)))) rfl rfl rfl rfl (Zg (Iz (0)) rfl rfl (Zg (Iz ((w64 ((2:Int) * o0)))) rfl rfl (Z4 ?_))))));obtain ⟨t5,hx,h⟩:=Z3 h;refine Gs (fun e w=>∃ (g:Gh) ,FrM iI gI wI g w∧e 0=up0∧OM 1 g w 34 (g8:List Zv) up0∧e 1=Iz (x1)∧e 2=(.func (.func ff2) fa2 fc2)∧e 6=Iz (o0)∧e 7=Iz (t5)) (fun Q' hQ=>?_) (fun rJ oK hR=>?_)
   ·replace h := hx
    clear hx;refine Zr (Wo h (fun (s:Int × Int) e w=>∃ (g:Gh) ,FrM iI gI wI g w∧e 0=up0∧OM 1 g w 34 (g8:List Zv) up0∧e 1=Iz (x1)∧e 2=(.func (.func ff2) fa2 fc2)∧e 6=Iz (o0)∧e 7=Iz (s.1)∧e 8=Iz (s.2)) ⟨nI,hfr,iG,jG,kG,lG,oE,rfl,rfl⟩ (fun X32 aI sJ=>?_));rintro ⟨v8,l9⟩ vJ pK ⟨qH,hfr,rE,uE,mB,vE,xE,yE,zE⟩ h;refine Zq h (fun (s:Unit) e w=>∃ (g:Gh) ,FrM iI gI wI g w∧e 0=up0∧OM 1 g w 34 (g8:List Zv) up0∧e 1=Iz (x1)∧e 2=(.func (.func ff2) fa2 fc2)∧e 6=Iz (o0)∧e 7=Iz (v8)∧e 8=Iz (l9)) (fun X35 nH zH h=>?_) ?_
    ·refine Z7 (Zo zE rfl (Zo mB rfl (Gf (.bool ((decide (l9 ≤ x1)))) rfl rfl rfl rfl (Z4 ?_))))
     rcases Zt h with ⟨yB,h⟩ | ⟨yB,h⟩
     ·refine G5 yB rfl ?_
      exact Zu (Zd (zH () _ _ ⟨qH,hfr,rE,uE,mB,vE,xE,yE,zE⟩ h))
     ·refine G8 yB rfl (Tu (Gy (Gy (G9 ?_))))
      obtain rfl:=sinj h;exact hQ _ _ ⟨qH,hfr,rE,uE,mB,vE,xE,yE⟩
    ·rintro _ xJ qK ⟨sK, hfr, mG, sI, jJ, sG, xG, cF, yG⟩ h
     refine Zr (Z7 (Zo mG rfl (Zo cF rfl (Zo cF rfl (Zo xG rfl (Gf (Iz ((w64 (v8 + o0)))) rfl rfl rfl rfl (Zo yG rfl (Zo sG rfl ?_))))))))
     cases h
   ·clear hx
    obtain ⟨pI,hfr,dF,zG,nB,eF,rF,sF⟩:=hR;obtain ⟨_,hx,h⟩:=Z3 h;refine Gs (fun e w=>∃ (g:Gh) ,FrM iI gI wI g w∧e 0=up0∧OM 1 g w 34 (g8:List Zv) up0∧e 1=Iz (x1)∧e 2=(.func (.func ff2) fa2 fc2)∧e 6=Iz (o0)) (fun Q' hQ=>?_) (fun zJ tK hR=>?_)
    ·replace h := hx
     clear hx;refine Z7 (Zo sF rfl (Zo rF rfl (Gf (Iz ((w64 (t5 + o0)))) rfl rfl rfl rfl (Zg (Iz ((w64 (t5 + o0)))) rfl rfl (Z4 (Z7 (Zn (Iz ((w64 (t5 + o0)))) rfl rfl (Zo nB rfl (Gf (.bool ((decide ((w64 (t5 + o0)) < x1)))) rfl rfl rfl rfl (Z4 ?_))))))))));rcases Zt h with ⟨zB,h⟩ | ⟨zB,h⟩
     ·refine G5 zB rfl (Za (Zo dF rfl (Zo sF rfl (Zn (Iz ((w64 (t5 + o0)))) rfl rfl (Zo nB rfl (Zo eF rfl ?_))))))
      cases h
     ·refine G8 zB rfl (Zu ?_)
      obtain rfl:=sinj h;exact hQ _ _ ⟨pI,hfr,dF,zG,nB,eF,rF⟩
    ·clear hx
     obtain ⟨qI,hfr,aH,cH,gH,jH,kH⟩:=hR;refine Za (Zo kH rfl (Gf (Iz ((w64 (o0 * (2:Int))))) rfl rfl rfl rfl (Zg (Iz ((w64 (o0 * (2:Int))))) rfl rfl ?_)));exact Zb (Tc (Zd (xH ((w64 (o0 * (2:Int)))) _ _ ⟨qI,hfr,aH,cH,gH,jH,rfl⟩ h)))
def f103 (x0:Int):Option (Bool):=
 (f80 ((1:Int)) ((24:Int)) (([x0]:List Int))).bind fun y3=>
 some (y3)
theorem en103:Enters prog 103:=enters_of func103 (by kernel_rfl) rfl
theorem wk103 {gI:Gh} {wI:World} {x0:Int}  {r:Bool} (h:f103 x0=some r):Fn prog 103 #[Iz (x0)] gI wI (fun _ _ v=>v=.bool (r)):=by
 unfold f103 at h;refine fnE func103 rfl rfl fun g0 hm hfr=>?_;show E _ 6 none _ _ _ _ _;refine Z7 (Zg (.bool false) rfl rfl (Z4 (Z7 (Zn (Iz (x0)) rfl rfl (Z6 rfl (Gb (g:=g0) 3004 (xs:=([x0]:List Int)) (vs:=[Iz (x0)]) underlying24 sizeOf3 zeroValue3 rfl rfl (.cons rfl .nil) (RVs.cons (Zj.2 rfl) RVs.nil) rfl rfl fun g1 w1 v1 hs o1 r1 hxt hfl=>?_))))));have hfr:=hfr.stp hs;obtain ⟨y3,hy3,h⟩:=Z3 h;refine Z6 rfl (Zp (g:=g1) (vs:=[Iz (1),Iz (24),v1]) en80 (.cons rfl (.cons rfl (.cons rfl .nil))) (wk80 r1 hy3) fun g2 w2_ v2 hs hr=>?_);have hfr:=hfr.ext hs;subst hr;refine Zg (.bool (y3)) rfl rfl (Z4 (Gd ?_));obtain rfl:=sinj h;exact Ta rfl rfl (rq (.bool (y3))) ⟨_,hfr,rfl⟩
def f108 (x0:Str) (x1:Str):Option (Bool):=
 Option.bind (α:=Bool) (
  (f137 x0).bind fun y8=>
  bif y8 then
   (f137 x1).bind fun y11=>
   bif (!y11) then
    some (true)
   else
    some ((Op.bytesLess (x0).b (x1).b))
  else
   some ((Op.bytesLess (x0).b (x1).b))
  ) fun l5=>
 some (l5)
theorem en108:Enters prog 108:=enters_of func108 (by kernel_rfl) rfl
theorem wk108 {gI:Gh} {wI:World} {x0:Str} {x1:Str}  {r:Bool} (h:f108 x0 x1=some r):Fn prog 108 #[Str.v (x0),Str.v (x1)] gI wI (fun _ _ v=>v=.bool (r)):=by
 unfold f108 at h;refine fnE func108 rfl rfl fun g0 hm hfr=>?_;show E _ 17 none _ _ _ _ _;refine Z7 (Zg (.bool false) rfl rfl (Z4 ?_));obtain ⟨l5,hx,h⟩:=Z3 h;refine Gs (fun e w=>∃ (g:Gh) ,Fr gI wI g w∧e 4=.bool (l5)) (fun Q' hQ=>?_) (fun n8 l9 hR=>?_)
 ·replace h := hx
  clear hx;refine Za (Zn (Str.v (x0)) rfl rfl ?_);obtain ⟨y8,l8,h⟩:=Z3 h;refine Z6 rfl (Zp (g:=g0) (vs:=[Str.v (x0)]) en137 (.cons rfl .nil) (wk137  l8) fun g7 w7_ v7 hs hr=>?_);have hfr:=hfr.ext hs;subst hr;refine Zn (.bool (y8)) rfl rfl ?_;rcases Zt h with ⟨hc9,h⟩ | ⟨hc9,h⟩
  ·refine Z0 (Str.v (x1)) (Zk rfl) rfl rfl hc9 rfl ?_
   obtain ⟨y11,g8,h⟩:=Z3 h;refine Ze (.yes2 rfl rfl hc9) rfl (Zp (g:=g7) (vs:=[Str.v (x1)]) en137 (.cons rfl .nil) (wk137  g8) fun i6 v8 n9 hs hr=>?_);have hfr:=hfr.ext hs;subst hr;refine Z0 (.bool (!y11)) (Wq rfl) rfl rfl hc9 rfl (Zz (.bool (!y11)) (Zl (b:=y8) rfl (Te hc9 rfl)) rfl (Zn (.bool (!y11)) rfl rfl ?_));rcases Zt h with ⟨o0,h⟩ | ⟨o0,h⟩
   ·refine Z1 rfl rfl o0 rfl rfl (Z1 rfl rfl o0 rfl rfl (Z1 rfl rfl o0 rfl rfl (Zz (.bool true) (Zl (b := (!y11)) rfl (Te o0 rfl)) rfl (Zg (.bool true) rfl rfl (Zb ?_)))))
    obtain rfl:=sinj h;exact hQ _ _ ⟨i6,hfr,rfl⟩
   ·refine Z0 (Str.v (x0)) (Zk rfl) rfl rfl o0 rfl (Z0 (Str.v (x1)) (Zk rfl) rfl rfl o0 rfl (Z0 (.bool ((Op.bytesLess (x0).b (x1).b))) (Xb rfl rfl rfl) rfl rfl o0 rfl (Zz (.bool ((Op.bytesLess (x0).b (x1).b))) (Zl (b := (!y11)) rfl (Td o0 rfl)) rfl (Zg (.bool ((Op.bytesLess (x0).b (x1).b))) rfl rfl (Zb ?_)))))
    obtain rfl:=sinj h;exact hQ _ _ ⟨i6,hfr,rfl⟩
  ·refine Z1 rfl rfl hc9 rfl rfl (Z1 rfl rfl hc9 rfl rfl (Z1 rfl rfl hc9 rfl rfl (Zz (.bool false) (Zl (b := y8) rfl (Td hc9 rfl)) rfl (Zn (.bool false) rfl rfl (Z0 (Str.v (x0)) (Zk rfl) rfl rfl rfl rfl (Z0 (Str.v (x1)) (Zk rfl) rfl rfl rfl rfl (Z0 (.bool ((Op.bytesLess (x0).b (x1).b))) (Xb rfl rfl rfl) rfl rfl rfl rfl (Zz (.bool ((Op.bytesLess (x0).b (x1).b))) (Zl (b := false) rfl (Td rfl rfl)) rfl (Zg (.bool ((Op.bytesLess (x0).b (x1).b))) rfl rfl (Zb ?_))))))))))
   obtain rfl:=sinj h;exact hQ _ _ ⟨g7,hfr,rfl⟩
 ·clear hx
  obtain ⟨aB,hfr,t5⟩:=hR;refine Gd ?_;obtain rfl:=sinj h;exact Ta rfl rfl (show _=.bool (l5) from t5) ⟨_,hfr,rfl⟩
def f110 (x0:List UInt8) (x1:Int):Option (It (List UInt8)):=
 Option.bind (α:=Unit) (
  bif (decide (x1 < (1 : Int))) then
   none
  else
   some ()
  ) fun (_:Unit)=>
 some ((fun σ cons s=>f138 x0 x1 σ cons s))
theorem en110:Enters prog 110:=enters_of func110 (by kernel_rfl) rfl
theorem wk110 {gI:Gh} {wI:World} {x0:List UInt8} {x1:Int} {up0:Value} (rp0:RV gI.m wI x0 up0) {r:It (List UInt8)} (h:f110 x0 x1=some r):Fn prog 110 #[up0,Iz (x1)] gI wI (fun m w v=>ItV prog (RA1 (α:=(List UInt8))) (r) v m w):=by
 unfold f110 at h;refine fnE func110 rfl rfl fun g0 hm hfr=>?_;have rp0:=RVc hm rp0;show E _ 9 none _ _ _ _ _;refine Z7 (Z6 rfl (Tq (g:=g0) rfl rp0 fun g1 w1 p1 hs q1=>?_));have hfr:=hfr.ext hs;refine Z6 rfl (Tq (g:=g1) rfl (Zj.2 rfl) fun g2 w2 p2 hs q2=>?_);have hfr:=hfr.ext hs;have q1:=q1.ext hs;refine Zg (.nilFunc) rfl rfl (Z4 ?_);obtain ⟨_,hx,h⟩:=Z3 h;refine Gs (fun e w=>∃ (g:Gh) ,Fr gI wI g w∧e 2=p1∧PT g.m w (x0:List UInt8) p1∧e 3=p2∧PT g.m w (x1:Int) p2) (fun Q' hQ=>?_) (fun g8 w7 hR=>?_)
 ·replace h := hx
  clear hx;refine Z7 (Z6 rfl (Z9 (g:=g2) isAgg3 sizeOf3 rfl q2 fun v5 r5=>?_));obtain rfl:=Zj.1 r5;refine Gf (.bool ((decide (x1 < (1:Int))))) rfl rfl rfl rfl (Z4 ?_);rcases Zt h with ⟨hc6,h⟩ | ⟨hc6,h⟩
  ·refine G5 hc6 rfl (Za ?_)
   cases h
  ·refine G8 hc6 rfl (Zu ?_)
   obtain rfl:=sinj h;exact hQ _ _ ⟨g2,hfr,rfl,q1,rfl,q2⟩
 ·clear hx
  obtain ⟨g7,hfr,o0,l5,t5,i6⟩:=hR;refine Z7 (Zz ((.func (.func 138) #[] #[p1,p2])) (Kd (Yl (show ev _ _=p1 from o0) (show ev _ _=p2 from t5))) rfl (Zg ((.func (.func 138) #[] #[p1,p2])) rfl rfl (Z4 (Gd ?_))));obtain rfl:=sinj h;exact Ta rfl rfl (rq (.func (.func 138) #[] #[p1,p2])) ⟨_,hfr,(show ItV prog (RA1 (α:=(List UInt8))) (fun σ cons s=>f138 x0 x1 σ cons s) ((.func (.func 138) #[] #[p1,p2])) g7.m w7 from ⟨138,#[],#[p1,p2],rfl,en138,fun g' w' hch σ cons s s' h=>wk138  (l5.ch hch) (i6.ch hch) h⟩)⟩
def f125 (x0:Int) (x1:Int) (x2:List Int):Option (Bool):=
 (f64 x2 ((fun a0=>f145 a0 x0 x1))).bind fun y4=>
 some ((!y4))
theorem en125:Enters prog 125:=enters_of func125 (by kernel_rfl) rfl
theorem wk125 {gI:Gh} {wI:World} {x0:Int} {x1:Int} {x2:List Int} {up2:Value} (rp2:RV gI.m wI x2 up2) {r:Bool} (h:f125 x0 x1 x2=some r):Fn prog 125 #[Iz (x0),Iz (x1),up2] gI wI (fun _ _ v=>v=.bool (r)):=by
 unfold f125 at h;refine fnE func125 rfl rfl fun g0 hm hfr=>?_;have rp2:=RVc hm rp2;show E _ 11 none _ _ _ _ _;refine Z7 (Z6 rfl (Tq (g:=g0) rfl (Zj.2 rfl) fun g1 w1 p1 hs q1=>?_));have hfr:=hfr.ext hs;have rp2:=rp2.ext hs;refine Z6 rfl (Tq (g:=g1) rfl (Zj.2 rfl) fun g2 w2 p2 hs q2=>?_);have hfr:=hfr.ext hs;have rp2:=rp2.ext hs;have q1:=q1.ext hs;refine Zg (.bool false) rfl rfl (Z4 (Z7 (Zn up2 rfl rfl (Zz ((.func (.func 145) #[] #[p1,p2])) (Kd (Yl (show ev _ _=p1 from rfl) (show ev _ _=p2 from rfl))) rfl ?_))));obtain ⟨y4,o0,h⟩:=Z3 h;refine Z6 rfl (Zp (g:=g2) (vs:=[up2,(.func (.func 145) #[] #[p1,p2])]) en64 (.cons rfl (.cons rfl .nil)) (wk64 rp2 ⟨145,#[],#[p1,p2],rfl,en145,fun g' w' hch a0 b0 r hu0 hr=>by obtain rfl:=Zj.1 hu0; exact Fn.mono (wk145  (q1.ch hch) (q2.ch hch) hr) fun _ _ _ h=>Qm.2 h⟩ o0) fun g3 w3_ v3 hs hr=>?_);have hfr:=hfr.ext hs;subst hr;refine Zz (.bool (!y4)) (Wq rfl) rfl (Zg (.bool (!y4)) rfl rfl (Z4 (Gd ?_)));obtain rfl:=sinj h;exact Ta rfl rfl (rq (.bool (!y4))) ⟨_,hfr,rfl⟩
def f134 (x0:Int) (x1:List Int):Option (Bool):=
 (Hb (1:Int) x0).bind fun y1=>
 (f80 ((0:Int)) ((w64 (y1 - (1:Int)))) x1).bind fun y3=>
 some (y3)
theorem en134:Enters prog 134:=enters_of func134 (by kernel_rfl) rfl
theorem wk134 {gI:Gh} {wI:World} {x0:Int} {x1:List Int} {up1:Value} (rp1:RV gI.m wI x1 up1) {r:Bool} (h:f134 x0 x1=some r):Fn prog 134 #[Iz (x0),up1] gI wI (fun _ _ v=>v=.bool (r)):=by
 unfold f134 at h;refine fnE func134 rfl rfl fun g0 hm hfr=>?_;have rp1:=RVc hm rp1;show E _ 10 none _ _ _ _ _;refine Z7 (Zg (.bool false) rfl rfl (Z4 (Z7 (Zn (Iz (x0)) rfl rfl ?_))));obtain ⟨y1,hy1,h⟩:=Z3 h;refine Zz (Iz (y1)) (Gx rfl rfl (congrArg (Option.map (Value.int .i64)) hy1)) rfl (Gf (Iz ((w64 (y1 - (1:Int))))) rfl rfl rfl rfl (Zn up1 rfl rfl ?_));obtain ⟨y3,hy3,h⟩:=Z3 h;refine Z6 rfl (Zp (g:=g0) (vs:=[Iz (0),Iz ((w64 (y1 - (1:Int)))),up1]) en80 (.cons rfl (.cons rfl (.cons rfl .nil))) (wk80 rp1 hy3) fun g2 w2_ v2 hs hr=>?_);have hfr:=hfr.ext hs;subst hr;refine Zg (.bool (y3)) rfl rfl (Z4 (Gd ?_));obtain rfl:=sinj h;exact Ta rfl rfl (rq (.bool (y3))) ⟨_,hfr,rfl⟩
def f135 (x0:List Z8) (x1:Z8→Option Bool):Option (Bool):=
 (f149 x0 x1).bind fun y2=>
 some ((decide (y2 ≥ (0:Int))))
theorem en135:Enters prog 135:=enters_of func135 (by kernel_rfl) rfl
theorem wk135 {gI:Gh} {wI:World} {x0:List Z8} {x1:Z8→Option Bool} {up0:Value} (rp0:RV gI.m wI x0 up0) {up1:Value} (rp1:Jf prog x1 up1 gI wI) {r:Bool} (h:f135 x0 x1=some r):Fn prog 135 #[up0,up1] gI wI (fun _ _ v=>v=.bool (r)):=by
 unfold f135 at h;refine fnE func135 rfl rfl fun g0 hm hfr=>?_;have rp0:=RVc hm rp0;obtain ⟨ff1,fa1,fc1,rfl,fen1,fcl1⟩:=rp1;show E _ 9 none _ _ _ _ _;refine Z7 (Zg (.bool false) rfl rfl (Z4 (Z7 (Zn up0 rfl rfl (Zn ((.func (.func ff1) fa1 fc1)) rfl rfl ?_)))));obtain ⟨y2,hy2,h⟩:=Z3 h;refine Z6 rfl (Zp (g:=g0) (vs:=[up0,(.func (.func ff1) fa1 fc1)]) en149 (.cons rfl (.cons rfl .nil)) (wk149 rp0 (Jf.ch ⟨_,_,_,rfl,fen1,fcl1⟩ hfr.ch) hy2) fun g1 w1_ v1 hs hr=>?_);have hfr:=hfr.ext hs;subst hr;refine Gf (.bool ((decide (y2 ≥ (0:Int))))) rfl rfl rfl rfl (Zg (.bool ((decide (y2 ≥ (0:Int))))) rfl rfl (Z4 (Gd ?_)));obtain rfl:=sinj h;exact Ta rfl rfl (rq (.bool ((decide (y2 ≥ (0:Int)))))) ⟨_,hfr,rfl⟩
def f136 (x0:Str) (x1:I32→Option Bool):Option (Int):=
 (f150 x0 x1 true).bind fun y2=>
 some (y2)
theorem en136:Enters prog 136:=enters_of func136 (by kernel_rfl) rfl
theorem wk136 {gI:Gh} {wI:World} {x0:Str} {x1:I32→Option Bool} {up1:Value} (rp1:Jf prog x1 up1 gI wI) {r:Int} (h:f136 x0 x1=some r):Fn prog 136 #[Str.v (x0),up1] gI wI (fun _ _ v=>v=Iz (r)):=by
 unfold f136 at h;refine fnE func136 rfl rfl fun g0 hm hfr=>?_;obtain ⟨ff1,fa1,fc1,rfl,fen1,fcl1⟩:=rp1;show E _ 8 none _ _ _ _ _;refine Z7 (Zg (Iz (0)) rfl rfl (Z4 (Z7 (Zn (Str.v (x0)) rfl rfl (Zn ((.func (.func ff1) fa1 fc1)) rfl rfl ?_)))));obtain ⟨y2,hy2,h⟩:=Z3 h;refine Z6 rfl (Zp (g:=g0) (vs:=[Str.v (x0),(.func (.func ff1) fa1 fc1),.bool true]) en150 (.cons rfl (.cons rfl (.cons rfl .nil))) (wk150 (Jf.ch ⟨_,_,_,rfl,fen1,fcl1⟩ hfr.ch) hy2) fun g1 w1_ v1 hs hr=>?_);have hfr:=hfr.ext hs;subst hr;refine Zg (Iz (y2)) rfl rfl (Z4 (Gd ?_));obtain rfl:=sinj h;exact Ta rfl rfl (rq (Iz (y2))) ⟨_,hfr,rfl⟩
def f144 (x0:U64):Option (U64):=
 (W8 ((x0).n) ((1:Int))).bind fun y1=>
 (Lb (Th .and ((x0).n) ((6148914691236517205:Int))) ((1:Int))).bind fun y2=>
 (W8 (Th .or (Th .and y1 ((6148914691236517205:Int))) y2) ((2:Int))).bind fun y3=>
 (Lb (Th .and (Th .or (Th .and y1 ((6148914691236517205:Int))) y2) ((3689348814741910323:Int))) ((2:Int))).bind fun y4=>
 (W8 (Th .or (Th .and y3 ((3689348814741910323:Int))) y4) ((4:Int))).bind fun y5=>
 (Lb (Th .and (Th .or (Th .and y3 ((3689348814741910323:Int))) y4) ((1085102592571150095:Int))) ((4:Int))).bind fun y6=>
 (f152 ((⟨Th .or (Th .and y5 ((1085102592571150095:Int))) y6⟩:U64))).bind fun y8=>
 some (y8)
theorem en144:Enters prog 144:=enters_of func144 (by kernel_rfl) rfl
theorem wk144 {gI:Gh} {wI:World} {x0:U64}  {r:U64} (h:f144 x0=some r):Fn prog 144 #[.int .u64 ((x0).n)] gI wI (fun _ _ v=>v=.int .u64 ((r).n)):=by
 unfold f144 at h;refine fnE func144 rfl rfl fun g0 hm hfr=>?_;show E _ 26 none _ _ _ _ _;refine Z7 (Zg (.int .u64 (0)) rfl rfl (Z4 (Z7 (Zn (.int .u64 ((x0).n)) rfl rfl ?_))));obtain ⟨y1,hy1,h⟩:=Z3 h;refine Zz (.int .u64 (y1)) (J1 rfl rfl hy1) rfl (Zz (.int .u64 (Th .and y1 ((6148914691236517205:Int)))) (Kv (by simp) rfl rfl) rfl (Zn (.int .u64 ((x0).n)) rfl rfl (Zz (.int .u64 (Th .and ((x0).n) ((6148914691236517205:Int)))) (Kv (by simp) rfl rfl) rfl ?_)));obtain ⟨y2,hy2,h⟩:=Z3 h;refine Zz (.int .u64 (y2)) (Bi rfl rfl hy2) rfl (Zz (.int .u64 (Th .or (Th .and y1 ((6148914691236517205:Int))) y2)) (Kv (by simp) rfl rfl) rfl (Zg (.int .u64 (Th .or (Th .and y1 ((6148914691236517205:Int))) y2)) rfl rfl (Z4 (Z7 (Zn (.int .u64 (Th .or (Th .and y1 ((6148914691236517205:Int))) y2)) rfl rfl ?_)))));obtain ⟨y3,hy3,h⟩:=Z3 h;refine Zz (.int .u64 (y3)) (J1 rfl rfl hy3) rfl (Zz (.int .u64 (Th .and y3 ((3689348814741910323:Int)))) (Kv (by simp) rfl rfl) rfl (Zn (.int .u64 (Th .or (Th .and y1 ((6148914691236517205:Int))) y2)) rfl rfl (Zz (.int .u64 (Th .and (Th .or (Th .and y1 ((6148914691236517205:Int))) y2) ((3689348814741910323:Int)))) (Kv (by simp) rfl rfl) rfl ?_)));obtain ⟨y4,o0,h⟩:=Z3 h;refine Zz (.int .u64 (y4)) (Bi rfl rfl o0) rfl (Zz (.int .u64 (Th .or (Th .and y3 ((3689348814741910323:Int))) y4)) (Kv (by simp) rfl rfl) rfl (Zg (.int .u64 (Th .or (Th .and y3 ((3689348814741910323:Int))) y4)) rfl rfl (Z4 (Z7 (Zn (.int .u64 (Th .or (Th .and y3 ((3689348814741910323:Int))) y4)) rfl rfl ?_)))));obtain ⟨y5,hy5,h⟩:=Z3 h;refine Zz (.int .u64 (y5)) (J1 rfl rfl hy5) rfl (Zz (.int .u64 (Th .and y5 ((1085102592571150095:Int)))) (Kv (by simp) rfl rfl) rfl (Zn (.int .u64 (Th .or (Th .and y3 ((3689348814741910323:Int))) y4)) rfl rfl (Zz (.int .u64 (Th .and (Th .or (Th .and y3 ((3689348814741910323:Int))) y4) ((1085102592571150095:Int)))) (Kv (by simp) rfl rfl) rfl ?_)));obtain ⟨y6,l5,h⟩:=Z3 h;refine Zz (.int .u64 (y6)) (Bi rfl rfl l5) rfl (Zz (.int .u64 (Th .or (Th .and y5 ((1085102592571150095:Int))) y6)) (Kv (by simp) rfl rfl) rfl (Zg (.int .u64 (Th .or (Th .and y5 ((1085102592571150095:Int))) y6)) rfl rfl (Z4 (Z7 (Zn (.int .u64 (Th .or (Th .and y5 ((1085102592571150095:Int))) y6)) rfl rfl ?_)))));obtain ⟨y8,t5,h⟩:=Z3 h;refine Z6 rfl (Zp (g:=g0) (vs:=[.int .u64 (Th .or (Th .and y5 ((1085102592571150095:Int))) y6)]) en152 (.cons rfl .nil) (wk152  t5) fun g7 w7_ v7 hs hr=>?_);have hfr:=hfr.ext hs;subst hr;refine Zg (.int .u64 ((y8).n)) rfl rfl (Z4 (Gd ?_));obtain rfl:=sinj h;exact Ta rfl rfl (rq (.int .u64 ((y8).n))) ⟨_,hfr,rfl⟩
def f17 (x0:Z5) (x1:Z5):Option (Int):=
 (f32 ((x0).Day) ((x1).Day)).bind fun y8=>
 (f32 ((x0).Loom) ((x1).Loom)).bind fun o0=>
 (f31 (([y8,o0]:List Int))).bind fun t5=>
 some (t5)
theorem en17:Enters prog 17:=enters_of func17 (by kernel_rfl) rfl
theorem wk17 {gI:Gh} {wI:World} {x0:Z5} {x1:Z5} {up0:Value} (rp0:RV gI.m wI x0 up0) {up1:Value} (rp1:RV gI.m wI x1 up1) {r:Int} (h:f17 x0 x1=some r):Fn prog 17 #[up0,up1] gI wI (fun _ _ v=>v=Iz (r)):=by
 unfold f17 at h;refine fnE func17 rfl rfl fun g0 hm hfr=>?_;have rp0:=RVc hm rp0;have rp1:=RVc hm rp1;show E _ 17 none _ _ _ _ _;refine Z7 (Z6 rfl (Tq (g:=g0) rfl rp0 fun g1 w1 p1 hs q1=>?_));have hfr:=hfr.ext hs;have rp1:=rp1.ext hs;refine Z6 rfl (Tq (g:=g1) rfl rp1 fun g2 w2 p2 hs q2=>?_);have hfr:=hfr.ext hs;have q1:=q1.ext hs;refine Zg (Iz (0)) rfl rfl (Z4 (Zf ?_));have q3:=Zm (Q4).1 q1;refine Zs (x:=.tmp 5) isAgg3 sizeOf3 q3 fun v4 r4 n8=>?_;obtain rfl:=Zj.1 r4;have q5:=Zm (Q4).1 q2;refine Zs (x:=.tmp 7) isAgg3 sizeOf3 q5 fun v6 r6 v8=>?_;obtain rfl:=Zj.1 r6;obtain ⟨y8,l9,h⟩:=Z3 h;have q9:=Zm (Qv).1 q1;refine Zs (x:=.tmp 10) isAgg3 sizeOf3 q9 fun mB n9 i6=>?_;obtain rfl:=Zj.1 n9;have aB:=Zm (Qv).1 q2;refine Zs (x:=.tmp 12) isAgg3 sizeOf3 aB fun nB lB hl12=>?_;obtain rfl:=Zj.1 lB;obtain ⟨o0,g8,h⟩:=Z3 h;obtain ⟨t5,l8,h⟩:=Z3 h;refine Tz (g:=g2) (n:=13) [(4,(fun v g w=>v=Iz (y8))),(9,(fun v g w=>v=Iz (o0))),(10,(fun v g w=>RV g.m w ([y8,o0]:List Int) v∧OS 3015 g w 3 ([y8,o0]:List Int) v∧Qr v)),(11,(fun v g w=>v=Iz (t5)))] [0,1,2,3,4,5,6,7,8,9,10,11,12] rfl mixed (by kernel_rfl) (⟨fun _=>Kz _,fun _=>Kz _,fun _=>Q9 K0 (Q9 U2 (Kz _)),fun _=>Kz _,trivial⟩) (Z2 (Ga p1 0) rfl rfl (Zc Ys rfl (PT.ptr q1)) (Tv (c:=Iz ((x0).Day)) rfl rfl .plain (fun _ _ h=>h.ch) n8 rfl (Z2 (Ga p2 0) rfl rfl (Zc Ys rfl (PT.ptr q2)) (Tv (c:=Iz ((x1).Day)) rfl rfl .plain (fun _ _ h=>h.ch) v8 rfl (Ks (φ:=fun v g w=>v=Iz (y8)) rfl rfl .plain (fun g w hd=>Zp (g:=g) (vs:=[Iz ((x0).Day),Iz ((x1).Day)]) en32 (.cons rfl (.cons rfl .nil)) (wk32  l9) fun g' w' v hs hr=>⟨g',hs,hr⟩) (fun v7 hv=>?_))))));obtain ⟨_,_,_,rfl⟩:=hv;refine Z2 (Ga p1 1) rfl rfl (Zc J6 rfl (PT.ptr q1)) (Tv (c:=Iz ((x0).Loom)) rfl rfl .plain (fun _ _ h=>h.ch) i6 rfl (Z2 (Ga p2 1) rfl rfl (Zc J6 rfl (PT.ptr q2)) (Tv (c:=Iz ((x1).Loom)) rfl rfl .plain (fun _ _ h=>h.ch) hl12 rfl (Ks (φ:=fun v g w=>v=Iz (o0)) rfl rfl .plain (fun g w hd=>Zp (g:=g) (vs:=[Iz ((x0).Loom),Iz ((x1).Loom)]) en32 (.cons rfl (.cons rfl .nil)) (wk32  g8) fun g' w' v hs hr=>⟨g',hs,hr⟩) (fun oB hv=>?_)))));obtain ⟨_,_,_,rfl⟩:=hv;refine Ks (φ:=fun v g w=>RV g.m w ([y8,o0]:List Int) v∧OS 3015 g w 3 ([y8,o0]:List Int) v∧Qr v) rfl rfl .plain (fun g w hd=>Gb (g:=g) 3015 (xs:=([y8,o0]:List Int)) (vs:=[Iz (y8),Iz (o0)]) underlying24 sizeOf3 zeroValue3 rfl rfl (.cons rfl (.cons rfl .nil)) (RVs.cons (Zj.2 rfl) (RVs.cons (Zj.2 rfl) RVs.nil)) rfl rfl fun g' w' v hs o r hxt hfl=>⟨g',hxt,r,o,hfl⟩) (fun l5 hv=>?_);clear hv;refine Ks (φ:=fun v g w=>v=Iz (t5)) rfl rfl .plain (fun g w hd=>Zp (g:=g) (vs:=[l5]) en31 (.cons rfl .nil) (wk31 (V6 (A:=fun g w=>RV g.m w ([y8,o0]:List Int) l5∧OS 3015 g w 3 ([y8,o0]:List Int) l5∧Qr l5) 10 rfl rfl (Kh hd)).1 l8) fun g' w' v hs hr=>⟨g',hs,hr⟩) (fun vB hv=>?_);obtain ⟨_,_,_,rfl⟩:=hv;refine Z2 (Iz (t5)) rfl rfl (Tx rfl) (Jz fun yB zB hall=>?_);have hs:=hall.1;have hfr:=hfr.ext hs;have cC:=(Ti (A:=fun g w=>RV g.m w ([y8,o0]:List Int) l5∧OS 3015 g w 3 ([y8,o0]:List Int) l5∧Qr l5) 10 rfl hall).1;have o34:=(Ti (A:=fun g w=>RV g.m w ([y8,o0]:List Int) l5∧OS 3015 g w 3 ([y8,o0]:List Int) l5∧Qr l5) 10 rfl hall).2.1;clear hs hall;refine Z4 (Gd ?_);obtain rfl:=sinj h;exact Ta rfl rfl (rq (Iz (t5))) ⟨_,hfr,rfl⟩
def f30 (x0:Int) (x1:Int) (x2:List Int):Option (Bool):=
 (f64 x2 ((fun a0=>f65 a0 x0 x1))).bind fun y4=>
 some ((!y4))
theorem en30:Enters prog 30:=enters_of func30 (by kernel_rfl) rfl
theorem wk30 {gI:Gh} {wI:World} {x0:Int} {x1:Int} {x2:List Int} {up2:Value} (rp2:RV gI.m wI x2 up2) {r:Bool} (h:f30 x0 x1 x2=some r):Fn prog 30 #[Iz (x0),Iz (x1),up2] gI wI (fun _ _ v=>v=.bool (r)):=by
 unfold f30 at h;refine fnE func30 rfl rfl fun g0 hm hfr=>?_;have rp2:=RVc hm rp2;show E _ 11 none _ _ _ _ _;refine Z7 (Z6 rfl (Tq (g:=g0) rfl (Zj.2 rfl) fun g1 w1 p1 hs q1=>?_));have hfr:=hfr.ext hs;have rp2:=rp2.ext hs;refine Z6 rfl (Tq (g:=g1) rfl (Zj.2 rfl) fun g2 w2 p2 hs q2=>?_);have hfr:=hfr.ext hs;have rp2:=rp2.ext hs;have q1:=q1.ext hs;refine Zg (.bool false) rfl rfl (Z4 (Z7 (Zn up2 rfl rfl (Zz ((.func (.func 65) #[] #[p1,p2])) (Kd (Yl (show ev _ _=p1 from rfl) (show ev _ _=p2 from rfl))) rfl ?_))));obtain ⟨y4,o0,h⟩:=Z3 h;refine Z6 rfl (Zp (g:=g2) (vs:=[up2,(.func (.func 65) #[] #[p1,p2])]) en64 (.cons rfl (.cons rfl .nil)) (wk64 rp2 ⟨65,#[],#[p1,p2],rfl,en65,fun g' w' hch a0 b0 r hu0 hr=>by obtain rfl:=Zj.1 hu0; exact Fn.mono (wk65  (q1.ch hch) (q2.ch hch) hr) fun _ _ _ h=>Qm.2 h⟩ o0) fun g3 w3_ v3 hs hr=>?_);have hfr:=hfr.ext hs;subst hr;refine Zz (.bool (!y4)) (Wq rfl) rfl (Zg (.bool (!y4)) rfl rfl (Z4 (Gd ?_)));obtain rfl:=sinj h;exact Ta rfl rfl (rq (.bool (!y4))) ⟨_,hfr,rfl⟩
def f35 (x0:TieHarness):Option (Int):=
 jn (σ:=Unit) (fun _=>
  some ((0:Int))
  ) fun v8=>
 (f67 ((1:Int)) ((24:Int)) (([(x0).Hooks]:List Int))).bind fun l8=>
 bif (!l8) then
  some ((2:Int))
 else
  bif (decide ((((x0).Warps).length : Int) > (96 : Int))) then
   some ((5:Int))
  else
   bif ((((x0).Warps).length : Int) == (0 : Int)) then
    some ((7:Int))
   else
    (f67 ((0:Int)) ((w64 ((x0).Hooks - (1:Int)))) ((x0).Warps)).bind fun n8=>
    bif (!n8) then
     some ((2:Int))
    else
     v8 ()
theorem en35:Enters prog 35:=enters_of func35 (by kernel_rfl) rfl
theorem wk35 {gI:Gh} {wI:World} {x0:TieHarness} {up0:Value} (rp0:RV gI.m wI x0 up0) {r:Int} (h:f35 x0=some r):Fn prog 35 #[up0] gI wI (fun _ _ v=>v=Iz (r)):=by
 unfold f35 at h;refine fnE func35 rfl rfl fun g0 hm hfr=>?_;have rp0:=RVc hm rp0;show E _ 27 none _ _ _ _ _;refine Z7 (Z6 rfl (Tq (g:=g0) rfl rp0 fun g1 w1 p1 hs q1=>?_));have hfr:=hfr.ext hs;refine Zg (Iz (0)) rfl rfl (Z4 (Zq h (fun (s:Unit) e w=>∃ (g:Gh) ,Fr gI wI g w) (fun X21 v8 l9 h=>?_) ?_))
 ·refine Zr (Z7 (Zz (Ga p1 0) (Zc Jt rfl (PT.ptr q1)) rfl ?_))
  have lB:=Zm (Qh).1 q1;refine Z6 rfl (Z9 (g:=g1) isAgg3 sizeOf3 rfl lB fun bE mB=>?_);obtain rfl:=Zj.1 mB;refine Z6 rfl (Gb (g:=g1) 3006 (xs:=([(x0).Hooks]:List Int)) (vs:=[Iz ((x0).Hooks)]) underlying24 sizeOf3 zeroValue3 rfl rfl (.cons rfl .nil) (RVs.cons (Zj.2 rfl) RVs.nil) rfl rfl fun nB iE oB hs o24 vB hxt hfl=>?_);have hfr:=hfr.stp hs;have q1:=q1.stp hs;obtain ⟨l8,n9,h⟩:=Z3 h;refine Z6 rfl (Zp (g:=nB) (vs:=[Iz (1),Iz (24),oB]) en67 (.cons rfl (.cons rfl (.cons rfl .nil))) (wk67 vB n9) fun o0 yD lE hs hr=>?_);have hfr:=hfr.ext hs;have q1:=q1.ext hs;subst hr;refine Zz (.bool (!l8)) (Wq rfl) rfl (Zg (.bool (!l8)) rfl rfl (Z4 ?_));rcases Zt h with ⟨l5,h⟩ | ⟨l5,h⟩
  ·refine G5 l5 rfl (Z7 (Zg (Iz (2)) rfl rfl (Z4 (Gd (Tg (Gq ?_))))))
   obtain rfl:=sinj h;exact Ta rfl rfl (rq (Iz (2))) ⟨_,hfr,rfl⟩
  ·refine G8 l5 rfl (Z7 (Zz (Ga p1 1) (Zc Kw rfl (PT.ptr q1)) rfl ?_))
   have yB:=Zm (Tm).1 q1;refine Z6 rfl (Z9 (g:=o0) isAgg24 sizeOf24 rfl yB fun mE zB=>(Zz (Iz (((x0).Warps).length:Int)) (Tr underlying24 rfl zB) rfl (Zz (.bool ((decide ((((x0).Warps).length:Int) > (96:Int))))) (Gx rfl rfl rfl) rfl (Zz (.bool ((decide ((((x0).Warps).length:Int) > (96:Int))))) (Tx rfl) rfl (Z4 ?_)))));rcases Zt h with ⟨t5,h⟩ | ⟨t5,h⟩
   ·refine G5 t5 rfl (Z7 (Zg (Iz (5)) rfl rfl (Z4 (Gd (Tg (Gq ?_))))))
    obtain rfl:=sinj h;exact Ta rfl rfl (rq (Iz (5))) ⟨_,hfr,rfl⟩
   ·refine G8 t5 rfl (Z7 (Zz (Ga p1 1) (Zc Kw rfl (PT.ptr q1)) rfl ?_))
    have cC:=Zm (Tm).1 q1;refine Z6 rfl (Z9 (g:=o0) isAgg24 sizeOf24 rfl cC fun oE uC=>(Zz (Iz (((x0).Warps).length:Int)) (Tr underlying24 rfl uC) rfl (Gf (.bool (((((x0).Warps).length:Int) == (0:Int)))) rfl rfl rfl rfl (Zg (.bool (((((x0).Warps).length:Int) == (0:Int)))) rfl rfl (Z4 ?_)))));rcases Zt h with ⟨i6,h⟩ | ⟨i6,h⟩
    ·refine G5 i6 rfl (Z7 (Zg (Iz (7)) rfl rfl (Z4 (Gd (Tg (Gq ?_))))))
     obtain rfl:=sinj h;exact Ta rfl rfl (rq (Iz (7))) ⟨_,hfr,rfl⟩
    ·refine G8 i6 rfl (Z7 (Zz (Ga p1 0) (Zc Jt rfl (PT.ptr q1)) rfl ?_))
     have vC:=Zm (Qh).1 q1;refine Z6 rfl (Z9 (g:=o0) isAgg3 sizeOf3 rfl vC fun rE bD=>?_);obtain rfl:=Zj.1 bD;refine Gf (Iz ((w64 ((x0).Hooks - (1:Int))))) rfl rfl rfl rfl (Zz (Ga p1 1) (Zc Kw rfl (PT.ptr q1)) rfl ?_);have cD:=Zm (Tm).1 q1;refine Z6 rfl (Z9 (g:=o0) isAgg24 sizeOf24 rfl cD fun lD nD=>?_);obtain ⟨n8,aB,h⟩:=Z3 h;refine Z6 rfl (Zp (g:=o0) (vs:=[Iz (0),Iz ((w64 ((x0).Hooks - (1:Int)))),lD]) en67 (.cons rfl (.cons rfl (.cons rfl .nil))) (wk67 nD aB) fun oD zD uE hs hr=>?_);have hfr:=hfr.ext hs;subst hr;refine Zz (.bool (!n8)) (Wq rfl) rfl (Zg (.bool (!n8)) rfl rfl (Z4 ?_));rcases Zt h with ⟨g8,h⟩ | ⟨g8,h⟩
     ·refine G5 g8 rfl (Z7 (Zg (Iz (2)) rfl rfl (Z4 (Gd (Tg (Gq ?_))))))
      obtain rfl:=sinj h;exact Ta rfl rfl (rq (Iz (2))) ⟨_,hfr,rfl⟩
     ·refine G8 g8 rfl ?_
      exact Zu (Tc (Zd (l9 () _ _ ⟨oD,hfr⟩ h)))
 ·rintro _ aE vE ⟨xE, hfr⟩ h
  refine Z7 (Zg (Iz (0)) rfl rfl (Z4 (Gd ?_)));obtain rfl:=sinj h;exact Ta rfl rfl (rq (Iz (0))) ⟨_,hfr,rfl⟩
def f46 (x0:List Z5) (x1:Z5→Z5→Option Int):Option ((List Z5)):=
 (f79 ((Qa ((x0).length:Int)))).bind fun y2=>
 (f78 big x0 ((0:Int)) (((x0).length:Int)) y2 x1).bind fun y4=>
 some (y4)
theorem en46:Enters prog 46:=enters_of func46 (by kernel_rfl) rfl
theorem wk46 {iI:Nat} {gI:Gh} {wI:World} {x0:List Z5} {x1:Z5→Z5→Option Int} {up0:Value} (mp0:OM iI gI wI 55 x0 up0) {up1:Value} (rp1:Dm prog x1 up1 gI wI) {r:(List Z5)} (h:f46 x0 x1=some r):FnM prog 46 #[up0,up1] iI gI wI (fun g w v=>v=.tuple #[]∧OM iI g w 55 r up0):=by
 unfold f46 at h;refine K5 func46 rfl (Nat.le_of_ble_eq_true rfl) fun g0 hm hfr=>?_;have o0:=mp0;replace mp0:=mp0.enter;rw [← hm] at mp0
 replace hm:g0.m=gI.m:=by rw [hm]
 obtain ⟨ff1,fa1,fc1,rfl,fen1,fcl1⟩:=rp1;show E _ 14 none _ _ _ _ _;refine Z7 (Zn up0 rfl rfl (Zz (Iz ((x0).length:Int)) (Vo underlying56 rfl mp0) rfl (Zg (Iz ((x0).length:Int)) rfl rfl (Z4 (Za (Zn up0 rfl rfl (Zn (Iz ((x0).length:Int)) rfl rfl (Zn (Iz ((x0).length:Int)) rfl rfl (Zz (.int .u64 (Qa ((x0).length:Int))) (Yb underlying3 underlying49 rfl) rfl ?_)))))))));obtain ⟨y2,hy2,h⟩:=Z3 h;refine Z6 rfl (Zp (g:=g0) (vs:=[.int .u64 (Qa ((x0).length:Int))]) en79 (.cons rfl .nil) (wk79  hy2) fun g1 w1_ v1 hs hr=>?_);have hfr:=hfr.ext hs;have mp0:=mp0.ext hs;subst hr;refine Zn ((.func (.func ff1) fa1 fc1)) rfl rfl ?_;obtain ⟨y4,l5,h⟩:=Z3 h;refine Z6 rfl (Yy (g:=g1) (i:=1) (vs:=[up0,Iz (0),Iz ((x0).length:Int),Iz (y2),(.func (.func ff1) fa1 fc1)]) en78 (.cons rfl (.cons rfl (.cons rfl (.cons rfl (.cons rfl .nil))))) (wk78 big mp0 (Dm.ch ⟨_,_,_,rfl,fen1,fcl1⟩ hfr.ch) l5) fun g3 w3_ v3 hs hr=>?_);obtain ⟨hrv,b3⟩:=hr;have hfr:=hfr.stp hs;subst hrv;refine Zb ?_;obtain rfl:=sinj h;exact H9 rfl rfl ⟨_,hfr,rfl,o0.back b3⟩
def f48 (x0:List Int) (x1:Int):Option ((List Int)):=
 Option.bind (α:=Unit) (
  bif (decide (x1 < (0 : Int))) then
   none
  else
   some ()
  ) fun (_:Unit)=>
 (f83 ((⟨(Qa ((x0).length:Int))⟩:U64)) ((⟨(Qa x1)⟩:U64))).bind fun y5=>
 Option.bind (α:=Unit) (
  Option.bind (α:=Bool) (
   bif (decide ((y5.1).n > (0 : Int))) then
    some (true)
   else
    some ((decide ((y5.2).n > (9223372036854775807:Int))))
   ) fun i6=>
  bif i6 then
   none
  else
   some ()
  ) fun (_:Unit)=>
 (mks 8 (0:Int) ((w64 ((y5.2).n)))).bind fun oB=>
 Option.bind (α:=(List Int)) (
  lp (σ:=(List Int) × Int) (fun bE (l5,o0)=>
   jn (σ:=Unit) (fun _=>
    (cut l5 o0 ((l5).length:Int)).bind fun n8=>
    (cut l5 0 o0).bind fun y40=>
    bE ((cpy l5 o0 n8 y40),(w64 (o0 + ((min (y40).length (n8).length:Nat):Int))))
    ) fun k33=>
   bif (decide (o0 < ((l5).length : Int))) then
    k33 ()
   else
    some (l5)
   ) big ((cpy oB 0 oB x0),((min (x0).length (oB).length:Nat):Int))
  ) fun l9=>
 some (l9)
theorem en48:Enters prog 48:=enters_of func48 (by kernel_rfl) rfl
theorem wk48 {gI:Gh} {wI:World} {x0:List Int} {x1:Int} {up0:Value} (rp0:RV gI.m wI x0 up0) {r:(List Int)} (h:f48 x0 x1=some r):Fn prog 48 #[up0,Iz (x1)] gI wI (fun m w v=>RV m w (r) v):=by
 unfold f48 at h;refine fnE func48 rfl rfl fun g0 hm hfr=>?_;have rp0:=RVc hm rp0;show E _ 48 none _ _ _ _ _;refine Z7 (Zg (.slice none 0 0) rfl rfl (Z4 ?_));obtain ⟨_,hx,h⟩:=Z3 h;refine Gs (fun e w=>∃ (g:Gh) ,Fr gI wI g w∧e 0=up0∧RV g.m w (x0:List Int) up0∧e 1=Iz (x1)) (fun Q' hQ=>?_) (fun yF w3 hR=>?_)
 ·replace h := hx
  clear hx;refine Z7 (Zn (Iz (x1)) rfl rfl (Gf (.bool ((decide (x1 < (0:Int))))) rfl rfl rfl rfl (Z4 ?_)));rcases Zt h with ⟨hc2,h⟩ | ⟨hc2,h⟩
  ·refine G5 hc2 rfl (Za ?_)
   cases h
  ·refine G8 hc2 rfl (Zu ?_)
   obtain rfl:=sinj h;exact hQ _ _ ⟨g0,hfr,rfl,rp0,rfl⟩
 ·clear hx
  obtain ⟨g3,hfr,yB,v8,mE⟩:=hR;refine Z7 (Zo yB rfl (Zz (Iz ((x0).length:Int)) (Tr underlying24 rfl v8) rfl (Zz (.int .u64 (Qa ((x0).length:Int))) (Yb underlying3 underlying49 rfl) rfl (Zo mE rfl (Zz (.int .u64 (Qa x1)) (Yb underlying3 underlying49 rfl) rfl ?_)))));obtain ⟨y5,hy5,h⟩:=Z3 h;refine Z6 rfl (Zp (g:=g3) (vs:=[.int .u64 (Qa ((x0).length:Int)),.int .u64 (Qa x1)]) en83 (.cons rfl (.cons rfl .nil)) (wk83  hy5) fun g4 w4_ v4 hs hr=>?_);have hfr:=hfr.ext hs;have v8:=v8.ext hs;obtain ⟨eF,rF,rfl,rfl,rfl⟩:=hr;refine Zn (.tuple #[.int .u64 ((y5.1).n),.int .u64 ((y5.2).n)]) rfl rfl (Zz (.int .u64 ((y5.1).n)) (Zi rfl rfl) rfl (Zz (.int .u64 ((y5.2).n)) (Zi rfl rfl) rfl (Zg (.int .u64 ((y5.1).n)) rfl rfl (Zg (.int .u64 ((y5.2).n)) rfl rfl (Z4 ?_)))));obtain ⟨_,hx,h⟩:=Z3 h;refine Gs (fun e w=>∃ (g:Gh) ,Fr gI wI g w∧e 0=up0∧RV g.m w (x0:List Int) up0∧e 6=.int .u64 ((y5.2).n)) (fun Q' hQ=>?_) (fun sF aG hR=>?_)
  ·replace h := hx
   clear hx;obtain ⟨i6,hx,h⟩:=Z3 h;refine Gs (fun e w=>∃ (g:Gh) ,Fr gI wI g w∧e 0=up0∧RV g.m w (x0:List Int) up0∧e 6=.int .u64 ((y5.2).n)∧e 26=.bool (i6)) (fun Q' hQ=>?_) (fun tF bG hR=>?_)
   ·replace h := hx
    clear hx;refine Za (Zn (.int .u64 ((y5.1).n)) rfl rfl (Zz (.bool (decide ((y5.1).n > (0:Int)))) (L7 rfl rfl rfl) rfl (Zn (.bool (decide ((y5.1).n > (0:Int)))) rfl rfl ?_)));rcases Zt h with ⟨g8,h⟩ | ⟨g8,h⟩
    ·refine Z1 rfl rfl g8 rfl rfl (Z1 rfl rfl g8 rfl rfl (Zz (.bool true) (Zl (b := (decide ((y5.1).n > (0 : Int)))) rfl (Te g8 rfl)) rfl (Zb ?_)))
     obtain rfl:=sinj h;exact hQ _ _ ⟨g4,hfr,yB,v8,rfl,rfl⟩
    ·refine Z0 (.int .u64 ((y5.2).n)) (Zk rfl) rfl rfl g8 rfl (Z0 (.bool (decide ((y5.2).n > (9223372036854775807 : Int)))) (L7 rfl rfl rfl) rfl rfl g8 rfl (Zz (.bool (decide ((y5.2).n > (9223372036854775807 : Int)))) (Zl (b := (decide ((y5.1).n > (0 : Int)))) rfl (Td g8 rfl)) rfl (Zb ?_)))
     obtain rfl:=sinj h;exact hQ _ _ ⟨g4,hfr,yB,v8,rfl,rfl⟩
   ·clear hx
    obtain ⟨vE,hfr,cD,lD,nD,vB⟩:=hR;rcases Zt h with ⟨zB,h⟩ | ⟨zB,h⟩
    ·refine Tj (Eq.trans (show ev _ _ = .bool (i6) from vB) (congrArg Value.bool zB)) (Za ?_)
     cases h
    ·refine Gz (Eq.trans (show ev _ _ = .bool (i6) from vB) (congrArg Value.bool zB)) (Zu ?_)
     obtain rfl:=sinj h;exact hQ _ _ ⟨vE,hfr,cD,lD,nD⟩
  ·clear hx
   obtain ⟨xE,hfr,oD,n9,yD⟩:=hR;refine Z7 (Zo yD rfl (Zz (Iz ((w64 ((y5.2).n)))) (F8 underlying49 underlying3 rfl) rfl ?_));obtain ⟨oB,oE,h⟩:=Z3 h;refine Z6 rfl (Cs (g:=xE) 9030 (0:Int) rfl underlying24 Yn rfl (fun _ _=>rfl) rfl rfl oE fun yE cG t5 hs b16=>?_);have hfr:=hfr.stp hs;have n9:=n9.stp hs;refine Zg t5 rfl rfl (Z4 (Z7 (Zn t5 rfl rfl (Zo oD rfl (Z6 rfl (Eo (g:=yE) (α:=Int) underlying24 Yn rfl b16 rfl n9 fun zE eG hs b17=>?_))))));have hfr:=hfr.stp hs;refine Zg (Iz ((min (x0).length (oB).length:Nat):Int)) rfl rfl (Z4 ?_);obtain ⟨l9,hx,h⟩:=Z3 h;refine Gs (fun e w=>∃ (g:Gh) ,Fr gI wI g w∧e 7=t5∧OM 9030 g w 3 (l9:List Int) t5) (fun Q' hQ=>?_) (fun uF gG hR=>?_)
   ·replace h := hx
    clear hx;refine Zr (Wo h (fun (s:(List Int) × Int) e w=>∃ (g:Gh) ,Fr gI wI g w∧e 7=t5∧OM 9030 g w 3 (s.1:List Int) t5∧e 8=Iz (s.2)) ⟨zE,hfr,rfl,b17,rfl⟩ (fun X30 bE rE=>?_));rintro ⟨l5,o0⟩ vF iG ⟨iE,hfr,aB,lB,uC⟩ h;refine Zq h (fun (s:Unit) e w=>∃ (g:Gh) ,Fr gI wI g w∧e 7=t5∧OM 9030 g w 3 (l5:List Int) t5∧e 8=Iz (o0)) (fun X33 k33 uE h=>?_) ?_
    ·refine Z7 (Zo uC rfl (Zo aB rfl (Zz (Iz ((l5).length : Int)) (Vo underlying24 rfl lB) rfl (Gf (.bool ((decide (o0 < ((l5).length : Int))))) rfl rfl rfl rfl (Z4 ?_)))))
     rcases Zt h with ⟨cC,h⟩ | ⟨cC,h⟩
     ·refine G5 cC rfl ?_
      exact Zu (Zd (uE () _ _ ⟨iE,hfr,aB,lB,uC⟩ h))
     ·refine G8 cC rfl (Tu (Gy (Gy (G9 ?_))))
      obtain rfl:=sinj h;exact hQ _ _ ⟨iE,hfr,aB,lB⟩
    ·rintro _ xF cF ⟨lE, hfr, mB, l8, nB⟩ h
     refine Zr ?_;obtain ⟨n8,vC,h⟩:=Z3 h;obtain ⟨y40,bD,h⟩:=Z3 h;refine Da (g:=lE) (w:=cF) (n:=8) [0,1,2,3,4,5,6] [] [0,1,2,3,4,5,6,7] rfl mixed (by kernel_rfl) fun w_c38 hs hlt=>?_;have hfr:=hfr.ext hs;have l8:=l8.ext hs;clear hs;refine Qu (c:=Iz (o0)) rfl rfl .plain (Zk nB) (Qu (c:=t5) rfl rfl .plain (Zk mB) (Qu (c:=Iz (o0)) rfl rfl .plain (Zk nB) (Qu (c:=(Hj t5 (Int.toNat o0) (Int.toNat ((l5).length:Int)) 1)) rfl rfl .plain (Ir (α:=Int) underlying24 sizeOf3 rfl (OM.hdr l8) rfl rfl vC) (Qu (c:=t5) rfl rfl .plain (Zk mB) (Qu (c:=Iz (o0)) rfl rfl .plain (Zk nB) (Qu (c:=(Hj t5 0 (Int.toNat o0) 1)) rfl rfl .plain (Ir (α:=Int) underlying24 sizeOf3 rfl (OM.hdr l8) rfl rfl bD) (Bp rfl rfl .plain (Ny (g:=lE) (α:=Int) underlying24 Yn rfl l8 rfl vC bD fun dF jG hs b41=>?_))))))));have hfr:=hfr.stp hs;have hlt:=hlt.stp hs;refine ⟨hlt.toW,?_⟩;refine Sw ?_;clear hlt;refine Zz (Iz ((w64 (o0 + ((min (y40).length (n8).length:Nat):Int))))) (Gx rfl rfl rfl) rfl (Zz (Iz ((w64 (o0 + ((min (y40).length (n8).length:Nat):Int))))) (Tx rfl) rfl ?_);exact Zb (Tc (Zd (rE ((cpy l5 o0 n8 y40),(w64 (o0 + ((min (y40).length (n8).length:Nat):Int)))) _ _ ⟨dF,hfr,mB,b41,rfl⟩ h)))
   ·clear hx
    obtain ⟨kG,hfr,zD,aE⟩:=hR;refine Z7 (Zo zD rfl ?_);obtain ⟨gp43,hs,rp43⟩:=OM.pub aE;have hfr:=hfr.stp hs;refine Zg t5 rfl rfl (Z4 (Gd ?_));obtain rfl:=sinj h;exact Ta rfl rfl (rq t5) ⟨_,hfr,rp43⟩
def f51 (x0:Int) (x1:Int) (x2:List Int):Option (Bool):=
 (f64 x2 ((fun a0=>f90 a0 x0 x1))).bind fun y4=>
 some ((!y4))
theorem en51:Enters prog 51:=enters_of func51 (by kernel_rfl) rfl
theorem wk51 {gI:Gh} {wI:World} {x0:Int} {x1:Int} {x2:List Int} {up2:Value} (rp2:RV gI.m wI x2 up2) {r:Bool} (h:f51 x0 x1 x2=some r):Fn prog 51 #[Iz (x0),Iz (x1),up2] gI wI (fun _ _ v=>v=.bool (r)):=by
 unfold f51 at h;refine fnE func51 rfl rfl fun g0 hm hfr=>?_;have rp2:=RVc hm rp2;show E _ 11 none _ _ _ _ _;refine Z7 (Z6 rfl (Tq (g:=g0) rfl (Zj.2 rfl) fun g1 w1 p1 hs q1=>?_));have hfr:=hfr.ext hs;have rp2:=rp2.ext hs;refine Z6 rfl (Tq (g:=g1) rfl (Zj.2 rfl) fun g2 w2 p2 hs q2=>?_);have hfr:=hfr.ext hs;have rp2:=rp2.ext hs;have q1:=q1.ext hs;refine Zg (.bool false) rfl rfl (Z4 (Z7 (Zn up2 rfl rfl (Zz ((.func (.func 90) #[] #[p1,p2])) (Kd (Yl (show ev _ _=p1 from rfl) (show ev _ _=p2 from rfl))) rfl ?_))));obtain ⟨y4,o0,h⟩:=Z3 h;refine Z6 rfl (Zp (g:=g2) (vs:=[up2,(.func (.func 90) #[] #[p1,p2])]) en64 (.cons rfl (.cons rfl .nil)) (wk64 rp2 ⟨90,#[],#[p1,p2],rfl,en90,fun g' w' hch a0 b0 r hu0 hr=>by obtain rfl:=Zj.1 hu0; exact Fn.mono (wk90  (q1.ch hch) (q2.ch hch) hr) fun _ _ _ h=>Qm.2 h⟩ o0) fun g3 w3_ v3 hs hr=>?_);have hfr:=hfr.ext hs;subst hr;refine Zz (.bool (!y4)) (Wq rfl) rfl (Zg (.bool (!y4)) rfl rfl (Z4 (Gd ?_)));obtain rfl:=sinj h;exact Ta rfl rfl (rq (.bool (!y4))) ⟨_,hfr,rfl⟩
def f54 (x0:List Zv) (x1:Zv→Zv→Option Int):Option ((List Zv)):=
 (f91 x0 (((x0).length:Int)) x1).bind fun y2=>
 some (y2)
theorem en54:Enters prog 54:=enters_of func54 (by kernel_rfl) rfl
theorem wk54 {iI:Nat} {gI:Gh} {wI:World} {x0:List Zv} {x1:Zv→Zv→Option Int} {up0:Value} (mp0:OM iI gI wI 34 x0 up0) {up1:Value} (rp1:Dm prog x1 up1 gI wI) {r:(List Zv)} (h:f54 x0 x1=some r):FnM prog 54 #[up0,up1] iI gI wI (fun g w v=>v=.tuple #[]∧OM iI g w 34 r up0):=by
 unfold f54 at h;refine K5 func54 rfl (Nat.le_of_ble_eq_true rfl) fun g0 hm hfr=>?_;have o0:=mp0;replace mp0:=mp0.enter;rw [← hm] at mp0
 replace hm:g0.m=gI.m:=by rw [hm]
 obtain ⟨ff1,fa1,fc1,rfl,fen1,fcl1⟩:=rp1;show E _ 9 none _ _ _ _ _;refine Za (Zn up0 rfl rfl (Zn up0 rfl rfl (Zz (Iz ((x0).length:Int)) (Vo underlying65 rfl mp0) rfl (Zn ((.func (.func ff1) fa1 fc1)) rfl rfl ?_))));obtain ⟨y2,hy2,h⟩:=Z3 h;refine Z6 rfl (Yy (g:=g0) (i:=1) (vs:=[up0,Iz ((x0).length:Int),(.func (.func ff1) fa1 fc1)]) en91 (.cons rfl (.cons rfl (.cons rfl .nil))) (wk91 mp0 (Dm.ch ⟨_,_,_,rfl,fen1,fcl1⟩ hfr.ch) hy2) fun g1 w1_ v1 hs hr=>?_);obtain ⟨hrv,b1⟩:=hr;have hfr:=hfr.stp hs;subst hrv;refine Zb ?_;obtain rfl:=sinj h;exact H9 rfl rfl ⟨_,hfr,rfl,o0.back b1⟩
def f72 (x0:List Str):Option (Bool):=
 jn (σ:=Unit) (fun _=>
  some (true)
  ) fun k53=>
 lp (σ:=Int) (fun k54 o0=>
  jn (σ:=Unit) (fun _=>
   jn (σ:=Unit) (fun _=>
    k54 ((w64 (o0 - (1:Int))))
    ) fun yB=>
   (idx x0 o0).bind fun y84=>
   (idx x0 (w64 (o0 - (1:Int)))).bind fun n8=>
   (f108 y84 n8).bind fun v8=>
   bif v8 then
    some (false)
   else
    yB ()
   ) fun k57=>
  bif (decide (o0 > (0 : Int))) then
   k57 ()
  else
   k53 ()
  ) big ((w64 (((x0).length:Int) - (1:Int))))
theorem en72:Enters prog 72:=enters_of func72 (by kernel_rfl) rfl
theorem wk72 {gI:Gh} {wI:World} {x0:List Str} {up0:Value} (rp0:RV gI.m wI x0 up0) {r:Bool} (h:f72 x0=some r):Fn prog 72 #[up0] gI wI (fun _ _ v=>v=.bool (r)):=by
 unfold f72 at h;refine fnE func72 rfl rfl fun g0 hm hfr=>?_;have rp0:=RVc hm rp0;show E _ 21 none _ _ _ _ _;refine Z7 (Zg (.bool false) rfl rfl (Z4 (Zq h (fun (s:Unit) e w=>∃ (g:Gh) ,Fr gI wI g w) (fun X53 k53 cC h=>?_) ?_)))
 ·refine Z7 (Zn up0 rfl rfl (Zz (Iz ((x0).length : Int)) (Tr underlying61 rfl rp0) rfl (Gf (Iz ((w64 (((x0).length : Int) - (1 : Int))))) rfl rfl rfl rfl (Zg (Iz ((w64 (((x0).length : Int) - (1 : Int))))) rfl rfl (Z4 (Zr (Wo h (fun (s : Int) e w => ∃ (g : Gh) , Fr gI wI g w ∧ e 0 = up0 ∧ RV g.m w (x0 : List Str) up0 ∧ e 3 = Iz (s)) ⟨g0, hfr, rfl, rp0, rfl⟩ (fun X54 k54 uC => ?_))))))))
  rintro o0 rE zE ⟨zB,hfr,oB,vB,l9⟩ h;refine Zq h (fun (s:Unit) e w=>∃ (g:Gh) ,Fr gI wI g w∧e 0=up0∧RV g.m w (x0:List Str) up0∧e 3=Iz (o0)) (fun X57 k57 vC h=>?_) ?_
  ·refine Z7 (Zo l9 rfl (Gf (.bool ((decide (o0 > (0 : Int))))) rfl rfl rfl rfl (Z4 ?_)))
   rcases Zt h with ⟨l8,h⟩ | ⟨l8,h⟩
   ·refine G5 l8 rfl ?_
    exact Zu (Zd (vC () _ _ ⟨zB,hfr,oB,vB,l9⟩ h))
   ·refine G8 l8 rfl (Tu (Gy (Gy (G9 ?_))))
    exact Zd (cC () _ _ ⟨zB,hfr⟩ h)
  ·rintro _ uE cF ⟨yD, hfr, t5, l5, i6⟩ h
   refine Zq h (fun (s:Unit) e w=>∃ (g:Gh) ,Fr gI wI g w∧e 0=up0∧RV g.m w (x0:List Str) up0∧e 3=Iz (o0)) (fun X83 yB bD h=>?_) ?_
   ·refine Zr (Zf ?_)
    obtain ⟨y84,n9,h⟩:=Z3 h;have zD:=Tp l5 n9;refine Zs (x:=.tmp 13) isAgg9 sizeOf9 zD fun dF aE cD=>?_;obtain rfl:=Qt.1 aE;obtain ⟨n8,aB,h⟩:=Z3 h;have bE:=Tp l5 aB;refine Zs (x:=.tmp 18) isAgg9 sizeOf9 bE fun eF iE lD=>?_;obtain rfl:=Qt.1 iE;obtain ⟨v8,nD,h⟩:=Z3 h;refine Tz (g:=yD) (n:=10) [(9,(fun v g w=>v=.bool (v8)))] [0,1,2,3,4,5,6,7,8,9] rfl mixed (by kernel_rfl) (⟨fun _=>Kz _,trivial⟩) (Z2 up0 rfl rfl (Zk t5) (Z2 (Iz (o0)) rfl rfl (Zk i6) (Z2 (Tb up0 o0 1) rfl rfl (Zh (α:=Str) underlying61 sizeOf9 rfl l5 rfl n9) (Tv (c:=Str.v (y84)) rfl rfl .plain (fun _ _ h=>h.ch) cD rfl (Z2 up0 rfl rfl (Zk t5) (Z2 (Iz (o0)) rfl rfl (Zk i6) (Z2 (Iz ((w64 (o0 - (1:Int))))) rfl rfl (Gx rfl rfl rfl) (Z2 (Tb up0 (w64 (o0 - (1:Int))) 1) rfl rfl (Zh (α:=Str) underlying61 sizeOf9 rfl l5 rfl aB) (Tv (c:=Str.v (n8)) rfl rfl .plain (fun _ _ h=>h.ch) lD rfl (Ks (φ:=fun v g w=>v=.bool (v8)) rfl rfl .plain (fun g w hd=>Zp (g:=g) (vs:=[Str.v (y84),Str.v (n8)]) en108 (.cons rfl (.cons rfl .nil)) (wk108  nD) fun g' w' v hs hr=>⟨g',hs,hr⟩) (fun rF hv=>?_)))))))))));obtain ⟨_,_,_,rfl⟩:=hv;refine Ho fun lE sF hs=>?_;have hfr:=hfr.ext hs;have l5:=l5.ext hs;clear hs;refine Z4 ?_;rcases Zt h with ⟨g8,h⟩ | ⟨g8,h⟩
    ·refine G5 g8 rfl (Z7 (Zg (.bool false) rfl rfl (Z4 (Gd (Tg (Gq (Gq (Tg (Gq ?_)))))))))
     obtain rfl:=sinj h;exact Ta rfl rfl (rq (.bool false)) ⟨_,hfr,rfl⟩
    ·refine G8 g8 rfl ?_
     exact Zu (Tc (Zd (bD () _ _ ⟨lE,hfr,t5,l5,i6⟩ h)))
   ·rintro _ mE vE ⟨oD, hfr, lB, mB, nB⟩ h
    refine Za (Zo nB rfl (Gf (Iz ((w64 (o0 - (1:Int))))) rfl rfl rfl rfl (Zg (Iz ((w64 (o0 - (1:Int))))) rfl rfl ?_)));exact Z4 (uC ((w64 (o0 - (1:Int)))) _ _ ⟨oD,hfr,lB,mB,rfl⟩ h)
 ·rintro _ oE xE ⟨yE, hfr⟩ h
  refine Z7 (Zg (.bool true) rfl rfl (Z4 (Gd ?_)));obtain rfl:=sinj h;exact Ta rfl rfl (rq (.bool true)) ⟨_,hfr,rfl⟩
def f84 (x0:Design):Option (Int):=
 jn (σ:=Unit) (fun _=>
  some ((0:Int))
  ) fun n8=>
 (f125 ((1:Int)) ((24:Int)) (([(x0).Hooks]:List Int))).bind fun y56=>
 bif (!y56) then
  some ((2:Int))
 else
  bif (decide ((((x0).Rows).length : Int) > (60 : Int))) then
   some ((5:Int))
  else
   bif ((((x0).Rows).length : Int) == (0 : Int)) then
    some ((7:Int))
   else
    (Hb (1:Int) (x0).Hooks).bind fun l5=>
    (f125 ((0:Int)) ((w64 (l5 - (1:Int)))) ((x0).Rows)).bind fun y71=>
    bif (!y71) then
     some ((2:Int))
    else
     n8 ()
theorem en84:Enters prog 84:=enters_of func84 (by kernel_rfl) rfl
theorem wk84 {gI:Gh} {wI:World} {x0:Design} {up0:Value} (rp0:RV gI.m wI x0 up0) {r:Int} (h:f84 x0=some r):Fn prog 84 #[up0] gI wI (fun _ _ v=>v=Iz (r)):=by
 unfold f84 at h;refine fnE func84 rfl rfl fun g0 hm hfr=>?_;have rp0:=RVc hm rp0;show E _ 28 none _ _ _ _ _;refine Z7 (Z6 rfl (Tq (g:=g0) rfl rp0 fun g1 w1 p1 hs q1=>?_));have hfr:=hfr.ext hs;refine Zg (Iz (0)) rfl rfl (Z4 (Zq h (fun (s:Unit) e w=>∃ (g:Gh) ,Fr gI wI g w) (fun X51 n8 l9 h=>?_) ?_))
 ·refine Zr (Z7 (Zz (Ga p1 0) (Zc Ki rfl (PT.ptr q1)) rfl ?_))
  have oB:=Zm (Qb).1 q1;refine Z6 rfl (Z9 (g:=g1) isAgg3 sizeOf3 rfl oB fun mE vB=>?_);obtain rfl:=Zj.1 vB;refine Z6 rfl (Gb (g:=g1) 3006 (xs:=([(x0).Hooks]:List Int)) (vs:=[Iz ((x0).Hooks)]) underlying24 sizeOf3 zeroValue3 rfl rfl (.cons rfl .nil) (RVs.cons (Zj.2 rfl) RVs.nil) rfl rfl fun yB oE zB hs o54 cC hxt hfl=>?_);have hfr:=hfr.stp hs;have q1:=q1.stp hs;obtain ⟨y56,n9,h⟩:=Z3 h;refine Z6 rfl (Zp (g:=yB) (vs:=[Iz (1),Iz (24),zB]) en125 (.cons rfl (.cons rfl (.cons rfl .nil))) (wk125 cC n9) fun l8 bE rE hs hr=>?_);have hfr:=hfr.ext hs;have q1:=q1.ext hs;subst hr;refine Zz (.bool (!y56)) (Wq rfl) rfl (Zg (.bool (!y56)) rfl rfl (Z4 ?_));rcases Zt h with ⟨t5,h⟩ | ⟨t5,h⟩
  ·refine G5 t5 rfl (Z7 (Zg (Iz (2)) rfl rfl (Z4 (Gd (Tg (Gq ?_))))))
   obtain rfl:=sinj h;exact Ta rfl rfl (rq (Iz (2))) ⟨_,hfr,rfl⟩
  ·refine G8 t5 rfl (Z7 (Zz (Ga p1 1) (Zc Kb rfl (PT.ptr q1)) rfl ?_))
   have uC:=Zm (T4).1 q1;refine Z6 rfl (Z9 (g:=l8) isAgg24 sizeOf24 rfl uC fun uE vC=>(Zz (Iz (((x0).Rows).length:Int)) (Tr underlying24 rfl vC) rfl (Zz (.bool ((decide ((((x0).Rows).length:Int) > (60:Int))))) (Gx rfl rfl rfl) rfl (Zz (.bool ((decide ((((x0).Rows).length:Int) > (60:Int))))) (Tx rfl) rfl (Z4 ?_)))));rcases Zt h with ⟨i6,h⟩ | ⟨i6,h⟩
   ·refine G5 i6 rfl (Z7 (Zg (Iz (5)) rfl rfl (Z4 (Gd (Tg (Gq ?_))))))
    obtain rfl:=sinj h;exact Ta rfl rfl (rq (Iz (5))) ⟨_,hfr,rfl⟩
   ·refine G8 i6 rfl (Z7 (Zz (Ga p1 1) (Zc Kb rfl (PT.ptr q1)) rfl ?_))
    have bD:=Zm (T4).1 q1;refine Z6 rfl (Z9 (g:=l8) isAgg24 sizeOf24 rfl bD fun v62 cD=>(Zz (Iz (((x0).Rows).length:Int)) (Tr underlying24 rfl cD) rfl (Gf (.bool (((((x0).Rows).length:Int) == (0:Int)))) rfl rfl rfl rfl (Zg (.bool (((((x0).Rows).length:Int) == (0:Int)))) rfl rfl (Z4 ?_)))));rcases Zt h with ⟨g8,h⟩ | ⟨g8,h⟩
    ·refine G5 g8 rfl (Z7 (Zg (Iz (7)) rfl rfl (Z4 (Gd (Tg (Gq ?_))))))
     obtain rfl:=sinj h;exact Ta rfl rfl (rq (Iz (7))) ⟨_,hfr,rfl⟩
    ·refine G8 g8 rfl (Zf ?_)
     have lD:=Zm (Qb).1 q1;refine Zs (x:=.tmp 20) isAgg3 sizeOf3 lD fun vE nD aB=>?_;obtain rfl:=Zj.1 nD;obtain ⟨l5,lB,h⟩:=Z3 h;have oD:=Zm (T4).1 q1;refine Zs (x:=.tmp 24) isAgg24 sizeOf24 oD fun v8 yD mB=>?_;obtain ⟨y71,nB,h⟩:=Z3 h;refine Tz (g:=l8) (n:=9) [(6,(fun v g w=>v=.bool (y71)))] [0,1,2,3,4,5,6,7,8] rfl mixed (by kernel_rfl) (⟨fun _=>Kz _,trivial⟩) (Z2 (Ga p1 0) rfl rfl (Zc Ki rfl (PT.ptr q1)) (Tv (c:=Iz ((x0).Hooks)) rfl rfl .plain (fun _ _ h=>h.ch) aB rfl (Z2 (Iz (l5)) rfl rfl (Gx rfl rfl (congrArg (Option.map (Value.int .i64)) lB)) (Z2 (Iz ((w64 (l5 - (1:Int))))) rfl rfl (Gx rfl rfl rfl) (Z2 (Ga p1 1) rfl rfl (Zc Kb rfl (PT.ptr q1)) (Tv (c:=v8) rfl rfl .plain (fun _ _ h=>h.ch) mB rfl (Ks (φ:=fun v g w=>v=.bool (y71)) rfl rfl .plain (fun g w hd=>Zp (g:=g) (vs:=[Iz (0),Iz ((w64 (l5 - (1:Int)))),v8]) en125 (.cons rfl (.cons rfl (.cons rfl .nil))) (wk125 (yD.ext hd.1) nB) fun g' w' v hs hr=>⟨g',hs,hr⟩) (fun xE hv=>?_))))))));obtain ⟨_,_,_,rfl⟩:=hv;refine Z2 (.bool (!y71)) rfl rfl (Wq rfl) (Z2 (.bool (!y71)) rfl rfl (Tx rfl) (Ho fun zD yE hs=>?_));have hfr:=hfr.ext hs;clear hs;refine Z4 ?_;rcases Zt h with ⟨o0,h⟩ | ⟨o0,h⟩
     ·refine G5 o0 rfl (Z7 (Zg (Iz (2)) rfl rfl (Z4 (Gd (Tg (Gq ?_))))))
      obtain rfl:=sinj h;exact Ta rfl rfl (rq (Iz (2))) ⟨_,hfr,rfl⟩
     ·refine G8 o0 rfl ?_
      exact Zu (Tc (Zd (l9 () _ _ ⟨zD,hfr⟩ h)))
 ·rintro _ aE iE ⟨lE, hfr⟩ h
  refine Z7 (Zg (Iz (0)) rfl rfl (Z4 (Gd ?_)));obtain rfl:=sinj h;exact Ta rfl rfl (rq (Iz (0))) ⟨_,hfr,rfl⟩
def f86 (x0:FaultLoom):Option (Int):=
 jn (σ:=Unit) (fun _=>
  jn (σ:=Unit) (fun _=>
   jn (σ:=Unit) (fun _=>
    some ((0:Int))
    ) fun k33=>
   bif (((x0).Harness).Hooks != ((x0).Design).Hooks) then
    some ((4:Int))
   else
    k33 ()
   ) fun k19=>
  (f84 ((x0).Design)).bind fun y23=>
  bif (y23 != (0 : Int)) then
   some (y23)
  else
   k19 ()
  ) fun k7=>
 (f35 ((x0).Harness)).bind fun y11=>
 bif (y11 != (0 : Int)) then
  some (y11)
 else
  k7 ()
theorem en86:Enters prog 86:=enters_of func86 (by kernel_rfl) rfl
theorem wk86 {gI:Gh} {wI:World} {x0:FaultLoom} {up0:Value} (rp0:RV gI.m wI x0 up0) {r:Int} (h:f86 x0=some r):Fn prog 86 #[up0] gI wI (fun _ _ v=>v=Iz (r)):=by
 unfold f86 at h;refine fnE func86 rfl rfl fun g0 hm hfr=>?_;have rp0:=RVc hm rp0;show E _ 24 none _ _ _ _ _;refine Z7 (Z6 rfl (Tq (g:=g0) rfl rp0 fun g1 w1 p1 hs q1=>?_));have hfr:=hfr.ext hs;refine Zg (Iz (0)) rfl rfl (Z4 (Zq h (fun (s:Unit) e w=>∃ (g:Gh) ,Fr gI wI g w∧e 1=p1∧PT g.m w (x0:FaultLoom) p1) (fun X7 k7 hk7 h=>?_) ?_))
 ·refine Z7 (Zz (Ga p1 0) (Zc Kj rfl (PT.ptr q1)) rfl ?_)
  have q8:=Zm (Tn).1 q1;refine Z6 rfl (Z9 (g:=g1) isAgg26 sizeOf26 rfl q8 fun v9 r9=>?_);obtain ⟨y11,lB,h⟩:=Z3 h;refine Z6 rfl (Zp (g:=g1) (vs:=[v9]) en35 (.cons rfl .nil) (wk35 r9 lB) fun vB nD bE hs hr=>?_);have hfr:=hfr.ext hs;have q1:=q1.ext hs;subst hr;refine Zg (Iz (y11)) rfl rfl (Z4 (Z7 (Zn (Iz (y11)) rfl rfl (Gf (.bool ((y11 != (0:Int)))) rfl rfl rfl rfl (Z4 ?_)))));rcases Zt h with ⟨t5,h⟩ | ⟨t5,h⟩
  ·refine G5 t5 rfl (Z7 (Zn (Iz (y11)) rfl rfl (Zg (Iz (y11)) rfl rfl (Z4 (Gd (Gq ?_))))))
   obtain rfl:=sinj h;exact Ta rfl rfl (rq (Iz (y11))) ⟨_,hfr,rfl⟩
  ·refine G8 t5 rfl ?_
   exact Zu (Zd (hk7 () _ _ ⟨vB,hfr,rfl,q1⟩ h))
 ·rintro _ oD iE ⟨l9, hfr, l8, o0⟩ h
  refine Zq h (fun (s:Unit) e w=>∃ (g:Gh) ,Fr gI wI g w∧e 1=p1∧PT g.m w (x0:FaultLoom) p1) (fun X19 k19 mB h=>?_) ?_
  ·refine Z7 (Zz (Ga p1 2) (Zc Wf l8 (PT.ptr o0)) rfl ?_)
   have yB:=Zm (G1).1 o0;refine Z6 rfl (Z9 (g:=l9) isAgg28 sizeOf28 rfl yB fun zB cC=>?_);obtain ⟨y23,nB,h⟩:=Z3 h;refine Z6 rfl (Zp (g:=l9) (vs:=[zB]) en84 (.cons rfl .nil) (wk84 cC nB) fun uC yD lE hs hr=>?_);have hfr:=hfr.ext hs;have o0:=o0.ext hs;subst hr;refine Zg (Iz (y23)) rfl rfl (Z4 (Z7 (Zn (Iz (y23)) rfl rfl (Gf (.bool ((y23 != (0:Int)))) rfl rfl rfl rfl (Z4 ?_)))));rcases Zt h with ⟨i6,h⟩ | ⟨i6,h⟩
   ·refine G5 i6 rfl (Z7 (Zn (Iz (y23)) rfl rfl (Zg (Iz (y23)) rfl rfl (Z4 (Gd (Gq ?_))))))
    obtain rfl:=sinj h;exact Ta rfl rfl (rq (Iz (y23))) ⟨_,hfr,rfl⟩
   ·refine G8 i6 rfl ?_
    exact Zu (Zd (mB () _ _ ⟨uC,hfr,l8,o0⟩ h))
  ·rintro _ zD mE ⟨v8, hfr, n8, l5⟩ h
   refine Zq h (fun (s:Unit) e w=>∃ (g:Gh) ,Fr gI wI g w) (fun X33 k33 oB h=>?_) ?_
   ·refine Z7 (Zz (Ga p1 0) (Zc Kj n8 (PT.ptr l5)) rfl ?_)
    have n9:=Zm (Tn).1 l5;refine Zz (Ga (Ga p1 0) 0) (Zc Jt rfl (PT.ptr n9)) rfl ?_;have vC:=Zm (Qh).1 n9;refine Z6 rfl (Z9 (g:=v8) isAgg3 sizeOf3 rfl vC fun oE bD=>?_);obtain rfl:=Zj.1 bD;refine Zz (Ga p1 2) (Zc Wf n8 (PT.ptr l5)) rfl ?_;have aB:=Zm (G1).1 l5;refine Zz (Ga (Ga p1 2) 0) (Zc Ki rfl (PT.ptr aB)) rfl ?_;have cD:=Zm (Qb).1 aB;refine Z6 rfl (Z9 (g:=v8) isAgg3 sizeOf3 rfl cD fun rE lD=>?_);obtain rfl:=Zj.1 lD;refine Gf (.bool ((((x0).Harness).Hooks != ((x0).Design).Hooks))) rfl rfl rfl rfl (Z4 ?_);rcases Zt h with ⟨g8,h⟩ | ⟨g8,h⟩
    ·refine G5 g8 rfl (Z7 (Zg (Iz (4)) rfl rfl (Z4 (Gd (Gq ?_)))))
     obtain rfl:=sinj h;exact Ta rfl rfl (rq (Iz (4))) ⟨_,hfr,rfl⟩
    ·refine G8 g8 rfl ?_
     exact Zu (Zd (oB () _ _ ⟨v8,hfr⟩ h))
   ·rintro _ aE uE ⟨vE, hfr⟩ h
    refine Z7 (Zg (Iz (0)) rfl rfl (Z4 (Gd ?_)));obtain rfl:=sinj h;exact Ta rfl rfl (rq (Iz (0))) ⟨_,hfr,rfl⟩
def f88 (x0:Gl) (x1:Zv):Option (Bool):=
 Option.bind (α:=Zv × Bool) (
  bif ((x1).Kind == (1 : Int)) then
   some ((⟨(x1).Kind,(x1).Pick,(x1).Hook,0,false⟩:Zv),true)
  else
   bif ((x1).Kind == (2 : Int)) then
    some ((⟨(x1).Kind,0,(x1).Hook,0,(x1).Up⟩:Zv),true)
   else
    Option.bind (α:=Bool) (
     bif ((x1).Kind == (3 : Int)) then
      some (((x1).Kind == (3:Int)))
     else
      some (((x1).Kind == (4:Int)))
     ) fun n9=>
    bif n9 then
     some ((⟨(x1).Kind,(x1).Pick,0,0,false⟩:Zv),true)
    else
     bif ((x1).Kind == (5 : Int)) then
      some ((⟨(x1).Kind,0,0,(x1).Warp,false⟩:Zv),true)
     else
      some ((⟨(x1).Kind,0,0,0,false⟩:Zv),false)
  ) fun (n8,aB)=>
 Option.bind (α:=Bool) (
  bif aB then
   bif (decide (x1 = n8)) then
    (f51 ((0:Int)) ((w64 ((((((x0).FaultLoom).Design).Rows).length:Int) - (1:Int)))) (([(x1).Pick]:List Int))).bind fun zB=>
    bif zB then
     (f51 ((0:Int)) ((w64 ((((x0).FaultLoom).Design).Hooks - (1:Int)))) (([(x1).Hook]:List Int))).bind fun cC=>
     bif cC then
      (f51 ((0:Int)) ((w64 ((((((x0).FaultLoom).Harness).Warps).length:Int) - (1:Int)))) (([(x1).Warp]:List Int))).bind fun lD=>
      some (lD)
     else
      some (false)
    else
     some (false)
   else
    some (false)
  else
   some (false)
  ) fun vB=>
 some (vB)
theorem en88:Enters prog 88:=enters_of func88 (by kernel_rfl) rfl
theorem wk88 {gI:Gh} {wI:World} {x0:Gl} {x1:Zv} {up0:Value} (rp0:RV gI.m wI x0 up0) {up1:Value} (rp1:RV gI.m wI x1 up1) {r:Bool} (h:f88 x0 x1=some r):Fn prog 88 #[up0,up1] gI wI (fun _ _ v=>v=.bool (r)):=by
 unfold f88 at h;refine fnE func88 rfl rfl fun g0 hm hfr=>?_;have rp0:=RVc hm rp0;have rp1:=RVc hm rp1;show E _ 80 none _ _ _ _ _;refine Z7 (Z6 rfl (Tq (g:=g0) rfl rp0 fun g1 w1 p1 hs q1=>?_));have hfr:=hfr.ext hs;have rp1:=rp1.ext hs;refine Z6 rfl (Tq (g:=g1) rfl rp1 fun g2 w2 p2 hs q2=>?_);have hfr:=hfr.ext hs;have q1:=q1.ext hs;refine Zg (.bool false) rfl rfl (Z4 (Z7 (Zz (Ga p2 0) (Zc Uw rfl (PT.ptr q2)) rfl ?_)));have q3:=Zm (Q0).1 q2;refine Z6 rfl (Z9 (g:=g2) isAgg32 sizeOf32 rfl q3 fun v4 r4=>?_);obtain rfl:=Zj.1 r4;have r5:RV g2.m w2 (⟨(x1).Kind,0,0,0,false⟩:Zv) (.agg (G3 [[Iz 0],[Iz 0],[Iz 0],[Iz 0],[.bool false]] [(0,Iz ((x1).Kind))]).flatten.toArray):=G2 rfl (Gm (rfl) (Gm (Zx) (Gm (Zx) (Gm (Zx) (G6 (Wv))))));generalize qI:(Value.agg (G3 [[Iz 0],[Iz 0],[Iz 0],[Iz 0],[.bool false]] [(0,Iz ((x1).Kind))]).flatten.toArray)=v5 at r5;refine Zz v5 (qI ▸ Tf (vs:=[(0,Iz ((x1).Kind))]) [[Iz 0],[Iz 0],[Iz 0],[Iz 0],[.bool false]] Si rfl rfl (.cons rfl .nil) ⟨⟨_,rfl,rfl⟩,trivial⟩) rfl (Z6 rfl (Gw (g:=g2) 2005 (⟨0,0,0,0,false⟩:Zv) zeroValue34 (fun m w=>⟨_,(Gi Zx (Gi Zx (Gi Zx (Gi Zx Wv)))),rfl⟩) fun g6 w6 p6 hs b6 cb=>?_));have hfr:=hfr.stp hs;have q1:=q1.stp hs;have q2:=q2.stp hs;have r5:=r5.stp hs;clear cb;refine Z6 rfl (Gk (g:=g6) (v:=v5) sizeOf34 rfl b6 rfl r5 fun g7 w7 hs b7 cb=>?_);clear cb;have hfr:=hfr.stp hs;have q1:=q1.stp hs;have q2:=q2.stp hs;refine Z4 (Z7 (Zg (.bool true) rfl rfl (Z4 ?_)));obtain ⟨⟨n8,aB⟩,hx,h⟩:=Z3 h;refine Gs (fun e w=>∃ (g:Gh) ,Fr gI wI g w∧e 2=p1∧PT g.m w (x0:Gl) p1∧e 3=p2∧PT g.m w (x1:Zv) p2∧e 5=p6∧OB 2005 g w 34 (n8:Zv) p6∧e 6=.bool (aB)) (fun Q' hQ=>?_) (fun pJ zJ hR=>?_)
 ·replace h := hx
  clear hx;refine Z7 (Zz (Ga p2 0) (Zc Uw rfl (PT.ptr q2)) rfl ?_);have sI:=Zm (Q0).1 q2;refine Z6 rfl (Z9 (g:=g7) isAgg32 sizeOf32 rfl sI fun oL jJ=>?_);obtain rfl:=Zj.1 jJ;refine Z4 (Zr (Z7 (Gf (.bool (((x1).Kind == (1:Int)))) rfl rfl rfl rfl (Zg (.bool (((x1).Kind == (1:Int)))) rfl rfl (Z4 ?_)))));rcases Zt h with ⟨lE,h⟩ | ⟨lE,h⟩
  ·refine G5 lE rfl ?_
   have kJ:=Zm (Tl).1 q2;refine Zs (x:=.tmp 14) isAgg3 sizeOf3 kJ fun xL lJ aG=>?_;obtain rfl:=Zj.1 lJ;have mJ:=Zm (T8).1 q2;refine Zs (x:=.tmp 16) isAgg3 sizeOf3 mJ fun yL nJ bG=>?_;obtain rfl:=Zj.1 nJ;refine Ja (g:=g7) (n:=5) [2,3] [] [0,1,2,3,4] rfl mixed (by kernel_rfl) trivial rfl (Z2 (Ga p2 1) rfl rfl (Zc Hc rfl (PT.ptr q2)) (Tv (c:=Iz ((x1).Pick)) rfl rfl .plain (fun _ _ h=>h.ch) aG rfl (Wj (c:=Ga p2 2) rfl rfl .plain (Zc Jc rfl (PT.ptr q2)) (Xt (c:=Iz ((x1).Hook)) rfl rfl .plain (fun _ _ h=>h.ch) rfl bG rfl (Z2 (Ga p6 1) rfl rfl (Zc Hc rfl (OB.ptr b7)) (Ho fun yF oJ hs=>?_))))));have hlt:Lt g7.m w7 yF oJ:=hs.ch;have hfr:=hfr.ext hs;have q1:=q1.ext hs;have q2:=q2.ext hs;have b7:=b7.ext hs;clear hs;refine Yo hlt.w .plain rfl (Qg (g:=yF) Tl sizeOf3 rfl b7 rfl (Zj.2 rfl) fun cG aK hs b112 rst hos=>?_);clear rst hos;have hfr:=hfr.stp hs;have hlt:=hlt.stp hs;have q1:=q1.stp hs;have q2:=q2.stp hs;refine Y6 hlt.w (v:=Ga p6 2) (Zc Jc rfl (OB.ptr b112)) .plain rfl (Yo hlt.w .plain rfl (Qg (g:=cG) T8 sizeOf3 rfl b112 rfl (Zj.2 rfl) fun eG bK hs b114 rst hos=>?_));clear rst hos;have hfr:=hfr.stp hs;have hlt:=hlt.stp hs;have q1:=q1.stp hs;have q2:=q2.stp hs;refine Uo hlt.w ?_;clear hlt;refine Tc ?_;obtain ⟨rfl,rfl⟩:=Kr h;exact hQ _ _ ⟨eG,hfr,rfl,q1,rfl,q2,rfl,b114,rfl⟩
  ·refine G8 lE rfl (Z7 (Gf (.bool (((x1).Kind == (2 : Int)))) rfl rfl rfl rfl (Zg (.bool (((x1).Kind == (2 : Int)))) rfl rfl (Z4 ?_))))
   rcases Zt h with ⟨nD,h⟩ | ⟨nD,h⟩
   ·refine G5 nD rfl ?_
    have gG:=Zm (T8).1 q2;refine Zs (x:=.tmp 22) isAgg3 sizeOf3 gG fun cK iG sF=>?_;obtain rfl:=Zj.1 iG;have jG:=Zm (Ky).1 q2;refine Zs (x:=.tmp 24) isAgg4 sizeOf4 jG fun dK kG tF=>?_;obtain rfl:=Qm.1 kG;refine Ja (g:=g7) (n:=5) [2,3] [] [0,1,2,3,4] rfl mixed (by kernel_rfl) trivial rfl (Z2 (Ga p2 2) rfl rfl (Zc Jc rfl (PT.ptr q2)) (Tv (c:=Iz ((x1).Hook)) rfl rfl .plain (fun _ _ h=>h.ch) sF rfl (Wj (c:=Ga p2 4) rfl rfl .plain (Zc Sa rfl (PT.ptr q2)) (Xt (c:=.bool ((x1).Up)) rfl rfl .plain (fun _ _ h=>h.ch) rfl tF rfl (Z2 (Ga p6 2) rfl rfl (Zc Jc rfl (OB.ptr b7)) (Ho fun oE lG hs=>?_))))));have hlt:Lt g7.m w7 oE lG:=hs.ch;have hfr:=hfr.ext hs;have q1:=q1.ext hs;have q2:=q2.ext hs;have b7:=b7.ext hs;clear hs;refine Yo hlt.w .plain rfl (Qg (g:=oE) T8 sizeOf3 rfl b7 rfl (Zj.2 rfl) fun mG lK hs b143 rst hos=>?_);clear rst hos;have hfr:=hfr.stp hs;have hlt:=hlt.stp hs;have q1:=q1.stp hs;have q2:=q2.stp hs;refine Y6 hlt.w (v:=Ga p6 4) (Zc Sa rfl (OB.ptr b143)) .plain rfl (Yo hlt.w .plain rfl (Qg (g:=mG) Ky sizeOf4 rfl b143 rfl (Qm.2 rfl) fun sG mK hs b145 rst hos=>?_));clear rst hos;have hfr:=hfr.stp hs;have hlt:=hlt.stp hs;have q1:=q1.stp hs;have q2:=q2.stp hs;refine Uo hlt.w ?_;clear hlt;refine Tc ?_;obtain ⟨rfl,rfl⟩:=Kr h;exact hQ _ _ ⟨sG,hfr,rfl,q1,rfl,q2,rfl,b145,rfl⟩
   ·refine G8 nD rfl ?_
    obtain ⟨n9,hx,h⟩:=Z3 h;refine Gs (fun e w=>∃ (g:Gh) ,Fr gI wI g w∧e 2=p1∧PT g.m w (x0:Gl) p1∧e 3=p2∧PT g.m w (x1:Zv) p2∧e 5=p6∧OB 2005 g w 34 ((⟨(x1).Kind,0,0,0,false⟩:Zv):Zv) p6∧e 6=.bool (true)∧e 11=Iz ((x1).Kind)∧e 28=.bool (n9)) (fun Q' hQ=>?_) (fun qJ nK hR=>?_)
    ·replace h := hx
     clear hx;refine Z7 (Gf (.bool (((x1).Kind == (3:Int)))) rfl rfl rfl rfl (Zg (.bool (((x1).Kind == (3:Int)))) rfl rfl (Z4 ?_)));rcases Zt h with ⟨oD,h⟩ | ⟨oD,h⟩
     ·refine G5 oD rfl (Zu ?_)
      obtain rfl:=sinj h;exact hQ _ _ ⟨g7,hfr,rfl,q1,rfl,q2,rfl,b7,rfl,rfl,rfl⟩
     ·refine G8 oD rfl (Za (Gf (.bool (((x1).Kind == (4 : Int)))) rfl rfl rfl rfl (Zg (.bool (((x1).Kind == (4 : Int)))) rfl rfl (Zb ?_))))
      obtain rfl:=sinj h;exact hQ _ _ ⟨g7,hfr,rfl,q1,rfl,q2,rfl,b7,rfl,rfl,rfl⟩
    ·clear hx
     obtain ⟨uC,hfr,vC,l9,lB,l8,mB,nB,iE,mE,cD⟩:=hR;rcases Zt h with ⟨yD,h⟩ | ⟨yD,h⟩
     ·refine Tj (Eq.trans (show ev _ _ = .bool (n9) from cD) (congrArg Value.bool yD)) (Za (Zz (Ga p2 1) (Zc Hc lB (PT.ptr l8)) rfl ?_))
      have xG:=Zm (Tl).1 l8;refine Z6 rfl (Z9 (g:=uC) isAgg3 sizeOf3 rfl xG fun oK yG=>?_);obtain rfl:=Zj.1 yG;refine Zz (Ga p6 1) (Zc Hc mB (OB.ptr nB)) rfl (Z6 rfl (Qg (g:=uC) Tl sizeOf3 rfl nB rfl (Zj.2 rfl) fun zG pK hs b153 rst hos=>?_));clear rst hos;have hfr:=hfr.stp hs;have l9:=l9.stp hs;have l8:=l8.stp hs;refine Zb (Tc ?_);obtain ⟨rfl,rfl⟩:=Kr h;exact hQ _ _ ⟨zG,hfr,vC,l9,lB,l8,mB,b153,iE⟩
     ·refine Gz (Eq.trans (show ev _ _ = .bool (n9) from cD) (congrArg Value.bool yD)) (Z7 (Gf (.bool (((x1).Kind == (5 : Int)))) mE rfl rfl rfl (Zg (.bool (((x1).Kind == (5 : Int)))) rfl rfl (Z4 ?_))))
      rcases Zt h with ⟨zD,h⟩ | ⟨zD,h⟩
      ·refine G5 zD rfl (Za (Zz (Ga p2 3) (Zc Dc lB (PT.ptr l8)) rfl ?_))
       have aH:=Zm (Ws).1 l8;refine Z6 rfl (Z9 (g:=uC) isAgg3 sizeOf3 rfl aH fun qK cH=>?_);obtain rfl:=Zj.1 cH;refine Zz (Ga p6 3) (Zc Dc mB (OB.ptr nB)) rfl (Z6 rfl (Qg (g:=uC) Ws sizeOf3 rfl nB rfl (Zj.2 rfl) fun gH sK hs b158 rst hos=>?_));clear rst hos;have hfr:=hfr.stp hs;have l9:=l9.stp hs;have l8:=l8.stp hs;refine Zb (Tc ?_);obtain ⟨rfl,rfl⟩:=Kr h;exact hQ _ _ ⟨gH,hfr,vC,l9,lB,l8,mB,b158,iE⟩
      ·refine G8 zD rfl (Za (Zg (.bool false) rfl rfl (Zb (Tc ?_))))
       obtain ⟨rfl,rfl⟩:=Kr h;exact hQ _ _ ⟨uC,hfr,vC,l9,lB,l8,mB,nB,rfl⟩
 ·clear hx
  obtain ⟨oB,hfr,bD,l5,yB,o0,rE,uE,vE⟩:=hR;obtain ⟨vB,hx,h⟩:=Z3 h;refine Gs (fun e w=>∃ (g:Gh) ,Fr gI wI g w∧e 4=.bool (vB)) (fun Q' hQ=>?_) (fun rJ tK hR=>?_)
  ·replace h := hx
   clear hx;refine Za (Zo vE rfl (Zn (.bool (aB)) rfl rfl ?_));rcases Zt h with ⟨v8,h⟩ | ⟨v8,h⟩
   ·refine Ze (.yes2 rfl rfl v8) rfl (Z9 (g := oB) isAgg34 sizeOf34 yB o0 fun uK jH => (Ze (.yes2 rfl rfl v8) rfl (T3 (g := oB) isAgg34 sizeOf34 rE uE fun vK kH => (Z0 (.bool ((decide (x1 = n8)))) (P_seq seq_34 rfl eg_34 rfl rfl jH kH) rfl rfl v8 rfl (Zz (.bool ((decide (x1 = n8)))) (Zl (b := aB) rfl (Te v8 rfl)) rfl (Zn (.bool ((decide (x1 = n8)))) rfl rfl ?_))))))
    rcases Zt h with ⟨t5,h⟩ | ⟨t5,h⟩
    ·refine Z0 (Ga p1 0) (Zc Uk bD (PT.ptr l5)) rfl rfl t5 rfl ?_
     have xE:=Zm (Qp).1 l5;refine Z0 (Ga (Ga p1 0) 2) (Zc Wf rfl (PT.ptr xE)) rfl rfl t5 rfl ?_;have yE:=Zm (G1).1 xE;refine Z0 (Ga (Ga (Ga p1 0) 2) 1) (Zc Kb rfl (PT.ptr yE)) rfl rfl t5 rfl ?_;have lH:=Zm (T4).1 yE;refine Ze (.yes2 rfl rfl t5) rfl (Z9 (g:=oB) isAgg24 sizeOf24 rfl lH fun xK mH=>(Z0 (Iz (((((x0).FaultLoom).Design).Rows).length:Int)) (Tr underlying24 rfl mH) rfl rfl t5 rfl (Z0 (Iz ((w64 ((((((x0).FaultLoom).Design).Rows).length:Int) - (1:Int))))) (Gx rfl rfl rfl) rfl rfl t5 rfl (Z0 (Ga p2 1) (Zc Hc yB (PT.ptr o0)) rfl rfl t5 rfl ?_))));have nH:=Zm (Tl).1 o0;refine Ze (.yes2 rfl rfl t5) rfl (Z9 (g:=oB) isAgg3 sizeOf3 rfl nH fun yK oH=>?_);obtain rfl:=Zj.1 oH;refine Ze (.yes2 rfl rfl t5) rfl (Gb (g:=oB) 3054 (xs:=([(x1).Pick]:List Int)) (vs:=[Iz ((x1).Pick)]) underlying24 sizeOf3 zeroValue3 rfl rfl (.cons rfl .nil) (RVs.cons (Zj.2 rfl) RVs.nil) rfl rfl fun pH zK qH hs o203 sH hxt hfl=>?_);have hfr:=hfr.stp hs;have l5:=l5.stp hs;have o0:=o0.stp hs;obtain ⟨zB,uF,h⟩:=Z3 h;refine Ze (.yes2 rfl rfl t5) rfl (Zp (g:=pH) (vs:=[Iz (0),Iz ((w64 ((((((x0).FaultLoom).Design).Rows).length:Int) - (1:Int)))),qH]) en51 (.cons rfl (.cons rfl (.cons rfl .nil))) (wk51 sH uF) fun aE sJ aL hs hr=>?_);have hfr:=hfr.ext hs;have l5:=l5.ext hs;have o0:=o0.ext hs;subst hr;refine Zz (.bool (zB)) (Zl (b:=(decide (x1=n8))) rfl (Te t5 rfl)) rfl (Zn (.bool (zB)) rfl rfl ?_);rcases Zt h with ⟨g8,h⟩ | ⟨g8,h⟩
     ·refine Z0 (Ga p1 0) (Zc Uk bD (PT.ptr l5)) rfl rfl g8 rfl ?_
      have zE:=Zm (Qp).1 l5;refine Z0 (Ga (Ga p1 0) 2) (Zc Wf rfl (PT.ptr zE)) rfl rfl g8 rfl ?_;have cF:=Zm (G1).1 zE;refine Z0 (Ga (Ga (Ga p1 0) 2) 0) (Zc Ki rfl (PT.ptr cF)) rfl rfl g8 rfl ?_;have tH:=Zm (Qb).1 cF;refine Ze (.yes2 rfl rfl g8) rfl (Z9 (g:=aE) isAgg3 sizeOf3 rfl tH fun bL uH=>?_);obtain rfl:=Zj.1 uH;refine Z0 (Iz ((w64 ((((x0).FaultLoom).Design).Hooks - (1:Int))))) (Gx rfl rfl rfl) rfl rfl g8 rfl (Z0 (Ga p2 2) (Zc Jc yB (PT.ptr o0)) rfl rfl g8 rfl ?_);have xH:=Zm (T8).1 o0;refine Ze (.yes2 rfl rfl g8) rfl (Z9 (g:=aE) isAgg3 sizeOf3 rfl xH fun dL yH=>?_);obtain rfl:=Zj.1 yH;refine Ze (.yes2 rfl rfl g8) rfl (Gb (g:=aE) 3065 (xs:=([(x1).Hook]:List Int)) (vs:=[Iz ((x1).Hook)]) underlying24 sizeOf3 zeroValue3 rfl rfl (.cons rfl .nil) (RVs.cons (Zj.2 rfl) RVs.nil) rfl rfl fun zH eL aI hs o213 bI hxt hfl=>?_);have hfr:=hfr.stp hs;have l5:=l5.stp hs;have o0:=o0.stp hs;obtain ⟨cC,vF,h⟩:=Z3 h;refine Ze (.yes2 rfl rfl g8) rfl (Zp (g:=zH) (vs:=[Iz (0),Iz ((w64 ((((x0).FaultLoom).Design).Hooks - (1:Int)))),aI]) en51 (.cons rfl (.cons rfl (.cons rfl .nil))) (wk51 bI vF) fun bE vJ gL hs hr=>?_);have hfr:=hfr.ext hs;have l5:=l5.ext hs;have o0:=o0.ext hs;subst hr;refine Zz (.bool (cC)) (Zl (b:=zB) rfl (Te g8 rfl)) rfl (Zn (.bool (cC)) rfl rfl ?_);rcases Zt h with ⟨i6,h⟩ | ⟨i6,h⟩
      ·refine Z0 (Ga p1 0) (Zc Uk bD (PT.ptr l5)) rfl rfl i6 rfl ?_
       have dF:=Zm (Qp).1 l5;refine Z0 (Ga (Ga p1 0) 0) (Zc Kj rfl (PT.ptr dF)) rfl rfl i6 rfl ?_;have eF:=Zm (Tn).1 dF;refine Z0 (Ga (Ga (Ga p1 0) 0) 1) (Zc Kw rfl (PT.ptr eF)) rfl rfl i6 rfl ?_;have dI:=Zm (Tm).1 eF;refine Ze (.yes2 rfl rfl i6) rfl (Z9 (g:=bE) isAgg24 sizeOf24 rfl dI fun iL iI=>(Z0 (Iz (((((x0).FaultLoom).Harness).Warps).length:Int)) (Tr underlying24 rfl iI) rfl rfl i6 rfl (Z0 (Iz ((w64 ((((((x0).FaultLoom).Harness).Warps).length:Int) - (1:Int))))) (Gx rfl rfl rfl) rfl rfl i6 rfl (Z0 (Ga p2 3) (Zc Dc yB (PT.ptr o0)) rfl rfl i6 rfl ?_))));have jI:=Zm (Ws).1 o0;refine Ze (.yes2 rfl rfl i6) rfl (Z9 (g:=bE) isAgg3 sizeOf3 rfl jI fun jL kI=>?_);obtain rfl:=Zj.1 kI;refine Ze (.yes2 rfl rfl i6) rfl (Gb (g:=bE) 3077 (xs:=([(x1).Warp]:List Int)) (vs:=[Iz ((x1).Warp)]) underlying24 sizeOf3 zeroValue3 rfl rfl (.cons rfl .nil) (RVs.cons (Zj.2 rfl) RVs.nil) rfl rfl fun lI lL mI hs o223 nI hxt hfl=>?_);have hfr:=hfr.stp hs;obtain ⟨lD,xF,h⟩:=Z3 h;refine Ze (.yes2 rfl rfl i6) rfl (Zp (g:=lI) (vs:=[Iz (0),Iz ((w64 ((((((x0).FaultLoom).Harness).Warps).length:Int) - (1:Int)))),mI]) en51 (.cons rfl (.cons rfl (.cons rfl .nil))) (wk51 nI xF) fun pI xJ mL hs hr=>?_);have hfr:=hfr.ext hs;subst hr;refine Zz (.bool (lD)) (Zl (b:=cC) rfl (Te i6 rfl)) rfl (Zg (.bool (lD)) rfl rfl (Zb ?_));obtain rfl:=sinj h;exact hQ _ _ ⟨pI,hfr,rfl⟩
      ·refine Z1 rfl rfl i6 rfl rfl ?_
       iterate 9 refine Z1 rfl rfl i6 rfl rfl ?_
       refine Zz (.bool false) (Zl (b:=cC) rfl (Td i6 rfl)) rfl (Zg (.bool false) rfl rfl (Zb ?_));obtain rfl:=sinj h;exact hQ _ _ ⟨bE,hfr,rfl⟩
     ·refine Z1 rfl rfl g8 rfl rfl ?_
      iterate 8 refine Z1 rfl rfl g8 rfl rfl ?_
      refine Zz (.bool false) (Zl (b:=zB) rfl (Td g8 rfl)) rfl (Qs 12 rfl (Zg (.bool false) rfl rfl (Zb ?_)));obtain rfl:=sinj h;exact hQ _ _ ⟨aE,hfr,rfl⟩
    ·refine Z1 rfl rfl t5 rfl rfl ?_
     iterate 9 refine Z1 rfl rfl t5 rfl rfl ?_
     refine Zz (.bool false) (Zl (b:=(decide (x1=n8))) rfl (Td t5 rfl)) rfl (Qs 23 rfl (Zg (.bool false) rfl rfl (Zb ?_)));obtain rfl:=sinj h;exact hQ _ _ ⟨oB,hfr,rfl⟩
   ·refine Z1 rfl rfl v8 rfl rfl (Z1 rfl rfl v8 rfl rfl (Z1 rfl rfl v8 rfl rfl (Zz (.bool false) (Zl (b := aB) rfl (Td v8 rfl)) rfl (Qs 35 rfl (Zg (.bool false) rfl rfl (Zb ?_))))))
    obtain rfl:=sinj h;exact hQ _ _ ⟨oB,hfr,rfl⟩
  ·clear hx
   obtain ⟨nL,hfr,rF⟩:=hR;refine Gd ?_;obtain rfl:=sinj h;exact Ta rfl rfl (show _=.bool (vB) from rF) ⟨_,hfr,rfl⟩
def f106 (x0:Str) (x1:I32→Option Bool):Option (Bool):=
 (f136 x0 x1).bind fun y2=>
 some ((decide (y2 ≥ (0:Int))))
theorem en106:Enters prog 106:=enters_of func106 (by kernel_rfl) rfl
theorem wk106 {gI:Gh} {wI:World} {x0:Str} {x1:I32→Option Bool} {up1:Value} (rp1:Jf prog x1 up1 gI wI) {r:Bool} (h:f106 x0 x1=some r):Fn prog 106 #[Str.v (x0),up1] gI wI (fun _ _ v=>v=.bool (r)):=by
 unfold f106 at h;refine fnE func106 rfl rfl fun g0 hm hfr=>?_;obtain ⟨ff1,fa1,fc1,rfl,fen1,fcl1⟩:=rp1;show E _ 9 none _ _ _ _ _;refine Z7 (Zg (.bool false) rfl rfl (Z4 (Z7 (Zn (Str.v (x0)) rfl rfl (Zn ((.func (.func ff1) fa1 fc1)) rfl rfl ?_)))));obtain ⟨y2,hy2,h⟩:=Z3 h;refine Z6 rfl (Zp (g:=g0) (vs:=[Str.v (x0),(.func (.func ff1) fa1 fc1)]) en136 (.cons rfl (.cons rfl .nil)) (wk136 (Jf.ch ⟨_,_,_,rfl,fen1,fcl1⟩ hfr.ch) hy2) fun g1 w1_ v1 hs hr=>?_);have hfr:=hfr.ext hs;subst hr;refine Gf (.bool ((decide (y2 ≥ (0:Int))))) rfl rfl rfl rfl (Zg (.bool ((decide (y2 ≥ (0:Int))))) rfl rfl (Z4 (Gd ?_)));obtain rfl:=sinj h;exact Ta rfl rfl (rq (.bool ((decide (y2 ≥ (0:Int)))))) ⟨_,hfr,rfl⟩
def f109 (z0:List UInt8) (σ:Type) (cons:Ue σ (Vector UInt8 8)) (s0:σ):Option σ:=
 (f110 z0 ((8:Int))).bind fun y4=>
 (y4 (Nat × σ) (Rf fun aB lB=>
  (Fm 8 lB).bind fun mB=>
  (cons aB mB).bind fun (v8,l9)=>
  bif (!v8) then
   some (false,((1:Nat),(l9)))
  else
   some (true,((0:Nat),(l9)))
  ) (0,(s0))).bind fun (g8,l8)=>
 bif Nat.beq g8 0 then
  some l8
 else
  some l8
theorem en109:Enters prog 109:=enters_of func109 (by kernel_rfl) rfl
theorem wk109 {σ:Type} {cons:Ue σ (Vector UInt8 8)} {s0 r:σ} {gI:Gh} {wI:World} {z0:List UInt8} {pf0:Value} (qf0:PT gI.m wI z0 pf0) (h:f109 z0 σ cons s0=some r):R1 prog (RA1 (α:=(Vector UInt8 8))) 109 #[] #[pf0] gI wI cons s0 r:=by
 unfold f109 at h;refine Aa func109 rfl (Nat.le_of_ble_eq_true rfl) fun l B J g0 hm hAb hRo hfr=>?_;have hmk:MkF g0 wI []:=MkF.start;have qf0:PT g0.m wI z0 pf0:=hm ▸ qf0;show E _ 13 none _ _ (J4 #[.func (.yield l) #[] #[],pf0]) _ _;refine Z7 (Z6 rfl (Tq (g:=g0) (a:=(⟨(.func (.yield l) #[] #[]),rfl⟩:Fv)) rfl (Yr.2 rfl) fun g1 w1 p1 hs q1=>?_));have hfr:=hfr.ext_ hAb hs;have hmk:=hmk.ext hs;have qf0:=qf0.ext hs;refine Z4 (Z7 (Z6 rfl (Z9 (g:=g1) isAgg50 sizeOf50 rfl qf0 fun v2 r2=>?_)));obtain ⟨y4,cD,h⟩:=Z3 h;refine Z6 rfl (Zp (g:=g1) (vs:=[v2,Iz (8)]) en110 (.cons rfl (.cons rfl .nil)) (wk110 r2 cD) fun g3 w3_ v3 hs hr=>?_);have hfr:=hfr.ext_ hAb hs;have hmk:=hmk.ext hs;have q1:=q1.ext hs;have r3:=hr;refine Z4 (Zr ?_);have hB0:=hfr.hB;have hmk0:=hmk;obtain ⟨⟨g8,l8⟩,hφ,h⟩:=Z3 h;refine Yu (σ:=(Nat × σ)) (s0:=(0,(s0))) 10 rfl (fun s=>s.1) [.ret] (fun (s:Nat × σ) (g:Gh) (w:World)=>FrY gI wI B J (s.2) g w∧MkF g w []∧PT g.m w (⟨(.func (.yield l) #[] #[]),rfl⟩:Fv) p1∧ItV prog (RA1 (α:=(List UInt8))) y4 v3 g.m w) rfl r3 hφ (fun _ _ _ h=>(Uh h).1) rfl Lk rfl (fun _ _ _ _ _ hx hR=>by obtain ⟨hfr,hmk,z2,z3⟩:=hR; exact ⟨hfr.ist_ hAb hx hB0,hmk.ist hx,z2.ist hx,z3.ist hx⟩) (fun _ _ _ _ _ hx hR=>by obtain ⟨hfr,hmk,z2,z3⟩:=hR; exact ⟨hfr.stp_ hAb hx rfl,hmk.stp hx,z2.stp hx,z3.stp hx⟩) ⟨hfr,hmk,q1,r3⟩ (fun _ h=>by cases h) ?_ ?_
 ·intro oE bE s x b s2 yB lD vs hsz h hR hrec_0 nB hrd
  obtain ⟨hs0,h⟩:=Uh h;obtain ⟨st,aB⟩:=s;obtain ⟨hfr,hmk,o0,l5⟩:=hR;obtain ⟨lB,hxe⟩:∃ y,y=x:=⟨x,rfl⟩;subst hxe;obtain ⟨n8,rfl,i6⟩:=Mc hrd;have t5:=RFr.refl yB lD;refine Za (Zg n8 rfl rfl (Z4 ?_));obtain ⟨nD,hbr,hs,hrN⟩:=Yz hrec_0 nB;refine ⟨nD,hbr,?_⟩;have hfr:=hfr.stp_ hAb hs rfl;have hmk:=hmk.stp hs;have t5:=t5.stp hs;have o0:=o0.stp hs;have l5:=l5.stp hs;have i6:=i6.stp hs;have hrec_0:=hrN;clear hbr hs hrN;refine Zr (Zf (Zs (α:=Fv) (x:=.tmp 2) isAgg196 sizeOf196 o0 fun zB cC uC=>?_));have e26:zB=(.func (.yield l) #[] #[]):=Yr.1 cC;clear cC;subst zB;obtain ⟨mB,oB,h⟩:=Z3 h;have oD:=Lh i6 oB;refine Zs (x:=.tmp 9) isAgg80 sizeOf80 oD fun yD vB vC=>(Tz (g:=yB) (n:=4) [] [0,1,2,3] rfl mixed (by kernel_rfl) trivial (Tv (c:=(.func (.yield l) #[] #[])) rfl rfl .plain (fun _ _ h=>h.ch) uC rfl (Z2 n8 rfl rfl (Zk rfl) (Z2 ((Io n8)) rfl rfl (Mf underlying80 rfl i6 oB) (Tv (c:=yD) rfl rfl .plain (fun _ _ h=>h.ch) vC rfl (Ho fun zD rE hs=>?_))))));have hfr:=hfr.ext_ hAb hs;have hmk:=hmk.ext hs;have t5:=t5.ext hs;have hrec_0:=hrec_0.ext hs;have o0:=o0.ext hs;have l5:=l5.ext hs;have vB:=vB.ext hs;clear hs;obtain ⟨aE,bD,h⟩:=Z3 h;obtain ⟨v8,l9⟩:=aE;refine Z6 rfl (Fa (g:=zD) (x:=mB) rfl (.cons rfl .nil) hRo hfr bD ⟨_,rfl,vB⟩ fun uE vE hs hfrY=>?_);have hmk:=hmk.stp hs;have t5:=t5.stp hs;have hrec_0:=hrec_0.stp hs rfl;have o0:=o0.stp hs;have l5:=l5.stp hs;have hfr:=hfrY;clear hfrY;refine Zz (.bool (!v8)) (Wq rfl) rfl (Z4 ?_);rcases Zt h with ⟨n9,h⟩ | ⟨n9,h⟩
  ·refine G5 n9 rfl (Gd (Tg ?_))
   obtain ⟨rfl,rfl⟩:=Kr h;exact ⟨_,t5,⟨hfr,hmk,o0,l5⟩,hrec_0,rfl,0,rfl,rfl⟩
  ·refine G8 n9 rfl (Zu (Tc ?_))
   obtain ⟨rfl,rfl⟩:=Kr h;exact ⟨_,t5,⟨hfr,hmk,o0,l5⟩,hrec_0,rfl,rfl⟩
 ·intro xE yE ds44 hsz hR hds
  obtain ⟨hfr,hmk,iE,lE⟩:=hR;obtain ⟨D,hdse,hD,hDb⟩:=hds.1 rfl;subst hdse;replace hmk:=MkF.push hmk0 hmk hD hDb;clear hD hDb hds;revert hmk;generalize ({ target:=.collected D,args:=#[] } :: []:List Deferred)=mE;intro hmk;refine ⟨fun hs=>?_,fun k c hs hc=>?_⟩
  ·have hs : g8 = 0 := hs
   subst hs;replace h:=Ag h rfl;refine Tc (S8 (.inl rfl) hmk fun zE cF hs=>?_);have hfr:=hfr.stp_ hAb hs rfl;obtain rfl:=sinj h;exact H9 rfl rfl (FrY.done hfr)
  ·have hs : g8 = k + 1 := hs
   match k,hs,hc with
   | 0,hs,hc=>
    subst hs;obtain rfl:=sinj hc;replace h:=P2 h rfl;refine Gd (Tg (S8 (.inr rfl) hmk fun dF eF hs=>?_));have hfr:=hfr.stp_ hAb hs rfl;obtain rfl:=sinj h;exact end0 rfl rfl (FrY.done hfr)
   | n + 1,_,hc=>exact absurd hc (by simp)
def f122 (x0:Int) (x1:Int):Option (Int):=
 (f144 ((⟨(Qa x1)⟩:U64))).bind fun y2=>
 (W8 ((y2).n) (Qa (((64:Int)) - ((Qa x0))))).bind fun y3=>
 some ((w64 y3))
theorem en122:Enters prog 122:=enters_of func122 (by kernel_rfl) rfl
theorem wk122 {gI:Gh} {wI:World} {x0:Int} {x1:Int}  {r:Int} (h:f122 x0 x1=some r):Fn prog 122 #[Iz (x0),Iz (x1)] gI wI (fun _ _ v=>v=Iz (r)):=by
 unfold f122 at h;refine fnE func122 rfl rfl fun g0 hm hfr=>?_;show E _ 13 none _ _ _ _ _;refine Z7 (Zg (Iz (0)) rfl rfl (Z4 (Z7 (Zn (Iz (x1)) rfl rfl (Zz (.int .u64 (Qa x1)) (Yb underlying3 underlying211 rfl) rfl ?_)))));obtain ⟨y2,hy2,h⟩:=Z3 h;refine Z6 rfl (Zp (g:=g0) (vs:=[.int .u64 (Qa x1)]) en144 (.cons rfl .nil) (wk144  hy2) fun g1 w1_ v1 hs hr=>?_);have hfr:=hfr.ext hs;subst hr;refine Zn (Iz (x0)) rfl rfl (Zz (.int .u64 (Qa x0)) (Yb underlying158 underlying49 rfl) rfl (Zz (.int .u64 (Qa (((64:Int)) - ((Qa x0))))) (P_usub rfl rfl) rfl ?_));obtain ⟨y3,hy3,h⟩:=Z3 h;refine Zz (.int .u64 (y3)) (J1 rfl rfl hy3) rfl (Zz (Iz ((w64 y3))) (F8 underlying211 underlying3 rfl) rfl (Zg (Iz ((w64 y3))) rfl rfl (Z4 (Gd ?_))));obtain rfl:=sinj h;exact Ta rfl rfl (rq (Iz ((w64 y3)))) ⟨_,hfr,rfl⟩
def f133 (x0:Z8) (z0:Int):Option (Bool):=
 Option.bind (α:=Bool) (
  (f80 ((-1:Int)) ((59:Int)) (([(x0).Number]:List Int))).bind fun t5=>
  bif (!t5) then
   some (true)
  else
   (f134 z0 (([(x0).Row]:List Int))).bind fun i6=>
   some ((!i6))
  ) fun l5=>
 some (l5)
theorem en133:Enters prog 133:=enters_of func133 (by kernel_rfl) rfl
theorem wk133 {gI:Gh} {wI:World} {x0:Z8} {z0:Int} {up0:Value} (rp0:RV gI.m wI x0 up0) {pf0:Value} (qf0:PT gI.m wI z0 pf0) {r:Bool} (h:f133 x0 z0=some r):Fn prog 133 #[up0,pf0] gI wI (fun _ _ v=>v=.bool (r)):=by
 unfold f133 at h;refine fnE func133 rfl rfl fun g0 hm hfr=>?_;have qf0:PT g0.m wI z0 pf0:=hm ▸ qf0;have rp0:=RVc hm rp0;show E _ 17 none _ _ _ _ _;refine Z7 (Z6 rfl (Tq (g:=g0) rfl rp0 fun g1 w1 p1 hs q1=>?_));have hfr:=hfr.ext hs;have qf0:=qf0.ext hs;refine Zg (.bool false) rfl rfl (Z4 ?_);obtain ⟨l5,hx,h⟩:=Z3 h;refine Gs (fun e w=>∃ (g:Gh) ,Fr gI wI g w∧e 3=.bool (l5)) (fun Q' hQ=>?_) (fun vC lD hR=>?_)
 ·replace h := hx
  clear hx;refine Za (Zz (Ga p1 0) (Zc Fx rfl (PT.ptr q1)) rfl ?_);have l9:=Zm (Jj).1 q1;refine Z6 rfl (Z9 (g:=g1) isAgg3 sizeOf3 rfl l9 fun nD n9=>?_);obtain rfl:=Zj.1 n9;refine Z6 rfl (Gb (g:=g1) 3006 (xs:=([(x0).Number]:List Int)) (vs:=[Iz ((x0).Number)]) underlying24 sizeOf3 zeroValue3 rfl rfl (.cons rfl .nil) (RVs.cons (Zj.2 rfl) RVs.nil) rfl rfl fun aB oD lB hs o16 mB hxt hfl=>?_);have hfr:=hfr.stp hs;have qf0:=qf0.stp hs;have q1:=q1.stp hs;obtain ⟨t5,n8,h⟩:=Z3 h;refine Z6 rfl (Zp (g:=aB) (vs:=[Iz (-1),Iz (59),lB]) en80 (.cons rfl (.cons rfl (.cons rfl .nil))) (wk80 mB n8) fun g8 bD yD hs hr=>?_);have hfr:=hfr.ext hs;have qf0:=qf0.ext hs;have q1:=q1.ext hs;subst hr;refine Zz (.bool (!t5)) (Wq rfl) rfl (Zn (.bool (!t5)) rfl rfl ?_);rcases Zt h with ⟨o0,h⟩ | ⟨o0,h⟩
  ·refine Z1 rfl rfl o0 rfl rfl ?_
   iterate 5 refine Z1 rfl rfl o0 rfl rfl ?_
   refine Zz (.bool true) (Zl (b:=(!t5)) rfl (Te o0 rfl)) rfl (Zg (.bool true) rfl rfl (Zb ?_));obtain rfl:=sinj h;exact hQ _ _ ⟨g8,hfr,rfl⟩
  ·refine Ze (.yes2 rfl rfl o0) rfl (Z9 (g := g8) isAgg158 sizeOf158 rfl qf0 fun zD nB => ?_)
   obtain rfl:=Zj.1 nB;refine Z0 (Ga p1 1) (Zc Vy rfl (PT.ptr q1)) rfl rfl o0 rfl ?_;have oB:=Zm (Kq).1 q1;refine Ze (.yes2 rfl rfl o0) rfl (Z9 (g:=g8) isAgg3 sizeOf3 rfl oB fun aE vB=>?_);obtain rfl:=Zj.1 vB;refine Ze (.yes2 rfl rfl o0) rfl (Gb (g:=g8) 3013 (xs:=([(x0).Row]:List Int)) (vs:=[Iz ((x0).Row)]) underlying24 sizeOf3 zeroValue3 rfl rfl (.cons rfl .nil) (RVs.cons (Zj.2 rfl) RVs.nil) rfl rfl fun yB bE zB hs o23 cC hxt hfl=>?_);have hfr:=hfr.stp hs;obtain ⟨i6,v8,h⟩:=Z3 h;refine Ze (.yes2 rfl rfl o0) rfl (Zp (g:=yB) (vs:=[Iz (z0),zB]) en134 (.cons rfl (.cons rfl .nil)) (wk134 cC v8) fun uC cD iE hs hr=>?_);have hfr:=hfr.ext hs;subst hr;refine Z0 (.bool (!i6)) (Wq rfl) rfl rfl o0 rfl (Zz (.bool (!i6)) (Zl (b:=(!t5)) rfl (Td o0 rfl)) rfl (Zg (.bool (!i6)) rfl rfl (Zb ?_)));obtain rfl:=sinj h;exact hQ _ _ ⟨uC,hfr,rfl⟩
 ·clear hx
  obtain ⟨lE,hfr,l8⟩:=hR;refine Gd ?_;obtain rfl:=sinj h;exact Ta rfl rfl (show _=.bool (l5) from l8) ⟨_,hfr,rfl⟩
def f16 (x0:Z5):Option (Bool):=
 Option.bind (α:=Bool) (
  (f30 ((0:Int)) ((65535:Int)) (([(x0).Day]:List Int))).bind fun n8=>
  bif n8 then
   (f30 ((0:Int)) ((15:Int)) (([(x0).Loom]:List Int))).bind fun g8=>
   bif g8 then
    (f30 ((0:Int)) ((7:Int)) (([(x0).Chain,(x0).Tie]:List Int))).bind fun l8=>
    bif l8 then
     (f30 ((1:Int)) ((60:Int)) (([(x0).Picks]:List Int))).bind fun v8=>
     some (v8)
    else
     some (false)
   else
    some (false)
  else
   some (false)
  ) fun i6=>
 some (i6)
theorem en16:Enters prog 16:=enters_of func16 (by kernel_rfl) rfl
theorem wk16 {gI:Gh} {wI:World} {x0:Z5} {up0:Value} (rp0:RV gI.m wI x0 up0) {r:Bool} (h:f16 x0=some r):Fn prog 16 #[up0] gI wI (fun _ _ v=>v=.bool (r)):=by
 unfold f16 at h;refine fnE func16 rfl rfl fun g0 hm hfr=>?_;have rp0:=RVc hm rp0;show E _ 27 none _ _ _ _ _;refine Z7 (Z6 rfl (Tq (g:=g0) rfl rp0 fun g1 w1 p1 hs q1=>?_));have hfr:=hfr.ext hs;refine Zg (.bool false) rfl rfl (Z4 ?_);obtain ⟨i6,hx,h⟩:=Z3 h;refine Gs (fun e w=>∃ (g:Gh) ,Fr gI wI g w∧e 2=.bool (i6)) (fun Q' hQ=>?_) (fun zE sF hR=>?_)
 ·replace h := hx
  clear hx;refine Za (Zz (Ga p1 0) (Zc Ys rfl (PT.ptr q1)) rfl ?_);have yB:=Zm (Q4).1 q1;refine Z6 rfl (Z9 (g:=g1) isAgg3 sizeOf3 rfl yB fun tF zB=>?_);obtain rfl:=Zj.1 zB;refine Z6 rfl (Gb (g:=g1) 3005 (xs:=([(x0).Day]:List Int)) (vs:=[Iz ((x0).Day)]) underlying24 sizeOf3 zeroValue3 rfl rfl (.cons rfl .nil) (RVs.cons (Zj.2 rfl) RVs.nil) rfl rfl fun cC w29 uC hs o29 vC hxt hfl=>?_);have hfr:=hfr.stp hs;have q1:=q1.stp hs;obtain ⟨n8,mB,h⟩:=Z3 h;refine Z6 rfl (Zp (g:=cC) (vs:=[Iz (0),Iz (65535),uC]) en30 (.cons rfl (.cons rfl (.cons rfl .nil))) (wk30 vC mB) fun n9 cF uF hs hr=>?_);have hfr:=hfr.ext hs;have q1:=q1.ext hs;subst hr;refine Zn (.bool (n8)) rfl rfl ?_;rcases Zt h with ⟨l5,h⟩ | ⟨l5,h⟩
  ·refine Z0 (Ga p1 1) (Zc J6 rfl (PT.ptr q1)) rfl rfl l5 rfl ?_
   have bD:=Zm (Qv).1 q1;refine Ze (.yes2 rfl rfl l5) rfl (Z9 (g:=n9) isAgg3 sizeOf3 rfl bD fun vF cD=>?_);obtain rfl:=Zj.1 cD;refine Ze (.yes2 rfl rfl l5) rfl (Gb (g:=n9) 3010 (xs:=([(x0).Loom]:List Int)) (vs:=[Iz ((x0).Loom)]) underlying24 sizeOf3 zeroValue3 rfl rfl (.cons rfl .nil) (RVs.cons (Zj.2 rfl) RVs.nil) rfl rfl fun lD xF nD hs o35 oD hxt hfl=>?_);have hfr:=hfr.stp hs;have q1:=q1.stp hs;obtain ⟨g8,nB,h⟩:=Z3 h;refine Ze (.yes2 rfl rfl l5) rfl (Zp (g:=lD) (vs:=[Iz (0),Iz (15),nD]) en30 (.cons rfl (.cons rfl (.cons rfl .nil))) (wk30 oD nB) fun l9 dF yF hs hr=>?_);have hfr:=hfr.ext hs;have q1:=q1.ext hs;subst hr;refine Zz (.bool (g8)) (Zl (b:=n8) rfl (Te l5 rfl)) rfl (Zn (.bool (g8)) rfl rfl ?_);rcases Zt h with ⟨o0,h⟩ | ⟨o0,h⟩
   ·refine Z0 (Ga p1 2) (Zc Vz rfl (PT.ptr q1)) rfl rfl o0 rfl ?_
    have yD:=Zm (Wr).1 q1;refine Ze (.yes2 rfl rfl o0) rfl (Z9 (g:=l9) isAgg3 sizeOf3 rfl yD fun aG zD=>?_);obtain rfl:=Zj.1 zD;refine Z0 (Ga p1 3) (Zc Se rfl (PT.ptr q1)) rfl rfl o0 rfl ?_;have aE:=Zm (Hm).1 q1;refine Ze (.yes2 rfl rfl o0) rfl (Z9 (g:=l9) isAgg3 sizeOf3 rfl aE fun bG bE=>?_);obtain rfl:=Zj.1 bE;refine Ze (.yes2 rfl rfl o0) rfl (Gb (g:=l9) 3018 (xs:=([(x0).Chain,(x0).Tie]:List Int)) (vs:=[Iz ((x0).Chain),Iz ((x0).Tie)]) underlying24 sizeOf3 zeroValue3 rfl rfl (.cons rfl (.cons rfl .nil)) (RVs.cons (Zj.2 rfl) (RVs.cons (Zj.2 rfl) RVs.nil)) rfl rfl fun iE cG lE hs o43 mE hxt hfl=>?_);have hfr:=hfr.stp hs;have q1:=q1.stp hs;obtain ⟨l8,oB,h⟩:=Z3 h;refine Ze (.yes2 rfl rfl o0) rfl (Zp (g:=iE) (vs:=[Iz (0),Iz (7),lE]) en30 (.cons rfl (.cons rfl (.cons rfl .nil))) (wk30 mE oB) fun aB eF eG hs hr=>?_);have hfr:=hfr.ext hs;have q1:=q1.ext hs;subst hr;refine Zz (.bool (l8)) (Zl (b:=g8) rfl (Te o0 rfl)) rfl (Zn (.bool (l8)) rfl rfl ?_);rcases Zt h with ⟨t5,h⟩ | ⟨t5,h⟩
    ·refine Z0 (Ga p1 4) (Zc Fw rfl (PT.ptr q1)) rfl rfl t5 rfl ?_
     have oE:=Zm (Jk).1 q1;refine Ze (.yes2 rfl rfl t5) rfl (Z9 (g:=aB) isAgg3 sizeOf3 rfl oE fun gG rE=>?_);obtain rfl:=Zj.1 rE;refine Ze (.yes2 rfl rfl t5) rfl (Gb (g:=aB) 3024 (xs:=([(x0).Picks]:List Int)) (vs:=[Iz ((x0).Picks)]) underlying24 sizeOf3 zeroValue3 rfl rfl (.cons rfl .nil) (RVs.cons (Zj.2 rfl) RVs.nil) rfl rfl fun uE iG vE hs o49 xE hxt hfl=>?_);have hfr:=hfr.stp hs;obtain ⟨v8,vB,h⟩:=Z3 h;refine Ze (.yes2 rfl rfl t5) rfl (Zp (g:=uE) (vs:=[Iz (1),Iz (60),vE]) en30 (.cons rfl (.cons rfl (.cons rfl .nil))) (wk30 xE vB) fun yE rF jG hs hr=>?_);have hfr:=hfr.ext hs;subst hr;refine Zz (.bool (v8)) (Zl (b:=l8) rfl (Te t5 rfl)) rfl (Zg (.bool (v8)) rfl rfl (Zb ?_));obtain rfl:=sinj h;exact hQ _ _ ⟨yE,hfr,rfl⟩
    ·refine Z1 rfl rfl t5 rfl rfl ?_
     iterate 3 refine Z1 rfl rfl t5 rfl rfl ?_
     refine Zz (.bool false) (Zl (b:=l8) rfl (Td t5 rfl)) rfl (Zg (.bool false) rfl rfl (Zb ?_));obtain rfl:=sinj h;exact hQ _ _ ⟨aB,hfr,rfl⟩
   ·refine Z1 rfl rfl o0 rfl rfl ?_
    iterate 5 refine Z1 rfl rfl o0 rfl rfl ?_
    refine Zz (.bool false) (Zl (b:=g8) rfl (Td o0 rfl)) rfl (Qs 6 rfl (Zg (.bool false) rfl rfl (Zb ?_)));obtain rfl:=sinj h;exact hQ _ _ ⟨l9,hfr,rfl⟩
  ·refine Z1 rfl rfl l5 rfl rfl ?_
   iterate 3 refine Z1 rfl rfl l5 rfl rfl ?_
   refine Zz (.bool false) (Zl (b:=n8) rfl (Td l5 rfl)) rfl (Qs 14 rfl (Zg (.bool false) rfl rfl (Zb ?_)));obtain rfl:=sinj h;exact hQ _ _ ⟨n9,hfr,rfl⟩
 ·clear hx
  obtain ⟨kG,hfr,lB⟩:=hR;refine Gd ?_;obtain rfl:=sinj h;exact Ta rfl rfl (show _=.bool (i6) from lB) ⟨_,hfr,rfl⟩
theorem v53_0 {iO:Nat} {gI:Gh} {wI:World} {x0:List Zv} {up0:Value} (rp0:RV gI.m wI x0 up0) {r:List Zv} (h:f53 x0=some r):FnG prog 53 #[up0] gI wI (fun g w v=>OM iO g w 34 r v):=by
 unfold f53 at h;refine Uf func53 rfl (Nat.le_of_ble_eq_true rfl) fun g0 hm hfr=>?_;have rp0:=RVc hm rp0;show E _ 8 none _ _ _ _ _;refine Z7 (Zg (.slice none 0 0) rfl rfl (Z4 (Zf (Z7 (Zn up0 rfl rfl ?_)))));obtain ⟨a,c,hv,hc,hrow⟩:=Qn rp0;refine Zz (.bool a.isNone) (C5 underlying65 (show ev _ _=_ from hv)) rfl (Z4 ?_)
 cases a with
 | none=>
  have hx:x0=[]:=by
   cases x0 with
   | nil=>rfl
   | cons y ys=>obtain ⟨b,off,hb,_⟩:=hrow (by simp); cases hb
  subst hx
  have hr:r=[]:=by unfold apnd at h; split at h <;> simp at h; exact h
  subst hr;refine Tj rfl (Z7 (Zg (.slice none 0 0) rfl rfl (Z4 ?_)));obtain ⟨gh,hxh,homh⟩:=OM.handn (i:=iO) (t:=34) (α:=Zv) hfr; exact Gd (Gq (Ta rfl rfl (rq (.slice none 0 0)) ⟨gh,hxh,homh⟩))
 | some a=>
  refine Gz rfl (Zu (Zd (Z7 (Z6 rfl (Gb (g:=g0) 1 (xs:=([]:List Zv)) (vs:=[]) underlying65 sizeOf34 zeroValue34 rfl rfl .nil RVs.nil rfl rfl fun g1 w1 v1 hs o1 r1 hxt hfl=>?_)))));have hfr:=hfr.stp hs;have rp0:=rp0.stp hs;refine Zn up0 rfl rfl (Z6 rfl (Ql (g:=g1) (i:=1) underlying65 I8 rfl rfl o1 r1 rfl rp0 h fun g2 w2 v2 hs o2 r2 _=>?_));have hfr:=hfr.stp hs;refine Zg v2 rfl rfl (Z4 ?_);obtain ⟨gh,hxh,homh⟩:=OM.hand (i:=iO) D0 hfr o2 r2; exact Gd (Ta rfl rfl (rq v2) ⟨gh,hxh,homh⟩)
def f34 (x0:Gn):Option (Bool):=
 (f35 ((x0).Harness)).bind fun y5=>
 some ((y5 != (0:Int)))
theorem en34:Enters prog 34:=enters_of func34 (by kernel_rfl) rfl
theorem wk34 {gI:Gh} {wI:World} {x0:Gn} {up0:Value} (rp0:RV gI.m wI x0 up0) {r:Bool} (h:f34 x0=some r):Fn prog 34 #[up0] gI wI (fun _ _ v=>v=.bool (r)):=by
 unfold f34 at h;refine fnE func34 rfl rfl fun g0 hm hfr=>?_;have rp0:=RVc hm rp0;show E _ 7 none _ _ _ _ _;refine Z7 (Z6 rfl (Tq (g:=g0) rfl rp0 fun g1 w1 p1 hs q1=>?_));have hfr:=hfr.ext hs;refine Zg (.bool false) rfl rfl (Z4 (Z7 (Zz (Ga p1 1) (Zc B9 rfl (PT.ptr q1)) rfl ?_)));have q2:=Zm (Ym).1 q1;refine Z6 rfl (Z9 (g:=g1) isAgg26 sizeOf26 rfl q2 fun v3 r3=>?_);obtain ⟨y5,hy5,h⟩:=Z3 h;refine Z6 rfl (Zp (g:=g1) (vs:=[v3]) en35 (.cons rfl .nil) (wk35 r3 hy5) fun g4 w4_ v4 hs hr=>?_);have hfr:=hfr.ext hs;subst hr;refine Gf (.bool ((y5 != (0:Int)))) rfl rfl rfl rfl (Zg (.bool ((y5 != (0:Int)))) rfl rfl (Z4 (Gd ?_)));obtain rfl:=sinj h;exact Ta rfl rfl (rq (.bool ((y5 != (0:Int))))) ⟨_,hfr,rfl⟩
def f49 (x0:TieHarness) (x1:Design):Option ((List Str) × Int):=
 jn (σ:=Unit) (fun _=>
  jn (σ:=Unit) (fun _=>
   Option.bind (α:=(List Str)) (
    lp (σ:=(List Str) × Int) (fun cG (nB,o0)=>
     bif (decide (o0 < (((x1).Rows).length : Int))) then
      Option.bind (α:=(List Str)) (
       (idx ((x1).Rows) o0).bind fun yB=>
       (f85 ((⟨x0⟩:Qo)) yB).bind fun y81=>
       (apnd 16 nB (([y81]:List Str))).bind fun y84=>
       some (y84)
       ) fun l9=>
      cG (l9,(w64 (o0 + (1:Int))))
     else
      some (nB)
     ) big ([],(0:Int))
    ) fun lB=>
   some (lB,(0:Int))
   ) fun eG=>
  (f84 x1).bind fun n8=>
  bif (n8 != (0 : Int)) then
   some ([],n8)
  else
   bif ((x1).Hooks != (x0).Hooks) then
    some ([],(4:Int))
   else
    eG ()
  ) fun k7=>
 (f35 x0).bind fun n9=>
 bif (n9 != (0 : Int)) then
  some ([],n9)
 else
  k7 ()
theorem en49:Enters prog 49:=enters_of func49 (by kernel_rfl) rfl
theorem wk49 {gI:Gh} {wI:World} {x0:TieHarness} {x1:Design} {up0:Value} (rp0:RV gI.m wI x0 up0) {up1:Value} (rp1:RV gI.m wI x1 up1) {r:(List Str) × Int} (h:f49 x0 x1=some r):Fn prog 49 #[up0,up1] gI wI (fun m w v=>∃ y0 y1,v=.tuple #[y0,y1]∧RV m w (r.1) y0∧y1=Iz (r.2)):=by
 unfold f49 at h;refine fnE func49 rfl rfl fun g0 hm hfr=>?_;have rp0:=RVc hm rp0;have rp1:=RVc hm rp1;show E _ 43 none _ _ _ _ _;refine Z7 (Z6 rfl (Tq (g:=g0) rfl rp0 fun g1 w1 p1 hs q1=>?_));have hfr:=hfr.ext hs;have rp1:=rp1.ext hs;refine Z6 rfl (Tq (g:=g1) rfl rp1 fun g2 w2 p2 hs q2=>?_);have hfr:=hfr.ext hs;have q1:=q1.ext hs;refine Zg (.slice none 0 0) rfl rfl (Zg (Iz (0)) rfl rfl (Z4 (Zq h (fun (s:Unit) e w=>∃ (g:Gh) ,Fr gI wI g w∧e 2=p1∧PT g.m w (x0:TieHarness) p1∧e 3=p2∧PT g.m w (x1:Design) p2∧e 4=.slice none 0 0∧RV g.m w ([]:List Str) (Value.slice none 0 0)) (fun X7 k7 hk7 h=>?_) ?_)))
 ·refine Z7 (Z6 rfl (Z9 (g := g2) isAgg26 sizeOf26 rfl q1 fun v8 r8 => ?_))
  obtain ⟨n9,xG,h⟩:=Z3 h;refine Z6 rfl (Zp (g:=g2) (vs:=[v8]) en35 (.cons rfl .nil) (wk35 r8 xG) fun g9 w9_ v9 hs hr=>?_);have hfr:=hfr.ext hs;have q1:=q1.ext hs;have q2:=q2.ext hs;subst hr;refine Zg (Iz (n9)) rfl rfl (Z4 (Z7 (Zn (Iz (n9)) rfl rfl (Gf (.bool ((n9 != (0:Int)))) rfl rfl rfl rfl (Z4 ?_)))));rcases Zt h with ⟨bD,h⟩ | ⟨bD,h⟩
  ·refine G5 bD rfl (Z7 (Zn (Iz (n9)) rfl rfl (Zg (.slice none 0 0) rfl rfl (Zg (Iz (n9)) rfl rfl (Z4 (Gd (Gq ?_)))))))
   obtain rfl:=sinj h;exact Yq rfl rfl (rq (.slice none 0 0)) (rq (Iz (n9))) ⟨_,hfr,_,_,rfl,Qi,rfl⟩
  ·refine G8 bD rfl ?_
   exact Zu (Zd (hk7 () _ _ ⟨g9,hfr,rfl,q1,rfl,q2,rfl,Qi⟩ h))
 ·rintro _ iI qI ⟨gG, hfr, oD, aB, oB, i6, xE, vB⟩ h
  refine Zq h (fun (s:Unit) e w=>∃ (g:Gh) ,Fr gI wI g w∧e 2=p1∧PT g.m w (x0:TieHarness) p1∧e 3=p2∧PT g.m w (x1:Design) p2∧e 4=.slice none 0 0∧RV g.m w ([]:List Str) (Value.slice none 0 0)) (fun X22 eG yG h=>?_) ?_
  ·refine Z7 (Z6 rfl (Z9 (g := gG) isAgg28 sizeOf28 oB i6 fun kH lH => ?_))
   obtain ⟨n8,zG,h⟩:=Z3 h;refine Z6 rfl (Zp (g:=gG) (vs:=[kH]) en84 (.cons rfl .nil) (wk84 lH zG) fun iE jI sI hs hr=>?_);have hfr:=hfr.ext hs;have aB:=aB.ext hs;have i6:=i6.ext hs;have vB:=vB.ext hs;subst hr;refine Zg (Iz (n8)) rfl rfl (Z4 (Zr (Z7 (Zn (Iz (n8)) rfl rfl (Gf (.bool ((n8 != (0:Int)))) rfl rfl rfl rfl (Zg (.bool ((n8 != (0:Int)))) rfl rfl (Z4 ?_)))))));rcases Zt h with ⟨cD,h⟩ | ⟨cD,h⟩
   ·refine G5 cD rfl (Z7 (Zn (Iz (n8)) rfl rfl (Zg (.slice none 0 0) rfl rfl (Zg (Iz (n8)) rfl rfl (Z4 (Gd (Tg (Gq ?_))))))))
    obtain rfl:=sinj h;exact Yq rfl rfl (rq (.slice none 0 0)) (rq (Iz (n8))) ⟨_,hfr,_,_,rfl,Qi,rfl⟩
   ·refine G8 cD rfl (Z7 (Zz (Ga p2 0) (Zc Ki oB (PT.ptr i6)) rfl ?_))
    have mH:=Zm (Qb).1 i6;refine Z6 rfl (Z9 (g:=iE) isAgg3 sizeOf3 rfl mH fun jJ nH=>?_);obtain rfl:=Zj.1 nH;refine Zz (Ga p1 0) (Zc Jt oD (PT.ptr aB)) rfl ?_;have oH:=Zm (Qh).1 aB;refine Z6 rfl (Z9 (g:=iE) isAgg3 sizeOf3 rfl oH fun kJ pH=>?_);obtain rfl:=Zj.1 pH;refine Gf (.bool (((x1).Hooks != (x0).Hooks))) rfl rfl rfl rfl (Zg (.bool (((x1).Hooks != (x0).Hooks))) rfl rfl (Z4 ?_));rcases Zt h with ⟨lD,h⟩ | ⟨lD,h⟩
    ·refine G5 lD rfl (Z7 (Zg (.slice none 0 0) rfl rfl (Zg (Iz (4)) rfl rfl (Z4 (Gd (Tg (Gq ?_)))))))
     obtain rfl:=sinj h;exact Yq rfl rfl (rq (.slice none 0 0)) (rq (Iz (4))) ⟨_,hfr,_,_,rfl,Qi,rfl⟩
    ·refine G8 lD rfl ?_
     exact Zu (Tc (Zd (yG () _ _ ⟨iE,hfr,oD,aB,oB,i6,xE,vB⟩ h)))
  ·rintro _ kI lJ ⟨iG, hfr, yE, zE, cF, yD, dF, eF⟩ h
   obtain ⟨lB,hx,h⟩:=Z3 h;refine Gs (fun e w=>∃ (g:Gh) (v4:Value),Fr gI wI g w∧e 4=v4∧RV g.m w (lB:List Str) v4∧OS 1004 g w 9 (lB:List Str) v4) (fun Q' hQ=>?_) (fun lI mJ hR=>?_)
   ·replace h := hx
    clear hx;refine Z7 (Zz (Ga p2 1) (Zc Kb cF (PT.ptr yD)) rfl ?_);have qH:=Zm (T4).1 yD;refine Z6 rfl (Z9 (g:=iG) isAgg24 sizeOf24 rfl qH fun zB jG=>(Zz (Iz (((x1).Rows).length:Int)) (Tr underlying24 rfl jG) rfl (Zn (Iz (0)) rfl rfl (Z4 (Zr (Wo h (fun (s:(List Str) × Int) e w=>∃ (g:Gh) (v4:Value),Fr gI wI g w∧e 2=p1∧PT g.m w (x0:TieHarness) p1∧e 4=v4∧RV g.m w (s.1:List Str) v4∧OS 1004 g w 9 (s.1:List Str) v4∧e 28=zB∧RV g.m w ((x1).Rows:List Int) zB∧e 29=Iz ((((x1).Rows).length:Int))∧e 30=Iz (s.2)) ⟨iG,(.slice none 0 0),hfr,yE,zE,dF,eF,OS.nil,rfl,jG,rfl,rfl⟩ (fun X61 cG aH=>?_)))))));rintro ⟨nB,o0⟩ mI nJ ⟨cC,rF,hfr,zD,t5,aE,g8,l8,uC,l5,vC,mB⟩ h;refine Z7 (Zz (.bool ((decide (o0 < (((x1).Rows).length:Int))))) (Gx mB vC rfl) rfl (Z4 (Zf ?_)));rcases Zt h with ⟨nD,h⟩ | ⟨nD,h⟩
    ·refine G5 nD rfl (Zu (Zd ?_))
     obtain ⟨l9,hx,h⟩:=Z3 h;refine Gs (fun e w=>∃ (g:Gh) (v4:Value),Fr gI wI g w∧e 2=p1∧PT g.m w (x0:TieHarness) p1∧e 4=v4∧RV g.m w (l9:List Str) v4∧OS 1004 g w 9 (l9:List Str) v4∧e 28=zB∧RV g.m w ((x1).Rows:List Int) zB∧e 29=Iz ((((x1).Rows).length:Int))∧e 30=Iz (o0)) (fun Q' hQ=>?_) (fun nI oJ hR=>?_)
     ·replace h := hx
      clear hx;refine Zr (Z7 ?_);obtain ⟨yB,lE,h⟩:=Z3 h;refine Zz (Tb zB o0 1) (Zh (α:=Int) underlying24 sizeOf3 uC l5 mB lE) rfl ?_;have sH:=Tp l5 lE;refine Z6 rfl (Z9 (g:=cC) isAgg3 sizeOf3 rfl sH fun pJ tH=>?_);obtain rfl:=Zj.1 tH;refine Zg (Iz (yB)) rfl rfl (Z4 (Za (Zo aE rfl (Z6 rfl (Z9 (g:=cC) isAgg26 sizeOf26 zD t5 fun mE kG=>?_)))));have lG:RV cC.m _ (⟨x0⟩:Qo) (.agg (G3 [[Iz 0,.slice none 0 0]] [(0,mE)]).flatten.toArray):=G2 rfl (G6 (RV.cells kG));generalize cH:(Value.agg (G3 [[Iz 0,.slice none 0 0]] [(0,mE)]).flatten.toArray)=mG at lG;refine Zz mG (cH ▸ Tf (vs:=[(0,mE)]) [[Iz 0,.slice none 0 0]] A3 rfl rfl (.cons rfl .nil) ⟨⟨_,rfl,G4 kG⟩,trivial⟩) rfl (Zn (Iz (yB)) rfl rfl ?_);obtain ⟨y81,gH,h⟩:=Z3 h;refine Z6 rfl (Zp (g:=cC) (vs:=[mG,Iz (yB)]) en85 (.cons rfl (.cons rfl .nil)) (wk85 lG gH) fun uH pI qJ hs hr=>?_);have hfr:=hfr.ext hs;have t5:=t5.ext hs;have g8:=g8.ext hs;have l8:=l8.ext hs;have l5:=l5.ext hs;subst hr;refine Z6 rfl (Gb (g:=uH) 3039 (xs:=([y81]:List Str)) (vs:=[Str.v (y81)]) underlying61 sizeOf9 zeroValue9 rfl rfl (.cons rfl .nil) (RVs.cons (Qt.2 rfl) RVs.nil) rfl rfl fun xH rJ sJ hs o82 yH hxt hfl=>?_);have hfr:=hfr.stp hs;have t5:=t5.stp hs;have g8:=g8.stp hs;have l8:=l8.stp hs rfl;have l5:=l5.stp hs;obtain ⟨y84,jH,h⟩:=Z3 h;refine Z6 rfl (Ql (g:=xH) (i:=1004) underlying61 Xf rfl rfl l8 g8 rfl yH jH fun zH vJ sG hs o83 aI _=>?_);have hfr:=hfr.stp hs;have t5:=t5.stp hs;have l5:=l5.stp hs;refine Zg sG rfl rfl (Zb (Tc ?_));obtain rfl:=sinj h;exact hQ _ _ ⟨zH,(sG),hfr,zD,t5,rfl,aI,o83,uC,l5,vC,mB⟩
     ·clear hx
      obtain ⟨bI,sF,hfr,tF,uF,vF,xF,yF,oE,rE,uE,vE⟩:=hR;refine Za (Gf (Iz ((w64 (o0 + (1:Int))))) vE rfl rfl rfl (Zn (Iz ((w64 (o0 + (1:Int))))) rfl rfl ?_));exact Z4 (aH (l9,(w64 (o0 + (1:Int)))) _ _ ⟨bI,(sF),hfr,tF,uF,vF,xF,yF,oE,rE,uE,rfl⟩ h)
    ·refine G8 nD rfl (Tu (Gy (Gy (G9 ?_))))
     obtain rfl:=sinj h;exact hQ _ _ ⟨cC,(rF),hfr,aE,g8,l8⟩
   ·clear hx
    obtain ⟨xJ,bE,hfr,aG,bG,dI⟩:=hR;refine Z7 (Zo aG rfl (Zg bE rfl rfl (Zg (Iz (0)) rfl rfl (Z4 (Gd ?_)))));obtain rfl:=sinj h;exact Yq rfl rfl (rq bE) (rq (Iz (0))) ⟨_,hfr,_,_,rfl,bG,rfl⟩
def f63 (x0:Vector UInt8 8):Option (Z5 × Int):=
 (idx (x0).toList (0:Int)).bind fun y3=>
 (Hb ((y3).toNat:Int) ((8:Int))).bind fun y6=>
 (idx (x0).toList (1:Int)).bind fun y7=>
 (idx (x0).toList (2:Int)).bind fun g8=>
 (idx (x0).toList (3:Int)).bind fun l8=>
 (idx (x0).toList (4:Int)).bind fun n8=>
 (idx (x0).toList (5:Int)).bind fun v8=>
 (f33 x0).bind fun o0=>
 jn (σ:=Z5) (fun vB=>
  some (vB,(0:Int))
  ) fun k53=>
 Option.bind (α:=Bool) (
  (idx (x0).toList (6:Int)).bind fun n9=>
  bif (o0.1 != n9) then
   some (true)
  else
   (idx (x0).toList (7:Int)).bind fun lB=>
   some ((o0.2 != lB))
  ) fun l9=>
 bif l9 then
  some ((⟨(Qd .or y6 ((y7).toNat:Int)),((g8).toNat:Int),((l8).toNat:Int),((n8).toNat:Int),((v8).toNat:Int)⟩:Z5),(130:Int))
 else
  (f16 ((⟨(Qd .or y6 ((y7).toNat:Int)),((g8).toNat:Int),((l8).toNat:Int),((n8).toNat:Int),((v8).toNat:Int)⟩:Z5))).bind fun yB=>
  bif (!yB) then
   some ((⟨(Qd .or y6 ((y7).toNat:Int)),((g8).toNat:Int),((l8).toNat:Int),((n8).toNat:Int),((v8).toNat:Int)⟩:Z5),(2:Int))
  else
   k53 ((⟨(Qd .or y6 ((y7).toNat:Int)),((g8).toNat:Int),((l8).toNat:Int),((n8).toNat:Int),((v8).toNat:Int)⟩:Z5))
theorem en63:Enters prog 63:=enters_of func63 (by kernel_rfl) rfl
theorem wk63 {gI:Gh} {wI:World} {x0:Vector UInt8 8} {up0:Value} (rp0:RV gI.m wI x0 up0) {r:Z5 × Int} (h:f63 x0=some r):Fn prog 63 #[up0] gI wI (fun m w v=>∃ y0 y1,v=.tuple #[y0,y1]∧RV m w (r.1) y0∧y1=Iz (r.2)):=by
 unfold f63 at h;refine fnE func63 rfl rfl fun g0 hm hfr=>?_;have rp0:=RVc hm rp0;show E _ 50 none _ _ _ _ _;refine Z7 (Z6 rfl (Tq (g:=g0) rfl rp0 fun g1 w1 p1 hs q1=>?_));have hfr:=hfr.ext hs;refine Z6 rfl (Gw (g:=g1) 2002 (⟨0,0,0,0,0⟩:Z5) zeroValue55 (fun m w=>⟨_,(Gi Zx (Gi Zx (Gi Zx (Gi Zx Zx)))),rfl⟩) fun g2 w2 p2 hs b2 cb=>?_);have hfr:=hfr.stp hs;have q1:=q1.stp hs;clear cb;refine Zg (Iz (0)) rfl rfl (Z4 (Z7 ?_));obtain ⟨y3,hy3,h⟩:=Z3 h;refine Zz (Ga p1 (((0:Int):Int).toNat * 1)) (Tw (α:=UInt8) underlying80 sizeOf5 rfl (PT.ptr q1) rfl hy3) rfl ?_;have q4:=Wy q1 hy3;refine Z6 rfl (Z9 (g:=g2) isAgg5 sizeOf5 rfl q4 fun v5 r5=>?_);obtain rfl:=Qz.1 r5;refine Zz (Iz (((y3).toNat:Int))) (Ku underlying5 underlying3 rfl) rfl ?_;obtain ⟨y6,zE,h⟩:=Z3 h;refine Zz (Iz (y6)) (Fh rfl rfl zE) rfl ?_;obtain ⟨y7,zD,h⟩:=Z3 h;refine Zz (Ga p1 (((1:Int):Int).toNat * 1)) (Tw (α:=UInt8) underlying80 sizeOf5 rfl (PT.ptr q1) rfl zD) rfl ?_;have q8:=Wy q1 zD;refine Z6 rfl (Z9 (g:=g2) isAgg5 sizeOf5 rfl q8 fun v9 r9=>?_);obtain rfl:=Qz.1 r9;refine Zz (Iz (((y7).toNat:Int))) (Ku underlying5 underlying3 rfl) rfl (Gf (Iz ((Qd .or y6 ((y7).toNat:Int)))) rfl rfl rfl rfl ?_);obtain ⟨g8,vC,h⟩:=Z3 h;refine Zz (Ga p1 (((2:Int):Int).toNat * 1)) (Tw (α:=UInt8) underlying80 sizeOf5 rfl (PT.ptr q1) rfl vC) rfl ?_;have cF:=Wy q1 vC;refine Z6 rfl (Z9 (g:=g2) isAgg5 sizeOf5 rfl cF fun jH dF=>?_);obtain rfl:=Qz.1 dF;refine Zz (Iz (((g8).toNat:Int))) (Ku underlying5 underlying3 rfl) rfl ?_;obtain ⟨l8,bD,h⟩:=Z3 h;refine Zz (Ga p1 (((3:Int):Int).toNat * 1)) (Tw (α:=UInt8) underlying80 sizeOf5 rfl (PT.ptr q1) rfl bD) rfl ?_;have eF:=Wy q1 bD;refine Z6 rfl (Z9 (g:=g2) isAgg5 sizeOf5 rfl eF fun kH rF=>?_);obtain rfl:=Qz.1 rF;refine Zz (Iz (((l8).toNat:Int))) (Ku underlying5 underlying3 rfl) rfl ?_;obtain ⟨n8,cD,h⟩:=Z3 h;refine Zz (Ga p1 (((4:Int):Int).toNat * 1)) (Tw (α:=UInt8) underlying80 sizeOf5 rfl (PT.ptr q1) rfl cD) rfl ?_;have sF:=Wy q1 cD;refine Z6 rfl (Z9 (g:=g2) isAgg5 sizeOf5 rfl sF fun lH tF=>?_);obtain rfl:=Qz.1 tF;refine Zz (Iz (((n8).toNat:Int))) (Ku underlying5 underlying3 rfl) rfl ?_;obtain ⟨v8,lD,h⟩:=Z3 h;refine Zz (Ga p1 (((5:Int):Int).toNat * 1)) (Tw (α:=UInt8) underlying80 sizeOf5 rfl (PT.ptr q1) rfl lD) rfl ?_;have uF:=Wy q1 lD;refine Z6 rfl (Z9 (g:=g2) isAgg5 sizeOf5 rfl uF fun mH vF=>?_);obtain rfl:=Qz.1 vF;refine Zz (Iz (((v8).toNat:Int))) (Ku underlying5 underlying3 rfl) rfl ?_;have aE:RV g2.m w2 (⟨(Qd .or y6 ((y7).toNat:Int)),((g8).toNat:Int),((l8).toNat:Int),((n8).toNat:Int),((v8).toNat:Int)⟩:Z5) (.agg (G3 [[Iz 0],[Iz 0],[Iz 0],[Iz 0],[Iz 0]] [(0,Iz ((Qd .or y6 ((y7).toNat:Int)))),(1,Iz (((g8).toNat:Int))),(2,Iz (((l8).toNat:Int))),(3,Iz (((n8).toNat:Int))),(4,Iz (((v8).toNat:Int)))]).flatten.toArray):=G2 rfl (Gm (rfl) (Gm (rfl) (Gm (rfl) (Gm (rfl) (G6 (rfl))))));generalize mE:(Value.agg (G3 [[Iz 0],[Iz 0],[Iz 0],[Iz 0],[Iz 0]] [(0,Iz ((Qd .or y6 ((y7).toNat:Int)))),(1,Iz (((g8).toNat:Int))),(2,Iz (((l8).toNat:Int))),(3,Iz (((n8).toNat:Int))),(4,Iz (((v8).toNat:Int)))]).flatten.toArray)=bE at aE;refine Zz bE (mE ▸ Tf (vs:=[(0,Iz ((Qd .or y6 ((y7).toNat:Int)))),(1,Iz (((g8).toNat:Int))),(2,Iz (((l8).toNat:Int))),(3,Iz (((n8).toNat:Int))),(4,Iz (((v8).toNat:Int)))]) [[Iz 0],[Iz 0],[Iz 0],[Iz 0],[Iz 0]] Fc rfl rfl (.cons rfl (.cons rfl (.cons rfl (.cons rfl (.cons rfl .nil))))) ⟨⟨_,rfl,rfl⟩,⟨⟨_,rfl,rfl⟩,⟨⟨_,rfl,rfl⟩,⟨⟨_,rfl,rfl⟩,⟨⟨_,rfl,rfl⟩,trivial⟩⟩⟩⟩⟩) rfl (Z6 rfl (Gk (g:=g2) (v:=bE) sizeOf55 rfl b2 rfl aE fun iE nH hs b23 cb=>?_));clear cb;have hfr:=hfr.stp hs;have q1:=q1.stp hs;refine Z4 (Z7 (Z6 rfl (Z9 (g:=iE) isAgg80 sizeOf80 rfl q1 fun xF yF=>?_)));obtain ⟨o0,oE,h⟩:=Z3 h;refine Z6 rfl (Zp (g:=iE) (vs:=[xF]) en33 (.cons rfl .nil) (wk33 yF oE) fun zB zG oH hs hr=>?_);have hfr:=hfr.ext hs;have q1:=q1.ext hs;have b23:=b23.ext hs;obtain ⟨xG,yG,rfl,rfl,rfl⟩:=hr
 refine Zn (.tuple #[.int .u8 (UInt8.toNat (o0.1)),.int .u8 (UInt8.toNat (o0.2))]) rfl rfl (Zz (.int .u8 (UInt8.toNat (o0.1))) (Zi rfl rfl) rfl (Zz (.int .u8 (UInt8.toNat (o0.2))) (Zi rfl rfl) rfl (Zg (.int .u8 (UInt8.toNat (o0.1))) rfl rfl (Zg (.int .u8 (UInt8.toNat (o0.2))) rfl rfl (Z4 (Zq h (fun (s:Z5) e w=>∃ (g:Gh) ,Fr gI wI g w∧e 2=p2∧OB 2002 g w 55 (s:Z5) p2) (fun X53 k53 rE h=>?_) ?_))))))
 ·refine Zr ?_
  obtain ⟨l9,hx,h⟩:=Z3 h;refine Gs (fun e w=>∃ (g:Gh) ,Fr gI wI g w∧e 2=p2∧OB 2002 g w 55 ((⟨(Qd .or y6 ((y7).toNat:Int)),((g8).toNat:Int),((l8).toNat:Int),((n8).toNat:Int),((v8).toNat:Int)⟩:Z5):Z5) p2∧e 32=.bool (l9)) (fun Q' hQ=>?_) (fun aH pH hR=>?_)
  ·replace h := hx
   clear hx;refine Za (Zn (.int .u8 (UInt8.toNat (o0.1))) rfl rfl ?_);obtain ⟨n9,nD,h⟩:=Z3 h;refine Zz (Ga p1 (((6:Int):Int).toNat * 1)) (Tw (α:=UInt8) underlying80 sizeOf5 rfl (PT.ptr q1) rfl nD) rfl ?_;have q62:=Wy q1 nD;refine Z6 rfl (Z9 (g:=zB) isAgg5 sizeOf5 rfl q62 fun qH aG=>?_);obtain rfl:=Qz.1 aG;refine Zz (.bool ((o0.1 != n9))) (Bg rfl rfl rfl) rfl (Zn (.bool ((o0.1 != n9))) rfl rfl ?_);rcases Zt h with ⟨i6,h⟩ | ⟨i6,h⟩
   ·refine Z1 rfl rfl i6 rfl rfl ?_
    iterate 3 refine Z1 rfl rfl i6 rfl rfl ?_
    refine Zz (.bool true) (Zl (b:=(o0.1 != n9)) rfl (Te i6 rfl)) rfl (Zg (.bool true) rfl rfl (Zb ?_));obtain rfl:=sinj h;exact hQ _ _ ⟨zB,hfr,rfl,b23,rfl⟩
   ·refine Z0 (.int .u8 (UInt8.toNat (o0.2))) (Zk rfl) rfl rfl i6 rfl ?_
    obtain ⟨lB,oD,h⟩:=Z3 h;refine Z0 (Ga p1 (((7:Int):Int).toNat * 1)) (Tw (α:=UInt8) underlying80 sizeOf5 rfl (PT.ptr q1) rfl oD) rfl rfl i6 rfl ?_;have bG:=Wy q1 oD;refine Ze (.yes2 rfl rfl i6) rfl (Z9 (g:=zB) isAgg5 sizeOf5 rfl bG fun sH cG=>?_);obtain rfl:=Qz.1 cG;refine Z0 (.bool ((o0.2 != lB))) (Bg rfl rfl rfl) rfl rfl i6 rfl (Zz (.bool ((o0.2 != lB))) (Zl (b:=(o0.1 != n9)) rfl (Td i6 rfl)) rfl (Zg (.bool ((o0.2 != lB))) rfl rfl (Zb ?_)));obtain rfl:=sinj h;exact hQ _ _ ⟨zB,hfr,rfl,b23,rfl⟩
  ·clear hx
   obtain ⟨cC,hfr,l5,t5,mB⟩:=hR;rcases Zt h with ⟨nB,h⟩ | ⟨nB,h⟩
   ·refine Tj (Eq.trans (show ev _ _ = .bool (l9) from mB) (congrArg Value.bool nB)) (Z7 (Z6 rfl (T3 (g := cC) isAgg55 sizeOf55 l5 t5 fun eG gG => (Z6 rfl (Gk (g := cC) (v := eG) sizeOf55 l5 t5 rfl gG fun tH uH hs b72 cb => ?_)))))
    clear cb;have hfr:=hfr.stp hs;refine Zg (Iz (130)) rfl rfl (Z4 (Gd (Tg (Gq ?_))));obtain rfl:=sinj h;obtain ⟨ad73,cv73,hp73,uE,cr73⟩:=T6 isAgg55 sizeOf55 b72;exact J9 rfl rfl ((show _=p2 from l5).trans hp73) uE (show _=Iz (130) from rfl) ⟨_,hfr,_,_,rfl,cr73,rfl⟩
   ·refine Gz (Eq.trans (show ev _ _ = .bool (l9) from mB) (congrArg Value.bool nB)) (Z7 (Z6 rfl (T3 (g := cC) isAgg55 sizeOf55 l5 t5 fun iG jG => ?_)))
    obtain ⟨yB,vE,h⟩:=Z3 h;refine Z6 rfl (Zp (g:=cC) (vs:=[iG]) en16 (.cons rfl .nil) (wk16 jG vE) fun yD cH xH hs hr=>?_);have hfr:=hfr.ext hs;have t5:=t5.ext hs;subst hr;refine Zz (.bool (!yB)) (Wq rfl) rfl (Zg (.bool (!yB)) rfl rfl (Z4 ?_));rcases Zt h with ⟨oB,h⟩ | ⟨oB,h⟩
    ·refine G5 oB rfl (Z7 (Z6 rfl (T3 (g := yD) isAgg55 sizeOf55 l5 t5 fun kG lG => (Z6 rfl (Gk (g := yD) (v := kG) sizeOf55 l5 t5 rfl lG fun yH zH hs b79 cb => ?_)))))
     clear cb;have hfr:=hfr.stp hs;refine Zg (Iz (2)) rfl rfl (Z4 (Gd (Tg (Gq ?_))));obtain rfl:=sinj h;obtain ⟨ad80,cv80,hp80,xE,cr80⟩:=T6 isAgg55 sizeOf55 b79;exact J9 rfl rfl ((show _=p2 from l5).trans hp80) xE (show _=Iz (2) from rfl) ⟨_,hfr,_,_,rfl,cr80,rfl⟩
    ·refine G8 oB rfl ?_
     exact Zu (Tc (Zd (rE ((⟨(Qd .or y6 ((y7).toNat:Int)),((g8).toNat:Int),((l8).toNat:Int),((n8).toNat:Int),((v8).toNat:Int)⟩:Z5)) _ _ ⟨yD,hfr,l5,t5⟩ h)))
 ·rintro vB gH aI ⟨lE, hfr, aB, uC⟩ h
  refine Z7 (Z6 rfl (T3 (g:=lE) isAgg55 sizeOf55 aB uC fun mG sG=>(Z6 rfl (Gk (g:=lE) (v:=mG) sizeOf55 aB uC rfl sG fun bI dI hs b83 cb=>?_))));clear cb;have hfr:=hfr.stp hs;refine Zg (Iz (0)) rfl rfl (Z4 (Gd ?_));obtain rfl:=sinj h;obtain ⟨ad84,cv84,hp84,yE,cr84⟩:=T6 isAgg55 sizeOf55 b83;exact J9 rfl rfl ((show _=p2 from aB).trans hp84) yE (show _=Iz (0) from rfl) ⟨_,hfr,_,_,rfl,cr84,rfl⟩
def f70 (x0:Str):Option (Bool):=
 Option.bind (α:=Bool) (
  (f30 ((1:Int)) ((8:Int)) (([((x0).b.length:Int)]:List Int))).bind fun y9=>
  bif y9 then
   (f106 x0 ((fun a0=>f105 a0))).bind fun t5=>
   some ((!t5))
  else
   some (false)
  ) fun l5=>
 some (l5)
theorem en70:Enters prog 70:=enters_of func70 (by kernel_rfl) rfl
theorem wk70 {gI:Gh} {wI:World} {x0:Str}  {r:Bool} (h:f70 x0=some r):Fn prog 70 #[Str.v (x0)] gI wI (fun _ _ v=>v=.bool (r)):=by
 unfold f70 at h;refine fnE func70 rfl rfl fun g0 hm hfr=>?_;show E _ 14 none _ _ _ _ _;refine Z7 (Zg (.bool false) rfl rfl (Z4 (Z7 (Zg (.func (.func 105) #[] #[]) rfl rfl (Z4 ?_)))));obtain ⟨l5,hx,h⟩:=Z3 h;refine Gs (fun e w=>∃ (g:Gh) ,Fr gI wI g w∧e 2=.bool (l5)) (fun Q' hQ=>?_) (fun n9 lB hR=>?_)
 ·replace h := hx
  clear hx;refine Za (Zn (Str.v (x0)) rfl rfl (Zz (Iz ((x0).b.length:Int)) (Bh underlying9 rfl) rfl (Z6 rfl (Gb (g:=g0) 3006 (xs:=([((x0).b.length:Int)]:List Int)) (vs:=[Iz ((x0).b.length:Int)]) underlying24 sizeOf3 zeroValue3 rfl rfl (.cons rfl .nil) (RVs.cons (Zj.2 rfl) RVs.nil) rfl rfl fun g7 w7 v7 hs o7 r7 hxt hfl=>?_))));have hfr:=hfr.stp hs;obtain ⟨y9,n8,h⟩:=Z3 h;refine Z6 rfl (Zp (g:=g7) (vs:=[Iz (1),Iz (8),v7]) en30 (.cons rfl (.cons rfl (.cons rfl .nil))) (wk30 r7 n8) fun g8 w8_ v8 hs hr=>?_);have hfr:=hfr.ext hs;subst hr;refine Zn (.bool (y9)) rfl rfl ?_;rcases Zt h with ⟨o0,h⟩ | ⟨o0,h⟩
  ·refine Z0 (Str.v (x0)) (Zk rfl) rfl rfl o0 rfl (Z0 (.func (.func 105) #[] #[]) (Zk rfl) rfl rfl o0 rfl ?_)
   obtain ⟨t5,l8,h⟩:=Z3 h;refine Ze (.yes2 rfl rfl o0) rfl (Zp (g:=g8) (vs:=[Str.v (x0),.func (.func 105) #[] #[]]) en106 (.cons rfl (.cons rfl .nil)) (wk106 ⟨105,#[],#[],rfl,en105,fun g' w' hch a0 b0 r hu0 hr=>by obtain rfl:=Iy.1 hu0; exact Fn.mono (wk105   hr) fun _ _ _ h=>Qm.2 h⟩ l8) fun l9 aB mB hs hr=>?_);have hfr:=hfr.ext hs;subst hr;refine Z0 (.bool (!t5)) (Wq rfl) rfl rfl o0 rfl (Zz (.bool (!t5)) (Zl (b:=y9) rfl (Te o0 rfl)) rfl (Zg (.bool (!t5)) rfl rfl (Zb ?_)));obtain rfl:=sinj h;exact hQ _ _ ⟨l9,hfr,rfl⟩
  ·refine Z1 rfl rfl o0 rfl rfl ?_
   iterate 3 refine Z1 rfl rfl o0 rfl rfl ?_
   refine Zz (.bool false) (Zl (b:=y9) rfl (Td o0 rfl)) rfl (Zg (.bool false) rfl rfl (Zb ?_));obtain rfl:=sinj h;exact hQ _ _ ⟨g8,hfr,rfl⟩
 ·clear hx
  obtain ⟨nB,hfr,i6⟩:=hR;refine Gd ?_;obtain rfl:=sinj h;exact Ta rfl rfl (show _=.bool (l5) from i6) ⟨_,hfr,rfl⟩
def f77 (x0:List UInt8):Option (It (Vector UInt8 8)):=
 some ((fun σ cons s=>f109 x0 σ cons s))
theorem en77:Enters prog 77:=enters_of func77 (by kernel_rfl) rfl
theorem wk77 {gI:Gh} {wI:World} {x0:List UInt8} {up0:Value} (rp0:RV gI.m wI x0 up0) {r:It (Vector UInt8 8)} (h:f77 x0=some r):Fn prog 77 #[up0] gI wI (fun m w v=>ItV prog (RA1 (α:=(Vector UInt8 8))) (r) v m w):=by
 unfold f77 at h;refine fnE func77 rfl rfl fun g0 hm hfr=>?_;have rp0:=RVc hm rp0;show E _ 4 none _ _ _ _ _;refine Z7 (Z6 rfl (Tq (g:=g0) rfl rp0 fun g1 w1 p1 hs q1=>?_));have hfr:=hfr.ext hs;refine Zg (.nilFunc) rfl rfl (Z4 (Z7 (Zz ((.func (.func 109) #[] #[p1])) (Kd (Rb (show ev _ _=p1 from rfl))) rfl (Zg ((.func (.func 109) #[] #[p1])) rfl rfl (Z4 (Gd ?_))))));obtain rfl:=sinj h;exact Ta rfl rfl (rq (.func (.func 109) #[] #[p1])) ⟨_,hfr,(show ItV prog (RA1 (α:=(Vector UInt8 8))) (fun σ cons s=>f109 x0 σ cons s) ((.func (.func 109) #[] #[p1])) g1.m w1 from ⟨109,#[],#[p1],rfl,en109,fun g' w' hch σ cons s s' h=>wk109  (q1.ch hch) h⟩)⟩
def f81 (x0:Gr) (x1:Int):Option (Int):=
 jn (σ:=Unit) (fun _=>
  (idx (((x0).ChainBelt).Cards) x1).bind fun t5=>
  some ((t5).Row)
  ) fun k19=>
 (idx (((x0).ChainBelt).Cards) x1).bind fun y23=>
 bif (y23).Turned then
  (f122 ((x0).frame) ((y23).Row)).bind fun i6=>
  some (i6)
 else
  k19 ()
theorem en81:Enters prog 81:=enters_of func81 (by kernel_rfl) rfl
theorem wk81 {gI:Gh} {wI:World} {x0:Gr} {x1:Int} {up0:Value} (rp0:RV gI.m wI x0 up0) {r:Int} (h:f81 x0 x1=some r):Fn prog 81 #[up0,Iz (x1)] gI wI (fun _ _ v=>v=Iz (r)):=by
 unfold f81 at h;refine fnE func81 rfl rfl fun g0 hm hfr=>?_;have rp0:=RVc hm rp0;show E _ 26 none _ _ _ _ _;refine Z7 (Z6 rfl (Tq (g:=g0) rfl rp0 fun g1 w1 p1 hs q1=>?_));have hfr:=hfr.ext hs;refine Zg (Iz (0)) rfl rfl (Z4 (Zq h (fun (s:Unit) e w=>∃ (g:Gh) ,Fr gI wI g w∧e 1=Iz (x1)∧e 2=p1∧PT g.m w (x0:Gr) p1) (fun X19 k19 cC h=>?_) ?_))
 ·refine Z7 (Zz (Ga p1 0) (Zc Sn rfl (PT.ptr q1)) rfl ?_)
  have aB:=Zm (K8).1 q1;refine Zz (Ga (Ga p1 0) 1) (Zc Hx rfl (PT.ptr aB)) rfl ?_;have vC:=Zm (Qf).1 aB;refine Z6 rfl (Z9 (g:=g1) isAgg44 sizeOf44 rfl vC fun bD lB=>(Zn (Iz (x1)) rfl rfl ?_));obtain ⟨y23,l8,h⟩:=Z3 h;refine Zz (Tb bD x1 3) (Zh (α:=Z8) underlying44 sizeOf43 rfl lB rfl l8) rfl ?_;have cD:=Tp lB l8;refine Z6 rfl (Z9 (g:=g1) isAgg43 sizeOf43 rfl cD fun lD n8=>(Z6 rfl (Gw (g:=g1) 2005 (⟨0,0,false⟩:Z8) zeroValue43 (fun m w=>⟨_,(Gi Zx (Gi Zx Wv)),rfl⟩) fun nD rE mB hs b26 cb=>?_)));have hfr:=hfr.stp hs;have q1:=q1.stp hs;have n8:=n8.stp hs;clear cb;refine Z6 rfl (Gk (g:=nD) (v:=lD) sizeOf43 rfl b26 rfl n8 fun o0 uE hs b27 cb=>?_);clear cb;have hfr:=hfr.stp hs;have q1:=q1.stp hs;refine Z4 (Z7 (Zz (Ga mB 2) (Zc Ff rfl (OB.ptr b27)) rfl (Z6 rfl (Wx (g:=o0) Jp.1 isAgg4 sizeOf4 rfl b27 fun vE oD=>?_))));obtain rfl:=Qm.1 oD;refine Z4 ?_;rcases Zt h with ⟨l5,h⟩ | ⟨l5,h⟩
  ·refine G5 l5 rfl (Z7 (Zz (Ga p1 2) (Zc S4 rfl (PT.ptr q1)) rfl ?_))
   have yD:=Zm (K7).1 q1;refine Z6 rfl (Z9 (g:=o0) isAgg158 sizeOf158 rfl yD fun xE zD=>?_);obtain rfl:=Zj.1 zD;refine Zz (Ga mB 1) (Zc Vy rfl (OB.ptr b27)) rfl (Z6 rfl (Wx (g:=o0) Kq.1 isAgg3 sizeOf3 rfl b27 fun yE aE=>?_));obtain rfl:=Zj.1 aE;obtain ⟨i6,uC,h⟩:=Z3 h;refine Z6 rfl (Zp (g:=o0) (vs:=[Iz ((x0).frame),Iz ((y23).Row)]) en122 (.cons rfl (.cons rfl .nil)) (wk122  uC) fun zE mE cF hs hr=>?_);have hfr:=hfr.ext hs;subst hr;refine Zg (Iz (i6)) rfl rfl (Z4 (Gd (Gq ?_)));obtain rfl:=sinj h;exact Ta rfl rfl (rq (Iz (i6))) ⟨_,hfr,rfl⟩
  ·refine G8 l5 rfl ?_
   exact Zu (Zd (cC () _ _ ⟨o0,hfr,rfl,rfl,q1⟩ h))
 ·rintro _ oE dF ⟨nB, hfr, l9, n9, g8⟩ h
  refine Z7 (Zz (Ga p1 0) (Zc Sn n9 (PT.ptr g8)) rfl ?_);have oB:=Zm (K8).1 g8;refine Zz (Ga (Ga p1 0) 1) (Zc Hx rfl (PT.ptr oB)) rfl ?_;have bE:=Zm (Qf).1 oB;refine Z6 rfl (Z9 (g:=nB) isAgg44 sizeOf44 rfl bE fun vB yB=>(Zo l9 rfl ?_));obtain ⟨t5,v8,h⟩:=Z3 h;refine Zz (Tb vB x1 3) (Zh (α:=Z8) underlying44 sizeOf43 rfl yB rfl v8) rfl ?_;have zB:=Tp yB v8;refine Zz (Ga (Tb vB x1 3) 1) (Zc Vy rfl (PT.ptr zB)) rfl ?_;have iE:=Zm (Kq).1 zB;refine Z6 rfl (Z9 (g:=nB) isAgg3 sizeOf3 rfl iE fun eF lE=>?_);obtain rfl:=Zj.1 lE;refine Zg (Iz ((t5).Row)) rfl rfl (Z4 (Gd ?_));obtain rfl:=sinj h;exact Ta rfl rfl (rq (Iz ((t5).Row))) ⟨_,hfr,rfl⟩
def f87 (x0:Zv) (z0:FaultLoom):Option (Bool):=
 (f88 ((⟨z0⟩:Gl)) x0).bind fun y6=>
 some ((!y6))
theorem en87:Enters prog 87:=enters_of func87 (by kernel_rfl) rfl
theorem wk87 {gI:Gh} {wI:World} {x0:Zv} {z0:FaultLoom} {up0:Value} (rp0:RV gI.m wI x0 up0) {pf0:Value} (qf0:PT gI.m wI z0 pf0) {r:Bool} (h:f87 x0 z0=some r):Fn prog 87 #[up0,pf0] gI wI (fun _ _ v=>v=.bool (r)):=by
 unfold f87 at h;refine fnE func87 rfl rfl fun g0 hm hfr=>?_;have qf0:PT g0.m wI z0 pf0:=hm ▸ qf0;have rp0:=RVc hm rp0;show E _ 9 none _ _ _ _ _;refine Z7 (Z6 rfl (Tq (g:=g0) rfl rp0 fun g1 w1 p1 hs q1=>?_));have hfr:=hfr.ext hs;have qf0:=qf0.ext hs;refine Zg (.bool false) rfl rfl (Z4 (Z7 (Z6 rfl (Z9 (g:=g1) isAgg30 sizeOf30 rfl qf0 fun v2 r2=>?_))));have r3:RV g1.m _ (⟨z0⟩:Gl) (.agg (G3 [[Iz 0,.slice none 0 0,Iz 0,.slice none 0 0]] [(0,v2)]).flatten.toArray):=G2 rfl (G6 (RV.cells r2));generalize hv3:(Value.agg (G3 [[Iz 0,.slice none 0 0,Iz 0,.slice none 0 0]] [(0,v2)]).flatten.toArray)=v3 at r3;refine Zz v3 (hv3 ▸ Tf (vs:=[(0,v2)]) [[Iz 0,.slice none 0 0,Iz 0,.slice none 0 0]] Fd rfl rfl (.cons rfl .nil) ⟨⟨_,rfl,G4 r2⟩,trivial⟩) rfl (Z6 rfl (Z9 (g:=g1) isAgg34 sizeOf34 rfl q1 fun v4 r4=>?_));obtain ⟨y6,o0,h⟩:=Z3 h;refine Z6 rfl (Zp (g:=g1) (vs:=[v3,v4]) en88 (.cons rfl (.cons rfl .nil)) (wk88 r3 r4 o0) fun g5 w5_ v5 hs hr=>?_);have hfr:=hfr.ext hs;subst hr;refine Zz (.bool (!y6)) (Wq rfl) rfl (Zg (.bool (!y6)) rfl rfl (Z4 (Gd ?_)));obtain rfl:=sinj h;exact Ta rfl rfl (rq (.bool (!y6))) ⟨_,hfr,rfl⟩
def f104 (x0:Int) (x1:List Z8):Option (Bool):=
 Option.bind (α:=Bool) (
  bif (decide (((x1).length : Int) > (0 : Int))) then
   (f135 x1 ((fun a0=>f133 a0 x0))).bind fun y7=>
   some ((!y7))
  else
   some (false)
  ) fun o0=>
 some (o0)
theorem en104:Enters prog 104:=enters_of func104 (by kernel_rfl) rfl
theorem wk104 {gI:Gh} {wI:World} {x0:Int} {x1:List Z8} {up1:Value} (rp1:RV gI.m wI x1 up1) {r:Bool} (h:f104 x0 x1=some r):Fn prog 104 #[Iz (x0),up1] gI wI (fun _ _ v=>v=.bool (r)):=by
 unfold f104 at h;refine fnE func104 rfl rfl fun g0 hm hfr=>?_;have rp1:=RVc hm rp1;show E _ 16 none _ _ _ _ _;refine Z7 (Z6 rfl (Tq (g:=g0) rfl (Zj.2 rfl) fun g1 w1 p1 hs q1=>?_));have hfr:=hfr.ext hs;have rp1:=rp1.ext hs;refine Zg (.bool false) rfl rfl (Z4 (Z7 (Zz ((.func (.func 133) #[] #[p1])) (Kd (Rb (show ev _ _=p1 from rfl))) rfl (Zg ((.func (.func 133) #[] #[p1])) rfl rfl (Z4 ?_)))));obtain ⟨o0,hx,h⟩:=Z3 h;refine Gs (fun e w=>∃ (g:Gh) ,Fr gI wI g w∧e 4=.bool (o0)) (fun Q' hQ=>?_) (fun i6 w8 hR=>?_)
 ·replace h := hx
  clear hx;refine Za (Zn up1 rfl rfl (Zz (Iz ((x1).length:Int)) (Tr underlying44 rfl rp1) rfl (Gf (.bool ((decide (((x1).length:Int) > (0:Int))))) rfl rfl rfl rfl (Zn (.bool ((decide (((x1).length:Int) > (0:Int))))) rfl rfl ?_))));rcases Zt h with ⟨hc5,h⟩ | ⟨hc5,h⟩
  ·refine Z0 up1 (Zk rfl) rfl rfl hc5 rfl (Z0 ((.func (.func 133) #[] #[p1])) (Zk rfl) rfl rfl hc5 rfl ?_)
   obtain ⟨y7,t5,h⟩:=Z3 h;refine Ze (.yes2 rfl rfl hc5) rfl (Zp (g:=g1) (vs:=[up1,(.func (.func 133) #[] #[p1])]) en135 (.cons rfl (.cons rfl .nil)) (wk135 rp1 ⟨133,#[],#[p1],rfl,en133,fun g' w' hch a0 b0 r hu0 hr=>by exact Fn.mono (wk133 hu0 (q1.ch hch) hr) fun _ _ _ h=>Qm.2 h⟩ t5) fun g6 w6_ v6 hs hr=>?_);have hfr:=hfr.ext hs;subst hr;refine Z0 (.bool (!y7)) (Wq rfl) rfl rfl hc5 rfl (Zz (.bool (!y7)) (Zl (b:=(decide (((x1).length:Int) > (0:Int)))) rfl (Te hc5 rfl)) rfl (Zg (.bool (!y7)) rfl rfl (Zb ?_)));obtain rfl:=sinj h;exact hQ _ _ ⟨g6,hfr,rfl⟩
  ·refine Z1 rfl rfl hc5 rfl rfl ?_
   iterate 3 refine Z1 rfl rfl hc5 rfl rfl ?_
   refine Zz (.bool false) (Zl (b:=(decide (((x1).length:Int) > (0:Int)))) rfl (Td hc5 rfl)) rfl (Zg (.bool false) rfl rfl (Zb ?_));obtain rfl:=sinj h;exact hQ _ _ ⟨g1,hfr,rfl⟩
 ·clear hx
  obtain ⟨g8,hfr,l5⟩:=hR;refine Gd ?_;obtain rfl:=sinj h;exact Ta rfl rfl (show _=.bool (o0) from l5) ⟨_,hfr,rfl⟩
def f7 (x0:List Z5):Option ((List UInt8) × Int × Int):=
 jn (σ:=Unit) (fun _=>
  jn (σ:=(List UInt8)) (fun oD=>
   some (oD,(0:Int),(0:Int))
   ) fun xH=>
  lp (σ:=(List UInt8) × Int) (fun yH (aB,o0)=>
   bif (decide (o0 < ((x0).length : Int))) then
    jn (σ:=(List UInt8)) (fun vB=>
     yH (vB,(w64 (o0 + (1:Int))))
     ) fun zH=>
    (idx x0 o0).bind fun yB=>
    jn (σ:=Unit) (fun _=>
     (f18 yB).bind fun xF=>
     (cut ((xF).toList) 0 ((8:Nat):Int)).bind fun yF=>
     (apnd 1 aB yF).bind fun zD=>
     zH (zD)
     ) fun aG=>
    (f16 yB).bind fun uC=>
    bif (!uC) then
     some ([],o0,(2:Int))
    else
     Option.bind (α:=Bool) (
      bif (decide (o0 > (0 : Int))) then
       (idx x0 (w64 (o0 - (1:Int)))).bind fun bG=>
       (f17 bG yB).bind fun oB=>
       some ((decide (oB ≥ (0:Int))))
      else
       some (false)
      ) fun lB=>
     bif lB then
      some ([],o0,(4:Int))
     else
      aG ()
   else
    xH (aB)
   ) big ([],(0:Int))
  ) fun k2=>
 bif (decide (((x0).length : Int) > (100 : Int))) then
  some ([],(0:Int),(5:Int))
 else
  k2 ()
theorem en7:Enters prog 7:=enters_of func7 (by kernel_rfl) rfl
theorem wk7 {gI:Gh} {wI:World} {x0:List Z5} {up0:Value} (rp0:RV gI.m wI x0 up0) {r:(List UInt8) × Int × Int} (h:f7 x0=some r):Fn prog 7 #[up0] gI wI (fun m w v=>∃ y0 y1 y2,v=.tuple #[y0,y1,y2]∧RV m w (r.1) y0∧y1=Iz (r.2.1)∧y2=Iz (r.2.2)):=by
 unfold f7 at h;refine fnE func7 rfl rfl fun g0 hm hfr=>?_;have rp0:=RVc hm rp0;show E _ 44 none _ _ _ _ _;refine Z7 (Zg (.slice none 0 0) rfl rfl (Zg (Iz (0)) rfl rfl (Zg (Iz (0)) rfl rfl (Z4 (Zq h (fun (s:Unit) e w=>∃ (g:Gh) ,Fr gI wI g w∧e 0=up0∧RV g.m w (x0:List Z5) up0∧e 2=.slice none 0 0∧RV g.m w ([]:List UInt8) (Value.slice none 0 0)) (fun X2 k2 hk2 h=>?_) ?_)))))
 ·refine Z7 (Zn up0 rfl rfl (Zz (Iz ((x0).length : Int)) (Tr underlying56 rfl rp0) rfl (Gf (.bool ((decide (((x0).length : Int) > (100 : Int))))) rfl rfl rfl rfl (Z4 ?_))))
  rcases Zt h with ⟨hc3,h⟩ | ⟨hc3,h⟩
  ·refine G5 hc3 rfl (Z7 (Zg (.slice none 0 0) rfl rfl (Zg (Iz (0)) rfl rfl (Zg (Iz (5)) rfl rfl (Z4 (Gd (Gq ?_)))))))
   obtain rfl:=sinj h;exact Y9 rfl rfl (rq (.slice none 0 0)) (rq (Iz (0))) (rq (Iz (5))) ⟨_,hfr,_,_,_,rfl,Qi,rfl,rfl⟩
  ·refine G8 hc3 rfl ?_
   exact Zu (Zd (hk2 () _ _ ⟨g0,hfr,rfl,rp0,rfl,Qi⟩ h))
 ·rintro _ cM w4 ⟨g4, hfr, aI, rE, lK, mK⟩ h
  refine Zq h (fun (s:(List UInt8)) e w=>∃ (g:Gh) (v2:Value),Fr gI wI g w∧e 2=v2∧RV g.m w (s:List UInt8) v2∧OS 1002 g w 5 (s:List UInt8) v2) (fun X587 xH pI h=>?_) ?_
  ·refine Z7 (Zo aI rfl (Zz (Iz ((x0).length : Int)) (Tr underlying56 rfl rE) rfl (Zn (Iz (0)) rfl rfl (Z4 (Zr (Wo h (fun (s : (List UInt8) × Int) e w => ∃ (g : Gh) (v2 : Value), Fr gI wI g w ∧ e 0 = up0 ∧ RV g.m w (x0 : List Z5) up0 ∧ e 2 = v2 ∧ RV g.m w (s.1 : List UInt8) v2 ∧ OS 1002 g w 5 (s.1 : List UInt8) v2 ∧ e 11 = up0 ∧ RV g.m w (x0 : List Z5) up0 ∧ e 12 = Iz (((x0).length : Int)) ∧ e 13 = Iz (s.2)) ⟨g4, (.slice none 0 0), hfr, aI, rE, lK, mK, OS.nil, rfl, rE, rfl, rfl⟩ (fun X588 yH qI => ?_)))))))
   rintro ⟨aB,o0⟩ zK zL ⟨uE,mB,hfr,vC,i6,bD,g8,l8,zB,l5,cC,nB⟩ h;refine Z7 (Gf (.bool ((decide (o0 < ((x0).length:Int))))) nB cC rfl rfl (Z4 (Zf ?_)));rcases Zt h with ⟨aE,h⟩ | ⟨aE,h⟩
   ·refine G5 aE rfl (Zu (Zd (Zq h (fun (s : (List UInt8)) e w => ∃ (g : Gh) (v2 : Value), Fr gI wI g w ∧ e 0 = up0 ∧ RV g.m w (x0 : List Z5) up0 ∧ e 2 = v2 ∧ RV g.m w (s : List UInt8) v2 ∧ OS 1002 g w 5 (s : List UInt8) v2 ∧ e 11 = up0 ∧ RV g.m w (x0 : List Z5) up0 ∧ e 12 = Iz (((x0).length : Int)) ∧ e 13 = Iz (o0)) (fun X879 zH sI h => ?_) ?_)))
    ·refine Zr (Z7 (Zo nB rfl ?_))
     obtain ⟨yB,cG,h⟩:=Z3 h;refine Zz (Tb up0 o0 5) (Zh (α:=Z5) underlying56 sizeOf55 zB l5 nB cG) rfl ?_;have nK:=Tp l5 cG;refine Z6 rfl (Z9 (g:=uE) isAgg55 sizeOf55 rfl nK fun oK vE=>(Z6 rfl (Gw (g:=uE) 2006 (⟨0,0,0,0,0⟩:Z5) zeroValue55 (fun m w=>⟨_,(Gi Zx (Gi Zx (Gi Zx (Gi Zx Zx)))),rfl⟩) fun pK aM bE hs b883 cb=>?_)));have hfr:=hfr.stp hs;have i6:=i6.stp hs;have g8:=g8.stp hs;have l8:=l8.stp hs rfl;have l5:=l5.stp hs;have vE:=vE.stp hs;clear cb;refine Zg (Iz (o0)) rfl rfl (Z6 rfl (Gk (g:=pK) (v:=oK) sizeOf55 rfl b883 rfl vE fun bI bM hs b884 cb=>?_));clear cb;have hfr:=hfr.stp hs;have i6:=i6.stp hs;have g8:=g8.stp hs;have l8:=l8.stp hs rfl;have l5:=l5.stp hs;refine Z4 (Zq h (fun (s:Unit) e w=>∃ (g:Gh) ,Fr gI wI g w∧e 0=up0∧RV g.m w (x0:List Z5) up0∧e 2=mB∧RV g.m w (aB:List UInt8) mB∧OS 1002 g w 5 (aB:List UInt8) mB∧e 6=bE∧OB 2006 g w 55 (yB:Z5) bE∧e 11=up0∧RV g.m w (x0:List Z5) up0∧e 12=Iz (((x0).length:Int))∧e 13=Iz (o0)) (fun X1021 aG dI h=>?_) ?_)
     ·refine Zr (Z7 (Z6 rfl (T3 (g := bI) isAgg55 sizeOf55 rfl b884 fun jJ kJ => ?_)))
      obtain ⟨uC,iI,h⟩:=Z3 h;refine Z6 rfl (Zp (g:=bI) (vs:=[jJ]) en16 (.cons rfl .nil) (wk16 kJ iI) fun eG sK aL hs hr=>?_);have hfr:=hfr.ext hs;have i6:=i6.ext hs;have g8:=g8.ext hs;have l8:=l8.ext hs;have l5:=l5.ext hs;have b884:=b884.ext hs;subst hr;refine Zz (.bool (!uC)) (Wq rfl) rfl (Zg (.bool (!uC)) rfl rfl (Z4 ?_));rcases Zt h with ⟨cD,h⟩ | ⟨cD,h⟩
      ·refine G5 cD rfl (Z7 (Zn (Iz (o0)) rfl rfl (Zg (.slice none 0 0) rfl rfl (Zg (Iz (o0)) rfl rfl (Zg (Iz (2)) rfl rfl (Z4 (Gd (Tg (Gq (Tg (Gq (Gq (Tg (Gq ?_))))))))))))))
       obtain rfl:=sinj h;exact Y9 rfl rfl (rq (.slice none 0 0)) (rq (Iz (o0))) (rq (Iz (2))) ⟨_,hfr,_,_,_,rfl,Qi,rfl,rfl⟩
      ·refine G8 cD rfl ?_
       obtain ⟨lB,hx,h⟩:=Z3 h;refine Gs (fun e w=>∃ (g:Gh) ,Fr gI wI g w∧e 0=up0∧RV g.m w (x0:List Z5) up0∧e 2=mB∧RV g.m w (aB:List UInt8) mB∧OS 1002 g w 5 (aB:List UInt8) mB∧e 5=Iz (o0)∧e 6=bE∧OB 2006 g w 55 (yB:Z5) bE∧e 11=up0∧RV g.m w (x0:List Z5) up0∧e 12=Iz (((x0).length:Int))∧e 13=Iz (o0)∧e 23=.bool (lB)) (fun Q' hQ=>?_) (fun tK bL hR=>?_)
       ·replace h := hx
        clear hx;rcases Zt h with ⟨v8,h⟩ | ⟨v8,h⟩
        ·obtain ⟨bG, mE, h⟩ := Z3 h
         have lJ:=Tp i6 mE;refine Zs (x:=.tmp 30) isAgg55 sizeOf55 lJ fun gG mJ jI=>(Ju (x:=.tmp 6) isAgg55 sizeOf55 b884 fun iG nJ kI=>?_);obtain ⟨oB,lI,h⟩:=Z3 h;refine Tz (g:=eG) (n:=13) [(9,(fun v g w=>v=Iz (oB)))] [0,1,2,3,4,5,6,7,8,9,10,11,12] rfl mixed (by kernel_rfl) (⟨fun _=>Kz _,trivial⟩) (Z2 (Iz (o0)) rfl rfl (Zk rfl) (Z2 (.bool ((decide (o0 > (0:Int))))) rfl rfl (Gx rfl rfl rfl) (Z2 (.bool ((decide (o0 > (0:Int))))) rfl rfl (Zk rfl) (L_y up0 rfl rfl rfl rfl v8 (Zk vC) (L_y (Iz (o0)) rfl rfl rfl rfl v8 (Zk rfl) (L_y (Iz ((w64 (o0 - (1:Int))))) rfl rfl rfl rfl v8 (Gx rfl rfl rfl) (L_y (Tb up0 (w64 (o0 - (1:Int))) 5) rfl rfl rfl rfl v8 (Zh (α:=Z5) underlying56 sizeOf55 rfl i6 rfl mE) (Tv (c:=gG) rfl rfl (.yes2 rfl rfl v8) (fun _ _ h=>h.ch) jI rfl (Tv (c:=iG) rfl rfl (.yes2 rfl rfl v8) (fun _ _ h=>⟨h.ch,fun b hb _=>h.below.block b hb⟩) kI rfl (Ks (φ:=fun v g w=>v=Iz (oB)) rfl rfl (.yes2 rfl rfl v8) (fun g w hd=>Zp (g:=g) (vs:=[gG,iG]) en17 (.cons rfl (.cons rfl .nil)) (wk17 (mJ.ext hd.1) (nJ.ext hd.1) lI) fun g' w' v hs hr=>⟨g',hs,hr⟩) (fun dL hv=>?_)))))))))));obtain ⟨_,_,_,rfl⟩:=hv;refine L_y (.bool ((decide (oB ≥ (0:Int))))) rfl rfl rfl rfl v8 (Gx rfl rfl rfl) (Z2 (.bool ((decide (oB ≥ (0:Int))))) rfl rfl (Zl (b:=(decide (o0 > (0:Int)))) rfl (Te v8 rfl)) (Z2 (.bool ((decide (oB ≥ (0:Int))))) rfl rfl (Tx rfl) (Ho fun oJ eL hs=>?_)));have hfr:=hfr.ext hs;have i6:=i6.ext hs;have g8:=g8.ext hs;have l8:=l8.ext hs;have l5:=l5.ext hs;have b884:=b884.ext hs;clear hs;refine Zb ?_;obtain rfl:=sinj h;exact hQ _ _ ⟨oJ,hfr,vC,i6,bD,g8,l8,rfl,rfl,b884,zB,l5,cC,nB,rfl⟩
        ·refine Tz (g := eG) (n := 13) [] [0, 1, 2, 3, 4, 5, 6, 7, 8, 9, 10, 11, 12] rfl mixed (by kernel_rfl) trivial (Z2 (Iz (o0)) rfl rfl (Zk rfl) (Z2 (.bool ((decide (o0 > (0 : Int))))) rfl rfl (Gx rfl rfl rfl) (Z2 (.bool ((decide (o0 > (0 : Int))))) rfl rfl (Zk rfl) ?_)))
         iterate 8 refine L_s rfl rfl rfl v8 rfl ?_
         refine Z2 (.bool false) rfl rfl (Zl (b:=(decide (o0 > (0:Int)))) rfl (Td v8 rfl)) (Z2 (.bool false) rfl rfl (Tx rfl) (Ho fun pJ gL hs=>?_));have hfr:=hfr.ext hs;have i6:=i6.ext hs;have g8:=g8.ext hs;have l8:=l8.ext hs;have l5:=l5.ext hs;have b884:=b884.ext hs;clear hs;refine Zb ?_;obtain rfl:=sinj h;exact hQ _ _ ⟨pJ,hfr,vC,i6,bD,g8,l8,rfl,rfl,b884,zB,l5,cC,nB,rfl⟩
       ·clear hx
        obtain ⟨qJ,hfr,lG,mG,sG,xG,yG,zG,aH,cH,xE,yE,zE,cF,lD⟩:=hR;rcases Zt h with ⟨nD,h⟩ | ⟨nD,h⟩
        ·refine Tj (Eq.trans (show ev _ _ = .bool (lB) from lD) (congrArg Value.bool nD)) (Z7 (Zo zG rfl (Zg (.slice none 0 0) rfl rfl (Zg (Iz (o0)) rfl rfl (Zg (Iz (4)) rfl rfl (Z4 (Gd (Tg (Gq (Tg (Gq (Gq (Tg (Gq ?_))))))))))))))
         obtain rfl:=sinj h;exact Y9 rfl rfl (rq (.slice none 0 0)) (rq (Iz (o0))) (rq (Iz (4))) ⟨_,hfr,_,_,_,rfl,Qi,rfl,rfl⟩
        ·refine Gz (Eq.trans (show ev _ _ = .bool (lB) from lD) (congrArg Value.bool nD)) ?_
         exact Zu (Tc (Zd (dI () _ _ ⟨qJ,hfr,lG,mG,sG,xG,yG,aH,cH,xE,yE,zE,cF⟩ h)))
     ·rintro _ uK iL ⟨jG, hfr, gH, n8, jH, l9, n9, kH, lH, dF, t5, eF, rF⟩ h
      refine Z7 (Z6 rfl (T3 (g:=jG) isAgg55 sizeOf55 kH lH fun rJ sJ=>?_));obtain ⟨xF,mI,h⟩:=Z3 h;refine Z6 rfl (Zp (g:=jG) (vs:=[rJ]) en18 (.cons rfl .nil) (wk18 sJ mI) fun vJ vK xJ hs hr=>?_);have hfr:=hfr.ext hs;have n8:=n8.ext hs;have l9:=l9.ext hs;have n9:=n9.ext hs;have t5:=t5.ext hs;have iE:=hr;refine Z6 rfl (Gw (g:=vJ) 2007 ((⟨List.toArray [0,0,0,0,0,0,0,0],rfl⟩:Vector UInt8 8):Vector UInt8 8) zeroValue80 (fun m w=>⟨_,(Y5 (Zw Qe (Zw Qe (Zw Qe (Zw Qe (Zw Qe (Zw Qe (Zw Qe (Zw Qe Yh)))))))) rfl),rfl⟩) fun zJ jL lE hs b1162 cb=>?_);have hfr:=hfr.stp hs;have n8:=n8.stp hs;have l9:=l9.stp hs;have n9:=n9.stp hs rfl;have t5:=t5.stp hs;have iE:=iE.stp hs;clear cb;refine Z6 rfl (Gk (g:=zJ) (v:=xJ) sizeOf80 rfl b1162 rfl iE fun lL mL hs b1163 cb=>?_);clear cb;have hfr:=hfr.stp hs;have n8:=n8.stp hs;have l9:=l9.stp hs;have n9:=n9.stp hs rfl;have t5:=t5.stp hs;obtain ⟨gp1163,hs,qp1163⟩:=OB.pub b1163;have hfr:=hfr.stp hs;have n8:=n8.stp hs;have l9:=l9.stp hs;have n9:=n9.stp hs rfl;have t5:=t5.stp hs;refine Z4 (Za (Zo jH rfl ?_));obtain ⟨yF,oE,h⟩:=Z3 h;have aK:=Cz (Iu (p:=lE) qp1163) oE;refine Zz ((Hj (Rq lE 8) 0 (Int.toNat ((8:Nat):Int)) 1)) (Ri (p:=lE) underlying80 sizeOf5 rfl qp1163 rfl oE) rfl ?_;obtain ⟨zD,nI,h⟩:=Z3 h;refine Z6 rfl (Ql (g:=gp1163) (i:=1002) underlying50 Cr rfl rfl n9 l9 rfl aK nI fun bK nL kG hs o1166 cK _=>?_);have hfr:=hfr.stp hs;have n8:=n8.stp hs;have t5:=t5.stp hs;refine Zg kG rfl rfl ?_;exact Zb (Tc (Zd (sI (zD) _ _ ⟨bK,(kG),hfr,gH,n8,rfl,cK,o1166,dF,t5,eF,rF⟩ h)))
    ·rintro vB xK oL ⟨dK, mH, hfr, nH, oH, pH, qH, sH, sF, tF, uF, vF⟩ h
     refine Za (Gf (Iz ((w64 (o0 + (1:Int))))) vF rfl rfl rfl (Zn (Iz ((w64 (o0 + (1:Int))))) rfl rfl ?_));exact Z4 (qI (vB,(w64 (o0 + (1:Int)))) _ _ ⟨dK,(mH),hfr,nH,oH,pH,qH,sH,sF,tF,uF,rfl⟩ h)
   ·refine G8 aE rfl (Tu (Gy (Gy (G9 ?_))))
    exact Zd (pI (aB) _ _ ⟨uE,(mB),hfr,bD,g8,l8⟩ h)
  ·rintro oD yK xL ⟨yL, yD, hfr, tH, uH, qK⟩ h
   refine Z7 (Zo tH rfl (Zg yD rfl rfl (Zg (Iz (0)) rfl rfl (Zg (Iz (0)) rfl rfl (Z4 (Gd ?_))))));obtain rfl:=sinj h;exact Y9 rfl rfl (rq yD) (rq (Iz (0))) (rq (Iz (0))) ⟨_,hfr,_,_,_,rfl,uH,rfl,rfl⟩
theorem v49_0 {iO:Nat} {gI:Gh} {wI:World} {x0:TieHarness} {x1:Design} {up0:Value} (rp0:RV gI.m wI x0 up0) {up1:Value} (rp1:RV gI.m wI x1 up1) {r:(List Str) × Int} (h:f49 x0 x1=some r):FnG prog 49 #[up0,up1] gI wI (fun g w v=>∃ y0 y1,v=.tuple #[y0,y1]∧OM iO g w 9 (r.1) y0∧y1=Iz (r.2)):=by
 unfold f49 at h;refine Uf func49 rfl (Nat.le_of_ble_eq_true rfl) fun g0 hm hfr=>?_;have rp0:=RVc hm rp0;have rp1:=RVc hm rp1;show E _ 43 none _ _ _ _ _;refine Z7 (Z6 rfl (Tq (g:=g0) rfl rp0 fun g1 w1 p1 hs q1=>?_));have hfr:=hfr.ext hs;have rp1:=rp1.ext hs;refine Z6 rfl (Tq (g:=g1) rfl rp1 fun g2 w2 p2 hs q2=>?_);have hfr:=hfr.ext hs;have q1:=q1.ext hs;refine Zg (.slice none 0 0) rfl rfl (Zg (Iz (0)) rfl rfl (Z4 (Zq h (fun (s:Unit) e w=>∃ (g:Gh) ,Fr gI wI g w∧e 2=p1∧PT g.m w (x0:TieHarness) p1∧e 3=p2∧PT g.m w (x1:Design) p2∧e 4=.slice none 0 0∧RV g.m w ([]:List Str) (Value.slice none 0 0)) (fun X7 k7 hk7 h=>?_) ?_)))
 ·refine Z7 (Z6 rfl (Z9 (g := g2) isAgg26 sizeOf26 rfl q1 fun v8 r8 => ?_))
  obtain ⟨aB,mG,h⟩:=Z3 h;refine Z6 rfl (Zp (g:=g2) (vs:=[v8]) en35 (.cons rfl .nil) (wk35 r8 mG) fun g9 w9_ v9 hs hr=>?_);have hfr:=hfr.ext hs;have q1:=q1.ext hs;have q2:=q2.ext hs;subst hr;refine Zg (Iz (aB)) rfl rfl (Z4 (Z7 (Zn (Iz (aB)) rfl rfl (Gf (.bool ((aB != (0:Int)))) rfl rfl rfl rfl (Z4 ?_)))));rcases Zt h with ⟨cC,h⟩ | ⟨cC,h⟩
  ·refine G5 cC rfl (Z7 (Zn (Iz (aB)) rfl rfl (Zg (.slice none 0 0) rfl rfl (Zg (Iz (aB)) rfl rfl (Z4 (Gd (Gq ?_)))))))
   obtain rfl:=sinj h;obtain ⟨gh,hxh,homh⟩:=OM.handn (i:=iO) (t:=9) (α:=Str) hfr;exact Yq rfl rfl (rq (.slice none 0 0)) (rq (Iz (aB))) ⟨gh,hxh,_,_,rfl,homh,rfl⟩
  ·refine G8 cC rfl ?_
   exact Zu (Zd (hk7 () _ _ ⟨g9,hfr,rfl,q1,rfl,q2,rfl,Qi⟩ h))
 ·rintro _ bI nI ⟨cG, hfr, cD, n8, lB, i6, vE, mB⟩ h
  refine Zq h (fun (s:Unit) e w=>∃ (g:Gh) ,Fr gI wI g w∧e 2=p1∧PT g.m w (x0:TieHarness) p1∧e 3=p2∧PT g.m w (x1:Design) p2∧e 4=.slice none 0 0∧RV g.m w ([]:List Str) (Value.slice none 0 0)) (fun X22 pI sG h=>?_) ?_
  ·refine Z7 (Z6 rfl (Z9 (g := cG) isAgg28 sizeOf28 lB i6 fun gH jH => ?_))
   obtain ⟨l9,xG,h⟩:=Z3 h;refine Z6 rfl (Zp (g:=cG) (vs:=[gH]) en84 (.cons rfl .nil) (wk84 jH xG) fun aE dI qI hs hr=>?_);have hfr:=hfr.ext hs;have n8:=n8.ext hs;have i6:=i6.ext hs;have mB:=mB.ext hs;subst hr;refine Zg (Iz (l9)) rfl rfl (Z4 (Zr (Z7 (Zn (Iz (l9)) rfl rfl (Gf (.bool ((l9 != (0:Int)))) rfl rfl rfl rfl (Zg (.bool ((l9 != (0:Int)))) rfl rfl (Z4 ?_)))))));rcases Zt h with ⟨uC,h⟩ | ⟨uC,h⟩
   ·refine G5 uC rfl (Z7 (Zn (Iz (l9)) rfl rfl (Zg (.slice none 0 0) rfl rfl (Zg (Iz (l9)) rfl rfl (Z4 (Gd (Tg (Gq ?_))))))))
    obtain rfl:=sinj h;obtain ⟨gh,hxh,homh⟩:=OM.handn (i:=iO) (t:=9) (α:=Str) hfr;exact Yq rfl rfl (rq (.slice none 0 0)) (rq (Iz (l9))) ⟨gh,hxh,_,_,rfl,homh,rfl⟩
   ·refine G8 uC rfl (Z7 (Zz (Ga p2 0) (Zc Ki lB (PT.ptr i6)) rfl ?_))
    have kH:=Zm (Qb).1 i6;refine Z6 rfl (Z9 (g:=aE) isAgg3 sizeOf3 rfl kH fun sI lH=>?_);obtain rfl:=Zj.1 lH;refine Zz (Ga p1 0) (Zc Jt cD (PT.ptr n8)) rfl ?_;have mH:=Zm (Qh).1 n8;refine Z6 rfl (Z9 (g:=aE) isAgg3 sizeOf3 rfl mH fun jJ nH=>?_);obtain rfl:=Zj.1 nH;refine Gf (.bool (((x1).Hooks != (x0).Hooks))) rfl rfl rfl rfl (Zg (.bool (((x1).Hooks != (x0).Hooks))) rfl rfl (Z4 ?_));rcases Zt h with ⟨vC,h⟩ | ⟨vC,h⟩
    ·refine G5 vC rfl (Z7 (Zg (.slice none 0 0) rfl rfl (Zg (Iz (4)) rfl rfl (Z4 (Gd (Tg (Gq ?_)))))))
     obtain rfl:=sinj h;obtain ⟨gh,hxh,homh⟩:=OM.handn (i:=iO) (t:=9) (α:=Str) hfr;exact Yq rfl rfl (rq (.slice none 0 0)) (rq (Iz (4))) ⟨gh,hxh,_,_,rfl,homh,rfl⟩
    ·refine G8 vC rfl ?_
     exact Zu (Tc (Zd (sG () _ _ ⟨aE,hfr,cD,n8,lB,i6,vE,mB⟩ h)))
  ·rintro _ iI kJ ⟨eG, hfr, xE, yE, zE, lD, cF, dF⟩ h
   obtain ⟨nD,hx,h⟩:=Z3 h;refine Gs (fun e w=>∃ (g:Gh) (v4:Value),Fr gI wI g w∧e 4=v4∧RV g.m w (nD:List Str) v4∧OS 1004 g w 9 (nD:List Str) v4) (fun Q' hQ=>?_) (fun jI lJ hR=>?_)
   ·replace h := hx
    clear hx;refine Z7 (Zz (Ga p2 1) (Zc Kb zE (PT.ptr lD)) rfl ?_);have oH:=Zm (T4).1 lD;refine Z6 rfl (Z9 (g:=eG) isAgg24 sizeOf24 rfl oH fun oB gG=>(Zz (Iz (((x1).Rows).length:Int)) (Tr underlying24 rfl gG) rfl (Zn (Iz (0)) rfl rfl (Z4 (Zr (Wo h (fun (s:(List Str) × Int) e w=>∃ (g:Gh) (v4:Value),Fr gI wI g w∧e 2=p1∧PT g.m w (x0:TieHarness) p1∧e 4=v4∧RV g.m w (s.1:List Str) v4∧OS 1004 g w 9 (s.1:List Str) v4∧e 28=oB∧RV g.m w ((x1).Rows:List Int) oB∧e 29=Iz ((((x1).Rows).length:Int))∧e 30=Iz (s.2)) ⟨eG,(.slice none 0 0),hfr,xE,yE,cF,dF,OS.nil,rfl,gG,rfl,rfl⟩ (fun X61 mJ yG=>?_)))))));rintro ⟨aI,t5⟩ kI nJ ⟨vB,eF,hfr,oD,l5,yD,g8,l8,yB,o0,zB,n9⟩ h;refine Z7 (Zz (.bool ((decide (t5 < (((x1).Rows).length:Int))))) (Gx n9 zB rfl) rfl (Z4 (Zf ?_)));rcases Zt h with ⟨bD,h⟩ | ⟨bD,h⟩
    ·refine G5 bD rfl (Zu (Zd ?_))
     obtain ⟨nB,hx,h⟩:=Z3 h;refine Gs (fun e w=>∃ (g:Gh) (v4:Value),Fr gI wI g w∧e 2=p1∧PT g.m w (x0:TieHarness) p1∧e 4=v4∧RV g.m w (nB:List Str) v4∧OS 1004 g w 9 (nB:List Str) v4∧e 28=oB∧RV g.m w ((x1).Rows:List Int) oB∧e 29=Iz ((((x1).Rows).length:Int))∧e 30=Iz (t5)) (fun Q' hQ=>?_) (fun lI oJ hR=>?_)
     ·replace h := hx
      clear hx;refine Zr (Z7 ?_);obtain ⟨bE,iE,h⟩:=Z3 h;refine Zz (Tb oB t5 1) (Zh (α:=Int) underlying24 sizeOf3 yB o0 n9 iE) rfl ?_;have pH:=Tp o0 iE;refine Z6 rfl (Z9 (g:=vB) isAgg3 sizeOf3 rfl pH fun pJ qH=>?_);obtain rfl:=Zj.1 qH;refine Zg (Iz (bE)) rfl rfl (Z4 (Za (Zo yD rfl (Z6 rfl (Z9 (g:=vB) isAgg26 sizeOf26 oD l5 fun lE iG=>?_)))));have jG:RV vB.m _ (⟨x0⟩:Qo) (.agg (G3 [[Iz 0,.slice none 0 0]] [(0,lE)]).flatten.toArray):=G2 rfl (G6 (RV.cells iG));generalize zG:(Value.agg (G3 [[Iz 0,.slice none 0 0]] [(0,lE)]).flatten.toArray)=kG at jG;refine Zz kG (zG ▸ Tf (vs:=[(0,lE)]) [[Iz 0,.slice none 0 0]] A3 rfl rfl (.cons rfl .nil) ⟨⟨_,rfl,G4 iG⟩,trivial⟩) rfl (Zn (Iz (bE)) rfl rfl ?_);obtain ⟨y81,aH,h⟩:=Z3 h;refine Z6 rfl (Zp (g:=vB) (vs:=[kG,Iz (bE)]) en85 (.cons rfl (.cons rfl .nil)) (wk85 jG aH) fun sH mI qJ hs hr=>?_);have hfr:=hfr.ext hs;have l5:=l5.ext hs;have g8:=g8.ext hs;have l8:=l8.ext hs;have o0:=o0.ext hs;subst hr;refine Z6 rfl (Gb (g:=sH) 3039 (xs:=([y81]:List Str)) (vs:=[Str.v (y81)]) underlying61 sizeOf9 zeroValue9 rfl rfl (.cons rfl .nil) (RVs.cons (Qt.2 rfl) RVs.nil) rfl rfl fun tH rJ sJ hs o82 uH hxt hfl=>?_);have hfr:=hfr.stp hs;have l5:=l5.stp hs;have g8:=g8.stp hs;have l8:=l8.stp hs rfl;have o0:=o0.stp hs;obtain ⟨y84,cH,h⟩:=Z3 h;refine Z6 rfl (Ql (g:=tH) (i:=1004) underlying61 Xf rfl rfl l8 g8 rfl uH cH fun xH vJ lG hs o83 yH _=>?_);have hfr:=hfr.stp hs;have l5:=l5.stp hs;have o0:=o0.stp hs;refine Zg lG rfl rfl (Zb (Tc ?_));obtain rfl:=sinj h;exact hQ _ _ ⟨xH,(lG),hfr,oD,l5,rfl,yH,o83,yB,o0,zB,n9⟩
     ·clear hx
      obtain ⟨zH,rF,hfr,sF,tF,uF,vF,xF,mE,oE,rE,uE⟩:=hR;refine Za (Gf (Iz ((w64 (t5 + (1:Int))))) uE rfl rfl rfl (Zn (Iz ((w64 (t5 + (1:Int))))) rfl rfl ?_));exact Z4 (yG (nB,(w64 (t5 + (1:Int)))) _ _ ⟨zH,(rF),hfr,sF,tF,uF,vF,xF,mE,oE,rE,rfl⟩ h)
    ·refine G8 bD rfl (Tu (Gy (Gy (G9 ?_))))
     obtain rfl:=sinj h;exact hQ _ _ ⟨vB,(eF),hfr,yD,g8,l8⟩
   ·clear hx
    obtain ⟨xJ,zD,hfr,yF,aG,bG⟩:=hR;refine Z7 (Zo yF rfl (Zg zD rfl rfl (Zg (Iz (0)) rfl rfl (Z4 (Gd ?_)))));obtain rfl:=sinj h;obtain ⟨gh,hxh,homh⟩:=OM.hand (i:=iO) Bj hfr bG aG;exact Yq rfl rfl (rq zD) (rq (Iz (0))) ⟨gh,hxh,_,_,rfl,homh,rfl⟩
def f29 (x0:List UInt8):Option ((List Z5) × Int):=
 jn (σ:=Unit) (fun _=>
  (Fm 8 x0).bind fun y5=>
  jn (σ:=Unit) (fun _=>
   Option.bind (α:=(List Z5)) (
    lp (σ:=(List Z5) × Int) (fun dF (yB,l5)=>
     bif (decide (l5 < (8 : Int))) then
      Option.bind (α:=(List Z5)) (
       lp (σ:=(List Z5) × Int) (fun eF (lB,l8)=>
        bif (decide (l8 < (256 : Int))) then
         Option.bind (α:=(List Z5)) (
          (idx (y5).toList l5).bind fun qH=>
          (f63 ((Od y5 l5 ((u8w l8))))).bind fun v8=>
          bif (v8.2 == (0 : Int)) then
           (apnd 40 lB (([v8.1]:List Z5))).bind fun rF=>
           some (rF)
          else
           some (lB)
          ) fun l9=>
         eF (l9,(w64 (l8 + (1:Int))))
        else
         some (lB)
        ) big (yB,(0:Int))
       ) fun n9=>
      dF (n9,(w64 (l5 + (1:Int))))
     else
      some (yB)
     ) big ([],(0:Int))
    ) fun mB=>
   some (mB,(0:Int))
   ) fun pH=>
  (f63 y5).bind fun zB=>
  bif (zB.2 == (0 : Int)) then
   some ([],(6:Int))
  else
   pH ()
  ) fun k2=>
 bif (((x0).length : Int) != (8 : Int)) then
  some ([],(4:Int))
 else
  k2 ()
theorem en29:Enters prog 29:=enters_of func29 (by kernel_rfl) rfl
theorem wk29 {gI:Gh} {wI:World} {x0:List UInt8} {up0:Value} (rp0:RV gI.m wI x0 up0) {r:(List Z5) × Int} (h:f29 x0=some r):Fn prog 29 #[up0] gI wI (fun m w v=>∃ y0 y1,v=.tuple #[y0,y1]∧RV m w (r.1) y0∧y1=Iz (r.2)):=by
 unfold f29 at h;refine fnE func29 rfl rfl fun g0 hm hfr=>?_;have rp0:=RVc hm rp0;show E _ 50 none _ _ _ _ _;refine Z7 (Zg (.slice none 0 0) rfl rfl (Zg (Iz (0)) rfl rfl (Z4 (Zq h (fun (s:Unit) e w=>∃ (g:Gh) ,Fr gI wI g w∧e 0=up0∧RV g.m w (x0:List UInt8) up0∧e 2=.slice none 0 0∧RV g.m w ([]:List Z5) (Value.slice none 0 0)) (fun X2 k2 hk2 h=>?_) ?_))))
 ·refine Z7 (Zn up0 rfl rfl (Zz (Iz ((x0).length : Int)) (Tr underlying50 rfl rp0) rfl (Gf (.bool ((((x0).length : Int) != (8 : Int)))) rfl rfl rfl rfl (Z4 ?_))))
  rcases Zt h with ⟨hc3,h⟩ | ⟨hc3,h⟩
  ·refine G5 hc3 rfl (Z7 (Zg (.slice none 0 0) rfl rfl (Zg (Iz (4)) rfl rfl (Z4 (Gd (Gq ?_))))))
   obtain rfl:=sinj h;exact Yq rfl rfl (rq (.slice none 0 0)) (rq (Iz (4))) ⟨_,hfr,_,_,rfl,Qi,rfl⟩
  ·refine G8 hc3 rfl ?_
   exact Zu (Zd (hk2 () _ _ ⟨g0,hfr,rfl,rp0,rfl,Qi⟩ h))
 ·rintro _ iL w4 ⟨g4, hfr, sH, sF, tH, n8⟩ h
  refine Z7 (Zo sH rfl ?_);obtain ⟨y5,hy5,h⟩:=Z3 h;have q6:=Lh sF hy5;refine Zz ((Io up0)) (Mf underlying80 rfl sF hy5) rfl (Z6 rfl (Z9 (g:=g4) isAgg80 sizeOf80 rfl q6 fun v7 r7=>(Z6 rfl (Gw (g:=g4) 2004 ((⟨List.toArray [0,0,0,0,0,0,0,0],rfl⟩:Vector UInt8 8):Vector UInt8 8) zeroValue80 (fun m w=>⟨_,(Y5 (Zw Qe (Zw Qe (Zw Qe (Zw Qe (Zw Qe (Zw Qe (Zw Qe (Zw Qe Yh)))))))) rfl),rfl⟩) fun g8 w8 p8 hs b8 cb=>?_))));have hfr:=hfr.stp hs;have n8:=n8.stp hs;have r7:=r7.stp hs;clear cb;refine Z6 rfl (Gk (g:=g8) (v:=v7) sizeOf80 rfl b8 rfl r7 fun g9 w9 hs b9 cb=>?_);clear cb;have hfr:=hfr.stp hs;have n8:=n8.stp hs;refine Z4 (Zq h (fun (s:Unit) e w=>∃ (g:Gh) ,Fr gI wI g w∧e 2=.slice none 0 0∧RV g.m w ([]:List Z5) (Value.slice none 0 0)∧e 4=p8∧OB 2004 g w 80 (y5:Vector UInt8 8) p8) (fun X16 pH uH h=>?_) ?_)
  ·refine Z7 (Z6 rfl (T3 (g := g9) isAgg80 sizeOf80 rfl b9 fun lJ mJ => ?_))
   obtain ⟨zB,xH,h⟩:=Z3 h;refine Z6 rfl (Zp (g:=g9) (vs:=[lJ]) en63 (.cons rfl .nil) (wk63 mJ xH) fun nJ lK jL hs hr=>?_);have hfr:=hfr.ext hs;have n8:=n8.ext hs;have b9:=b9.ext hs;obtain ⟨cD,vJ,rfl,lD,rfl⟩:=hr;refine Zn (.tuple #[cD,Iz (zB.2)]) rfl rfl (Zz cD (Zi rfl rfl) rfl (Zz (Iz (zB.2)) (Zi rfl rfl) rfl (Z6 rfl (Gw (g:=nJ) 2005 (⟨0,0,0,0,0⟩:Z5) zeroValue55 (fun m w=>⟨_,(Gi Zx (Gi Zx (Gi Zx (Gi Zx Zx)))),rfl⟩) fun oJ lL mL hs b20 cb=>?_))));have hfr:=hfr.stp hs;have n8:=n8.stp hs;have b9:=b9.stp hs rfl;have lD:=lD.stp hs;clear cb;refine Z6 rfl (Gk (g:=oJ) (v:=cD) sizeOf55 rfl b20 rfl lD fun pJ nL hs b21 cb=>?_);clear cb;have hfr:=hfr.stp hs;have n8:=n8.stp hs;have b9:=b9.stp hs rfl;refine Zg (Iz (zB.2)) rfl rfl (Z4 (Z7 (Zn (Iz (zB.2)) rfl rfl (Gf (.bool ((zB.2 == (0:Int)))) rfl rfl rfl rfl (Z4 ?_)))));rcases Zt h with ⟨oE,h⟩ | ⟨oE,h⟩
   ·refine G5 oE rfl (Z7 (Zg (.slice none 0 0) rfl rfl (Zg (Iz (6)) rfl rfl (Z4 (Gd (Gq ?_))))))
    obtain rfl:=sinj h;exact Yq rfl rfl (rq (.slice none 0 0)) (rq (Iz (6))) ⟨_,hfr,_,_,rfl,Qi,rfl⟩
   ·refine G8 oE rfl ?_
    exact Zu (Zd (uH () _ _ ⟨pJ,hfr,tH,n8,rfl,b9⟩ h))
  ·rintro _ mK oL ⟨qJ, hfr, cH, gH, jH, kH⟩ h
   obtain ⟨mB,hx,h⟩:=Z3 h;refine Gs (fun e w=>∃ (g:Gh) (v2:Value),Fr gI wI g w∧e 2=v2∧RV g.m w (mB:List Z5) v2∧OS 1002 g w 55 (mB:List Z5) v2) (fun Q' hQ=>?_) (fun xJ nK hR=>?_)
   ·replace h := hx
    clear hx;refine Z7 (Zn (Iz (0)) rfl rfl (Z4 (Zr (Wo h (fun (s:(List Z5) × Int) e w=>∃ (g:Gh) (v2:Value),Fr gI wI g w∧e 2=v2∧RV g.m w (s.1:List Z5) v2∧OS 1002 g w 55 (s.1:List Z5) v2∧e 4=p8∧OB 2004 g w 80 (y5:Vector UInt8 8) p8∧e 25=Iz (s.2)) ⟨qJ,(.slice none 0 0),hfr,cH,gH,OS.nil,jH,kH,rfl⟩ (fun X101 dF lH=>?_)))));rintro ⟨yB,l5⟩ zJ oK ⟨tF,zD,hfr,aE,bE,iE,uF,vF,oB⟩ h;refine Z7 (Gf (.bool ((decide (l5 < (8:Int))))) oB rfl rfl rfl (Z4 (Zf ?_)));rcases Zt h with ⟨nD,h⟩ | ⟨nD,h⟩
    ·refine G5 nD rfl (Zu (Zd ?_))
     obtain ⟨n9,hx,h⟩:=Z3 h;refine Gs (fun e w=>∃ (g:Gh) (v2:Value),Fr gI wI g w∧e 2=v2∧RV g.m w (n9:List Z5) v2∧OS 1002 g w 55 (n9:List Z5) v2∧e 4=p8∧OB 2004 g w 80 (y5:Vector UInt8 8) p8∧e 25=Iz (l5)) (fun Q' hQ=>?_) (fun aK pK hR=>?_)
     ·replace h := hx
      clear hx;refine Zr (Z7 (Zo oB rfl (Zg (Iz (l5)) rfl rfl (Z4 (Z7 (Zn (Iz (0)) rfl rfl (Z4 (Zr (Wo h (fun (s:(List Z5) × Int) e w=>∃ (g:Gh) (v2:Value),Fr gI wI g w∧e 2=v2∧RV g.m w (s.1:List Z5) v2∧OS 1002 g w 55 (s.1:List Z5) v2∧e 4=p8∧OB 2004 g w 80 (y5:Vector UInt8 8) p8∧e 7=Iz (l5)∧e 25=Iz (l5)∧e 28=Iz (s.2)) ⟨tF,(zD),hfr,aE,bE,iE,uF,vF,rfl,oB,rfl⟩ (fun X140 eF mH=>?_))))))))));rintro ⟨lB,l8⟩ bK qK ⟨rE,lE,hfr,cC,t5,i6,nB,o0,uC,vB,aB⟩ h;refine Z7 (Gf (.bool ((decide (l8 < (256:Int))))) aB rfl rfl rfl (Z4 (Zf ?_)));rcases Zt h with ⟨oD,h⟩ | ⟨oD,h⟩
      ·refine G5 oD rfl (Zu (Zd ?_))
       obtain ⟨l9,hx,h⟩:=Z3 h;refine Gs (fun e w=>∃ (g:Gh) (v2:Value),Fr gI wI g w∧e 2=v2∧RV g.m w (l9:List Z5) v2∧OS 1002 g w 55 (l9:List Z5) v2∧e 4=p8∧OB 2004 g w 80 (y5:Vector UInt8 8) p8∧e 7=Iz (l5)∧e 25=Iz (l5)∧e 28=Iz (l8)) (fun Q' hQ=>?_) (fun cK sK hR=>?_)
       ·replace h := hx
        clear hx;refine Zr (Z7 (Zo aB rfl (Zg (Iz (l8)) rfl rfl (Z4 (Z7 (Z6 rfl (T3 (g:=rE) isAgg80 sizeOf80 nB o0 fun yH uE=>(Z6 rfl (Gw (g:=rE) 2009 ((⟨List.toArray [0,0,0,0,0,0,0,0],rfl⟩:Vector UInt8 8):Vector UInt8 8) zeroValue80 (fun m w=>⟨_,(Y5 (Zw Qe (Zw Qe (Zw Qe (Zw Qe (Zw Qe (Zw Qe (Zw Qe (Zw Qe Yh)))))))) rfl),rfl⟩) fun zH tK aI hs b160 cb=>?_)))))))));have hfr:=hfr.stp hs;have t5:=t5.stp hs;have i6:=i6.stp hs rfl;have o0:=o0.stp hs rfl;have uE:=uE.stp hs;clear cb;refine Z6 rfl (Gk (g:=zH) (v:=yH) sizeOf80 rfl b160 rfl uE fun bI uK hs b161 cb=>?_);clear cb;have hfr:=hfr.stp hs;have t5:=t5.stp hs;have i6:=i6.stp hs rfl;have o0:=o0.stp hs rfl;refine Z4 (Z7 (Zo uC rfl (Zn (Iz (l8)) rfl rfl (Zz (.int .u8 (UInt8.toNat ((u8w l8)))) (Yt underlying3 underlying5 rfl) rfl ?_))));obtain ⟨qH,xE,h⟩:=Z3 h;obtain ⟨hi163,he163⟩:=Ez xE;refine Zz (Ga aI ((l5:Int).toNat * 1)) (Tw (α:=UInt8) underlying80 sizeOf5 rfl (OB.ptr b161) rfl xE) rfl (Z6 rfl (Qg (g:=bI) (Gp.dyn hi163) sizeOf5 rfl b161 rfl (Qz.2 rfl) fun xF vK hs b164 rst hos=>?_));clear rst hos;have hfr:=hfr.stp hs;have t5:=t5.stp hs;have i6:=i6.stp hs rfl;have o0:=o0.stp hs rfl;refine Z4 (Z7 (Z6 rfl (T3 (g:=xF) isAgg80 sizeOf80 rfl b164 fun dI iI=>?_)));obtain ⟨v8,nH,h⟩:=Z3 h;refine Z6 rfl (Zp (g:=xF) (vs:=[dI]) en63 (.cons rfl .nil) (wk63 iI nH) fun jI dK xK hs hr=>?_);have hfr:=hfr.ext hs;have t5:=t5.ext hs;have i6:=i6.ext hs;have o0:=o0.ext hs;obtain ⟨vC,rJ,rfl,bD,rfl⟩:=hr;refine Zn (.tuple #[vC,Iz (v8.2)]) rfl rfl (Zz vC (Zi rfl rfl) rfl (Zz (Iz (v8.2)) (Zi rfl rfl) rfl (Z6 rfl (Gw (g:=jI) 2010 (⟨0,0,0,0,0⟩:Z5) zeroValue55 (fun m w=>⟨_,(Gi Zx (Gi Zx (Gi Zx (Gi Zx Zx)))),rfl⟩) fun kI yK zK hs b168 cb=>?_))));have hfr:=hfr.stp hs;have t5:=t5.stp hs;have i6:=i6.stp hs rfl;have o0:=o0.stp hs rfl;have bD:=bD.stp hs;clear cb;refine Z6 rfl (Gk (g:=kI) (v:=vC) sizeOf55 rfl b168 rfl bD fun vE aL hs b169 cb=>?_);clear cb;have hfr:=hfr.stp hs;have t5:=t5.stp hs;have i6:=i6.stp hs rfl;have o0:=o0.stp hs rfl;refine Zg (Iz (v8.2)) rfl rfl (Z4 (Z7 (Zn (Iz (v8.2)) rfl rfl (Gf (.bool ((v8.2 == (0:Int)))) rfl rfl rfl rfl (Z4 ?_)))));rcases Zt h with ⟨yD,h⟩ | ⟨yD,h⟩
        ·refine G5 yD rfl (Za (Zo cC rfl (Z6 rfl (T3 (g := vE) isAgg55 sizeOf55 rfl b169 fun lI mI => (Z6 rfl (Gb (g := vE) 3045 (xs := ([v8.1] : List Z5)) (vs := [lI]) underlying56 sizeOf55 zeroValue55 rfl rfl (.cons rfl .nil) (RVs.cons mI RVs.nil) rfl rfl fun nI bL dL hs o172 pI hxt hfl => ?_))))))
         have hfr:=hfr.stp hs;have t5:=t5.stp hs;have i6:=i6.stp hs rfl;have o0:=o0.stp hs rfl;obtain ⟨rF,oH,h⟩:=Z3 h;refine Z6 rfl (Ql (g:=nI) (i:=1002) underlying56 C4 rfl rfl i6 t5 rfl pI oH fun qI eL yF hs o173 sI _=>?_);have hfr:=hfr.stp hs;have o0:=o0.stp hs rfl;refine Zg yF rfl rfl (Zb (Tc ?_));obtain rfl:=sinj h;exact hQ _ _ ⟨qI,(yF),hfr,rfl,sI,o173,nB,o0,uC,vB,aB⟩
        ·refine G8 yD rfl (Zu (Tc ?_))
         obtain rfl:=sinj h;exact hQ _ _ ⟨vE,(lE),hfr,cC,t5,i6,nB,o0,uC,vB,aB⟩
       ·clear hx
        obtain ⟨jJ,aG,hfr,bG,cG,eG,gG,iG,jG,yE,zE⟩:=hR;refine Za (Gf (Iz ((w64 (l8 + (1:Int))))) zE rfl rfl rfl (Zn (Iz ((w64 (l8 + (1:Int))))) rfl rfl ?_));exact Z4 (mH (l9,(w64 (l8 + (1:Int)))) _ _ ⟨jJ,(aG),hfr,bG,cG,eG,gG,iG,jG,yE,rfl⟩ h)
      ·refine G8 oD rfl (Tu (Gy (Gy (G9 (Tc ?_)))))
       obtain rfl:=sinj h;exact hQ _ _ ⟨rE,(lE),hfr,cC,t5,i6,nB,o0,vB⟩
     ·clear hx
      obtain ⟨kJ,kG,hfr,lG,mG,sG,xG,yG,cF⟩:=hR;refine Za (Gf (Iz ((w64 (l5 + (1:Int))))) cF rfl rfl rfl (Zn (Iz ((w64 (l5 + (1:Int))))) rfl rfl ?_));exact Z4 (lH (n9,(w64 (l5 + (1:Int)))) _ _ ⟨kJ,(kG),hfr,lG,mG,sG,xG,yG,rfl⟩ h)
    ·refine G8 nD rfl (Tu (Gy (Gy (G9 ?_))))
     obtain rfl:=sinj h;exact hQ _ _ ⟨tF,(zD),hfr,aE,bE,iE⟩
   ·clear hx
    obtain ⟨gL,mE,hfr,zG,aH,sJ⟩:=hR;refine Z7 (Zo zG rfl (Zg mE rfl rfl (Zg (Iz (0)) rfl rfl (Z4 (Gd ?_)))));obtain rfl:=sinj h;exact Yq rfl rfl (rq mE) (rq (Iz (0))) ⟨_,hfr,_,_,rfl,aH,rfl⟩
end Go.Proofs.YtepehlhgkipcoaaGreatDoor
