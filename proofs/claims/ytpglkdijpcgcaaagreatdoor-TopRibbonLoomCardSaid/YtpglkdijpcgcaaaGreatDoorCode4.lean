import Derived.Test.YtpglkdijpcgcaaaGreatDoorCode3
set_option maxRecDepth 8000
set_option maxHeartbeats 4000000
namespace Go.Proofs.YtpglkdijpcgcaaaGreatDoor
open Go.RowKit Tryz
variable {gI:Gh} {wI:World} {up0 up1 up2 up3:Value}
def f9 (x0:LoomMill) (x1:List Z5) (x2:List Z3) (x3:LoomStop):Option ((List Z3) × (List Int) × Int):=
 (f23 x0 x1 x2 x3).bind fun y7=>
 jn (σ:=Unit) (fun _=>
  (f24 x2).bind fun kP=>
  Option.bind (α:=(List Z3)) (
   (f25 x2 x3.Loom).bind fun yB=>
   lp (σ:=(List Z3) × Int × Int) (fun eL (bD,nD,v8)=>
    bif (decide (v8<(yB.length:Int))) then
     Option.bind (α:=(List Z3) × Int) (
      (idx yB v8).bind fun l5=>
      (idx bD l5).bind fun oE=>
      Option.bind (α:=(List Z3)) (
       (Nh bD nD).bind fun nI=>
       bif nI then
        (idx bD nD).bind fun gL=>
        (f26 ((y7.1).mill) gL oE.Order).bind fun jG=>
        some (List.set bD (Int.toNat l5) ({oE with From:=(Jy oE.From jG)}))
       else
        some bD
       ) fun oD=>
      Option.bind (α:=(List Z3)) (
       (idx oD l5).bind fun iL=>
       (f27 y7.1 iL).bind fun mH=>
       bif mH then
        (idx oD l5).bind fun jL=>
        some (List.set oD (Int.toNat l5) ({jL with From:=(w64 ((x3.Days).High+(1:Int)))}))
       else
        some oD
       ) fun kG=>
      some (kG,l5)
      ) fun (rF,yE)=>
     eL (rF,yE,(w64 (v8+(1:Int))))
    else
     some bD
    ) big (kP,(-1),(0:Int))
   ) fun n8=>
  jn (σ:=Unit) (fun _=>
   Option.bind (α:=(List Int)) (
    lp (σ:=(List Int) × Int) (fun lL (sF,aB)=>
     bif (decide (aB<(n8.length:Int))) then
      Option.bind (α:=(List Int)) (
       (idx n8 aB).bind fun iE=>
       (f31 ((y7.1).mill) iE).bind fun lG=>
       (idx x1 iE.Order).bind fun nH=>
       bif (decide (lG>nH.Late)) then
        (apnd 8 sF ([iE.Order]:List Int)).bind fun mL=>
        some mL
       else
        some sF
       ) fun rE=>
      lL (rE,(w64 (aB+(1:Int))))
     else
      some sF
     ) big ([],(0:Int))
    ) fun tF=>
   some (n8,tF,(0:Int))
   ) fun nL=>
  (f30 n8 (fun a0=>f28 a0)).bind fun oL=>
  bif oL then
   some (([]:List Z3),[],(8:Int))
  else
   nL ()
  ) fun lP=>
 bif (y7.2 != (0:Int)) then
  some (([]:List Z3),[],y7.2)
 else
  lP ()
theorem en9:Enters prog 9:=yC func9
theorem wk9 {x0:LoomMill} {x1:List Z5} {x2:List Z3} {x3:LoomStop} (rp0:RV gI.m wI x0 up0) (rp1:RV gI.m wI x1 up1) (rp2:RV gI.m wI x2 up2) (rp3:RV gI.m wI x3 up3) {r:(List Z3) × (List Int) × Int} (h:f9 x0 x1 x2 x3=some r):Fn prog 9 #[up0,up1,up2,up3] gI wI (fun m w v=>∃ y0 y1 y2,v=.tuple #[y0,y1,y2]∧RV m w r.1 y0∧RV m w r.2.1 y1∧y2=I r.2.2):=by
 unfold f9 at h;refine fnE func9 rfl rfl fun g0 hm hfr=>?_;have rp0:=RVc hm rp0;have rp1:=RVc hm rp1;have rp2:=RVc hm rp2;have rp3:=RVc hm rp3;refine Z (G (Tw (g:=g0) rfl rp0 fun g1 w1 p1 hs q1=>?_));have hfr:=hfr.ext hs;have rp1:=rp1.ext hs;have rp2:=rp2.ext hs;have rp3:=rp3.ext hs;refine G (Tw (g:=g1) rfl rp3 fun g2 w2 p2 hs q2=>?_);have hfr:=hfr.ext hs;have rp1:=rp1.ext hs;have rp2:=rp2.ext hs;have q1:=q1.ext hs;refine H (.slice none 0 0) ?_;have b3:OA 4008 g2 w2 57 ([]:List Z3) (.slice none 0 0):=OA.nil;refine H (.slice none 0 0) (H (I 0) (O (Z (G (Ga (g:=g2) isAgg27 sizeOf27 rfl q1 fun v4 r4=>(M up1 (M up2 (G (Ga (g:=g2) isAgg51 sizeOf51 rfl q2 fun v5 r5=>?_)))))))));obtain ⟨y7,iR,h⟩:=Z1 h;refine G (aJ (g:=g2) (vs:=[v4,up1,up2,v5]) en23 (wk23 r4 rp1 rp2 r5 iR) fun g6 w6_ v6 hs hr=>?_);have hfr:=hfr.ext hs;have rp1:=rp1.ext hs;have rp2:=rp2.ext hs;have q2:=q2.ext hs;obtain ⟨pI,yR,rfl,qI,rfl⟩:=hr;refine M (.tuple #[pI,I y7.2]) (Y pI (Zi rfl rfl) (Y (I y7.2) (Zi rfl rfl) (G (Gu (g:=g6) 2011 (⟨⟨⟨[],0⟩,[]⟩,⟨0,⟨0,0⟩⟩⟩:Tj) zeroValue91 (fun m w=>⟨_,(Gg (Gg (Gg Tb Zw) Tb) (Gg Zw (Gg Zw Zw))),rfl⟩) fun g8 w8 p8 hs b8 cb=>?_))));have hfr:=hfr.stp hs;have rp1:=rp1.stp hs;have rp2:=rp2.stp hs;have q2:=q2.stp hs;have qI:=qI.stp hs;have zR:OSF 2011 61100 0 g8 w8 3 91 ([]:List Int) p8:=cb.osf (by rfl);have aS:OSF 2011 61102 2 g8 w8 59 91 ([]:List Z5) p8:=cb.osf (by rfl);clear cb;refine G (Gk (g:=g8) (v:=pI) sizeOf91 rfl b8 rfl qI fun g9 w9 hs b9 cb=>?_);clear cb;have hfr:=hfr.stp hs;have rp1:=rp1.stp hs;have rp2:=rp2.stp hs;have q2:=q2.stp hs;refine H (I y7.2) (O (Zq h (fun (s:Unit)=>xD gI wI fun e w g=>e 1=up1∧RV g.m w (x1:List Z5) up1∧e 2=up2∧RV g.m w (x2:List Z3) up2∧e 7=p2∧PT g.m w (x3:LoomStop) p2∧e 9=.slice none 0 0∧RV g.m w ([]:List Int) (Value.slice none 0 0)∧e 11=p8∧OB 2011 g w 91 (y7.1:Tj) p8) (fun X13 lP nP h=>?_) ?_))
 ·refine Z (M (I y7.2) (aT (.bool (y7.2 != (0:Int))) rfl rfl rfl (O ?_)))
  rcases Zt h with ⟨sI,h⟩ | ⟨sI,h⟩
  ·refine Gz sI rfl (Z (M (I y7.2) (H (.slice none 0 0) ?_)))
   have b15:OA 4008 g9 w9 57 ([]:List Z3) (.slice none 0 0):=OA.nil;refine H (.slice none 0 0) (H (I y7.2) (O (Gb (Gj ?_))));obtain ⟨gp16,hs,rp16⟩:=OM.pub b15.toM;have hfr:=hfr.stp hs;obtain rfl:=sinj h;exact Yi rfl rfl (rq (.slice none 0 0)) (rq (.slice none 0 0)) (rq (I y7.2)) ⟨_,hfr,_,_,_,rfl,rp16,T8,rfl⟩
  ·refine G0 sI rfl ?_
   exact Zu (Zd (nP () _ _ ⟨g9,hfr,rfl,rp1,rfl,rp2,rfl,q2,rfl,T8,rfl,b9⟩ h))
 ·rintro _ bS cU ⟨jR,hfr,kO,uF,nJ,iG,oJ,lE,lO,vF,xL,uE⟩ h
  refine Z (aQ nJ ?_);obtain ⟨kP,oP,h⟩:=Z1 h;refine G (O1 (g:=jR) (vs:=[up2]) en24 (.cons rfl .nil) (v24_0 (iO:=9031) iG oP) fun mP cS o0 hs hr=>?_);have hfr:=hfr.ext hs;have uF:=uF.ext hs;have iG:=iG.ext hs;have lE:=lE.ext hs;have vF:=vF.ext hs;have uE:=uE.ext hs;have hm18:=hr;refine H o0 (O (Z (Y (epV o0 (-1) 3) (Tp (rfl.trans epV_nil)) (O ?_))));obtain ⟨n8,hx,h⟩:=Z1 h;refine Gn (xD gI wI fun e w g=>e 1=up1∧RV g.m w (x1:List Z5) up1∧e 8=o0∧OM 9031 g w 57 (n8:List Z3) o0∧e 9=.slice none 0 0∧RV g.m w ([]:List Int) (Value.slice none 0 0)∧e 11=p8∧OB 2011 g w 91 (y7.1:Tj) p8) (fun Q' hQ=>?_) (fun mR dS hR=>?_)
  ·replace h:=hx
   clear hx;refine Z (aQ nJ (Y (S p2 0) (Zc N3 oJ (PT.ptr lE)) ?_));have pP:=Zm U4.1 lE;refine G (Ga (g:=mP) isAgg3 sizeOf3 rfl pP fun eS sP=>?_);obtain rfl:=Zj.1 sP;obtain ⟨yB,mO,h⟩:=Z1 h;refine G (aJ (g:=mP) (vs:=[up2,I x3.Loom]) en25 (wk25 iG mO) fun tP nR mE hs hr=>?_);have hfr:=hfr.ext hs;have uF:=uF.ext hs;have lE:=lE.ext hs;have vF:=vF.ext hs;have uE:=uE.ext hs;have hm18:=hm18.ext hs;have yL:=hr;refine Y (I (yB.length:Int)) (G7 underlying25 rfl yL) (M (I 0) (O (Zr (Qz h (fun (s:(List Z3) × Int × Int) e w=>∃ (g:Gh) ,Fr gI wI g w∧e 1=up1∧RV g.m w (x1:List Z5) up1∧e 7=p2∧PT g.m w (x3:LoomStop) p2∧e 8=o0∧OM 9031 g w 57 (s.1:List Z3) o0∧e 9=.slice none 0 0∧RV g.m w ([]:List Int) (Value.slice none 0 0)∧e 11=p8∧OB 2011 g w 91 (y7.1:Tj) p8∧e 12=epV o0 s.2.1 3∧e 35=mE∧RV g.m w (yB:List Int) mE∧e 36=I (yB.length:Int)∧e 37=I s.2.2) ⟨tP,hfr,kO,uF,oJ,lE,rfl,hm18,lO,vF,xL,uE,rfl,rfl,yL,rfl,rfl⟩ (fun X401 eL nO=>?_)))));rintro ⟨bD,nD,v8⟩ oR gS ⟨oH,hfr,mG,cD,aI,yD,xF,t5,sG,lD,zE,nB,gH,yF,oB,aG,cF⟩ h;refine Z (aT (.bool (decide (v8<(yB.length:Int)))) cF aG rfl (O (Zf ?_)));rcases Zt h with ⟨pH,h⟩ | ⟨pH,h⟩
   ·refine Gz pH rfl (Zu (Zd ?_))
    obtain ⟨⟨rF,yE⟩,hx,h⟩:=Z1 h;refine Gn (xD gI wI fun e w g=>e 1=up1∧RV g.m w (x1:List Z5) up1∧e 7=p2∧PT g.m w (x3:LoomStop) p2∧e 8=o0∧OM 9031 g w 57 (rF:List Z3) o0∧e 9=.slice none 0 0∧RV g.m w ([]:List Int) (Value.slice none 0 0)∧e 11=p8∧OB 2011 g w 91 (y7.1:Tj) p8∧e 12=epV o0 yE 3∧e 35=mE∧RV g.m w (yB:List Int) mE∧e 36=I (yB.length:Int)∧e 37=I v8) (fun Q' hQ=>?_) (fun pR iS hR=>?_)
    ·replace h:=hx
     clear hx;refine Zr (Z ?_);obtain ⟨l5,pJ,h⟩:=Z1 h;refine Y (Gy mE v8 1) (Zh (α:=Int) underlying25 sizeOf3 yF oB cF pJ) ?_;have uP:=G1 oB pJ;refine G (Ga (g:=oH) isAgg3 sizeOf3 rfl uP fun jS vP=>?_);obtain rfl:=Zj.1 vP;refine H (I l5) (O (Z (aQ xF (M (I l5) ?_))));obtain ⟨oE,vB,h⟩:=Z1 h;refine Y (Gy o0 l5 3) (Tt (α:=Z3) underlying38 sizeOf57 rfl t5 rfl vB) (H (Gy o0 l5 3) (O ?_));obtain ⟨oD,hx,h⟩:=Z1 h;refine Gn (xD gI wI fun e w g=>e 1=up1∧RV g.m w (x1:List Z5) up1∧e 7=p2∧PT g.m w (x3:LoomStop) p2∧e 8=o0∧OM 9031 g w 57 (oD:List Z3) o0∧e 9=.slice none 0 0∧RV g.m w ([]:List Int) (Value.slice none 0 0)∧e 11=p8∧OB 2011 g w 91 (y7.1:Tj) p8∧e 15=Gy o0 l5 3∧e 35=mE∧RV g.m w (yB:List Int) mE∧e 36=I (yB.length:Int)∧e 37=I v8) (fun Q' hQ=>?_) (fun qR lS hR=>?_)
     ·replace h:=hx
      clear hx;refine Z (aQ gH ?_);obtain ⟨nI,oO,h⟩:=Z1 h;refine Y (.bool nI) (P_epne underlying94 t5 rfl rfl oO) (O ?_);rcases Zt h with ⟨qH,h⟩ | ⟨qH,h⟩
      ·refine Gz qH rfl ?_
       obtain ⟨pb653,po653,pe653⟩:=OM.ptrE (k:=3) t5 vB;obtain ⟨pb655,po655,pe655⟩:=OM.ptrE (k:=3) t5 vB;refine Dw (x:=.tmp 49) Ty.1 isAgg3 sizeOf3 t5 vB fun mS xP pO=>?_;obtain rfl:=Zj.1 xP;refine We (x:=.tmp 51) Jg.1 isAgg80 sizeOf80 nB fun zL yP qO=>?_;obtain ⟨gL,sH,h⟩:=Z1 h;obtain ⟨pb660,po660,pe660⟩:=OM.ptrE (k:=3) t5 sH;refine Yw (x:=.tmp 54) isAgg57 sizeOf57 t5 sH fun aM zP rO=>?_;obtain ⟨pb662,po662,pe662⟩:=OM.ptrE (k:=3) t5 vB;obtain ⟨pb664,po664,pe664⟩:=OM.ptrE (k:=3) t5 vB;refine Dw (x:=.tmp 58) T6.1 isAgg3 sizeOf3 t5 vB fun nS bQ sO=>?_;obtain rfl:=Zj.1 bQ;obtain ⟨jG,tO,h⟩:=Z1 h;obtain ⟨pb668,po668,pe668⟩:=OM.ptrE (k:=3) t5 vB;obtain ⟨pb670,po670,pe670⟩:=OM.ptrE (k:=3) t5 vB;refine ab (g:=oH) (n:=18) [(14,(fun v g w=>v=I jG))] [0,1,2,3,4,5,6,7,8,9,10,11,12,13,14,15,16,17] mixed (⟨fun _=>Ww _,trivial⟩) (V (Gy o0 l5 3) rfl (ai) (V (Gy o0 l5 3) rfl (ai) (V (Gy o0 l5 3) rfl (Y3 rfl pe653) (V (S (Gy o0 l5 3) 2) rfl (aa Ws ⟨_,_,pe655⟩) (G3 (c:=I oE.From) rfl rfl .plain xB pO rfl (V (S p8 0) rfl (Zc F7 zE (OB.ptr nB)) (G3 (c:=zL) rfl rfl .plain xB qO rfl (V (epV o0 nD 3) rfl (Zk gH) (V (Gy o0 nD 3) rfl (Y3 (rfl.trans (Pr sH)) pe660) (G3 (c:=aM) rfl rfl .plain xB rO rfl (V (Gy o0 l5 3) rfl (ai) (V (Gy o0 l5 3) rfl (Y3 rfl pe662) (V (S (Gy o0 l5 3) 0) rfl (aa Kw ⟨_,_,pe664⟩) (G3 (c:=I oE.Order) rfl rfl .plain xB sO rfl (Wd (φ:=fun v g w=>v=I jG) rfl rfl .plain (fun g w hd=>aJ (g:=g) (vs:=[zL,aM,I oE.Order]) en26 (wk26 (yP.ext hd.1) (zP.ext hd.1) tO) fun g' w' v hs hr=>⟨g',hs,hr⟩) (fun oS hv=>?_))))))))))))))));obtain ⟨_,_,_,rfl⟩:=hv;refine V (I (Jy oE.From jG)) rfl (P_max rfl rfl) (V (Gy o0 l5 3) rfl (Y3 rfl pe668) (V (S (Gy o0 l5 3) 2) rfl (aa Ws ⟨_,_,pe670⟩) (Ki fun cQ pS hs=>?_)));have hfr:=hfr.ext hs;have cD:=cD.ext hs;have yD:=yD.ext hs;have t5:=t5.ext hs;have lD:=lD.ext hs;have nB:=nB.ext hs;have oB:=oB.ext hs;clear hs;refine G (By (g:=cQ) Ty sizeOf3 rfl t5 vB rfl (Zj.2 rfl) fun dQ qS hs b709=>?_);have hfr:=hfr.stp hs;have cD:=cD.stp hs;have yD:=yD.stp hs;have lD:=lD.stp hs;have nB:=nB.stp hs rfl;have oB:=oB.stp hs;refine Zb ?_;cases h;exact hQ _ _ ⟨dQ,hfr,mG,cD,aI,yD,xF,b709,sG,lD,zE,nB,rfl,yF,oB,aG,cF⟩
      ·refine G0 qH rfl (Zu ?_)
       cases h;exact hQ _ _ ⟨oH,hfr,mG,cD,aI,yD,xF,t5,sG,lD,zE,nB,rfl,yF,oB,aG,cF⟩
     ·clear hx
      obtain ⟨eQ,hfr,bI,zD,xG,cC,dI,uC,iI,aE,bG,zB,dF,jH,vC,kH,lH⟩:=hR;obtain ⟨kG,hx,h⟩:=Z1 h;refine Gn (xD gI wI fun e w g=>e 1=up1∧RV g.m w (x1:List Z5) up1∧e 7=p2∧PT g.m w (x3:LoomStop) p2∧e 8=o0∧OM 9031 g w 57 (kG:List Z3) o0∧e 9=.slice none 0 0∧RV g.m w ([]:List Int) (Value.slice none 0 0)∧e 11=p8∧OB 2011 g w 91 (y7.1:Tj) p8∧e 15=Gy o0 l5 3∧e 35=mE∧RV g.m w (yB:List Int) mE∧e 36=I (yB.length:Int)∧e 37=I v8) (fun Q' hQ=>?_) (fun rR rS hR=>?_)
      ·replace h:=hx
       clear hx;refine Zf (Qy (x:=.tmp 11) isAgg91 sizeOf91 zB fun bM gQ uO=>?_);obtain ⟨iL,qJ,h⟩:=Z1 h;obtain ⟨pb743,po743,pe743⟩:=OM.ptrE (k:=3) uC qJ;refine Yw (x:=.tmp 66) isAgg57 sizeOf57 uC qJ fun cM iQ vO=>?_;obtain ⟨mH,xO,h⟩:=Z1 h;refine ab (g:=eQ) (n:=5) [(4,(fun v g w=>v=.bool mH))] [0,1,2,3,4] mixed (⟨fun _=>Ww _,trivial⟩) (G3 (c:=bM) rfl rfl .plain xB uO bG (V (Gy o0 l5 3) rfl (Zk dF) (V (Gy o0 l5 3) rfl (Y3 rfl pe743) (G3 (c:=cM) rfl rfl .plain xB vO rfl (Wd (φ:=fun v g w=>v=.bool mH) rfl rfl .plain (fun g w hd=>aJ (g:=g) (vs:=[bM,cM]) en27 (wk27 (gQ.ext hd.1) (iQ.ext hd.1) xO) fun g' w' v hs hr=>⟨g',hs,hr⟩) (fun sS hv=>?_))))));obtain ⟨_,_,_,rfl⟩:=hv;refine Ki fun jJ tS hs=>?_;have hfr:=hfr.ext hs;have zD:=zD.ext hs;have cC:=cC.ext hs;have uC:=uC.ext hs;have aE:=aE.ext hs;have zB:=zB.ext hs;have vC:=vC.ext hs;clear hs;refine O ?_;rcases Zt h with ⟨tH,h⟩ | ⟨tH,h⟩
       ·refine Gz tH rfl (Za (aQ dF (Y (S p2 1) (Zc Ub xG (PT.ptr cC)) ?_)))
        have dM:=Zm Wn.1 cC;refine Y (S (S p2 1) 1) (aa Dx (PT.ptr dM)) ?_;have jQ:=Zm Y7.1 dM;refine G (Ga (g:=jJ) isAgg3 sizeOf3 rfl jQ fun uS kQ=>?_);obtain rfl:=Zj.1 kQ;refine aT (I (w64 ((x3.Days).High+(1:Int)))) rfl rfl rfl ?_;obtain ⟨jL,uH,h⟩:=Z1 h;obtain ⟨pb767,po767,pe767⟩:=OM.ptrE (k:=3) uC uH;refine Y (Gy o0 l5 3) (Y3 rfl pe767) ?_;obtain ⟨pb769,po769,pe769⟩:=OM.ptrE (k:=3) uC uH;refine Y (S (Gy o0 l5 3) 2) (aa Ws ⟨_,_,pe769⟩) (G (By (g:=jJ) Ty sizeOf3 rfl uC uH rfl (Zj.2 rfl) fun lQ vS hs b770=>?_));have hfr:=hfr.stp hs;have zD:=zD.stp hs;have cC:=cC.stp hs;have aE:=aE.stp hs;have zB:=zB.stp hs rfl;have vC:=vC.stp hs;refine Zb ?_;cases h;exact hQ _ _ ⟨lQ,hfr,bI,zD,xG,cC,dI,b770,iI,aE,bG,zB,dF,jH,vC,kH,lH⟩
       ·refine G0 tH rfl (Zu ?_)
        cases h;exact hQ _ _ ⟨jJ,hfr,bI,zD,xG,cC,dI,uC,iI,aE,bG,zB,dF,jH,vC,kH,lH⟩
      ·clear hx
       obtain ⟨mQ,hfr,eM,iM,jM,kM,pM,qM,rM,sM,vJ,xJ,zJ,aK,bK,cK,dK⟩:=hR;refine Za (aQ zJ (Y (epV o0 l5 3) (Tp (rfl.trans (Pr vB).symm)) (Zb (Te ?_))));obtain ⟨rfl,rfl⟩:=W9 h;exact hQ _ _ ⟨mQ,hfr,eM,iM,jM,kM,pM,qM,rM,sM,vJ,xJ,rfl,aK,bK,cK,dK⟩
    ·clear hx
     obtain ⟨nQ,hfr,tM,uM,vM,xM,bN,cN,dN,eN,lK,mK,nK,oK,pK,qK,sK⟩:=hR;refine Za (aT (I (w64 (v8+(1:Int)))) sK rfl rfl (M (I (w64 (v8+(1:Int)))) ?_));exact O (nO (rF,yE,(w64 (v8+(1:Int)))) _ _ ⟨nQ,hfr,tM,uM,vM,xM,bN,cN,dN,eN,lK,mK,nK,oK,pK,qK,rfl⟩ h)
   ·refine G0 pH rfl (Th (Gr (Gr (G2 ?_))))
    cases h;exact hQ _ _ ⟨oH,hfr,mG,cD,xF,t5,sG,lD,zE,nB⟩
  ·clear hx
   obtain ⟨xS,hfr,gN,vE,jI,iN,jN,xE,tK,bE⟩:=hR;refine Z (H (.func (.func 28) #[] #[]) (O (Zq h (fun (s:Unit)=>xD gI wI fun e w g=>e 1=up1∧RV g.m w (x1:List Z5) up1∧e 8=o0∧RV g.m w (n8:List Z3) o0∧e 9=.slice none 0 0∧RV g.m w ([]:List Int) (Value.slice none 0 0)∧e 11=p8∧OB 2011 g w 91 (y7.1:Tj) p8) (fun X780 nL yO h=>?_) ?_)))
   ·refine Z (aQ jI (M (.func (.func 28) #[] #[]) ?_))
    obtain ⟨gp781,hs,rp781⟩:=OM.pub iN;have hfr:=hfr.stp hs;have vE:=vE.stp hs;have xE:=xE.stp hs;have bE:=bE.stp hs rfl;obtain ⟨oL,zO,h⟩:=Z1 h;refine G (aJ (g:=gp781) (vs:=[o0,.func (.func 28) #[] #[]]) en30 (wk30 rp781 ⟨28,#[],#[],rfl,en28,fun g' w' hch a0 b0 r hu0 hr=>by exact Fn.mono (wk28 hu0  hr) fun _ _ _ h=>Tz.2 h⟩ zO) fun kN aP yS hs hr=>?_);have hfr:=hfr.ext hs;have vE:=vE.ext hs;have rp781:=rp781.ext hs;have xE:=xE.ext hs;have bE:=bE.ext hs;subst hr;refine O ?_;rcases Zt h with ⟨xH,h⟩ | ⟨xH,h⟩
    ·refine Gz xH rfl (Z (H (.slice none 0 0) ?_))
     have b785:OA 4008 kN aP 57 ([]:List Z3) (.slice none 0 0):=OA.nil;refine H (.slice none 0 0) (H (I 8) (O (Gb (Gj ?_))));obtain ⟨gp786,hs,rp786⟩:=OM.pub b785.toM;have hfr:=hfr.stp hs;cases h;exact Yi rfl rfl (rq (.slice none 0 0)) (rq (.slice none 0 0)) (rq (I 8)) ⟨_,hfr,_,_,_,rfl,rp786,T8,rfl⟩
    ·refine G0 xH rfl ?_
     exact Zu (Zd (yO () _ _ ⟨kN,hfr,gN,vE,jI,rp781,jN,xE,tK,bE⟩ h))
   ·rintro _ tR zS ⟨oQ,hfr,lN,mN,kI,yG,nN,oN,uK,vK⟩ h
    obtain ⟨tF,hx,h⟩:=Z1 h;refine Gn (fun e w=>∃ (g:Gh) (v9:Value),Fr gI wI g w∧e 8=o0∧RV g.m w (n8:List Z3) o0∧e 9=v9∧RV g.m w (tF:List Int) v9∧OS 1009 g w 3 (tF:List Int) v9) (fun Q' hQ=>?_) (fun uR eT hR=>?_)
    ·replace h:=hx
     clear hx;refine Z (aQ kI (Y (I (n8.length:Int)) (G7 underlying38 rfl yG) (M (I 0) (O (Zr (Qz h (fun (s:(List Int) × Int) e w=>∃ (g:Gh) (v9:Value),Fr gI wI g w∧e 1=up1∧RV g.m w (x1:List Z5) up1∧e 8=o0∧RV g.m w (n8:List Z3) o0∧e 9=v9∧RV g.m w (s.1:List Int) v9∧OS 1009 g w 3 (s.1:List Int) v9∧e 11=p8∧OB 2011 g w 91 (y7.1:Tj) p8∧e 81=o0∧RV g.m w (n8:List Z3) o0∧e 82=I (n8.length:Int)∧e 83=I s.2) ⟨oQ,(.slice none 0 0),hfr,lN,mN,kI,yG,nN,oN,OS.nil,uK,vK,rfl,yG,rfl,rfl⟩ (fun X882 lL bP=>?_)))))));rintro ⟨sF,aB⟩ vR lT ⟨kJ,lI,hfr,zG,l9,aH,n9,cH,lB,mB,cG,i6,eG,l8,gG,eF⟩ h;refine Z (aT (.bool (decide (aB<(n8.length:Int)))) eF gG rfl (O (Zf ?_)));rcases Zt h with ⟨yH,h⟩ | ⟨yH,h⟩
     ·refine Gz yH rfl (Zu (Zd ?_))
      obtain ⟨rE,hx,h⟩:=Z1 h;refine Gn (fun e w=>∃ (g:Gh) (v9:Value),Fr gI wI g w∧e 1=up1∧RV g.m w (x1:List Z5) up1∧e 8=o0∧RV g.m w (n8:List Z3) o0∧e 9=v9∧RV g.m w (rE:List Int) v9∧OS 1009 g w 3 (rE:List Int) v9∧e 11=p8∧OB 2011 g w 91 (y7.1:Tj) p8∧e 81=o0∧RV g.m w (n8:List Z3) o0∧e 82=I (n8.length:Int)∧e 83=I aB) (fun Q' hQ=>?_) (fun xR mT hR=>?_)
      ·replace h:=hx
       clear hx;refine Zr (Z ?_);obtain ⟨iE,rJ,h⟩:=Z1 h;refine Y (Gy o0 aB 3) (Zh (α:=Z3) underlying38 sizeOf57 eG l8 eF rJ) ?_;have pQ:=G1 l8 rJ;refine G (Ga (g:=kJ) isAgg57 sizeOf57 rfl pQ fun qQ lJ=>(G (Gu (g:=kJ) 2018 (⟨0,0,0⟩:Z3) zeroValue57 (fun m w=>⟨_,(Gg Zw (Gg Zw Zw)),rfl⟩) fun rQ nT pN hs b933 cb=>?_)));have hfr:=hfr.stp hs;have l9:=l9.stp hs;have n9:=n9.stp hs;have lB:=lB.stp hs;have mB:=mB.stp hs rfl;have i6:=i6.stp hs rfl;have l8:=l8.stp hs;have lJ:=lJ.stp hs;clear cb;refine G (Gk (g:=rQ) (v:=qQ) sizeOf57 rfl b933 rfl lJ fun sQ oT hs b934 cb=>?_);clear cb;have hfr:=hfr.stp hs;have l9:=l9.stp hs;have n9:=n9.stp hs;have lB:=lB.stp hs;have mB:=mB.stp hs rfl;have i6:=i6.stp hs rfl;have l8:=l8.stp hs;refine O (Zf (We (x:=.tmp 87) Jg.1 isAgg80 sizeOf80 i6 fun qN tQ cP=>(Qy (x:=.tmp 18) isAgg57 sizeOf57 b934 fun rN uQ dP=>?_)));obtain ⟨lG,eP,h⟩:=Z1 h;refine We (x:=.tmp 92) T6.1 isAgg3 sizeOf3 b934 fun pT vQ gP=>?_;obtain rfl:=Zj.1 vQ;obtain ⟨nH,sJ,h⟩:=Z1 h;have sN:=G1 l9 sJ;have xQ:=Zm W2.1 sN;refine Zs (x:=.tmp 95) isAgg3 sizeOf3 xQ fun sT yQ iP=>?_;obtain rfl:=Zj.1 yQ;refine ab (g:=sQ) (n:=11) [(3,(fun v g w=>v=I lG))] [0,1,2,3,4,5,6,7,8,9,10] mixed (⟨fun _=>Ww _,trivial⟩) (V (S p8 0) rfl (Zc F7 cG (OB.ptr i6)) (G3 (c:=qN) rfl rfl .plain xB cP rfl (G3 (c:=rN) rfl rfl .plain xB dP rfl (Wd (φ:=fun v g w=>v=I lG) rfl rfl .plain (fun g w hd=>aJ (g:=g) (vs:=[qN,rN]) en31 (wk31 (tQ.ext hd.1) (uQ.ext hd.1) eP) fun g' w' v hs hr=>⟨g',hs,hr⟩) (fun tT hv=>?_)))));obtain ⟨_,_,_,rfl⟩:=hv;refine V up1 rfl (Zk zG) (V (S pN 0) rfl (aa Kw (OB.ptr b934)) (G3 (c:=I iE.Order) rfl rfl .plain xB gP rfl (V (Gy up1 iE.Order 5) rfl (Zh (α:=Z5) underlying28 sizeOf59 rfl l9 rfl sJ) (V (S (Gy up1 iE.Order 5) 4) rfl (aa Xi (PT.ptr sN)) (G3 (c:=I nH.Late) rfl rfl .plain xC iP rfl (V (.bool (decide (lG>nH.Late))) rfl (Gp rfl rfl rfl) (Ki fun mJ uT hs=>?_)))))));have hfr:=hfr.ext hs;have l9:=l9.ext hs;have n9:=n9.ext hs;have lB:=lB.ext hs;have mB:=mB.ext hs;have i6:=i6.ext hs;have l8:=l8.ext hs;have b934:=b934.ext hs;clear hs;refine O ?_;rcases Zt h with ⟨zH,h⟩ | ⟨zH,h⟩
       ·refine Gz zH rfl (Za (aQ cH (Y (S pN 0) (aa Kw (OB.ptr b934)) (G (Qd (g:=mJ) T6.1 isAgg3 sizeOf3 rfl b934 fun xT zQ=>?_)))))
        obtain rfl:=Zj.1 zQ;refine G (Gd (g:=mJ) 3101 (xs:=([iE.Order]:List Int)) (vs:=[I iE.Order]) underlying25 sizeOf3 zeroValue3 rfl rfl (.cons rfl .nil) (RVs.cons (Zj.2 rfl) RVs.nil) rfl rfl fun aR yT zT hs o972 bR hxt hfl=>?_);have hfr:=hfr.stp hs;have l9:=l9.stp hs;have n9:=n9.stp hs;have lB:=lB.stp hs;have mB:=mB.stp hs rfl;have i6:=i6.stp hs rfl;have l8:=l8.stp hs;obtain ⟨mL,jP,h⟩:=Z1 h;refine G (Qe (g:=aR) (i:=1009) underlying25 Jf rfl rfl mB lB rfl bR jP fun dR aU tN hs o973 eR _=>?_);have hfr:=hfr.stp hs;have l9:=l9.stp hs;have n9:=n9.stp hs;have i6:=i6.stp hs rfl;have l8:=l8.stp hs;refine H tN (Zb (Te ?_));cases h;exact hQ _ _ ⟨dR,tN,hfr,zG,l9,aH,n9,rfl,eR,o973,cG,i6,eG,l8,gG,eF⟩
       ·refine G0 zH rfl (Zu (Te ?_))
        cases h;exact hQ _ _ ⟨mJ,lI,hfr,zG,l9,aH,n9,cH,lB,mB,cG,i6,eG,l8,gG,eF⟩
      ·clear hx
       obtain ⟨gR,uN,hfr,vN,xN,yN,zN,aO,bO,cO,xK,yK,zK,aL,bL,dL⟩:=hR;refine Za (aT (I (w64 (aB+(1:Int)))) dL rfl rfl (M (I (w64 (aB+(1:Int)))) ?_));exact O (bP (rE,(w64 (aB+(1:Int)))) _ _ ⟨gR,uN,hfr,vN,xN,yN,zN,aO,bO,cO,xK,yK,zK,aL,bL,rfl⟩ h)
     ·refine G0 yH rfl (Th (Gr (Gr (G2 ?_))))
      cases h;exact hQ _ _ ⟨kJ,lI,hfr,aH,n9,cH,lB,mB⟩
    ·clear hx
     obtain ⟨bU,mI,hfr,dO,eO,gO,jO,lR⟩:=hR;refine Z (aQ dO (aQ gO (H o0 (H mI (H (I 0) (O (Gb ?_)))))));obtain rfl:=sinj h;exact Yi rfl rfl (rq o0) (rq mI) (rq (I 0)) ⟨_,hfr,_,_,_,rfl,eO,jO,rfl⟩
theorem v8_0 {iO:Nat} {gI:Gh} {wI:World} {x0:List Z5} {up0:Value} (rp0:RV gI.m wI x0 up0) {r:(List Z5)} (h:f8 x0=some r):FnG prog 8 #[up0] gI wI (fun g w v=>OM iO g w 59 r v):=by
 unfold f8 at h;refine P7 func8 rfl (Nat.le_of_ble_eq_true rfl) fun g0 hm hfr=>?_;have rp0:=RVc hm rp0;refine Z (H (.slice none 0 0) (O (Z (G (Gd (g:=g0) 3003 (xs:=([]:List Z5)) (vs:=[]) underlying28 sizeOf59 zeroValue59 rfl rfl .nil RVs.nil rfl rfl fun g1 w1 v1 hs o1 r1 hxt hfl=>?_)))));have hfr:=hfr.stp hs;have rp0:=rp0.stp hs;refine M up0 ?_;obtain ⟨y3,hy3,h⟩:=Z1 h;refine G (Qe (g:=g1) (i:=3003) underlying28 Pv rfl rfl o1 r1 rfl rp0 hy3 fun g2 w2 v2 hs o2 r2 _=>?_);have hfr:=hfr.stp hs;refine H v2 (O (Gb ?_));obtain rfl:=sinj h;obtain ⟨gh,hxh,homh⟩:=OM.hand (i:=iO) J5 hfr o2 r2;exact ac rfl (rq v2) ⟨gh,hxh,homh⟩
def f35 (x0:Tn):Option Int:=
 jn (σ:=Unit) (fun _=>
  (f62 x0.Ties (fun a0=>f63 a0)).bind fun nD=>
  (f64 x0.Chains (fun a0=>f65 a0)).bind fun oD=>
  jn (σ:=Unit) (fun _=>
   some (0:Int)
   ) fun yD=>
  Option.bind (α:=Bool) (
   (f66 nD).bind fun n9=>
   bif (!n9) then
    some true
   else
    (f66 oD).bind fun l9=>
    bif (!l9) then
     some true
    else
     (f67 x0.Ties (fun a0=>f58 a0)).bind fun aB=>
     bif aB then
      some true
     else
      (f68 x0.Chains (fun a0=>f60 a0)).bind fun vB=>
      some vB
   ) fun l5=>
  bif l5 then
   some (2:Int)
  else
   yD ()
  ) fun k14=>
 Option.bind (α:=Bool) (
  bif (decide (((x0.Ties).length:Int)>(8:Int))) then
   some true
  else
   some (decide (((x0.Chains).length:Int)>(8:Int)))
  ) fun n8=>
 bif n8 then
  some (5:Int)
 else
  k14 ()
theorem en35:Enters prog 35:=yC func35
theorem wk35 {x0:Tn} (rp0:RV gI.m wI x0 up0) {r:Int} (h:f35 x0=some r):Fn prog 35 #[up0] gI wI (fun _ _ v=>v=I r):=by
 unfold f35 at h;refine fnE func35 rfl rfl fun g0 hm hfr=>?_;have rp0:=RVc hm rp0;refine Z (G (Tw (g:=g0) rfl rp0 fun g1 w1 p1 hs q1=>?_));have hfr:=hfr.ext hs;refine H (I 0) (O (Zq h (fun (s:Unit)=>xD gI wI fun e w g=>e 1=p1∧PT g.m w (x0:Tn) p1) (fun X14 k14 iE h=>?_) ?_))
 ·obtain ⟨n8,hx,h⟩:=Z1 h
  refine Gn (xD gI wI fun e w g=>e 1=p1∧PT g.m w (x0:Tn) p1∧e 16=.bool n8) (fun Q' hQ=>?_) (fun sG nH hR=>?_)
  ·replace h:=hx
   clear hx;refine Za (Y (S p1 0) (aa Xa (PT.ptr q1)) ?_);have zE:=Zm Kb.1 q1;refine G (Ga (g:=g1) isAgg69 sizeOf69 rfl zE fun oH cF=>(Y (I ((x0.Ties).length:Int)) (G7 underlying69 rfl cF) (Y (.bool (decide (((x0.Ties).length:Int)>(8:Int)))) (Gp rfl rfl rfl) (Y (.bool (decide (((x0.Ties).length:Int)>(8:Int)))) (ai) ?_))));rcases Zt h with ⟨t5,h⟩ | ⟨t5,h⟩
   ·refine Zz rfl rfl t5 rfl rfl ?_
    iterate 3 refine Zz rfl rfl t5 rfl rfl ?_
    refine Y (.bool true) (ae (b:=(decide (((x0.Ties).length:Int)>(8:Int)))) (Tg t5 rfl)) (Zb ?_);cases h;exact hQ _ _ ⟨g1,hfr,rfl,q1,rfl⟩
   ·refine ag (S p1 1) (aa V7 (PT.ptr q1)) rfl rfl t5 ?_
    have dF:=Zm Kc.1 q1;refine Ze (.yes2 rfl rfl t5) rfl (Ga (g:=g1) isAgg70 sizeOf70 rfl dF fun pH eF=>(ag (I ((x0.Chains).length:Int)) (G7 underlying70 rfl eF) rfl rfl t5 (ag (.bool (decide (((x0.Chains).length:Int)>(8:Int)))) (Gp rfl rfl rfl) rfl rfl t5 (Y (.bool (decide (((x0.Chains).length:Int)>(8:Int)))) (ae (b:=(decide (((x0.Ties).length:Int)>(8:Int)))) (Td t5 rfl)) (Zb ?_)))));cases h;exact hQ _ _ ⟨g1,hfr,rfl,q1,rfl⟩
  ·clear hx
   obtain ⟨rF,hfr,cD,lD,nB⟩:=hR;rcases Zt h with ⟨oB,h⟩ | ⟨oB,h⟩
   ·refine Ta (Eq.trans (show X _ _=.bool n8 from nB) (congrArg Value.bool oB)) (Z (H (I 5) (O (Gb (Gj ?_)))))
    cases h;exact ac rfl (rq (I 5)) ⟨_,hfr,rfl⟩
   ·refine Gv (Eq.trans (show X _ _=.bool n8 from nB) (congrArg Value.bool oB)) ?_
    exact Zu (Zd (iE () _ _ ⟨rF,hfr,cD,lD⟩ h))
 ·rintro _ xG qH ⟨zD,hfr,v8,o0⟩ h
  refine Z (H (.func (.func 58) #[] #[]) (O (Z (H (.func (.func 60) #[] #[]) (O (Z (Y (S p1 0) (Zc Xa v8 (PT.ptr o0)) ?_)))))));have sF:=Zm Kb.1 o0;refine G (Ga (g:=zD) isAgg69 sizeOf69 rfl sF fun tF uF=>?_);obtain ⟨nD,lE,h⟩:=Z1 h;refine G (aJ (g:=zD) (vs:=[tF,.func (.func 63) #[] #[]]) en62 (wk62 uF ⟨63,#[],#[],rfl,en63,fun g' w' hch a0 b0 r hu0 hr=>by exact Fn.mono (wk63 hu0  hr) fun _ _ _ h=>K7.2 h⟩ lE) fun aE yG yB hs hr=>?_);have hfr:=hfr.ext hs;have o0:=o0.ext hs;have zB:=hr;refine H yB (O (Z (Y (S p1 1) (Zc V7 v8 (PT.ptr o0)) ?_)));have vF:=Zm Kc.1 o0;refine G (Ga (g:=aE) isAgg70 sizeOf70 rfl vF fun xF yF=>?_);obtain ⟨oD,mE,h⟩:=Z1 h;refine G (aJ (g:=aE) (vs:=[xF,.func (.func 65) #[] #[]]) en64 (wk64 yF ⟨65,#[],#[],rfl,en65,fun g' w' hch a0 b0 r hu0 hr=>by exact Fn.mono (wk65 hu0  hr) fun _ _ _ h=>K7.2 h⟩ mE) fun aG zG cC hs hr=>?_);have hfr:=hfr.ext hs;have o0:=o0.ext hs;have zB:=zB.ext hs;have uC:=hr;refine H cC (O (Zq h (fun (s:Unit) e w=>∃ (g:Gh) ,Fr gI wI g w) (fun X69 yD oE h=>?_) ?_))
  ·obtain ⟨l5,hx,h⟩:=Z1 h
   refine Gn (xD gI wI fun e w g=>e 42=.bool l5) (fun Q' hQ=>?_) (fun lG aH hR=>?_)
   ·replace h:=hx
    clear hx;refine Za (M yB ?_);obtain ⟨n9,rE,h⟩:=Z1 h;refine G (aJ (g:=aG) (vs:=[yB]) en66 (wk66 zB rE) fun bE cH sH hs hr=>?_);have hfr:=hfr.ext hs;have o0:=o0.ext hs;have uC:=uC.ext hs;subst hr;refine Y (.bool (!n9)) (Qw rfl) (M (.bool (!n9)) ?_);rcases Zt h with ⟨i6,h⟩ | ⟨i6,h⟩
    ·refine Zz rfl rfl i6 rfl rfl (Zz rfl rfl i6 rfl rfl (Zz rfl rfl i6 rfl rfl (Y (.bool true) (ae (b:=(!n9)) (Tg i6 rfl)) (Q5 12 rfl (Zb ?_)))))
     cases h;exact hQ _ _ ⟨bE,hfr,rfl⟩
    ·refine ag cC (ai) rfl rfl i6 ?_
     obtain ⟨l9,uE,h⟩:=Z1 h;refine Ze (.yes2 rfl rfl i6) rfl (aJ (g:=bE) (vs:=[cC]) en66 (wk66 uC uE) fun vC gH tH hs hr=>?_);have hfr:=hfr.ext hs;have o0:=o0.ext hs;subst hr;refine ag (.bool (!l9)) (Qw rfl) rfl rfl i6 (Y (.bool (!l9)) (ae (b:=(!n9)) (Td i6 rfl)) (M (.bool (!l9)) ?_));rcases Zt h with ⟨g8,h⟩ | ⟨g8,h⟩
     ·refine Zz rfl rfl g8 rfl rfl ?_
      iterate 3 refine Zz rfl rfl g8 rfl rfl ?_
      refine Y (.bool true) (ae (b:=(!l9)) (Tg g8 rfl)) (Q5 6 rfl (Zb ?_));cases h;exact hQ _ _ ⟨vC,hfr,rfl⟩
     ·refine ag (S p1 0) (Zc Xa v8 (PT.ptr o0)) rfl rfl g8 ?_
      have bG:=Zm Kb.1 o0;refine Ze (.yes2 rfl rfl g8) rfl (Ga (g:=vC) isAgg69 sizeOf69 rfl bG fun cG eG=>(ag (.func (.func 58) #[] #[]) (ai) rfl rfl g8 ?_));obtain ⟨aB,vE,h⟩:=Z1 h;refine Ze (.yes2 rfl rfl g8) rfl (aJ (g:=vC) (vs:=[cG,.func (.func 58) #[] #[]]) en67 (wk67 eG ⟨58,#[],#[],rfl,en58,fun g' w' hch a0 b0 r hu0 hr=>by exact Fn.mono (wk58 hu0  hr) fun _ _ _ h=>Tz.2 h⟩ vE) fun bD jH uH hs hr=>?_);have hfr:=hfr.ext hs;have o0:=o0.ext hs;subst hr;refine Y (.bool aB) (ae (b:=(!l9)) (Td g8 rfl)) (M (.bool aB) ?_);rcases Zt h with ⟨l8,h⟩ | ⟨l8,h⟩
      ·refine Zz rfl rfl l8 rfl rfl ?_
       iterate 3 refine Zz rfl rfl l8 rfl rfl ?_
       refine Y (.bool true) (ae (b:=aB) (Tg l8 rfl)) (Zb ?_);cases h;exact hQ _ _ ⟨bD,hfr,rfl⟩
      ·refine ag (S p1 1) (Zc V7 v8 (PT.ptr o0)) rfl rfl l8 ?_
       have gG:=Zm Kc.1 o0;refine Ze (.yes2 rfl rfl l8) rfl (Ga (g:=bD) isAgg70 sizeOf70 rfl gG fun iG jG=>(ag (.func (.func 60) #[] #[]) (ai) rfl rfl l8 ?_));obtain ⟨vB,xE,h⟩:=Z1 h;refine Ze (.yes2 rfl rfl l8) rfl (aJ (g:=bD) (vs:=[iG,.func (.func 60) #[] #[]]) en68 (wk68 jG ⟨60,#[],#[],rfl,en60,fun g' w' hch a0 b0 r hu0 hr=>by exact Fn.mono (wk60 hu0  hr) fun _ _ _ h=>Tz.2 h⟩ xE) fun kG kH xH hs hr=>?_);have hfr:=hfr.ext hs;subst hr;refine Y (.bool vB) (ae (b:=aB) (Td l8 rfl)) (Zb ?_);cases h;exact hQ _ _ ⟨kG,hfr,rfl⟩
   ·clear hx
    obtain ⟨yE,hfr,lB⟩:=hR;rcases Zt h with ⟨mB,h⟩ | ⟨mB,h⟩
    ·refine Ta (Eq.trans (show X _ _=.bool l5 from lB) (congrArg Value.bool mB)) (Z (H (I 2) (O (Gb (Gj ?_)))))
     cases h;exact ac rfl (rq (I 2)) ⟨_,hfr,rfl⟩
    ·refine Gv (Eq.trans (show X _ _=.bool l5 from lB) (congrArg Value.bool mB)) ?_
     exact Zu (Zd (oE () _ _ ⟨yE,hfr⟩ h))
  ·rintro _ mG lH ⟨mH,hfr⟩ h
   refine Z (H (I 0) (O (Gb ?_)));cases h;exact ac rfl (rq (I 0)) ⟨_,hfr,rfl⟩
theorem en113:Enters prog 113:=yC func113
theorem it_ok:ItOk prog 113 0:=fun n h0 h1 w hT=>Tryz.strconv_Itoa n h0 h1 w (Er (by kernel_rfl) hT)
abbrev Hl:=AnyV 3 9
theorem Fs (a:Addr) (w:World):(Instr.fieldAt 179 (.pointer (some a)) 0).run prog w=.ok (.pointer (some (a.add 0))) w:=by simp [Instr.fieldAt,run_underlying underlying179,Instr.sureAddr,fieldPlace,Result.andThen]
theorem atW_1 (a:Addr) (w:World):(Instr.fieldAt 179 (.pointer (some a)) 1).run prog w=.ok (.pointer (some (a.add 2))) w:=by simp [Instr.fieldAt,run_underlying underlying179,Instr.sureAddr,fieldPlace,Result.andThen]
theorem wcc {i:Nat} {g:Gh} {w:World} {b:Nat} {a v:Value} {n:Int} (hb:HBm i g w b (.cells #[a,v,I n] 179 (0,0))) (ha:a=.pointer none∨a=.pointer (some ⟨b,0,none⟩)) :
  Calls prog 152 #[.pointer (some ⟨b,0,none⟩)] w fun r w'=>∃ u,r=.returned u∧Stp i g w g w'∧HBm i g w' b (.cells #[.pointer (some ⟨b,0,none⟩),v,I n] 179 (0,0))∧∀ k,k≠b→w'.heap[k]?=w.heap[k]?:=by
 obtain ⟨jt,hj,hjs⟩:=Av
 have hsh:=hb.shape
 refine Q6 func152 rfl (Nat.le_of_ble_eq_true rfl) ?_
 refine Z (M (.pointer (some ⟨b,0,none⟩)) (Y (.pointer (some ⟨b,0,none⟩)) (Tu rfl) (Y (.pointer (some ⟨b,0,none⟩)) (show Pur _ _ _ (S (.pointer (some ⟨b,0,none⟩)) 0) from aa Fj ⟨b,0,rfl⟩) (G (Xf isAgg175 rfl (hb.cell.trans rfl) ?_)))))
 rcases ha with ha | ha
 ·subst ha
  refine Y (.bool true) (Xk (u1:=.pointer none) (u2:=.pointer none) (.inl rfl) rfl rfl ⟨_,rfl⟩ ⟨_,rfl⟩ (fun w=>by simpa using run_eql_pointer_nil (P:=prog) w 175 none underlying175)) (O (Ta rfl (Za (M (.pointer (some ⟨b,0,none⟩)) (M (.pointer (some ⟨b,0,none⟩)) ?_)))))
  refine Bu (v:=.pointer (some ⟨b,0,none⟩)) (w':=w) .plain (fun _ h=>by cases h) rfl (by
   have:=Lib.run_to_unsafe w ⟨b,0,none⟩ underlying175 underlying275 hj (by rw [hjs];decide) hsh (by show 0<3;omega)
   show (Sem.run _ (execOp _ _) _)=_
   simp only [execOp,Sem.run_bind]
   rw [show X _ (Operand.tmp 8)=Value.pointer (some ⟨b,0,none⟩) from rfl,this]
   rfl) ?_
  refine Y (.pointer (some ⟨b,0,none⟩)) (P3 func170 (by kernel_rfl) (by kernel_rfl) (by kernel_rfl) (ex:=Extern.AbiNoEscape.same) (by kernel_rfl) (.cons rfl .nil) (fun _=>rfl)) ?_
  refine Bu (v:=.pointer (some ⟨b,0,none⟩)) (w':=w) .plain (fun _ h=>by cases h) rfl (by
   have:=Lib.run_from_unsafe w ⟨b,0,none⟩ underlying275 underlying175 hj hsh (by kernel_rfl)
   show (Sem.run _ (execOp _ _) _)=_
   simp only [execOp,Sem.run_bind]
   rw [show X _ (Operand.tmp 10)=Value.pointer (some ⟨b,0,none⟩) from rfl,this]
   rfl) ?_
  refine Y (.pointer (some ⟨b,0,none⟩)) (Tu rfl) (Y (.pointer (some ⟨b,0,none⟩)) (show Pur _ _ _ (S (.pointer (some ⟨b,0,none⟩)) 0) from aa Fj ⟨b,0,rfl⟩) (G (D2 (c:=.pointer (some ⟨b,0,none⟩)) sizeOf175 rfl rfl rfl (by simp) hb fun w1 hs hb1 hk=>(Zb ?_))))
  exact Xs rfl rfl ⟨hs,hb1,hk⟩
 ·subst ha
  refine Y (.bool false) (Xk (u1:=.pointer (some ⟨b,0,none⟩)) (u2:=.pointer none) (.inl rfl) rfl rfl ⟨_,rfl⟩ ⟨_,rfl⟩ (fun w=>by simpa using run_eql_pointer_nil (P:=prog) w 175 (some ⟨b,0,none⟩) underlying175)) (O (Gv rfl (Z (M (.pointer (some ⟨b,0,none⟩)) (Y (.pointer (some ⟨b,0,none⟩)) (Tu rfl) (Y (.pointer (some ⟨b,0,none⟩)) (show Pur _ _ _ (S (.pointer (some ⟨b,0,none⟩)) 0) from aa Fj ⟨b,0,rfl⟩) (G (Xf isAgg175 rfl (hb.cell.trans rfl) (M (.pointer (some ⟨b,0,none⟩)) (Y (.bool false) (Xk (.inr rfl) rfl rfl ⟨_,rfl⟩ ⟨_,rfl⟩ (fun w=>Lib.run_neq_ptr_same w ⟨b,0,none⟩ underlying175 hj)) (O (Gv rfl (Zu ?_)))))))))))))
  exact Xs rfl rfl ⟨Ce _ _ _,hb,fun _ _=>rfl⟩
theorem wwb {i:Nat} {g:Gh} {w:World} {c:UInt8} {s:List UInt8 × Int} {r:List UInt8} {p:Value} (h:WR i g w 5 179 s p) (hr:apnd 1 s.1 [c]=some r) :
  Calls prog 111 #[p,.int .u8 c.toNat] w fun q w'=>∃ v,q=.returned v∧∃ g',Stp i g w g' w'∧WR i g' w' 5 179 (r,s.2) p:=by
 obtain ⟨b,a,v,rfl,hb,hz,hne,ha⟩:=h
 refine Q6 func111 rfl (Nat.le_of_ble_eq_true rfl) ?_
 refine Z (H .nilIface (O (Z (M (.pointer (some ⟨b,0,none⟩)) (G (Q8 (vs:=[.pointer (some ⟨b,0,none⟩)]) en152 (.cons rfl .nil) (wcc hb ha) fun u w1 h1=>?_))))))
 obtain ⟨hs1,hb1,hk1⟩:=h1
 have hz1:=hz.other hne hk1
 refine O (Z (M (.pointer (some ⟨b,0,none⟩)) (M (.pointer (some ⟨b,0,none⟩)) (Y (.pointer (some ⟨b,0,none⟩)) (Tu rfl) (Y (.pointer (some ⟨b,1,none⟩)) (show Pur _ _ _ (S (.pointer (some ⟨b,0,none⟩)) 1) from aa Xu ⟨b,0,rfl⟩) (G (Xf isAgg63 rfl (hb1.cell.trans rfl) (M (.int .u8 c.toNat) (G (Gd (g:=g) 1 (xs:=[c]) (vs:=[.int .u8 c.toNat]) underlying63 sizeOf5 zeroValue5 rfl rfl (.cons rfl .nil) (RVs.cons (Wa.2 rfl) RVs.nil) rfl rfl fun g3 w3 v3 _ _ r3 hxt _=>?_))))))))))
 have hb3:=hb1.ext hxt
 refine G (M7 (g:=g3) underlying63 F6 rfl (hz1.ext hxt) rfl r3 hr fun g4 w4 v4 hs4 z4 ap4=>?_)
 obtain ⟨hb4,hne4⟩:=hb3.apart ap4 hne
 refine Y (.pointer (some ⟨b,0,none⟩)) (Tu rfl) (Y (.pointer (some ⟨b,1,none⟩)) (show Pur _ _ _ (S (.pointer (some ⟨b,0,none⟩)) 1) from aa Xu ⟨b,0,rfl⟩) (G (D2 (c:=v4) sizeOf63 rfl rfl z4.one (by simp) hb4 fun w5 hs5 hb5 hk5=>(O (Z (H .nilIface (O ?_)))))))
 exact Gb (ac rfl (rq .nilIface) ⟨g4,(hs1.trans (hxt.stp.trans (hs4.trans hs5))),b,_,v4,rfl,hb5,z4.other hne4 hk5,hne4,.inr rfl⟩)
theorem en112:Enters prog 112:=yC func112
theorem wws {i:Nat} {g:Gh} {w:World} {c:Str} {s:List UInt8 × Int} {r:List UInt8} {p:Value} (h:WR i g w 5 179 s p) (hr:apnd 1 s.1 c.b=some r) :
  Calls prog 112 #[p,c.v] w fun q w'=>∃ v,q=.returned v∧∃ g',Stp i g w g' w'∧WR i g' w' 5 179 (r,s.2) p:=by
 obtain ⟨b,a,v,rfl,hb,hz,hne,ha⟩:=h
 refine Q6 func112 rfl (Nat.le_of_ble_eq_true rfl) ?_
 refine Z (H (I 0) (H .nilIface (O (Z (M (.pointer (some ⟨b,0,none⟩)) (G (Q8 (vs:=[.pointer (some ⟨b,0,none⟩)]) en152 (.cons rfl .nil) (wcc hb ha) fun u w1 h1=>?_)))))))
 obtain ⟨hs1,hb1,hk1⟩:=h1
 have hz1:=hz.other hne hk1
 refine O (Z (M (.pointer (some ⟨b,0,none⟩)) (M (.pointer (some ⟨b,0,none⟩)) (Y (.pointer (some ⟨b,0,none⟩)) (Tu rfl) (Y (.pointer (some ⟨b,1,none⟩)) (show Pur _ _ _ (S (.pointer (some ⟨b,0,none⟩)) 1) from aa Xu ⟨b,0,rfl⟩) (G (Xf isAgg63 rfl (hb1.cell.trans rfl) (M c.v (G (Mg (g:=g) underlying63 underlying9 F6 rfl hz1 rfl hr fun g4 w4 v4 hs4 z4 ap4=>?_))))))))))
 obtain ⟨hb4,hne4⟩:=hb1.apart ap4 hne
 refine Y (.pointer (some ⟨b,0,none⟩)) (Tu rfl) (Y (.pointer (some ⟨b,1,none⟩)) (show Pur _ _ _ (S (.pointer (some ⟨b,0,none⟩)) 1) from aa Xu ⟨b,0,rfl⟩) (G (D2 (c:=v4) sizeOf63 rfl rfl z4.one (by simp) hb4 fun w5 hs5 hb5 hk5=>(O (Z (M c.v (Y (I (c.b.length:Int)) (Np underlying9 rfl) (H (I (c.b.length:Int)) (H .nilIface (O ?_))))))))))
 exact Gb (H9 rfl rfl rfl rfl ⟨g4,(hs1.trans (hs4.trans hs5)),b,_,v4,rfl,hb5,z4.other hne4 hk5,hne4,.inr rfl⟩)
theorem wst {i:Nat} {g:Gh} {w:World} {s:List UInt8 × Int} {p:Value} (h:WR i g w 5 179 s p) (h0:s.1≠[]) :
  Calls prog 79 #[p] w fun q w'=>∃ v,q=.returned v∧v=Str.v ⟨s.1⟩∧(∀ bk,p=.pointer (some ⟨bk,0,none⟩)→w'.heap[bk]?=w.heap[bk]?)∧∃ g',Stp i g w g' w'∧WR i g' w' 5 179 s p:=by
 obtain ⟨b,a,v,rfl,hb,hz,hne,ha⟩:=h
 obtain ⟨sa,c,rfl,hc,_⟩:=hz.hdr
 have hcn:c≠0:=by
  have : 0 < s.1.length := by cases hs : s.1 with
   | nil=>exact absurd hs h0
   | cons _ _=>simp
  omega
 have hl:=L_ldW isAgg63 hb (o:=1) (c:=.slice sa s.1.length c) rfl
 refine Q6 func79 rfl (Nat.le_of_ble_eq_true rfl) ?_
 refine Z (H (Str.v ⟨[]⟩) (O (Zf (ab (g:=g) (n:=10) [] [0,1,2,3,4,5,6,7,8,9] Ug trivial (J8 (c:=.pointer (some ⟨b,0,none⟩)) rfl rfl .plain (fun _ _ hd=>ai) (J8 (c:=.pointer (some ⟨b,0,none⟩)) rfl rfl .plain (fun _ _ hd=>Tu rfl) (J8 (c:=.pointer (some ⟨b,1,none⟩)) rfl rfl .plain (fun _ _ hd=>show Pur _ _ _ (S (.pointer (some ⟨b,0,none⟩)) 1) from aa Xu ⟨b,0,rfl⟩) (G3 (c:=.slice sa s.1.length c) rfl rfl .plain xB (hl _) rfl (J8 (c:=.pointer sa) rfl rfl .plain (fun _ _ hd=>Sp (a:=sa) (n:=s.1.length) (c:=c) rfl (.inl hcn)) (J8 (c:=.pointer (some ⟨b,0,none⟩)) rfl rfl .plain (fun _ _ hd=>ai) (J8 (c:=.pointer (some ⟨b,0,none⟩)) rfl rfl .plain (fun _ _ hd=>Tu rfl) (J8 (c:=.pointer (some ⟨b,1,none⟩)) rfl rfl .plain (fun _ _ hd=>show Pur _ _ _ (S (.pointer (some ⟨b,0,none⟩)) 1) from aa Xu ⟨b,0,rfl⟩) (G3 (c:=.slice sa s.1.length c) rfl rfl .plain xB (hl _) rfl (J8 (c:=I (s.1.length:Int)) rfl rfl .plain (fun _ _ hd=>P_lenH (v:=.slice sa s.1.length c) underlying63 rfl ⟨_,_,rfl⟩) (Jx fun g1 w1 hall=>?_)))))))))))))))
 have hs:=hall.1
 refine G (Sv (g:=g1) (i:=i) (et:=5) rfl underlying225 (by kernel_rfl) h0 rfl rfl (hz.ext hs) fun w2 hs2 z2 ap2=>?_)
 obtain ⟨hb2,hne2⟩:=(hb.ext hs).apart ap2 hne
 refine H (Str.v ⟨s.1⟩) (O ?_)
 exact Gb (ac rfl (rq (Str.v ⟨s.1⟩)) ⟨rfl,fun bk hbk=>by injection hbk with hbk;injection hbk with hbk;injection hbk with hbk _;subst hbk;exact hb2.2.2.trans hb.2.2.symm,g1,hs.stp.trans hs2,b,a,_,rfl,hb2,z2,hne2,ha⟩)
def anyS:Hl→Option Str
 | .str s=>some s
 | .int n=>Ez n
def f76 (x0:List UInt8 × Int) (x1:List Hl):Option (List UInt8 × Int):=
 Option.bind (α:=List UInt8) (lp (σ:=List UInt8 × Int) (fun k s=>bif decide (s.2<(x1.length:Int)) then (idx x1 s.2).bind fun a=>Option.bind (α:=List UInt8) (bif decide (s.2>(0:Int)) then apnd 1 s.1 [32] else some s.1) fun b=>(anyS a).bind fun t=>(apnd 1 b t.b).bind fun c=>k (c,w64 (s.2+(1:Int))) else some s.1) big (x0.1,0)) fun b=>
 (apnd 1 b [10]).bind fun c=>some (c,w64 (x0.2+(1:Int)))
theorem en76:Enters prog 76:=yC func76
theorem wk76 {i:Nat} {g:Gh} {w:World} {s s':List UInt8 × Int} {ws:List Hl} {p u:Value} (hT:Vc 0 g.m w) (h:WR i g w 5 179 s p) (hu:RV g.m w ws u) (hf:f76 s ws=some s') :
  Calls prog 76 #[p,u] w fun q w'=>∃ v,q=.returned v∧∃ g',Stp i g w g' w'∧WR i g' w' 5 179 s' p:=by
 unfold f76 at hf
 obtain ⟨b0,hl,hf⟩:=Z1 hf
 obtain ⟨bk,rfl⟩:∃ b,p=.pointer (some ⟨b,0,none⟩):=by obtain ⟨b,_,_,hh,_⟩:=h;exact ⟨b,hh⟩
 refine Q6 func76 rfl (Nat.le_of_ble_eq_true rfl) ?_
 refine Kj (fun e ds w'=>ds=[]∧e 0=.pointer (some ⟨bk,0,none⟩)∧∃ g',Stp i g w g' w'∧WR i g' w' 5 179 (b0,s.2) (.pointer (some ⟨bk,0,none⟩))) (fun Q' hQ=>?_) (fun e ds w' hR=>?_)
 ·refine Z (M u (Y (I (ws.length:Int)) (G7 (v:=u) underlying181 rfl hu) (M (I 0) (O (Zr (Sj hl (fun (t:List UInt8 × Int) e ds w'=>ds=[]∧e 0=.pointer (some ⟨bk,0,none⟩)∧e 8=u∧e 9=I (ws.length:Int)∧e 10=I t.2∧∃ g',Stp i g w g' w'∧WR i g' w' 5 179 (t.1,s.2) (.pointer (some ⟨bk,0,none⟩))) ⟨rfl,rfl,rfl,rfl,rfl,g,Ce _ _ _,h⟩ (fun X rec hrec=>?_)))))))
  rintro ⟨xs,n⟩ e ds w1 ⟨rfl,e0,e8,e9,e10,g1,hs,hwr⟩ hk
  refine Z (aT (.bool (decide (n<(ws.length:Int)))) e10 e9 rfl (O ?_))
  rcases Zt hk with ⟨hc,hk⟩ | ⟨hc,hk⟩
  ·refine Zf (Gz hc rfl (Zu (Zd ?_)))
   obtain ⟨a,ha,hk⟩:=Z1 hk
   obtain ⟨bb,hbb,hk⟩:=Z1 hk
   obtain ⟨tx,htx,hk⟩:=Z1 hk
   obtain ⟨cc,hcc,hk⟩:=Z1 hk
   have hu1:=hu.ch hs.ch
   have hT1:=hT.ch hs.ch
   refine Kj (fun e ds w'=>ds=[]∧e 0=.pointer (some ⟨bk,0,none⟩)∧e 8=u∧e 9=I (ws.length:Int)∧e 10=I n∧∃ g',Stp i g w g' w'∧WR i g' w' 5 179 (cc,s.2) (.pointer (some ⟨bk,0,none⟩))) (fun Q' hQ=>?_) (fun e2 ds2 w2 hR=>?_)
   ·refine Zr (Z (Zn (I n) e10 rfl (Y (Gy u n 1) (Zh (α:=Hl) underlying181 sizeOf20 e8 hu1 e10 ha) (G (Ga (g:=g1) isAgg20 sizeOf20 rfl (G1 hu1 ha) fun va ra=>?_)))))
    obtain rfl:=Hr.1 ra
    refine H (I n) (H a.v (O (Kj (fun e ds w'=>ds=[]∧e 0=.pointer (some ⟨bk,0,none⟩)∧e 5=a.v∧e 8=u∧e 9=I (ws.length:Int)∧e 10=I n∧∃ g',Stp i g w g' w'∧WR i g' w' 5 179 (bb,s.2) (.pointer (some ⟨bk,0,none⟩))) (fun Q2 hQ2=>?_) (fun e3 ds3 w3 hR3=>?_))))
    ·refine Z (M (I n) (aT (.bool (decide (n>(0:Int)))) rfl rfl rfl (O ?_)))
     rcases Zt hbb with ⟨hc2,hbb⟩ | ⟨hc2,hbb⟩
     ·refine Gz hc2 rfl (Za (aQ e0 (Y (.pointer (some ⟨bk,0,none⟩)) (Tu rfl) (Y (.pointer (some ⟨bk,0,none⟩)) (show Pur _ _ _ (S (.pointer (some ⟨bk,0,none⟩)) 0) from aa Fs ⟨bk,0,rfl⟩) (G (Q8 (vs:=[.pointer (some ⟨bk,0,none⟩),.int .u8 (32:UInt8).toNat]) en111 (.cons rfl (.cons rfl .nil)) (wwb (c:=32) hwr hbb) fun q4 w4 h4=>?_))))))
      obtain ⟨g4,hs4,hwr4⟩:=h4
      exact Zb (hQ2 _ _ _ ⟨rfl,e0,rfl,e8,e9,e10,g4,hs.trans hs4,hwr4⟩)
     ·obtain rfl:=sinj hbb
      exact G0 hc2 rfl (Zu (hQ2 _ _ _ ⟨rfl,e0,rfl,e8,e9,e10,g1,hs,hwr⟩))
    ·obtain ⟨rfl,e0,e5,e8,e9,e10,g3,hs3,hwr3⟩:=hR3
     have hT3:=hT.ch hs3.ch
     refine Z (aQ e5 (O (Zr (Z ?_))))
     cases a with
     | str tt=>
      obtain rfl:=sinj htx
      refine Y (.tuple #[tt.v,.bool true]) (P_isStr (ti:=3) underlying9 rfl) (Y (.bool true) (Zi rfl rfl) (Y tt.v (Zi rfl rfl) (O (Ta rfl (Z (H tt.v (O (Za (aQ e0 (Y (.pointer (some ⟨bk,0,none⟩)) (Tu rfl) (Y (.pointer (some ⟨bk,0,none⟩)) (show Pur _ _ _ (S (.pointer (some ⟨bk,0,none⟩)) 0) from aa Fs ⟨bk,0,rfl⟩) (M tt.v (G (Q8 (vs:=[.pointer (some ⟨bk,0,none⟩),tt.v]) en112 (.cons rfl (.cons rfl .nil)) (wws hwr3 hcc) fun q4 w4 h4=>?_))))))))))))))
      obtain ⟨g4,hs4,hwr4⟩:=h4
      exact Zb (Te (hQ _ _ _ ⟨rfl,e0,e8,e9,e10,g4,hs3.trans hs4,hwr4⟩))
     | int nn=>
      refine Y (.tuple #[_,.bool false]) (P_notStr (ti:=3) underlying9 rfl zeroValue9 rfl) (Y (.bool false) (Zi rfl rfl) (Y _ (Zi rfl rfl) (O (Gv rfl (Z (Y (.tuple #[I nn,.bool true]) (P_isInt (ts:=9) underlying3 rfl) (Y (.bool true) (Zi rfl rfl) (Y (I nn) (Zi rfl rfl) (O (Ta rfl (Z (H (I nn) (O (D1 (g:=g3) (n:=6) [0,1,2,3] [] [0,1,2,3,4,5] rfl Ug (by kernel_rfl) fun w_c hx hlt=>?_))))))))))))))
      have hwr4:=hwr3.ext hx
      have hT4:=hT3.ext hx
      refine Qq (c:=.pointer (some ⟨bk,0,none⟩)) rfl rfl .plain (Zk e0) (Qq (c:=.pointer (some ⟨bk,0,none⟩)) rfl rfl .plain (Tu rfl) (Qq (c:=.pointer (some ⟨bk,0,none⟩)) rfl rfl .plain (show Pur _ _ _ (S (.pointer (some ⟨bk,0,none⟩)) 0) from aa Fs ⟨bk,0,rfl⟩) (Qq (c:=I nn) rfl rfl .plain (ai) (Sl rfl rfl .plain (D_itoa (g:=g3) en113 it_ok hT4 rfl htx fun w5 hx5=>?_)))))
      have hwr5:=hwr4.ext hx5
      have hlt5:=hlt.ext hx5
      refine ⟨hlt5.toW,?_⟩
      refine Sl rfl rfl .plain (Q8 (vs:=[.pointer (some ⟨bk,0,none⟩),tx.v]) en112 (.cons rfl (.cons rfl .nil)) (wws hwr5 hcc) fun q6 w6 h6=>?_)
      obtain ⟨g6,hs6,hwr6⟩:=h6
      refine ⟨(hlt5.stp hs6 rfl).toW,?_⟩
      refine Ri (Zb (Te ?_))
      exact hQ _ _ _ ⟨rfl,e0,e8,e9,e10,g6,hs3.trans (hx.stp.trans (hx5.stp.trans hs6)),hwr6⟩
   ·obtain ⟨rfl,e0,e8,e9,e10,g2,hs2,hwr2⟩:=hR
    refine Za (aT (I (w64 (n+(1:Int)))) e10 rfl rfl (M (I (w64 (n+(1:Int)))) ?_))
    exact O (hrec (cc,w64 (n+1)) _ _ _ ⟨rfl,e0,e8,e9,rfl,g2,hs2,hwr2⟩ hk)
  ·refine Zf (G0 hc rfl (Th (Gr (Gr (G2 ?_)))))
   obtain rfl:=sinj hk
   exact hQ _ _ _ ⟨rfl,e0,g1,hs,hwr⟩
 ·obtain ⟨rfl,e0,g1,hs,hwr⟩:=hR
  obtain ⟨c0,hc0,hf⟩:=Z1 hf
  obtain rfl:=sinj hf
  refine Z (aQ e0 (Y (.pointer (some ⟨bk,0,none⟩)) (Tu rfl) (Y (.pointer (some ⟨bk,0,none⟩)) (show Pur _ _ _ (S (.pointer (some ⟨bk,0,none⟩)) 0) from aa Fs ⟨bk,0,rfl⟩) (G (Q8 (vs:=[.pointer (some ⟨bk,0,none⟩),.int .u8 (10:UInt8).toNat]) en111 (.cons rfl (.cons rfl .nil)) (wwb (c:=10) hwr hc0) fun q4 w4 h4=>?_)))))
  obtain ⟨g4,hs4,hwr4⟩:=h4
  refine O (Za (aQ e0 (Y (.pointer (some ⟨bk,0,none⟩)) (Tu rfl) (Y (.pointer (some ⟨bk,2,none⟩)) (show Pur _ _ _ (S (.pointer (some ⟨bk,0,none⟩)) 2) from aa atW_1 ⟨bk,0,rfl⟩) ?_))))
  obtain ⟨b,a,v,hp,hb,hz,hne,ha⟩:=hwr4
  injection hp with hp;injection hp with hp;injection hp with hp _
  subst hp
  refine G (Xf isAgg3 rfl (hb.cell.trans rfl) (aT (I (w64 (s.2+(1:Int)))) rfl rfl rfl (Y (.pointer (some ⟨bk,0,none⟩)) (Tu rfl) (Y (.pointer (some ⟨bk,2,none⟩)) (show Pur _ _ _ (S (.pointer (some ⟨bk,0,none⟩)) 2) from aa atW_1 ⟨bk,0,rfl⟩) (G (D2 (c:=I (w64 (s.2+(1:Int)))) sizeOf3 rfl rfl rfl (by simp) hb fun w5 hs5 hb5 hk5=>(Zb ?_)))))))
  exact Xs rfl rfl ⟨g4,hs.trans (hs4.trans hs5),bk,a,v,rfl,hb5,hz.other hne hk5,hne,ha⟩
def f77 (x0:List UInt8 × Int) (c:Gi) (n:Int):Option (List UInt8 × Int):=
 (f114 c.Row n).bind fun t=>f76 x0 [.str ⟨bif c.Turned then [116,117,114,110,101,100] else [99,97,114,100]⟩,bif decide (c.Number=-1) then .str ⟨[63]⟩ else .int c.Number,.str t]
theorem en77:Enters prog 77:=yC func77
theorem wk77 {i:Nat} {g:Gh} {w:World} {s s':List UInt8 × Int} {c:Gi} {n:Int} {p u:Value} (hT:Vc 0 g.m w) (h:WR i g w 5 179 s p) (hu:RV g.m w c u) (hf:f77 s c n=some s') :
  Calls prog 77 #[p,u,I n] w fun q w'=>∃ v,q=.returned v∧∃ g',Stp i g w g' w'∧WR i g' w' 5 179 s' p:=by
 unfold f77 at hf
 obtain ⟨tx,htx,hf⟩:=Z1 hf
 refine Q6 func77 rfl (Nat.le_of_ble_eq_true rfl) ?_
 refine Z (G (Tw (g:=g) rfl hu fun g1 w1 p1 hx1 q1=>?_))
 have h1:=h.ext hx1
 have hT1:=hT.ext hx1
 refine O (Kj (fun e ds w'=>ds=[]∧e 0=p∧e 2=I n∧e 4=p1∧e 6=Str.v ⟨[99,97,114,100]⟩∧e 7=(AnyV.int c.Number:Hl).v∧∃ g',Ext g1 w1 g' w') (fun Q' hQ=>?_) (fun e ds w' hR=>?_))
 ·refine Zs (x:=.tmp 8) isAgg3 sizeOf3 (Zm Jm.1 q1) fun vN rN hlN=>?_
  obtain rfl:=Zj.1 rN
  refine ab (g:=g1) (n:=5) [] [0,1,2,3,4] Ug trivial (V (S p1 0) rfl (aa R0 (PT.ptr q1)) (G3 (c:=I c.Number) rfl rfl .plain xC hlN rfl (V (AnyV.int c.Number:Hl).v rfl (Uj underlying3 rfl) (V (Str.v ⟨[99,97,114,100]⟩) rfl (Tp rfl) (V (AnyV.int c.Number:Hl).v rfl (Tp rfl) (Ki fun g2 w2 hs=>?_))))))
  exact Zb (hQ _ _ _ ⟨rfl,rfl,rfl,rfl,rfl,rfl,g2,hs⟩)
 obtain ⟨rfl,e0,e2,e4,e6,e7,g2,hx2⟩:=hR
 have h2:=h1.ext hx2
 have hT2:=hT1.ext hx2
 have q2:=q1.ext hx2
 refine Kj (fun e ds w'=>ds=[]∧e 0=p∧e 2=I n∧e 4=p1∧e 6=Str.v ⟨bif c.Turned then [116,117,114,110,101,100] else [99,97,114,100]⟩∧e 7=(AnyV.int c.Number:Hl).v∧∃ g',Ext g1 w1 g' w') (fun Q' hQ=>?_) (fun e ds w' hR=>?_)
 ·refine Z (Y (S p1 2) (Zc P2 e4 (PT.ptr q2)) (G (Ga (g:=g2) isAgg4 sizeOf4 rfl (Zm Uq.1 q2) fun v r=>?_)))
  obtain rfl:=Tz.1 r
  refine O ?_
  rcases Bool.eq_false_or_eq_true c.Turned with hb | hb
  ·refine Gz hb rfl (Za (H (Str.v ⟨[116,117,114,110,101,100]⟩) ?_))
   exact Zb (hQ _ _ _ ⟨rfl,e0,e2,e4,by simp only [hb,cond_true];rfl,e7,g2,hx2⟩)
  ·exact G0 hb rfl (Zu (hQ _ _ _ ⟨rfl,e0,e2,e4,by simp only [hb,cond_false];exact e6,e7,g2,hx2⟩))
 clear e0 e2 e4 e6 e7
 obtain ⟨rfl,e0,e2,e4,e6,e7,g2,hx2⟩:=hR
 have h2:=h1.ext hx2
 have hT2:=hT1.ext hx2
 have q2:=q1.ext hx2
 refine Kj (fun e ds w'=>ds=[]∧e 0=p∧e 2=I n∧e 4=p1∧e 6=Str.v ⟨bif c.Turned then [116,117,114,110,101,100] else [99,97,114,100]⟩∧e 7=(bif decide (c.Number=-1) then AnyV.str ⟨[63]⟩ else AnyV.int c.Number:Hl).v∧∃ g',Ext g1 w1 g' w') (fun Q' hQ=>?_) (fun e ds w' hR=>?_)
 ·refine Z (Y (S p1 0) (Zc R0 e4 (PT.ptr q2)) (G (Ga (g:=g2) isAgg3 sizeOf3 rfl (Zm Jm.1 q2) fun v r=>?_)))
  obtain rfl:=Zj.1 r
  refine aT (.bool (decide (c.Number=-1))) rfl rfl rfl (O ?_)
  rcases Bool.eq_false_or_eq_true (decide (c.Number=-1)) with hb | hb
  ·refine Gz hb rfl (Za (Y (AnyV.str ⟨[63]⟩:Hl).v (Hy underlying9 rfl) (H (AnyV.str ⟨[63]⟩:Hl).v ?_)))
   exact Zb (hQ _ _ _ ⟨rfl,e0,e2,e4,e6,by simp only [hb,cond_true];rfl,g2,hx2⟩)
  ·exact G0 hb rfl (Zu (hQ _ _ _ ⟨rfl,e0,e2,e4,e6,by simp only [hb,cond_false];exact e7,g2,hx2⟩))
 clear e0 e2 e4 e6 e7
 obtain ⟨rfl,e0,e2,e4,e6,e7,g2,hx2⟩:=hR
 have h2:=h1.ext hx2
 have hT2:=hT1.ext hx2
 have q2:=q1.ext hx2
 refine Za (aQ e0 (aQ e6 (Y (AnyV.str _:Hl).v (Hy underlying9 rfl) (aQ e7 (Y (S p1 1) (Zc Dn e4 (PT.ptr q2)) (G (Ga (g:=g2) isAgg3 sizeOf3 rfl (Zm Hh.1 q2) fun v r=>?_)))))))
 obtain rfl:=Zj.1 r
 refine aQ e2 (G (aJ (g:=g2) (vs:=[I c.Row,I n]) en114 (wk114 htx) fun g3 w3 v3 hx3 hv3=>?_))
 subst hv3
 have h3:=h2.ext hx3
 have hT3:=hT2.ext hx3
 refine Y (AnyV.str tx:Hl).v (Hy underlying9 rfl) (G (Gd (g:=g3) 1 (xs:=([.str ⟨bif c.Turned then [116,117,114,110,101,100] else [99,97,114,100]⟩,bif decide (c.Number=-1) then .str ⟨[63]⟩ else .int c.Number,.str tx]:List Hl)) (vs:=[_,_,_]) underlying181 sizeOf20 zeroValue20 rfl rfl (.cons rfl (.cons rfl (.cons rfl .nil))) (RVs.cons (Hr.2 rfl) (RVs.cons (Hr.2 rfl) (RVs.cons (Hr.2 rfl) RVs.nil))) rfl rfl fun g4 w4 v4 _ _ r4 hx4 _=>(G (Q8 (vs:=[p,v4]) en76 (.cons rfl (.cons rfl .nil)) (wk76 (hT3.ext hx4) (h3.ext hx4) r4 hf) fun q5 w5 h5=>?_))))
 obtain ⟨g5,hs5,h5⟩:=h5
 refine Zb ?_
 exact Xs rfl rfl ⟨g5,hx1.stp.trans (hx2.stp.trans (hx3.stp.trans (hx4.stp.trans hs5))),h5⟩
theorem D_boxW {P:Program} {e:Env} {g:Gh} {w:World} {K:Value→World→Prop} (i:Nat) {et T:TypeId} {x:Operand} {v:Value} (hx:X e x=v) (hv:v.cells=#[.pointer none,.slice none 0 0,I 0])
  (h:∀ g' w' b,Stp i g w g' w'→WR i g' w' et T ([],0) (.pointer (some ⟨b,0,none⟩))→K (.pointer (some ⟨b,0,none⟩)) w'):Doe P (.box T x) e w K:=fun d ty pos af gd=>by
 have hrun:(execOp (X e) ⟨d,.box T x,ty,pos,af,gd⟩).run P w=.ok (.value (.pointer (some ⟨w.heap.size,0,none⟩))) (w.alloc (.cells v.cells T)):=by
  simp [execOp,hx,Instr.box,newVar,newRow,Result.andThen]
 unfold doE;rw [hrun]
 refine h _ _ w.heap.size (H8 i g w _ T 0) ⟨_,_,_,rfl,⟨Tv _ _ _,Tv _ _ _,?_⟩,OZ.nil,(fun h=>by cases h),.inl rfl⟩
 rw [Wf,hv]
theorem M2 {w0 w1:World} {g g1:Gh} {bk:Nat} (hbk:g.o bk=1) (hs:Stp 1 g w0 g1 w1) (hb:w1.heap[bk]?=w0.heap[bk]?):LTg [7] {m:=g.m,o:=fun b=>if b=bk then 7 else g.o b} w0 {m:=g1.m,o:=fun b=>if b=bk then 7 else g1.o b} w1:=by
 refine ⟨hs.ch,fun b hlt hu=>?_⟩;by_cases h:b=bk
 ·subst h;exact ⟨hb,by simp⟩
 ·have h7:g.o b=7:=by simpa [h] using hu
  have hne:g.o b≠1:=by rw [h7];decide
  exact ⟨hs.block b hlt hne,by simp [h,hs.o b hlt hne]⟩
theorem Ei:(prog.info? 20).map (fun i=>(i.zero,i.size,i.bytes))=some (some .nilIface,1,16):=by kernel_rfl
theorem lay_179w:Qk prog 179=some ([.pointer none,.slice none 0 0,I 0],[(0,2),(2,1)]):=by kernel_rfl
def tieWs (t:Gx):Option (List Hl):=
 lp (σ:=List Hl × Int) (fun k z=>bif decide (z.2<(t.Harness.Warps.length:Int)) then (idx t.Harness.Warps z.2).bind fun a=>(apnd 16 z.1 [AnyV.int a]).bind fun y=>k (y,w64 (z.2+(1:Int))) else some z.1) big ([.str ⟨[116,105,101]⟩,.str t.Name,.int t.Harness.Hooks],0)
def wTies (m:Tn) (s:List UInt8 × Int):Option (List UInt8 × Int):=
 lp (σ:=(List UInt8 × Int) × Int) (fun k z=>bif decide (z.2<(m.Ties.length:Int)) then (idx m.Ties z.2).bind fun a=>(tieWs a).bind fun ws=>(f76 z.1 ws).bind fun y=>k (y,w64 (z.2+(1:Int))) else some z.1) big (s,0)
def E1 (c:Gm) (s:List UInt8 × Int):Option (List UInt8 × Int):=
 lp (σ:=(List UInt8 × Int) × Int) (fun k z=>bif decide (z.2<(c.Chain.Cards.length:Int)) then (idx c.Chain.Cards z.2).bind fun a=>(f77 z.1 a c.Chain.Hooks).bind fun y=>k (y,w64 (z.2+(1:Int))) else some z.1) big (s,0)
def Oj (m:Tn) (s:List UInt8 × Int):Option (List UInt8 × Int):=
 lp (σ:=(List UInt8 × Int) × Int) (fun k z=>bif decide (z.2<(m.Chains.length:Int)) then (idx m.Chains z.2).bind fun a=>(f76 z.1 [.str ⟨[99,104,97,105,110]⟩,.str a.Name,.int a.Chain.Hooks]).bind fun s1=>(E1 a s1).bind fun y=>k (y,w64 (z.2+(1:Int))) else some z.1) big (s,0)
def f41 (m:Tn):Option (Str × Int):=
 (f35 m).bind fun ck=>bif !decide (ck=0) then some (⟨[]⟩,ck) else
 (f76 ([],0) [.str ⟨[109,105,108,108]⟩]).bind fun s0=>(wTies m s0).bind fun s1=>(Oj m s1).bind fun s2=>
 bif s2.1.isEmpty then none else (f78 ⟨s2.1⟩).bind fun sm=>(f76 s2 [.str ⟨[101,110,100]⟩,.int s2.2,.int sm]).bind fun s3=>
 bif s3.1.isEmpty then none else some (⟨s3.1⟩,0)
theorem nemp {s:List UInt8} (h:s.isEmpty=false):s≠[]:=fun h0=>by subst h0;cases h
theorem en41:Enters prog 41:=yC func41
theorem wk41 {x0:Tn} (hTI:Vc 0 gI.m wI) (rp0:RV gI.m wI x0 up0) {r:Str × Int} (h:f41 x0=some r):Fn prog 41 #[up0] gI wI (fun _ _ v=>∃ y0 y1,v=.tuple #[y0,y1]∧y0=Str.v r.1∧y1=I r.2):=by
 unfold f41 at h;refine fnE func41 rfl rfl fun g0 hm hfr=>?_;have rp0:=RVc hm rp0;have hT0:Vc 0 g0.m wI:=hm▸hTI;refine Z (G (Tw (g:=g0) rfl rp0 fun g1 w1 p1 hx1 q1=>?_));have hfr:=hfr.ext hx1;have hT1:=hT0.ext hx1;refine H (Str.v ⟨[]⟩) (H (I 0) (O (Zf (Z (G (Ga (g:=g1) isAgg72 sizeOf72 rfl q1 fun vm rm=>?_))))));obtain ⟨ck,hck,h⟩:=Z1 h;refine G (aJ (g:=g1) (vs:=[vm]) en35 (wk35 rm hck) fun g2 w2 v2 hx2 hv2=>?_);subst hv2;have hfr:=hfr.ext hx2;have hT2:=hT1.ext hx2;have q2:=q1.ext hx2;refine H (I ck) (O (Z (M (I ck) (aT (.bool (!decide (ck=0))) rfl rfl rfl (O ?_)))));rcases Zt h with ⟨hc,h⟩ | ⟨hc,h⟩
 ·refine Gz hc rfl (Z (M (I ck) (H (Str.v ⟨[]⟩) (H (I ck) (O (Gb (Gj ?_)))))))
  cases h;exact H9 rfl rfl rfl rfl ⟨_,hfr,_,_,rfl,rfl,rfl⟩
 refine G0 hc rfl (Zu (Zd ?_));obtain ⟨s0,hs0,h⟩:=Z1 h;obtain ⟨s1,hs1,h⟩:=Z1 h;obtain ⟨s2,hs2,h⟩:=Z1 h;refine Z (Y (.agg #[.pointer none,.slice none 0 0,I 0]) (show Pur _ _ _ (.agg #[.pointer none,.slice none 0 0,I 0]) from T3 (vs:=[]) [[.pointer none,.slice none 0 0],[I 0]] lay_179w rfl rfl .nil trivial) (G (D_boxW (g:=g2) 1 (et:=5) rfl rfl fun g3 w3 bk hx3 hw3=>?_)));have hfr:=hfr.stp hx3;have hT3:=hT2.stp hx3;have q3:=q2.stp hx3;refine H (.pointer (some ⟨bk,0,none⟩)) (O (Z (M (.pointer (some ⟨bk,0,none⟩)) (Y (AnyV.str ⟨[109,105,108,108]⟩:Hl).v (Hy underlying9 rfl) (G (Gd (g:=g3) 3 (xs:=([.str ⟨[109,105,108,108]⟩]:List Hl)) (vs:=[_]) underlying181 sizeOf20 zeroValue20 rfl rfl (.cons rfl .nil) (RVs.cons (Hr.2 rfl) RVs.nil) rfl rfl fun g4 w4 v4 _ _ r4 hx4 _=>?_))))));have hfr:=hfr.ext hx4;refine G (Q8 (vs:=[.pointer (some ⟨bk,0,none⟩),v4]) en76 (.cons rfl (.cons rfl .nil)) (wk76 (hT3.ext hx4) (hw3.ext hx4) r4 hs0) fun q5 w5 h5=>?_);obtain ⟨g5,hx5,hw5⟩:=h5;have hfr:=hfr.stp hx5;have hT5:=(hT3.ext hx4).stp hx5;have q5:=(q3.ext hx4).stp hx5;refine O ?_;clear hT0 hT1 hT2 hT3 hx1 hx2 hx3 hx4 hx5 q1 q2 q3 rm r4 hc hck hw3;refine Kj (fun e ds w'=>ds=[]∧e 1=p1∧e 5=.pointer (some ⟨bk,0,none⟩)∧∃ g',Fr gI wI g' w'∧Ch g5.m w5 g'.m w'∧WR 1 g' w' 5 179 s1 (.pointer (some ⟨bk,0,none⟩))) (fun Q' hQ=>?_) (fun e ds w6 hR=>?_)
 ·clear h
  refine Z (Y (S p1 0) (aa Xa (PT.ptr q5)) (G (Ga (g:=g5) isAgg69 sizeOf69 rfl (Zm Kb.1 q5) fun tv rt=>(Y (I (x0.Ties.length:Int)) (G7 (v:=tv) underlying69 rfl rt) (M (I 0) (O (Zr ?_)))))));unfold wTies at hs1;refine Sj hs1 (fun (z:(List UInt8 × Int) × Int) e ds w'=>ds=[]∧e 1=p1∧e 5=.pointer (some ⟨bk,0,none⟩)∧e 27=tv∧e 28=I (x0.Ties.length:Int)∧e 29=I z.2∧∃ g',Fr gI wI g' w'∧Ch g5.m w5 g'.m w'∧WR 1 g' w' 5 179 z.1 (.pointer (some ⟨bk,0,none⟩))) ⟨rfl,rfl,rfl,rfl,rfl,rfl,g5,hfr,Ch.refl _ _,hw5⟩ (fun X rec hrec=>?_);rintro ⟨s,n⟩ e ds w1 ⟨rfl,e1,e5,e27,e28,e29,g,hfr,hch,hw⟩ hk;refine Z (aT (.bool (decide (n<(x0.Ties.length:Int)))) e29 e28 rfl (O ?_));rcases Zt hk with ⟨hc,hk⟩ | ⟨hc,hk⟩
  ·refine Zf (Gz hc rfl (Zu (Zd ?_)))
   obtain ⟨a,ha,hk⟩:=Z1 hk;obtain ⟨ws,hws,hk⟩:=Z1 hk;obtain ⟨y,hy,hk⟩:=Z1 hk;refine Kj (fun e ds w'=>ds=[]∧e 1=p1∧e 5=.pointer (some ⟨bk,0,none⟩)∧e 27=tv∧e 28=I (x0.Ties.length:Int)∧e 29=I n∧∃ g',Fr gI wI g' w'∧Ch g5.m w5 g'.m w'∧WR 1 g' w' 5 179 y (.pointer (some ⟨bk,0,none⟩))) (fun Q2 hQ2=>?_) (fun e ds w2 hR=>?_)
   ·refine Zr (Z ?_)
    have rt1:=rt.ch hch;refine Y (Gy tv n 3) (Zh (α:=Gx) underlying69 sizeOf121 e27 rt1 e29 ha) (G (Ga (g:=g) isAgg121 sizeOf121 rfl (G1 rt1 ha) fun va ra=>(G (Ba (g:=g) 2 (⟨⟨[]⟩,⟨0,[]⟩⟩:Gx) zeroValue121 (fun m w=>⟨_,Gg Sx (Gg Zw Tb),rfl⟩) fun g2 w2 pt hs2 b2=>(G (Um (g:=g2) (v:=va) sizeOf121 rfl b2 rfl (ra.stp hs2) fun g3 w3 hs3 b3=>?_))))));obtain ⟨g4,hs4,q4⟩:=b3.pub;have hfr:=((hfr.stp hs2).stp hs3).stp hs4;have hch:=hch.trans (hs2.ch.trans (hs3.ch.trans hs4.ch));have hw:=((hw.stp hs2 rfl).stp hs3 rfl).stp hs4 rfl;clear b2 b3 hs2 hs3 hs4 ra rt1;refine O (Z ?_);have qh:=Zm Yp.1 q4;refine Y (AnyV.str ⟨[116,105,101]⟩:Hl).v (Hy underlying9 rfl) (Y (S pt 0) (aa Pz (PT.ptr q4)) (G (Ga (g:=g4) isAgg9 sizeOf9 rfl (Zm Vj.1 q4) fun v5 r5=>?_)));obtain rfl:=K7.1 r5;refine Y (AnyV.str a.Name:Hl).v (Hy underlying9 rfl) (Y (S pt 1) (aa D9 (PT.ptr q4)) (Y (S (S pt 1) 0) (aa Xc (PT.ptr qh)) (G (Ga (g:=g4) isAgg3 sizeOf3 rfl (Zm Wj.1 qh) fun v6 r6=>?_))));obtain rfl:=Zj.1 r6;refine Y (AnyV.int a.Harness.Hooks:Hl).v (Uj underlying3 rfl) (G (Gd (g:=g4) 3 (xs:=([.str ⟨[116,105,101]⟩,.str a.Name,.int a.Harness.Hooks]:List Hl)) (vs:=[_,_,_]) underlying181 sizeOf20 zeroValue20 rfl rfl (.cons rfl (.cons rfl (.cons rfl .nil))) (RVs.cons (Hr.2 rfl) (RVs.cons (Hr.2 rfl) (RVs.cons (Hr.2 rfl) RVs.nil))) rfl rfl fun g7 w7 v7 _ o7 r7 hx7 _=>?_));have hfr:=hfr.ext hx7;have hch:=hch.trans hx7.ch;have hw:=hw.ext hx7;have qh:=qh.ext hx7;refine H v7 (O ?_);have hpt:=PT.ptr q4;clear hx7 q4;refine Kj (fun e ds w'=>ds=[]∧e 1=p1∧e 5=.pointer (some ⟨bk,0,none⟩)∧e 27=tv∧e 28=I (x0.Ties.length:Int)∧e 29=I n∧∃ g' v8,e 8=v8∧Fr gI wI g' w'∧Ch g5.m w5 g'.m w'∧WR 1 g' w' 5 179 s (.pointer (some ⟨bk,0,none⟩))∧RV g'.m w' ws v8) (fun Q3 hQ3=>?_) (fun e ds w8 hR=>?_)
    ·refine Z (Y (S pt 1) (aa D9 hpt) (Y (S (S pt 1) 1) (aa H0 (PT.ptr qh)) (G (Ga (g:=g7) isAgg25 sizeOf25 rfl (Zm Qb.1 qh) fun hv rh=>(Y (I (a.Harness.Warps.length:Int)) (G7 (v:=hv) underlying25 rfl rh) (M (I 0) (O (Zr ?_))))))))
     unfold tieWs at hws;refine Sj hws (fun (z:List Hl × Int) e ds w'=>ds=[]∧e 1=p1∧e 5=.pointer (some ⟨bk,0,none⟩)∧e 27=tv∧e 28=I (x0.Ties.length:Int)∧e 29=I n∧e 44=hv∧e 45=I (a.Harness.Warps.length:Int)∧e 46=I z.2∧∃ g' v8,e 8=v8∧Fr gI wI g' w'∧Ch g5.m w5 g'.m w'∧Ch g7.m w7 g'.m w'∧WR 1 g' w' 5 179 s (.pointer (some ⟨bk,0,none⟩))∧RV g'.m w' z.1 v8∧OS 3 g' w' 20 z.1 v8) ⟨rfl,e1,e5,e27,e28,e29,rfl,rfl,rfl,g7,v7,rfl,hfr,hch,Ch.refl _ _,hw,r7,o7⟩ (fun X rec hrec=>?_);rintro ⟨zs,j⟩ e ds w1 ⟨rfl,e1,e5,e27,e28,e29,e44,e45,e46,g,v8,e8,hfr,hch,hch7,hw,rz,oz⟩ hk;refine Z (aT (.bool (decide (j<(a.Harness.Warps.length:Int)))) e46 e45 rfl (O ?_));rcases Zt hk with ⟨hc,hk⟩ | ⟨hc,hk⟩
     ·refine Zf (Gz hc rfl (Zu (Zd ?_)))
      obtain ⟨b,hb,hk⟩:=Z1 hk;obtain ⟨yy,hyy,hk⟩:=Z1 hk;have rh1:=rh.ch hch7;refine Zf (Zr (Z (Y (Gy hv j 1) (Zh (α:=Int) underlying25 sizeOf3 e44 rh1 e46 hb) (G (Ga (g:=g) isAgg3 sizeOf3 rfl (G1 rh1 hb) fun vb rb=>?_)))));obtain rfl:=Zj.1 rb;refine H (I b) (O (Za (aQ e8 (M (I b) (Y (AnyV.int b:Hl).v (Uj underlying3 rfl) (G (Gd (g:=g) 4 (xs:=([.int b]:List Hl)) (vs:=[_]) underlying181 sizeOf20 zeroValue20 rfl rfl (.cons rfl .nil) (RVs.cons (Hr.2 rfl) RVs.nil) rfl rfl fun g2 w2 v2 _ _ r2 hx2 _=>(G (Qe (g:=g2) (i:=3) underlying181 Ei rfl rfl (oz.ext hx2) (rz.ext hx2) rfl r2 hyy fun g3 w3 v3 hs3 o3 r3 _=>(H v3 (Zb (Te (Zd (Za (aT (I (w64 (j+(1:Int)))) e46 rfl rfl (M (I (w64 (j+(1:Int)))) ?_))))))))))))))));exact O (hrec (yy,w64 (j+1)) _ _ _ ⟨rfl,e1,e5,e27,e28,e29,e44,e45,rfl,g3,v3,rfl,(hfr.ext hx2).stp hs3,hch.trans (hx2.ch.trans hs3.ch),hch7.trans (hx2.ch.trans hs3.ch),(hw.ext hx2).stp hs3 rfl,r3,o3⟩ hk)
     ·refine Zf (G0 hc rfl (Th (Gr (Gr (G2 ?_)))))
      obtain rfl:=sinj hk;exact hQ3 _ _ _ ⟨rfl,e1,e5,e27,e28,e29,g,v8,e8,hfr,hch,hw,rz⟩
    ·obtain ⟨rfl,e1,e5,e27,e28,e29,g,v8,e8,hfr,hch,hw,rz⟩:=hR
     refine Za (aQ e5 (aQ e8 (G (Q8 (vs:=[.pointer (some ⟨bk,0,none⟩),v8]) en76 (.cons rfl (.cons rfl .nil)) (wk76 (hT5.ch hch) hw rz hy) fun q9 w9 h9=>?_))));obtain ⟨g9,hs9,hw9⟩:=h9;exact Zb (Te (hQ2 _ _ _ ⟨rfl,e1,e5,e27,e28,e29,g9,hfr.stp hs9,hch.trans hs9.ch,hw9⟩))
   ·obtain ⟨rfl,e1,e5,e27,e28,e29,g,hfr,hch,hw⟩:=hR
    refine Za (aT (I (w64 (n+(1:Int)))) e29 rfl rfl (M (I (w64 (n+(1:Int)))) ?_));exact O (hrec (y,w64 (n+1)) _ _ _ ⟨rfl,e1,e5,e27,e28,rfl,g,hfr,hch,hw⟩ hk)
  ·refine Zf (G0 hc rfl (Th (Gr (Gr (G2 ?_)))))
   obtain rfl:=sinj hk;exact hQ _ _ _ ⟨rfl,e1,e5,g,hfr,hch,hw⟩
 obtain ⟨rfl,e1,e5,g6,hfr6,hch6,hw6⟩:=hR;have q6:=q5.ch hch6;have hT6:=hT5.ch hch6;clear hfr hs1 hw5 q5 hT5 hch6 hs0;refine Kj (fun e ds w'=>ds=[]∧e 5=.pointer (some ⟨bk,0,none⟩)∧∃ g',Fr gI wI g' w'∧Ch g6.m w6 g'.m w'∧WR 1 g' w' 5 179 s2 (.pointer (some ⟨bk,0,none⟩))) (fun Q' hQ=>?_) (fun e ds w' hR=>?_)
 ·clear h
  refine Z (Y (S p1 1) (Zc V7 e1 (PT.ptr q6)) (G (Ga (g:=g6) isAgg70 sizeOf70 rfl (Zm Kc.1 q6) fun tv rt=>(Y (I (x0.Chains.length:Int)) (G7 (v:=tv) underlying70 rfl rt) (M (I 0) (O (Zr ?_)))))));unfold Oj at hs2;refine Sj hs2 (fun (z:(List UInt8 × Int) × Int) e ds w'=>ds=[]∧e 5=.pointer (some ⟨bk,0,none⟩)∧e 61=tv∧e 62=I (x0.Chains.length:Int)∧e 63=I z.2∧∃ g',Fr gI wI g' w'∧Ch g6.m w6 g'.m w'∧WR 1 g' w' 5 179 z.1 (.pointer (some ⟨bk,0,none⟩))) ⟨rfl,e5,rfl,rfl,rfl,g6,hfr6,Ch.refl _ _,hw6⟩ (fun X rec hrec=>?_);rintro ⟨s,n⟩ e ds w1 ⟨rfl,e5,e61,e62,e63,g,hfr,hch,hw⟩ hk;refine Z (aT (.bool (decide (n<(x0.Chains.length:Int)))) e63 e62 rfl (O ?_));rcases Zt hk with ⟨hc,hk⟩ | ⟨hc,hk⟩
  ·refine Zf (Gz hc rfl (Zu (Zd ?_)))
   obtain ⟨a,ha,hk⟩:=Z1 hk;obtain ⟨sa,hsa,hk⟩:=Z1 hk;obtain ⟨y,hy,hk⟩:=Z1 hk;refine Kj (fun e ds w'=>ds=[]∧e 5=.pointer (some ⟨bk,0,none⟩)∧e 61=tv∧e 62=I (x0.Chains.length:Int)∧e 63=I n∧∃ g',Fr gI wI g' w'∧Ch g6.m w6 g'.m w'∧WR 1 g' w' 5 179 y (.pointer (some ⟨bk,0,none⟩))) (fun Q2 hQ2=>?_) (fun e ds w2 hR=>?_)
   ·refine Zr (Z ?_)
    have rt1:=rt.ch hch;refine Y (Gy tv n 3) (Zh (α:=Gm) underlying70 sizeOf123 e61 rt1 e63 ha) (G (Ga (g:=g) isAgg123 sizeOf123 rfl (G1 rt1 ha) fun va ra=>(G (Ba (g:=g) 2 (⟨⟨[]⟩,⟨0,[]⟩⟩:Gm) zeroValue123 (fun m w=>⟨_,Gg Sx (Gg Zw Tb),rfl⟩) fun g2 w2 pt hs2 b2=>(G (Um (g:=g2) (v:=va) sizeOf123 rfl b2 rfl (ra.stp hs2) fun g3 w3 hs3 b3=>?_))))));obtain ⟨g4,hs4,q4⟩:=b3.pub;have hfr:=((hfr.stp hs2).stp hs3).stp hs4;have hch:=hch.trans (hs2.ch.trans (hs3.ch.trans hs4.ch));have hw:=((hw.stp hs2 rfl).stp hs3 rfl).stp hs4 rfl;clear b2 b3 hs2 hs3 hs4 ra rt1;refine O (Z ?_);have qh:=Zm Jl.1 q4;refine aQ e5 (Y (AnyV.str ⟨[99,104,97,105,110]⟩:Hl).v (Hy underlying9 rfl) (Y (S pt 0) (aa P5 (PT.ptr q4)) (G (Ga (g:=g4) isAgg9 sizeOf9 rfl (Zm Us.1 q4) fun v5 r5=>?_))));obtain rfl:=K7.1 r5;refine Y (AnyV.str a.Name:Hl).v (Hy underlying9 rfl) (Y (S pt 1) (aa Vt (PT.ptr q4)) (Y (S (S pt 1) 0) (aa Vm (PT.ptr qh)) (G (Ga (g:=g4) isAgg3 sizeOf3 rfl (Zm Km.1 qh) fun v6 r6=>?_))));obtain rfl:=Zj.1 r6;refine Y (AnyV.int a.Chain.Hooks:Hl).v (Uj underlying3 rfl) (G (Gd (g:=g4) 3 (xs:=([.str ⟨[99,104,97,105,110]⟩,.str a.Name,.int a.Chain.Hooks]:List Hl)) (vs:=[_,_,_]) underlying181 sizeOf20 zeroValue20 rfl rfl (.cons rfl (.cons rfl (.cons rfl .nil))) (RVs.cons (Hr.2 rfl) (RVs.cons (Hr.2 rfl) (RVs.cons (Hr.2 rfl) RVs.nil))) rfl rfl fun g7 w7 v7 _ o7 r7 hx7 _=>?_));have hfr:=hfr.ext hx7;have hch:=hch.trans hx7.ch;have hw:=hw.ext hx7;refine G (Q8 (vs:=[.pointer (some ⟨bk,0,none⟩),v7]) en76 (.cons rfl (.cons rfl .nil)) (wk76 (hT6.ch hch) hw r7 hsa) fun q8 w8 h8=>?_);obtain ⟨g8,hs8,hw8⟩:=h8;have hfr:=hfr.stp hs8;have hch:=hch.trans hs8.ch;have hpt:=PT.ptr q4;have qh:=(qh.ext hx7).stp hs8;clear hx7 q4 r7 o7 hw;refine O (Z (Y (S pt 1) (aa Vt hpt) (Y (S (S pt 1) 1) (aa H5 (PT.ptr qh)) (G (Ga (g:=g8) isAgg114 sizeOf114 rfl (Zm Qu.1 qh) fun hv rh=>(Y (I (a.Chain.Cards.length:Int)) (G7 (v:=hv) underlying114 rfl rh) (M (I 0) (O (Zr ?_)))))))));unfold E1 at hy;refine Sj hy (fun (z:(List UInt8 × Int) × Int) e ds w'=>ds=[]∧e 5=.pointer (some ⟨bk,0,none⟩)∧e 12=pt∧e 61=tv∧e 62=I (x0.Chains.length:Int)∧e 63=I n∧e 80=hv∧e 81=I (a.Chain.Cards.length:Int)∧e 82=I z.2∧∃ g',Fr gI wI g' w'∧Ch g6.m w6 g'.m w'∧Ch g8.m w8 g'.m w'∧WR 1 g' w' 5 179 z.1 (.pointer (some ⟨bk,0,none⟩))) ⟨rfl,e5,rfl,e61,e62,e63,rfl,rfl,rfl,g8,hfr,hch,Ch.refl _ _,hw8⟩ (fun X rec hrec=>?_);rintro ⟨sz,j⟩ e ds w1 ⟨rfl,e5,e12,e61,e62,e63,e80,e81,e82,g,hfr,hch,hch8,hw⟩ hk;refine Z (aT (.bool (decide (j<(a.Chain.Cards.length:Int)))) e82 e81 rfl (O ?_));rcases Zt hk with ⟨hc,hk⟩ | ⟨hc,hk⟩
    ·refine Zf (Gz hc rfl (Zu (Zd ?_)))
     obtain ⟨b,hb,hk⟩:=Z1 hk;obtain ⟨yy,hyy,hk⟩:=Z1 hk;have rh1:=rh.ch hch8;refine Zf (Zr (Z (Y (Gy hv j 3) (Zh (α:=Gi) underlying114 sizeOf118 e80 rh1 e82 hb) (G (Ga (g:=g) isAgg118 sizeOf118 rfl (G1 rh1 hb) fun vb rb=>(G (Ba (g:=g) 2 (⟨0,0,false⟩:Gi) zeroValue118 (fun m w=>⟨_,Gg Zw (Gg Zw Bd),rfl⟩) fun g2 w2 pc hs2 b2=>(G (Um (g:=g2) (v:=vb) sizeOf118 rfl b2 rfl (rb.stp hs2) fun g3 w3 hs3 b3=>?_)))))))));obtain ⟨g4,hs4,q4⟩:=b3.pub;have hfr:=((hfr.stp hs2).stp hs3).stp hs4;have hch4:=hs2.ch.trans (hs3.ch.trans hs4.ch);have hw:=((hw.stp hs2 rfl).stp hs3 rfl).stp hs4 rfl;refine O (Za (aQ e5 (G (Ga (g:=g4) isAgg118 sizeOf118 rfl q4 fun vc rc=>(Y (S pt 1) (Zc Vt e12 hpt) ?_)))));have qh4:=(qh.ch hch8).ch hch4;refine Y (S (S pt 1) 0) (aa Vm (PT.ptr qh4)) (G (Ga (g:=g4) isAgg3 sizeOf3 rfl (Zm Km.1 qh4) fun v6 r6=>?_));obtain rfl:=Zj.1 r6;refine G (Q8 (vs:=[.pointer (some ⟨bk,0,none⟩),vc,I a.Chain.Hooks]) en77 (.cons rfl (.cons rfl (.cons rfl .nil))) (wk77 (hT6.ch (hch.trans hch4)) hw rc hyy) fun q9 w9 h9=>?_);obtain ⟨g9,hs9,hw9⟩:=h9;refine Zb (Te (Zd (Za (aT (I (w64 (j+(1:Int)))) e82 rfl rfl (M (I (w64 (j+(1:Int)))) ?_)))));exact O (hrec (yy,w64 (j+1)) _ _ _ ⟨rfl,e5,e12,e61,e62,e63,e80,e81,rfl,g9,hfr.stp hs9,hch.trans (hch4.trans hs9.ch),hch8.trans (hch4.trans hs9.ch),hw9⟩ hk)
    ·refine Zf (G0 hc rfl (Th (Gr (Gr (G2 ?_)))))
     obtain rfl:=sinj hk;exact Te (hQ2 _ _ _ ⟨rfl,e5,e61,e62,e63,g,hfr,hch,hw⟩)
   ·obtain ⟨rfl,e5,e61,e62,e63,g,hfr,hch,hw⟩:=hR
    refine Za (aT (I (w64 (n+(1:Int)))) e63 rfl rfl (M (I (w64 (n+(1:Int)))) ?_));exact O (hrec (y,w64 (n+1)) _ _ _ ⟨rfl,e5,e61,e62,rfl,g,hfr,hch,hw⟩ hk)
  ·refine Zf (G0 hc rfl (Th (Gr (Gr (G2 ?_)))))
   obtain rfl:=sinj hk;exact hQ _ _ _ ⟨rfl,e5,g,hfr,hch,hw⟩
 clear e1 e5;obtain ⟨rfl,e5,g7,hfr7,hch7,hw7⟩:=hR;have hT7:=hT6.ch hch7;clear hfr6 hch7 hT6 q6 hw6 hs2;rcases Zt h with ⟨hc,h⟩ | ⟨hc,h⟩
 ·cases h
 obtain ⟨sm,hsm,h⟩:=Z1 h;obtain ⟨s3,hs3,h⟩:=Z1 h;rcases Zt h with ⟨hc3,h⟩ | ⟨hc3,h⟩
 ·cases h
 cases h;refine Zf ?_;obtain ⟨b,av,vv,hp,hb7,hz7,hne7,ha7⟩:=hw7;injection hp with hp;injection hp with hp;injection hp with hp _;subst hp;have hw7:WR 1 g7 w' 5 179 s2 (.pointer (some ⟨bk,0,none⟩)):=⟨_,av,vv,rfl,hb7,hz7,hne7,ha7⟩;have hlt7:=hb7.lt;have hbx:HBm 7 {m:=g7.m,o:=fun b=>if b=bk then 7 else g7.o b} w' bk (.cells #[av,vv,I s2.2] 179 (0,0)):=⟨by simp,hb7.2.1,hb7.2.2⟩;have hl:=L_ldW isAgg3 hbx (o:=2) (c:=I s2.2) rfl;refine D1 (g:={m:=g7.m,o:=fun b=>if b=bk then 7 else g7.o b}) (n:=14) [0,1,2,3,4,5,6,7,8,9,12] [7] [0,1,2,3,4,5,6,7,8,9,10,11,12,13] rfl Ug (by kernel_rfl) fun wc hx hlt=>?_;have hxc:Ext g7 w' g7 wc:=⟨hx.below,fun _ _=>rfl,fun _ _=>rfl⟩;have hwc:=hw7.ext hxc;have hTc:=hT7.ext hxc;refine Qq (c:=.pointer (some ⟨bk,0,none⟩)) rfl rfl .plain (Zk e5) (Qq (c:=(AnyV.str ⟨[101,110,100]⟩:Hl).v) rfl rfl .plain (Hy underlying9 rfl) (Qq (c:=.pointer (some ⟨bk,0,none⟩)) rfl rfl .plain (Zk e5) (Qq (c:=.pointer (some ⟨bk,0,none⟩)) rfl rfl .plain (Tu rfl) (Qq (c:=.pointer (some ⟨bk,2,none⟩)) rfl rfl .plain (show Pur _ _ _ (S (.pointer (some ⟨bk,0,none⟩)) 2) from aa atW_1 ⟨bk,0,rfl⟩) (CH_ldO (n:=7) (c:=I s2.2) rfl rfl .plain (hl _) rfl rfl (Qq (c:=(AnyV.int s2.2:Hl).v) rfl rfl .plain (Uj underlying3 rfl) (Qq (c:=.pointer (some ⟨bk,0,none⟩)) rfl rfl .plain (Zk e5) (Qq (c:=.pointer (some ⟨bk,0,none⟩)) rfl rfl .plain (Tu rfl) (Qq (c:=.pointer (some ⟨bk,0,none⟩)) rfl rfl .plain (show Pur _ _ _ (S (.pointer (some ⟨bk,0,none⟩)) 0) from aa Fs ⟨bk,0,rfl⟩) (Sl rfl rfl .plain (Q8 (vs:=[.pointer (some ⟨bk,0,none⟩)]) en79 (.cons rfl .nil) (wst hwc (nemp hc)) fun q8 w8 h8=>?_)))))))))));obtain ⟨rfl,hbk8,g8,hs8,hw8⟩:=h8;have hbk8:=hbk8 bk rfl;have hst8:Stp 1 g7 w' g8 w8:=hxc.stp.trans hs8;have hhb8:w8.heap[bk]?=w'.heap[bk]?:=hbk8.trans (hxc.below.block bk hlt7);refine ⟨(M2 hb7.1 hst8 hhb8).toW,?_⟩;refine Sl rfl rfl .plain (aJ (g:=g8) (vs:=[Str.v ⟨s2.1⟩]) en78 (wk78 hsm) fun g9 w9 v9 hx9 hv9=>?_);subst hv9;have hlt8:bk<w8.heap.size:=Gq (hhb8.trans hb7.2.2);have hhb9:w9.heap[bk]?=w'.heap[bk]?:=(hx9.below.block bk hlt8).trans hhb8;refine ⟨(M2 hb7.1 (hst8.trans hx9.stp) hhb9).toW,?_⟩;refine Qq (c:=(AnyV.int sm:Hl).v) rfl rfl .plain (Uj underlying3 rfl) (Sl rfl rfl .plain (Gd (g:=g9) 3 (xs:=([.str ⟨[101,110,100]⟩,.int s2.2,.int sm]:List Hl)) (vs:=[_,_,_]) underlying181 sizeOf20 zeroValue20 rfl rfl (.cons rfl (.cons rfl (.cons rfl .nil))) (RVs.cons (Hr.2 rfl) (RVs.cons (Hr.2 rfl) (RVs.cons (Hr.2 rfl) RVs.nil))) rfl rfl fun g10 w10 v10 _ o10 r10 hx10 _=>?_));have hlt9:bk<w9.heap.size:=Gq (hhb9.trans hb7.2.2);refine ⟨(M2 hb7.1 ((hst8.trans hx9.stp).trans hx10.stp) ((hx10.below.block bk hlt9).trans hhb9)).toW,?_⟩;refine Ri ?_;have hw10:=(hw8.ext hx9).ext hx10;have hT10:=hT7.ch (hst8.ch.trans (hx9.ch.trans hx10.ch));have hfr10:=((hfr7.stp hst8).ext hx9).ext hx10;refine G (Q8 (vs:=[.pointer (some ⟨bk,0,none⟩),v10]) en76 (.cons rfl (.cons rfl .nil)) (wk76 hT10 hw10 r10 hs3) fun q11 w11 h11=>?_);obtain ⟨g11,hs11,hw11⟩:=h11;refine O (Z (aQ e5 (Y (.pointer (some ⟨bk,0,none⟩)) (Tu rfl) (Y (.pointer (some ⟨bk,0,none⟩)) (show Pur _ _ _ (S (.pointer (some ⟨bk,0,none⟩)) 0) from aa Fs ⟨bk,0,rfl⟩) (G (Q8 (vs:=[.pointer (some ⟨bk,0,none⟩)]) en79 (.cons rfl .nil) (wst hw11 (nemp hc3)) fun q12 w12 h12=>?_))))));obtain ⟨rfl,_,g12,hs12,hw12⟩:=h12;refine H (Str.v ⟨s3.1⟩) (H (I 0) (O (Gb ?_)));exact H9 rfl rfl rfl rfl ⟨_,(hfr10.stp hs11).stp hs12,_,_,rfl,rfl,rfl⟩

theorem A6 {m:Nat→Nat} {w:World}:∀ {rows:List Fv} {cs:List Value},T1 m w rows cs→cs=rows.map (·.v)
 | [],_,h=>h
 | _::_,_,⟨_,_,rfl,h1,h2⟩=>by
  have h1:_=[_]:=h1
  rw [h1,A6 h2];rfl
theorem RO.ofOA {i:Nat} {g:Gh} {w:World} {t:TypeId} {rows:List Fv} {v:Value} (h:OA i g w t rows v):RO i g w t rows v:=by
 rcases h with h | ⟨b,c,cs,hv,ho,hm,hh,h1,h2,h3,hf⟩
 ·exact .inl h
 ·refine .inr ⟨b,c,cs,hv,ho,hm,hh,h1,h2,by simpa [GoT.k] using h3,fun n r hn=>?_⟩
  have hk:GoT.k Fv=1:=rfl;have he:=A6 hf;have hl:n<rows.length:=(List.getElem?_eq_some_iff.1 hn).1
  have h5:(cs.toList.take (rows.length*GoT.k Fv))[n]?=some r.v:=by rw [he];simp [hn]
  rw [List.getElem?_take,hk,if_pos (by omega)] at h5;simpa using h5
theorem pool_nil {α:Type} [GoT α] {t:TypeId} {j:Nat} {g:Gh} {w:World} (n:Nat):Xn (RS (α:=α) t) j g w (List.replicate n (⟨.slice none 0 0,rfl⟩:Fv)) (List.replicate n []) none:=by
 refine ⟨by simp,fun k r x _ h1 h2=>?_,fun k k' r r' _ _ _ h1 h2=>?_⟩
 ·obtain ⟨_,rfl⟩:=List.getElem?_eq_some_iff.1 h1
  obtain ⟨_,rfl⟩:=List.getElem?_eq_some_iff.1 h2;simp only [List.getElem_replicate];exact ⟨OS.nil,T8⟩
 ·obtain ⟨_,rfl⟩:=List.getElem?_eq_some_iff.1 h1
  simp only [List.getElem_replicate];intro b n c b' n' c' h
  cases h
theorem Ig:(prog.info? 112).map (fun i=>(i.zero,i.size,i.bytes))=some (some (.agg #[.int .i64 0,.int .i64 0]),2,16):=by kernel_rfl
theorem info_74w:(prog.info? 74).map (fun i=>(i.zero,i.size,i.bytes))=some (some (.slice none 0 0),1,24):=by kernel_rfl
noncomputable def f13 (m:Tn) (l:List (List UInt8)):Option ((List (List Str)) × Int × Int):=
  (f35 m).bind fun ck=>bif ck != (0:Int) then some ([],0,ck) else
  (f36 l).bind fun jn=>bif jn.2.2 != (0:Int) then some ([],jn.2.1,jn.2.2) else
  lp (σ:=(List T5 × List (List Str)) × Int) (fun k z=>bif decide (z.2<(jn.1.length:Int)) then (idx jn.1 z.2).bind fun c=>
    bif (bif decide (c.Chain≥(m.Chains.length:Int)) then true else decide (c.Tie≥(m.Ties.length:Int))) then some ([],z.2,7) else
    (idx z.1.1 c.Loom).bind fun cy=>(f37 cy m c).bind fun wv=>
    bif wv.2.1 != (0:Int) then some ([],z.2,wv.2.1) else
    (idx z.1.2 c.Loom).bind fun rw=>(apnd 16 rw wv.1).bind fun y=>k ((z.1.1.set c.Loom.toNat wv.2.2,z.1.2.set c.Loom.toNat y),w64 (z.2+(1:Int)))
   else some (z.1.2,0,0)) big ((List.replicate 16 ⟨0,0⟩,List.replicate 16 []),0)
theorem en13:Enters prog 13:=yC func13
theorem wk13 {x0:Tn} {x1:List (List UInt8)} {up0 up1:Value} (rp0:RV gI.m wI x0 up0) (rp1:RV gI.m wI x1 up1) {r:(List (List Str)) × Int × Int} (h:f13 x0 x1=some r) :
  Fn prog 13 #[up0,up1] gI wI (fun m w v=>∃ y0 y1 y2,v=.tuple #[y0,y1,y2]∧RV m w r.1 y0∧y1=I r.2.1∧y2=I r.2.2):=by
 unfold f13 at h
 obtain ⟨ck,hck,h⟩:=Z1 h
 refine fnE func13 rfl rfl fun g0 hm hfr=>?_
 have rp0:=RVc hm rp0
 have rp1:=RVc hm rp1
 refine Z (G (Tw (g:=g0) rfl rp0 fun g1 w1 p2 hx1 q2=>?_))
 have hfr:=hfr.ext hx1
 have rp1:=rp1.ext hx1
 refine H (.slice none 0 0) (H (I 0) (H (I 0) (O (Zf (Z (G (Ga (g:=g1) isAgg72 sizeOf72 rfl q2 fun vm rm=>(G (aJ (g:=g1) (vs:=[vm]) en35 (wk35 rm hck) fun g2 w2 v2 hx2 hv2=>?_)))))))))
 subst hv2
 have hfr:=hfr.ext hx2
 have rp1:=rp1.ext hx2
 have q2:=q2.ext hx2
 refine H (I ck) (O (Z (M (I ck) (aT (.bool (ck != (0:Int))) rfl rfl rfl (O ?_)))))
 rcases Zt h with ⟨hc,h⟩ | ⟨hc,h⟩
 ·refine Gz hc rfl (Z (M (I ck) (H (.slice none 0 0) (H (I 0) (H (I ck) (O (Gb (Gj ?_))))))))
  cases h
  exact Yi rfl rfl rfl rfl rfl ⟨_,hfr,_,_,_,rfl,T8,rfl,rfl⟩
 refine G0 hc rfl (Zu (Zd ?_))
 obtain ⟨jn,hjn,h⟩:=Z1 h
 refine Z (M up1 (G (aJ (g:=g2) (vs:=[up1]) en36 (wk36 rp1 hjn) fun g3 w3 v3 hx3 hv=>?_)))
 obtain ⟨lv,y1,y2,rfl,rl,rfl,rfl⟩:=hv
 have hfr:=hfr.ext hx3
 have q2:=q2.ext hx3
 refine M (.tuple #[lv,I jn.2.1,I jn.2.2]) (Y lv (Zi rfl rfl) (Y (I jn.2.1) (Zi rfl rfl) (Y (I jn.2.2) (Zi rfl rfl) (H lv (H (I jn.2.1) (H (I jn.2.2) (O (Zf (Z (M (I jn.2.2) (aT (.bool (jn.2.2 != (0:Int))) rfl rfl rfl (O ?_))))))))))))
 rcases Zt h with ⟨hc2,h⟩ | ⟨hc2,h⟩
 ·refine Gz hc2 rfl (Z (M (I jn.2.1) (M (I jn.2.2) (H (.slice none 0 0) (H (I jn.2.1) (H (I jn.2.2) (O (Gb ?_))))))))
  cases h
  exact Yi rfl rfl rfl rfl rfl ⟨_,hfr,_,_,_,rfl,T8,rfl,rfl⟩
 refine G0 hc2 rfl (Zu (Zd (Z (G (D0 (g:=g3) 3 (⟨0,0⟩:T5) (n:=16) (r:=List.replicate 16 ⟨0,0⟩) underlying109 Ig rfl (fun m w=>⟨_,Gg Zw Zw,rfl⟩) rfl rfl rfl fun g4 w4 v9 hs4 o9=>(H v9 (O (Z ?_))))))))
 have m9:=o9.toM
 obtain ⟨ah,chh,hh9,_⟩:=m9.hdr
 refine M v9 (Y (I 16) (show Pur _ _ _ (I ((16:Nat):Int)) from P_lenH underlying109 rfl ⟨ah,chh,hh9⟩) (G (D0 (g:=g4) 4 (⟨.slice none 0 0,rfl⟩:Fv) (n:=16) (r:=List.replicate 16 ⟨.slice none 0 0,rfl⟩) underlying66 info_74w rfl (fun m w=>⟨_,rfl,rfl⟩) rfl rfl rfl fun g5 w5 v4 hs5 o4=>(H v4 ?_))))
 have ns0:NS (RS (α:=Str) 9) 4 5 g5 w5 74 (List.replicate 16 []) v4:=⟨_,RO.ofOA o4,pool_nil 16⟩
 have hfr:=(hfr.stp hs4).stp hs5
 have q2:=(q2.stp hs4).stp hs5
 have rl:=(rl.stp hs4).stp hs5
 have m9:=m9.stp hs5 rfl
 clear hx1 hx2 hx3 hs4 hs5 o9 o4 rm rp1 hh9 hck hjn hc hc2
 refine O (Zf (Z (M lv (Y (I (jn.1.length:Int)) (G7 (v:=lv) underlying54 rfl rl) (M (I 0) (O (Zr (Sj h (fun (z:(List T5 × List (List Str)) × Int) e ds w'=>ds=[]∧e 2=p2∧e 4=v4∧e 9=v9∧e 33=lv∧e 34=I (jn.1.length:Int)∧e 35=I z.2∧∃ g',Fr gI wI g' w'∧Ch g5.m w5 g'.m w'∧OM 3 g' w' 112 z.1.1 v9∧NS (RS (α:=Str) 9) 4 5 g' w' 74 z.1.2 v4) ⟨rfl,rfl,rfl,rfl,rfl,rfl,rfl,g5,hfr,Ch.refl _ _,m9,ns0⟩ (fun X rec hrec=>?_)))))))))
 clear m9 ns0 hfr
 rintro ⟨⟨lo,ri⟩,n⟩ e ds w ⟨rfl,e2,e4,e9,e33,e34,e35,g,hfr,hch,ml,nr⟩ hk
 refine Z (aT (.bool (decide (n<(jn.1.length:Int)))) e35 e34 rfl (O ?_))
 rcases Zt hk with ⟨hc,hk⟩ | ⟨hc,hk⟩
 ·refine Zf (Gz hc rfl (Zu (Zd ?_)))
  obtain ⟨c,hcl,hk⟩:=Z1 hk
  have rl1:=rl.ch hch
  have q1:=q2.ch hch
  refine Zf (Zr (Z (aQ e35 (Y (Gy lv n 5) (Zh (α:=Z4) underlying54 sizeOf61 e33 rl1 e35 hcl) (G (Ga (g:=g) isAgg61 sizeOf61 rfl (G1 rl1 hcl) fun vc rc=>(G (Ba (g:=g) 2 (⟨0,0,0,0,0⟩:Z4) zeroValue61 (fun m w=>⟨_,Gg Zw (Gg Zw (Gg Zw (Gg Zw Zw))),rfl⟩) fun g2 w2 pc hs2 b2=>(H (I n) (G (Um (g:=g2) (v:=vc) sizeOf61 rfl b2 rfl (rc.stp hs2) fun g3 w3 hs3 b3=>?_)))))))))))
  obtain ⟨g4,hs4,qc⟩:=b3.pub
  have hfr:=((hfr.stp hs2).stp hs3).stp hs4
  have hch:=hch.trans (hs2.ch.trans (hs3.ch.trans hs4.ch))
  have ml:=((ml.stp hs2 rfl).stp hs3 rfl).stp hs4 rfl
  have nr:=((nr.stp (Ct 9) hs2 rfl rfl).stp (Ct 9) hs3 rfl rfl).stp (Ct 9) hs4 rfl rfl
  have q1:=((q1.stp hs2).stp hs3).stp hs4
  clear b2 b3 hs2 hs3 hs4 rl1 rc
  refine O (Zf (Z (Y (S pc 2) (aa V6 (PT.ptr qc)) (G (Ga (g:=g4) isAgg3 sizeOf3 rfl (Zm W0.1 qc) fun v r=>?_)))))
  obtain rfl:=Zj.1 r
  refine Y (S p2 1) (Zc V7 e2 (PT.ptr q1)) (G (Ga (g:=g4) isAgg70 sizeOf70 rfl (Zm Kc.1 q1) fun vch rch=>(Y (I (x0.Chains.length:Int)) (G7 (v:=vch) underlying70 rfl rch) (aT (.bool (decide (c.Chain≥(x0.Chains.length:Int)))) rfl rfl rfl (M (.bool (decide (c.Chain≥(x0.Chains.length:Int)))) ?_)))))
  rcases Bool.eq_false_or_eq_true (decide (c.Chain≥(x0.Chains.length:Int))) with hq | hq
  ·simp only [hq,cond_true] at hk
   iterate 6 refine Zz rfl rfl hq rfl rfl ?_
   refine Y (.bool true) (ae (b:=decide (c.Chain≥(x0.Chains.length:Int))) (Tg hq rfl)) (O ?_)
   obtain rfl:=sinj hk
   refine Gz rfl rfl (Z (M (I n) (H (.slice none 0 0) (H (I n) (H (I 7) (O (Gb (Gj (G6 (Gj (Gj (G6 (Gj ?_)))))))))))))
   exact Yi rfl rfl rfl rfl rfl ⟨_,hfr,_,_,_,rfl,T8,rfl,rfl⟩
  simp only [hq,cond_false] at hk
  refine ag (S pc 3) (aa Ra (PT.ptr qc)) rfl rfl hq (Ze (.yes2 rfl rfl hq) rfl (Ga (g:=g4) isAgg3 sizeOf3 rfl (Zm Hf.1 qc) fun v r=>?_))
  obtain rfl:=Zj.1 r
  refine ag (S p2 0) (Zc Xa e2 (PT.ptr q1)) rfl rfl hq (Ze (.yes2 rfl rfl hq) rfl (Ga (g:=g4) isAgg69 sizeOf69 rfl (Zm Kb.1 q1) fun vti rti=>(ag (I (x0.Ties.length:Int)) (G7 (v:=vti) underlying69 rfl rti) rfl rfl hq (ag (.bool (decide (c.Tie≥(x0.Ties.length:Int)))) (Gp rfl rfl rfl) rfl rfl hq (Y (.bool (decide (c.Tie≥(x0.Ties.length:Int)))) (ae (b:=decide (c.Chain≥(x0.Chains.length:Int))) (Td hq rfl)) (O ?_))))))
  rcases Zt hk with ⟨hq2,hk⟩ | ⟨hq2,hk⟩
  ·obtain rfl:=sinj hk
   refine Gz hq2 rfl (Z (M (I n) (H (.slice none 0 0) (H (I n) (H (I 7) (O (Gb (Gj (G6 (Gj (Gj (G6 (Gj ?_)))))))))))))
   exact Yi rfl rfl rfl rfl rfl ⟨_,hfr,_,_,_,rfl,T8,rfl,rfl⟩
  refine G0 hq2 rfl (Zu (Zd ?_))
  obtain ⟨cy,hcy,hk⟩:=Z1 hk
  obtain ⟨wv,hwv,hk⟩:=Z1 hk
  clear rch rti
  refine Zf (Zs (x:=.tmp 57) isAgg3 sizeOf3 (Zm Qi.1 qc) fun v r hl1=>?_)
  obtain rfl:=Zj.1 r
  refine Zs (x:=.tmp 2) isAgg72 sizeOf72 q1 fun vm rm hl2=>(Zs (x:=.tmp 11) isAgg61 sizeOf61 qc fun vc rc hl3=>(D1 (g:=g4) (n:=12) [0,1,2,3,4,5,7,8,9,10,11] [] [0,1,2,3,4,5,6,7,8,9,10,11] rfl Ug (by kernel_rfl) fun wc hx hlt=>(Qq (c:=v9) rfl rfl .plain (Zk e9) (Qq (c:=S pc 1) rfl rfl .plain (aa Hx (PT.ptr qc)) (Cg (c:=I c.Loom) rfl rfl .plain hl1 rfl (Qq (c:=Gy v9 c.Loom 2) rfl rfl .plain (Tt (α:=T5) underlying109 sizeOf112 rfl ml rfl hcy) (Cg (c:=vm) rfl rfl .plain hl2 e2 (Cg (c:=vc) rfl rfl .plain hl3 rfl (Sl rfl rfl .plain (V9 (g:=g4) (i:=3) (vs:=[Gy v9 c.Loom 2,vm,vc]) en37 (.cons rfl (.cons rfl (.cons rfl .nil))) (wk37 (ml.ext hx) hcy (rm.ext hx) (rc.ext hx) hwv) fun g5 w5 v5 hs5 hv5=>?_))))))))))
  obtain ⟨y0,_,rfl,ry,rfl,ml5⟩:=hv5
  refine ⟨(hlt.stp hs5 rfl).toW,?_⟩
  refine Qq (c:=.tuple #[y0,I wv.2.1]) rfl rfl .plain (ai) (Qq (c:=y0) rfl rfl .plain (Zi rfl rfl) (Qq (c:=I wv.2.1) rfl rfl .plain (Zi rfl rfl) (Qq (c:=y0) rfl rfl .plain (Tp rfl) (Qq (c:=I wv.2.1) rfl rfl .plain (Tp rfl) (Ri (O ?_))))))
  replace hfr:=(hfr.ext hx).stp hs5
  replace hch:=(hch.trans hx.ch).trans hs5.ch
  replace nr:=(nr.ext (Ct 9) hx).stp (Ct 9) hs5 rfl rfl
  replace qc:=(qc.ext hx).stp hs5
  clear hx hs5 hlt rm rc hl1 hl2 hl3 ml q1
  refine Zf (Z (M (I wv.2.1) (aT (.bool (wv.2.1 != (0:Int))) rfl rfl rfl (O ?_))))
  rcases Zt hk with ⟨hq3,hk⟩ | ⟨hq3,hk⟩
  ·obtain rfl:=sinj hk
   refine Gz hq3 rfl (Z (M (I n) (M (I wv.2.1) (H (.slice none 0 0) (H (I n) (H (I wv.2.1) (O (Gb (Gj (G6 (Gj (Gj (G6 (Gj ?_))))))))))))))
   exact Yi rfl rfl rfl rfl rfl ⟨_,hfr,_,_,_,rfl,T8,rfl,rfl⟩
  refine G0 hq3 rfl (Zu (Zd ?_))
  obtain ⟨rw0,hrw,hk⟩:=Z1 hk
  obtain ⟨y,hy,hk⟩:=Z1 hk
  obtain ⟨rows,hro,hpo⟩:=nr
  obtain ⟨r0,hr0,hr1,hr2⟩:=hpo.idx hrw
  obtain ⟨g6,hg6,hs6,hrs,hpo6⟩:=hpo.take (Ct 9) hr1 hr2 6
  replace hro:=hro.stp hs6 rfl
  replace hfr:=hfr.stp hs6
  replace hch:=hch.trans hs6.ch
  replace ml5:=ml5.stp hs6 rfl
  replace qc:=qc.stp hs6
  replace ry:=ry.stp hs6
  refine Zs (x:=.tmp 70) isAgg3 sizeOf3 (Zm Qi.1 qc) fun v r hl1=>?_
  obtain rfl:=Zj.1 r
  refine Zs (x:=.tmp 73) isAgg3 sizeOf3 (Zm Qi.1 qc) fun v r hl2=>?_
  obtain rfl:=Zj.1 r
  refine Yw (x:=.tmp 75) isAgg74 sizeOf74 hro.toM hr0 fun u hu hl3=>?_
  obtain rfl:u=r0.v:=Yt.1 hu
  refine D1 (g:=g6) (n:=10) [0,1,2,3,4,5,6,7,8] [4] [0,1,2,3,4,5,6,7,8,9] rfl Ug (by kernel_rfl) fun wd hx hlt=>(Qq (c:=v4) rfl rfl .plain (Zk e4) (Qq (c:=S pc 1) rfl rfl .plain (aa Hx (PT.ptr qc)) (Cg (c:=I c.Loom) rfl rfl .plain hl1 rfl (Qq (c:=v4) rfl rfl .plain (Zk e4) (Qq (c:=S pc 1) rfl rfl .plain (aa Hx (PT.ptr qc)) (Cg (c:=I c.Loom) rfl rfl .plain hl2 rfl (Qq (c:=Gy v4 c.Loom 1) rfl rfl .plain (Tt (α:=Fv) underlying66 sizeOf74 rfl hro.toM rfl hr0) (CH_ldO (n:=4) (c:=r0.v) rfl rfl .plain hl3 rfl rfl (Qq (c:=y0) rfl rfl .plain (ai) (Sl rfl rfl .plain (Qe (g:=g6) (i:=6) underlying74 R9 rfl rfl (hrs.1.ext hx) (hrs.2.ext hx) rfl (ry.ext hx) hy fun g7 w7 v7 hs7 o7 r7 _=>(⟨(hlt.stp hs7 rfl).toW,?_⟩))))))))))))
  refine Ri ?_
  have hro7:=(hro.ext hx).stp hs7 rfl
  refine Y (Gy v4 c.Loom 1) (Tt (α:=Fv) underlying66 sizeOf74 rfl hro7.toM rfl hr0) (G (Ic (⟨v7,by obtain ⟨_,_,rfl,_⟩:=Qs r7;rfl⟩:Fv) sizeOf74 rfl hro7 hr0 rfl fun w8 hs8 hro8=>?_))
  obtain ⟨g9,hg9,hs9,hpo9⟩:=(((hpo6.ext (Ct 9) hx).stp (Ct 9) hs7 rfl).stp (Ct 9) hs8 rfl).put (Ct 9) (⟨v7,by obtain ⟨_,_,rfl,_⟩:=Qs r7;rfl⟩:Fv) (x:=y) (j':=6) ⟨o7.stp hs8 rfl,r7.stp hs8⟩ rfl
  refine Zb (Te (Zd (Za (aT (I (w64 (n+(1:Int)))) e35 rfl rfl (M (I (w64 (n+(1:Int)))) ?_)))))
  exact O (hrec ((lo.set c.Loom.toNat wv.2.2,ri.set c.Loom.toNat y),w64 (n+1)) _ _ _ ⟨rfl,e2,e4,e9,e33,e34,rfl,g9,(((hfr.ext hx).stp hs7).stp hs8).stp hs9,hch.trans (hx.ch.trans (hs7.ch.trans (hs8.ch.trans hs9.ch))),(((ml5.ext hx).stp hs7 rfl).stp hs8 rfl).stp hs9 rfl,⟨_,hro8.stp hs9 rfl,hpo9⟩⟩ hk)
 ·refine Zf (G0 hc rfl (Th (Gr (Gr (G2 (Zd ?_))))))
  obtain rfl:=sinj hk
  obtain ⟨g6,hs6,rr⟩:=nr.pub (fun h=>h.2)
  refine Z (aQ e4 (H v4 (H (I 0) (H (I 0) (O (Gb ?_))))))
  exact Yi rfl rfl rfl rfl rfl ⟨_,hfr.stp hs6,_,_,_,rfl,rr,rfl,rfl⟩

def f15 :Option Bool:=
 (f7 (⟨([(10:Int),(20:Int)]:List Int),(2:Int)⟩:LoomMill)).bind fun y11=>
 (f8 ([(⟨(5:Int),(1:Int),(10:Int),0,(20:Int)⟩:Z5),(⟨(15:Int),(2:Int),(12:Int),0,(20:Int)⟩:Z5),(⟨(5:Int),(1:Int),(8:Int),0,(20:Int)⟩:Z5)]:List Z5)).bind fun aE=>
 (f6 y11 aE).bind fun l5=>
 (idx ([(⟨(5:Int),(1:Int),(10:Int),0,(20:Int)⟩:Z5),(⟨(15:Int),(2:Int),(12:Int),0,(20:Int)⟩:Z5),(⟨(5:Int),(1:Int),(8:Int),0,(20:Int)⟩:Z5)]:List Z5) (2:Int)).bind fun vC=>
 (idx (List.set ([(⟨(5:Int),(1:Int),(10:Int),0,(20:Int)⟩:Z5),(⟨(15:Int),(2:Int),(12:Int),0,(20:Int)⟩:Z5),(⟨(5:Int),(1:Int),(8:Int),0,(20:Int)⟩:Z5)]:List Z5) (Int.toNat (2:Int)) ({vC with Chain:=(3:Int)})) (2:Int)).bind fun bE=>
 (f7 (⟨([(10:Int),(20:Int)]:List Int),(2:Int)⟩:LoomMill)).bind fun iE=>
 (f8 (List.set (List.set ([(⟨(5:Int),(1:Int),(10:Int),0,(20:Int)⟩:Z5),(⟨(15:Int),(2:Int),(12:Int),0,(20:Int)⟩:Z5),(⟨(5:Int),(1:Int),(8:Int),0,(20:Int)⟩:Z5)]:List Z5) (Int.toNat (2:Int)) ({vC with Chain:=(3:Int)})) (Int.toNat (2:Int)) ({bE with Woven:=(9:Int)}))).bind fun lE=>
 (f39 iE lE).bind fun n8=>
 Option.bind (α:=Bool) (
  bif (l5.2==(0:Int)) then
   bif (n8.2==(0:Int)) then
    bif (((l5.1).length:Int)==(3:Int)) then
     (idx l5.1 (2:Int)).bind fun mB=>
     bif (decide (mB=(⟨(2:Int),0,(10:Int)⟩:Z3))) then
      (f40 n8.1 ([(0:Int),(1:Int),(2:Int)]:List Int)).bind fun uC=>
      some uC
     else
      some false
    else
     some false
   else
    some false
  else
   some false
  ) fun lB=>
 some lB
theorem en15:Enters prog 15:=yC func15
theorem wk15   {r:Bool} (h:f15 =some r):Fn prog 15 #[] gI wI (fun _ _ v=>v=.bool r):=by
 unfold f15 at h;refine fnE func15 rfl rfl fun g0 hm hfr=>?_;refine Z (H (.bool false) (O (Z (G (Gd (g:=g0) 3007 (xs:=([(10:Int),(20:Int)]:List Int)) (vs:=[I 10,I 20]) underlying25 sizeOf3 zeroValue3 rfl rfl (.cons rfl (.cons rfl .nil)) (RVs.cons (Zj.2 rfl) (RVs.cons (Zj.2 rfl) RVs.nil)) rfl rfl fun g1 w1 v1 hs o1 r1 hxt hfl=>?_)))));have hfr:=hfr.stp hs;have r2:RV g1.m _ (⟨([(10:Int),(20:Int)]:List Int),(2:Int)⟩:LoomMill) (.agg (Tk [[.slice none 0 0],[I 0]] [(0,v1),(1,I 2)]).flatten.toArray):=Ti rfl (Gs (RV.cells r1) (To rfl));generalize hv2:(Value.agg (Tk [[.slice none 0 0],[I 0]] [(0,v1),(1,I 2)]).flatten.toArray)=v2 at r2;refine Y v2 (hv2▸T3 (vs:=[(0,v1),(1,I 2)]) [[.slice none 0 0],[I 0]] E0 rfl rfl (.cons rfl (.cons rfl .nil)) ⟨⟨_,rfl,Tl r1⟩,⟨⟨_,rfl,rfl⟩,trivial⟩⟩) (G (Gu (g:=g1) 2001 (⟨[],0⟩:LoomMill) zeroValue27 (fun m w=>⟨_,(Gg Tb Zw),rfl⟩) fun g3 w3 p3 hs b3 cb=>?_));have hfr:=hfr.stp hs;have r1:=r1.stp hs;have o1:=o1.stp hs rfl;have r2:=r2.stp hs;have lH:OSF 2001 60100 0 g3 w3 3 27 ([]:List Int) p3:=cb.osf (by rfl);clear cb;refine G (Gk (g:=g3) (v:=v2) sizeOf27 rfl b3 rfl r2 fun g4 w4 hs b4 cb=>?_);obtain ⟨cH,gH,bD,_,_⟩:=Qs r1;have mH:OSF 2001 3007 0 g4 w4 3 27 (([(10:Int),(20:Int)]:List Int):List Int) p3:=cb.osfv (by rw [← hv2,bD];rfl) (o1.stp hs rfl);clear cb;have hfr:=hfr.stp hs;refine O (Z ?_);have r5:RV g4.m w4 (⟨(5:Int),(1:Int),(10:Int),0,(20:Int)⟩:Z5) (.agg (Tk [[I 0],[I 0],[I 0],[I 0],[I 0]] [(0,I 5),(1,I 1),(2,I 10),(4,I 20)]).flatten.toArray):=Ti rfl (Gs rfl (Gs rfl (Gs rfl (Gs Zw (To rfl)))));generalize tF:(Value.agg (Tk [[I 0],[I 0],[I 0],[I 0],[I 0]] [(0,I 5),(1,I 1),(2,I 10),(4,I 20)]).flatten.toArray)=v5 at r5;refine Y v5 (tF▸T3 (vs:=[(0,I 5),(1,I 1),(2,I 10),(4,I 20)]) [[I 0],[I 0],[I 0],[I 0],[I 0]] L0 rfl rfl (.cons rfl (.cons rfl (.cons rfl (.cons rfl .nil)))) ⟨⟨_,rfl,rfl⟩,⟨⟨_,rfl,rfl⟩,⟨⟨_,rfl,rfl⟩,⟨⟨_,rfl,rfl⟩,trivial⟩⟩⟩⟩) ?_;have r6:RV g4.m w4 (⟨(15:Int),(2:Int),(12:Int),0,(20:Int)⟩:Z5) (.agg (Tk [[I 0],[I 0],[I 0],[I 0],[I 0]] [(0,I 15),(1,I 2),(2,I 12),(4,I 20)]).flatten.toArray):=Ti rfl (Gs rfl (Gs rfl (Gs rfl (Gs Zw (To rfl)))));generalize uF:(Value.agg (Tk [[I 0],[I 0],[I 0],[I 0],[I 0]] [(0,I 15),(1,I 2),(2,I 12),(4,I 20)]).flatten.toArray)=v6 at r6;refine Y v6 (uF▸T3 (vs:=[(0,I 15),(1,I 2),(2,I 12),(4,I 20)]) [[I 0],[I 0],[I 0],[I 0],[I 0]] L0 rfl rfl (.cons rfl (.cons rfl (.cons rfl (.cons rfl .nil)))) ⟨⟨_,rfl,rfl⟩,⟨⟨_,rfl,rfl⟩,⟨⟨_,rfl,rfl⟩,⟨⟨_,rfl,rfl⟩,trivial⟩⟩⟩⟩) ?_;have r7:RV g4.m w4 (⟨(5:Int),(1:Int),(8:Int),0,(20:Int)⟩:Z5) (.agg (Tk [[I 0],[I 0],[I 0],[I 0],[I 0]] [(0,I 5),(1,I 1),(2,I 8),(4,I 20)]).flatten.toArray):=Ti rfl (Gs rfl (Gs rfl (Gs rfl (Gs Zw (To rfl)))));generalize vF:(Value.agg (Tk [[I 0],[I 0],[I 0],[I 0],[I 0]] [(0,I 5),(1,I 1),(2,I 8),(4,I 20)]).flatten.toArray)=v7 at r7;refine Y v7 (vF▸T3 (vs:=[(0,I 5),(1,I 1),(2,I 8),(4,I 20)]) [[I 0],[I 0],[I 0],[I 0],[I 0]] L0 rfl rfl (.cons rfl (.cons rfl (.cons rfl (.cons rfl .nil)))) ⟨⟨_,rfl,rfl⟩,⟨⟨_,rfl,rfl⟩,⟨⟨_,rfl,rfl⟩,⟨⟨_,rfl,rfl⟩,trivial⟩⟩⟩⟩) (G (Xq (g:=g4) 4002 (xs:=([(⟨(5:Int),(1:Int),(10:Int),0,(20:Int)⟩:Z5),(⟨(15:Int),(2:Int),(12:Int),0,(20:Int)⟩:Z5),(⟨(5:Int),(1:Int),(8:Int),0,(20:Int)⟩:Z5)]:List Z5)) (vs:=[v5,v6,v7]) underlying28 sizeOf59 zeroValue59 rfl rfl (.cons rfl (.cons rfl (.cons rfl .nil))) (RVs.cons r5 (RVs.cons r6 (RVs.cons r7 RVs.nil))) rfl rfl fun g8 w8 v8 hs b8 _=>?_));have hfr:=hfr.stp hs;have b4:=b4.stp hs rfl;refine H v8 (O (Z (G (Tr (g:=g8) isAgg27 sizeOf27 rfl b4 fun v9 r9=>?_))));obtain ⟨y11,rE,h⟩:=Z1 h;refine G (aJ (g:=g8) (vs:=[v9]) en7 (wk7 r9 rE) fun cD lD xF hs hr=>?_);have hfr:=hfr.ext hs;have b4:=b4.ext hs;have b8:=b8.ext hs
 have vB:=hr;refine M v8 ?_;obtain ⟨aE,uE,h⟩:=Z1 h;refine G (Mf (g:=cD) (vs:=[v8]) en8 (.cons rfl .nil) (v8_0 (iO:=9017) (OM.lent b8.toM) uE) fun gl12 vE yF hxl hr=>?_);have hm12:=OM.unlend J5 hxl hr;obtain ⟨aG,hge12⟩:∃ g,g={m:=fun b=>if b<lD.heap.size then cD.m b else gl12.m b,o:=gl12.o:Gh}:=⟨_,rfl⟩;rw [← hge12] at hm12;have hs:Ext cD lD aG vE:=hge12▸unlend hxl;clear hxl hr hge12;have hfr:=hfr.ext hs;have b4:=b4.ext hs;have b8:=b8.ext hs;have vB:=vB.ext hs;obtain ⟨gp14,hs,rp14⟩:=OM.pub hm12;have hfr:=hfr.stp hs;have b4:=b4.stp hs rfl;have b8:=b8.stp hs rfl;have vB:=vB.stp hs;obtain ⟨l5,xE,h⟩:=Z1 h;refine G (aJ (g:=gp14) (vs:=[xF,yF]) en6 (wk6 vB rp14 xE) fun bG nH qH hs hr=>?_);have hfr:=hfr.ext hs;have b4:=b4.ext hs;have b8:=b8.ext hs;obtain ⟨l9,jH,rfl,o0,rfl⟩:=hr;refine M (.tuple #[l9,I l5.2]) (Y l9 (Zi rfl rfl) (Y (I l5.2) (Zi rfl rfl) (H l9 (H (I l5.2) (O (Z (M v8 (M v8 ?_))))))));obtain ⟨vC,zB,h⟩:=Z1 h;refine Y (Gy v8 (2:Int) 5) (Tt (α:=Z5) underlying28 sizeOf59 rfl b8.toM rfl zB) ?_;obtain ⟨pb19,po19,pe19⟩:=OM.ptrE (k:=5) b8.toM zB;refine Y (S (Gy v8 (2:Int) 5) 1) (aa Xh ⟨_,_,pe19⟩) (G (Fc (g:=bG) Wz sizeOf3 rfl b8 zB rfl (Zj.2 rfl) fun cG sH hs b20=>?_));have hfr:=hfr.stp hs;have b4:=b4.stp hs rfl;have o0:=o0.stp hs;obtain ⟨bE,cC,h⟩:=Z1 h;refine Y (Gy v8 (2:Int) 5) (Tt (α:=Z5) underlying28 sizeOf59 rfl b20.toM rfl cC) ?_;obtain ⟨pb23,po23,pe23⟩:=OM.ptrE (k:=5) b20.toM cC;refine Y (S (Gy v8 (2:Int) 5) 2) (aa Yd ⟨_,_,pe23⟩) (G (Fc (g:=cG) Qv sizeOf3 rfl b20 cC rfl (Zj.2 rfl) fun mE tH hs b24=>?_));have hfr:=hfr.stp hs;have b4:=b4.stp hs rfl;have o0:=o0.stp hs;refine O (Z (G (Tr (g:=mE) isAgg27 sizeOf27 rfl b4 fun eG gG=>?_)));obtain ⟨iE,yE,h⟩:=Z1 h;refine G (aJ (g:=mE) (vs:=[eG]) en7 (wk7 gG yE) fun nD oD iG hs hr=>?_);have hfr:=hfr.ext hs;have b24:=b24.ext hs;have o0:=o0.ext hs;have yB:=hr;refine M v8 ?_;obtain ⟨lE,zE,h⟩:=Z1 h;refine G (Mf (g:=nD) (vs:=[v8]) en8 (.cons rfl .nil) (v8_0 (iO:=9031) (OM.lent b24.toM) zE) fun gl28 cF jG hxl hr=>?_);have hm28:=OM.unlend J5 hxl hr;obtain ⟨kG,hge28⟩:∃ g,g={m:=fun b=>if b<oD.heap.size then nD.m b else gl28.m b,o:=gl28.o:Gh}:=⟨_,rfl⟩;rw [← hge28] at hm28;have hs:Ext nD oD kG cF:=hge28▸unlend hxl;clear hxl hr hge28;have hfr:=hfr.ext hs;have o0:=o0.ext hs;have yB:=yB.ext hs;obtain ⟨gp30,hs,rp30⟩:=OM.pub hm28;have hfr:=hfr.stp hs;have o0:=o0.stp hs;have yB:=yB.stp hs;obtain ⟨n8,dF,h⟩:=Z1 h;refine G (aJ (g:=gp30) (vs:=[iG,jG]) en39 (wk39 yB rp30 dF) fun nB eF uH hs hr=>?_);have hfr:=hfr.ext hs;have o0:=o0.ext hs;obtain ⟨aB,kH,rfl,oB,rfl⟩:=hr;refine M (.tuple #[aB,I n8.2]) (Y aB (Zi rfl rfl) (Y (I n8.2) (Zi rfl rfl) (H aB (H (I n8.2) (O ?_)))));obtain ⟨lB,hx,h⟩:=Z1 h;refine Gn (xD gI wI fun e w g=>e 0=.bool lB) (fun Q' hQ=>?_) (fun oH xH hR=>?_)
 ·replace h:=hx
  clear hx;refine Za (M (I l5.2) (aT (.bool (l5.2==(0:Int))) rfl rfl rfl (M (.bool (l5.2==(0:Int))) ?_)));rcases Zt h with ⟨n9,h⟩ | ⟨n9,h⟩
  ·refine ag (I n8.2) (ai) rfl rfl n9 (ag (.bool (n8.2==(0:Int))) (Gp rfl rfl rfl) rfl rfl n9 (Y (.bool (n8.2==(0:Int))) (ae (b:=(l5.2==(0:Int))) (Tg n9 rfl)) (M (.bool (n8.2==(0:Int))) ?_)))
   rcases Zt h with ⟨i6,h⟩ | ⟨i6,h⟩
   ·refine ag l9 (ai) rfl rfl i6 (ag (I ((l5.1).length:Int)) (G7 underlying38 rfl o0) rfl rfl i6 (ag (.bool (((l5.1).length:Int)==(3:Int))) (Gp rfl rfl rfl) rfl rfl i6 (Y (.bool (((l5.1).length:Int)==(3:Int))) (ae (b:=(n8.2==(0:Int))) (Tg i6 rfl)) (M (.bool (((l5.1).length:Int)==(3:Int))) ?_))))
    rcases Zt h with ⟨t5,h⟩ | ⟨t5,h⟩
    ·refine ag l9 (ai) rfl rfl t5 ?_
     obtain ⟨mB,yD,h⟩:=Z1 h;refine ag (Gy l9 (2:Int) 3) (Zh (α:=Z3) underlying38 sizeOf57 rfl o0 rfl yD) rfl rfl t5 ?_;have lG:=G1 o0 yD;refine Ze (.yes2 rfl rfl t5) rfl (Ga (g:=nB) isAgg57 sizeOf57 rfl lG fun yH mG=>?_);have oE:RV nB.m eF (⟨(2:Int),0,(10:Int)⟩:Z3) (.agg (Tk [[I 0],[I 0],[I 0]] [(0,I 2),(2,I 10)]).flatten.toArray):=Ti rfl (Gs rfl (Gs Zw (To rfl)));generalize rF:(Value.agg (Tk [[I 0],[I 0],[I 0]] [(0,I 2),(2,I 10)]).flatten.toArray)=sG at oE;refine ag sG (rF▸T3 (vs:=[(0,I 2),(2,I 10)]) [[I 0],[I 0],[I 0]] lay_57 rfl rfl (.cons rfl (.cons rfl .nil)) ⟨⟨_,rfl,rfl⟩,⟨⟨_,rfl,rfl⟩,trivial⟩⟩) rfl rfl t5 (ag (.bool (decide (mB=(⟨(2:Int),0,(10:Int)⟩:Z3)))) (P_seq seq_57 rfl eg_57 rfl rfl mG oE) rfl rfl t5 (Y (.bool (decide (mB=(⟨(2:Int),0,(10:Int)⟩:Z3)))) (ae (b:=(((l5.1).length:Int)==(3:Int))) (Tg t5 rfl)) (M (.bool (decide (mB=(⟨(2:Int),0,(10:Int)⟩:Z3)))) ?_)));rcases Zt h with ⟨l8,h⟩ | ⟨l8,h⟩
     ·refine ag aB (ai) rfl rfl l8 (Ze (.yes2 rfl rfl l8) rfl (Gd (g:=nB) 3055 (xs:=([(0:Int),(1:Int),(2:Int)]:List Int)) (vs:=[I 0,I 1,I 2]) underlying25 sizeOf3 zeroValue3 rfl rfl (.cons rfl (.cons rfl (.cons rfl .nil))) (RVs.cons (Zj.2 rfl) (RVs.cons (Zj.2 rfl) (RVs.cons (Zj.2 rfl) RVs.nil))) rfl rfl fun xG zH yG hs o52 zG hxt hfl=>?_))
      have hfr:=hfr.stp hs;have oB:=oB.stp hs;obtain ⟨uC,sF,h⟩:=Z1 h;refine Ze (.yes2 rfl rfl l8) rfl (aJ (g:=xG) (vs:=[aB,yG]) en40 (wk40 oB zG sF) fun aH pH aI hs hr=>?_);have hfr:=hfr.ext hs;subst hr;refine Y (.bool uC) (ae (b:=(decide (mB=(⟨(2:Int),0,(10:Int)⟩:Z3)))) (Tg l8 rfl)) (H (.bool uC) (Zb ?_));cases h;exact hQ _ _ ⟨aH,hfr,rfl⟩
     ·refine Zz rfl rfl l8 rfl rfl (Zz rfl rfl l8 rfl rfl (Zz rfl rfl l8 rfl rfl (Y (.bool false) (ae (b:=(decide (mB=(⟨(2:Int),0,(10:Int)⟩:Z3)))) (Td l8 rfl)) (H (.bool false) (Zb ?_)))))
      cases h;exact hQ _ _ ⟨nB,hfr,rfl⟩
    ·refine Zz rfl rfl t5 rfl rfl ?_
     iterate 4 refine Zz rfl rfl t5 rfl rfl ?_
     refine Y (.bool false) (ae (b:=(((l5.1).length:Int)==(3:Int))) (Td t5 rfl)) (Q5 5 rfl (H (.bool false) (Zb ?_)));cases h;exact hQ _ _ ⟨nB,hfr,rfl⟩
   ·refine Zz rfl rfl i6 rfl rfl (Zz rfl rfl i6 rfl rfl (Zz rfl rfl i6 rfl rfl (Y (.bool false) (ae (b:=(n8.2==(0:Int))) (Td i6 rfl)) (Q5 12 rfl (H (.bool false) (Zb ?_))))))
    cases h;exact hQ _ _ ⟨nB,hfr,rfl⟩
  ·refine Zz rfl rfl n9 rfl rfl (Zz rfl rfl n9 rfl rfl (Y (.bool false) (ae (b:=(l5.2==(0:Int))) (Td n9 rfl)) (Q5 17 rfl (H (.bool false) (Zb ?_)))))
   cases h;exact hQ _ _ ⟨nB,hfr,rfl⟩
 ·clear hx
  obtain ⟨bI,hfr,zD⟩:=hR;refine Gb ?_;obtain rfl:=sinj h;exact ac rfl (show _=.bool lB from zD) ⟨_,hfr,rfl⟩
def f16 :Option Bool:=
 (f41 (⟨([(⟨(⟨[112,108,97,105,110]⟩:Str),(⟨(2:Int),([(0:Int),(1:Int),(0:Int)]:List Int)⟩:TieHarness)⟩:Gx)]:List Gx),([(⟨(⟨[116,119,105,108,108]⟩:Str),(⟨(2:Int),([(⟨0,(1:Int),false⟩:Gi),(⟨(-1:Int),(1:Int),true⟩:Gi)]:List Gi)⟩:ChainBelt)⟩:Gm)]:List Gm)⟩:Tn)).bind fun o0=>
 (f12 ([(⟨(258:Int),(3:Int),0,0,(5:Int)⟩:Z4)]:List Z4)).bind fun l5=>
 (f42 ([(1:UInt8),(2:UInt8),(3:UInt8),(0:UInt8),(0:UInt8),(6:UInt8),(11:UInt8),(44:UInt8)]:List UInt8)).bind fun y23=>
 Option.bind (α:=Bool) (
  bif (o0.2==(0:Int)) then
   bif (l5.2.2==(0:Int)) then
    bif (y23.2==(0:Int)) then
     bif ((o0.1).b==(⟨[109,105,108,108,10,116,105,101,32,112,108,97,105,110,32,50,32,48,32,49,32,48,10,99,104,97,105,110,32,116,119,105,108,108,32,50,10,99,97,114,100,32,48,32,120,46,10,116,117,114,110,101,100,32,63,32,120,46,10,101,110,100,32,53,32,52,53,49,51,10]⟩:Str).b) then
      bif ((⟨l5.1⟩:Str).b==(⟨([(1:UInt8),(2:UInt8),(3:UInt8),(0:UInt8),(0:UInt8),(5:UInt8),(11:UInt8),(44:UInt8)]:List UInt8)⟩:Str).b) then
       bif (((y23.1).length:Int)==(1:Int)) then
        (idx y23.1 (0:Int)).bind fun oB=>
        some (oB.Day==(258:Int))
       else
        some false
      else
       some false
     else
      some false
    else
     some false
   else
    some false
  else
   some false
  ) fun mB=>
 some mB
theorem en16:Enters prog 16:=yC func16
theorem wk16 (hTI:Vc 0 gI.m wI)   {r:Bool} (h:f16 =some r):Fn prog 16 #[] gI wI (fun _ _ v=>v=.bool r):=by
 unfold f16 at h;refine fnE func16 rfl rfl fun g0 hm hfr=>?_;refine Z (H (.bool false) (O (Z (G (Gd (g:=g0) 3009 (xs:=([(0:Int),(1:Int),(0:Int)]:List Int)) (vs:=[I 0,I 1,I 0]) underlying25 sizeOf3 zeroValue3 rfl rfl (.cons rfl (.cons rfl (.cons rfl .nil))) (RVs.cons (Zj.2 rfl) (RVs.cons (Zj.2 rfl) (RVs.cons (Zj.2 rfl) RVs.nil))) rfl rfl fun g1 w1 v1 hs o1 r1 hxt hfl=>?_)))));have hfr:=hfr.stp hs;have r2:RV g1.m _ (⟨(2:Int),([(0:Int),(1:Int),(0:Int)]:List Int)⟩:TieHarness) (.agg (Tk [[I 0],[.slice none 0 0]] [(0,I 2),(1,v1)]).flatten.toArray):=Ti rfl (Gs rfl (To (RV.cells r1)));generalize hv2:(Value.agg (Tk [[I 0],[.slice none 0 0]] [(0,I 2),(1,v1)]).flatten.toArray)=v2 at r2;refine Y v2 (hv2▸T3 (vs:=[(0,I 2),(1,v1)]) [[I 0],[.slice none 0 0]] Mw rfl rfl (.cons rfl (.cons rfl .nil)) ⟨⟨_,rfl,rfl⟩,⟨⟨_,rfl,Tl r1⟩,trivial⟩⟩) ?_;have r3:RV g1.m _ (⟨(⟨[112,108,97,105,110]⟩:Str),(⟨(2:Int),([(0:Int),(1:Int),(0:Int)]:List Int)⟩:TieHarness)⟩:Gx) (.agg (Tk [[Str.v ⟨[]⟩],[I 0,.slice none 0 0]] [(0,Str.v (⟨[112,108,97,105,110]⟩:Str)),(1,v2)]).flatten.toArray):=Ti rfl (Gs rfl (To (RV.cells r2)));generalize hv3:(Value.agg (Tk [[Str.v ⟨[]⟩],[I 0,.slice none 0 0]] [(0,Str.v (⟨[112,108,97,105,110]⟩:Str)),(1,v2)]).flatten.toArray)=v3 at r3;refine Y v3 (hv3▸T3 (vs:=[(0,Str.v (⟨[112,108,97,105,110]⟩:Str)),(1,v2)]) [[Str.v ⟨[]⟩],[I 0,.slice none 0 0]] Oo rfl rfl (.cons rfl (.cons rfl .nil)) ⟨⟨_,rfl,rfl⟩,⟨⟨_,rfl,Tl r2⟩,trivial⟩⟩) (G (Gd (g:=g1) 3012 (xs:=([(⟨(⟨[112,108,97,105,110]⟩:Str),(⟨(2:Int),([(0:Int),(1:Int),(0:Int)]:List Int)⟩:TieHarness)⟩:Gx)]:List Gx)) (vs:=[v3]) underlying69 sizeOf121 zeroValue121 rfl rfl (.cons rfl .nil) (RVs.cons r3 RVs.nil) rfl rfl fun g4 w4 v4 hs o4 r4 hxt hfl=>?_));have hfr:=hfr.stp hs;have r5:RV g4.m w4 (⟨0,(1:Int),false⟩:Gi) (.agg (Tk [[I 0],[I 0],[.bool false]] [(1,I 1)]).flatten.toArray):=Ti rfl (Gs Zw (Gs rfl (To Bd)));generalize yE:(Value.agg (Tk [[I 0],[I 0],[.bool false]] [(1,I 1)]).flatten.toArray)=v5 at r5;refine Y v5 (yE▸T3 (vs:=[(1,I 1)]) [[I 0],[I 0],[.bool false]] L3 rfl rfl (.cons rfl .nil) ⟨⟨_,rfl,rfl⟩,trivial⟩) ?_;have r6:RV g4.m w4 (⟨(-1:Int),(1:Int),true⟩:Gi) (.agg (Tk [[I 0],[I 0],[.bool false]] [(0,I (-1)),(1,I 1),(2,.bool true)]).flatten.toArray):=Ti rfl (Gs rfl (Gs rfl (To rfl)));generalize zE:(Value.agg (Tk [[I 0],[I 0],[.bool false]] [(0,I (-1)),(1,I 1),(2,.bool true)]).flatten.toArray)=v6 at r6;refine Y v6 (zE▸T3 (vs:=[(0,I (-1)),(1,I 1),(2,.bool true)]) [[I 0],[I 0],[.bool false]] L3 rfl rfl (.cons rfl (.cons rfl (.cons rfl .nil))) ⟨⟨_,rfl,rfl⟩,⟨⟨_,rfl,rfl⟩,⟨⟨_,rfl,rfl⟩,trivial⟩⟩⟩) (G (Gd (g:=g4) 3015 (xs:=([(⟨0,(1:Int),false⟩:Gi),(⟨(-1:Int),(1:Int),true⟩:Gi)]:List Gi)) (vs:=[v5,v6]) underlying114 sizeOf118 zeroValue118 rfl rfl (.cons rfl (.cons rfl .nil)) (RVs.cons r5 (RVs.cons r6 RVs.nil)) rfl rfl fun g7 w7 v7 hs o7 r7 hxt hfl=>?_));have hfr:=hfr.stp hs;have r4:=r4.stp hs;have o4:=o4.stp hs rfl;have r8:RV g7.m _ (⟨(2:Int),([(⟨0,(1:Int),false⟩:Gi),(⟨(-1:Int),(1:Int),true⟩:Gi)]:List Gi)⟩:ChainBelt) (.agg (Tk [[I 0],[.slice none 0 0]] [(0,I 2),(1,v7)]).flatten.toArray):=Ti rfl (Gs rfl (To (RV.cells r7)));generalize cF:(Value.agg (Tk [[I 0],[.slice none 0 0]] [(0,I 2),(1,v7)]).flatten.toArray)=v8 at r8;refine Y v8 (cF▸T3 (vs:=[(0,I 2),(1,v7)]) [[I 0],[.slice none 0 0]] Oc rfl rfl (.cons rfl (.cons rfl .nil)) ⟨⟨_,rfl,rfl⟩,⟨⟨_,rfl,Tl r7⟩,trivial⟩⟩) ?_;have r9:RV g7.m _ (⟨(⟨[116,119,105,108,108]⟩:Str),(⟨(2:Int),([(⟨0,(1:Int),false⟩:Gi),(⟨(-1:Int),(1:Int),true⟩:Gi)]:List Gi)⟩:ChainBelt)⟩:Gm) (.agg (Tk [[Str.v ⟨[]⟩],[I 0,.slice none 0 0]] [(0,Str.v (⟨[116,119,105,108,108]⟩:Str)),(1,v8)]).flatten.toArray):=Ti rfl (Gs rfl (To (RV.cells r8)));generalize dF:(Value.agg (Tk [[Str.v ⟨[]⟩],[I 0,.slice none 0 0]] [(0,Str.v (⟨[116,119,105,108,108]⟩:Str)),(1,v8)]).flatten.toArray)=v9 at r9
 refine Y v9 (dF▸T3 (vs:=[(0,Str.v (⟨[116,119,105,108,108]⟩:Str)),(1,v8)]) [[Str.v ⟨[]⟩],[I 0,.slice none 0 0]] Og rfl rfl (.cons rfl (.cons rfl .nil)) ⟨⟨_,rfl,rfl⟩,⟨⟨_,rfl,Tl r8⟩,trivial⟩⟩) (G (Gd (g:=g7) 3018 (xs:=([(⟨(⟨[116,119,105,108,108]⟩:Str),(⟨(2:Int),([(⟨0,(1:Int),false⟩:Gi),(⟨(-1:Int),(1:Int),true⟩:Gi)]:List Gi)⟩:ChainBelt)⟩:Gm)]:List Gm)) (vs:=[v9]) underlying70 sizeOf123 zeroValue123 rfl rfl (.cons rfl .nil) (RVs.cons r9 RVs.nil) rfl rfl fun yD kH uC hs o10 zD hxt hfl=>?_));have hfr:=hfr.stp hs;have r4:=r4.stp hs;have o4:=o4.stp hs rfl;have yB:RV yD.m _ (⟨([(⟨(⟨[112,108,97,105,110]⟩:Str),(⟨(2:Int),([(0:Int),(1:Int),(0:Int)]:List Int)⟩:TieHarness)⟩:Gx)]:List Gx),([(⟨(⟨[116,119,105,108,108]⟩:Str),(⟨(2:Int),([(⟨0,(1:Int),false⟩:Gi),(⟨(-1:Int),(1:Int),true⟩:Gi)]:List Gi)⟩:ChainBelt)⟩:Gm)]:List Gm)⟩:Tn) (.agg (Tk [[.slice none 0 0],[.slice none 0 0]] [(0,v4),(1,uC)]).flatten.toArray):=Ti rfl (Gs (RV.cells r4) (To (RV.cells zD)));generalize vC:(Value.agg (Tk [[.slice none 0 0],[.slice none 0 0]] [(0,v4),(1,uC)]).flatten.toArray)=aE at yB;refine Y aE (vC▸T3 (vs:=[(0,v4),(1,uC)]) [[.slice none 0 0],[.slice none 0 0]] lay_72 rfl rfl (.cons rfl (.cons rfl .nil)) ⟨⟨_,rfl,Tl r4⟩,⟨⟨_,rfl,Tl zD⟩,trivial⟩⟩) (G (Gu (g:=yD) 2001 (⟨[],[]⟩:Tn) zeroValue72 (fun m w=>⟨_,(Gg Tb Tb),rfl⟩) fun bD bE cD hs b12 cb=>?_));have hfr:=hfr.stp hs;have r4:=r4.stp hs;have o4:=o4.stp hs rfl;have yB:=yB.stp hs;have kG:OSF 2001 60100 0 bD bE 121 72 ([]:List Gx) cD:=cb.osf (by rfl);have lG:OSF 2001 60101 1 bD bE 123 72 ([]:List Gm) cD:=cb.osf (by rfl);clear cb;refine G (Gk (g:=bD) (v:=aE) sizeOf72 rfl b12 rfl yB fun lD eF hs b13 cb=>?_);obtain ⟨rF,sF,cC,_,_⟩:=Qs r4;have mG:OSF 2001 3012 0 lD eF 121 72 (([(⟨(⟨[112,108,97,105,110]⟩:Str),(⟨(2:Int),([(0:Int),(1:Int),(0:Int)]:List Int)⟩:TieHarness)⟩:Gx)]:List Gx):List Gx) cD:=cb.osfv (by rw [← vC,cC];rfl) (o4.stp hs rfl);clear cb;have hfr:=hfr.stp hs;refine O (Z (G (Tr (g:=lD) isAgg72 sizeOf72 rfl b13 fun tF uF=>?_)));obtain ⟨o0,rE,h⟩:=Z1 h;refine G (aJ (g:=lD) (vs:=[tF]) en41 (wk41 (hTI.ch hfr.ch) uF rE) fun iE uE lH hs hr=>?_);have hfr:=hfr.ext hs;obtain ⟨sG,xG,rfl,rfl,rfl⟩:=hr;refine M (.tuple #[Str.v o0.1,I o0.2]) (Y (Str.v o0.1) (Zi rfl rfl) (Y (I o0.2) (Zi rfl rfl) (H (Str.v o0.1) (H (I o0.2) (O (Z ?_))))));have lE:RV iE.m uE (⟨(258:Int),(3:Int),0,0,(5:Int)⟩:Z4) (.agg (Tk [[I 0],[I 0],[I 0],[I 0],[I 0]] [(0,I 258),(1,I 3),(4,I 5)]).flatten.toArray):=Ti rfl (Gs rfl (Gs rfl (Gs Zw (Gs Zw (To rfl)))));generalize vE:(Value.agg (Tk [[I 0],[I 0],[I 0],[I 0],[I 0]] [(0,I 258),(1,I 3),(4,I 5)]).flatten.toArray)=mE at lE;refine Y mE (vE▸T3 (vs:=[(0,I 258),(1,I 3),(4,I 5)]) [[I 0],[I 0],[I 0],[I 0],[I 0]] M5 rfl rfl (.cons rfl (.cons rfl (.cons rfl .nil))) ⟨⟨_,rfl,rfl⟩,⟨⟨_,rfl,rfl⟩,⟨⟨_,rfl,rfl⟩,trivial⟩⟩⟩) (G (Gd (g:=iE) 3027 (xs:=([(⟨(258:Int),(3:Int),0,0,(5:Int)⟩:Z4)]:List Z4)) (vs:=[mE]) underlying54 sizeOf61 zeroValue61 rfl rfl (.cons rfl .nil) (RVs.cons lE RVs.nil) rfl rfl fun vF mH xF hs o18 yF hxt hfl=>?_));have hfr:=hfr.stp hs;obtain ⟨l5,hy20,h⟩:=Z1 h;refine G (aJ (g:=vF) (vs:=[xF]) en12 (wk12 yF hy20) fun aG cH nH hs hr=>?_);have hfr:=hfr.ext hs;obtain ⟨nB,yG,zG,rfl,aB,rfl,rfl⟩:=hr;refine M (.tuple #[nB,I l5.2.1,I l5.2.2]) (Y nB (Zi rfl rfl) (Y (I l5.2.1) (Zi rfl rfl) (Y (I l5.2.2) (Zi rfl rfl) (H nB (H (I l5.2.1) (H (I l5.2.2) (O (Z (G (Gd (g:=aG) 3033 (xs:=([(1:UInt8),(2:UInt8),(3:UInt8),(0:UInt8),(0:UInt8),(6:UInt8),(11:UInt8),(44:UInt8)]:List UInt8)) (vs:=[.int .u8 (UInt8.toNat 1),.int .u8 (UInt8.toNat 2),.int .u8 (UInt8.toNat 3),.int .u8 (UInt8.toNat 0),.int .u8 (UInt8.toNat 0),.int .u8 (UInt8.toNat 6),.int .u8 (UInt8.toNat 11),.int .u8 (UInt8.toNat 44)]) underlying63 sizeOf5 zeroValue5 rfl rfl (.cons rfl (.cons rfl (.cons rfl (.cons rfl (.cons rfl (.cons rfl (.cons rfl (.cons rfl .nil)))))))) (RVs.cons (Wa.2 rfl) (RVs.cons (Wa.2 rfl) (RVs.cons (Wa.2 rfl) (RVs.cons (Wa.2 rfl) (RVs.cons (Wa.2 rfl) (RVs.cons (Wa.2 rfl) (RVs.cons (Wa.2 rfl) (RVs.cons (Wa.2 rfl) RVs.nil)))))))) rfl rfl fun bG oH cG hs o21 eG hxt hfl=>?_))))))))))
 have hfr:=hfr.stp hs;have aB:=aB.stp hs;obtain ⟨y23,xE,h⟩:=Z1 h;refine G (aJ (g:=bG) (vs:=[cG]) en42 (wk42 eG xE) fun vB gH pH hs hr=>?_);have hfr:=hfr.ext hs;have aB:=aB.ext hs;obtain ⟨g8,aH,rfl,lB,rfl⟩:=hr;refine M (.tuple #[g8,I y23.2]) (Y g8 (Zi rfl rfl) (Y (I y23.2) (Zi rfl rfl) (H g8 (H (I y23.2) (O ?_)))));obtain ⟨mB,hx,h⟩:=Z1 h;refine Gn (xD gI wI fun e w g=>e 0=.bool mB) (fun Q' hQ=>?_) (fun jH qH hR=>?_)
 ·replace h:=hx
  clear hx;refine Za (M (I o0.2) (aT (.bool (o0.2==(0:Int))) rfl rfl rfl (M (.bool (o0.2==(0:Int))) ?_)));rcases Zt h with ⟨n8,h⟩ | ⟨n8,h⟩
  ·refine ag (I l5.2.2) (ai) rfl rfl n8 (ag (.bool (l5.2.2==(0:Int))) (Gp rfl rfl rfl) rfl rfl n8 (Y (.bool (l5.2.2==(0:Int))) (ae (b:=(o0.2==(0:Int))) (Tg n8 rfl)) (M (.bool (l5.2.2==(0:Int))) ?_)))
   rcases Zt h with ⟨l9,h⟩ | ⟨l9,h⟩
   ·refine ag (I y23.2) (ai) rfl rfl l9 (ag (.bool (y23.2==(0:Int))) (Gp rfl rfl rfl) rfl rfl l9 (Y (.bool (y23.2==(0:Int))) (ae (b:=(l5.2.2==(0:Int))) (Tg l9 rfl)) (M (.bool (y23.2==(0:Int))) ?_)))
    rcases Zt h with ⟨n9,h⟩ | ⟨n9,h⟩
    ·refine ag (Str.v o0.1) (ai) rfl rfl n9 (ag (.bool ((o0.1).b==(⟨[109,105,108,108,10,116,105,101,32,112,108,97,105,110,32,50,32,48,32,49,32,48,10,99,104,97,105,110,32,116,119,105,108,108,32,50,10,99,97,114,100,32,48,32,120,46,10,116,117,114,110,101,100,32,63,32,120,46,10,101,110,100,32,53,32,52,53,49,51,10]⟩:Str).b)) (Fd rfl rfl rfl) rfl rfl n9 (Y (.bool ((o0.1).b==(⟨[109,105,108,108,10,116,105,101,32,112,108,97,105,110,32,50,32,48,32,49,32,48,10,99,104,97,105,110,32,116,119,105,108,108,32,50,10,99,97,114,100,32,48,32,120,46,10,116,117,114,110,101,100,32,63,32,120,46,10,101,110,100,32,53,32,52,53,49,51,10]⟩:Str).b)) (ae (b:=(y23.2==(0:Int))) (Tg n9 rfl)) (M (.bool ((o0.1).b==(⟨[109,105,108,108,10,116,105,101,32,112,108,97,105,110,32,50,32,48,32,49,32,48,10,99,104,97,105,110,32,116,119,105,108,108,32,50,10,99,97,114,100,32,48,32,120,46,10,116,117,114,110,101,100,32,63,32,120,46,10,101,110,100,32,53,32,52,53,49,51,10]⟩:Str).b)) ?_)))
     rcases Zt h with ⟨t5,h⟩ | ⟨t5,h⟩
     ·refine ag nB (ai) rfl rfl t5 (Ze (.yes2 rfl rfl t5) rfl (C2 underlying63 underlying9 underlying5 rfl aB (Ze (.yes2 rfl rfl t5) rfl (Gd (g:=vB) 3054 (xs:=([(1:UInt8),(2:UInt8),(3:UInt8),(0:UInt8),(0:UInt8),(5:UInt8),(11:UInt8),(44:UInt8)]:List UInt8)) (vs:=[.int .u8 (UInt8.toNat 1),.int .u8 (UInt8.toNat 2),.int .u8 (UInt8.toNat 3),.int .u8 (UInt8.toNat 0),.int .u8 (UInt8.toNat 0),.int .u8 (UInt8.toNat 5),.int .u8 (UInt8.toNat 11),.int .u8 (UInt8.toNat 44)]) underlying63 sizeOf5 zeroValue5 rfl rfl (.cons rfl (.cons rfl (.cons rfl (.cons rfl (.cons rfl (.cons rfl (.cons rfl (.cons rfl .nil)))))))) (RVs.cons (Wa.2 rfl) (RVs.cons (Wa.2 rfl) (RVs.cons (Wa.2 rfl) (RVs.cons (Wa.2 rfl) (RVs.cons (Wa.2 rfl) (RVs.cons (Wa.2 rfl) (RVs.cons (Wa.2 rfl) (RVs.cons (Wa.2 rfl) RVs.nil)))))))) rfl rfl fun zB sH tH hs o39 gG hxt hfl=>?_))))
      have hfr:=hfr.stp hs;have lB:=lB.stp hs;refine Ze (.yes2 rfl rfl t5) rfl (C2 underlying63 underlying9 underlying5 rfl gG (ag (.bool ((⟨l5.1⟩:Str).b==(⟨([(1:UInt8),(2:UInt8),(3:UInt8),(0:UInt8),(0:UInt8),(5:UInt8),(11:UInt8),(44:UInt8)]:List UInt8)⟩:Str).b)) (Fd rfl rfl rfl) rfl rfl t5 (Y (.bool ((⟨l5.1⟩:Str).b==(⟨([(1:UInt8),(2:UInt8),(3:UInt8),(0:UInt8),(0:UInt8),(5:UInt8),(11:UInt8),(44:UInt8)]:List UInt8)⟩:Str).b)) (ae (b:=((o0.1).b==(⟨[109,105,108,108,10,116,105,101,32,112,108,97,105,110,32,50,32,48,32,49,32,48,10,99,104,97,105,110,32,116,119,105,108,108,32,50,10,99,97,114,100,32,48,32,120,46,10,116,117,114,110,101,100,32,63,32,120,46,10,101,110,100,32,53,32,52,53,49,51,10]⟩:Str).b)) (Tg t5 rfl)) (Y (.bool ((⟨l5.1⟩:Str).b==(⟨([(1:UInt8),(2:UInt8),(3:UInt8),(0:UInt8),(0:UInt8),(5:UInt8),(11:UInt8),(44:UInt8)]:List UInt8)⟩:Str).b)) (ai) ?_))));rcases Zt h with ⟨l8,h⟩ | ⟨l8,h⟩
      ·refine ag g8 (ai) rfl rfl l8 (ag (I ((y23.1).length:Int)) (G7 underlying54 rfl lB) rfl rfl l8 (ag (.bool (((y23.1).length:Int)==(1:Int))) (Gp rfl rfl rfl) rfl rfl l8 (Y (.bool (((y23.1).length:Int)==(1:Int))) (ae (b:=((⟨l5.1⟩:Str).b==(⟨([(1:UInt8),(2:UInt8),(3:UInt8),(0:UInt8),(0:UInt8),(5:UInt8),(11:UInt8),(44:UInt8)]:List UInt8)⟩:Str).b)) (Tg l8 rfl)) (M (.bool (((y23.1).length:Int)==(1:Int))) ?_))))
       rcases Zt h with ⟨i6,h⟩ | ⟨i6,h⟩
       ·refine ag g8 (ai) rfl rfl i6 ?_
        obtain ⟨oB,nD,h⟩:=Z1 h;refine ag (Gy g8 (0:Int) 5) (Zh (α:=Z4) underlying54 sizeOf61 rfl lB rfl nD) rfl rfl i6 ?_;have oE:=G1 lB nD;refine ag (S (Gy g8 (0:Int) 5) 0) (aa Ju (PT.ptr oE)) rfl rfl i6 ?_;have iG:=Zm Ql.1 oE;refine Ze (.yes2 rfl rfl i6) rfl (Ga (g:=zB) isAgg3 sizeOf3 rfl iG fun uH jG=>?_);obtain rfl:=Zj.1 jG;refine ag (.bool (oB.Day==(258:Int))) (Gp rfl rfl rfl) rfl rfl i6 (Y (.bool (oB.Day==(258:Int))) (ae (b:=(((y23.1).length:Int)==(1:Int))) (Tg i6 rfl)) (H (.bool (oB.Day==(258:Int))) (Zb ?_)));cases h;exact hQ _ _ ⟨zB,hfr,rfl⟩
       ·refine Zz rfl rfl i6 rfl rfl ?_
        iterate 4 refine Zz rfl rfl i6 rfl rfl ?_
        refine Y (.bool false) (ae (b:=(((y23.1).length:Int)==(1:Int))) (Td i6 rfl)) (H (.bool false) (Zb ?_));cases h;exact hQ _ _ ⟨zB,hfr,rfl⟩
      ·refine Zz rfl rfl l8 rfl rfl (Zz rfl rfl l8 rfl rfl (Zz rfl rfl l8 rfl rfl (Y (.bool false) (ae (b:=((⟨l5.1⟩:Str).b==(⟨([(1:UInt8),(2:UInt8),(3:UInt8),(0:UInt8),(0:UInt8),(5:UInt8),(11:UInt8),(44:UInt8)]:List UInt8)⟩:Str).b)) (Td l8 rfl)) (Q5 7 rfl (H (.bool false) (Zb ?_))))))
       cases h;exact hQ _ _ ⟨zB,hfr,rfl⟩
     ·refine Zz rfl rfl t5 rfl rfl ?_
      iterate 4 refine Zz rfl rfl t5 rfl rfl ?_
      refine Y (.bool false) (ae (b:=((o0.1).b==(⟨[109,105,108,108,10,116,105,101,32,112,108,97,105,110,32,50,32,48,32,49,32,48,10,99,104,97,105,110,32,116,119,105,108,108,32,50,10,99,97,114,100,32,48,32,120,46,10,116,117,114,110,101,100,32,63,32,120,46,10,101,110,100,32,53,32,52,53,49,51,10]⟩:Str).b)) (Td t5 rfl)) (Q5 12 rfl (H (.bool false) (Zb ?_)));cases h;exact hQ _ _ ⟨vB,hfr,rfl⟩
    ·refine Zz rfl rfl n9 rfl rfl (Zz rfl rfl n9 rfl rfl (Y (.bool false) (ae (b:=(y23.2==(0:Int))) (Td n9 rfl)) (Q5 19 rfl (H (.bool false) (Zb ?_)))))
     cases h;exact hQ _ _ ⟨vB,hfr,rfl⟩
   ·refine Zz rfl rfl l9 rfl rfl (Zz rfl rfl l9 rfl rfl (Y (.bool false) (ae (b:=(l5.2.2==(0:Int))) (Td l9 rfl)) (Q5 23 rfl (H (.bool false) (Zb ?_)))))
    cases h;exact hQ _ _ ⟨vB,hfr,rfl⟩
  ·refine Zz rfl rfl n8 rfl rfl (Zz rfl rfl n8 rfl rfl (Y (.bool false) (ae (b:=(o0.2==(0:Int))) (Td n8 rfl)) (Q5 27 rfl (H (.bool false) (Zb ?_)))))
   cases h;exact hQ _ _ ⟨vB,hfr,rfl⟩
 ·clear hx
  obtain ⟨xH,hfr,oD⟩:=hR;refine Gb ?_;obtain rfl:=sinj h;exact ac rfl (show _=.bool mB from oD) ⟨_,hfr,rfl⟩
noncomputable def f3 (x0:List UInt16) (x1:List (Vector UInt8 3)) (x2:Vector UInt8 2):Option Bool:=
 Option.bind (α:=(List (Vector UInt8 3))) (
  bif (decide ((x1.length:Int)>(5:Int))) then
   (cut x1 0 (5:Int)).bind fun y6=>
   some y6
  else
   some x1
  ) fun h06=>
 (f4 (2:UInt8) (1:UInt8) h06).bind fun zB=>
 (f5 (2:UInt8) x0).bind fun uE=>
 (f7 zB.1).bind fun y19=>
 (f8 zB.2).bind fun y21=>
 (f6 y19 y21).bind fun y23=>
 (idx x2.toList (0:Int)).bind fun y24=>
 (Kr (y24.toNat:Int) (30:Int)).bind fun gN=>
 (f7 zB.1).bind fun sU=>
 (f8 zB.2).bind fun tU=>
 (f10 y23.1).bind fun uU=>
 (idx x2.toList (1:Int)).bind fun y35=>
 (Kr (y35.toNat:Int) (3:Int)).bind fun qS=>
 (idx x2.toList (1:Int)).bind fun y39=>
 (F0 (y39.toNat:Int) (3:Int)).bind fun y42=>
 (Kr y42 (10:Int)).bind fun y43=>
 (f11 gN (w64 (gN+y43))).bind fun iN=>
 (f9 sU tU uU (⟨qS,iN⟩:LoomStop)).bind fun lB=>
 jn (σ:=Unit) (fun _=>
  jn (σ:=Unit) (fun _=>
   Option.bind (α:=Bool) (
    f15.bind fun gL=>
    bif gL then
     f16.bind fun tN=>
     some tN
    else
     some false
    ) fun zK=>
   some zK
   ) fun oV=>
  lp (σ:=Int) (fun pV n8=>
   jn (σ:=Unit) (fun _=>
    jn (σ:=Unit) (fun _=>
     pV (w64 (n8+(1:Int)))
     ) fun qV=>
    (idx (⟨List.toArray [y23.1,(lB.1:List Z3)],rfl⟩:Vector (List Z3) 2).toList n8).bind fun yB=>
    jn (σ:=(Vector Int 3)) (fun mB=>
     Option.bind (α:=(Vector (List Z4) 3)) (
      lp (σ:=(Vector (List Z4) 3) × Int) (fun rV (iI,i6)=>
       jn (σ:=Unit) (fun _=>
        Option.bind (α:=(Vector (List Z4) 3)) (
         lp (σ:=(Vector (List Z4) 3) × Int) (fun sV (jI,l9)=>
          jn (σ:=Unit) (fun _=>
           Option.bind (α:=(Vector (List Z4) 3)) (
            lp (σ:=(Vector (List Z4) 3) × Int) (fun tV (yE,cC)=>
             jn (σ:=Unit) (fun _=>
              Option.bind (α:=(Vector (List Z4) 3)) (
               (idx yB cC).bind fun vB=>
               Option.bind (α:=Bool) (
                bif (vB.Loom==i6) then
                 bif (decide (l9≥vB.From)) then
                  (idx zB.2 cC).bind fun tK=>
                  some (decide (l9<(w64 (vB.From+tK.Woven))))
                 else
                  some false
                else
                 some false
                ) fun uH=>
               bif uH then
                (idx yE.toList i6).bind fun uV=>
                (apnd 40 uV ([(⟨l9,i6,0,0,(5:Int)⟩:Z4)]:List Z4)).bind fun vV=>
                (idx yE.toList i6).bind fun u0B=>
                some (Ja yE i6 vV)
               else
                some yE
               ) fun kI=>
              tV (kI,(w64 (cC+(1:Int))))
              ) fun xV=>
             bif (decide (cC<(yB.length:Int))) then
              xV ()
             else
              some yE
             ) big (jI,(0:Int))
            ) fun lI=>
           sV (lI,(w64 (l9+(1:Int))))
           ) fun yV=>
          bif (decide (l9≤(400:Int))) then
           yV ()
          else
           some jI
          ) big (iI,(0:Int))
         ) fun mI=>
        rV (mI,(w64 (i6+(1:Int))))
        ) fun zV=>
       bif (decide (i6<(3:Int))) then
        zV ()
       else
        some iI
       ) big ((⟨List.toArray [[],[],[]],rfl⟩:Vector (List Z4) 3),(0:Int))
      ) fun aE=>
     jn (σ:=(List (List UInt8))) (fun sO=>
      (f14 uE).bind fun aW=>
      (f13 aW sO).bind fun vC=>
      jn (σ:=Unit) (fun _=>
       lp (σ:=Int) (fun bW uC=>
        jn (σ:=Unit) (fun _=>
         jn (σ:=Unit) (fun _=>
          bW (w64 (uC+(1:Int)))
          ) fun cW=>
         (idx vC.1 uC).bind fun uN=>
         (idx mB.toList uC).bind fun vN=>
         bif ((uN.length:Int) != vN) then
          some false
         else
          cW ()
         ) fun dW=>
        bif (decide (uC<(3:Int))) then
         dW ()
        else
         qV ()
        ) big (0:Int)
       ) fun eW=>
      Option.bind (α:=Bool) (
       bif (vC.2.2 != (0:Int)) then
        some true
       else
        some (((vC.1).length:Int) != (16:Int))
       ) fun xH=>
      bif xH then
       some false
      else
       eW ()
      ) fun gW=>
     lp (σ:=(List (List UInt8)) × Int) (fun iW (vF,bE)=>
      jn (σ:=Unit) (fun _=>
       jn (σ:=(List (List UInt8))) (fun iL=>
        iW (iL,(w64 (bE+(1:Int))))
        ) fun jW=>
       (idx aE.toList bE).bind fun kW=>
       (f12 kW).bind fun uF=>
       jn (σ:=Unit) (fun _=>
        (apnd 24 vF ([uF.1]:List (List UInt8))).bind fun rS=>
        jW rS
        ) fun lW=>
       bif (uF.2.2 != (0:Int)) then
        some false
       else
        lW ()
       ) fun mW=>
      bif (decide (bE<(3:Int))) then
       mW ()
      else
       gW vF
      ) big (([]:List (List UInt8)),(0:Int))
     ) fun nW=>
    lp (σ:=(Vector Int 3) × Int) (fun oW (zE,nB)=>
     jn (σ:=Unit) (fun _=>
      jn (σ:=(Vector Int 3)) (fun jL=>
       oW (jL,(w64 (nB+(1:Int))))
       ) fun pW=>
      (idx yB nB).bind fun n9=>
      jn (σ:=Unit) (fun _=>
       (idx zE.toList n9.Loom).bind fun lL=>
       (idx zB.2 nB).bind fun uK=>
       (idx zE.toList n9.Loom).bind fun v0B=>
       pW (Ja zE n9.Loom (w64 (lL+(w64 ((5:Int)*uK.Woven)))))
       ) fun qW=>
      Option.bind (α:=Bool) (
       bif (n9.Order != nB) then
        some true
       else
        bif (decide (n9.Loom<(0:Int))) then
         some true
        else
         bif (decide (n9.Loom>(2:Int))) then
          some true
         else
          bif (decide (n9.From<(0:Int))) then
           some true
          else
           some (decide (n9.From>(300:Int)))
       ) fun yH=>
      bif yH then
       some false
      else
       qW ()
      ) fun sW=>
     bif (decide (nB<(yB.length:Int))) then
      sW ()
     else
      nW zE
     ) big ((⟨List.toArray [0,0,0],rfl⟩:Vector Int 3),(0:Int))
    ) fun tW=>
   bif (decide (n8<(2:Int))) then
    tW ()
   else
    oV ()
   ) big (0:Int)
  ) fun x0B=>
 Option.bind (α:=Bool) (
  bif (y23.2 != (0:Int)) then
   some true
  else
   bif (lB.2.2 != (0:Int)) then
    some true
   else
    bif (((y23.1).length:Int) != ((zB.2).length:Int)) then
     some true
    else
     some (((lB.1:List Z3).length:Int) != ((zB.2).length:Int))
  ) fun cK=>
 bif cK then
  some false
 else
  x0B ()
theorem wk3 (hTI:Vc 0 gI.m wI) {x0:List UInt16} {x1:List (Vector UInt8 3)} {x2:Vector UInt8 2} (rp0:RV gI.m wI x0 up0) (rp1:RV gI.m wI x1 up1) (rp2:RV gI.m wI x2 up2) {r:Bool} (h:f3 x0 x1 x2=some r):Fn prog 3 #[up0,up1,up2] gI wI (fun _ _ v=>v=.bool r):=by
 unfold f3 at h;refine fnE func3 rfl rfl fun g0 hm hfr=>?_;have rp0:=RVc hm rp0;have rp1:=RVc hm rp1;have rp2:=RVc hm rp2;refine Z (G (Tw (g:=g0) rfl rp2 fun g1 w1 p1 hs q1=>?_));have hfr:=hfr.ext hs;have rp0:=rp0.ext hs;have rp1:=rp1.ext hs;refine H (.bool false) (O ?_);obtain ⟨h06,hx,h⟩:=Z1 h;refine Gn (fun e w=>∃ (g:Gh) (v1:Value),Fr gI wI g w∧e 0=up0∧RV g.m w (x0:List UInt16) up0∧e 1=v1∧RV g.m w (h06:List (Vector UInt8 3)) v1∧e 5=p1∧PT g.m w (x2:Vector UInt8 2) p1) (fun Q' hQ=>?_) (fun e_8 w8 hR=>?_)
 ·replace h:=hx
  clear hx;refine Z (M up1 (Y (I (x1.length:Int)) (G7 underlying23 rfl rp1) (aT (.bool (decide ((x1.length:Int)>(5:Int)))) rfl rfl rfl (O ?_))));rcases Zt h with ⟨hc5,h⟩ | ⟨hc5,h⟩
  ·refine Gz hc5 rfl (Za (M up1 ?_))
   obtain ⟨y6,hy6,h⟩:=Z1 h;have r7:=Cj rp1 hy6;refine Y (Ky up1 (Int.toNat 0) (Int.toNat (5:Int)) 3) (Ol underlying23 sizeOf77 rfl rp1 rfl rfl hy6) (H (Ky up1 (Int.toNat 0) (Int.toNat (5:Int)) 3) (Zb ?_));cases h;exact hQ _ _ ⟨g1,(Ky up1 (Int.toNat 0) (Int.toNat (5:Int)) 3),hfr,rfl,rp0,rfl,r7,rfl,q1⟩
  ·refine G0 hc5 rfl (Zu ?_)
   cases h;exact hQ _ _ ⟨g1,up1,hfr,rfl,rp0,rfl,rp1,rfl,q1⟩
 ·clear hx
  obtain ⟨g8,c0G,hfr,d0G,jN,e0G,g0G,i06,xE⟩:=hR;refine Z (aQ e0G ?_);obtain ⟨zB,h0G,h⟩:=Z1 h;refine G (aJ (g:=g8) (vs:=[.int .u8 (UInt8.toNat 2),.int .u8 (UInt8.toNat 1),c0G]) en4 (wk4 g0G h0G) fun g9 w9_ v9 hs hr=>?_);have hfr:=hfr.ext hs;have jN:=jN.ext hs;have xE:=xE.ext hs;obtain ⟨j06,v8,rfl,k06,lE⟩:=hr;refine M (.tuple #[j06,v8]) (Y j06 (Zi rfl rfl) (Y v8 (Zi rfl rfl) (G (Gu (g:=g9) 2007 (⟨[],0⟩:LoomMill) zeroValue27 (fun m w=>⟨_,(Gg Tb Zw),rfl⟩) fun g11 w11 p11 hs b11 cb=>?_))));have hfr:=hfr.stp hs;have jN:=jN.stp hs;have xE:=xE.stp hs;have k06:=k06.stp hs;have lE:=lE.stp hs;have q0M:OSF 2007 60700 0 g11 w11 3 27 ([]:List Int) p11:=cb.osf (by rfl);clear cb;refine G (Gk (g:=g11) (v:=j06) sizeOf27 rfl b11 rfl k06 fun g12 w12 hs b12 cb=>?_);clear cb;have hfr:=hfr.stp hs;have jN:=jN.stp hs;have xE:=xE.stp hs;have lE:=lE.stp hs;refine H v8 (O (Z (aQ d0G ?_)));obtain ⟨uE,i0G,h⟩:=Z1 h;refine G (aJ (g:=g12) (vs:=[.int .u8 (UInt8.toNat 2),up0]) en5 (wk5 jN i0G) fun g13 x0M v13 hs hr=>?_);have hfr:=hfr.ext hs;have xE:=xE.ext hs;have lE:=lE.ext hs;have b12:=b12.ext hs;have r13:=hr;refine G (Gu (g:=g13) 2009 (⟨⟨0,[]⟩,⟨0,[]⟩⟩:Gc) zeroValue36 (fun m w=>⟨_,(Gg (Gg Zw Tb) (Gg Zw Tb)),rfl⟩) fun g15 w15 oB hs b15 cb=>?_);have hfr:=hfr.stp hs;have xE:=xE.stp hs;have lE:=lE.stp hs;have b12:=b12.stp hs rfl;have r13:=r13.stp hs;have r0M:OSF 2009 60901 1 g15 w15 3 36 ([]:List Int) oB:=cb.osf (by rfl);have s0M:OSF 2009 60903 3 g15 w15 3 36 ([]:List Int) oB:=cb.osf (by rfl);clear cb;refine G (Gk (g:=g15) (v:=v13) sizeOf36 rfl b15 rfl r13 fun g16 w16 hs b16 cb=>?_);clear cb;have hfr:=hfr.stp hs;have xE:=xE.stp hs;have lE:=lE.stp hs;have b12:=b12.stp hs rfl;refine O (Z (G (Tr (g:=g16) isAgg27 sizeOf27 rfl b12 fun v17 r17=>?_)));obtain ⟨y19,j0G,h⟩:=Z1 h;refine G (aJ (g:=g16) (vs:=[v17]) en7 (wk7 r17 j0G) fun g18 y0M v18 hs hr=>?_);have hfr:=hfr.ext hs;have xE:=xE.ext hs;have lE:=lE.ext hs;have b12:=b12.ext hs;have b16:=b16.ext hs;have r18:=hr;refine M v8 ?_;obtain ⟨y21,k0G,h⟩:=Z1 h;refine G (aJ (g:=g18) (vs:=[v8]) en8 (wk8 lE k0G) fun g20 z0M v20 hs hr=>?_);have hfr:=hfr.ext hs;have xE:=xE.ext hs;have lE:=lE.ext hs;have b12:=b12.ext hs;have b16:=b16.ext hs;have r18:=r18.ext hs;have r20:=hr;obtain ⟨y23,l0G,h⟩:=Z1 h;refine G (aJ (g:=g20) (vs:=[v18,v20]) en6 (wk6 r18 r20 l0G) fun g22 a0N v22 hs hr=>?_);have hfr:=hfr.ext hs;have xE:=xE.ext hs;have lE:=lE.ext hs;have b12:=b12.ext hs;have b16:=b16.ext hs;obtain ⟨t5,t0M,rfl,pK,rfl⟩:=hr;refine M (.tuple #[t5,I y23.2]) (Y t5 (Zi rfl rfl) (Y (I y23.2) (Zi rfl rfl) (H t5 (H (I y23.2) (O (Z ?_))))));obtain ⟨y24,b0C,h⟩:=Z1 h;refine Y (S p1 (((0:Int):Int).toNat*1)) (G9 (α:=UInt8) underlying24 sizeOf5 i06 (PT.ptr xE) rfl b0C) ?_;have q25:=Wt xE b0C;refine G (Ga (g:=g22) isAgg5 sizeOf5 rfl q25 fun eL r26=>?_);obtain rfl:=Wa.1 r26;refine Y (I (y24.toNat:Int)) (W7 underlying5 underlying3 rfl) ?_;obtain ⟨gN,m0G,h⟩:=Z1 h;refine Y (I gN) (Gp rfl rfl (congrArg (Option.map (Value.int .i64)) m0G)) (H (I gN) (O (Zf (Qy (x:=.tmp 7) isAgg27 sizeOf27 b12 fun v28 r28 n0G=>?_))));obtain ⟨sU,o0G,h⟩:=Z1 h;obtain ⟨tU,p0G,h⟩:=Z1 h;obtain ⟨uU,q0G,h⟩:=Z1 h;obtain ⟨y35,c0C,h⟩:=Z1 h;have q36:=Wt xE c0C;refine Zs (x:=.tmp 66) isAgg5 sizeOf5 q36 fun v37 r37 r0G=>?_;obtain rfl:=Wa.1 r37;obtain ⟨qS,s0G,h⟩:=Z1 h;obtain ⟨y39,d0C,h⟩:=Z1 h;have q40:=Wt xE d0C;refine Zs (x:=.tmp 72) isAgg5 sizeOf5 q40 fun v41 r41 t0G=>?_;obtain rfl:=Wa.1 r41;obtain ⟨y42,u0G,h⟩:=Z1 h;obtain ⟨y43,v0G,h⟩:=Z1 h;obtain ⟨iN,x0G,h⟩:=Z1 h;obtain ⟨lB,y0G,h⟩:=Z1 h;refine ab (g:=g22) (n:=28) [(1,(fun v g w=>RV g.m w sU v)),(3,(fun v g w=>RV g.m w tU v)),(5,(fun v g w=>RV g.m w uU v)),(18,(fun v g w=>RV g.m w iN v)),(20,(fun v g w=>∃ y0 y1 y2:Value,v=.tuple #[y0,y1,y2]∧RV g.m w (lB.1:List Z3) y0∧RV g.m w (lB.2.1:List Int) y1∧y2=I lB.2.2))] [0,1,2,3,4,5,6,7,8,9,10,11,12,13,14,15,16,17,18,19,20,21,22,23,24,25,26,27] mixed (⟨fun _=>Hm,fun _=>Hm,fun _=>Hm,fun _=>Hm,fun _=>(up_ex fun _=>(up_ex fun _=>(up_ex fun _=>(Jq (Ww _) (Jq Hm (Jq Hm (Ww _))))))),trivial⟩) (G3 (c:=v28) rfl rfl .plain xB n0G rfl (Wd (φ:=fun v g w=>RV g.m w sU v) rfl rfl .plain (fun g w hd=>aJ (g:=g) (vs:=[v28]) en7 (wk7 (r28.ext hd.1) o0G) fun g' w' v hs hr=>⟨g',hs,hr⟩) (fun v29 hv=>?_)))
  obtain ⟨_,_,_,rq29⟩:=hv;refine V v8 rfl (ai) (Wd (φ:=fun v g w=>RV g.m w tU v) rfl rfl .plain (fun g w hd=>aJ (g:=g) (vs:=[v8]) en8 (wk8 (lE.ext hd.1) p0G) fun g' w' v hs hr=>⟨g',hs,hr⟩) (fun v31 hv=>?_));obtain ⟨_,_,_,rq31⟩:=hv;refine V t5 rfl (ai) (Wd (φ:=fun v g w=>RV g.m w uU v) rfl rfl .plain (fun g w hd=>aJ (g:=g) (vs:=[t5]) en10 (wk10 (pK.ext hd.1) q0G) fun g' w' v hs hr=>⟨g',hs,hr⟩) (fun v33 hv=>?_));obtain ⟨_,_,_,rq33⟩:=hv;refine V (S p1 (((1:Int):Int).toNat*1)) rfl (G9 (α:=UInt8) underlying24 sizeOf5 i06 (PT.ptr xE) rfl c0C) (G3 (c:=.int .u8 (UInt8.toNat y35)) rfl rfl .plain xC r0G rfl (V (I (y35.toNat:Int)) rfl (W7 underlying5 underlying3 rfl) (V (I qS) rfl (Gp rfl rfl (congrArg (Option.map (Value.int .i64)) s0G)) (V (I gN) rfl (ai) (V (I gN) rfl (ai) (V (S p1 (((1:Int):Int).toNat*1)) rfl (G9 (α:=UInt8) underlying24 sizeOf5 i06 (PT.ptr xE) rfl d0C) (G3 (c:=.int .u8 (UInt8.toNat y39)) rfl rfl .plain xC t0G rfl (V (I (y39.toNat:Int)) rfl (W7 underlying5 underlying3 rfl) (V (I y42) rfl (Gp rfl rfl (congrArg (Option.map (Value.int .i64)) u0G)) (V (I y43) rfl (Gp rfl rfl (congrArg (Option.map (Value.int .i64)) v0G)) (V (I (w64 (gN+y43))) rfl (Gp rfl rfl rfl) (Wd (φ:=fun v g w=>RV g.m w iN v) rfl rfl .plain (fun g w hd=>aJ (g:=g) (vs:=[I gN,I (w64 (gN+y43))]) en11 (wk11  x0G) fun g' w' v hs hr=>⟨g',hs,hr⟩) (fun vU hv=>?_)))))))))))));obtain ⟨_,_,_,rq44⟩:=hv;apply Exists.elim (show ∃ v,v=(Value.agg (Tk [[I 0],[I 0,I 0]] [(0,I qS),(1,vU)]).flatten.toArray) from ⟨_,rfl⟩);intro v46 l06;refine J8 (c:=v46) rfl rfl .plain (fun _ _ hd=>l06▸T3 (vs:=[(0,I qS),(1,vU)]) [[I 0],[I 0,I 0]] lay_51 rfl rfl (.cons rfl (.cons rfl .nil)) ⟨⟨_,rfl,rfl⟩,⟨⟨_,rfl,Tl (Yv (A:=fun g w=>RV g.m w iN vU) 18 rfl rfl (Q9 hd))⟩,trivial⟩⟩) (Wd (φ:=fun v g w=>∃ y0 y1 y2:Value,v=.tuple #[y0,y1,y2]∧RV g.m w (lB.1:List Z3) y0∧RV g.m w (lB.2.1:List Int) y1∧y2=I lB.2.2) rfl rfl .plain (fun g w hd=>aJ (g:=g) (vs:=[v29,v31,v33,v46]) en9 (wk9 (Yv (A:=fun g w=>RV g.m w sU v29) 1 rfl rfl (Q9 hd)) (Yv (A:=fun g w=>RV g.m w tU v31) 3 rfl rfl (Q9 hd)) (Yv (A:=fun g w=>RV g.m w uU v33) 5 rfl rfl (Q9 hd)) (show RV _ _ (⟨qS,iN⟩:LoomStop) v46 from l06▸Ti rfl (Gs rfl (To (RV.cells (Yv (A:=fun g w=>RV g.m w iN vU) 18 rfl rfl (Q9 hd)))))) y0G) fun g' w' v hs hr=>⟨g',hs,hr⟩) (fun v47 hv=>?_));obtain ⟨_,_,_,l5,aL,_,rfl,p0J,q0J,rfl⟩:=hv;refine V (.tuple #[l5,aL,I lB.2.2]) rfl (ai) (V l5 rfl (Zi rfl rfl) (V aL rfl (Zi rfl rfl) (V (I lB.2.2) rfl (Zi rfl rfl) (V l5 rfl (Tp rfl) (V aL rfl (Tp rfl) (V (I lB.2.2) rfl (Tp rfl) (Jx fun g49 w49 hall=>?_)))))));have hs:=hall.1;have hfr:=hfr.ext hs;have lE:=lE.ext hs;have b16:=b16.ext hs;have pK:=pK.ext hs;have r80:=(Ts (A:=fun g w=>RV g.m w sU v29) 1 rfl hall);have r82:=(Ts (A:=fun g w=>RV g.m w tU v31) 3 rfl hall);have r84:=(Ts (A:=fun g w=>RV g.m w uU v33) 5 rfl hall);have r97:=(Ts (A:=fun g w=>RV g.m w iN vU) 18 rfl hall);have r98:=(show RV _ _ (⟨qS,iN⟩:LoomStop) v46 from l06▸Ti rfl (Gs rfl (To (RV.cells (Ts (A:=fun g w=>RV g.m w iN vU) 18 rfl hall)))));have b0N:=(I8 (Ts (A:=fun g w=>∃ y0 y1 y2:Value,Value.tuple #[l5,aL,I lB.2.2]=.tuple #[y0,y1,y2]∧RV g.m w (lB.1:List Z3) y0∧RV g.m w (lB.2.1:List Int) y1∧y2=I lB.2.2) 20 rfl hall));have c0N:=(tup3_1 (Ts (A:=fun g w=>∃ y0 y1 y2:Value,Value.tuple #[l5,aL,I lB.2.2]=.tuple #[y0,y1,y2]∧RV g.m w (lB.1:List Z3) y0∧RV g.m w (lB.2.1:List Int) y1∧y2=I lB.2.2) 20 rfl hall));have sS:=(I8 (Ts (A:=fun g w=>∃ y0 y1 y2:Value,Value.tuple #[l5,aL,I lB.2.2]=.tuple #[y0,y1,y2]∧RV g.m w (lB.1:List Z3) y0∧RV g.m w (lB.2.1:List Int) y1∧y2=I lB.2.2) 20 rfl hall));have d0N:=(tup3_1 (Ts (A:=fun g w=>∃ y0 y1 y2:Value,Value.tuple #[l5,aL,I lB.2.2]=.tuple #[y0,y1,y2]∧RV g.m w (lB.1:List Z3) y0∧RV g.m w (lB.2.1:List Int) y1∧y2=I lB.2.2) 20 rfl hall))
  clear hs hall;refine O (Zq h (fun (s:Unit)=>xD gI wI fun e w g=>e 8=v8∧RV g.m w (zB.2:List Z5) v8∧e 9=oB∧OB 2009 g w 36 (uE:Gc) oB∧e 10=t5∧RV g.m w (y23.1:List Z3) t5∧e 13=l5∧RV g.m w ((lB.1:List Z3):List Z3) l5) (fun X115 x0B s0F h=>?_) ?_)
  ·obtain ⟨cK,hx,h⟩:=Z1 h
   refine Gn (xD gI wI fun e w g=>e 8=v8∧RV g.m w (zB.2:List Z5) v8∧e 9=oB∧OB 2009 g w 36 (uE:Gc) oB∧e 10=t5∧RV g.m w (y23.1:List Z3) t5∧e 13=l5∧RV g.m w ((lB.1:List Z3):List Z3) l5∧e 103=.bool cK) (fun Q' hQ=>?_) (fun u0M e0N hR=>?_)
   ·replace h:=hx
    clear hx;refine Za (M (I y23.2) (aT (.bool (y23.2 != (0:Int))) rfl rfl rfl (M (.bool (y23.2 != (0:Int))) ?_)));rcases Zt h with ⟨bL,h⟩ | ⟨bL,h⟩
    ·refine Zz rfl rfl bL rfl rfl (Zz rfl rfl bL rfl rfl (Y (.bool true) (ae (b:=(y23.2 != (0:Int))) (Tg bL rfl)) (Q5 14 rfl (Zb ?_))))
     cases h;exact hQ _ _ ⟨g49,hfr,rfl,lE,rfl,b16,rfl,pK,rfl,sS,rfl⟩
    ·refine ag (I lB.2.2) (ai) rfl rfl bL (ag (.bool (lB.2.2 != (0:Int))) (Gp rfl rfl rfl) rfl rfl bL (Y (.bool (lB.2.2 != (0:Int))) (ae (b:=(y23.2 != (0:Int))) (Td bL rfl)) (M (.bool (lB.2.2 != (0:Int))) ?_)))
     rcases Zt h with ⟨bI,h⟩ | ⟨bI,h⟩
     ·refine Zz rfl rfl bI rfl rfl ?_
      iterate 4 refine Zz rfl rfl bI rfl rfl ?_
      refine Y (.bool true) (ae (b:=(lB.2.2 != (0:Int))) (Tg bI rfl)) (Q5 7 rfl (Zb ?_));cases h;exact hQ _ _ ⟨g49,hfr,rfl,lE,rfl,b16,rfl,pK,rfl,sS,rfl⟩
     ·refine ag t5 (ai) rfl rfl bI (ag (I ((y23.1).length:Int)) (G7 underlying38 rfl pK) rfl rfl bI (ag v8 (ai) rfl rfl bI (ag (I ((zB.2).length:Int)) (G7 underlying28 rfl lE) rfl rfl bI (ag (.bool (((y23.1).length:Int) != ((zB.2).length:Int))) (Gp rfl rfl rfl) rfl rfl bI (Y (.bool (((y23.1).length:Int) != ((zB.2).length:Int))) (ae (b:=(lB.2.2 != (0:Int))) (Td bI rfl)) (M (.bool (((y23.1).length:Int) != ((zB.2).length:Int))) ?_))))))
      rcases Zt h with ⟨dI,h⟩ | ⟨dI,h⟩
      ·refine Zz rfl rfl dI rfl rfl ?_
       iterate 4 refine Zz rfl rfl dI rfl rfl ?_
       refine Y (.bool true) (ae (b:=(((y23.1).length:Int) != ((zB.2).length:Int))) (Tg dI rfl)) (Zb ?_);cases h;exact hQ _ _ ⟨g49,hfr,rfl,lE,rfl,b16,rfl,pK,rfl,sS,rfl⟩
      ·refine ag l5 (ai) rfl rfl dI (ag (I ((lB.1:List Z3).length:Int)) (G7 underlying38 rfl sS) rfl rfl dI (ag v8 (ai) rfl rfl dI (ag (I ((zB.2).length:Int)) (G7 underlying28 rfl lE) rfl rfl dI (ag (.bool (((lB.1:List Z3).length:Int) != ((zB.2).length:Int))) (Gp rfl rfl rfl) rfl rfl dI (Y (.bool (((lB.1:List Z3).length:Int) != ((zB.2).length:Int))) (ae (b:=(((y23.1).length:Int) != ((zB.2).length:Int))) (Td dI rfl)) (Zb ?_))))))
       cases h;exact hQ _ _ ⟨g49,hfr,rfl,lE,rfl,b16,rfl,pK,rfl,sS,rfl⟩
   ·clear hx
    obtain ⟨z0G,hfr,i0C,j0C,k0C,l0C,p09,q09,r09,s09,tS⟩:=hR;rcases Zt h with ⟨nV,h⟩ | ⟨nV,h⟩
    ·refine Ta (Eq.trans (show X _ _=.bool cK from tS) (congrArg Value.bool nV)) (Z (H (.bool false) (O (Gb (Gj ?_)))))
     obtain rfl:=sinj h;exact ac rfl (rq (.bool false)) ⟨_,hfr,rfl⟩
    ·refine Gv (Eq.trans (show X _ _=.bool cK from tS) (congrArg Value.bool nV)) ?_
     exact Zu (Zd (s0F () _ _ ⟨z0G,hfr,i0C,j0C,k0C,l0C,p09,q09,r09,s09⟩ h))
  ·rintro _ v0M g0N ⟨a0H,hfr,m0C,n0C,o0C,p0C,t09,u09,v09,x09⟩ h
   refine Zq h (fun (s:Unit) e w=>∃ (g:Gh) ,Fr gI wI g w) (fun X10281 oV y09 h=>?_) ?_
   ·refine Z (H (I 0) (O (Zr (Qz h (fun (s:Int)=>xD gI wI fun e w g=>e 8=v8∧RV g.m w (zB.2:List Z5) v8∧e 9=oB∧OB 2009 g w 36 (uE:Gc) oB∧e 10=t5∧RV g.m w (y23.1:List Z3) t5∧e 13=l5∧RV g.m w ((lB.1:List Z3):List Z3) l5∧e 16=I s) ⟨a0H,hfr,m0C,n0C,o0C,p0C,t09,u09,v09,x09,rfl⟩ (fun X10282 pV z09=>?_)))))
    rintro n8 g0H r0J ⟨uW,hfr,m06,n06,o06,p06,vW,xW,yW,zW,tO⟩ h;refine Zq h (fun (s:Unit)=>xD gI wI fun e w g=>e 8=v8∧RV g.m w (zB.2:List Z5) v8∧e 9=oB∧OB 2009 g w 36 (uE:Gc) oB∧e 10=t5∧RV g.m w (y23.1:List Z3) t5∧e 13=l5∧RV g.m w ((lB.1:List Z3):List Z3) l5∧e 16=I n8) (fun X10285 tW a0A h=>?_) ?_
    ·refine Z (aQ tO (aT (.bool (decide (n8<(2:Int)))) rfl rfl rfl (O ?_)))
     rcases Zt h with ⟨cO,h⟩ | ⟨cO,h⟩
     ·refine Gz cO rfl ?_
      exact Zu (Zd (a0A () _ _ ⟨uW,hfr,m06,n06,o06,p06,vW,xW,yW,zW,tO⟩ h))
     ·refine G0 cO rfl (Th (Gr (Gr (G2 ?_))))
      exact Zd (y09 () _ _ ⟨uW,hfr⟩ h)
    ·rintro _ h0H aX ⟨xN,hfr,q06,cG,r06,eG,uO,mE,vO,oE,xO⟩ h
     refine Zq h (fun (s:Unit)=>xD gI wI fun e w g=>e 8=v8∧RV g.m w (zB.2:List Z5) v8∧e 9=oB∧OB 2009 g w 36 (uE:Gc) oB∧e 10=t5∧RV g.m w (y23.1:List Z3) t5∧e 13=l5∧RV g.m w ((lB.1:List Z3):List Z3) l5∧e 16=I n8) (fun X15362 qV b0A h=>?_) ?_
     ·refine Zr (Z (aQ uO (aQ vO ?_)))
      have uS:RV xN.m _ (⟨List.toArray [y23.1,(lB.1:List Z3)],rfl⟩:Vector (List Z3) 2) (.agg (Tk [[.slice none 0 0],[.slice none 0 0]] [(0,t5),(1,l5)]).flatten.toArray):=Ti rfl (K8 (Zv (RV.cells mE) (Zv (RV.cells oE) K0)) rfl);generalize c0A:(Value.agg (Tk [[.slice none 0 0],[.slice none 0 0]] [(0,t5),(1,l5)]).flatten.toArray)=q0C at uS;refine Y q0C (c0A▸Bn (vs:=[(0,t5),(1,l5)]) [[.slice none 0 0],[.slice none 0 0]] underlying52 layA_52 szA_38 rfl (by simp) (.cons rfl (.cons rfl .nil)) ⟨⟨_,rfl,Tl mE⟩,⟨⟨_,rfl,Tl oE⟩,trivial⟩⟩) (aQ xO ?_);obtain ⟨yB,xU,h⟩:=Z1 h;have cH:=RV_idxA uS xU;generalize d0A:partV _ _ _ _=aB at cH;refine Y aB (d0A▸P_indexA underlying52 isAgg38 sizeOf38 rfl uS rfl xU) ?_;have vK:RV xN.m aX (⟨List.toArray [0,0,0],rfl⟩:Vector Int 3) (.agg (Tk [[I 0],[I 0],[I 0]] []).flatten.toArray):=Ti rfl (K8 (Zv Zw (Zv Zw (Zv Zw K0))) rfl);generalize e0A:(Value.agg (Tk [[I 0],[I 0],[I 0]] []).flatten.toArray)=bX at vK;refine Y bX (e0A▸Bn (vs:=[]) [[I 0],[I 0],[I 0]] underlying53 layA_53 szA_3 rfl (by simp) .nil trivial) ?_;have nI:RV xN.m aX (⟨List.toArray [[],[],[]],rfl⟩:Vector (List Z4) 3) (.agg (Tk [[.slice none 0 0],[.slice none 0 0],[.slice none 0 0]] []).flatten.toArray):=Ti rfl (K8 (Zv Tb (Zv Tb (Zv Tb K0))) rfl);generalize yU:(Value.agg (Tk [[.slice none 0 0],[.slice none 0 0],[.slice none 0 0]] []).flatten.toArray)=cX at nI;refine Y cX (yU▸Bn (vs:=[]) [[.slice none 0 0],[.slice none 0 0],[.slice none 0 0]] underlying55 layA_55 szA_54 rfl (by simp) .nil trivial) (G (Gu (g:=xN) 2018 ((⟨List.toArray [0,0,0],rfl⟩:Vector Int 3):Vector Int 3) zeroValue53 (fun m w=>⟨_,(K8 (Zv Zw (Zv Zw (Zv Zw K0))) rfl),rfl⟩) fun r0C s0J l8 hs b15368 cb=>?_));have hfr:=hfr.stp hs;have cG:=cG.stp hs;have eG:=eG.stp hs rfl;have mE:=mE.stp hs;have oE:=oE.stp hs;have cH:=cH.stp hs;have vK:=vK.stp hs;have nI:=nI.stp hs;clear cb;refine G (Gu (g:=r0C) 2019 ((⟨List.toArray [[],[],[]],rfl⟩:Vector (List Z4) 3):Vector (List Z4) 3) zeroValue55 (fun m w=>⟨_,(K8 (Zv Tb (Zv Tb (Zv Tb K0))) rfl),rfl⟩) fun s0C t0J o0 hs b15369 cb=>?_);have hfr:=hfr.stp hs;have cG:=cG.stp hs;have eG:=eG.stp hs rfl;have mE:=mE.stp hs;have oE:=oE.stp hs;have cH:=cH.stp hs;have vK:=vK.stp hs;have nI:=nI.stp hs;have b15368:=b15368.stp hs rfl;clear cb;refine H aB (G (Gk (g:=s0C) (v:=bX) sizeOf53 rfl b15368 rfl vK fun t0C u0J hs b15370 cb=>?_));clear cb;have hfr:=hfr.stp hs;have cG:=cG.stp hs;have eG:=eG.stp hs rfl;have mE:=mE.stp hs;have oE:=oE.stp hs;have cH:=cH.stp hs;have nI:=nI.stp hs;have b15369:=b15369.stp hs rfl;refine G (Gk (g:=t0C) (v:=cX) sizeOf55 rfl b15369 rfl nI fun dX u0C hs b15371 cb=>?_);have s06:VS 2019 61900 dX u0C 61 55 ((⟨List.toArray [[],[],[]],rfl⟩:Vector (List Z4) 3):Vector (List Z4) 3) o0:=cb.vs (by rw [← yU];rfl) rfl;clear cb;have hfr:=hfr.stp hs;have cG:=cG.stp hs;have eG:=eG.stp hs rfl;have mE:=mE.stp hs;have oE:=oE.stp hs;have cH:=cH.stp hs;have b15370:=b15370.stp hs rfl;refine O (Zq h (fun (s:(Vector Int 3)) e w=>∃ (g:Gh) ,Fr gI wI g w∧e 8=v8∧RV g.m w (zB.2:List Z5) v8∧e 9=oB∧OB 2009 g w 36 (uE:Gc) oB∧e 10=t5∧RV g.m w (y23.1:List Z3) t5∧e 13=l5∧RV g.m w ((lB.1:List Z3):List Z3) l5∧e 16=I (n8)∧e 17=aB∧RV g.m w (yB:List Z3) aB∧e 18=l8∧OB 2018 g w 53 (s:Vector Int 3) l8∧e 19=o0∧OB 2019 g w 55 ((⟨List.toArray [[],[],[]],rfl⟩:Vector (List Z4) 3):Vector (List Z4) 3) o0∧VS 2019 61900 g w 61 55 ((⟨List.toArray [[],[],[]],rfl⟩:Vector (List Z4) 3):Vector (List Z4) 3) o0) (fun X15584 nW g0A h=>?_) ?_)
      ·refine Z (H (I 0) (O (Zr (Qz h (fun (s:(Vector Int 3) × Int) e w=>∃ (g:Gh) ,Fr gI wI g w∧e 8=v8∧RV g.m w (zB.2:List Z5) v8∧e 9=oB∧OB 2009 g w 36 (uE:Gc) oB∧e 10=t5∧RV g.m w (y23.1:List Z3) t5∧e 13=l5∧RV g.m w ((lB.1:List Z3):List Z3) l5∧e 16=I n8∧e 17=aB∧RV g.m w (yB:List Z3) aB∧e 18=l8∧OB 2018 g w 53 (s.1:Vector Int 3) l8∧e 19=o0∧OB 2019 g w 55 ((⟨List.toArray [[],[],[]],rfl⟩:Vector (List Z4) 3):Vector (List Z4) 3) o0∧VS 2019 61900 g w 61 55 ((⟨List.toArray [[],[],[]],rfl⟩:Vector (List Z4) 3):Vector (List Z4) 3) o0∧e 20=I s.2) ⟨dX,hfr,q06,cG,r06,eG,uO,mE,vO,oE,xO,rfl,cH,rfl,b15370,rfl,b15371,s06,rfl⟩ (fun X15585 oW h0A=>?_)))))
       rintro ⟨zE,nB⟩ i0H v0J ⟨eX,hfr,vS,xS,yS,zS,yO,zO,aP,bP,cP,mL,nL,dP,eP,gP,iP,u19_0_15586,jP⟩ h;refine Zq h (fun (s:Unit)=>xD gI wI fun e w g=>e 8=v8∧RV g.m w (zB.2:List Z5) v8∧e 9=oB∧OB 2009 g w 36 (uE:Gc) oB∧e 10=t5∧RV g.m w (y23.1:List Z3) t5∧e 13=l5∧RV g.m w ((lB.1:List Z3):List Z3) l5∧e 16=I (n8)∧e 17=aB∧RV g.m w (yB:List Z3) aB∧e 18=l8∧OB 2018 g w 53 (zE:Vector Int 3) l8∧e 19=o0∧OB 2019 g w 55 ((⟨List.toArray [[],[],[]],rfl⟩:Vector (List Z4) 3):Vector (List Z4) 3) o0∧VS 2019 61900 g w 61 55 ((⟨List.toArray [[],[],[]],rfl⟩:Vector (List Z4) 3):Vector (List Z4) 3) o0∧e 20=I nB) (fun X15588 sW i0A h=>?_) ?_
       ·refine Z (aQ jP (aQ mL (Y (I (yB.length:Int)) (G7 underlying38 rfl nL) (aT (.bool (decide (nB<(yB.length:Int)))) rfl rfl rfl (O ?_)))))
        rcases Zt h with ⟨dO,h⟩ | ⟨dO,h⟩
        ·refine Gz dO rfl ?_
         exact Zu (Zd (i0A () _ _ ⟨eX,hfr,vS,xS,yS,zS,yO,zO,aP,bP,cP,mL,nL,dP,eP,gP,iP,u19_0_15586,jP⟩ h))
        ·refine G0 dO rfl (Th (Gr (Gr (G2 ?_))))
         exact Zd (g0A zE _ _ ⟨eX,hfr,vS,xS,yS,zS,yO,zO,aP,bP,cP,mL,nL,dP,eP,gP,iP,u19_0_15586⟩ h)
       ·rintro _ j0H x0J ⟨gX,hfr,dK,gG,lK,iG,pI,dF,qI,eF,sI,mH,rE,jJ,rF,kJ,sF,u19_0_15590,jG⟩ h
        refine Zq h (fun (s:(Vector Int 3)) e w=>∃ (g:Gh) ,Fr gI wI g w∧e 8=v8∧RV g.m w (zB.2:List Z5) v8∧e 9=oB∧OB 2009 g w 36 (uE:Gc) oB∧e 10=t5∧RV g.m w (y23.1:List Z3) t5∧e 13=l5∧RV g.m w ((lB.1:List Z3):List Z3) l5∧e 16=I (n8)∧e 17=aB∧RV g.m w (yB:List Z3) aB∧e 18=l8∧OB 2018 g w 53 (s:Vector Int 3) l8∧e 19=o0∧OB 2019 g w 55 ((⟨List.toArray [[],[],[]],rfl⟩:Vector (List Z4) 3):Vector (List Z4) 3) o0∧VS 2019 61900 g w 61 55 ((⟨List.toArray [[],[],[]],rfl⟩:Vector (List Z4) 3):Vector (List Z4) 3) o0∧e 20=I nB) (fun X15693 pW j0A h=>?_) ?_
        ·refine Zr (Z (aQ mH (aQ jG ?_)))
         obtain ⟨n9,zU,h⟩:=Z1 h;refine Y (Gy aB nB 3) (Zh (α:=Z3) underlying38 sizeOf57 rfl rE rfl zU) ?_;have v0C:=G1 rE zU;refine G (Ga (g:=gX) isAgg57 sizeOf57 rfl v0C fun x0C eT=>(G (Gu (g:=gX) 2021 (⟨0,0,0⟩:Z3) zeroValue57 (fun m w=>⟨_,(Gg Zw (Gg Zw Zw)),rfl⟩) fun y0C y0J gH hs b15697 cb=>?_)));have hfr:=hfr.stp hs;have gG:=gG.stp hs;have iG:=iG.stp hs rfl;have dF:=dF.stp hs;have eF:=eF.stp hs;have rE:=rE.stp hs;have rF:=rF.stp hs rfl;have u19_0_15590:=u19_0_15590.stp hs rfl;have sF:=sF.stp hs rfl;have eT:=eT.stp hs;clear cb;refine G (Gk (g:=y0C) (v:=x0C) sizeOf57 rfl b15697 rfl eT fun jH z0J hs b15698 cb=>?_);clear cb;have hfr:=hfr.stp hs;have gG:=gG.stp hs;have iG:=iG.stp hs rfl;have dF:=dF.stp hs;have eF:=eF.stp hs;have rE:=rE.stp hs;have rF:=rF.stp hs rfl;have u19_0_15590:=u19_0_15590.stp hs rfl;have sF:=sF.stp hs rfl;refine O (Zq h (fun (s:Unit)=>xD gI wI fun e w g=>e 8=v8∧RV g.m w (zB.2:List Z5) v8∧e 9=oB∧OB 2009 g w 36 (uE:Gc) oB∧e 10=t5∧RV g.m w (y23.1:List Z3) t5∧e 13=l5∧RV g.m w ((lB.1:List Z3):List Z3) l5∧e 16=I (n8)∧e 17=aB∧RV g.m w (yB:List Z3) aB∧e 18=l8∧OB 2018 g w 53 (zE:Vector Int 3) l8∧e 19=o0∧OB 2019 g w 55 ((⟨List.toArray [[],[],[]],rfl⟩:Vector (List Z4) 3):Vector (List Z4) 3) o0∧VS 2019 61900 g w 61 55 ((⟨List.toArray [[],[],[]],rfl⟩:Vector (List Z4) 3):Vector (List Z4) 3) o0∧e 20=I (nB)∧e 21=gH∧OB 2021 g w 57 (n9:Z3) gH) (fun X15729 qW k0A h=>?_) ?_)
         ·obtain ⟨yH,hx,h⟩:=Z1 h
          refine Gn (xD gI wI fun e w g=>e 8=v8∧RV g.m w (zB.2:List Z5) v8∧e 9=oB∧OB 2009 g w 36 (uE:Gc) oB∧e 10=t5∧RV g.m w (y23.1:List Z3) t5∧e 13=l5∧RV g.m w ((lB.1:List Z3):List Z3) l5∧e 16=I (n8)∧e 17=aB∧RV g.m w (yB:List Z3) aB∧e 18=l8∧OB 2018 g w 53 (zE:Vector Int 3) l8∧e 19=o0∧OB 2019 g w 55 ((⟨List.toArray [[],[],[]],rfl⟩:Vector (List Z4) 3):Vector (List Z4) 3) o0∧VS 2019 61900 g w 61 55 ((⟨List.toArray [[],[],[]],rfl⟩:Vector (List Z4) 3):Vector (List Z4) 3) o0∧e 20=I (nB)∧e 21=gH∧OB 2021 g w 57 (n9:Z3) gH∧e 148=.bool yH) (fun Q' hQ=>?_) (fun k0H a0K hR=>?_)
          ·replace h:=hx
           clear hx;refine Za (Y (S gH 0) (aa Kw (OB.ptr b15698)) (G (Qd (g:=jH) T6.1 isAgg3 sizeOf3 rfl b15698 fun b0K z0C=>?_)));obtain rfl:=Zj.1 z0C;refine aQ jG (aT (.bool (n9.Order != nB)) rfl rfl rfl (M (.bool (n9.Order != nB)) ?_));rcases Zt h with ⟨sG,h⟩ | ⟨sG,h⟩
           ·refine Zz rfl rfl sG rfl rfl (Zz rfl rfl sG rfl rfl (Zz rfl rfl sG rfl rfl (Y (.bool true) (ae (b:=(n9.Order != nB)) (Tg sG rfl)) (Q5 15 rfl (Zb ?_)))))
            cases h;exact hQ _ _ ⟨jH,hfr,dK,gG,lK,iG,pI,dF,qI,eF,sI,mH,rE,jJ,rF,kJ,sF,u19_0_15590,jG,rfl,b15698,rfl⟩
           ·refine ag (S gH 1) (aa Jr (OB.ptr b15698)) rfl rfl sG (Ze (.yes2 rfl rfl sG) rfl (Qd (g:=jH) Wi.1 isAgg3 sizeOf3 rfl b15698 fun c0K a0D=>?_))
            obtain rfl:=Zj.1 a0D;refine ag (.bool (decide (n9.Loom<(0:Int)))) (Gp rfl rfl rfl) rfl rfl sG (Y (.bool (decide (n9.Loom<(0:Int)))) (ae (b:=(n9.Order != nB)) (Td sG rfl)) (M (.bool (decide (n9.Loom<(0:Int)))) ?_));rcases Zt h with ⟨xG,h⟩ | ⟨xG,h⟩
            ·refine Zz rfl rfl xG rfl rfl (Zz rfl rfl xG rfl rfl (Zz rfl rfl xG rfl rfl (Y (.bool true) (ae (b:=(decide (n9.Loom<(0:Int)))) (Tg xG rfl)) (Q5 10 rfl (Zb ?_)))))
             cases h;exact hQ _ _ ⟨jH,hfr,dK,gG,lK,iG,pI,dF,qI,eF,sI,mH,rE,jJ,rF,kJ,sF,u19_0_15590,jG,rfl,b15698,rfl⟩
            ·refine ag (S gH 1) (aa Jr (OB.ptr b15698)) rfl rfl xG (Ze (.yes2 rfl rfl xG) rfl (Qd (g:=jH) Wi.1 isAgg3 sizeOf3 rfl b15698 fun d0K b0D=>?_))
             obtain rfl:=Zj.1 b0D;refine ag (.bool (decide (n9.Loom>(2:Int)))) (Gp rfl rfl rfl) rfl rfl xG (Y (.bool (decide (n9.Loom>(2:Int)))) (ae (b:=(decide (n9.Loom<(0:Int)))) (Td xG rfl)) (M (.bool (decide (n9.Loom>(2:Int)))) ?_));rcases Zt h with ⟨yG,h⟩ | ⟨yG,h⟩
             ·refine Zz rfl rfl yG rfl rfl (Zz rfl rfl yG rfl rfl (Zz rfl rfl yG rfl rfl (Y (.bool true) (ae (b:=(decide (n9.Loom>(2:Int)))) (Tg yG rfl)) (Q5 5 rfl (Zb ?_)))))
              cases h;exact hQ _ _ ⟨jH,hfr,dK,gG,lK,iG,pI,dF,qI,eF,sI,mH,rE,jJ,rF,kJ,sF,u19_0_15590,jG,rfl,b15698,rfl⟩
             ·refine ag (S gH 2) (aa Ws (OB.ptr b15698)) rfl rfl yG (Ze (.yes2 rfl rfl yG) rfl (Qd (g:=jH) Ty.1 isAgg3 sizeOf3 rfl b15698 fun e0K c0D=>?_))
              obtain rfl:=Zj.1 c0D;refine ag (.bool (decide (n9.From<(0:Int)))) (Gp rfl rfl rfl) rfl rfl yG (Y (.bool (decide (n9.From<(0:Int)))) (ae (b:=(decide (n9.Loom>(2:Int)))) (Td yG rfl)) (M (.bool (decide (n9.From<(0:Int)))) ?_));rcases Zt h with ⟨zG,h⟩ | ⟨zG,h⟩
              ·refine Zz rfl rfl zG rfl rfl (Zz rfl rfl zG rfl rfl (Zz rfl rfl zG rfl rfl (Y (.bool true) (ae (b:=(decide (n9.From<(0:Int)))) (Tg zG rfl)) (Zb ?_))))
               cases h;exact hQ _ _ ⟨jH,hfr,dK,gG,lK,iG,pI,dF,qI,eF,sI,mH,rE,jJ,rF,kJ,sF,u19_0_15590,jG,rfl,b15698,rfl⟩
              ·refine ag (S gH 2) (aa Ws (OB.ptr b15698)) rfl rfl zG (Ze (.yes2 rfl rfl zG) rfl (Qd (g:=jH) Ty.1 isAgg3 sizeOf3 rfl b15698 fun g0K d0D=>?_))
               obtain rfl:=Zj.1 d0D;refine ag (.bool (decide (n9.From>(300:Int)))) (Gp rfl rfl rfl) rfl rfl zG (Y (.bool (decide (n9.From>(300:Int)))) (ae (b:=(decide (n9.From<(0:Int)))) (Td zG rfl)) (Zb ?_));cases h;exact hQ _ _ ⟨jH,hfr,dK,gG,lK,iG,pI,dF,qI,eF,sI,mH,rE,jJ,rF,kJ,sF,u19_0_15590,jG,rfl,b15698,rfl⟩
          ·clear hx
           obtain ⟨e0D,hfr,t06,u06,v06,x06,iX,jX,kX,lX,mX,nX,oX,pX,qX,rX,sX,u19_0_15758,tX,uX,vX,yN⟩:=hR;rcases Zt h with ⟨eO,h⟩ | ⟨eO,h⟩
           ·refine Ta (Eq.trans (show X _ _=.bool yH from yN) (congrArg Value.bool eO)) (Z (H (.bool false) (O (Gb (Gj (G6 (Gj (Gj (G6 (Gj (G6 (Gj (Gj (G6 (Gj ?_)))))))))))))))
            obtain rfl:=sinj h;exact ac rfl (rq (.bool false)) ⟨_,hfr,rfl⟩
           ·refine Gv (Eq.trans (show X _ _=.bool yH from yN) (congrArg Value.bool eO)) ?_
            exact Zu (Zd (k0A () _ _ ⟨e0D,hfr,t06,u06,v06,x06,iX,jX,kX,lX,mX,nX,oX,pX,qX,rX,sX,u19_0_15758,tX,uX,vX⟩ h))
         ·rintro _ l0H h0K ⟨g0D,hfr,lT,kH,y06,mK,xX,lJ,yX,mJ,zX,aY,nJ,oL,nH,bY,oJ,u19_0_15760,kP,cY,lP⟩ h
          refine We (x:=.tmp 149) Wi.1 isAgg3 sizeOf3 lP fun i0K h0D l0A=>?_;obtain rfl:=Zj.1 h0D;obtain ⟨lL,aV,h⟩:=Z1 h;obtain ⟨hi15764,he15764⟩:=H6 aV;refine Ap (off:=((n9.Loom:Int).toNat*1)) (x:=.tmp 151) (Gl.dyn hi15764).1 he15764 isAgg3 sizeOf3 nH fun j0K i0D m0A=>?_;obtain rfl:=Zj.1 i0D;obtain ⟨uK,bV,h⟩:=Z1 h;have dY:=G1 kH bV;have j0D:=Zm Qv.1 dY;refine Zs (x:=.tmp 156) isAgg3 sizeOf3 j0D fun k0K k0D n0A=>?_;obtain rfl:=Zj.1 k0D;obtain ⟨v0B,cV,h⟩:=Z1 h;obtain ⟨hi15771,he15771⟩:=H6 cV;refine ab (g:=g0D) (n:=12) [] [0,1,2,3,4,5,6,7,8,9,10,11] mixed trivial (V (S gH 1) rfl (Zc Jr cY (OB.ptr lP)) (G3 (c:=I n9.Loom) rfl rfl .plain xB l0A rfl (V (S l8 ((n9.Loom:Int).toNat*1)) rfl (G9 (α:=Int) underlying53 sizeOf3 oL (OB.ptr nH) rfl aV) (G3 (c:=I lL) rfl rfl .plain xB m0A rfl (V v8 rfl (Zk lT) (V (I nB) rfl (Zk kP) (V (Gy v8 nB 5) rfl (Zh (α:=Z5) underlying28 sizeOf59 rfl kH rfl bV) (V (S (Gy v8 nB 5) 2) rfl (aa Yd (PT.ptr dY)) (G3 (c:=I uK.Woven) rfl rfl .plain xC n0A rfl (V (I (w64 ((5:Int)*uK.Woven))) rfl (Gp rfl rfl rfl) (V (I (w64 (lL+(w64 ((5:Int)*uK.Woven))))) rfl (Gp rfl rfl rfl) (V (S l8 ((n9.Loom:Int).toNat*1)) rfl (G9 (α:=Int) underlying53 sizeOf3 oL (OB.ptr nH) rfl cV) (Ki fun l0D l0K hs=>?_)))))))))))));have hfr:=hfr.ext hs;have kH:=kH.ext hs;have mK:=mK.ext hs;have lJ:=lJ.ext hs;have mJ:=mJ.ext hs;have nJ:=nJ.ext hs;have nH:=nH.ext hs;have u19_0_15760:=u19_0_15760.ext hs;have oJ:=oJ.ext hs;clear hs;refine G (Wc (g:=l0D) (Gl.dyn hi15771) sizeOf3 rfl nH rfl (Zj.2 rfl) fun m0D m0K hs b15795 rst hos=>?_);clear rst hos;have hfr:=hfr.stp hs;have kH:=kH.stp hs;have mK:=mK.stp hs rfl;have lJ:=lJ.stp hs;have mJ:=mJ.stp hs;have nJ:=nJ.stp hs;have u19_0_15760:=u19_0_15760.stp hs rfl;have oJ:=oJ.stp hs rfl;exact Zb (Te (Zd (j0A (Ja zE n9.Loom (w64 (lL+(w64 ((5:Int)*uK.Woven))))) _ _ ⟨m0D,hfr,lT,kH,y06,mK,xX,lJ,yX,mJ,zX,aY,nJ,oL,b15795,bY,oJ,u19_0_15760,kP⟩ h)))
        ·rintro jL m0H n0K ⟨n0D,hfr,z06,a07,b07,c07,eY,gY,iY,jY,kY,mY,nY,oY,pY,qY,uY,u19_0_15796,vY⟩ h
         refine Za (aQ vY (aT (I (w64 (nB+(1:Int)))) rfl rfl rfl (H (I (w64 (nB+(1:Int)))) ?_)));exact O (h0A (jL,(w64 (nB+(1:Int)))) _ _ ⟨n0D,hfr,z06,a07,b07,c07,eY,gY,iY,jY,kY,mY,nY,oY,pY,qY,uY,u19_0_15796,rfl⟩ h)
      ·rintro mB n0H o0K ⟨o0D,hfr,d07,e07,g07,h07,xY,yY,zY,aZ,bZ,cZ,dZ,mZ,nZ,oZ,pZ,u19_0_15797⟩ h
       obtain ⟨aE,hx,h⟩:=Z1 h;refine Gn (xD gI wI fun e w g=>e 8=v8∧RV g.m w (zB.2:List Z5) v8∧e 9=oB∧OB 2009 g w 36 (uE:Gc) oB∧e 10=t5∧RV g.m w (y23.1:List Z3) t5∧e 13=l5∧RV g.m w ((lB.1:List Z3):List Z3) l5∧e 16=I (n8)∧e 18=l8∧OB 2018 g w 53 (mB:Vector Int 3) l8∧e 19=o0∧OB 2019 g w 55 (aE:Vector (List Z4) 3) o0∧VS 2019 61900 g w 61 55 (aE:Vector (List Z4) 3) o0) (fun Q' hQ=>?_) (fun o0H p0K hR=>?_)
       ·replace h:=hx
        clear hx;refine Z (H (I 0) (O (Zr (Qz h (fun (s:(Vector (List Z4) 3) × Int) e w=>∃ (g:Gh) ,Fr gI wI g w∧e 8=v8∧RV g.m w (zB.2:List Z5) v8∧e 9=oB∧OB 2009 g w 36 (uE:Gc) oB∧e 10=t5∧RV g.m w (y23.1:List Z3) t5∧e 13=l5∧RV g.m w ((lB.1:List Z3):List Z3) l5∧e 16=I (n8)∧e 17=aB∧RV g.m w (yB:List Z3) aB∧e 18=l8∧OB 2018 g w 53 (mB:Vector Int 3) l8∧e 19=o0∧OB 2019 g w 55 (s.1:Vector (List Z4) 3) o0∧VS 2019 61900 g w 61 55 (s.1:Vector (List Z4) 3) o0∧e 22=I s.2) ⟨o0D,hfr,d07,e07,g07,h07,xY,yY,zY,aZ,bZ,cZ,dZ,mZ,nZ,oZ,pZ,u19_0_15797,rfl⟩ (fun X18047 rV o0A=>?_)))));rintro ⟨iI,i6⟩ p0H q0K ⟨qZ,hfr,mT,nT,oT,pT,mP,nP,oP,pP,sP,rZ,sZ,tP,uP,vP,xP,u19_0_18048,yP⟩ h;refine Zq h (fun (s:Unit)=>xD gI wI fun e w g=>e 8=v8∧RV g.m w (zB.2:List Z5) v8∧e 9=oB∧OB 2009 g w 36 (uE:Gc) oB∧e 10=t5∧RV g.m w (y23.1:List Z3) t5∧e 13=l5∧RV g.m w ((lB.1:List Z3):List Z3) l5∧e 16=I (n8)∧e 17=aB∧RV g.m w (yB:List Z3) aB∧e 18=l8∧OB 2018 g w 53 (mB:Vector Int 3) l8∧e 19=o0∧OB 2019 g w 55 (iI:Vector (List Z4) 3) o0∧VS 2019 61900 g w 61 55 (iI:Vector (List Z4) 3) o0∧e 22=I i6) (fun X18050 zV p0A h=>?_) ?_
        ·refine Z (aQ yP (aT (.bool (decide (i6<(3:Int)))) rfl rfl rfl (O ?_)))
         rcases Zt h with ⟨gO,h⟩ | ⟨gO,h⟩
         ·refine Gz gO rfl ?_
          exact Zu (Zd (p0A () _ _ ⟨qZ,hfr,mT,nT,oT,pT,mP,nP,oP,pP,sP,rZ,sZ,tP,uP,vP,xP,u19_0_18048,yP⟩ h))
         ·refine G0 gO rfl (Th (Gr (Gr (G2 ?_))))
          cases h;exact hQ _ _ ⟨qZ,hfr,mT,nT,oT,pT,mP,nP,oP,pP,sP,tP,uP,vP,xP,u19_0_18048⟩
        ·rintro _ q0H r0K ⟨p0D,hfr,i07,j07,k07,l07,tZ,uZ,vZ,xZ,yZ,zZ,a00,b00,c00,d00,g00,u19_0_18052,h00⟩ h
         obtain ⟨mI,hx,h⟩:=Z1 h;refine Gn (xD gI wI fun e w g=>e 8=v8∧RV g.m w (zB.2:List Z5) v8∧e 9=oB∧OB 2009 g w 36 (uE:Gc) oB∧e 10=t5∧RV g.m w (y23.1:List Z3) t5∧e 13=l5∧RV g.m w ((lB.1:List Z3):List Z3) l5∧e 16=I (n8)∧e 17=aB∧RV g.m w (yB:List Z3) aB∧e 18=l8∧OB 2018 g w 53 (mB:Vector Int 3) l8∧e 19=o0∧OB 2019 g w 55 (mI:Vector (List Z4) 3) o0∧VS 2019 61900 g w 61 55 (mI:Vector (List Z4) 3) o0∧e 22=I i6) (fun Q' hQ=>?_) (fun r0H s0K hR=>?_)
         ·replace h:=hx
          clear hx;refine Zr (Z (H (I 0) (O (Zr (Qz h (fun (s:(Vector (List Z4) 3) × Int) e w=>∃ (g:Gh) ,Fr gI wI g w∧e 8=v8∧RV g.m w (zB.2:List Z5) v8∧e 9=oB∧OB 2009 g w 36 (uE:Gc) oB∧e 10=t5∧RV g.m w (y23.1:List Z3) t5∧e 13=l5∧RV g.m w ((lB.1:List Z3):List Z3) l5∧e 16=I (n8)∧e 17=aB∧RV g.m w (yB:List Z3) aB∧e 18=l8∧OB 2018 g w 53 (mB:Vector Int 3) l8∧e 19=o0∧OB 2019 g w 55 (s.1:Vector (List Z4) 3) o0∧VS 2019 61900 g w 61 55 (s.1:Vector (List Z4) 3) o0∧e 22=I (i6)∧e 23=I s.2) ⟨p0D,hfr,i07,j07,k07,l07,tZ,uZ,vZ,xZ,yZ,zZ,a00,b00,c00,d00,g00,u19_0_18052,h00,rfl⟩ (fun X19174 sV q0A=>?_))))));rintro ⟨jI,l9⟩ s0H t0K ⟨i00,hfr,sT,tT,uT,xT,zP,bQ,cQ,dQ,eQ,gQ,iQ,jQ,kQ,lQ,mQ,u19_0_19175,nQ,oQ⟩ h;refine Zq h (fun (s:Unit)=>xD gI wI fun e w g=>e 8=v8∧RV g.m w (zB.2:List Z5) v8∧e 9=oB∧OB 2009 g w 36 (uE:Gc) oB∧e 10=t5∧RV g.m w (y23.1:List Z3) t5∧e 13=l5∧RV g.m w ((lB.1:List Z3):List Z3) l5∧e 16=I (n8)∧e 17=aB∧RV g.m w (yB:List Z3) aB∧e 18=l8∧OB 2018 g w 53 (mB:Vector Int 3) l8∧e 19=o0∧OB 2019 g w 55 (jI:Vector (List Z4) 3) o0∧VS 2019 61900 g w 61 55 (jI:Vector (List Z4) 3) o0∧e 22=I (i6)∧e 23=I l9) (fun X19177 yV r0A h=>?_) ?_
          ·refine Z (aQ oQ (aT (.bool (decide (l9≤(400:Int)))) rfl rfl rfl (O ?_)))
           rcases Zt h with ⟨jO,h⟩ | ⟨jO,h⟩
           ·refine Gz jO rfl ?_
            exact Zu (Zd (r0A () _ _ ⟨i00,hfr,sT,tT,uT,xT,zP,bQ,cQ,dQ,eQ,gQ,iQ,jQ,kQ,lQ,mQ,u19_0_19175,nQ,oQ⟩ h))
           ·refine G0 jO rfl (Th (Gr (Gr (G2 (Te ?_)))))
            cases h;exact hQ _ _ ⟨i00,hfr,sT,tT,uT,xT,zP,bQ,cQ,dQ,eQ,gQ,iQ,jQ,kQ,lQ,mQ,u19_0_19175,nQ⟩
          ·rintro _ t0H u0K ⟨q0D,hfr,m07,n07,o07,p07,j00,k00,l00,m00,n00,o00,p00,q00,r00,s00,t00,u19_0_19179,u00,v00⟩ h
           obtain ⟨lI,hx,h⟩:=Z1 h;refine Gn (xD gI wI fun e w g=>e 8=v8∧RV g.m w (zB.2:List Z5) v8∧e 9=oB∧OB 2009 g w 36 (uE:Gc) oB∧e 10=t5∧RV g.m w (y23.1:List Z3) t5∧e 13=l5∧RV g.m w ((lB.1:List Z3):List Z3) l5∧e 16=I (n8)∧e 17=aB∧RV g.m w (yB:List Z3) aB∧e 18=l8∧OB 2018 g w 53 (mB:Vector Int 3) l8∧e 19=o0∧OB 2019 g w 55 (lI:Vector (List Z4) 3) o0∧VS 2019 61900 g w 61 55 (lI:Vector (List Z4) 3) o0∧e 22=I (i6)∧e 23=I l9) (fun Q' hQ=>?_) (fun u0H v0K hR=>?_)
           ·replace h:=hx
            clear hx;refine Zr (Z (H (I 0) (O (Zr (Qz h (fun (s:(Vector (List Z4) 3) × Int) e w=>∃ (g:Gh) ,Fr gI wI g w∧e 8=v8∧RV g.m w (zB.2:List Z5) v8∧e 9=oB∧OB 2009 g w 36 (uE:Gc) oB∧e 10=t5∧RV g.m w (y23.1:List Z3) t5∧e 13=l5∧RV g.m w ((lB.1:List Z3):List Z3) l5∧e 16=I (n8)∧e 17=aB∧RV g.m w (yB:List Z3) aB∧e 18=l8∧OB 2018 g w 53 (mB:Vector Int 3) l8∧e 19=o0∧OB 2019 g w 55 (s.1:Vector (List Z4) 3) o0∧VS 2019 61900 g w 61 55 (s.1:Vector (List Z4) 3) o0∧e 22=I (i6)∧e 23=I (l9)∧e 24=I s.2) ⟨q0D,hfr,m07,n07,o07,p07,j00,k00,l00,m00,n00,o00,p00,q00,r00,s00,t00,u19_0_19179,u00,v00,rfl⟩ (fun X19737 tV s0A=>?_))))));rintro ⟨yE,cC⟩ v0H x0K ⟨x00,hfr,yT,zT,aU,bU,pQ,qQ,rQ,sQ,tQ,xL,yL,uQ,vQ,xQ,yQ,u19_0_19738,zQ,aR,bR⟩ h;refine Zq h (fun (s:Unit)=>xD gI wI fun e w g=>e 8=v8∧RV g.m w (zB.2:List Z5) v8∧e 9=oB∧OB 2009 g w 36 (uE:Gc) oB∧e 10=t5∧RV g.m w (y23.1:List Z3) t5∧e 13=l5∧RV g.m w ((lB.1:List Z3):List Z3) l5∧e 16=I (n8)∧e 17=aB∧RV g.m w (yB:List Z3) aB∧e 18=l8∧OB 2018 g w 53 (mB:Vector Int 3) l8∧e 19=o0∧OB 2019 g w 55 (yE:Vector (List Z4) 3) o0∧VS 2019 61900 g w 61 55 (yE:Vector (List Z4) 3) o0∧e 22=I (i6)∧e 23=I (l9)∧e 24=I cC) (fun X19740 xV t0A h=>?_) ?_
            ·refine Z (aQ bR (aQ xL (Y (I (yB.length:Int)) (G7 underlying38 rfl yL) (aT (.bool (decide (cC<(yB.length:Int)))) rfl rfl rfl (O ?_)))))
             rcases Zt h with ⟨kO,h⟩ | ⟨kO,h⟩
             ·refine Gz kO rfl ?_
              exact Zu (Zd (t0A () _ _ ⟨x00,hfr,yT,zT,aU,bU,pQ,qQ,rQ,sQ,tQ,xL,yL,uQ,vQ,xQ,yQ,u19_0_19738,zQ,aR,bR⟩ h))
             ·refine G0 kO rfl (Th (Gr (Gr (G2 (Te ?_)))))
              cases h;exact hQ _ _ ⟨x00,hfr,yT,zT,aU,bU,pQ,qQ,rQ,sQ,tQ,xL,yL,uQ,vQ,xQ,yQ,u19_0_19738,zQ,aR⟩
            ·rintro _ x0H y0K ⟨y00,hfr,dL,lD,kN,iE,zL,nD,aM,oD,bM,qK,bD,cM,yD,dM,zD,u19_0_19742,oH,pH,pJ⟩ h
             obtain ⟨kI,hx,h⟩:=Z1 h;refine Gn (xD gI wI fun e w g=>e 8=v8∧RV g.m w (zB.2:List Z5) v8∧e 9=oB∧OB 2009 g w 36 (uE:Gc) oB∧e 10=t5∧RV g.m w (y23.1:List Z3) t5∧e 13=l5∧RV g.m w ((lB.1:List Z3):List Z3) l5∧e 16=I (n8)∧e 17=aB∧RV g.m w (yB:List Z3) aB∧e 18=l8∧OB 2018 g w 53 (mB:Vector Int 3) l8∧e 19=o0∧OB 2019 g w 55 (kI:Vector (List Z4) 3) o0∧VS 2019 61900 g w 61 55 (kI:Vector (List Z4) 3) o0∧e 22=I (i6)∧e 23=I (l9)∧e 24=I cC) (fun Q' hQ=>?_) (fun y0H z0K hR=>?_)
             ·replace h:=hx
              clear hx;refine Zr (Z (aQ qK (aQ pJ ?_)));obtain ⟨vB,dV,h⟩:=Z1 h;refine Y (Gy aB cC 3) (Zh (α:=Z3) underlying38 sizeOf57 rfl bD rfl dV) ?_;have r0D:=G1 bD dV;refine G (Ga (g:=y00) isAgg57 sizeOf57 rfl r0D fun s0D cU=>(G (Gu (g:=y00) 2025 (⟨0,0,0⟩:Z3) zeroValue57 (fun m w=>⟨_,(Gg Zw (Gg Zw Zw)),rfl⟩) fun t0D a0L xK hs b20021 cb=>?_)));have hfr:=hfr.stp hs;have lD:=lD.stp hs;have iE:=iE.stp hs rfl;have nD:=nD.stp hs;have oD:=oD.stp hs;have bD:=bD.stp hs;have yD:=yD.stp hs rfl;have u19_0_19742:=u19_0_19742.stp hs rfl;have zD:=zD.stp hs rfl;have cU:=cU.stp hs;clear cb;refine G (Gk (g:=t0D) (v:=s0D) sizeOf57 rfl b20021 rfl cU fun dU b0L hs b20022 cb=>?_);clear cb;have hfr:=hfr.stp hs;have lD:=lD.stp hs;have iE:=iE.stp hs rfl;have nD:=nD.stp hs;have oD:=oD.stp hs;have bD:=bD.stp hs;have yD:=yD.stp hs rfl;have u19_0_19742:=u19_0_19742.stp hs rfl;have zD:=zD.stp hs rfl;refine O ?_;obtain ⟨uH,hx,h⟩:=Z1 h;refine Gn (xD gI wI fun e w g=>e 8=v8∧RV g.m w (zB.2:List Z5) v8∧e 9=oB∧OB 2009 g w 36 (uE:Gc) oB∧e 10=t5∧RV g.m w (y23.1:List Z3) t5∧e 13=l5∧RV g.m w ((lB.1:List Z3):List Z3) l5∧e 16=I (n8)∧e 17=aB∧RV g.m w (yB:List Z3) aB∧e 18=l8∧OB 2018 g w 53 (mB:Vector Int 3) l8∧e 19=o0∧OB 2019 g w 55 (yE:Vector (List Z4) 3) o0∧VS 2019 61900 g w 61 55 (yE:Vector (List Z4) 3) o0∧e 22=I (i6)∧e 23=I (l9)∧e 24=I (cC)∧e 200=.bool uH) (fun Q' hQ=>?_) (fun z0H u0D hR=>?_)
              ·replace h:=hx
               clear hx;refine We (x:=.tmp 179) Wi.1 isAgg3 sizeOf3 b20022 fun c0L v0D lO=>?_;obtain rfl:=Zj.1 v0D;rcases Zt h with ⟨cF,h⟩ | ⟨cF,h⟩
               ·refine We (x:=.tmp 185) Ty.1 isAgg3 sizeOf3 b20022 fun d0L x0D eV=>?_
                obtain rfl:=Zj.1 x0D;rcases Zt h with ⟨vE,h⟩ | ⟨vE,h⟩
                ·refine We (x:=.tmp 191) Ty.1 isAgg3 sizeOf3 b20022 fun e0L y0D u0A=>?_
                 obtain rfl:=Zj.1 y0D;obtain ⟨tK,gV,h⟩:=Z1 h;have z00:=G1 lD gV;have z0D:=Zm Qv.1 z00;refine Zs (x:=.tmp 196) isAgg3 sizeOf3 z0D fun g0L a0E v0A=>?_;obtain rfl:=Zj.1 a0E;refine ab (g:=dU) (n:=22) [] [0,1,2,3,4,5,6,7,8,9,10,11,12,13,14,15,16,17,18,19,20,21] mixed trivial (V (S xK 1) rfl (aa Jr (OB.ptr b20022)) (G3 (c:=I vB.Loom) rfl rfl .plain xB lO rfl (V (I i6) rfl (Zk oH) (V (.bool (vB.Loom==i6)) rfl (Gp rfl rfl rfl) (V (.bool (vB.Loom==i6)) rfl (ai) (L_y (I l9) rfl rfl rfl rfl cF (Zk pH) (L_y (S xK 2) rfl rfl rfl rfl cF (aa Ws (OB.ptr b20022)) (G3 (c:=I vB.From) rfl rfl (.yes2 rfl rfl cF) xB eV rfl (L_y (.bool (decide (l9≥vB.From))) rfl rfl rfl rfl cF (Gp rfl rfl rfl) (V (.bool (decide (l9≥vB.From))) rfl (ae (b:=(vB.Loom==i6)) (Tg cF rfl)) (V (.bool (decide (l9≥vB.From))) rfl (ai) (L_y (I l9) rfl rfl rfl rfl vE (Zk pH) (L_y (S xK 2) rfl rfl rfl rfl vE (aa Ws (OB.ptr b20022)) (G3 (c:=I vB.From) rfl rfl (.yes2 rfl rfl vE) xB u0A rfl (L_y v8 rfl rfl rfl rfl vE (Zk dL) (L_y (I cC) rfl rfl rfl rfl vE (Zk pJ) ?_))))))))))))))));refine L_y (Gy v8 cC 5) rfl rfl rfl rfl vE (Zh (α:=Z5) underlying28 sizeOf59 rfl lD rfl gV) (L_y (S (Gy v8 cC 5) 2) rfl rfl rfl rfl vE (aa Yd (PT.ptr z00)) (G3 (c:=I tK.Woven) rfl rfl (.yes2 rfl rfl vE) (fun _ _ h=>h.ch) v0A rfl (L_y (I (w64 (vB.From+tK.Woven))) rfl rfl rfl rfl vE (Gp rfl rfl rfl) (L_y (.bool (decide (l9<(w64 (vB.From+tK.Woven))))) rfl rfl rfl rfl vE (Gp rfl rfl rfl) (V (.bool (decide (l9<(w64 (vB.From+tK.Woven))))) rfl (ae (b:=(decide (l9≥vB.From))) (Tg vE rfl)) (Ki fun b0E h0L hs=>?_))))));have hfr:=hfr.ext hs;have lD:=lD.ext hs;have iE:=iE.ext hs;have nD:=nD.ext hs;have oD:=oD.ext hs;have bD:=bD.ext hs;have yD:=yD.ext hs;have u19_0_19742:=u19_0_19742.ext hs;have zD:=zD.ext hs;clear hs;refine Zb ?_;cases h;exact hQ _ _ ⟨b0E,hfr,dL,lD,kN,iE,zL,nD,aM,oD,bM,qK,bD,cM,yD,dM,zD,u19_0_19742,oH,pH,pJ,rfl⟩
                ·refine ab (g:=dU) (n:=22) [] [0,1,2,3,4,5,6,7,8,9,10,11,12,13,14,15,16,17,18,19,20,21] mixed trivial (V (S xK 1) rfl (aa Jr (OB.ptr b20022)) (G3 (c:=I vB.Loom) rfl rfl .plain xB lO rfl (V (I i6) rfl (Zk oH) (V (.bool (vB.Loom==i6)) rfl (Gp rfl rfl rfl) (V (.bool (vB.Loom==i6)) rfl (ai) (L_y (I l9) rfl rfl rfl rfl cF (Zk pH) (L_y (S xK 2) rfl rfl rfl rfl cF (aa Ws (OB.ptr b20022)) (G3 (c:=I vB.From) rfl rfl (.yes2 rfl rfl cF) xB eV rfl (L_y (.bool (decide (l9≥vB.From))) rfl rfl rfl rfl cF (Gp rfl rfl rfl) (V (.bool (decide (l9≥vB.From))) rfl (ae (b:=(vB.Loom==i6)) (Tg cF rfl)) (V (.bool (decide (l9≥vB.From))) rfl (ai) ?_)))))))))))
                 iterate 10 refine L_s rfl rfl rfl vE rfl ?_
                 refine V (.bool false) rfl (ae (b:=(decide (l9≥vB.From))) (Td vE rfl)) (Ki fun c0E i0L hs=>?_);have hfr:=hfr.ext hs;have lD:=lD.ext hs;have iE:=iE.ext hs;have nD:=nD.ext hs;have oD:=oD.ext hs;have bD:=bD.ext hs;have yD:=yD.ext hs;have u19_0_19742:=u19_0_19742.ext hs;have zD:=zD.ext hs;clear hs;refine Zb ?_;cases h;exact hQ _ _ ⟨c0E,hfr,dL,lD,kN,iE,zL,nD,aM,oD,bM,qK,bD,cM,yD,dM,zD,u19_0_19742,oH,pH,pJ,rfl⟩
               ·refine ab (g:=dU) (n:=22) [] [0,1,2,3,4,5,6,7,8,9,10,11,12,13,14,15,16,17,18,19,20,21] mixed trivial (V (S xK 1) rfl (aa Jr (OB.ptr b20022)) (G3 (c:=I vB.Loom) rfl rfl .plain xB lO rfl (V (I i6) rfl (Zk oH) (V (.bool (vB.Loom==i6)) rfl (Gp rfl rfl rfl) (V (.bool (vB.Loom==i6)) rfl (ai) ?_)))))
                iterate 4 refine L_s rfl rfl rfl cF rfl ?_
                refine V (.bool false) rfl (ae (b:=(vB.Loom==i6)) (Td cF rfl)) (Mn (fun _=>rfl) 12 rfl (Ki fun d0E j0L hs=>?_));have hfr:=hfr.ext hs;have lD:=lD.ext hs;have iE:=iE.ext hs;have nD:=nD.ext hs;have oD:=oD.ext hs;have bD:=bD.ext hs;have yD:=yD.ext hs;have u19_0_19742:=u19_0_19742.ext hs;have zD:=zD.ext hs;clear hs;refine Zb ?_;cases h;exact hQ _ _ ⟨d0E,hfr,dL,lD,kN,iE,zL,nD,aM,oD,bM,qK,bD,cM,yD,dM,zD,u19_0_19742,oH,pH,pJ,rfl⟩
              ·clear hx
               obtain ⟨zN,hfr,eU,kG,gU,lG,dR,xF,eR,yF,gR,iR,aG,jR,bG,sK,tF,u19_0_20281,qJ,eM,lR,aO⟩:=hR;rcases Zt h with ⟨mO,h⟩ | ⟨mO,h⟩
               ·refine Ta (Eq.trans (show X _ _=.bool uH from aO) (congrArg Value.bool mO)) (Za (aQ qJ (aQ qJ ?_)))
                obtain ⟨uV,iV,h⟩:=Z1 h;obtain ⟨hi20284,he20284⟩:=H6 iV;refine Y (S o0 ((i6:Int).toNat*1)) (G9 (α:=List Z4) underlying55 sizeOf54 sK (OB.ptr tF) rfl iV) (G (D_loadVS (g:=zN) hi20284 he20284 isAgg54 rfl tF u19_0_20281 fun a0I k0L f20285 x0A o20285 iU=>(aQ eM (aQ qJ ?_))));have a01:RV zN.m u0D (⟨l9,i6,0,0,(5:Int)⟩:Z4) (.agg (Tk [[I 0],[I 0],[I 0],[I 0],[I 0]] [(0,I l9),(1,I i6),(4,I 5)]).flatten.toArray):=Ti rfl (Gs rfl (Gs rfl (Gs Zw (Gs Zw (To rfl)))));generalize y0A:(Value.agg (Tk [[I 0],[I 0],[I 0],[I 0],[I 0]] [(0,I l9),(1,I i6),(4,I 5)]).flatten.toArray)=b01 at a01;refine Y b01 (y0A▸T3 (vs:=[(0,I l9),(1,I i6),(4,I 5)]) [[I 0],[I 0],[I 0],[I 0],[I 0]] M5 rfl rfl (.cons rfl (.cons rfl (.cons rfl .nil))) ⟨⟨_,rfl,rfl⟩,⟨⟨_,rfl,rfl⟩,⟨⟨_,rfl,rfl⟩,trivial⟩⟩⟩) (G (Gd (g:=zN) 3208 (xs:=([(⟨l9,i6,0,0,(5:Int)⟩:Z4)]:List Z4)) (vs:=[b01]) underlying54 sizeOf61 zeroValue61 rfl rfl (.cons rfl .nil) (RVs.cons a01 RVs.nil) rfl rfl fun e0E l0L m0L hs o20287 g0E hxt hfl=>?_));have hfr:=hfr.stp hs;have kG:=kG.stp hs;have lG:=lG.stp hs rfl;have xF:=xF.stp hs;have yF:=yF.stp hs;have aG:=aG.stp hs;have bG:=bG.stp hs rfl;have tF:=tF.stp hs rfl;have iU:=iU.stp hs;have f20285:=f20285.stp hs rfl;have o20285:=o20285.stp hs rfl;obtain ⟨vV,z0A,h⟩:=Z1 h;refine G (Mm (g:=e0E) hi20284 he20284 underlying54 S4 rfl rfl f20285 x0A o20285 iU rfl g0E z0A rfl fun h0E n0L o0L hs o20288 i0E f20288_ ha20288=>?_);have hfr:=hfr.stp hs;have kG:=kG.stp hs;have lG:=lG.stp hs rfl;have xF:=xF.stp hs;have yF:=yF.stp hs;have aG:=aG.stp hs;have bG:=bG.stp hs rfl;have tF:=tF.stp hs rfl;obtain ⟨u0B,jV,h⟩:=Z1 h;obtain ⟨hi20291,he20291⟩:=H6 jV;refine Y (S o0 ((i6:Int).toNat*1)) (G9 (α:=List Z4) underlying55 sizeOf54 sK (OB.ptr tF) rfl jV) (G (Ie (g:=h0E) hi20291 sizeOf54 rfl tF rfl i0E o20288 f20288_ ha20288 rfl fun j0E p0L hs b20292 q07=>?_));have hfr:=hfr.stp hs;have kG:=kG.stp hs;have lG:=lG.stp hs rfl;have xF:=xF.stp hs;have yF:=yF.stp hs;have aG:=aG.stp hs;have bG:=bG.stp hs rfl;refine Zb (Te ?_);cases h;exact hQ _ _ ⟨j0E,hfr,eU,kG,gU,lG,dR,xF,eR,yF,gR,iR,aG,jR,bG,sK,b20292,q07,qJ,eM,lR⟩
               ·refine Gv (Eq.trans (show X _ _=.bool uH from aO) (congrArg Value.bool mO)) (Zu (Te ?_))
                cases h;exact hQ _ _ ⟨zN,hfr,eU,kG,gU,lG,dR,xF,eR,yF,gR,iR,aG,jR,bG,sK,tF,u19_0_20281,qJ,eM,lR⟩
             ·clear hx
              obtain ⟨k0E,hfr,r07,s07,t07,u07,c01,d01,e01,g01,h01,i01,j01,k01,l01,m01,n01,u19_0_20293,o01,p01,q01⟩:=hR;refine Za (aQ q01 (aT (I (w64 (cC+(1:Int)))) rfl rfl rfl (H (I (w64 (cC+(1:Int)))) ?_)));exact O (s0A (kI,(w64 (cC+(1:Int)))) _ _ ⟨k0E,hfr,r07,s07,t07,u07,c01,d01,e01,g01,h01,i01,j01,k01,l01,m01,n01,u19_0_20293,o01,p01,rfl⟩ h)
           ·clear hx
            obtain ⟨l0E,hfr,v07,x07,y07,z07,r01,s01,t01,u01,v01,x01,y01,z01,a02,b02,c02,u19_0_20294,d02,e02⟩:=hR;refine Za (aQ e02 (aT (I (w64 (l9+(1:Int)))) rfl rfl rfl (H (I (w64 (l9+(1:Int)))) ?_)));exact O (q0A (lI,(w64 (l9+(1:Int)))) _ _ ⟨l0E,hfr,v07,x07,y07,z07,r01,s01,t01,u01,v01,x01,y01,z01,a02,b02,c02,u19_0_20294,d02,rfl⟩ h)
         ·clear hx
          obtain ⟨m0E,hfr,a08,b08,c08,d08,g02,h02,i02,j02,k02,l02,m02,n02,o02,p02,q02,u19_0_20295,r02⟩:=hR;refine Za (aQ r02 (aT (I (w64 (i6+(1:Int)))) rfl rfl rfl (H (I (w64 (i6+(1:Int)))) ?_)));exact O (o0A (mI,(w64 (i6+(1:Int)))) _ _ ⟨m0E,hfr,a08,b08,c08,d08,g02,h02,i02,j02,k02,l02,m02,n02,o02,p02,q02,u19_0_20295,rfl⟩ h)
       ·clear hx
        obtain ⟨n0E,hfr,e08,lN,g08,mN,s02,iM,t02,jM,u02,v02,kM,x02,pM,u19_0_20296⟩:=hR;refine Z (G (Gd (g:=n0E) 3211 (xs:=([]:List (List UInt8))) (vs:=[]) underlying62 sizeOf63 zeroValue63 rfl rfl .nil RVs.nil rfl rfl fun o0E q0L y02 hs o20297 p0E hxt hfl=>?_));have hfr:=hfr.stp hs;have lN:=lN.stp hs;have mN:=mN.stp hs rfl;have iM:=iM.stp hs;have jM:=jM.stp hs;have kM:=kM.stp hs rfl;have u19_0_20296:=u19_0_20296.stp hs rfl;have pM:=pM.stp hs rfl;refine H y02 (O (Zq h (fun (s:(List (List UInt8))) e w=>∃ (g:Gh) (eL:Value),Fr gI wI g w∧e 8=v8∧RV g.m w (zB.2:List Z5) v8∧e 9=oB∧OB 2009 g w 36 (uE:Gc) oB∧e 10=t5∧RV g.m w (y23.1:List Z3) t5∧e 13=l5∧RV g.m w ((lB.1:List Z3):List Z3) l5∧e 16=I (n8)∧e 18=l8∧OB 2018 g w 53 (mB:Vector Int 3) l8∧e 26=eL∧RV g.m w (s:List (List UInt8)) eL∧OS 3211 g w 63 (s:List (List UInt8)) eL) (fun X20330 gW a0B h=>?_) ?_))
        ·refine Z (H (I 0) (O (Zr (Qz h (fun (s:(List (List UInt8)) × Int) e w=>∃ (g:Gh) (eL:Value),Fr gI wI g w∧e 8=v8∧RV g.m w (zB.2:List Z5) v8∧e 9=oB∧OB 2009 g w 36 (uE:Gc) oB∧e 10=t5∧RV g.m w (y23.1:List Z3) t5∧e 13=l5∧RV g.m w ((lB.1:List Z3):List Z3) l5∧e 16=I n8∧e 18=l8∧OB 2018 g w 53 (mB:Vector Int 3) l8∧e 19=o0∧OB 2019 g w 55 (aE:Vector (List Z4) 3) o0∧VS 2019 61900 g w 61 55 (aE:Vector (List Z4) 3) o0∧e 26=eL∧RV g.m w (s.1:List (List UInt8)) eL∧OS 3211 g w 63 (s.1:List (List UInt8)) eL∧e 27=I s.2) ⟨o0E,y02,hfr,e08,lN,g08,mN,s02,iM,t02,jM,u02,v02,kM,x02,pM,u19_0_20296,rfl,p0E,o20297,rfl⟩ (fun X20331 iW b0B=>?_)))))
         rintro ⟨vF,bE⟩ b0I r0L ⟨z02,mG,hfr,jU,kU,lU,mU,mR,nR,oR,pR,qR,rR,tR,a03,b03,u19_0_20332,uR,vR,xR,yR⟩ h;refine Zq h (fun (s:Unit)=>xD gI wI fun e w g=>e 8=v8∧RV g.m w (zB.2:List Z5) v8∧e 9=oB∧OB 2009 g w 36 (uE:Gc) oB∧e 10=t5∧RV g.m w (y23.1:List Z3) t5∧e 13=l5∧RV g.m w ((lB.1:List Z3):List Z3) l5∧e 16=I (n8)∧e 18=l8∧OB 2018 g w 53 (mB:Vector Int 3) l8∧e 19=o0∧OB 2019 g w 55 (aE:Vector (List Z4) 3) o0∧VS 2019 61900 g w 61 55 (aE:Vector (List Z4) 3) o0∧e 26=mG∧RV g.m w (vF:List (List UInt8)) mG∧OS 3211 g w 63 (vF:List (List UInt8)) mG∧e 27=I bE) (fun X20334 mW c0B h=>?_) ?_
         ·refine Z (aQ yR (aT (.bool (decide (bE<(3:Int)))) rfl rfl rfl (O ?_)))
          rcases Zt h with ⟨nO,h⟩ | ⟨nO,h⟩
          ·refine Gz nO rfl ?_
           exact Zu (Zd (c0B () _ _ ⟨z02,hfr,jU,kU,lU,mU,mR,nR,oR,pR,qR,rR,tR,a03,b03,u19_0_20332,uR,vR,xR,yR⟩ h))
          ·refine G0 nO rfl (Th (Gr (Gr (G2 ?_))))
           exact Zd (a0B vF _ _ ⟨z02,mG,hfr,jU,kU,lU,mU,mR,nR,oR,pR,qR,rR,tR,uR,vR,xR⟩ h)
         ·rintro _ c0I s0L ⟨c03,hfr,h08,nN,i08,oN,d03,qM,e03,rM,g03,h03,sM,zR,rJ,u19_0_20336,i03,tM,uM,aS⟩ h
          refine Zq h (fun (s:(List (List UInt8))) e w=>∃ (g:Gh) (eL:Value),Fr gI wI g w∧e 8=v8∧RV g.m w (zB.2:List Z5) v8∧e 9=oB∧OB 2009 g w 36 (uE:Gc) oB∧e 10=t5∧RV g.m w (y23.1:List Z3) t5∧e 13=l5∧RV g.m w ((lB.1:List Z3):List Z3) l5∧e 16=I (n8)∧e 18=l8∧OB 2018 g w 53 (mB:Vector Int 3) l8∧e 19=o0∧OB 2019 g w 55 (aE:Vector (List Z4) 3) o0∧VS 2019 61900 g w 61 55 (aE:Vector (List Z4) 3) o0∧e 26=eL∧RV g.m w (s:List (List UInt8)) eL∧OS 3211 g w 63 (s:List (List UInt8)) eL∧e 27=I bE) (fun X20349 jW d0B h=>?_) ?_
          ·refine Zr (Z (aQ aS ?_))
           obtain ⟨kW,kV,h⟩:=Z1 h;obtain ⟨hi20351,he20351⟩:=H6 kV;refine Y (S o0 ((bE:Int).toNat*1)) (G9 (α:=List Z4) underlying55 sizeOf54 zR (OB.ptr rJ) rfl kV) (G (D_loadD (g:=c03) (Gl.dyn hi20351).1 he20351 isAgg54 sizeOf54 rfl rJ fun q0E r0E=>?_));obtain ⟨uF,e0B,h⟩:=Z1 h;refine G (aJ (g:=c03) (vs:=[q0E]) en12 (wk12 r0E e0B) fun s0E d0I t0L hs hr=>?_);have hfr:=hfr.ext hs;have nN:=nN.ext hs;have oN:=oN.ext hs;have qM:=qM.ext hs;have rM:=rM.ext hs;have sM:=sM.ext hs;have u19_0_20336:=u19_0_20336.ext hs;have rJ:=rJ.ext hs;have tM:=tM.ext hs;have uM:=uM.ext hs;obtain ⟨zH,b0H,c0H,rfl,j08,rfl,rfl⟩:=hr;refine M (.tuple #[zH,I uF.2.1,I uF.2.2]) (Y zH (Zi rfl rfl) (Y (I uF.2.1) (Zi rfl rfl) (Y (I uF.2.2) (Zi rfl rfl) (H zH (H (I uF.2.1) (H (I uF.2.2) (O (Zq h (fun (s:Unit)=>xD gI wI fun e w g=>e 8=v8∧RV g.m w (zB.2:List Z5) v8∧e 9=oB∧OB 2009 g w 36 (uE:Gc) oB∧e 10=t5∧RV g.m w (y23.1:List Z3) t5∧e 13=l5∧RV g.m w ((lB.1:List Z3):List Z3) l5∧e 16=I (n8)∧e 18=l8∧OB 2018 g w 53 (mB:Vector Int 3) l8∧e 19=o0∧OB 2019 g w 55 (aE:Vector (List Z4) 3) o0∧VS 2019 61900 g w 61 55 (aE:Vector (List Z4) 3) o0∧e 26=mG∧RV g.m w (vF:List (List UInt8)) mG∧OS 3211 g w 63 (vF:List (List UInt8)) mG∧e 27=I (bE)∧e 28=zH∧RV g.m w (uF.1:List UInt8) zH) (fun X20356 lW g0B h=>?_) ?_))))))))
           ·refine Z (M (I uF.2.2) (aT (.bool (uF.2.2 != (0:Int))) rfl rfl rfl (O ?_)))
            rcases Zt h with ⟨oO,h⟩ | ⟨oO,h⟩
            ·refine Gz oO rfl (Z (H (.bool false) (O (Gb (Gj (G6 (Gj (Gj (G6 (Gj (G6 (Gj (Gj (G6 (Gj ?_)))))))))))))))
             obtain rfl:=sinj h;exact ac rfl (rq (.bool false)) ⟨_,hfr,rfl⟩
            ·refine G0 oO rfl ?_
             exact Zu (Zd (g0B () _ _ ⟨s0E,hfr,h08,nN,i08,oN,d03,qM,e03,rM,g03,h03,sM,zR,rJ,u19_0_20336,i03,tM,uM,aS,rfl,j08⟩ h))
           ·rintro _ e0I u0L ⟨t0E,hfr,k08,nK,l08,oK,j03,sJ,k03,vJ,l03,m03,xJ,n03,zJ,u19_0_20358,o03,vM,xM,p03,q03,r03⟩ h
            refine Za (aQ o03 (aQ q03 (G (Gd (g:=t0E) 3228 (xs:=([uF.1]:List (List UInt8))) (vs:=[zH]) underlying62 sizeOf63 zeroValue63 rfl rfl (.cons rfl .nil) (RVs.cons r03 RVs.nil) rfl rfl fun u0E v0L x0L hs o20359 v0E hxt hfl=>?_))));have hfr:=hfr.stp hs;have nK:=nK.stp hs;have oK:=oK.stp hs rfl;have sJ:=sJ.stp hs;have vJ:=vJ.stp hs;have xJ:=xJ.stp hs rfl;have u19_0_20358:=u19_0_20358.stp hs rfl;have zJ:=zJ.stp hs rfl;have vM:=vM.stp hs;have xM:=xM.stp hs rfl;obtain ⟨rS,h0B,h⟩:=Z1 h;refine G (Qe (g:=u0E) (i:=3211) underlying62 info_63 rfl rfl xM vM rfl v0E h0B fun x0E y0L s03 hs o20360 y0E _=>?_);have hfr:=hfr.stp hs;have nK:=nK.stp hs;have oK:=oK.stp hs rfl;have sJ:=sJ.stp hs;have vJ:=vJ.stp hs;have xJ:=xJ.stp hs rfl;have u19_0_20358:=u19_0_20358.stp hs rfl;have zJ:=zJ.stp hs rfl;refine H s03 ?_;exact Zb (Te (Zd (d0B rS _ _ ⟨x0E,s03,hfr,k08,nK,l08,oK,j03,sJ,k03,vJ,l03,m03,xJ,n03,zJ,u19_0_20358,rfl,y0E,o20360,p03⟩ h)))
          ·rintro iL g0I z0L ⟨z0E,t03,hfr,m08,n08,o08,p08,u03,v03,x03,y03,z03,a04,b04,c04,d04,u19_0_20362,e04,g04,h04,i04⟩ h
           refine Za (aQ i04 (aT (I (w64 (bE+(1:Int)))) rfl rfl rfl (H (I (w64 (bE+(1:Int)))) ?_)));exact O (b0B (iL,(w64 (bE+(1:Int)))) _ _ ⟨z0E,t03,hfr,m08,n08,o08,p08,u03,v03,x03,y03,z03,a04,b04,c04,d04,u19_0_20362,e04,g04,h04,rfl⟩ h)
        ·rintro sO h0I a0M ⟨j04,k04,hfr,nU,aI,pN,lH,bS,qH,cS,sH,dS,eS,tH,l04,bN,b0G⟩ h
         refine Z (G (Tr (g:=j04) isAgg36 sizeOf36 pN lH fun a0F b0F=>?_));obtain ⟨aW,i0B,h⟩:=Z1 h;refine G (aJ (g:=j04) (vs:=[a0F]) en14 (wk14 b0F i0B) fun c0F i0I d0F hs hr=>?_);have hfr:=hfr.ext hs;have aI:=aI.ext hs;have lH:=lH.ext hs;have qH:=qH.ext hs;have sH:=sH.ext hs;have tH:=tH.ext hs;have bN:=bN.ext hs;have e0F:=hr;refine aQ l04 ?_;obtain ⟨vC,j0B,h⟩:=Z1 h;refine G (aJ (g:=c0F) (vs:=[d0F,k04]) en13 (wk13 e0F bN j0B) fun m04 j0I b0M hs hr=>?_);have hfr:=hfr.ext hs;have aI:=aI.ext hs;have lH:=lH.ext hs;have qH:=qH.ext hs;have sH:=sH.ext hs;have tH:=tH.ext hs;obtain ⟨cD,d0H,e0H,rfl,qN,rfl,rfl⟩:=hr;refine M (.tuple #[cD,I vC.2.1,I vC.2.2]) (Y cD (Zi rfl rfl) (Y (I vC.2.1) (Zi rfl rfl) (Y (I vC.2.2) (Zi rfl rfl) (H cD (H (I vC.2.1) (H (I vC.2.2) (O (Zq h (fun (s:Unit)=>xD gI wI fun e w g=>e 8=v8∧RV g.m w (zB.2:List Z5) v8∧e 9=oB∧OB 2009 g w 36 (uE:Gc) oB∧e 10=t5∧RV g.m w (y23.1:List Z3) t5∧e 13=l5∧RV g.m w ((lB.1:List Z3):List Z3) l5∧e 16=I (n8)∧e 18=l8∧OB 2018 g w 53 (mB:Vector Int 3) l8∧e 31=cD∧RV g.m w (vC.1:List (List Str)) cD) (fun X20373 eW k0B h=>?_) ?_))))))))
         ·obtain ⟨xH,hx,h⟩:=Z1 h
          refine Gn (xD gI wI fun e w g=>e 8=v8∧RV g.m w (zB.2:List Z5) v8∧e 9=oB∧OB 2009 g w 36 (uE:Gc) oB∧e 10=t5∧RV g.m w (y23.1:List Z3) t5∧e 13=l5∧RV g.m w ((lB.1:List Z3):List Z3) l5∧e 16=I (n8)∧e 18=l8∧OB 2018 g w 53 (mB:Vector Int 3) l8∧e 31=cD∧RV g.m w (vC.1:List (List Str)) cD∧e 244=.bool xH) (fun Q' hQ=>?_) (fun k0I c0M hR=>?_)
          ·replace h:=hx
           clear hx;refine Za (M (I vC.2.2) (aT (.bool (vC.2.2 != (0:Int))) rfl rfl rfl (M (.bool (vC.2.2 != (0:Int))) ?_)));rcases Zt h with ⟨aH,h⟩ | ⟨aH,h⟩
           ·refine Zz rfl rfl aH rfl rfl (Zz rfl rfl aH rfl rfl (Zz rfl rfl aH rfl rfl (Y (.bool true) (ae (b:=(vC.2.2 != (0:Int))) (Tg aH rfl)) (Zb ?_))))
            cases h;exact hQ _ _ ⟨m04,hfr,nU,aI,pN,lH,bS,qH,cS,sH,dS,eS,tH,rfl,qN,rfl⟩
           ·refine ag cD (ai) rfl rfl aH (ag (I ((vC.1).length:Int)) (G7 underlying66 rfl qN) rfl rfl aH (ag (.bool (((vC.1).length:Int) != (16:Int))) (Gp rfl rfl rfl) rfl rfl aH (Y (.bool (((vC.1).length:Int) != (16:Int))) (ae (b:=(vC.2.2 != (0:Int))) (Td aH rfl)) (Zb ?_))))
            cases h;exact hQ _ _ ⟨m04,hfr,nU,aI,pN,lH,bS,qH,cS,sH,dS,eS,tH,rfl,qN,rfl⟩
          ·clear hx
           obtain ⟨g0F,hfr,q08,r08,s08,t08,n04,o04,p04,q04,r04,s04,t04,u04,v04,bO⟩:=hR;rcases Zt h with ⟨pO,h⟩ | ⟨pO,h⟩
           ·refine Ta (Eq.trans (show X _ _=.bool xH from bO) (congrArg Value.bool pO)) (Z (H (.bool false) (O (Gb (Gj (G6 (Gj (Gj (G6 (Gj ?_))))))))))
            obtain rfl:=sinj h;exact ac rfl (rq (.bool false)) ⟨_,hfr,rfl⟩
           ·refine Gv (Eq.trans (show X _ _=.bool xH from bO) (congrArg Value.bool pO)) ?_
            exact Zu (Zd (k0B () _ _ ⟨g0F,hfr,q08,r08,s08,t08,n04,o04,p04,q04,r04,s04,t04,u04,v04⟩ h))
         ·rintro _ l0I d0M ⟨h0F,hfr,u08,v08,x08,y08,x04,y04,z04,a05,b05,c05,d05,e05,g05⟩ h
          refine Z (H (I 0) (O (Zr (Qz h (fun (s:Int)=>xD gI wI fun e w g=>e 8=v8∧RV g.m w (zB.2:List Z5) v8∧e 9=oB∧OB 2009 g w 36 (uE:Gc) oB∧e 10=t5∧RV g.m w (y23.1:List Z3) t5∧e 13=l5∧RV g.m w ((lB.1:List Z3):List Z3) l5∧e 16=I (n8)∧e 18=l8∧OB 2018 g w 53 (mB:Vector Int 3) l8∧e 31=cD∧RV g.m w (vC.1:List (List Str)) cD∧e 34=I s) ⟨h0F,hfr,u08,v08,x08,y08,x04,y04,z04,a05,b05,c05,d05,e05,g05,rfl⟩ (fun X20379 bW l0B=>?_)))));rintro uC m0I e0M ⟨h05,hfr,oU,pU,qU,rU,gS,iS,jS,lS,mS,i05,j05,k05,l05,nS⟩ h;refine Zq h (fun (s:Unit)=>xD gI wI fun e w g=>e 8=v8∧RV g.m w (zB.2:List Z5) v8∧e 9=oB∧OB 2009 g w 36 (uE:Gc) oB∧e 10=t5∧RV g.m w (y23.1:List Z3) t5∧e 13=l5∧RV g.m w ((lB.1:List Z3):List Z3) l5∧e 16=I (n8)∧e 18=l8∧OB 2018 g w 53 (mB:Vector Int 3) l8∧e 31=cD∧RV g.m w (vC.1:List (List Str)) cD∧e 34=I uC) (fun X20382 dW m0B h=>?_) ?_
          ·refine Z (aQ nS (aT (.bool (decide (uC<(3:Int)))) rfl rfl rfl (O ?_)))
           rcases Zt h with ⟨qO,h⟩ | ⟨qO,h⟩
           ·refine Gz qO rfl ?_
            exact Zu (Zd (m0B () _ _ ⟨h05,hfr,oU,pU,qU,rU,gS,iS,jS,lS,mS,i05,j05,k05,l05,nS⟩ h))
           ·refine G0 qO rfl (Th (Gr (Gr (G2 ?_))))
            exact Te (Zd (b0A () _ _ ⟨h05,hfr,oU,pU,qU,rU,gS,iS,jS,lS,mS⟩ h))
          ·rintro _ n0I g0M ⟨i0F,hfr,z08,rN,a09,sN,m05,cN,n05,dN,o05,oS,aK,pS,bK,eN⟩ h
           refine Zq h (fun (s:Unit)=>xD gI wI fun e w g=>e 8=v8∧RV g.m w (zB.2:List Z5) v8∧e 9=oB∧OB 2009 g w 36 (uE:Gc) oB∧e 10=t5∧RV g.m w (y23.1:List Z3) t5∧e 13=l5∧RV g.m w ((lB.1:List Z3):List Z3) l5∧e 16=I (n8)∧e 18=l8∧OB 2018 g w 53 (mB:Vector Int 3) l8∧e 31=cD∧RV g.m w (vC.1:List (List Str)) cD∧e 34=I uC) (fun X20410 cW n0B h=>?_) ?_
           ·refine Zr (Zf ?_)
            obtain ⟨uN,lV,h⟩:=Z1 h;have j0F:=G1 bK lV;refine Zs (x:=.tmp 251) isAgg74 sizeOf74 j0F fun k0F l0F o0B=>?_;obtain ⟨vN,mV,h⟩:=Z1 h;obtain ⟨hi20415,he20415⟩:=H6 mV;refine Ap (off:=((uC:Int).toNat*1)) (x:=.tmp 255) (Gl.dyn hi20415).1 he20415 isAgg3 sizeOf3 aK fun h0M m0F p0B=>?_;obtain rfl:=Zj.1 m0F;refine ab (g:=i0F) (n:=9) [] [0,1,2,3,4,5,6,7,8] mixed trivial (V cD rfl (Zk pS) (V (I uC) rfl (Zk eN) (V (Gy cD uC 1) rfl (Zh (α:=List Str) underlying66 sizeOf74 rfl bK rfl lV) (G3 (c:=k0F) rfl rfl .plain xC o0B rfl (V (I (uN.length:Int)) rfl (G7 underlying74 rfl l0F) (V (I uC) rfl (Zk eN) (V (S l8 ((uC:Int).toNat*1)) rfl (G9 (α:=Int) underlying53 sizeOf3 oS (OB.ptr aK) rfl mV) (G3 (c:=I vN) rfl rfl .plain xB p0B rfl (V (.bool ((uN.length:Int) != vN)) rfl (Gp rfl rfl rfl) (Ki fun n0F i0M hs=>?_))))))))));have hfr:=hfr.ext hs;have rN:=rN.ext hs;have sN:=sN.ext hs;have cN:=cN.ext hs;have dN:=dN.ext hs;have aK:=aK.ext hs;have bK:=bK.ext hs;clear hs;refine O ?_;rcases Zt h with ⟨rO,h⟩ | ⟨rO,h⟩
            ·refine Gz rO rfl (Z (H (.bool false) (O (Gb (G6 (Gj (Gj (G6 (G6 (Gj (Gj (G6 (Gj ?_)))))))))))))
             obtain rfl:=sinj h;exact ac rfl (rq (.bool false)) ⟨_,hfr,rfl⟩
            ·refine G0 rO rfl ?_
             exact Zu (Te (Zd (n0B () _ _ ⟨n0F,hfr,z08,rN,a09,sN,m05,cN,n05,dN,o05,oS,aK,pS,bK,eN⟩ h)))
           ·rintro _ o0I j0M ⟨o0F,hfr,b09,c09,d09,e09,p05,q05,r05,s05,t05,u05,v05,x05,y05,z05⟩ h
            refine Za (aQ z05 (aT (I (w64 (uC+(1:Int)))) rfl rfl rfl (H (I (w64 (uC+(1:Int)))) ?_)));exact O (l0B (w64 (uC+(1:Int))) _ _ ⟨o0F,hfr,b09,c09,d09,e09,p05,q05,r05,s05,t05,u05,v05,x05,y05,rfl⟩ h)
     ·rintro _ p0I k0M ⟨p0F,hfr,g09,h09,i09,j09,a06,b06,c06,d06,e06⟩ h
      refine Za (aQ e06 (aT (I (w64 (n8+(1:Int)))) rfl rfl rfl (H (I (w64 (n8+(1:Int)))) ?_)));exact O (z09 (w64 (n8+(1:Int))) _ _ ⟨p0F,hfr,g09,h09,i09,j09,a06,b06,c06,d06,rfl⟩ h)
   ·rintro _ q0I l0M ⟨q0F,hfr⟩ h
    obtain ⟨zK,hx,h⟩:=Z1 h;refine Gn (xD gI wI fun e w g=>e 6=.bool zK) (fun Q' hQ=>?_) (fun r0I m0M hR=>?_)
    ·replace h:=hx
     clear hx;refine Za ?_;obtain ⟨gL,q0B,h⟩:=Z1 h;refine G (aJ (g:=q0F) (vs:=[]) en15 (wk15  q0B) fun g06 s0I n0M hs hr=>?_);have hfr:=hfr.ext hs;subst hr;refine M (.bool gL) ?_;rcases Zt h with ⟨yK,h⟩ | ⟨yK,h⟩
     ·obtain ⟨tN,r0B,h⟩:=Z1 h
      refine Ze (.yes2 rfl rfl yK) rfl (aJ (g:=g06) (vs:=[]) en16 (wk16 (hTI.ch hfr.ch)  r0B) fun r0F t0I o0M hs hr=>?_);have hfr:=hfr.ext hs;subst hr;refine Y (.bool tN) (ae (b:=gL) (Tg yK rfl)) (H (.bool tN) (Zb ?_));cases h;exact hQ _ _ ⟨r0F,hfr,rfl⟩
     ·refine Zz rfl rfl yK rfl rfl (Y (.bool false) (ae (b:=gL) (Td yK rfl)) (H (.bool false) (Zb ?_)))
      cases h;exact hQ _ _ ⟨g06,hfr,rfl⟩
    ·clear hx
     obtain ⟨p0M,hfr,k09⟩:=hR;refine Gb ?_;obtain rfl:=sinj h;exact ac rfl (show _=.bool zK from k09) ⟨_,hfr,rfl⟩
end Go.Proofs.YtpglkdijpcgcaaaGreatDoor
