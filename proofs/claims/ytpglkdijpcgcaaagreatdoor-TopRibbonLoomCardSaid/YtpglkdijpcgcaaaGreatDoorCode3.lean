import Derived.Test.YtpglkdijpcgcaaaGreatDoorCode2
set_option maxRecDepth 8000
set_option maxHeartbeats 4000000
namespace Go.Proofs.YtpglkdijpcgcaaaGreatDoor
open Go.RowKit Tryz
variable {gI:Gh} {wI:World} {up0 up1 up2 up3:Value}
def f86 (x0:Z8) (x1:List Z3) (x2:Int):Option Int:=
 (idx x1 x2).bind fun y2=>
 jn (σ:=Unit) (fun _=>
  some (0:Int)
  ) fun rF=>
 Option.bind (α:=Bool) (
  (f45 (0:Int) (w64 (((x0.orders).length:Int)-(1:Int))) ([y2.Order]:List Int)).bind fun nB=>
  bif (!nB) then
   some (!nB)
  else
   (f45 (0:Int) (w64 ((((x0.LoomMill).Widths).length:Int)-(1:Int))) ([y2.Loom]:List Int)).bind fun oB=>
   bif (!oB) then
    some (!oB)
   else
    (f29 ([y2.From]:List Int)).bind fun lD=>
    some (!lD)
  ) fun g8=>
 bif g8 then
  some (7:Int)
 else
  Option.bind (α:=Bool) (
   bif (decide (x2>(0:Int))) then
    (idx x1 (w64 (x2-(1:Int)))).bind fun aB=>
    some (decide (y2.Order≤aB.Order))
   else
    some false
   ) fun l8=>
  bif l8 then
   some (4:Int)
  else
   (idx x0.orders y2.Order).bind fun vB=>
   (idx ((x0.LoomMill).Widths) y2.Loom).bind fun yB=>
   bif (decide (vB.Width>yB)) then
    some (2:Int)
   else
    Option.bind (α:=Bool) (
     (idx x0.orders y2.Order).bind fun lB=>
     bif (decide (y2.From<lB.Early)) then
      some (decide (y2.From<lB.Early))
     else
      (f31 x0 y2).bind fun mB=>
      (idx x0.orders y2.Order).bind fun zB=>
      some (decide (mB>zB.Late))
     ) fun n8=>
    bif n8 then
     some (3:Int)
    else
     rF ()
theorem en86:Enters prog 86:=yC func86
theorem wk86 {x0:Z8} {x1:List Z3} {x2:Int} (rp0:RV gI.m wI x0 up0) (rp1:RV gI.m wI x1 up1) {r:Int} (h:f86 x0 x1 x2=some r):Fn prog 86 #[up0,up1,I x2] gI wI (fun _ _ v=>v=I r):=by
 unfold f86 at h;refine fnE func86 rfl rfl fun g0 hm hfr=>?_;have rp0:=RVc hm rp0;have rp1:=RVc hm rp1;refine Z (G (Tw (g:=g0) rfl rp0 fun g1 w1 p1 hs q1=>?_));have hfr:=hfr.ext hs;have rp1:=rp1.ext hs;refine H (I 0) (O (Z (M up1 (M (I x2) ?_))));obtain ⟨y2,hy2,h⟩:=Z1 h;refine Y (Gy up1 x2 3) (Zh (α:=Z3) underlying38 sizeOf57 rfl rp1 rfl hy2) ?_;have q3:=G1 rp1 hy2;refine G (Ga (g:=g1) isAgg57 sizeOf57 rfl q3 fun v4 r4=>(G (Gu (g:=g1) 2007 (⟨0,0,0⟩:Z3) zeroValue57 (fun m w=>⟨_,(Gg Zw (Gg Zw Zw)),rfl⟩) fun g5 w5 p5 hs b5 cb=>?_)));have hfr:=hfr.stp hs;have rp1:=rp1.stp hs;have q1:=q1.stp hs;have r4:=r4.stp hs;clear cb;refine G (Gk (g:=g5) (v:=v4) sizeOf57 rfl b5 rfl r4 fun g6 w6 hs b6 cb=>?_);clear cb;have hfr:=hfr.stp hs;have rp1:=rp1.stp hs;have q1:=q1.stp hs;refine O (Zq h (fun (s:Unit) e w=>∃ (g:Gh) ,Fr gI wI g w) (fun X381 rF sG h=>?_) ?_)
 ·refine Zr ?_
  obtain ⟨g8,hx,h⟩:=Z1 h;refine Gn (xD gI wI fun e w g=>e 1=up1∧RV g.m w (x1:List Z3) up1∧e 2=I (x2)∧e 3=p1∧PT g.m w (x0:Z8) p1∧e 7=p5∧OB 2007 g w 57 (y2:Z3) p5∧e 12=.bool g8) (fun Q' hQ=>?_) (fun gL xL hR=>?_)
  ·replace h:=hx
   clear hx;refine Z (Y (S p1 2) (aa W6 (PT.ptr q1)) ?_);have bI:=Zm G8.1 q1;refine G (Ga (g:=g6) isAgg28 sizeOf28 rfl bI fun yL dI=>(Y (I ((x0.orders).length:Int)) (G7 underlying28 rfl dI) (Y (I (w64 (((x0.orders).length:Int)-(1:Int)))) (Gp rfl rfl rfl) (Y (S p5 0) (aa Kw (OB.ptr b6)) (G (Qd (g:=g6) T6.1 isAgg3 sizeOf3 rfl b6 fun zL iI=>?_))))));obtain rfl:=Zj.1 iI;refine G (Gd (g:=g6) 3019 (xs:=([y2.Order]:List Int)) (vs:=[I y2.Order]) underlying25 sizeOf3 zeroValue3 rfl rfl (.cons rfl .nil) (RVs.cons (Zj.2 rfl) RVs.nil) rfl rfl fun jI aM kI hs o408 lI hxt hfl=>?_);have hfr:=hfr.stp hs;have rp1:=rp1.stp hs;have q1:=q1.stp hs;have b6:=b6.stp hs rfl;obtain ⟨nB,xG,h⟩:=Z1 h;refine G (aJ (g:=jI) (vs:=[I 0,I (w64 (((x0.orders).length:Int)-(1:Int))),kI]) en45 (wk45 lI xG) fun nD iL bM hs hr=>?_);have hfr:=hfr.ext hs;have rp1:=rp1.ext hs;have q1:=q1.ext hs;have b6:=b6.ext hs;subst hr;refine Y (.bool (!nB)) (Qw rfl) (H (.bool (!nB)) (O ?_));rcases Zt h with ⟨oD,h⟩ | ⟨oD,h⟩
   ·refine Gz oD rfl (Zu ?_)
    cases h;exact hQ _ _ ⟨nD,hfr,rfl,rp1,rfl,rfl,q1,rfl,b6,rfl⟩
   ·refine G0 oD rfl (Z (Y (S p1 0) (aa Y4 (PT.ptr q1)) ?_))
    have sF:=Zm Qx.1 q1;refine Y (S (S p1 0) 0) (aa Ha (PT.ptr sF)) ?_;have mI:=Zm Qa.1 sF;refine G (Ga (g:=nD) isAgg25 sizeOf25 rfl mI fun cM nI=>(Y (I (((x0.LoomMill).Widths).length:Int)) (G7 underlying25 rfl nI) (Y (I (w64 ((((x0.LoomMill).Widths).length:Int)-(1:Int)))) (Gp rfl rfl rfl) (Y (S p5 1) (aa Jr (OB.ptr b6)) (G (Qd (g:=nD) Wi.1 isAgg3 sizeOf3 rfl b6 fun dM pI=>?_))))));obtain rfl:=Zj.1 pI;refine G (Gd (g:=nD) 3029 (xs:=([y2.Loom]:List Int)) (vs:=[I y2.Loom]) underlying25 sizeOf3 zeroValue3 rfl rfl (.cons rfl .nil) (RVs.cons (Zj.2 rfl) RVs.nil) rfl rfl fun qI eM sI hs o417 jJ hxt hfl=>?_);have hfr:=hfr.stp hs;have rp1:=rp1.stp hs;have q1:=q1.stp hs;have b6:=b6.stp hs rfl;obtain ⟨oB,yG,h⟩:=Z1 h;refine G (aJ (g:=qI) (vs:=[I 0,I (w64 ((((x0.LoomMill).Widths).length:Int)-(1:Int))),sI]) en45 (wk45 jJ yG) fun rE jL iM hs hr=>?_);have hfr:=hfr.ext hs;have rp1:=rp1.ext hs;have q1:=q1.ext hs;have b6:=b6.ext hs;subst hr;refine Y (.bool (!oB)) (Qw rfl) (H (.bool (!oB)) (O ?_));rcases Zt h with ⟨yD,h⟩ | ⟨yD,h⟩
    ·refine Gz yD rfl (Zu ?_)
     cases h;exact hQ _ _ ⟨rE,hfr,rfl,rp1,rfl,rfl,q1,rfl,b6,rfl⟩
    ·refine G0 yD rfl (Za (Y (S p5 2) (aa Ws (OB.ptr b6)) (G (Qd (g:=rE) Ty.1 isAgg3 sizeOf3 rfl b6 fun jM kJ=>?_))))
     obtain rfl:=Zj.1 kJ;refine G (Gd (g:=rE) 3034 (xs:=([y2.From]:List Int)) (vs:=[I y2.From]) underlying25 sizeOf3 zeroValue3 rfl rfl (.cons rfl .nil) (RVs.cons (Zj.2 rfl) RVs.nil) rfl rfl fun lJ kM mJ hs o423 nJ hxt hfl=>?_);have hfr:=hfr.stp hs;have rp1:=rp1.stp hs;have q1:=q1.stp hs;have b6:=b6.stp hs rfl;obtain ⟨lD,zG,h⟩:=Z1 h;refine G (aJ (g:=lJ) (vs:=[mJ]) en29 (wk29 nJ zG) fun oJ lL pM hs hr=>?_);have hfr:=hfr.ext hs;have rp1:=rp1.ext hs;have q1:=q1.ext hs;have b6:=b6.ext hs;subst hr;refine Y (.bool (!lD)) (Qw rfl) (H (.bool (!lD)) (Zb ?_));cases h;exact hQ _ _ ⟨oJ,hfr,rfl,rp1,rfl,rfl,q1,rfl,b6,rfl⟩
  ·clear hx
   obtain ⟨tF,hfr,uF,mE,cC,oE,v8,uC,i6,vC⟩:=hR;rcases Zt h with ⟨zD,h⟩ | ⟨zD,h⟩
   ·refine Ta (Eq.trans (show X _ _=.bool g8 from vC) (congrArg Value.bool zD)) (Z (H (I 7) (O (Gb (G6 (Gj ?_))))))
    cases h;exact ac rfl (rq (I 7)) ⟨_,hfr,rfl⟩
   ·refine Gv (Eq.trans (show X _ _=.bool g8 from vC) (congrArg Value.bool zD)) ?_
    obtain ⟨l8,hx,h⟩:=Z1 h;refine Gn (xD gI wI fun e w g=>e 3=p1∧PT g.m w (x0:Z8) p1∧e 7=p5∧OB 2007 g w 57 (y2:Z3) p5∧e 37=.bool l8) (fun Q' hQ=>?_) (fun mL qM hR=>?_)
    ·replace h:=hx
     clear hx;rcases Zt h with ⟨t5,h⟩ | ⟨t5,h⟩
     ·refine We (x:=.tmp 41) T6.1 isAgg3 sizeOf3 i6 fun rM pJ aH=>?_
      obtain rfl:=Zj.1 pJ;obtain ⟨aB,yE,h⟩:=Z1 h;have vF:=G1 mE yE;have qJ:=Zm T6.1 vF;refine Zs (x:=.tmp 47) isAgg3 sizeOf3 qJ fun sM rJ cH=>?_;obtain rfl:=Zj.1 rJ;refine ab (g:=tF) (n:=14) [] [0,1,2,3,4,5,6,7,8,9,10,11,12,13] mixed trivial (V (I x2) rfl (Zk cC) (V (.bool (decide (x2>(0:Int)))) rfl (Gp rfl rfl rfl) (V (.bool (decide (x2>(0:Int)))) rfl (ai) (L_y (S p5 0) rfl rfl rfl rfl t5 (Zc Kw uC (OB.ptr i6)) (G3 (c:=I y2.Order) rfl rfl (.yes2 rfl rfl t5) xB aH rfl (L_y up1 rfl rfl rfl rfl t5 (Zk uF) (L_y (I x2) rfl rfl rfl rfl t5 (Zk cC) (L_y (I (w64 (x2-(1:Int)))) rfl rfl rfl rfl t5 (Gp rfl rfl rfl) (L_y (Gy up1 (w64 (x2-(1:Int))) 3) rfl rfl rfl rfl t5 (Zh (α:=Z3) underlying38 sizeOf57 rfl mE rfl yE) (L_y (S (Gy up1 (w64 (x2-(1:Int))) 3) 0) rfl rfl rfl rfl t5 (aa Kw (PT.ptr vF)) (G3 (c:=I aB.Order) rfl rfl (.yes2 rfl rfl t5) (fun _ _ h=>h.ch) cH rfl (L_y (.bool (decide (y2.Order≤aB.Order))) rfl rfl rfl rfl t5 (Gp rfl rfl rfl) (V (.bool (decide (y2.Order≤aB.Order))) rfl (ae (b:=(decide (x2>(0:Int)))) (Tg t5 rfl)) (V (.bool (decide (y2.Order≤aB.Order))) rfl (Tp rfl) (Ki fun sJ tM hs=>?_)))))))))))))));have hfr:=hfr.ext hs;have v8:=v8.ext hs;have i6:=i6.ext hs;clear hs;refine Zb ?_;cases h;exact hQ _ _ ⟨sJ,hfr,oE,v8,uC,i6,rfl⟩
     ·refine ab (g:=tF) (n:=14) [] [0,1,2,3,4,5,6,7,8,9,10,11,12,13] mixed trivial (V (I x2) rfl (Zk cC) (V (.bool (decide (x2>(0:Int)))) rfl (Gp rfl rfl rfl) (V (.bool (decide (x2>(0:Int)))) rfl (ai) ?_)))
      iterate 9 refine L_s rfl rfl rfl t5 rfl ?_
      refine V (.bool false) rfl (ae (b:=(decide (x2>(0:Int)))) (Td t5 rfl)) (V (.bool false) rfl (Tp rfl) (Ki fun vJ uM hs=>?_));have hfr:=hfr.ext hs;have v8:=v8.ext hs;have i6:=i6.ext hs;clear hs;refine Zb ?_;cases h;exact hQ _ _ ⟨vJ,hfr,oE,v8,uC,i6,rfl⟩
    ·clear hx
     obtain ⟨xJ,hfr,n9,l5,l9,o0,bD⟩:=hR;rcases Zt h with ⟨aE,h⟩ | ⟨aE,h⟩
     ·refine Ta (Eq.trans (show X _ _=.bool l8 from bD) (congrArg Value.bool aE)) (Z (H (I 4) (O (Gb (G6 (Gj ?_))))))
      cases h;exact ac rfl (rq (I 4)) ⟨_,hfr,rfl⟩
     ·refine Gv (Eq.trans (show X _ _=.bool l8 from bD) (congrArg Value.bool aE)) (Zf ?_)
      have zJ:=Zm G8.1 l5;refine Zs (x:=.tmp 52) isAgg28 sizeOf28 zJ fun uE xF gH=>(We (x:=.tmp 54) T6.1 isAgg3 sizeOf3 o0 fun vM aK jH=>?_);obtain rfl:=Zj.1 aK;obtain ⟨vB,zE,h⟩:=Z1 h;have yF:=G1 xF zE;have bK:=Zm Ji.1 yF;refine Zs (x:=.tmp 57) isAgg3 sizeOf3 bK fun xM cK kH=>?_;obtain rfl:=Zj.1 cK;have aG:=Zm Qx.1 l5;have dK:=Zm Qa.1 aG;refine Zs (x:=.tmp 60) isAgg25 sizeOf25 dK fun bG cG lH=>(We (x:=.tmp 62) Wi.1 isAgg3 sizeOf3 o0 fun bN lK mH=>?_);obtain rfl:=Zj.1 lK;obtain ⟨yB,cF,h⟩:=Z1 h;have mK:=G1 cG cF;refine Zs (x:=.tmp 64) isAgg3 sizeOf3 mK fun cN nK nH=>?_;obtain rfl:=Zj.1 nK;refine ab (g:=xJ) (n:=16) [] [0,1,2,3,4,5,6,7,8,9,10,11,12,13,14,15] mixed trivial (V (S p1 2) rfl (Zc W6 n9 (PT.ptr l5)) (G3 (c:=uE) rfl rfl .plain xC gH rfl (V (S p5 0) rfl (Zc Kw l9 (OB.ptr o0)) (G3 (c:=I y2.Order) rfl rfl .plain xB jH rfl (V (Gy uE y2.Order 5) rfl (Zh (α:=Z5) underlying28 sizeOf59 rfl xF rfl zE) (V (S (Gy uE y2.Order 5) 0) rfl (aa Sw (PT.ptr yF)) (G3 (c:=I vB.Width) rfl rfl .plain xC kH rfl (V (S p1 0) rfl (Zc Y4 n9 (PT.ptr l5)) (V (S (S p1 0) 0) rfl (aa Ha (PT.ptr aG)) (G3 (c:=bG) rfl rfl .plain xC lH rfl (V (S p5 1) rfl (Zc Jr l9 (OB.ptr o0)) (G3 (c:=I y2.Loom) rfl rfl .plain xB mH rfl (V (Gy bG y2.Loom 1) rfl (Zh (α:=Int) underlying25 sizeOf3 rfl cG rfl cF) (G3 (c:=I yB) rfl rfl .plain xC nH rfl (V (.bool (decide (vB.Width>yB))) rfl (Gp rfl rfl rfl) (V (.bool (decide (vB.Width>yB))) rfl (Tp rfl) ?_))))))))))))))));refine Ki fun oK dN hs=>?_;have hfr:=hfr.ext hs;have l5:=l5.ext hs;have o0:=o0.ext hs;clear hs;refine O ?_;rcases Zt h with ⟨bE,h⟩ | ⟨bE,h⟩
      ·refine Gz bE rfl (Z (H (I 2) (O (Gb (G6 (Gj ?_))))))
       cases h;exact ac rfl (rq (I 2)) ⟨_,hfr,rfl⟩
      ·refine G0 bE rfl ?_
       obtain ⟨n8,hx,h⟩:=Z1 h;refine Gn (xD gI wI fun e w g=>e 67=.bool n8) (fun Q' hQ=>?_) (fun nL eN hR=>?_)
       ·replace h:=hx
        clear hx;refine Zf (We (x:=.tmp 68) Ty.1 isAgg3 sizeOf3 o0 fun gN pK oH=>?_);obtain rfl:=Zj.1 pK;have qK:=Zm G8.1 l5;refine Zs (x:=.tmp 70) isAgg28 sizeOf28 qK fun vE eG pH=>(We (x:=.tmp 72) T6.1 isAgg3 sizeOf3 o0 fun iN sK qH=>?_);obtain rfl:=Zj.1 sK;obtain ⟨lB,dF,h⟩:=Z1 h;have gG:=G1 eG dF;have tK:=Zm Hg.1 gG;refine Zs (x:=.tmp 75) isAgg3 sizeOf3 tK fun jN uK sH=>?_;obtain rfl:=Zj.1 uK;refine ab (g:=oK) (n:=11) [] [0,1,2,3,4,5,6,7,8,9,10] mixed trivial (V (S p5 2) rfl (Zc Ws l9 (OB.ptr o0)) (G3 (c:=I y2.From) rfl rfl .plain xB oH rfl (V (S p1 2) rfl (Zc W6 n9 (PT.ptr l5)) (G3 (c:=vE) rfl rfl .plain xC pH rfl (V (S p5 0) rfl (Zc Kw l9 (OB.ptr o0)) (G3 (c:=I y2.Order) rfl rfl .plain xB qH rfl (V (Gy vE y2.Order 5) rfl (Zh (α:=Z5) underlying28 sizeOf59 rfl eG rfl dF) (V (S (Gy vE y2.Order 5) 3) rfl (aa S0 (PT.ptr gG)) (G3 (c:=I lB.Early) rfl rfl .plain xC sH rfl (V (.bool (decide (y2.From<lB.Early))) rfl (Gp rfl rfl rfl) (V (.bool (decide (y2.From<lB.Early))) rfl (Tp rfl) (Ki fun iG kN hs=>?_))))))))))));have hfr:=hfr.ext hs;have l5:=l5.ext hs;have o0:=o0.ext hs;clear hs;refine O ?_;rcases Zt h with ⟨iE,h⟩ | ⟨iE,h⟩
        ·refine Gz iE rfl (Zu ?_)
         cases h;exact hQ _ _ ⟨iG,hfr,rfl⟩
        ·refine G0 iE rfl (Zs (x:=.tmp 3) isAgg80 sizeOf80 l5 fun jG vK tH=>(Qy (x:=.tmp 7) isAgg57 sizeOf57 o0 fun kG xK uH=>?_))
         obtain ⟨mB,xH,h⟩:=Z1 h;have yK:=Zm G8.1 l5;refine Zs (x:=.tmp 81) isAgg28 sizeOf28 yK fun xE lG yH=>(We (x:=.tmp 83) T6.1 isAgg3 sizeOf3 o0 fun lN zK zH=>?_);obtain rfl:=Zj.1 zK;obtain ⟨zB,eF,h⟩:=Z1 h;have mG:=G1 lG eF;have aL:=Zm W2.1 mG;refine Zs (x:=.tmp 86) isAgg3 sizeOf3 aL fun mN bL aI=>?_;obtain rfl:=Zj.1 bL;refine ab (g:=iG) (n:=12) [(2,(fun v g w=>v=I mB))] [0,1,2,3,4,5,6,7,8,9,10,11] mixed (⟨fun _=>Ww _,trivial⟩) (G3 (c:=jG) rfl rfl .plain xC tH n9 (G3 (c:=kG) rfl rfl .plain xB uH l9 (Wd (φ:=fun v g w=>v=I mB) rfl rfl .plain (fun g w hd=>aJ (g:=g) (vs:=[jG,kG]) en31 (wk31 (vK.ext hd.1) (xK.ext hd.1) xH) fun g' w' v hs hr=>⟨g',hs,hr⟩) (fun nN hv=>?_))));obtain ⟨_,_,_,rfl⟩:=hv;refine V (S p1 2) rfl (Zc W6 n9 (PT.ptr l5)) (G3 (c:=xE) rfl rfl .plain xC yH rfl (V (S p5 0) rfl (Zc Kw l9 (OB.ptr o0)) (G3 (c:=I y2.Order) rfl rfl .plain xB zH rfl (V (Gy xE y2.Order 5) rfl (Zh (α:=Z5) underlying28 sizeOf59 rfl lG rfl eF) (V (S (Gy xE y2.Order 5) 4) rfl (aa Xi (PT.ptr mG)) (G3 (c:=I zB.Late) rfl rfl .plain xC aI rfl (V (.bool (decide (mB>zB.Late))) rfl (Gp rfl rfl rfl) (V (.bool (decide (mB>zB.Late))) rfl (Tp rfl) (Ki fun dL oN hs=>?_)))))))));have hfr:=hfr.ext hs;clear hs;refine Zb ?_;cases h;exact hQ _ _ ⟨dL,hfr,rfl⟩
       ·clear hx
        obtain ⟨eL,hfr,cD⟩:=hR;rcases Zt h with ⟨lE,h⟩ | ⟨lE,h⟩
        ·refine Ta (Eq.trans (show X _ _=.bool n8 from cD) (congrArg Value.bool lE)) (Z (H (I 3) (O (Gb (G6 (Gj ?_))))))
         cases h;exact ac rfl (rq (I 3)) ⟨_,hfr,rfl⟩
        ·refine Gv (Eq.trans (show X _ _=.bool n8 from cD) (congrArg Value.bool lE)) ?_
         exact Zu (Te (Zd (sG () _ _ ⟨eL,hfr⟩ h)))
 ·rintro _ oL pN ⟨qN,hfr⟩ h
  refine Z (H (I 0) (O (Gb ?_)));cases h;exact ac rfl (rq (I 0)) ⟨_,hfr,rfl⟩
def f87 (x0:Z8) (x1:List Z3):Option Int:=
 (mks 1 (false:Bool) (x1.length:Int)).bind fun y2=>
 Option.bind (α:=(List Bool)) (
  lp (σ:=(List Bool) × Int) (fun lG (cC,l5)=>
   bif (decide (l5<(((x0.LoomMill).Widths).length:Int))) then
    Option.bind (α:=(List Bool)) (
     (f25 x1 l5).bind fun v8=>
     lp (σ:=(List Bool) × Int) (fun mG (l9,o0)=>
      jn (σ:=Unit) (fun _=>
       Option.bind (α:=(List Bool)) (
        (idx v8 o0).bind fun rF=>
        (idx x1 rF).bind fun n9=>
        (idx v8 o0).bind fun uC=>
        (idx v8 (w64 (o0-(1:Int)))).bind fun yD=>
        (idx x1 yD).bind fun sG=>
        (f26 x0 sG n9.Order).bind fun yB=>
        (idx l9 uC).bind fun oJ=>
        some (List.set l9 (Int.toNat uC) (decide (n9.From<yB)))
        ) fun aB=>
       mG (aB,(w64 (o0+(1:Int))))
       ) fun xG=>
      bif (decide (o0<(v8.length:Int))) then
       xG ()
      else
       some l9
      ) big (cC,(1:Int))
     ) fun lB=>
    lG (lB,(w64 (l5+(1:Int))))
   else
    some cC
   ) big (y2,(0:Int))
  ) fun vC=>
 (f117 vC true).bind fun zD=>
 some zD
theorem en87:Enters prog 87:=yC func87
theorem wk87 {x0:Z8} {x1:List Z3} (rp0:RV gI.m wI x0 up0) (rp1:RV gI.m wI x1 up1) {r:Int} (h:f87 x0 x1=some r):Fn prog 87 #[up0,up1] gI wI (fun _ _ v=>v=I r):=by
 unfold f87 at h;refine fnE func87 rfl rfl fun g0 hm hfr=>?_;have rp0:=RVc hm rp0;have rp1:=RVc hm rp1;refine Z (G (Tw (g:=g0) rfl rp0 fun g1 w1 p1 hs q1=>?_));have hfr:=hfr.ext hs;have rp1:=rp1.ext hs;refine H (I 0) (O (Z (M up1 (Y (I (x1.length:Int)) (G7 underlying38 rfl rp1) ?_))));obtain ⟨y2,hy2,h⟩:=Z1 h;refine G (Ye (g:=g1) 9012 (false:Bool) rfl underlying85 Lc rfl (fun _ _=>rfl) rfl rfl hy2 fun g3 w3 v3 hs b3=>?_);have hfr:=hfr.stp hs;have rp1:=rp1.stp hs;have q1:=q1.stp hs;refine H v3 (O ?_);obtain ⟨vC,hx,h⟩:=Z1 h;refine Gn (xD gI wI fun e w g=>e 5=v3∧OM 9012 g w 4 (vC:List Bool) v3) (fun Q' hQ=>?_) (fun zK lL hR=>?_)
 ·replace h:=hx
  clear hx;refine Z (Y (S p1 0) (aa Y4 (PT.ptr q1)) ?_);have yG:=Zm Qx.1 q1;refine Y (S (S p1 0) 0) (aa Ha (PT.ptr yG)) ?_;have pJ:=Zm Qa.1 yG;refine G (Ga (g:=g3) isAgg25 sizeOf25 rfl pJ fun mL qJ=>(Y (I (((x0.LoomMill).Widths).length:Int)) (G7 underlying25 rfl qJ) (M (I 0) (O (Zr (Qz h (fun (s:(List Bool) × Int) e w=>∃ (g:Gh) ,Fr gI wI g w∧e 1=up1∧RV g.m w (x1:List Z3) up1∧e 2=p1∧PT g.m w (x0:Z8) p1∧e 5=v3∧OM 9012 g w 4 (s.1:List Bool) v3∧e 16=I (((x0.LoomMill).Widths).length:Int)∧e 17=I s.2) ⟨g3,hfr,rfl,rp1,rfl,q1,rfl,b3,rfl,rfl⟩ (fun X285 lG kI=>?_)))))));rintro ⟨cC,l5⟩ aL nL ⟨zG,hfr,iE,mB,aH,bD,lE,nB,lD,zB⟩ h;refine Z (Y (.bool (decide (l5<(((x0.LoomMill).Widths).length:Int)))) (Gp zB lD rfl) (O (Zf ?_)));rcases Zt h with ⟨aE,h⟩ | ⟨aE,h⟩
  ·refine Gz aE rfl (Zu (Zd ?_))
   obtain ⟨lB,hx,h⟩:=Z1 h;refine Gn (xD gI wI fun e w g=>e 1=up1∧RV g.m w (x1:List Z3) up1∧e 2=p1∧PT g.m w (x0:Z8) p1∧e 5=v3∧OM 9012 g w 4 (lB:List Bool) v3∧e 16=I (((x0.LoomMill).Widths).length:Int)∧e 17=I l5) (fun Q' hQ=>?_) (fun bL oL hR=>?_)
   ·replace h:=hx
    clear hx;refine Zr (Z (aQ zB (H (I l5) (O (Z (aQ iE (M (I l5) ?_)))))));obtain ⟨v8,lI,h⟩:=Z1 h;refine G (aJ (g:=zG) (vs:=[up1,I l5]) en25 (wk25 mB lI) fun rJ dL n8 hs hr=>?_);have hfr:=hfr.ext hs;have mB:=mB.ext hs;have bD:=bD.ext hs;have nB:=nB.ext hs;have sJ:=hr;refine H n8 (O (Z (H (I 1) (O (Zr (Qz h (fun (s:(List Bool) × Int) e w=>∃ (g:Gh) ,Fr gI wI g w∧e 1=up1∧RV g.m w (x1:List Z3) up1∧e 2=p1∧PT g.m w (x0:Z8) p1∧e 5=v3∧OM 9012 g w 4 (s.1:List Bool) v3∧e 7=n8∧RV g.m w (v8:List Int) n8∧e 8=I (s.2)∧e 16=I (((x0.LoomMill).Widths).length:Int)∧e 17=I l5) ⟨rJ,hfr,iE,mB,aH,bD,lE,nB,rfl,sJ,rfl,lD,zB⟩ (fun X425 mG mI=>?_)))))));rintro ⟨l9,o0⟩ eL xL ⟨cH,hfr,mE,oE,rE,uE,vE,xE,yE,zE,cF,nD,oD⟩ h;refine Zq h (fun (s:Unit)=>xD gI wI fun e w g=>e 1=up1∧RV g.m w (x1:List Z3) up1∧e 2=p1∧PT g.m w (x0:Z8) p1∧e 5=v3∧OM 9012 g w 4 (l9:List Bool) v3∧e 7=n8∧RV g.m w (v8:List Int) n8∧e 8=I (o0)∧e 16=I (((x0.LoomMill).Widths).length:Int)∧e 17=I l5) (fun X428 xG nI h=>?_) ?_
    ·refine Z (aQ cF (aQ yE (Y (I (v8.length:Int)) (G7 underlying25 rfl zE) (aT (.bool (decide (o0<(v8.length:Int)))) rfl rfl rfl (O ?_)))))
     rcases Zt h with ⟨bE,h⟩ | ⟨bE,h⟩
     ·refine Gz bE rfl ?_
      exact Zu (Zd (nI () _ _ ⟨cH,hfr,mE,oE,rE,uE,vE,xE,yE,zE,cF,nD,oD⟩ h))
     ·refine G0 bE rfl (Th (Gr (Gr (G2 (Te ?_)))))
      cases h;exact hQ _ _ ⟨cH,hfr,mE,oE,rE,uE,vE,xE,nD,oD⟩
    ·rintro _ gL yL ⟨sF,hfr,cD,i6,dF,g8,eF,l8,oB,t5,vB,cG,eG⟩ h
     obtain ⟨aB,hx,h⟩:=Z1 h;refine Gn (xD gI wI fun e w g=>e 1=up1∧RV g.m w (x1:List Z3) up1∧e 2=p1∧PT g.m w (x0:Z8) p1∧e 5=v3∧OM 9012 g w 4 (aB:List Bool) v3∧e 7=n8∧RV g.m w (v8:List Int) n8∧e 8=I (o0)∧e 16=I (((x0.LoomMill).Widths).length:Int)∧e 17=I l5) (fun Q' hQ=>?_) (fun iL zL hR=>?_)
     ·replace h:=hx
      clear hx;refine Zr (Z (aQ cD (aQ oB (aQ vB ?_))));obtain ⟨rF,uF,h⟩:=Z1 h;refine Y (Gy n8 o0 1) (Zh (α:=Int) underlying25 sizeOf3 rfl t5 rfl uF) ?_;have vJ:=G1 t5 uF;refine G (Ga (g:=sF) isAgg3 sizeOf3 rfl vJ fun aM xJ=>?_);obtain rfl:=Zj.1 xJ;obtain ⟨n9,vF,h⟩:=Z1 h;refine Y (Gy up1 rF 3) (Zh (α:=Z3) underlying38 sizeOf57 rfl i6 rfl vF) ?_;have zJ:=G1 i6 vF;refine G (Ga (g:=sF) isAgg57 sizeOf57 rfl zJ fun aK tF=>(G (Gu (g:=sF) 2009 (⟨0,0,0⟩:Z3) zeroValue57 (fun m w=>⟨_,(Gg Zw (Gg Zw Zw)),rfl⟩) fun bK bM gH hs b500 cb=>?_)));have hfr:=hfr.stp hs;have i6:=i6.stp hs;have g8:=g8.stp hs;have l8:=l8.stp hs rfl;have t5:=t5.stp hs;have tF:=tF.stp hs;clear cb;refine G (Gk (g:=bK) (v:=aK) sizeOf57 rfl b500 rfl tF fun cK cM hs b501 cb=>?_);clear cb;have hfr:=hfr.stp hs;have i6:=i6.stp hs;have g8:=g8.stp hs;have l8:=l8.stp hs rfl;have t5:=t5.stp hs;refine O ?_;obtain ⟨uC,xF,h⟩:=Z1 h;have dK:=G1 t5 xF;refine Zs (x:=.tmp 39) isAgg3 sizeOf3 dK fun dM lK pI=>?_;obtain rfl:=Zj.1 lK;refine We (x:=.tmp 41) Ty.1 isAgg3 sizeOf3 b501 fun eM mK qI=>?_;obtain rfl:=Zj.1 mK;refine Zs (x:=.tmp 2) isAgg80 sizeOf80 g8 fun jH nK sI=>?_;obtain ⟨yD,yF,h⟩:=Z1 h;have oK:=G1 t5 yF;refine Zs (x:=.tmp 48) isAgg3 sizeOf3 oK fun iM pK jJ=>?_;obtain rfl:=Zj.1 pK;obtain ⟨sG,aG,h⟩:=Z1 h;have qK:=G1 i6 aG;refine Zs (x:=.tmp 50) isAgg57 sizeOf57 qK fun kH sK kJ=>(We (x:=.tmp 52) T6.1 isAgg3 sizeOf3 b501 fun jM tK lJ=>?_);obtain rfl:=Zj.1 tK;obtain ⟨yB,mJ,h⟩:=Z1 h;obtain ⟨oJ,bG,h⟩:=Z1 h;refine ab (g:=cK) (n:=21) [(18,(fun v g w=>v=I yB))] [0,1,2,3,4,5,6,7,8,9,10,11,12,13,14,15,16,17,18,19,20] mixed (⟨fun _=>Ww _,trivial⟩) (V v3 rfl (Zk eF) (V n8 rfl (Zk oB) (V (I o0) rfl (Zk vB) (V (Gy n8 o0 1) rfl (Zh (α:=Int) underlying25 sizeOf3 rfl t5 rfl xF) (G3 (c:=I uC) rfl rfl .plain xC pI rfl (V (S gH 2) rfl (aa Ws (OB.ptr b501)) (G3 (c:=I n9.From) rfl rfl .plain xB qI rfl (G3 (c:=jH) rfl rfl .plain xC sI dF (V up1 rfl (Zk cD) (V n8 rfl (Zk oB) (V (I o0) rfl (Zk vB) (V (I (w64 (o0-(1:Int)))) rfl (Gp rfl rfl rfl) (V (Gy n8 (w64 (o0-(1:Int))) 1) rfl (Zh (α:=Int) underlying25 sizeOf3 rfl t5 rfl yF) (G3 (c:=I yD) rfl rfl .plain xC jJ rfl (V (Gy up1 yD 3) rfl (Zh (α:=Z3) underlying38 sizeOf57 rfl i6 rfl aG) (G3 (c:=kH) rfl rfl .plain xC kJ rfl ?_))))))))))))))));refine V (S gH 0) rfl (aa Kw (OB.ptr b501)) (G3 (c:=I n9.Order) rfl rfl .plain xB lJ rfl (Wd (φ:=fun v g w=>v=I yB) rfl rfl .plain (fun g w hd=>aJ (g:=g) (vs:=[jH,kH,I n9.Order]) en26 (wk26 (nK.ext hd.1) (sK.ext hd.1) mJ) fun g' w' v hs hr=>⟨g',hs,hr⟩) (fun kM hv=>?_)));obtain ⟨_,_,_,rfl⟩:=hv;refine V (.bool (decide (n9.From<yB))) rfl (Gp rfl rfl rfl) (V (Gy v3 uC 1) rfl (Tt (α:=Bool) underlying85 sizeOf4 rfl l8 rfl bG) (Ki fun uK pM hs=>?_));have hfr:=hfr.ext hs;have i6:=i6.ext hs;have g8:=g8.ext hs;have l8:=l8.ext hs;have t5:=t5.ext hs;clear hs;refine G (Hn (g:=uK) (α:=Bool) (a':=(decide (n9.From<yB))) sizeOf4 rfl l8 bG rfl (Tz.2 rfl) fun vK qM hs b556=>?_);have hfr:=hfr.stp hs;have i6:=i6.stp hs;have g8:=g8.stp hs;have t5:=t5.stp hs;refine Zb (Te ?_);cases h;exact hQ _ _ ⟨vK,hfr,cD,i6,dF,g8,eF,b556,oB,t5,vB,cG,eG⟩
     ·clear hx
      obtain ⟨xK,hfr,lH,mH,nH,oH,pH,qH,sH,tH,uH,gG,iG⟩:=hR;refine Za (aQ uH (aT (I (w64 (o0+(1:Int)))) rfl rfl rfl (H (I (w64 (o0+(1:Int)))) ?_)));exact O (mI (aB,(w64 (o0+(1:Int)))) _ _ ⟨xK,hfr,lH,mH,nH,oH,pH,qH,sH,tH,rfl,gG,iG⟩ h)
   ·clear hx
    obtain ⟨yK,hfr,xH,yH,zH,aI,bI,dI,jG,kG⟩:=hR;refine Za (aT (I (w64 (l5+(1:Int)))) kG rfl rfl (M (I (w64 (l5+(1:Int)))) ?_));exact O (kI (lB,(w64 (l5+(1:Int)))) _ _ ⟨yK,hfr,xH,yH,zH,aI,bI,dI,jG,rfl⟩ h)
  ·refine G0 aE rfl (Th (Gr (Gr (G2 ?_))))
   cases h;exact hQ _ _ ⟨zG,hfr,lE,nB⟩
 ·clear hx
  obtain ⟨rM,hfr,iI,jI⟩:=hR;refine Z (aQ iI ?_);obtain ⟨gp560,hs,rp560⟩:=OM.pub jI;have hfr:=hfr.stp hs;obtain ⟨zD,nJ,h⟩:=Z1 h;refine G (aJ (g:=gp560) (vs:=[v3,.bool true]) en117 (wk117 rp560 nJ) fun sM jL tM hs hr=>?_);have hfr:=hfr.ext hs;subst hr;refine H (I zD) (O (Gb ?_));obtain rfl:=sinj h;exact ac rfl (rq (I zD)) ⟨_,hfr,rfl⟩
def f95 (x0:Str):Option Bool:=
 Option.bind (α:=Bool) (
  (f56 (1:Int) (8:Int) ([(x0.b.length:Int)]:List Int)).bind fun y9=>
  bif y9 then
   (f132 x0 (fun a0=>f131 a0)).bind fun t5=>
   some (!t5)
  else
   some false
  ) fun l5=>
 some l5
theorem en95:Enters prog 95:=yC func95
theorem wk95 {x0:Str}  {r:Bool} (h:f95 x0=some r):Fn prog 95 #[Str.v x0] gI wI (fun _ _ v=>v=.bool r):=by
 unfold f95 at h;refine fnE func95 rfl rfl fun g0 hm hfr=>?_;refine Z (H (.bool false) (O (Z (H (.func (.func 131) #[] #[]) (O ?_)))));obtain ⟨l5,hx,h⟩:=Z1 h;refine Gn (xD gI wI fun e w g=>e 2=.bool l5) (fun Q' hQ=>?_) (fun n9 lB hR=>?_)
 ·replace h:=hx
  clear hx;refine Za (M (Str.v x0) (Y (I (x0.b.length:Int)) (Np underlying9 rfl) (G (Gd (g:=g0) 3006 (xs:=([(x0.b.length:Int)]:List Int)) (vs:=[I (x0.b.length:Int)]) underlying25 sizeOf3 zeroValue3 rfl rfl (.cons rfl .nil) (RVs.cons (Zj.2 rfl) RVs.nil) rfl rfl fun g7 w7 v7 hs o7 r7 hxt hfl=>?_))));have hfr:=hfr.stp hs;obtain ⟨y9,n8,h⟩:=Z1 h;refine G (aJ (g:=g7) (vs:=[I 1,I 8,v7]) en56 (wk56 r7 n8) fun g8 w8_ v8 hs hr=>?_);have hfr:=hfr.ext hs;subst hr;refine M (.bool y9) ?_;rcases Zt h with ⟨o0,h⟩ | ⟨o0,h⟩
  ·refine ag (Str.v x0) (ai) rfl rfl o0 (ag (.func (.func 131) #[] #[]) (ai) rfl rfl o0 ?_)
   obtain ⟨t5,l8,h⟩:=Z1 h;refine Ze (.yes2 rfl rfl o0) rfl (aJ (g:=g8) (vs:=[Str.v x0,.func (.func 131) #[] #[]]) en132 (wk132 ⟨131,#[],#[],rfl,en131,fun g' w' hch a0 b0 r hu0 hr=>by obtain rfl:=Ep.1 hu0;exact Fn.mono (wk131   hr) fun _ _ _ h=>Tz.2 h⟩ l8) fun l9 aB mB hs hr=>?_);have hfr:=hfr.ext hs;subst hr;refine ag (.bool (!t5)) (Qw rfl) rfl rfl o0 (Y (.bool (!t5)) (ae (b:=y9) (Tg o0 rfl)) (H (.bool (!t5)) (Zb ?_)));cases h;exact hQ _ _ ⟨l9,hfr,rfl⟩
  ·refine Zz rfl rfl o0 rfl rfl ?_
   iterate 3 refine Zz rfl rfl o0 rfl rfl ?_
   refine Y (.bool false) (ae (b:=y9) (Td o0 rfl)) (H (.bool false) (Zb ?_));cases h;exact hQ _ _ ⟨g8,hfr,rfl⟩
 ·clear hx
  obtain ⟨nB,hfr,i6⟩:=hR;refine Gb ?_;obtain rfl:=sinj h;exact ac rfl (show _=.bool l5 from i6) ⟨_,hfr,rfl⟩
def f102 (x0:List UInt8):Option (It (Vector UInt8 8)):=
 some (fun σ cons s=>f135 x0 σ cons s)
theorem en102:Enters prog 102:=yC func102
theorem wk102 {x0:List UInt8} (rp0:RV gI.m wI x0 up0) {r:It (Vector UInt8 8)} (h:f102 x0=some r):Fn prog 102 #[up0] gI wI (fun m w v=>ItV prog (RA1 (α:=(Vector UInt8 8))) r v m w):=by
 unfold f102 at h;refine fnE func102 rfl rfl fun g0 hm hfr=>?_;have rp0:=RVc hm rp0;refine Z (G (Tw (g:=g0) rfl rp0 fun g1 w1 p1 hs q1=>?_));have hfr:=hfr.ext hs;refine H (.nilFunc) (O (Z (Y (.func (.func 135) #[] #[p1]) (W3 (Vo (show X _ _=p1 from rfl))) (H (.func (.func 135) #[] #[p1]) (O (Gb ?_))))));cases h;exact ac rfl (rq (.func (.func 135) #[] #[p1])) ⟨_,hfr,(show ItV prog (RA1 (α:=(Vector UInt8 8))) (fun σ cons s=>f135 x0 σ cons s) (.func (.func 135) #[] #[p1]) g1.m w1 from ⟨135,#[],#[p1],rfl,en135,fun g' w' hch σ cons s s' h=>wk135  (q1.ch hch) h⟩)⟩
def f105 (x0:Gw) (x1:Int):Option Int:=
 jn (σ:=Unit) (fun _=>
  (idx ((x0.ChainBelt).Cards) x1).bind fun t5=>
  some t5.Row
  ) fun k19=>
 (idx ((x0.ChainBelt).Cards) x1).bind fun y23=>
 bif y23.Turned then
  (f146 x0.frame y23.Row).bind fun i6=>
  some i6
 else
  k19 ()
theorem en105:Enters prog 105:=yC func105
theorem wk105 {x0:Gw} {x1:Int} (rp0:RV gI.m wI x0 up0) {r:Int} (h:f105 x0 x1=some r):Fn prog 105 #[up0,I x1] gI wI (fun _ _ v=>v=I r):=by
 unfold f105 at h;refine fnE func105 rfl rfl fun g0 hm hfr=>?_;have rp0:=RVc hm rp0;refine Z (G (Tw (g:=g0) rfl rp0 fun g1 w1 p1 hs q1=>?_));have hfr:=hfr.ext hs;refine H (I 0) (O (Zq h (fun (s:Unit)=>xD gI wI fun e w g=>e 1=I (x1)∧e 2=p1∧PT g.m w (x0:Gw) p1) (fun X19 k19 cC h=>?_) ?_))
 ·refine Z (Y (S p1 0) (aa R4 (PT.ptr q1)) ?_)
  have aB:=Zm K5.1 q1;refine Y (S (S p1 0) 1) (aa H5 (PT.ptr aB)) ?_;have vC:=Zm Qu.1 aB;refine G (Ga (g:=g1) isAgg114 sizeOf114 rfl vC fun bD lB=>(M (I x1) ?_));obtain ⟨y23,l8,h⟩:=Z1 h;refine Y (Gy bD x1 3) (Zh (α:=Gi) underlying114 sizeOf118 rfl lB rfl l8) ?_;have cD:=G1 lB l8;refine G (Ga (g:=g1) isAgg118 sizeOf118 rfl cD fun lD n8=>(G (Gu (g:=g1) 2005 (⟨0,0,false⟩:Gi) zeroValue118 (fun m w=>⟨_,(Gg Zw (Gg Zw Bd)),rfl⟩) fun nD rE mB hs b26 cb=>?_)));have hfr:=hfr.stp hs;have q1:=q1.stp hs;have n8:=n8.stp hs;clear cb;refine G (Gk (g:=nD) (v:=lD) sizeOf118 rfl b26 rfl n8 fun o0 uE hs b27 cb=>?_);clear cb;have hfr:=hfr.stp hs;have q1:=q1.stp hs;refine O (Z (Y (S mB 2) (aa P2 (OB.ptr b27)) (G (Qd (g:=o0) Uq.1 isAgg4 sizeOf4 rfl b27 fun vE oD=>?_))));obtain rfl:=Tz.1 oD;refine O ?_;rcases Zt h with ⟨l5,h⟩ | ⟨l5,h⟩
  ·refine Gz l5 rfl (Z (Y (S p1 2) (aa Rr (PT.ptr q1)) ?_))
   have yD:=Zm K6.1 q1;refine G (Ga (g:=o0) isAgg198 sizeOf198 rfl yD fun xE zD=>?_);obtain rfl:=Zj.1 zD;refine Y (S mB 1) (aa Dn (OB.ptr b27)) (G (Qd (g:=o0) Hh.1 isAgg3 sizeOf3 rfl b27 fun yE aE=>?_));obtain rfl:=Zj.1 aE;obtain ⟨i6,uC,h⟩:=Z1 h;refine G (aJ (g:=o0) (vs:=[I x0.frame,I y23.Row]) en146 (wk146  uC) fun zE mE cF hs hr=>?_);have hfr:=hfr.ext hs;subst hr;refine H (I i6) (O (Gb (Gj ?_)));obtain rfl:=sinj h;exact ac rfl (rq (I i6)) ⟨_,hfr,rfl⟩
  ·refine G0 l5 rfl ?_
   exact Zu (Zd (cC () _ _ ⟨o0,hfr,rfl,rfl,q1⟩ h))
 ·rintro _ oE dF ⟨nB,hfr,l9,n9,g8⟩ h
  refine Z (Y (S p1 0) (Zc R4 n9 (PT.ptr g8)) ?_);have oB:=Zm K5.1 g8;refine Y (S (S p1 0) 1) (aa H5 (PT.ptr oB)) ?_;have bE:=Zm Qu.1 oB;refine G (Ga (g:=nB) isAgg114 sizeOf114 rfl bE fun vB yB=>(aQ l9 ?_));obtain ⟨t5,v8,h⟩:=Z1 h;refine Y (Gy vB x1 3) (Zh (α:=Gi) underlying114 sizeOf118 rfl yB rfl v8) ?_;have zB:=G1 yB v8;refine Y (S (Gy vB x1 3) 1) (aa Dn (PT.ptr zB)) ?_;have iE:=Zm Hh.1 zB;refine G (Ga (g:=nB) isAgg3 sizeOf3 rfl iE fun eF lE=>?_);obtain rfl:=Zj.1 lE;refine H (I t5.Row) (O (Gb ?_));obtain rfl:=sinj h;exact ac rfl (rq (I t5.Row)) ⟨_,hfr,rfl⟩
def f130 (x0:Int) (x1:List Gi):Option Bool:=
 Option.bind (α:=Bool) (
  bif (decide ((x1.length:Int)>(0:Int))) then
   (f161 x1 (fun a0=>f159 a0 x0)).bind fun y7=>
   some (!y7)
  else
   some false
  ) fun o0=>
 some o0
theorem en130:Enters prog 130:=yC func130
theorem wk130 {x0:Int} {x1:List Gi} (rp1:RV gI.m wI x1 up1) {r:Bool} (h:f130 x0 x1=some r):Fn prog 130 #[I x0,up1] gI wI (fun _ _ v=>v=.bool r):=by
 unfold f130 at h;refine fnE func130 rfl rfl fun g0 hm hfr=>?_;have rp1:=RVc hm rp1;refine Z (G (Tw (g:=g0) rfl (Zj.2 rfl) fun g1 w1 p1 hs q1=>?_));have hfr:=hfr.ext hs;have rp1:=rp1.ext hs;refine H (.bool false) (O (Z (Y (.func (.func 159) #[] #[p1]) (W3 (Vo (show X _ _=p1 from rfl))) (H (.func (.func 159) #[] #[p1]) (O ?_)))));obtain ⟨o0,hx,h⟩:=Z1 h;refine Gn (xD gI wI fun e w g=>e 4=.bool o0) (fun Q' hQ=>?_) (fun i6 w8 hR=>?_)
 ·replace h:=hx
  clear hx;refine Za (M up1 (Y (I (x1.length:Int)) (G7 underlying114 rfl rp1) (aT (.bool (decide ((x1.length:Int)>(0:Int)))) rfl rfl rfl (M (.bool (decide ((x1.length:Int)>(0:Int)))) ?_))));rcases Zt h with ⟨hc5,h⟩ | ⟨hc5,h⟩
  ·refine ag up1 (ai) rfl rfl hc5 (ag (.func (.func 159) #[] #[p1]) (ai) rfl rfl hc5 ?_)
   obtain ⟨y7,t5,h⟩:=Z1 h;refine Ze (.yes2 rfl rfl hc5) rfl (aJ (g:=g1) (vs:=[up1,(.func (.func 159) #[] #[p1])]) en161 (wk161 rp1 ⟨159,#[],#[p1],rfl,en159,fun g' w' hch a0 b0 r hu0 hr=>by exact Fn.mono (wk159 hu0 (q1.ch hch) hr) fun _ _ _ h=>Tz.2 h⟩ t5) fun g6 w6_ v6 hs hr=>?_);have hfr:=hfr.ext hs;subst hr;refine ag (.bool (!y7)) (Qw rfl) rfl rfl hc5 (Y (.bool (!y7)) (ae (b:=(decide ((x1.length:Int)>(0:Int)))) (Tg hc5 rfl)) (H (.bool (!y7)) (Zb ?_)));cases h;exact hQ _ _ ⟨g6,hfr,rfl⟩
  ·refine Zz rfl rfl hc5 rfl rfl ?_
   iterate 3 refine Zz rfl rfl hc5 rfl rfl ?_
   refine Y (.bool false) (ae (b:=(decide ((x1.length:Int)>(0:Int)))) (Td hc5 rfl)) (H (.bool false) (Zb ?_));cases h;exact hQ _ _ ⟨g1,hfr,rfl⟩
 ·clear hx
  obtain ⟨g8,hfr,l5⟩:=hR;refine Gb ?_;obtain rfl:=sinj h;exact ac rfl (show _=.bool o0 from l5) ⟨_,hfr,rfl⟩
def f12 (x0:List Z4):Option ((List UInt8) × Int × Int):=
 jn (σ:=Unit) (fun _=>
  jn (σ:=(List UInt8)) (fun oD=>
   some (oD,(0:Int),(0:Int))
   ) fun xH=>
  lp (σ:=(List UInt8) × Int) (fun yH (aB,o0)=>
   bif (decide (o0<(x0.length:Int))) then
    jn (σ:=(List UInt8)) (fun vB=>
     yH (vB,(w64 (o0+(1:Int))))
     ) fun zH=>
    (idx x0 o0).bind fun yB=>
    jn (σ:=Unit) (fun _=>
     (f34 yB).bind fun xF=>
     (cut xF.toList 0 ((8:Nat):Int)).bind fun yF=>
     (apnd 1 aB yF).bind fun zD=>
     zH zD
     ) fun aG=>
    (f32 yB).bind fun uC=>
    bif (!uC) then
     some ([],o0,(2:Int))
    else
     Option.bind (α:=Bool) (
      bif (decide (o0>(0:Int))) then
       (idx x0 (w64 (o0-(1:Int)))).bind fun bG=>
       (f33 bG yB).bind fun oB=>
       some (decide (oB≥(0:Int)))
      else
       some false
      ) fun lB=>
     bif lB then
      some ([],o0,(4:Int))
     else
      aG ()
   else
    xH aB
   ) big ([],(0:Int))
  ) fun k2=>
 bif (decide ((x0.length:Int)>(100:Int))) then
  some ([],(0:Int),(5:Int))
 else
  k2 ()
theorem en12:Enters prog 12:=yC func12
theorem wk12 {x0:List Z4} (rp0:RV gI.m wI x0 up0) {r:(List UInt8) × Int × Int} (h:f12 x0=some r):Fn prog 12 #[up0] gI wI (fun m w v=>∃ y0 y1 y2,v=.tuple #[y0,y1,y2]∧RV m w r.1 y0∧y1=I (r.2.1)∧y2=I r.2.2):=by
 unfold f12 at h;refine fnE func12 rfl rfl fun g0 hm hfr=>?_;have rp0:=RVc hm rp0;refine Z (H (.slice none 0 0) (H (I 0) (H (I 0) (O (Zq h (fun (s:Unit)=>xD gI wI fun e w g=>e 0=up0∧RV g.m w (x0:List Z4) up0∧e 2=.slice none 0 0∧RV g.m w ([]:List UInt8) (Value.slice none 0 0)) (fun X2 k2 hk2 h=>?_) ?_)))))
 ·refine Z (M up0 (Y (I (x0.length:Int)) (G7 underlying54 rfl rp0) (aT (.bool (decide ((x0.length:Int)>(100:Int)))) rfl rfl rfl (O ?_))))
  rcases Zt h with ⟨hc3,h⟩ | ⟨hc3,h⟩
  ·refine Gz hc3 rfl (Z (H (.slice none 0 0) (H (I 0) (H (I 5) (O (Gb (Gj ?_)))))))
   cases h;exact Yi rfl rfl (rq (.slice none 0 0)) (rq (I 0)) (rq (I 5)) ⟨_,hfr,_,_,_,rfl,T8,rfl,rfl⟩
  ·refine G0 hc3 rfl ?_
   exact Zu (Zd (hk2 () _ _ ⟨g0,hfr,rfl,rp0,rfl,T8⟩ h))
 ·rintro _ cM w4 ⟨g4,hfr,aI,rE,lK,mK⟩ h
  refine Zq h (fun (s:(List UInt8)) e w=>∃ (g:Gh) (v2:Value),Fr gI wI g w∧e 2=v2∧RV g.m w (s:List UInt8) v2∧OS 1002 g w 5 (s:List UInt8) v2) (fun X587 xH pI h=>?_) ?_
  ·refine Z (aQ aI (Y (I (x0.length:Int)) (G7 underlying54 rfl rE) (M (I 0) (O (Zr (Qz h (fun (s:(List UInt8) × Int) e w=>∃ (g:Gh) (v2:Value),Fr gI wI g w∧e 0=up0∧RV g.m w (x0:List Z4) up0∧e 2=v2∧RV g.m w (s.1:List UInt8) v2∧OS 1002 g w 5 (s.1:List UInt8) v2∧e 11=up0∧RV g.m w (x0:List Z4) up0∧e 12=I (x0.length:Int)∧e 13=I s.2) ⟨g4,(.slice none 0 0),hfr,aI,rE,lK,mK,OS.nil,rfl,rE,rfl,rfl⟩ (fun X588 yH qI=>?_)))))))
   rintro ⟨aB,o0⟩ zK zL ⟨uE,mB,hfr,vC,i6,bD,g8,l8,zB,l5,cC,nB⟩ h;refine Z (aT (.bool (decide (o0<(x0.length:Int)))) nB cC rfl (O (Zf ?_)));rcases Zt h with ⟨aE,h⟩ | ⟨aE,h⟩
   ·refine Gz aE rfl (Zu (Zd (Zq h (fun (s:(List UInt8)) e w=>∃ (g:Gh) (v2:Value),Fr gI wI g w∧e 0=up0∧RV g.m w (x0:List Z4) up0∧e 2=v2∧RV g.m w (s:List UInt8) v2∧OS 1002 g w 5 (s:List UInt8) v2∧e 11=up0∧RV g.m w (x0:List Z4) up0∧e 12=I (x0.length:Int)∧e 13=I o0) (fun X879 zH sI h=>?_) ?_)))
    ·refine Zr (Z (aQ nB ?_))
     obtain ⟨yB,cG,h⟩:=Z1 h;refine Y (Gy up0 o0 5) (Zh (α:=Z4) underlying54 sizeOf61 zB l5 nB cG) ?_;have nK:=G1 l5 cG;refine G (Ga (g:=uE) isAgg61 sizeOf61 rfl nK fun oK vE=>(G (Gu (g:=uE) 2006 (⟨0,0,0,0,0⟩:Z4) zeroValue61 (fun m w=>⟨_,(Gg Zw (Gg Zw (Gg Zw (Gg Zw Zw)))),rfl⟩) fun pK aM bE hs b883 cb=>?_)));have hfr:=hfr.stp hs;have i6:=i6.stp hs;have g8:=g8.stp hs;have l8:=l8.stp hs rfl;have l5:=l5.stp hs;have vE:=vE.stp hs;clear cb;refine H (I o0) (G (Gk (g:=pK) (v:=oK) sizeOf61 rfl b883 rfl vE fun bI bM hs b884 cb=>?_));clear cb;have hfr:=hfr.stp hs;have i6:=i6.stp hs;have g8:=g8.stp hs;have l8:=l8.stp hs rfl;have l5:=l5.stp hs;refine O (Zq h (fun (s:Unit)=>xD gI wI fun e w g=>e 0=up0∧RV g.m w (x0:List Z4) up0∧e 2=mB∧RV g.m w (aB:List UInt8) mB∧OS 1002 g w 5 (aB:List UInt8) mB∧e 6=bE∧OB 2006 g w 61 (yB:Z4) bE∧e 11=up0∧RV g.m w (x0:List Z4) up0∧e 12=I (x0.length:Int)∧e 13=I o0) (fun X1021 aG dI h=>?_) ?_)
     ·refine Zr (Z (G (Tr (g:=bI) isAgg61 sizeOf61 rfl b884 fun jJ kJ=>?_)))
      obtain ⟨uC,iI,h⟩:=Z1 h;refine G (aJ (g:=bI) (vs:=[jJ]) en32 (wk32 kJ iI) fun eG sK aL hs hr=>?_);have hfr:=hfr.ext hs;have i6:=i6.ext hs;have g8:=g8.ext hs;have l8:=l8.ext hs;have l5:=l5.ext hs;have b884:=b884.ext hs;subst hr;refine Y (.bool (!uC)) (Qw rfl) (H (.bool (!uC)) (O ?_));rcases Zt h with ⟨cD,h⟩ | ⟨cD,h⟩
      ·refine Gz cD rfl (Z (M (I o0) (H (.slice none 0 0) (H (I o0) (H (I 2) (O (Gb (G6 (Gj (G6 (Gj (Gj (G6 (Gj ?_))))))))))))))
       obtain rfl:=sinj h;exact Yi rfl rfl (rq (.slice none 0 0)) (rq (I o0)) (rq (I 2)) ⟨_,hfr,_,_,_,rfl,T8,rfl,rfl⟩
      ·refine G0 cD rfl ?_
       obtain ⟨lB,hx,h⟩:=Z1 h;refine Gn (xD gI wI fun e w g=>e 0=up0∧RV g.m w (x0:List Z4) up0∧e 2=mB∧RV g.m w (aB:List UInt8) mB∧OS 1002 g w 5 (aB:List UInt8) mB∧e 5=I (o0)∧e 6=bE∧OB 2006 g w 61 (yB:Z4) bE∧e 11=up0∧RV g.m w (x0:List Z4) up0∧e 12=I (x0.length:Int)∧e 13=I (o0)∧e 23=.bool lB) (fun Q' hQ=>?_) (fun tK bL hR=>?_)
       ·replace h:=hx
        clear hx;rcases Zt h with ⟨v8,h⟩ | ⟨v8,h⟩
        ·obtain ⟨bG,mE,h⟩:=Z1 h
         have lJ:=G1 i6 mE;refine Zs (x:=.tmp 30) isAgg61 sizeOf61 lJ fun gG mJ jI=>(Qy (x:=.tmp 6) isAgg61 sizeOf61 b884 fun iG nJ kI=>?_);obtain ⟨oB,lI,h⟩:=Z1 h;refine ab (g:=eG) (n:=13) [(9,(fun v g w=>v=I oB))] [0,1,2,3,4,5,6,7,8,9,10,11,12] mixed (⟨fun _=>Ww _,trivial⟩) (V (I o0) rfl (ai) (V (.bool (decide (o0>(0:Int)))) rfl (Gp rfl rfl rfl) (V (.bool (decide (o0>(0:Int)))) rfl (ai) (L_y up0 rfl rfl rfl rfl v8 (Zk vC) (L_y (I o0) rfl rfl rfl rfl v8 (ai) (L_y (I (w64 (o0-(1:Int)))) rfl rfl rfl rfl v8 (Gp rfl rfl rfl) (L_y (Gy up0 (w64 (o0-(1:Int))) 5) rfl rfl rfl rfl v8 (Zh (α:=Z4) underlying54 sizeOf61 rfl i6 rfl mE) (G3 (c:=gG) rfl rfl (.yes2 rfl rfl v8) (fun _ _ h=>h.ch) jI rfl (G3 (c:=iG) rfl rfl (.yes2 rfl rfl v8) xB kI rfl (Wd (φ:=fun v g w=>v=I oB) rfl rfl (.yes2 rfl rfl v8) (fun g w hd=>aJ (g:=g) (vs:=[gG,iG]) en33 (wk33 (mJ.ext hd.1) (nJ.ext hd.1) lI) fun g' w' v hs hr=>⟨g',hs,hr⟩) (fun dL hv=>?_)))))))))));obtain ⟨_,_,_,rfl⟩:=hv;refine L_y (.bool (decide (oB≥(0:Int)))) rfl rfl rfl rfl v8 (Gp rfl rfl rfl) (V (.bool (decide (oB≥(0:Int)))) rfl (ae (b:=(decide (o0>(0:Int)))) (Tg v8 rfl)) (V (.bool (decide (oB≥(0:Int)))) rfl (Tp rfl) (Ki fun oJ eL hs=>?_)));have hfr:=hfr.ext hs;have i6:=i6.ext hs;have g8:=g8.ext hs;have l8:=l8.ext hs;have l5:=l5.ext hs;have b884:=b884.ext hs;clear hs;refine Zb ?_;cases h;exact hQ _ _ ⟨oJ,hfr,vC,i6,bD,g8,l8,rfl,rfl,b884,zB,l5,cC,nB,rfl⟩
        ·refine ab (g:=eG) (n:=13) [] [0,1,2,3,4,5,6,7,8,9,10,11,12] mixed trivial (V (I o0) rfl (ai) (V (.bool (decide (o0>(0:Int)))) rfl (Gp rfl rfl rfl) (V (.bool (decide (o0>(0:Int)))) rfl (ai) ?_)))
         iterate 8 refine L_s rfl rfl rfl v8 rfl ?_
         refine V (.bool false) rfl (ae (b:=(decide (o0>(0:Int)))) (Td v8 rfl)) (V (.bool false) rfl (Tp rfl) (Ki fun pJ gL hs=>?_));have hfr:=hfr.ext hs;have i6:=i6.ext hs;have g8:=g8.ext hs;have l8:=l8.ext hs;have l5:=l5.ext hs;have b884:=b884.ext hs;clear hs;refine Zb ?_;cases h;exact hQ _ _ ⟨pJ,hfr,vC,i6,bD,g8,l8,rfl,rfl,b884,zB,l5,cC,nB,rfl⟩
       ·clear hx
        obtain ⟨qJ,hfr,lG,mG,sG,xG,yG,zG,aH,cH,xE,yE,zE,cF,lD⟩:=hR;rcases Zt h with ⟨nD,h⟩ | ⟨nD,h⟩
        ·refine Ta (Eq.trans (show X _ _=.bool lB from lD) (congrArg Value.bool nD)) (Z (aQ zG (H (.slice none 0 0) (H (I o0) (H (I 4) (O (Gb (G6 (Gj (G6 (Gj (Gj (G6 (Gj ?_))))))))))))))
         obtain rfl:=sinj h;exact Yi rfl rfl (rq (.slice none 0 0)) (rq (I o0)) (rq (I 4)) ⟨_,hfr,_,_,_,rfl,T8,rfl,rfl⟩
        ·refine Gv (Eq.trans (show X _ _=.bool lB from lD) (congrArg Value.bool nD)) ?_
         exact Zu (Te (Zd (dI () _ _ ⟨qJ,hfr,lG,mG,sG,xG,yG,aH,cH,xE,yE,zE,cF⟩ h)))
     ·rintro _ uK iL ⟨jG,hfr,gH,n8,jH,l9,n9,kH,lH,dF,t5,eF,rF⟩ h
      refine Z (G (Tr (g:=jG) isAgg61 sizeOf61 kH lH fun rJ sJ=>?_));obtain ⟨xF,mI,h⟩:=Z1 h;refine G (aJ (g:=jG) (vs:=[rJ]) en34 (wk34 sJ mI) fun vJ vK xJ hs hr=>?_);have hfr:=hfr.ext hs;have n8:=n8.ext hs;have l9:=l9.ext hs;have n9:=n9.ext hs;have t5:=t5.ext hs;have iE:=hr;refine G (Gu (g:=vJ) 2007 ((⟨List.toArray [0,0,0,0,0,0,0,0],rfl⟩:Vector UInt8 8):Vector UInt8 8) zeroValue104 (fun m w=>⟨_,(K8 (Zv Qf (Zv Qf (Zv Qf (Zv Qf (Zv Qf (Zv Qf (Zv Qf (Zv Qf K0)))))))) rfl),rfl⟩) fun zJ jL lE hs b1162 cb=>?_);have hfr:=hfr.stp hs;have n8:=n8.stp hs;have l9:=l9.stp hs;have n9:=n9.stp hs rfl;have t5:=t5.stp hs;have iE:=iE.stp hs;clear cb;refine G (Gk (g:=zJ) (v:=xJ) sizeOf104 rfl b1162 rfl iE fun lL mL hs b1163 cb=>?_);clear cb;have hfr:=hfr.stp hs;have n8:=n8.stp hs;have l9:=l9.stp hs;have n9:=n9.stp hs rfl;have t5:=t5.stp hs;obtain ⟨gp1163,hs,qp1163⟩:=OB.pub b1163;have hfr:=hfr.stp hs;have n8:=n8.stp hs;have l9:=l9.stp hs;have n9:=n9.stp hs rfl;have t5:=t5.stp hs;refine O (Za (aQ jH ?_));obtain ⟨yF,oE,h⟩:=Z1 h;have aK:=Cj (Ev (p:=lE) qp1163) oE;refine Y (Ky (Rx lE 8) 0 (Int.toNat ((8:Nat):Int)) 1) (R5 (p:=lE) underlying104 sizeOf5 rfl qp1163 rfl oE) ?_;obtain ⟨zD,nI,h⟩:=Z1 h;refine G (Qe (g:=gp1163) (i:=1002) underlying63 F6 rfl rfl n9 l9 rfl aK nI fun bK nL kG hs o1166 cK _=>?_);have hfr:=hfr.stp hs;have n8:=n8.stp hs;have t5:=t5.stp hs;refine H kG ?_;exact Zb (Te (Zd (sI zD _ _ ⟨bK,kG,hfr,gH,n8,rfl,cK,o1166,dF,t5,eF,rF⟩ h)))
    ·rintro vB xK oL ⟨dK,mH,hfr,nH,oH,pH,qH,sH,sF,tF,uF,vF⟩ h
     refine Za (aT (I (w64 (o0+(1:Int)))) vF rfl rfl (M (I (w64 (o0+(1:Int)))) ?_));exact O (qI (vB,(w64 (o0+(1:Int)))) _ _ ⟨dK,mH,hfr,nH,oH,pH,qH,sH,sF,tF,uF,rfl⟩ h)
   ·refine G0 aE rfl (Th (Gr (Gr (G2 ?_))))
    exact Zd (pI aB _ _ ⟨uE,mB,hfr,bD,g8,l8⟩ h)
  ·rintro oD yK xL ⟨yL,yD,hfr,tH,uH,qK⟩ h
   refine Z (aQ tH (H yD (H (I 0) (H (I 0) (O (Gb ?_))))));obtain rfl:=sinj h;exact Yi rfl rfl (rq yD) (rq (I 0)) (rq (I 0)) ⟨_,hfr,_,_,_,rfl,uH,rfl,rfl⟩
def f28 (x0:Z3):Option Bool:=
 (f29 ([x0.From]:List Int)).bind fun y6=>
 some (!y6)
theorem en28:Enters prog 28:=yC func28
theorem wk28 {x0:Z3} (rp0:RV gI.m wI x0 up0) {r:Bool} (h:f28 x0=some r):Fn prog 28 #[up0] gI wI (fun _ _ v=>v=.bool r):=by
 unfold f28 at h;refine fnE func28 rfl rfl fun g0 hm hfr=>?_;have rp0:=RVc hm rp0;refine Z (G (Tw (g:=g0) rfl rp0 fun g1 w1 p1 hs q1=>?_));have hfr:=hfr.ext hs;refine H (.bool false) (O (Z (Y (S p1 2) (aa Ws (PT.ptr q1)) ?_)));have q2:=Zm Ty.1 q1;refine G (Ga (g:=g1) isAgg3 sizeOf3 rfl q2 fun v3 r3=>?_);obtain rfl:=Zj.1 r3;refine G (Gd (g:=g1) 3005 (xs:=([x0.From]:List Int)) (vs:=[I x0.From]) underlying25 sizeOf3 zeroValue3 rfl rfl (.cons rfl .nil) (RVs.cons (Zj.2 rfl) RVs.nil) rfl rfl fun g4 w4 v4 hs o4 r4 hxt hfl=>?_);have hfr:=hfr.stp hs;obtain ⟨y6,o0,h⟩:=Z1 h;refine G (aJ (g:=g4) (vs:=[v4]) en29 (wk29 r4 o0) fun g5 w5_ v5 hs hr=>?_);have hfr:=hfr.ext hs;subst hr;refine Y (.bool (!y6)) (Qw rfl) (H (.bool (!y6)) (O (Gb ?_)));cases h;exact ac rfl (rq (.bool (!y6))) ⟨_,hfr,rfl⟩
def f42 (x0:List UInt8):Option ((List Z4) × Int):=
 jn (σ:=Unit) (fun _=>
  (F9 8 x0).bind fun y5=>
  jn (σ:=Unit) (fun _=>
   Option.bind (α:=(List Z4)) (
    lp (σ:=(List Z4) × Int) (fun dF (yB,l5)=>
     bif (decide (l5<(8:Int))) then
      Option.bind (α:=(List Z4)) (
       lp (σ:=(List Z4) × Int) (fun eF (lB,l8)=>
        bif (decide (l8<(256:Int))) then
         Option.bind (α:=(List Z4)) (
          (idx y5.toList l5).bind fun qH=>
          (f80 (Ja y5 l5 (u8w l8))).bind fun v8=>
          bif (v8.2==(0:Int)) then
           (apnd 40 lB ([v8.1]:List Z4)).bind fun rF=>
           some rF
          else
           some lB
          ) fun l9=>
         eF (l9,(w64 (l8+(1:Int))))
        else
         some lB
        ) big (yB,(0:Int))
       ) fun n9=>
      dF (n9,(w64 (l5+(1:Int))))
     else
      some yB
     ) big ([],(0:Int))
    ) fun mB=>
   some (mB,(0:Int))
   ) fun pH=>
  (f80 y5).bind fun zB=>
  bif (zB.2==(0:Int)) then
   some ([],(6:Int))
  else
   pH ()
  ) fun k2=>
 bif ((x0.length:Int) != (8:Int)) then
  some ([],(4:Int))
 else
  k2 ()
theorem en42:Enters prog 42:=yC func42
theorem wk42 {x0:List UInt8} (rp0:RV gI.m wI x0 up0) {r:(List Z4) × Int} (h:f42 x0=some r):Fn prog 42 #[up0] gI wI (fun m w v=>∃ y0 y1,v=.tuple #[y0,y1]∧RV m w r.1 y0∧y1=I r.2):=by
 unfold f42 at h;refine fnE func42 rfl rfl fun g0 hm hfr=>?_;have rp0:=RVc hm rp0;refine Z (H (.slice none 0 0) (H (I 0) (O (Zq h (fun (s:Unit)=>xD gI wI fun e w g=>e 0=up0∧RV g.m w (x0:List UInt8) up0∧e 2=.slice none 0 0∧RV g.m w ([]:List Z4) (Value.slice none 0 0)) (fun X2 k2 hk2 h=>?_) ?_))))
 ·refine Z (M up0 (Y (I (x0.length:Int)) (G7 underlying63 rfl rp0) (aT (.bool ((x0.length:Int) != (8:Int))) rfl rfl rfl (O ?_))))
  rcases Zt h with ⟨hc3,h⟩ | ⟨hc3,h⟩
  ·refine Gz hc3 rfl (Z (H (.slice none 0 0) (H (I 4) (O (Gb (Gj ?_))))))
   cases h;exact H9 rfl rfl (rq (.slice none 0 0)) (rq (I 4)) ⟨_,hfr,_,_,rfl,T8,rfl⟩
  ·refine G0 hc3 rfl ?_
   exact Zu (Zd (hk2 () _ _ ⟨g0,hfr,rfl,rp0,rfl,T8⟩ h))
 ·rintro _ iL w4 ⟨g4,hfr,sH,sF,tH,n8⟩ h
  refine Z (aQ sH ?_);obtain ⟨y5,hy5,h⟩:=Z1 h;have q6:=Ma sF hy5;refine Y (ptrV up0) (Ny underlying104 rfl sF hy5) (G (Ga (g:=g4) isAgg104 sizeOf104 rfl q6 fun v7 r7=>(G (Gu (g:=g4) 2004 ((⟨List.toArray [0,0,0,0,0,0,0,0],rfl⟩:Vector UInt8 8):Vector UInt8 8) zeroValue104 (fun m w=>⟨_,(K8 (Zv Qf (Zv Qf (Zv Qf (Zv Qf (Zv Qf (Zv Qf (Zv Qf (Zv Qf K0)))))))) rfl),rfl⟩) fun g8 w8 p8 hs b8 cb=>?_))));have hfr:=hfr.stp hs;have n8:=n8.stp hs;have r7:=r7.stp hs;clear cb;refine G (Gk (g:=g8) (v:=v7) sizeOf104 rfl b8 rfl r7 fun g9 w9 hs b9 cb=>?_);clear cb;have hfr:=hfr.stp hs;have n8:=n8.stp hs;refine O (Zq h (fun (s:Unit)=>xD gI wI fun e w g=>e 2=.slice none 0 0∧RV g.m w ([]:List Z4) (Value.slice none 0 0)∧e 4=p8∧OB 2004 g w 104 (y5:Vector UInt8 8) p8) (fun X16 pH uH h=>?_) ?_)
  ·refine Z (G (Tr (g:=g9) isAgg104 sizeOf104 rfl b9 fun lJ mJ=>?_))
   obtain ⟨zB,xH,h⟩:=Z1 h;refine G (aJ (g:=g9) (vs:=[lJ]) en80 (wk80 mJ xH) fun nJ lK jL hs hr=>?_);have hfr:=hfr.ext hs;have n8:=n8.ext hs;have b9:=b9.ext hs;obtain ⟨cD,vJ,rfl,lD,rfl⟩:=hr;refine M (.tuple #[cD,I zB.2]) (Y cD (Zi rfl rfl) (Y (I zB.2) (Zi rfl rfl) (G (Gu (g:=nJ) 2005 (⟨0,0,0,0,0⟩:Z4) zeroValue61 (fun m w=>⟨_,(Gg Zw (Gg Zw (Gg Zw (Gg Zw Zw)))),rfl⟩) fun oJ lL mL hs b20 cb=>?_))));have hfr:=hfr.stp hs;have n8:=n8.stp hs;have b9:=b9.stp hs rfl;have lD:=lD.stp hs;clear cb;refine G (Gk (g:=oJ) (v:=cD) sizeOf61 rfl b20 rfl lD fun pJ nL hs b21 cb=>?_);clear cb;have hfr:=hfr.stp hs;have n8:=n8.stp hs;have b9:=b9.stp hs rfl;refine H (I zB.2) (O (Z (M (I zB.2) (aT (.bool (zB.2==(0:Int))) rfl rfl rfl (O ?_)))));rcases Zt h with ⟨oE,h⟩ | ⟨oE,h⟩
   ·refine Gz oE rfl (Z (H (.slice none 0 0) (H (I 6) (O (Gb (Gj ?_))))))
    cases h;exact H9 rfl rfl (rq (.slice none 0 0)) (rq (I 6)) ⟨_,hfr,_,_,rfl,T8,rfl⟩
   ·refine G0 oE rfl ?_
    exact Zu (Zd (uH () _ _ ⟨pJ,hfr,tH,n8,rfl,b9⟩ h))
  ·rintro _ mK oL ⟨qJ,hfr,cH,gH,jH,kH⟩ h
   obtain ⟨mB,hx,h⟩:=Z1 h;refine Gn (fun e w=>∃ (g:Gh) (v2:Value),Fr gI wI g w∧e 2=v2∧RV g.m w (mB:List Z4) v2∧OS 1002 g w 61 (mB:List Z4) v2) (fun Q' hQ=>?_) (fun xJ nK hR=>?_)
   ·replace h:=hx
    clear hx;refine Z (M (I 0) (O (Zr (Qz h (fun (s:(List Z4) × Int) e w=>∃ (g:Gh) (v2:Value),Fr gI wI g w∧e 2=v2∧RV g.m w (s.1:List Z4) v2∧OS 1002 g w 61 (s.1:List Z4) v2∧e 4=p8∧OB 2004 g w 104 (y5:Vector UInt8 8) p8∧e 25=I s.2) ⟨qJ,(.slice none 0 0),hfr,cH,gH,OS.nil,jH,kH,rfl⟩ (fun X101 dF lH=>?_)))));rintro ⟨yB,l5⟩ zJ oK ⟨tF,zD,hfr,aE,bE,iE,uF,vF,oB⟩ h;refine Z (aT (.bool (decide (l5<(8:Int)))) oB rfl rfl (O (Zf ?_)));rcases Zt h with ⟨nD,h⟩ | ⟨nD,h⟩
    ·refine Gz nD rfl (Zu (Zd ?_))
     obtain ⟨n9,hx,h⟩:=Z1 h;refine Gn (fun e w=>∃ (g:Gh) (v2:Value),Fr gI wI g w∧e 2=v2∧RV g.m w (n9:List Z4) v2∧OS 1002 g w 61 (n9:List Z4) v2∧e 4=p8∧OB 2004 g w 104 (y5:Vector UInt8 8) p8∧e 25=I l5) (fun Q' hQ=>?_) (fun aK pK hR=>?_)
     ·replace h:=hx
      clear hx;refine Zr (Z (aQ oB (H (I l5) (O (Z (M (I 0) (O (Zr (Qz h (fun (s:(List Z4) × Int) e w=>∃ (g:Gh) (v2:Value),Fr gI wI g w∧e 2=v2∧RV g.m w (s.1:List Z4) v2∧OS 1002 g w 61 (s.1:List Z4) v2∧e 4=p8∧OB 2004 g w 104 (y5:Vector UInt8 8) p8∧e 7=I (l5)∧e 25=I (l5)∧e 28=I s.2) ⟨tF,zD,hfr,aE,bE,iE,uF,vF,rfl,oB,rfl⟩ (fun X140 eF mH=>?_))))))))));rintro ⟨lB,l8⟩ bK qK ⟨rE,lE,hfr,cC,t5,i6,nB,o0,uC,vB,aB⟩ h;refine Z (aT (.bool (decide (l8<(256:Int)))) aB rfl rfl (O (Zf ?_)));rcases Zt h with ⟨oD,h⟩ | ⟨oD,h⟩
      ·refine Gz oD rfl (Zu (Zd ?_))
       obtain ⟨l9,hx,h⟩:=Z1 h;refine Gn (fun e w=>∃ (g:Gh) (v2:Value),Fr gI wI g w∧e 2=v2∧RV g.m w (l9:List Z4) v2∧OS 1002 g w 61 (l9:List Z4) v2∧e 4=p8∧OB 2004 g w 104 (y5:Vector UInt8 8) p8∧e 7=I (l5)∧e 25=I (l5)∧e 28=I l8) (fun Q' hQ=>?_) (fun cK sK hR=>?_)
       ·replace h:=hx
        clear hx;refine Zr (Z (aQ aB (H (I l8) (O (Z (G (Tr (g:=rE) isAgg104 sizeOf104 nB o0 fun yH uE=>(G (Gu (g:=rE) 2009 ((⟨List.toArray [0,0,0,0,0,0,0,0],rfl⟩:Vector UInt8 8):Vector UInt8 8) zeroValue104 (fun m w=>⟨_,(K8 (Zv Qf (Zv Qf (Zv Qf (Zv Qf (Zv Qf (Zv Qf (Zv Qf (Zv Qf K0)))))))) rfl),rfl⟩) fun zH tK aI hs b160 cb=>?_)))))))));have hfr:=hfr.stp hs;have t5:=t5.stp hs;have i6:=i6.stp hs rfl;have o0:=o0.stp hs rfl;have uE:=uE.stp hs;clear cb;refine G (Gk (g:=zH) (v:=yH) sizeOf104 rfl b160 rfl uE fun bI uK hs b161 cb=>?_);clear cb;have hfr:=hfr.stp hs;have t5:=t5.stp hs;have i6:=i6.stp hs rfl;have o0:=o0.stp hs rfl;refine O (Z (aQ uC (M (I l8) (Y (.int .u8 (UInt8.toNat (u8w l8))) (Y0 underlying3 underlying5 rfl) ?_))));obtain ⟨qH,xE,h⟩:=Z1 h;obtain ⟨hi163,he163⟩:=H6 xE;refine Y (S aI ((l5:Int).toNat*1)) (G9 (α:=UInt8) underlying104 sizeOf5 rfl (OB.ptr b161) rfl xE) (G (Wc (g:=bI) (Gl.dyn hi163) sizeOf5 rfl b161 rfl (Wa.2 rfl) fun xF vK hs b164 rst hos=>?_));clear rst hos;have hfr:=hfr.stp hs;have t5:=t5.stp hs;have i6:=i6.stp hs rfl;have o0:=o0.stp hs rfl;refine O (Z (G (Tr (g:=xF) isAgg104 sizeOf104 rfl b164 fun dI iI=>?_)));obtain ⟨v8,nH,h⟩:=Z1 h;refine G (aJ (g:=xF) (vs:=[dI]) en80 (wk80 iI nH) fun jI dK xK hs hr=>?_);have hfr:=hfr.ext hs;have t5:=t5.ext hs;have i6:=i6.ext hs;have o0:=o0.ext hs;obtain ⟨vC,rJ,rfl,bD,rfl⟩:=hr;refine M (.tuple #[vC,I v8.2]) (Y vC (Zi rfl rfl) (Y (I v8.2) (Zi rfl rfl) (G (Gu (g:=jI) 2010 (⟨0,0,0,0,0⟩:Z4) zeroValue61 (fun m w=>⟨_,(Gg Zw (Gg Zw (Gg Zw (Gg Zw Zw)))),rfl⟩) fun kI yK zK hs b168 cb=>?_))));have hfr:=hfr.stp hs;have t5:=t5.stp hs;have i6:=i6.stp hs rfl;have o0:=o0.stp hs rfl;have bD:=bD.stp hs;clear cb;refine G (Gk (g:=kI) (v:=vC) sizeOf61 rfl b168 rfl bD fun vE aL hs b169 cb=>?_);clear cb;have hfr:=hfr.stp hs;have t5:=t5.stp hs;have i6:=i6.stp hs rfl;have o0:=o0.stp hs rfl;refine H (I v8.2) (O (Z (M (I v8.2) (aT (.bool (v8.2==(0:Int))) rfl rfl rfl (O ?_)))));rcases Zt h with ⟨yD,h⟩ | ⟨yD,h⟩
        ·refine Gz yD rfl (Za (aQ cC (G (Tr (g:=vE) isAgg61 sizeOf61 rfl b169 fun lI mI=>(G (Gd (g:=vE) 3045 (xs:=([v8.1]:List Z4)) (vs:=[lI]) underlying54 sizeOf61 zeroValue61 rfl rfl (.cons rfl .nil) (RVs.cons mI RVs.nil) rfl rfl fun nI bL dL hs o172 pI hxt hfl=>?_))))))
         have hfr:=hfr.stp hs;have t5:=t5.stp hs;have i6:=i6.stp hs rfl;have o0:=o0.stp hs rfl;obtain ⟨rF,oH,h⟩:=Z1 h;refine G (Qe (g:=nI) (i:=1002) underlying54 S4 rfl rfl i6 t5 rfl pI oH fun qI eL yF hs o173 sI _=>?_);have hfr:=hfr.stp hs;have o0:=o0.stp hs rfl;refine H yF (Zb (Te ?_));cases h;exact hQ _ _ ⟨qI,yF,hfr,rfl,sI,o173,nB,o0,uC,vB,aB⟩
        ·refine G0 yD rfl (Zu (Te ?_))
         cases h;exact hQ _ _ ⟨vE,lE,hfr,cC,t5,i6,nB,o0,uC,vB,aB⟩
       ·clear hx
        obtain ⟨jJ,aG,hfr,bG,cG,eG,gG,iG,jG,yE,zE⟩:=hR;refine Za (aT (I (w64 (l8+(1:Int)))) zE rfl rfl (M (I (w64 (l8+(1:Int)))) ?_));exact O (mH (l9,(w64 (l8+(1:Int)))) _ _ ⟨jJ,aG,hfr,bG,cG,eG,gG,iG,jG,yE,rfl⟩ h)
      ·refine G0 oD rfl (Th (Gr (Gr (G2 (Te ?_)))))
       cases h;exact hQ _ _ ⟨rE,lE,hfr,cC,t5,i6,nB,o0,vB⟩
     ·clear hx
      obtain ⟨kJ,kG,hfr,lG,mG,sG,xG,yG,cF⟩:=hR;refine Za (aT (I (w64 (l5+(1:Int)))) cF rfl rfl (M (I (w64 (l5+(1:Int)))) ?_));exact O (lH (n9,(w64 (l5+(1:Int)))) _ _ ⟨kJ,kG,hfr,lG,mG,sG,xG,yG,rfl⟩ h)
    ·refine G0 nD rfl (Th (Gr (Gr (G2 ?_))))
     cases h;exact hQ _ _ ⟨tF,zD,hfr,aE,bE,iE⟩
   ·clear hx
    obtain ⟨gL,mE,hfr,zG,aH,sJ⟩:=hR;refine Z (aQ zG (H mE (H (I 0) (O (Gb ?_)))));obtain rfl:=sinj h;exact H9 rfl rfl (rq mE) (rq (I 0)) ⟨_,hfr,_,_,rfl,aH,rfl⟩
def f43 (x0:Z5):Option Bool:=
 (f44 x0).bind fun y4=>
 some (!y4)
theorem en43:Enters prog 43:=yC func43
theorem wk43 {x0:Z5} (rp0:RV gI.m wI x0 up0) {r:Bool} (h:f43 x0=some r):Fn prog 43 #[up0] gI wI (fun _ _ v=>v=.bool r):=by
 unfold f43 at h;refine fnE func43 rfl rfl fun g0 hm hfr=>?_;have rp0:=RVc hm rp0;refine Z (G (Tw (g:=g0) rfl rp0 fun g1 w1 p1 hs q1=>?_));have hfr:=hfr.ext hs;refine H (.bool false) (O (Z (G (Ga (g:=g1) isAgg59 sizeOf59 rfl q1 fun v2 r2=>?_))));obtain ⟨y4,o0,h⟩:=Z1 h;refine G (aJ (g:=g1) (vs:=[v2]) en44 (wk44 r2 o0) fun g3 w3_ v3 hs hr=>?_);have hfr:=hfr.ext hs;subst hr;refine Y (.bool (!y4)) (Qw rfl) (H (.bool (!y4)) (O (Gb ?_)));cases h;exact ac rfl (rq (.bool (!y4))) ⟨_,hfr,rfl⟩
def f50 (x0:Z8) (x1:List Z3):Option (Int × Int):=
 jn (σ:=Unit) (fun _=>
  jn (σ:=Unit) (fun _=>
   jn (σ:=Unit) (fun _=>
    some ((0:Int),(0:Int))
    ) fun oD=>
   (f87 x0 x1).bind fun l5=>
   bif (decide (l5≥(0:Int))) then
    some (l5,(6:Int))
   else
    oD ()
   ) fun yD=>
  lp (σ:=Int) (fun zD o0=>
   bif (decide (o0<(x1.length:Int))) then
    jn (σ:=Unit) (fun _=>
     zD (w64 (o0+(1:Int)))
     ) fun aE=>
    (f86 x0 x1 o0).bind fun t5=>
    bif (t5 != (0:Int)) then
     some (o0,t5)
    else
     aE ()
   else
    yD ()
   ) big (0:Int)
  ) fun k5=>
 bif (decide ((x1.length:Int)>((x0.orders).length:Int))) then
  some ((0:Int),(5:Int))
 else
  k5 ()
theorem en50:Enters prog 50:=yC func50
theorem wk50 {x0:Z8} {x1:List Z3} (rp0:RV gI.m wI x0 up0) (rp1:RV gI.m wI x1 up1) {r:Int × Int} (h:f50 x0 x1=some r):Fn prog 50 #[up0,up1] gI wI (fun m w v=>∃ y0 y1,v=.tuple #[y0,y1]∧y0=I (r.1)∧y1=I r.2):=by
 unfold f50 at h;refine fnE func50 rfl rfl fun g0 hm hfr=>?_;have rp0:=RVc hm rp0;have rp1:=RVc hm rp1;refine Z (G (Tw (g:=g0) rfl rp0 fun g1 w1 p1 hs q1=>?_));have hfr:=hfr.ext hs;have rp1:=rp1.ext hs;refine H (I 0) (H (I 0) (O (Zq h (fun (s:Unit)=>xD gI wI fun e w g=>e 1=up1∧RV g.m w (x1:List Z3) up1∧e 2=p1∧PT g.m w (x0:Z8) p1) (fun X5 k5 hk5 h=>?_) ?_)))
 ·refine Z (M up1 (Y (I (x1.length:Int)) (G7 underlying38 rfl rp1) (Y (S p1 2) (aa W6 (PT.ptr q1)) ?_)))
  have q6:=Zm G8.1 q1;refine G (Ga (g:=g1) isAgg28 sizeOf28 rfl q6 fun v7 r7=>(Y (I ((x0.orders).length:Int)) (G7 underlying28 rfl r7) (Y (.bool (decide ((x1.length:Int)>((x0.orders).length:Int)))) (Gp rfl rfl rfl) (O ?_))));rcases Zt h with ⟨hc8,h⟩ | ⟨hc8,h⟩
  ·refine Gz hc8 rfl (Z (H (I 0) (H (I 5) (O (Gb (Gj ?_))))))
   cases h;exact H9 rfl rfl (rq (I 0)) (rq (I 5)) ⟨_,hfr,_,_,rfl,rfl,rfl⟩
  ·refine G0 hc8 rfl ?_
   exact Zu (Zd (hk5 () _ _ ⟨g1,hfr,rfl,rp1,rfl,q1⟩ h))
 ·rintro _ bG w9 ⟨g9,hfr,mB,nB,iE,lE⟩ h
  refine Zq h (fun (s:Unit)=>xD gI wI fun e w g=>e 1=up1∧RV g.m w (x1:List Z3) up1∧e 2=p1∧PT g.m w (x0:Z8) p1) (fun X23 yD mE h=>?_) ?_
  ·refine Z (aQ mB (Y (I (x1.length:Int)) (G7 underlying38 rfl nB) (M (I 0) (O (Zr (Qz h (fun (s:Int)=>xD gI wI fun e w g=>e 1=up1∧RV g.m w (x1:List Z3) up1∧e 2=p1∧PT g.m w (x0:Z8) p1∧e 16=I (x1.length:Int)∧e 17=I s) ⟨g9,hfr,mB,nB,iE,lE,rfl,rfl⟩ (fun X24 zD oE=>?_)))))))
   rintro o0 tF cG ⟨oB,hfr,n8,i6,v8,g8,l9,l8⟩ h;refine Z (aT (.bool (decide (o0<(x1.length:Int)))) l8 l9 rfl (O (Zf ?_)));rcases Zt h with ⟨n9,h⟩ | ⟨n9,h⟩
   ·refine Gz n9 rfl (Zu (Zd (Zq h (fun (s:Unit)=>xD gI wI fun e w g=>e 1=up1∧RV g.m w (x1:List Z3) up1∧e 2=p1∧PT g.m w (x0:Z8) p1∧e 16=I (x1.length:Int)∧e 17=I o0) (fun X31 aE rE h=>?_) ?_)))
    ·refine Zr (Z (aQ l8 (H (I o0) (O (Z (G (Ga (g:=oB) isAgg80 sizeOf80 v8 g8 fun yE zE=>(aQ n8 (M (I o0) ?_)))))))))
     obtain ⟨t5,uE,h⟩:=Z1 h;refine G (aJ (g:=oB) (vs:=[yE,up1,I o0]) en86 (wk86 zE i6 uE) fun cF uF eG hs hr=>?_);have hfr:=hfr.ext hs;have i6:=i6.ext hs;have g8:=g8.ext hs;subst hr;refine H (I t5) (O (Z (M (I t5) (aT (.bool (t5 != (0:Int))) rfl rfl rfl (O ?_)))));rcases Zt h with ⟨aB,h⟩ | ⟨aB,h⟩
     ·refine Gz aB rfl (Z (M (I o0) (M (I t5) (H (I o0) (H (I t5) (O (Gb (G6 (Gj (Gj (G6 (Gj ?_))))))))))))
      obtain rfl:=sinj h;exact H9 rfl rfl (rq (I o0)) (rq (I t5)) ⟨_,hfr,_,_,rfl,rfl,rfl⟩
     ·refine G0 aB rfl ?_
      exact Zu (Te (Zd (rE () _ _ ⟨cF,hfr,n8,i6,v8,g8,l9,l8⟩ h)))
    ·rintro _ vF gG ⟨dF,hfr,zB,cC,uC,vC,vB,yB⟩ h
     refine Za (aT (I (w64 (o0+(1:Int)))) yB rfl rfl (M (I (w64 (o0+(1:Int)))) ?_));exact O (oE (w64 (o0+(1:Int))) _ _ ⟨dF,hfr,zB,cC,uC,vC,vB,rfl⟩ h)
   ·refine G0 n9 rfl (Th (Gr (Gr (G2 ?_))))
    exact Zd (mE () _ _ ⟨oB,hfr,n8,i6,v8,g8⟩ h)
  ·rintro _ xF iG ⟨bE,hfr,bD,cD,lD,nD⟩ h
   refine Zq h (fun (s:Unit) e w=>∃ (g:Gh) ,Fr gI wI g w) (fun X42 oD vE h=>?_) ?_
   ·refine Z (G (Ga (g:=bE) isAgg80 sizeOf80 lD nD fun eF rF=>(aQ bD ?_)))
    obtain ⟨l5,xE,h⟩:=Z1 h;refine G (aJ (g:=bE) (vs:=[eF,up1]) en87 (wk87 rF cD xE) fun sF yF jG hs hr=>?_);have hfr:=hfr.ext hs;subst hr;refine H (I l5) (O (Z (M (I l5) (aT (.bool (decide (l5≥(0:Int)))) rfl rfl rfl (O ?_)))));rcases Zt h with ⟨lB,h⟩ | ⟨lB,h⟩
    ·refine Gz lB rfl (Z (M (I l5) (H (I l5) (H (I 6) (O (Gb (Gj ?_)))))))
     obtain rfl:=sinj h;exact H9 rfl rfl (rq (I l5)) (rq (I 6)) ⟨_,hfr,_,_,rfl,rfl,rfl⟩
    ·refine G0 lB rfl ?_
     exact Zu (Zd (vE () _ _ ⟨sF,hfr⟩ h))
   ·rintro _ aG kG ⟨lG,hfr⟩ h
    refine Z (H (I 0) (H (I 0) (O (Gb ?_))));cases h;exact H9 rfl rfl (rq (I 0)) (rq (I 0)) ⟨_,hfr,_,_,rfl,rfl,rfl⟩
def f69 (x0:List UInt8):Option ((List Z4) × Int × Int):=
 jn (σ:=(List Z4) × Int × Int) (fun (qH,sH,tH)=>
  jn (σ:=(List Z4) × Int × Int) (fun (yE,bK,cK)=>
   some (yE,(0:Int),(0:Int))
   ) fun sK=>
  (f102 x0).bind fun zE=>
  (zE (Nat × (List Z4) × Int × Int) (Pw fun (l5,cC,uC) iG=>
   (f80 iG).bind fun n8=>
   Option.bind (α:=Int) (
    Option.bind (α:=Bool) (
     bif (n8.2==(0:Int)) then
      bif (decide ((l5.length:Int)>(0:Int))) then
       (idx l5 (w64 ((l5.length:Int)-(1:Int)))).bind fun sI=>
       (f33 sI n8.1).bind fun cD=>
       some (decide (cD≥(0:Int)))
      else
       some false
     else
      some false
     ) fun zB=>
    bif zB then
     some (4:Int)
    else
     some n8.2
    ) fun oB=>
   jn (σ:=(List Z4) × Int × Int) (fun (jG,kG,lG)=>
    (apnd 40 jG ([n8.1]:List Z4)).bind fun uH=>
    some (true,((0:Nat),(uH,kG,lG)))
    ) fun jJ=>
   bif (oB != (0:Int)) then
    some (false,((1:Nat),([],(l5.length:Int),oB)))
   else
    jJ (l5,cC,uC)
   ) (0,(qH,sH,tH))).bind fun (lD,(nD,oD,yD))=>
  bif Nat.beq lD 0 then
   sK (nD,oD,yD)
  else
   some (nD,oD,yD)
  ) fun pN=>
 bif (decide ((x0.length:Int)>(800:Int))) then
  some ([],(0:Int),(5:Int))
 else
  (Kr (x0.length:Int) (8:Int)).bind fun jI=>
  bif (jI != (0:Int)) then
   some ([],(0:Int),(4:Int))
  else
   pN (([]:List Z4),(0:Int),(0:Int))
theorem en69:Enters prog 69:=yC func69
theorem wk69 {x0:List UInt8} (rp0:RV gI.m wI x0 up0) {r:(List Z4) × Int × Int} (h:f69 x0=some r):Fn prog 69 #[up0] gI wI (fun m w v=>∃ y0 y1 y2,v=.tuple #[y0,y1,y2]∧RV m w r.1 y0∧y1=I (r.2.1)∧y2=I r.2.2):=by
 unfold f69 at h;refine A5 func69 rfl (Nat.le_of_ble_eq_true rfl) fun g0 hm hfr=>?_;have hmk:MkF g0 wI []:=MkF.start;have rp0:=RVc hm rp0;refine Z (G (Gu (g:=g0) 2002 ([]:List Z4) zeroValue54 (fun m w=>⟨_,Tb,rfl⟩) fun g1 w1 p1 hs b1 cb=>?_));have hfr:=hfr.stp hs;have hmk:=hmk.stp hs;have rp0:=rp0.stp hs;have xF:OSF 2002 60200 0 g1 w1 61 54 ([]:List Z4) p1:=cb.osf (by rfl);clear cb;refine G (Gu (g:=g1) 2003 (0:Int) zeroValue3 (fun m w=>⟨_,Zw,rfl⟩) fun g2 w2 p2 hs b2 cb=>?_);have hfr:=hfr.stp hs;have hmk:=hmk.stp hs;have rp0:=rp0.stp hs;have xF:=xF.stp hs rfl;have b1:=b1.stp hs rfl;clear cb;refine G (Gu (g:=g2) 2004 (0:Int) zeroValue39 (fun m w=>⟨_,Zw,rfl⟩) fun g3 w3 p3 hs b3 cb=>?_);have hfr:=hfr.stp hs;have hmk:=hmk.stp hs;have rp0:=rp0.stp hs;have xF:=xF.stp hs rfl;have b1:=b1.stp hs rfl;have b2:=b2.stp hs rfl;clear cb;refine O (Py h (fun (s:(List Z4) × Int × Int) e ds w=>∃ (g:Gh) ,Fr gI wI g w∧MkF g w ds∧e 0=up0∧RV g.m w (x0:List UInt8) up0∧e 2=p1∧OB 2002 g w 54 (s.1:List Z4) p1∧OSF 2002 60200 0 g w 61 54 s.1 p1∧e 3=p2∧OB 2003 g w 3 (s.2.1:Int) p2∧e 4=p3∧OB 2004 g w 39 (s.2.2:Int) p3) (fun X21 pN sN h=>?_) ?_)
 ·refine Zr (Z (M up0 (Y (I (x0.length:Int)) (G7 underlying63 rfl rp0) (aT (.bool (decide ((x0.length:Int)>(800:Int)))) rfl rfl rfl (H (.bool (decide ((x0.length:Int)>(800:Int)))) (O ?_))))))
  rcases Zt h with ⟨mI,h⟩ | ⟨mI,h⟩
  ·refine Gz mI rfl (Z (G (Gk (g:=g3) (v:=.slice none 0 0) sizeOf54 rfl b1 rfl T8 fun qN mO hs b23 cb=>?_)))
   have xO:OSF 2002 60200 0 qN mO 61 54 ([]:List Z4) p1:=cb.osfr rfl OS.nil;clear cb;have hfr:=hfr.stp hs;have hmk:=hmk.stp hs;have b2:=b2.stp hs rfl;have b3:=b3.stp hs rfl;refine G (Gk (g:=qN) (v:=I 0) sizeOf3 rfl b2 rfl (Zj.2 rfl) fun nO oQ hs b24 cb=>?_);clear cb;have hfr:=hfr.stp hs;have hmk:=hmk.stp hs;have b23:=b23.stp hs rfl;have b3:=b3.stp hs rfl;refine G (Gk (g:=nO) (v:=I 5) sizeOf39 rfl b3 rfl (Zj.2 rfl) fun pQ qQ hs b25 cb=>?_);clear cb;have hfr:=hfr.stp hs;have hmk:=hmk.stp hs;have b23:=b23.stp hs rfl;have b24:=b24.stp hs rfl;refine O (Gb (G6 (Gj (Mz (.inr rfl) hmk fun rQ sQ hs=>?_))));have hfr:=hfr.stp hs;have b23:=b23.stp hs rfl;have b24:=b24.stp hs rfl;have b25:=b25.stp hs rfl;cases h;obtain ⟨ad27,cv27,hp27,tN,cr27⟩:=Qh isAgg54 sizeOf54 b23;obtain ⟨ad28,cv28,hp28,uN,cr28⟩:=Qh isAgg3 sizeOf3 b24;obtain rfl:=Zj.1 cr28;obtain ⟨ad29,cv29,hp29,vN,cr29⟩:=Qh isAgg39 sizeOf39 b25;obtain rfl:=Zj.1 cr29;exact Dq rfl rfl ((rq p1).trans hp27) tN ((rq p2).trans hp28) uN ((rq p3).trans hp29) vN ⟨_,hfr,_,_,_,rfl,cr27,rfl,rfl⟩
  ·refine G0 mI rfl (Z (M up0 (Y (I (x0.length:Int)) (G7 underlying63 rfl rp0) ?_)))
   obtain ⟨jI,xN,h⟩:=Z1 h;refine Y (I jI) (Gp rfl rfl (congrArg (Option.map (Value.int .i64)) xN)) (aT (.bool (jI != (0:Int))) rfl rfl rfl (H (.bool (jI != (0:Int))) (O ?_)));rcases Zt h with ⟨nI,h⟩ | ⟨nI,h⟩
   ·refine Gz nI rfl (Z (G (Gk (g:=g3) (v:=.slice none 0 0) sizeOf54 rfl b1 rfl T8 fun rN oO hs b32 cb=>?_)))
    have yO:OSF 2002 60200 0 rN oO 61 54 ([]:List Z4) p1:=cb.osfr rfl OS.nil;clear cb;have hfr:=hfr.stp hs;have hmk:=hmk.stp hs;have b2:=b2.stp hs rfl;have b3:=b3.stp hs rfl;refine G (Gk (g:=rN) (v:=I 0) sizeOf3 rfl b2 rfl (Zj.2 rfl) fun pO tQ hs b33 cb=>?_);clear cb;have hfr:=hfr.stp hs;have hmk:=hmk.stp hs;have b32:=b32.stp hs rfl;have b3:=b3.stp hs rfl;refine G (Gk (g:=pO) (v:=I 4) sizeOf39 rfl b3 rfl (Zj.2 rfl) fun uQ vQ hs b34 cb=>?_);clear cb;have hfr:=hfr.stp hs;have hmk:=hmk.stp hs;have b32:=b32.stp hs rfl;have b33:=b33.stp hs rfl;refine O (Gb (G6 (Gj (Mz (.inr rfl) hmk fun xQ yQ hs=>?_))));have hfr:=hfr.stp hs;have b32:=b32.stp hs rfl;have b33:=b33.stp hs rfl;have b34:=b34.stp hs rfl;cases h;obtain ⟨ad36,cv36,hp36,yN,cr36⟩:=Qh isAgg54 sizeOf54 b32;obtain ⟨ad37,cv37,hp37,zN,cr37⟩:=Qh isAgg3 sizeOf3 b33;obtain rfl:=Zj.1 cr37;obtain ⟨ad38,cv38,hp38,aO,cr38⟩:=Qh isAgg39 sizeOf39 b34;obtain rfl:=Zj.1 cr38;exact Dq rfl rfl ((rq p1).trans hp36) yN ((rq p2).trans hp37) zN ((rq p3).trans hp38) aO ⟨_,hfr,_,_,_,rfl,cr36,rfl,rfl⟩
   ·refine G0 nI rfl ?_
    exact Zu (Te (Zd (sN (([]:List Z4),(0:Int),(0:Int)) _ _ _ ⟨g3,hfr,hmk,rfl,rp0,rfl,b1,xF,rfl,b2,rfl,b3⟩ h)))
 ·rintro ⟨qH,sH,tH⟩ mQ rE zQ ⟨qO,hfr,hmk,nL,oL,nB,xH,u2_0_39,uE,yH,vE,zH⟩ h
  refine Py h (fun (s:(List Z4) × Int × Int) e ds w=>∃ (g:Gh) ,Fr gI wI g w∧MkF g w ds∧e 2=p1∧OB 2002 g w 54 (s.1:List Z4) p1∧OSF 2002 60200 0 g w 61 54 s.1 p1∧e 3=p2∧OB 2003 g w 3 (s.2.1:Int) p2∧e 4=p3∧OB 2004 g w 39 (s.2.2:Int) p3) (fun X969 sK xL h=>?_) ?_
  ·refine Z (aQ nL ?_)
   obtain ⟨zE,yL,h⟩:=Z1 h;refine G (aJ (g:=qO) (vs:=[up0]) en102 (wk102 oL yL) fun nQ zO mE hs hr=>?_);have hfr:=hfr.ext hs;have hmk:=hmk.ext hs;have u2_0_39:=u2_0_39.ext hs;have xH:=xH.ext hs;have yH:=yH.ext hs;have zH:=zH.ext hs;have tK:=hr;refine O (Zr ?_);have hB0:=hfr.size;have hmk0:=hmk;obtain ⟨⟨lD,⟨nD,oD,yD⟩⟩,hφ,h⟩:=Z1 h;refine Vf (σ:=(Nat × (List Z4) × Int × Int)) (s0:=(0,(qH,sH,tH))) 10 rfl (fun s=>s.1) [.ret] (fun (s:Nat × (List Z4) × Int × Int) (g:Gh) (w:World)=>Fr gI wI g w∧MkF g w rE∧OB 2002 g w 54 (s.2.1:List Z4) p1∧OSF 2002 60200 0 g w 61 54 s.2.1 p1∧OB 2003 g w 3 (s.2.2.1:Int) p2∧OB 2004 g w 39 (s.2.2.2:Int) p3∧ItV prog (RA1 (α:=(Vector UInt8 8))) zE mE g.m w) rfl tK hφ (fun _ _ _ h=>(D6 h).1) rfl Rz rfl (fun _ _ _ _ _ hx hR=>by obtain ⟨hfr,hmk,z2,z3,z4,z5,z6⟩:=hR;exact ⟨hfr.ist hx hB0,hmk.ist hx,z2.ist hx,z3.ist hx,z4.ist hx,z5.ist hx,z6.ist hx⟩) (fun _ _ _ _ _ hx hR=>by obtain ⟨hfr,hmk,z2,z3,z4,z5,z6⟩:=hR;exact ⟨hfr.stp hx,hmk.stp hx,z2.stp hx rfl,z3.stp hx rfl,z4.stp hx rfl,z5.stp hx rfl,z6.stp hx⟩) ⟨hfr,hmk,xH,u2_0_39,yH,zH,tK⟩ (fun _ h=>by cases h) ?_ ?_
   ·intro yF cF s x b s2 xE vF vs hsz h hR hrec_0 pI hrd
    obtain ⟨hs0,h⟩:=D6 h;obtain ⟨st,⟨l5,cC,uC⟩⟩:=s;obtain ⟨hfr,hmk,i6,u2_0_1432,g8,l8,t5⟩:=hR;obtain ⟨iG,hxe⟩:∃ y,y=x:=⟨x,rfl⟩;subst hxe;obtain ⟨dK,rfl,oE⟩:=Pd hrd;have o0:=RFr.refl xE vF;refine Za (G (Gu (g:=xE) 2005 ((⟨List.toArray [0,0,0,0,0,0,0,0],rfl⟩:Vector UInt8 8):Vector UInt8 8) zeroValue104 (fun m w=>⟨_,(K8 (Zv Qf (Zv Qf (Zv Qf (Zv Qf (Zv Qf (Zv Qf (Zv Qf (Zv Qf K0)))))))) rfl),rfl⟩) fun zL aP bP hs b1433 cb=>?_));have hfr:=hfr.stp hs;have hmk:=hmk.stp hs;have o0:=o0.stp hs;have hrec_0:=hrec_0.stp hs rfl;have u2_0_1432:=u2_0_1432.stp hs rfl;have i6:=i6.stp hs rfl;have g8:=g8.stp hs rfl;have l8:=l8.stp hs rfl;have t5:=t5.stp hs;have oE:=oE.stp hs;clear cb;refine G (Gk (g:=zL) (v:=dK) sizeOf104 rfl b1433 rfl oE fun kJ cP hs b1434 cb=>?_);clear cb;have hfr:=hfr.stp hs;have hmk:=hmk.stp hs;have o0:=o0.stp hs;have hrec_0:=hrec_0.stp hs rfl;have u2_0_1432:=u2_0_1432.stp hs rfl;have i6:=i6.stp hs rfl;have g8:=g8.stp hs rfl;have l8:=l8.stp hs rfl;have t5:=t5.stp hs;refine O ?_;obtain ⟨aM,hbr,hs,hrN⟩:=Vq hrec_0 pI;refine ⟨aM,hbr,?_⟩;have hfr:=hfr.stp hs;have hmk:=hmk.stp hs;have o0:=o0.stp hs;have u2_0_1432:=u2_0_1432.stp hs rfl;have i6:=i6.stp hs rfl;have g8:=g8.stp hs rfl;have l8:=l8.stp hs rfl;have t5:=t5.stp hs;have b1434:=b1434.stp hs rfl;have hrec_0:=hrN;clear hbr hs hrN;refine Zr (Z (G (Tr (g:=kJ) isAgg104 sizeOf104 rfl b1434 fun bM cM=>?_)));obtain ⟨n8,uK,h⟩:=Z1 h;refine G (aJ (g:=kJ) (vs:=[bM]) en80 (wk80 cM uK) fun dM rO dP hs hr=>?_);have hfr:=hfr.ext hs;have hmk:=hmk.ext hs;have o0:=o0.ext hs;have hrec_0:=hrec_0.ext hs;have u2_0_1432:=u2_0_1432.ext hs;have i6:=i6.ext hs;have g8:=g8.ext hs;have l8:=l8.ext hs;have t5:=t5.ext hs;obtain ⟨dF,dO,rfl,eF,rfl⟩:=hr;refine M (.tuple #[dF,I n8.2]) (Y dF (Zi rfl rfl) (Y (I n8.2) (Zi rfl rfl) (G (Gu (g:=dM) 2006 (⟨0,0,0,0,0⟩:Z4) zeroValue61 (fun m w=>⟨_,(Gg Zw (Gg Zw (Gg Zw (Gg Zw Zw)))),rfl⟩) fun eM eP zD hs b1439 cb=>?_))));have hfr:=hfr.stp hs;have hmk:=hmk.stp hs;have o0:=o0.stp hs;have hrec_0:=hrec_0.stp hs rfl;have u2_0_1432:=u2_0_1432.stp hs rfl;have i6:=i6.stp hs rfl;have g8:=g8.stp hs rfl;have l8:=l8.stp hs rfl;have t5:=t5.stp hs;have eF:=eF.stp hs;clear cb;refine G (Gk (g:=eM) (v:=dF) sizeOf61 rfl b1439 rfl eF fun aI gP hs b1440 cb=>?_);clear cb;have hfr:=hfr.stp hs;have hmk:=hmk.stp hs;have o0:=o0.stp hs;have hrec_0:=hrec_0.stp hs rfl;have u2_0_1432:=u2_0_1432.stp hs rfl;have i6:=i6.stp hs rfl;have g8:=g8.stp hs rfl;have l8:=l8.stp hs rfl;have t5:=t5.stp hs;refine H (I n8.2) (O ?_);obtain ⟨oB,hx,h⟩:=Z1 h;refine Gn (xD gI wI fun e w g=>MkF g w rE∧RFr xE vF g w∧HB 10 g w yF (.loop {cF with state:=.busy})∧e 2=p1∧OB 2002 g w 54 (l5:List Z4) p1∧OSF 2002 60200 0 g w 61 54 l5 p1∧e 3=p2∧OB 2003 g w 3 (cC:Int) p2∧e 4=p3∧OB 2004 g w 39 (uC:Int) p3∧e 6=zD∧OB 2006 g w 61 (n8.1:Z4) zD∧e 7=I (oB)∧e 18=mE∧ItV prog (RA1 (α:=(Vector UInt8 8))) zE mE g.m w) (fun Q' hQ=>?_) (fun sO iP hR=>?_)
    ·replace h:=hx
     clear hx;obtain ⟨zB,hx,h⟩:=Z1 h;refine Gn (xD gI wI fun e w g=>MkF g w rE∧RFr xE vF g w∧HB 10 g w yF (.loop {cF with state:=.busy})∧e 2=p1∧OB 2002 g w 54 (l5:List Z4) p1∧OSF 2002 60200 0 g w 61 54 l5 p1∧e 3=p2∧OB 2003 g w 3 (cC:Int) p2∧e 4=p3∧OB 2004 g w 39 (uC:Int) p3∧e 6=zD∧OB 2006 g w 61 (n8.1:Z4) zD∧e 7=I (n8.2)∧e 18=mE∧ItV prog (RA1 (α:=(Vector UInt8 8))) zE mE g.m w∧e 42=.bool zB) (fun Q' hQ=>?_) (fun tO jP hR=>?_)
     ·replace h:=hx
      clear hx;rcases Zt h with ⟨l9,h⟩ | ⟨l9,h⟩
      ·refine Rs (x:=.tmp 2) isAgg54 sizeOf54 i6 u2_0_1432 fun lJ mJ o1765 kI=>?_
       rcases Zt h with ⟨v8,h⟩ | ⟨v8,h⟩
       ·refine Rs (x:=.tmp 2) isAgg54 sizeOf54 i6 u2_0_1432 fun nJ oJ o1767 vK=>(Rs (x:=.tmp 2) isAgg54 sizeOf54 i6 u2_0_1432 fun iM jM o1768 xK=>?_)
        obtain ⟨sI,lI,h⟩:=Z1 h;have kM:=G1 oJ lI;refine Zs (x:=.tmp 37) isAgg61 sizeOf61 kM fun pJ pM yK=>(Qy (x:=.tmp 6) isAgg61 sizeOf61 b1440 fun qJ qM zK=>?_);obtain ⟨cD,aL,h⟩:=Z1 h;refine ab (g:=aI) (n:=18) [(15,(fun v g w=>v=I cD))] [0,1,2,3,4,5,6,7,8,9,10,11,12,13,14,15,16,17] mixed (⟨fun _=>Ww _,trivial⟩) (V (I n8.2) rfl (ai) (V (.bool (n8.2==(0:Int))) rfl (Gp rfl rfl rfl) (V (.bool (n8.2==(0:Int))) rfl (ai) (G3 (c:=lJ) rfl rfl (.yes2 rfl rfl l9) xB kI nB (L_y (I (l5.length:Int)) rfl rfl rfl rfl l9 (G7 underlying54 rfl mJ) (L_y (.bool (decide ((l5.length:Int)>(0:Int)))) rfl rfl rfl rfl l9 (Gp rfl rfl rfl) (V (.bool (decide ((l5.length:Int)>(0:Int)))) rfl (ae (b:=(n8.2==(0:Int))) (Tg l9 rfl)) (V (.bool (decide ((l5.length:Int)>(0:Int)))) rfl (ai) (G3 (c:=nJ) rfl rfl (.yes2 rfl rfl v8) xB vK nB (G3 (c:=iM) rfl rfl (.yes2 rfl rfl v8) xB xK nB (L_y (I (l5.length:Int)) rfl rfl rfl rfl v8 (G7 underlying54 rfl jM) (L_y (I (w64 ((l5.length:Int)-(1:Int)))) rfl rfl rfl rfl v8 (Gp rfl rfl rfl) (L_y (Gy nJ (w64 ((l5.length:Int)-(1:Int))) 5) rfl rfl rfl rfl v8 (Zh (α:=Z4) underlying54 sizeOf61 rfl oJ rfl lI) (G3 (c:=pJ) rfl rfl (.yes2 rfl rfl v8) (fun _ _ h=>h.ch) yK rfl (G3 (c:=qJ) rfl rfl (.yes2 rfl rfl v8) xB zK rfl (Wd (φ:=fun v g w=>v=I cD) rfl rfl (.yes2 rfl rfl v8) (fun g w hd=>aJ (g:=g) (vs:=[pJ,qJ]) en33 (wk33 (pM.ext hd.1) (qM.ext hd.1) aL) fun g' w' v hs hr=>⟨g',hs,hr⟩) (fun kP hv=>?_)))))))))))))))));obtain ⟨_,_,_,rfl⟩:=hv;refine L_y (.bool (decide (cD≥(0:Int)))) rfl rfl rfl rfl v8 (Gp rfl rfl rfl) (V (.bool (decide (cD≥(0:Int)))) rfl (ae (b:=(decide ((l5.length:Int)>(0:Int)))) (Tg v8 rfl)) (Ki fun rM lP hs=>?_));have hfr:=hfr.ext hs;have hmk:=hmk.ext hs;have o0:=o0.ext hs;have hrec_0:=hrec_0.ext hs;have u2_0_1432:=u2_0_1432.ext hs;have i6:=i6.ext hs;have g8:=g8.ext hs;have l8:=l8.ext hs;have t5:=t5.ext hs;have b1440:=b1440.ext hs;clear hs;refine Zb ?_;cases h;exact hQ _ _ ⟨rM,hfr,hmk,o0,hrec_0,nB,i6,u2_0_1432,uE,g8,vE,l8,rfl,b1440,rfl,rfl,t5,rfl⟩
       ·refine ab (g:=aI) (n:=18) [] [0,1,2,3,4,5,6,7,8,9,10,11,12,13,14,15,16,17] mixed trivial (V (I n8.2) rfl (ai) (V (.bool (n8.2==(0:Int))) rfl (Gp rfl rfl rfl) (V (.bool (n8.2==(0:Int))) rfl (ai) (G3 (c:=lJ) rfl rfl (.yes2 rfl rfl l9) xB kI nB (L_y (I (l5.length:Int)) rfl rfl rfl rfl l9 (G7 underlying54 rfl mJ) (L_y (.bool (decide ((l5.length:Int)>(0:Int)))) rfl rfl rfl rfl l9 (Gp rfl rfl rfl) (V (.bool (decide ((l5.length:Int)>(0:Int)))) rfl (ae (b:=(n8.2==(0:Int))) (Tg l9 rfl)) (V (.bool (decide ((l5.length:Int)>(0:Int)))) rfl (ai) ?_))))))))
        iterate 9 refine L_s rfl rfl rfl v8 rfl ?_
        refine V (.bool false) rfl (ae (b:=(decide ((l5.length:Int)>(0:Int)))) (Td v8 rfl)) (Ki fun sM mP hs=>?_);have hfr:=hfr.ext hs;have hmk:=hmk.ext hs;have o0:=o0.ext hs;have hrec_0:=hrec_0.ext hs;have u2_0_1432:=u2_0_1432.ext hs;have i6:=i6.ext hs;have g8:=g8.ext hs;have l8:=l8.ext hs;have t5:=t5.ext hs;have b1440:=b1440.ext hs;clear hs;refine Zb ?_;cases h;exact hQ _ _ ⟨sM,hfr,hmk,o0,hrec_0,nB,i6,u2_0_1432,uE,g8,vE,l8,rfl,b1440,rfl,rfl,t5,rfl⟩
      ·refine ab (g:=aI) (n:=18) [] [0,1,2,3,4,5,6,7,8,9,10,11,12,13,14,15,16,17] mixed trivial (V (I n8.2) rfl (ai) (V (.bool (n8.2==(0:Int))) rfl (Gp rfl rfl rfl) (V (.bool (n8.2==(0:Int))) rfl (ai) ?_)))
       iterate 3 refine L_s rfl rfl rfl l9 rfl ?_
       refine V (.bool false) rfl (ae (b:=(n8.2==(0:Int))) (Td l9 rfl)) (Mn (fun _=>rfl) 11 rfl (Ki fun tM nP hs=>?_));have hfr:=hfr.ext hs;have hmk:=hmk.ext hs;have o0:=o0.ext hs;have hrec_0:=hrec_0.ext hs;have u2_0_1432:=u2_0_1432.ext hs;have i6:=i6.ext hs;have g8:=g8.ext hs;have l8:=l8.ext hs;have t5:=t5.ext hs;have b1440:=b1440.ext hs;clear hs;refine Zb ?_;cases h;exact hQ _ _ ⟨tM,hfr,hmk,o0,hrec_0,nB,i6,u2_0_1432,uE,g8,vE,l8,rfl,b1440,rfl,rfl,t5,rfl⟩
     ·clear hx
      obtain ⟨rJ,hfr,hmk,o0,hrec_0,mG,sG,u2_0_1871,xG,yG,zG,aH,cH,gH,lK,aG,bG,cG⟩:=hR;rcases Zt h with ⟨eG,h⟩ | ⟨eG,h⟩
      ·refine Ta (Eq.trans (show X _ _=.bool zB from cG) (congrArg Value.bool eG)) (Za (H (I 4) (Zb ?_)))
       cases h;exact hQ _ _ ⟨rJ,hfr,hmk,o0,hrec_0,mG,sG,u2_0_1871,xG,yG,zG,aH,cH,gH,rfl,aG,bG⟩
      ·refine Gv (Eq.trans (show X _ _=.bool zB from cG) (congrArg Value.bool eG)) (Zu ?_)
       cases h;exact hQ _ _ ⟨rJ,hfr,hmk,o0,hrec_0,mG,sG,u2_0_1871,xG,yG,zG,aH,cH,gH,lK,aG,bG⟩
    ·clear hx
     obtain ⟨bI,hfr,hmk,o0,hrec_0,rF,sF,u2_0_1873,jH,aE,kH,vB,mK,nK,lH,qI,n9⟩:=hR;refine Zq h (fun (s:(List Z4) × Int × Int) e w=>∃ (g:Gh) ,Fr gI wI g w∧MkF g w rE∧RFr xE vF g w∧HB 10 g w yF (.loop {cF with state:=.busy})∧e 2=p1∧OB 2002 g w 54 (s.1:List Z4) p1∧OSF 2002 60200 0 g w 61 54 s.1 p1∧e 3=p2∧OB 2003 g w 3 (s.2.1:Int) p2∧e 4=p3∧OB 2004 g w 39 (s.2.2:Int) p3∧e 6=zD∧OB 2006 g w 61 (n8.1:Z4) zD∧e 18=mE∧ItV prog (RA1 (α:=(Vector UInt8 8))) zE mE g.m w) (fun X1879 jJ bL h=>?_) ?_
     ·refine Z (aQ lH (aT (.bool (oB != (0:Int))) rfl rfl rfl (O ?_)))
      rcases Zt h with ⟨gG,h⟩ | ⟨gG,h⟩
      ·refine Gz gG rfl (Z (G (R2 (g:=bI) isAgg54 sizeOf54 rF sF u2_0_1873 fun oP uM o1881=>(Y (I (l5.length:Int)) (G7 underlying54 rfl uM) (aQ lH (G (Gk (g:=bI) (v:=.slice none 0 0) sizeOf54 rF sF rfl T8 fun sJ vM hs b1882 cb=>?_)))))))
       have vC:OSF 2002 60200 0 sJ vM 61 54 ([]:List Z4) p1:=cb.osfr rfl OS.nil;clear cb;have hfr:=hfr.stp hs;have hmk:=hmk.stp hs;have o0:=o0.stp hs;have hrec_0:=hrec_0.stp hs rfl;have aE:=aE.stp hs rfl;have vB:=vB.stp hs rfl;have n9:=n9.stp hs;refine G (Gk (g:=sJ) (v:=I (l5.length:Int)) sizeOf3 jH aE rfl (Zj.2 rfl) fun xM pP hs b1883 cb=>?_);clear cb;have hfr:=hfr.stp hs;have hmk:=hmk.stp hs;have o0:=o0.stp hs;have hrec_0:=hrec_0.stp hs rfl;have vC:=vC.stp hs rfl;have b1882:=b1882.stp hs rfl;have vB:=vB.stp hs rfl;have n9:=n9.stp hs;refine G (Gk (g:=xM) (v:=I oB) sizeOf39 kH vB rfl (Zj.2 rfl) fun sP tP hs b1884 cb=>?_);clear cb;have hfr:=hfr.stp hs;have hmk:=hmk.stp hs;have o0:=o0.stp hs;have hrec_0:=hrec_0.stp hs rfl;have vC:=vC.stp hs rfl;have b1882:=b1882.stp hs rfl;have b1883:=b1883.stp hs rfl;have n9:=n9.stp hs;refine O (Gb (Gj (G6 ?_)));obtain ⟨rfl,rfl⟩:=W9 h;exact ⟨_,o0,⟨hfr,hmk,b1882,vC,b1883,b1884,n9⟩,hrec_0,rfl,0,rfl,rfl⟩
      ·refine G0 gG rfl ?_
       exact Zu (Zd (bL (l5,cC,uC) _ _ ⟨bI,hfr,hmk,o0,hrec_0,rF,sF,u2_0_1873,jH,aE,kH,vB,mK,nK,qI,n9⟩ h))
     ·rintro ⟨jG,kG,lG⟩ uO uP ⟨dI,hfr,hmk,o0,hrec_0,mH,yB,u2_0_1885,eO,lB,gO,mB,oK,pK,bO,aB⟩ h
      refine Za (G (R2 (g:=dI) isAgg54 sizeOf54 mH yB u2_0_1885 fun vP iI o1886=>(G (Tr (g:=dI) isAgg61 sizeOf61 oK pK fun bN cN=>(G (Gd (g:=dI) 3050 (xs:=([n8.1]:List Z4)) (vs:=[bN]) underlying54 sizeOf61 zeroValue61 rfl rfl (.cons rfl .nil) (RVs.cons cN RVs.nil) rfl rfl fun dN xP yP hs o1888 eN hxt hfl=>?_))))));have hfr:=hfr.stp hs;have hmk:=hmk.stp hs;have o0:=o0.stp hs;have hrec_0:=hrec_0.stp hs rfl;have yB:=yB.stp hs rfl;have lB:=lB.stp hs rfl;have mB:=mB.stp hs rfl;have aB:=aB.stp hs;have iI:=iI.stp hs;have o1886:=o1886.stp hs rfl;obtain ⟨uH,dL,h⟩:=Z1 h;refine G (Qe (g:=dN) (i:=60200) underlying54 S4 rfl rfl o1886 iI rfl eN dL fun gN zP iN hs o1889 vJ _=>?_);have hfr:=hfr.stp hs;have hmk:=hmk.stp hs;have o0:=o0.stp hs;have hrec_0:=hrec_0.stp hs rfl;have yB:=yB.stp hs rfl;have lB:=lB.stp hs rfl;have mB:=mB.stp hs rfl;have aB:=aB.stp hs;refine G (Gk (g:=gN) (v:=iN) sizeOf54 mH yB rfl vJ fun jN kN hs b1891 cb=>?_);have qK:OSF 2002 60200 0 jN kN 61 54 (uH:List Z4) p1:=cb.osfr (Kn vJ) (o1889.stp hs rfl);clear cb;have hfr:=hfr.stp hs;have hmk:=hmk.stp hs;have o0:=o0.stp hs;have hrec_0:=hrec_0.stp hs rfl;have lB:=lB.stp hs rfl;have mB:=mB.stp hs rfl;have aB:=aB.stp hs;refine Zb (Te ?_);obtain ⟨rfl,rfl⟩:=W9 h;exact ⟨_,o0,⟨hfr,hmk,b1891,qK,lB,mB,aB⟩,hrec_0,rfl,rfl⟩
   ·intro lN bQ ds1893 hsz hR hds
    obtain ⟨hfr,hmk,bE,u2_0_1893,iE,lE,cO⟩:=hR;obtain ⟨D,hdse,hD,hDb⟩:=hds.1 rfl;subst hdse;replace hmk:=MkF.push hmk0 hmk hD hDb;clear hD hDb hds;revert hmk;generalize ({target:=.collected D,args:=#[]}::rE:List Deferred)=jO;intro hmk;refine ⟨fun hs=>?_,fun k c hs hc=>?_⟩
    ·have hs:lD=0:=hs
     subst hs;replace h:=cond_t h rfl;exact Te (Zd (xL (nD,oD,yD) _ _ _ ⟨lN,hfr,hmk,nB,bE,u2_0_1893,uE,iE,vE,lE⟩ h))
    ·have hs:lD=k+1:=hs
     match k,hs,hc with
     | 0,hs,hc=>
      subst hs;obtain rfl:=sinj hc;replace h:=cond_f h rfl;refine Gb (G6 (Gj (Mz (.inr rfl) hmk fun cQ dQ hs=>?_)));have hfr:=hfr.stp hs;have bE:=bE.stp hs rfl;have iE:=iE.stp hs rfl;have lE:=lE.stp hs rfl;cases h;obtain ⟨ad1895,cv1895,hp1895,eL,cr1895⟩:=Qh isAgg54 sizeOf54 bE;obtain ⟨ad1896,cv1896,hp1896,gL,cr1896⟩:=Qh isAgg3 sizeOf3 iE;obtain rfl:=Zj.1 cr1896;obtain ⟨ad1897,cv1897,hp1897,iL,cr1897⟩:=Qh isAgg39 sizeOf39 lE;obtain rfl:=Zj.1 cr1897;exact Dq rfl rfl ((show _=p1 from nB).trans hp1895) eL ((show _=p2 from uE).trans hp1896) gL ((show _=p3 from vE).trans hp1897) iL ⟨_,hfr,_,_,_,rfl,cr1895,rfl,rfl⟩
     | n+1,_,hc=>exact absurd hc (by simp)
  ·rintro ⟨yE,bK,cK⟩ vO kO eQ ⟨xJ,hfr,hmk,tF,nH,u2_0_1898,oH,uF,pH,bD⟩ h
   refine Z (G (R2 (g:=xJ) isAgg54 sizeOf54 tF nH u2_0_1898 fun mN zJ o1899=>(G (Gk (g:=xJ) (v:=mN) sizeOf54 tF nH rfl zJ fun aK nN hs b1900 cb=>?_))));have lO:OSF 2002 60200 0 aK nN 61 54 (yE:List Z4) p1:=cb.osfr (Kn zJ) (o1899.stp hs rfl);clear cb;have hfr:=hfr.stp hs;have hmk:=hmk.stp hs;have uF:=uF.stp hs rfl;have bD:=bD.stp hs rfl;refine G (Gk (g:=aK) (v:=I 0) sizeOf3 oH uF rfl (Zj.2 rfl) fun oN gQ hs b1901 cb=>?_);clear cb;have hfr:=hfr.stp hs;have hmk:=hmk.stp hs;have b1900:=b1900.stp hs rfl;have bD:=bD.stp hs rfl;refine G (Gk (g:=oN) (v:=I 0) sizeOf39 pH bD rfl (Zj.2 rfl) fun iQ jQ hs b1902 cb=>?_);clear cb;have hfr:=hfr.stp hs;have hmk:=hmk.stp hs;have b1900:=b1900.stp hs rfl;have b1901:=b1901.stp hs rfl;refine O (Gb (Mz (.inr rfl) hmk fun kQ lQ hs=>?_));have hfr:=hfr.stp hs;have b1900:=b1900.stp hs rfl;have b1901:=b1901.stp hs rfl;have b1902:=b1902.stp hs rfl;cases h;obtain ⟨ad1904,cv1904,hp1904,jL,cr1904⟩:=Qh isAgg54 sizeOf54 b1900;obtain ⟨ad1905,cv1905,hp1905,lL,cr1905⟩:=Qh isAgg3 sizeOf3 b1901;obtain rfl:=Zj.1 cr1905;obtain ⟨ad1906,cv1906,hp1906,mL,cr1906⟩:=Qh isAgg39 sizeOf39 b1902;obtain rfl:=Zj.1 cr1906;exact Dq rfl rfl ((show _=p1 from tF).trans hp1904) jL ((show _=p2 from oH).trans hp1905) lL ((show _=p3 from pH).trans hp1906) mL ⟨_,hfr,_,_,_,rfl,cr1904,rfl,rfl⟩
def f93 (x0:ChainBelt):Option (Gw × Int):=
 jn (σ:=Gw) (fun aB=>
  some ((⟨x0,x0.Hooks⟩:Gw),(0:Int))
  ) fun k33=>
 (f129 x0.Hooks).bind fun n8=>
 bif (!n8) then
  some ((⟨x0,x0.Hooks⟩:Gw),(3:Int))
 else
  bif (decide (((x0.Cards).length:Int)>(60:Int))) then
   some ((⟨x0,x0.Hooks⟩:Gw),(5:Int))
  else
   (f130 x0.Hooks x0.Cards).bind fun v8=>
   bif (!v8) then
    some ((⟨x0,x0.Hooks⟩:Gw),(2:Int))
   else
    k33 (⟨⟨0,[]⟩,0⟩:Gw)
theorem en93:Enters prog 93:=yC func93
theorem wk93 {x0:ChainBelt} (rp0:RV gI.m wI x0 up0) {r:Gw × Int} (h:f93 x0=some r):Fn prog 93 #[up0] gI wI (fun m w v=>∃ y0 y1,v=.tuple #[y0,y1]∧RV m w r.1 y0∧y1=I r.2):=by
 unfold f93 at h;refine fnE func93 rfl rfl fun g0 hm hfr=>?_;have rp0:=RVc hm rp0;refine Z (G (Tw (g:=g0) rfl rp0 fun g1 w1 p1 hs q1=>?_));have hfr:=hfr.ext hs;refine G (Gu (g:=g1) 2002 (⟨⟨0,[]⟩,0⟩:Gw) zeroValue200 (fun m w=>⟨_,(Gg (Gg Zw Tb) Zw),rfl⟩) fun g2 w2 p2 hs b2 cb=>?_);have hfr:=hfr.stp hs;have q1:=q1.stp hs;have o0:OSF 2002 60201 1 g2 w2 118 200 ([]:List Gi) p2:=cb.osf (by rfl);clear cb;refine H (I 0) (O (Z (G (Ga (g:=g2) isAgg116 sizeOf116 rfl q1 fun v3 r3=>(Y (S p1 0) (aa Vm (PT.ptr q1)) ?_)))));have q4:=Zm Km.1 q1;refine G (Ga (g:=g2) isAgg3 sizeOf3 rfl q4 fun v5 r5=>?_);obtain rfl:=Zj.1 r5;have r6:RV g2.m _ (⟨x0,x0.Hooks⟩:Gw) (.agg (Tk [[I 0,.slice none 0 0],[I 0]] [(0,v3),(1,I x0.Hooks)]).flatten.toArray):=Ti rfl (Gs (RV.cells r3) (To rfl));generalize cD:(Value.agg (Tk [[I 0,.slice none 0 0],[I 0]] [(0,v3),(1,I x0.Hooks)]).flatten.toArray)=v6 at r6;refine Y v6 (cD▸T3 (vs:=[(0,v3),(1,I x0.Hooks)]) [[I 0,.slice none 0 0],[I 0]] lay_200 rfl rfl (.cons rfl (.cons rfl .nil)) ⟨⟨_,rfl,Tl r3⟩,⟨⟨_,rfl,rfl⟩,trivial⟩⟩) (G (Gu (g:=g2) 2004 (⟨⟨0,[]⟩,0⟩:Gw) zeroValue200 (fun m w=>⟨_,(Gg (Gg Zw Tb) Zw),rfl⟩) fun g7 w7 p7 hs b7 cb=>?_));have hfr:=hfr.stp hs;have q1:=q1.stp hs;have o0:=o0.stp hs rfl;have b2:=b2.stp hs rfl;have r6:=r6.stp hs;have yE:OSF 2004 60401 1 g7 w7 118 200 ([]:List Gi) p7:=cb.osf (by rfl);clear cb;refine G (Gk (g:=g7) (v:=v6) sizeOf200 rfl b7 rfl r6 fun g8 w8 hs b8 cb=>?_);clear cb;have hfr:=hfr.stp hs;have q1:=q1.stp hs;have o0:=o0.stp hs rfl;have b2:=b2.stp hs rfl;refine O (Zq h (fun (s:Gw)=>xD gI wI fun e w g=>e 2=p2∧OB 2002 g w 200 (s:Gw) p2∧OSF 2002 60201 1 g w 118 200 ((s.ChainBelt).Cards) p2∧e 4=p7∧OB 2004 g w 200 ((⟨x0,x0.Hooks⟩:Gw):Gw) p7) (fun X33 k33 vB h=>?_) ?_)
 ·refine Zr (Z (Y (S p7 2) (aa Rr (OB.ptr b8)) (G (Qd (g:=g8) K6.1 isAgg198 sizeOf198 rfl b8 fun eF lD=>?_))))
  obtain rfl:=Zj.1 lD;obtain ⟨n8,yB,h⟩:=Z1 h;refine G (aJ (g:=g8) (vs:=[I x0.Hooks]) en129 (wk129  yB) fun l5 zE rF hs hr=>?_);have hfr:=hfr.ext hs;have q1:=q1.ext hs;have o0:=o0.ext hs;have b2:=b2.ext hs;have b8:=b8.ext hs;subst hr;refine Y (.bool (!n8)) (Qw rfl) (H (.bool (!n8)) (O ?_));rcases Zt h with ⟨t5,h⟩ | ⟨t5,h⟩
  ·refine Gz t5 rfl (Z (G (Tr (g:=l5) isAgg200 sizeOf200 rfl b8 fun nD oD=>(G (Gk (g:=l5) (v:=nD) sizeOf200 rfl b2 rfl oD fun sF tF hs b40 cb=>?_)))))
   clear cb;have hfr:=hfr.stp hs;refine H (I 3) (O (Gb (G6 (Gj ?_))));obtain rfl:=sinj h;obtain ⟨ad41,cv41,hp41,zB,cr41⟩:=Qh isAgg200 sizeOf200 b40;exact Kv rfl rfl ((rq p2).trans hp41) zB (rq (I 3)) ⟨_,hfr,_,_,rfl,cr41,rfl⟩
  ·refine G0 t5 rfl (Z (Y (S p1 1) (aa H5 (PT.ptr q1)) ?_))
   have yD:=Zm Qu.1 q1;refine G (Ga (g:=l5) isAgg114 sizeOf114 rfl yD fun uF zD=>(Y (I ((x0.Cards).length:Int)) (G7 underlying114 rfl zD) (Y (.bool (decide (((x0.Cards).length:Int)>(60:Int)))) (Gp rfl rfl rfl) (Y (.bool (decide (((x0.Cards).length:Int)>(60:Int)))) (Tp rfl) (O ?_)))));rcases Zt h with ⟨i6,h⟩ | ⟨i6,h⟩
   ·refine Gz i6 rfl (Z (G (Tr (g:=l5) isAgg200 sizeOf200 rfl b8 fun aE bE=>(G (Gk (g:=l5) (v:=aE) sizeOf200 rfl b2 rfl bE fun vF xF hs b46 cb=>?_)))))
    clear cb;have hfr:=hfr.stp hs;refine H (I 5) (O (Gb (G6 (Gj ?_))));obtain rfl:=sinj h;obtain ⟨ad47,cv47,hp47,cC,cr47⟩:=Qh isAgg200 sizeOf200 b46;exact Kv rfl rfl ((rq p2).trans hp47) cC (rq (I 5)) ⟨_,hfr,_,_,rfl,cr47,rfl⟩
   ·refine G0 i6 rfl (Z (Y (S p7 2) (aa Rr (OB.ptr b8)) (G (Qd (g:=l5) K6.1 isAgg198 sizeOf198 rfl b8 fun yF iE=>?_))))
    obtain rfl:=Zj.1 iE;refine Y (S p1 1) (aa H5 (PT.ptr q1)) ?_;have lE:=Zm Qu.1 q1;refine G (Ga (g:=l5) isAgg114 sizeOf114 rfl lE fun mE oE=>?_);obtain ⟨v8,uC,h⟩:=Z1 h;refine G (aJ (g:=l5) (vs:=[I x0.Hooks,mE]) en130 (wk130 oE uC) fun n9 cF aG hs hr=>?_);have hfr:=hfr.ext hs;have o0:=o0.ext hs;have b2:=b2.ext hs;have b8:=b8.ext hs;subst hr;refine Y (.bool (!v8)) (Qw rfl) (H (.bool (!v8)) (O ?_));rcases Zt h with ⟨l8,h⟩ | ⟨l8,h⟩
    ·refine Gz l8 rfl (Z (G (Tr (g:=n9) isAgg200 sizeOf200 rfl b8 fun rE uE=>(G (Gk (g:=n9) (v:=rE) sizeOf200 rfl b2 rfl uE fun bG cG hs b56 cb=>?_)))))
     clear cb;have hfr:=hfr.stp hs;refine H (I 2) (O (Gb (G6 (Gj ?_))));obtain rfl:=sinj h;obtain ⟨ad57,cv57,hp57,vC,cr57⟩:=Qh isAgg200 sizeOf200 b56;exact Kv rfl rfl ((rq p2).trans hp57) vC (rq (I 2)) ⟨_,hfr,_,_,rfl,cr57,rfl⟩
    ·refine G0 l8 rfl ?_
     exact Zu (Te (Zd (vB (⟨⟨0,[]⟩,0⟩:Gw) _ _ ⟨n9,hfr,rfl,b2,o0,rfl,b8⟩ h)))
 ·rintro aB dF eG ⟨oB,hfr,l9,lB,u2_1_58,mB,nB⟩ h
  refine Z (G (Tr (g:=oB) isAgg200 sizeOf200 mB nB fun vE xE=>(G (Gk (g:=oB) (v:=vE) sizeOf200 l9 lB rfl xE fun gG iG hs b60 cb=>?_))));clear cb;have hfr:=hfr.stp hs;refine H (I 0) (O (Gb ?_));obtain rfl:=sinj h;obtain ⟨ad61,cv61,hp61,bD,cr61⟩:=Qh isAgg200 sizeOf200 b60;exact Kv rfl rfl ((show _=p2 from l9).trans hp61) bD (show _=I 0 from rfl) ⟨_,hfr,_,_,rfl,cr61,rfl⟩
def f94 (x0:Str):Option Bool:=
 (f95 x0).bind fun y2=>
 some (!y2)
theorem en94:Enters prog 94:=yC func94
theorem wk94 {x0:Str}  {r:Bool} (h:f94 x0=some r):Fn prog 94 #[Str.v x0] gI wI (fun _ _ v=>v=.bool r):=by
 unfold f94 at h;refine fnE func94 rfl rfl fun g0 hm hfr=>?_;refine Z (H (.bool false) (O (Z (M (Str.v x0) ?_))));obtain ⟨y2,hy2,h⟩:=Z1 h;refine G (aJ (g:=g0) (vs:=[Str.v x0]) en95 (wk95  hy2) fun g1 w1_ v1 hs hr=>?_);have hfr:=hfr.ext hs;subst hr;refine Y (.bool (!y2)) (Qw rfl) (H (.bool (!y2)) (O (Gb ?_)));cases h;exact ac rfl (rq (.bool (!y2))) ⟨_,hfr,rfl⟩
def f18 (x0:LoomMill) (x1:List Z5):Option (Z8 × Int):=
 jn (σ:=Z8) (fun zD=>
  some ((⟨x0,x1⟩:Z8),(0:Int))
  ) fun xF=>
 Option.bind (α:=Bool) (
  bif (decide (((x0.Widths).length:Int)>(3:Int))) then
   some (decide (((x0.Widths).length:Int)>(3:Int)))
  else
   some (decide ((x1.length:Int)>(7:Int)))
  ) fun n8=>
 bif n8 then
  some ((⟨⟨[],0⟩,[]⟩:Z8),(5:Int))
 else
  Option.bind (α:=Bool) (
   bif (((x0.Widths).length:Int)==(0:Int)) then
    some (((x0.Widths).length:Int)==(0:Int))
   else
    (f45 (1:Int) (100:Int) x0.Widths).bind fun aB=>
    bif (!aB) then
     some (!aB)
    else
     (f45 (0:Int) (20:Int) ([x0.Change]:List Int)).bind fun lB=>
     bif (!lB) then
      some (!lB)
     else
      (f46 x1 (fun a0=>f43 a0)).bind fun aE=>
      some aE
   ) fun g8=>
  bif g8 then
   some ((⟨⟨[],0⟩,[]⟩:Z8),(2:Int))
  else
   xF (⟨⟨[],0⟩,[]⟩:Z8)
theorem en18:Enters prog 18:=yC func18
theorem wk18 {x0:LoomMill} {x1:List Z5} (rp0:RV gI.m wI x0 up0) (rp1:RV gI.m wI x1 up1) {r:Z8 × Int} (h:f18 x0 x1=some r):Fn prog 18 #[up0,up1] gI wI (fun m w v=>∃ y0 y1,v=.tuple #[y0,y1]∧RV m w r.1 y0∧y1=I r.2):=by
 unfold f18 at h;refine fnE func18 rfl rfl fun g0 hm hfr=>?_;have rp0:=RVc hm rp0;have rp1:=RVc hm rp1;refine Z (G (Tw (g:=g0) rfl rp0 fun g1 w1 p1 hs q1=>?_));have hfr:=hfr.ext hs;have rp1:=rp1.ext hs;refine G (Gu (g:=g1) 2004 (⟨⟨[],0⟩,[]⟩:Z8) zeroValue80 (fun m w=>⟨_,(Gg (Gg Tb Zw) Tb),rfl⟩) fun g2 w2 p2 hs b2 cb=>?_);have hfr:=hfr.stp hs;have rp1:=rp1.stp hs;have q1:=q1.stp hs;have bE:OSF 2004 60400 0 g2 w2 3 80 ([]:List Int) p2:=cb.osf (by rfl);have iE:OSF 2004 60402 2 g2 w2 59 80 ([]:List Z5) p2:=cb.osf (by rfl);clear cb;refine H (I 0) (O (Z (H (.func (.func 43) #[] #[]) (O (Zq h (fun (s:Z8)=>xD gI wI fun e w g=>e 1=up1∧RV g.m w (x1:List Z5) up1∧e 2=p1∧PT g.m w (x0:LoomMill) p1∧e 4=p2∧OB 2004 g w 80 (s:Z8) p2∧OSF 2004 60400 0 g w 3 80 ((s.LoomMill).Widths) p2∧OSF 2004 60402 2 g w 59 80 s.orders p2) (fun X51 xF lG h=>?_) ?_)))))
 ·refine Zr ?_
  obtain ⟨n8,hx,h⟩:=Z1 h;refine Gn (xD gI wI fun e w g=>e 1=up1∧RV g.m w (x1:List Z5) up1∧e 2=p1∧PT g.m w (x0:LoomMill) p1∧e 4=p2∧OB 2004 g w 80 ((⟨⟨[],0⟩,[]⟩:Z8):Z8) p2∧OSF 2004 60400 0 g w 3 80 (((⟨⟨[],0⟩,[]⟩:Z8).LoomMill).Widths) p2∧OSF 2004 60402 2 g w 59 80 ((⟨⟨[],0⟩,[]⟩:Z8).orders) p2∧e 6=.func (.func 43) #[] #[]∧e 7=.bool n8) (fun Q' hQ=>?_) (fun dI zG hR=>?_)
  ·replace h:=hx
   clear hx;refine Z (Y (S p1 0) (aa Ha (PT.ptr q1)) ?_);have aH:=Zm Qa.1 q1;refine G (Ga (g:=g2) isAgg25 sizeOf25 rfl aH fun qI cH=>(Y (I ((x0.Widths).length:Int)) (G7 underlying25 rfl cH) (Y (.bool (decide (((x0.Widths).length:Int)>(3:Int)))) (Gp rfl rfl rfl) (Y (.bool (decide (((x0.Widths).length:Int)>(3:Int)))) (Tp rfl) (O ?_)))));rcases Zt h with ⟨vB,h⟩ | ⟨vB,h⟩
   ·refine Gz vB rfl (Zu ?_)
    cases h;exact hQ _ _ ⟨g2,hfr,rfl,rp1,rfl,q1,rfl,b2,bE,iE,rfl,rfl⟩
   ·refine G0 vB rfl (Za (M up1 (Y (I (x1.length:Int)) (G7 underlying28 rfl rp1) (aT (.bool (decide ((x1.length:Int)>(7:Int)))) rfl rfl rfl (H (.bool (decide ((x1.length:Int)>(7:Int)))) (Zb ?_))))))
    cases h;exact hQ _ _ ⟨g2,hfr,rfl,rp1,rfl,q1,rfl,b2,bE,iE,rfl,rfl⟩
  ·clear hx
   obtain ⟨l9,hfr,v8,l5,i6,o0,l8,t5,u4_0_58,u4_2_58,cF,oD⟩:=hR;rcases Zt h with ⟨yB,h⟩ | ⟨yB,h⟩
   ·refine Ta (Eq.trans (show X _ _=.bool n8 from oD) (congrArg Value.bool yB)) (Z ?_)
    have yF:RV l9.m zG (⟨⟨[],0⟩,[]⟩:Z8) (.agg (Tk [[.slice none 0 0,I 0],[.slice none 0 0]] []).flatten.toArray):=Ti rfl (Gs (Gg Tb Zw) (To Tb));generalize zB:(Value.agg (Tk [[.slice none 0 0,I 0],[.slice none 0 0]] []).flatten.toArray)=aG at yF;refine Y aG (zB▸T3 (vs:=[]) [[.slice none 0 0,I 0],[.slice none 0 0]] Mo rfl rfl .nil trivial) (G (Gk (g:=l9) (v:=aG) sizeOf80 l8 t5 rfl yF fun bG cG hs b61 cb=>?_));have xH:OSF 2004 60400 0 bG cG 3 80 ([]:List Int) p2:=cb.osf (by rw [← zB];rfl);have yH:OSF 2004 60402 2 bG cG 59 80 ([]:List Z5) p2:=cb.osf (by rw [← zB];rfl);clear cb;have hfr:=hfr.stp hs;refine H (I 5) (O (Gb (G6 (Gj ?_))));obtain rfl:=sinj h;obtain ⟨ad62,cv62,hp62,mG,cr62⟩:=Qh isAgg80 sizeOf80 b61;exact Kv rfl rfl ((show _=p2 from l8).trans hp62) mG (show _=I 5 from rfl) ⟨_,hfr,_,_,rfl,cr62,rfl⟩
   ·refine Gv (Eq.trans (show X _ _=.bool n8 from oD) (congrArg Value.bool yB)) ?_
    obtain ⟨g8,hx,h⟩:=Z1 h;refine Gn (xD gI wI fun e w g=>e 1=up1∧RV g.m w (x1:List Z5) up1∧e 2=p1∧PT g.m w (x0:LoomMill) p1∧e 4=p2∧OB 2004 g w 80 ((⟨⟨[],0⟩,[]⟩:Z8):Z8) p2∧OSF 2004 60400 0 g w 3 80 (((⟨⟨[],0⟩,[]⟩:Z8).LoomMill).Widths) p2∧OSF 2004 60402 2 g w 59 80 ((⟨⟨[],0⟩,[]⟩:Z8).orders) p2∧e 16=.bool g8) (fun Q' hQ=>?_) (fun iI gH hR=>?_)
    ·replace h:=hx
     clear hx;refine Z (Y (S p1 0) (Zc Ha i6 (PT.ptr o0)) ?_);have jH:=Zm Qa.1 o0;refine G (Ga (g:=l9) isAgg25 sizeOf25 rfl jH fun sI kH=>(Y (I ((x0.Widths).length:Int)) (G7 underlying25 rfl kH) (aT (.bool (((x0.Widths).length:Int)==(0:Int))) rfl rfl rfl (H (.bool (((x0.Widths).length:Int)==(0:Int))) (O ?_)))));rcases Zt h with ⟨cC,h⟩ | ⟨cC,h⟩
     ·refine Gz cC rfl (Zu ?_)
      cases h;exact hQ _ _ ⟨l9,hfr,v8,l5,i6,o0,l8,t5,u4_0_58,u4_2_58,rfl⟩
     ·refine G0 cC rfl (Z (Y (S p1 0) (Zc Ha i6 (PT.ptr o0)) ?_))
      have lH:=Zm Qa.1 o0;refine G (Ga (g:=l9) isAgg25 sizeOf25 rfl lH fun mH nH=>?_);obtain ⟨aB,sG,h⟩:=Z1 h;refine G (aJ (g:=l9) (vs:=[I 1,I 100,mH]) en45 (wk45 nH sG) fun lE jI jJ hs hr=>?_);have hfr:=hfr.ext hs;have l5:=l5.ext hs;have o0:=o0.ext hs;have u4_0_58:=u4_0_58.ext hs;have u4_2_58:=u4_2_58.ext hs;have t5:=t5.ext hs;subst hr;refine Y (.bool (!aB)) (Qw rfl) (H (.bool (!aB)) (O ?_));rcases Zt h with ⟨uC,h⟩ | ⟨uC,h⟩
      ·refine Gz uC rfl (Zu ?_)
       cases h;exact hQ _ _ ⟨lE,hfr,v8,l5,i6,o0,l8,t5,u4_0_58,u4_2_58,rfl⟩
      ·refine G0 uC rfl (Z (Y (S p1 1) (Zc Rg i6 (PT.ptr o0)) ?_))
       have oH:=Zm Hp.1 o0;refine G (Ga (g:=lE) isAgg3 sizeOf3 rfl oH fun kJ pH=>?_);obtain rfl:=Zj.1 pH;refine G (Gd (g:=lE) 3027 (xs:=([x0.Change]:List Int)) (vs:=[I x0.Change]) underlying25 sizeOf3 zeroValue3 rfl rfl (.cons rfl .nil) (RVs.cons (Zj.2 rfl) RVs.nil) rfl rfl fun qH lJ sH hs o90 tH hxt hfl=>?_);have hfr:=hfr.stp hs;have l5:=l5.stp hs;have o0:=o0.stp hs;have u4_0_58:=u4_0_58.stp hs rfl;have u4_2_58:=u4_2_58.stp hs rfl;have t5:=t5.stp hs rfl;obtain ⟨lB,xG,h⟩:=Z1 h;refine G (aJ (g:=qH) (vs:=[I 0,I 20,sH]) en45 (wk45 tH xG) fun eG kI mJ hs hr=>?_);have hfr:=hfr.ext hs;have l5:=l5.ext hs;have o0:=o0.ext hs;have u4_0_58:=u4_0_58.ext hs;have u4_2_58:=u4_2_58.ext hs;have t5:=t5.ext hs;subst hr;refine Y (.bool (!lB)) (Qw rfl) (H (.bool (!lB)) (O ?_));rcases Zt h with ⟨vC,h⟩ | ⟨vC,h⟩
       ·refine Gz vC rfl (Zu ?_)
        cases h;exact hQ _ _ ⟨eG,hfr,v8,l5,i6,o0,l8,t5,u4_0_58,u4_2_58,rfl⟩
       ·refine G0 vC rfl (Za (aQ v8 (aQ cF ?_)))
        obtain ⟨aE,yG,h⟩:=Z1 h;refine G (aJ (g:=eG) (vs:=[up1,.func (.func 43) #[] #[]]) en46 (wk46 l5 ⟨43,#[],#[],rfl,en43,fun g' w' hch a0 b0 r hu0 hr=>by exact Fn.mono (wk43 hu0  hr) fun _ _ _ h=>Tz.2 h⟩ yG) fun uH lI nJ hs hr=>?_);have hfr:=hfr.ext hs;have l5:=l5.ext hs;have o0:=o0.ext hs;have u4_0_58:=u4_0_58.ext hs;have u4_2_58:=u4_2_58.ext hs;have t5:=t5.ext hs;subst hr;refine H (.bool aE) (Zb ?_);cases h;exact hQ _ _ ⟨uH,hfr,v8,l5,i6,o0,l8,t5,u4_0_58,u4_2_58,rfl⟩
    ·clear hx
     obtain ⟨mE,hfr,dF,eF,rF,sF,n9,yD,u4_0_96,u4_2_96,mB⟩:=hR;rcases Zt h with ⟨bD,h⟩ | ⟨bD,h⟩
     ·refine Ta (Eq.trans (show X _ _=.bool g8 from mB) (congrArg Value.bool bD)) (Z ?_)
      have gG:RV mE.m gH (⟨⟨[],0⟩,[]⟩:Z8) (.agg (Tk [[.slice none 0 0,I 0],[.slice none 0 0]] []).flatten.toArray):=Ti rfl (Gs (Gg Tb Zw) (To Tb));generalize cD:(Value.agg (Tk [[.slice none 0 0,I 0],[.slice none 0 0]] []).flatten.toArray)=iG at gG;refine Y iG (cD▸T3 (vs:=[]) [[.slice none 0 0,I 0],[.slice none 0 0]] Mo rfl rfl .nil trivial) (G (Gk (g:=mE) (v:=iG) sizeOf80 n9 yD rfl gG fun jG kG hs b99 cb=>?_));have zH:OSF 2004 60400 0 jG kG 3 80 ([]:List Int) p2:=cb.osf (by rw [← cD];rfl);have aI:OSF 2004 60402 2 jG kG 59 80 ([]:List Z5) p2:=cb.osf (by rw [← cD];rfl);clear cb;have hfr:=hfr.stp hs;refine H (I 2) (O (Gb (G6 (Gj ?_))));obtain rfl:=sinj h;obtain ⟨ad100,cv100,hp100,tF,cr100⟩:=Qh isAgg80 sizeOf80 b99;exact Kv rfl rfl ((show _=p2 from n9).trans hp100) tF (show _=I 2 from rfl) ⟨_,hfr,_,_,rfl,cr100,rfl⟩
     ·refine Gv (Eq.trans (show X _ _=.bool g8 from mB) (congrArg Value.bool bD)) ?_
      exact Zu (Te (Zd (lG (⟨⟨[],0⟩,[]⟩:Z8) _ _ ⟨mE,hfr,dF,eF,rF,sF,n9,yD,u4_0_96,u4_2_96⟩ h)))
 ·rintro zD bI mI ⟨lD,hfr,oE,nB,rE,uE,oB,vE,u4_0_101,u4_2_101⟩ h
  refine Z (G (Ga (g:=lD) isAgg27 sizeOf27 rE uE fun nD xE=>(aQ oE ?_)));have yE:RV lD.m _ (⟨x0,x1⟩:Z8) (.agg (Tk [[.slice none 0 0,I 0],[.slice none 0 0]] [(0,nD),(1,up1)]).flatten.toArray):=Ti rfl (Gs (RV.cells xE) (To (RV.cells nB)));generalize uF:(Value.agg (Tk [[.slice none 0 0,I 0],[.slice none 0 0]] [(0,nD),(1,up1)]).flatten.toArray)=zE at yE;refine Y zE (uF▸T3 (vs:=[(0,nD),(1,up1)]) [[.slice none 0 0,I 0],[.slice none 0 0]] Mo rfl rfl (.cons rfl (.cons rfl .nil)) ⟨⟨_,rfl,Tl xE⟩,⟨⟨_,rfl,Tl nB⟩,trivial⟩⟩) (G (Gk (g:=lD) (v:=zE) sizeOf80 oB vE rfl yE fun nI pI hs b104 cb=>?_));clear cb;have hfr:=hfr.stp hs;refine H (I 0) (O (Gb ?_));obtain rfl:=sinj h;obtain ⟨ad105,cv105,hp105,vF,cr105⟩:=Qh isAgg80 sizeOf80 b104;exact Kv rfl rfl ((show _=p2 from oB).trans hp105) vF (show _=I 0 from rfl) ⟨_,hfr,_,_,rfl,cr105,rfl⟩
def f23 (x0:LoomMill) (x1:List Z5) (x2:List Z3) (x3:LoomStop):Option (Tj × Int):=
 (f18 x0 x1).bind fun y6=>
 Option.bind (α:=Int) (
  bif (y6.2==(0:Int)) then
   (f50 y6.1 x2).bind fun lB=>
   some lB.2
  else
   some y6.2
  ) fun i6=>
 jn (σ:=Tj) (fun yE=>
  some ((⟨y6.1,x3⟩:Tj),(0:Int))
  ) fun kG=>
 bif (i6 != (0:Int)) then
  some ((⟨⟨⟨[],0⟩,[]⟩,⟨0,⟨0,0⟩⟩⟩:Tj),i6)
 else
  (f45 (0:Int) (w64 (((x0.Widths).length:Int)-(1:Int))) ([x3.Loom]:List Int)).bind fun lE=>
  bif (!lE) then
   some ((⟨⟨⟨[],0⟩,[]⟩,⟨0,⟨0,0⟩⟩⟩:Tj),(7:Int))
  else
   Option.bind (α:=Bool) (
    (f29 ([(x3.Days).Low,(x3.Days).High]:List Int)).bind fun mB=>
    bif (!mB) then
     some (!mB)
    else
     some (decide ((x3.Days).Low>(x3.Days).High))
    ) fun l9=>
   bif l9 then
    some ((⟨⟨⟨[],0⟩,[]⟩,⟨0,⟨0,0⟩⟩⟩:Tj),(2:Int))
   else
    kG (⟨⟨⟨[],0⟩,[]⟩,⟨0,⟨0,0⟩⟩⟩:Tj)
theorem en23:Enters prog 23:=yC func23
theorem wk23 {x0:LoomMill} {x1:List Z5} {x2:List Z3} {x3:LoomStop} (rp0:RV gI.m wI x0 up0) (rp1:RV gI.m wI x1 up1) (rp2:RV gI.m wI x2 up2) (rp3:RV gI.m wI x3 up3) {r:Tj × Int} (h:f23 x0 x1 x2 x3=some r):Fn prog 23 #[up0,up1,up2,up3] gI wI (fun m w v=>∃ y0 y1,v=.tuple #[y0,y1]∧RV m w r.1 y0∧y1=I r.2):=by
 unfold f23 at h;refine fnE func23 rfl rfl fun g0 hm hfr=>?_;have rp0:=RVc hm rp0;have rp1:=RVc hm rp1;have rp2:=RVc hm rp2;have rp3:=RVc hm rp3;refine Z (G (Tw (g:=g0) rfl rp0 fun g1 w1 p1 hs q1=>?_));have hfr:=hfr.ext hs;have rp1:=rp1.ext hs;have rp2:=rp2.ext hs;have rp3:=rp3.ext hs;refine G (Tw (g:=g1) rfl rp3 fun g2 w2 p2 hs q2=>?_);have hfr:=hfr.ext hs;have rp1:=rp1.ext hs;have rp2:=rp2.ext hs;have q1:=q1.ext hs;refine G (Gu (g:=g2) 2008 (⟨⟨⟨[],0⟩,[]⟩,⟨0,⟨0,0⟩⟩⟩:Tj) zeroValue91 (fun m w=>⟨_,(Gg (Gg (Gg Tb Zw) Tb) (Gg Zw (Gg Zw Zw))),rfl⟩) fun g3 w3 p3 hs b3 cb=>?_);have hfr:=hfr.stp hs;have rp1:=rp1.stp hs;have rp2:=rp2.stp hs;have q1:=q1.stp hs;have q2:=q2.stp hs;have n8:OSF 2008 60800 0 g3 w3 3 91 ([]:List Int) p3:=cb.osf (by rfl);have v8:OSF 2008 60802 2 g3 w3 59 91 ([]:List Z5) p3:=cb.osf (by rfl);clear cb;refine H (I 0) (O (Z (G (Ga (g:=g3) isAgg27 sizeOf27 rfl q1 fun v4 r4=>(M up1 ?_)))));obtain ⟨y6,tH,h⟩:=Z1 h;refine G (aJ (g:=g3) (vs:=[v4,up1]) en18 (wk18 r4 rp1 tH) fun g5 w5_ v5 hs hr=>?_);have hfr:=hfr.ext hs;have rp2:=rp2.ext hs;have q1:=q1.ext hs;have q2:=q2.ext hs;have n8:=n8.ext hs;have v8:=v8.ext hs;have b3:=b3.ext hs;obtain ⟨lD,mJ,rfl,nD,rfl⟩:=hr;refine M (.tuple #[lD,I y6.2]) (Y lD (Zi rfl rfl) (Y (I y6.2) (Zi rfl rfl) (G (Gu (g:=g5) 2010 (⟨⟨[],0⟩,[]⟩:Z8) zeroValue80 (fun m w=>⟨_,(Gg (Gg Tb Zw) Tb),rfl⟩) fun g7 w7 p7 hs b7 cb=>?_))));have hfr:=hfr.stp hs;have rp2:=rp2.stp hs;have q1:=q1.stp hs;have q2:=q2.stp hs;have n8:=n8.stp hs rfl;have v8:=v8.stp hs rfl;have b3:=b3.stp hs rfl;have nD:=nD.stp hs;have nJ:OSF 2010 61000 0 g7 w7 3 80 ([]:List Int) p7:=cb.osf (by rfl);have oJ:OSF 2010 61002 2 g7 w7 59 80 ([]:List Z5) p7:=cb.osf (by rfl);clear cb;refine G (Gk (g:=g7) (v:=lD) sizeOf80 rfl b7 rfl nD fun g8 w8 hs b8 cb=>?_);clear cb;have hfr:=hfr.stp hs;have rp2:=rp2.stp hs;have q1:=q1.stp hs;have q2:=q2.stp hs;have n8:=n8.stp hs rfl;have v8:=v8.stp hs rfl;have b3:=b3.stp hs rfl;refine H (I y6.2) (O ?_);obtain ⟨i6,hx,h⟩:=Z1 h;refine Gn (xD gI wI fun e w g=>e 4=p1∧PT g.m w (x0:LoomMill) p1∧e 7=p2∧PT g.m w (x3:LoomStop) p2∧e 8=p3∧OB 2008 g w 91 ((⟨⟨⟨[],0⟩,[]⟩,⟨0,⟨0,0⟩⟩⟩:Tj):Tj) p3∧OSF 2008 60800 0 g w 3 91 ((((⟨⟨⟨[],0⟩,[]⟩,⟨0,⟨0,0⟩⟩⟩:Tj).mill).LoomMill).Widths) p3∧OSF 2008 60802 2 g w 59 91 (((⟨⟨⟨[],0⟩,[]⟩,⟨0,⟨0,0⟩⟩⟩:Tj).mill).orders) p3∧e 9=I (i6)∧e 10=p7∧OB 2010 g w 80 (y6.1:Z8) p7) (fun Q' hQ=>?_) (fun pJ pK hR=>?_)
 ·replace h:=hx
  clear hx;refine Z (M (I y6.2) (aT (.bool (y6.2==(0:Int))) rfl rfl rfl (O ?_)));rcases Zt h with ⟨oD,h⟩ | ⟨oD,h⟩
  ·refine Gz oD rfl (Za (G (Tr (g:=g8) isAgg80 sizeOf80 rfl b8 fun uH xH=>(M up2 ?_))))
   obtain ⟨lB,lG,h⟩:=Z1 h;refine G (aJ (g:=g8) (vs:=[uH,up2]) en50 (wk50 xH rp2 lG) fun yH qJ qK hs hr=>?_);have hfr:=hfr.ext hs;have q1:=q1.ext hs;have q2:=q2.ext hs;have n8:=n8.ext hs;have v8:=v8.ext hs;have b3:=b3.ext hs;have b8:=b8.ext hs;obtain ⟨qI,sI,rfl,rfl,rfl⟩:=hr;refine M (.tuple #[I lB.1,I lB.2]) (Y (I lB.1) (Zi rfl rfl) (Y (I lB.2) (Zi rfl rfl) (H (I lB.2) (Zb ?_))));cases h;exact hQ _ _ ⟨yH,hfr,rfl,q1,rfl,q2,rfl,b3,n8,v8,rfl,rfl,b8⟩
  ·refine G0 oD rfl (Zu ?_)
   cases h;exact hQ _ _ ⟨g8,hfr,rfl,q1,rfl,q2,rfl,b3,n8,v8,rfl,rfl,b8⟩
 ·clear hx
  obtain ⟨uC,hfr,cG,mE,n9,o0,l8,l5,u8_0_17,u8_2_17,oE,vC,t5⟩:=hR;refine Zq h (fun (s:Tj)=>xD gI wI fun e w g=>e 7=p2∧PT g.m w (x3:LoomStop) p2∧e 8=p3∧OB 2008 g w 91 (s:Tj) p3∧OSF 2008 60800 0 g w 3 91 (((s.mill).LoomMill).Widths) p3∧OSF 2008 60802 2 g w 59 91 ((s.mill).orders) p3∧e 10=p7∧OB 2010 g w 80 (y6.1:Z8) p7) (fun X71 kG mG h=>?_) ?_
  ·refine Zr (Z (aQ oE (aT (.bool (i6 != (0:Int))) rfl rfl rfl (H (.bool (i6 != (0:Int))) (O ?_)))))
   rcases Zt h with ⟨yD,h⟩ | ⟨yD,h⟩
   ·refine Gz yD rfl (Z (G (Tr (g:=uC) isAgg91 sizeOf91 l8 l5 fun zH aI=>(aQ oE (G (Gk (g:=uC) (v:=zH) sizeOf91 l8 l5 rfl aI fun sK tK hs b74 cb=>?_))))))
    clear cb;have hfr:=hfr.stp hs;refine H (I i6) (O (Gb (G6 (Gj ?_))));obtain rfl:=sinj h;obtain ⟨ad75,cv75,hp75,sG,cr75⟩:=Qh isAgg91 sizeOf91 b74;exact Kv rfl rfl ((show _=p3 from l8).trans hp75) sG (show _=I i6 from rfl) ⟨_,hfr,_,_,rfl,cr75,rfl⟩
   ·refine G0 yD rfl (Z (Y (S p1 0) (Zc Ha cG (PT.ptr mE)) ?_))
    have bI:=Zm Qa.1 mE;refine G (Ga (g:=uC) isAgg25 sizeOf25 rfl bI fun uK dI=>(Y (I ((x0.Widths).length:Int)) (G7 underlying25 rfl dI) (Y (I (w64 (((x0.Widths).length:Int)-(1:Int)))) (Gp rfl rfl rfl) (Y (S p2 0) (Zc N3 n9 (PT.ptr o0)) ?_))));have iI:=Zm U4.1 o0;refine G (Ga (g:=uC) isAgg3 sizeOf3 rfl iI fun vK jI=>?_);obtain rfl:=Zj.1 jI;refine G (Gd (g:=uC) 3037 (xs:=([x3.Loom]:List Int)) (vs:=[I x3.Loom]) underlying25 sizeOf3 zeroValue3 rfl rfl (.cons rfl .nil) (RVs.cons (Zj.2 rfl) RVs.nil) rfl rfl fun kI xK lI hs o80 mI hxt hfl=>?_);have hfr:=hfr.stp hs;have o0:=o0.stp hs;have u8_0_17:=u8_0_17.stp hs rfl;have u8_2_17:=u8_2_17.stp hs rfl;have l5:=l5.stp hs rfl;have t5:=t5.stp hs rfl;obtain ⟨lE,xG,h⟩:=Z1 h;refine G (aJ (g:=kI) (vs:=[I 0,I (w64 (((x0.Widths).length:Int)-(1:Int))),lI]) en45 (wk45 mI xG) fun bD rJ yK hs hr=>?_);have hfr:=hfr.ext hs;have o0:=o0.ext hs;have u8_0_17:=u8_0_17.ext hs;have u8_2_17:=u8_2_17.ext hs;have l5:=l5.ext hs;have t5:=t5.ext hs;subst hr;refine Y (.bool (!lE)) (Qw rfl) (H (.bool (!lE)) (O ?_));rcases Zt h with ⟨zD,h⟩ | ⟨zD,h⟩
    ·refine Gz zD rfl (Z (G (Tr (g:=bD) isAgg91 sizeOf91 l8 l5 fun nI pI=>(G (Gk (g:=bD) (v:=nI) sizeOf91 l8 l5 rfl pI fun zK aL hs b85 cb=>?_)))))
     clear cb;have hfr:=hfr.stp hs;refine H (I 7) (O (Gb (G6 (Gj ?_))));obtain rfl:=sinj h;obtain ⟨ad86,cv86,hp86,yG,cr86⟩:=Qh isAgg91 sizeOf91 b85;exact Kv rfl rfl ((show _=p3 from l8).trans hp86) yG (show _=I 7 from rfl) ⟨_,hfr,_,_,rfl,cr86,rfl⟩
    ·refine G0 zD rfl ?_
     obtain ⟨l9,hx,h⟩:=Z1 h;refine Gn (xD gI wI fun e w g=>e 7=p2∧PT g.m w (x3:LoomStop) p2∧e 8=p3∧OB 2008 g w 91 ((⟨⟨⟨[],0⟩,[]⟩,⟨0,⟨0,0⟩⟩⟩:Tj):Tj) p3∧OSF 2008 60800 0 g w 3 91 ((((⟨⟨⟨[],0⟩,[]⟩,⟨0,⟨0,0⟩⟩⟩:Tj).mill).LoomMill).Widths) p3∧OSF 2008 60802 2 g w 59 91 (((⟨⟨⟨[],0⟩,[]⟩,⟨0,⟨0,0⟩⟩⟩:Tj).mill).orders) p3∧e 10=p7∧OB 2010 g w 80 (y6.1:Z8) p7∧e 41=.bool l9) (fun Q' hQ=>?_) (fun jJ sJ hR=>?_)
     ·replace h:=hx
      clear hx;refine Z (Y (S p2 1) (Zc Ub n9 (PT.ptr o0)) ?_);have zE:=Zm Wn.1 o0;refine Y (S (S p2 1) 0) (aa La (PT.ptr zE)) ?_;have zG:=Zm Vh.1 zE;refine G (Ga (g:=bD) isAgg3 sizeOf3 rfl zG fun vJ aH=>?_);obtain rfl:=Zj.1 aH;refine Y (S p2 1) (Zc Ub n9 (PT.ptr o0)) ?_;have cF:=Zm Wn.1 o0;refine Y (S (S p2 1) 1) (aa Dx (PT.ptr cF)) ?_;have cH:=Zm Y7.1 cF;refine G (Ga (g:=bD) isAgg3 sizeOf3 rfl cH fun xJ gH=>?_);obtain rfl:=Zj.1 gH;refine G (Gd (g:=bD) 3048 (xs:=([(x3.Days).Low,(x3.Days).High]:List Int)) (vs:=[I ((x3.Days).Low),I ((x3.Days).High)]) underlying25 sizeOf3 zeroValue3 rfl rfl (.cons rfl (.cons rfl .nil)) (RVs.cons (Zj.2 rfl) (RVs.cons (Zj.2 rfl) RVs.nil)) rfl rfl fun jH zJ kH hs o109 lH hxt hfl=>?_);have hfr:=hfr.stp hs;have o0:=o0.stp hs;have u8_0_17:=u8_0_17.stp hs rfl;have u8_2_17:=u8_2_17.stp hs rfl;have l5:=l5.stp hs rfl;have t5:=t5.stp hs rfl;obtain ⟨mB,eG,h⟩:=Z1 h;refine G (aJ (g:=jH) (vs:=[kH]) en29 (wk29 lH eG) fun vB kJ aK hs hr=>?_);have hfr:=hfr.ext hs;have o0:=o0.ext hs;have u8_0_17:=u8_0_17.ext hs;have u8_2_17:=u8_2_17.ext hs;have l5:=l5.ext hs;have t5:=t5.ext hs;subst hr;refine Y (.bool (!mB)) (Qw rfl) (H (.bool (!mB)) (O ?_));rcases Zt h with ⟨yB,h⟩ | ⟨yB,h⟩
      ·refine Gz yB rfl (Zu ?_)
       cases h;exact hQ _ _ ⟨vB,hfr,n9,o0,l8,l5,u8_0_17,u8_2_17,vC,t5,rfl⟩
      ·refine G0 yB rfl (Za (Y (S p2 1) (Zc Ub n9 (PT.ptr o0)) ?_))
       have dF:=Zm Wn.1 o0;refine Y (S (S p2 1) 0) (aa La (PT.ptr dF)) ?_;have mH:=Zm Vh.1 dF;refine G (Ga (g:=vB) isAgg3 sizeOf3 rfl mH fun bK nH=>?_);obtain rfl:=Zj.1 nH;refine Y (S p2 1) (Zc Ub n9 (PT.ptr o0)) ?_;have eF:=Zm Wn.1 o0;refine Y (S (S p2 1) 1) (aa Dx (PT.ptr eF)) ?_;have oH:=Zm Y7.1 eF;refine G (Ga (g:=vB) isAgg3 sizeOf3 rfl oH fun cK pH=>?_);obtain rfl:=Zj.1 pH;refine aT (.bool (decide ((x3.Days).Low>(x3.Days).High))) rfl rfl rfl (H (.bool (decide ((x3.Days).Low>(x3.Days).High))) (Zb ?_));cases h;exact hQ _ _ ⟨vB,hfr,n9,o0,l8,l5,u8_0_17,u8_2_17,vC,t5,rfl⟩
     ·clear hx
      obtain ⟨aE,hfr,rF,sF,aB,nB,u8_0_119,u8_2_119,rE,uE,oB⟩:=hR;rcases Zt h with ⟨zB,h⟩ | ⟨zB,h⟩
      ·refine Ta (Eq.trans (show X _ _=.bool l9 from oB) (congrArg Value.bool zB)) (Z (G (Tr (g:=aE) isAgg91 sizeOf91 aB nB fun qH sH=>(G (Gk (g:=aE) (v:=qH) sizeOf91 aB nB rfl sH fun dK lK hs b122 cb=>?_)))))
       clear cb;have hfr:=hfr.stp hs;refine H (I 2) (O (Gb (G6 (Gj ?_))));obtain rfl:=sinj h;obtain ⟨ad123,cv123,hp123,gG,cr123⟩:=Qh isAgg91 sizeOf91 b122;exact Kv rfl rfl ((show _=p3 from aB).trans hp123) gG (show _=I 2 from rfl) ⟨_,hfr,_,_,rfl,cr123,rfl⟩
      ·refine Gv (Eq.trans (show X _ _=.bool l9 from oB) (congrArg Value.bool zB)) ?_
       exact Zu (Te (Zd (mG (⟨⟨⟨[],0⟩,[]⟩,⟨0,⟨0,0⟩⟩⟩:Tj) _ _ ⟨aE,hfr,rF,sF,aB,nB,u8_0_119,u8_2_119,rE,uE⟩ h)))
  ·rintro yE lJ mK ⟨cC,hfr,tF,uF,cD,vF,u8_0_124,u8_2_124,vE,xE⟩ h
   refine Z (G (Tr (g:=cC) isAgg80 sizeOf80 vE xE fun bE xF=>(G (Ga (g:=cC) isAgg51 sizeOf51 tF uF fun iE yF=>?_))));have aG:RV cC.m _ (⟨y6.1,x3⟩:Tj) (.agg (Tk [[.slice none 0 0,I 0,.slice none 0 0],[I 0,I 0,I 0]] [(0,bE),(1,iE)]).flatten.toArray):=Ti rfl (Gs (RV.cells xF) (To (RV.cells yF)));generalize iG:(Value.agg (Tk [[.slice none 0 0,I 0,.slice none 0 0],[I 0,I 0,I 0]] [(0,bE),(1,iE)]).flatten.toArray)=bG at aG;refine Y bG (iG▸T3 (vs:=[(0,bE),(1,iE)]) [[.slice none 0 0,I 0,.slice none 0 0],[I 0,I 0,I 0]] lay_91 rfl rfl (.cons rfl (.cons rfl .nil)) ⟨⟨_,rfl,Tl xF⟩,⟨⟨_,rfl,Tl yF⟩,trivial⟩⟩) (G (Gk (g:=cC) (v:=bG) sizeOf91 cD vF rfl aG fun nK oK hs b128 cb=>?_));clear cb;have hfr:=hfr.stp hs;refine H (I 0) (O (Gb ?_));obtain rfl:=sinj h;obtain ⟨ad129,cv129,hp129,jG,cr129⟩:=Qh isAgg91 sizeOf91 b128;exact Kv rfl rfl ((show _=p3 from cD).trans hp129) jG (show _=I 0 from rfl) ⟨_,hfr,_,_,rfl,cr129,rfl⟩
theorem dk90 {x0:Int}  {r:Bool} (h:f90 x0=some r):FnD prog 90 #[I x0] gI wI (fun _ _ v=>v=.bool r):=by
 unfold f90 at h;refine V4 func90 rfl (Nat.le_of_ble_eq_true rfl) fun g0 hm hfr=>?_;refine Z (H (.bool false) (O (Z (M (I x0) (M (I x0) (aT (.bool (x0 != x0)) rfl rfl rfl (H (.bool (x0 != x0)) (O (Gb ?_)))))))));cases h;exact ac rfl (rq (.bool (x0 != x0))) ⟨_,hfr,rfl⟩
theorem dk54 {x0:Int} {x1:Int}  {r:Int} (h:f54 x0 x1=some r):FnD prog 54 #[I x0,I x1] gI wI (fun _ _ v=>v=I r):=by
 unfold f54 at h;refine V4 func54 rfl (Nat.le_of_ble_eq_true rfl) fun g0 hm hfr=>?_;refine Z (H (I 0) (O (Z (M (I x0) ?_))));obtain ⟨y2,hy2,h⟩:=Z1 h;refine G (Dm (g:=g0) (vs:=[I x0]) en90 (.cons rfl .nil) (dk90  hy2) fun g1 w1_ v1 hs hr=>?_);have hfr:=hfr.ext hs;subst hr;refine H (.bool y2) (O (Z (M (I x1) ?_)));obtain ⟨y4,bD,h⟩:=Z1 h;refine G (Dm (g:=g1) (vs:=[I x1]) en90 (.cons rfl .nil) (dk90  bD) fun g3 w3_ v3 hs hr=>?_);have hfr:=hfr.ext hs;subst hr;refine H (.bool y4) (O (Zq h (fun (s:Unit) e w=>∃ (g:Gh) ,FrD gI wI g w∧e 0=I (x0)∧e 1=I (x1)∧e 6=.bool y4) (fun X10 oB yB h=>?_) ?_))
 ·refine Z (M (.bool y2) (O ?_))
  rcases Zt h with ⟨o0,h⟩ | ⟨o0,h⟩
  ·refine Gz o0 rfl (Zq h (fun (s:Unit) e w=>∃ (g:Gh) ,FrD gI wI g w) (fun X13 vB zB h=>?_) ?_)
   ·refine Z (M (.bool y4) (O ?_))
    rcases Zt h with ⟨l5,h⟩ | ⟨l5,h⟩
    ·refine Gz l5 rfl (Z (H (I 0) (O (Gb (Gj (Gj ?_))))))
     cases h;exact ac rfl (rq (I 0)) ⟨_,hfr,rfl⟩
    ·refine G0 l5 rfl ?_
     exact Zu (Zd (zB () _ _ ⟨g3,hfr⟩ h))
   ·rintro _ oD w15 ⟨iE,hfr⟩ h
    refine Z (H (I (-1)) (O (Gb (Gj ?_))));cases h;exact ac rfl (rq (I (-1))) ⟨_,hfr,rfl⟩
  ·refine G0 o0 rfl ?_
   exact Zu (Zd (yB () _ _ ⟨g3,hfr,rfl,rfl,rfl⟩ h))
 ·rintro _ yD lE ⟨cD,hfr,v8,l9,n9⟩ h
  refine Zq h (fun (s:Unit) e w=>∃ (g:Gh) ,FrD gI wI g w∧e 0=I (x0)∧e 1=I x1) (fun X18 k18 cC h=>?_) ?_
  ·refine Z (aQ n9 (O ?_))
   rcases Zt h with ⟨t5,h⟩ | ⟨t5,h⟩
   ·refine Gz t5 rfl (Z (H (I 1) (O (Gb (Gj ?_)))))
    cases h;exact ac rfl (rq (I 1)) ⟨_,hfr,rfl⟩
   ·refine G0 t5 rfl ?_
    exact Zu (Zd (cC () _ _ ⟨cD,hfr,v8,l9⟩ h))
  ·rintro _ zD mE ⟨lD,hfr,l8,n8⟩ h
   refine Zq h (fun (s:Unit) e w=>∃ (g:Gh) ,FrD gI wI g w∧e 0=I (x0)∧e 1=I x1) (fun X22 nB uC h=>?_) ?_
   ·refine Z (aQ l8 (aQ n8 (aT (.bool (decide (x0<x1))) rfl rfl rfl (O ?_))))
    rcases Zt h with ⟨i6,h⟩ | ⟨i6,h⟩
    ·refine Gz i6 rfl (Z (H (I (-1)) (O (Gb (Gj ?_)))))
     cases h;exact ac rfl (rq (I (-1))) ⟨_,hfr,rfl⟩
    ·refine G0 i6 rfl ?_
     exact Zu (Zd (uC () _ _ ⟨lD,hfr,l8,n8⟩ h))
   ·rintro _ aE oE ⟨nD,hfr,aB,lB⟩ h
    refine Zq h (fun (s:Unit) e w=>∃ (g:Gh) ,FrD gI wI g w) (fun X26 mB vC h=>?_) ?_
    ·refine Z (aQ aB (aQ lB (aT (.bool (decide (x0>x1))) rfl rfl rfl (O ?_))))
     rcases Zt h with ⟨g8,h⟩ | ⟨g8,h⟩
     ·refine Gz g8 rfl (Z (H (I 1) (O (Gb (Gj ?_)))))
      cases h;exact ac rfl (rq (I 1)) ⟨_,hfr,rfl⟩
     ·refine G0 g8 rfl ?_
      exact Zu (Zd (vC () _ _ ⟨nD,hfr⟩ h))
    ·rintro _ bE rE ⟨uE,hfr⟩ h
     refine Z (H (I 0) (O (Gb ?_)));cases h;exact ac rfl (rq (I 0)) ⟨_,hfr,rfl⟩
theorem dk53 {x0:List Int} (rp0:RV gI.m wI x0 up0) {r:Int} (h:f53 x0=some r):FnD prog 53 #[up0] gI wI (fun _ _ v=>v=I r):=by
 unfold f53 at h;refine V4 func53 rfl (Nat.le_of_ble_eq_true rfl) fun g0 hm hfr=>?_;have rp0:=RVc hm rp0;refine Z (H (I 0) (O (Z (H (I 0) (O (Zq h (fun (s:Unit) e w=>∃ (g:Gh) ,FrD gI wI g w∧e 3=I (0:Int)) (fun X14 k14 cC h=>?_) ?_))))))
 ·refine Z (M up0 (Y (I (x0.length:Int)) (G7 underlying25 rfl rp0) (M (I 0) (O (Zr (Qz h (fun (s:Int) e w=>∃ (g:Gh) ,FrD gI wI g w∧e 3=I (0:Int)∧e 6=up0∧RV g.m w (x0:List Int) up0∧e 7=I (x0.length:Int)∧e 8=I s) ⟨g0,hfr,rfl,rfl,rp0,rfl,rfl⟩ (fun X15 yB uC=>?_)))))))
  rintro o0 nD zD ⟨l9,hfr,l5,n8,t5,v8,i6⟩ h;refine Z (aT (.bool (decide (o0<(x0.length:Int)))) i6 v8 rfl (O (Zf ?_)));rcases Zt h with ⟨g8,h⟩ | ⟨g8,h⟩
  ·refine Gz g8 rfl (Zu (Zd (Zq h (fun (s:Unit) e w=>∃ (g:Gh) ,FrD gI wI g w∧e 3=I (0:Int)∧e 6=up0∧RV g.m w (x0:List Int) up0∧e 7=I (x0.length:Int)∧e 8=I o0) (fun X22 zB vC h=>?_) ?_)))
   ·refine Zr (Z ?_)
    obtain ⟨y23,n9,h⟩:=Z1 h;refine Y (Gy up0 o0 1) (Zh (α:=Int) underlying25 sizeOf3 n8 t5 i6 n9) ?_;have bD:=G1 t5 n9;refine G (Ga (g:=l9) isAgg3 sizeOf3 rfl bD fun aE cD=>?_);obtain rfl:=Zj.1 cD;refine H (I y23) (O (Z (M (I y23) (aQ l5 (aT (.bool (y23 != (0:Int))) rfl rfl rfl (O ?_))))));rcases Zt h with ⟨l8,h⟩ | ⟨l8,h⟩
    ·refine Gz l8 rfl (Z (M (I y23) (H (I y23) (O (Gb (G6 (Gj (Gj (G6 (Gj ?_))))))))))
     obtain rfl:=sinj h;exact ac rfl (rq (I y23)) ⟨_,hfr,rfl⟩
    ·refine G0 l8 rfl ?_
     exact Zu (Te (Zd (vC () _ _ ⟨l9,hfr,l5,n8,t5,v8,i6⟩ h)))
   ·rintro _ oD bE ⟨lD,hfr,aB,lB,mB,nB,oB⟩ h
    refine Za (aT (I (w64 (o0+(1:Int)))) oB rfl rfl (M (I (w64 (o0+(1:Int)))) ?_));exact O (uC (w64 (o0+(1:Int))) _ _ ⟨lD,hfr,aB,lB,mB,nB,rfl⟩ h)
  ·refine G0 g8 rfl (Th (Gr (Gr (G2 ?_))))
   exact Zd (cC () _ _ ⟨l9,hfr,l5⟩ h)
 ·rintro _ yD iE ⟨lE,hfr,vB⟩ h
  refine Z (aQ vB (H (I (0:Int)) (O (Gb ?_))));cases h;exact ac rfl (rq (I (0:Int))) ⟨_,hfr,rfl⟩
theorem dk33 {x0:Z4} {x1:Z4} (rp0:RV gI.m wI x0 up0) (rp1:RV gI.m wI x1 up1) {r:Int} (h:f33 x0 x1=some r):FnD prog 33 #[up0,up1] gI wI (fun _ _ v=>v=I r):=by
 unfold f33 at h;refine V4 func33 rfl (Nat.le_of_ble_eq_true rfl) fun g0 hm hfr=>?_;have rp0:=RVc hm rp0;have rp1:=RVc hm rp1;refine Z (G (D_boxD (g:=g0) rfl rp0 fun g1 w1 p1 hs q1=>?_));have hfr:=hfr.ext hs;have rp1:=rp1.ext hs.1;refine G (D_boxD (g:=g1) rfl rp1 fun g2 w2 p2 hs q2=>?_);have hfr:=hfr.ext hs;have q1:=q1.ext hs.1;refine H (I 0) (O (Zf ?_));have q3:=Zm Ql.1 q1;refine Zs (x:=.tmp 5) isAgg3 sizeOf3 q3 fun v4 r4 n8=>?_;obtain rfl:=Zj.1 r4;have q5:=Zm Ql.1 q2;refine Zs (x:=.tmp 7) isAgg3 sizeOf3 q5 fun v6 r6 v8=>?_;obtain rfl:=Zj.1 r6;obtain ⟨y8,l9,h⟩:=Z1 h;have q9:=Zm Qi.1 q1;refine Zs (x:=.tmp 10) isAgg3 sizeOf3 q9 fun mB n9 i6=>?_;obtain rfl:=Zj.1 n9;have aB:=Zm Qi.1 q2;refine Zs (x:=.tmp 12) isAgg3 sizeOf3 aB fun nB lB hl12=>?_;obtain rfl:=Zj.1 lB;obtain ⟨o0,g8,h⟩:=Z1 h;obtain ⟨t5,l8,h⟩:=Z1 h;refine Ee (g:=g2) (n:=13) [(4,(fun v g w=>v=I y8)),(9,(fun v g w=>v=I o0)),(10,(fun v g w=>RV g.m w ([y8,o0]:List Int) v)),(11,(fun v g w=>v=I t5))] [0,1,2,3,4,5,6,7,8,9,10,11,12] rfl mixed (by kernel_rfl) (⟨fun _=>Ww _,fun _=>Ww _,fun _=>Hm,fun _=>Ww _,trivial⟩) (V (S p1 0) rfl (aa Ju (PT.ptr q1)) (G3 (c:=I x0.Day) rfl rfl .plain (fun _ _ h=>h.1.ch) n8 rfl (V (S p2 0) rfl (aa Ju (PT.ptr q2)) (G3 (c:=I x1.Day) rfl rfl .plain (fun _ _ h=>h.1.ch) v8 rfl (Wd (φ:=fun v g w=>v=I y8) rfl rfl .plain (fun g w hd=>Dm (g:=g) (vs:=[I x0.Day,I x1.Day]) en54 (.cons rfl (.cons rfl .nil)) (dk54  l9) fun g' w' v hs hr=>⟨g',hs,hr⟩) (fun v7 hv=>?_))))));obtain ⟨_,_,_,rfl⟩:=hv;refine V (S p1 1) rfl (aa Hx (PT.ptr q1)) (G3 (c:=I x0.Loom) rfl rfl .plain (fun _ _ h=>h.1.ch) i6 rfl (V (S p2 1) rfl (aa Hx (PT.ptr q2)) (G3 (c:=I x1.Loom) rfl rfl .plain (fun _ _ h=>h.1.ch) hl12 rfl (Wd (φ:=fun v g w=>v=I o0) rfl rfl .plain (fun g w hd=>Dm (g:=g) (vs:=[I x0.Loom,I x1.Loom]) en54 (.cons rfl (.cons rfl .nil)) (dk54  g8) fun g' w' v hs hr=>⟨g',hs,hr⟩) (fun oB hv=>?_)))));obtain ⟨_,_,_,rfl⟩:=hv;refine Wd (φ:=fun v g w=>RV g.m w ([y8,o0]:List Int) v) rfl rfl .plain (fun g w hd=>Cy (g:=g) 3015 (xs:=([y8,o0]:List Int)) (vs:=[I y8,I o0]) underlying25 sizeOf3 zeroValue3 rfl rfl (.cons rfl (.cons rfl .nil)) (RVs.cons (Zj.2 rfl) (RVs.cons (Zj.2 rfl) RVs.nil)) rfl rfl fun g' w' v hxt r=>⟨g',hxt,r⟩) (fun l5 hv=>?_);clear hv;refine Wd (φ:=fun v g w=>v=I t5) rfl rfl .plain (fun g w hd=>Dm (g:=g) (vs:=[l5]) en53 (.cons rfl .nil) (dk53 (Yv (A:=fun g w=>RV g.m w ([y8,o0]:List Int) l5) 10 rfl rfl (Q9 hd)) l8) fun g' w' v hs hr=>⟨g',hs,hr⟩) (fun vB hv=>?_);obtain ⟨_,_,_,rfl⟩:=hv;refine V (I t5) rfl (Tp rfl) (Jx fun yB zB hall=>?_);have hs:=hall.1;have hfr:=hfr.ext hs;clear hs hall;refine O (Gb ?_);obtain rfl:=sinj h;exact ac rfl (rq (I t5)) ⟨_,hfr,rfl⟩
def Ar (x:Z4):List Value:=[I x.Day,I x.Loom,I x.Chain,I x.Tie,I x.Picks]
theorem S5:Enc Z4 Ar where
 rep m w x cs:=by
  constructor
  ·rintro ⟨_,_,rfl,h1,_,_,rfl,h2,_,_,rfl,h3,_,_,rfl,h4,h5⟩
   cases h1;cases h2;cases h3;cases h4;cases h5;rfl
  ·rintro rfl;exact ⟨[_],_,rfl,rfl,[_],_,rfl,rfl,[_],_,rfl,rfl,[_],_,rfl,rfl,rfl⟩
 len _:=rfl
 one x v hv:=by
  simp only [Ar,List.mem_cons,List.not_mem_nil,or_false] at hv
  rcases hv with rfl | rfl | rfl | rfl | rfl<;>rfl
 pos:=by decide
theorem Ea:Sorts prog 70 (α:=Z4) Ar where
 row cf hO g blk off cap d w eg hc hH hb hs:=Tryz.sort_row Ar (fun _=>rfl) S5.one cf hO g blk off cap d w eg hc hH hb hs
 none:=Tryz.sort_none
noncomputable def f70 (x0:List Z4) (x1:Z4→Z4→Option Int):Option (List Z4):=C6 x0 x1
theorem en70:Enters prog 70:=yC func70
theorem wk70s {i:Nat} {g:Gh} {w:World} {xs r:List Z4} {v:Value} (hv:OM i g w 61 xs v) (h:f70 xs (fun a0 a1=>f33 a0 a1)=some r) :
  FnM prog 70 #[v,.func (.func 33) #[] #[]] i g w (fun g w u=>u=.tuple #[]∧OM i g w 61 r v):=
 sort_fnM S5 Ea en33 (fun g w x y z hz=>dk33 (gI:=g) (wI:=w) (up0:=.agg (Ar x).toArray) (up1:=.agg (Ar y).toArray) ⟨Ar x,(S5.rep _ _ _ _).2 rfl,rfl⟩ ⟨Ar y,(S5.rep _ _ _ _).2 rfl,rfl⟩ hz) hv h
noncomputable def f36 (x0:List (List UInt8)):Option ((List Z4) × Int × Int):=
 jn (σ:=Unit) (fun _=>
  jn (σ:=(List (List Z4))) (fun i6=>
   jn (σ:=(List Z4)) (fun cD=>
    jn (σ:=Unit) (fun _=>
     (f70 cD (fun a0 a1=>f33 a0 a1)).bind fun jM=>
     some (jM,(0:Int),(0:Int))
     ) fun kM=>
    bif (decide ((cD.length:Int)>(100:Int))) then
     some (([]:List Z4),(0:Int),(5:Int))
    else
     kM ()
    ) fun pM=>
   lp (σ:=(List Z4) × (List (Tf × Z4)) × Int) (fun qM (xE,sG,t5)=>
    bif (decide (t5<(i6.length:Int))) then
     jn (σ:=(List Z4) × (List (Tf × Z4))) (fun (jG,dF)=>
      qM (jG,dF,(w64 (t5+(1:Int))))
      ) fun rM=>
     (idx i6 t5).bind fun yB=>
     lp (σ:=(List Z4) × (List (Tf × Z4)) × Int) (fun sM (zB,l5,n8)=>
      bif (decide (n8<(yB.length:Int))) then
       jn (σ:=(List Z4) × (List (Tf × Z4))) (fun (kG,eF)=>
        sM (kG,eF,(w64 (n8+(1:Int))))
        ) fun sI=>
       (idx yB n8).bind fun o0=>
       jn (σ:=Unit) (fun _=>
        bif (!((Qo l5 (⟨o0.Day,o0.Loom⟩:Tf)).isSome)) then
         (apnd 40 zB ([o0]:List Z4)).bind fun jJ=>
         sI (jJ,(H4 l5 (⟨o0.Day,o0.Loom⟩:Tf) o0))
        else
         sI (zB,l5)
        ) fun tM=>
       Option.bind (α:=Bool) (
        bif ((Qo l5 (⟨o0.Day,o0.Loom⟩:Tf)).isSome) then
         some (!(decide (((Qo l5 (⟨o0.Day,o0.Loom⟩:Tf)).getD (⟨0,0,0,0,0⟩:Z4))=o0)))
        else
         some false
        ) fun lD=>
       bif lD then
        some (([]:List Z4),t5,(6:Int))
       else
        tM ()
      else
       rM (zB,l5)
      ) big (xE,sG,(0:Int))
    else
     pM xE
    ) big (([]:List Z4),([]:List (Tf × Z4)),(0:Int))
   ) fun eP=>
  lp (σ:=(List (List Z4)) × Int) (fun gP (lE,g8)=>
   bif (decide (g8<(x0.length:Int))) then
    jn (σ:=(List (List Z4))) (fun qH=>
     gP (qH,(w64 (g8+(1:Int))))
     ) fun iP=>
    (idx x0 g8).bind fun jP=>
    (f69 jP).bind fun cC=>
    jn (σ:=Unit) (fun _=>
     (apnd 24 lE ([cC.1]:List (List Z4))).bind fun uM=>
     iP uM
     ) fun k80=>
    bif (cC.2.2 != (0:Int)) then
     some (([]:List Z4),g8,cC.2.2)
    else
     k80 ()
   else
    eP lE
   ) big ([],(0:Int))
  ) fun k5=>
 bif (decide ((x0.length:Int)>(10:Int))) then
  some (([]:List Z4),(0:Int),(5:Int))
 else
  k5 ()
theorem en36:Enters prog 36:=yC func36
theorem wk36 {x0:List (List UInt8)} (rp0:RV gI.m wI x0 up0) {r:(List Z4) × Int × Int} (h:f36 x0=some r):Fn prog 36 #[up0] gI wI (fun m w v=>∃ y0 y1 y2,v=.tuple #[y0,y1,y2]∧RV m w r.1 y0∧y1=I (r.2.1)∧y2=I r.2.2):=by
 unfold f36 at h;refine fnE func36 rfl rfl fun g0 hm hfr=>?_;have rp0:=RVc hm rp0;refine Z (H (.slice none 0 0) ?_);have b1:OA 4002 g0 wI 61 ([]:List Z4) (.slice none 0 0):=OA.nil;refine H (I 0) (H (I 0) (O (Zq h (fun (s:Unit)=>xD gI wI fun e w g=>e 0=up0∧RV g.m w (x0:List (List UInt8)) up0∧e 2=.slice none 0 0∧OA 4002 g w 61 (([]:List Z4):List Z4) (Value.slice none 0 0)) (fun X5 k5 hk5 h=>?_) ?_)))
 ·refine Z (M up0 (Y (I (x0.length:Int)) (G7 underlying62 rfl rp0) (aT (.bool (decide ((x0.length:Int)>(10:Int)))) rfl rfl rfl (O ?_))))
  rcases Zt h with ⟨hc6,h⟩ | ⟨hc6,h⟩
  ·refine Gz hc6 rfl (Z (H (.slice none 0 0) ?_))
   have b7:OA 4002 g0 wI 61 ([]:List Z4) (.slice none 0 0):=OA.nil;refine H (I 0) (H (I 5) (O (Gb (Gj ?_))));obtain ⟨gp8,hs,rp8⟩:=OM.pub b7.toM;have hfr:=hfr.stp hs;cases h;exact Yi rfl rfl (rq (.slice none 0 0)) (rq (I 0)) (rq (I 5)) ⟨_,hfr,_,_,_,rfl,rp8,rfl,rfl⟩
  ·refine G0 hc6 rfl ?_
   exact Zu (Zd (hk5 () _ _ ⟨g0,hfr,rfl,rp0,rfl,b1⟩ h))
 ·rintro _ sT w9 ⟨g9,hfr,mP,vM,nP,oP⟩ h
  refine Z (H (.slice none 0 0) (O (Zq h (fun (s:(List (List Z4))) e w=>∃ (g:Gh) (v5:Value),Fr gI wI g w∧e 2=.slice none 0 0∧OA 4002 g w 61 (([]:List Z4):List Z4) (Value.slice none 0 0)∧e 5=v5∧RV g.m w (s:List (List Z4)) v5∧OS 1005 g w 54 (s:List (List Z4)) v5) (fun X49 eP pP h=>?_) ?_)))
  ·refine Z (aQ mP (Y (I (x0.length:Int)) (G7 underlying62 rfl vM) (M (I 0) (O (Zr (Qz h (fun (s:(List (List Z4)) × Int) e w=>∃ (g:Gh) (v5:Value),Fr gI wI g w∧e 2=.slice none 0 0∧OA 4002 g w 61 (([]:List Z4):List Z4) (Value.slice none 0 0)∧e 5=v5∧RV g.m w (s.1:List (List Z4)) v5∧OS 1005 g w 54 (s.1:List (List Z4)) v5∧e 21=up0∧RV g.m w (x0:List (List UInt8)) up0∧e 22=I (x0.length:Int)∧e 23=I s.2) ⟨g9,(.slice none 0 0),hfr,nP,oP,rfl,T8,OS.nil,rfl,vM,rfl,rfl⟩ (fun X50 gP sP=>?_)))))))
   rintro ⟨lE,g8⟩ cS tT ⟨xM,bG,hfr,rJ,cG,sJ,eG,gG,dI,aE,iI,yE⟩ h;refine Z (aT (.bool (decide (g8<(x0.length:Int)))) yE iI rfl (O (Zf ?_)));rcases Zt h with ⟨kJ,h⟩ | ⟨kJ,h⟩
   ·refine Gz kJ rfl (Zu (Zd (Zq h (fun (s:(List (List Z4))) e w=>∃ (g:Gh) (v5:Value),Fr gI wI g w∧e 2=.slice none 0 0∧OA 4002 g w 61 (([]:List Z4):List Z4) (Value.slice none 0 0)∧e 5=v5∧RV g.m w (s:List (List Z4)) v5∧OS 1005 g w 54 (s:List (List Z4)) v5∧e 21=up0∧RV g.m w (x0:List (List UInt8)) up0∧e 22=I (x0.length:Int)∧e 23=I g8) (fun X71 iP tP h=>?_) ?_)))
    ·refine Zr (Z (aQ yE ?_))
     obtain ⟨jP,bN,h⟩:=Z1 h;refine Y (Gy up0 g8 1) (Zh (α:=List UInt8) underlying62 sizeOf63 dI aE yE bN) ?_;have eR:=G1 aE bN;refine G (Ga (g:=xM) isAgg63 sizeOf63 rfl eR fun cN gR=>(H (I g8) (H cN (O (Z (M cN ?_))))));obtain ⟨cC,uP,h⟩:=Z1 h;refine G (aJ (g:=xM) (vs:=[cN]) en69 (wk69 gR uP) fun kP vP uT hs hr=>?_);have hfr:=hfr.ext hs;have cG:=cG.ext hs;have eG:=eG.ext hs;have gG:=gG.ext hs;have aE:=aE.ext hs;obtain ⟨mE,pR,qR,rfl,dO,rfl,rfl⟩:=hr;refine M (.tuple #[mE,I cC.2.1,I cC.2.2]) (Y mE (Zi rfl rfl) (Y (I cC.2.1) (Zi rfl rfl) (Y (I cC.2.2) (Zi rfl rfl) (H mE (H (I cC.2.1) (H (I cC.2.2) (O (Zq h (fun (s:Unit)=>xD gI wI fun e w g=>e 2=.slice none 0 0∧OA 4002 g w 61 (([]:List Z4):List Z4) (Value.slice none 0 0)∧e 5=bG∧RV g.m w (lE:List (List Z4)) bG∧OS 1005 g w 54 (lE:List (List Z4)) bG∧e 8=mE∧RV g.m w (cC.1:List Z4) mE∧e 21=up0∧RV g.m w (x0:List (List UInt8)) up0∧e 22=I (x0.length:Int)∧e 23=I g8) (fun X80 k80 xP h=>?_) ?_))))))))
     ·refine Z (M (I cC.2.2) (aT (.bool (cC.2.2 != (0:Int))) rfl rfl rfl (O ?_)))
      rcases Zt h with ⟨lJ,h⟩ | ⟨lJ,h⟩
      ·refine Gz lJ rfl (Z (M (I g8) (M (I cC.2.2) (H (.slice none 0 0) ?_))))
       have b82:OA 4002 kP vP 61 ([]:List Z4) (.slice none 0 0):=OA.nil;refine H (I g8) (H (I cC.2.2) (O (Gb (Gj (G6 (Gj (Gj (G6 (Gj ?_)))))))));obtain ⟨gp83,hs,rp83⟩:=OM.pub b82.toM;have hfr:=hfr.stp hs;obtain rfl:=sinj h;exact Yi rfl rfl (rq (.slice none 0 0)) (rq (I g8)) (rq (I cC.2.2)) ⟨_,hfr,_,_,_,rfl,rp83,rfl,rfl⟩
      ·refine G0 lJ rfl ?_
       exact Zu (Zd (xP () _ _ ⟨kP,hfr,rJ,cG,sJ,eG,gG,rfl,dO,dI,aE,iI,yE⟩ h))
     ·rintro _ dS xT ⟨iR,hfr,eO,zD,gO,zE,cF,jO,kO,dN,vC,eN,gN⟩ h
      refine Za (aQ gO (aQ jO (G (Xq (g:=iR) 4040 (xs:=([cC.1]:List (List Z4))) (vs:=[mE]) underlying159 sizeOf54 zeroValue54 rfl rfl (.cons rfl .nil) (RVs.cons kO RVs.nil) rfl rfl fun yT zT aU hs b85 _=>?_))));have hfr:=hfr.stp hs;have zD:=zD.stp hs rfl;have zE:=zE.stp hs;have cF:=cF.stp hs rfl;have vC:=vC.stp hs;obtain ⟨gp86,hs,rp86⟩:=OM.pub b85.toM;have hfr:=hfr.stp hs;have zD:=zD.stp hs rfl;have zE:=zE.stp hs;have cF:=cF.stp hs rfl;have vC:=vC.stp hs;obtain ⟨uM,yP,h⟩:=Z1 h;refine G (Qe (g:=gp86) (i:=1005) underlying159 info_54 rfl rfl cF zE rfl rp86 yP fun jR bU lP hs o87 lR _=>?_);have hfr:=hfr.stp hs;have zD:=zD.stp hs rfl;have vC:=vC.stp hs;refine H lP ?_;exact Zb (Te (Zd (tP uM _ _ ⟨jR,lP,hfr,eO,zD,rfl,lR,o87,dN,vC,eN,gN⟩ h)))
    ·rintro qH eS cU ⟨mR,lO,hfr,mO,nO,oO,pO,qO,iN,jN,kN,lN⟩ h
     refine Za (aT (I (w64 (g8+(1:Int)))) lN rfl rfl (M (I (w64 (g8+(1:Int)))) ?_));exact O (sP (qH,(w64 (g8+(1:Int)))) _ _ ⟨mR,lO,hfr,mO,nO,oO,pO,qO,iN,jN,kN,rfl⟩ h)
   ·refine G0 kJ rfl (Th (Gr (Gr (G2 ?_))))
    exact Zd (pP lE _ _ ⟨xM,bG,hfr,rJ,cG,sJ,eG,gG⟩ h)
  ·rintro i6 gS dU ⟨nR,l8,hfr,rO,sH,sO,iG,tH⟩ h
   refine Z (G (Fz (g:=nR) (U8 Yl) Z4 8043 fun oR eU nD hs m91=>?_));have hfr:=hfr.stp hs;have sH:=sH.stp hs rfl;have iG:=iG.stp hs;have tH:=tH.stp hs rfl;refine H nD (O (Zq h (fun (s:(List Z4)) e w=>∃ (g:Gh) (v2:Value),Fr gI wI g w∧e 2=v2∧OA 4002 g w 61 (s:List Z4) v2) (fun X301 pM tO h=>?_) ?_))
   ·refine Z (aQ sO (Y (I (i6.length:Int)) (G7 underlying159 rfl iG) (M (I 0) (O (Zr (Qz h (fun (s:(List Z4) × (List (Tf × Z4)) × Int) e w=>∃ (g:Gh) (v2:Value),Fr gI wI g w∧e 2=v2∧OA 4002 g w 61 (s.1:List Z4) v2∧e 11=nD∧MP (U8 Yl) 8043 g w (s.2.1:List (Tf × Z4)) nD∧e 44=l8∧RV g.m w (i6:List (List Z4)) l8∧OS 1005 g w 54 (i6:List (List Z4)) l8∧e 45=I (i6.length:Int)∧e 46=I s.2.2) ⟨oR,(.slice none 0 0),hfr,rO,sH,rfl,m91,rfl,iG,tH,rfl,rfl⟩ (fun X302 qM uO=>?_)))))))
    rintro ⟨xE,sG,t5⟩ rR iS ⟨mJ,jI,hfr,kI,lI,aK,bK,xG,rF,cK,yG,oE⟩ h;refine Z (aT (.bool (decide (t5<(i6.length:Int)))) oE yG rfl (O (Zf ?_)));rcases Zt h with ⟨uH,h⟩ | ⟨uH,h⟩
    ·refine Gz uH rfl (Zu (Zd (Zq h (fun (s:(List Z4) × (List (Tf × Z4))) e w=>∃ (g:Gh) (v2:Value),Fr gI wI g w∧e 2=v2∧OA 4002 g w 61 (s.1:List Z4) v2∧e 11=nD∧MP (U8 Yl) 8043 g w (s.2:List (Tf × Z4)) nD∧e 44=l8∧RV g.m w (i6:List (List Z4)) l8∧OS 1005 g w 54 (i6:List (List Z4)) l8∧e 45=I (i6.length:Int)∧e 46=I t5) (fun X407 rM vO h=>?_) ?_)))
     ·refine Zr (Z (aQ oE ?_))
      obtain ⟨yB,vJ,h⟩:=Z1 h;refine Y (Gy l8 t5 1) (Zh (α:=List Z4) underlying159 sizeOf54 xG rF oE vJ) ?_;have zP:=G1 rF vJ;refine G (Ga (g:=mJ) isAgg54 sizeOf54 rfl zP fun bD mN=>(H (I t5) (H bD (O (Z (M bD (Y (I (yB.length:Int)) (G7 underlying54 rfl mN) (M (I 0) (O (Zr (Qz h (fun (s:(List Z4) × (List (Tf × Z4)) × Int) e w=>∃ (g:Gh) (v2:Value),Fr gI wI g w∧e 2=v2∧OA 4002 g w 61 (s.1:List Z4) v2∧e 11=nD∧MP (U8 Yl) 8043 g w (s.2.1:List (Tf × Z4)) nD∧e 12=I (t5)∧e 44=l8∧RV g.m w (i6:List (List Z4)) l8∧OS 1005 g w 54 (i6:List (List Z4)) l8∧e 45=I (i6.length:Int)∧e 46=I (t5)∧e 51=bD∧RV g.m w (yB:List Z4) bD∧e 52=I (yB.length:Int)∧e 53=I s.2.2) ⟨mJ,jI,hfr,kI,lI,aK,bK,rfl,xG,rF,cK,yG,oE,rfl,mN,rfl,rfl⟩ (fun X411 sM xO=>?_))))))))))));rintro ⟨zB,l5,n8⟩ tR jS ⟨nJ,oD,hfr,lG,lB,rE,v8,zG,sF,n9,aB,tF,uF,vF,l9,xF,uE⟩ h;refine Z (aT (.bool (decide (n8<(yB.length:Int)))) uE xF rfl (O (Zf ?_)));rcases Zt h with ⟨xH,h⟩ | ⟨xH,h⟩
      ·refine Gz xH rfl (Zu (Zd (Zq h (fun (s:(List Z4) × (List (Tf × Z4))) e w=>∃ (g:Gh) (v2:Value),Fr gI wI g w∧e 2=v2∧OA 4002 g w 61 (s.1:List Z4) v2∧e 11=nD∧MP (U8 Yl) 8043 g w (s.2:List (Tf × Z4)) nD∧e 12=I t5∧e 44=l8∧RV g.m w (i6:List (List Z4)) l8∧OS 1005 g w 54 (i6:List (List Z4)) l8∧e 45=I (i6.length:Int)∧e 46=I t5∧e 51=bD∧RV g.m w (yB:List Z4) bD∧e 52=I (yB.length:Int)∧e 53=I n8) (fun X461 sI xJ h=>?_) ?_)))
       ·refine Zr (Z ?_)
        obtain ⟨o0,zJ,h⟩:=Z1 h;refine Y (Gy bD n8 5) (Zh (α:=Z4) underlying54 sizeOf61 vF l9 uE zJ) ?_;have bQ:=G1 l9 zJ;refine G (Ga (g:=nJ) isAgg61 sizeOf61 rfl bQ fun cQ oJ=>(G (Gu (g:=nJ) 2015 (⟨0,0,0,0,0⟩:Z4) zeroValue61 (fun m w=>⟨_,(Gg Zw (Gg Zw (Gg Zw (Gg Zw Zw)))),rfl⟩) fun dQ lS bE hs b465 cb=>?_)));have hfr:=hfr.stp hs;have lB:=lB.stp hs rfl;have v8:=v8.stp hs rfl;have n9:=n9.stp hs;have aB:=aB.stp hs rfl;have l9:=l9.stp hs;have oJ:=oJ.stp hs;clear cb;refine G (Gk (g:=dQ) (v:=cQ) sizeOf61 rfl b465 rfl oJ fun mG eQ hs b466 cb=>?_);clear cb;have hfr:=hfr.stp hs;have lB:=lB.stp hs rfl;have v8:=v8.stp hs rfl;have n9:=n9.stp hs;have aB:=aB.stp hs rfl;have l9:=l9.stp hs;refine O (Z (aQ rE (Y (S bE 0) (aa Ju (OB.ptr b466)) (G (Qd (g:=mG) Ql.1 isAgg3 sizeOf3 rfl b466 fun mS gQ=>?_)))));obtain rfl:=Zj.1 gQ;refine Y (S bE 1) (aa Hx (OB.ptr b466)) (G (Qd (g:=mG) Qi.1 isAgg3 sizeOf3 rfl b466 fun nS iQ=>?_));obtain rfl:=Zj.1 iQ;have nN:RV mG.m eQ (⟨o0.Day,o0.Loom⟩:Tf) (.agg (Tk [[I 0],[I 0]] [(0,I o0.Day),(1,I o0.Loom)]).flatten.toArray):=Ti rfl (Gs rfl (To rfl));generalize yO:(Value.agg (Tk [[I 0],[I 0]] [(0,I o0.Day),(1,I o0.Loom)]).flatten.toArray)=jQ at nN;refine Y jQ (yO▸T3 (vs:=[(0,I o0.Day),(1,I o0.Loom)]) [[I 0],[I 0]] Nz rfl rfl (.cons rfl (.cons rfl .nil)) ⟨⟨_,rfl,rfl⟩,⟨⟨_,rfl,rfl⟩,trivial⟩⟩) (G (Co (g:=mG) (z0:=(⟨0,0,0,0,0⟩:Z4)) underlying161 N0 zeroValue61 (fun m w=>⟨_,(Gg Zw (Gg Zw (Gg Zw (Gg Zw Zw)))),rfl⟩) rfl v8 (rfl.trans (N4 Yl nN)) fun pJ qJ=>(M (.tuple #[pJ,.bool ((Qo l5 (⟨o0.Day,o0.Loom⟩:Tf)).isSome)]) (Y pJ (Zi rfl rfl) (Y (.bool ((Qo l5 (⟨o0.Day,o0.Loom⟩:Tf)).isSome)) (Zi rfl rfl) (G (Gu (g:=mG) 2016 (⟨0,0,0,0,0⟩:Z4) zeroValue61 (fun m w=>⟨_,(Gg Zw (Gg Zw (Gg Zw (Gg Zw Zw)))),rfl⟩) fun kQ oS pS hs b473 cb=>?_)))))));have hfr:=hfr.stp hs;have lB:=lB.stp hs rfl;have v8:=v8.stp hs rfl;have n9:=n9.stp hs;have aB:=aB.stp hs rfl;have l9:=l9.stp hs;have b466:=b466.stp hs rfl;have qJ:=qJ.stp hs;clear cb;refine G (Gk (g:=kQ) (v:=pJ) sizeOf61 rfl b473 rfl qJ fun yH qS hs b474 cb=>?_);clear cb;have hfr:=hfr.stp hs;have lB:=lB.stp hs rfl;have v8:=v8.stp hs rfl;have n9:=n9.stp hs;have aB:=aB.stp hs rfl;have l9:=l9.stp hs;have b466:=b466.stp hs rfl;refine H (.bool ((Qo l5 (⟨o0.Day,o0.Loom⟩:Tf)).isSome)) (O (Zq h (fun (s:Unit)=>xD gI wI fun e w g=>e 2=oD∧OA 4002 g w 61 (zB:List Z4) oD∧e 11=nD∧MP (U8 Yl) 8043 g w (l5:List (Tf × Z4)) nD∧e 12=I (t5)∧e 15=bE∧OB 2015 g w 61 (o0:Z4) bE∧e 17=.bool ((Qo l5 (⟨o0.Day,o0.Loom⟩:Tf)).isSome)∧e 44=l8∧RV g.m w (i6:List (List Z4)) l8∧OS 1005 g w 54 (i6:List (List Z4)) l8∧e 45=I (i6.length:Int)∧e 46=I (t5)∧e 51=bD∧RV g.m w (yB:List Z4) bD∧e 52=I (yB.length:Int)∧e 53=I n8) (fun X485 tM zO h=>?_) ?_))
        ·obtain ⟨lD,hx,h⟩:=Z1 h
         refine Gn (xD gI wI fun e w g=>e 2=oD∧OA 4002 g w 61 (zB:List Z4) oD∧e 11=nD∧MP (U8 Yl) 8043 g w (l5:List (Tf × Z4)) nD∧e 12=I (t5)∧e 15=bE∧OB 2015 g w 61 (o0:Z4) bE∧e 17=.bool ((Qo l5 (⟨o0.Day,o0.Loom⟩:Tf)).isSome)∧e 44=l8∧RV g.m w (i6:List (List Z4)) l8∧OS 1005 g w 54 (i6:List (List Z4)) l8∧e 45=I (i6.length:Int)∧e 46=I (t5)∧e 51=bD∧RV g.m w (yB:List Z4) bD∧e 52=I (yB.length:Int)∧e 53=I (n8)∧e 72=.bool lD) (fun Q' hQ=>?_) (fun uR lQ hR=>?_)
         ·replace h:=hx
          clear hx;refine Za (M (.bool ((Qo l5 (⟨o0.Day,o0.Loom⟩:Tf)).isSome)) (M (.bool ((Qo l5 (⟨o0.Day,o0.Loom⟩:Tf)).isSome)) ?_));rcases Zt h with ⟨uC,h⟩ | ⟨uC,h⟩
          ·refine Ze (.yes2 rfl rfl uC) rfl (Tr (g:=yH) isAgg61 sizeOf61 rfl b474 fun rS mQ=>(Ze (.yes2 rfl rfl uC) rfl (Tr (g:=yH) isAgg61 sizeOf61 rfl b466 fun sS nQ=>(ag (.bool (!(decide (((Qo l5 (⟨o0.Day,o0.Loom⟩:Tf)).getD (⟨0,0,0,0,0⟩:Z4))=o0)))) (P_sne seq_61 rfl eg_61 rfl rfl mQ nQ) rfl rfl uC (Y (.bool (!(decide (((Qo l5 (⟨o0.Day,o0.Loom⟩:Tf)).getD (⟨0,0,0,0,0⟩:Z4))=o0)))) (ae (b:=((Qo l5 (⟨o0.Day,o0.Loom⟩:Tf)).isSome)) (Tg uC rfl)) (Zb ?_))))))
           cases h;exact hQ _ _ ⟨yH,hfr,lG,lB,rE,v8,zG,rfl,b466,rfl,sF,n9,aB,tF,uF,vF,l9,xF,uE,rfl⟩
          ·refine Zz rfl rfl uC rfl rfl (Zz rfl rfl uC rfl rfl (Zz rfl rfl uC rfl rfl (Y (.bool false) (ae (b:=((Qo l5 (⟨o0.Day,o0.Loom⟩:Tf)).isSome)) (Td uC rfl)) (Zb ?_))))
           cases h;exact hQ _ _ ⟨yH,hfr,lG,lB,rE,v8,zG,rfl,b466,rfl,sF,n9,aB,tF,uF,vF,l9,xF,uE,rfl⟩
         ·clear hx
          obtain ⟨oN,hfr,pN,qN,dK,lK,aH,mK,nK,oK,pK,qK,sK,tK,uK,vK,xK,yK,zK,cH⟩:=hR;rcases Zt h with ⟨zH,h⟩ | ⟨zH,h⟩
          ·refine Ta (Eq.trans (show X _ _=.bool lD from cH) (congrArg Value.bool zH)) (Z (aQ aH (H (.slice none 0 0) ?_)))
           have b494:OA 4002 oN lQ 61 ([]:List Z4) (.slice none 0 0):=OA.nil;refine H (I t5) (H (I 6) (O (Gb (Gj (G6 (Gj (Gj (G6 (G6 (Gj (Gj (G6 (Gj ?_)))))))))))));obtain ⟨gp495,hs,rp495⟩:=OM.pub b494.toM;have hfr:=hfr.stp hs;obtain rfl:=sinj h;exact Yi rfl rfl (rq (.slice none 0 0)) (rq (I t5)) (rq (I 6)) ⟨_,hfr,_,_,_,rfl,rp495,rfl,rfl⟩
          ·refine Gv (Eq.trans (show X _ _=.bool lD from cH) (congrArg Value.bool zH)) ?_
           exact Zu (Zd (zO () _ _ ⟨oN,hfr,pN,qN,dK,lK,aH,mK,nK,oK,pK,qK,sK,tK,uK,vK,xK,yK,zK⟩ h))
        ·rintro _ vR oQ ⟨yF,hfr,mI,yD,aG,gH,jH,vE,mB,aL,kH,nB,oB,lH,mH,nH,vB,oH,pH⟩ h
         refine Z (Y (.bool ((Qo l5 (⟨o0.Day,o0.Loom⟩:Tf)).isSome)) (Zk aL) (Y (.bool (!((Qo l5 (⟨o0.Day,o0.Loom⟩:Tf)).isSome))) (Qw rfl) (O ?_)));rcases Zt h with ⟨aI,h⟩ | ⟨aI,h⟩
         ·refine Gz aI rfl (Z (aQ aG (Y (S bE 0) (Zc Ju vE (OB.ptr mB)) (G (Qd (g:=yF) Ql.1 isAgg3 sizeOf3 rfl mB fun tS pQ=>?_)))))
          obtain rfl:=Zj.1 pQ;refine Y (S bE 1) (Zc Hx vE (OB.ptr mB)) (G (Qd (g:=yF) Qi.1 isAgg3 sizeOf3 rfl mB fun uS qQ=>?_));obtain rfl:=Zj.1 qQ;have rN:RV yF.m oQ (⟨o0.Day,o0.Loom⟩:Tf) (.agg (Tk [[I 0],[I 0]] [(0,I o0.Day),(1,I o0.Loom)]).flatten.toArray):=Ti rfl (Gs rfl (To rfl));generalize aP:(Value.agg (Tk [[I 0],[I 0]] [(0,I o0.Day),(1,I o0.Loom)]).flatten.toArray)=rQ at rN;refine Y rQ (aP▸T3 (vs:=[(0,I o0.Day),(1,I o0.Loom)]) [[I 0],[I 0]] Nz rfl rfl (.cons rfl (.cons rfl .nil)) ⟨⟨_,rfl,rfl⟩,⟨⟨_,rfl,rfl⟩,trivial⟩⟩) (G (Tr (g:=yF) isAgg61 sizeOf61 vE mB fun vS sQ=>(G (Sh (g:=yF) underlying161 N0 rfl gH (rfl.trans (N4 Yl rN)) rfl sQ fun sN xS hs m504=>?_))));have hfr:=hfr.stp hs;have yD:=yD.stp hs rfl;have mB:=mB.stp hs rfl;have nB:=nB.stp hs;have oB:=oB.stp hs rfl;have vB:=vB.stp hs;refine O (Za (aQ mI (G (Tr (g:=sN) isAgg61 sizeOf61 vE mB fun tQ uQ=>(G (Gd (g:=sN) 3085 (xs:=([o0]:List Z4)) (vs:=[tQ]) underlying54 sizeOf61 zeroValue61 rfl rfl (.cons rfl .nil) (RVs.cons uQ RVs.nil) rfl rfl fun vQ yS zS hs o506 xQ hxt hfl=>?_))))));have hfr:=hfr.stp hs;have yD:=yD.stp hs rfl;have m504:=m504.stp hs rfl;have nB:=nB.stp hs;have oB:=oB.stp hs rfl;have vB:=vB.stp hs;obtain ⟨jJ,bP,h⟩:=Z1 h;refine G (C9 (g:=vQ) Sq (i:=4002) underlying54 S4 rfl rfl yD rfl xQ bP fun yQ eT tN hs b507=>?_);have hfr:=hfr.stp hs;have m504:=m504.stp hs rfl;have nB:=nB.stp hs;have oB:=oB.stp hs rfl;have vB:=vB.stp hs;refine H tN ?_;exact Zb (Te (Zd (xJ (jJ,(H4 l5 (⟨o0.Day,o0.Loom⟩:Tf) o0)) _ _ ⟨yQ,tN,hfr,rfl,b507,aG,m504,jH,kH,nB,oB,lH,mH,nH,vB,oH,pH⟩ h)))
         ·refine G0 aI rfl ?_
          exact Zu (Te (Zd (xJ (zB,l5) _ _ ⟨yF,oD,hfr,mI,yD,aG,gH,jH,kH,nB,oB,lH,mH,nH,vB,oH,pH⟩ h)))
       ·rintro ⟨kG,eF⟩ xR lT ⟨zQ,uN,hfr,vN,xN,bL,dL,eL,gL,iL,jL,lL,mL,nL,oL,xL,yL⟩ h
        refine Za (aT (I (w64 (n8+(1:Int)))) yL rfl rfl (M (I (w64 (n8+(1:Int)))) ?_));exact O (xO (kG,eF,(w64 (n8+(1:Int)))) _ _ ⟨zQ,uN,hfr,vN,xN,bL,dL,eL,gL,iL,jL,lL,mL,nL,oL,xL,rfl⟩ h)
      ·refine G0 xH rfl (Th (Gr (Gr (G2 ?_))))
       exact Te (Zd (vO (zB,l5) _ _ ⟨nJ,oD,hfr,lG,lB,rE,v8,sF,n9,aB,tF,uF⟩ h))
     ·rintro ⟨jG,dF⟩ yR mT ⟨aR,yN,hfr,zN,aO,zL,aM,bM,cM,dM,eM,iM⟩ h
      refine Za (aT (I (w64 (t5+(1:Int)))) iM rfl rfl (M (I (w64 (t5+(1:Int)))) ?_));exact O (uO (jG,dF,(w64 (t5+(1:Int)))) _ _ ⟨aR,yN,hfr,zN,aO,zL,aM,bM,cM,dM,eM,rfl⟩ h)
    ·refine G0 uH rfl (Th (Gr (Gr (G2 ?_))))
     exact Zd (tO xE _ _ ⟨mJ,jI,hfr,kI,lI⟩ h)
   ·rintro cD zR bR ⟨bO,iE,hfr,nI,pI⟩ h
    refine Zq h (fun (s:Unit)=>xD gI wI fun e w g=>e 2=iE∧OA 4002 g w 61 (cD:List Z4) iE) (fun X515 kM cP h=>?_) ?_
    ·refine Z (aQ nI (Y (I (cD.length:Int)) (F4 underlying54 rfl pI.toM) (aT (.bool (decide ((cD.length:Int)>(100:Int)))) rfl rfl rfl (O ?_))))
     rcases Zt h with ⟨bI,h⟩ | ⟨bI,h⟩
     ·refine Gz bI rfl (Z (H (.slice none 0 0) ?_))
      have b517:OA 4002 bO bR 61 ([]:List Z4) (.slice none 0 0):=OA.nil;refine H (I 0) (H (I 5) (O (Gb (Gj ?_))));obtain ⟨gp518,hs,rp518⟩:=OM.pub b517.toM;have hfr:=hfr.stp hs;cases h;exact Yi rfl rfl (rq (.slice none 0 0)) (rq (I 0)) (rq (I 5)) ⟨_,hfr,_,_,_,rfl,rp518,rfl,rfl⟩
     ·refine G0 bI rfl ?_
      exact Zu (Zd (cP () _ _ ⟨bO,hfr,nI,pI⟩ h))
    ·rintro _ aS nT ⟨dR,hfr,qI,cO⟩ h
     refine Z (aQ qI ?_);obtain ⟨jM,dP,h⟩:=Z1 h;refine G (V9 (g:=dR) (i:=4002) (vs:=[iE,.func (.func 33) #[] #[]]) en70 (.cons rfl (.cons rfl .nil)) (wk70s cO.toM dP) fun oT bS pT hs hr=>?_);obtain ⟨hrv,b520⟩:=hr;have hfr:=hfr.stp hs;subst hrv;refine O (Z (aQ qI (H iE (H (I 0) (H (I 0) (O (Gb ?_)))))));obtain ⟨gp522,hs,rp522⟩:=OM.pub b520;have hfr:=hfr.stp hs;obtain rfl:=sinj h;exact Yi rfl rfl (rq iE) (rq (I 0)) (rq (I 0)) ⟨_,hfr,_,_,_,rfl,rp522,rfl,rfl⟩
def f39 (x0:LoomMill) (x1:List Z5):Option ((List Int) × Int):=
 (f18 x0 x1).bind fun y4=>
 jn (σ:=Unit) (fun _=>
  (f20 y4.1).bind fun i6=>
  (f19 y4.1 i6 ([])).bind fun g8=>
  (f74 (x1.length:Int) (fun a0=>f75 a0 g8)).bind fun t5=>
  jn (σ:=Unit) (fun _=>
   some (t5.1,(0:Int))
   ) fun yB=>
  bif (!t5.2) then
   some ([],(7:Int))
  else
   yB ()
  ) fun k8=>
 bif (y4.2 != (0:Int)) then
  some ([],y4.2)
 else
  k8 ()
theorem en39:Enters prog 39:=yC func39
theorem wk39 {x0:LoomMill} {x1:List Z5} (rp0:RV gI.m wI x0 up0) (rp1:RV gI.m wI x1 up1) {r:(List Int) × Int} (h:f39 x0 x1=some r):Fn prog 39 #[up0,up1] gI wI (fun m w v=>∃ y0 y1,v=.tuple #[y0,y1]∧RV m w r.1 y0∧y1=I r.2):=by
 unfold f39 at h;refine fnE func39 rfl rfl fun g0 hm hfr=>?_;have rp0:=RVc hm rp0;have rp1:=RVc hm rp1;refine Z (G (Tw (g:=g0) rfl rp0 fun g1 w1 p1 hs q1=>?_));have hfr:=hfr.ext hs;have rp1:=rp1.ext hs;refine H (.slice none 0 0) (H (I 0) (O (Z (G (Ga (g:=g1) isAgg27 sizeOf27 rfl q1 fun v2 r2=>(M up1 ?_))))));obtain ⟨y4,oD,h⟩:=Z1 h;refine G (aJ (g:=g1) (vs:=[v2,up1]) en18 (wk18 r2 rp1 oD) fun g3 w3_ v3 hs hr=>?_);have hfr:=hfr.ext hs;have rp1:=rp1.ext hs;obtain ⟨n8,rE,rfl,v8,rfl⟩:=hr;refine M (.tuple #[n8,I y4.2]) (Y n8 (Zi rfl rfl) (Y (I y4.2) (Zi rfl rfl) (G (Gu (g:=g3) 2006 (⟨⟨[],0⟩,[]⟩:Z8) zeroValue80 (fun m w=>⟨_,(Gg (Gg Tb Zw) Tb),rfl⟩) fun g5 w5 p5 hs b5 cb=>?_))));have hfr:=hfr.stp hs;have rp1:=rp1.stp hs;have v8:=v8.stp hs;have uE:OSF 2006 60600 0 g5 w5 3 80 ([]:List Int) p5:=cb.osf (by rfl);have vE:OSF 2006 60602 2 g5 w5 59 80 ([]:List Z5) p5:=cb.osf (by rfl);clear cb;refine G (Gk (g:=g5) (v:=n8) sizeOf80 rfl b5 rfl v8 fun g6 w6 hs b6 cb=>?_);clear cb;have hfr:=hfr.stp hs;have rp1:=rp1.stp hs;refine H (I y4.2) (O (Zq h (fun (s:Unit)=>xD gI wI fun e w g=>e 1=up1∧RV g.m w (x1:List Z5) up1∧e 6=p5∧OB 2006 g w 80 (y4.1:Z8) p5) (fun X8 k8 yD h=>?_) ?_))
 ·refine Z (M (I y4.2) (aT (.bool (y4.2 != (0:Int))) rfl rfl rfl (O ?_)))
  rcases Zt h with ⟨hc9,h⟩ | ⟨hc9,h⟩
  ·refine Gz hc9 rfl (Z (M (I y4.2) (H (.slice none 0 0) (H (I y4.2) (O (Gb (Gj ?_)))))))
   obtain rfl:=sinj h;exact H9 rfl rfl (rq (.slice none 0 0)) (rq (I y4.2)) ⟨_,hfr,_,_,rfl,T8,rfl⟩
  ·refine G0 hc9 rfl ?_
   exact Zu (Zd (yD () _ _ ⟨g6,hfr,rfl,rp1,rfl,b6⟩ h))
 ·rintro _ xE cF ⟨zD,hfr,mB,o0,n9,aB⟩ h
  refine Zf (Qy (x:=.tmp 6) isAgg80 sizeOf80 aB fun zB aE vC=>(Qy (x:=.tmp 6) isAgg80 sizeOf80 aB fun cC bE hl12=>?_));obtain ⟨i6,bD,h⟩:=Z1 h;obtain ⟨g8,cD,h⟩:=Z1 h;refine ab (g:=zD) (n:=5) [(2,(fun v g w=>RV g.m w i6 v)),(3,(fun v g w=>RV g.m w g8 v)),(4,(fun v g w=>OB 2008 g w 85 ([]:List Bool) v))] [0,1,2,3,4] mixed (⟨fun _=>Hm,fun _=>Hm,fun _=>up_ob,trivial⟩) (G3 (c:=zB) rfl rfl .plain xB vC n9 (G3 (c:=cC) rfl rfl .plain xB hl12 n9 (Wd (φ:=fun v g w=>RV g.m w i6 v) rfl rfl .plain (fun g w hd=>aJ (g:=g) (vs:=[cC]) en20 (wk20 (bE.ext hd.1) bD) fun g' w' v hs hr=>⟨g',hs,hr⟩) (fun lB hv=>?_))));obtain ⟨_,_,_,rq13⟩:=hv;refine Wd (φ:=fun v g w=>RV g.m w g8 v) rfl rfl .plain (fun g w hd=>aJ (g:=g) (vs:=[zB,lB,.map none]) en19 (wk19 (aE.ext hd.1) (Yv (A:=fun g w=>RV g.m w i6 lB) 2 rfl rfl (Q9 hd)) MR.nil cD) fun g' w' v hs hr=>⟨g',hs,hr⟩) (fun uC hv=>?_);obtain ⟨_,_,_,rq15⟩:=hv;refine Wd (φ:=fun v g w=>OB 2008 g w 85 ([]:List Bool) v) rfl rfl .plain (fun g w hd=>Ur (g:=g) 2008 ([]:List Bool) zeroValue85 (fun m w=>⟨_,Tb,rfl⟩) fun g' w' v hs b=>⟨g',hs,b⟩) (fun l8 hv=>?_);clear hv;refine Jx fun iE dF hall=>?_;have hs:=hall.1;have hfr:=hfr.ext hs;have o0:=o0.ext hs;have eF:=(Ts (A:=fun g w=>RV g.m w i6 lB) 2 rfl hall);have lE:=(Ts (A:=fun g w=>RV g.m w g8 uC) 3 rfl hall);have b25:=(Ts (A:=fun g w=>OB 2008 g w 85 ([]:List Bool) l8) 4 rfl hall);clear hs hall;refine G (Gk (g:=iE) (v:=uC) sizeOf85 rfl b25 rfl lE fun rF sF hs b26 cb=>?_);clear cb;have hfr:=hfr.stp hs;have o0:=o0.stp hs;obtain ⟨gp26,hs,qp26⟩:=OB.pub b26;have hfr:=hfr.stp hs;have o0:=o0.stp hs;refine O (Z (aQ mB (Y (I (x1.length:Int)) (G7 underlying28 rfl o0) (Y (.func (.func 75) #[] #[l8]) (W3 (Vo (show X _ _=l8 from rfl))) ?_))));obtain ⟨t5,lD,h⟩:=Z1 h;refine G (aJ (g:=gp26) (vs:=[I (x1.length:Int),(.func (.func 75) #[] #[l8])]) en74 (wk74 ⟨75,#[],#[l8],rfl,en75,fun g' w' hch a0 b0 r hu0 hr=>by obtain rfl:=Zj.1 hu0;exact Fn.mono (wk75  (qp26.ch hch) hr) fun _ _ _ h=>Tz.2 h⟩ lD) fun mE yE tF hs hr=>?_);have hfr:=hfr.ext hs;obtain ⟨l5,oE,rfl,nB,rfl⟩:=hr;refine M (.tuple #[l5,.bool t5.2]) (Y l5 (Zi rfl rfl) (Y (.bool t5.2) (Zi rfl rfl) (H l5 (H (.bool t5.2) (O (Zq h (fun (s:Unit)=>xD gI wI fun e w g=>e 9=l5∧RV g.m w (t5.1:List Int) l5) (fun X30 yB nD h=>?_) ?_))))))
  ·refine Z (M (.bool t5.2) (Y (.bool (!t5.2)) (Qw rfl) (O ?_)))
   rcases Zt h with ⟨l9,h⟩ | ⟨l9,h⟩
   ·refine Gz l9 rfl (Z (H (.slice none 0 0) (H (I 7) (O (Gb (Gj ?_))))))
    cases h;exact H9 rfl rfl (rq (.slice none 0 0)) (rq (I 7)) ⟨_,hfr,_,_,rfl,T8,rfl⟩
   ·refine G0 l9 rfl ?_
    exact Zu (Zd (nD () _ _ ⟨mE,hfr,rfl,nB⟩ h))
  ·rintro _ zE uF ⟨vF,hfr,oB,vB⟩ h
   refine Z (aQ oB (H l5 (H (I 0) (O (Gb ?_)))));obtain rfl:=sinj h;exact H9 rfl rfl (rq l5) (rq (I 0)) ⟨_,hfr,_,_,rfl,vB,rfl⟩
def f61 (x0:ChainBelt):Option Int:=
 (f93 x0).bind fun y4=>
 some y4.2
theorem en61:Enters prog 61:=yC func61
theorem wk61 {x0:ChainBelt} (rp0:RV gI.m wI x0 up0) {r:Int} (h:f61 x0=some r):Fn prog 61 #[up0] gI wI (fun _ _ v=>v=I r):=by
 unfold f61 at h;refine fnE func61 rfl rfl fun g0 hm hfr=>?_;have rp0:=RVc hm rp0;refine Z (G (Tw (g:=g0) rfl rp0 fun g1 w1 p1 hs q1=>?_));have hfr:=hfr.ext hs;refine H (I 0) (O (Z (G (Ga (g:=g1) isAgg116 sizeOf116 rfl q1 fun v2 r2=>?_))));obtain ⟨y4,t5,h⟩:=Z1 h;refine G (aJ (g:=g1) (vs:=[v2]) en93 (wk93 r2 t5) fun g3 w3_ v3 hs hr=>?_);have hfr:=hfr.ext hs;obtain ⟨o0,i6,rfl,l5,rfl⟩:=hr;refine M (.tuple #[o0,I y4.2]) (Y o0 (Zi rfl rfl) (Y (I y4.2) (Zi rfl rfl) (G (Gu (g:=g3) 2003 (⟨⟨0,[]⟩,0⟩:Gw) zeroValue200 (fun m w=>⟨_,(Gg (Gg Zw Tb) Zw),rfl⟩) fun g5 w5 p5 hs b5 cb=>?_))));have hfr:=hfr.stp hs;have l5:=l5.stp hs;have g8:OSF 2003 60301 1 g5 w5 118 200 ([]:List Gi) p5:=cb.osf (by rfl);clear cb;refine G (Gk (g:=g5) (v:=o0) sizeOf200 rfl b5 rfl l5 fun g6 w6 hs b6 cb=>?_);clear cb;have hfr:=hfr.stp hs;refine H (I y4.2) (O (Z (M (I y4.2) (H (I y4.2) (O (Gb ?_))))));obtain rfl:=sinj h;exact ac rfl (rq (I y4.2)) ⟨_,hfr,rfl⟩
def f66 (x0:List Str):Option Bool:=
 Option.bind (α:=Bool) (
  (f96 x0 (fun a0=>f94 a0)).bind fun i6=>
  bif (!i6) then
   (f97 x0).bind fun g8=>
   bif g8 then
    (f99 x0).bind fun v8=>
    (f98 v8).bind fun l8=>
    some ((l8.length:Int)==(x0.length:Int))
   else
    some false
  else
   some false
  ) fun t5=>
 some t5
theorem en66:Enters prog 66:=yC func66
theorem wk66 {x0:List Str} (rp0:RV gI.m wI x0 up0) {r:Bool} (h:f66 x0=some r):Fn prog 66 #[up0] gI wI (fun _ _ v=>v=.bool r):=by
 unfold f66 at h;refine fnE func66 rfl rfl fun g0 hm hfr=>?_;have rp0:=RVc hm rp0;refine Z (H (.bool false) (O (Z (H (.func (.func 94) #[] #[]) (O ?_)))));obtain ⟨t5,hx,h⟩:=Z1 h;refine Gn (xD gI wI fun e w g=>e 2=.bool t5) (fun Q' hQ=>?_) (fun cC lD hR=>?_)
 ·replace h:=hx
  clear hx;refine Za (M up0 (M (.func (.func 94) #[] #[]) ?_));obtain ⟨i6,aB,h⟩:=Z1 h;refine G (aJ (g:=g0) (vs:=[up0,.func (.func 94) #[] #[]]) en96 (wk96 rp0 ⟨94,#[],#[],rfl,en94,fun g' w' hch a0 b0 r hu0 hr=>by obtain rfl:=K7.1 hu0;exact Fn.mono (wk94   hr) fun _ _ _ h=>Tz.2 h⟩ aB) fun l9 uC nD hs hr=>?_);have hfr:=hfr.ext hs;have rp0:=rp0.ext hs;subst hr;refine Y (.bool (!i6)) (Qw rfl) (M (.bool (!i6)) ?_);rcases Zt h with ⟨l5,h⟩ | ⟨l5,h⟩
  ·refine ag up0 (ai) rfl rfl l5 ?_
   obtain ⟨g8,lB,h⟩:=Z1 h;refine Ze (.yes2 rfl rfl l5) rfl (aJ (g:=l9) (vs:=[up0]) en97 (wk97 rp0 lB) fun n9 vC oD hs hr=>?_);have hfr:=hfr.ext hs;have rp0:=rp0.ext hs;subst hr;refine Y (.bool g8) (ae (b:=(!i6)) (Tg l5 rfl)) (M (.bool g8) ?_);rcases Zt h with ⟨o0,h⟩ | ⟨o0,h⟩
   ·refine ag up0 (ai) rfl rfl o0 ?_
    obtain ⟨v8,mB,h⟩:=Z1 h;refine Ze (.yes2 rfl rfl o0) rfl (aJ (g:=n9) (vs:=[up0]) en99 (wk99 rp0 mB) fun nB bD oB hs hr=>?_);have hfr:=hfr.ext hs;have rp0:=rp0.ext hs;have vB:=hr;obtain ⟨l8,hy20,h⟩:=Z1 h;refine Ze (.yes2 rfl rfl o0) rfl (aJ (g:=nB) (vs:=[oB]) en98 (wk98 vB hy20) fun yB cD yD hs hr=>?_);have hfr:=hfr.ext hs;have rp0:=rp0.ext hs;have zB:=hr;refine ag (I (l8.length:Int)) (G7 underlying74 rfl zB) rfl rfl o0 (ag up0 (ai) rfl rfl o0 (ag (I (x0.length:Int)) (G7 underlying74 rfl rp0) rfl rfl o0 (ag (.bool ((l8.length:Int)==(x0.length:Int))) (Gp rfl rfl rfl) rfl rfl o0 (Y (.bool ((l8.length:Int)==(x0.length:Int))) (ae (b:=g8) (Tg o0 rfl)) (H (.bool ((l8.length:Int)==(x0.length:Int))) (Zb ?_))))));cases h;exact hQ _ _ ⟨yB,hfr,rfl⟩
   ·refine Zz rfl rfl o0 rfl rfl ?_
    iterate 6 refine Zz rfl rfl o0 rfl rfl ?_
    refine Y (.bool false) (ae (b:=g8) (Td o0 rfl)) (H (.bool false) (Zb ?_));cases h;exact hQ _ _ ⟨n9,hfr,rfl⟩
  ·refine Zz rfl rfl l5 rfl rfl (Zz rfl rfl l5 rfl rfl (Y (.bool false) (ae (b:=(!i6)) (Td l5 rfl)) (Q5 9 rfl (H (.bool false) (Zb ?_)))))
   cases h;exact hQ _ _ ⟨l9,hfr,rfl⟩
 ·clear hx
  obtain ⟨zD,hfr,n8⟩:=hR;refine Gb ?_;obtain rfl:=sinj h;exact ac rfl (show _=.bool t5 from n8) ⟨_,hfr,rfl⟩
def f71 (x0:ChainBelt) (x1:Int) (x2:List Int):Option ((List Int) × Int × Int):=
 (f93 x0).bind fun y4=>
 jn (σ:=Unit) (fun _=>
  Option.bind (α:=(List Int) × Int) (
   lp (σ:=(List Int) × Int × Int) (fun gG (lB,i6,l5)=>
    bif (decide (l5<(x2.length:Int))) then
     Option.bind (α:=(List Int) × Int) (
      (idx x2 l5).bind fun oB=>
      (f105 y4.1 i6).bind fun y80=>
      (apnd 8 lB ([y80]:List Int)).bind fun iG=>
      (f106 y4.1 i6 oB).bind fun iE=>
      some (iG,iE)
      ) fun (n8,l9)=>
     gG (n8,l9,(w64 (l5+(1:Int))))
    else
     some (lB,i6)
    ) big ([],x1,(0:Int))
   ) fun (n9,v8)=>
  some (n9,v8,(0:Int))
  ) fun k18=>
 bif (y4.2 != (0:Int)) then
  some ([],(0:Int),y4.2)
 else
  (f104 (0:Int) (w64 (((x0.Cards).length:Int)-(1:Int))) ([x1]:List Int)).bind fun nD=>
  bif (!nD) then
   some ([],(0:Int),(7:Int))
  else
   bif (decide ((x2.length:Int)>(60:Int))) then
    some ([],(0:Int),(5:Int))
   else
    (f104 (0:Int) (2:Int) x2).bind fun oD=>
    bif (!oD) then
     some ([],(0:Int),(2:Int))
    else
     k18 ()
theorem en71:Enters prog 71:=yC func71
theorem wk71 {x0:ChainBelt} {x1:Int} {x2:List Int} (rp0:RV gI.m wI x0 up0) (rp2:RV gI.m wI x2 up2) {r:(List Int) × Int × Int} (h:f71 x0 x1 x2=some r):Fn prog 71 #[up0,I x1,up2] gI wI (fun m w v=>∃ y0 y1 y2,v=.tuple #[y0,y1,y2]∧RV m w r.1 y0∧y1=I (r.2.1)∧y2=I r.2.2):=by
 unfold f71 at h;refine fnE func71 rfl rfl fun g0 hm hfr=>?_;have rp0:=RVc hm rp0;have rp2:=RVc hm rp2;refine Z (G (Tw (g:=g0) rfl rp0 fun g1 w1 p1 hs q1=>?_));have hfr:=hfr.ext hs;have rp2:=rp2.ext hs;refine H (.slice none 0 0) (H (I 0) (H (I 0) (O (Z (G (Ga (g:=g1) isAgg116 sizeOf116 rfl q1 fun v2 r2=>?_))))));obtain ⟨y4,cH,h⟩:=Z1 h;refine G (aJ (g:=g1) (vs:=[v2]) en93 (wk93 r2 cH) fun g3 w3_ v3 hs hr=>?_);have hfr:=hfr.ext hs;have rp2:=rp2.ext hs;have q1:=q1.ext hs;obtain ⟨zB,kI,rfl,cC,rfl⟩:=hr;refine M (.tuple #[zB,I y4.2]) (Y zB (Zi rfl rfl) (Y (I y4.2) (Zi rfl rfl) (G (Gu (g:=g3) 2009 (⟨⟨0,[]⟩,0⟩:Gw) zeroValue200 (fun m w=>⟨_,(Gg (Gg Zw Tb) Zw),rfl⟩) fun g5 w5 p5 hs b5 cb=>?_))));have hfr:=hfr.stp hs;have rp2:=rp2.stp hs;have q1:=q1.stp hs;have cC:=cC.stp hs;have lI:OSF 2009 60901 1 g5 w5 118 200 ([]:List Gi) p5:=cb.osf (by rfl);clear cb;refine G (Gk (g:=g5) (v:=zB) sizeOf200 rfl b5 rfl cC fun g6 w6 hs b6 cb=>?_);clear cb;have hfr:=hfr.stp hs;have rp2:=rp2.stp hs;have q1:=q1.stp hs;refine H (I y4.2) (O (Zq h (fun (s:Unit)=>xD gI wI fun e w g=>e 1=I (x1)∧e 2=up2∧RV g.m w (x2:List Int) up2∧e 6=.slice none 0 0∧RV g.m w ([]:List Int) (Value.slice none 0 0)∧e 9=p5∧OB 2009 g w 200 (y4.1:Gw) p5) (fun X18 k18 lG h=>?_) ?_))
 ·refine Zr (Z (M (I y4.2) (aT (.bool (y4.2 != (0:Int))) rfl rfl rfl (H (.bool (y4.2 != (0:Int))) (O ?_)))))
  rcases Zt h with ⟨uC,h⟩ | ⟨uC,h⟩
  ·refine Gz uC rfl (Z (M (I y4.2) (H (.slice none 0 0) (H (I 0) (H (I y4.2) (O (Gb (G6 (Gj ?_)))))))))
   obtain rfl:=sinj h;exact Yi rfl rfl (rq (.slice none 0 0)) (rq (I 0)) (rq (I y4.2)) ⟨_,hfr,_,_,_,rfl,T8,rfl,rfl⟩
  ·refine G0 uC rfl (Z (Y (S p1 1) (aa H5 (PT.ptr q1)) ?_))
   have gH:=Zm Qu.1 q1;refine G (Ga (g:=g6) isAgg114 sizeOf114 rfl gH fun mJ jH=>(Y (I ((x0.Cards).length:Int)) (G7 underlying114 rfl jH) (Y (I (w64 (((x0.Cards).length:Int)-(1:Int)))) (Gp rfl rfl rfl) (M (I x1) (G (Gd (g:=g6) 3027 (xs:=([x1]:List Int)) (vs:=[I x1]) underlying25 sizeOf3 zeroValue3 rfl rfl (.cons rfl .nil) (RVs.cons (Zj.2 rfl) RVs.nil) rfl rfl fun kH nJ lH hs o22 mH hxt hfl=>?_))))));have hfr:=hfr.stp hs;have rp2:=rp2.stp hs;have b6:=b6.stp hs rfl;obtain ⟨nD,mG,h⟩:=Z1 h;refine G (aJ (g:=kH) (vs:=[I 0,I (w64 (((x0.Cards).length:Int)-(1:Int))),lH]) en104 (wk104 mH mG) fun nH mI oJ hs hr=>?_);have hfr:=hfr.ext hs;have rp2:=rp2.ext hs;have b6:=b6.ext hs;subst hr;refine Y (.bool (!nD)) (Qw rfl) (H (.bool (!nD)) (O ?_));rcases Zt h with ⟨vC,h⟩ | ⟨vC,h⟩
   ·refine Gz vC rfl (Z (H (.slice none 0 0) (H (I 0) (H (I 7) (O (Gb (G6 (Gj ?_))))))))
    cases h;exact Yi rfl rfl (rq (.slice none 0 0)) (rq (I 0)) (rq (I 7)) ⟨_,hfr,_,_,_,rfl,T8,rfl,rfl⟩
   ·refine G0 vC rfl (Z (M up2 (Y (I (x2.length:Int)) (G7 underlying25 rfl rp2) (aT (.bool (decide ((x2.length:Int)>(60:Int)))) rfl rfl rfl (H (.bool (decide ((x2.length:Int)>(60:Int)))) (O ?_))))))
    rcases Zt h with ⟨bD,h⟩ | ⟨bD,h⟩
    ·refine Gz bD rfl (Z (H (.slice none 0 0) (H (I 0) (H (I 5) (O (Gb (G6 (Gj ?_))))))))
     cases h;exact Yi rfl rfl (rq (.slice none 0 0)) (rq (I 0)) (rq (I 5)) ⟨_,hfr,_,_,_,rfl,T8,rfl,rfl⟩
    ·refine G0 bD rfl (Z (M up2 ?_))
     obtain ⟨oD,sG,h⟩:=Z1 h;refine G (aJ (g:=nH) (vs:=[I 0,I 2,up2]) en104 (wk104 rp2 sG) fun oH nI pJ hs hr=>?_);have hfr:=hfr.ext hs;have rp2:=rp2.ext hs;have b6:=b6.ext hs;subst hr;refine Y (.bool (!oD)) (Qw rfl) (H (.bool (!oD)) (O ?_));rcases Zt h with ⟨cD,h⟩ | ⟨cD,h⟩
     ·refine Gz cD rfl (Z (H (.slice none 0 0) (H (I 0) (H (I 2) (O (Gb (G6 (Gj ?_))))))))
      cases h;exact Yi rfl rfl (rq (.slice none 0 0)) (rq (I 0)) (rq (I 2)) ⟨_,hfr,_,_,_,rfl,T8,rfl,rfl⟩
     ·refine G0 cD rfl ?_
      exact Zu (Te (Zd (lG () _ _ ⟨oH,hfr,rfl,rfl,rp2,rfl,T8,rfl,b6⟩ h)))
 ·rintro _ pI qJ ⟨pH,hfr,xE,yE,yD,zE,cF,dF,eF⟩ h
  refine Z (aQ xE (H (I x1) (O ?_)));obtain ⟨⟨n9,v8⟩,hx,h⟩:=Z1 h;refine Gn (fun e w=>∃ (g:Gh) (v6:Value),Fr gI wI g w∧e 6=v6∧RV g.m w (n9:List Int) v6∧OS 1006 g w 3 (n9:List Int) v6∧e 7=I v8) (fun Q' hQ=>?_) (fun qI rJ hR=>?_)
  ·replace h:=hx
   clear hx;refine Z (aQ yE (Y (I (x2.length:Int)) (G7 underlying25 rfl yD) (M (I 0) (O (Zr (Qz h (fun (s:(List Int) × Int × Int) e w=>∃ (g:Gh) (v6:Value),Fr gI wI g w∧e 6=v6∧RV g.m w (s.1:List Int) v6∧OS 1006 g w 3 (s.1:List Int) v6∧e 7=I (s.2.1)∧e 9=p5∧OB 2009 g w 200 (y4.1:Gw) p5∧e 39=up2∧RV g.m w (x2:List Int) up2∧e 40=I (x2.length:Int)∧e 41=I s.2.2) ⟨pH,(.slice none 0 0),hfr,zE,cF,OS.nil,rfl,dF,eF,rfl,yD,rfl,rfl⟩ (fun X59 gG xG=>?_)))))));rintro ⟨lB,i6,l5⟩ sI sJ ⟨zD,rF,hfr,aE,g8,l8,mB,nB,t5,vB,o0,yB,aB⟩ h;refine Z (aT (.bool (decide (l5<(x2.length:Int)))) aB yB rfl (O (Zf ?_)));rcases Zt h with ⟨lD,h⟩ | ⟨lD,h⟩
   ·refine Gz lD rfl (Zu (Zd ?_))
    obtain ⟨⟨n8,l9⟩,hx,h⟩:=Z1 h;refine Gn (fun e w=>∃ (g:Gh) (v6:Value),Fr gI wI g w∧e 6=v6∧RV g.m w (n8:List Int) v6∧OS 1006 g w 3 (n8:List Int) v6∧e 7=I (l9)∧e 9=p5∧OB 2009 g w 200 (y4.1:Gw) p5∧e 39=up2∧RV g.m w (x2:List Int) up2∧e 40=I (x2.length:Int)∧e 41=I l5) (fun Q' hQ=>?_) (fun jJ vJ hR=>?_)
    ·replace h:=hx
     clear hx;refine Zr (Z ?_);obtain ⟨oB,lE,h⟩:=Z1 h;refine Y (Gy up2 l5 1) (Zh (α:=Int) underlying25 sizeOf3 vB o0 aB lE) ?_;have qH:=G1 o0 lE;refine G (Ga (g:=zD) isAgg3 sizeOf3 rfl qH fun xJ sH=>?_);obtain rfl:=Zj.1 sH;refine H (I oB) (O (Z (aQ aE (G (Tr (g:=zD) isAgg200 sizeOf200 nB t5 fun tH uH=>(aQ mB ?_))))));obtain ⟨y80,yG,h⟩:=Z1 h;refine G (aJ (g:=zD) (vs:=[tH,I i6]) en105 (wk105 uH yG) fun xH kJ zJ hs hr=>?_);have hfr:=hfr.ext hs;have g8:=g8.ext hs;have l8:=l8.ext hs;have t5:=t5.ext hs;have o0:=o0.ext hs;subst hr;refine G (Gd (g:=xH) 3049 (xs:=([y80]:List Int)) (vs:=[I y80]) underlying25 sizeOf3 zeroValue3 rfl rfl (.cons rfl .nil) (RVs.cons (Zj.2 rfl) RVs.nil) rfl rfl fun yH aK bK hs o81 zH hxt hfl=>?_);have hfr:=hfr.stp hs;have g8:=g8.stp hs;have l8:=l8.stp hs rfl;have t5:=t5.stp hs rfl;have o0:=o0.stp hs;obtain ⟨iG,zG,h⟩:=Z1 h;refine G (Qe (g:=yH) (i:=1006) underlying25 Jf rfl rfl l8 g8 rfl zH zG fun jG cK kG hs o82 mE _=>?_);have hfr:=hfr.stp hs;have t5:=t5.stp hs rfl;have o0:=o0.stp hs;refine H kG (O (Za (G (Tr (g:=jG) isAgg200 sizeOf200 nB t5 fun aI bI=>(aQ mB (M (I oB) ?_))))));obtain ⟨iE,aH,h⟩:=Z1 h;refine G (aJ (g:=jG) (vs:=[aI,I i6,I oB]) en106 (wk106 bI aH) fun dI lJ dK hs hr=>?_);have hfr:=hfr.ext hs;have mE:=mE.ext hs;have o82:=o82.ext hs;have t5:=t5.ext hs;have o0:=o0.ext hs;subst hr;refine H (I iE) (Zb (Te ?_));obtain ⟨rfl,rfl⟩:=W9 h;exact hQ _ _ ⟨dI,kG,hfr,rfl,mE,o82,rfl,nB,t5,vB,o0,yB,aB⟩
    ·clear hx
     obtain ⟨iI,sF,hfr,tF,uF,vF,xF,yF,aG,oE,rE,uE,vE⟩:=hR;refine Za (aT (I (w64 (l5+(1:Int)))) vE rfl rfl (M (I (w64 (l5+(1:Int)))) ?_));exact O (xG (n8,l9,(w64 (l5+(1:Int)))) _ _ ⟨iI,sF,hfr,tF,uF,vF,xF,yF,aG,oE,rE,uE,rfl⟩ h)
   ·refine G0 lD rfl (Th (Gr (Gr (G2 ?_))))
    obtain ⟨rfl,rfl⟩:=W9 h;exact hQ _ _ ⟨zD,rF,hfr,aE,g8,l8,mB⟩
  ·clear hx
   obtain ⟨lK,bE,hfr,bG,cG,jI,eG⟩:=hR;refine Z (aQ bG (aQ eG (H bE (H (I v8) (H (I 0) (O (Gb ?_)))))));obtain rfl:=sinj h;exact Yi rfl rfl (rq bE) (rq (I v8)) (rq (I 0)) ⟨_,hfr,_,_,_,rfl,cG,rfl,rfl⟩
theorem idx_lt {α:Type} {xs:List α} {i:Int} {a:α} (h:idx xs i=some a):i.toNat<xs.length:=(List.getElem?_eq_some_iff.1 (Wp h).2).1
theorem P4 {α:Type} {xs:List α} {i:Int} {a:α} (h:idx xs i=some a):xs.set i.toNat a=xs:=by
 have h1:=(List.getElem?_eq_some_iff.1 (Wp h).2);obtain ⟨hl,rfl⟩:=h1;exact List.set_getElem_self hl
theorem idx_setS {α:Type} {xs:List α} {i:Int} {a b:α} (h:idx xs i=some a):idx (xs.set i.toNat b) i=some b:=by
 have h0:=(Wp h).1;have hl:=idx_lt h;unfold idx at h ⊢;simp [h0,hl]
theorem Pt {P:Program} {e:Env} {x:Operand} {p:Value} (hx:X e x=p) (hp:∃ b o,p=.pointer (some ⟨b,o,none⟩)):Pur P (.nilCheck x) e p:=by
 obtain ⟨b,o,rfl⟩:=hp;exact Tu hx
theorem lay_112w:Qk prog 112=some ([I 0,I 0],[(0,1),(1,1)]):=by kernel_rfl
theorem lay_34w:Qk prog 34=some ([I 0,.slice none 0 0],[(0,1),(1,1)]):=by kernel_rfl
def f37 (cy:T5) (m:Tn) (c:Z4):Option ((List Str) × Int × T5):=
 (idx m.Chains c.Chain).bind fun ch=>(idx m.Ties c.Tie).bind fun ti=>
 bif ch.Chain.Hooks != ti.Harness.Hooks then some ([],4,cy) else
 Option.bind (some (bif cy.chain != w64 (c.Chain+(1:Int)) then ⟨w64 (c.Chain+(1:Int)),0⟩ else cy)) fun c1=>
 (f72 [1] c.Picks).bind fun pk=>(f71 ch.Chain c1.card pk).bind fun wv=>
 bif wv.2.2 != (0:Int) then some ([],wv.2.2,c1) else
 (f73 ti.Harness ⟨ch.Chain.Hooks,wv.1⟩).bind fun t=>some (t.1,t.2,{c1 with card:=wv.2.1})
theorem en37:Enters prog 37:=yC func37
theorem wk37 {iI:Nat} {gI:Gh} {wI:World} {xs:List T5} {pv:Value} {i:Int} {cy:T5} {m:Tn} {c:Z4} {um uc:Value} (mp0:OM iI gI wI 112 xs pv) (hi:idx xs i=some cy) (rm:RV gI.m wI m um) (rc:RV gI.m wI c uc) {r:(List Str) × Int × T5} (hf:f37 cy m c=some r) :
  FnM prog 37 #[Gy pv i 2,um,uc] iI gI wI (fun g w v=>∃ y0 y1,v=.tuple #[y0,y1]∧RV g.m w r.1 y0∧y1=I r.2.1∧OM iI g w 112 (xs.set i.toNat r.2.2) pv):=by
 unfold f37 at hf
 obtain ⟨ch,hch,hf⟩:=Z1 hf
 obtain ⟨ti,hti,hf⟩:=Z1 hf
 refine Vd func37 rfl (Nat.le_of_ble_eq_true rfl) fun g0 hm hfr=>?_
 have mpI:=mp0
 replace mp0:=mp0.enter
 rw [← hm] at mp0
 replace hm:g0.m=gI.m:=by rw [hm]
 replace rm:RV g0.m wI m um:=hm▸rm
 replace rc:RV g0.m wI c uc:=hm▸rc
 refine Z (G (Tw (g:=g0) rfl rm fun g1 w1 pm hx1 qm=>(G (Tw (g:=g1) rfl (rc.ext hx1) fun g2 w2 pc hx2 qc=>?_))))
 have hfr:=(hfr.ext hx1).ext hx2
 have mp:=(mp0.ext hx1).ext hx2
 have qm:=qm.ext hx2
 refine H (.slice none 0 0) (H (I 0) (O (Zf ?_)))
 clear mp0 hx1 hx2
 -- region 1: the chain and the tie
 have qch:=Zm Kc.1 qm
 refine Zs (x:=.tmp 13) isAgg70 sizeOf70 qch fun vch rch hch1=>?_
 have qti:=Zm Kb.1 qm
 refine Zs (x:=.tmp 20) isAgg69 sizeOf69 qti fun vti rti hti1=>(Zs (x:=.tmp 15) isAgg3 sizeOf3 (Zm W0.1 qc) fun v0 r0 hc3=>?_)
 obtain rfl:=Zj.1 r0
 refine Zs (x:=.tmp 22) isAgg3 sizeOf3 (Zm Hf.1 qc) fun v0 r0 hc4=>?_
 obtain rfl:=Zj.1 r0
 have qe:=G1 rch hch
 refine Zs (x:=.tmp 18) isAgg116 sizeOf116 (Zm Jl.1 qe) fun vb rb hb1=>?_
 have qt:=G1 rti hti
 refine Zs (x:=.tmp 25) isAgg32 sizeOf32 (Zm Yp.1 qt) fun vh rh hh1=>(Cl (g:=g2) (n:=16) [7,8,9,10,11,12,13] [(14,fun v g w=>OB 8 g w 116 (⟨0,[]⟩:ChainBelt) v),(15,fun v g w=>OB 9 g w 32 (⟨0,[]⟩:TieHarness) v)] [0,1,2,3,4,5,6,7,8,9,10,11,12,13,14,15] rfl Ug (by kernel_rfl) ⟨fun _=>(fun _ _ _ _ hx h=>OB.ext h hx),fun _=>(fun _ _ _ _ hx h=>OB.ext h hx),trivial⟩ rfl (V (S pm 1) rfl (aa V7 (PT.ptr qm)) (G3 (c:=vch) rfl rfl .plain xC hch1 rfl (V (S pc 2) rfl (aa V6 (PT.ptr qc)) (G3 (c:=I c.Chain) rfl rfl .plain xC hc3 rfl (V (Gy vch c.Chain 3) rfl (Zh (α:=Gm) underlying70 sizeOf123 rfl rch rfl hch) (V (S (Gy vch c.Chain 3) 1) rfl (aa Vt (PT.ptr qe)) (G3 (c:=vb) rfl rfl .plain xC hb1 rfl (Uz (c:=S pm 0) rfl rfl .plain (aa Xa (PT.ptr qm)) (L_ldL (c:=vti) rfl rfl .plain xC rfl hti1 rfl (Uz (c:=S pc 3) rfl rfl .plain (aa Ra (PT.ptr qc)) (L_ldL (c:=I c.Tie) rfl rfl .plain xC rfl hc4 rfl (Uz (c:=Gy vti c.Tie 3) rfl rfl .plain (Zh (α:=Gx) underlying69 sizeOf121 rfl rti rfl hti) (Uz (c:=S (Gy vti c.Tie 3) 1) rfl rfl .plain (aa D9 (PT.ptr qt)) (L_ldL (c:=vh) rfl rfl .plain xC rfl hh1 rfl (Wd (φ:=fun v g w=>OB 8 g w 116 (⟨0,[]⟩:ChainBelt) v) rfl rfl .plain (fun g w hd=>Ur (g:=g) 8 (⟨0,[]⟩:ChainBelt) zeroValue116 (fun m w=>⟨_,Gg Zw Tb,rfl⟩) fun g' w' p hs hr=>⟨g',hs,hr⟩) (fun p8 hv=>?_)))))))))))))))))
 clear hv
 refine Wd (φ:=fun v g w=>OB 9 g w 32 (⟨0,[]⟩:TieHarness) v) rfl rfl .plain (fun g w hd=>Ur (g:=g) 9 (⟨0,[]⟩:TieHarness) zeroValue32 (fun m w=>⟨_,Gg Zw Tb,rfl⟩) fun g' w' p hs hr=>⟨g',hs,hr⟩) (fun p9 hv=>?_)
 clear hv
 refine Jx fun g3 w3 hall=>?_
 have hs:=hall.1
 have b8:=Ts (A:=fun g w=>OB 8 g w 116 (⟨0,[]⟩:ChainBelt) p8) 14 rfl hall
 have b9:=Ts (A:=fun g w=>OB 9 g w 32 (⟨0,[]⟩:TieHarness) p9) 15 rfl hall
 have hlt:Lt g2.m w2 g3 w3:=hs.ch
 clear hall
 refine O5 hlt.w .plain rfl (Um (g:=g3) (v:=vb) sizeOf116 rfl b8 rfl (rb.ext hs) fun g4 w4 hs4 b8=>?_)
 have hlt:=hlt.stp hs4
 refine O5 hlt.w .plain rfl (Um (g:=g4) (v:=vh) sizeOf32 rfl (b9.stp hs4 rfl) rfl ((rh.ext hs).stp hs4) fun g5 w5 hs5 b9=>?_)
 have hlt:=hlt.stp hs5
 refine Nr hlt.w (Zd ?_)
 obtain ⟨g6,hs6,q8⟩:=(b8.stp hs5 rfl).pub
 obtain ⟨g7,hs7,q9⟩:=(b9.stp hs6 rfl).pub
 have q8:=q8.stp hs7
 have hfr:=((((hfr.ext hs).stp hs4).stp hs5).stp hs6).stp hs7
 have mp:=((((mp.ext hs).stp hs4 rfl).stp hs5 rfl).stp hs6 rfl).stp hs7 rfl
 have qc:=((((qc.ext hs).stp hs4).stp hs5).stp hs6).stp hs7
 clear hlt hs hs4 hs5 hs6 hs7 b8 b9 rb rh hch1 hti1 hc3 hc4 hb1 hh1 qch qti qe qt rch rti
 -- region 2: the hooks
 refine Zf (Z (Y (S p8 0) (aa Vm (PT.ptr q8)) (G (Ga (g:=g7) isAgg3 sizeOf3 rfl (Zm Km.1 q8) fun v r=>?_))))
 obtain rfl:=Zj.1 r
 refine Y (S p9 0) (aa Xc (PT.ptr q9)) (G (Ga (g:=g7) isAgg3 sizeOf3 rfl (Zm Wj.1 q9) fun v r=>?_))
 obtain rfl:=Zj.1 r
 refine aT (.bool (ch.Chain.Hooks != ti.Harness.Hooks)) rfl rfl rfl (O ?_)
 rcases Zt hf with ⟨hc,hf⟩ | ⟨hc,hf⟩
 ·refine Gz hc rfl (Z (H (.slice none 0 0) (H (I 4) (O (Gb ?_)))))
  obtain rfl:=sinj hf
  exact H9 rfl rfl rfl rfl ⟨_,hfr,_,_,rfl,T8,rfl,by rw [P4 hi];exact mpI.back mp⟩
 refine G0 hc rfl (Zu (Zd ?_))
 obtain ⟨c1,hc1,hf⟩:=Z1 hf
 obtain ⟨pk,hpk,hf⟩:=Z1 hf
 obtain ⟨wv,hwv,hf⟩:=Z1 hf
 -- region 4: another chain on the loom
 refine Kj (fun e ds w'=>ds=[]∧e 0=Gy pv i 2∧e 5=pc∧e 8=p8∧e 9=p9∧∃ g',FrM iI gI wI g' w'∧Ch g7.m w5 g'.m w'∧OM 1 g' w' 112 (xs.set i.toNat c1) pv) (fun Q' hQ=>?_) (fun e ds w' hR=>?_)
 ·have hpp:=mp.ptrE (k:=2) hi
  refine Zf (Dw (x:=.tmp 34) Xo.1 isAgg3 sizeOf3 mp hi fun v r hl1=>?_)
  obtain rfl:=Zj.1 r
  refine Zs (x:=.tmp 36) isAgg3 sizeOf3 (Zm W0.1 qc) fun v r hl2=>?_
  obtain rfl:=Zj.1 r
  refine ab (g:=g7) (n:=8) [] [0,1,2,3,4,5,6,7] Ug trivial (V (Gy pv i 2) rfl (ai) (V (Gy pv i 2) rfl (Pt rfl hpp) (V (S (Gy pv i 2) 0) rfl (aa Es hpp) (G3 (c:=I cy.chain) rfl rfl .plain xB hl1 rfl (V (S pc 2) rfl (aa V6 (PT.ptr qc)) (G3 (c:=I c.Chain) rfl rfl .plain xC hl2 rfl (V (I (w64 (c.Chain+(1:Int)))) rfl (Gp rfl rfl rfl) (V (.bool (cy.chain != w64 (c.Chain+(1:Int)))) rfl (Gp rfl rfl rfl) (Jx fun g8 w8 hall=>?_)))))))))
  have hs:=hall.1
  refine O ?_
  rcases Bool.eq_false_or_eq_true (cy.chain != w64 (c.Chain+(1:Int))) with hq | hq
  ·rw [hq] at hc1
   obtain rfl:=sinj hc1
   refine Gz hq rfl (Za (M (Gy pv i 2) (Y (S pc 2) (aa V6 (PT.ptr qc)) (G (Ga (g:=g8) isAgg3 sizeOf3 rfl (Zm W0.1 (qc.ext hs)) fun v r=>?_)))))
   obtain rfl:=Zj.1 r
   refine aT (I (w64 (c.Chain+(1:Int)))) rfl rfl rfl (Y (.agg #[I (w64 (c.Chain+(1:Int))),I 0]) (show Pur _ _ _ (.agg #[I (w64 (c.Chain+(1:Int))),I 0]) from T3 (vs:=[(0,I (w64 (c.Chain+(1:Int))))]) [[I 0],[I 0]] lay_112w rfl rfl (.cons rfl .nil) ⟨⟨_,rfl,rfl⟩,trivial⟩) (Y (Gy pv i 2) (Pt rfl hpp) (G (Hn (g:=g8) (α:=T5) (a':=⟨w64 (c.Chain+(1:Int)),0⟩) (u:=.agg #[I (w64 (c.Chain+(1:Int))),I 0]) sizeOf112 rfl (mp.ext hs) hi rfl ⟨_,Gg Zw Zw,rfl⟩ fun g9 w9 hs9 mp9=>?_))))
   exact Zb (hQ _ _ _ ⟨rfl,rfl,rfl,rfl,rfl,g9,(hfr.ext hs).stp hs9,hs.ch.trans hs9.ch,mp9⟩)
  ·rw [hq] at hc1
   obtain rfl:=sinj hc1
   exact G0 hq rfl (Zu (hQ _ _ _ ⟨rfl,rfl,rfl,rfl,rfl,g8,hfr.ext hs,hs.ch,by show OM 1 g8 w8 112 (xs.set i.toNat cy) pv;rw [P4 hi];exact mp.ext hs⟩))
 obtain ⟨rfl,e0,e5,e8,e9,g,hfrN,hch7,mpN⟩:=hR
 replace hfr:=hfrN
 replace mp:=mpN
 have q8:=q8.ch hch7
 have q9:=q9.ch hch7
 have qc:=qc.ch hch7
 have hi1:=idx_setS (b:=c1) hi
 have hpp:=mp.ptrE (k:=2) hi1
 clear hfrN mpN hch7 hc1
 -- region 6: the picks of the chain
 refine Zf (Zs (x:=.tmp 8) isAgg116 sizeOf116 q8 fun vb rb hb1=>(Dw (x:=.tmp 50) Yb.1 isAgg3 sizeOf3 mp hi1 fun v r hl1=>?_))
 obtain rfl:=Zj.1 r
 refine Zs (x:=.tmp 53) isAgg3 sizeOf3 (Zm Jo.1 qc) fun v r hl2=>?_
 obtain rfl:=Zj.1 r
 refine Cl (g:=g) (n:=14) [12,13] [(5,fun v g w=>RV g.m w ([1]:List Int) v),(8,fun v g w=>RV g.m w pk v),(9,fun v g w=>∃ y0 y1 y2,v=.tuple #[y0,y1,y2]∧RV g.m w wv.1 y0∧y1=I wv.2.1∧y2=I wv.2.2)] [0,1,2,3,4,5,6,7,8,9,10,11,12,13] rfl Ug (by kernel_rfl) ⟨fun _=>Hm,fun _=>Hm,fun _=>(fun _ _ _ _ hx h=>let ⟨y0,y1,y2,h1,h2,h3⟩:=h;⟨y0,y1,y2,h1,RV.ext h2 hx,h3⟩),trivial⟩ rfl (G3 (c:=vb) rfl rfl .plain xC hb1 e8 (V (Gy pv i 2) rfl (Zk e0) (V (Gy pv i 2) rfl (Pt rfl hpp) (V (S (Gy pv i 2) 1) rfl (aa Ay hpp) (G3 (c:=I c1.card) rfl rfl .plain xB hl1 rfl (Wd (φ:=fun v g w=>RV g.m w ([1]:List Int) v) rfl rfl .plain (fun g w hd=>Gd (g:=g) 5 (xs:=([1]:List Int)) (vs:=[I 1]) underlying25 sizeOf3 zeroValue3 rfl rfl (.cons rfl .nil) (RVs.cons (Zj.2 rfl) RVs.nil) rfl rfl fun g' w' v _ _ r hx _=>⟨g',hx,r⟩) (fun v5 hv=>?_)))))))
 clear hv
 refine V (S pc 4) rfl (Zc Li e5 (PT.ptr qc)) (G3 (c:=I c.Picks) rfl rfl .plain xC hl2 rfl (Wd (φ:=fun v g w=>RV g.m w pk v) rfl rfl .plain (fun g w hd=>aJ (g:=g) (vs:=[v5,I c.Picks]) en72 (wk72 (Yv (A:=fun g w=>RV g.m w ([1]:List Int) v5) 5 rfl rfl (Q9 hd)) hpk) fun g' w' v hs hr=>⟨g',hs,hr⟩) (fun v8 hv=>?_)))
 clear hv
 refine Wd (φ:=fun v g w=>∃ y0 y1 y2,v=.tuple #[y0,y1,y2]∧RV g.m w wv.1 y0∧y1=I wv.2.1∧y2=I wv.2.2) rfl rfl .plain (fun g w hd=>aJ (g:=g) (vs:=[vb,I c1.card,v8]) en71 (wk71 (rb.ext hd.1) (Yv (A:=fun g w=>RV g.m w pk v8) 8 rfl rfl (Q9 hd)) hwv) fun g' w' v hs hr=>⟨g',hs,hr⟩) (fun v9 hv=>?_)
 obtain ⟨_,_,_,y0,y1,y2,rfl,_,rfl,rfl⟩:=hv
 refine V (.tuple #[y0,I wv.2.1,I wv.2.2]) rfl (ai) (V y0 rfl (Zi rfl rfl) (Uz (c:=I wv.2.1) rfl rfl .plain (Zi rfl rfl) (Uz (c:=I wv.2.2) rfl rfl .plain (Zi rfl rfl) (Jx fun g10 w10 hall=>?_))))
 have hs:=hall.1
 have ry:RV g10.m w10 wv.1 y0:=by
  obtain ⟨a0,a1,a2,ha,hb,_⟩:=Ts (A:=fun g w=>∃ a0 a1 a2,(Value.tuple #[y0,I wv.2.1,I wv.2.2])=.tuple #[a0,a1,a2]∧RV g.m w wv.1 a0∧a1=I wv.2.1∧a2=I wv.2.2) 9 rfl hall
  injection ha with ha
  have h1:[y0,I wv.2.1,I wv.2.2]=[a0,a1,a2]:=congrArg Array.toList ha
  injection h1 with h0 _
  exact h0▸hb
 have hlt:Lt g.m w' g10 w10:=hs.ch
 clear hall
 refine Lb hlt.w (v:=y0) (Tp rfl) .plain rfl (Lb hlt.w (v:=I wv.2.1) (Tp rfl) .plain rfl (Lb hlt.w (v:=I wv.2.2) (Tp rfl) .plain rfl (Nr hlt.w (Zd ?_))))
 replace hfr:=hfr.ext hs
 replace mp:=mp.ext hs
 replace q8:=q8.ext hs
 replace q9:=q9.ext hs
 clear hlt hs rb hb1 hl1 hl2 qc
 refine Zf (Z (M (I wv.2.2) (aT (.bool (wv.2.2 != (0:Int))) rfl rfl rfl (O ?_))))
 rcases Zt hf with ⟨hc2,hf⟩ | ⟨hc2,hf⟩
 ·refine Gz hc2 rfl (Z (M (I wv.2.2) (H (.slice none 0 0) (H (I wv.2.2) (O (Gb ?_))))))
  obtain rfl:=sinj hf
  exact H9 rfl rfl rfl rfl ⟨_,hfr,_,_,rfl,T8,rfl,mpI.back mp⟩
 refine G0 hc2 rfl (Zu (Zd ?_))
 obtain ⟨tv,htv,hf⟩:=Z1 hf
 obtain rfl:=sinj hf
 refine Z (aQ e0 (M (I wv.2.1) (Y (Gy pv i 2) (Pt rfl hpp) (Y (S (Gy pv i 2) 1) (aa Ay hpp) (G (By (g:=g10) (y0:=wv.2.1) Yb sizeOf3 rfl mp hi1 rfl (Zj.2 rfl) fun g11 w11 hs11 mp11=>?_))))))
 rw [List.set_set] at mp11
 refine O (Z ?_)
 replace hfr:=hfr.stp hs11
 replace q8:=q8.stp hs11
 replace q9:=q9.stp hs11
 replace ry:=ry.stp hs11
 refine G (Ga (g:=g11) isAgg32 sizeOf32 e9 q9 fun vh rh=>(Y (S p8 0) (Zc Vm e8 (PT.ptr q8)) (G (Ga (g:=g11) isAgg3 sizeOf3 rfl (Zm Km.1 q8) fun v r=>?_))))
 obtain rfl:=Zj.1 r
 refine M y0 ?_
 have rd:RV g11.m w11 (⟨ch.Chain.Hooks,wv.1⟩:Design) (.agg (Tk [[I 0],[.slice none 0 0]] [(0,I ch.Chain.Hooks),(1,y0)]).flatten.toArray):=Ti rfl (Gs rfl (To (RV.cells ry)))
 generalize hgd:(Value.agg (Tk [[I 0],[.slice none 0 0]] [(0,I ch.Chain.Hooks),(1,y0)]).flatten.toArray)=vd at rd
 refine Y vd (hgd▸T3 (vs:=[(0,I ch.Chain.Hooks),(1,y0)]) [[I 0],[.slice none 0 0]] lay_34w rfl rfl (.cons rfl (.cons rfl .nil)) ⟨⟨_,rfl,rfl⟩,⟨⟨_,rfl,Tl ry⟩,trivial⟩⟩) (G (aJ (g:=g11) (vs:=[vh,vd]) en73 (wk73 rh rd htv) fun g12 w12 v12 hx12 hv=>?_))
 obtain ⟨z0,z1,rfl,rz,rfl⟩:=hv
 refine Y z0 (Zi rfl rfl) (Y (I tv.2) (Zi rfl rfl) (H z0 (H (I tv.2) (O (Gb ?_)))))
 exact H9 rfl rfl rfl rfl ⟨_,hfr.ext hx12,_,_,rfl,rz,rfl,mpI.back (mp11.ext hx12)⟩

def f6 (x0:LoomMill) (x1:List Z5):Option ((List Z3) × Int):=
 (f18 x0 x1).bind fun y4=>
 jn (σ:=Unit) (fun _=>
  jn (σ:=Unit) (fun _=>
   jn (σ:=(List Z3)) (fun nD=>
    some (nD,(0:Int))
    ) fun sF=>
   lp (σ:=(List Z3) × (List (Int × Z3)) × Int) (fun tF (t5,oD,o0)=>
    bif (decide (o0<(x1.length:Int))) then
     jn (σ:=(List Z3) × (List (Int × Z3))) (fun (yB,zB)=>
      tF (yB,zB,(w64 (o0+(1:Int))))
      ) fun uF=>
     jn (σ:=(List (Int × Z3))) (fun l8=>
      (apnd 24 t5 ([((Qo l8 o0).getD (⟨0,0,0⟩:Z3))]:List Z3)).bind fun rE=>
      uF (rE,l8)
      ) fun vF=>
     (f22 y4.1 o0 oD).bind fun y132=>
     bif (!y132.1) then
      some ([],(9:Int))
     else
      vF y132.2
    else
     sF t5
    ) big ([],([]:List (Int × Z3)),(0:Int))
   ) fun aI=>
  (f20 y4.1).bind fun vC=>
  (f19 y4.1 vC ([]:List (Int × Z3))).bind fun oB=>
  (f21 y4.1).bind fun yD=>
  (idx oB yD).bind fun zD=>
  bif (!zD) then
   some ([],(9:Int))
  else
   aI ()
  ) fun k8=>
 bif (y4.2 != (0:Int)) then
  some ([],y4.2)
 else
  k8 ()
theorem en6:Enters prog 6:=yC func6
theorem wk6 {x0:LoomMill} {x1:List Z5} (rp0:RV gI.m wI x0 up0) (rp1:RV gI.m wI x1 up1) {r:(List Z3) × Int} (h:f6 x0 x1=some r):Fn prog 6 #[up0,up1] gI wI (fun m w v=>∃ y0 y1,v=.tuple #[y0,y1]∧RV m w r.1 y0∧y1=I r.2):=by
 unfold f6 at h;refine fnE func6 rfl rfl fun g0 hm hfr=>?_;have rp0:=RVc hm rp0;have rp1:=RVc hm rp1;refine Z (G (Tw (g:=g0) rfl rp0 fun g1 w1 p1 hs q1=>?_));have hfr:=hfr.ext hs;have rp1:=rp1.ext hs;refine H (.slice none 0 0) (H (I 0) (O (Z (G (Ga (g:=g1) isAgg27 sizeOf27 rfl q1 fun v2 r2=>(M up1 ?_))))));obtain ⟨y4,sJ,h⟩:=Z1 h;refine G (aJ (g:=g1) (vs:=[v2,up1]) en18 (wk18 r2 rp1 sJ) fun g3 w3_ v3 hs hr=>?_);have hfr:=hfr.ext hs;have rp1:=rp1.ext hs;obtain ⟨uE,tK,rfl,vE,rfl⟩:=hr;refine M (.tuple #[uE,I y4.2]) (Y uE (Zi rfl rfl) (Y (I y4.2) (Zi rfl rfl) (G (Gu (g:=g3) 2006 (⟨⟨[],0⟩,[]⟩:Z8) zeroValue80 (fun m w=>⟨_,(Gg (Gg Tb Zw) Tb),rfl⟩) fun g5 w5 p5 hs b5 cb=>?_))));have hfr:=hfr.stp hs;have rp1:=rp1.stp hs;have vE:=vE.stp hs;have uK:OSF 2006 60600 0 g5 w5 3 80 ([]:List Int) p5:=cb.osf (by rfl);have vK:OSF 2006 60602 2 g5 w5 59 80 ([]:List Z5) p5:=cb.osf (by rfl);clear cb;refine G (Gk (g:=g5) (v:=uE) sizeOf80 rfl b5 rfl vE fun g6 w6 hs b6 cb=>?_);clear cb;have hfr:=hfr.stp hs;have rp1:=rp1.stp hs;refine H (I y4.2) (O (Zq h (fun (s:Unit)=>xD gI wI fun e w g=>e 1=up1∧RV g.m w (x1:List Z5) up1∧e 4=.slice none 0 0∧RV g.m w ([]:List Z3) (Value.slice none 0 0)∧e 6=p5∧OB 2006 g w 80 (y4.1:Z8) p5) (fun X8 k8 vJ h=>?_) ?_))
 ·refine Z (M (I y4.2) (aT (.bool (y4.2 != (0:Int))) rfl rfl rfl (O ?_)))
  rcases Zt h with ⟨hc9,h⟩ | ⟨hc9,h⟩
  ·refine Gz hc9 rfl (Z (M (I y4.2) (H (.slice none 0 0) (H (I y4.2) (O (Gb (Gj ?_)))))))
   obtain rfl:=sinj h;exact H9 rfl rfl (rq (.slice none 0 0)) (rq (I y4.2)) ⟨_,hfr,_,_,rfl,T8,rfl⟩
  ·refine G0 hc9 rfl ?_
   exact Zu (Zd (vJ () _ _ ⟨g6,hfr,rfl,rp1,rfl,T8,rfl,b6⟩ h))
 ·rintro _ xK mL ⟨xJ,hfr,cH,v8,gH,l9,vB,l5⟩ h
  refine Z (G (Fz (g:=xJ) (Value.int .i64) Z3 8018 fun zJ nL g8 hs m11=>?_));have hfr:=hfr.stp hs;have v8:=v8.stp hs;have l9:=l9.stp hs;have l5:=l5.stp hs rfl;refine H g8 (O (Zq h (fun (s:Unit)=>xD gI wI fun e w g=>e 1=up1∧RV g.m w (x1:List Z5) up1∧e 4=.slice none 0 0∧RV g.m w ([]:List Z3) (Value.slice none 0 0)∧e 6=p5∧OB 2006 g w 80 (y4.1:Z8) p5∧e 7=g8∧MP (Value.int .i64) 8018 g w (([]:List (Int × Z3)):List (Int × Z3)) g8) (fun X41 aI jI h=>?_) ?_))
  ·refine Zf (Qy (x:=.tmp 6) isAgg80 sizeOf80 l5 fun bI aK kI=>(Qy (x:=.tmp 6) isAgg80 sizeOf80 l5 fun dI bK lI=>?_))
   obtain ⟨vC,mI,h⟩:=Z1 h;obtain ⟨oB,nI,h⟩:=Z1 h;refine Qy (x:=.tmp 6) isAgg80 sizeOf80 l5 fun iI cK pI=>?_;obtain ⟨yD,qI,h⟩:=Z1 h;obtain ⟨zD,xE,h⟩:=Z1 h;refine ab (g:=zJ) (n:=10) [(2,(fun v g w=>RV g.m w vC v)),(4,(fun v g w=>RV g.m w oB v)),(6,(fun v g w=>v=I yD)),(8,(fun v _ _=>v=.bool zD))] [0,1,2,3,4,5,6,7,8,9] mixed (⟨fun _=>Hm,fun _=>Hm,fun _=>Ww _,fun _=>Ww _,trivial⟩) (G3 (c:=bI) rfl rfl .plain xB kI vB (G3 (c:=dI) rfl rfl .plain xB lI vB (Wd (φ:=fun v g w=>RV g.m w vC v) rfl rfl .plain (fun g w hd=>aJ (g:=g) (vs:=[dI]) en20 (wk20 (bK.ext hd.1) mI) fun g' w' v hs hr=>⟨g',hs,hr⟩) (fun xF hv=>?_))));obtain ⟨_,_,_,rq44⟩:=hv;refine V g8 rfl (ai) (Wd (φ:=fun v g w=>RV g.m w oB v) rfl rfl .plain (fun g w hd=>aJ (g:=g) (vs:=[bI,xF,g8]) en19 (wk19 (aK.ext hd.1) (Yv (A:=fun g w=>RV g.m w vC xF) 2 rfl rfl (Q9 hd)) (m11.ext hd.1).r nI) fun g' w' v hs hr=>⟨g',hs,hr⟩) (fun aE hv=>?_));obtain ⟨_,_,_,rq46⟩:=hv;refine G3 (c:=iI) rfl rfl .plain xB pI vB (Wd (φ:=fun v g w=>v=I yD) rfl rfl .plain (fun g w hd=>aJ (g:=g) (vs:=[iI]) en21 (wk21 (cK.ext hd.1) qI) fun g' w' v hs hr=>⟨g',hs,hr⟩) (fun oL hv=>?_));obtain ⟨_,_,_,rfl⟩:=hv;refine J8 (c:=Gy aE yD 1) rfl rfl .plain (fun _ _ hd=>Zh (α:=Bool) underlying85 sizeOf4 rfl (Yv (A:=fun g w=>RV g.m w oB aE) 4 rfl rfl (Q9 hd)) rfl xE) (Wd (φ:=(fun v _ _=>v=.bool zD)) rfl rfl .plain (fun g w hd=>Ga (g:=g) isAgg4 sizeOf4 rfl (G1 (Yv (A:=fun g w=>RV g.m w oB aE) 4 rfl rfl (hop 7 rfl rfl (Q9 hd))) xE) fun v r=>⟨g,Ext.refl g w,Tz.1 r⟩) (fun xL hv=>?_));obtain ⟨_,_,_,rfl⟩:=hv;refine V (.bool (!zD)) rfl (Qw rfl) (Jx fun dK yL hall=>?_);have hs:=hall.1;have hfr:=hfr.ext hs;have v8:=v8.ext hs;have l9:=l9.ext hs;have l5:=l5.ext hs;have m11:=m11.ext hs;have zL:=(Ts (A:=fun g w=>RV g.m w vC xF) 2 rfl hall);have aM:=(Ts (A:=fun g w=>RV g.m w oB aE) 4 rfl hall);have bM:=(G1 (Ts (A:=fun g w=>RV g.m w oB aE) 4 rfl hall) xE);clear hs hall;refine O ?_;rcases Zt h with ⟨yE,h⟩ | ⟨yE,h⟩
   ·refine Gz yE rfl (Z (H (.slice none 0 0) (H (I 9) (O (Gb (Gj ?_))))))
    cases h;exact H9 rfl rfl (rq (.slice none 0 0)) (rq (I 9)) ⟨_,hfr,_,_,rfl,T8,rfl⟩
   ·refine G0 yE rfl ?_
    exact Zu (Zd (jI () _ _ ⟨dK,hfr,cH,v8,gH,l9,vB,l5,rfl,m11⟩ h))
  ·rintro _ yK cM ⟨lK,hfr,jH,kH,lH,mH,nH,oH,pH,qH⟩ h
   refine Zq h (fun (s:(List Z3)) e w=>∃ (g:Gh) (v4:Value),Fr gI wI g w∧e 4=v4∧RV g.m w (s:List Z3) v4∧OS 1004 g w 57 (s:List Z3) v4) (fun X106 sF sH h=>?_) ?_
   ·refine Z (aQ jH (Y (I (x1.length:Int)) (G7 underlying28 rfl kH) (M (I 0) (O (Zr (Qz h (fun (s:(List Z3) × (List (Int × Z3)) × Int) e w=>∃ (g:Gh) (v4:Value),Fr gI wI g w∧e 4=v4∧RV g.m w (s.1:List Z3) v4∧OS 1004 g w 57 (s.1:List Z3) v4∧e 6=p5∧OB 2006 g w 80 (y4.1:Z8) p5∧e 7=g8∧MP (Value.int .i64) 8018 g w (s.2.1:List (Int × Z3)) g8∧e 30=I (x1.length:Int)∧e 31=I s.2.2) ⟨lK,(.slice none 0 0),hfr,lH,mH,OS.nil,nH,oH,pH,qH,rfl,rfl⟩ (fun X107 tF tH=>?_)))))))
    rintro ⟨t5,oD,o0⟩ nK zK ⟨zE,n9,hfr,bE,aB,lB,iE,mB,lE,yF,bD,nB⟩ h;refine Z (aT (.bool (decide (o0<(x1.length:Int)))) nB bD rfl (O (Zf ?_)));rcases Zt h with ⟨cD,h⟩ | ⟨cD,h⟩
    ·refine Gz cD rfl (Zu (Zd (Zq h (fun (s:(List Z3) × (List (Int × Z3))) e w=>∃ (g:Gh) (v4:Value),Fr gI wI g w∧e 4=v4∧RV g.m w (s.1:List Z3) v4∧OS 1004 g w 57 (s.1:List Z3) v4∧e 6=p5∧OB 2006 g w 80 (y4.1:Z8) p5∧e 7=g8∧MP (Value.int .i64) 8018 g w (s.2:List (Int × Z3)) g8∧e 30=I (x1.length:Int)∧e 31=I o0) (fun X124 uF uH h=>?_) ?_)))
     ·refine Zr (Z (aQ nB (H (I o0) (O (Zq h (fun (s:(List (Int × Z3))) e w=>∃ (g:Gh) ,Fr gI wI g w∧e 4=n9∧RV g.m w (t5:List Z3) n9∧OS 1004 g w 57 (t5:List Z3) n9∧e 6=p5∧OB 2006 g w 80 (y4.1:Z8) p5∧e 7=g8∧MP (Value.int .i64) 8018 g w (s:List (Int × Z3)) g8∧e 8=I o0∧e 30=I (x1.length:Int)∧e 31=I o0) (fun X129 vF xH h=>?_) ?_)))))
      ·refine Z (G (Tr (g:=zE) isAgg80 sizeOf80 iE mB fun sI jJ=>(M (I o0) (aQ lE ?_))))
       obtain ⟨y132,yH,h⟩:=Z1 h;refine G (V9 (g:=zE) (i:=8018) (vs:=[sI,I o0,g8]) en22 (.cons rfl (.cons rfl (.cons rfl .nil))) (wk22 jJ yF yH) fun kJ oK aL hs hr=>?_);obtain ⟨hrv,b131⟩:=hr;have hfr:=hfr.stp hs;have aB:=aB.stp hs;have lB:=lB.stp hs rfl;have mB:=mB.stp hs rfl;subst hrv;refine Y (.bool (!y132.1)) (Qw rfl) (O ?_);rcases Zt h with ⟨lD,h⟩ | ⟨lD,h⟩
       ·refine Gz lD rfl (Z (H (.slice none 0 0) (H (I 9) (O (Gb (Gj (G6 (Gj (Gj (G6 (Gj ?_)))))))))))
        cases h;exact H9 rfl rfl (rq (.slice none 0 0)) (rq (I 9)) ⟨_,hfr,_,_,rfl,T8,rfl⟩
       ·refine G0 lD rfl ?_
        exact Zu (Zd (xH y132.2 _ _ ⟨kJ,hfr,bE,aB,lB,iE,mB,lE,b131,rfl,bD,nB⟩ h))
      ·rintro l8 pK bL ⟨aG,hfr,bG,cC,uC,cG,n8,mE,i6,eG,cF,dF⟩ h
       refine Za (aQ bG (aQ mE (aQ eG (G (Ey (g:=aG) (z0:=(⟨0,0,0⟩:Z3)) underlying84 key_3 zeroValue57 (fun m w=>⟨_,(Gg Zw (Gg Zw Zw)),rfl⟩) rfl i6 rfl fun lJ mJ=>(G (Gd (g:=aG) 3043 (xs:=([((Qo l8 o0).getD (⟨0,0,0⟩:Z3))]:List Z3)) (vs:=[lJ]) underlying38 sizeOf57 zeroValue57 rfl rfl (.cons rfl .nil) (RVs.cons mJ RVs.nil) rfl rfl fun nJ dL eL hs o136 oJ hxt hfl=>?_)))))));have hfr:=hfr.stp hs;have cC:=cC.stp hs;have uC:=uC.stp hs rfl;have n8:=n8.stp hs rfl;have i6:=i6.stp hs rfl;obtain ⟨rE,zH,h⟩:=Z1 h;refine G (Qe (g:=nJ) (i:=1004) underlying38 Lu rfl rfl uC cC rfl oJ zH fun pJ gL gG hs o137 qJ _=>?_);have hfr:=hfr.stp hs;have n8:=n8.stp hs rfl;have i6:=i6.stp hs rfl;refine H gG ?_;exact Zb (Te (Zd (uH (rE,l8) _ _ ⟨pJ,gG,hfr,rfl,qJ,o137,cG,n8,mE,i6,cF,dF⟩ h)))
     ·rintro ⟨yB,zB⟩ qK iL ⟨rJ,iG,hfr,jG,kG,lG,mG,sG,xG,yG,eF,rF⟩ h
      refine Za (aT (I (w64 (o0+(1:Int)))) rF rfl rfl (M (I (w64 (o0+(1:Int)))) ?_));exact O (tH (yB,zB,(w64 (o0+(1:Int)))) _ _ ⟨rJ,iG,hfr,jG,kG,lG,mG,sG,xG,yG,eF,rfl⟩ h)
    ·refine G0 cD rfl (Th (Gr (Gr (G2 ?_))))
     exact Zd (sH t5 _ _ ⟨zE,n9,hfr,bE,aB,lB⟩ h)
   ·rintro nD sK jL ⟨lL,oE,hfr,zG,aH,mK⟩ h
    refine Z (aQ zG (H oE (H (I 0) (O (Gb ?_)))));obtain rfl:=sinj h;exact H9 rfl rfl (rq oE) (rq (I 0)) ⟨_,hfr,_,_,rfl,aH,rfl⟩
theorem v24_0 {iO:Nat} {gI:Gh} {wI:World} {x0:List Z3} {up0:Value} (rp0:RV gI.m wI x0 up0) {r:List Z3} (h:f24 x0=some r):FnG prog 24 #[up0] gI wI (fun g w v=>OM iO g w 57 r v):=by
 unfold f24 at h;refine P7 func24 rfl (Nat.le_of_ble_eq_true rfl) fun g0 hm hfr=>?_;have rp0:=RVc hm rp0;refine Z (H (.slice none 0 0) (O (Zf (Z (M up0 ?_)))));obtain ⟨a,c,hv,hc,hrow⟩:=Qs rp0;refine Y (.bool a.isNone) (O7 underlying38 (show X _ _=_ from hv)) (O ?_)
 cases a with
 | none=>
  have hx:x0=[]:=by
   cases x0 with
   | nil=>rfl
   | cons y ys=>obtain ⟨b,off,hb,_⟩:=hrow (by simp);cases hb
  subst hx
  have hr:r=[]:=by unfold apnd at h;split at h<;>simp at h;exact h
  subst hr;refine Ta rfl (Z (H (.slice none 0 0) (O ?_)));obtain ⟨gh,hxh,homh⟩:=OM.handn (i:=iO) (t:=57) (α:=Z3) hfr;exact Gb (Gj (ac rfl (rq (.slice none 0 0)) ⟨gh,hxh,homh⟩))
 | some a=>
  refine Gv rfl (Zu (Zd (Z (G (Gd (g:=g0) 1 (xs:=([]:List Z3)) (vs:=[]) underlying38 sizeOf57 zeroValue57 rfl rfl .nil RVs.nil rfl rfl fun g1 w1 v1 hs o1 r1 hxt hfl=>?_)))));have hfr:=hfr.stp hs;have rp0:=rp0.stp hs;refine M up0 (G (Qe (g:=g1) (i:=1) underlying38 Lu rfl rfl o1 r1 rfl rp0 h fun g2 w2 v2 hs o2 r2 _=>?_));have hfr:=hfr.stp hs;refine H v2 (O ?_);obtain ⟨gh,hxh,homh⟩:=OM.hand (i:=iO) Cs hfr o2 r2;exact Gb (ac rfl (rq v2) ⟨gh,hxh,homh⟩)
def f60 (x0:Gm):Option Bool:=
 (f61 x0.Chain).bind fun y5=>
 some (y5 != (0:Int))
theorem en60:Enters prog 60:=yC func60
theorem wk60 {x0:Gm} (rp0:RV gI.m wI x0 up0) {r:Bool} (h:f60 x0=some r):Fn prog 60 #[up0] gI wI (fun _ _ v=>v=.bool r):=by
 unfold f60 at h;refine fnE func60 rfl rfl fun g0 hm hfr=>?_;have rp0:=RVc hm rp0;refine Z (G (Tw (g:=g0) rfl rp0 fun g1 w1 p1 hs q1=>?_));have hfr:=hfr.ext hs;refine H (.bool false) (O (Z (Y (S p1 1) (aa Vt (PT.ptr q1)) ?_)));have q2:=Zm Jl.1 q1;refine G (Ga (g:=g1) isAgg116 sizeOf116 rfl q2 fun v3 r3=>?_);obtain ⟨y5,hy5,h⟩:=Z1 h;refine G (aJ (g:=g1) (vs:=[v3]) en61 (wk61 r3 hy5) fun g4 w4_ v4 hs hr=>?_);have hfr:=hfr.ext hs;subst hr;refine aT (.bool (y5 != (0:Int))) rfl rfl rfl (H (.bool (y5 != (0:Int))) (O (Gb ?_)));cases h;exact ac rfl (rq (.bool (y5 != (0:Int)))) ⟨_,hfr,rfl⟩
end Go.Proofs.YtpglkdijpcgcaaaGreatDoor
